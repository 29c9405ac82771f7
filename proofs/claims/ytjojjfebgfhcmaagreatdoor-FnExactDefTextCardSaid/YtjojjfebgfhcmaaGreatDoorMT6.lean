import Derived.Test.YtjojjfebgfhcmaaGreatDoorMT5
import Derived.WalkKit
import Derived.ProofKit
import Derived.OpenShut
import Derived.ShutString
import Derived.ChangeOld
import Derived.SizedLaws
import Derived.Shelf.Strings.IndexAny
import Derived.Laws.RangeAny
import Derived.Laws.Runes
import Derived.Below
import Derived.Shelf.RegionOpenPlain
import Derived.Shelf.Strings.IndexAnyAll
import Derived.Lib.QuoteLoop
import Derived.Lib.RuneCountTail
import Derived.WalkMore
import Derived.Shelf.Small.Utf8
import Derived.Test.YtjojjfebgfhcmaaGreatDoorProg
import Derived.Shelf.Lays
import Derived.Shelf.Unicode.ValidAny
import Derived.Lib.LaidU8T
import Derived.Shelf.Strings.Cut
import Derived.Shelf.Strings.Search3
import Derived.Shelf.Strings.SlTrimAscii
import Derived.Shelf.Strings.OnBuilder
import Derived.Shelf.Small.Strs
/- The input reads as it did. -/
namespace Go.Proofs.QV
open Go
theorem args_stay {H : Type} {enc : TypeId × Value → H} {P : Program} (hl : laidOutB P = true) {W W' : World} (hb : RowKit.Below W.heap.size W W') : ∀ {ts : List TypeId} {vs : List Value} {ds : List (DataW H)} {ps : List MemPlace},
    (ts.all fun t => P.readableRec t && Nat.blt t P.types.size) = true → DataW.TrodAll enc P W 0 (fun _ => true) true ts vs ds ps → DataW.TrodAll enc P W' 0 (fun b => decide (b < W.heap.size)) true ts vs ds ps
  | [], [], [], ps, _, h => h
  | t :: ts, v :: vs, d :: ds, ps, ht, ⟨p, q, h1, h2, h3⟩ => by
    simp only [List.all_cons, Bool.and_eq_true] at ht
    obtain ⟨⟨k1, k2⟩, k3⟩ := ht
    refine ⟨p, q, RowKit.Below.trod hl k1 (by simpa [Nat.blt_eq] using k2) h1 hb ?_, args_stay hl hb k3 h2, h3⟩
    obtain ⟨m, hm⟩ := h1
    exact DataW.trod_lt m _ _ _ hm
  | [], _ :: _, _, _, _, h => h.elim
  | [], [], _ :: _, _, _, h => h.elim
  | _ :: _, [], _, _, _, h => h.elim
  | _ :: _, _ :: _, [], _, _, h => h.elim
theorem wrap64 {n : Int} (h1 : -9223372036854775808 ≤ n) (h2 : n ≤ 9223372036854775807) : IntKind.i64.wrap n = n := by
  rw [IntKind.wrap_i64]
  omega
set_option linter.unusedVariables false
set_option linter.unusedSimpArgs false
def Out.esc (o : Out) : Prop := ∀ K, o.andThen K = o
theorem Out.esc_ret (v : List DC) : (Out.ret v).esc := fun _ => rfl
theorem Out.esc_ex (id : Nat) (v : List DC) : (Out.ex id v).esc := fun _ => rfl
theorem Loop_norm {F : List DC → Out} {v v' : List DC} (h : F v = .norm v') : Loop F v = Loop F v' := by rw [Loop_eq, h]; rfl
theorem Loop_ret {F : List DC → Out} {v r : List DC} (h : F v = .ret r) : Loop F v = .ret r := by rw [Loop_eq, h]; rfl
theorem Loop_ex {F : List DC → Out} {v r : List DC} {id : Nat} (h : F v = .ex id r) : Loop F v = .ex id r := by rw [Loop_eq, h]; rfl
theorem Loop_esc {F : List DC → Out} {v : List DC} {o : Out} (h : F v = o) (he : o.esc) : Loop F v = o := by rw [Loop_eq, h, he]
theorem Loop_upto {F : List DC → Out} {st : Nat → List DC} {o : Out} : ∀ (m i : Nat), (∀ j, i ≤ j → j < i + m → F (st j) = .norm (st (j + 1))) → Loop F (st (i + m)) = o → Loop F (st i) = o
  | 0, i, _, h2 => by simpa using h2
  | m + 1, i, h1, h2 => by
    rw [Loop_norm (h1 i (Nat.le_refl _) (by omega))]
    refine Loop_upto m (i + 1) (fun j hj hj' => h1 j (by omega) (by omega)) ?_
    rw [show i + 1 + m = i + (m + 1) by omega]
    exact h2
def goF {α : Type} (p : α → Bool) (stop : Nat → α → Out) (fin : Out) : Nat → List α → Out
  | _, [] => fin
  | i, x :: xs => if p x = true then stop i x else goF p stop fin (i + 1) xs
theorem Loop_find {α : Type} {l : List α} {st : Nat → List DC} {p : α → Bool} {stop : Nat → α → Out} {fin : Out} {F : List DC → Out}
    (hF : ∀ (i : Nat) (hi : i < l.length), F (st i) = if p l[i] = true then stop i l[i] else .norm (st (i + 1)))
    (hs : ∀ i x, (stop i x).esc) (hend : F (st l.length) = fin) (hfin : fin.esc) : ∀ (m i : Nat), i + m = l.length → Loop F (st i) = goF p stop fin i (l.drop i)
  | 0, i, hi => by
    have : i = l.length := by omega
    subst this
    rw [List.drop_length, goF]
    exact Loop_esc hend hfin
  | m + 1, i, hi => by
    have hlt : i < l.length := by omega
    rw [List.drop_eq_getElem_cons hlt, goF]
    by_cases hp : p l[i] = true
    · rw [if_pos hp]
      exact Loop_esc (by rw [hF i hlt, if_pos hp]) (hs _ _)
    · rw [if_neg hp, Loop_norm (by rw [hF i hlt, if_neg hp])]
      exact Loop_find hF hs hend hfin m (i + 1) (by omega)
theorem Loop_find0 {α : Type} {l : List α} {st : Nat → List DC} {p : α → Bool} {stop : Nat → α → Out} {fin : Out} {F : List DC → Out}
    (hF : ∀ (i : Nat) (hi : i < l.length), F (st i) = if p l[i] = true then stop i l[i] else .norm (st (i + 1)))
    (hs : ∀ i x, (stop i x).esc) (hend : F (st l.length) = fin) (hfin : fin.esc) : Loop F (st 0) = goF p stop fin 0 l := by
  have := Loop_find hF hs hend hfin l.length 0 (by omega)
  rwa [List.drop_zero] at this
theorem goF_idx {α : Type} {p : α → Bool} {stop : Nat → α → Out} {fin : Out} : ∀ (l : List α) (i : Nat), goF p stop fin i l = match l.findIdx? p with | some j => (match l[j]? with | some x => stop (i + j) x | none => .fail) | none => fin
  | [], i => rfl
  | x :: l, i => by
    rw [goF, List.findIdx?_cons]
    by_cases hp : p x = true
    · simp [hp]
    · simp only [hp, Bool.false_eq_true, if_false]
      rw [goF_idx l (i + 1)]
      cases h : l.findIdx? p with
      | none => simp
      | some j => simp [Nat.add_assoc, Nat.add_comm 1 j]
theorem goF_any {α : Type} {p : α → Bool} {a : Out} {fin : Out} : ∀ (l : List α) (i : Nat), goF p (fun _ _ => a) fin i l = if l.any p = true then a else fin
  | [], i => rfl
  | x :: l, i => by
    rw [goF, goF_any l (i + 1), List.any_cons]
    cases p x <;> simp
theorem wrap_succ {i n : Nat} (h : i < n) (hn : n ≤ 9223372036854775807) : IntKind.i64.wrap ((i : Int) + 1) = ((i + 1 : Nat) : Int) := by
  rw [wrap64 (by omega) (by omega)]
  simp
theorem map_getD {α : Type} {f : α → List DC} {l : List α} {i : Nat} (h : i < l.length) : (l.map f).getD i [] = f l[i] := by
  rw [List.getD_eq_getElem?_getD, List.getElem?_map, List.getElem?_eq_getElem h]
  rfl
def szR (left : Int) (w : Nat) : Int := if left < (w : Int) then -1 else left - w
theorem szR_lt {left : Int} {w : Nat} (h : left < (w : Int)) : szR left w = -1 := if_pos h
theorem szR_ge {left : Int} {w : Nat} (h : ¬ left < (w : Int)) : szR left w = left - w := if_neg h
theorem szS_loop {α : Type} {enc : α → List DC} {vs : List α} {F : List DC → Out}
    (hF : ∀ (i : Nat) (hi : i < vs.length) (left : Int), 0 ≤ left → left ≤ 1048576 → F [.sl (vs.map enc), .i left, .i (i : Int)] = if left < (wtL (enc vs[i]) : Int) then .ret [.i (-1)] else .norm [.sl (vs.map enc), .i (left - wtL (enc vs[i])), .i ((i + 1 : Nat) : Int)])
    (hend : ∀ left, F [.sl (vs.map enc), .i left, .i (vs.length : Int)] = .ex 0 [.i left]) :
    ∀ (m i : Nat) (left : Int), i + m = vs.length → 0 ≤ left → left ≤ 1048576 → Loop F [.sl (vs.map enc), .i left, .i (i : Int)] = if left < (wtV ((vs.drop i).map enc) : Int) then .ret [.i (-1)] else .ex 0 [.i (left - wtV ((vs.drop i).map enc))]
  | 0, i, left, hi, h0, h1 => by
    have : i = vs.length := by omega
    subst this
    rw [List.drop_length, Loop_ex (hend left)]
    simp only [List.map_nil, wtV]
    rw [if_neg (by omega)]
    simp
  | m + 1, i, left, hi, h0, h1 => by
    have hlt : i < vs.length := by omega
    have hw : wtV ((vs.drop i).map enc) = wtL (enc vs[i]) + wtV ((vs.drop (i + 1)).map enc) := by
      rw [List.drop_eq_getElem_cons hlt, List.map_cons, wtV]
    by_cases hc : left < (wtL (enc vs[i]) : Int)
    · rw [Loop_ret (by rw [hF i hlt left h0 h1, if_pos hc]), if_pos (by omega)]
    · rw [Loop_norm (by rw [hF i hlt left h0 h1, if_neg hc]), szS_loop hF hend m (i + 1) _ (by omega) (by omega) (by omega), hw]
      by_cases h2 : left - (wtL (enc vs[i]) : Int) < (wtV ((vs.drop (i + 1)).map enc) : Int)
      · rw [if_pos h2, if_pos (by omega)]
      · rw [if_neg h2, if_neg (by omega)]
        congr 3
        omega
theorem szS_all {α : Type} {enc : α → List DC} {vs : List α} {F : List DC → Out} (hl : vs.length ≤ 9223372036854775807)
    (hF : ∀ (i : Nat) (hi : i < vs.length) (left : Int), 0 ≤ left → left ≤ 1048576 → F [.sl (vs.map enc), .i left, .i (i : Int)] = if left < (wtL (enc vs[i]) : Int) then .ret [.i (-1)] else .norm [.sl (vs.map enc), .i (left - wtL (enc vs[i])), .i ((i + 1 : Nat) : Int)])
    (hend : ∀ left, F [.sl (vs.map enc), .i left, .i (vs.length : Int)] = .ex 0 [.i left]) {left : Int} (h0 : 0 ≤ left) (h1 : left ≤ 1048576) :
    (if (decide ((IntKind.i64.wrap (left - (((vs.map enc).length : Nat) : Int))) < (0 : Int))) = true then Out.ret [DC.i (-1 : Int)]
    else Out.andThenB (Loop F [DC.sl (vs.map enc), DC.i (IntKind.i64.wrap (left - (((vs.map enc).length : Nat) : Int))), DC.i (0 : Int)]) 0 fun v4 => .ret [DC.i ((v4.getD 0 d0).ii)]) = .ret [.i (szR left (DC.wt (.sl (vs.map enc))))] := by
  rw [DC.wt, List.length_map, wrap64 (by omega) (by omega)]
  by_cases hc : left - (vs.length : Int) < 0
  · simp only [hc, decide_true, if_true]
    rw [szR_lt (by omega)]
  · simp only [hc, decide_false, Bool.false_eq_true, if_false]
    have := szS_loop hF hend vs.length 0 (left - vs.length) (by omega) (by omega) (by omega)
    rw [List.drop_zero] at this
    rw [show (0 : Int) = ((0 : Nat) : Int) from rfl, this]
    by_cases h2 : left - (vs.length : Int) < (wtV (vs.map enc) : Int)
    · rw [if_pos h2, szR_lt (by omega)]
      rfl
    · rw [if_neg h2, szR_ge (by omega)]
      simp only [Out.andThenB_ex, if_true, List.getD_cons_zero, DC.ii_i]
      congr 3
      omega
theorem toS_loop {α : Type} {enc : α → List DC} {vs : List α} {z : List DC} {F : List DC → Out} (hl : vs.length ≤ 1048576)
    (hF : ∀ (i : Nat) (hi : i < vs.length) (cur : List (List DC)), cur.length = vs.length → cur.getD i [] = z → F [.sl (vs.map enc), .sl cur, .i (i : Int)] = .norm [.sl (vs.map enc), .sl (cur.set i (enc vs[i])), .i ((i + 1 : Nat) : Int)])
    (hend : ∀ cur, F [.sl (vs.map enc), .sl cur, .i (vs.length : Int)] = .ex 0 [.sl cur]) :
    Loop F [.sl (vs.map enc), .sl (List.replicate vs.length z), .i ((0 : Nat) : Int)] = .ex 0 [.sl (vs.map enc)] := by
  have hloop : Loop F [.sl (vs.map enc), .sl (List.replicate vs.length z), .i ((0 : Nat) : Int)] = .ex 0 [.sl (vs.map enc)] := by
    have h := Loop_upto (F := F) (st := fun i => [.sl (vs.map enc), .sl ((vs.map enc).take i ++ List.replicate (vs.length - i) z), .i (i : Int)]) (o := .ex 0 [.sl (vs.map enc)]) vs.length 0 (fun i _ hi => by
      have hlt : i < vs.length := by omega
      have hlen : ((vs.map enc).take i ++ List.replicate (vs.length - i) z).length = vs.length := by simp; omega
      have hgz : ((vs.map enc).take i ++ List.replicate (vs.length - i) z).getD i [] = z := by
        rw [List.getD_eq_getElem?_getD, List.getElem?_append_right (by simp; omega), List.getElem?_replicate, if_pos (by simp; omega)]
        rfl
      have := hF i hlt _ hlen hgz
      have hset : ((vs.map enc).take i ++ List.replicate (vs.length - i) z).set i (enc vs[i]) = (vs.map enc).take (i + 1) ++ List.replicate (vs.length - (i + 1)) z := by
        have ht : (vs.map enc).take (i + 1) = (vs.map enc).take i ++ [enc vs[i]] := by rw [List.take_add_one, List.getElem?_map, List.getElem?_eq_getElem hlt]; rfl
        rw [List.set_append_right _ _ (by simp; omega), ht]
        obtain ⟨m, hm⟩ : ∃ m, vs.length - i = m + 1 := ⟨vs.length - i - 1, by omega⟩
        have hm2 : vs.length - (i + 1) = m := by omega
        have hm3 : i - ((vs.map enc).take i).length = 0 := by simp; omega
        rw [hm, hm2, hm3, List.replicate_succ]
        simp only [List.set_cons_zero, List.append_assoc, List.singleton_append]
      rw [hset] at this
      exact this) (by
        have := hend (vs.map enc)
        refine Loop_ex ?_
        have ht : (vs.map enc).take (0 + vs.length) = vs.map enc := List.take_of_length_le (by simp)
        rw [ht]
        simpa using this)
    simpa using h
  exact hloop
theorem lim_of {n : Nat} (h : n ≤ 1048576) : (n : Int) < (LIM : Int) := by simp only [LIM]; omega
theorem eqS_all {l : List (List DC)} {F : List DC → Out} (hF : ∀ (i : Nat), i < l.length → F [.sl l, .sl l, .i (i : Int)] = .norm [.sl l, .sl l, .i ((i + 1 : Nat) : Int)]) (hend : F [.sl l, .sl l, .i (l.length : Int)] = .ex 0 []) :
    (if ((l.length : Int) != (l.length : Int)) = true then Out.ret [DC.b false]
    else Out.andThenB (Loop F [DC.sl l, DC.sl l, DC.i (0 : Int)]) 0 fun v4 => .ret [DC.b true]) = .ret [.b true] := by
  have hloop : Loop F [.sl l, .sl l, .i ((0 : Nat) : Int)] = .ex 0 [] :=
    Loop_upto (st := fun i => [.sl l, .sl l, .i (i : Int)]) l.length 0 (fun j _ hj => hF j (by omega)) (by rw [Nat.zero_add]; exact Loop_ex hend)
  rw [show (0 : Int) = ((0 : Nat) : Int) from rfl, hloop]
  simp
def gi (v : List DC) (n : Nat) : Int := (v.getD n d0).ii
def gl (v : List DC) (n : Nat) : List (List DC) := (v.getD n d0).ll
def gs (v : List DC) (n : Nat) : List UInt8 := (v.getD n d0).ss
def gb (v : List DC) (n : Nat) : Bool := (v.getD n d0).bb
theorem zz0 : (∀ {α : Type} {x : α} {l : List α} {d : α}, (x :: l).getD 0 d = x) ∧ (∀ x l, gi (x :: l) 0 = x.ii) ∧ (∀ x l, gl (x :: l) 0 = x.ll) ∧ (∀ x l, gs (x :: l) 0 = x.ss) ∧ (∀ x l, gb (x :: l) 0 = x.bb) :=
  ⟨List.getD_cons_zero, fun _ _ => rfl, fun _ _ => rfl, fun _ _ => rfl, fun _ _ => rfl⟩
theorem zz1 : (∀ {α : Type} {x : α} {l : List α} {i : Nat} {d : α}, (x :: l).getD (i + 1) d = l.getD i d) ∧ (∀ x l n, gi (x :: l) (n + 1) = gi l n) ∧ (∀ x l n, gl (x :: l) (n + 1) = gl l n) ∧ (∀ x l n, gs (x :: l) (n + 1) = gs l n) ∧ (∀ x l n, gb (x :: l) (n + 1) = gb l n) :=
  ⟨List.getD_cons_succ, fun _ _ _ => rfl, fun _ _ _ => rfl, fun _ _ _ => rfl, fun _ _ _ => rfl⟩
@[simp] theorem gi0 (x : DC) (l : List DC) : gi (x :: l) 0 = x.ii := rfl
@[simp] theorem gl0 (x : DC) (l : List DC) : gl (x :: l) 0 = x.ll := rfl
@[simp] theorem gs0 (x : DC) (l : List DC) : gs (x :: l) 0 = x.ss := rfl
@[simp] theorem gb0 (x : DC) (l : List DC) : gb (x :: l) 0 = x.bb := rfl
@[simp] theorem gi1 (x : DC) (l : List DC) (n : Nat) : gi (x :: l) (n + 1) = gi l n := rfl
@[simp] theorem gl1 (x : DC) (l : List DC) (n : Nat) : gl (x :: l) (n + 1) = gl l n := rfl
@[simp] theorem gs1 (x : DC) (l : List DC) (n : Nat) : gs (x :: l) (n + 1) = gs l n := rfl
@[simp] theorem gb1 (x : DC) (l : List DC) (n : Nat) : gb (x :: l) (n + 1) = gb l n := rfl
theorem zr (v : List DC) (K : List DC → Out) : (Out.ret v).bindR K = K v := rfl
@[simp] theorem zb (x : Bool) : (DC.b x).bb = x := rfl
@[simp] theorem zi (x : Int) : (DC.i x).ii = x := rfl
@[simp] theorem zs (x : List UInt8) : (DC.s x).ss = x := rfl
@[simp] theorem zl (x : List (List DC)) : (DC.sl x).ll = x := rfl
theorem zt (b : Bool) : b = true ∨ b = false := Bool.eq_false_or_eq_true b
theorem zm {α β : Type} (f : α → β) {l : List α} : (l.map f).length = l.length := List.length_map f
theorem zf : (false = true) = False := Bool.false_eq_true
def k1Is : CT → KC → Bool
  | .b, .one .b => true
  | .i k, .one (.i k') => decide (k = k')
  | .s, .one .s => true
  | _, _ => false
def tmIs : List CT → List KC → Bool
  | [], [] => true
  | c :: cs, k :: ks => k1Is c k && tmIs cs ks
  | _, _ => false
def hintLit (cts : List CT) (h : Hint) : Bool := tmIs cts h.tm && (match h.ob with | [] => true | _ => false)
theorem tmIs_eq : ∀ {cts : List CT} {ks : List KC}, tmIs cts ks = true → ks = cts.map fun c => .one c.k1
  | [], [], _ => rfl
  | c :: cs, k :: ks, h => by
    simp only [tmIs, Bool.and_eq_true] at h
    rw [List.map_cons, ← tmIs_eq h.2]
    congr 1
    have h1 := h.1
    unfold k1Is at h1
    split at h1
    · rfl
    · simp only [decide_eq_true_eq] at h1; rw [h1]; rfl
    · rfl
    · simp at h1
  | [], _ :: _, h => by simp [tmIs] at h
  | _ :: _, [], h => by simp [tmIs] at h
theorem tmIs_flat : ∀ {cts : List CT} {ks : List KC}, tmIs cts ks = true → cts.all CT.flat = true
  | [], _, _ => rfl
  | c :: cs, k :: ks, h => by
    simp only [tmIs, Bool.and_eq_true] at h
    rw [List.all_cons, tmIs_flat h.2, Bool.and_true]
    have h1 := h.1
    cases c <;> simp_all [k1Is, CT.flat]
  | _ :: _, [], h => by simp [tmIs] at h
def litC : CT → DC → Value
  | .b, d => .bool d.bb
  | .i k, d => .int k d.ii
  | .s, d => .string ⟨d.ss.toArray⟩
  | .sl _, _ => undef
def lits : List CT → List DC → Nat → List Value
  | [], _, _ => []
  | c :: cs, v, n => litC c (v.getD n d0) :: lits cs v (n + 1)
theorem lits_len : ∀ (cts : List CT) (v : List DC) (n : Nat), (lits cts v n).length = cts.length
  | [], _, _ => rfl
  | c :: cs, v, n => by rw [lits, List.length_cons, lits_len cs v (n + 1), List.length_cons]
theorem mkT_lit (v : List DC) : ∀ (cts : List CT) (n i : Nat) (c : CT), cts.all CT.flat = true → cts[i]? = some c → (mkT v n (cts.map fun c => KC.one c.k1))[i]? = some (.one (c.k1.mk v (n + i)))
  | [], n, i, c, _, h => by simp at h
  | a :: cts, n, 0, c, hf, h => by
    simp only [List.getElem?_cons_zero, Option.some.injEq] at h
    subst h
    rfl
  | a :: cts, n, i + 1, c, hf, h => by
    simp only [List.all_cons, Bool.and_eq_true] at hf
    simp only [List.getElem?_cons_succ] at h
    have hc : a.k1.cnt = 1 := by cases a <;> rfl
    rw [List.map_cons, mkT, List.getElem?_cons_succ, hc, mkT_lit v cts (n + 1) i c hf.2 h]
    congr 3
    omega
theorem mkT_len (v : List DC) : ∀ (ks : List KC) (n : Nat), (mkT v n ks).length = ks.length
  | [], _ => rfl
  | .one k :: ks, n => by rw [mkT, List.length_cons, mkT_len v ks, List.length_cons]
  | .agg l :: ks, n => by rw [mkT, List.length_cons, mkT_len v ks, List.length_cons]
theorem lits_get (v : List DC) : ∀ (cts : List CT) (n i : Nat) (c : CT), cts[i]? = some c → (lits cts v n)[i]? = some (litC c (v.getD (n + i) d0))
  | [], n, i, c, h => by simp at h
  | a :: cts, n, 0, c, h => by
    simp only [List.getElem?_cons_zero, Option.some.injEq] at h
    subst h
    rfl
  | a :: cts, n, i + 1, c, h => by
    simp only [List.getElem?_cons_succ] at h
    rw [lits, List.getElem?_cons_succ, lits_get v cts (n + 1) i c h]
    congr 3
    omega
section
variable {P : Program} {ty : Nat → Option TI}
theorem lit_args {A : An} {g : Gh} {fi : FI} {cts : List CT} {v : List DC} {vals : Array Value} {w : World} (hf : cts.all CT.flat = true)
    (hr : Rel ty A g (startSt fi ⟨cts.map fun c => .one c.k1, []⟩ v) { tmps := vals ++ Array.replicate (fi.ntmps - vals.size) undef, defers := [] } w) (hs : vals.size = cts.length) : vals = (lits cts v 0).toArray := by
  apply Array.toList_inj.1
  apply List.ext_getElem?
  intro i
  by_cases hi : i < cts.length
  · have hc : cts[i]? = some cts[i] := List.getElem?_eq_getElem hi
    have h1 := mkT_lit v cts 0 i _ hf hc
    have h2 : (startSt fi ⟨cts.map fun c => .one c.k1, []⟩ v).tm[i]? = some (.one (cts[i].k1.mk v (0 + i))) := by
      unfold startSt mkSt
      dsimp only
      rw [List.getElem?_append_left (by rw [mkT_len]; simpa using hi)]
      exact h1
    have hv : vals.toList[i]? = some (vals[i]'(by omega)) := by
      rw [Array.getElem?_toList, Array.getElem?_eq_getElem (by omega)]
    have h3 := hr.tm i _ (vals[i]'(by omega)) h2 (by
      dsimp only
      rw [Array.getElem?_append_left (by omega), Array.getElem?_eq_getElem (by omega)])
    have hfl : CT.flat cts[i] = true := List.all_eq_true.1 hf _ (List.getElem_mem hi)
    have hl := lits_get v cts 0 i _ hc
    simp only [List.toList_toArray] at hl ⊢
    rw [hv, hl]
    congr 1
    generalize cts[i] = c at h3 hfl ⊢
    cases c with
    | sl e => simp [CT.flat] at hfl
    | b => exact h3
    | i k => exact h3
    | s => exact h3
  · rw [List.getElem?_eq_none (by simp; omega), List.getElem?_eq_none (by simp [lits_len]; omega)]
theorem rkAll_ct (rcts : List CT) (i : Nat) : rkAll i (rcts.map fun c => (false, [RK.ct c])) = rcts.map CT.k1 := by
  unfold rkAll
  induction rcts with
  | nil => rfl
  | cons c cs ih =>
    rw [List.map_cons, List.flatMap_cons, List.map_cons]
    show rkK i (RK.ct c :: (cs.map fun c => (false, [RK.ct c])).flatMap Prod.snd) = _
    rw [rkK]
    show c.k1 :: rkK i _ = _
    rw [ih]
def okD : CT → DC → Bool
  | .b, .b _ => true
  | .i _, .i _ => true
  | .s, .s _ => true
  | _, _ => false
def okDs : List CT → List DC → Nat → Bool
  | [], _, _ => true
  | c :: cs, r, n => okD c (r.getD n d0) && okDs cs r (n + 1)
theorem lit_res {A : An} {rcts : List CT} {r : List DC} {w' : World} (hf : okDs rcts r 0 = true) (hA : A.m = 0) (hk : Keep A w') : Res ty A [] (rcts.map fun c => (false, [RK.ct c])) r (lits rcts r 0) w' := by
  refine ⟨⟨⟨fun _ => False, fun _ => 0, fun _ => undef⟩, [], [], lits rcts r 0, [], ?_, rfl, ?_, ?_, fun b h => h.elim, fun j hj => by omega, fun j hj => by omega⟩, hk⟩
  · have : ∀ (cs : List CT) (n : Nat), RVs (cs.map fun c => (false, [RK.ct c])) (lits cs r n) (lits cs r n) := by
      intro cs
      induction cs with
      | nil => intro n; rfl
      | cons c cs ih => intro n; exact ⟨[litC c (r.getD n d0)], lits cs r (n + 1), rfl, rfl, fun h => absurd h (by simp), fun _ => rfl, ih (n + 1)⟩
    exact this rcts 0
  · rw [rkAll_ct, List.flatMap_nil, List.append_nil, List.append_nil]
    have : ∀ (cs : List CT) (n : Nat), okDs cs r n = true → FL ty A ⟨fun _ => False, fun _ => 0, fun _ => undef⟩ [] [] w' r n (cs.map CT.k1) (lits cs r n) := by
      intro cs
      induction cs with
      | nil => intro n _; trivial
      | cons c cs ih =>
        intro n hc
        simp only [okDs, Bool.and_eq_true] at hc
        have hcnt : c.k1.cnt = 1 := by cases c <;> rfl
        rw [List.map_cons, lits]
        refine ⟨⟨[r.getD n d0], by rw [hcnt]; rfl, fun i hi => ?_, ?_⟩, ?_⟩
        · rw [hcnt] at hi
          have : i = 0 := by omega
          subst this
          rfl
        · have h1 := hc.1
          cases c with
          | b => cases hd : r.getD n d0 <;> rw [hd] at h1 <;> simp [okD] at h1; exact ⟨_, rfl, rfl⟩
          | i k => cases hd : r.getD n d0 <;> rw [hd] at h1 <;> simp [okD] at h1; exact ⟨_, rfl, rfl⟩
          | s => cases hd : r.getD n d0 <;> rw [hd] at h1 <;> simp [okD] at h1; exact ⟨_, rfl, rfl⟩
          | sl e => simp [okD] at h1
        · rw [hcnt]
          exact ih (n + 1) hc.2
    exact this rcts 0 hf
  · rw [rkAll_ct, List.flatMap_nil, List.append_nil, List.append_nil]
    have : ∀ (cs : List CT) (us : List Value), Apart (cs.map CT.k1) us := by
      intro cs
      induction cs with
      | nil => intro us; cases us <;> trivial
      | cons c cs ih =>
        intro us
        cases us with
        | nil => cases c <;> trivial
        | cons u us => cases c <;> exact ih us
    exact this rcts _
def primH (cts rcts : List CT) (q : List DC → Option (List DC)) : Hint → List DC → Option (List DC) := fun h v => if hintLit cts h = true then (match q v with | some r => if okDs rcts r 0 = true then some r else none | none => none) else none
theorem prim_lit {G : Glob} {f : Nat} {fi : FI} {fd : Func} {cts rcts : List CT} {q : List DC → Option (List DC)} (h1 : P.funcs[f]? = some fd) (h2 : (fd.name == "runtime.NumGoroutine") = false) (h3 : fd.body.isNone = false)
    (hrk : fi.rk = rcts.map fun c => (false, [RK.ct c])) (hp : fi.prim = some fun h v => if hintLit cts h = true then (match q v with | some r => if okDs rcts r 0 = true then some r else none | none => none) else none)
    (hq : ∀ v r w, q v = some r → G.ok w → Calls P f (lits cts v 0).toArray w fun e w' => e = .returned (resVal (lits rcts r 0)) ∧ RowKit.Below w.heap.size w w') : FnOk P G ty f fi := by
  refine ⟨⟨fd, h1, h2, h3, fun h => by rw [hp] at h; simp at h⟩, fun p hpp h v r e => ?_⟩
  rw [hp] at hpp
  simp only [Option.some.injEq] at hpp
  subst hpp
  dsimp only at e
  split at e
  · rename_i hh
    cases hqv : q v with
    | none => rw [hqv] at e; simp at e
    | some r' =>
      rw [hqv] at e
      dsimp only at e
      split at e
      · rename_i hok
        simp only [Option.some.injEq] at e
        subst e
        unfold hintLit at hh
        rw [Bool.and_eq_true] at hh
        obtain ⟨k1, k2⟩ := hh
        have hob : h.ob = [] := by
          cases ho : h.ob with
          | nil => rfl
          | cons a l => rw [ho] at k2; simp at k2
        have htm := tmIs_eq k1
        have hflat := tmIs_flat k1
        obtain ⟨tm, ob⟩ := h
        dsimp only at hob htm k1
        subst hob htm
        intro A g vals w hA hr hs hw hm
        have hvals := lit_args hflat hr (by simpa using hs)
        subst hw
        have hc := hq v r' A.w0 hqv hA.1
        rw [← hvals] at hc
        refine Calls.mono hc fun en w' hen => ?_
        obtain ⟨rfl, bel⟩ := hen
        refine ⟨_, rfl, ?_⟩
        rw [hrk]
        refine lit_res hok (by rw [hm]; rfl) ⟨bel.os, bel.tape, bel.output, bel.size, fun b hb _ _ => bel.block b hb⟩
      · simp at e
  · simp at e
end
end Go.Proofs.QV

namespace Go.Proofs
open Go.Shelf Go.RowKit Go.Lib
variable {P : Program} {ρ : Ren}
def eE : ByteArray := ⟨#[101, 69]⟩
theorem below_iter (w : World) (s : ByteArray) (p : Nat) : Below w.heap.size w (w.iter s p) := by
  have hs : (w.iter s p).heap = w.heap.push (.stringIter s p) := rfl
  exact ⟨rfl, rfl, rfl, by rw [hs]; simp, fun b hb => by rw [hs, Array.getElem?_push, if_neg (by omega)]⟩
set_option maxHeartbeats 2000000 in
set_option maxRecDepth 1000000 in
theorem IndexRune_ee_err (L : Lays.n152 P ρ) (w : World) :
    Calls P (ρ.f 152) #[.string eE, .int .i32 65533] w fun e w' => e = .returned (.int .i64 (-1)) ∧ Below w.heap.size w w' := by
  have t3 := L.t3; have a3 := L.a3; have z3 := L.z3; have v3 := L.v3
  have t4 := L.t4; have a4 := L.a4; have z4 := L.z4; have v4 := L.v4
  have t5 := L.t5; have a5 := L.a5; have z5 := L.z5; have v5 := L.v5
  have t9 := L.t9; have a9 := L.a9; have z9 := L.z9; have v9 := L.v9
  have t21 := L.t21; have a21 := L.a21; have z21 := L.z21; have v21 := L.v21
  have n0 := fun ty => run_next_ascii (P := P) w eE 0 ty (by decide) (by decide)
  have n1 := fun ty => run_next_ascii (P := P) w eE 1 ty (by decide) (by decide)
  have n2 := fun ty => run_next_end (P := P) w eE 2 ty (by decide)
  go_enter L.f152, Body.n152_ntmps ρ
  go_wp2
  go_loopg [5, 6] 2 (fun g _ _ wx => ∃ i : Nat, i + g = 2 ∧ wx = w.iter eE i)
  case atStart => exact ⟨0, rfl, rfl⟩
  case round =>
    obtain ⟨i, hig, rfl⟩ := hrel
    cases gk with
    | zero =>
      obtain rfl : i = 2 := by omega
      go_wp2
      go_ret
      exact ⟨rfl, below_iter _ _ _⟩
    | succ g =>
      rcases Nat.lt_or_ge 0 i with h | h
      · obtain rfl : i = 1 := by omega
        have e1 : ((eE[1]'(by decide)).toNat : Int) = 69 := by decide
        simp only [e1] at n1
        go_wp2
        go_roundg g
        case measure => omega
        case rel => exact ⟨2, by omega, rfl⟩
      · obtain rfl : i = 0 := by omega
        have e0 : ((eE[0]'(by decide)).toNat : Int) = 101 := by decide
        simp only [e0] at n0
        go_wp2
        go_roundg g
        case measure => omega
        case rel => exact ⟨1, by omega, rfl⟩
set_option maxHeartbeats 2000000 in
set_option maxRecDepth 1000000 in
theorem IndexRune_ee_big (L : Lays.n152 P ρ) (r : Int) (w : World) (h0 : 128 ≤ r) (h1 : ¬ r = 65533) (h2 : Lib.validRune r = true) (h3 : 3 ≤ (Utf8.encode r).size) (h4 : (Utf8.encode r).size ≤ 4) :
    Calls P (ρ.f 152) #[.string eE, .int .i32 r] w fun e w' => e = .returned (.int .i64 (-1)) ∧ Below w.heap.size w w' := by
  have t3 := L.t3; have a3 := L.a3; have z3 := L.z3; have v3 := L.v3
  have t4 := L.t4; have a4 := L.a4; have z4 := L.z4; have v4 := L.v4
  have t5 := L.t5; have a5 := L.a5; have z5 := L.z5; have v5 := L.v5
  have t9 := L.t9; have a9 := L.a9; have z9 := L.z9; have v9 := L.v9
  have t21 := L.t21; have a21 := L.a21; have z21 := L.z21; have v21 := L.v21
  have hlt : decide (r < 128) = false := decide_eq_false (by omega)
  have hge : decide (0 ≤ r) = true := decide_eq_true (by omega)
  have hne : (r == 65533) = false := beq_eq_false_iff_ne.2 h1
  have e119 : ∀ args w, (callFunc (ρ.f 119) args).run P w = .ok (.enter (ρ.f 119) args) w := enters_of L.f119 (by kernel_rfl) rfl
  have e137 : ∀ args w, (callFunc (ρ.f 137) args).run P w = .ok (.enter (ρ.f 137) args) w := enters_of L.f137 (by kernel_rfl) rfl
  go_enter L.f152, Body.n152_ntmps ρ
  go_wp2_with (go_at_fn (ρ.f 119); refine (Any.utf8_ValidRune { L with } _ _).mono ?_; rintro e w' ⟨rfl, hw⟩; rw [hw, h2])
  have u21s : (P.underlying (ρ.t 21)).isSome = true := by rw [t21]; rfl
  have hw3 : (Utf8.encode r).size = 3 ∨ (Utf8.encode r).size = 4 := by omega
  go_step3
  go_wp2
  have hc : decide (((Utf8.encode r).size : Int) - 1 < (eE.size : Int)) = false := decide_eq_false (by have : (eE.size : Int) = 2 := rfl; omega)
  go_loopg [9] 1 (fun g x wx => g = 1 ∧ x = Value.int .i64 (((Utf8.encode r).size : Int) - 1) ∧ wx = w)
  case atStart => exact ⟨rfl, rfl, rfl⟩
  case round =>
    obtain ⟨_, rfl, rfl⟩ := hrel
    go_wp2
    rw [Exit.noGoto_ret]
    go_ret
    exact ⟨rfl, Below.refl _ _⟩
set_option maxHeartbeats 2000000 in
set_option maxRecDepth 1000000 in
theorem IndexRune_ee_two (L : Lays.n152 P ρ) (r : Int) (w : World) (h0 : 128 ≤ r) (h1 : ¬ r = 65533) (h2 : Lib.validRune r = true) (h3 : (Utf8.encode r).size = 2) :
    Calls P (ρ.f 152) #[.string eE, .int .i32 r] w fun e w' => e = .returned (.int .i64 (-1)) ∧ Below w.heap.size w w' := by
  have mixed := L.mixed
  have t3 := L.t3; have a3 := L.a3; have z3 := L.z3; have v3 := L.v3
  have t4 := L.t4; have a4 := L.a4; have z4 := L.z4; have v4 := L.v4
  have t5 := L.t5; have a5 := L.a5; have z5 := L.z5; have v5 := L.v5
  have t9 := L.t9; have a9 := L.a9; have z9 := L.z9; have v9 := L.v9
  have t21 := L.t21; have a21 := L.a21; have z21 := L.z21; have v21 := L.v21
  have h2' := h2
  have hlt : decide (r < 128) = false := decide_eq_false (by omega)
  have hge : decide (0 ≤ r) = true := decide_eq_true (by omega)
  have hne : (r == 65533) = false := beq_eq_false_iff_ne.2 h1
  have e119 : ∀ args w, (callFunc (ρ.f 119) args).run P w = .ok (.enter (ρ.f 119) args) w := enters_of L.f119 (by kernel_rfl) rfl
  have e137 : ∀ args w, (callFunc (ρ.f 137) args).run P w = .ok (.enter (ρ.f 137) args) w := enters_of L.f137 (by kernel_rfl) rfl
  go_enter L.f152, Body.n152_ntmps ρ
  go_wp2_with (go_at_fn (ρ.f 119); refine (Any.utf8_ValidRune { L with } _ _).mono ?_; rintro e w' ⟨rfl, hw⟩; rw [hw, h2])
  have u21s : (P.underlying (ρ.t 21)).isSome = true := by rw [t21]; rfl
  go_step3
  go_wp2
  have iE : ∀ w : World, (Instr.index (ρ.t 9) (.string eE) (.int .i64 1)).run P w = .ok (.int .u8 69) w := fun w => by
    rw [run_index_string w (ρ.t 9) eE .i64 1 t9, dif_pos (by decide)]; rfl
  obtain ⟨B, hB, iR⟩ : ∃ B : UInt8, 128 ≤ B.toNat ∧ ∀ w : World, (Instr.index (ρ.t 9) (.string (Utf8.encode r)) (.int .i64 1)).run P w = .ok (.int .u8 (B.toNat : Int)) w := by
    have hf := (encode_facts r (by rw [validRune_eq]; exact h2') h0).2.2 (by omega)
    refine ⟨(Utf8.encode r)[1]'(by omega), ?_, fun w => ?_⟩
    · have e : (Utf8.encode r)[(Utf8.encode r).size - 1]'(by omega) = (Utf8.encode r)[1]'(by omega) := by congr 1; omega
      rw [← e]; exact hf
    · rw [run_index_string w (ρ.t 9) _ .i64 1 t9, dif_pos (by omega)]; rfl
  have hne1 : ((69 : Int) == (B.toNat : Int)) = false := beq_eq_false_iff_ne.2 (by omega)
  have hback : ((B.toNat : Int)).toNat.toUInt8 = B := by simp
  have hib : Lib.indexByte (eE.extract 2 eE.size).data.toList B = -1 := by
    have : (eE.extract 2 eE.size).data.toList = [] := by decide
    rw [this]; rfl
  have hc : decide ((1 : Int) < (eE.size : Int)) = true := by decide
  have hw2 : IntKind.i64.wrap 2 = 2 := by decide
  have hle2 : (0 : Int) ≤ 2 ∧ (2 : Int) ≤ (eE.size : Int) := by decide
  go_loopg [9] 1 (fun g x wx => g = 1 ∧ x = Value.int .i64 1 ∧ wx = w)
  case atStart => exact ⟨rfl, rfl, rfl⟩
  case round =>
    obtain ⟨_, rfl, rfl⟩ := hrel
    go_wp2
    go_step3
    go_wp2
    go_region_o
    go_wp2
    go_region_with_o (go_at_fn (ρ.f 137); refine (Any.strings_IndexByte { L with } _ _ _).mono ?_; rintro e w' ⟨rfl, hw⟩; rw [hw, hback])
    go_wp2
    rw [Exit.noGoto_ret]
    go_wp2
    rw [Exit.noGoto_ret]
    go_ret
    exact ⟨rfl, ((Below.refl _ _).drew).drew⟩
def irE (r : Int) : Int := if r < 128 then Lib.indexByte eE.data.toList r.toNat.toUInt8 else -1
theorem IndexRune_ee (L : Lays.n152 P ρ) (r : Int) (w : World) (h0 : 0 ≤ r) (h2 : Lib.validRune r = true) :
    Calls P (ρ.f 152) #[.string eE, .int .i32 r] w fun e w' => e = .returned (.int .i64 (irE r)) ∧ Below w.heap.size w w' := by
  by_cases h : r < 128
  · refine (Any.strings_IndexRune_ascii L eE r w h0 h).mono ?_
    rintro e w' ⟨rfl, hw⟩
    rw [hw]
    exact ⟨by rw [irE, if_pos h], Below.refl _ _⟩
  · have e : irE r = -1 := by rw [irE, if_neg h]
    rw [e]
    by_cases h1 : r = 65533
    · subst h1; exact IndexRune_ee_err L w
    · have hf := encode_facts r (by rw [validRune_eq]; exact h2) (by omega)
      by_cases h3 : (Utf8.encode r).size = 2
      · exact IndexRune_ee_two L r w (by omega) h1 h2 h3
      · exact IndexRune_ee_big L r w (by omega) h1 h2 (by omega) (by omega)
theorem run_next_gen (w : World) (b : Nat) (s : ByteArray) (pos : Nat) (ty : TypeId) (hb : w.heap[b]? = some (.stringIter s pos)) (h : pos < s.size) :
    (Instr.next (.pointer (some ⟨b, 0, none⟩)) true ty).run P w =
      .ok (.tuple #[.bool true, .int .i64 pos, .int .i32 (Utf8.decode s pos).1]) { w with heap := w.heap.setIfInBounds b (.stringIter s (pos + (Utf8.decode s pos).2)) } := by
  simp only [Instr.next, getObj, setObj, Sem.run_bind, Sem.run, hb, Result.andThen, h, if_true]
  simp [goInt]
theorem run_next_gend (w : World) (b : Nat) (s : ByteArray) (pos : Nat) (ty : TypeId) (hb : w.heap[b]? = some (.stringIter s pos)) (h : ¬ pos < s.size) :
    (Instr.next (.pointer (some ⟨b, 0, none⟩)) true ty).run P w = .ok (.tuple #[.bool false]) w := by
  simp [Instr.next, getObj, Sem.run, hb, h]
theorem decodeN_wide (n b0 b1 b2 b3 : Nat) (hn : 0 < n) : 1 ≤ (Lib.decodeN n b0 b1 b2 b3).2 ∧ (Lib.decodeN n b0 b1 b2 b3).2 ≤ n ∧ (Lib.decodeN n b0 b1 b2 b3).2 ≤ 4 ∧ (1 < (Lib.decodeN n b0 b1 b2 b3).2 → 128 ≤ b1) ∧ (2 < (Lib.decodeN n b0 b1 b2 b3).2 → 128 ≤ b2) ∧ (3 < (Lib.decodeN n b0 b1 b2 b3).2 → 128 ≤ b3) ∧ (b0 < 128 → (Lib.decodeN n b0 b1 b2 b3).1 = b0) ∧ (128 ≤ b0 → 128 ≤ (Lib.decodeN n b0 b1 b2 b3).1) := by
  unfold Lib.decodeN
  repeat' split
  all_goals (refine ⟨?_, ?_, ?_, ?_, ?_, ?_, ?_, ?_⟩ <;> intros <;> (first | rfl | (simp only at *; omega)))
theorem get!_at (s : ByteArray) (i : Nat) (h : i < s.size) : s.data.toList[i]? = some (s.get! i) := by
  rw [Lib.data_getElem? s i h]
  congr 1
  exact (get_at s i h).symm.trans (by rw [Nat.add_zero])
theorem eE_contains (x : UInt8) (h : 128 ≤ x.toNat) : eE.data.toList.contains x = false := by
  have e : eE.data.toList = [101, 69] := rfl
  rw [e]
  have h1 : (x == 101) = false := beq_eq_false_iff_ne.2 (by rintro rfl; exact absurd h (by decide))
  have h2 : (x == 69) = false := beq_eq_false_iff_ne.2 (by rintro rfl; exact absurd h (by decide))
  simp only [List.contains, List.elem, h1, h2]
theorem noAny_skip {s : ByteArray} {i : Nat} (hno : Lib.NoAny s.data.toList eE.data.toList i) (hi : i < s.size) (h0 : eE.data.toList.contains (s.get! i) = false) :
    Lib.NoAny s.data.toList eE.data.toList (i + (Utf8.decode s i).2) := by
  have hw := decodeN_wide (s.size - i) (s.get! i).toNat (s.get! (i + 1)).toNat (s.get! (i + 2)).toNat (s.get! (i + 3)).toNat (by omega)
  rw [← Lib.decode_at] at hw
  intro j b hj hb
  by_cases h : j < i
  · exact hno j b h hb
  · have hjs : j < s.size := by omega
    rw [get!_at s j hjs] at hb
    injection hb with hb
    subst hb
    obtain ⟨k, rfl⟩ : ∃ k, j = i + k := ⟨j - i, by omega⟩
    rcases k with _ | _ | _ | _ | k
    · exact h0
    · exact eE_contains _ (hw.2.2.2.1 (by omega))
    · exact eE_contains _ (hw.2.2.2.2.1 (by omega))
    · exact eE_contains _ (hw.2.2.2.2.2.1 (by omega))
    · omega
theorem below_setIter {w wx : World} {b : Nat} {o : Obj} (hw : Below b w wx) : Below b w { wx with heap := wx.heap.setIfInBounds b o } := by
  refine ⟨hw.os, hw.tape, hw.output, ?_, fun k hk => ?_⟩
  · show w.heap.size ≤ (wx.heap.setIfInBounds b o).size
    rw [Array.size_setIfInBounds]; exact hw.size
  · show (wx.heap.setIfInBounds b o)[k]? = _
    rw [Array.getElem?_setIfInBounds, if_neg (by omega)]
    exact hw.block k hk
theorem irE_hit (s : ByteArray) (i : Nat) (hi : i < s.size) (h : eE.data.toList.contains (s.get! i) = true) : (0 : Int) ≤ irE (Utf8.decode s i).1 := by
  have hw := decodeN_wide (s.size - i) (s.get! i).toNat (s.get! (i + 1)).toNat (s.get! (i + 2)).toNat (s.get! (i + 3)).toNat (by omega)
  rw [← Lib.decode_at] at hw
  have hx : (s.get! i).toNat < 128 := by
    rcases Nat.lt_or_ge (s.get! i).toNat 128 with h' | h'
    · exact h'
    · rw [eE_contains _ h'] at h; cases h
  have hr := hw.2.2.2.2.2.2.1 hx
  have hcon := Lib.contains_iff_indexByte eE.data.toList (s.get! i)
  rw [h] at hcon
  rw [hr, irE, if_pos (by omega)]
  have e : ((((s.get! i).toNat : Nat) : Int)).toNat.toUInt8 = s.get! i := by simp
  rw [e]
  exact of_decide_eq_true hcon.symm
theorem irE_no (s : ByteArray) (i : Nat) (hi : i < s.size) (h : eE.data.toList.contains (s.get! i) = false) : ¬ (0 : Int) ≤ irE (Utf8.decode s i).1 := by
  have hw := decodeN_wide (s.size - i) (s.get! i).toNat (s.get! (i + 1)).toNat (s.get! (i + 2)).toNat (s.get! (i + 3)).toNat (by omega)
  rw [← Lib.decode_at] at hw
  have hcon := Lib.contains_iff_indexByte eE.data.toList (s.get! i)
  rw [h] at hcon
  unfold irE
  split
  · rename_i hr
    have hx : (s.get! i).toNat < 128 := by
      rcases Nat.lt_or_ge (s.get! i).toNat 128 with h' | h'
      · exact h'
      · have := hw.2.2.2.2.2.2.2 h'; omega
    have hr := hw.2.2.2.2.2.2.1 hx
    rw [hr]
    have e : ((((s.get! i).toNat : Nat) : Int)).toNat.toUInt8 = s.get! i := by simp
    rw [e]
    exact of_decide_eq_false hcon.symm
  · omega
set_option maxHeartbeats 8000000 in
set_option maxRecDepth 1000000 in
theorem IndexAny_ee_short (L : Lays.n153 P ρ) (s : ByteArray) (w : World) (h8 : s.size ≤ 8) :
    Calls P (ρ.f 153) #[.string s, .string eE] w fun e w' => e = .returned (.int .i64 (Lib.indexAny s.data.toList eE.data.toList)) ∧ Below w.heap.size w w' := by
  have hemp : eE.toList.isEmpty = false := by rw [Lib.toList_data]; rfl
  have hn1 : ((eE.size : Int) == 1) = false := by decide
  have h8z : decide ((8 : Int) < (s.size : Int)) = false := decide_eq_false (by omega)
  have t3 := L.t3; have a3 := L.a3; have z3 := L.z3; have v3 := L.v3
  have t4 := L.t4; have a4 := L.a4; have z4 := L.z4; have v4 := L.v4
  have t5 := L.t5; have a5 := L.a5; have z5 := L.z5; have v5 := L.v5
  have t9 := L.t9; have a9 := L.a9; have z9 := L.z9; have v9 := L.v9
  have t21 := L.t21; have a21 := L.a21; have z21 := L.z21; have v21 := L.v21
  have e152 : ∀ args w, (callFunc (ρ.f 152) args).run P w = .ok (.enter (ρ.f 152) args) w := enters_of L.f152 (by kernel_rfl) rfl
  have e226 : ∀ args w, (callFunc (ρ.f 226) args).run P w = .ok (.enter (ρ.f 226) args) w := enters_of L.f226 (by kernel_rfl) rfl
  go_enter L.f153, Body.n153_ntmps ρ
  go_wp2_with (go_at_fn (ρ.f 226); refine (Any.strings_shouldUseASCIISet { L with } _ _).mono ?_; rintro e w' ⟨rfl, hw⟩; rw [hw, h8z])
  go_loopg [9, 10] s.size (fun g _ _ wx => ∃ i : Nat, i + g = s.size ∧ wx.heap[w.heap.size]? = some (.stringIter s i) ∧ Below w.heap.size w wx ∧ Lib.NoAny s.data.toList eE.data.toList i)
  case atStart => exact ⟨0, by omega, World.iter_heap _ _ _, below_iter _ _ _, Lib.NoAny.zero _ _⟩
  case round =>
    obtain ⟨i, hig, hit, hbl, hno⟩ := hrel
    have HN : Aside (Lib.NoAny s.data.toList eE.data.toList i) := hno
    clear hno
    cases gk with
    | zero =>
      obtain rfl : i = s.size := by omega
      have hnx := fun ty => run_next_gend (P := P) wr w.heap.size s s.size ty hit (by omega)
      go_wp2
      go_ret
      exact ⟨by rw [Lib.indexAny_none (by rw [← Lib.size_eq]; exact HN.out)]; rfl, hbl⟩
    | succ g =>
      have hi : i < s.size := by omega
      have hnx := fun ty => run_next_gen (P := P) wr w.heap.size s i ty hit hi
      have hwd := decodeN_wide (s.size - i) (s.get! i).toNat (s.get! (i + 1)).toNat (s.get! (i + 2)).toNat (s.get! (i + 3)).toNat (by omega)
      rw [← Lib.decode_at] at hwd
      have hW1 := hwd.1
      have hW2 := hwd.2.1
      have hrv : Lib.validRune ((Utf8.decode s i).1 : Int) = true := by
        have h := Lib.decodeN_valid (s.size - i) (s.get! i).toNat (s.get! (i + 1)).toNat (s.get! (i + 2)).toNat (s.get! (i + 3)).toNat (UInt8.toNat_lt _)
        rw [← Lib.decode_at] at h
        simp only [Lib.validRune, decide_eq_true_eq]
        omega
      have HR : Aside (Lib.validRune ((Utf8.decode s i).1 : Int) = true) := hrv
      have hbl2 : Below w.heap.size w { wr with heap := wr.heap.setIfInBounds w.heap.size (.stringIter s (i + (Utf8.decode s i).2)) } := below_setIter hbl
      have hit2 : ({ wr with heap := wr.heap.setIfInBounds w.heap.size (.stringIter s (i + (Utf8.decode s i).2)) } : World).heap[w.heap.size]? = some (.stringIter s (i + (Utf8.decode s i).2)) := by
        have : w.heap.size < wr.heap.size := (Array.getElem?_eq_some_iff.1 hit).1
        show (wr.heap.setIfInBounds w.heap.size _)[w.heap.size]? = _
        rw [Array.getElem?_setIfInBounds, if_pos rfl, if_pos this]
      generalize hw2 : ({ wr with heap := wr.heap.setIfInBounds w.heap.size (.stringIter s (i + (Utf8.decode s i).2)) } : World) = w2 at *
      clear hw2 hwd hrv
      cases hin : eE.data.toList.contains (s.get! i)
      · have hlt := irE_no s i hi hin
        have hstep := noAny_skip HN.out hi hin
        have HS : Aside (Lib.NoAny s.data.toList eE.data.toList (i + (Utf8.decode s i).2)) := hstep
        clear hstep hin
        generalize hr : (Utf8.decode s i).1 = r at *
        generalize hwi : (Utf8.decode s i).2 = wi at *
        go_wp2_with (go_at_fn (ρ.f 152); refine (IndexRune_ee { L with } _ _ (by omega) HR.out).mono ?_; rintro e w3 ⟨rfl, hb3⟩)
        go_roundg (g + 1 - wi)
        case measure => omega
        case rel =>
          refine ⟨i + wi, by omega, ?_, ?_, HS.out⟩
          · rw [hb3.block _ (Array.getElem?_eq_some_iff.1 hit2).1]; exact hit2
          · exact hbl2.trans (hb3.mono hbl2.size)
      · have hge := irE_hit s i hi hin
        have HX : Aside (Lib.indexAny s.data.toList eE.data.toList = (i : Int)) := Lib.indexAny_hit HN.out (get!_at s i hi) hin
        clear hin
        generalize hr : (Utf8.decode s i).1 = r at *
        generalize hwi : (Utf8.decode s i).2 = wi at *
        go_wp2_with (go_at_fn (ρ.f 152); refine (IndexRune_ee { L with } _ _ (by omega) HR.out).mono ?_; rintro e w3 ⟨rfl, hb3⟩)
        go_ret
        exact ⟨by rw [HX.out]; rfl, hbl2.trans (hb3.mono hbl2.size)⟩
theorem IndexAny_ee (L : Lays.n153 P ρ) (hv116 : ∀ w, (zeroValue (ρ.t 116)).run P w = .ok (.agg (Array.replicate 256 (.bool false))) w) (hi116 : (P.info? (ρ.t 116)).map (·.size) = some 256) (s : ByteArray) (w : World) (hs : s.size < 4294967281) :
    Calls P (ρ.f 153) #[.string s, .string eE] w fun e w' => e = .returned (.int .i64 (Lib.indexAny s.data.toList [101, 69])) ∧ Below w.heap.size w w' := by
  rcases Nat.lt_or_ge 8 s.size with h | h
  · refine (Any.strings_IndexAny_long L hv116 hi116 s eE w (by decide) h hs (by decide) ?_).mono ?_
    · intro j b hj
      have e : eE.data.toList = [101, 69] := rfl
      rw [e] at hj
      rcases j with _ | _ | j
      · injection hj with hj; subst hj; decide
      · injection hj with hj; subst hj; decide
      · simp at hj
    · rintro e w' ⟨rfl, hw⟩
      subst hw
      exact ⟨rfl, ((Below.refl _ _).alloc (Nat.le_refl _) _).alloc (by show w.heap.size ≤ (w.heap.push _).size; rw [Array.size_push]; omega) _⟩
  · exact IndexAny_ee_short L s w h
#print axioms IndexAny_ee
end Go.Proofs

namespace Go.Proofs.QV
open Go
set_option linter.unusedVariables false
set_option linter.unusedSimpArgs false
def primW (e : Nat) (q : List (List DC) → List UInt8 → Option (List UInt8)) : Hint → List DC → Option (List DC) := fun h v =>
  match h.tm, h.ob, v with
  | [.one (.sl e'), .one .s], [], [.sl l, .s sep] => if e' = e then (match q l sep with | some r => some [.s r] | none => none) else none
  | _, _, _ => none
section
variable {P : Program} {ty : Nat → Option TI}
theorem prim_words {G : Glob} {f : Nat} {fi : FI} {fd : Func} {e : Nat} {q : List (List DC) → List UInt8 → Option (List UInt8)} (h1 : P.funcs[f]? = some fd) (h2 : (fd.name == "runtime.NumGoroutine") = false) (h3 : fd.body.isNone = false)
    (hrk : fi.rk = [(false, [RK.ct .s])]) (hp : fi.prim = some (primW e q))
    (hq : ∀ l sep r a w F, q l sep = some r → G.ok w → RdC ty w (.sl e) (.sl l) a F → Calls P f #[a, .string ⟨sep.toArray⟩] w fun en w' => en = .returned (.string ⟨r.toArray⟩) ∧ RowKit.Below w.heap.size w w') : FnOk P G ty f fi := by
  refine ⟨⟨fd, h1, h2, h3, fun h => by rw [hp] at h; simp at h⟩, fun p hpp h v r en => ?_⟩
  rw [hp] at hpp
  simp only [Option.some.injEq] at hpp
  subst hpp
  unfold primW at en
  split at en
  · rename_i e' l sep htm hob
    split at en
    · rename_i he
      subst he
      split at en
      · rename_i r' hqv
        simp only [Option.some.injEq] at en
        subst en
        obtain ⟨tm, ob⟩ := h
        dsimp only at htm hob
        subst htm hob
        intro A g vals w hA hr hs hw hm
        have hs2 : vals.size = 2 := by simpa using hs
        have t0 := hr.tm 0 _ (vals[0]'(by omega)) (show (startSt fi ⟨[.one (.sl e'), .one .s], []⟩ [.sl l, .s sep]).tm[0]? = some (.one (.sl e' l)) from rfl) (by
          dsimp only
          rw [Array.getElem?_append_left (by omega), Array.getElem?_eq_getElem (by omega)])
        have t1 := hr.tm 1 _ (vals[1]'(by omega)) (show (startSt fi ⟨[.one (.sl e'), .one .s], []⟩ [.sl l, .s sep]).tm[1]? = some (.one (.str sep)) from rfl) (by
          dsimp only
          rw [Array.getElem?_append_left (by omega), Array.getElem?_eq_getElem (by omega)])
        have hv : vals = #[vals[0]'(by omega), .string ⟨sep.toArray⟩] := by
          apply Array.ext
          · simp [hs2]
          · intro i hi1 hi2
            have : i = 0 ∨ i = 1 := by simp at hi2; omega
            rcases this with rfl | rfl
            · rfl
            · exact t1
        obtain ⟨F, t0, -⟩ := t0
        subst hw
        have hc := hq l sep r' _ A.w0 F hqv hA.1 t0
        rw [← hv] at hc
        refine Calls.mono hc fun en w' hen => ?_
        obtain ⟨rfl, bel⟩ := hen
        refine ⟨lits [.s] [.s r'] 0, rfl, ?_⟩
        rw [hrk]
        exact lit_res (rcts := [.s]) (r := [.s r']) rfl (by rw [hm]; rfl) ⟨bel.os, bel.tape, bel.output, bel.size, fun b hb _ _ => bel.block b hb⟩
      · simp at en
    · simp at en
  · simp at en
theorem words_cells {w : World} {l : List (List DC)} {vs : List Value} {F : List Nat} (h : RdV ty w [.s] l vs F) : vs = (l.map fun x => (x.getD 0 d0).ss).map fun s => Value.string ⟨s.toArray⟩ := by
  cases h with
  | nil => rfl
  | cons _ x l v vs F G h1 h2 =>
    cases h1 with
    | cons t ts y ys u us F1 F2 a1 a2 =>
      cases a1
      cases a2
      rw [words_cells h2]
      rfl
end
end Go.Proofs.QV

namespace Go.Proofs
open Go.Shelf
def Tryz.lays153_ren : Go.Shelf.Ren := ⟨fun | 153 => 201 | 152 => 206 | 226 => 212 | 227 => 181 | 228 => 194 | 137 => 121 | 119 => 216 | 224 => 209 | 225 => 208 | 217 => 155 | 266 => 175 | n => n, fun | 9 => 9 | 3 => 3 | 4 => 4 | 5 => 5 | 21 => 21 | 117 => 205 | 116 => 204 | 0 => 0 | 46 => 162 | 124 => 208 | n => n, fun | n => n⟩
theorem Tryz.lays153 : Go.Proofs.Lays.n153 Tryz.prog Tryz.lays153_ren := {
  mixed := by kernel_rfl,
  f119 := Tryz.func216.trans (congrArg some (by kernel_rfl)),
  f137 := Tryz.func121.trans (congrArg some (by kernel_rfl)),
  f152 := Tryz.func206.trans (congrArg some (by kernel_rfl)),
  f153 := Tryz.func201.trans (congrArg some (by kernel_rfl)),
  f217 := Tryz.func155.trans (congrArg some (by kernel_rfl)),
  f224 := Tryz.func209.trans (congrArg some (by kernel_rfl)),
  f225 := Tryz.func208.trans (congrArg some (by kernel_rfl)),
  f226 := Tryz.func212.trans (congrArg some (by kernel_rfl)),
  f227 := Tryz.func181.trans (congrArg some (by kernel_rfl)),
  f228 := Tryz.func194.trans (congrArg some (by kernel_rfl)),
  f266 := Tryz.func175.trans (congrArg some (by kernel_rfl)),
  t0 := Tryz.underlying0,
  a0 := Tryz.isAgg0,
  z0 := Tryz.sizeOf0,
  v0 := Tryz.zeroValue0,
  t3 := Tryz.underlying3,
  a3 := Tryz.isAgg3,
  z3 := Tryz.sizeOf3,
  v3 := Tryz.zeroValue3,
  t4 := Tryz.underlying4,
  a4 := Tryz.isAgg4,
  z4 := Tryz.sizeOf4,
  v4 := Tryz.zeroValue4,
  t5 := Tryz.underlying5,
  a5 := Tryz.isAgg5,
  z5 := Tryz.sizeOf5,
  v5 := Tryz.zeroValue5,
  t9 := Tryz.underlying9,
  a9 := Tryz.isAgg9,
  z9 := Tryz.sizeOf9,
  v9 := Tryz.zeroValue9,
  t21 := Tryz.underlying21,
  a21 := Tryz.isAgg21,
  z21 := Tryz.sizeOf21,
  v21 := Tryz.zeroValue21,
  t46 := Tryz.underlying162,
  a46 := Tryz.isAgg162,
  z46 := Tryz.sizeOf162,
  v46 := Tryz.zeroValue162,
  t116 := Tryz.underlying204,
  a116 := Tryz.isAgg204,
  z116 := Tryz.sizeOf204,
  t117 := Tryz.underlying205,
  a117 := Tryz.isAgg205,
  z117 := Tryz.sizeOf205,
  v117 := Tryz.zeroValue205,
  t124 := Tryz.underlying208,
  a124 := Tryz.isAgg208,
  z124 := Tryz.sizeOf208,
  v124 := Tryz.zeroValue208 }
def Tryz.lays196_ren : Go.Shelf.Ren := ⟨fun | 196 => 154 | 259 => 174 | n => n, fun | 9 => 9 | 4 => 4 | 3 => 3 | 5 => 5 | 12 => 12 | 119 => 197 | 0 => 0 | 46 => 162 | 139 => 200 | 138 => 199 | 53 => 211 | n => n, fun | 3 => 0 | 4 => 1 | n => n⟩
theorem Tryz.lays196 : Go.Proofs.Lays.n196 Tryz.prog Tryz.lays196_ren := {
  mixed := by kernel_rfl,
  f196 := Tryz.func154.trans (congrArg some (by kernel_rfl)),
  f259 := Tryz.func174.trans (congrArg some (by kernel_rfl)),
  t0 := Tryz.underlying0,
  a0 := Tryz.isAgg0,
  z0 := Tryz.sizeOf0,
  v0 := Tryz.zeroValue0,
  t3 := Tryz.underlying3,
  a3 := Tryz.isAgg3,
  z3 := Tryz.sizeOf3,
  v3 := Tryz.zeroValue3,
  t4 := Tryz.underlying4,
  a4 := Tryz.isAgg4,
  z4 := Tryz.sizeOf4,
  v4 := Tryz.zeroValue4,
  t5 := Tryz.underlying5,
  a5 := Tryz.isAgg5,
  z5 := Tryz.sizeOf5,
  v5 := Tryz.zeroValue5,
  t9 := Tryz.underlying9,
  a9 := Tryz.isAgg9,
  z9 := Tryz.sizeOf9,
  v9 := Tryz.zeroValue9,
  t12 := Tryz.underlying12,
  a12 := Tryz.isAgg12,
  z12 := Tryz.sizeOf12,
  v12 := Tryz.zeroValue12,
  t46 := Tryz.underlying162,
  a46 := Tryz.isAgg162,
  z46 := Tryz.sizeOf162,
  v46 := Tryz.zeroValue162,
  t53 := Tryz.underlying211,
  a53 := Tryz.isAgg211,
  z53 := Tryz.sizeOf211,
  v53 := Tryz.zeroValue211,
  t119 := Tryz.underlying197,
  a119 := Tryz.isAgg197,
  z119 := Tryz.sizeOf197,
  t138 := Tryz.underlying199,
  a138 := Tryz.isAgg199,
  z138 := Tryz.sizeOf199,
  v138 := Tryz.zeroValue199,
  t139 := Tryz.underlying200,
  a139 := Tryz.isAgg200,
  z139 := Tryz.sizeOf200,
  v139 := Tryz.zeroValue200,
  g3 := by kernel_rfl,
  g4 := by kernel_rfl }
def Tryz.lays220_ren : Go.Shelf.Ren := ⟨fun | 220 => 213 | 219 => 198 | 217 => 155 | 225 => 208 | 224 => 209 | 267 => 210 | 266 => 175 | 314 => 217 | n => n, fun | 9 => 9 | 4 => 4 | 3 => 3 | 5 => 5 | 46 => 162 | 146 => 223 | 51 => 222 | n => n, fun | 1 => 2 | n => n⟩
theorem Tryz.lays220 : Go.Proofs.Lays.n220 Tryz.prog Tryz.lays220_ren := {
  mixed := by kernel_rfl,
  f217 := Tryz.func155.trans (congrArg some (by kernel_rfl)),
  f219 := Tryz.func198.trans (congrArg some (by kernel_rfl)),
  f220 := Tryz.func213.trans (congrArg some (by kernel_rfl)),
  f224 := Tryz.func209.trans (congrArg some (by kernel_rfl)),
  f225 := Tryz.func208.trans (congrArg some (by kernel_rfl)),
  f266 := Tryz.func175.trans (congrArg some (by kernel_rfl)),
  f267 := Tryz.func210.trans (congrArg some (by kernel_rfl)),
  f314 := Tryz.func217.trans (congrArg some (by kernel_rfl)),
  t3 := Tryz.underlying3,
  a3 := Tryz.isAgg3,
  z3 := Tryz.sizeOf3,
  v3 := Tryz.zeroValue3,
  t4 := Tryz.underlying4,
  a4 := Tryz.isAgg4,
  z4 := Tryz.sizeOf4,
  v4 := Tryz.zeroValue4,
  t5 := Tryz.underlying5,
  a5 := Tryz.isAgg5,
  z5 := Tryz.sizeOf5,
  v5 := Tryz.zeroValue5,
  t9 := Tryz.underlying9,
  a9 := Tryz.isAgg9,
  z9 := Tryz.sizeOf9,
  v9 := Tryz.zeroValue9,
  t46 := Tryz.underlying162,
  a46 := Tryz.isAgg162,
  z46 := Tryz.sizeOf162,
  v46 := Tryz.zeroValue162,
  t51 := Tryz.underlying222,
  a51 := Tryz.isAgg222,
  z51 := Tryz.sizeOf222,
  v51 := Tryz.zeroValue222,
  t146 := Tryz.underlying223,
  a146 := Tryz.isAgg223,
  z146 := Tryz.sizeOf223,
  v146 := Tryz.zeroValue223,
  g1 := by kernel_rfl }
def Tryz.lays144_ren : Go.Shelf.Ren := ⟨fun | 144 => 169 | 143 => 186 | 219 => 198 | 217 => 155 | 225 => 208 | 224 => 209 | 267 => 210 | 266 => 175 | 314 => 217 | n => n, fun | 9 => 9 | 4 => 4 | 3 => 3 | 5 => 5 | 46 => 162 | 146 => 223 | 51 => 222 | n => n, fun | 1 => 2 | n => n⟩
theorem Tryz.lays144 : Go.Proofs.Lays.n144 Tryz.prog Tryz.lays144_ren := {
  mixed := by kernel_rfl,
  f143 := Tryz.func186.trans (congrArg some (by kernel_rfl)),
  f144 := Tryz.func169.trans (congrArg some (by kernel_rfl)),
  f217 := Tryz.func155.trans (congrArg some (by kernel_rfl)),
  f219 := Tryz.func198.trans (congrArg some (by kernel_rfl)),
  f224 := Tryz.func209.trans (congrArg some (by kernel_rfl)),
  f225 := Tryz.func208.trans (congrArg some (by kernel_rfl)),
  f266 := Tryz.func175.trans (congrArg some (by kernel_rfl)),
  f267 := Tryz.func210.trans (congrArg some (by kernel_rfl)),
  f314 := Tryz.func217.trans (congrArg some (by kernel_rfl)),
  t3 := Tryz.underlying3,
  a3 := Tryz.isAgg3,
  z3 := Tryz.sizeOf3,
  v3 := Tryz.zeroValue3,
  t4 := Tryz.underlying4,
  a4 := Tryz.isAgg4,
  z4 := Tryz.sizeOf4,
  v4 := Tryz.zeroValue4,
  t5 := Tryz.underlying5,
  a5 := Tryz.isAgg5,
  z5 := Tryz.sizeOf5,
  v5 := Tryz.zeroValue5,
  t9 := Tryz.underlying9,
  a9 := Tryz.isAgg9,
  z9 := Tryz.sizeOf9,
  v9 := Tryz.zeroValue9,
  t46 := Tryz.underlying162,
  a46 := Tryz.isAgg162,
  z46 := Tryz.sizeOf162,
  v46 := Tryz.zeroValue162,
  t51 := Tryz.underlying222,
  a51 := Tryz.isAgg222,
  z51 := Tryz.sizeOf222,
  v51 := Tryz.zeroValue222,
  t146 := Tryz.underlying223,
  a146 := Tryz.isAgg223,
  z146 := Tryz.sizeOf223,
  v146 := Tryz.zeroValue223,
  g1 := by kernel_rfl }
def Tryz.lays160_ren : Go.Shelf.Ren := ⟨fun | 160 => 168 | 232 => 180 | 231 => 179 | 227 => 181 | 234 => 183 | 233 => 182 | 236 => 185 | 235 => 184 | 228 => 194 | 271 => 197 | 151 => 196 | 197 => 195 | 120 => 207 | 152 => 206 | 260 => 205 | 137 => 121 | 119 => 216 | 224 => 209 | 225 => 208 | 217 => 155 | 266 => 175 | n => n, fun | 9 => 9 | 4 => 4 | 3 => 3 | 5 => 5 | 117 => 205 | 116 => 204 | 0 => 0 | 124 => 208 | 21 => 21 | 105 => 212 | 46 => 162 | 119 => 197 | 139 => 200 | 138 => 199 | n => n, fun | 3 => 0 | 4 => 1 | n => n⟩
theorem Tryz.lays160 : Go.Proofs.Lays.n160 Tryz.prog Tryz.lays160_ren := {
  mixed := by kernel_rfl,
  f119 := Tryz.func216.trans (congrArg some (by kernel_rfl)),
  f120 := Tryz.func207.trans (congrArg some (by kernel_rfl)),
  f137 := Tryz.func121.trans (congrArg some (by kernel_rfl)),
  f151 := Tryz.func196.trans (congrArg some (by kernel_rfl)),
  f152 := Tryz.func206.trans (congrArg some (by kernel_rfl)),
  f160 := Tryz.func168.trans (congrArg some (by kernel_rfl)),
  f197 := Tryz.func195.trans (congrArg some (by kernel_rfl)),
  f217 := Tryz.func155.trans (congrArg some (by kernel_rfl)),
  f224 := Tryz.func209.trans (congrArg some (by kernel_rfl)),
  f225 := Tryz.func208.trans (congrArg some (by kernel_rfl)),
  f227 := Tryz.func181.trans (congrArg some (by kernel_rfl)),
  f228 := Tryz.func194.trans (congrArg some (by kernel_rfl)),
  f231 := Tryz.func179.trans (congrArg some (by kernel_rfl)),
  f232 := Tryz.func180.trans (congrArg some (by kernel_rfl)),
  f233 := Tryz.func182.trans (congrArg some (by kernel_rfl)),
  f234 := Tryz.func183.trans (congrArg some (by kernel_rfl)),
  f235 := Tryz.func184.trans (congrArg some (by kernel_rfl)),
  f236 := Tryz.func185.trans (congrArg some (by kernel_rfl)),
  f260 := Tryz.func205.trans (congrArg some (by kernel_rfl)),
  f266 := Tryz.func175.trans (congrArg some (by kernel_rfl)),
  f271 := Tryz.func197.trans (congrArg some (by kernel_rfl)),
  t0 := Tryz.underlying0,
  a0 := Tryz.isAgg0,
  z0 := Tryz.sizeOf0,
  v0 := Tryz.zeroValue0,
  t3 := Tryz.underlying3,
  a3 := Tryz.isAgg3,
  z3 := Tryz.sizeOf3,
  v3 := Tryz.zeroValue3,
  t4 := Tryz.underlying4,
  a4 := Tryz.isAgg4,
  z4 := Tryz.sizeOf4,
  v4 := Tryz.zeroValue4,
  t5 := Tryz.underlying5,
  a5 := Tryz.isAgg5,
  z5 := Tryz.sizeOf5,
  v5 := Tryz.zeroValue5,
  t9 := Tryz.underlying9,
  a9 := Tryz.isAgg9,
  z9 := Tryz.sizeOf9,
  v9 := Tryz.zeroValue9,
  t21 := Tryz.underlying21,
  a21 := Tryz.isAgg21,
  z21 := Tryz.sizeOf21,
  v21 := Tryz.zeroValue21,
  t46 := Tryz.underlying162,
  a46 := Tryz.isAgg162,
  z46 := Tryz.sizeOf162,
  v46 := Tryz.zeroValue162,
  t105 := Tryz.underlying212,
  a105 := Tryz.isAgg212,
  z105 := Tryz.sizeOf212,
  v105 := Tryz.zeroValue212,
  t116 := Tryz.underlying204,
  a116 := Tryz.isAgg204,
  z116 := Tryz.sizeOf204,
  t117 := Tryz.underlying205,
  a117 := Tryz.isAgg205,
  z117 := Tryz.sizeOf205,
  v117 := Tryz.zeroValue205,
  t119 := Tryz.underlying197,
  a119 := Tryz.isAgg197,
  z119 := Tryz.sizeOf197,
  t124 := Tryz.underlying208,
  a124 := Tryz.isAgg208,
  z124 := Tryz.sizeOf208,
  v124 := Tryz.zeroValue208,
  t138 := Tryz.underlying199,
  a138 := Tryz.isAgg199,
  z138 := Tryz.sizeOf199,
  v138 := Tryz.zeroValue199,
  t139 := Tryz.underlying200,
  a139 := Tryz.isAgg200,
  z139 := Tryz.sizeOf200,
  v139 := Tryz.zeroValue200,
  g3 := by kernel_rfl,
  g4 := by kernel_rfl }
def Tryz.lays156_ren : Go.Shelf.Ren := ⟨fun | 156 => 35 | 165 => 79 | 166 => 80 | 169 => 81 | 240 => 125 | 241 => 126 | 276 => 158 | 277 => 159 | n => n, fun | 31 => 22 | 9 => 9 | 3 => 3 | 4 => 4 | 0 => 0 | 20 => 20 | 72 => 127 | 76 => 131 | 70 => 125 | 37 => 49 | 75 => 130 | 127 => 164 | 164 => 185 | 5 => 5 | 80 => 133 | n => n, fun | n => n⟩
theorem Tryz.lays156 : Go.Proofs.Lays.n156 Tryz.prog Tryz.lays156_ren := {
  mixed := by kernel_rfl,
  f156 := Tryz.func35.trans (congrArg some (by kernel_rfl)),
  f165 := Tryz.func79.trans (congrArg some (by kernel_rfl)),
  f166 := Tryz.func80.trans (congrArg some (by kernel_rfl)),
  f169 := Tryz.func81.trans (congrArg some (by kernel_rfl)),
  f240 := Tryz.func125.trans (congrArg some (by kernel_rfl)),
  f241 := Tryz.func126.trans (congrArg some (by kernel_rfl)),
  f276 := Tryz.func158.trans (congrArg some (by kernel_rfl)),
  f277 := Tryz.func159.trans (congrArg some (by kernel_rfl)),
  t0 := Tryz.underlying0,
  a0 := Tryz.isAgg0,
  z0 := Tryz.sizeOf0,
  v0 := Tryz.zeroValue0,
  t3 := Tryz.underlying3,
  a3 := Tryz.isAgg3,
  z3 := Tryz.sizeOf3,
  v3 := Tryz.zeroValue3,
  t4 := Tryz.underlying4,
  a4 := Tryz.isAgg4,
  z4 := Tryz.sizeOf4,
  v4 := Tryz.zeroValue4,
  t9 := Tryz.underlying9,
  a9 := Tryz.isAgg9,
  z9 := Tryz.sizeOf9,
  v9 := Tryz.zeroValue9,
  t20 := Tryz.underlying20,
  a20 := Tryz.isAgg20,
  z20 := Tryz.sizeOf20,
  v20 := Tryz.zeroValue20,
  t31 := Tryz.underlying22,
  a31 := Tryz.isAgg22,
  z31 := Tryz.sizeOf22,
  v31 := Tryz.zeroValue22,
  t37 := Tryz.underlying49,
  a37 := Tryz.isAgg49,
  z37 := Tryz.sizeOf49,
  v37 := Tryz.zeroValue49,
  t70 := Tryz.underlying125,
  a70 := Tryz.isAgg125,
  z70 := Tryz.sizeOf125,
  v70 := Tryz.zeroValue125,
  t72 := Tryz.underlying127,
  a72 := Tryz.isAgg127,
  z72 := Tryz.sizeOf127,
  v72 := Tryz.zeroValue127,
  t75 := Tryz.underlying130,
  a75 := Tryz.isAgg130,
  z75 := Tryz.sizeOf130,
  v75 := Tryz.zeroValue130,
  t76 := Tryz.underlying131,
  a76 := Tryz.isAgg131,
  z76 := Tryz.sizeOf131,
  v76 := Tryz.zeroValue131,
  t127 := Tryz.underlying164,
  a127 := Tryz.isAgg164,
  z127 := Tryz.sizeOf164,
  v127 := Tryz.zeroValue164,
  t164 := Tryz.underlying185,
  a164 := Tryz.isAgg185,
  z164 := Tryz.sizeOf185,
  v164 := Tryz.zeroValue185 }
def Tryz.lays217_ren : Go.Shelf.Ren := ⟨fun | 217 => 155 | 266 => 175 | n => n, fun | 9 => 9 | 5 => 5 | 3 => 3 | n => n, fun | n => n⟩
theorem Tryz.lays217 : Go.Proofs.Lays.n217 Tryz.prog Tryz.lays217_ren := {
  mixed := by kernel_rfl,
  f217 := Tryz.func155.trans (congrArg some (by kernel_rfl)),
  f266 := Tryz.func175.trans (congrArg some (by kernel_rfl)),
  t3 := Tryz.underlying3,
  a3 := Tryz.isAgg3,
  z3 := Tryz.sizeOf3,
  v3 := Tryz.zeroValue3,
  t5 := Tryz.underlying5,
  a5 := Tryz.isAgg5,
  z5 := Tryz.sizeOf5,
  v5 := Tryz.zeroValue5,
  t9 := Tryz.underlying9,
  a9 := Tryz.isAgg9,
  z9 := Tryz.sizeOf9,
  v9 := Tryz.zeroValue9 }
end Go.Proofs
namespace Go.Proofs.QV
open Go
set_option linter.unusedVariables false
set_option maxRecDepth 100000
def gOk (w : World) : Prop := (Lib.Utf8Tabs 0 1 w) ∧ (∃ m, w.cell? ⟨2, 0, none⟩ = some (.int .i64 m))
theorem gOk_dep (w w' : World) (h : ∀ b, (b = 0 ∨ b = 1 ∨ b = 2) → w'.heap[b]? = w.heap[b]?) (k : gOk w) : gOk w' := by
  have h0 : ∀ o, w'.cell? ⟨0, o, none⟩ = w.cell? ⟨0, o, none⟩ := fun o => World.cell?_of_block (h 0 (by simp))
  have h1 : ∀ o, w'.cell? ⟨1, o, none⟩ = w.cell? ⟨1, o, none⟩ := fun o => World.cell?_of_block (h 1 (by simp))
  have h2 : ∀ o, w'.cell? ⟨2, o, none⟩ = w.cell? ⟨2, o, none⟩ := fun o => World.cell?_of_block (h 2 (by simp))
  obtain ⟨⟨k1, k2⟩, m, k3⟩ := k
  exact ⟨⟨fun c hc => (h0 _).trans (k1 c hc), fun i hi => ⟨(h1 _).trans (k2 i hi).1, (h1 _).trans (k2 i hi).2⟩⟩, m, (h2 _).trans k3⟩
def G : Glob := ⟨fun b => b = 0 ∨ b = 1 ∨ b = 2, gOk, gOk_dep⟩
theorem extra156 : Builder.Extra Tryz.prog Tryz.lays156_ren where
  sizeBuilder := by kernel_rfl
  liesBuilder := by kernel_rfl
  t5 := Tryz.underlying5
  a5 := Tryz.isAgg5
  z5 := Tryz.sizeOf5
  v5 := Tryz.zeroValue5
  infoByte := by kernel_rfl
  cellsByte := by kernel_rfl
  sizeByte := by kernel_rfl
  neB5 := by decide
def qIndexAny (v : List DC) : Option (List DC) := match v with
  | [.s s, .s c] => if s.length < 4294967281 ∧ c = [101, 69] then some [.i (Lib.indexAny s [101, 69])] else none
  | _ => none
theorem call_IndexAny (v r : List DC) (w : World) (hq : qIndexAny v = some r) (hG : G.ok w) : Calls Tryz.prog 201 (lits [.s, .s] v 0).toArray w fun e w' => e = .returned (resVal (lits [.i .i64] r 0)) ∧ RowKit.Below w.heap.size w w' := by
  unfold qIndexAny at hq
  split at hq
  · rename_i s c
    split at hq
    · rename_i hs
      obtain ⟨hs, rfl⟩ := hs
      injection hq with hq
      subst hq
      have h116 : (Tryz.prog.info? (Tryz.lays153_ren.t 116)).map (fun i => (i.zero, i.size)) = some (some (.agg (Array.replicate 256 (.bool false))), 256) := by kernel_rfl
      refine Calls.mono (IndexAny_ee Tryz.lays153 (zero_of_info h116).1 (zero_of_info h116).2 ⟨s.toArray⟩ w (by rw [Lib.size_eq]; simpa using hs)) fun e w' h => ?_
      obtain ⟨rfl, h⟩ := h
      exact ⟨rfl, h⟩
    · cases hq
  · cases hq
def qValidString (v : List DC) : Option (List DC) := match v with
  | [.s s] => if s.length ≤ 9223372036854775807 then some [.b (Lib.validD s)] else none
  | _ => none
theorem call_ValidString (v r : List DC) (w : World) (hq : qValidString v = some r) (hG : G.ok w) : Calls Tryz.prog 154 (lits [.s] v 0).toArray w fun e w' => e = .returned (resVal (lits [.b] r 0)) ∧ RowKit.Below w.heap.size w w' := by
  unfold qValidString at hq
  split at hq
  · rename_i s
    split at hq
    · rename_i hs
      injection hq with hq
      subst hq
      refine Calls.mono (Any.utf8_ValidString Tryz.lays196 ⟨s.toArray⟩ w (by rw [Lib.size_eq]; simpa using hs) hG.1) fun e w' h => ?_
      obtain ⟨rfl, h⟩ := h
      exact ⟨rfl, h⟩
    · cases hq
  · cases hq
def qCut (v : List DC) : Option (List DC) := match v with
  | [.s s, .s c] => if s.length < 4294967281 then some [.s (Lib.cut s c).1, .s (Lib.cut s c).2.1, .b (Lib.cut s c).2.2] else none
  | _ => none
theorem call_Cut (v r : List DC) (w : World) (hq : qCut v = some r) (hG : G.ok w) : Calls Tryz.prog 213 (lits [.s, .s] v 0).toArray w fun e w' => e = .returned (resVal (lits [.s, .s, .b] r 0)) ∧ RowKit.Below w.heap.size w w' := by
  unfold qCut at hq
  split at hq
  · rename_i s c
    split at hq
    · rename_i hs
      injection hq with hq
      subst hq
      obtain ⟨m, hm⟩ := hG.2
      refine Calls.mono (Any.stringslite_Cut Tryz.lays220 ⟨s.toArray⟩ ⟨c.toArray⟩ m w (by rw [Lib.size_eq]; simpa using hs) hm) fun e w' h => ?_
      obtain ⟨rfl, k, rfl⟩ := h
      exact ⟨rfl, below_drewN _ _⟩
    · cases hq
  · cases hq
def qContains (v : List DC) : Option (List DC) := match v with
  | [.s s, .s c] => if s.length < 4294967281 then some [.b (Lib.contains s c)] else none
  | _ => none
theorem call_Contains (v r : List DC) (w : World) (hq : qContains v = some r) (hG : G.ok w) : Calls Tryz.prog 169 (lits [.s, .s] v 0).toArray w fun e w' => e = .returned (resVal (lits [.b] r 0)) ∧ RowKit.Below w.heap.size w w' := by
  unfold qContains at hq
  split at hq
  · rename_i s c
    split at hq
    · rename_i hs
      injection hq with hq
      subst hq
      obtain ⟨m, hm⟩ := hG.2
      refine Calls.mono (Any.strings_Contains Tryz.lays144 ⟨s.toArray⟩ ⟨c.toArray⟩ m w (by rw [Lib.size_eq]; simpa using hs) hm) fun e w' h => ?_
      obtain ⟨rfl, rfl⟩ := h
      exact ⟨rfl, RowKit.Below.refl _ _⟩
    · cases hq
  · cases hq
def qTrim (v : List DC) : Option (List DC) := match v with
  | [.s s, .s c] => if s.length ≤ 9223372036854775807 ∧ c.length < 4294967281 ∧ c.all (fun b => decide (b.toNat < 128)) = true then some [.s (Lib.trimS s c)] else none
  | _ => none
theorem call_Trim (v r : List DC) (w : World) (hq : qTrim v = some r) (hG : G.ok w) : Calls Tryz.prog 168 (lits [.s, .s] v 0).toArray w fun e w' => e = .returned (resVal (lits [.s] r 0)) ∧ RowKit.Below w.heap.size w w' := by
  unfold qTrim at hq
  split at hq
  · rename_i s c
    split at hq
    · rename_i hs
      obtain ⟨hs, hc, ha⟩ := hs
      injection hq with hq
      subst hq
      have h116 : (Tryz.prog.info? (Tryz.lays160_ren.t 116)).map (fun i => (i.zero, i.size)) = some (some (.agg (Array.replicate 256 (.bool false))), 256) := by kernel_rfl
      refine Calls.mono (Any.strings_Trim_ascii Tryz.lays160 (zero_of_info h116).1 (zero_of_info h116).2 ⟨s.toArray⟩ ⟨c.toArray⟩ w (by rw [Lib.size_eq]; simpa using hs) (by rw [Lib.size_eq]; simpa using hc) fun j b hj => of_decide_eq_true (List.all_eq_true.1 ha b (List.mem_of_getElem? hj))) fun e w' h => ?_
      obtain ⟨rfl, h⟩ := h
      exact ⟨rfl, h⟩
    · cases hq
  · cases hq
def qJoin (l : List (List DC)) (sep : List UInt8) : Option (List UInt8) := if l.length ≤ 140737488355328 ∧ (Lib.join (l.map fun x => (x.getD 0 d0).ss) sep).length ≤ 140737488355328 then some (Lib.join (l.map fun x => (x.getD 0 d0).ss) sep) else none
theorem call_Join {ty : Nat → Option TI} {e : Nat} (hty : ∀ te, ty e = some te → te.cts = [.s]) (l : List (List DC)) (sep r : List UInt8) (a : Value) (w : World) (F : List Nat) (hq : qJoin l sep = some r) (hG : G.ok w) (hr : RdC ty w (.sl e) (.sl l) a F) :
    Calls Tryz.prog 35 #[a, .string ⟨sep.toArray⟩] w fun en w' => en = .returned (.string ⟨r.toArray⟩) ∧ RowKit.Below w.heap.size w w' := by
  unfold qJoin at hq
  split at hq
  · rename_i hs
    obtain ⟨hs1, hs2⟩ := hs
    injection hq with hq
    subst hq
    cases hr with
    | nil _ a c =>
      refine Calls.mono (Any.strings_Join_none Tryz.lays156 extra156 a c ⟨sep.toArray⟩ w) fun en w' h => ?_
      obtain ⟨h1, rfl⟩ := h
      exact ⟨h1, RowKit.Below.refl _ _⟩
    | sl _ ti b off n cap l vs F h1 h0 h2 h3 h4 h5 h6 =>
      rw [hty ti h1] at h6
      have hv := words_cells h6
      subst hv h2
      have hb : b < w.heap.size := by
        cases l with
        | nil => exact absurd rfl h3
        | cons x l =>
          have hc := h5 0 _ rfl
          rcases Nat.lt_or_ge b w.heap.size with h' | h'
          · exact h'
          · have hn : w.heap[b]? = none := Array.getElem?_eq_none h'
            unfold World.cell? at hc
            simp [hn] at hc
      have e1 : (l.map fun x => (⟨((x.getD 0 d0).ss).toArray⟩ : ByteArray)).map (·.data.toList) = l.map fun x => (x.getD 0 d0).ss := by
        rw [List.map_map]
        rfl
      have hJ := Any.strings_Join Tryz.lays156 extra156 b off cap (l.map fun x => (⟨((x.getD 0 d0).ss).toArray⟩ : ByteArray)) ⟨sep.toArray⟩ w (fun j x hx => h5 j _ (by
        rw [List.getElem?_map] at hx
        rw [List.getElem?_map, List.getElem?_map]
        cases hj : l[j]? with
        | none => rw [hj] at hx; simp at hx
        | some y => rw [hj] at hx; simp only [Option.map_some, Option.some.injEq] at hx; subst hx; rfl)) hb (by rw [List.length_map]; exact hs1) (by rw [List.length_map]; exact h4) (by rw [e1]; exact hs2)
      rw [e1, List.length_map] at hJ
      exact hJ
  · cases hq
def qIndexByte (v : List DC) : Option (List DC) := match v with
  | [.s s, .i c] => some [.i (Lib.indexByte s c.toNat.toUInt8)]
  | _ => none
theorem call_IndexByte (v r : List DC) (w : World) (hq : qIndexByte v = some r) (hG : G.ok w) : Calls Tryz.prog 155 (lits [.s, .i .u8] v 0).toArray w fun e w' => e = .returned (resVal (lits [.i .i64] r 0)) ∧ RowKit.Below w.heap.size w w' := by
  unfold qIndexByte at hq
  split at hq
  · rename_i s c
    injection hq with hq
    subst hq
    refine Calls.mono (Any.stringslite_IndexByte Tryz.lays217 ⟨s.toArray⟩ c w) fun e w' h => ?_
    obtain ⟨rfl, rfl⟩ := h
    exact ⟨rfl, RowKit.Below.refl _ _⟩
  · cases hq
abbrev ou : KC := .one .u
abbrev ob : KC := .one .b
abbrev os : KC := .one .s
abbrev oi : KC := .one (.i .i64)
abbrev ol (e : Nat) : KC := .one (.sl e)
def uu (n : Nat) (l : List KC) : List KC := List.replicate n (.one .u) ++ l
def vv (n : Nat) (l : List KO) : List KO := List.replicate n .u ++ l
noncomputable def tyL : List (Nat × TI) := [(3, ⟨.int .i64, [.i .i64], 8, [], false⟩),
  (4, ⟨.bool, [.b], 1, [], false⟩),
  (5, ⟨.int .u8, [.i .u8], 1, [], false⟩),
  (9, ⟨.str, [.s], 16, [], false⟩),
  (22, ⟨.slice 9, [.sl 9], 24, [], false⟩),
  (23, ⟨.slice 91, [.sl 91], 24, [], false⟩),
  (24, ⟨.slice 97, [.sl 97], 24, [], false⟩),
  (25, ⟨.slice 100, [.sl 100], 24, [], false⟩),
  (26, ⟨.slice 102, [.sl 102], 24, [], false⟩),
  (27, ⟨.slice 106, [.sl 106], 24, [], false⟩),
  (29, ⟨.struct, [.i .i64, .b, .s, .s, .sl 9, .sl 91, .sl 97, .sl 100, .sl 102, .b, .sl 106], 200, [(0, 1, false), (1, 1, false), (2, 1, false), (3, 1, false), (4, 1, false), (5, 1, false), (6, 1, false), (7, 1, false), (8, 1, false), (9, 1, false), (10, 1, false)], false⟩),
  (32, ⟨.slice 59, [.sl 59], 24, [], false⟩),
  (33, ⟨.slice 70, [.sl 70], 24, [], false⟩),
  (34, ⟨.slice 62, [.sl 62], 24, [], false⟩),
  (35, ⟨.slice 64, [.sl 64], 24, [], false⟩),
  (36, ⟨.slice 114, [.sl 114], 24, [], false⟩),
  (38, ⟨.struct, [.i .i64, .b, .s, .s, .sl 9, .sl 59, .sl 70, .sl 62, .sl 64, .b, .sl 114], 200, [(0, 1, false), (1, 1, false), (2, 1, false), (3, 1, false), (4, 1, false), (5, 1, false), (6, 1, false), (7, 1, false), (8, 1, false), (9, 1, false), (10, 1, false)], false⟩),
  (49, ⟨.slice 5, [.sl 5], 24, [], false⟩),
  (57, ⟨.struct, [.s, .s], 32, [(0, 1, false), (1, 1, false)], false⟩),
  (59, ⟨.struct, [.s, .s, .sl 70, .s, .s, .sl 114], 112, [(0, 1, false), (1, 1, false), (2, 1, false), (3, 2, true), (5, 1, false)], false⟩),
  (62, ⟨.struct, [.s, .s, .sl 114], 56, [(0, 1, false), (1, 1, false), (2, 1, false)], false⟩),
  (64, ⟨.struct, [.i .i64, .s], 24, [(0, 1, false), (1, 1, false)], false⟩),
  (66, ⟨.slice 68, [.sl 68], 24, [], false⟩),
  (68, ⟨.struct, [.i .i64, .s, .sl 68, .sl 9], 72, [(0, 1, false), (1, 1, false), (2, 1, false), (3, 1, false)], false⟩),
  (70, ⟨.struct, [.s, .s, .s, .s, .b, .i .i64, .s, .sl 68, .sl 9, .sl 114], 168, [(0, 1, false), (1, 1, false), (2, 2, true), (4, 1, false), (5, 4, true), (9, 1, false)], false⟩),
  (89, ⟨.struct, [.s, .s], 32, [(0, 1, false), (1, 1, false)], false⟩),
  (91, ⟨.struct, [.s, .s, .sl 97, .s, .s, .sl 106], 112, [(0, 1, false), (1, 1, false), (2, 1, false), (3, 2, true), (5, 1, false)], false⟩),
  (93, ⟨.slice 95, [.sl 95], 24, [], false⟩),
  (95, ⟨.struct, [.i .i64, .s, .sl 95, .sl 9], 72, [(0, 1, false), (1, 1, false), (2, 1, false), (3, 1, false)], false⟩),
  (97, ⟨.struct, [.s, .s, .s, .s, .b, .i .i64, .s, .sl 95, .sl 9, .sl 106], 168, [(0, 1, false), (1, 1, false), (2, 2, true), (4, 1, false), (5, 4, true), (9, 1, false)], false⟩),
  (100, ⟨.struct, [.s, .s, .sl 106], 56, [(0, 1, false), (1, 1, false), (2, 1, false)], false⟩),
  (102, ⟨.struct, [.i .i64, .s], 24, [(0, 1, false), (1, 1, false)], false⟩),
  (104, ⟨.slice 175, [.sl 175], 24, [], false⟩),
  (106, ⟨.struct, [.s, .sl 175], 40, [(0, 1, false), (1, 1, false)], false⟩),
  (112, ⟨.slice 148, [.sl 148], 24, [], false⟩),
  (114, ⟨.struct, [.s, .sl 148], 40, [(0, 1, false), (1, 1, false)], false⟩),
  (148, ⟨.struct, [.s, .i .i64, .s, .sl 68, .sl 9], 88, [(0, 1, false), (1, 4, true)], false⟩),
  (175, ⟨.struct, [.s, .i .i64, .s, .sl 95, .sl 9], 88, [(0, 1, false), (1, 4, true)], false⟩)]
noncomputable def h_strings_Join : Hint := ⟨ol 9 :: os :: [], []⟩
noncomputable def h_unicode_utf8_ValidString : Hint := ⟨os :: [], []⟩
noncomputable def h_internal_stringslite_IndexByte : Hint := ⟨os :: .one (.i .u8) :: [], []⟩
noncomputable def h_strings_Trim : Hint := ⟨os :: os :: [], []⟩
noncomputable def h_strings_Contains : Hint := ⟨os :: os :: [], []⟩
noncomputable def h_strings_IndexAny : Hint := ⟨os :: os :: [], []⟩
noncomputable def h_internal_stringslite_Cut : Hint := ⟨os :: os :: [], []⟩
noncomputable def fi3 : FI := mkFI Tryz.f3 2 [.ag [.i .i64, .b, .s, .s, .sl 9, .sl 91, .sl 97, .sl 100, .sl 102, .b, .sl 106]] [(false, [.ct .b])] (fun _ => (.s (.r [0, 0] none) (.s .n (.s .n (.s .n (.s .n (.s (.r [0, 0, 1, 0] none) .n)))))))
noncomputable def fi4 : FI := mkFI Tryz.f4 1 [.ag [.i .i64, .b, .s, .s, .sl 9, .sl 91, .sl 97, .sl 100, .sl 102, .b, .sl 106], .ct (.i .i64)] [(false, [.ct (.i .i64)])] (fun _ => (.s (.r [0, 0] none) .n))
noncomputable def fi6 : FI := mkFI Tryz.f6 3 [.ag [.i .i64, .b, .s, .s, .sl 9, .sl 91, .sl 97, .sl 100, .sl 102, .b, .sl 106]] [(true, [.ct (.i .i64), .ct .b, .ct .s, .ct .s, .ct (.sl 9), .ct (.sl 59), .ct (.sl 70), .ct (.sl 62), .ct (.sl 64), .ct .b, .ct (.sl 114)])] (fun _ => (.s (.r [0, 1] none) (.s (.r [2] none) .n)))
noncomputable def fi5 : FI := mkFI Tryz.f5 81 [.ag [.i .i64, .b, .s, .s, .sl 9, .sl 59, .sl 70, .sl 62, .sl 64, .b, .sl 114]] [(false, [.ct .s])] (fun _ => (.s (.r [0, 0] none) (.s .n (.s (.r [1, 0] none) (.s (.s .n (.c (.r [0, 0, 0, 0, 2, 3, 4, 0] none) .n (some ⟨ou :: .one (.ptr 0 0) :: ou :: .one (.own 5 5) :: uu 207 [], .var 38 [.i .i64, .b, .s, .s, .sl 9, .sl 59, .sl 70, .sl 62, .sl 64, .b, .sl 114] :: vv 80 []⟩))) (.s (.s .n (.c (.r [0, 6, 0] none) .n (some ⟨ou :: .one (.ptr 0 0) :: ou :: .one (.own 5 7) :: uu 207 [], .var 38 [.i .i64, .b, .s, .s, .sl 9, .sl 59, .sl 70, .sl 62, .sl 64, .b, .sl 114] :: vv 80 []⟩))) (.s (.r [0, 0, 0, 0, 8, 0] none) (.s (.s .n (.b (.s .n (.c .n (.s .n (.c (.s (.r [0, 9, 10, 0, 0, 11, 0] none) (.s (.r [0, 0, 0, 12, 0] none) (.s (.s .n (.c (.r [0, 13, 0] none) .n (some ⟨ou :: .one (.ptr 0 0) :: ou :: .one (.own 5 14) :: uu 207 [], .var 38 [.i .i64, .b, .s, .s, .sl 9, .sl 59, .sl 70, .sl 62, .sl 64, .b, .sl 114] :: vv 80 []⟩))) (.r [0, 15, 0, 0, 16, 0] none)))) (.r [0, 17, 18, 0, 0, 19, 0] none) (some ⟨ou :: .one (.ptr 0 0) :: ou :: .one (.own 5 20) :: uu 207 [], .var 38 [.i .i64, .b, .s, .s, .sl 9, .sl 59, .sl 70, .sl 62, .sl 64, .b, .sl 114] :: vv 80 []⟩))) (some ⟨ou :: .one (.ptr 0 0) :: ou :: .one (.own 5 21) :: uu 207 [], .var 38 [.i .i64, .b, .s, .s, .sl 9, .sl 59, .sl 70, .sl 62, .sl 64, .b, .sl 114] :: vv 80 []⟩))) ⟨ou :: .one (.ptr 0 0) :: ou :: .one (.own 5 22) :: uu 207 [], .var 38 [.i .i64, .b, .s, .s, .sl 9, .sl 59, .sl 70, .sl 62, .sl 64, .b, .sl 114] :: vv 80 []⟩)) (.s (.s (.r [] (some ⟨ou :: .one (.ptr 0 0) :: ou :: .one (.own 5 23) :: uu 72 (ob :: uu 134 []), .var 38 [.i .i64, .b, .s, .s, .sl 9, .sl 59, .sl 70, .sl 62, .sl 64, .b, .sl 114] :: vv 80 []⟩)) (.c (.r [0, 24, 0, 0, 25, 0] none) .n (some ⟨ou :: .one (.ptr 0 0) :: ou :: .one (.own 5 26) :: uu 207 [], .var 38 [.i .i64, .b, .s, .s, .sl 9, .sl 59, .sl 70, .sl 62, .sl 64, .b, .sl 114] :: vv 80 []⟩))) (.s (.r [0, 0, 0, 27, 0] none) (.s (.s (.r [] (some ⟨ou :: .one (.ptr 0 0) :: ou :: .one (.own 5 28) :: uu 90 (ob :: uu 116 []), .var 38 [.i .i64, .b, .s, .s, .sl 9, .sl 59, .sl 70, .sl 62, .sl 64, .b, .sl 114] :: vv 80 []⟩)) (.c (.r [0, 29, 0, 0, 30, 0] none) .n (some ⟨ou :: .one (.ptr 0 0) :: ou :: .one (.own 5 31) :: uu 207 [], .var 38 [.i .i64, .b, .s, .s, .sl 9, .sl 59, .sl 70, .sl 62, .sl 64, .b, .sl 114] :: vv 80 []⟩))) (.s (.r [32, 0] none) (.s (.s .n (.b (.b (.s .n (.s (.b (.r [0, 0, 0, 0, 0, 0, 35, 0] none) ⟨ou :: .one (.ptr 0 0) :: ou :: .one (.own 5 36) :: .one (.own 5 37) :: oi :: uu 205 [], .var 38 [.i .i64, .b, .s, .s, .sl 9, .sl 59, .sl 70, .sl 62, .sl 64, .b, .sl 114] :: vv 80 []⟩) .n)) ⟨ou :: .one (.ptr 0 0) :: ou :: .one (.own 5 33) :: .one (.own 5 34) :: oi :: uu 205 [], .var 38 [.i .i64, .b, .s, .s, .sl 9, .sl 59, .sl 70, .sl 62, .sl 64, .b, .sl 114] :: vv 80 []⟩) ⟨ou :: .one (.ptr 0 0) :: ou :: .one (.own 5 38) :: .one (.own 5 39) :: uu 206 [], .var 38 [.i .i64, .b, .s, .s, .sl 9, .sl 59, .sl 70, .sl 62, .sl 64, .b, .sl 114] :: vv 80 []⟩)) (.s (.s .n (.b (.b (.s .n (.s (.b (.s (.r [0, 0, 0, 0, 0, 0, 0, 42, 0, 0, 0, 0, 0, 0, 43, 0] none) (.r [0, 0, 0, 0, 0, 0, 0, 44, 45, 46, 0] none)) ⟨ou :: .one (.ptr 0 0) :: ou :: .one (.own 5 47) :: .one (.own 5 48) :: ou :: oi :: uu 204 [], .var 38 [.i .i64, .b, .s, .s, .sl 9, .sl 59, .sl 70, .sl 62, .sl 64, .b, .sl 114] :: vv 80 []⟩) .n)) ⟨ou :: .one (.ptr 0 0) :: ou :: .one (.own 5 40) :: .one (.own 5 41) :: ou :: oi :: uu 204 [], .var 38 [.i .i64, .b, .s, .s, .sl 9, .sl 59, .sl 70, .sl 62, .sl 64, .b, .sl 114] :: vv 80 []⟩) ⟨ou :: .one (.ptr 0 0) :: ou :: .one (.own 5 49) :: .one (.own 5 50) :: uu 206 [], .var 38 [.i .i64, .b, .s, .s, .sl 9, .sl 59, .sl 70, .sl 62, .sl 64, .b, .sl 114] :: vv 80 []⟩)) (.s (.s .n (.b (.b (.s .n (.s (.b (.s (.r [0, 0, 0, 0, 0, 0, 0, 0, 0, 0, 53, 0, 0, 0, 0, 0, 0, 54, 0] none) (.r [0, 55, 56, 0] none)) ⟨ou :: .one (.ptr 0 0) :: ou :: .one (.own 5 57) :: .one (.own 5 58) :: ou :: ou :: oi :: uu 203 [], .var 38 [.i .i64, .b, .s, .s, .sl 9, .sl 59, .sl 70, .sl 62, .sl 64, .b, .sl 114] :: vv 80 []⟩) .n)) ⟨ou :: .one (.ptr 0 0) :: ou :: .one (.own 5 51) :: .one (.own 5 52) :: ou :: ou :: oi :: uu 203 [], .var 38 [.i .i64, .b, .s, .s, .sl 9, .sl 59, .sl 70, .sl 62, .sl 64, .b, .sl 114] :: vv 80 []⟩) ⟨ou :: .one (.ptr 0 0) :: ou :: .one (.own 5 59) :: .one (.own 5 60) :: uu 206 [], .var 38 [.i .i64, .b, .s, .s, .sl 9, .sl 59, .sl 70, .sl 62, .sl 64, .b, .sl 114] :: vv 80 []⟩)) (.s (.s .n (.b (.b (.s (.s (.r [] (some ⟨ou :: .one (.ptr 0 0) :: ou :: .one (.own 5 63) :: .one (.own 5 64) :: uu 3 (oi :: uu 175 (ob :: uu 26 [])), .var 38 [.i .i64, .b, .s, .s, .sl 9, .sl 59, .sl 70, .sl 62, .sl 64, .b, .sl 114] :: vv 80 []⟩)) .n) (.s (.b (.r [0, 65, 66, 0, 0, 0, 0, 0, 67, 68, 69, 0] none) ⟨ou :: .one (.ptr 0 0) :: ou :: .one (.own 5 70) :: .one (.own 5 71) :: uu 3 (oi :: uu 202 []), .var 38 [.i .i64, .b, .s, .s, .sl 9, .sl 59, .sl 70, .sl 62, .sl 64, .b, .sl 114] :: vv 80 []⟩) .n)) ⟨ou :: .one (.ptr 0 0) :: ou :: .one (.own 5 61) :: .one (.own 5 62) :: uu 3 (oi :: uu 202 []), .var 38 [.i .i64, .b, .s, .s, .sl 9, .sl 59, .sl 70, .sl 62, .sl 64, .b, .sl 114] :: vv 80 []⟩) ⟨uu 3 (.one (.own 5 72) :: .one (.own 5 73) :: uu 206 []), vv 81 []⟩)) (.s (.s .n (.c (.r [0, 74, 0, 75, 76, 77, 0] none) .n (some ⟨uu 3 (.one (.own 5 78) :: uu 207 []), vv 81 []⟩))) (.s (.r [0, 79, 80, 0, 0] none) .n))))))))))))))))))
noncomputable def fi7 : FI := mkFI Tryz.f7 1 [.ag [.i .i64, .b, .s, .s, .sl 9, .sl 59, .sl 70, .sl 62, .sl 64, .b, .sl 114]] [(false, [.ct .s])] (fun _ => (.s (.r [0, 0] none) (.s .n (.s .n (.s (.s .n (.c .n .n (some ⟨ou :: .one (.ptr 0 0) :: ou :: os :: uu 99 [], .var 38 [.i .i64, .b, .s, .s, .sl 9, .sl 59, .sl 70, .sl 62, .sl 64, .b, .sl 114] :: []⟩))) (.s .n (.s (.s .n (.b (.s .n (.c (.s .n (.s (.s .n (.c .n .n (some ⟨ou :: .one (.ptr 0 0) :: ou :: os :: uu 99 [], .var 38 [.i .i64, .b, .s, .s, .sl 9, .sl 59, .sl 70, .sl 62, .sl 64, .b, .sl 114] :: []⟩))) .n)) (.s .n (.c .n .n (some ⟨ou :: .one (.ptr 0 0) :: ou :: os :: uu 99 [], .var 38 [.i .i64, .b, .s, .s, .sl 9, .sl 59, .sl 70, .sl 62, .sl 64, .b, .sl 114] :: []⟩))) (some ⟨ou :: .one (.ptr 0 0) :: ou :: os :: uu 99 [], .var 38 [.i .i64, .b, .s, .s, .sl 9, .sl 59, .sl 70, .sl 62, .sl 64, .b, .sl 114] :: []⟩))) ⟨ou :: .one (.ptr 0 0) :: ou :: os :: uu 99 [], .var 38 [.i .i64, .b, .s, .s, .sl 9, .sl 59, .sl 70, .sl 62, .sl 64, .b, .sl 114] :: []⟩)) (.s (.s (.r [] (some ⟨ou :: .one (.ptr 0 0) :: ou :: os :: uu 61 (ob :: uu 37 []), .var 38 [.i .i64, .b, .s, .s, .sl 9, .sl 59, .sl 70, .sl 62, .sl 64, .b, .sl 114] :: []⟩)) (.c .n .n (some ⟨ou :: .one (.ptr 0 0) :: ou :: os :: uu 99 [], .var 38 [.i .i64, .b, .s, .s, .sl 9, .sl 59, .sl 70, .sl 62, .sl 64, .b, .sl 114] :: []⟩))) (.s .n (.s (.s (.r [] (some ⟨ou :: .one (.ptr 0 0) :: ou :: os :: uu 81 (ob :: uu 17 []), .var 38 [.i .i64, .b, .s, .s, .sl 9, .sl 59, .sl 70, .sl 62, .sl 64, .b, .sl 114] :: []⟩)) (.c .n .n (some ⟨ou :: .one (.ptr 0 0) :: ou :: os :: uu 99 [], .var 38 [.i .i64, .b, .s, .s, .sl 9, .sl 59, .sl 70, .sl 62, .sl 64, .b, .sl 114] :: []⟩))) (.s (.s .n (.s .n (.c .n .n (some ⟨uu 3 (os :: uu 99 []), .u :: []⟩)))) .n)))))))))))
noncomputable def fi8 : FI := mkFI Tryz.f8 2 [.ag [.i .i64, .b, .s, .s, .sl 9, .sl 59, .sl 70, .sl 62, .sl 64, .b, .sl 114], .ag [.i .i64, .b, .s, .s, .sl 9, .sl 59, .sl 70, .sl 62, .sl 64, .b, .sl 114]] [(false, [.ct .b])] (fun _ => (.s (.r [0, 1, 0] none) .n))
noncomputable def fi9 : FI := mkFI Tryz.f9 0 [.ct (.sl 9), .ct (.i .i64)] [(false, [.ct (.i .i64)])] (fun _ => (.s .n (.s .n (.s .n (.s (.s .n (.b (.b (.s .n (.s (.b .n ⟨ol 9 :: oi :: uu 3 (oi :: uu 22 []), []⟩) .n)) ⟨ol 9 :: oi :: uu 3 (oi :: uu 22 []), []⟩) ⟨ou :: oi :: uu 26 [], []⟩)) .n)))))
noncomputable def fi10 : FI := mkFI Tryz.f10 0 [.ct (.sl 91), .ct (.i .i64)] [(false, [.ct (.i .i64)])] (fun _ => (.s .n (.s .n (.s .n (.s (.s .n (.b (.b (.s .n (.s (.b .n ⟨ol 91 :: oi :: uu 3 (oi :: uu 21 []), []⟩) .n)) ⟨ol 91 :: oi :: uu 3 (oi :: uu 21 []), []⟩) ⟨ou :: oi :: uu 25 [], []⟩)) .n)))))
noncomputable def fi11 : FI := mkFI Tryz.f11 0 [.ct (.sl 97), .ct (.i .i64)] [(false, [.ct (.i .i64)])] (fun _ => (.s .n (.s .n (.s .n (.s (.s .n (.b (.b (.s .n (.s (.b .n ⟨ol 97 :: oi :: uu 3 (oi :: uu 21 []), []⟩) .n)) ⟨ol 97 :: oi :: uu 3 (oi :: uu 21 []), []⟩) ⟨ou :: oi :: uu 25 [], []⟩)) .n)))))
noncomputable def fi12 : FI := mkFI Tryz.f12 0 [.ct (.sl 100), .ct (.i .i64)] [(false, [.ct (.i .i64)])] (fun _ => (.s .n (.s .n (.s .n (.s (.s .n (.b (.b (.s .n (.s (.b .n ⟨ol 100 :: oi :: uu 3 (oi :: uu 21 []), []⟩) .n)) ⟨ol 100 :: oi :: uu 3 (oi :: uu 21 []), []⟩) ⟨ou :: oi :: uu 25 [], []⟩)) .n)))))
noncomputable def fi13 : FI := mkFI Tryz.f13 0 [.ct (.sl 102), .ct (.i .i64)] [(false, [.ct (.i .i64)])] (fun _ => (.s .n (.s .n (.s .n (.s (.s .n (.b (.b (.s .n (.s (.b .n ⟨ol 102 :: oi :: uu 3 (oi :: uu 21 []), []⟩) .n)) ⟨ol 102 :: oi :: uu 3 (oi :: uu 21 []), []⟩) ⟨ou :: oi :: uu 25 [], []⟩)) .n)))))
noncomputable def fi14 : FI := mkFI Tryz.f14 0 [.ct (.sl 106), .ct (.i .i64)] [(false, [.ct (.i .i64)])] (fun _ => (.s .n (.s .n (.s .n (.s (.s .n (.b (.b (.s .n (.s (.b .n ⟨ol 106 :: oi :: uu 3 (oi :: uu 21 []), []⟩) .n)) ⟨ol 106 :: oi :: uu 3 (oi :: uu 21 []), []⟩) ⟨ou :: oi :: uu 25 [], []⟩)) .n)))))
noncomputable def fi25 : FI := mkFI Tryz.f25 4 [.ct (.sl 9)] [(false, [.ct (.sl 9)])] (fun _ => (.s .n (.s (.r [0, 0, 0, 0] none) (.s (.s .n (.b (.b (.s .n (.s (.b .n ⟨ol 9 :: ou :: ou :: .one (.own 9 2) :: oi :: uu 17 [], vv 4 []⟩) .n)) ⟨ol 9 :: ou :: ou :: .one (.own 9 1) :: oi :: uu 17 [], vv 4 []⟩) ⟨uu 3 (.one (.own 9 3) :: uu 18 []), vv 4 []⟩)) .n))))
noncomputable def fi26 : FI := mkFI Tryz.f26 4 [.ct (.sl 91)] [(false, [.ct (.sl 59)])] (fun _ => (.s .n (.s (.r [0, 0, 0, 0] none) (.s (.s .n (.b (.b (.s .n (.s (.b .n ⟨ol 91 :: ou :: ou :: .one (.own 59 2) :: oi :: uu 18 [], vv 4 []⟩) .n)) ⟨ol 91 :: ou :: ou :: .one (.own 59 1) :: oi :: uu 18 [], vv 4 []⟩) ⟨uu 3 (.one (.own 59 3) :: uu 19 []), vv 4 []⟩)) .n))))
noncomputable def fi27 : FI := mkFI Tryz.f27 4 [.ct (.sl 97)] [(false, [.ct (.sl 70)])] (fun _ => (.s .n (.s (.r [0, 0, 0, 0] none) (.s (.s .n (.b (.b (.s .n (.s (.b .n ⟨ol 97 :: ou :: ou :: .one (.own 70 2) :: oi :: uu 18 [], vv 4 []⟩) .n)) ⟨ol 97 :: ou :: ou :: .one (.own 70 1) :: oi :: uu 18 [], vv 4 []⟩) ⟨uu 3 (.one (.own 70 3) :: uu 19 []), vv 4 []⟩)) .n))))
noncomputable def fi28 : FI := mkFI Tryz.f28 4 [.ct (.sl 100)] [(false, [.ct (.sl 62)])] (fun _ => (.s .n (.s (.r [0, 0, 0, 0] none) (.s (.s .n (.b (.b (.s .n (.s (.b .n ⟨ol 100 :: ou :: ou :: .one (.own 62 2) :: oi :: uu 18 [], vv 4 []⟩) .n)) ⟨ol 100 :: ou :: ou :: .one (.own 62 1) :: oi :: uu 18 [], vv 4 []⟩) ⟨uu 3 (.one (.own 62 3) :: uu 19 []), vv 4 []⟩)) .n))))
noncomputable def fi29 : FI := mkFI Tryz.f29 4 [.ct (.sl 102)] [(false, [.ct (.sl 64)])] (fun _ => (.s .n (.s (.r [0, 0, 0, 0] none) (.s (.s .n (.b (.b (.s .n (.s (.b .n ⟨ol 102 :: ou :: ou :: .one (.own 64 2) :: oi :: uu 18 [], vv 4 []⟩) .n)) ⟨ol 102 :: ou :: ou :: .one (.own 64 1) :: oi :: uu 18 [], vv 4 []⟩) ⟨uu 3 (.one (.own 64 3) :: uu 19 []), vv 4 []⟩)) .n))))
noncomputable def fi30 : FI := mkFI Tryz.f30 4 [.ct (.sl 106)] [(false, [.ct (.sl 114)])] (fun _ => (.s .n (.s (.r [0, 0, 0, 0] none) (.s (.s .n (.b (.b (.s .n (.s (.b .n ⟨ol 106 :: ou :: ou :: .one (.own 114 2) :: oi :: uu 18 [], vv 4 []⟩) .n)) ⟨ol 106 :: ou :: ou :: .one (.own 114 1) :: oi :: uu 18 [], vv 4 []⟩) ⟨uu 3 (.one (.own 114 3) :: uu 19 []), vv 4 []⟩)) .n))))
noncomputable def fi15 : FI := mkFI Tryz.f15 2 [.ag [.i .i64, .b, .s, .s, .sl 9, .sl 59, .sl 70, .sl 62, .sl 64, .b, .sl 114]] [(false, [.ct .b])] (fun _ => (.s (.r [0, 0] none) (.s (.s (.r [] (some ⟨ou :: .one (.ptr 0 0) :: uu 57 (ob :: uu 86 []), .var 38 [.i .i64, .b, .s, .s, .sl 9, .sl 59, .sl 70, .sl 62, .sl 64, .b, .sl 114] :: .u :: []⟩)) .n) (.s (.s .n (.b (.b (.s .n (.s (.b .n ⟨ou :: .one (.ptr 0 0) :: ou :: oi :: uu 142 [], .var 38 [.i .i64, .b, .s, .s, .sl 9, .sl 59, .sl 70, .sl 62, .sl 64, .b, .sl 114] :: .u :: []⟩) .n)) ⟨ou :: .one (.ptr 0 0) :: ou :: oi :: uu 142 [], .var 38 [.i .i64, .b, .s, .s, .sl 9, .sl 59, .sl 70, .sl 62, .sl 64, .b, .sl 114] :: .u :: []⟩) ⟨ou :: .one (.ptr 0 0) :: uu 144 [], .var 38 [.i .i64, .b, .s, .s, .sl 9, .sl 59, .sl 70, .sl 62, .sl 64, .b, .sl 114] :: .u :: []⟩)) (.s (.s .n (.b (.b (.s .n (.s (.b .n ⟨ou :: .one (.ptr 0 0) :: ou :: ou :: oi :: uu 141 [], .var 38 [.i .i64, .b, .s, .s, .sl 9, .sl 59, .sl 70, .sl 62, .sl 64, .b, .sl 114] :: .u :: []⟩) .n)) ⟨ou :: .one (.ptr 0 0) :: ou :: ou :: oi :: uu 141 [], .var 38 [.i .i64, .b, .s, .s, .sl 9, .sl 59, .sl 70, .sl 62, .sl 64, .b, .sl 114] :: .u :: []⟩) ⟨ou :: .one (.ptr 0 0) :: uu 144 [], .var 38 [.i .i64, .b, .s, .s, .sl 9, .sl 59, .sl 70, .sl 62, .sl 64, .b, .sl 114] :: .u :: []⟩)) (.s (.s .n (.b (.b (.s .n (.s (.b (.s (.r [0, 0, 0, 0, 0, 1, 0] none) (.s (.r [] (some ⟨ou :: .one (.ptr 0 0) :: uu 3 (oi :: uu 114 (ob :: uu 25 [])), .var 38 [.i .i64, .b, .s, .s, .sl 9, .sl 59, .sl 70, .sl 62, .sl 64, .b, .sl 114] :: .u :: []⟩)) .n)) ⟨ou :: .one (.ptr 0 0) :: uu 3 (oi :: uu 140 []), .var 38 [.i .i64, .b, .s, .s, .sl 9, .sl 59, .sl 70, .sl 62, .sl 64, .b, .sl 114] :: .u :: []⟩) .n)) ⟨ou :: .one (.ptr 0 0) :: uu 3 (oi :: uu 140 []), .var 38 [.i .i64, .b, .s, .s, .sl 9, .sl 59, .sl 70, .sl 62, .sl 64, .b, .sl 114] :: .u :: []⟩) ⟨ou :: .one (.ptr 0 0) :: uu 144 [], .var 38 [.i .i64, .b, .s, .s, .sl 9, .sl 59, .sl 70, .sl 62, .sl 64, .b, .sl 114] :: .u :: []⟩)) (.s (.s .n (.b (.b (.s .n (.s (.b (.s (.r [] (some ⟨ou :: .one (.ptr 0 0) :: uu 5 (oi :: uu 137 (ob :: [])), .var 38 [.i .i64, .b, .s, .s, .sl 9, .sl 59, .sl 70, .sl 62, .sl 64, .b, .sl 114] :: .u :: []⟩)) .n) ⟨ou :: .one (.ptr 0 0) :: uu 5 (oi :: uu 138 []), .var 38 [.i .i64, .b, .s, .s, .sl 9, .sl 59, .sl 70, .sl 62, .sl 64, .b, .sl 114] :: .u :: []⟩) .n)) ⟨ou :: .one (.ptr 0 0) :: uu 5 (oi :: uu 138 []), .var 38 [.i .i64, .b, .s, .s, .sl 9, .sl 59, .sl 70, .sl 62, .sl 64, .b, .sl 114] :: .u :: []⟩) ⟨uu 146 [], .u :: .u :: []⟩)) .n)))))))
noncomputable def fi16 : FI := mkFI Tryz.f16 0 [.ct .s] [(false, [.ct .s])] (fun _ => (.s .n (.s (.s (.r [] (some ⟨os :: uu 12 (ob :: uu 71 []), []⟩)) .n) (.s .n (.s (.s .n (.b (.b (.s .n (.s (.b (.s .n (.b (.s (.r [] (some ⟨os :: ou :: ou :: os :: oi :: .one (.i .u8) :: uu 24 (ob :: uu 54 []), []⟩)) (.c .n (.s .n (.c .n (.s .n (.c .n (.s .n (.c .n (.s .n (.c .n (.s .n (.c .n (.s (.r [] (some ⟨os :: ou :: ou :: os :: oi :: .one (.i .u8) :: uu 64 (ob :: uu 14 []), []⟩)) (.c .n .n (some ⟨os :: ou :: ou :: os :: oi :: uu 80 [], []⟩))) (some ⟨os :: ou :: ou :: os :: oi :: uu 80 [], []⟩))) (some ⟨os :: ou :: ou :: os :: oi :: uu 80 [], []⟩))) (some ⟨os :: ou :: ou :: os :: oi :: uu 80 [], []⟩))) (some ⟨os :: ou :: ou :: os :: oi :: uu 80 [], []⟩))) (some ⟨os :: ou :: ou :: os :: oi :: uu 80 [], []⟩))) (some ⟨os :: ou :: ou :: os :: oi :: uu 80 [], []⟩))) ⟨os :: ou :: ou :: os :: oi :: uu 80 [], []⟩)) ⟨os :: ou :: ou :: os :: oi :: uu 80 [], []⟩) .n)) ⟨os :: ou :: ou :: os :: oi :: uu 80 [], []⟩) ⟨uu 3 (os :: uu 81 []), []⟩)) .n)))))
noncomputable def fi17 : FI := mkFI Tryz.f17 1 [.ct (.i .i64)] [(false, [.ct .s])] (fun _ => (.s .n (.s (.r [0, 0, 0, 0, 0] none) .n)))
noncomputable def fi18 : FI := mkFI Tryz.f18 13 [.mv 5, .ct (.sl 70)] [(false, [.new 5])] (fun _ => (.s .n (.s (.s .n (.b (.b (.s .n (.s (.b (.s (.s .n (.c (.r [0, 2, 3, 0] none) (.r [0, 4, 5, 0] none) (some ⟨.one (.own 5 6) :: ol 70 :: uu 3 (oi :: uu 27 []), vv 13 []⟩))) (.r [0, 0, 0, 0, 0, 7, 0] none)) ⟨.one (.own 5 8) :: ol 70 :: uu 3 (oi :: uu 27 []), vv 13 []⟩) .n)) ⟨.one (.own 5 1) :: ol 70 :: uu 3 (oi :: uu 27 []), vv 13 []⟩) ⟨.one (.own 5 9) :: ol 70 :: uu 31 [], vv 13 []⟩)) (.s (.s .n (.c (.r [0, 10, 11, 0] none) .n (some ⟨.one (.own 5 12) :: uu 32 [], vv 13 []⟩))) .n))))
noncomputable def fi19 : FI := mkFI Tryz.f19 7 [.mv 5, .ct (.sl 9), .ct .s] [(false, [.new 5])] (fun _ => (.s .n (.s (.s .n (.b (.b (.s .n (.s (.b (.s (.s .n (.c (.r [0, 0, 2, 0] none) .n (some ⟨.one (.own 5 3) :: ol 9 :: os :: uu 4 (oi :: uu 18 []), vv 7 []⟩))) (.r [0, 0, 0, 0, 0, 4, 0] none)) ⟨.one (.own 5 5) :: ol 9 :: os :: uu 4 (oi :: uu 18 []), vv 7 []⟩) .n)) ⟨.one (.own 5 1) :: ol 9 :: os :: uu 4 (oi :: uu 18 []), vv 7 []⟩) ⟨.one (.own 5 6) :: uu 25 [], vv 7 []⟩)) .n)))
noncomputable def fi20 : FI := mkFI Tryz.f20 8 [.mv 5, .ct (.sl 114)] [(false, [.new 5])] (fun _ => (.s .n (.s (.s .n (.b (.b (.s .n (.s (.b (.s (.r [0, 2, 3, 0, 0, 0, 0, 0, 4, 0] none) (.r [0, 0, 0, 0, 0, 0, 5, 0] none)) ⟨.one (.own 5 6) :: ol 114 :: uu 3 (oi :: uu 23 []), vv 8 []⟩) .n)) ⟨.one (.own 5 1) :: ol 114 :: uu 3 (oi :: uu 23 []), vv 8 []⟩) ⟨.one (.own 5 7) :: uu 28 [], vv 8 []⟩)) .n)))
noncomputable def fi21 : FI := mkFI Tryz.f21 11 [.mv 5, .ag [.s, .s, .sl 70, .s, .s, .sl 114]] [(false, [.new 5])] (fun _ => (.s (.r [1, 0] none) (.s (.r [0, 0, 0, 2, 0, 0, 3, 0] none) (.s (.r [0, 0, 0, 4, 5, 6, 0, 0, 0, 7, 0] none) (.s (.r [0, 0, 0, 8, 9, 10, 0] none) .n)))))
noncomputable def fi22 : FI := mkFI Tryz.f22 9 [.mv 5, .ct .s] [(false, [.new 5])] (fun _ => (.s .n (.s (.s .n (.c (.r [0, 1, 2, 0, 0, 3, 4, 5, 0] none) .n (some ⟨.one (.own 5 6) :: uu 17 [], vv 9 []⟩))) (.s (.r [0, 7, 8, 0] none) .n))))
noncomputable def fi23 : FI := mkFI Tryz.f23 0 [.ct (.i .i64)] [(false, [.ct .s])] (fun _ => (.s .n (.s (.s .n (.b .n ⟨uu 10 [], []⟩)) .n)))
noncomputable def fi24 : FI := mkFI Tryz.f24 14 [.mv 5, .ag [.s, .s, .s, .s, .b, .i .i64, .s, .sl 68, .sl 9, .sl 114]] [(false, [.new 5])] (fun _ => (.s (.r [1, 0] none) (.s (.s .n (.c (.r [0, 0, 0, 0, 2, 3, 4, 0] none) .n (some ⟨.one (.own 5 5) :: ou :: ou :: .one (.ptr 1 0) :: uu 32 [], .u :: .var 70 [.s, .s, .s, .s, .b, .i .i64, .s, .sl 68, .sl 9, .sl 114] :: vv 12 []⟩))) (.s (.r [0, 0, 0, 6, 7, 8, 0, 0, 0, 9, 0] none) (.s (.s .n (.c (.r [0, 10, 0, 0, 11, 0] none) .n (some ⟨.one (.own 5 12) :: ou :: ou :: .one (.ptr 1 0) :: uu 32 [], .u :: .var 70 [.s, .s, .s, .s, .b, .i .i64, .s, .sl 68, .sl 9, .sl 114] :: vv 12 []⟩))) (.s (.r [0, 0, 0, 13, 0] none) .n))))))
noncomputable def fi31 : FI := mkFI Tryz.f31 1 [.ag [.i .i64, .b, .s, .s, .sl 9, .sl 59, .sl 70, .sl 62, .sl 64, .b, .sl 114]] [(false, [.ct .b])] (fun _ => (.s (.r [0, 0] none) (.s (.s (.r [] (some ⟨ou :: .one (.ptr 0 0) :: uu 34 (ob :: uu 42 []), .var 38 [.i .i64, .b, .s, .s, .sl 9, .sl 59, .sl 70, .sl 62, .sl 64, .b, .sl 114] :: []⟩)) .n) (.s (.s .n (.b (.s .n (.c (.s (.r [] (some ⟨ou :: ou :: ob :: uu 76 [], .u :: []⟩)) .n) (.s .n (.c (.s (.r [] (some ⟨ou :: ou :: ob :: uu 76 [], .u :: []⟩)) .n) .n none)) none)) ⟨ou :: .one (.ptr 0 0) :: uu 77 [], .var 38 [.i .i64, .b, .s, .s, .sl 9, .sl 59, .sl 70, .sl 62, .sl 64, .b, .sl 114] :: []⟩)) .n))))
noncomputable def fi32 : FI := mkFI Tryz.f32 0 [.ct .s, .ct .s] [(false, [.ct .s])] (fun _ => .n)
noncomputable def fi33 : FI := mkFI Tryz.f33 1 [] [(false, [.ct (.sl 9)])] (fun _ => (.s .n (.s (.r [0, 0] none) .n)))
noncomputable def fi34 : FI := mkFI Tryz.f34 7 [.ct (.sl 70)] [(false, [.ct .s])] (fun _ => (.s .n (.s .n (.s (.r [0, 0] none) (.s (.s .n (.b (.b (.s .n (.s .n (.s (.b (.s (.r [0, 0, 2, 0] none) (.r [0, 0, 0, 3, 4, 0] none)) ⟨uu 3 (.one (.own 9 5) :: uu 6 (ol 70 :: oi :: oi :: uu 13 [])), vv 7 []⟩) .n))) ⟨uu 3 (.one (.own 9 1) :: uu 6 (ol 70 :: oi :: oi :: uu 13 [])), vv 7 []⟩) ⟨uu 3 (.one (.own 9 6) :: uu 22 []), vv 7 []⟩)) .n)))))
noncomputable def fi35 : FI := { mkFI Tryz.f35 0 [.ct (.sl 9), .ct .s] [(false, [.ct .s])] (fun _ => .n) with prim := some (primW 9 qJoin) }
noncomputable def fi36 : FI := mkFI Tryz.f36 1 [.ct (.sl 114)] [(false, [.ct .s])] (fun _ => (.s .n (.s .n (.s .n (.s (.s .n (.b (.b (.s .n (.s .n (.s (.b (.s (.r [0, 0, 0, 0] none) .n) ⟨uu 3 (os :: uu 5 (ol 114 :: oi :: oi :: uu 14 [])), .u :: []⟩) .n))) ⟨uu 3 (os :: uu 5 (ol 114 :: oi :: oi :: uu 14 [])), .u :: []⟩) ⟨uu 3 (os :: uu 22 []), .u :: []⟩)) .n)))))
noncomputable def fi37 : FI := mkFI Tryz.f37 5 [.ag [.i .i64, .b, .s, .s, .sl 9, .sl 59, .sl 70, .sl 62, .sl 64, .b, .sl 114]] [(false, [.ct .s])] (fun _ => (.s (.r [0, 0] none) (.s .n (.s (.s .n (.b (.b (.s .n (.s .n (.s (.b (.s (.r [0, 0, 1, 0] none) .n) ⟨ou :: .one (.ptr 0 0) :: ou :: os :: uu 9 (ol 59 :: oi :: oi :: uu 67 []), .var 38 [.i .i64, .b, .s, .s, .sl 9, .sl 59, .sl 70, .sl 62, .sl 64, .b, .sl 114] :: vv 4 []⟩) .n))) ⟨ou :: .one (.ptr 0 0) :: ou :: os :: uu 9 (ol 59 :: oi :: oi :: uu 67 []), .var 38 [.i .i64, .b, .s, .s, .sl 9, .sl 59, .sl 70, .sl 62, .sl 64, .b, .sl 114] :: vv 4 []⟩) ⟨ou :: .one (.ptr 0 0) :: ou :: os :: uu 79 [], .var 38 [.i .i64, .b, .s, .s, .sl 9, .sl 59, .sl 70, .sl 62, .sl 64, .b, .sl 114] :: vv 4 []⟩)) (.s (.s .n (.b (.b (.s .n (.s .n (.s (.b (.s (.r [0, 0, 2, 0] none) .n) ⟨ou :: .one (.ptr 0 0) :: ou :: os :: uu 21 (ol 62 :: oi :: oi :: uu 55 []), .var 38 [.i .i64, .b, .s, .s, .sl 9, .sl 59, .sl 70, .sl 62, .sl 64, .b, .sl 114] :: vv 4 []⟩) .n))) ⟨ou :: .one (.ptr 0 0) :: ou :: os :: uu 21 (ol 62 :: oi :: oi :: uu 55 []), .var 38 [.i .i64, .b, .s, .s, .sl 9, .sl 59, .sl 70, .sl 62, .sl 64, .b, .sl 114] :: vv 4 []⟩) ⟨ou :: .one (.ptr 0 0) :: ou :: os :: uu 79 [], .var 38 [.i .i64, .b, .s, .s, .sl 9, .sl 59, .sl 70, .sl 62, .sl 64, .b, .sl 114] :: vv 4 []⟩)) (.s (.s .n (.b (.b (.s .n (.s .n (.s (.b (.s (.r [0, 0, 3, 0] none) .n) ⟨ou :: .one (.ptr 0 0) :: ou :: os :: uu 43 (ol 64 :: oi :: oi :: uu 33 []), .var 38 [.i .i64, .b, .s, .s, .sl 9, .sl 59, .sl 70, .sl 62, .sl 64, .b, .sl 114] :: vv 4 []⟩) .n))) ⟨ou :: .one (.ptr 0 0) :: ou :: os :: uu 43 (ol 64 :: oi :: oi :: uu 33 []), .var 38 [.i .i64, .b, .s, .s, .sl 9, .sl 59, .sl 70, .sl 62, .sl 64, .b, .sl 114] :: vv 4 []⟩) ⟨ou :: .one (.ptr 0 0) :: ou :: os :: uu 79 [], .var 38 [.i .i64, .b, .s, .s, .sl 9, .sl 59, .sl 70, .sl 62, .sl 64, .b, .sl 114] :: vv 4 []⟩)) (.s (.s .n (.c (.s .n (.b (.b (.s .n (.s .n (.s (.b (.s (.r [0, 0, 4, 0] none) .n) ⟨uu 3 (os :: uu 65 (ol 70 :: oi :: oi :: uu 11 [])), vv 5 []⟩) .n))) ⟨uu 3 (os :: uu 65 (ol 70 :: oi :: oi :: uu 11 [])), vv 5 []⟩) ⟨uu 3 (os :: uu 79 []), vv 5 []⟩)) .n (some ⟨uu 3 (os :: uu 79 []), vv 5 []⟩))) .n)))))))
noncomputable def fi38 : FI := mkFI Tryz.f38 0 [.ct (.sl 9), .ct (.sl 9)] [(false, [.ct .b])] (fun _ => (.s .n (.s .n (.s (.s .n (.b (.b (.s .n (.s (.b .n ⟨ol 9 :: ol 9 :: uu 3 (oi :: uu 20 []), []⟩) .n)) ⟨ol 9 :: ol 9 :: uu 3 (oi :: uu 20 []), []⟩) ⟨uu 26 [], []⟩)) .n))))
noncomputable def fi39 : FI := mkFI Tryz.f39 0 [.ct (.sl 59), .ct (.sl 59)] [(false, [.ct .b])] (fun _ => (.s .n (.s .n (.s (.s .n (.b (.b (.s .n (.s (.b .n ⟨ol 59 :: ol 59 :: uu 3 (oi :: uu 21 []), []⟩) .n)) ⟨ol 59 :: ol 59 :: uu 3 (oi :: uu 21 []), []⟩) ⟨uu 27 [], []⟩)) .n))))
noncomputable def fi40 : FI := mkFI Tryz.f40 0 [.ct (.sl 70), .ct (.sl 70)] [(false, [.ct .b])] (fun _ => (.s .n (.s .n (.s (.s .n (.b (.b (.s .n (.s (.b .n ⟨ol 70 :: ol 70 :: uu 3 (oi :: uu 21 []), []⟩) .n)) ⟨ol 70 :: ol 70 :: uu 3 (oi :: uu 21 []), []⟩) ⟨uu 27 [], []⟩)) .n))))
noncomputable def fi41 : FI := mkFI Tryz.f41 0 [.ct (.sl 62), .ct (.sl 62)] [(false, [.ct .b])] (fun _ => (.s .n (.s .n (.s (.s .n (.b (.b (.s .n (.s (.b .n ⟨ol 62 :: ol 62 :: uu 3 (oi :: uu 21 []), []⟩) .n)) ⟨ol 62 :: ol 62 :: uu 3 (oi :: uu 21 []), []⟩) ⟨uu 27 [], []⟩)) .n))))
noncomputable def fi42 : FI := mkFI Tryz.f42 0 [.ct (.sl 64), .ct (.sl 64)] [(false, [.ct .b])] (fun _ => (.s .n (.s .n (.s (.s .n (.b (.b (.s .n (.s (.b .n ⟨ol 64 :: ol 64 :: uu 3 (oi :: uu 21 []), []⟩) .n)) ⟨ol 64 :: ol 64 :: uu 3 (oi :: uu 21 []), []⟩) ⟨uu 27 [], []⟩)) .n))))
noncomputable def fi43 : FI := mkFI Tryz.f43 0 [.ct (.sl 114), .ct (.sl 114)] [(false, [.ct .b])] (fun _ => (.s .n (.s .n (.s (.s .n (.b (.b (.s .n (.s (.b .n ⟨ol 114 :: ol 114 :: uu 3 (oi :: uu 21 []), []⟩) .n)) ⟨ol 114 :: ol 114 :: uu 3 (oi :: uu 21 []), []⟩) ⟨uu 27 [], []⟩)) .n))))
noncomputable def fi44 : FI := mkFI Tryz.f44 1 [.ag [.s, .s, .sl 97, .s, .s, .sl 106], .ct (.i .i64)] [(false, [.ct (.i .i64)])] (fun _ => (.s (.r [0, 0] none) .n))
noncomputable def fi45 : FI := mkFI Tryz.f45 1 [.ag [.s, .s, .s, .s, .b, .i .i64, .s, .sl 95, .sl 9, .sl 106], .ct (.i .i64)] [(false, [.ct (.i .i64)])] (fun _ => (.s (.r [0, 0] none) .n))
noncomputable def fi46 : FI := mkFI Tryz.f46 1 [.ag [.s, .s, .sl 106], .ct (.i .i64)] [(false, [.ct (.i .i64)])] (fun _ => (.s (.r [0, 0] none) .n))
noncomputable def fi47 : FI := mkFI Tryz.f47 1 [.ag [.i .i64, .s], .ct (.i .i64)] [(false, [.ct (.i .i64)])] (fun _ => (.s (.r [0, 0] none) .n))
noncomputable def fi48 : FI := mkFI Tryz.f48 1 [.ag [.s, .sl 175], .ct (.i .i64)] [(false, [.ct (.i .i64)])] (fun _ => (.s (.r [0, 0] none) .n))
noncomputable def fi63 : FI := mkFI Tryz.f63 3 [.ag [.s, .s, .sl 97, .s, .s, .sl 106]] [(true, [.ct .s, .ct .s, .ct (.sl 70), .ct .s, .ct .s, .ct (.sl 114)])] (fun _ => (.s (.r [0, 1] none) (.s (.r [2] none) .n)))
noncomputable def fi64 : FI := mkFI Tryz.f64 3 [.ag [.s, .s, .s, .s, .b, .i .i64, .s, .sl 95, .sl 9, .sl 106]] [(true, [.ct .s, .ct .s, .ct .s, .ct .s, .ct .b, .ct (.i .i64), .ct .s, .ct (.sl 68), .ct (.sl 9), .ct (.sl 114)])] (fun _ => (.s (.r [0, 1] none) (.s (.r [2] none) .n)))
noncomputable def fi65 : FI := mkFI Tryz.f65 3 [.ag [.s, .s, .sl 106]] [(true, [.ct .s, .ct .s, .ct (.sl 114)])] (fun _ => (.s (.r [0, 1] none) (.s (.r [2] none) .n)))
noncomputable def fi66 : FI := mkFI Tryz.f66 3 [.ag [.i .i64, .s]] [(true, [.ct (.i .i64), .ct .s])] (fun _ => (.s (.r [0, 1] none) (.s (.r [2] none) .n)))
noncomputable def fi67 : FI := mkFI Tryz.f67 3 [.ag [.s, .sl 175]] [(true, [.ct .s, .ct (.sl 148)])] (fun _ => (.s (.r [0, 1] none) (.s (.r [2] none) .n)))
noncomputable def fi49 : FI := mkFI Tryz.f49 0 [.ct (.i .i64), .ct (.i .i64), .ct (.i .i64)] [(false, [.ct .b])] (fun _ => (.s .n (.s (.r [] (some ⟨uu 6 (ob :: uu 8 []), []⟩)) .n)))
noncomputable def fi50 : FI := mkFI Tryz.f50 0 [.ct .s] [(false, [.ct .b])] (fun _ => (.s .n (.s (.r [] (some ⟨ou :: ou :: ob :: uu 7 [], []⟩)) .n)))
noncomputable def fi51 : FI := mkFI Tryz.f51 1 [.ag [.i .i64, .b, .s, .s, .sl 9, .sl 59, .sl 70, .sl 62, .sl 64, .b, .sl 114]] [(false, [.ct .b])] (fun _ => (.s (.r [0, 0] none) .n))
noncomputable def fi52 : FI := mkFI Tryz.f52 1 [.ag [.i .i64, .b, .s, .s, .sl 9, .sl 59, .sl 70, .sl 62, .sl 64, .b, .sl 114]] [(false, [.ct .b])] (fun _ => (.s (.r [0, 0] none) (.s .n (.s (.r [] (some ⟨ou :: .one (.ptr 0 0) :: ou :: oi :: ob :: uu 125 [], .var 38 [.i .i64, .b, .s, .s, .sl 9, .sl 59, .sl 70, .sl 62, .sl 64, .b, .sl 114] :: []⟩)) (.s (.s (.k [] [(8, ⟨ou :: .one (.ptr 0 0) :: ou :: oi :: ob :: uu 16 (ob :: uu 108 []), .var 38 [.i .i64, .b, .s, .s, .sl 9, .sl 59, .sl 70, .sl 62, .sl 64, .b, .sl 114] :: []⟩), (18, ⟨ou :: .one (.ptr 0 0) :: ou :: oi :: uu 35 (ob :: uu 90 []), .var 38 [.i .i64, .b, .s, .s, .sl 9, .sl 59, .sl 70, .sl 62, .sl 64, .b, .sl 114] :: []⟩), (14, ⟨ou :: .one (.ptr 0 0) :: ou :: oi :: uu 49 (ob :: uu 76 []), .var 38 [.i .i64, .b, .s, .s, .sl 9, .sl 59, .sl 70, .sl 62, .sl 64, .b, .sl 114] :: []⟩), (10, ⟨ou :: .one (.ptr 0 0) :: ou :: oi :: uu 59 (ob :: uu 66 []), .var 38 [.i .i64, .b, .s, .s, .sl 9, .sl 59, .sl 70, .sl 62, .sl 64, .b, .sl 114] :: []⟩), (10, ⟨ou :: .one (.ptr 0 0) :: ou :: oi :: uu 69 (ob :: uu 56 []), .var 38 [.i .i64, .b, .s, .s, .sl 9, .sl 59, .sl 70, .sl 62, .sl 64, .b, .sl 114] :: []⟩), (8, ⟨ou :: .one (.ptr 0 0) :: ou :: oi :: uu 77 (ob :: uu 48 []), .var 38 [.i .i64, .b, .s, .s, .sl 9, .sl 59, .sl 70, .sl 62, .sl 64, .b, .sl 114] :: []⟩)]) .n) (.s (.s .n (.c (.s (.s .n (.b (.b (.s .n (.s (.b .n ⟨ou :: .one (.ptr 0 0) :: uu 3 (oi :: uu 124 []), .var 38 [.i .i64, .b, .s, .s, .sl 9, .sl 59, .sl 70, .sl 62, .sl 64, .b, .sl 114] :: []⟩) .n)) ⟨ou :: .one (.ptr 0 0) :: uu 3 (oi :: uu 124 []), .var 38 [.i .i64, .b, .s, .s, .sl 9, .sl 59, .sl 70, .sl 62, .sl 64, .b, .sl 114] :: []⟩) ⟨ou :: .one (.ptr 0 0) :: uu 128 [], .var 38 [.i .i64, .b, .s, .s, .sl 9, .sl 59, .sl 70, .sl 62, .sl 64, .b, .sl 114] :: []⟩)) (.s (.r [] (some ⟨ou :: ou :: ob :: uu 127 [], .u :: []⟩)) .n)) .n none)) (.s (.r [] (some ⟨ou :: ou :: ob :: uu 127 [], .u :: []⟩)) .n)))))))
noncomputable def fi53 : FI := mkFI Tryz.f53 0 [.ct .s] [(false, [.ct .b])] (fun _ => (.s .n (.s (.s (.r [] (some ⟨os :: uu 15 (ob :: uu 18 []), []⟩)) .n) (.s (.s .n (.b (.b (.s .n (.s (.b (.s (.r [] (some ⟨os :: ou :: ou :: oi :: uu 30 (ob :: []), []⟩)) .n) ⟨os :: ou :: ou :: oi :: uu 31 [], []⟩) .n)) ⟨os :: ou :: ou :: oi :: uu 31 [], []⟩) ⟨uu 35 [], []⟩)) .n))))
noncomputable def fi54 : FI := mkFI Tryz.f54 0 [.ct (.sl 70)] [(false, [.ct .b])] (fun _ => (.s .n (.s (.s .n (.b (.b (.s .n (.s (.b .n ⟨ol 70 :: ou :: ou :: oi :: uu 12 [], []⟩) .n)) ⟨ol 70 :: ou :: ou :: oi :: uu 12 [], []⟩) ⟨uu 16 [], []⟩)) .n)))
noncomputable def fi55 : FI := mkFI Tryz.f55 0 [.ct (.sl 114)] [(false, [.ct .b])] (fun _ => (.s .n (.s (.s .n (.b (.b (.s .n (.s (.b (.s .n (.b (.b (.s .n (.s (.b .n ⟨ol 114 :: ou :: ou :: oi :: oi :: uu 29 [], []⟩) .n)) ⟨ol 114 :: ou :: ou :: oi :: oi :: uu 29 [], []⟩) ⟨ol 114 :: ou :: ou :: oi :: uu 30 [], []⟩)) ⟨ol 114 :: ou :: ou :: oi :: uu 30 [], []⟩) .n)) ⟨ol 114 :: ou :: ou :: oi :: uu 30 [], []⟩) ⟨ol 114 :: uu 33 [], []⟩)) .n)))
noncomputable def fi56 : FI := mkFI Tryz.f56 1 [.ag [.s, .s, .sl 70, .s, .s, .sl 114]] [(false, [.ct .b])] (fun _ => (.s (.r [0, 0] none) (.s (.r [] (some ⟨ou :: ou :: ob :: uu 23 [], .u :: []⟩)) .n)))
noncomputable def fi57 : FI := mkFI Tryz.f57 0 [.ct .s] [(false, [.ct .b])] (fun _ => (.s .n (.s (.r [] (some ⟨ou :: ou :: ob :: uu 10 [], []⟩)) .n)))
noncomputable def fi58 : FI := mkFI Tryz.f58 0 [.ct .s] [(false, [.ct .b])] (fun _ => (.s .n (.s (.s .n (.b (.b (.s .n (.b .n ⟨os :: ou :: ou :: oi :: uu 17 [], []⟩)) ⟨os :: ou :: ou :: oi :: uu 17 [], []⟩) ⟨uu 21 [], []⟩)) .n)))
noncomputable def fi59 : FI := mkFI Tryz.f59 1 [.ct (.i .i64)] [(false, [.ct .s])] (fun _ => (.s .n (.s .n (.s (.r [0, 0, 0, 0, 0, 0, 0, 0, 0, 0, 0, 0, 0, 0, 0, 0, 0, 0, 0, 0, 0, 0] none) .n))))
noncomputable def fi60 : FI := mkFI Tryz.f60 16 [.mv 5, .ct (.sl 148)] [(false, [.new 5])] (fun _ => (.s .n (.s (.s .n (.b (.b (.s .n (.s (.b (.s (.s .n (.c (.r [0, 2, 3, 0] none) (.r [0, 4, 5, 0] none) (some ⟨.one (.own 5 6) :: ol 148 :: uu 3 (oi :: uu 37 []), vv 16 []⟩))) (.s (.r [0, 0, 0, 0, 0, 0, 7, 8, 9, 0] none) (.r [0, 0, 0, 0, 0, 0, 10, 0] none))) ⟨.one (.own 5 11) :: ol 148 :: uu 3 (oi :: uu 37 []), vv 16 []⟩) .n)) ⟨.one (.own 5 1) :: ol 148 :: uu 3 (oi :: uu 37 []), vv 16 []⟩) ⟨.one (.own 5 12) :: ol 148 :: uu 41 [], vv 16 []⟩)) (.s (.s .n (.c (.r [0, 13, 14, 0] none) .n (some ⟨.one (.own 5 15) :: uu 42 [], vv 16 []⟩))) .n))))
noncomputable def fi61 : FI := mkFI Tryz.f61 1 [.ag [.s, .s]] [(false, [.ct .s])] (fun _ => (.s (.r [0, 0] none) (.s .n (.s .n (.s (.s .n (.b (.b (.s .n (.s (.b (.s .n (.c .n .n (some ⟨ou :: .one (.ptr 0 0) :: ou :: os :: oi :: uu 23 [], .var 57 [.s, .s] :: []⟩))) ⟨ou :: .one (.ptr 0 0) :: ou :: os :: oi :: uu 23 [], .var 57 [.s, .s] :: []⟩) .n)) ⟨ou :: .one (.ptr 0 0) :: ou :: os :: oi :: uu 23 [], .var 57 [.s, .s] :: []⟩) ⟨uu 3 (os :: uu 24 []), .u :: []⟩)) .n)))))
noncomputable def fi62 : FI := mkFI Tryz.f62 25 [.mv 5, .ag [.i .i64, .s, .sl 68, .sl 9]] [(false, [.new 5])] (fun _ => (.s (.r [1, 0] none) (.s (.s .n (.b (.s .n (.c (.s (.r [0, 2, 3, 0, 0, 4, 0] none) .n) (.s .n (.c (.s (.r [0, 0, 0, 0, 5, 0] none) .n) (.s (.s .n (.c .n .n (some ⟨.one (.own 5 6) :: ou :: ou :: .one (.ptr 1 0) :: uu 21 (ob :: uu 48 []), .u :: .var 68 [.i .i64, .s, .sl 68, .sl 9] :: vv 23 []⟩))) (.c (.s .n (.s (.s .n (.c .n .n (some ⟨.one (.own 5 7) :: ou :: ou :: .one (.ptr 1 0) :: ou :: .one (.i .u8) :: .one (.i .u8) :: uu 67 [], .u :: .var 68 [.i .i64, .s, .sl 68, .sl 9] :: vv 23 []⟩))) (.s (.r [0, 0, 8, 9, 0] none) (.s (.s .n (.b (.b (.s .n (.s (.b (.s (.s .n (.c (.r [0, 11, 12, 0] none) .n (some ⟨.one (.own 5 13) :: ou :: ou :: .one (.ptr 1 0) :: ou :: ou :: .one (.i .u8) :: oi :: uu 66 [], .u :: .var 68 [.i .i64, .s, .sl 68, .sl 9] :: vv 23 []⟩))) (.s (.s .n (.c (.r [0, 0, 0, 0, 0, 0, 14, 15, 16, 0] none) .n (some ⟨.one (.own 5 17) :: ou :: ou :: .one (.ptr 1 0) :: ou :: ou :: .one (.i .u8) :: oi :: uu 66 [], .u :: .var 68 [.i .i64, .s, .sl 68, .sl 9] :: vv 23 []⟩))) (.r [0, 0, 0, 0, 0, 0, 18, 0] none))) ⟨.one (.own 5 19) :: ou :: ou :: .one (.ptr 1 0) :: ou :: ou :: .one (.i .u8) :: oi :: uu 66 [], .u :: .var 68 [.i .i64, .s, .sl 68, .sl 9] :: vv 23 []⟩) .n)) ⟨.one (.own 5 10) :: ou :: ou :: .one (.ptr 1 0) :: ou :: ou :: .one (.i .u8) :: oi :: uu 66 [], .u :: .var 68 [.i .i64, .s, .sl 68, .sl 9] :: vv 23 []⟩) ⟨.one (.own 5 20) :: uu 5 (.one (.i .u8) :: uu 67 []), vv 25 []⟩)) (.s (.r [0, 0, 21, 22, 0] none) .n))))) .n none)) none)) none)) ⟨.one (.own 5 23) :: ou :: ou :: .one (.ptr 1 0) :: uu 70 [], .u :: .var 68 [.i .i64, .s, .sl 68, .sl 9] :: vv 23 []⟩)) (.s (.r [0, 0, 0, 24, 0] none) .n))))
noncomputable def fi68 : FI := mkFI Tryz.f68 0 [.ct (.i .i64), .ct (.i .i64), .ct (.i .i64)] [(false, [.ct .b])] (fun _ => (.s .n (.s (.r [] (some ⟨uu 6 (ob :: uu 8 []), []⟩)) .n)))
noncomputable def fi69 : FI := mkFI Tryz.f69 0 [.ct .s] [(false, [.ct .b])] (fun _ => (.s .n (.s (.r [] (some ⟨ou :: ou :: ob :: uu 7 [], []⟩)) .n)))
noncomputable def fi70 : FI := mkFI Tryz.f70 1 [.ag [.i .i64, .b, .s, .s, .sl 9, .sl 59, .sl 70, .sl 62, .sl 64, .b, .sl 114]] [(false, [.ct .b])] (fun _ => (.s (.r [0, 0] none) .n))
noncomputable def fi71 : FI := mkFI Tryz.f71 1 [.ag [.i .i64, .b, .s, .s, .sl 9, .sl 59, .sl 70, .sl 62, .sl 64, .b, .sl 114]] [(false, [.ct .b])] (fun _ => (.s (.r [0, 0] none) (.s (.r [] (some ⟨ou :: ou :: ob :: uu 32 [], .u :: []⟩)) .n)))
noncomputable def fi72 : FI := mkFI Tryz.f72 1 [.ag [.i .i64, .b, .s, .s, .sl 9, .sl 59, .sl 70, .sl 62, .sl 64, .b, .sl 114]] [(false, [.ct .b])] (fun _ => (.s (.r [0, 0] none) (.s .n (.s (.r [] (some ⟨ou :: .one (.ptr 0 0) :: ou :: oi :: ob :: uu 83 [], .var 38 [.i .i64, .b, .s, .s, .sl 9, .sl 59, .sl 70, .sl 62, .sl 64, .b, .sl 114] :: []⟩)) (.s (.s (.r [] (some ⟨ou :: .one (.ptr 0 0) :: ou :: oi :: uu 34 (ob :: uu 49 []), .var 38 [.i .i64, .b, .s, .s, .sl 9, .sl 59, .sl 70, .sl 62, .sl 64, .b, .sl 114] :: []⟩)) .n) (.s (.s (.r [] (some ⟨ou :: .one (.ptr 0 0) :: ou :: oi :: uu 56 (ob :: uu 27 []), .var 38 [.i .i64, .b, .s, .s, .sl 9, .sl 59, .sl 70, .sl 62, .sl 64, .b, .sl 114] :: []⟩)) .n) (.s (.r [] (some ⟨ou :: ou :: ob :: uu 85 [], .u :: []⟩)) .n)))))))
noncomputable def fi73 : FI := mkFI Tryz.f73 0 [.ct .s] [(false, [.ct .b])] (fun _ => (.s .n (.s (.s (.r [] (some ⟨os :: uu 11 (ob :: uu 11 []), []⟩)) .n) (.s (.s .n (.b (.b (.s .n (.s .n (.s (.b .n ⟨os :: uu 13 (oi :: oi :: uu 8 []), []⟩) .n))) ⟨os :: uu 13 (oi :: oi :: uu 8 []), []⟩) ⟨uu 24 [], []⟩)) .n))))
noncomputable def fi74 : FI := mkFI Tryz.f74 0 [.ct (.sl 9), .fn] [(false, [.ct .b])] (fun _ => .n)
noncomputable def fi77 : FI := mkFI Tryz.f77 16 [.ct .s] [(false, [.ct .s])] (fun _ => (.s .n (.s (.s (.r [] (some ⟨os :: uu 13 (ob :: uu 44 []), vv 16 []⟩)) .n) (.s (.r [0, 0] none) (.s (.s .n (.b (.b (.s .n (.s .n (.s (.b (.s .n (.s .n (.s .n (.b (.s .n (.c (.r [0, 0, 0, 2, 3, 0] none) (.s (.r [] (some ⟨os :: ou :: ou :: .one (.own 5 4) :: ou :: .one (.i .u8) :: uu 11 (oi :: oi :: uu 19 (ob :: uu 20 [])), vv 16 []⟩)) (.c (.r [0, 0, 0, 0, 0, 0, 0, 5, 6, 0] none) (.r [0, 0, 7, 8, 0] none) (some ⟨os :: ou :: ou :: .one (.own 5 9) :: uu 13 (oi :: oi :: uu 40 []), vv 16 []⟩))) (some ⟨os :: ou :: ou :: .one (.own 5 10) :: uu 13 (oi :: oi :: uu 40 []), vv 16 []⟩))) ⟨os :: ou :: ou :: .one (.own 5 11) :: uu 13 (oi :: oi :: uu 40 []), vv 16 []⟩)))) ⟨os :: ou :: ou :: .one (.own 5 12) :: uu 13 (oi :: oi :: uu 40 []), vv 16 []⟩) .n))) ⟨os :: ou :: ou :: .one (.own 5 1) :: uu 13 (oi :: oi :: uu 40 []), vv 16 []⟩) ⟨uu 3 (.one (.own 5 13) :: uu 55 []), vv 16 []⟩)) (.s (.r [0, 14, 15, 0, 0] none) .n))))))
noncomputable def fi78 : FI := mkFI Tryz.f78 1 [.ag [.s, .s, .s, .s, .b, .i .i64, .s, .sl 68, .sl 9, .sl 114]] [(false, [.ct .s])] (fun _ => (.s (.r [0, 0] none) (.s .n (.s .n (.s (.s .n (.c .n .n (some ⟨ou :: .one (.ptr 0 0) :: ou :: os :: uu 29 [], .var 70 [.s, .s, .s, .s, .b, .i .i64, .s, .sl 68, .sl 9, .sl 114] :: []⟩))) .n)))))
noncomputable def fi82 : FI := mkFI Tryz.f82 0 [.ct (.sl 114)] [(false, [.ct .b])] (fun _ => .n)
noncomputable def fi83 : FI := mkFI Tryz.f83 7 [.ct (.sl 148)] [(false, [.ct .s])] (fun _ => (.s .n (.s (.s (.r [] (some ⟨ol 148 :: uu 12 (ob :: uu 22 []), vv 7 []⟩)) .n) (.s (.r [0, 0] none) (.s (.s .n (.b (.b (.s .n (.s .n (.s (.b (.s (.r [0, 0, 2, 0] none) (.r [0, 0, 0, 0, 0, 0, 0, 0, 3, 4, 0] none)) ⟨uu 3 (.one (.own 9 5) :: uu 11 (ol 148 :: oi :: oi :: uu 18 [])), vv 7 []⟩) .n))) ⟨uu 3 (.one (.own 9 1) :: uu 11 (ol 148 :: oi :: oi :: uu 18 [])), vv 7 []⟩) ⟨uu 3 (.one (.own 9 6) :: uu 32 []), vv 7 []⟩)) .n)))))
noncomputable def fi84 : FI := mkFI Tryz.f84 1 [.ag [.s, .s, .sl 70, .s, .s, .sl 114]] [(false, [.ct .s])] (fun _ => (.s (.r [0, 0] none) .n))
noncomputable def fi85 : FI := mkFI Tryz.f85 1 [.ct (.i .i64)] [(false, [.ct .s])] (fun _ => (.s .n (.s (.r [0, 0] none) .n)))
noncomputable def fi86 : FI := mkFI Tryz.f86 2 [.ag [.s, .s, .sl 70, .s, .s, .sl 114], .ag [.s, .s, .sl 70, .s, .s, .sl 114]] [(false, [.ct .b])] (fun _ => (.s (.r [0, 1, 0] none) .n))
noncomputable def fi87 : FI := mkFI Tryz.f87 2 [.ag [.s, .s, .s, .s, .b, .i .i64, .s, .sl 68, .sl 9, .sl 114], .ag [.s, .s, .s, .s, .b, .i .i64, .s, .sl 68, .sl 9, .sl 114]] [(false, [.ct .b])] (fun _ => (.s (.r [0, 1, 0] none) .n))
noncomputable def fi88 : FI := mkFI Tryz.f88 2 [.ag [.s, .s, .sl 114], .ag [.s, .s, .sl 114]] [(false, [.ct .b])] (fun _ => (.s (.r [0, 1, 0] none) .n))
noncomputable def fi89 : FI := mkFI Tryz.f89 2 [.ag [.i .i64, .s], .ag [.i .i64, .s]] [(false, [.ct .b])] (fun _ => (.s (.r [0, 1, 0] none) .n))
noncomputable def fi90 : FI := mkFI Tryz.f90 2 [.ag [.s, .sl 148], .ag [.s, .sl 148]] [(false, [.ct .b])] (fun _ => (.s (.r [0, 1, 0] none) .n))
noncomputable def fi91 : FI := mkFI Tryz.f91 1 [.ag [.s, .s], .ct (.i .i64)] [(false, [.ct (.i .i64)])] (fun _ => (.s (.r [0, 0] none) .n))
noncomputable def fi92 : FI := mkFI Tryz.f92 1 [.ag [.i .i64, .s, .sl 95, .sl 9], .ct (.i .i64)] [(false, [.ct (.i .i64)])] (fun _ => (.s (.r [0, 0] none) .n))
noncomputable def fi93 : FI := mkFI Tryz.f93 0 [.ct (.sl 175), .ct (.i .i64)] [(false, [.ct (.i .i64)])] (fun _ => (.s .n (.s .n (.s .n (.s (.s .n (.b (.b (.s .n (.s (.b .n ⟨ol 175 :: oi :: uu 3 (oi :: uu 21 []), []⟩) .n)) ⟨ol 175 :: oi :: uu 3 (oi :: uu 21 []), []⟩) ⟨ou :: oi :: uu 25 [], []⟩)) .n)))))
noncomputable def fi102 : FI := mkFI Tryz.f102 3 [.ag [.s, .s]] [(true, [.ct .s, .ct .s])] (fun _ => (.s (.r [0, 1] none) (.s (.r [2] none) .n)))
noncomputable def fi103 : FI := mkFI Tryz.f103 3 [.ag [.i .i64, .s, .sl 95, .sl 9]] [(true, [.ct (.i .i64), .ct .s, .ct (.sl 68), .ct (.sl 9)])] (fun _ => (.s (.r [0, 1] none) (.s (.r [2] none) .n)))
noncomputable def fi104 : FI := mkFI Tryz.f104 4 [.ct (.sl 175)] [(false, [.ct (.sl 148)])] (fun _ => (.s .n (.s (.r [0, 0, 0, 0] none) (.s (.s .n (.b (.b (.s .n (.s (.b .n ⟨ol 175 :: ou :: ou :: .one (.own 148 2) :: oi :: uu 18 [], vv 4 []⟩) .n)) ⟨ol 175 :: ou :: ou :: .one (.own 148 1) :: oi :: uu 18 [], vv 4 []⟩) ⟨uu 3 (.one (.own 148 3) :: uu 19 []), vv 4 []⟩)) .n))))
noncomputable def fi94 : FI := mkFI Tryz.f94 0 [.ct .s] [(false, [.ct .b])] (fun _ => (.s .n (.s (.s .n (.b (.s (.s .n (.c .n (.s .n (.c .n (.s .n (.c .n (.s .n (.c .n (.s .n (.c .n (.s .n (.c .n (.s .n (.c .n (.s .n (.c .n (.s .n (.c .n (.s .n (.c .n (.s .n (.c .n (.s .n (.c .n (.s .n (.c .n (.s .n (.c .n (.s .n (.c .n (.s .n (.c .n (.s .n (.c .n (.s .n (.c .n .n (some ⟨uu 4 (ob :: uu 19 []), []⟩))) (some ⟨uu 4 (ob :: uu 19 []), []⟩))) (some ⟨uu 4 (ob :: uu 19 []), []⟩))) (some ⟨uu 4 (ob :: uu 19 []), []⟩))) (some ⟨uu 4 (ob :: uu 19 []), []⟩))) (some ⟨uu 4 (ob :: uu 19 []), []⟩))) (some ⟨uu 4 (ob :: uu 19 []), []⟩))) (some ⟨uu 4 (ob :: uu 19 []), []⟩))) (some ⟨uu 4 (ob :: uu 19 []), []⟩))) (some ⟨uu 4 (ob :: uu 19 []), []⟩))) (some ⟨uu 4 (ob :: uu 19 []), []⟩))) (some ⟨uu 4 (ob :: uu 19 []), []⟩))) (some ⟨uu 4 (ob :: uu 19 []), []⟩))) (some ⟨uu 4 (ob :: uu 19 []), []⟩))) (some ⟨uu 4 (ob :: uu 19 []), []⟩))) (some ⟨uu 4 (ob :: uu 19 []), []⟩))) (some ⟨uu 4 (ob :: uu 19 []), []⟩))) (some ⟨uu 4 (ob :: uu 19 []), []⟩))) .n) ⟨uu 24 [], []⟩)) .n)))
noncomputable def fi95 : FI := mkFI Tryz.f95 0 [.ct (.i .u8)] [(false, [.ct .b])] (fun _ => (.s .n (.s (.r [] (some ⟨ou :: ou :: ob :: uu 6 [], []⟩)) .n)))
noncomputable def fi96 : FI := mkFI Tryz.f96 0 [.ct (.i .u8)] [(false, [.ct .b])] (fun _ => (.s .n (.s (.r [] (some ⟨ou :: ou :: ob :: uu 18 [], []⟩)) .n)))
noncomputable def fi97 : FI := mkFI Tryz.f97 1 [.ag [.s, .s, .s, .s, .b, .i .i64, .s, .sl 68, .sl 9, .sl 114]] [(false, [.ct .b])] (fun _ => (.s (.r [0, 0] none) (.s (.r [] (some ⟨ou :: ou :: ob :: uu 25 [], .u :: []⟩)) .n)))
noncomputable def fi98 : FI := mkFI Tryz.f98 1 [.ag [.i .i64, .s, .sl 68, .sl 9]] [(false, [.ct .b])] (fun _ => (.s (.r [0, 0] none) .n))
noncomputable def fi99 : FI := mkFI Tryz.f99 0 [.ct (.sl 114)] [(false, [.ct .b])] (fun _ => (.s .n (.s (.s .n (.b (.b (.s .n (.s (.b (.s (.r [] (some ⟨ol 114 :: ou :: ou :: oi :: uu 21 (ob :: []), []⟩)) .n) ⟨ol 114 :: ou :: ou :: oi :: uu 22 [], []⟩) .n)) ⟨ol 114 :: ou :: ou :: oi :: uu 22 [], []⟩) ⟨uu 26 [], []⟩)) .n)))
noncomputable def fi100 : FI := mkFI Tryz.f100 1 [.ag [.s, .s]] [(false, [.ct .b])] (fun _ => (.s (.r [0, 0] none) (.s (.s (.r [] (some ⟨ou :: .one (.ptr 0 0) :: uu 11 (ob :: uu 38 []), .var 57 [.s, .s] :: []⟩)) .n) (.s (.s .n (.b (.b (.s .n (.s (.b (.s (.r [] (some ⟨ou :: .one (.ptr 0 0) :: ou :: oi :: uu 47 (ob :: []), .var 57 [.s, .s] :: []⟩)) .n) ⟨ou :: .one (.ptr 0 0) :: ou :: oi :: uu 48 [], .var 57 [.s, .s] :: []⟩) .n)) ⟨ou :: .one (.ptr 0 0) :: ou :: oi :: uu 48 [], .var 57 [.s, .s] :: []⟩) ⟨uu 52 [], .u :: []⟩)) .n))))
noncomputable def fi101 : FI := mkFI Tryz.f101 0 [.ct .s, .ct (.i .i64)] [(false, [.ct (.i .i64)]), (false, [.ct (.i .i64)])] (fun _ => (.s .n (.s (.s (.r [] (some ⟨os :: oi :: uu 16 (ob :: uu 70 []), []⟩)) .n) (.s .n (.s .n (.s .n (.s (.b (.s .n (.c .n (.s (.r [] (some ⟨os :: oi :: uu 4 (oi :: uu 20 (ob :: uu 61 [])), []⟩)) (.c .n (.s (.r [] (some ⟨os :: oi :: uu 4 (oi :: uu 29 (ob :: uu 52 [])), []⟩)) (.c .n (.s (.r [] (some ⟨os :: oi :: uu 4 (oi :: uu 38 (ob :: uu 43 [])), []⟩)) .n) (some ⟨os :: oi :: uu 5 (oi :: oi :: uu 80 []), []⟩))) (some ⟨os :: oi :: uu 5 (oi :: oi :: uu 80 []), []⟩))) none)) ⟨os :: oi :: uu 5 (oi :: oi :: uu 80 []), []⟩) (.s .n (.s (.s .n (.b (.b (.s .n (.s (.b (.s .n (.s (.s (.r [] (some ⟨os :: oi :: uu 5 (oi :: oi :: oi :: oi :: uu 65 (ob :: uu 12 [])), []⟩)) .n) .n)) ⟨os :: oi :: uu 5 (oi :: oi :: oi :: uu 79 []), []⟩) .n)) ⟨os :: oi :: uu 5 (oi :: oi :: oi :: uu 79 []), []⟩) ⟨uu 7 (oi :: oi :: uu 80 []), []⟩)) .n)))))))))
noncomputable def fi105 : FI := mkFI Tryz.f105 0 [.ct (.sl 59), .fn] [(false, [.ct .b])] (fun _ => .n)
noncomputable def fi108 : FI := mkFI Tryz.f108 0 [.ct (.sl 70)] [(false, [.ct .b])] (fun _ => .n)
noncomputable def fi109 : FI := mkFI Tryz.f109 0 [.ct (.sl 62), .fn] [(false, [.ct .b])] (fun _ => .n)
noncomputable def fi112 : FI := mkFI Tryz.f112 0 [.ct (.sl 64), .fn] [(false, [.ct .b])] (fun _ => .n)
noncomputable def fi116 : FI := mkFI Tryz.f116 0 [.ct (.sl 114)] [(false, [.ct .b])] (fun _ => (.s .n (.s (.r [] (some ⟨ou :: ou :: ob :: uu 7 [], []⟩)) .n)))
noncomputable def fi117 : FI := mkFI Tryz.f117 0 [.ct (.i .u8)] [(false, [.ct .b])] (fun _ => (.s .n (.s (.r [] (some ⟨ou :: ou :: ob :: uu 6 [], []⟩)) .n)))
noncomputable def fi118 : FI := mkFI Tryz.f118 0 [.ct (.i .u8)] [(false, [.ct .b])] (fun _ => (.s .n (.s (.r [] (some ⟨ou :: ou :: ob :: uu 10 [], []⟩)) .n)))
noncomputable def fi119 : FI := mkFI Tryz.f119 0 [.ct (.sl 9), .fn] [(false, [.ct (.i .i64)])] (fun h => match h.tm with
    | [_, .one (.fn 75 _)] => (.s .n (.s (.s .n (.b (.b (.s .n (.s .n (.s (.b .n ⟨ol 9 :: .one (.fn 75 []) :: uu 5 (oi :: oi :: uu 10 []), []⟩) .n))) ⟨ol 9 :: .one (.fn 75 []) :: uu 5 (oi :: oi :: uu 10 []), []⟩) ⟨uu 19 [], []⟩)) .n))
    | [_, .one (.fn 115 _)] => (.s .n (.s (.s .n (.b (.b (.s .n (.s .n (.s (.b .n ⟨ol 9 :: .one (.fn 115 []) :: uu 5 (oi :: oi :: uu 10 []), []⟩) .n))) ⟨ol 9 :: .one (.fn 115 []) :: uu 5 (oi :: oi :: uu 10 []), []⟩) ⟨uu 19 [], []⟩)) .n))
    | [_, .one (.fn 191 _)] => (.s .n (.s (.s .n (.b (.b (.s .n (.s .n (.s (.b .n ⟨ol 9 :: .one (.fn 191 []) :: uu 5 (oi :: oi :: uu 10 []), []⟩) .n))) ⟨ol 9 :: .one (.fn 191 []) :: uu 5 (oi :: oi :: uu 10 []), []⟩) ⟨uu 19 [], []⟩)) .n))
    | _ => .n)
noncomputable def fi120 : FI := mkFI Tryz.f120 0 [.ct .s] [(false, [.ct .b])] (fun _ => .n)
noncomputable def fi121 : FI := mkFI Tryz.f121 0 [.ct .s, .ct (.i .u8)] [(false, [.ct (.i .i64)])] (fun _ => .n)
noncomputable def fi122 : FI := mkFI Tryz.f122 1 [.ag [.s, .s, .s, .s, .b, .i .i64, .s, .sl 68, .sl 9, .sl 114]] [(false, [.ct .b])] (fun _ => (.s (.r [0, 0] none) (.s (.r [] (some ⟨ou :: ou :: ob :: uu 25 [], .u :: []⟩)) .n)))
noncomputable def fi123 : FI := mkFI Tryz.f123 1 [.ag [.s, .s]] [(false, [.ct .s])] (fun _ => (.s (.r [0, 0] none) (.s .n (.s .n (.s (.s .n (.b (.b (.s .n (.s .n (.s (.b (.s .n (.s .n (.c .n .n (some ⟨ou :: .one (.ptr 0 0) :: ou :: os :: uu 8 (oi :: oi :: uu 14 []), .var 57 [.s, .s] :: []⟩)))) ⟨ou :: .one (.ptr 0 0) :: ou :: os :: uu 8 (oi :: oi :: uu 14 []), .var 57 [.s, .s] :: []⟩) .n))) ⟨ou :: .one (.ptr 0 0) :: ou :: os :: uu 8 (oi :: oi :: uu 14 []), .var 57 [.s, .s] :: []⟩) ⟨uu 3 (os :: uu 24 []), .u :: []⟩)) .n)))))
noncomputable def fi124 : FI := mkFI Tryz.f124 1 [.ct .b, .ag [.i .i64, .s, .sl 68, .sl 9]] [(false, [.ct .s])] (fun _ => (.s (.r [0, 0] none) .n))
noncomputable def fi127 : FI := mkFI Tryz.f127 0 [.ct (.sl 114), .fn] [(false, [.ct .b])] (fun _ => .n)
noncomputable def fi129 : FI := mkFI Tryz.f129 0 [.ct (.sl 148)] [(false, [.ct .b])] (fun _ => .n)
noncomputable def fi130 : FI := mkFI Tryz.f130 9 [.ag [.i .i64, .s, .sl 68, .sl 9]] [(false, [.ct .s])] (fun _ => (.s (.r [0, 0] none) (.s (.r [1, 0] none) (.s (.s .n (.b (.b (.s .n (.s .n (.s (.b (.s (.r [0, 0, 0, 3, 0, 0] none) (.s .n (.s (.s .n (.c .n .n (some ⟨ou :: .one (.ptr 0 0) :: ou :: .one (.own 9 4) :: ou :: ou :: os :: uu 3 (ol 68 :: oi :: oi :: uu 48 []), .var 68 [.i .i64, .s, .sl 68, .sl 9] :: vv 8 []⟩))) (.r [0, 0, 5, 6, 0] none)))) ⟨ou :: .one (.ptr 0 0) :: ou :: .one (.own 9 7) :: uu 6 (ol 68 :: oi :: oi :: uu 48 []), .var 68 [.i .i64, .s, .sl 68, .sl 9] :: vv 8 []⟩) .n))) ⟨ou :: .one (.ptr 0 0) :: ou :: .one (.own 9 2) :: uu 6 (ol 68 :: oi :: oi :: uu 48 []), .var 68 [.i .i64, .s, .sl 68, .sl 9] :: vv 8 []⟩) ⟨ou :: .one (.ptr 0 0) :: ou :: .one (.own 9 8) :: uu 57 [], .var 68 [.i .i64, .s, .sl 68, .sl 9] :: vv 8 []⟩)) (.s .n (.s (.s .n (.b .n ⟨ou :: .one (.ptr 0 0) :: uu 59 [], .var 68 [.i .i64, .s, .sl 68, .sl 9] :: vv 8 []⟩)) .n))))))
noncomputable def fi107 : FI := mkFI Tryz.f107 1 [.ag [.s, .s, .sl 70, .s, .s, .sl 114]] [(false, [.ct .b])] (fun _ => (.s (.r [0, 0] none) (.s (.r [] (some ⟨ou :: ou :: ob :: uu 23 [], .u :: []⟩)) .n)))
noncomputable def fi131 : FI := mkFI Tryz.f131 2 [.ag [.s, .s], .ag [.s, .s]] [(false, [.ct .b])] (fun _ => (.s (.r [0, 1, 0] none) .n))
noncomputable def fi132 : FI := mkFI Tryz.f132 2 [.ag [.i .i64, .s, .sl 68, .sl 9], .ag [.i .i64, .s, .sl 68, .sl 9]] [(false, [.ct .b])] (fun _ => (.s (.r [0, 1, 0] none) .n))
noncomputable def fi133 : FI := mkFI Tryz.f133 0 [.ct (.sl 148), .ct (.sl 148)] [(false, [.ct .b])] (fun _ => (.s .n (.s .n (.s (.s .n (.b (.b (.s .n (.s (.b .n ⟨ol 148 :: ol 148 :: uu 3 (oi :: uu 21 []), []⟩) .n)) ⟨ol 148 :: ol 148 :: uu 3 (oi :: uu 21 []), []⟩) ⟨uu 27 [], []⟩)) .n))))
noncomputable def fi134 : FI := mkFI Tryz.f134 0 [.ct (.sl 95), .ct (.i .i64)] [(false, [.ct (.i .i64)])] (fun _ => (.s .n (.s .n (.s .n (.s (.s .n (.b (.b (.s .n (.s (.b .n ⟨ol 95 :: oi :: uu 3 (oi :: uu 21 []), []⟩) .n)) ⟨ol 95 :: oi :: uu 3 (oi :: uu 21 []), []⟩) ⟨ou :: oi :: uu 25 [], []⟩)) .n)))))
noncomputable def fi135 : FI := mkFI Tryz.f135 1 [.ag [.s, .i .i64, .s, .sl 95, .sl 9], .ct (.i .i64)] [(false, [.ct (.i .i64)])] (fun _ => (.s (.r [0, 0] none) .n))
noncomputable def fi140 : FI := mkFI Tryz.f140 4 [.ct (.sl 95)] [(false, [.ct (.sl 68)])] (fun _ => (.s .n (.s (.r [0, 0, 0, 0] none) (.s (.s .n (.b (.b (.s .n (.s (.b .n ⟨ol 95 :: ou :: ou :: .one (.own 68 2) :: oi :: uu 18 [], vv 4 []⟩) .n)) ⟨ol 95 :: ou :: ou :: .one (.own 68 1) :: oi :: uu 18 [], vv 4 []⟩) ⟨uu 3 (.one (.own 68 3) :: uu 19 []), vv 4 []⟩)) .n))))
noncomputable def fi141 : FI := mkFI Tryz.f141 3 [.ag [.s, .i .i64, .s, .sl 95, .sl 9]] [(true, [.ct .s, .ct (.i .i64), .ct .s, .ct (.sl 68), .ct (.sl 9)])] (fun _ => (.s (.r [0, 1] none) (.s (.r [2] none) .n)))
noncomputable def fi136 : FI := mkFI Tryz.f136 1 [.ct .b, .ag [.i .i64, .s, .sl 68, .sl 9]] [(false, [.ct .b])] (fun _ => (.s (.r [0, 0] none) (.s (.s .n (.c (.s (.r [] (some ⟨uu 4 (ob :: uu 10 []), .u :: []⟩)) .n) .n none)) .n)))
noncomputable def fi137 : FI := mkFI Tryz.f137 1 [.ag [.i .i64, .s, .sl 68, .sl 9]] [(false, [.ct .b])] (fun _ => (.s (.r [0, 0] none) (.s (.s .n (.b (.b (.s .n (.s (.b .n ⟨ou :: .one (.ptr 0 0) :: ou :: oi :: uu 17 [], .var 68 [.i .i64, .s, .sl 68, .sl 9] :: []⟩) .n)) ⟨ou :: .one (.ptr 0 0) :: ou :: oi :: uu 17 [], .var 68 [.i .i64, .s, .sl 68, .sl 9] :: []⟩) ⟨ou :: .one (.ptr 0 0) :: uu 19 [], .var 68 [.i .i64, .s, .sl 68, .sl 9] :: []⟩)) .n)))
noncomputable def fi138 : FI := mkFI Tryz.f138 0 [.ct (.sl 148)] [(false, [.ct .b])] (fun _ => (.s .n (.s (.s .n (.b (.b (.s .n (.s (.b (.s (.r [] (some ⟨ol 148 :: ou :: ou :: oi :: uu 21 (ob :: []), []⟩)) .n) ⟨ol 148 :: ou :: ou :: oi :: uu 22 [], []⟩) .n)) ⟨ol 148 :: ou :: ou :: oi :: uu 22 [], []⟩) ⟨uu 26 [], []⟩)) .n)))
noncomputable def fi139 : FI := mkFI Tryz.f139 4 [.ct (.i .i64)] [(false, [.ct .s])] (fun _ => (.s .n (.s .n (.s (.b (.s .n (.c (.s (.r [0, 0, 0, 0, 0] none) .n) (.s .n (.c (.s (.r [0, 0, 0, 0, 0, 0, 0, 0, 1, 0, 0] none) .n) (.s .n (.c (.s (.r [0, 0, 0, 0, 0, 0, 0, 0, 0, 0, 0, 0, 0, 2, 0, 0] none) .n) .n none)) none)) none)) ⟨oi :: uu 63 [], vv 4 []⟩) (.s (.r [0, 0, 0, 0, 0, 0, 0, 0, 0, 0, 0, 0, 0, 0, 0, 0, 0, 0, 3, 0, 0] none) .n)))))
noncomputable def fi142 : FI := mkFI Tryz.f142 0 [.ct (.sl 59), .fn] [(false, [.ct (.i .i64)])] (fun _ => (.s .n (.s (.s .n (.b (.b (.s .n (.s .n (.s (.b .n ⟨ol 59 :: .one (.fn 106 []) :: uu 5 (oi :: oi :: uu 10 []), []⟩) .n))) ⟨ol 59 :: .one (.fn 106 []) :: uu 5 (oi :: oi :: uu 10 []), []⟩) ⟨uu 19 [], []⟩)) .n)))
noncomputable def fi144 : FI := mkFI Tryz.f144 0 [.ct (.sl 70), .fn] [(false, [.ct .b])] (fun _ => .n)
noncomputable def fi146 : FI := mkFI Tryz.f146 0 [.ct (.sl 62), .fn] [(false, [.ct (.i .i64)])] (fun _ => (.s .n (.s (.s .n (.b (.b (.s .n (.s .n (.s (.b .n ⟨ol 62 :: .one (.fn 110 []) :: uu 5 (oi :: oi :: uu 10 []), []⟩) .n))) ⟨ol 62 :: .one (.fn 110 []) :: uu 5 (oi :: oi :: uu 10 []), []⟩) ⟨uu 19 [], []⟩)) .n)))
noncomputable def fi148 : FI := mkFI Tryz.f148 0 [.ct (.sl 64), .fn] [(false, [.ct (.i .i64)])] (fun _ => (.s .n (.s (.s .n (.b (.b (.s .n (.s .n (.s (.b .n ⟨ol 64 :: .one (.fn 113 []) :: uu 5 (oi :: oi :: uu 10 []), []⟩) .n))) ⟨ol 64 :: .one (.fn 113 []) :: uu 5 (oi :: oi :: uu 10 []), []⟩) ⟨uu 19 [], []⟩)) .n)))
noncomputable def fi153 : FI := mkFI Tryz.f153 0 [.ct (.i .u8)] [(false, [.ct .b])] (fun _ => (.s .n (.s (.r [] (some ⟨ou :: ou :: ob :: uu 14 [], []⟩)) .n)))
noncomputable def fi75 : FI := mkFI Tryz.f75 0 [.ct .s] [(false, [.ct .b])] (fun _ => .n)
noncomputable def fi154 : FI := { mkFI Tryz.f154 0 [.ct .s] [(false, [.ct .b])] (fun _ => .n) with prim := some (primH [.s] [.b] qValidString) }
noncomputable def fi155 : FI := { mkFI Tryz.f155 0 [.ct .s, .ct (.i .u8)] [(false, [.ct (.i .i64)])] (fun _ => .n) with prim := some (primH [.s, .i .u8] [.i .i64] qIndexByte) }
noncomputable def fi143 : FI := mkFI Tryz.f143 1 [.ag [.s, .s]] [(false, [.ct .b])] (fun _ => (.s (.r [0, 0] none) (.s (.r [] (some ⟨ou :: ou :: ob :: uu 21 [], .u :: []⟩)) .n)))
noncomputable def fi156 : FI := mkFI Tryz.f156 1 [.ct .b, .ag [.i .i64, .s, .sl 68, .sl 9]] [(false, [.ct .b])] (fun _ => (.s (.r [0, 0] none) (.s .n (.s (.r [] (some ⟨uu 4 (ob :: uu 10 []), .u :: []⟩)) .n))))
noncomputable def fi157 : FI := mkFI Tryz.f157 1 [.ag [.i .i64, .s, .sl 68, .sl 9]] [(false, [.ct .s])] (fun _ => (.s (.r [0, 0] none) .n))
noncomputable def fi160 : FI := mkFI Tryz.f160 0 [.ct (.sl 114), .fn] [(false, [.ct (.i .i64)])] (fun h => match h.tm with
    | [_, .one (.fn 128 _)] => (.s .n (.s (.s .n (.b (.b (.s .n (.s .n (.s (.b .n ⟨ol 114 :: .one (.fn 128 []) :: uu 5 (oi :: oi :: uu 10 []), []⟩) .n))) ⟨ol 114 :: .one (.fn 128 []) :: uu 5 (oi :: oi :: uu 10 []), []⟩) ⟨uu 19 [], []⟩)) .n))
    | [_, .one (.fn 149 _)] => (.s .n (.s (.s .n (.b (.b (.s .n (.s .n (.s (.b .n ⟨ol 114 :: .one (.fn 149 []) :: uu 5 (oi :: oi :: uu 10 []), []⟩) .n))) ⟨ol 114 :: .one (.fn 149 []) :: uu 5 (oi :: oi :: uu 10 []), []⟩) ⟨uu 19 [], []⟩)) .n))
    | _ => .n)
noncomputable def fi150 : FI := mkFI Tryz.f150 0 [.ct (.sl 148), .fn] [(false, [.ct .b])] (fun _ => .n)
noncomputable def fi163 : FI := mkFI Tryz.f163 0 [.ct (.sl 68), .ct (.sl 68)] [(false, [.ct .b])] (fun _ => (.s .n (.s .n (.s (.s .n (.b (.b (.s .n (.s (.b .n ⟨ol 68 :: ol 68 :: uu 3 (oi :: uu 21 []), []⟩) .n)) ⟨ol 68 :: ol 68 :: uu 3 (oi :: uu 21 []), []⟩) ⟨uu 27 [], []⟩)) .n))))
noncomputable def fi164 : FI := mkFI Tryz.f164 2 [.ag [.s, .i .i64, .s, .sl 68, .sl 9], .ag [.s, .i .i64, .s, .sl 68, .sl 9]] [(false, [.ct .b])] (fun _ => (.s (.r [0, 1, 0] none) .n))
noncomputable def fi165 : FI := mkFI Tryz.f165 1 [.ag [.i .i64, .s, .sl 68, .sl 9]] [(false, [.ct .b])] (fun _ => (.s (.r [0, 0] none) .n))
noncomputable def fi166 : FI := mkFI Tryz.f166 2 [.ag [.i .i64, .s, .sl 68, .sl 9], .ag [.i .i64, .s, .sl 68, .sl 9]] [(false, [.ct .b])] (fun _ => (.s (.r [0, 1, 0] none) (.s (.s (.r [] (some ⟨ou :: ou :: .one (.ptr 0 0) :: .one (.ptr 1 0) :: uu 32 (ob :: uu 37 []), .var 68 [.i .i64, .s, .sl 68, .sl 9] :: .var 68 [.i .i64, .s, .sl 68, .sl 9] :: []⟩)) .n) (.s (.s .n (.b (.b (.s .n (.s (.b .n ⟨ou :: ou :: .one (.ptr 0 0) :: .one (.ptr 1 0) :: ou :: oi :: uu 68 [], .var 68 [.i .i64, .s, .sl 68, .sl 9] :: .var 68 [.i .i64, .s, .sl 68, .sl 9] :: []⟩) .n)) ⟨ou :: ou :: .one (.ptr 0 0) :: .one (.ptr 1 0) :: ou :: oi :: uu 68 [], .var 68 [.i .i64, .s, .sl 68, .sl 9] :: .var 68 [.i .i64, .s, .sl 68, .sl 9] :: []⟩) ⟨ou :: ou :: .one (.ptr 0 0) :: .one (.ptr 1 0) :: uu 70 [], .var 68 [.i .i64, .s, .sl 68, .sl 9] :: .var 68 [.i .i64, .s, .sl 68, .sl 9] :: []⟩)) (.s (.s .n (.b (.b (.s .n (.s (.b .n ⟨ou :: ou :: .one (.ptr 0 0) :: .one (.ptr 1 0) :: ou :: ou :: oi :: uu 67 [], .var 68 [.i .i64, .s, .sl 68, .sl 9] :: .var 68 [.i .i64, .s, .sl 68, .sl 9] :: []⟩) .n)) ⟨ou :: ou :: .one (.ptr 0 0) :: .one (.ptr 1 0) :: ou :: ou :: oi :: uu 67 [], .var 68 [.i .i64, .s, .sl 68, .sl 9] :: .var 68 [.i .i64, .s, .sl 68, .sl 9] :: []⟩) ⟨uu 74 [], .u :: .u :: []⟩)) .n)))))
noncomputable def fi167 : FI := mkFI Tryz.f167 0 [.ct (.i .i64)] [(false, [.ct .b])] (fun _ => (.s .n (.s (.r [] (some ⟨ou :: ou :: ob :: uu 7 [], []⟩)) .n)))
noncomputable def fi106 : FI := mkFI Tryz.f106 1 [.ag [.s, .s, .sl 70, .s, .s, .sl 114]] [(false, [.ct .b])] (fun _ => (.s (.r [0, 0] none) .n))
noncomputable def fi170 : FI := mkFI Tryz.f170 0 [.ct (.sl 70), .fn] [(false, [.ct (.i .i64)])] (fun _ => (.s .n (.s (.s .n (.b (.b (.s .n (.s .n (.s (.b .n ⟨ol 70 :: .one (.fn 145 []) :: uu 5 (oi :: oi :: uu 10 []), []⟩) .n))) ⟨ol 70 :: .one (.fn 145 []) :: uu 5 (oi :: oi :: uu 10 []), []⟩) ⟨uu 19 [], []⟩)) .n)))
noncomputable def fi110 : FI := mkFI Tryz.f110 1 [.ag [.s, .s, .sl 114]] [(false, [.ct .b])] (fun _ => (.s (.r [0, 0] none) .n))
noncomputable def fi113 : FI := mkFI Tryz.f113 1 [.ag [.i .i64, .s]] [(false, [.ct .b])] (fun _ => (.s (.r [0, 0] none) .n))
noncomputable def fi115 : FI := mkFI Tryz.f115 0 [.ct .s] [(false, [.ct .b])] (fun _ => .n)
noncomputable def fi76 : FI := mkFI Tryz.f76 0 [.ct .s] [(false, [.ct .b])] (fun _ => (.s .n (.s (.s .n (.b (.s (.s .n (.c .n (.s .n (.c .n (.s .n (.c .n (.s .n (.c .n (.s .n (.c .n (.s .n (.c .n (.s .n (.c .n (.s .n (.c .n (.s .n (.c .n (.s .n (.c .n (.s .n (.c .n (.s .n (.c .n (.s .n (.c .n (.s .n (.c .n (.s .n (.c .n (.s .n (.c .n (.s .n (.c .n (.s .n (.c .n .n (some ⟨uu 4 (ob :: uu 19 []), []⟩))) (some ⟨uu 4 (ob :: uu 19 []), []⟩))) (some ⟨uu 4 (ob :: uu 19 []), []⟩))) (some ⟨uu 4 (ob :: uu 19 []), []⟩))) (some ⟨uu 4 (ob :: uu 19 []), []⟩))) (some ⟨uu 4 (ob :: uu 19 []), []⟩))) (some ⟨uu 4 (ob :: uu 19 []), []⟩))) (some ⟨uu 4 (ob :: uu 19 []), []⟩))) (some ⟨uu 4 (ob :: uu 19 []), []⟩))) (some ⟨uu 4 (ob :: uu 19 []), []⟩))) (some ⟨uu 4 (ob :: uu 19 []), []⟩))) (some ⟨uu 4 (ob :: uu 19 []), []⟩))) (some ⟨uu 4 (ob :: uu 19 []), []⟩))) (some ⟨uu 4 (ob :: uu 19 []), []⟩))) (some ⟨uu 4 (ob :: uu 19 []), []⟩))) (some ⟨uu 4 (ob :: uu 19 []), []⟩))) (some ⟨uu 4 (ob :: uu 19 []), []⟩))) (some ⟨uu 4 (ob :: uu 19 []), []⟩))) .n) ⟨uu 24 [], []⟩)) .n)))
noncomputable def fi168 : FI := { mkFI Tryz.f168 0 [.ct .s, .ct .s] [(false, [.ct .s])] (fun _ => .n) with prim := some (primH [.s, .s] [.s] qTrim) }
noncomputable def fi169 : FI := { mkFI Tryz.f169 0 [.ct .s, .ct .s] [(false, [.ct .b])] (fun _ => .n) with prim := some (primH [.s, .s] [.b] qContains) }
noncomputable def fi176 : FI := mkFI Tryz.f176 1 [.ag [.i .i64, .s, .sl 68, .sl 9]] [(false, [.ct .b])] (fun _ => (.s (.r [0, 0] none) (.s (.r [] (some ⟨ou :: ou :: ob :: uu 12 [], .u :: []⟩)) .n)))
noncomputable def fi162 : FI := mkFI Tryz.f162 1 [.ag [.i .i64, .s, .sl 68, .sl 9]] [(false, [.ct .b])] (fun _ => (.s (.r [0, 0] none) .n))
noncomputable def fi152 : FI := mkFI Tryz.f152 1 [.ag [.i .i64, .s, .sl 68, .sl 9]] [(false, [.ct .b])] (fun _ => (.s (.r [0, 0] none) (.s (.r [] (some ⟨ou :: ou :: ob :: uu 9 [], .u :: []⟩)) .n)))
noncomputable def fi128 : FI := mkFI Tryz.f128 1 [.ag [.s, .sl 148]] [(false, [.ct .b])] (fun _ => (.s (.r [0, 0] none) (.s (.r [] (some ⟨ou :: ou :: ob :: uu 10 [], .u :: []⟩)) .n)))
noncomputable def fi171 : FI := mkFI Tryz.f171 0 [.ct (.sl 148), .fn] [(false, [.ct (.i .i64)])] (fun h => match h.tm with
    | [_, .one (.fn 161 _)] => (.s .n (.s (.s .n (.b (.b (.s .n (.s .n (.s (.b .n ⟨ol 148 :: .one (.fn 161 []) :: uu 5 (oi :: oi :: uu 10 []), []⟩) .n))) ⟨ol 148 :: .one (.fn 161 []) :: uu 5 (oi :: oi :: uu 10 []), []⟩) ⟨uu 19 [], []⟩)) .n))
    | [_, .one (.fn 151 _)] => (.s .n (.s (.s .n (.b (.b (.s .n (.s .n (.s (.b .n ⟨ol 148 :: .one (.fn 151 []) :: uu 5 (oi :: oi :: uu 10 []), []⟩) .n))) ⟨ol 148 :: .one (.fn 151 []) :: uu 5 (oi :: oi :: uu 10 []), []⟩) ⟨uu 19 [], []⟩)) .n))
    | _ => .n)
noncomputable def fi178 : FI := mkFI Tryz.f178 1 [.ag [.i .i64, .s, .sl 68, .sl 9], .ct (.i .i64)] [(false, [.ct .b])] (fun _ => (.s (.r [0, 0] none) (.s .n (.s (.r [] (some ⟨ou :: oi :: .one (.ptr 0 0) :: ou :: ou :: ob :: uu 82 [], .var 68 [.i .i64, .s, .sl 68, .sl 9] :: []⟩)) (.s (.s (.r [] (some ⟨ou :: oi :: .one (.ptr 0 0) :: uu 54 (ob :: uu 30 []), .var 68 [.i .i64, .s, .sl 68, .sl 9] :: []⟩)) .n) (.s (.s .n (.b (.b (.s .n (.s (.b (.s (.r [] (some ⟨ou :: oi :: .one (.ptr 0 0) :: uu 3 (oi :: uu 80 (ob :: [])), .var 68 [.i .i64, .s, .sl 68, .sl 9] :: []⟩)) .n) ⟨ou :: oi :: .one (.ptr 0 0) :: uu 3 (oi :: uu 81 []), .var 68 [.i .i64, .s, .sl 68, .sl 9] :: []⟩) .n)) ⟨ou :: oi :: .one (.ptr 0 0) :: uu 3 (oi :: uu 81 []), .var 68 [.i .i64, .s, .sl 68, .sl 9] :: []⟩) ⟨uu 88 [], .u :: []⟩)) .n))))))
noncomputable def fi145 : FI := mkFI Tryz.f145 1 [.ag [.s, .s, .s, .s, .b, .i .i64, .s, .sl 68, .sl 9, .sl 114]] [(false, [.ct .b])] (fun _ => (.s (.r [0, 0] none) .n))
noncomputable def fi111 : FI := mkFI Tryz.f111 1 [.ag [.s, .s, .sl 114]] [(false, [.ct .b])] (fun _ => (.s (.r [0, 0] none) (.s (.r [] (some ⟨ou :: ou :: ob :: uu 19 [], .u :: []⟩)) .n)))
noncomputable def fi114 : FI := mkFI Tryz.f114 1 [.ag [.i .i64, .s]] [(false, [.ct .b])] (fun _ => (.s (.r [0, 0] none) (.s (.r [] (some ⟨ou :: ou :: ob :: uu 9 [], .u :: []⟩)) .n)))
noncomputable def fi149 : FI := mkFI Tryz.f149 1 [.ag [.s, .sl 148]] [(false, [.ct .b])] (fun _ => (.s (.r [0, 0] none) .n))
noncomputable def fi188 : FI := mkFI Tryz.f188 1 [.ag [.i .i64, .s, .sl 68, .sl 9]] [(false, [.ct .b])] (fun _ => (.s (.r [0, 0] none) (.s (.r [] (some ⟨ou :: ou :: ob :: uu 10 [], .u :: []⟩)) .n)))
noncomputable def fi177 : FI := mkFI Tryz.f177 2 [.ag [.i .i64, .s, .sl 68, .sl 9], .ct (.i .i64)] [(false, [.ct .b])] (fun _ => (.s (.r [0, 1, 0] none) (.s (.s .n (.b (.s .n (.c (.s (.r [] (some ⟨uu 4 (ob :: uu 97 []), .u :: .u :: []⟩)) .n) (.s .n (.c (.s (.r [] (some ⟨uu 4 (ob :: uu 97 []), .u :: .u :: []⟩)) .n) (.s .n (.c (.s (.r [] (some ⟨uu 4 (ob :: uu 97 []), .u :: .u :: []⟩)) .n) (.s .n (.c (.s (.r [] (some ⟨uu 4 (ob :: uu 97 []), .u :: .u :: []⟩)) .n) (.s .n (.c (.s (.r [] (some ⟨uu 4 (ob :: uu 97 []), .u :: .u :: []⟩)) .n) (.s .n (.c (.s (.r [] (some ⟨uu 4 (ob :: uu 97 []), .u :: .u :: []⟩)) .n) (.s .n (.c .n (.s .n (.c (.s (.r [] (some ⟨ou :: ou :: .one (.ptr 0 0) :: .one (.ptr 1 0) :: uu 83 (ob :: uu 14 []), .var 68 [.i .i64, .s, .sl 68, .sl 9] :: .var 3 [.i .i64] :: []⟩)) .n) .n none)) (some ⟨ou :: ou :: .one (.ptr 0 0) :: .one (.ptr 1 0) :: uu 98 [], .var 68 [.i .i64, .s, .sl 68, .sl 9] :: .var 3 [.i .i64] :: []⟩))) none)) none)) none)) none)) none)) none)) ⟨ou :: ou :: .one (.ptr 0 0) :: .one (.ptr 1 0) :: uu 98 [], .var 68 [.i .i64, .s, .sl 68, .sl 9] :: .var 3 [.i .i64] :: []⟩)) (.s (.r [] (some ⟨uu 4 (ob :: uu 97 []), .u :: .u :: []⟩)) .n))))
noncomputable def fi172 : FI := mkFI Tryz.f172 1 [.ct (.sl 68), .fn] [(false, [.ct .b])] (fun _ => .n)
noncomputable def fi161 : FI := mkFI Tryz.f161 1 [.ag [.s, .i .i64, .s, .sl 68, .sl 9]] [(false, [.ct .b])] (fun _ => (.s (.r [0, 0] none) (.s (.r [] (some ⟨ou :: ou :: ob :: uu 10 [], .u :: []⟩)) .n)))
noncomputable def fi193 : FI := mkFI Tryz.f193 1 [.ag [.i .i64, .s, .sl 68, .sl 9]] [(false, [.ct .b])] (fun _ => (.s (.r [0, 0] none) (.s (.s .n (.b (.s .n (.c .n (.s .n (.c .n (.s .n (.c .n (.s .n (.c .n (.s .n (.c .n (.s .n (.c (.s (.r [] (some ⟨ou :: ou :: ob :: uu 45 [], .u :: []⟩)) .n) (.s (.s .n (.c .n .n (some ⟨ou :: .one (.ptr 0 0) :: uu 40 (ob :: uu 5 []), .var 68 [.i .i64, .s, .sl 68, .sl 9] :: []⟩))) .n) none)) none)) none)) none)) none)) none)) ⟨uu 48 [], .u :: []⟩)) .n)))
noncomputable def fi147 : FI := mkFI Tryz.f147 0 [.ct .s] [(false, [.ct .b])] (fun _ => (.s .n (.s (.r [] (some ⟨ou :: ou :: ob :: uu 10 [], []⟩)) .n)))
noncomputable def fi189 : FI := mkFI Tryz.f189 0 [.ct .s] [(false, [.ct .b])] (fun _ => (.s .n (.s .n (.s (.r [] (some ⟨ou :: ou :: ob :: uu 19 [], []⟩)) .n))))
noncomputable def fi190 : FI := mkFI Tryz.f190 0 [.ct .s] [(false, [.ct .b])] (fun _ => (.s .n (.s .n (.s .n (.s .n (.s (.s .n (.c (.s .n (.s (.s (.r [] (some ⟨uu 3 (os :: os :: oi :: uu 29 (ob :: uu 28 [])), []⟩)) (.c .n .n (some ⟨uu 3 (os :: os :: oi :: uu 58 []), []⟩))) .n)) .n (some ⟨uu 3 (os :: ou :: oi :: uu 58 []), []⟩))) (.s .n (.s (.r [] (some ⟨ou :: ou :: ob :: uu 61 [], []⟩)) .n))))))))
noncomputable def fi187 : FI := mkFI Tryz.f187 1 [.ct (.sl 68), .fn] [(false, [.ct (.i .i64)])] (fun h => match h.tm with
    | [_, .one (.fn 173 _)] => (.s .n (.s (.s .n (.b (.b (.s .n (.s .n (.s (.b .n ⟨ol 68 :: .one (.fn 173 []) :: uu 5 (oi :: oi :: uu 10 []), .u :: []⟩) .n))) ⟨ol 68 :: .one (.fn 173 []) :: uu 5 (oi :: oi :: uu 10 []), .u :: []⟩) ⟨uu 19 [], .u :: []⟩)) .n))
    | [_, .one (.fn 192 _)] => (.s .n (.s (.s .n (.b (.b (.s .n (.s .n (.s (.b .n ⟨ol 68 :: .one (.fn 192 [0]) :: uu 5 (oi :: oi :: uu 10 []), .var 3 [.i .i64] :: []⟩) .n))) ⟨ol 68 :: .one (.fn 192 [0]) :: uu 5 (oi :: oi :: uu 10 []), .var 3 [.i .i64] :: []⟩) ⟨uu 19 [], .var 3 [.i .i64] :: []⟩)) .n))
    | _ => .n)
noncomputable def fi203 : FI := mkFI Tryz.f203 0 [.ct .s] [(false, [.ct .b])] (fun _ => (.s .n (.s (.r [] (some ⟨ou :: ou :: ob :: uu 15 [], []⟩)) .n)))
noncomputable def fi204 : FI := mkFI Tryz.f204 0 [.ct .s] [(false, [.ct .b])] (fun _ => (.s .n (.s .n (.s (.s (.r [] (some ⟨os :: ou :: ou :: oi :: uu 16 (ob :: uu 60 []), []⟩)) .n) (.s (.s .n (.c .n .n (some ⟨os :: ou :: ou :: oi :: uu 77 [], []⟩))) (.s (.s (.r [] (some ⟨os :: ou :: ou :: oi :: uu 45 (ob :: uu 31 []), []⟩)) (.c (.s .n (.s (.s (.r [] (some ⟨os :: ou :: ou :: oi :: uu 63 (ob :: uu 13 []), []⟩)) (.c .n .n (some ⟨os :: ou :: ou :: oi :: uu 77 [], []⟩))) .n)) .n (some ⟨os :: ou :: ou :: oi :: uu 77 [], []⟩))) .n))))))
noncomputable def fi199 : FI := mkFI Tryz.f199 0 [.ct .s, .ct .s] [(false, [.ct .s])] (fun _ => .n)
noncomputable def fi200 : FI := mkFI Tryz.f200 0 [.ct .s] [(false, [.ct .b])] (fun _ => (.s .n (.s (.s .n (.b (.b (.s .n (.s .n (.s (.b .n ⟨os :: uu 4 (oi :: oi :: uu 10 []), []⟩) .n))) ⟨os :: uu 4 (oi :: oi :: uu 10 []), []⟩) ⟨os :: uu 16 [], []⟩)) .n)))
noncomputable def fi201 : FI := { mkFI Tryz.f201 0 [.ct .s, .ct .s] [(false, [.ct (.i .i64)])] (fun _ => .n) with prim := some (primH [.s, .s] [.i .i64] qIndexAny) }
noncomputable def fi202 : FI := mkFI Tryz.f202 0 [.ct .s, .ct .s] [(false, [.ct .s]), (false, [.ct .s]), (false, [.ct .b])] (fun _ => .n)
noncomputable def fi173 : FI := mkFI Tryz.f173 1 [.ag [.i .i64, .s, .sl 68, .sl 9]] [(false, [.ct .b])] (fun _ => (.s (.r [0, 0] none) .n))
noncomputable def fi214 : FI := mkFI Tryz.f214 0 [.ct .s] [(false, [.ct (.i .i64)])] (fun _ => (.s .n (.s .n (.s (.s (.r [] (some ⟨os :: ou :: ou :: oi :: uu 8 (ob :: uu 19 []), []⟩)) (.c .n .n (some ⟨os :: ou :: ou :: oi :: uu 28 [], []⟩))) (.s .n (.s (.s (.r [] (some ⟨uu 4 (oi :: uu 25 (ob :: ou :: [])), []⟩)) .n) .n))))))
noncomputable def fi215 : FI := mkFI Tryz.f215 0 [.ct .s, .ct (.i .i64)] [(false, [.ct (.i .i64)])] (fun _ => (.s .n (.s (.b (.b (.s (.s (.r [] (some ⟨os :: oi :: uu 12 (ob :: uu 3 []), []⟩)) .n) (.b .n ⟨os :: oi :: uu 16 [], []⟩)) ⟨os :: oi :: uu 16 [], []⟩) ⟨ou :: oi :: uu 16 [], []⟩) .n)))
noncomputable def fi151 : FI := mkFI Tryz.f151 1 [.ag [.s, .i .i64, .s, .sl 68, .sl 9]] [(false, [.ct .b])] (fun _ => (.s (.r [0, 0] none) .n))
noncomputable def fi211 : FI := mkFI Tryz.f211 0 [.ct .s, .ct .s] [(false, [.ct .s])] (fun _ => .n)
noncomputable def fi213 : FI := { mkFI Tryz.f213 0 [.ct .s, .ct .s] [(false, [.ct .s]), (false, [.ct .s]), (false, [.ct .b])] (fun _ => .n) with prim := some (primH [.s, .s] [.s, .s, .b] qCut) }
noncomputable def fi191 : FI := mkFI Tryz.f191 0 [.ct .s] [(false, [.ct .b])] (fun _ => .n)
noncomputable def fi192 : FI := mkFI Tryz.f192 2 [.ag [.i .i64, .s, .sl 68, .sl 9], .ptr] [(false, [.ct .b])] (fun _ => (.s (.r [1, 0] none) .n))
noncomputable def fi218 : FI := mkFI Tryz.f218 0 [.ct .s, .ct .s] [(false, [.ct .b])] (fun _ => (.s .n (.s (.r [] (some ⟨uu 4 (ob :: uu 13 []), []⟩)) .n)))
noncomputable def fnL : List (Nat × FI) := [(3, fi3), (4, fi4), (6, fi6), (5, fi5), (7, fi7), (8, fi8), (9, fi9), (10, fi10), (11, fi11), (12, fi12), (13, fi13), (14, fi14), (25, fi25), (26, fi26), (27, fi27), (28, fi28), (29, fi29), (30, fi30), (15, fi15), (16, fi16), (17, fi17), (18, fi18), (19, fi19), (20, fi20), (21, fi21), (22, fi22), (23, fi23), (24, fi24), (31, fi31), (32, fi32), (33, fi33), (34, fi34), (35, fi35), (36, fi36), (37, fi37), (38, fi38), (39, fi39), (40, fi40), (41, fi41), (42, fi42), (43, fi43), (44, fi44), (45, fi45), (46, fi46), (47, fi47), (48, fi48), (63, fi63), (64, fi64), (65, fi65), (66, fi66), (67, fi67), (49, fi49), (50, fi50), (51, fi51), (52, fi52), (53, fi53), (54, fi54), (55, fi55), (56, fi56), (57, fi57), (58, fi58), (59, fi59), (60, fi60), (61, fi61), (62, fi62), (68, fi68), (69, fi69), (70, fi70), (71, fi71), (72, fi72), (73, fi73), (74, fi74), (77, fi77), (78, fi78), (82, fi82), (83, fi83), (84, fi84), (85, fi85), (86, fi86), (87, fi87), (88, fi88), (89, fi89), (90, fi90), (91, fi91), (92, fi92), (93, fi93), (102, fi102), (103, fi103), (104, fi104), (94, fi94), (95, fi95), (96, fi96), (97, fi97), (98, fi98), (99, fi99), (100, fi100), (101, fi101), (105, fi105), (108, fi108), (109, fi109), (112, fi112), (116, fi116), (117, fi117), (118, fi118), (119, fi119), (120, fi120), (121, fi121), (122, fi122), (123, fi123), (124, fi124), (127, fi127), (129, fi129), (130, fi130), (107, fi107), (131, fi131), (132, fi132), (133, fi133), (134, fi134), (135, fi135), (140, fi140), (141, fi141), (136, fi136), (137, fi137), (138, fi138), (139, fi139), (142, fi142), (144, fi144), (146, fi146), (148, fi148), (153, fi153), (75, fi75), (154, fi154), (155, fi155), (143, fi143), (156, fi156), (157, fi157), (160, fi160), (150, fi150), (163, fi163), (164, fi164), (165, fi165), (166, fi166), (167, fi167), (106, fi106), (170, fi170), (110, fi110), (113, fi113), (115, fi115), (76, fi76), (168, fi168), (169, fi169), (176, fi176), (162, fi162), (152, fi152), (128, fi128), (171, fi171), (178, fi178), (145, fi145), (111, fi111), (114, fi114), (149, fi149), (188, fi188), (177, fi177), (172, fi172), (161, fi161), (193, fi193), (147, fi147), (189, fi189), (190, fi190), (187, fi187), (203, fi203), (204, fi204), (199, fi199), (200, fi200), (201, fi201), (202, fi202), (173, fi173), (214, fi214), (215, fi215), (151, fi151), (211, fi211), (213, fi213), (191, fi191), (192, fi192), (218, fi218)]
noncomputable def cfg : Cfg := ⟨fun t => look t tyL, fun f => look f fnL⟩
theorem tys : tyB Tryz.prog tyL = true := by kernel_rfl
theorem fns : ∀ x ∈ fnL, FnOk Tryz.prog G cfg.ty x.1 x.2 :=
  all_cons (mkFI_ok Tryz.func3 (by kernel_rfl)) <|
  all_cons (mkFI_ok Tryz.func4 (by kernel_rfl)) <|
  all_cons (mkFI_ok Tryz.func6 (by kernel_rfl)) <|
  all_cons (mkFI_ok Tryz.func5 (by kernel_rfl)) <|
  all_cons (mkFI_ok Tryz.func7 (by kernel_rfl)) <|
  all_cons (mkFI_ok Tryz.func8 (by kernel_rfl)) <|
  all_cons (mkFI_ok Tryz.func9 (by kernel_rfl)) <|
  all_cons (mkFI_ok Tryz.func10 (by kernel_rfl)) <|
  all_cons (mkFI_ok Tryz.func11 (by kernel_rfl)) <|
  all_cons (mkFI_ok Tryz.func12 (by kernel_rfl)) <|
  all_cons (mkFI_ok Tryz.func13 (by kernel_rfl)) <|
  all_cons (mkFI_ok Tryz.func14 (by kernel_rfl)) <|
  all_cons (mkFI_ok Tryz.func25 (by kernel_rfl)) <|
  all_cons (mkFI_ok Tryz.func26 (by kernel_rfl)) <|
  all_cons (mkFI_ok Tryz.func27 (by kernel_rfl)) <|
  all_cons (mkFI_ok Tryz.func28 (by kernel_rfl)) <|
  all_cons (mkFI_ok Tryz.func29 (by kernel_rfl)) <|
  all_cons (mkFI_ok Tryz.func30 (by kernel_rfl)) <|
  all_cons (mkFI_ok Tryz.func15 (by kernel_rfl)) <|
  all_cons (mkFI_ok Tryz.func16 (by kernel_rfl)) <|
  all_cons (mkFI_ok Tryz.func17 (by kernel_rfl)) <|
  all_cons (mkFI_ok Tryz.func18 (by kernel_rfl)) <|
  all_cons (mkFI_ok Tryz.func19 (by kernel_rfl)) <|
  all_cons (mkFI_ok Tryz.func20 (by kernel_rfl)) <|
  all_cons (mkFI_ok Tryz.func21 (by kernel_rfl)) <|
  all_cons (mkFI_ok Tryz.func22 (by kernel_rfl)) <|
  all_cons (mkFI_ok Tryz.func23 (by kernel_rfl)) <|
  all_cons (mkFI_ok Tryz.func24 (by kernel_rfl)) <|
  all_cons (mkFI_ok Tryz.func31 (by kernel_rfl)) <|
  all_cons (mkFI_ok Tryz.func32 (by kernel_rfl)) <|
  all_cons (mkFI_ok Tryz.func33 (by kernel_rfl)) <|
  all_cons (mkFI_ok Tryz.func34 (by kernel_rfl)) <|
  all_cons (prim_words (e := 9) (q := qJoin) Tryz.func35 (by kernel_rfl) (by kernel_rfl) (by kernel_rfl) rfl (call_Join fun te h => by injection (show look 9 tyL = some te from h) with h; subst h; rfl)) <|
  all_cons (mkFI_ok Tryz.func36 (by kernel_rfl)) <|
  all_cons (mkFI_ok Tryz.func37 (by kernel_rfl)) <|
  all_cons (mkFI_ok Tryz.func38 (by kernel_rfl)) <|
  all_cons (mkFI_ok Tryz.func39 (by kernel_rfl)) <|
  all_cons (mkFI_ok Tryz.func40 (by kernel_rfl)) <|
  all_cons (mkFI_ok Tryz.func41 (by kernel_rfl)) <|
  all_cons (mkFI_ok Tryz.func42 (by kernel_rfl)) <|
  all_cons (mkFI_ok Tryz.func43 (by kernel_rfl)) <|
  all_cons (mkFI_ok Tryz.func44 (by kernel_rfl)) <|
  all_cons (mkFI_ok Tryz.func45 (by kernel_rfl)) <|
  all_cons (mkFI_ok Tryz.func46 (by kernel_rfl)) <|
  all_cons (mkFI_ok Tryz.func47 (by kernel_rfl)) <|
  all_cons (mkFI_ok Tryz.func48 (by kernel_rfl)) <|
  all_cons (mkFI_ok Tryz.func63 (by kernel_rfl)) <|
  all_cons (mkFI_ok Tryz.func64 (by kernel_rfl)) <|
  all_cons (mkFI_ok Tryz.func65 (by kernel_rfl)) <|
  all_cons (mkFI_ok Tryz.func66 (by kernel_rfl)) <|
  all_cons (mkFI_ok Tryz.func67 (by kernel_rfl)) <|
  all_cons (mkFI_ok Tryz.func49 (by kernel_rfl)) <|
  all_cons (mkFI_ok Tryz.func50 (by kernel_rfl)) <|
  all_cons (mkFI_ok Tryz.func51 (by kernel_rfl)) <|
  all_cons (mkFI_ok Tryz.func52 (by kernel_rfl)) <|
  all_cons (mkFI_ok Tryz.func53 (by kernel_rfl)) <|
  all_cons (mkFI_ok Tryz.func54 (by kernel_rfl)) <|
  all_cons (mkFI_ok Tryz.func55 (by kernel_rfl)) <|
  all_cons (mkFI_ok Tryz.func56 (by kernel_rfl)) <|
  all_cons (mkFI_ok Tryz.func57 (by kernel_rfl)) <|
  all_cons (mkFI_ok Tryz.func58 (by kernel_rfl)) <|
  all_cons (mkFI_ok Tryz.func59 (by kernel_rfl)) <|
  all_cons (mkFI_ok Tryz.func60 (by kernel_rfl)) <|
  all_cons (mkFI_ok Tryz.func61 (by kernel_rfl)) <|
  all_cons (mkFI_ok Tryz.func62 (by kernel_rfl)) <|
  all_cons (mkFI_ok Tryz.func68 (by kernel_rfl)) <|
  all_cons (mkFI_ok Tryz.func69 (by kernel_rfl)) <|
  all_cons (mkFI_ok Tryz.func70 (by kernel_rfl)) <|
  all_cons (mkFI_ok Tryz.func71 (by kernel_rfl)) <|
  all_cons (mkFI_ok Tryz.func72 (by kernel_rfl)) <|
  all_cons (mkFI_ok Tryz.func73 (by kernel_rfl)) <|
  all_cons (mkFI_ok Tryz.func74 (by kernel_rfl)) <|
  all_cons (mkFI_ok Tryz.func77 (by kernel_rfl)) <|
  all_cons (mkFI_ok Tryz.func78 (by kernel_rfl)) <|
  all_cons (mkFI_ok Tryz.func82 (by kernel_rfl)) <|
  all_cons (mkFI_ok Tryz.func83 (by kernel_rfl)) <|
  all_cons (mkFI_ok Tryz.func84 (by kernel_rfl)) <|
  all_cons (mkFI_ok Tryz.func85 (by kernel_rfl)) <|
  all_cons (mkFI_ok Tryz.func86 (by kernel_rfl)) <|
  all_cons (mkFI_ok Tryz.func87 (by kernel_rfl)) <|
  all_cons (mkFI_ok Tryz.func88 (by kernel_rfl)) <|
  all_cons (mkFI_ok Tryz.func89 (by kernel_rfl)) <|
  all_cons (mkFI_ok Tryz.func90 (by kernel_rfl)) <|
  all_cons (mkFI_ok Tryz.func91 (by kernel_rfl)) <|
  all_cons (mkFI_ok Tryz.func92 (by kernel_rfl)) <|
  all_cons (mkFI_ok Tryz.func93 (by kernel_rfl)) <|
  all_cons (mkFI_ok Tryz.func102 (by kernel_rfl)) <|
  all_cons (mkFI_ok Tryz.func103 (by kernel_rfl)) <|
  all_cons (mkFI_ok Tryz.func104 (by kernel_rfl)) <|
  all_cons (mkFI_ok Tryz.func94 (by kernel_rfl)) <|
  all_cons (mkFI_ok Tryz.func95 (by kernel_rfl)) <|
  all_cons (mkFI_ok Tryz.func96 (by kernel_rfl)) <|
  all_cons (mkFI_ok Tryz.func97 (by kernel_rfl)) <|
  all_cons (mkFI_ok Tryz.func98 (by kernel_rfl)) <|
  all_cons (mkFI_ok Tryz.func99 (by kernel_rfl)) <|
  all_cons (mkFI_ok Tryz.func100 (by kernel_rfl)) <|
  all_cons (mkFI_ok Tryz.func101 (by kernel_rfl)) <|
  all_cons (mkFI_ok Tryz.func105 (by kernel_rfl)) <|
  all_cons (mkFI_ok Tryz.func108 (by kernel_rfl)) <|
  all_cons (mkFI_ok Tryz.func109 (by kernel_rfl)) <|
  all_cons (mkFI_ok Tryz.func112 (by kernel_rfl)) <|
  all_cons (mkFI_ok Tryz.func116 (by kernel_rfl)) <|
  all_cons (mkFI_ok Tryz.func117 (by kernel_rfl)) <|
  all_cons (mkFI_ok Tryz.func118 (by kernel_rfl)) <|
  all_cons (mkFI_ok Tryz.func119 (by kernel_rfl)) <|
  all_cons (mkFI_ok Tryz.func120 (by kernel_rfl)) <|
  all_cons (mkFI_ok Tryz.func121 (by kernel_rfl)) <|
  all_cons (mkFI_ok Tryz.func122 (by kernel_rfl)) <|
  all_cons (mkFI_ok Tryz.func123 (by kernel_rfl)) <|
  all_cons (mkFI_ok Tryz.func124 (by kernel_rfl)) <|
  all_cons (mkFI_ok Tryz.func127 (by kernel_rfl)) <|
  all_cons (mkFI_ok Tryz.func129 (by kernel_rfl)) <|
  all_cons (mkFI_ok Tryz.func130 (by kernel_rfl)) <|
  all_cons (mkFI_ok Tryz.func107 (by kernel_rfl)) <|
  all_cons (mkFI_ok Tryz.func131 (by kernel_rfl)) <|
  all_cons (mkFI_ok Tryz.func132 (by kernel_rfl)) <|
  all_cons (mkFI_ok Tryz.func133 (by kernel_rfl)) <|
  all_cons (mkFI_ok Tryz.func134 (by kernel_rfl)) <|
  all_cons (mkFI_ok Tryz.func135 (by kernel_rfl)) <|
  all_cons (mkFI_ok Tryz.func140 (by kernel_rfl)) <|
  all_cons (mkFI_ok Tryz.func141 (by kernel_rfl)) <|
  all_cons (mkFI_ok Tryz.func136 (by kernel_rfl)) <|
  all_cons (mkFI_ok Tryz.func137 (by kernel_rfl)) <|
  all_cons (mkFI_ok Tryz.func138 (by kernel_rfl)) <|
  all_cons (mkFI_ok Tryz.func139 (by kernel_rfl)) <|
  all_cons (mkFI_ok Tryz.func142 (by kernel_rfl)) <|
  all_cons (mkFI_ok Tryz.func144 (by kernel_rfl)) <|
  all_cons (mkFI_ok Tryz.func146 (by kernel_rfl)) <|
  all_cons (mkFI_ok Tryz.func148 (by kernel_rfl)) <|
  all_cons (mkFI_ok Tryz.func153 (by kernel_rfl)) <|
  all_cons (mkFI_ok Tryz.func75 (by kernel_rfl)) <|
  all_cons (prim_lit (cts := [.s]) (rcts := [.b]) Tryz.func154 (by kernel_rfl) (by kernel_rfl) (by kernel_rfl) rfl call_ValidString) <|
  all_cons (prim_lit (cts := [.s, .i .u8]) (rcts := [.i .i64]) Tryz.func155 (by kernel_rfl) (by kernel_rfl) (by kernel_rfl) rfl call_IndexByte) <|
  all_cons (mkFI_ok Tryz.func143 (by kernel_rfl)) <|
  all_cons (mkFI_ok Tryz.func156 (by kernel_rfl)) <|
  all_cons (mkFI_ok Tryz.func157 (by kernel_rfl)) <|
  all_cons (mkFI_ok Tryz.func160 (by kernel_rfl)) <|
  all_cons (mkFI_ok Tryz.func150 (by kernel_rfl)) <|
  all_cons (mkFI_ok Tryz.func163 (by kernel_rfl)) <|
  all_cons (mkFI_ok Tryz.func164 (by kernel_rfl)) <|
  all_cons (mkFI_ok Tryz.func165 (by kernel_rfl)) <|
  all_cons (mkFI_ok Tryz.func166 (by kernel_rfl)) <|
  all_cons (mkFI_ok Tryz.func167 (by kernel_rfl)) <|
  all_cons (mkFI_ok Tryz.func106 (by kernel_rfl)) <|
  all_cons (mkFI_ok Tryz.func170 (by kernel_rfl)) <|
  all_cons (mkFI_ok Tryz.func110 (by kernel_rfl)) <|
  all_cons (mkFI_ok Tryz.func113 (by kernel_rfl)) <|
  all_cons (mkFI_ok Tryz.func115 (by kernel_rfl)) <|
  all_cons (mkFI_ok Tryz.func76 (by kernel_rfl)) <|
  all_cons (prim_lit (cts := [.s, .s]) (rcts := [.s]) Tryz.func168 (by kernel_rfl) (by kernel_rfl) (by kernel_rfl) rfl call_Trim) <|
  all_cons (prim_lit (cts := [.s, .s]) (rcts := [.b]) Tryz.func169 (by kernel_rfl) (by kernel_rfl) (by kernel_rfl) rfl call_Contains) <|
  all_cons (mkFI_ok Tryz.func176 (by kernel_rfl)) <|
  all_cons (mkFI_ok Tryz.func162 (by kernel_rfl)) <|
  all_cons (mkFI_ok Tryz.func152 (by kernel_rfl)) <|
  all_cons (mkFI_ok Tryz.func128 (by kernel_rfl)) <|
  all_cons (mkFI_ok Tryz.func171 (by kernel_rfl)) <|
  all_cons (mkFI_ok Tryz.func178 (by kernel_rfl)) <|
  all_cons (mkFI_ok Tryz.func145 (by kernel_rfl)) <|
  all_cons (mkFI_ok Tryz.func111 (by kernel_rfl)) <|
  all_cons (mkFI_ok Tryz.func114 (by kernel_rfl)) <|
  all_cons (mkFI_ok Tryz.func149 (by kernel_rfl)) <|
  all_cons (mkFI_ok Tryz.func188 (by kernel_rfl)) <|
  all_cons (mkFI_ok Tryz.func177 (by kernel_rfl)) <|
  all_cons (mkFI_ok Tryz.func172 (by kernel_rfl)) <|
  all_cons (mkFI_ok Tryz.func161 (by kernel_rfl)) <|
  all_cons (mkFI_ok Tryz.func193 (by kernel_rfl)) <|
  all_cons (mkFI_ok Tryz.func147 (by kernel_rfl)) <|
  all_cons (mkFI_ok Tryz.func189 (by kernel_rfl)) <|
  all_cons (mkFI_ok Tryz.func190 (by kernel_rfl)) <|
  all_cons (mkFI_ok Tryz.func187 (by kernel_rfl)) <|
  all_cons (mkFI_ok Tryz.func203 (by kernel_rfl)) <|
  all_cons (mkFI_ok Tryz.func204 (by kernel_rfl)) <|
  all_cons (mkFI_ok Tryz.func199 (by kernel_rfl)) <|
  all_cons (mkFI_ok Tryz.func200 (by kernel_rfl)) <|
  all_cons (prim_lit (cts := [.s, .s]) (rcts := [.i .i64]) Tryz.func201 (by kernel_rfl) (by kernel_rfl) (by kernel_rfl) rfl call_IndexAny) <|
  all_cons (mkFI_ok Tryz.func202 (by kernel_rfl)) <|
  all_cons (mkFI_ok Tryz.func173 (by kernel_rfl)) <|
  all_cons (mkFI_ok Tryz.func214 (by kernel_rfl)) <|
  all_cons (mkFI_ok Tryz.func215 (by kernel_rfl)) <|
  all_cons (mkFI_ok Tryz.func151 (by kernel_rfl)) <|
  all_cons (mkFI_ok Tryz.func211 (by kernel_rfl)) <|
  all_cons (prim_lit (cts := [.s, .s]) (rcts := [.s, .s, .b]) Tryz.func213 (by kernel_rfl) (by kernel_rfl) (by kernel_rfl) rfl call_Cut) <|
  all_cons (mkFI_ok Tryz.func191 (by kernel_rfl)) <|
  all_cons (mkFI_ok Tryz.func192 (by kernel_rfl)) <|
  all_cons (mkFI_ok Tryz.func218 (by kernel_rfl)) <| all_nil
noncomputable def r_laws_FnExactDefText (a : List DC) : Out := Run cfg 3 ⟨.agg [.i .i64, .b, .s, .s, .sl 9, .sl 91, .sl 97, .sl 100, .sl 102, .b, .sl 106] :: [], []⟩ a
noncomputable def r_laws_szDef (a : List DC) : Out := Run cfg 4 ⟨.agg [.i .i64, .b, .s, .s, .sl 9, .sl 91, .sl 97, .sl 100, .sl 102, .b, .sl 106] :: oi :: [], []⟩ a
noncomputable def r_laws_toDef (a : List DC) : Out := Run cfg 6 ⟨.agg [.i .i64, .b, .s, .s, .sl 9, .sl 91, .sl 97, .sl 100, .sl 102, .b, .sl 106] :: [], []⟩ a
noncomputable def r_spec_DefText (a : List DC) : Out := Run cfg 5 ⟨.agg [.i .i64, .b, .s, .s, .sl 9, .sl 59, .sl 70, .sl 62, .sl 64, .b, .sl 114] :: [], []⟩ a
noncomputable def r_impl_DefText (a : List DC) : Out := Run cfg 7 ⟨.agg [.i .i64, .b, .s, .s, .sl 9, .sl 59, .sl 70, .sl 62, .sl 64, .b, .sl 114] :: [], []⟩ a
noncomputable def r_laws_eqDef (a : List DC) : Out := Run cfg 8 ⟨.agg [.i .i64, .b, .s, .s, .sl 9, .sl 59, .sl 70, .sl 62, .sl 64, .b, .sl 114] :: .agg [.i .i64, .b, .s, .s, .sl 9, .sl 59, .sl 70, .sl 62, .sl 64, .b, .sl 114] :: [], []⟩ a
noncomputable def r_laws_szStringS (a : List DC) : Out := Run cfg 9 ⟨ol 9 :: oi :: [], []⟩ a
noncomputable def r_laws_szFieldDefS (a : List DC) : Out := Run cfg 10 ⟨ol 91 :: oi :: [], []⟩ a
noncomputable def r_laws_szInDefS (a : List DC) : Out := Run cfg 11 ⟨ol 97 :: oi :: [], []⟩ a
noncomputable def r_laws_szEnumDefS (a : List DC) : Out := Run cfg 12 ⟨ol 100 :: oi :: [], []⟩ a
noncomputable def r_laws_szRootS (a : List DC) : Out := Run cfg 13 ⟨ol 102 :: oi :: [], []⟩ a
noncomputable def r_laws_szDirS (a : List DC) : Out := Run cfg 14 ⟨ol 106 :: oi :: [], []⟩ a
noncomputable def r_laws_toStringS (a : List DC) : Out := Run cfg 25 ⟨ol 9 :: [], []⟩ a
noncomputable def r_laws_toFieldDefS (a : List DC) : Out := Run cfg 26 ⟨ol 91 :: [], []⟩ a
noncomputable def r_laws_toInDefS (a : List DC) : Out := Run cfg 27 ⟨ol 97 :: [], []⟩ a
noncomputable def r_laws_toEnumDefS (a : List DC) : Out := Run cfg 28 ⟨ol 100 :: [], []⟩ a
noncomputable def r_laws_toRootS (a : List DC) : Out := Run cfg 29 ⟨ol 102 :: [], []⟩ a
noncomputable def r_laws_toDirS (a : List DC) : Out := Run cfg 30 ⟨ol 106 :: [], []⟩ a
noncomputable def r_spec_DefOk (a : List DC) : Out := Run cfg 15 ⟨.agg [.i .i64, .b, .s, .s, .sl 9, .sl 59, .sl 70, .sl 62, .sl 64, .b, .sl 114] :: [], []⟩ a
noncomputable def r_spec_Escaped (a : List DC) : Out := Run cfg 16 ⟨os :: [], []⟩ a
noncomputable def r_spec_l13Word (a : List DC) : Out := Run cfg 17 ⟨oi :: [], []⟩ a
noncomputable def r_spec_l13SayIns (a : List DC) : Out := Run cfg 18 ⟨.one (.own 5 0) :: ol 70 :: [], .u :: []⟩ a
noncomputable def r_spec_l13Names (a : List DC) : Out := Run cfg 19 ⟨.one (.own 5 0) :: ol 9 :: os :: [], .u :: []⟩ a
noncomputable def r_spec_l10SayDirs (a : List DC) : Out := Run cfg 20 ⟨.one (.own 5 0) :: ol 114 :: [], .u :: []⟩ a
noncomputable def r_spec_l13SayField (a : List DC) : Out := Run cfg 21 ⟨.one (.own 5 0) :: .agg [.s, .s, .sl 70, .s, .s, .sl 114] :: [], .u :: []⟩ a
noncomputable def r_spec_l13SayDesc (a : List DC) : Out := Run cfg 22 ⟨.one (.own 5 0) :: os :: [], .u :: []⟩ a
noncomputable def r_spec_OpWord (a : List DC) : Out := Run cfg 23 ⟨oi :: [], []⟩ a
noncomputable def r_spec_l13SayIn (a : List DC) : Out := Run cfg 24 ⟨.one (.own 5 0) :: .agg [.s, .s, .s, .s, .b, .i .i64, .s, .sl 68, .sl 9, .sl 114] :: [], .u :: []⟩ a
noncomputable def r_impl_DefOk (a : List DC) : Out := Run cfg 31 ⟨.agg [.i .i64, .b, .s, .s, .sl 9, .sl 59, .sl 70, .sl 62, .sl 64, .b, .sl 114] :: [], []⟩ a
noncomputable def r_impl_descLine (a : List DC) : Out := Run cfg 32 ⟨os :: os :: [], []⟩ a
noncomputable def r_impl_defWords (a : List DC) : Out := Run cfg 33 ⟨[], []⟩ a
noncomputable def r_impl_insText (a : List DC) : Out := Run cfg 34 ⟨ol 70 :: [], []⟩ a
noncomputable def r_strings_Join (a : List DC) : Out := Run cfg 35 h_strings_Join a
noncomputable def r_impl_DirsText (a : List DC) : Out := Run cfg 36 ⟨ol 114 :: [], []⟩ a
noncomputable def r_impl_blockLines (a : List DC) : Out := Run cfg 37 ⟨.agg [.i .i64, .b, .s, .s, .sl 9, .sl 59, .sl 70, .sl 62, .sl 64, .b, .sl 114] :: [], []⟩ a
noncomputable def r_laws_eqStringS (a : List DC) : Out := Run cfg 38 ⟨ol 9 :: ol 9 :: [], []⟩ a
noncomputable def r_laws_eqFieldDefS (a : List DC) : Out := Run cfg 39 ⟨ol 59 :: ol 59 :: [], []⟩ a
noncomputable def r_laws_eqInDefS (a : List DC) : Out := Run cfg 40 ⟨ol 70 :: ol 70 :: [], []⟩ a
noncomputable def r_laws_eqEnumDefS (a : List DC) : Out := Run cfg 41 ⟨ol 62 :: ol 62 :: [], []⟩ a
noncomputable def r_laws_eqRootS (a : List DC) : Out := Run cfg 42 ⟨ol 64 :: ol 64 :: [], []⟩ a
noncomputable def r_laws_eqDirS (a : List DC) : Out := Run cfg 43 ⟨ol 114 :: ol 114 :: [], []⟩ a
noncomputable def r_laws_szFieldDef (a : List DC) : Out := Run cfg 44 ⟨.agg [.s, .s, .sl 97, .s, .s, .sl 106] :: oi :: [], []⟩ a
noncomputable def r_laws_szInDef (a : List DC) : Out := Run cfg 45 ⟨.agg [.s, .s, .s, .s, .b, .i .i64, .s, .sl 95, .sl 9, .sl 106] :: oi :: [], []⟩ a
noncomputable def r_laws_szEnumDef (a : List DC) : Out := Run cfg 46 ⟨.agg [.s, .s, .sl 106] :: oi :: [], []⟩ a
noncomputable def r_laws_szRoot (a : List DC) : Out := Run cfg 47 ⟨.agg [.i .i64, .s] :: oi :: [], []⟩ a
noncomputable def r_laws_szDir (a : List DC) : Out := Run cfg 48 ⟨.agg [.s, .sl 175] :: oi :: [], []⟩ a
noncomputable def r_laws_toFieldDef (a : List DC) : Out := Run cfg 63 ⟨.agg [.s, .s, .sl 97, .s, .s, .sl 106] :: [], []⟩ a
noncomputable def r_laws_toInDef (a : List DC) : Out := Run cfg 64 ⟨.agg [.s, .s, .s, .s, .b, .i .i64, .s, .sl 95, .sl 9, .sl 106] :: [], []⟩ a
noncomputable def r_laws_toEnumDef (a : List DC) : Out := Run cfg 65 ⟨.agg [.s, .s, .sl 106] :: [], []⟩ a
noncomputable def r_laws_toRoot (a : List DC) : Out := Run cfg 66 ⟨.agg [.i .i64, .s] :: [], []⟩ a
noncomputable def r_laws_toDir (a : List DC) : Out := Run cfg 67 ⟨.agg [.s, .sl 175] :: [], []⟩ a
noncomputable def r_spec_l01In (a : List DC) : Out := Run cfg 49 ⟨oi :: oi :: oi :: [], []⟩ a
noncomputable def r_spec_l13Desc (a : List DC) : Out := Run cfg 50 ⟨os :: [], []⟩ a
noncomputable def r_spec_l13Has (a : List DC) : Out := Run cfg 51 ⟨.agg [.i .i64, .b, .s, .s, .sl 9, .sl 59, .sl 70, .sl 62, .sl 64, .b, .sl 114] :: [], []⟩ a
noncomputable def r_spec_l13May (a : List DC) : Out := Run cfg 52 ⟨.agg [.i .i64, .b, .s, .s, .sl 9, .sl 59, .sl 70, .sl 62, .sl 64, .b, .sl 114] :: [], []⟩ a
noncomputable def r_spec_NameOk (a : List DC) : Out := Run cfg 53 ⟨os :: [], []⟩ a
noncomputable def r_spec_l13Ins (a : List DC) : Out := Run cfg 54 ⟨ol 70 :: [], []⟩ a
noncomputable def r_spec_l12Consts (a : List DC) : Out := Run cfg 55 ⟨ol 114 :: [], []⟩ a
noncomputable def r_spec_l13Field (a : List DC) : Out := Run cfg 56 ⟨.agg [.s, .s, .sl 70, .s, .s, .sl 114] :: [], []⟩ a
noncomputable def r_spec_Word (a : List DC) : Out := Run cfg 57 ⟨os :: [], []⟩ a
noncomputable def r_spec_TextOk (a : List DC) : Out := Run cfg 58 ⟨os :: [], []⟩ a
noncomputable def r_spec_l04Hex4 (a : List DC) : Out := Run cfg 59 ⟨oi :: [], []⟩ a
noncomputable def r_spec_l10Say (a : List DC) : Out := Run cfg 60 ⟨.one (.own 5 0) :: ol 148 :: [], .u :: []⟩ a
noncomputable def r_spec_TypeText (a : List DC) : Out := Run cfg 61 ⟨.agg [.s, .s] :: [], []⟩ a
noncomputable def r_spec_l07Say (a : List DC) : Out := Run cfg 62 ⟨.one (.own 5 0) :: .agg [.i .i64, .s, .sl 68, .sl 9] :: [], .u :: []⟩ a
noncomputable def r_impl_in (a : List DC) : Out := Run cfg 68 ⟨oi :: oi :: oi :: [], []⟩ a
noncomputable def r_impl_descOk (a : List DC) : Out := Run cfg 69 ⟨os :: [], []⟩ a
noncomputable def r_impl_something (a : List DC) : Out := Run cfg 70 ⟨.agg [.i .i64, .b, .s, .s, .sl 9, .sl 59, .sl 70, .sl 62, .sl 64, .b, .sl 114] :: [], []⟩ a
noncomputable def r_impl_partsOk (a : List DC) : Out := Run cfg 71 ⟨.agg [.i .i64, .b, .s, .s, .sl 9, .sl 59, .sl 70, .sl 62, .sl 64, .b, .sl 114] :: [], []⟩ a
noncomputable def r_impl_belongs (a : List DC) : Out := Run cfg 72 ⟨.agg [.i .i64, .b, .s, .s, .sl 9, .sl 59, .sl 70, .sl 62, .sl 64, .b, .sl 114] :: [], []⟩ a
noncomputable def r_impl_NameOk (a : List DC) : Out := Run cfg 73 ⟨os :: [], []⟩ a
noncomputable def r_slices_ContainsFunc_string__impl_DefOk_1 (a : List DC) : Out := Run cfg 74 ⟨ol 9 :: .one (.fn 75 []) :: [], []⟩ a
noncomputable def r_impl_Escaped (a : List DC) : Out := Run cfg 77 ⟨os :: [], []⟩ a
noncomputable def r_impl_InText (a : List DC) : Out := Run cfg 78 ⟨.agg [.s, .s, .s, .s, .b, .i .i64, .s, .sl 68, .sl 9, .sl 114] :: [], []⟩ a
noncomputable def r_impl_DirsOk (a : List DC) : Out := Run cfg 82 ⟨ol 114 :: [], []⟩ a
noncomputable def r_impl_ArgsText (a : List DC) : Out := Run cfg 83 ⟨ol 148 :: [], []⟩ a
noncomputable def r_impl_FieldText (a : List DC) : Out := Run cfg 84 ⟨.agg [.s, .s, .sl 70, .s, .s, .sl 114] :: [], []⟩ a
noncomputable def r_impl_OpWord (a : List DC) : Out := Run cfg 85 ⟨oi :: [], []⟩ a
noncomputable def r_laws_eqFieldDef (a : List DC) : Out := Run cfg 86 ⟨.agg [.s, .s, .sl 70, .s, .s, .sl 114] :: .agg [.s, .s, .sl 70, .s, .s, .sl 114] :: [], []⟩ a
noncomputable def r_laws_eqInDef (a : List DC) : Out := Run cfg 87 ⟨.agg [.s, .s, .s, .s, .b, .i .i64, .s, .sl 68, .sl 9, .sl 114] :: .agg [.s, .s, .s, .s, .b, .i .i64, .s, .sl 68, .sl 9, .sl 114] :: [], []⟩ a
noncomputable def r_laws_eqEnumDef (a : List DC) : Out := Run cfg 88 ⟨.agg [.s, .s, .sl 114] :: .agg [.s, .s, .sl 114] :: [], []⟩ a
noncomputable def r_laws_eqRoot (a : List DC) : Out := Run cfg 89 ⟨.agg [.i .i64, .s] :: .agg [.i .i64, .s] :: [], []⟩ a
noncomputable def r_laws_eqDir (a : List DC) : Out := Run cfg 90 ⟨.agg [.s, .sl 148] :: .agg [.s, .sl 148] :: [], []⟩ a
noncomputable def r_laws_szType (a : List DC) : Out := Run cfg 91 ⟨.agg [.s, .s] :: oi :: [], []⟩ a
noncomputable def r_laws_szValue (a : List DC) : Out := Run cfg 92 ⟨.agg [.i .i64, .s, .sl 95, .sl 9] :: oi :: [], []⟩ a
noncomputable def r_laws_szArgS (a : List DC) : Out := Run cfg 93 ⟨ol 175 :: oi :: [], []⟩ a
noncomputable def r_laws_toType (a : List DC) : Out := Run cfg 102 ⟨.agg [.s, .s] :: [], []⟩ a
noncomputable def r_laws_toValue (a : List DC) : Out := Run cfg 103 ⟨.agg [.i .i64, .s, .sl 95, .sl 9] :: [], []⟩ a
noncomputable def r_laws_toArgS (a : List DC) : Out := Run cfg 104 ⟨ol 175 :: [], []⟩ a
noncomputable def r_spec_PlaceOk (a : List DC) : Out := Run cfg 94 ⟨os :: [], []⟩ a
noncomputable def r_spec_l03Figure (a : List DC) : Out := Run cfg 95 ⟨.one (.i .u8) :: [], []⟩ a
noncomputable def r_spec_l03Letter (a : List DC) : Out := Run cfg 96 ⟨.one (.i .u8) :: [], []⟩ a
noncomputable def r_spec_l13In (a : List DC) : Out := Run cfg 97 ⟨.agg [.s, .s, .s, .s, .b, .i .i64, .s, .sl 68, .sl 9, .sl 114] :: [], []⟩ a
noncomputable def r_spec_IsConst (a : List DC) : Out := Run cfg 98 ⟨.agg [.i .i64, .s, .sl 68, .sl 9] :: [], []⟩ a
noncomputable def r_spec_DirsOk (a : List DC) : Out := Run cfg 99 ⟨ol 114 :: [], []⟩ a
noncomputable def r_spec_TypeOk (a : List DC) : Out := Run cfg 100 ⟨.agg [.s, .s] :: [], []⟩ a
noncomputable def r_spec_RuneAt (a : List DC) : Out := Run cfg 101 ⟨os :: oi :: [], []⟩ a
noncomputable def r_slices_ContainsFunc_impl_FieldDef__impl_partsOk_1 (a : List DC) : Out := Run cfg 105 ⟨ol 59 :: .one (.fn 106 []) :: [], []⟩ a
noncomputable def r_impl_insOk (a : List DC) : Out := Run cfg 108 ⟨ol 70 :: [], []⟩ a
noncomputable def r_slices_ContainsFunc_impl_EnumDef__impl_partsOk_2 (a : List DC) : Out := Run cfg 109 ⟨ol 62 :: .one (.fn 110 []) :: [], []⟩ a
noncomputable def r_slices_ContainsFunc_impl_Root__impl_partsOk_3 (a : List DC) : Out := Run cfg 112 ⟨ol 64 :: .one (.fn 113 []) :: [], []⟩ a
noncomputable def r_slices_ContainsFunc_string__impl_partsOk_4 (a : List DC) : Out := Run cfg 74 ⟨ol 9 :: .one (.fn 115 []) :: [], []⟩ a
noncomputable def r_impl_constDirs (a : List DC) : Out := Run cfg 116 ⟨ol 114 :: [], []⟩ a
noncomputable def r_impl_isFigure (a : List DC) : Out := Run cfg 117 ⟨.one (.i .u8) :: [], []⟩ a
noncomputable def r_impl_inName (a : List DC) : Out := Run cfg 118 ⟨.one (.i .u8) :: [], []⟩ a
noncomputable def r_slices_IndexFunc_string__impl_DefOk_1 (a : List DC) : Out := Run cfg 119 ⟨ol 9 :: .one (.fn 75 []) :: [], []⟩ a
noncomputable def r_impl_TextOk (a : List DC) : Out := Run cfg 120 ⟨os :: [], []⟩ a
noncomputable def r_strings_IndexByte (a : List DC) : Out := Run cfg 121 ⟨os :: .one (.i .u8) :: [], []⟩ a
noncomputable def r_impl_inOk (a : List DC) : Out := Run cfg 122 ⟨.agg [.s, .s, .s, .s, .b, .i .i64, .s, .sl 68, .sl 9, .sl 114] :: [], []⟩ a
noncomputable def r_impl_TypeText (a : List DC) : Out := Run cfg 123 ⟨.agg [.s, .s] :: [], []⟩ a
noncomputable def r_impl_defaultText (a : List DC) : Out := Run cfg 124 ⟨ob :: .agg [.i .i64, .s, .sl 68, .sl 9] :: [], []⟩ a
noncomputable def r_slices_ContainsFunc_impl_Dir__impl_DirsOk_1 (a : List DC) : Out := Run cfg 127 ⟨ol 114 :: .one (.fn 128 []) :: [], []⟩ a
noncomputable def r_impl_ArgsOk (a : List DC) : Out := Run cfg 129 ⟨ol 148 :: [], []⟩ a
noncomputable def r_impl_printValue (a : List DC) : Out := Run cfg 130 ⟨.agg [.i .i64, .s, .sl 68, .sl 9] :: [], []⟩ a
noncomputable def r_impl_fieldOk (a : List DC) : Out := Run cfg 107 ⟨.agg [.s, .s, .sl 70, .s, .s, .sl 114] :: [], []⟩ a
noncomputable def r_laws_eqType (a : List DC) : Out := Run cfg 131 ⟨.agg [.s, .s] :: .agg [.s, .s] :: [], []⟩ a
noncomputable def r_laws_eqValue (a : List DC) : Out := Run cfg 132 ⟨.agg [.i .i64, .s, .sl 68, .sl 9] :: .agg [.i .i64, .s, .sl 68, .sl 9] :: [], []⟩ a
noncomputable def r_laws_eqArgS (a : List DC) : Out := Run cfg 133 ⟨ol 148 :: ol 148 :: [], []⟩ a
noncomputable def r_laws_szValueS (a : List DC) : Out := Run cfg 134 ⟨ol 95 :: oi :: [], []⟩ a
noncomputable def r_laws_szArg (a : List DC) : Out := Run cfg 135 ⟨.agg [.s, .i .i64, .s, .sl 95, .sl 9] :: oi :: [], []⟩ a
noncomputable def r_laws_toValueS (a : List DC) : Out := Run cfg 140 ⟨ol 95 :: [], []⟩ a
noncomputable def r_laws_toArg (a : List DC) : Out := Run cfg 141 ⟨.agg [.s, .i .i64, .s, .sl 95, .sl 9] :: [], []⟩ a
noncomputable def r_spec_l12Default (a : List DC) : Out := Run cfg 136 ⟨ob :: .agg [.i .i64, .s, .sl 68, .sl 9] :: [], []⟩ a
noncomputable def r_spec_l07Const (a : List DC) : Out := Run cfg 137 ⟨.agg [.i .i64, .s, .sl 68, .sl 9] :: [], []⟩ a
noncomputable def r_spec_ArgsOk (a : List DC) : Out := Run cfg 138 ⟨ol 148 :: [], []⟩ a
noncomputable def r_spec_RuneText (a : List DC) : Out := Run cfg 139 ⟨oi :: [], []⟩ a
noncomputable def r_slices_IndexFunc_impl_FieldDef__impl_partsOk_1 (a : List DC) : Out := Run cfg 142 ⟨ol 59 :: .one (.fn 106 []) :: [], []⟩ a
noncomputable def r_slices_ContainsFunc_impl_InDef__impl_insOk_1 (a : List DC) : Out := Run cfg 144 ⟨ol 70 :: .one (.fn 145 []) :: [], []⟩ a
noncomputable def r_slices_IndexFunc_impl_EnumDef__impl_partsOk_2 (a : List DC) : Out := Run cfg 146 ⟨ol 62 :: .one (.fn 110 []) :: [], []⟩ a
noncomputable def r_slices_IndexFunc_impl_Root__impl_partsOk_3 (a : List DC) : Out := Run cfg 148 ⟨ol 64 :: .one (.fn 113 []) :: [], []⟩ a
noncomputable def r_slices_IndexFunc_string__impl_partsOk_4 (a : List DC) : Out := Run cfg 119 ⟨ol 9 :: .one (.fn 115 []) :: [], []⟩ a
noncomputable def r_slices_ContainsFunc_impl_Dir__impl_constDirs_1 (a : List DC) : Out := Run cfg 127 ⟨ol 114 :: .one (.fn 149 []) :: [], []⟩ a
noncomputable def r_impl_isLetter (a : List DC) : Out := Run cfg 153 ⟨.one (.i .u8) :: [], []⟩ a
noncomputable def r_impl_DefOk_1 (a : List DC) : Out := Run cfg 75 ⟨os :: [], []⟩ a
noncomputable def r_unicode_utf8_ValidString (a : List DC) : Out := Run cfg 154 h_unicode_utf8_ValidString a
noncomputable def r_internal_stringslite_IndexByte (a : List DC) : Out := Run cfg 155 h_internal_stringslite_IndexByte a
noncomputable def r_impl_TypeOk (a : List DC) : Out := Run cfg 143 ⟨.agg [.s, .s] :: [], []⟩ a
noncomputable def r_impl_defaultOk (a : List DC) : Out := Run cfg 156 ⟨ob :: .agg [.i .i64, .s, .sl 68, .sl 9] :: [], []⟩ a
noncomputable def r_impl_ValueText (a : List DC) : Out := Run cfg 157 ⟨.agg [.i .i64, .s, .sl 68, .sl 9] :: [], []⟩ a
noncomputable def r_slices_IndexFunc_impl_Dir__impl_DirsOk_1 (a : List DC) : Out := Run cfg 160 ⟨ol 114 :: .one (.fn 128 []) :: [], []⟩ a
noncomputable def r_slices_ContainsFunc_impl_Arg__impl_ArgsOk_1 (a : List DC) : Out := Run cfg 150 ⟨ol 148 :: .one (.fn 161 []) :: [], []⟩ a
noncomputable def r_laws_eqValueS (a : List DC) : Out := Run cfg 163 ⟨ol 68 :: ol 68 :: [], []⟩ a
noncomputable def r_laws_eqArg (a : List DC) : Out := Run cfg 164 ⟨.agg [.s, .i .i64, .s, .sl 68, .sl 9] :: .agg [.s, .i .i64, .s, .sl 68, .sl 9] :: [], []⟩ a
noncomputable def r_spec_ValueOk (a : List DC) : Out := Run cfg 165 ⟨.agg [.i .i64, .s, .sl 68, .sl 9] :: [], []⟩ a
noncomputable def r_spec_SameValue (a : List DC) : Out := Run cfg 166 ⟨.agg [.i .i64, .s, .sl 68, .sl 9] :: .agg [.i .i64, .s, .sl 68, .sl 9] :: [], []⟩ a
noncomputable def r_spec_l02Scalar (a : List DC) : Out := Run cfg 167 ⟨oi :: [], []⟩ a
noncomputable def r_impl_partsOk_1 (a : List DC) : Out := Run cfg 106 ⟨.agg [.s, .s, .sl 70, .s, .s, .sl 114] :: [], []⟩ a
noncomputable def r_slices_IndexFunc_impl_InDef__impl_insOk_1 (a : List DC) : Out := Run cfg 170 ⟨ol 70 :: .one (.fn 145 []) :: [], []⟩ a
noncomputable def r_impl_partsOk_2 (a : List DC) : Out := Run cfg 110 ⟨.agg [.s, .s, .sl 114] :: [], []⟩ a
noncomputable def r_impl_partsOk_3 (a : List DC) : Out := Run cfg 113 ⟨.agg [.i .i64, .s] :: [], []⟩ a
noncomputable def r_impl_partsOk_4 (a : List DC) : Out := Run cfg 115 ⟨os :: [], []⟩ a
noncomputable def r_slices_IndexFunc_impl_Dir__impl_constDirs_1 (a : List DC) : Out := Run cfg 160 ⟨ol 114 :: .one (.fn 149 []) :: [], []⟩ a
noncomputable def r_impl_PlaceOk (a : List DC) : Out := Run cfg 76 ⟨os :: [], []⟩ a
noncomputable def r_strings_Trim (a : List DC) : Out := Run cfg 168 h_strings_Trim a
noncomputable def r_strings_Contains (a : List DC) : Out := Run cfg 169 h_strings_Contains a
noncomputable def r_impl_emptyValue (a : List DC) : Out := Run cfg 176 ⟨.agg [.i .i64, .s, .sl 68, .sl 9] :: [], []⟩ a
noncomputable def r_impl_ValueOk (a : List DC) : Out := Run cfg 162 ⟨.agg [.i .i64, .s, .sl 68, .sl 9] :: [], []⟩ a
noncomputable def r_impl_IsConst (a : List DC) : Out := Run cfg 152 ⟨.agg [.i .i64, .s, .sl 68, .sl 9] :: [], []⟩ a
noncomputable def r_impl_DirsOk_1 (a : List DC) : Out := Run cfg 128 ⟨.agg [.s, .sl 148] :: [], []⟩ a
noncomputable def r_slices_IndexFunc_impl_Arg__impl_ArgsOk_1 (a : List DC) : Out := Run cfg 171 ⟨ol 148 :: .one (.fn 161 []) :: [], []⟩ a
noncomputable def r_spec_l07Right (a : List DC) : Out := Run cfg 178 ⟨.agg [.i .i64, .s, .sl 68, .sl 9] :: oi :: [], []⟩ a
noncomputable def r_impl_insOk_1 (a : List DC) : Out := Run cfg 145 ⟨.agg [.s, .s, .s, .s, .b, .i .i64, .s, .sl 68, .sl 9, .sl 114] :: [], []⟩ a
noncomputable def r_impl_enumOk (a : List DC) : Out := Run cfg 111 ⟨.agg [.s, .s, .sl 114] :: [], []⟩ a
noncomputable def r_impl_rootOk (a : List DC) : Out := Run cfg 114 ⟨.agg [.i .i64, .s] :: [], []⟩ a
noncomputable def r_impl_constDirs_1 (a : List DC) : Out := Run cfg 149 ⟨.agg [.s, .sl 148] :: [], []⟩ a
noncomputable def r_impl_plain (a : List DC) : Out := Run cfg 188 ⟨.agg [.i .i64, .s, .sl 68, .sl 9] :: [], []⟩ a
noncomputable def r_impl_valueOk (a : List DC) : Out := Run cfg 177 ⟨.agg [.i .i64, .s, .sl 68, .sl 9] :: oi :: [], []⟩ a
noncomputable def r_slices_ContainsFunc_impl_Value__impl_IsConst_1 (a : List DC) : Out := Run cfg 172 ⟨ol 68 :: .one (.fn 173 []) :: [], []⟩ a
noncomputable def r_impl_ArgsOk_1 (a : List DC) : Out := Run cfg 161 ⟨.agg [.s, .i .i64, .s, .sl 68, .sl 9] :: [], []⟩ a
noncomputable def r_spec_l07One (a : List DC) : Out := Run cfg 193 ⟨.agg [.i .i64, .s, .sl 68, .sl 9] :: [], []⟩ a
noncomputable def r_impl_Word (a : List DC) : Out := Run cfg 147 ⟨os :: [], []⟩ a
noncomputable def r_slices_ContainsFunc_impl_Arg__impl_constDirs_1_1 (a : List DC) : Out := Run cfg 150 ⟨ol 148 :: .one (.fn 151 []) :: [], []⟩ a
noncomputable def r_impl_IntOk (a : List DC) : Out := Run cfg 189 ⟨os :: [], []⟩ a
noncomputable def r_impl_FloatOk (a : List DC) : Out := Run cfg 190 ⟨os :: [], []⟩ a
noncomputable def r_slices_ContainsFunc_string__impl_valueOk_1 (a : List DC) : Out := Run cfg 74 ⟨ol 9 :: .one (.fn 191 []) :: [], []⟩ a
noncomputable def r_slices_ContainsFunc_impl_Value__impl_valueOk_2 (a : List DC) : Out := Run cfg 172 ⟨ol 68 :: .one (.fn 192 [0]) :: [], .var 3 [.i .i64] :: []⟩ a
noncomputable def r_slices_IndexFunc_impl_Value__impl_IsConst_1 (a : List DC) : Out := Run cfg 187 ⟨ol 68 :: .one (.fn 173 []) :: [], []⟩ a
noncomputable def r_spec_IntOk (a : List DC) : Out := Run cfg 203 ⟨os :: [], []⟩ a
noncomputable def r_spec_FloatOk (a : List DC) : Out := Run cfg 204 ⟨os :: [], []⟩ a
noncomputable def r_slices_IndexFunc_impl_Arg__impl_constDirs_1_1 (a : List DC) : Out := Run cfg 171 ⟨ol 148 :: .one (.fn 151 []) :: [], []⟩ a
noncomputable def r_strings_TrimPrefix (a : List DC) : Out := Run cfg 199 ⟨os :: os :: [], []⟩ a
noncomputable def r_impl_figures (a : List DC) : Out := Run cfg 200 ⟨os :: [], []⟩ a
noncomputable def r_strings_IndexAny (a : List DC) : Out := Run cfg 201 h_strings_IndexAny a
noncomputable def r_strings_Cut (a : List DC) : Out := Run cfg 202 ⟨os :: os :: [], []⟩ a
noncomputable def r_slices_IndexFunc_string__impl_valueOk_1 (a : List DC) : Out := Run cfg 119 ⟨ol 9 :: .one (.fn 191 []) :: [], []⟩ a
noncomputable def r_slices_IndexFunc_impl_Value__impl_valueOk_2 (a : List DC) : Out := Run cfg 187 ⟨ol 68 :: .one (.fn 192 [0]) :: [], .var 3 [.i .i64] :: []⟩ a
noncomputable def r_impl_IsConst_1 (a : List DC) : Out := Run cfg 173 ⟨.agg [.i .i64, .s, .sl 68, .sl 9] :: [], []⟩ a
noncomputable def r_spec_l03Int (a : List DC) : Out := Run cfg 214 ⟨os :: [], []⟩ a
noncomputable def r_spec_l03Run (a : List DC) : Out := Run cfg 215 ⟨os :: oi :: [], []⟩ a
noncomputable def r_impl_constDirs_1_1 (a : List DC) : Out := Run cfg 151 ⟨.agg [.s, .i .i64, .s, .sl 68, .sl 9] :: [], []⟩ a
noncomputable def r_internal_stringslite_TrimPrefix (a : List DC) : Out := Run cfg 211 ⟨os :: os :: [], []⟩ a
noncomputable def r_internal_stringslite_Cut (a : List DC) : Out := Run cfg 213 h_internal_stringslite_Cut a
noncomputable def r_impl_valueOk_1 (a : List DC) : Out := Run cfg 191 ⟨os :: [], []⟩ a
noncomputable def r_impl_valueOk_2 (a : List DC) : Out := Run cfg 192 ⟨.agg [.i .i64, .s, .sl 68, .sl 9] :: .one (.ptr 0 0) :: [], .var 3 [.i .i64] :: []⟩ a
noncomputable def r_internal_stringslite_HasPrefix (a : List DC) : Out := Run cfg 218 ⟨os :: os :: [], []⟩ a
noncomputable def E_laws_FnExactDefText (a : List DC) : Out :=
 (r_laws_szDef [.i (gi a 0), .b (gb a 1), .s (gs a 2), .s (gs a 3), .sl (gl a 4), .sl (gl a 5), .sl (gl a 6), .sl (gl a 7), .sl (gl a 8), .b (gb a 9), .sl (gl a 10), .i (1048576 : Int)]).bindR fun r1 =>
 if (decide ((gi r1 0) < (0 : Int))) = true then
 .ret [.b true]
 else
 (r_laws_toDef [.i (gi a 0), .b (gb a 1), .s (gs a 2), .s (gs a 3), .sl (gl a 4), .sl (gl a 5), .sl (gl a 6), .sl (gl a 7), .sl (gl a 8), .b (gb a 9), .sl (gl a 10)]).bindR fun r2 =>
 (r_spec_DefText [.i (gi r2 0), .b (gb r2 1), .s (gs r2 2), .s (gs r2 3), .sl (gl r2 4), .sl (gl r2 5), .sl (gl r2 6), .sl (gl r2 7), .sl (gl r2 8), .b (gb r2 9), .sl (gl r2 10)]).bindR fun r3 =>
 (r_laws_toDef [.i (gi a 0), .b (gb a 1), .s (gs a 2), .s (gs a 3), .sl (gl a 4), .sl (gl a 5), .sl (gl a 6), .sl (gl a 7), .sl (gl a 8), .b (gb a 9), .sl (gl a 10)]).bindR fun r4 =>
 (r_impl_DefText [.i (gi r4 0), .b (gb r4 1), .s (gs r4 2), .s (gs r4 3), .sl (gl r4 4), .sl (gl r4 5), .sl (gl r4 6), .sl (gl r4 7), .sl (gl r4 8), .b (gb r4 9), .sl (gl r4 10)]).bindR fun r5 =>
 if (!((gs r5 0) == (gs r3 0))) = true then
 .ret [.b false]
 else
 (r_laws_toDef [.i (gi a 0), .b (gb a 1), .s (gs a 2), .s (gs a 3), .sl (gl a 4), .sl (gl a 5), .sl (gl a 6), .sl (gl a 7), .sl (gl a 8), .b (gb a 9), .sl (gl a 10)]).bindR fun r6 =>
 (r_laws_eqDef [.i (gi r4 0), .b (gb r4 1), .s (gs r4 2), .s (gs r4 3), .sl (gl r4 4), .sl (gl r4 5), .sl (gl r4 6), .sl (gl r4 7), .sl (gl r4 8), .b (gb r4 9), .sl (gl r4 10), .i (gi r6 0), .b (gb r6 1), .s (gs r6 2), .s (gs r6 3), .sl (gl r6 4), .sl (gl r6 5), .sl (gl r6 6), .sl (gl r6 7), .sl (gl r6 8), .b (gb r6 9), .sl (gl r6 10)]).bindR fun r7 =>
 if (!(gb r7 0)) = true then
 .ret [.b false]
 else
 .ret [.b true]
theorem eq_laws_FnExactDefText a : r_laws_FnExactDefText a = E_laws_FnExactDefText a := (Run_eq cfg 3 _ a).trans (by kernel_rfl)
noncomputable def E_laws_szDef (a : List DC) : Out :=
 if (decide ((IntKind.i64.wrap ((gi a 11) - ((gs a 2).length : Int))) < (0 : Int))) = true then
 .ret [.i (-1 : Int)]
 else
 if (decide ((IntKind.i64.wrap ((IntKind.i64.wrap ((gi a 11) - ((gs a 2).length : Int))) - ((gs a 3).length : Int))) < (0 : Int))) = true then
 .ret [.i (-1 : Int)]
 else
 (r_laws_szStringS [.sl (gl a 4), .i (IntKind.i64.wrap ((IntKind.i64.wrap ((gi a 11) - ((gs a 2).length : Int))) - ((gs a 3).length : Int)))]).bindR fun r1 =>
 if (decide ((gi r1 0) < (0 : Int))) = true then
 .ret [.i (-1 : Int)]
 else
 (r_laws_szFieldDefS [.sl (gl a 5), .i (gi r1 0)]).bindR fun r2 =>
 if (decide ((gi r2 0) < (0 : Int))) = true then
 .ret [.i (-1 : Int)]
 else
 (r_laws_szInDefS [.sl (gl a 6), .i (gi r2 0)]).bindR fun r3 =>
 if (decide ((gi r3 0) < (0 : Int))) = true then
 .ret [.i (-1 : Int)]
 else
 (r_laws_szEnumDefS [.sl (gl a 7), .i (gi r3 0)]).bindR fun r4 =>
 if (decide ((gi r4 0) < (0 : Int))) = true then
 .ret [.i (-1 : Int)]
 else
 (r_laws_szRootS [.sl (gl a 8), .i (gi r4 0)]).bindR fun r5 =>
 if (decide ((gi r5 0) < (0 : Int))) = true then
 .ret [.i (-1 : Int)]
 else
 (r_laws_szDirS [.sl (gl a 10), .i (gi r5 0)]).bindR fun r6 =>
 if (decide ((gi r6 0) < (0 : Int))) = true then
 .ret [.i (-1 : Int)]
 else
 .ret [.i (gi r6 0)]
theorem eq_laws_szDef a : r_laws_szDef a = E_laws_szDef a := (Run_eq cfg 4 _ a).trans (by kernel_rfl)
noncomputable def E_laws_toDef (a : List DC) : Out :=
 (r_laws_toStringS [.sl (gl a 4)]).bindR fun r1 =>
 (r_laws_toFieldDefS [.sl (gl a 5)]).bindR fun r2 =>
 (r_laws_toInDefS [.sl (gl a 6)]).bindR fun r3 =>
 (r_laws_toEnumDefS [.sl (gl a 7)]).bindR fun r4 =>
 (r_laws_toRootS [.sl (gl a 8)]).bindR fun r5 =>
 (r_laws_toDirS [.sl (gl a 10)]).bindR fun r6 =>
 .ret [.i (gi a 0), .b (gb a 1), .s (gs a 2), .s (gs a 3), .sl (gl r1 0), .sl (gl r2 0), .sl (gl r3 0), .sl (gl r4 0), .sl (gl r5 0), .b (gb a 9), .sl (gl r6 0)]
theorem eq_laws_toDef a : r_laws_toDef a = E_laws_toDef a := (Run_eq cfg 6 _ a).trans (by kernel_rfl)
noncomputable def E_spec_DefTextL1 : List DC → Out := fun v19 =>
 if (decide ((gi v19 2) < ((gl v19 8).length : Int))) = true then
 Out.andThenB (if 59 = 59 ∧ 0 ≤ (gi v19 2) ∧ (gi v19 2) < ((gl v19 8).length : Int) then
 (r_spec_l13SayField [.sl (gl v19 1), .s ((((gl v19 8).getD (gi v19 2).toNat []).getD 0 d0).ss), .s ((((gl v19 8).getD (gi v19 2).toNat []).getD 1 d0).ss), .sl ((((gl v19 8).getD (gi v19 2).toNat []).getD 2 d0).ll), .s ((((gl v19 8).getD (gi v19 2).toNat []).getD 3 d0).ss), .s ((((gl v19 8).getD (gi v19 2).toNat []).getD 4 d0).ss), .sl ((((gl v19 8).getD (gi v19 2).toNat []).getD 5 d0).ll)]).bindR fun r20 =>
 .norm [.sl (gl v19 0), .sl (gl r20 0), .i (gi v19 2), .i (gi v19 3), .b (gb v19 4), .s (gs v19 5), .s (gs v19 6), .sl (gl v19 7), .sl (gl v19 8), .sl (gl v19 9), .sl (gl v19 10), .sl (gl v19 11), .b (gb v19 12), .sl (gl v19 13)]
 else
 .fail) 2 fun v21 =>
 .norm [.sl (gl v21 0), .sl (gl v21 1), .i (IntKind.i64.wrap ((gi v21 2) + (1 : Int))), .i (gi v21 3), .b (gb v21 4), .s (gs v21 5), .s (gs v21 6), .sl (gl v21 7), .sl (gl v21 8), .sl (gl v21 9), .sl (gl v21 10), .sl (gl v21 11), .b (gb v21 12), .sl (gl v21 13)]
 else
 .ex 1 [.sl (gl v19 0), .sl (gl v19 1), .i (gi v19 3), .b (gb v19 4), .s (gs v19 5), .s (gs v19 6), .sl (gl v19 7), .sl (gl v19 8), .sl (gl v19 9), .sl (gl v19 10), .sl (gl v19 11), .b (gb v19 12), .sl (gl v19 13)]
noncomputable def E_spec_DefTextL2 : List DC → Out := fun v23 =>
 if (decide ((gi v23 2) < ((gl v23 10).length : Int))) = true then
 Out.andThenB (if 62 = 62 ∧ 0 ≤ (gi v23 2) ∧ (gi v23 2) < ((gl v23 10).length : Int) then
 (r_spec_l13SayDesc [.sl (gl v23 1), .s ((((gl v23 10).getD (gi v23 2).toNat []).getD 1 d0).ss)]).bindR fun r24 =>
 if 62 = 62 ∧ 0 ≤ (gi v23 2) ∧ (gi v23 2) < ((gl v23 10).length : Int) then
 if (gl r24 0).length + (bytesRow ((((gl v23 10).getD (gi v23 2).toNat []).getD 0 d0).ss)).length < LIM then
 if 62 = 62 ∧ 0 ≤ (gi v23 2) ∧ (gi v23 2) < ((gl v23 10).length : Int) then
 (r_spec_l10SayDirs [.sl ((gl r24 0) ++ (bytesRow ((((gl v23 10).getD (gi v23 2).toNat []).getD 0 d0).ss))), .sl ((((gl v23 10).getD (gi v23 2).toNat []).getD 2 d0).ll)]).bindR fun r25 =>
 if (gl r25 0).length + [[DC.i (10 : Int)]].length < LIM then
 .norm [.sl (gl v23 0), .sl ((gl r25 0) ++ [[DC.i (10 : Int)]]), .i (gi v23 2), .i (gi v23 3), .b (gb v23 4), .s (gs v23 5), .s (gs v23 6), .sl (gl v23 7), .sl (gl v23 8), .sl (gl v23 9), .sl (gl v23 10), .sl (gl v23 11), .b (gb v23 12), .sl (gl v23 13)]
 else
 .fail
 else
 .fail
 else
 .fail
 else
 .fail
 else
 .fail) 4 fun v26 =>
 .norm [.sl (gl v26 0), .sl (gl v26 1), .i (IntKind.i64.wrap ((gi v26 2) + (1 : Int))), .i (gi v26 3), .b (gb v26 4), .s (gs v26 5), .s (gs v26 6), .sl (gl v26 7), .sl (gl v26 8), .sl (gl v26 9), .sl (gl v26 10), .sl (gl v26 11), .b (gb v26 12), .sl (gl v26 13)]
 else
 .ex 3 [.sl (gl v23 0), .sl (gl v23 1), .i (gi v23 3), .b (gb v23 4), .s (gs v23 5), .s (gs v23 6), .sl (gl v23 7), .sl (gl v23 8), .sl (gl v23 9), .sl (gl v23 10), .sl (gl v23 11), .b (gb v23 12), .sl (gl v23 13)]
noncomputable def E_spec_DefTextL3 : List DC → Out := fun v28 =>
 if (decide ((gi v28 2) < ((gl v28 11).length : Int))) = true then
 Out.andThenB (if 64 = 64 ∧ 0 ≤ (gi v28 2) ∧ (gi v28 2) < ((gl v28 11).length : Int) then
 (r_spec_OpWord [.i ((((gl v28 11).getD (gi v28 2).toNat []).getD 0 d0).ii)]).bindR fun r29 =>
 if ([32, 32] : List UInt8).length + (gs r29 0).length < LIM then
 if (([32, 32] : List UInt8) ++ (gs r29 0)).length + ([58, 32] : List UInt8).length < LIM then
 if (gl v28 1).length + (bytesRow ((([32, 32] : List UInt8) ++ (gs r29 0)) ++ ([58, 32] : List UInt8))).length < LIM then
 if 64 = 64 ∧ 0 ≤ (gi v28 2) ∧ (gi v28 2) < ((gl v28 11).length : Int) then
 if ((gl v28 1) ++ (bytesRow ((([32, 32] : List UInt8) ++ (gs r29 0)) ++ ([58, 32] : List UInt8)))).length + (bytesRow ((((gl v28 11).getD (gi v28 2).toNat []).getD 1 d0).ss)).length < LIM then
 if (((gl v28 1) ++ (bytesRow ((([32, 32] : List UInt8) ++ (gs r29 0)) ++ ([58, 32] : List UInt8)))) ++ (bytesRow ((((gl v28 11).getD (gi v28 2).toNat []).getD 1 d0).ss))).length + [[DC.i (10 : Int)]].length < LIM then
 .norm [.sl (gl v28 0), .sl ((((gl v28 1) ++ (bytesRow ((([32, 32] : List UInt8) ++ (gs r29 0)) ++ ([58, 32] : List UInt8)))) ++ (bytesRow ((((gl v28 11).getD (gi v28 2).toNat []).getD 1 d0).ss))) ++ [[DC.i (10 : Int)]]), .i (gi v28 2), .i (gi v28 3), .b (gb v28 4), .s (gs v28 5), .s (gs v28 6), .sl (gl v28 7), .sl (gl v28 8), .sl (gl v28 9), .sl (gl v28 10), .sl (gl v28 11), .b (gb v28 12), .sl (gl v28 13)]
 else
 .fail
 else
 .fail
 else
 .fail
 else
 .fail
 else
 .fail
 else
 .fail
 else
 .fail) 6 fun v30 =>
 .norm [.sl (gl v30 0), .sl (gl v30 1), .i (IntKind.i64.wrap ((gi v30 2) + (1 : Int))), .i (gi v30 3), .b (gb v30 4), .s (gs v30 5), .s (gs v30 6), .sl (gl v30 7), .sl (gl v30 8), .sl (gl v30 9), .sl (gl v30 10), .sl (gl v30 11), .b (gb v30 12), .sl (gl v30 13)]
 else
 .ex 5 [.sl (gl v28 0), .sl (gl v28 1), .i (gi v28 3), .b (gb v28 4), .s (gs v28 5), .s (gs v28 6), .sl (gl v28 7), .sl (gl v28 8), .sl (gl v28 9), .sl (gl v28 10), .sl (gl v28 11), .b (gb v28 12), .sl (gl v28 13)]
noncomputable def E_spec_DefTextL4 : List DC → Out := fun v32 =>
 Out.andThen (if (decide ((gi v32 2) < ((gl v32 9).length : Int))) = true then
 .norm [.sl (gl v32 0), .sl (gl v32 1), .i (gi v32 2), .b ((gi v32 3) == (6 : Int)), .i (gi v32 3), .b (gb v32 4), .s (gs v32 5), .s (gs v32 6), .sl (gl v32 7), .sl (gl v32 8), .sl (gl v32 9), .sl (gl v32 10), .sl (gl v32 11), .b (gb v32 12), .sl (gl v32 13)]
 else
 .norm [.sl (gl v32 0), .sl (gl v32 1), .i (gi v32 2), .b false, .i (gi v32 3), .b (gb v32 4), .s (gs v32 5), .s (gs v32 6), .sl (gl v32 7), .sl (gl v32 8), .sl (gl v32 9), .sl (gl v32 10), .sl (gl v32 11), .b (gb v32 12), .sl (gl v32 13)]) fun v33 =>
 if (gb v33 3) = true then
 Out.andThenB (if (gl v33 1).length + [[DC.i (32 : Int)], [DC.i (32 : Int)]].length < LIM then
 if 70 = 70 ∧ 0 ≤ (gi v33 2) ∧ (gi v33 2) < ((gl v33 10).length : Int) then
 (r_spec_l13SayIn [.sl ((gl v33 1) ++ [[DC.i (32 : Int)], [DC.i (32 : Int)]]), .s ((((gl v33 10).getD (gi v33 2).toNat []).getD 0 d0).ss), .s ((((gl v33 10).getD (gi v33 2).toNat []).getD 1 d0).ss), .s ((((gl v33 10).getD (gi v33 2).toNat []).getD 2 d0).ss), .s ((((gl v33 10).getD (gi v33 2).toNat []).getD 3 d0).ss), .b ((((gl v33 10).getD (gi v33 2).toNat []).getD 4 d0).bb), .i ((((gl v33 10).getD (gi v33 2).toNat []).getD 5 d0).ii), .s ((((gl v33 10).getD (gi v33 2).toNat []).getD 6 d0).ss), .sl ((((gl v33 10).getD (gi v33 2).toNat []).getD 7 d0).ll), .sl ((((gl v33 10).getD (gi v33 2).toNat []).getD 8 d0).ll), .sl ((((gl v33 10).getD (gi v33 2).toNat []).getD 9 d0).ll)]).bindR fun r34 =>
 if (gl r34 0).length + [[DC.i (10 : Int)]].length < LIM then
 .norm [.sl (gl v33 0), .sl ((gl r34 0) ++ [[DC.i (10 : Int)]]), .i (gi v33 2), .i (gi v33 4), .b (gb v33 5), .s (gs v33 6), .s (gs v33 7), .sl (gl v33 8), .sl (gl v33 9), .sl (gl v33 10), .sl (gl v33 11), .sl (gl v33 12), .b (gb v33 13), .sl (gl v33 14)]
 else
 .fail
 else
 .fail
 else
 .fail) 8 fun v35 =>
 .norm [.sl (gl v35 0), .sl (gl v35 1), .i (IntKind.i64.wrap ((gi v35 2) + (1 : Int))), .i (gi v35 3), .b (gb v35 4), .s (gs v35 5), .s (gs v35 6), .sl (gl v35 7), .sl (gl v35 8), .sl (gl v35 9), .sl (gl v35 10), .sl (gl v35 11), .b (gb v35 12), .sl (gl v35 13)]
 else
 .ex 7 [.sl (gl v33 0), .sl (gl v33 1)]
noncomputable def E_spec_DefText (a : List DC) : Out :=
 (r_spec_DefOk [.i (gi a 0), .b (gb a 1), .s (gs a 2), .s (gs a 3), .sl (gl a 4), .sl (gl a 5), .sl (gl a 6), .sl (gl a 7), .sl (gl a 8), .b (gb a 9), .sl (gl a 10)]).bindR fun r1 =>
 if (!(gb r1 0)) = true then
 .ret [.s ([] : List UInt8)]
 else
 Out.andThen (if (!((gs a 2) == ([] : List UInt8))) = true then
 (r_spec_Escaped [.s (gs a 2)]).bindR fun r2 =>
 if ([] : List (List DC)).length + (bytesRow (gs r2 0)).length < LIM then
 if (([] : List (List DC)) ++ (bytesRow (gs r2 0))).length + [[DC.i (10 : Int)]].length < LIM then
 .norm [.sl ((([] : List (List DC)) ++ (bytesRow (gs r2 0))) ++ [[DC.i (10 : Int)]]), .i (gi a 0), .b (gb a 1), .s (gs a 2), .s (gs a 3), .sl (gl a 4), .sl (gl a 5), .sl (gl a 6), .sl (gl a 7), .sl (gl a 8), .b (gb a 9), .sl (gl a 10)]
 else
 .fail
 else
 .fail
 else
 .norm [.sl [], .i (gi a 0), .b (gb a 1), .s (gs a 2), .s (gs a 3), .sl (gl a 4), .sl (gl a 5), .sl (gl a 6), .sl (gl a 7), .sl (gl a 8), .b (gb a 9), .sl (gl a 10)]) fun v3 =>
 Out.andThen (if (gb v3 2) = true then
 if (gl v3 0).length + (bytesRow ([101, 120, 116, 101, 110, 100, 32] : List UInt8)).length < LIM then
 .norm [.sl ((gl v3 0) ++ (bytesRow ([101, 120, 116, 101, 110, 100, 32] : List UInt8))), .i (gi v3 1), .b (gb v3 2), .s (gs v3 3), .s (gs v3 4), .sl (gl v3 5), .sl (gl v3 6), .sl (gl v3 7), .sl (gl v3 8), .sl (gl v3 9), .b (gb v3 10), .sl (gl v3 11)]
 else
 .fail
 else
 .norm [.sl (gl v3 0), .i (gi v3 1), .b (gb v3 2), .s (gs v3 3), .s (gs v3 4), .sl (gl v3 5), .sl (gl v3 6), .sl (gl v3 7), .sl (gl v3 8), .sl (gl v3 9), .b (gb v3 10), .sl (gl v3 11)]) fun v4 =>
 (r_spec_l13Word [.i (gi v4 1)]).bindR fun r5 =>
 if (gl v4 0).length + (bytesRow (gs r5 0)).length < LIM then
 Out.andThenB (Out.andThen (if ((gi v4 1) == (8 : Int)) = true then
 .norm [.sl ((gl v4 0) ++ (bytesRow (gs r5 0))), .i (gi v4 1), .b (gb v4 2), .s (gs v4 3), .s (gs v4 4), .sl (gl v4 5), .sl (gl v4 6), .sl (gl v4 7), .sl (gl v4 8), .sl (gl v4 9), .b (gb v4 10), .sl (gl v4 11)]
 else
 Out.andThen (if ((gi v4 1) == (7 : Int)) = true then
 if ((gl v4 0) ++ (bytesRow (gs r5 0))).length + [[DC.i (32 : Int)], [DC.i (64 : Int)]].length < LIM then
 if (((gl v4 0) ++ (bytesRow (gs r5 0))) ++ [[DC.i (32 : Int)], [DC.i (64 : Int)]]).length + (bytesRow (gs v4 4)).length < LIM then
 (r_spec_l13SayIns [.sl ((((gl v4 0) ++ (bytesRow (gs r5 0))) ++ [[DC.i (32 : Int)], [DC.i (64 : Int)]]) ++ (bytesRow (gs v4 4))), .sl (gl v4 7)]).bindR fun r6 =>
 Out.andThen (if (gb v4 10) = true then
 if (gl r6 0).length + (bytesRow ([32, 114, 101, 112, 101, 97, 116, 97, 98, 108, 101] : List UInt8)).length < LIM then
 .norm [.sl ((gl r6 0) ++ (bytesRow ([32, 114, 101, 112, 101, 97, 116, 97, 98, 108, 101] : List UInt8))), .i (gi v4 1), .b (gb v4 2), .s (gs v4 3), .s (gs v4 4), .sl (gl v4 5), .sl (gl v4 6), .sl (gl v4 7), .sl (gl v4 8), .sl (gl v4 9), .b (gb v4 10), .sl (gl v4 11)]
 else
 .fail
 else
 .norm [.sl (gl r6 0), .i (gi v4 1), .b (gb v4 2), .s (gs v4 3), .s (gs v4 4), .sl (gl v4 5), .sl (gl v4 6), .sl (gl v4 7), .sl (gl v4 8), .sl (gl v4 9), .b (gb v4 10), .sl (gl v4 11)]) fun v7 =>
 if (gl v7 0).length + (bytesRow ([32, 111, 110, 32] : List UInt8)).length < LIM then
 (r_spec_l13Names [.sl ((gl v7 0) ++ (bytesRow ([32, 111, 110, 32] : List UInt8))), .sl (gl v7 5), .s ([32, 124, 32] : List UInt8)]).bindR fun r8 =>
 .norm [.sl (gl r8 0), .i (gi v7 1), .b (gb v7 2), .s (gs v7 3), .s (gs v7 4), .sl (gl v7 5), .sl (gl v7 6), .sl (gl v7 7), .sl (gl v7 8), .sl (gl v7 9), .b (gb v7 10), .sl (gl v7 11)]
 else
 .fail
 else
 .fail
 else
 .fail
 else
 if ((gl v4 0) ++ (bytesRow (gs r5 0))).length + [[DC.i (32 : Int)]].length < LIM then
 if (((gl v4 0) ++ (bytesRow (gs r5 0))) ++ [[DC.i (32 : Int)]]).length + (bytesRow (gs v4 4)).length < LIM then
 .norm [.sl ((((gl v4 0) ++ (bytesRow (gs r5 0))) ++ [[DC.i (32 : Int)]]) ++ (bytesRow (gs v4 4))), .i (gi v4 1), .b (gb v4 2), .s (gs v4 3), .s (gs v4 4), .sl (gl v4 5), .sl (gl v4 6), .sl (gl v4 7), .sl (gl v4 8), .sl (gl v4 9), .b (gb v4 10), .sl (gl v4 11)]
 else
 .fail
 else
 .fail) fun v9 =>
 .norm [.sl (gl v9 0), .i (gi v9 1), .b (gb v9 2), .s (gs v9 3), .s (gs v9 4), .sl (gl v9 5), .sl (gl v9 6), .sl (gl v9 7), .sl (gl v9 8), .sl (gl v9 9), .b (gb v9 10), .sl (gl v9 11)]) fun v10 =>
 .norm [.sl (gl v10 0), .i (gi v10 1), .b (gb v10 2), .s (gs v10 3), .s (gs v10 4), .sl (gl v10 5), .sl (gl v10 6), .sl (gl v10 7), .sl (gl v10 8), .sl (gl v10 9), .b (gb v10 10), .sl (gl v10 11)]) 0 fun v11 =>
 Out.andThen (if ((gi v11 1) == (2 : Int)) = true then
 .norm [.sl (gl v11 0), .b (decide (((gl v11 5).length : Int) > (0 : Int))), .i (gi v11 1), .b (gb v11 2), .s (gs v11 3), .s (gs v11 4), .sl (gl v11 5), .sl (gl v11 6), .sl (gl v11 7), .sl (gl v11 8), .sl (gl v11 9), .b (gb v11 10), .sl (gl v11 11)]
 else
 if ((gi v11 1) == (3 : Int)) = true then
 .norm [.sl (gl v11 0), .b (decide (((gl v11 5).length : Int) > (0 : Int))), .i (gi v11 1), .b (gb v11 2), .s (gs v11 3), .s (gs v11 4), .sl (gl v11 5), .sl (gl v11 6), .sl (gl v11 7), .sl (gl v11 8), .sl (gl v11 9), .b (gb v11 10), .sl (gl v11 11)]
 else
 .norm [.sl (gl v11 0), .b false, .i (gi v11 1), .b (gb v11 2), .s (gs v11 3), .s (gs v11 4), .sl (gl v11 5), .sl (gl v11 6), .sl (gl v11 7), .sl (gl v11 8), .sl (gl v11 9), .b (gb v11 10), .sl (gl v11 11)]) fun v12 =>
 Out.andThen (if (gb v12 1) = true then
 if (gl v12 0).length + (bytesRow ([32, 105, 109, 112, 108, 101, 109, 101, 110, 116, 115, 32] : List UInt8)).length < LIM then
 (r_spec_l13Names [.sl ((gl v12 0) ++ (bytesRow ([32, 105, 109, 112, 108, 101, 109, 101, 110, 116, 115, 32] : List UInt8))), .sl (gl v12 6), .s ([32, 38, 32] : List UInt8)]).bindR fun r13 =>
 .norm [.sl (gl r13 0), .i (gi v12 2), .b (gb v12 3), .s (gs v12 4), .s (gs v12 5), .sl (gl v12 6), .sl (gl v12 7), .sl (gl v12 8), .sl (gl v12 9), .sl (gl v12 10), .b (gb v12 11), .sl (gl v12 12)]
 else
 .fail
 else
 .norm [.sl (gl v12 0), .i (gi v12 2), .b (gb v12 3), .s (gs v12 4), .s (gs v12 5), .sl (gl v12 6), .sl (gl v12 7), .sl (gl v12 8), .sl (gl v12 9), .sl (gl v12 10), .b (gb v12 11), .sl (gl v12 12)]) fun v14 =>
 (r_spec_l10SayDirs [.sl (gl v14 0), .sl (gl v14 11)]).bindR fun r15 =>
 Out.andThen (if ((gi v14 1) == (4 : Int)) = true then
 .norm [.sl (gl r15 0), .b (decide (((gl v14 5).length : Int) > (0 : Int))), .i (gi v14 1), .b (gb v14 2), .s (gs v14 3), .s (gs v14 4), .sl (gl v14 5), .sl (gl v14 6), .sl (gl v14 7), .sl (gl v14 8), .sl (gl v14 9), .b (gb v14 10), .sl (gl v14 11)]
 else
 .norm [.sl (gl r15 0), .b false, .i (gi v14 1), .b (gb v14 2), .s (gs v14 3), .s (gs v14 4), .sl (gl v14 5), .sl (gl v14 6), .sl (gl v14 7), .sl (gl v14 8), .sl (gl v14 9), .b (gb v14 10), .sl (gl v14 11)]) fun v16 =>
 Out.andThen (if (gb v16 1) = true then
 if (gl v16 0).length + (bytesRow ([32, 61, 32] : List UInt8)).length < LIM then
 (r_spec_l13Names [.sl ((gl v16 0) ++ (bytesRow ([32, 61, 32] : List UInt8))), .sl (gl v16 6), .s ([32, 124, 32] : List UInt8)]).bindR fun r17 =>
 .norm [.sl (gl r17 0), .i (gi v16 2), .b (gb v16 3), .s (gs v16 4), .s (gs v16 5), .sl (gl v16 6), .sl (gl v16 7), .sl (gl v16 8), .sl (gl v16 9), .sl (gl v16 10), .b (gb v16 11), .sl (gl v16 12)]
 else
 .fail
 else
 .norm [.sl (gl v16 0), .i (gi v16 2), .b (gb v16 3), .s (gs v16 4), .s (gs v16 5), .sl (gl v16 6), .sl (gl v16 7), .sl (gl v16 8), .sl (gl v16 9), .sl (gl v16 10), .b (gb v16 11), .sl (gl v16 12)]) fun v18 =>
 Out.andThenB (Loop E_spec_DefTextL1 [.sl (gl v18 0), .sl [], .i (0 : Int), .i (gi v18 1), .b (gb v18 2), .s (gs v18 3), .s (gs v18 4), .sl (gl v18 5), .sl (gl v18 6), .sl (gl v18 7), .sl (gl v18 8), .sl (gl v18 9), .b (gb v18 10), .sl (gl v18 11)]) 1 fun v22 =>
 Out.andThenB (Loop E_spec_DefTextL2 [.sl (gl v22 0), .sl (gl v22 1), .i (0 : Int), .i (gi v22 2), .b (gb v22 3), .s (gs v22 4), .s (gs v22 5), .sl (gl v22 6), .sl (gl v22 7), .sl (gl v22 8), .sl (gl v22 9), .sl (gl v22 10), .b (gb v22 11), .sl (gl v22 12)]) 3 fun v27 =>
 Out.andThenB (Loop E_spec_DefTextL3 [.sl (gl v27 0), .sl (gl v27 1), .i (0 : Int), .i (gi v27 2), .b (gb v27 3), .s (gs v27 4), .s (gs v27 5), .sl (gl v27 6), .sl (gl v27 7), .sl (gl v27 8), .sl (gl v27 9), .sl (gl v27 10), .b (gb v27 11), .sl (gl v27 12)]) 5 fun v31 =>
 Out.andThenB (Loop E_spec_DefTextL4 [.sl (gl v31 0), .sl (gl v31 1), .i (0 : Int), .i (gi v31 2), .b (gb v31 3), .s (gs v31 4), .s (gs v31 5), .sl (gl v31 6), .sl (gl v31 7), .sl (gl v31 8), .sl (gl v31 9), .sl (gl v31 10), .b (gb v31 11), .sl (gl v31 12)]) 7 fun v36 =>
 Out.andThen (if (decide (((gl v36 1).length : Int) > (0 : Int))) = true then
 if (gl v36 0).length + (bytesRow ([32, 123, 10] : List UInt8)).length < LIM then
 if ((gl v36 0) ++ (bytesRow ([32, 123, 10] : List UInt8))).length + (gl v36 1).length < LIM then
 if (((gl v36 0) ++ (bytesRow ([32, 123, 10] : List UInt8))) ++ (gl v36 1)).length + [[DC.i (125 : Int)]].length < LIM then
 .norm [.sl ((((gl v36 0) ++ (bytesRow ([32, 123, 10] : List UInt8))) ++ (gl v36 1)) ++ [[DC.i (125 : Int)]])]
 else
 .fail
 else
 .fail
 else
 .fail
 else
 .norm [.sl (gl v36 0)]) fun v37 =>
 if (gl v37 0).length + [[DC.i (10 : Int)]].length < LIM then
 .ret [.s (rowBytes ((gl v37 0) ++ [[DC.i (10 : Int)]]))]
 else
 .fail
 else
 .fail
theorem eq_spec_DefText a : r_spec_DefText a = E_spec_DefText a := (Run_eq cfg 5 _ a).trans (by kernel_rfl)
noncomputable def E_impl_DefText (a : List DC) : Out :=
 (r_impl_DefOk [.i (gi a 0), .b (gb a 1), .s (gs a 2), .s (gs a 3), .sl (gl a 4), .sl (gl a 5), .sl (gl a 6), .sl (gl a 7), .sl (gl a 8), .b (gb a 9), .sl (gl a 10)]).bindR fun r1 =>
 if (!(gb r1 0)) = true then
 .ret [.s ([] : List UInt8)]
 else
 (r_impl_descLine [.s ([] : List UInt8), .s (gs a 2)]).bindR fun r2 =>
 Out.andThen (if (gb a 1) = true then
 if (gs r2 0).length + ([101, 120, 116, 101, 110, 100, 32] : List UInt8).length < LIM then
 .norm [.s ((gs r2 0) ++ ([101, 120, 116, 101, 110, 100, 32] : List UInt8)), .i (gi a 0), .b (gb a 1), .s (gs a 2), .s (gs a 3), .sl (gl a 4), .sl (gl a 5), .sl (gl a 6), .sl (gl a 7), .sl (gl a 8), .b (gb a 9), .sl (gl a 10)]
 else
 .fail
 else
 .norm [.s (gs r2 0), .i (gi a 0), .b (gb a 1), .s (gs a 2), .s (gs a 3), .sl (gl a 4), .sl (gl a 5), .sl (gl a 6), .sl (gl a 7), .sl (gl a 8), .b (gb a 9), .sl (gl a 10)]) fun v3 =>
 (r_impl_defWords []).bindR fun r4 =>
 if 9 = 9 ∧ 0 ≤ (gi v3 1) ∧ (gi v3 1) < ((gl r4 0).length : Int) then
 if (gs v3 0).length + ((((gl r4 0).getD (gi v3 1).toNat []).getD 0 d0).ss).length < LIM then
 Out.andThenB (Out.andThen (if ((gi v3 1) == (7 : Int)) = true then
 if ([32, 64] : List UInt8).length + (gs v3 4).length < LIM then
 (r_impl_insText [.sl (gl v3 7)]).bindR fun r5 =>
 if (([32, 64] : List UInt8) ++ (gs v3 4)).length + (gs r5 0).length < LIM then
 if ((gs v3 0) ++ ((((gl r4 0).getD (gi v3 1).toNat []).getD 0 d0).ss)).length + ((([32, 64] : List UInt8) ++ (gs v3 4)) ++ (gs r5 0)).length < LIM then
 Out.andThen (if (gb v3 10) = true then
 if (((gs v3 0) ++ ((((gl r4 0).getD (gi v3 1).toNat []).getD 0 d0).ss)) ++ ((([32, 64] : List UInt8) ++ (gs v3 4)) ++ (gs r5 0))).length + ([32, 114, 101, 112, 101, 97, 116, 97, 98, 108, 101] : List UInt8).length < LIM then
 .norm [.s ((((gs v3 0) ++ ((((gl r4 0).getD (gi v3 1).toNat []).getD 0 d0).ss)) ++ ((([32, 64] : List UInt8) ++ (gs v3 4)) ++ (gs r5 0))) ++ ([32, 114, 101, 112, 101, 97, 116, 97, 98, 108, 101] : List UInt8)), .i (gi v3 1), .b (gb v3 2), .s (gs v3 3), .s (gs v3 4), .sl (gl v3 5), .sl (gl v3 6), .sl (gl v3 7), .sl (gl v3 8), .sl (gl v3 9), .b (gb v3 10), .sl (gl v3 11)]
 else
 .fail
 else
 .norm [.s (((gs v3 0) ++ ((((gl r4 0).getD (gi v3 1).toNat []).getD 0 d0).ss)) ++ ((([32, 64] : List UInt8) ++ (gs v3 4)) ++ (gs r5 0))), .i (gi v3 1), .b (gb v3 2), .s (gs v3 3), .s (gs v3 4), .sl (gl v3 5), .sl (gl v3 6), .sl (gl v3 7), .sl (gl v3 8), .sl (gl v3 9), .b (gb v3 10), .sl (gl v3 11)]) fun v6 =>
 (r_strings_Join [.sl (gl v6 5), .s ([32, 124, 32] : List UInt8)]).bindR fun r7 =>
 if ([32, 111, 110, 32] : List UInt8).length + (gs r7 0).length < LIM then
 if (gs v6 0).length + (([32, 111, 110, 32] : List UInt8) ++ (gs r7 0)).length < LIM then
 .norm [.s ((gs v6 0) ++ (([32, 111, 110, 32] : List UInt8) ++ (gs r7 0))), .i (gi v6 1), .b (gb v6 2), .s (gs v6 3), .s (gs v6 4), .sl (gl v6 5), .sl (gl v6 6), .sl (gl v6 7), .sl (gl v6 8), .sl (gl v6 9), .b (gb v6 10), .sl (gl v6 11)]
 else
 .fail
 else
 .fail
 else
 .fail
 else
 .fail
 else
 .fail
 else
 Out.andThen (if ((gi v3 1) == (8 : Int)) = true then
 .norm [.s ((gs v3 0) ++ ((((gl r4 0).getD (gi v3 1).toNat []).getD 0 d0).ss)), .i (gi v3 1), .b (gb v3 2), .s (gs v3 3), .s (gs v3 4), .sl (gl v3 5), .sl (gl v3 6), .sl (gl v3 7), .sl (gl v3 8), .sl (gl v3 9), .b (gb v3 10), .sl (gl v3 11)]
 else
 if ([32] : List UInt8).length + (gs v3 4).length < LIM then
 if ((gs v3 0) ++ ((((gl r4 0).getD (gi v3 1).toNat []).getD 0 d0).ss)).length + (([32] : List UInt8) ++ (gs v3 4)).length < LIM then
 .norm [.s (((gs v3 0) ++ ((((gl r4 0).getD (gi v3 1).toNat []).getD 0 d0).ss)) ++ (([32] : List UInt8) ++ (gs v3 4))), .i (gi v3 1), .b (gb v3 2), .s (gs v3 3), .s (gs v3 4), .sl (gl v3 5), .sl (gl v3 6), .sl (gl v3 7), .sl (gl v3 8), .sl (gl v3 9), .b (gb v3 10), .sl (gl v3 11)]
 else
 .fail
 else
 .fail) fun v8 =>
 .norm [.s (gs v8 0), .i (gi v8 1), .b (gb v8 2), .s (gs v8 3), .s (gs v8 4), .sl (gl v8 5), .sl (gl v8 6), .sl (gl v8 7), .sl (gl v8 8), .sl (gl v8 9), .b (gb v8 10), .sl (gl v8 11)]) fun v9 =>
 .norm [.s (gs v9 0), .i (gi v9 1), .b (gb v9 2), .s (gs v9 3), .s (gs v9 4), .sl (gl v9 5), .sl (gl v9 6), .sl (gl v9 7), .sl (gl v9 8), .sl (gl v9 9), .b (gb v9 10), .sl (gl v9 11)]) 0 fun v10 =>
 Out.andThen (if (decide (((gl v10 5).length : Int) > (0 : Int))) = true then
 if ((gi v10 1) == (2 : Int)) = true then
 .norm [.s (gs v10 0), .b true, .i (gi v10 1), .b (gb v10 2), .s (gs v10 3), .s (gs v10 4), .sl (gl v10 5), .sl (gl v10 6), .sl (gl v10 7), .sl (gl v10 8), .sl (gl v10 9), .b (gb v10 10), .sl (gl v10 11)]
 else
 .norm [.s (gs v10 0), .b ((gi v10 1) == (3 : Int)), .i (gi v10 1), .b (gb v10 2), .s (gs v10 3), .s (gs v10 4), .sl (gl v10 5), .sl (gl v10 6), .sl (gl v10 7), .sl (gl v10 8), .sl (gl v10 9), .b (gb v10 10), .sl (gl v10 11)]
 else
 .norm [.s (gs v10 0), .b false, .i (gi v10 1), .b (gb v10 2), .s (gs v10 3), .s (gs v10 4), .sl (gl v10 5), .sl (gl v10 6), .sl (gl v10 7), .sl (gl v10 8), .sl (gl v10 9), .b (gb v10 10), .sl (gl v10 11)]) fun v11 =>
 Out.andThen (if (gb v11 1) = true then
 (r_strings_Join [.sl (gl v11 6), .s ([32, 38, 32] : List UInt8)]).bindR fun r12 =>
 if ([32, 105, 109, 112, 108, 101, 109, 101, 110, 116, 115, 32] : List UInt8).length + (gs r12 0).length < LIM then
 if (gs v11 0).length + (([32, 105, 109, 112, 108, 101, 109, 101, 110, 116, 115, 32] : List UInt8) ++ (gs r12 0)).length < LIM then
 .norm [.s ((gs v11 0) ++ (([32, 105, 109, 112, 108, 101, 109, 101, 110, 116, 115, 32] : List UInt8) ++ (gs r12 0))), .i (gi v11 2), .b (gb v11 3), .s (gs v11 4), .s (gs v11 5), .sl (gl v11 6), .sl (gl v11 7), .sl (gl v11 8), .sl (gl v11 9), .sl (gl v11 10), .b (gb v11 11), .sl (gl v11 12)]
 else
 .fail
 else
 .fail
 else
 .norm [.s (gs v11 0), .i (gi v11 2), .b (gb v11 3), .s (gs v11 4), .s (gs v11 5), .sl (gl v11 6), .sl (gl v11 7), .sl (gl v11 8), .sl (gl v11 9), .sl (gl v11 10), .b (gb v11 11), .sl (gl v11 12)]) fun v13 =>
 (r_impl_DirsText [.sl (gl v13 11)]).bindR fun r14 =>
 if (gs v13 0).length + (gs r14 0).length < LIM then
 Out.andThen (if (decide (((gl v13 5).length : Int) > (0 : Int))) = true then
 .norm [.s ((gs v13 0) ++ (gs r14 0)), .b ((gi v13 1) == (4 : Int)), .i (gi v13 1), .b (gb v13 2), .s (gs v13 3), .s (gs v13 4), .sl (gl v13 5), .sl (gl v13 6), .sl (gl v13 7), .sl (gl v13 8), .sl (gl v13 9), .b (gb v13 10), .sl (gl v13 11)]
 else
 .norm [.s ((gs v13 0) ++ (gs r14 0)), .b false, .i (gi v13 1), .b (gb v13 2), .s (gs v13 3), .s (gs v13 4), .sl (gl v13 5), .sl (gl v13 6), .sl (gl v13 7), .sl (gl v13 8), .sl (gl v13 9), .b (gb v13 10), .sl (gl v13 11)]) fun v15 =>
 Out.andThen (if (gb v15 1) = true then
 (r_strings_Join [.sl (gl v15 6), .s ([32, 124, 32] : List UInt8)]).bindR fun r16 =>
 if ([32, 61, 32] : List UInt8).length + (gs r16 0).length < LIM then
 if (gs v15 0).length + (([32, 61, 32] : List UInt8) ++ (gs r16 0)).length < LIM then
 .norm [.s ((gs v15 0) ++ (([32, 61, 32] : List UInt8) ++ (gs r16 0))), .i (gi v15 2), .b (gb v15 3), .s (gs v15 4), .s (gs v15 5), .sl (gl v15 6), .sl (gl v15 7), .sl (gl v15 8), .sl (gl v15 9), .sl (gl v15 10), .b (gb v15 11), .sl (gl v15 12)]
 else
 .fail
 else
 .fail
 else
 .norm [.s (gs v15 0), .i (gi v15 2), .b (gb v15 3), .s (gs v15 4), .s (gs v15 5), .sl (gl v15 6), .sl (gl v15 7), .sl (gl v15 8), .sl (gl v15 9), .sl (gl v15 10), .b (gb v15 11), .sl (gl v15 12)]) fun v17 =>
 (r_impl_blockLines [.i (gi v17 1), .b (gb v17 2), .s (gs v17 3), .s (gs v17 4), .sl (gl v17 5), .sl (gl v17 6), .sl (gl v17 7), .sl (gl v17 8), .sl (gl v17 9), .b (gb v17 10), .sl (gl v17 11)]).bindR fun r18 =>
 Out.andThen (if (!((gs r18 0) == ([] : List UInt8))) = true then
 if ([32, 123, 10] : List UInt8).length + (gs r18 0).length < LIM then
 if (([32, 123, 10] : List UInt8) ++ (gs r18 0)).length + ([125] : List UInt8).length < LIM then
 if (gs v17 0).length + ((([32, 123, 10] : List UInt8) ++ (gs r18 0)) ++ ([125] : List UInt8)).length < LIM then
 .norm [.s ((gs v17 0) ++ ((([32, 123, 10] : List UInt8) ++ (gs r18 0)) ++ ([125] : List UInt8)))]
 else
 .fail
 else
 .fail
 else
 .fail
 else
 .norm [.s (gs v17 0)]) fun v19 =>
 if (gs v19 0).length + ([10] : List UInt8).length < LIM then
 .ret [.s ((gs v19 0) ++ ([10] : List UInt8))]
 else
 .fail
 else
 .fail
 else
 .fail
 else
 .fail
theorem eq_impl_DefText a : r_impl_DefText a = E_impl_DefText a := (Run_eq cfg 7 _ a).trans (by kernel_rfl)
noncomputable def E_laws_eqDef (a : List DC) : Out :=
 if ((gi a 0) != (gi a 11)) = true then
 .ret [.b false]
 else
 if (!((gb a 1) == (gb a 12))) = true then
 .ret [.b false]
 else
 if (!((gs a 2) == (gs a 13))) = true then
 .ret [.b false]
 else
 if (!((gs a 3) == (gs a 14))) = true then
 .ret [.b false]
 else
 (r_laws_eqStringS [.sl (gl a 4), .sl (gl a 15)]).bindR fun r1 =>
 if (!(gb r1 0)) = true then
 .ret [.b false]
 else
 (r_laws_eqFieldDefS [.sl (gl a 5), .sl (gl a 16)]).bindR fun r2 =>
 if (!(gb r2 0)) = true then
 .ret [.b false]
 else
 (r_laws_eqInDefS [.sl (gl a 6), .sl (gl a 17)]).bindR fun r3 =>
 if (!(gb r3 0)) = true then
 .ret [.b false]
 else
 (r_laws_eqEnumDefS [.sl (gl a 7), .sl (gl a 18)]).bindR fun r4 =>
 if (!(gb r4 0)) = true then
 .ret [.b false]
 else
 (r_laws_eqRootS [.sl (gl a 8), .sl (gl a 19)]).bindR fun r5 =>
 if (!(gb r5 0)) = true then
 .ret [.b false]
 else
 if (!((gb a 9) == (gb a 20))) = true then
 .ret [.b false]
 else
 (r_laws_eqDirS [.sl (gl a 10), .sl (gl a 21)]).bindR fun r6 =>
 if (!(gb r6 0)) = true then
 .ret [.b false]
 else
 .ret [.b true]
theorem eq_laws_eqDef a : r_laws_eqDef a = E_laws_eqDef a := (Run_eq cfg 8 _ a).trans (by kernel_rfl)
noncomputable def E_laws_szStringSL1 : List DC → Out := fun v1 =>
 if (decide ((gi v1 2) < ((gl v1 0).length : Int))) = true then
 Out.andThenB (if 9 = 9 ∧ 0 ≤ (gi v1 2) ∧ (gi v1 2) < ((gl v1 0).length : Int) then
 if (decide ((IntKind.i64.wrap ((gi v1 1) - (((((gl v1 0).getD (gi v1 2).toNat []).getD 0 d0).ss).length : Int))) < (0 : Int))) = true then
 .ret [.i (-1 : Int)]
 else
 .norm [.sl (gl v1 0), .i (IntKind.i64.wrap ((gi v1 1) - (((((gl v1 0).getD (gi v1 2).toNat []).getD 0 d0).ss).length : Int))), .i (gi v1 2)]
 else
 .fail) 1 fun v2 =>
 .norm [.sl (gl v2 0), .i (gi v2 1), .i (IntKind.i64.wrap ((gi v2 2) + (1 : Int)))]
 else
 .ex 0 [.i (gi v1 1)]
noncomputable def E_laws_szStringS (a : List DC) : Out :=
 if (decide ((IntKind.i64.wrap ((gi a 1) - ((gl a 0).length : Int))) < (0 : Int))) = true then
 .ret [.i (-1 : Int)]
 else
 Out.andThenB (Loop E_laws_szStringSL1 [.sl (gl a 0), .i (IntKind.i64.wrap ((gi a 1) - ((gl a 0).length : Int))), .i (0 : Int)]) 0 fun v3 =>
 .ret [.i (gi v3 0)]
theorem eq_laws_szStringS a : r_laws_szStringS a = E_laws_szStringS a := (Run_eq cfg 9 _ a).trans (by kernel_rfl)
noncomputable def E_laws_szFieldDefSL1 : List DC → Out := fun v1 =>
 if (decide ((gi v1 2) < ((gl v1 0).length : Int))) = true then
 Out.andThenB (if 91 = 91 ∧ 0 ≤ (gi v1 2) ∧ (gi v1 2) < ((gl v1 0).length : Int) then
 (r_laws_szFieldDef [.s ((((gl v1 0).getD (gi v1 2).toNat []).getD 0 d0).ss), .s ((((gl v1 0).getD (gi v1 2).toNat []).getD 1 d0).ss), .sl ((((gl v1 0).getD (gi v1 2).toNat []).getD 2 d0).ll), .s ((((gl v1 0).getD (gi v1 2).toNat []).getD 3 d0).ss), .s ((((gl v1 0).getD (gi v1 2).toNat []).getD 4 d0).ss), .sl ((((gl v1 0).getD (gi v1 2).toNat []).getD 5 d0).ll), .i (gi v1 1)]).bindR fun r2 =>
 if (decide ((gi r2 0) < (0 : Int))) = true then
 .ret [.i (-1 : Int)]
 else
 .norm [.sl (gl v1 0), .i (gi r2 0), .i (gi v1 2)]
 else
 .fail) 1 fun v3 =>
 .norm [.sl (gl v3 0), .i (gi v3 1), .i (IntKind.i64.wrap ((gi v3 2) + (1 : Int)))]
 else
 .ex 0 [.i (gi v1 1)]
noncomputable def E_laws_szFieldDefS (a : List DC) : Out :=
 if (decide ((IntKind.i64.wrap ((gi a 1) - ((gl a 0).length : Int))) < (0 : Int))) = true then
 .ret [.i (-1 : Int)]
 else
 Out.andThenB (Loop E_laws_szFieldDefSL1 [.sl (gl a 0), .i (IntKind.i64.wrap ((gi a 1) - ((gl a 0).length : Int))), .i (0 : Int)]) 0 fun v4 =>
 .ret [.i (gi v4 0)]
theorem eq_laws_szFieldDefS a : r_laws_szFieldDefS a = E_laws_szFieldDefS a := (Run_eq cfg 10 _ a).trans (by kernel_rfl)
noncomputable def E_laws_szInDefSL1 : List DC → Out := fun v1 =>
 if (decide ((gi v1 2) < ((gl v1 0).length : Int))) = true then
 Out.andThenB (if 97 = 97 ∧ 0 ≤ (gi v1 2) ∧ (gi v1 2) < ((gl v1 0).length : Int) then
 (r_laws_szInDef [.s ((((gl v1 0).getD (gi v1 2).toNat []).getD 0 d0).ss), .s ((((gl v1 0).getD (gi v1 2).toNat []).getD 1 d0).ss), .s ((((gl v1 0).getD (gi v1 2).toNat []).getD 2 d0).ss), .s ((((gl v1 0).getD (gi v1 2).toNat []).getD 3 d0).ss), .b ((((gl v1 0).getD (gi v1 2).toNat []).getD 4 d0).bb), .i ((((gl v1 0).getD (gi v1 2).toNat []).getD 5 d0).ii), .s ((((gl v1 0).getD (gi v1 2).toNat []).getD 6 d0).ss), .sl ((((gl v1 0).getD (gi v1 2).toNat []).getD 7 d0).ll), .sl ((((gl v1 0).getD (gi v1 2).toNat []).getD 8 d0).ll), .sl ((((gl v1 0).getD (gi v1 2).toNat []).getD 9 d0).ll), .i (gi v1 1)]).bindR fun r2 =>
 if (decide ((gi r2 0) < (0 : Int))) = true then
 .ret [.i (-1 : Int)]
 else
 .norm [.sl (gl v1 0), .i (gi r2 0), .i (gi v1 2)]
 else
 .fail) 1 fun v3 =>
 .norm [.sl (gl v3 0), .i (gi v3 1), .i (IntKind.i64.wrap ((gi v3 2) + (1 : Int)))]
 else
 .ex 0 [.i (gi v1 1)]
noncomputable def E_laws_szInDefS (a : List DC) : Out :=
 if (decide ((IntKind.i64.wrap ((gi a 1) - ((gl a 0).length : Int))) < (0 : Int))) = true then
 .ret [.i (-1 : Int)]
 else
 Out.andThenB (Loop E_laws_szInDefSL1 [.sl (gl a 0), .i (IntKind.i64.wrap ((gi a 1) - ((gl a 0).length : Int))), .i (0 : Int)]) 0 fun v4 =>
 .ret [.i (gi v4 0)]
theorem eq_laws_szInDefS a : r_laws_szInDefS a = E_laws_szInDefS a := (Run_eq cfg 11 _ a).trans (by kernel_rfl)
noncomputable def E_laws_szEnumDefSL1 : List DC → Out := fun v1 =>
 if (decide ((gi v1 2) < ((gl v1 0).length : Int))) = true then
 Out.andThenB (if 100 = 100 ∧ 0 ≤ (gi v1 2) ∧ (gi v1 2) < ((gl v1 0).length : Int) then
 (r_laws_szEnumDef [.s ((((gl v1 0).getD (gi v1 2).toNat []).getD 0 d0).ss), .s ((((gl v1 0).getD (gi v1 2).toNat []).getD 1 d0).ss), .sl ((((gl v1 0).getD (gi v1 2).toNat []).getD 2 d0).ll), .i (gi v1 1)]).bindR fun r2 =>
 if (decide ((gi r2 0) < (0 : Int))) = true then
 .ret [.i (-1 : Int)]
 else
 .norm [.sl (gl v1 0), .i (gi r2 0), .i (gi v1 2)]
 else
 .fail) 1 fun v3 =>
 .norm [.sl (gl v3 0), .i (gi v3 1), .i (IntKind.i64.wrap ((gi v3 2) + (1 : Int)))]
 else
 .ex 0 [.i (gi v1 1)]
noncomputable def E_laws_szEnumDefS (a : List DC) : Out :=
 if (decide ((IntKind.i64.wrap ((gi a 1) - ((gl a 0).length : Int))) < (0 : Int))) = true then
 .ret [.i (-1 : Int)]
 else
 Out.andThenB (Loop E_laws_szEnumDefSL1 [.sl (gl a 0), .i (IntKind.i64.wrap ((gi a 1) - ((gl a 0).length : Int))), .i (0 : Int)]) 0 fun v4 =>
 .ret [.i (gi v4 0)]
theorem eq_laws_szEnumDefS a : r_laws_szEnumDefS a = E_laws_szEnumDefS a := (Run_eq cfg 12 _ a).trans (by kernel_rfl)
noncomputable def E_laws_szRootSL1 : List DC → Out := fun v1 =>
 if (decide ((gi v1 2) < ((gl v1 0).length : Int))) = true then
 Out.andThenB (if 102 = 102 ∧ 0 ≤ (gi v1 2) ∧ (gi v1 2) < ((gl v1 0).length : Int) then
 (r_laws_szRoot [.i ((((gl v1 0).getD (gi v1 2).toNat []).getD 0 d0).ii), .s ((((gl v1 0).getD (gi v1 2).toNat []).getD 1 d0).ss), .i (gi v1 1)]).bindR fun r2 =>
 if (decide ((gi r2 0) < (0 : Int))) = true then
 .ret [.i (-1 : Int)]
 else
 .norm [.sl (gl v1 0), .i (gi r2 0), .i (gi v1 2)]
 else
 .fail) 1 fun v3 =>
 .norm [.sl (gl v3 0), .i (gi v3 1), .i (IntKind.i64.wrap ((gi v3 2) + (1 : Int)))]
 else
 .ex 0 [.i (gi v1 1)]
noncomputable def E_laws_szRootS (a : List DC) : Out :=
 if (decide ((IntKind.i64.wrap ((gi a 1) - ((gl a 0).length : Int))) < (0 : Int))) = true then
 .ret [.i (-1 : Int)]
 else
 Out.andThenB (Loop E_laws_szRootSL1 [.sl (gl a 0), .i (IntKind.i64.wrap ((gi a 1) - ((gl a 0).length : Int))), .i (0 : Int)]) 0 fun v4 =>
 .ret [.i (gi v4 0)]
theorem eq_laws_szRootS a : r_laws_szRootS a = E_laws_szRootS a := (Run_eq cfg 13 _ a).trans (by kernel_rfl)
noncomputable def E_laws_szDirSL1 : List DC → Out := fun v1 =>
 if (decide ((gi v1 2) < ((gl v1 0).length : Int))) = true then
 Out.andThenB (if 106 = 106 ∧ 0 ≤ (gi v1 2) ∧ (gi v1 2) < ((gl v1 0).length : Int) then
 (r_laws_szDir [.s ((((gl v1 0).getD (gi v1 2).toNat []).getD 0 d0).ss), .sl ((((gl v1 0).getD (gi v1 2).toNat []).getD 1 d0).ll), .i (gi v1 1)]).bindR fun r2 =>
 if (decide ((gi r2 0) < (0 : Int))) = true then
 .ret [.i (-1 : Int)]
 else
 .norm [.sl (gl v1 0), .i (gi r2 0), .i (gi v1 2)]
 else
 .fail) 1 fun v3 =>
 .norm [.sl (gl v3 0), .i (gi v3 1), .i (IntKind.i64.wrap ((gi v3 2) + (1 : Int)))]
 else
 .ex 0 [.i (gi v1 1)]
noncomputable def E_laws_szDirS (a : List DC) : Out :=
 if (decide ((IntKind.i64.wrap ((gi a 1) - ((gl a 0).length : Int))) < (0 : Int))) = true then
 .ret [.i (-1 : Int)]
 else
 Out.andThenB (Loop E_laws_szDirSL1 [.sl (gl a 0), .i (IntKind.i64.wrap ((gi a 1) - ((gl a 0).length : Int))), .i (0 : Int)]) 0 fun v4 =>
 .ret [.i (gi v4 0)]
theorem eq_laws_szDirS a : r_laws_szDirS a = E_laws_szDirS a := (Run_eq cfg 14 _ a).trans (by kernel_rfl)
noncomputable def E_laws_toStringSL1 : List DC → Out := fun v1 =>
 if (decide ((gi v1 2) < ((gl v1 0).length : Int))) = true then
 Out.andThenB (if 9 = 9 ∧ 0 ≤ (gi v1 2) ∧ (gi v1 2) < ((gl v1 0).length : Int) then
 if 9 = 9 ∧ 0 ≤ (gi v1 2) ∧ (gi v1 2) < ((gl v1 1).length : Int) then
 .norm [.sl (gl v1 0), .sl ((gl v1 1).set ((gi v1 2).toNat) (setRunD ((gl v1 1).getD ((gi v1 2).toNat) []) 0 [DC.s ((((gl v1 0).getD (gi v1 2).toNat []).getD 0 d0).ss)])), .i (gi v1 2)]
 else
 .fail
 else
 .fail) 1 fun v2 =>
 .norm [.sl (gl v2 0), .sl (gl v2 1), .i (IntKind.i64.wrap ((gi v2 2) + (1 : Int)))]
 else
 .ex 0 [.sl (gl v1 1)]
noncomputable def E_laws_toStringS (a : List DC) : Out :=
 if 0 ≤ ((gl a 0).length : Int) ∧ ((gl a 0).length : Int) < (LIM : Int) ∧ ((gl a 0).length : Int) = ((gl a 0).length : Int) ∧ 16 ≤ 1024 ∧ 0 < 1 then
 Out.andThenB (Loop E_laws_toStringSL1 [.sl (gl a 0), .sl (List.replicate ((gl a 0).length : Int).toNat [DC.s []]), .i (0 : Int)]) 0 fun v3 =>
 .ret [.sl (gl v3 0)]
 else
 .fail
theorem eq_laws_toStringS a : r_laws_toStringS a = E_laws_toStringS a := (Run_eq cfg 25 _ a).trans (by kernel_rfl)
noncomputable def E_laws_toFieldDefSL1 : List DC → Out := fun v1 =>
 if (decide ((gi v1 2) < ((gl v1 0).length : Int))) = true then
 Out.andThenB (if 91 = 91 ∧ 0 ≤ (gi v1 2) ∧ (gi v1 2) < ((gl v1 0).length : Int) then
 (r_laws_toFieldDef [.s ((((gl v1 0).getD (gi v1 2).toNat []).getD 0 d0).ss), .s ((((gl v1 0).getD (gi v1 2).toNat []).getD 1 d0).ss), .sl ((((gl v1 0).getD (gi v1 2).toNat []).getD 2 d0).ll), .s ((((gl v1 0).getD (gi v1 2).toNat []).getD 3 d0).ss), .s ((((gl v1 0).getD (gi v1 2).toNat []).getD 4 d0).ss), .sl ((((gl v1 0).getD (gi v1 2).toNat []).getD 5 d0).ll)]).bindR fun r2 =>
 if 59 = 59 ∧ 0 ≤ (gi v1 2) ∧ (gi v1 2) < ((gl v1 1).length : Int) then
 .norm [.sl (gl v1 0), .sl ((gl v1 1).set ((gi v1 2).toNat) (setRunD ((gl v1 1).getD ((gi v1 2).toNat) []) 0 [DC.s (gs r2 0), DC.s (gs r2 1), DC.sl (gl r2 2), DC.s (gs r2 3), DC.s (gs r2 4), DC.sl (gl r2 5)])), .i (gi v1 2)]
 else
 .fail
 else
 .fail) 1 fun v3 =>
 .norm [.sl (gl v3 0), .sl (gl v3 1), .i (IntKind.i64.wrap ((gi v3 2) + (1 : Int)))]
 else
 .ex 0 [.sl (gl v1 1)]
noncomputable def E_laws_toFieldDefS (a : List DC) : Out :=
 if 0 ≤ ((gl a 0).length : Int) ∧ ((gl a 0).length : Int) < (LIM : Int) ∧ ((gl a 0).length : Int) = ((gl a 0).length : Int) ∧ 112 ≤ 1024 ∧ 0 < 6 then
 Out.andThenB (Loop E_laws_toFieldDefSL1 [.sl (gl a 0), .sl (List.replicate ((gl a 0).length : Int).toNat [DC.s [], DC.s [], DC.sl [], DC.s [], DC.s [], DC.sl []]), .i (0 : Int)]) 0 fun v4 =>
 .ret [.sl (gl v4 0)]
 else
 .fail
theorem eq_laws_toFieldDefS a : r_laws_toFieldDefS a = E_laws_toFieldDefS a := (Run_eq cfg 26 _ a).trans (by kernel_rfl)
noncomputable def E_laws_toInDefSL1 : List DC → Out := fun v1 =>
 if (decide ((gi v1 2) < ((gl v1 0).length : Int))) = true then
 Out.andThenB (if 97 = 97 ∧ 0 ≤ (gi v1 2) ∧ (gi v1 2) < ((gl v1 0).length : Int) then
 (r_laws_toInDef [.s ((((gl v1 0).getD (gi v1 2).toNat []).getD 0 d0).ss), .s ((((gl v1 0).getD (gi v1 2).toNat []).getD 1 d0).ss), .s ((((gl v1 0).getD (gi v1 2).toNat []).getD 2 d0).ss), .s ((((gl v1 0).getD (gi v1 2).toNat []).getD 3 d0).ss), .b ((((gl v1 0).getD (gi v1 2).toNat []).getD 4 d0).bb), .i ((((gl v1 0).getD (gi v1 2).toNat []).getD 5 d0).ii), .s ((((gl v1 0).getD (gi v1 2).toNat []).getD 6 d0).ss), .sl ((((gl v1 0).getD (gi v1 2).toNat []).getD 7 d0).ll), .sl ((((gl v1 0).getD (gi v1 2).toNat []).getD 8 d0).ll), .sl ((((gl v1 0).getD (gi v1 2).toNat []).getD 9 d0).ll)]).bindR fun r2 =>
 if 70 = 70 ∧ 0 ≤ (gi v1 2) ∧ (gi v1 2) < ((gl v1 1).length : Int) then
 .norm [.sl (gl v1 0), .sl ((gl v1 1).set ((gi v1 2).toNat) (setRunD ((gl v1 1).getD ((gi v1 2).toNat) []) 0 [DC.s (gs r2 0), DC.s (gs r2 1), DC.s (gs r2 2), DC.s (gs r2 3), DC.b (gb r2 4), DC.i (gi r2 5), DC.s (gs r2 6), DC.sl (gl r2 7), DC.sl (gl r2 8), DC.sl (gl r2 9)])), .i (gi v1 2)]
 else
 .fail
 else
 .fail) 1 fun v3 =>
 .norm [.sl (gl v3 0), .sl (gl v3 1), .i (IntKind.i64.wrap ((gi v3 2) + (1 : Int)))]
 else
 .ex 0 [.sl (gl v1 1)]
noncomputable def E_laws_toInDefS (a : List DC) : Out :=
 if 0 ≤ ((gl a 0).length : Int) ∧ ((gl a 0).length : Int) < (LIM : Int) ∧ ((gl a 0).length : Int) = ((gl a 0).length : Int) ∧ 168 ≤ 1024 ∧ 0 < 10 then
 Out.andThenB (Loop E_laws_toInDefSL1 [.sl (gl a 0), .sl (List.replicate ((gl a 0).length : Int).toNat [DC.s [], DC.s [], DC.s [], DC.s [], DC.b false, DC.i 0, DC.s [], DC.sl [], DC.sl [], DC.sl []]), .i (0 : Int)]) 0 fun v4 =>
 .ret [.sl (gl v4 0)]
 else
 .fail
theorem eq_laws_toInDefS a : r_laws_toInDefS a = E_laws_toInDefS a := (Run_eq cfg 27 _ a).trans (by kernel_rfl)
noncomputable def E_laws_toEnumDefSL1 : List DC → Out := fun v1 =>
 if (decide ((gi v1 2) < ((gl v1 0).length : Int))) = true then
 Out.andThenB (if 100 = 100 ∧ 0 ≤ (gi v1 2) ∧ (gi v1 2) < ((gl v1 0).length : Int) then
 (r_laws_toEnumDef [.s ((((gl v1 0).getD (gi v1 2).toNat []).getD 0 d0).ss), .s ((((gl v1 0).getD (gi v1 2).toNat []).getD 1 d0).ss), .sl ((((gl v1 0).getD (gi v1 2).toNat []).getD 2 d0).ll)]).bindR fun r2 =>
 if 62 = 62 ∧ 0 ≤ (gi v1 2) ∧ (gi v1 2) < ((gl v1 1).length : Int) then
 .norm [.sl (gl v1 0), .sl ((gl v1 1).set ((gi v1 2).toNat) (setRunD ((gl v1 1).getD ((gi v1 2).toNat) []) 0 [DC.s (gs r2 0), DC.s (gs r2 1), DC.sl (gl r2 2)])), .i (gi v1 2)]
 else
 .fail
 else
 .fail) 1 fun v3 =>
 .norm [.sl (gl v3 0), .sl (gl v3 1), .i (IntKind.i64.wrap ((gi v3 2) + (1 : Int)))]
 else
 .ex 0 [.sl (gl v1 1)]
noncomputable def E_laws_toEnumDefS (a : List DC) : Out :=
 if 0 ≤ ((gl a 0).length : Int) ∧ ((gl a 0).length : Int) < (LIM : Int) ∧ ((gl a 0).length : Int) = ((gl a 0).length : Int) ∧ 56 ≤ 1024 ∧ 0 < 3 then
 Out.andThenB (Loop E_laws_toEnumDefSL1 [.sl (gl a 0), .sl (List.replicate ((gl a 0).length : Int).toNat [DC.s [], DC.s [], DC.sl []]), .i (0 : Int)]) 0 fun v4 =>
 .ret [.sl (gl v4 0)]
 else
 .fail
theorem eq_laws_toEnumDefS a : r_laws_toEnumDefS a = E_laws_toEnumDefS a := (Run_eq cfg 28 _ a).trans (by kernel_rfl)
noncomputable def E_laws_toRootSL1 : List DC → Out := fun v1 =>
 if (decide ((gi v1 2) < ((gl v1 0).length : Int))) = true then
 Out.andThenB (if 102 = 102 ∧ 0 ≤ (gi v1 2) ∧ (gi v1 2) < ((gl v1 0).length : Int) then
 (r_laws_toRoot [.i ((((gl v1 0).getD (gi v1 2).toNat []).getD 0 d0).ii), .s ((((gl v1 0).getD (gi v1 2).toNat []).getD 1 d0).ss)]).bindR fun r2 =>
 if 64 = 64 ∧ 0 ≤ (gi v1 2) ∧ (gi v1 2) < ((gl v1 1).length : Int) then
 .norm [.sl (gl v1 0), .sl ((gl v1 1).set ((gi v1 2).toNat) (setRunD ((gl v1 1).getD ((gi v1 2).toNat) []) 0 [DC.i (gi r2 0), DC.s (gs r2 1)])), .i (gi v1 2)]
 else
 .fail
 else
 .fail) 1 fun v3 =>
 .norm [.sl (gl v3 0), .sl (gl v3 1), .i (IntKind.i64.wrap ((gi v3 2) + (1 : Int)))]
 else
 .ex 0 [.sl (gl v1 1)]
noncomputable def E_laws_toRootS (a : List DC) : Out :=
 if 0 ≤ ((gl a 0).length : Int) ∧ ((gl a 0).length : Int) < (LIM : Int) ∧ ((gl a 0).length : Int) = ((gl a 0).length : Int) ∧ 24 ≤ 1024 ∧ 0 < 2 then
 Out.andThenB (Loop E_laws_toRootSL1 [.sl (gl a 0), .sl (List.replicate ((gl a 0).length : Int).toNat [DC.i 0, DC.s []]), .i (0 : Int)]) 0 fun v4 =>
 .ret [.sl (gl v4 0)]
 else
 .fail
theorem eq_laws_toRootS a : r_laws_toRootS a = E_laws_toRootS a := (Run_eq cfg 29 _ a).trans (by kernel_rfl)
end Go.Proofs.QV
