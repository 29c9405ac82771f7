import Derived.Test.YtlllilepahpahaaMV5
import Derived.WalkKit
import Derived.ProofKit
import Derived.OpenShut
import Derived.ShutString
import Derived.ChangeOld
import Derived.SizedLaws
import Derived.Sort.Grow
import Derived.Sort.EncStr
import Derived.Lib.SlicesCompact
import Derived.Test.YtlllilepahpahaaProg
import Derived.Shelf.SortM.Plain
import Derived.Shelf.SortM.SortNone
import Derived.Shelf.SlicesG.CompactS
/- The input reads as it did. -/
namespace Go.Proofs.QV
open Go
theorem args_stay {H : Type} {enc : TypeId × Value → H} {P : Program} (hl : laidOutB P = true) {W W' : World} (hb : RowKit.Below W.heap.size W W') : ∀ {ts : List TypeId} {vs : List Value} {ds : List (DataW H)} {ps : List MemPlace},
    (ts.all fun t => P.readableRec t && Nat.blt t P.types.size) = true → DataW.TrodAll enc P W 0 (fun _ => true) true ts vs ds ps → DataW.TrodAll enc P W' 0 (fun b => decide (b < W.heap.size)) true ts vs ds ps
  | [], [], [], ps, _, h => h
  | t :: ts, v :: vs, d :: ds, ps, ht, ⟨p, q, h1, h2, h3⟩ => by
    simp only [List.all_cons, Bool.and_eq_true] at ht
    obtain ⟨⟨k1, k2⟩, k3⟩ := ht
    refine ⟨p, q, RowKit.Below.trod hl k1 (by simpa [Nat.blt_eq] using k2) h1 hb ?_, args_stay hl hb k3 h2, h3⟩
    obtain ⟨m, hm⟩ := h1
    exact DataW.trod_lt m _ _ _ hm
  | [], _ :: _, _, _, _, h => h.elim
  | [], [], _ :: _, _, _, h => h.elim
  | _ :: _, [], _, _, _, h => h.elim
  | _ :: _, _ :: _, [], _, _, h => h.elim
theorem wrap64 {n : Int} (h1 : -9223372036854775808 ≤ n) (h2 : n ≤ 9223372036854775807) : IntKind.i64.wrap n = n := by
  rw [IntKind.wrap_i64]
  omega
set_option linter.unusedVariables false
set_option linter.unusedSimpArgs false
def Out.esc (o : Out) : Prop := ∀ K, o.andThen K = o
theorem Out.esc_ret (v : List DC) : (Out.ret v).esc := fun _ => rfl
theorem Out.esc_ex (id : Nat) (v : List DC) : (Out.ex id v).esc := fun _ => rfl
theorem Loop_norm {F : List DC → Out} {v v' : List DC} (h : F v = .norm v') : Loop F v = Loop F v' := by rw [Loop_eq, h]; rfl
theorem Loop_ret {F : List DC → Out} {v r : List DC} (h : F v = .ret r) : Loop F v = .ret r := by rw [Loop_eq, h]; rfl
theorem Loop_ex {F : List DC → Out} {v r : List DC} {id : Nat} (h : F v = .ex id r) : Loop F v = .ex id r := by rw [Loop_eq, h]; rfl
theorem Loop_esc {F : List DC → Out} {v : List DC} {o : Out} (h : F v = o) (he : o.esc) : Loop F v = o := by rw [Loop_eq, h, he]
theorem Loop_upto {F : List DC → Out} {st : Nat → List DC} {o : Out} : ∀ (m i : Nat), (∀ j, i ≤ j → j < i + m → F (st j) = .norm (st (j + 1))) → Loop F (st (i + m)) = o → Loop F (st i) = o
  | 0, i, _, h2 => by simpa using h2
  | m + 1, i, h1, h2 => by
    rw [Loop_norm (h1 i (Nat.le_refl _) (by omega))]
    refine Loop_upto m (i + 1) (fun j hj hj' => h1 j (by omega) (by omega)) ?_
    rw [show i + 1 + m = i + (m + 1) by omega]
    exact h2
def goF {α : Type} (p : α → Bool) (stop : Nat → α → Out) (fin : Out) : Nat → List α → Out
  | _, [] => fin
  | i, x :: xs => if p x = true then stop i x else goF p stop fin (i + 1) xs
theorem Loop_find {α : Type} {l : List α} {st : Nat → List DC} {p : α → Bool} {stop : Nat → α → Out} {fin : Out} {F : List DC → Out}
    (hF : ∀ (i : Nat) (hi : i < l.length), F (st i) = if p l[i] = true then stop i l[i] else .norm (st (i + 1)))
    (hs : ∀ i x, (stop i x).esc) (hend : F (st l.length) = fin) (hfin : fin.esc) : ∀ (m i : Nat), i + m = l.length → Loop F (st i) = goF p stop fin i (l.drop i)
  | 0, i, hi => by
    have : i = l.length := by omega
    subst this
    rw [List.drop_length, goF]
    exact Loop_esc hend hfin
  | m + 1, i, hi => by
    have hlt : i < l.length := by omega
    rw [List.drop_eq_getElem_cons hlt, goF]
    by_cases hp : p l[i] = true
    · rw [if_pos hp]
      exact Loop_esc (by rw [hF i hlt, if_pos hp]) (hs _ _)
    · rw [if_neg hp, Loop_norm (by rw [hF i hlt, if_neg hp])]
      exact Loop_find hF hs hend hfin m (i + 1) (by omega)
theorem Loop_find0 {α : Type} {l : List α} {st : Nat → List DC} {p : α → Bool} {stop : Nat → α → Out} {fin : Out} {F : List DC → Out}
    (hF : ∀ (i : Nat) (hi : i < l.length), F (st i) = if p l[i] = true then stop i l[i] else .norm (st (i + 1)))
    (hs : ∀ i x, (stop i x).esc) (hend : F (st l.length) = fin) (hfin : fin.esc) : Loop F (st 0) = goF p stop fin 0 l := by
  have := Loop_find hF hs hend hfin l.length 0 (by omega)
  rwa [List.drop_zero] at this
theorem goF_any {α : Type} {p : α → Bool} {a : Out} {fin : Out} : ∀ (l : List α) (i : Nat), goF p (fun _ _ => a) fin i l = if l.any p = true then a else fin
  | [], i => rfl
  | x :: l, i => by
    rw [goF, goF_any l (i + 1), List.any_cons]
    cases p x <;> simp
theorem wrap_succ {i n : Nat} (h : i < n) (hn : n ≤ 9223372036854775807) : IntKind.i64.wrap ((i : Int) + 1) = ((i + 1 : Nat) : Int) := by
  rw [wrap64 (by omega) (by omega)]
  simp
theorem map_getD {α : Type} {f : α → List DC} {l : List α} {i : Nat} (h : i < l.length) : (l.map f).getD i [] = f l[i] := by
  rw [List.getD_eq_getElem?_getD, List.getElem?_map, List.getElem?_eq_getElem h]
  rfl
def szR (left : Int) (w : Nat) : Int := if left < (w : Int) then -1 else left - w
theorem szR_lt {left : Int} {w : Nat} (h : left < (w : Int)) : szR left w = -1 := if_pos h
theorem szR_ge {left : Int} {w : Nat} (h : ¬ left < (w : Int)) : szR left w = left - w := if_neg h
theorem szS_loop {α : Type} {enc : α → List DC} {vs : List α} {F : List DC → Out}
    (hF : ∀ (i : Nat) (hi : i < vs.length) (left : Int), 0 ≤ left → left ≤ 1048576 → F [.sl (vs.map enc), .i left, .i (i : Int)] = if left < (wtL (enc vs[i]) : Int) then .ret [.i (-1)] else .norm [.sl (vs.map enc), .i (left - wtL (enc vs[i])), .i ((i + 1 : Nat) : Int)])
    (hend : ∀ left, F [.sl (vs.map enc), .i left, .i (vs.length : Int)] = .ex 0 [.i left]) :
    ∀ (m i : Nat) (left : Int), i + m = vs.length → 0 ≤ left → left ≤ 1048576 → Loop F [.sl (vs.map enc), .i left, .i (i : Int)] = if left < (wtV ((vs.drop i).map enc) : Int) then .ret [.i (-1)] else .ex 0 [.i (left - wtV ((vs.drop i).map enc))]
  | 0, i, left, hi, h0, h1 => by
    have : i = vs.length := by omega
    subst this
    rw [List.drop_length, Loop_ex (hend left)]
    simp only [List.map_nil, wtV]
    rw [if_neg (by omega)]
    simp
  | m + 1, i, left, hi, h0, h1 => by
    have hlt : i < vs.length := by omega
    have hw : wtV ((vs.drop i).map enc) = wtL (enc vs[i]) + wtV ((vs.drop (i + 1)).map enc) := by
      rw [List.drop_eq_getElem_cons hlt, List.map_cons, wtV]
    by_cases hc : left < (wtL (enc vs[i]) : Int)
    · rw [Loop_ret (by rw [hF i hlt left h0 h1, if_pos hc]), if_pos (by omega)]
    · rw [Loop_norm (by rw [hF i hlt left h0 h1, if_neg hc]), szS_loop hF hend m (i + 1) _ (by omega) (by omega) (by omega), hw]
      by_cases h2 : left - (wtL (enc vs[i]) : Int) < (wtV ((vs.drop (i + 1)).map enc) : Int)
      · rw [if_pos h2, if_pos (by omega)]
      · rw [if_neg h2, if_neg (by omega)]
        congr 3
        omega
theorem szS_all {α : Type} {enc : α → List DC} {vs : List α} {F : List DC → Out} (hl : vs.length ≤ 9223372036854775807)
    (hF : ∀ (i : Nat) (hi : i < vs.length) (left : Int), 0 ≤ left → left ≤ 1048576 → F [.sl (vs.map enc), .i left, .i (i : Int)] = if left < (wtL (enc vs[i]) : Int) then .ret [.i (-1)] else .norm [.sl (vs.map enc), .i (left - wtL (enc vs[i])), .i ((i + 1 : Nat) : Int)])
    (hend : ∀ left, F [.sl (vs.map enc), .i left, .i (vs.length : Int)] = .ex 0 [.i left]) {left : Int} (h0 : 0 ≤ left) (h1 : left ≤ 1048576) :
    (if (decide ((IntKind.i64.wrap (left - (((vs.map enc).length : Nat) : Int))) < (0 : Int))) = true then Out.ret [DC.i (-1 : Int)]
    else Out.andThenB (Loop F [DC.sl (vs.map enc), DC.i (IntKind.i64.wrap (left - (((vs.map enc).length : Nat) : Int))), DC.i (0 : Int)]) 0 fun v4 => .ret [DC.i ((v4.getD 0 d0).ii)]) = .ret [.i (szR left (DC.wt (.sl (vs.map enc))))] := by
  rw [DC.wt, List.length_map, wrap64 (by omega) (by omega)]
  by_cases hc : left - (vs.length : Int) < 0
  · simp only [hc, decide_true, if_true]
    rw [szR_lt (by omega)]
  · simp only [hc, decide_false, Bool.false_eq_true, if_false]
    have := szS_loop hF hend vs.length 0 (left - vs.length) (by omega) (by omega) (by omega)
    rw [List.drop_zero] at this
    rw [show (0 : Int) = ((0 : Nat) : Int) from rfl, this]
    by_cases h2 : left - (vs.length : Int) < (wtV (vs.map enc) : Int)
    · rw [if_pos h2, szR_lt (by omega)]
      rfl
    · rw [if_neg h2, szR_ge (by omega)]
      simp only [Out.andThenB_ex, if_true, List.getD_cons_zero, DC.ii_i]
      congr 3
      omega
theorem toS_loop {α : Type} {enc : α → List DC} {vs : List α} {z : List DC} {F : List DC → Out} (hl : vs.length ≤ 1048576)
    (hF : ∀ (i : Nat) (hi : i < vs.length) (cur : List (List DC)), cur.length = vs.length → cur.getD i [] = z → F [.sl (vs.map enc), .sl cur, .i (i : Int)] = .norm [.sl (vs.map enc), .sl (cur.set i (enc vs[i])), .i ((i + 1 : Nat) : Int)])
    (hend : ∀ cur, F [.sl (vs.map enc), .sl cur, .i (vs.length : Int)] = .ex 0 [.sl cur]) :
    Loop F [.sl (vs.map enc), .sl (List.replicate vs.length z), .i ((0 : Nat) : Int)] = .ex 0 [.sl (vs.map enc)] := by
  have hloop : Loop F [.sl (vs.map enc), .sl (List.replicate vs.length z), .i ((0 : Nat) : Int)] = .ex 0 [.sl (vs.map enc)] := by
    have h := Loop_upto (F := F) (st := fun i => [.sl (vs.map enc), .sl ((vs.map enc).take i ++ List.replicate (vs.length - i) z), .i (i : Int)]) (o := .ex 0 [.sl (vs.map enc)]) vs.length 0 (fun i _ hi => by
      have hlt : i < vs.length := by omega
      have hlen : ((vs.map enc).take i ++ List.replicate (vs.length - i) z).length = vs.length := by simp; omega
      have hgz : ((vs.map enc).take i ++ List.replicate (vs.length - i) z).getD i [] = z := by
        rw [List.getD_eq_getElem?_getD, List.getElem?_append_right (by simp; omega), List.getElem?_replicate, if_pos (by simp; omega)]
        rfl
      have := hF i hlt _ hlen hgz
      have hset : ((vs.map enc).take i ++ List.replicate (vs.length - i) z).set i (enc vs[i]) = (vs.map enc).take (i + 1) ++ List.replicate (vs.length - (i + 1)) z := by
        have ht : (vs.map enc).take (i + 1) = (vs.map enc).take i ++ [enc vs[i]] := by rw [List.take_add_one, List.getElem?_map, List.getElem?_eq_getElem hlt]; rfl
        rw [List.set_append_right _ _ (by simp; omega), ht]
        obtain ⟨m, hm⟩ : ∃ m, vs.length - i = m + 1 := ⟨vs.length - i - 1, by omega⟩
        have hm2 : vs.length - (i + 1) = m := by omega
        have hm3 : i - ((vs.map enc).take i).length = 0 := by simp; omega
        rw [hm, hm2, hm3, List.replicate_succ]
        simp only [List.set_cons_zero, List.append_assoc, List.singleton_append]
      rw [hset] at this
      exact this) (by
        have := hend (vs.map enc)
        refine Loop_ex ?_
        have ht : (vs.map enc).take (0 + vs.length) = vs.map enc := List.take_of_length_le (by simp)
        rw [ht]
        simpa using this)
    simpa using h
  exact hloop
theorem lim_of {n : Nat} (h : n ≤ 1048576) : (n : Int) < (LIM : Int) := by simp only [LIM]; omega
theorem eqS_all {l : List (List DC)} {F : List DC → Out} (hF : ∀ (i : Nat), i < l.length → F [.sl l, .sl l, .i (i : Int)] = .norm [.sl l, .sl l, .i ((i + 1 : Nat) : Int)]) (hend : F [.sl l, .sl l, .i (l.length : Int)] = .ex 0 []) :
    (if ((l.length : Int) != (l.length : Int)) = true then Out.ret [DC.b false]
    else Out.andThenB (Loop F [DC.sl l, DC.sl l, DC.i (0 : Int)]) 0 fun v4 => .ret [DC.b true]) = .ret [.b true] := by
  have hloop : Loop F [.sl l, .sl l, .i ((0 : Nat) : Int)] = .ex 0 [] :=
    Loop_upto (st := fun i => [.sl l, .sl l, .i (i : Int)]) l.length 0 (fun j _ hj => hF j (by omega)) (by rw [Nat.zero_add]; exact Loop_ex hend)
  rw [show (0 : Int) = ((0 : Nat) : Int) from rfl, hloop]
  simp
theorem zz0 {α : Type} {x : α} {l : List α} {d : α} : (x :: l).getD 0 d = x := List.getD_cons_zero
theorem zz1 {α : Type} {x : α} {l : List α} {i : Nat} {d : α} : (x :: l).getD (i + 1) d = l.getD i d := List.getD_cons_succ
@[simp] theorem zb (x : Bool) : (DC.b x).bb = x := rfl
@[simp] theorem zi (x : Int) : (DC.i x).ii = x := rfl
@[simp] theorem zs (x : List UInt8) : (DC.s x).ss = x := rfl
@[simp] theorem zl (x : List (List DC)) : (DC.sl x).ll = x := rfl
theorem zt (b : Bool) : b = true ∨ b = false := Bool.eq_false_or_eq_true b
theorem zm {α β : Type} (f : α → β) {l : List α} : (l.map f).length = l.length := List.length_map f
theorem zf : (false = true) = False := Bool.false_eq_true
section
variable {P : Program} {ty : Nat → Option TI}
end
section
variable {P : Program} {ty : Nat → Option TI}
theorem words_cells {w : World} {l : List (List DC)} {vs : List Value} {F : List Nat} (h : RdV ty w [.s] l vs F) : vs = (l.map fun x => (x.getD 0 d0).ss).map fun s => Value.string ⟨s.toArray⟩ := by
  cases h with
  | nil => rfl
  | cons _ x l v vs F G h1 h2 =>
    cases h1 with
    | cons t ts y ys u us F1 F2 a1 a2 =>
      cases a1
      cases a2
      rw [words_cells h2]
      rfl
end
end Go.Proofs.QV

namespace Go.Proofs.QV
open Go Go.Sort
set_option linter.unusedVariables false
set_option linter.unusedSimpArgs false
def wordsD (l : List (List DC)) : List (List UInt8) := l.map fun x => (x.getD 0 d0).ss
def dWords (l : List (List UInt8)) : List (List DC) := l.map fun s => [.s s]
def sortD (l : List (List DC)) : List (List DC) := dWords ((wordsD l).mergeSort fun x y => decide (x ≤ y))
def compD (l : List (List DC)) : List (List DC) := dWords (Lib.compact (wordsD l))
def qSort (e : Nat) : Nat → List HS → List C → Option (Nat × List HS × C) := fun _ H args =>
  match args with
  | [.one (.own id)] =>
    match getH H id with
    | .live (.row e' l) =>
      match Nat.beq e' e with
      | true => some (l.length, setH H id (.live (.row e (sortD l))), .tup [])
      | false => none
    | _ => none
  | _ => none
def qCompact (e : Nat) : Nat → List HS → List C → Option (Nat × List HS × C) := fun base H args =>
  match args with
  | [.one (.own id)] =>
    match getH H id with
    | .live (.row e' l) =>
      match getH (setH H id .dead) base with
      | .free =>
        match Nat.beq e' e with
        | true => some (l.length, setH (setH H id .dead) base (.live (.row e (compD l))), .one (.own base))
        | false => none
      | _ => none
    | _ => none
  | _ => none
theorem wordsD_dWords (l : List (List UInt8)) : wordsD (dWords l) = l := by
  unfold wordsD dWords
  rw [List.map_map]
  conv => rhs; rw [← List.map_id l]
  rfl
section
variable {P : Program} {ty : Nat → Option TI} {A : An} {g : Gh} {tm : List C} {H : List HS} {a : Act} {w : World}
theorem words_rdv : ∀ l : List (List UInt8), RdV ty w [.s] (dWords l) (l.map encStr) []
  | [] => .nil _
  | s :: l => by
    have := RdV.cons (ty := ty) (w := w) [.s] [DC.s s] (dWords l) [encStr s] _ _ _ (.cons _ _ _ _ _ _ _ _ (.s s) .nil) (words_rdv l)
    exact this
theorem compact_len (l : List (List UInt8)) : (Lib.compact l).length ≤ l.length := by
  unfold Lib.compact Lib.compactUpTo
  rw [List.length_map]
  exact Nat.le_trans (List.length_filter_le _ _) (by simp)
theorem row_words (h : Rel ty A g ⟨tm, H⟩ a w) {id e : Nat} {l : List (List DC)} {ti : TI} (hr : getH H id = .live (.row e l)) (hd : dp e = false) (ht : ty e = some ti) (hc : ti.cts = [.s]) :
    (g.val id = .slice none 0 0 ∧ l = []) ∨ ∃ b cap cur, g.val id = .slice (some ⟨b, 0, none⟩) l.length cap ∧ w.heap[b]? = some (.cells cur e (0, 0)) ∧ l.length ≤ cap ∧ cap ≤ maxLen ∧ cur.size = cap ∧ cur.toList.take l.length = (wordsD l).map encStr := by
  obtain ⟨ti', vs, F, h1, h0, h2, h3, h4, h5⟩ := h.ob id _ hr
  rw [und_shallow hd] at h1 h2
  obtain rfl : ti = ti' := by rw [ht] at h1; exact Option.some.inj h1
  rw [hc] at h2 h3
  have hv := words_cells h3
  rcases h2.2 with ⟨q1, q2⟩ | ⟨b, cap, cur, q1, _, q3, q4, q5, q6, q7⟩
  · exact .inl ⟨q1, List.eq_nil_of_length_eq_zero q2⟩
  · refine .inr ⟨b, cap, cur, q1, q3, q4, q5, by simpa using q6, ?_⟩
    have : cur.toList.take l.length = vs := by simpa using q7
    rw [this, hv]
    rfl
theorem row_ti (h : Rel ty A g ⟨tm, H⟩ a w) {id e : Nat} {l : List (List DC)} (hr : getH H id = .live (.row e l)) (hd : dp e = false) (hty : ∀ te, ty e = some te → te.cts = [.s]) : ∃ ti, ty e = some ti ∧ ti.cts = [.s] := by
  obtain ⟨ti, vs, F, h1, _⟩ := h.ob id _ hr
  rw [und_shallow hd] at h1
  exact ⟨ti, h1, hty ti h1⟩
theorem row_put (h : Rel ty A g ⟨tm, H⟩ a w) {id e b cap : Nat} {l : List (List DC)} {l' : List (List UInt8)} {ti : TI} {w' : World} {cur' : Array Value} (hr : getH H id = .live (.row e l)) (hd : dp e = false) (ht : ty e = some ti) (hc : ti.cts = [.s])
    (hv : g.val id = .slice (some ⟨b, 0, none⟩) l.length cap) (hn : l.length ≤ cap) (hcap : cap ≤ maxLen) (hl : l'.length = l.length) (os : w'.os = w.os) (tp : w'.tape = w.tape) (out : w'.output = w.output) (hs : w.heap.size ≤ w'.heap.size) (ho : ∀ c, c < w.heap.size → c ≠ b → w'.heap[c]? = w.heap[c]?)
    (hb : w'.heap[b]? = some (.cells cur' e (0, 0))) (hcs : cur'.size = cap) (htk : cur'.toList.take l.length = l'.map encStr) : Rel ty A g ⟨tm, setH H id (.live (.row e (dWords l')))⟩ a w' := by
  have hob : (g.val id).ownBlock = some b := by rw [hv]; rfl
  have hrb : rblk g id e b := .inl hob
  obtain ⟨_, _, _, _, _, _, _, _, hI⟩ := h.ob id _ hr
  refine (h.upd (g' := g) (getH_lt_live hr) (by simp) rfl (fun _ _ => ⟨rfl, rfl, rfl⟩) (fun _ _ => ⟨⟨_, _, .inl hr⟩, rfl⟩) (fun _ hx => ?_) (fun c hcx => ?_) hs (fun _ o ho' => ?_) (fun _ hx => ?_) ?_).1
  · obtain ⟨t, cs, hx⟩ := hx; simp [getH_set_same _ (getH_lt_live hr)] at hx
  · rcases hcx with hcx | ⟨i, p, hi, hp, hcx⟩
    · exact ho c (h.lt c hcx) fun e => hI b hrb (e ▸ hcx)
    · exact ho c (h.oblk_lt hp hcx) fun e => h.sep i id p _ b hi hp hr (e ▸ hcx) hrb
  · obtain rfl : Obj'.row e (dWords l') = o := by simpa using ho'
    refine ⟨⟨ti, l'.map encStr, [], by rw [und_shallow hd]; exact ht, by rw [hc]; decide, ?_, by rw [hc]; exact words_rdv l', (Leads.shallow hd).2 (fun b hb => by cases hb), hI⟩, fun c hcx => ?_⟩
    · rw [und_shallow hd, hc, hv]
      have hdl : (dWords l').length = l.length := by simp [dWords, hl]
      refine ⟨by simp [dWords], .inr ⟨b, cap, cur', by rw [hdl], Nat.zero_le _, hb, by omega, hcap, by simpa using hcs, ?_⟩⟩
      rw [hdl]
      simpa using htk
    · have hcx : rblk g id e c := hcx
      exact ⟨hI c hcx, h.ow id (.row e l) c hr hcx, fun i p hi hp => h.sep i id p _ c hi hp hr |> fun k hk => k hk hcx⟩
  · obtain ⟨t, cs, hx⟩ := hx; simp [getH_set_same _ (getH_lt_live hr)] at hx
  · exact h.keep.trans os tp out hs fun c hc' hp hm => ho c (Nat.lt_of_lt_of_le hc' h.keep.size) fun k => owOk_ne (h.ow id (.row e l) b hr hrb) hc' hp hm k
theorem putRow_world {w : World} {b e k : Nat} {cur : Array Value} {d : List (List UInt8)} {os : Array Obj} (hb : w.heap[b]? = some (.cells cur e (0, 0))) (hn : d.length ≤ cur.size) :
    (grow (putRow encStr (Sort.ahead w k) b 0 d.toArray) os).os = w.os ∧ (grow (putRow encStr (Sort.ahead w k) b 0 d.toArray) os).tape = w.tape ∧ (grow (putRow encStr (Sort.ahead w k) b 0 d.toArray) os).output = w.output ∧ w.heap.size ≤ (grow (putRow encStr (Sort.ahead w k) b 0 d.toArray) os).heap.size ∧
      (∀ c, c < w.heap.size → c ≠ b → (grow (putRow encStr (Sort.ahead w k) b 0 d.toArray) os).heap[c]? = w.heap[c]?) ∧
      ∃ cur', (grow (putRow encStr (Sort.ahead w k) b 0 d.toArray) os).heap[b]? = some (.cells cur' e (0, 0)) ∧ cur'.size = cur.size ∧ cur'.toList.take d.length = d.map encStr := by
  have hlt := block_lt hb
  refine ⟨rfl, rfl, rfl, by simp, fun c hc hne => ?_, putCells encStr 0 d.toArray cur, ?_, by simp [putCells], ?_⟩
  · rw [heap_grow_old _ _ (by simpa using hc)]
    simp only [putRow, mapBlock, Array.getElem?_modify, if_neg (fun h : b = c => hne h.symm)]
    rfl
  · rw [heap_grow_old _ _ (by simpa using hlt)]
    simp [putRow, mapBlock, Array.getElem?_modify, hb, onCells]
  · apply List.ext_getElem?
    intro j
    by_cases hj : j < d.length
    · rw [List.getElem?_take_of_lt hj, List.getElem?_map, Array.getElem?_toList, putCells, Array.getElem?_mapIdx, Array.getElem?_eq_getElem (by omega), List.getElem?_eq_getElem hj]
      simp [hj]
    · rw [List.getElem?_eq_none (by simp; omega), List.getElem?_eq_none (by simp; omega)]
theorem holds_row {w : World} {b e : Nat} {cur : Array Value} {d : List (List UInt8)} (hb : w.heap[b]? = some (.cells cur e (0, 0))) (ht : cur.toList.take d.length = d.map encStr) : Holds encStr w b 0 d.toArray := by
  intro j hj
  have hj : j < d.length := by simpa using hj
  have h1 : (cur.toList.take d.length)[j]? = some (encStr d[j]) := by rw [ht]; simp [hj]
  rw [List.getElem?_take_of_lt hj, Array.getElem?_toList] at h1
  refine ⟨?_, ?_⟩
  · unfold World.cell?
    simp [hb, h1, hj]
  · unfold World.frozen?
    simp [hb]
theorem sort_ok {G : Glob} {f e : Nat} (hd : dp e = false) (hty : ∀ te, ty e = some te → te.cts = [.s])
    (hS : ∀ (blk off cap : Nat) (ss : List (List UInt8)) (w : World), Holds encStr w blk off ss.toArray → blk < w.heap.size → ss.length < 4611686018427387904 → Calls P f #[.slice (some ⟨blk, off, none⟩) ss.length cap] w fun en w' => en = .returned (.tuple #[]) ∧ ∃ n os, w' = grow (putRow encStr (Sort.ahead w n) blk off (ss.mergeSort fun x y => decide (x ≤ y)).toArray) os)
    (hN : ∀ (p : Option Addr) (cap : Nat) (w : World), Calls P f #[.slice p 0 cap] w fun en w' => en = .returned (.tuple #[]) ∧ w' = w) : StOK P G ty f (qSort e) := by
  intro A g tm H H' a w base nn args vals c hA h hlen hcr hq hlim
  unfold qSort at hq
  split at hq
  · rename_i id
    split at hq
    · rename_i e' l hr
      split at hq
      · rename_i hbeq
        obtain rfl := Nat.eq_of_beq_eq_true hbeq
        obtain ⟨ti, ht, hc⟩ := row_ti h hr hd hty
        simp only [Option.some.injEq, Prod.mk.injEq] at hq
        obtain ⟨rfl, rfl, rfl⟩ := hq
        match vals, hlen with
        | [v], _ =>
          have hv := hcr 0 _ v rfl rfl
          have hval : v = g.val id := hv.2.2 ⟨_, _, .inl hr⟩
          subst hval
          have htup : ∀ (g' : Gh) (H2 : List HS) (w2 : World), CR ty g' H2 w2 (.tup []) (.tuple #[]) := fun _ _ _ => ⟨[], rfl, rfl, fun i a ss u hi => by simp at hi⟩
          rcases row_words h hr hd ht hc with ⟨q1, rfl⟩ | ⟨b, cap, cur, q1, q2, q3, q4, q5, q6⟩
          · rw [q1]
            refine Calls.mono (hN none 0 w) fun en w' hen => ?_
            obtain ⟨rfl, rfl⟩ := hen
            have hsame : setH H id (.live (.row e' (sortD []))) = H := by
              have : sortD [] = [] := by simp [sortD, wordsD, dWords]
              rw [this]
              apply List.ext_getElem?
              intro j
              unfold setH
              rw [List.getElem?_set]
              split
              · rename_i hj
                subst hj
                have hlt := getH_lt_live hr
                rw [if_pos hlt]
                have h2 := hr
                unfold getH at h2
                rw [List.getD_eq_getElem?_getD, List.getElem?_eq_getElem hlt] at h2
                rw [List.getElem?_eq_getElem hlt]
                simpa using h2.symm
              · rfl
            rw [hsame]
            exact ⟨_, g, rfl, h, fun _ h => h, htup _ _ _⟩
          · rw [q1]
            have hwl : (wordsD l).length = l.length := by simp [wordsD]
            have hS1 := hS b 0 cap (wordsD l) w (holds_row q2 (by rw [hwl]; exact q6)) (block_lt q2) (by rw [hwl]; simp only [LIM] at hlim; omega)
            rw [hwl] at hS1
            refine Calls.mono hS1 fun en w' hen => ?_
            obtain ⟨rfl, n, os, rfl⟩ := hen
            have hml : ((wordsD l).mergeSort fun x y => decide (x ≤ y)).length = l.length := by rw [List.length_mergeSort, hwl]
            obtain ⟨z1, z2, z3, z4, z5, cur', z6, z7, z8⟩ := putRow_world (w := w) (k := n) (os := os) (d := (wordsD l).mergeSort fun x y => decide (x ≤ y)) q2 (by rw [hml]; omega)
            exact ⟨_, g, rfl, row_put h hr hd ht hc q1 q3 q4 hml z1 z2 z3 z4 z5 z6 (by omega) (by rw [← hml]; exact z8), fun _ h => h, htup _ _ _⟩
      · simp at hq
    · simp at hq
  · simp at hq
theorem compact_ok {G : Glob} {f e : Nat} (hd : dp e = false) (hty : ∀ te, ty e = some te → te.cts = [.s])
    (hS : ∀ (blk off cap : Nat) (zs : List (List UInt8)) (w : World), Holds encStr w blk off zs.toArray → zs.length ≤ 9223372036854775807 → zs.length ≤ cap → Calls P f #[.slice (some ⟨blk, off, none⟩) zs.length cap] w fun en w' => en = .returned (.slice (some ⟨blk, off, none⟩) (Lib.compact zs).length cap) ∧ ∃ q, w' = putRow encStr (Sort.ahead w q) blk off (Lib.compact zs ++ List.replicate (zs.length - (Lib.compact zs).length) []).toArray)
    (hN : ∀ (p : Option Addr) (cap : Nat) (w : World), Calls P f #[.slice p 0 cap] w fun en w' => en = .returned (.slice p 0 cap) ∧ w' = w) : StOK P G ty f (qCompact e) := by
  intro A g tm H H' a w base nn args vals c hA h hlen hcr hq hlim
  unfold qCompact at hq
  split at hq
  · rename_i id
    split at hq
    · rename_i e' l hr
      split at hq
      · rename_i hfree
        split at hq
        · rename_i hbeq
          obtain rfl := Nat.eq_of_beq_eq_true hbeq
          obtain ⟨ti, ht, hc⟩ := row_ti h hr hd hty
          simp only [Option.some.injEq, Prod.mk.injEq] at hq
          obtain ⟨rfl, rfl, rfl⟩ := hq
          match vals, hlen with
          | [v], _ =>
            have hv := hcr 0 _ v rfl rfl
            have ht' : ty (und e') = some ti := by rw [und_shallow hd]; exact ht
            have hold : oldRow H e' (.one (.own id)) = some (l, setH H id .dead) := by simp [oldRow, hr]
            obtain ⟨k1, c1, xs, F, k2, k3, k4, _, k5, k6, k7⟩ := oldRow_ok h ht' hv hold
            have hval : v = g.val id := hv.2.2 ⟨_, _, .inl hr⟩
            subst hval
            rw [und_shallow hd, hc] at k2
            rcases row_words h hr hd ht hc with ⟨q1, rfl⟩ | ⟨b, cap, cur, q1, q2, q3, q4, q5, q6⟩
            · have hcd : compD [] = [] := by simp [compD, wordsD, dWords, Lib.compact, Lib.compactUpTo]
              rw [hcd]
              rw [q1] at k5 k6 ⊢
              refine Calls.mono (hN none 0 w) fun en w' hen => ?_
              obtain ⟨rfl, rfl⟩ := hen
              obtain ⟨g', r1, r2, r3⟩ := k1.grow (base := base) (e := e') (l := []) (v' := .slice none 0 0) (vs := []) (F := []) (w' := w') (vo := none) hfree ht' (by rw [hc]; decide) ⟨rfl, rfl, rfl, Nat.le_refl _, fun _ _ _ => rfl⟩
                (fun b hb => by cases hb) (World.ownsRow_nil _ _ _ _) (.nil _) ((New.shallow hd).2 fun b hb => by cases hb) (fun _ b hb => by cases hb) (fun b hb => by simp [Value.ownBlock] at hb)
              exact ⟨_, g', rfl, r1, r2.I, nf_live (getH_set_same _ (getH_lt_free hfree)), rfl, fun _ => r3.symm⟩
            · rw [q1] at k5 k6 ⊢
              have hwl : (wordsD l).length = l.length := by simp [wordsD]
              have hS1 := hS b 0 cap (wordsD l) w (holds_row q2 (by rw [hwl]; exact q6)) (by rw [hwl]; simp only [LIM] at hlim; omega) (by rw [hwl]; exact q3)
              have hcl := compact_len (wordsD l)
              rw [hwl] at hS1 hcl
              refine Calls.mono hS1 fun en w' hen => ?_
              obtain ⟨rfl, n, rfl⟩ := hen
              have hml : (Lib.compact (wordsD l) ++ List.replicate (l.length - (Lib.compact (wordsD l)).length) []).length = l.length := by simp; omega
              obtain ⟨z1, z2, z3, z4, z5, cur', z6, z7, z8⟩ := putRow_world (w := w) (k := n) (os := #[]) (d := Lib.compact (wordsD l) ++ List.replicate (l.length - (Lib.compact (wordsD l)).length) []) q2 (by rw [hml]; omega)
              rw [grow_empty] at z1 z2 z3 z4 z5 z6
              have hown : (putRow encStr (Sort.ahead w n) b 0 (Lib.compact (wordsD l) ++ List.replicate (l.length - (Lib.compact (wordsD l)).length) []).toArray).ownsRow 0 (und e') ti.cts.length (.slice (some ⟨b, 0, none⟩) (Lib.compact (wordsD l)).length cap) (compD l).length ((Lib.compact (wordsD l)).map encStr) := by
                have hdl : (compD l).length = (Lib.compact (wordsD l)).length := by simp [compD, dWords]
                rw [und_shallow hd, hc, hdl]
                refine ⟨by simp, .inr ⟨b, cap, cur', rfl, Nat.zero_le _, z6, by omega, q4, by simp; omega, ?_⟩⟩
                rw [hml] at z8
                have h8 := congrArg (List.take (Lib.compact (wordsD l)).length) z8
                rw [List.take_take, Nat.min_eq_left hcl, List.map_append, List.take_left' (List.length_map _)] at h8
                simpa using h8
              obtain ⟨g', r1, r2, r3⟩ := k1.grow (base := base) (e := e') (l := compD l) (v' := .slice (some ⟨b, 0, none⟩) (Lib.compact (wordsD l)).length cap) (F := []) (vo := some b) hfree ht' (by rw [hc]; decide) ⟨z1, z2, z3, z4, fun c hc' hne => z5 c hc' fun e => hne (by rw [e])⟩
                (fun c hc' => by obtain rfl := Option.some.inj hc'; exact k5 _ rfl) hown (by rw [hc]; exact words_rdv _) ((New.shallow hd).2 fun b hb => by cases hb) (fun _ b hb => by cases hb) (fun c hc' => by simp only [Value.ownBlock] at hc'; exact .inl hc')
              exact ⟨_, g', rfl, r1, r2.I, nf_live (getH_set_same _ (getH_lt_free hfree)), rfl, fun _ => r3.symm⟩
        · simp at hq
      · simp at hq
    · simp at hq
  · simp at hq
theorem stf_fn {G : Glob} {f : Nat} {fi : FI} {q : Nat → List HS → List C → Option (Nat × List HS × C)} (h : FnOk P G ty f fi) (hs : StOK P G ty f q) : FnOk P G ty f { fi with stf := some q } :=
  ⟨h.ex, h.prim, h.mark, fun q' e => by (cases e; exact hs)⟩
end
end Go.Proofs.QV

namespace Go.Proofs
open Go.Shelf
set_option maxRecDepth 100000
def Try.lsort_ren : Go.Shelf.Ren := ⟨fun | 6 => 28 | 8 => 46 | 9 => 45 | 19 => 70 | 20 => 71 | 21 => 61 | 22 => 62 | 23 => 63 | 24 => 64 | 25 => 65 | 26 => 66 | 27 => 67 | 28 => 68 | 29 => 69 | 36 => 84 | 31 => 85 | 32 => 86 | 37 => 87 | 38 => 88 | 39 => 89 | 41 => 97 | n => n, fun | 27 => 37 | 29 => 9 | 3 => 3 | 32 => 85 | 26 => 37 | 0 => 0 | 44 => 137 | 46 => 139 | 4 => 4 | 36 => 129 | 35 => 128 | 41 => 134 | 5 => 5 | 9 => 9 | 53 => 152 | 57 => 156 | 63 => 169 | 64 => 170 | n => n, fun | n => n⟩
theorem Try.lsort : Go.Proofs.SlLaysM.n6 Try.prog Try.lsort_ren := {
  mixed := by kernel_rfl,
  f6 := ⟨"slices.Sort[[]string,string]", by decide, Try.func28.trans (congrArg some (by kernel_rfl))⟩,
  f8 := Try.func46.trans (congrArg some (by kernel_rfl)),
  f9 := ⟨"slices.pdqsortOrdered[string]", by decide, Try.func45.trans (congrArg some (by kernel_rfl))⟩,
  f19 := Try.func70.trans (congrArg some (by kernel_rfl)),
  f20 := Try.func71.trans (congrArg some (by kernel_rfl)),
  f21 := ⟨"slices.insertionSortOrdered[string]", by decide, Try.func61.trans (congrArg some (by kernel_rfl))⟩,
  f22 := ⟨"slices.heapSortOrdered[string]", by decide, Try.func62.trans (congrArg some (by kernel_rfl))⟩,
  f23 := ⟨"slices.breakPatternsOrdered[string]", by decide, Try.func63.trans (congrArg some (by kernel_rfl))⟩,
  f24 := ⟨"slices.choosePivotOrdered[string]", by decide, Try.func64.trans (congrArg some (by kernel_rfl))⟩,
  f25 := ⟨"slices.reverseRangeOrdered[string]", by decide, Try.func65.trans (congrArg some (by kernel_rfl))⟩,
  f26 := ⟨"slices.partialInsertionSortOrdered[string]", by decide, Try.func66.trans (congrArg some (by kernel_rfl))⟩,
  f27 := ⟨"cmp.Less[string]", by decide, Try.func67.trans (congrArg some (by kernel_rfl))⟩,
  f28 := ⟨"slices.partitionEqualOrdered[string]", by decide, Try.func68.trans (congrArg some (by kernel_rfl))⟩,
  f29 := ⟨"slices.partitionOrdered[string]", by decide, Try.func69.trans (congrArg some (by kernel_rfl))⟩,
  f31 := Try.func85.trans (congrArg some (by kernel_rfl)),
  f32 := Try.func86.trans (congrArg some (by kernel_rfl)),
  f36 := ⟨"slices.siftDownOrdered[string]", by decide, Try.func84.trans (congrArg some (by kernel_rfl))⟩,
  f37 := ⟨"slices.medianAdjacentOrdered[string]", by decide, Try.func87.trans (congrArg some (by kernel_rfl))⟩,
  f38 := ⟨"slices.medianOrdered[string]", by decide, Try.func88.trans (congrArg some (by kernel_rfl))⟩,
  f39 := ⟨"cmp.isNaN[string]", by decide, Try.func89.trans (congrArg some (by kernel_rfl))⟩,
  f41 := ⟨"slices.order2Ordered[string]", by decide, Try.func97.trans (congrArg some (by kernel_rfl))⟩,
  t0 := Try.underlying0,
  a0 := Try.isAgg0,
  z0 := Try.sizeOf0,
  v0 := Try.zeroValue0,
  t3 := Try.underlying3,
  a3 := Try.isAgg3,
  z3 := Try.sizeOf3,
  v3 := Try.zeroValue3,
  t4 := Try.underlying4,
  a4 := Try.isAgg4,
  z4 := Try.sizeOf4,
  v4 := Try.zeroValue4,
  t5 := Try.underlying5,
  a5 := Try.isAgg5,
  z5 := Try.sizeOf5,
  v5 := Try.zeroValue5,
  t9 := Try.underlying9,
  a9 := Try.isAgg9,
  z9 := Try.sizeOf9,
  v9 := Try.zeroValue9,
  t26 := Try.underlying37,
  a26 := Try.isAgg37,
  z26 := Try.sizeOf37,
  v26 := Try.zeroValue37,
  t27 := Try.underlying37,
  a27 := Try.isAgg37,
  z27 := Try.sizeOf37,
  v27 := Try.zeroValue37,
  t29 := Try.underlying9,
  a29 := Try.isAgg9,
  z29 := Try.sizeOf9,
  v29 := Try.zeroValue9,
  t32 := Try.underlying85,
  a32 := Try.isAgg85,
  z32 := Try.sizeOf85,
  v32 := Try.zeroValue85,
  t35 := Try.underlying128,
  a35 := Try.isAgg128,
  z35 := Try.sizeOf128,
  v35 := Try.zeroValue128,
  t36 := Try.underlying129,
  a36 := Try.isAgg129,
  z36 := Try.sizeOf129,
  v36 := Try.zeroValue129,
  t41 := Try.underlying134,
  a41 := Try.isAgg134,
  z41 := Try.sizeOf134,
  v41 := Try.zeroValue134,
  t44 := Try.underlying137,
  a44 := Try.isAgg137,
  z44 := Try.sizeOf137,
  v44 := Try.zeroValue137,
  t46 := Try.underlying139,
  a46 := Try.isAgg139,
  z46 := Try.sizeOf139,
  v46 := Try.zeroValue139,
  t53 := Try.underlying152,
  a53 := Try.isAgg152,
  z53 := Try.sizeOf152,
  v53 := Try.zeroValue152,
  t57 := Try.underlying156,
  a57 := Try.isAgg156,
  z57 := Try.sizeOf156,
  v57 := Try.zeroValue156,
  t63 := Try.underlying169,
  a63 := Try.isAgg169,
  z63 := Try.sizeOf169,
  v63 := Try.zeroValue169,
  t64 := Try.underlying170,
  a64 := Try.isAgg170,
  z64 := Try.sizeOf170,
  v64 := Try.zeroValue170 }
def Try.lcompact_ren : Go.Shelf.Ren := ⟨fun | 44 => 29 | n => n, fun | 25 => 37 | 26 => 9 | 3 => 3 | 4 => 4 | 0 => 0 | n => n, fun | n => n⟩
theorem Try.lcompact : Go.Proofs.SlLaysN.n44 Try.prog Try.lcompact_ren := {
  mixed := by kernel_rfl,
  f44 := ⟨"slices.Compact[[]string,string]", by decide, Try.func29.trans (congrArg some (by kernel_rfl))⟩,
  t0 := Try.underlying0,
  a0 := Try.isAgg0,
  z0 := Try.sizeOf0,
  v0 := Try.zeroValue0,
  t3 := Try.underlying3,
  a3 := Try.isAgg3,
  z3 := Try.sizeOf3,
  v3 := Try.zeroValue3,
  t4 := Try.underlying4,
  a4 := Try.isAgg4,
  z4 := Try.sizeOf4,
  v4 := Try.zeroValue4,
  t25 := Try.underlying37,
  a25 := Try.isAgg37,
  z25 := Try.sizeOf37,
  v25 := Try.zeroValue37,
  t26 := Try.underlying9,
  a26 := Try.isAgg9,
  z26 := Try.sizeOf9,
  v26 := Try.zeroValue9,
  i26 := by kernel_rfl }
end Go.Proofs
namespace Go.Proofs.QV
open Go
set_option linter.unusedVariables false
theorem stSort {G : Glob} {ty : Nat → Option TI} {e : Nat} (hd : dp e = false) (hty : ∀ te, ty e = some te → te.cts = [.s]) : StOK Try.prog G ty 28 (qSort e) :=
  sort_ok hd hty (fun blk off cap ss w h1 h2 h3 => AnyM.slices_Sort_string Try.lsort blk off cap ss w h1 h2 h3) (fun p cap w => AnyM.slices_Sort_string_none Try.lsort p cap w)
theorem stCompact {G : Glob} {ty : Nat → Option TI} {e : Nat} (hd : dp e = false) (hty : ∀ te, ty e = some te → te.cts = [.s]) : StOK Try.prog G ty 29 (qCompact e) :=
  compact_ok hd hty (fun blk off cap ss w h1 h2 h3 => AnyG.slices_Compact_string Try.lcompact blk off cap ss w h1 h2 h3) (fun p cap w => AnyG.slices_Compact_string_empty Try.lcompact p cap w)
abbrev ou : KC := .one .u
abbrev ob : KC := .one .b
abbrev os : KC := .one .s
abbrev oi : KC := .one (.i .i64)
abbrev ol (e : Nat) : KC := .one (.sl e)
def uu (n : Nat) (l : List KC) : List KC := List.replicate n (.one .u) ++ l
def vv (n : Nat) (l : List KO) : List KO := List.replicate n .u ++ l
noncomputable def tyL : List (Nat × TI) := [(3, ⟨.int .i64, [.i .i64], 8, [], false⟩),
  (4, ⟨.bool, [.b], 1, [], false⟩),
  (9, ⟨.str, [.s], 16, [], false⟩),
  (22, ⟨.slice 52, [.sl 52], 24, [], false⟩),
  (23, ⟨.slice 55, [.sl 55], 24, [], false⟩),
  (25, ⟨.struct, [.sl 52, .sl 52, .sl 55], 72, [(0, 1, false), (1, 1, false), (2, 1, false)], false⟩),
  (28, ⟨.slice 62, [.sl 62], 24, [], false⟩),
  (29, ⟨.slice 65, [.sl 65], 24, [], false⟩),
  (31, ⟨.struct, [.sl 62, .sl 62, .sl 65], 72, [(0, 1, false), (1, 1, false), (2, 1, false)], false⟩),
  (37, ⟨.slice 9, [.sl 9], 24, [], false⟩),
  (47, ⟨.slice 95, [.sl 95], 24, [], false⟩),
  (48, ⟨.slice 101, [.sl 101], 24, [], false⟩),
  (49, ⟨.slice 104, [.sl 104], 24, [], false⟩),
  (50, ⟨.slice 108, [.sl 108], 24, [], false⟩),
  (52, ⟨.struct, [.i .i64, .b, .s, .s, .sl 9, .sl 95, .sl 101, .sl 104, .sl 55, .b, .sl 108], 200, [(0, 1, false), (1, 1, false), (2, 1, false), (3, 1, false), (4, 1, false), (5, 1, false), (6, 1, false), (7, 1, false), (8, 1, false), (9, 1, false), (10, 1, false)], false⟩),
  (55, ⟨.struct, [.i .i64, .s], 24, [(0, 1, false), (1, 1, false)], false⟩),
  (57, ⟨.slice 111, [.sl 111], 24, [], false⟩),
  (58, ⟨.slice 117, [.sl 117], 24, [], false⟩),
  (59, ⟨.slice 120, [.sl 120], 24, [], false⟩),
  (60, ⟨.slice 124, [.sl 124], 24, [], false⟩),
  (62, ⟨.struct, [.i .i64, .b, .s, .s, .sl 9, .sl 111, .sl 117, .sl 120, .sl 65, .b, .sl 124], 200, [(0, 1, false), (1, 1, false), (2, 1, false), (3, 1, false), (4, 1, false), (5, 1, false), (6, 1, false), (7, 1, false), (8, 1, false), (9, 1, false), (10, 1, false)], false⟩),
  (65, ⟨.struct, [.i .i64, .s], 24, [(0, 1, false), (1, 1, false)], false⟩),
  (93, ⟨.struct, [.s, .s], 32, [(0, 1, false), (1, 1, false)], false⟩),
  (95, ⟨.struct, [.s, .s, .sl 101, .s, .s, .sl 108], 112, [(0, 1, false), (1, 1, false), (2, 1, false), (3, 2, true), (5, 1, false)], false⟩),
  (97, ⟨.slice 99, [.sl 99], 24, [], false⟩),
  (99, ⟨.struct, [.i .i64, .s, .sl 99, .sl 9], 72, [(0, 1, false), (1, 1, false), (2, 1, false), (3, 1, false)], false⟩),
  (101, ⟨.struct, [.s, .s, .s, .s, .b, .i .i64, .s, .sl 99, .sl 9, .sl 108], 168, [(0, 1, false), (1, 1, false), (2, 2, true), (4, 1, false), (5, 4, true), (9, 1, false)], false⟩),
  (104, ⟨.struct, [.s, .s, .sl 108], 56, [(0, 1, false), (1, 1, false), (2, 1, false)], false⟩),
  (106, ⟨.slice 164, [.sl 164], 24, [], false⟩),
  (108, ⟨.struct, [.s, .sl 164], 40, [(0, 1, false), (1, 1, false)], false⟩),
  (109, ⟨.struct, [.s, .s], 32, [(0, 1, false), (1, 1, false)], false⟩),
  (111, ⟨.struct, [.s, .s, .sl 117, .s, .s, .sl 124], 112, [(0, 1, false), (1, 1, false), (2, 1, false), (3, 2, true), (5, 1, false)], false⟩),
  (113, ⟨.slice 115, [.sl 115], 24, [], false⟩),
  (115, ⟨.struct, [.i .i64, .s, .sl 115, .sl 9], 72, [(0, 1, false), (1, 1, false), (2, 1, false), (3, 1, false)], false⟩),
  (117, ⟨.struct, [.s, .s, .s, .s, .b, .i .i64, .s, .sl 115, .sl 9, .sl 124], 168, [(0, 1, false), (1, 1, false), (2, 2, true), (4, 1, false), (5, 4, true), (9, 1, false)], false⟩),
  (120, ⟨.struct, [.s, .s, .sl 124], 56, [(0, 1, false), (1, 1, false), (2, 1, false)], false⟩),
  (122, ⟨.slice 167, [.sl 167], 24, [], false⟩),
  (124, ⟨.struct, [.s, .sl 167], 40, [(0, 1, false), (1, 1, false)], false⟩),
  (164, ⟨.struct, [.s, .i .i64, .s, .sl 99, .sl 9], 88, [(0, 1, false), (1, 4, true)], false⟩),
  (167, ⟨.struct, [.s, .i .i64, .s, .sl 115, .sl 9], 88, [(0, 1, false), (1, 4, true)], false⟩)]
noncomputable def fi3 : FI := mkFI Try.f3 11 [.ag [.sl 52, .sl 52, .sl 55], .ct .s, .ct .s] [(false, [.ct .b])] (fun _ => (.s (.r [0, 0] none) (.s .n (.s .n (.s .n (.s .n (.s .n (.s (.r [0, 1, 0, 0, 0, 0] none) (.s (.r [0, 4, 7, 0] none) (.s .n (.s .n (.s (.s (.r [0, 0, 8, 0, 0] none) .n) .n))))))))))))
noncomputable def fi4 : FI := mkFI Try.f4 1 [.ag [.sl 52, .sl 52, .sl 55], .ct (.i .i64)] [(false, [.ct (.i .i64)])] (fun _ => (.s (.r [0, 0] none) .n))
noncomputable def fi6 : FI := mkFI Try.f6 6 [.ag [.sl 52, .sl 52, .sl 55]] [(true, [.new 1062, .new 1062, .new 65])] (fun _ => (.s (.r [0, 1] none) (.s (.r [2] none) (.s (.r [0, 0, 3, 0, 0] none) (.s (.r [0, 0, 4, 0, 0] none) (.s (.r [0, 0, 5, 0, 0] none) .n))))))
noncomputable def fi5 : FI := mkFI Try.f5 7 [.ag [.sl 62, .sl 62, .sl 65], .ct .s, .ct .s] [(false, [.ct .b])] (fun _ => (.s (.r [0, 0] none) (.s (.r [0, 0, 1, 0] none) (.s (.r [0, 0, 2, 0] none) (.s (.s .n (.b (.b (.s .n (.s (.b .n ⟨uu 7 (.one (.own 9 5) :: .one (.own 9 6) :: oi :: uu 18 []), vv 7 []⟩) .n)) ⟨uu 7 (.one (.own 9 3) :: .one (.own 9 4) :: oi :: uu 18 []), vv 7 []⟩) ⟨uu 28 [], vv 7 []⟩)) .n)))))
noncomputable def fi7 : FI := mkFI Try.f7 4 [.ag [.sl 62, .sl 62, .sl 65], .ct .s, .ct .s] [(false, [.ct .b])] (fun _ => (.s (.r [0, 0] none) (.s (.r [0, 0, 1, 2, 0] none) (.s (.r [0, 0, 3, 0, 0, 0] none) .n))))
noncomputable def fi8 : FI := mkFI Try.f8 2 [.ag [.sl 62, .sl 62, .sl 65], .ag [.sl 62, .sl 62, .sl 65]] [(false, [.ct .b])] (fun _ => (.s (.r [0, 1, 0] none) .n))
noncomputable def fi9 : FI := mkFI Try.f9 0 [.ct (.sl 52), .ct (.i .i64)] [(false, [.ct (.i .i64)])] (fun _ => (.s .n (.s .n (.s .n (.s (.s .n (.b (.b (.s .n (.s (.b .n ⟨ol 52 :: oi :: uu 3 (oi :: uu 21 []), []⟩) .n)) ⟨ol 52 :: oi :: uu 3 (oi :: uu 21 []), []⟩) ⟨ou :: oi :: uu 25 [], []⟩)) .n)))))
noncomputable def fi10 : FI := mkFI Try.f10 0 [.ct (.sl 55), .ct (.i .i64)] [(false, [.ct (.i .i64)])] (fun _ => (.s .n (.s .n (.s .n (.s (.s .n (.b (.b (.s .n (.s (.b .n ⟨ol 55 :: oi :: uu 3 (oi :: uu 21 []), []⟩) .n)) ⟨ol 55 :: oi :: uu 3 (oi :: uu 21 []), []⟩) ⟨ou :: oi :: uu 25 [], []⟩)) .n)))))
noncomputable def fi13 : FI := mkFI Try.f13 11 [.ct (.sl 52)] [(false, [.new 1062])] (fun _ => (.s .n (.s (.r [0, 0, 1, 0] none) (.s (.s .n (.b (.b (.s .n (.s (.b (.r [0, 0, 0, 0, 0, 0, 3, 0, 0] none) ⟨ol 52 :: ou :: ou :: .one (.own 1062 9) :: oi :: uu 18 [], vv 11 []⟩) .n)) ⟨ol 52 :: ou :: ou :: .one (.own 1062 2) :: oi :: uu 18 [], vv 11 []⟩) ⟨uu 3 (.one (.own 1062 10) :: uu 19 []), vv 11 []⟩)) .n))))
noncomputable def fi14 : FI := mkFI Try.f14 4 [.ct (.sl 55)] [(false, [.new 65])] (fun _ => (.s .n (.s (.r [0, 0, 0, 0] none) (.s (.s .n (.b (.b (.s .n (.s (.b .n ⟨ol 55 :: ou :: ou :: .one (.own 65 2) :: oi :: uu 18 [], vv 4 []⟩) .n)) ⟨ol 55 :: ou :: ou :: .one (.own 65 1) :: oi :: uu 18 [], vv 4 []⟩) ⟨uu 3 (.one (.own 65 3) :: uu 19 []), vv 4 []⟩)) .n))))
noncomputable def fi11 : FI := mkFI Try.f11 14 [.ag [.sl 62, .sl 62, .sl 65], .ct .s] [(false, [.new 9])] (fun _ => (.s (.r [0, 0] none) (.s (.r [2, 0] none) (.s .n (.s .n (.s (.r [0, 0, 0, 0, 0, 3, 0] none) (.s (.s .n (.b (.b (.s .n (.s (.b (.s (.r [0, 0, 0, 0, 0, 5, 0] none) (.s .n (.s (.r [] (some ⟨ou :: os :: .one (.ptr 0 0) :: ou :: ou :: .one (.own 9 6) :: ou :: .one (.ptr 3 0) :: oi :: .one (.ptr 5 0) :: uu 58 (ob :: uu 7 []), .var 31 [.sl 62, .sl 62, .sl 65] :: .u :: .u :: .var 62 [.i .i64, .b, .s, .s, .sl 9, .sl 111, .sl 117, .sl 120, .sl 65, .b, .sl 124] :: .u :: .var 62 [.i .i64, .b, .s, .s, .sl 9, .sl 111, .sl 117, .sl 120, .sl 65, .b, .sl 124] :: vv 8 []⟩)) (.c (.r [0, 0, 0, 8, 9, 0] none) .n (some ⟨ou :: os :: .one (.ptr 0 0) :: ou :: ou :: .one (.own 9 10) :: ou :: .one (.ptr 3 0) :: oi :: uu 67 [], .var 31 [.sl 62, .sl 62, .sl 65] :: .u :: .u :: .var 62 [.i .i64, .b, .s, .s, .sl 9, .sl 111, .sl 117, .sl 120, .sl 65, .b, .sl 124] :: vv 10 []⟩))))) ⟨ou :: os :: .one (.ptr 0 0) :: ou :: ou :: .one (.own 9 11) :: ou :: .one (.ptr 3 0) :: oi :: uu 67 [], .var 31 [.sl 62, .sl 62, .sl 65] :: .u :: .u :: .var 62 [.i .i64, .b, .s, .s, .sl 9, .sl 111, .sl 117, .sl 120, .sl 65, .b, .sl 124] :: vv 10 []⟩) .n)) ⟨ou :: os :: .one (.ptr 0 0) :: ou :: ou :: .one (.own 9 4) :: ou :: .one (.ptr 3 0) :: oi :: uu 67 [], .var 31 [.sl 62, .sl 62, .sl 65] :: .u :: .u :: .var 62 [.i .i64, .b, .s, .s, .sl 9, .sl 111, .sl 117, .sl 120, .sl 65, .b, .sl 124] :: vv 10 []⟩) ⟨uu 5 (.one (.own 9 12) :: uu 70 []), vv 14 []⟩)) (.s (.r [0, 13, 0] none) .n))))))))
noncomputable def fi12 : FI := mkFI Try.f12 0 [.ct (.sl 9), .ct .s] [(false, [.ct .b])] (fun _ => (.s .n (.s (.s .n (.b (.b (.s .n (.s (.b .n ⟨ol 9 :: os :: uu 3 (oi :: uu 12 []), []⟩) .n)) ⟨ol 9 :: os :: uu 3 (oi :: uu 12 []), []⟩) ⟨uu 18 [], []⟩)) .n)))
noncomputable def fi15 : FI := mkFI Try.f15 16 [.ag [.sl 62, .sl 62, .sl 65], .ct .s] [(false, [.new 9])] (fun _ => (.s (.r [0, 0] none) (.s (.r [0, 0, 0, 0, 0, 0, 1, 0, 0] none) (.s (.r [2, 0] none) (.s (.s .n (.b (.b (.s .n (.s .n (.s (.b (.s (.r [0, 0, 4, 0] none) (.s .n (.s (.s .n (.b (.s .n (.c .n (.s .n (.c .n (.s .n (.c .n .n (some ⟨ou :: os :: uu 3 (.one (.ptr 1 0) :: ou :: .one (.own 9 5) :: ou :: .one (.ptr 4 0) :: ob :: uu 8 (ol 62 :: oi :: oi :: uu 40 [])), .u :: .var 62 [.i .i64, .b, .s, .s, .sl 9, .sl 111, .sl 117, .sl 120, .sl 65, .b, .sl 124] :: .u :: .u :: .var 62 [.i .i64, .b, .s, .s, .sl 9, .sl 111, .sl 117, .sl 120, .sl 65, .b, .sl 124] :: vv 11 []⟩))) (some ⟨ou :: os :: uu 3 (.one (.ptr 1 0) :: ou :: .one (.own 9 6) :: ou :: .one (.ptr 4 0) :: ob :: uu 8 (ol 62 :: oi :: oi :: uu 40 [])), .u :: .var 62 [.i .i64, .b, .s, .s, .sl 9, .sl 111, .sl 117, .sl 120, .sl 65, .b, .sl 124] :: .u :: .u :: .var 62 [.i .i64, .b, .s, .s, .sl 9, .sl 111, .sl 117, .sl 120, .sl 65, .b, .sl 124] :: vv 11 []⟩))) (some ⟨ou :: os :: uu 3 (.one (.ptr 1 0) :: ou :: .one (.own 9 7) :: ou :: .one (.ptr 4 0) :: ob :: uu 8 (ol 62 :: oi :: oi :: uu 40 [])), .u :: .var 62 [.i .i64, .b, .s, .s, .sl 9, .sl 111, .sl 117, .sl 120, .sl 65, .b, .sl 124] :: .u :: .u :: .var 62 [.i .i64, .b, .s, .s, .sl 9, .sl 111, .sl 117, .sl 120, .sl 65, .b, .sl 124] :: vv 11 []⟩))) ⟨ou :: os :: uu 3 (.one (.ptr 1 0) :: ou :: .one (.own 9 8) :: ou :: .one (.ptr 4 0) :: ob :: uu 8 (ol 62 :: oi :: oi :: uu 40 [])), .u :: .var 62 [.i .i64, .b, .s, .s, .sl 9, .sl 111, .sl 117, .sl 120, .sl 65, .b, .sl 124] :: .u :: .u :: .var 62 [.i .i64, .b, .s, .s, .sl 9, .sl 111, .sl 117, .sl 120, .sl 65, .b, .sl 124] :: vv 11 []⟩)) (.s (.r [] (some ⟨ou :: os :: uu 3 (.one (.ptr 1 0) :: ou :: .one (.own 9 9) :: ou :: .one (.ptr 4 0) :: uu 9 (ol 62 :: oi :: oi :: uu 29 (ob :: uu 10 []))), .u :: .var 62 [.i .i64, .b, .s, .s, .sl 9, .sl 111, .sl 117, .sl 120, .sl 65, .b, .sl 124] :: .u :: .u :: .var 62 [.i .i64, .b, .s, .s, .sl 9, .sl 111, .sl 117, .sl 120, .sl 65, .b, .sl 124] :: vv 11 []⟩)) (.c (.r [0, 0, 0, 10, 11, 0] none) .n (some ⟨ou :: os :: uu 3 (.one (.ptr 1 0) :: ou :: .one (.own 9 12) :: uu 11 (ol 62 :: oi :: oi :: uu 40 [])), .u :: .var 62 [.i .i64, .b, .s, .s, .sl 9, .sl 111, .sl 117, .sl 120, .sl 65, .b, .sl 124] :: vv 14 []⟩)))))) ⟨ou :: os :: uu 3 (.one (.ptr 1 0) :: ou :: .one (.own 9 13) :: uu 11 (ol 62 :: oi :: oi :: uu 40 [])), .u :: .var 62 [.i .i64, .b, .s, .s, .sl 9, .sl 111, .sl 117, .sl 120, .sl 65, .b, .sl 124] :: vv 14 []⟩) .n))) ⟨ou :: os :: uu 3 (.one (.ptr 1 0) :: ou :: .one (.own 9 3) :: uu 11 (ol 62 :: oi :: oi :: uu 40 [])), .u :: .var 62 [.i .i64, .b, .s, .s, .sl 9, .sl 111, .sl 117, .sl 120, .sl 65, .b, .sl 124] :: vv 14 []⟩) ⟨uu 7 (.one (.own 9 14) :: uu 54 []), vv 16 []⟩)) (.s .n (.s (.r [0, 15, 0] none) .n)))))))
noncomputable def fi16 : FI := mkFI Try.f16 1 [.ct (.sl 9), .fn] [(false, [.ct .b])] (fun _ => .n)
noncomputable def fi19 : FI := mkFI Try.f19 0 [.ct (.sl 62), .ct (.sl 62)] [(false, [.ct .b])] (fun _ => (.s .n (.s .n (.s (.s .n (.b (.b (.s .n (.s (.b .n ⟨ol 62 :: ol 62 :: uu 3 (oi :: uu 21 []), []⟩) .n)) ⟨ol 62 :: ol 62 :: uu 3 (oi :: uu 21 []), []⟩) ⟨uu 27 [], []⟩)) .n))))
noncomputable def fi20 : FI := mkFI Try.f20 0 [.ct (.sl 65), .ct (.sl 65)] [(false, [.ct .b])] (fun _ => (.s .n (.s .n (.s (.s .n (.b (.b (.s .n (.s (.b .n ⟨ol 65 :: ol 65 :: uu 3 (oi :: uu 21 []), []⟩) .n)) ⟨ol 65 :: ol 65 :: uu 3 (oi :: uu 21 []), []⟩) ⟨uu 27 [], []⟩)) .n))))
noncomputable def fi21 : FI := mkFI Try.f21 1 [.ag [.i .i64, .b, .s, .s, .sl 9, .sl 95, .sl 101, .sl 104, .sl 55, .b, .sl 108], .ct (.i .i64)] [(false, [.ct (.i .i64)])] (fun _ => (.s (.r [0, 0] none) .n))
noncomputable def fi22 : FI := mkFI Try.f22 1 [.ag [.i .i64, .s], .ct (.i .i64)] [(false, [.ct (.i .i64)])] (fun _ => (.s (.r [0, 0] none) .n))
noncomputable def fi25 : FI := mkFI Try.f25 9 [.ag [.i .i64, .b, .s, .s, .sl 9, .sl 95, .sl 101, .sl 104, .sl 55, .b, .sl 108]] [(true, [.ct (.i .i64), .ct .b, .ct .s, .ct .s, .new 9, .new 1111, .new 1117, .new 1120, .new 65, .ct .b, .new 1124])] (fun _ => (.s (.r [0, 1] none) (.s (.r [2] none) (.s .n (.s .n (.s .n (.s .n (.s (.r [0, 0, 3, 0, 0] none) (.s (.r [0, 0, 4, 0, 0] none) (.s (.r [0, 0, 5, 0, 0] none) (.s (.r [0, 0, 6, 0, 0] none) (.s (.r [0, 0, 7, 0, 0] none) (.s .n (.s (.r [0, 0, 8, 0, 0] none) .n))))))))))))))
noncomputable def fi26 : FI := mkFI Try.f26 3 [.ag [.i .i64, .s]] [(true, [.ct (.i .i64), .ct .s])] (fun _ => (.s (.r [0, 1] none) (.s (.r [2] none) .n)))
noncomputable def fi23 : FI := mkFI Try.f23 1 [.ag [.sl 62, .sl 62, .sl 65], .ct .s] [(false, [.ct (.i .i64)])] (fun _ => (.s (.r [0, 0] none) (.s (.s .n (.b (.b (.s (.s (.r [] (some ⟨ou :: os :: .one (.ptr 0 0) :: ou :: ou :: oi :: uu 10 (ob :: uu 11 []), .var 31 [.sl 62, .sl 62, .sl 65] :: []⟩)) .n) (.s (.b .n ⟨ou :: os :: .one (.ptr 0 0) :: ou :: ou :: oi :: uu 22 [], .var 31 [.sl 62, .sl 62, .sl 65] :: []⟩) .n)) ⟨ou :: os :: .one (.ptr 0 0) :: ou :: ou :: oi :: uu 22 [], .var 31 [.sl 62, .sl 62, .sl 65] :: []⟩) ⟨uu 28 [], .u :: []⟩)) .n)))
noncomputable def fi24 : FI := mkFI Try.f24 29 [.ct (.sl 9)] [(false, [.new 9])] (fun _ => (.s .n (.s (.s .n (.c (.s (.r [0, 0, 1, 0] none) .n) .n none)) (.s (.r [0, 0, 0, 0, 0, 2, 0] none) (.s (.r [0, 0, 0, 0, 0, 3, 0] none) (.s (.r [4, 0] none) (.s .n (.s .n (.s (.b (.b (.s (.s (.r [] (some ⟨uu 3 (.one (.own 9 8) :: .one (.own 9 9) :: .one (.own 9 10) :: oi :: oi :: uu 29 (ob :: uu 51 [])), vv 29 []⟩)) .n) (.b (.s .n (.s (.s (.r [] (some ⟨uu 3 (.one (.own 9 11) :: .one (.own 9 12) :: .one (.own 9 13) :: oi :: oi :: uu 50 (ob :: uu 30 [])), vv 29 []⟩)) (.c .n .n (some ⟨uu 3 (.one (.own 9 14) :: .one (.own 9 15) :: .one (.own 9 16) :: oi :: oi :: os :: uu 80 []), vv 29 []⟩))) (.s (.r [] (some ⟨uu 3 (.one (.own 9 17) :: .one (.own 9 18) :: .one (.own 9 19) :: oi :: oi :: os :: uu 74 (ob :: uu 5 [])), vv 29 []⟩)) (.c (.r [0, 0, 20, 21, 0] none) .n (some ⟨uu 3 (.one (.own 9 22) :: .one (.own 9 23) :: .one (.own 9 24) :: oi :: oi :: uu 81 []), vv 29 []⟩))))) ⟨uu 3 (.one (.own 9 25) :: .one (.own 9 26) :: .one (.own 9 27) :: oi :: oi :: uu 81 []), vv 29 []⟩)) ⟨uu 3 (.one (.own 9 5) :: .one (.own 9 6) :: .one (.own 9 7) :: oi :: oi :: uu 81 []), vv 29 []⟩) ⟨uu 5 (.one (.own 9 28) :: uu 83 []), vv 29 []⟩) .n)))))))))
noncomputable def fi27 : FI := mkFI Try.f27 2 [.ag [.sl 62, .sl 62, .sl 65], .ct .s] [(true, [.ct (.i .i64), .ct .b, .ct .s, .ct .s, .ct (.sl 9), .ct (.sl 111), .ct (.sl 117), .ct (.sl 120), .ct (.sl 65), .ct .b, .ct (.sl 124)]), (false, [.ct .b])] (fun _ => (.s (.r [0, 1, 0] none) .n))
noncomputable def fi18 : FI := mkFI Try.f18 0 [.ct (.sl 9), .ct .s] [(false, [.ct .b])] (fun _ => .n)
noncomputable def fi30 : FI := mkFI Try.f30 1 [.ct (.sl 9), .fn] [(false, [.ct (.i .i64)])] (fun _ => (.s .n (.s (.s .n (.b (.b (.s .n (.s .n (.s (.b .n ⟨ol 9 :: .one (.fn 17 [0]) :: uu 5 (oi :: oi :: uu 10 []), .var 37 [.sl 9] :: []⟩) .n))) ⟨ol 9 :: .one (.fn 17 [0]) :: uu 5 (oi :: oi :: uu 10 []), .var 37 [.sl 9] :: []⟩) ⟨uu 19 [], .var 37 [.sl 9] :: []⟩)) .n)))
noncomputable def fi32 : FI := mkFI Try.f32 2 [.ag [.i .i64, .b, .s, .s, .sl 9, .sl 111, .sl 117, .sl 120, .sl 65, .b, .sl 124], .ag [.i .i64, .b, .s, .s, .sl 9, .sl 111, .sl 117, .sl 120, .sl 65, .b, .sl 124]] [(false, [.ct .b])] (fun _ => (.s (.r [0, 1, 0] none) .n))
noncomputable def fi33 : FI := mkFI Try.f33 2 [.ag [.i .i64, .s], .ag [.i .i64, .s]] [(false, [.ct .b])] (fun _ => (.s (.r [0, 1, 0] none) .n))
noncomputable def fi34 : FI := mkFI Try.f34 0 [.ct (.sl 9), .ct (.i .i64)] [(false, [.ct (.i .i64)])] (fun _ => (.s .n (.s .n (.s .n (.s (.s .n (.b (.b (.s .n (.s (.b .n ⟨ol 9 :: oi :: uu 3 (oi :: uu 22 []), []⟩) .n)) ⟨ol 9 :: oi :: uu 3 (oi :: uu 22 []), []⟩) ⟨ou :: oi :: uu 26 [], []⟩)) .n)))))
noncomputable def fi35 : FI := mkFI Try.f35 0 [.ct (.sl 95), .ct (.i .i64)] [(false, [.ct (.i .i64)])] (fun _ => (.s .n (.s .n (.s .n (.s (.s .n (.b (.b (.s .n (.s (.b .n ⟨ol 95 :: oi :: uu 3 (oi :: uu 21 []), []⟩) .n)) ⟨ol 95 :: oi :: uu 3 (oi :: uu 21 []), []⟩) ⟨ou :: oi :: uu 25 [], []⟩)) .n)))))
noncomputable def fi36 : FI := mkFI Try.f36 0 [.ct (.sl 101), .ct (.i .i64)] [(false, [.ct (.i .i64)])] (fun _ => (.s .n (.s .n (.s .n (.s (.s .n (.b (.b (.s .n (.s (.b .n ⟨ol 101 :: oi :: uu 3 (oi :: uu 21 []), []⟩) .n)) ⟨ol 101 :: oi :: uu 3 (oi :: uu 21 []), []⟩) ⟨ou :: oi :: uu 25 [], []⟩)) .n)))))
noncomputable def fi37 : FI := mkFI Try.f37 0 [.ct (.sl 104), .ct (.i .i64)] [(false, [.ct (.i .i64)])] (fun _ => (.s .n (.s .n (.s .n (.s (.s .n (.b (.b (.s .n (.s (.b .n ⟨ol 104 :: oi :: uu 3 (oi :: uu 21 []), []⟩) .n)) ⟨ol 104 :: oi :: uu 3 (oi :: uu 21 []), []⟩) ⟨ou :: oi :: uu 25 [], []⟩)) .n)))))
noncomputable def fi38 : FI := mkFI Try.f38 0 [.ct (.sl 108), .ct (.i .i64)] [(false, [.ct (.i .i64)])] (fun _ => (.s .n (.s .n (.s .n (.s (.s .n (.b (.b (.s .n (.s (.b .n ⟨ol 108 :: oi :: uu 3 (oi :: uu 21 []), []⟩) .n)) ⟨ol 108 :: oi :: uu 3 (oi :: uu 21 []), []⟩) ⟨ou :: oi :: uu 25 [], []⟩)) .n)))))
noncomputable def fi39 : FI := mkFI Try.f39 4 [.ct (.sl 9)] [(false, [.new 9])] (fun _ => (.s .n (.s (.r [0, 0, 0, 0] none) (.s (.s .n (.b (.b (.s .n (.s (.b .n ⟨ol 9 :: ou :: ou :: .one (.own 9 2) :: oi :: uu 17 [], vv 4 []⟩) .n)) ⟨ol 9 :: ou :: ou :: .one (.own 9 1) :: oi :: uu 17 [], vv 4 []⟩) ⟨uu 3 (.one (.own 9 3) :: uu 18 []), vv 4 []⟩)) .n))))
noncomputable def fi40 : FI := mkFI Try.f40 7 [.ct (.sl 95)] [(false, [.new 1111])] (fun _ => (.s .n (.s (.r [0, 0, 1, 0] none) (.s (.s .n (.b (.b (.s .n (.s (.b (.r [0, 0, 0, 0, 0, 0, 3, 0, 0] none) ⟨ol 95 :: ou :: ou :: .one (.own 1111 5) :: oi :: uu 18 [], vv 7 []⟩) .n)) ⟨ol 95 :: ou :: ou :: .one (.own 1111 2) :: oi :: uu 18 [], vv 7 []⟩) ⟨uu 3 (.one (.own 1111 6) :: uu 19 []), vv 7 []⟩)) .n))))
noncomputable def fi41 : FI := mkFI Try.f41 8 [.ct (.sl 101)] [(false, [.new 1117])] (fun _ => (.s .n (.s (.r [0, 0, 1, 0] none) (.s (.s .n (.b (.b (.s .n (.s (.b (.r [0, 0, 0, 0, 0, 0, 3, 0, 0] none) ⟨ol 101 :: ou :: ou :: .one (.own 1117 6) :: oi :: uu 18 [], vv 8 []⟩) .n)) ⟨ol 101 :: ou :: ou :: .one (.own 1117 2) :: oi :: uu 18 [], vv 8 []⟩) ⟨uu 3 (.one (.own 1117 7) :: uu 19 []), vv 8 []⟩)) .n))))
noncomputable def fi42 : FI := mkFI Try.f42 6 [.ct (.sl 104)] [(false, [.new 1120])] (fun _ => (.s .n (.s (.r [0, 0, 1, 0] none) (.s (.s .n (.b (.b (.s .n (.s (.b (.r [0, 0, 0, 0, 0, 0, 3, 0, 0] none) ⟨ol 104 :: ou :: ou :: .one (.own 1120 4) :: oi :: uu 18 [], vv 6 []⟩) .n)) ⟨ol 104 :: ou :: ou :: .one (.own 1120 2) :: oi :: uu 18 [], vv 6 []⟩) ⟨uu 3 (.one (.own 1120 5) :: uu 19 []), vv 6 []⟩)) .n))))
noncomputable def fi43 : FI := mkFI Try.f43 6 [.ct (.sl 108)] [(false, [.new 1124])] (fun _ => (.s .n (.s (.r [0, 0, 1, 0] none) (.s (.s .n (.b (.b (.s .n (.s (.b (.r [0, 0, 0, 0, 0, 0, 3, 0, 0] none) ⟨ol 108 :: ou :: ou :: .one (.own 1124 4) :: oi :: uu 18 [], vv 6 []⟩) .n)) ⟨ol 108 :: ou :: ou :: .one (.own 1124 2) :: oi :: uu 18 [], vv 6 []⟩) ⟨uu 3 (.one (.own 1124 5) :: uu 19 []), vv 6 []⟩)) .n))))
noncomputable def fi44 : FI := mkFI Try.f44 1 [.ag [.sl 62, .sl 62, .sl 65], .ct .s] [(false, [.ct (.i .i64)])] (fun _ => (.s (.r [0, 0] none) .n))
noncomputable def fi31 : FI := mkFI Try.f31 0 [.ct (.sl 9), .ct .s] [(false, [.ct (.i .i64)])] (fun _ => (.s .n (.s (.s .n (.b (.b (.s .n (.s .n (.s (.b .n ⟨ol 9 :: os :: uu 5 (oi :: oi :: uu 10 []), []⟩) .n))) ⟨ol 9 :: os :: uu 5 (oi :: oi :: uu 10 []), []⟩) ⟨uu 19 [], []⟩)) .n)))
noncomputable def fi17 : FI := mkFI Try.f17 1 [.ct .s, .ptr] [(false, [.ct .b])] (fun _ => .n)
noncomputable def fi47 : FI := mkFI Try.f47 0 [.ct (.sl 9), .ct (.sl 9)] [(false, [.ct .b])] (fun _ => (.s .n (.s .n (.s (.s .n (.b (.b (.s .n (.s (.b .n ⟨ol 9 :: ol 9 :: uu 3 (oi :: uu 20 []), []⟩) .n)) ⟨ol 9 :: ol 9 :: uu 3 (oi :: uu 20 []), []⟩) ⟨uu 26 [], []⟩)) .n))))
noncomputable def fi48 : FI := mkFI Try.f48 0 [.ct (.sl 111), .ct (.sl 111)] [(false, [.ct .b])] (fun _ => (.s .n (.s .n (.s (.s .n (.b (.b (.s .n (.s (.b .n ⟨ol 111 :: ol 111 :: uu 3 (oi :: uu 21 []), []⟩) .n)) ⟨ol 111 :: ol 111 :: uu 3 (oi :: uu 21 []), []⟩) ⟨uu 27 [], []⟩)) .n))))
noncomputable def fi49 : FI := mkFI Try.f49 0 [.ct (.sl 117), .ct (.sl 117)] [(false, [.ct .b])] (fun _ => (.s .n (.s .n (.s (.s .n (.b (.b (.s .n (.s (.b .n ⟨ol 117 :: ol 117 :: uu 3 (oi :: uu 21 []), []⟩) .n)) ⟨ol 117 :: ol 117 :: uu 3 (oi :: uu 21 []), []⟩) ⟨uu 27 [], []⟩)) .n))))
noncomputable def fi50 : FI := mkFI Try.f50 0 [.ct (.sl 120), .ct (.sl 120)] [(false, [.ct .b])] (fun _ => (.s .n (.s .n (.s (.s .n (.b (.b (.s .n (.s (.b .n ⟨ol 120 :: ol 120 :: uu 3 (oi :: uu 21 []), []⟩) .n)) ⟨ol 120 :: ol 120 :: uu 3 (oi :: uu 21 []), []⟩) ⟨uu 27 [], []⟩)) .n))))
noncomputable def fi51 : FI := mkFI Try.f51 0 [.ct (.sl 124), .ct (.sl 124)] [(false, [.ct .b])] (fun _ => (.s .n (.s .n (.s (.s .n (.b (.b (.s .n (.s (.b .n ⟨ol 124 :: ol 124 :: uu 3 (oi :: uu 21 []), []⟩) .n)) ⟨ol 124 :: ol 124 :: uu 3 (oi :: uu 21 []), []⟩) ⟨uu 27 [], []⟩)) .n))))
noncomputable def fi52 : FI := mkFI Try.f52 1 [.ag [.s, .s, .sl 101, .s, .s, .sl 108], .ct (.i .i64)] [(false, [.ct (.i .i64)])] (fun _ => (.s (.r [0, 0] none) .n))
noncomputable def fi53 : FI := mkFI Try.f53 1 [.ag [.s, .s, .s, .s, .b, .i .i64, .s, .sl 99, .sl 9, .sl 108], .ct (.i .i64)] [(false, [.ct (.i .i64)])] (fun _ => (.s (.r [0, 0] none) .n))
noncomputable def fi54 : FI := mkFI Try.f54 1 [.ag [.s, .s, .sl 108], .ct (.i .i64)] [(false, [.ct (.i .i64)])] (fun _ => (.s (.r [0, 0] none) .n))
noncomputable def fi55 : FI := mkFI Try.f55 1 [.ag [.s, .sl 164], .ct (.i .i64)] [(false, [.ct (.i .i64)])] (fun _ => (.s (.r [0, 0] none) .n))
noncomputable def fi56 : FI := mkFI Try.f56 5 [.ag [.s, .s, .sl 101, .s, .s, .sl 108]] [(true, [.ct .s, .ct .s, .new 1117, .ct .s, .ct .s, .new 1124])] (fun _ => (.s (.r [0, 1] none) (.s (.r [2] none) (.s .n (.s .n (.s (.r [0, 0, 3, 0, 0] none) (.s .n (.s (.r [0, 0, 4, 0, 0] none) .n))))))))
noncomputable def fi57 : FI := mkFI Try.f57 6 [.ag [.s, .s, .s, .s, .b, .i .i64, .s, .sl 99, .sl 9, .sl 108]] [(true, [.ct .s, .ct .s, .ct .s, .ct .s, .ct .b, .ct (.i .i64), .ct .s, .new 1115, .new 9, .new 1124])] (fun _ => (.s (.r [0, 1] none) (.s (.r [2] none) (.s .n (.s .n (.s .n (.s .n (.s (.r [0, 0, 3, 0, 0] none) (.s (.r [0, 0, 5, 0, 0] none) .n)))))))))
noncomputable def fi58 : FI := mkFI Try.f58 4 [.ag [.s, .s, .sl 108]] [(true, [.ct .s, .ct .s, .new 1124])] (fun _ => (.s (.r [0, 1] none) (.s (.r [2] none) (.s .n (.s .n (.s (.r [0, 0, 3, 0, 0] none) .n))))))
noncomputable def fi59 : FI := mkFI Try.f59 4 [.ag [.s, .sl 164]] [(true, [.ct .s, .new 1167])] (fun _ => (.s (.r [0, 1] none) (.s (.r [2] none) (.s .n (.s (.r [0, 0, 3, 0, 0] none) .n)))))
noncomputable def fi60 : FI := mkFI Try.f60 1 [.ct (.sl 62), .ct .s] [(false, [.ct (.i .i64)])] (fun _ => (.s (.r [0, 0] none) .n))
noncomputable def fi72 : FI := mkFI Try.f72 2 [.ag [.s, .s, .sl 117, .s, .s, .sl 124], .ag [.s, .s, .sl 117, .s, .s, .sl 124]] [(false, [.ct .b])] (fun _ => (.s (.r [0, 1, 0] none) .n))
noncomputable def fi73 : FI := mkFI Try.f73 2 [.ag [.s, .s, .s, .s, .b, .i .i64, .s, .sl 115, .sl 9, .sl 124], .ag [.s, .s, .s, .s, .b, .i .i64, .s, .sl 115, .sl 9, .sl 124]] [(false, [.ct .b])] (fun _ => (.s (.r [0, 1, 0] none) .n))
noncomputable def fi74 : FI := mkFI Try.f74 2 [.ag [.s, .s, .sl 124], .ag [.s, .s, .sl 124]] [(false, [.ct .b])] (fun _ => (.s (.r [0, 1, 0] none) .n))
noncomputable def fi75 : FI := mkFI Try.f75 2 [.ag [.s, .sl 167], .ag [.s, .sl 167]] [(false, [.ct .b])] (fun _ => (.s (.r [0, 1, 0] none) .n))
noncomputable def fi76 : FI := mkFI Try.f76 1 [.ag [.s, .s], .ct (.i .i64)] [(false, [.ct (.i .i64)])] (fun _ => (.s (.r [0, 0] none) .n))
noncomputable def fi77 : FI := mkFI Try.f77 1 [.ag [.i .i64, .s, .sl 99, .sl 9], .ct (.i .i64)] [(false, [.ct (.i .i64)])] (fun _ => (.s (.r [0, 0] none) .n))
noncomputable def fi78 : FI := mkFI Try.f78 0 [.ct (.sl 164), .ct (.i .i64)] [(false, [.ct (.i .i64)])] (fun _ => (.s .n (.s .n (.s .n (.s (.s .n (.b (.b (.s .n (.s (.b .n ⟨ol 164 :: oi :: uu 3 (oi :: uu 21 []), []⟩) .n)) ⟨ol 164 :: oi :: uu 3 (oi :: uu 21 []), []⟩) ⟨ou :: oi :: uu 25 [], []⟩)) .n)))))
noncomputable def fi79 : FI := mkFI Try.f79 3 [.ag [.s, .s]] [(true, [.ct .s, .ct .s])] (fun _ => (.s (.r [0, 1] none) (.s (.r [2] none) .n)))
noncomputable def fi80 : FI := mkFI Try.f80 5 [.ag [.i .i64, .s, .sl 99, .sl 9]] [(true, [.ct (.i .i64), .ct .s, .new 1115, .new 9])] (fun _ => (.s (.r [0, 1] none) (.s (.r [2] none) (.s .n (.s .n (.s (.r [0, 0, 3, 0, 0] none) (.s (.r [0, 0, 4, 0, 0] none) .n)))))))
noncomputable def fi81 : FI := mkFI Try.f81 7 [.ct (.sl 164)] [(false, [.new 1167])] (fun _ => (.s .n (.s (.r [0, 0, 1, 0] none) (.s (.s .n (.b (.b (.s .n (.s (.b (.r [0, 0, 0, 0, 0, 0, 3, 0, 0] none) ⟨ol 164 :: ou :: ou :: .one (.own 1167 5) :: oi :: uu 18 [], vv 7 []⟩) .n)) ⟨ol 164 :: ou :: ou :: .one (.own 1167 2) :: oi :: uu 18 [], vv 7 []⟩) ⟨uu 3 (.one (.own 1167 6) :: uu 19 []), vv 7 []⟩)) .n))))
noncomputable def fi82 : FI := mkFI Try.f82 1 [.ct (.sl 62), .fn] [(false, [.ct (.i .i64)])] (fun _ => (.s .n (.s (.s .n (.b (.b (.s .n (.s .n (.s (.b .n ⟨ol 62 :: .one (.fn 83 [0]) :: uu 5 (oi :: oi :: uu 10 []), .var 9 [.s] :: []⟩) .n))) ⟨ol 62 :: .one (.fn 83 [0]) :: uu 5 (oi :: oi :: uu 10 []), .var 9 [.s] :: []⟩) ⟨uu 19 [], .var 9 [.s] :: []⟩)) .n)))
noncomputable def fi90 : FI := mkFI Try.f90 2 [.ag [.s, .s], .ag [.s, .s]] [(false, [.ct .b])] (fun _ => (.s (.r [0, 1, 0] none) .n))
noncomputable def fi91 : FI := mkFI Try.f91 2 [.ag [.i .i64, .s, .sl 115, .sl 9], .ag [.i .i64, .s, .sl 115, .sl 9]] [(false, [.ct .b])] (fun _ => (.s (.r [0, 1, 0] none) .n))
noncomputable def fi92 : FI := mkFI Try.f92 0 [.ct (.sl 167), .ct (.sl 167)] [(false, [.ct .b])] (fun _ => (.s .n (.s .n (.s (.s .n (.b (.b (.s .n (.s (.b .n ⟨ol 167 :: ol 167 :: uu 3 (oi :: uu 21 []), []⟩) .n)) ⟨ol 167 :: ol 167 :: uu 3 (oi :: uu 21 []), []⟩) ⟨uu 27 [], []⟩)) .n))))
noncomputable def fi93 : FI := mkFI Try.f93 0 [.ct (.sl 99), .ct (.i .i64)] [(false, [.ct (.i .i64)])] (fun _ => (.s .n (.s .n (.s .n (.s (.s .n (.b (.b (.s .n (.s (.b .n ⟨ol 99 :: oi :: uu 3 (oi :: uu 21 []), []⟩) .n)) ⟨ol 99 :: oi :: uu 3 (oi :: uu 21 []), []⟩) ⟨ou :: oi :: uu 25 [], []⟩)) .n)))))
noncomputable def fi94 : FI := mkFI Try.f94 1 [.ag [.s, .i .i64, .s, .sl 99, .sl 9], .ct (.i .i64)] [(false, [.ct (.i .i64)])] (fun _ => (.s (.r [0, 0] none) .n))
noncomputable def fi95 : FI := mkFI Try.f95 7 [.ct (.sl 99)] [(false, [.new 1115])] (fun _ => (.s .n (.s (.r [0, 0, 1, 0] none) (.s (.s .n (.b (.b (.s .n (.s (.b (.r [0, 0, 0, 0, 0, 0, 3, 0, 0] none) ⟨ol 99 :: ou :: ou :: .one (.own 1115 5) :: oi :: uu 18 [], vv 7 []⟩) .n)) ⟨ol 99 :: ou :: ou :: .one (.own 1115 2) :: oi :: uu 18 [], vv 7 []⟩) ⟨uu 3 (.one (.own 1115 6) :: uu 19 []), vv 7 []⟩)) .n))))
noncomputable def fi96 : FI := mkFI Try.f96 5 [.ag [.s, .i .i64, .s, .sl 99, .sl 9]] [(true, [.ct .s, .ct (.i .i64), .ct .s, .new 1115, .new 9])] (fun _ => (.s (.r [0, 1] none) (.s (.r [2] none) (.s .n (.s (.r [0, 0, 3, 0, 0] none) .n)))))
noncomputable def fi83 : FI := mkFI Try.f83 2 [.ag [.i .i64, .b, .s, .s, .sl 9, .sl 111, .sl 117, .sl 120, .sl 65, .b, .sl 124], .ptr] [(false, [.ct .b])] (fun _ => (.s (.r [1, 0] none) .n))
noncomputable def fi98 : FI := mkFI Try.f98 0 [.ct (.sl 115), .ct (.sl 115)] [(false, [.ct .b])] (fun _ => (.s .n (.s .n (.s (.s .n (.b (.b (.s .n (.s (.b .n ⟨ol 115 :: ol 115 :: uu 3 (oi :: uu 21 []), []⟩) .n)) ⟨ol 115 :: ol 115 :: uu 3 (oi :: uu 21 []), []⟩) ⟨uu 27 [], []⟩)) .n))))
noncomputable def fi99 : FI := mkFI Try.f99 2 [.ag [.s, .i .i64, .s, .sl 115, .sl 9], .ag [.s, .i .i64, .s, .sl 115, .sl 9]] [(false, [.ct .b])] (fun _ => (.s (.r [0, 1, 0] none) .n))
noncomputable def fi28 : FI := { mkFI Try.f28 0 [] [] (fun _ => .n) with stf := some (qSort 9) }
noncomputable def fi29 : FI := { mkFI Try.f29 0 [] [] (fun _ => .n) with stf := some (qCompact 9) }
noncomputable def fnL : List (Nat × FI) := [(3, fi3), (4, fi4), (6, fi6), (5, fi5), (7, fi7), (8, fi8), (9, fi9), (10, fi10), (13, fi13), (14, fi14), (11, fi11), (12, fi12), (15, fi15), (16, fi16), (19, fi19), (20, fi20), (21, fi21), (22, fi22), (25, fi25), (26, fi26), (23, fi23), (24, fi24), (27, fi27), (18, fi18), (30, fi30), (32, fi32), (33, fi33), (34, fi34), (35, fi35), (36, fi36), (37, fi37), (38, fi38), (39, fi39), (40, fi40), (41, fi41), (42, fi42), (43, fi43), (44, fi44), (31, fi31), (17, fi17), (47, fi47), (48, fi48), (49, fi49), (50, fi50), (51, fi51), (52, fi52), (53, fi53), (54, fi54), (55, fi55), (56, fi56), (57, fi57), (58, fi58), (59, fi59), (60, fi60), (72, fi72), (73, fi73), (74, fi74), (75, fi75), (76, fi76), (77, fi77), (78, fi78), (79, fi79), (80, fi80), (81, fi81), (82, fi82), (90, fi90), (91, fi91), (92, fi92), (93, fi93), (94, fi94), (95, fi95), (96, fi96), (83, fi83), (98, fi98), (99, fi99), (28, fi28), (29, fi29)]
noncomputable def cfg : Cfg := ⟨fun t => look t tyL, fun f => look f fnL⟩
theorem tys : tyB Try.prog tyL = true := by kernel_rfl
theorem fns : ∀ x ∈ fnL, FnOk Try.prog Glob.none cfg.ty x.1 x.2 :=
  all_cons (mkFI_ok Try.func3 (by kernel_rfl)) <|
  all_cons (mkFI_ok Try.func4 (by kernel_rfl)) <|
  all_cons (mkFI_ok Try.func6 (by kernel_rfl)) <|
  all_cons (mkFI_ok Try.func5 (by kernel_rfl)) <|
  all_cons (mkFI_ok Try.func7 (by kernel_rfl)) <|
  all_cons (mkFI_ok Try.func8 (by kernel_rfl)) <|
  all_cons (mkFI_ok Try.func9 (by kernel_rfl)) <|
  all_cons (mkFI_ok Try.func10 (by kernel_rfl)) <|
  all_cons (mkFI_ok Try.func13 (by kernel_rfl)) <|
  all_cons (mkFI_ok Try.func14 (by kernel_rfl)) <|
  all_cons (mkFI_ok Try.func11 (by kernel_rfl)) <|
  all_cons (mkFI_ok Try.func12 (by kernel_rfl)) <|
  all_cons (mkFI_ok Try.func15 (by kernel_rfl)) <|
  all_cons (mkFI_ok Try.func16 (by kernel_rfl)) <|
  all_cons (mkFI_ok Try.func19 (by kernel_rfl)) <|
  all_cons (mkFI_ok Try.func20 (by kernel_rfl)) <|
  all_cons (mkFI_ok Try.func21 (by kernel_rfl)) <|
  all_cons (mkFI_ok Try.func22 (by kernel_rfl)) <|
  all_cons (mkFI_ok Try.func25 (by kernel_rfl)) <|
  all_cons (mkFI_ok Try.func26 (by kernel_rfl)) <|
  all_cons (mkFI_ok Try.func23 (by kernel_rfl)) <|
  all_cons (mkFI_ok Try.func24 (by kernel_rfl)) <|
  all_cons (mkFI_ok Try.func27 (by kernel_rfl)) <|
  all_cons (mkFI_ok Try.func18 (by kernel_rfl)) <|
  all_cons (mkFI_ok Try.func30 (by kernel_rfl)) <|
  all_cons (mkFI_ok Try.func32 (by kernel_rfl)) <|
  all_cons (mkFI_ok Try.func33 (by kernel_rfl)) <|
  all_cons (mkFI_ok Try.func34 (by kernel_rfl)) <|
  all_cons (mkFI_ok Try.func35 (by kernel_rfl)) <|
  all_cons (mkFI_ok Try.func36 (by kernel_rfl)) <|
  all_cons (mkFI_ok Try.func37 (by kernel_rfl)) <|
  all_cons (mkFI_ok Try.func38 (by kernel_rfl)) <|
  all_cons (mkFI_ok Try.func39 (by kernel_rfl)) <|
  all_cons (mkFI_ok Try.func40 (by kernel_rfl)) <|
  all_cons (mkFI_ok Try.func41 (by kernel_rfl)) <|
  all_cons (mkFI_ok Try.func42 (by kernel_rfl)) <|
  all_cons (mkFI_ok Try.func43 (by kernel_rfl)) <|
  all_cons (mkFI_ok Try.func44 (by kernel_rfl)) <|
  all_cons (mkFI_ok Try.func31 (by kernel_rfl)) <|
  all_cons (mkFI_ok Try.func17 (by kernel_rfl)) <|
  all_cons (mkFI_ok Try.func47 (by kernel_rfl)) <|
  all_cons (mkFI_ok Try.func48 (by kernel_rfl)) <|
  all_cons (mkFI_ok Try.func49 (by kernel_rfl)) <|
  all_cons (mkFI_ok Try.func50 (by kernel_rfl)) <|
  all_cons (mkFI_ok Try.func51 (by kernel_rfl)) <|
  all_cons (mkFI_ok Try.func52 (by kernel_rfl)) <|
  all_cons (mkFI_ok Try.func53 (by kernel_rfl)) <|
  all_cons (mkFI_ok Try.func54 (by kernel_rfl)) <|
  all_cons (mkFI_ok Try.func55 (by kernel_rfl)) <|
  all_cons (mkFI_ok Try.func56 (by kernel_rfl)) <|
  all_cons (mkFI_ok Try.func57 (by kernel_rfl)) <|
  all_cons (mkFI_ok Try.func58 (by kernel_rfl)) <|
  all_cons (mkFI_ok Try.func59 (by kernel_rfl)) <|
  all_cons (mkFI_ok Try.func60 (by kernel_rfl)) <|
  all_cons (mkFI_ok Try.func72 (by kernel_rfl)) <|
  all_cons (mkFI_ok Try.func73 (by kernel_rfl)) <|
  all_cons (mkFI_ok Try.func74 (by kernel_rfl)) <|
  all_cons (mkFI_ok Try.func75 (by kernel_rfl)) <|
  all_cons (mkFI_ok Try.func76 (by kernel_rfl)) <|
  all_cons (mkFI_ok Try.func77 (by kernel_rfl)) <|
  all_cons (mkFI_ok Try.func78 (by kernel_rfl)) <|
  all_cons (mkFI_ok Try.func79 (by kernel_rfl)) <|
  all_cons (mkFI_ok Try.func80 (by kernel_rfl)) <|
  all_cons (mkFI_ok Try.func81 (by kernel_rfl)) <|
  all_cons (mkFI_ok Try.func82 (by kernel_rfl)) <|
  all_cons (mkFI_ok Try.func90 (by kernel_rfl)) <|
  all_cons (mkFI_ok Try.func91 (by kernel_rfl)) <|
  all_cons (mkFI_ok Try.func92 (by kernel_rfl)) <|
  all_cons (mkFI_ok Try.func93 (by kernel_rfl)) <|
  all_cons (mkFI_ok Try.func94 (by kernel_rfl)) <|
  all_cons (mkFI_ok Try.func95 (by kernel_rfl)) <|
  all_cons (mkFI_ok Try.func96 (by kernel_rfl)) <|
  all_cons (mkFI_ok Try.func83 (by kernel_rfl)) <|
  all_cons (mkFI_ok Try.func98 (by kernel_rfl)) <|
  all_cons (mkFI_ok Try.func99 (by kernel_rfl)) <|
  all_cons (stf_fn (mkFI_ok Try.func28 (by kernel_rfl)) (stSort (e := 9) rfl fun te h => by injection (show look 9 tyL = some te from h) with h; subst h; rfl)) <|
  all_cons (stf_fn (mkFI_ok Try.func29 (by kernel_rfl)) (stCompact (e := 9) rfl fun te h => by injection (show look 9 tyL = some te from h) with h; subst h; rfl)) <| all_nil
noncomputable def r_laws_FnExactOverlap (a : List DC) : Out := Run cfg 3 ⟨.agg [.sl 52, .sl 52, .sl 55] :: os :: os :: [], []⟩ a
noncomputable def r_laws_szSchema (a : List DC) : Out := Run cfg 4 ⟨.agg [.sl 52, .sl 52, .sl 55] :: oi :: [], []⟩ a
noncomputable def r_laws_toSchema (a : List DC) : Out := Run cfg 6 ⟨.agg [.sl 52, .sl 52, .sl 55] :: [], []⟩ a
noncomputable def r_spec_Overlap (a : List DC) : Out := Run cfg 5 ⟨.agg [.sl 62, .sl 62, .sl 65] :: os :: os :: [], []⟩ a
noncomputable def r_impl_Overlap (a : List DC) : Out := Run cfg 7 ⟨.agg [.sl 62, .sl 62, .sl 65] :: os :: os :: [], []⟩ a
noncomputable def r_laws_eqSchema (a : List DC) : Out := Run cfg 8 ⟨.agg [.sl 62, .sl 62, .sl 65] :: .agg [.sl 62, .sl 62, .sl 65] :: [], []⟩ a
noncomputable def r_laws_szDefS (a : List DC) : Out := Run cfg 9 ⟨ol 52 :: oi :: [], []⟩ a
noncomputable def r_laws_szRootS (a : List DC) : Out := Run cfg 10 ⟨ol 55 :: oi :: [], []⟩ a
noncomputable def r_laws_toDefS (a : List DC) : Out := Run cfg 13 ⟨ol 52 :: [], []⟩ a
noncomputable def r_laws_toRootS (a : List DC) : Out := Run cfg 14 ⟨ol 55 :: [], []⟩ a
noncomputable def r_spec_PossibleOf (a : List DC) : Out := Run cfg 11 ⟨.agg [.sl 62, .sl 62, .sl 65] :: os :: [], []⟩ a
noncomputable def r_spec_l18Has (a : List DC) : Out := Run cfg 12 ⟨ol 9 :: os :: [], []⟩ a
noncomputable def r_impl_PossibleOf (a : List DC) : Out := Run cfg 15 ⟨.agg [.sl 62, .sl 62, .sl 65] :: os :: [], []⟩ a
noncomputable def r_slices_ContainsFunc_string__impl_Overlap_1 (a : List DC) : Out := Run cfg 16 ⟨ol 9 :: .one (.fn 17 [0]) :: [], .var 37 [.sl 9] :: []⟩ a
noncomputable def r_laws_eqDefS (a : List DC) : Out := Run cfg 19 ⟨ol 62 :: ol 62 :: [], []⟩ a
noncomputable def r_laws_eqRootS (a : List DC) : Out := Run cfg 20 ⟨ol 65 :: ol 65 :: [], []⟩ a
noncomputable def r_laws_szDef (a : List DC) : Out := Run cfg 21 ⟨.agg [.i .i64, .b, .s, .s, .sl 9, .sl 95, .sl 101, .sl 104, .sl 55, .b, .sl 108] :: oi :: [], []⟩ a
noncomputable def r_laws_szRoot (a : List DC) : Out := Run cfg 22 ⟨.agg [.i .i64, .s] :: oi :: [], []⟩ a
noncomputable def r_laws_toDef (a : List DC) : Out := Run cfg 25 ⟨.agg [.i .i64, .b, .s, .s, .sl 9, .sl 95, .sl 101, .sl 104, .sl 55, .b, .sl 108] :: [], []⟩ a
noncomputable def r_laws_toRoot (a : List DC) : Out := Run cfg 26 ⟨.agg [.i .i64, .s] :: [], []⟩ a
noncomputable def r_spec_TypeAt (a : List DC) : Out := Run cfg 23 ⟨.agg [.sl 62, .sl 62, .sl 65] :: os :: [], []⟩ a
noncomputable def r_spec_l18Sorted (a : List DC) : Out := Run cfg 24 ⟨ol 9 :: [], []⟩ a
noncomputable def r_impl_typeDef (a : List DC) : Out := Run cfg 27 ⟨.agg [.sl 62, .sl 62, .sl 65] :: os :: [], []⟩ a
noncomputable def r_slices_Contains_string (a : List DC) : Out := Run cfg 18 ⟨ol 9 :: os :: [], []⟩ a
noncomputable def r_slices_IndexFunc_string__impl_Overlap_1 (a : List DC) : Out := Run cfg 30 ⟨ol 9 :: .one (.fn 17 [0]) :: [], .var 37 [.sl 9] :: []⟩ a
noncomputable def r_laws_eqDef (a : List DC) : Out := Run cfg 32 ⟨.agg [.i .i64, .b, .s, .s, .sl 9, .sl 111, .sl 117, .sl 120, .sl 65, .b, .sl 124] :: .agg [.i .i64, .b, .s, .s, .sl 9, .sl 111, .sl 117, .sl 120, .sl 65, .b, .sl 124] :: [], []⟩ a
noncomputable def r_laws_eqRoot (a : List DC) : Out := Run cfg 33 ⟨.agg [.i .i64, .s] :: .agg [.i .i64, .s] :: [], []⟩ a
noncomputable def r_laws_szStringS (a : List DC) : Out := Run cfg 34 ⟨ol 9 :: oi :: [], []⟩ a
noncomputable def r_laws_szFieldDefS (a : List DC) : Out := Run cfg 35 ⟨ol 95 :: oi :: [], []⟩ a
noncomputable def r_laws_szInDefS (a : List DC) : Out := Run cfg 36 ⟨ol 101 :: oi :: [], []⟩ a
noncomputable def r_laws_szEnumDefS (a : List DC) : Out := Run cfg 37 ⟨ol 104 :: oi :: [], []⟩ a
noncomputable def r_laws_szDirS (a : List DC) : Out := Run cfg 38 ⟨ol 108 :: oi :: [], []⟩ a
noncomputable def r_laws_toStringS (a : List DC) : Out := Run cfg 39 ⟨ol 9 :: [], []⟩ a
noncomputable def r_laws_toFieldDefS (a : List DC) : Out := Run cfg 40 ⟨ol 95 :: [], []⟩ a
noncomputable def r_laws_toInDefS (a : List DC) : Out := Run cfg 41 ⟨ol 101 :: [], []⟩ a
noncomputable def r_laws_toEnumDefS (a : List DC) : Out := Run cfg 42 ⟨ol 104 :: [], []⟩ a
noncomputable def r_laws_toDirS (a : List DC) : Out := Run cfg 43 ⟨ol 108 :: [], []⟩ a
noncomputable def r_impl_TypeAt (a : List DC) : Out := Run cfg 44 ⟨.agg [.sl 62, .sl 62, .sl 65] :: os :: [], []⟩ a
noncomputable def r_slices_Index_string (a : List DC) : Out := Run cfg 31 ⟨ol 9 :: os :: [], []⟩ a
noncomputable def r_impl_Overlap_1 (a : List DC) : Out := Run cfg 17 ⟨os :: .one (.ptr 0 0) :: [], .var 37 [.sl 9] :: []⟩ a
noncomputable def r_laws_eqStringS (a : List DC) : Out := Run cfg 47 ⟨ol 9 :: ol 9 :: [], []⟩ a
noncomputable def r_laws_eqFieldDefS (a : List DC) : Out := Run cfg 48 ⟨ol 111 :: ol 111 :: [], []⟩ a
noncomputable def r_laws_eqInDefS (a : List DC) : Out := Run cfg 49 ⟨ol 117 :: ol 117 :: [], []⟩ a
noncomputable def r_laws_eqEnumDefS (a : List DC) : Out := Run cfg 50 ⟨ol 120 :: ol 120 :: [], []⟩ a
noncomputable def r_laws_eqDirS (a : List DC) : Out := Run cfg 51 ⟨ol 124 :: ol 124 :: [], []⟩ a
noncomputable def r_laws_szFieldDef (a : List DC) : Out := Run cfg 52 ⟨.agg [.s, .s, .sl 101, .s, .s, .sl 108] :: oi :: [], []⟩ a
noncomputable def r_laws_szInDef (a : List DC) : Out := Run cfg 53 ⟨.agg [.s, .s, .s, .s, .b, .i .i64, .s, .sl 99, .sl 9, .sl 108] :: oi :: [], []⟩ a
noncomputable def r_laws_szEnumDef (a : List DC) : Out := Run cfg 54 ⟨.agg [.s, .s, .sl 108] :: oi :: [], []⟩ a
noncomputable def r_laws_szDir (a : List DC) : Out := Run cfg 55 ⟨.agg [.s, .sl 164] :: oi :: [], []⟩ a
noncomputable def r_laws_toFieldDef (a : List DC) : Out := Run cfg 56 ⟨.agg [.s, .s, .sl 101, .s, .s, .sl 108] :: [], []⟩ a
noncomputable def r_laws_toInDef (a : List DC) : Out := Run cfg 57 ⟨.agg [.s, .s, .s, .s, .b, .i .i64, .s, .sl 99, .sl 9, .sl 108] :: [], []⟩ a
noncomputable def r_laws_toEnumDef (a : List DC) : Out := Run cfg 58 ⟨.agg [.s, .s, .sl 108] :: [], []⟩ a
noncomputable def r_laws_toDir (a : List DC) : Out := Run cfg 59 ⟨.agg [.s, .sl 164] :: [], []⟩ a
noncomputable def r_impl_named (a : List DC) : Out := Run cfg 60 ⟨ol 62 :: os :: [], []⟩ a
noncomputable def r_laws_eqFieldDef (a : List DC) : Out := Run cfg 72 ⟨.agg [.s, .s, .sl 117, .s, .s, .sl 124] :: .agg [.s, .s, .sl 117, .s, .s, .sl 124] :: [], []⟩ a
noncomputable def r_laws_eqInDef (a : List DC) : Out := Run cfg 73 ⟨.agg [.s, .s, .s, .s, .b, .i .i64, .s, .sl 115, .sl 9, .sl 124] :: .agg [.s, .s, .s, .s, .b, .i .i64, .s, .sl 115, .sl 9, .sl 124] :: [], []⟩ a
noncomputable def r_laws_eqEnumDef (a : List DC) : Out := Run cfg 74 ⟨.agg [.s, .s, .sl 124] :: .agg [.s, .s, .sl 124] :: [], []⟩ a
noncomputable def r_laws_eqDir (a : List DC) : Out := Run cfg 75 ⟨.agg [.s, .sl 167] :: .agg [.s, .sl 167] :: [], []⟩ a
noncomputable def r_laws_szType (a : List DC) : Out := Run cfg 76 ⟨.agg [.s, .s] :: oi :: [], []⟩ a
noncomputable def r_laws_szValue (a : List DC) : Out := Run cfg 77 ⟨.agg [.i .i64, .s, .sl 99, .sl 9] :: oi :: [], []⟩ a
noncomputable def r_laws_szArgS (a : List DC) : Out := Run cfg 78 ⟨ol 164 :: oi :: [], []⟩ a
noncomputable def r_laws_toType (a : List DC) : Out := Run cfg 79 ⟨.agg [.s, .s] :: [], []⟩ a
noncomputable def r_laws_toValue (a : List DC) : Out := Run cfg 80 ⟨.agg [.i .i64, .s, .sl 99, .sl 9] :: [], []⟩ a
noncomputable def r_laws_toArgS (a : List DC) : Out := Run cfg 81 ⟨ol 164 :: [], []⟩ a
noncomputable def r_slices_IndexFunc_impl_Def__impl_named_1 (a : List DC) : Out := Run cfg 82 ⟨ol 62 :: .one (.fn 83 [0]) :: [], .var 9 [.s] :: []⟩ a
noncomputable def r_laws_eqType (a : List DC) : Out := Run cfg 90 ⟨.agg [.s, .s] :: .agg [.s, .s] :: [], []⟩ a
noncomputable def r_laws_eqValue (a : List DC) : Out := Run cfg 91 ⟨.agg [.i .i64, .s, .sl 115, .sl 9] :: .agg [.i .i64, .s, .sl 115, .sl 9] :: [], []⟩ a
noncomputable def r_laws_eqArgS (a : List DC) : Out := Run cfg 92 ⟨ol 167 :: ol 167 :: [], []⟩ a
noncomputable def r_laws_szValueS (a : List DC) : Out := Run cfg 93 ⟨ol 99 :: oi :: [], []⟩ a
noncomputable def r_laws_szArg (a : List DC) : Out := Run cfg 94 ⟨.agg [.s, .i .i64, .s, .sl 99, .sl 9] :: oi :: [], []⟩ a
noncomputable def r_laws_toValueS (a : List DC) : Out := Run cfg 95 ⟨ol 99 :: [], []⟩ a
noncomputable def r_laws_toArg (a : List DC) : Out := Run cfg 96 ⟨.agg [.s, .i .i64, .s, .sl 99, .sl 9] :: [], []⟩ a
noncomputable def r_impl_named_1 (a : List DC) : Out := Run cfg 83 ⟨.agg [.i .i64, .b, .s, .s, .sl 9, .sl 111, .sl 117, .sl 120, .sl 65, .b, .sl 124] :: .one (.ptr 0 0) :: [], .var 9 [.s] :: []⟩ a
noncomputable def r_laws_eqValueS (a : List DC) : Out := Run cfg 98 ⟨ol 115 :: ol 115 :: [], []⟩ a
noncomputable def r_laws_eqArg (a : List DC) : Out := Run cfg 99 ⟨.agg [.s, .i .i64, .s, .sl 115, .sl 9] :: .agg [.s, .i .i64, .s, .sl 115, .sl 9] :: [], []⟩ a
noncomputable def E_laws_FnExactOverlap (a : List DC) : Out :=
 if (decide ((((a.getD 3 d0).ss).length : Int) > (1048576 : Int))) = true then
 .ret [.b true]
 else
 if (decide ((((a.getD 4 d0).ss).length : Int) > (1048576 : Int))) = true then
 .ret [.b true]
 else
 (r_laws_szSchema [.sl ((a.getD 0 d0).ll), .sl ((a.getD 1 d0).ll), .sl ((a.getD 2 d0).ll), .i (1048576 : Int)]).bindR fun r1 =>
 if (decide ((r1.getD 0 d0).ii < (0 : Int))) = true then
 .ret [.b true]
 else
 (r_laws_toSchema [.sl ((a.getD 0 d0).ll), .sl ((a.getD 1 d0).ll), .sl ((a.getD 2 d0).ll)]).bindR fun r2 =>
 (r_spec_Overlap [.sl ((r2.getD 0 d0).ll), .sl ((r2.getD 1 d0).ll), .sl ((r2.getD 2 d0).ll), .s ((a.getD 3 d0).ss), .s ((a.getD 4 d0).ss)]).bindR fun r3 =>
 (r_laws_toSchema [.sl ((a.getD 0 d0).ll), .sl ((a.getD 1 d0).ll), .sl ((a.getD 2 d0).ll)]).bindR fun r4 =>
 (r_impl_Overlap [.sl ((r4.getD 0 d0).ll), .sl ((r4.getD 1 d0).ll), .sl ((r4.getD 2 d0).ll), .s ((a.getD 3 d0).ss), .s ((a.getD 4 d0).ss)]).bindR fun r5 =>
 if (!((r5.getD 0 d0).bb == (r3.getD 0 d0).bb)) = true then
 .ret [.b false]
 else
 (r_laws_toSchema [.sl ((a.getD 0 d0).ll), .sl ((a.getD 1 d0).ll), .sl ((a.getD 2 d0).ll)]).bindR fun r6 =>
 (r_laws_eqSchema [.sl ((r4.getD 0 d0).ll), .sl ((r4.getD 1 d0).ll), .sl ((r4.getD 2 d0).ll), .sl ((r6.getD 0 d0).ll), .sl ((r6.getD 1 d0).ll), .sl ((r6.getD 2 d0).ll)]).bindR fun r7 =>
 if (!((r7.getD 0 d0).bb)) = true then
 .ret [.b false]
 else
 .ret [.b true]
theorem eq_laws_FnExactOverlap a : r_laws_FnExactOverlap a = E_laws_FnExactOverlap a := (Run_eq cfg 3 _ a).trans (by kernel_rfl)
noncomputable def E_laws_szSchema (a : List DC) : Out :=
 (r_laws_szDefS [.sl ((a.getD 0 d0).ll), .i ((a.getD 3 d0).ii)]).bindR fun r1 =>
 if (decide ((r1.getD 0 d0).ii < (0 : Int))) = true then
 .ret [.i (-1 : Int)]
 else
 (r_laws_szDefS [.sl ((a.getD 1 d0).ll), .i ((r1.getD 0 d0).ii)]).bindR fun r2 =>
 if (decide ((r2.getD 0 d0).ii < (0 : Int))) = true then
 .ret [.i (-1 : Int)]
 else
 (r_laws_szRootS [.sl ((a.getD 2 d0).ll), .i ((r2.getD 0 d0).ii)]).bindR fun r3 =>
 if (decide ((r3.getD 0 d0).ii < (0 : Int))) = true then
 .ret [.i (-1 : Int)]
 else
 .ret [.i ((r3.getD 0 d0).ii)]
theorem eq_laws_szSchema a : r_laws_szSchema a = E_laws_szSchema a := (Run_eq cfg 4 _ a).trans (by kernel_rfl)
noncomputable def E_laws_toSchema (a : List DC) : Out :=
 (r_laws_toDefS [.sl ((a.getD 0 d0).ll)]).bindR fun r1 =>
 (r_laws_toDefS [.sl ((a.getD 1 d0).ll)]).bindR fun r2 =>
 (r_laws_toRootS [.sl ((a.getD 2 d0).ll)]).bindR fun r3 =>
 .ret [.sl ((r1.getD 0 d0).ll), .sl ((r2.getD 0 d0).ll), .sl ((r3.getD 0 d0).ll)]
theorem eq_laws_toSchema a : r_laws_toSchema a = E_laws_toSchema a := (Run_eq cfg 6 _ a).trans (by kernel_rfl)
noncomputable def E_spec_OverlapL1 : List DC → Out := fun v3 =>
 if (decide ((v3.getD 2 d0).ii < (((v3.getD 0 d0).ll).length : Int))) = true then
 Out.andThenB (if 9 = 9 ∧ 0 ≤ (v3.getD 2 d0).ii ∧ (v3.getD 2 d0).ii < (((v3.getD 0 d0).ll).length : Int) then
 (r_spec_l18Has [.sl ((v3.getD 1 d0).ll), .s (((((v3.getD 0 d0).ll).getD ((v3.getD 2 d0).ii).toNat []).getD 0 d0).ss)]).bindR fun r4 =>
 if (r4.getD 0 d0).bb = true then
 .ret [.b true]
 else
 .norm [.sl ((v3.getD 0 d0).ll), .sl ((v3.getD 1 d0).ll), .i ((v3.getD 2 d0).ii)]
 else
 .fail) 1 fun v5 =>
 .norm [.sl ((v5.getD 0 d0).ll), .sl ((v5.getD 1 d0).ll), .i (IntKind.i64.wrap ((v5.getD 2 d0).ii + (1 : Int)))]
 else
 .ex 0 []
noncomputable def E_spec_Overlap (a : List DC) : Out :=
 (r_spec_PossibleOf [.sl ((a.getD 0 d0).ll), .sl ((a.getD 1 d0).ll), .sl ((a.getD 2 d0).ll), .s ((a.getD 3 d0).ss)]).bindR fun r1 =>
 (r_spec_PossibleOf [.sl ((a.getD 0 d0).ll), .sl ((a.getD 1 d0).ll), .sl ((a.getD 2 d0).ll), .s ((a.getD 4 d0).ss)]).bindR fun r2 =>
 Out.andThenB (Loop E_spec_OverlapL1 [.sl ((r1.getD 0 d0).ll), .sl ((r2.getD 0 d0).ll), .i (0 : Int)]) 0 fun v6 =>
 .ret [.b false]
theorem eq_spec_Overlap a : r_spec_Overlap a = E_spec_Overlap a := (Run_eq cfg 5 _ a).trans (by kernel_rfl)
noncomputable def E_impl_Overlap (a : List DC) : Out :=
 (r_impl_PossibleOf [.sl ((a.getD 0 d0).ll), .sl ((a.getD 1 d0).ll), .sl ((a.getD 2 d0).ll), .s ((a.getD 4 d0).ss)]).bindR fun r1 =>
 (r_impl_PossibleOf [.sl ((a.getD 0 d0).ll), .sl ((a.getD 1 d0).ll), .sl ((a.getD 2 d0).ll), .s ((a.getD 3 d0).ss)]).bindR fun r2 =>
 (r_slices_ContainsFunc_string__impl_Overlap_1 [.sl ((r2.getD 0 d0).ll), .sl ((r1.getD 0 d0).ll)]).bindR fun r3 =>
 .ret [.b ((r3.getD 0 d0).bb)]
theorem eq_impl_Overlap a : r_impl_Overlap a = E_impl_Overlap a := (Run_eq cfg 7 _ a).trans (by kernel_rfl)
noncomputable def E_laws_eqSchema (a : List DC) : Out :=
 (r_laws_eqDefS [.sl ((a.getD 0 d0).ll), .sl ((a.getD 3 d0).ll)]).bindR fun r1 =>
 if (!((r1.getD 0 d0).bb)) = true then
 .ret [.b false]
 else
 (r_laws_eqDefS [.sl ((a.getD 1 d0).ll), .sl ((a.getD 4 d0).ll)]).bindR fun r2 =>
 if (!((r2.getD 0 d0).bb)) = true then
 .ret [.b false]
 else
 (r_laws_eqRootS [.sl ((a.getD 2 d0).ll), .sl ((a.getD 5 d0).ll)]).bindR fun r3 =>
 if (!((r3.getD 0 d0).bb)) = true then
 .ret [.b false]
 else
 .ret [.b true]
theorem eq_laws_eqSchema a : r_laws_eqSchema a = E_laws_eqSchema a := (Run_eq cfg 8 _ a).trans (by kernel_rfl)
noncomputable def E_laws_szDefSL1 : List DC → Out := fun v1 =>
 if (decide ((v1.getD 2 d0).ii < (((v1.getD 0 d0).ll).length : Int))) = true then
 Out.andThenB (if 52 = 52 ∧ 0 ≤ (v1.getD 2 d0).ii ∧ (v1.getD 2 d0).ii < (((v1.getD 0 d0).ll).length : Int) then
 (r_laws_szDef [.i (((((v1.getD 0 d0).ll).getD ((v1.getD 2 d0).ii).toNat []).getD 0 d0).ii), .b (((((v1.getD 0 d0).ll).getD ((v1.getD 2 d0).ii).toNat []).getD 1 d0).bb), .s (((((v1.getD 0 d0).ll).getD ((v1.getD 2 d0).ii).toNat []).getD 2 d0).ss), .s (((((v1.getD 0 d0).ll).getD ((v1.getD 2 d0).ii).toNat []).getD 3 d0).ss), .sl (((((v1.getD 0 d0).ll).getD ((v1.getD 2 d0).ii).toNat []).getD 4 d0).ll), .sl (((((v1.getD 0 d0).ll).getD ((v1.getD 2 d0).ii).toNat []).getD 5 d0).ll), .sl (((((v1.getD 0 d0).ll).getD ((v1.getD 2 d0).ii).toNat []).getD 6 d0).ll), .sl (((((v1.getD 0 d0).ll).getD ((v1.getD 2 d0).ii).toNat []).getD 7 d0).ll), .sl (((((v1.getD 0 d0).ll).getD ((v1.getD 2 d0).ii).toNat []).getD 8 d0).ll), .b (((((v1.getD 0 d0).ll).getD ((v1.getD 2 d0).ii).toNat []).getD 9 d0).bb), .sl (((((v1.getD 0 d0).ll).getD ((v1.getD 2 d0).ii).toNat []).getD 10 d0).ll), .i ((v1.getD 1 d0).ii)]).bindR fun r2 =>
 if (decide ((r2.getD 0 d0).ii < (0 : Int))) = true then
 .ret [.i (-1 : Int)]
 else
 .norm [.sl ((v1.getD 0 d0).ll), .i ((r2.getD 0 d0).ii), .i ((v1.getD 2 d0).ii)]
 else
 .fail) 1 fun v3 =>
 .norm [.sl ((v3.getD 0 d0).ll), .i ((v3.getD 1 d0).ii), .i (IntKind.i64.wrap ((v3.getD 2 d0).ii + (1 : Int)))]
 else
 .ex 0 [.i ((v1.getD 1 d0).ii)]
noncomputable def E_laws_szDefS (a : List DC) : Out :=
 if (decide ((IntKind.i64.wrap ((a.getD 1 d0).ii - (((a.getD 0 d0).ll).length : Int))) < (0 : Int))) = true then
 .ret [.i (-1 : Int)]
 else
 Out.andThenB (Loop E_laws_szDefSL1 [.sl ((a.getD 0 d0).ll), .i (IntKind.i64.wrap ((a.getD 1 d0).ii - (((a.getD 0 d0).ll).length : Int))), .i (0 : Int)]) 0 fun v4 =>
 .ret [.i ((v4.getD 0 d0).ii)]
theorem eq_laws_szDefS a : r_laws_szDefS a = E_laws_szDefS a := (Run_eq cfg 9 _ a).trans (by kernel_rfl)
noncomputable def E_laws_szRootSL1 : List DC → Out := fun v1 =>
 if (decide ((v1.getD 2 d0).ii < (((v1.getD 0 d0).ll).length : Int))) = true then
 Out.andThenB (if 55 = 55 ∧ 0 ≤ (v1.getD 2 d0).ii ∧ (v1.getD 2 d0).ii < (((v1.getD 0 d0).ll).length : Int) then
 (r_laws_szRoot [.i (((((v1.getD 0 d0).ll).getD ((v1.getD 2 d0).ii).toNat []).getD 0 d0).ii), .s (((((v1.getD 0 d0).ll).getD ((v1.getD 2 d0).ii).toNat []).getD 1 d0).ss), .i ((v1.getD 1 d0).ii)]).bindR fun r2 =>
 if (decide ((r2.getD 0 d0).ii < (0 : Int))) = true then
 .ret [.i (-1 : Int)]
 else
 .norm [.sl ((v1.getD 0 d0).ll), .i ((r2.getD 0 d0).ii), .i ((v1.getD 2 d0).ii)]
 else
 .fail) 1 fun v3 =>
 .norm [.sl ((v3.getD 0 d0).ll), .i ((v3.getD 1 d0).ii), .i (IntKind.i64.wrap ((v3.getD 2 d0).ii + (1 : Int)))]
 else
 .ex 0 [.i ((v1.getD 1 d0).ii)]
noncomputable def E_laws_szRootS (a : List DC) : Out :=
 if (decide ((IntKind.i64.wrap ((a.getD 1 d0).ii - (((a.getD 0 d0).ll).length : Int))) < (0 : Int))) = true then
 .ret [.i (-1 : Int)]
 else
 Out.andThenB (Loop E_laws_szRootSL1 [.sl ((a.getD 0 d0).ll), .i (IntKind.i64.wrap ((a.getD 1 d0).ii - (((a.getD 0 d0).ll).length : Int))), .i (0 : Int)]) 0 fun v4 =>
 .ret [.i ((v4.getD 0 d0).ii)]
theorem eq_laws_szRootS a : r_laws_szRootS a = E_laws_szRootS a := (Run_eq cfg 10 _ a).trans (by kernel_rfl)
noncomputable def E_laws_toDefSL1 : List DC → Out := fun v1 =>
 if (decide ((v1.getD 2 d0).ii < (((v1.getD 0 d0).ll).length : Int))) = true then
 Out.andThenB (if 52 = 52 ∧ 0 ≤ (v1.getD 2 d0).ii ∧ (v1.getD 2 d0).ii < (((v1.getD 0 d0).ll).length : Int) then
 (r_laws_toDef [.i (((((v1.getD 0 d0).ll).getD ((v1.getD 2 d0).ii).toNat []).getD 0 d0).ii), .b (((((v1.getD 0 d0).ll).getD ((v1.getD 2 d0).ii).toNat []).getD 1 d0).bb), .s (((((v1.getD 0 d0).ll).getD ((v1.getD 2 d0).ii).toNat []).getD 2 d0).ss), .s (((((v1.getD 0 d0).ll).getD ((v1.getD 2 d0).ii).toNat []).getD 3 d0).ss), .sl (((((v1.getD 0 d0).ll).getD ((v1.getD 2 d0).ii).toNat []).getD 4 d0).ll), .sl (((((v1.getD 0 d0).ll).getD ((v1.getD 2 d0).ii).toNat []).getD 5 d0).ll), .sl (((((v1.getD 0 d0).ll).getD ((v1.getD 2 d0).ii).toNat []).getD 6 d0).ll), .sl (((((v1.getD 0 d0).ll).getD ((v1.getD 2 d0).ii).toNat []).getD 7 d0).ll), .sl (((((v1.getD 0 d0).ll).getD ((v1.getD 2 d0).ii).toNat []).getD 8 d0).ll), .b (((((v1.getD 0 d0).ll).getD ((v1.getD 2 d0).ii).toNat []).getD 9 d0).bb), .sl (((((v1.getD 0 d0).ll).getD ((v1.getD 2 d0).ii).toNat []).getD 10 d0).ll)]).bindR fun r2 =>
 if 62 = 62 ∧ 0 ≤ (v1.getD 2 d0).ii ∧ (v1.getD 2 d0).ii < (((v1.getD 1 d0).ll).length : Int) then
 .norm [.sl ((v1.getD 0 d0).ll), .sl (((v1.getD 1 d0).ll).set (((v1.getD 2 d0).ii).toNat) (setRunD (((v1.getD 1 d0).ll).getD (((v1.getD 2 d0).ii).toNat) []) 0 [DC.i ((r2.getD 0 d0).ii), DC.b ((r2.getD 1 d0).bb), DC.s ((r2.getD 2 d0).ss), DC.s ((r2.getD 3 d0).ss), DC.sl ((r2.getD 4 d0).ll), DC.sl ((r2.getD 5 d0).ll), DC.sl ((r2.getD 6 d0).ll), DC.sl ((r2.getD 7 d0).ll), DC.sl ((r2.getD 8 d0).ll), DC.b ((r2.getD 9 d0).bb), DC.sl ((r2.getD 10 d0).ll)])), .i ((v1.getD 2 d0).ii)]
 else
 .fail
 else
 .fail) 1 fun v3 =>
 .norm [.sl ((v3.getD 0 d0).ll), .sl ((v3.getD 1 d0).ll), .i (IntKind.i64.wrap ((v3.getD 2 d0).ii + (1 : Int)))]
 else
 .ex 0 [.sl ((v1.getD 1 d0).ll)]
noncomputable def E_laws_toDefS (a : List DC) : Out :=
 if 0 ≤ (((a.getD 0 d0).ll).length : Int) ∧ (((a.getD 0 d0).ll).length : Int) < (LIM : Int) ∧ (((a.getD 0 d0).ll).length : Int) = (((a.getD 0 d0).ll).length : Int) ∧ 200 ≤ 1024 ∧ 0 < 11 ∧ dp 62 = false then
 Out.andThenB (Loop E_laws_toDefSL1 [.sl ((a.getD 0 d0).ll), .sl (List.replicate (((a.getD 0 d0).ll).length : Int).toNat [DC.i 0, DC.b false, DC.s [], DC.s [], DC.sl [], DC.sl [], DC.sl [], DC.sl [], DC.sl [], DC.b false, DC.sl []]), .i (0 : Int)]) 0 fun v4 =>
 .ret [.sl ((v4.getD 0 d0).ll)]
 else
 .fail
theorem eq_laws_toDefS a : r_laws_toDefS a = E_laws_toDefS a := (Run_eq cfg 13 _ a).trans (by kernel_rfl)
noncomputable def E_laws_toRootSL1 : List DC → Out := fun v1 =>
 if (decide ((v1.getD 2 d0).ii < (((v1.getD 0 d0).ll).length : Int))) = true then
 Out.andThenB (if 55 = 55 ∧ 0 ≤ (v1.getD 2 d0).ii ∧ (v1.getD 2 d0).ii < (((v1.getD 0 d0).ll).length : Int) then
 (r_laws_toRoot [.i (((((v1.getD 0 d0).ll).getD ((v1.getD 2 d0).ii).toNat []).getD 0 d0).ii), .s (((((v1.getD 0 d0).ll).getD ((v1.getD 2 d0).ii).toNat []).getD 1 d0).ss)]).bindR fun r2 =>
 if 65 = 65 ∧ 0 ≤ (v1.getD 2 d0).ii ∧ (v1.getD 2 d0).ii < (((v1.getD 1 d0).ll).length : Int) then
 .norm [.sl ((v1.getD 0 d0).ll), .sl (((v1.getD 1 d0).ll).set (((v1.getD 2 d0).ii).toNat) (setRunD (((v1.getD 1 d0).ll).getD (((v1.getD 2 d0).ii).toNat) []) 0 [DC.i ((r2.getD 0 d0).ii), DC.s ((r2.getD 1 d0).ss)])), .i ((v1.getD 2 d0).ii)]
 else
 .fail
 else
 .fail) 1 fun v3 =>
 .norm [.sl ((v3.getD 0 d0).ll), .sl ((v3.getD 1 d0).ll), .i (IntKind.i64.wrap ((v3.getD 2 d0).ii + (1 : Int)))]
 else
 .ex 0 [.sl ((v1.getD 1 d0).ll)]
noncomputable def E_laws_toRootS (a : List DC) : Out :=
 if 0 ≤ (((a.getD 0 d0).ll).length : Int) ∧ (((a.getD 0 d0).ll).length : Int) < (LIM : Int) ∧ (((a.getD 0 d0).ll).length : Int) = (((a.getD 0 d0).ll).length : Int) ∧ 24 ≤ 1024 ∧ 0 < 2 ∧ dp 65 = false then
 Out.andThenB (Loop E_laws_toRootSL1 [.sl ((a.getD 0 d0).ll), .sl (List.replicate (((a.getD 0 d0).ll).length : Int).toNat [DC.i 0, DC.s []]), .i (0 : Int)]) 0 fun v4 =>
 .ret [.sl ((v4.getD 0 d0).ll)]
 else
 .fail
theorem eq_laws_toRootS a : r_laws_toRootS a = E_laws_toRootS a := (Run_eq cfg 14 _ a).trans (by kernel_rfl)
noncomputable def E_spec_PossibleOfL1 : List DC → Out := fun v2 =>
 if (decide ((v2.getD 2 d0).ii < (((v2.getD 3 d0).ll).length : Int))) = true then
 Out.andThenB (if 62 = 62 ∧ 0 ≤ (v2.getD 2 d0).ii ∧ (v2.getD 2 d0).ii < (((v2.getD 3 d0).ll).length : Int) then
 if (((((v2.getD 3 d0).ll).getD ((v2.getD 2 d0).ii).toNat []).getD 0 d0).ii != (2 : Int)) = true then
 .ex 1 [.s ((v2.getD 0 d0).ss), .sl ((v2.getD 1 d0).ll), .i ((v2.getD 2 d0).ii), .sl ((v2.getD 3 d0).ll), .sl ((v2.getD 4 d0).ll), .sl ((v2.getD 5 d0).ll), .i ((v2.getD 6 d0).ii), .b ((v2.getD 7 d0).bb), .s ((v2.getD 8 d0).ss), .s ((v2.getD 9 d0).ss), .sl ((v2.getD 10 d0).ll), .sl ((v2.getD 11 d0).ll), .sl ((v2.getD 12 d0).ll), .sl ((v2.getD 13 d0).ll), .sl ((v2.getD 14 d0).ll), .b ((v2.getD 15 d0).bb), .sl ((v2.getD 16 d0).ll)]
 else
 Out.andThen (if ((v2.getD 6 d0).ii == (2 : Int)) = true then
 if (((((v2.getD 3 d0).ll).getD ((v2.getD 2 d0).ii).toNat []).getD 3 d0).ss == (v2.getD 0 d0).ss) = true then
 .norm [.s ((v2.getD 0 d0).ss), .sl ((v2.getD 1 d0).ll), .i ((v2.getD 2 d0).ii), .b true, .sl ((v2.getD 3 d0).ll), .sl ((v2.getD 4 d0).ll), .sl ((v2.getD 5 d0).ll), .i ((v2.getD 6 d0).ii), .b ((v2.getD 7 d0).bb), .s ((v2.getD 8 d0).ss), .s ((v2.getD 9 d0).ss), .sl ((v2.getD 10 d0).ll), .sl ((v2.getD 11 d0).ll), .sl ((v2.getD 12 d0).ll), .sl ((v2.getD 13 d0).ll), .sl ((v2.getD 14 d0).ll), .b ((v2.getD 15 d0).bb), .sl ((v2.getD 16 d0).ll), .i (((((v2.getD 3 d0).ll).getD ((v2.getD 2 d0).ii).toNat []).getD 0 d0).ii), .b (((((v2.getD 3 d0).ll).getD ((v2.getD 2 d0).ii).toNat []).getD 1 d0).bb), .s (((((v2.getD 3 d0).ll).getD ((v2.getD 2 d0).ii).toNat []).getD 2 d0).ss), .s (((((v2.getD 3 d0).ll).getD ((v2.getD 2 d0).ii).toNat []).getD 3 d0).ss), .sl (((((v2.getD 3 d0).ll).getD ((v2.getD 2 d0).ii).toNat []).getD 4 d0).ll), .sl (((((v2.getD 3 d0).ll).getD ((v2.getD 2 d0).ii).toNat []).getD 5 d0).ll), .sl (((((v2.getD 3 d0).ll).getD ((v2.getD 2 d0).ii).toNat []).getD 6 d0).ll), .sl (((((v2.getD 3 d0).ll).getD ((v2.getD 2 d0).ii).toNat []).getD 7 d0).ll), .sl (((((v2.getD 3 d0).ll).getD ((v2.getD 2 d0).ii).toNat []).getD 8 d0).ll), .b (((((v2.getD 3 d0).ll).getD ((v2.getD 2 d0).ii).toNat []).getD 9 d0).bb), .sl (((((v2.getD 3 d0).ll).getD ((v2.getD 2 d0).ii).toNat []).getD 10 d0).ll)]
 else
 if ((v2.getD 6 d0).ii == (3 : Int)) = true then
 (r_spec_l18Has [.sl (((((v2.getD 3 d0).ll).getD ((v2.getD 2 d0).ii).toNat []).getD 4 d0).ll), .s ((v2.getD 0 d0).ss)]).bindR fun r3 =>
 if (r3.getD 0 d0).bb = true then
 .norm [.s ((v2.getD 0 d0).ss), .sl ((v2.getD 1 d0).ll), .i ((v2.getD 2 d0).ii), .b true, .sl ((v2.getD 3 d0).ll), .sl ((v2.getD 4 d0).ll), .sl ((v2.getD 5 d0).ll), .i ((v2.getD 6 d0).ii), .b ((v2.getD 7 d0).bb), .s ((v2.getD 8 d0).ss), .s ((v2.getD 9 d0).ss), .sl ((v2.getD 10 d0).ll), .sl ((v2.getD 11 d0).ll), .sl ((v2.getD 12 d0).ll), .sl ((v2.getD 13 d0).ll), .sl ((v2.getD 14 d0).ll), .b ((v2.getD 15 d0).bb), .sl ((v2.getD 16 d0).ll), .i (((((v2.getD 3 d0).ll).getD ((v2.getD 2 d0).ii).toNat []).getD 0 d0).ii), .b (((((v2.getD 3 d0).ll).getD ((v2.getD 2 d0).ii).toNat []).getD 1 d0).bb), .s (((((v2.getD 3 d0).ll).getD ((v2.getD 2 d0).ii).toNat []).getD 2 d0).ss), .s (((((v2.getD 3 d0).ll).getD ((v2.getD 2 d0).ii).toNat []).getD 3 d0).ss), .sl (((((v2.getD 3 d0).ll).getD ((v2.getD 2 d0).ii).toNat []).getD 4 d0).ll), .sl (((((v2.getD 3 d0).ll).getD ((v2.getD 2 d0).ii).toNat []).getD 5 d0).ll), .sl (((((v2.getD 3 d0).ll).getD ((v2.getD 2 d0).ii).toNat []).getD 6 d0).ll), .sl (((((v2.getD 3 d0).ll).getD ((v2.getD 2 d0).ii).toNat []).getD 7 d0).ll), .sl (((((v2.getD 3 d0).ll).getD ((v2.getD 2 d0).ii).toNat []).getD 8 d0).ll), .b (((((v2.getD 3 d0).ll).getD ((v2.getD 2 d0).ii).toNat []).getD 9 d0).bb), .sl (((((v2.getD 3 d0).ll).getD ((v2.getD 2 d0).ii).toNat []).getD 10 d0).ll)]
 else
 if ((v2.getD 6 d0).ii == (4 : Int)) = true then
 (r_spec_l18Has [.sl ((v2.getD 10 d0).ll), .s (((((v2.getD 3 d0).ll).getD ((v2.getD 2 d0).ii).toNat []).getD 3 d0).ss)]).bindR fun r4 =>
 .norm [.s ((v2.getD 0 d0).ss), .sl ((v2.getD 1 d0).ll), .i ((v2.getD 2 d0).ii), .b ((r4.getD 0 d0).bb), .sl ((v2.getD 3 d0).ll), .sl ((v2.getD 4 d0).ll), .sl ((v2.getD 5 d0).ll), .i ((v2.getD 6 d0).ii), .b ((v2.getD 7 d0).bb), .s ((v2.getD 8 d0).ss), .s ((v2.getD 9 d0).ss), .sl ((v2.getD 10 d0).ll), .sl ((v2.getD 11 d0).ll), .sl ((v2.getD 12 d0).ll), .sl ((v2.getD 13 d0).ll), .sl ((v2.getD 14 d0).ll), .b ((v2.getD 15 d0).bb), .sl ((v2.getD 16 d0).ll), .i (((((v2.getD 3 d0).ll).getD ((v2.getD 2 d0).ii).toNat []).getD 0 d0).ii), .b (((((v2.getD 3 d0).ll).getD ((v2.getD 2 d0).ii).toNat []).getD 1 d0).bb), .s (((((v2.getD 3 d0).ll).getD ((v2.getD 2 d0).ii).toNat []).getD 2 d0).ss), .s (((((v2.getD 3 d0).ll).getD ((v2.getD 2 d0).ii).toNat []).getD 3 d0).ss), .sl (((((v2.getD 3 d0).ll).getD ((v2.getD 2 d0).ii).toNat []).getD 4 d0).ll), .sl (((((v2.getD 3 d0).ll).getD ((v2.getD 2 d0).ii).toNat []).getD 5 d0).ll), .sl (((((v2.getD 3 d0).ll).getD ((v2.getD 2 d0).ii).toNat []).getD 6 d0).ll), .sl (((((v2.getD 3 d0).ll).getD ((v2.getD 2 d0).ii).toNat []).getD 7 d0).ll), .sl (((((v2.getD 3 d0).ll).getD ((v2.getD 2 d0).ii).toNat []).getD 8 d0).ll), .b (((((v2.getD 3 d0).ll).getD ((v2.getD 2 d0).ii).toNat []).getD 9 d0).bb), .sl (((((v2.getD 3 d0).ll).getD ((v2.getD 2 d0).ii).toNat []).getD 10 d0).ll)]
 else
 .norm [.s ((v2.getD 0 d0).ss), .sl ((v2.getD 1 d0).ll), .i ((v2.getD 2 d0).ii), .b false, .sl ((v2.getD 3 d0).ll), .sl ((v2.getD 4 d0).ll), .sl ((v2.getD 5 d0).ll), .i ((v2.getD 6 d0).ii), .b ((v2.getD 7 d0).bb), .s ((v2.getD 8 d0).ss), .s ((v2.getD 9 d0).ss), .sl ((v2.getD 10 d0).ll), .sl ((v2.getD 11 d0).ll), .sl ((v2.getD 12 d0).ll), .sl ((v2.getD 13 d0).ll), .sl ((v2.getD 14 d0).ll), .b ((v2.getD 15 d0).bb), .sl ((v2.getD 16 d0).ll), .i (((((v2.getD 3 d0).ll).getD ((v2.getD 2 d0).ii).toNat []).getD 0 d0).ii), .b (((((v2.getD 3 d0).ll).getD ((v2.getD 2 d0).ii).toNat []).getD 1 d0).bb), .s (((((v2.getD 3 d0).ll).getD ((v2.getD 2 d0).ii).toNat []).getD 2 d0).ss), .s (((((v2.getD 3 d0).ll).getD ((v2.getD 2 d0).ii).toNat []).getD 3 d0).ss), .sl (((((v2.getD 3 d0).ll).getD ((v2.getD 2 d0).ii).toNat []).getD 4 d0).ll), .sl (((((v2.getD 3 d0).ll).getD ((v2.getD 2 d0).ii).toNat []).getD 5 d0).ll), .sl (((((v2.getD 3 d0).ll).getD ((v2.getD 2 d0).ii).toNat []).getD 6 d0).ll), .sl (((((v2.getD 3 d0).ll).getD ((v2.getD 2 d0).ii).toNat []).getD 7 d0).ll), .sl (((((v2.getD 3 d0).ll).getD ((v2.getD 2 d0).ii).toNat []).getD 8 d0).ll), .b (((((v2.getD 3 d0).ll).getD ((v2.getD 2 d0).ii).toNat []).getD 9 d0).bb), .sl (((((v2.getD 3 d0).ll).getD ((v2.getD 2 d0).ii).toNat []).getD 10 d0).ll)]
 else
 if ((v2.getD 6 d0).ii == (4 : Int)) = true then
 (r_spec_l18Has [.sl ((v2.getD 10 d0).ll), .s (((((v2.getD 3 d0).ll).getD ((v2.getD 2 d0).ii).toNat []).getD 3 d0).ss)]).bindR fun r5 =>
 .norm [.s ((v2.getD 0 d0).ss), .sl ((v2.getD 1 d0).ll), .i ((v2.getD 2 d0).ii), .b ((r5.getD 0 d0).bb), .sl ((v2.getD 3 d0).ll), .sl ((v2.getD 4 d0).ll), .sl ((v2.getD 5 d0).ll), .i ((v2.getD 6 d0).ii), .b ((v2.getD 7 d0).bb), .s ((v2.getD 8 d0).ss), .s ((v2.getD 9 d0).ss), .sl ((v2.getD 10 d0).ll), .sl ((v2.getD 11 d0).ll), .sl ((v2.getD 12 d0).ll), .sl ((v2.getD 13 d0).ll), .sl ((v2.getD 14 d0).ll), .b ((v2.getD 15 d0).bb), .sl ((v2.getD 16 d0).ll), .i (((((v2.getD 3 d0).ll).getD ((v2.getD 2 d0).ii).toNat []).getD 0 d0).ii), .b (((((v2.getD 3 d0).ll).getD ((v2.getD 2 d0).ii).toNat []).getD 1 d0).bb), .s (((((v2.getD 3 d0).ll).getD ((v2.getD 2 d0).ii).toNat []).getD 2 d0).ss), .s (((((v2.getD 3 d0).ll).getD ((v2.getD 2 d0).ii).toNat []).getD 3 d0).ss), .sl (((((v2.getD 3 d0).ll).getD ((v2.getD 2 d0).ii).toNat []).getD 4 d0).ll), .sl (((((v2.getD 3 d0).ll).getD ((v2.getD 2 d0).ii).toNat []).getD 5 d0).ll), .sl (((((v2.getD 3 d0).ll).getD ((v2.getD 2 d0).ii).toNat []).getD 6 d0).ll), .sl (((((v2.getD 3 d0).ll).getD ((v2.getD 2 d0).ii).toNat []).getD 7 d0).ll), .sl (((((v2.getD 3 d0).ll).getD ((v2.getD 2 d0).ii).toNat []).getD 8 d0).ll), .b (((((v2.getD 3 d0).ll).getD ((v2.getD 2 d0).ii).toNat []).getD 9 d0).bb), .sl (((((v2.getD 3 d0).ll).getD ((v2.getD 2 d0).ii).toNat []).getD 10 d0).ll)]
 else
 .norm [.s ((v2.getD 0 d0).ss), .sl ((v2.getD 1 d0).ll), .i ((v2.getD 2 d0).ii), .b false, .sl ((v2.getD 3 d0).ll), .sl ((v2.getD 4 d0).ll), .sl ((v2.getD 5 d0).ll), .i ((v2.getD 6 d0).ii), .b ((v2.getD 7 d0).bb), .s ((v2.getD 8 d0).ss), .s ((v2.getD 9 d0).ss), .sl ((v2.getD 10 d0).ll), .sl ((v2.getD 11 d0).ll), .sl ((v2.getD 12 d0).ll), .sl ((v2.getD 13 d0).ll), .sl ((v2.getD 14 d0).ll), .b ((v2.getD 15 d0).bb), .sl ((v2.getD 16 d0).ll), .i (((((v2.getD 3 d0).ll).getD ((v2.getD 2 d0).ii).toNat []).getD 0 d0).ii), .b (((((v2.getD 3 d0).ll).getD ((v2.getD 2 d0).ii).toNat []).getD 1 d0).bb), .s (((((v2.getD 3 d0).ll).getD ((v2.getD 2 d0).ii).toNat []).getD 2 d0).ss), .s (((((v2.getD 3 d0).ll).getD ((v2.getD 2 d0).ii).toNat []).getD 3 d0).ss), .sl (((((v2.getD 3 d0).ll).getD ((v2.getD 2 d0).ii).toNat []).getD 4 d0).ll), .sl (((((v2.getD 3 d0).ll).getD ((v2.getD 2 d0).ii).toNat []).getD 5 d0).ll), .sl (((((v2.getD 3 d0).ll).getD ((v2.getD 2 d0).ii).toNat []).getD 6 d0).ll), .sl (((((v2.getD 3 d0).ll).getD ((v2.getD 2 d0).ii).toNat []).getD 7 d0).ll), .sl (((((v2.getD 3 d0).ll).getD ((v2.getD 2 d0).ii).toNat []).getD 8 d0).ll), .b (((((v2.getD 3 d0).ll).getD ((v2.getD 2 d0).ii).toNat []).getD 9 d0).bb), .sl (((((v2.getD 3 d0).ll).getD ((v2.getD 2 d0).ii).toNat []).getD 10 d0).ll)]
 else
 if ((v2.getD 6 d0).ii == (3 : Int)) = true then
 (r_spec_l18Has [.sl (((((v2.getD 3 d0).ll).getD ((v2.getD 2 d0).ii).toNat []).getD 4 d0).ll), .s ((v2.getD 0 d0).ss)]).bindR fun r6 =>
 if (r6.getD 0 d0).bb = true then
 .norm [.s ((v2.getD 0 d0).ss), .sl ((v2.getD 1 d0).ll), .i ((v2.getD 2 d0).ii), .b true, .sl ((v2.getD 3 d0).ll), .sl ((v2.getD 4 d0).ll), .sl ((v2.getD 5 d0).ll), .i ((v2.getD 6 d0).ii), .b ((v2.getD 7 d0).bb), .s ((v2.getD 8 d0).ss), .s ((v2.getD 9 d0).ss), .sl ((v2.getD 10 d0).ll), .sl ((v2.getD 11 d0).ll), .sl ((v2.getD 12 d0).ll), .sl ((v2.getD 13 d0).ll), .sl ((v2.getD 14 d0).ll), .b ((v2.getD 15 d0).bb), .sl ((v2.getD 16 d0).ll), .i (((((v2.getD 3 d0).ll).getD ((v2.getD 2 d0).ii).toNat []).getD 0 d0).ii), .b (((((v2.getD 3 d0).ll).getD ((v2.getD 2 d0).ii).toNat []).getD 1 d0).bb), .s (((((v2.getD 3 d0).ll).getD ((v2.getD 2 d0).ii).toNat []).getD 2 d0).ss), .s (((((v2.getD 3 d0).ll).getD ((v2.getD 2 d0).ii).toNat []).getD 3 d0).ss), .sl (((((v2.getD 3 d0).ll).getD ((v2.getD 2 d0).ii).toNat []).getD 4 d0).ll), .sl (((((v2.getD 3 d0).ll).getD ((v2.getD 2 d0).ii).toNat []).getD 5 d0).ll), .sl (((((v2.getD 3 d0).ll).getD ((v2.getD 2 d0).ii).toNat []).getD 6 d0).ll), .sl (((((v2.getD 3 d0).ll).getD ((v2.getD 2 d0).ii).toNat []).getD 7 d0).ll), .sl (((((v2.getD 3 d0).ll).getD ((v2.getD 2 d0).ii).toNat []).getD 8 d0).ll), .b (((((v2.getD 3 d0).ll).getD ((v2.getD 2 d0).ii).toNat []).getD 9 d0).bb), .sl (((((v2.getD 3 d0).ll).getD ((v2.getD 2 d0).ii).toNat []).getD 10 d0).ll)]
 else
 if ((v2.getD 6 d0).ii == (4 : Int)) = true then
 (r_spec_l18Has [.sl ((v2.getD 10 d0).ll), .s (((((v2.getD 3 d0).ll).getD ((v2.getD 2 d0).ii).toNat []).getD 3 d0).ss)]).bindR fun r7 =>
 .norm [.s ((v2.getD 0 d0).ss), .sl ((v2.getD 1 d0).ll), .i ((v2.getD 2 d0).ii), .b ((r7.getD 0 d0).bb), .sl ((v2.getD 3 d0).ll), .sl ((v2.getD 4 d0).ll), .sl ((v2.getD 5 d0).ll), .i ((v2.getD 6 d0).ii), .b ((v2.getD 7 d0).bb), .s ((v2.getD 8 d0).ss), .s ((v2.getD 9 d0).ss), .sl ((v2.getD 10 d0).ll), .sl ((v2.getD 11 d0).ll), .sl ((v2.getD 12 d0).ll), .sl ((v2.getD 13 d0).ll), .sl ((v2.getD 14 d0).ll), .b ((v2.getD 15 d0).bb), .sl ((v2.getD 16 d0).ll), .i (((((v2.getD 3 d0).ll).getD ((v2.getD 2 d0).ii).toNat []).getD 0 d0).ii), .b (((((v2.getD 3 d0).ll).getD ((v2.getD 2 d0).ii).toNat []).getD 1 d0).bb), .s (((((v2.getD 3 d0).ll).getD ((v2.getD 2 d0).ii).toNat []).getD 2 d0).ss), .s (((((v2.getD 3 d0).ll).getD ((v2.getD 2 d0).ii).toNat []).getD 3 d0).ss), .sl (((((v2.getD 3 d0).ll).getD ((v2.getD 2 d0).ii).toNat []).getD 4 d0).ll), .sl (((((v2.getD 3 d0).ll).getD ((v2.getD 2 d0).ii).toNat []).getD 5 d0).ll), .sl (((((v2.getD 3 d0).ll).getD ((v2.getD 2 d0).ii).toNat []).getD 6 d0).ll), .sl (((((v2.getD 3 d0).ll).getD ((v2.getD 2 d0).ii).toNat []).getD 7 d0).ll), .sl (((((v2.getD 3 d0).ll).getD ((v2.getD 2 d0).ii).toNat []).getD 8 d0).ll), .b (((((v2.getD 3 d0).ll).getD ((v2.getD 2 d0).ii).toNat []).getD 9 d0).bb), .sl (((((v2.getD 3 d0).ll).getD ((v2.getD 2 d0).ii).toNat []).getD 10 d0).ll)]
 else
 .norm [.s ((v2.getD 0 d0).ss), .sl ((v2.getD 1 d0).ll), .i ((v2.getD 2 d0).ii), .b false, .sl ((v2.getD 3 d0).ll), .sl ((v2.getD 4 d0).ll), .sl ((v2.getD 5 d0).ll), .i ((v2.getD 6 d0).ii), .b ((v2.getD 7 d0).bb), .s ((v2.getD 8 d0).ss), .s ((v2.getD 9 d0).ss), .sl ((v2.getD 10 d0).ll), .sl ((v2.getD 11 d0).ll), .sl ((v2.getD 12 d0).ll), .sl ((v2.getD 13 d0).ll), .sl ((v2.getD 14 d0).ll), .b ((v2.getD 15 d0).bb), .sl ((v2.getD 16 d0).ll), .i (((((v2.getD 3 d0).ll).getD ((v2.getD 2 d0).ii).toNat []).getD 0 d0).ii), .b (((((v2.getD 3 d0).ll).getD ((v2.getD 2 d0).ii).toNat []).getD 1 d0).bb), .s (((((v2.getD 3 d0).ll).getD ((v2.getD 2 d0).ii).toNat []).getD 2 d0).ss), .s (((((v2.getD 3 d0).ll).getD ((v2.getD 2 d0).ii).toNat []).getD 3 d0).ss), .sl (((((v2.getD 3 d0).ll).getD ((v2.getD 2 d0).ii).toNat []).getD 4 d0).ll), .sl (((((v2.getD 3 d0).ll).getD ((v2.getD 2 d0).ii).toNat []).getD 5 d0).ll), .sl (((((v2.getD 3 d0).ll).getD ((v2.getD 2 d0).ii).toNat []).getD 6 d0).ll), .sl (((((v2.getD 3 d0).ll).getD ((v2.getD 2 d0).ii).toNat []).getD 7 d0).ll), .sl (((((v2.getD 3 d0).ll).getD ((v2.getD 2 d0).ii).toNat []).getD 8 d0).ll), .b (((((v2.getD 3 d0).ll).getD ((v2.getD 2 d0).ii).toNat []).getD 9 d0).bb), .sl (((((v2.getD 3 d0).ll).getD ((v2.getD 2 d0).ii).toNat []).getD 10 d0).ll)]
 else
 if ((v2.getD 6 d0).ii == (4 : Int)) = true then
 (r_spec_l18Has [.sl ((v2.getD 10 d0).ll), .s (((((v2.getD 3 d0).ll).getD ((v2.getD 2 d0).ii).toNat []).getD 3 d0).ss)]).bindR fun r8 =>
 .norm [.s ((v2.getD 0 d0).ss), .sl ((v2.getD 1 d0).ll), .i ((v2.getD 2 d0).ii), .b ((r8.getD 0 d0).bb), .sl ((v2.getD 3 d0).ll), .sl ((v2.getD 4 d0).ll), .sl ((v2.getD 5 d0).ll), .i ((v2.getD 6 d0).ii), .b ((v2.getD 7 d0).bb), .s ((v2.getD 8 d0).ss), .s ((v2.getD 9 d0).ss), .sl ((v2.getD 10 d0).ll), .sl ((v2.getD 11 d0).ll), .sl ((v2.getD 12 d0).ll), .sl ((v2.getD 13 d0).ll), .sl ((v2.getD 14 d0).ll), .b ((v2.getD 15 d0).bb), .sl ((v2.getD 16 d0).ll), .i (((((v2.getD 3 d0).ll).getD ((v2.getD 2 d0).ii).toNat []).getD 0 d0).ii), .b (((((v2.getD 3 d0).ll).getD ((v2.getD 2 d0).ii).toNat []).getD 1 d0).bb), .s (((((v2.getD 3 d0).ll).getD ((v2.getD 2 d0).ii).toNat []).getD 2 d0).ss), .s (((((v2.getD 3 d0).ll).getD ((v2.getD 2 d0).ii).toNat []).getD 3 d0).ss), .sl (((((v2.getD 3 d0).ll).getD ((v2.getD 2 d0).ii).toNat []).getD 4 d0).ll), .sl (((((v2.getD 3 d0).ll).getD ((v2.getD 2 d0).ii).toNat []).getD 5 d0).ll), .sl (((((v2.getD 3 d0).ll).getD ((v2.getD 2 d0).ii).toNat []).getD 6 d0).ll), .sl (((((v2.getD 3 d0).ll).getD ((v2.getD 2 d0).ii).toNat []).getD 7 d0).ll), .sl (((((v2.getD 3 d0).ll).getD ((v2.getD 2 d0).ii).toNat []).getD 8 d0).ll), .b (((((v2.getD 3 d0).ll).getD ((v2.getD 2 d0).ii).toNat []).getD 9 d0).bb), .sl (((((v2.getD 3 d0).ll).getD ((v2.getD 2 d0).ii).toNat []).getD 10 d0).ll)]
 else
 .norm [.s ((v2.getD 0 d0).ss), .sl ((v2.getD 1 d0).ll), .i ((v2.getD 2 d0).ii), .b false, .sl ((v2.getD 3 d0).ll), .sl ((v2.getD 4 d0).ll), .sl ((v2.getD 5 d0).ll), .i ((v2.getD 6 d0).ii), .b ((v2.getD 7 d0).bb), .s ((v2.getD 8 d0).ss), .s ((v2.getD 9 d0).ss), .sl ((v2.getD 10 d0).ll), .sl ((v2.getD 11 d0).ll), .sl ((v2.getD 12 d0).ll), .sl ((v2.getD 13 d0).ll), .sl ((v2.getD 14 d0).ll), .b ((v2.getD 15 d0).bb), .sl ((v2.getD 16 d0).ll), .i (((((v2.getD 3 d0).ll).getD ((v2.getD 2 d0).ii).toNat []).getD 0 d0).ii), .b (((((v2.getD 3 d0).ll).getD ((v2.getD 2 d0).ii).toNat []).getD 1 d0).bb), .s (((((v2.getD 3 d0).ll).getD ((v2.getD 2 d0).ii).toNat []).getD 2 d0).ss), .s (((((v2.getD 3 d0).ll).getD ((v2.getD 2 d0).ii).toNat []).getD 3 d0).ss), .sl (((((v2.getD 3 d0).ll).getD ((v2.getD 2 d0).ii).toNat []).getD 4 d0).ll), .sl (((((v2.getD 3 d0).ll).getD ((v2.getD 2 d0).ii).toNat []).getD 5 d0).ll), .sl (((((v2.getD 3 d0).ll).getD ((v2.getD 2 d0).ii).toNat []).getD 6 d0).ll), .sl (((((v2.getD 3 d0).ll).getD ((v2.getD 2 d0).ii).toNat []).getD 7 d0).ll), .sl (((((v2.getD 3 d0).ll).getD ((v2.getD 2 d0).ii).toNat []).getD 8 d0).ll), .b (((((v2.getD 3 d0).ll).getD ((v2.getD 2 d0).ii).toNat []).getD 9 d0).bb), .sl (((((v2.getD 3 d0).ll).getD ((v2.getD 2 d0).ii).toNat []).getD 10 d0).ll)]) fun v9 =>
 Out.andThen (if (v9.getD 3 d0).bb = true then
 if ((v9.getD 1 d0).ll).length + [[DC.s ((v9.getD 21 d0).ss)]].length < LIM then
 .norm [.s ((v9.getD 0 d0).ss), .sl (((v9.getD 1 d0).ll) ++ [[DC.s ((v9.getD 21 d0).ss)]]), .i ((v9.getD 2 d0).ii), .sl ((v9.getD 4 d0).ll), .sl ((v9.getD 5 d0).ll), .sl ((v9.getD 6 d0).ll), .i ((v9.getD 7 d0).ii), .b ((v9.getD 8 d0).bb), .s ((v9.getD 9 d0).ss), .s ((v9.getD 10 d0).ss), .sl ((v9.getD 11 d0).ll), .sl ((v9.getD 12 d0).ll), .sl ((v9.getD 13 d0).ll), .sl ((v9.getD 14 d0).ll), .sl ((v9.getD 15 d0).ll), .b ((v9.getD 16 d0).bb), .sl ((v9.getD 17 d0).ll)]
 else
 .fail
 else
 .norm [.s ((v9.getD 0 d0).ss), .sl ((v9.getD 1 d0).ll), .i ((v9.getD 2 d0).ii), .sl ((v9.getD 4 d0).ll), .sl ((v9.getD 5 d0).ll), .sl ((v9.getD 6 d0).ll), .i ((v9.getD 7 d0).ii), .b ((v9.getD 8 d0).bb), .s ((v9.getD 9 d0).ss), .s ((v9.getD 10 d0).ss), .sl ((v9.getD 11 d0).ll), .sl ((v9.getD 12 d0).ll), .sl ((v9.getD 13 d0).ll), .sl ((v9.getD 14 d0).ll), .sl ((v9.getD 15 d0).ll), .b ((v9.getD 16 d0).bb), .sl ((v9.getD 17 d0).ll)]) fun v10 =>
 .norm [.s ((v10.getD 0 d0).ss), .sl ((v10.getD 1 d0).ll), .i ((v10.getD 2 d0).ii), .sl ((v10.getD 3 d0).ll), .sl ((v10.getD 4 d0).ll), .sl ((v10.getD 5 d0).ll), .i ((v10.getD 6 d0).ii), .b ((v10.getD 7 d0).bb), .s ((v10.getD 8 d0).ss), .s ((v10.getD 9 d0).ss), .sl ((v10.getD 10 d0).ll), .sl ((v10.getD 11 d0).ll), .sl ((v10.getD 12 d0).ll), .sl ((v10.getD 13 d0).ll), .sl ((v10.getD 14 d0).ll), .b ((v10.getD 15 d0).bb), .sl ((v10.getD 16 d0).ll)]
 else
 .fail) 1 fun v11 =>
 .norm [.s ((v11.getD 0 d0).ss), .sl ((v11.getD 1 d0).ll), .i (IntKind.i64.wrap ((v11.getD 2 d0).ii + (1 : Int))), .sl ((v11.getD 3 d0).ll), .sl ((v11.getD 4 d0).ll), .sl ((v11.getD 5 d0).ll), .i ((v11.getD 6 d0).ii), .b ((v11.getD 7 d0).bb), .s ((v11.getD 8 d0).ss), .s ((v11.getD 9 d0).ss), .sl ((v11.getD 10 d0).ll), .sl ((v11.getD 11 d0).ll), .sl ((v11.getD 12 d0).ll), .sl ((v11.getD 13 d0).ll), .sl ((v11.getD 14 d0).ll), .b ((v11.getD 15 d0).bb), .sl ((v11.getD 16 d0).ll)]
 else
 .ex 0 [.sl ((v2.getD 1 d0).ll)]
noncomputable def E_spec_PossibleOf (a : List DC) : Out :=
 (r_spec_TypeAt [.sl ((a.getD 0 d0).ll), .sl ((a.getD 1 d0).ll), .sl ((a.getD 2 d0).ll), .s ((a.getD 3 d0).ss)]).bindR fun r1 =>
 if (decide ((r1.getD 0 d0).ii < (0 : Int))) = true then
 .ret [.sl []]
 else
 if 62 = 62 ∧ 0 ≤ (r1.getD 0 d0).ii ∧ (r1.getD 0 d0).ii < (((a.getD 0 d0).ll).length : Int) then
 Out.andThenB (Loop E_spec_PossibleOfL1 [.s ((a.getD 3 d0).ss), .sl [], .i (0 : Int), .sl ((a.getD 0 d0).ll), .sl ((a.getD 1 d0).ll), .sl ((a.getD 2 d0).ll), .i (((((a.getD 0 d0).ll).getD ((r1.getD 0 d0).ii).toNat []).getD 0 d0).ii), .b (((((a.getD 0 d0).ll).getD ((r1.getD 0 d0).ii).toNat []).getD 1 d0).bb), .s (((((a.getD 0 d0).ll).getD ((r1.getD 0 d0).ii).toNat []).getD 2 d0).ss), .s (((((a.getD 0 d0).ll).getD ((r1.getD 0 d0).ii).toNat []).getD 3 d0).ss), .sl (((((a.getD 0 d0).ll).getD ((r1.getD 0 d0).ii).toNat []).getD 4 d0).ll), .sl (((((a.getD 0 d0).ll).getD ((r1.getD 0 d0).ii).toNat []).getD 5 d0).ll), .sl (((((a.getD 0 d0).ll).getD ((r1.getD 0 d0).ii).toNat []).getD 6 d0).ll), .sl (((((a.getD 0 d0).ll).getD ((r1.getD 0 d0).ii).toNat []).getD 7 d0).ll), .sl (((((a.getD 0 d0).ll).getD ((r1.getD 0 d0).ii).toNat []).getD 8 d0).ll), .b (((((a.getD 0 d0).ll).getD ((r1.getD 0 d0).ii).toNat []).getD 9 d0).bb), .sl (((((a.getD 0 d0).ll).getD ((r1.getD 0 d0).ii).toNat []).getD 10 d0).ll)]) 0 fun v12 =>
 (r_spec_l18Sorted [.sl ((v12.getD 0 d0).ll)]).bindR fun r13 =>
 .ret [.sl ((r13.getD 0 d0).ll)]
 else
 .fail
theorem eq_spec_PossibleOf a : r_spec_PossibleOf a = E_spec_PossibleOf a := (Run_eq cfg 11 _ a).trans (by kernel_rfl)
noncomputable def E_spec_l18HasL1 : List DC → Out := fun v1 =>
 if (decide ((v1.getD 2 d0).ii < (((v1.getD 0 d0).ll).length : Int))) = true then
 Out.andThenB (if 9 = 9 ∧ 0 ≤ (v1.getD 2 d0).ii ∧ (v1.getD 2 d0).ii < (((v1.getD 0 d0).ll).length : Int) then
 if (((((v1.getD 0 d0).ll).getD ((v1.getD 2 d0).ii).toNat []).getD 0 d0).ss == (v1.getD 1 d0).ss) = true then
 .ret [.b true]
 else
 .norm [.sl ((v1.getD 0 d0).ll), .s ((v1.getD 1 d0).ss), .i ((v1.getD 2 d0).ii)]
 else
 .fail) 1 fun v2 =>
 .norm [.sl ((v2.getD 0 d0).ll), .s ((v2.getD 1 d0).ss), .i (IntKind.i64.wrap ((v2.getD 2 d0).ii + (1 : Int)))]
 else
 .ex 0 []
noncomputable def E_spec_l18Has (a : List DC) : Out :=
 Out.andThenB (Loop E_spec_l18HasL1 [.sl ((a.getD 0 d0).ll), .s ((a.getD 1 d0).ss), .i (0 : Int)]) 0 fun v3 =>
 .ret [.b false]
theorem eq_spec_l18Has a : r_spec_l18Has a = E_spec_l18Has a := (Run_eq cfg 12 _ a).trans (by kernel_rfl)
noncomputable def E_impl_PossibleOfL1 : List DC → Out := fun v2 =>
 if (decide ((v2.getD 4 d0).ii < (v2.getD 3 d0).ii)) = true then
 Out.andThenB (if 62 = 62 ∧ 0 ≤ (v2.getD 4 d0).ii ∧ (v2.getD 4 d0).ii < (((v2.getD 2 d0).ll).length : Int) then
 Out.andThenB (Out.andThen (if ((v2.getD 5 d0).ii == (2 : Int)) = true then
 .norm [.s ((v2.getD 0 d0).ss), .sl ((v2.getD 1 d0).ll), .b (((((v2.getD 2 d0).ll).getD ((v2.getD 4 d0).ii).toNat []).getD 3 d0).ss == (v2.getD 0 d0).ss), .sl ((v2.getD 2 d0).ll), .i ((v2.getD 3 d0).ii), .i ((v2.getD 4 d0).ii), .i ((v2.getD 5 d0).ii), .b ((v2.getD 6 d0).bb), .s ((v2.getD 7 d0).ss), .s ((v2.getD 8 d0).ss), .sl ((v2.getD 9 d0).ll), .sl ((v2.getD 10 d0).ll), .sl ((v2.getD 11 d0).ll), .sl ((v2.getD 12 d0).ll), .sl ((v2.getD 13 d0).ll), .b ((v2.getD 14 d0).bb), .sl ((v2.getD 15 d0).ll), .i (((((v2.getD 2 d0).ll).getD ((v2.getD 4 d0).ii).toNat []).getD 0 d0).ii), .b (((((v2.getD 2 d0).ll).getD ((v2.getD 4 d0).ii).toNat []).getD 1 d0).bb), .s (((((v2.getD 2 d0).ll).getD ((v2.getD 4 d0).ii).toNat []).getD 2 d0).ss), .s (((((v2.getD 2 d0).ll).getD ((v2.getD 4 d0).ii).toNat []).getD 3 d0).ss), .sl (((((v2.getD 2 d0).ll).getD ((v2.getD 4 d0).ii).toNat []).getD 4 d0).ll), .sl (((((v2.getD 2 d0).ll).getD ((v2.getD 4 d0).ii).toNat []).getD 5 d0).ll), .sl (((((v2.getD 2 d0).ll).getD ((v2.getD 4 d0).ii).toNat []).getD 6 d0).ll), .sl (((((v2.getD 2 d0).ll).getD ((v2.getD 4 d0).ii).toNat []).getD 7 d0).ll), .sl (((((v2.getD 2 d0).ll).getD ((v2.getD 4 d0).ii).toNat []).getD 8 d0).ll), .b (((((v2.getD 2 d0).ll).getD ((v2.getD 4 d0).ii).toNat []).getD 9 d0).bb), .sl (((((v2.getD 2 d0).ll).getD ((v2.getD 4 d0).ii).toNat []).getD 10 d0).ll)]
 else
 Out.andThen (if ((v2.getD 5 d0).ii == (3 : Int)) = true then
 (r_slices_Contains_string [.sl (((((v2.getD 2 d0).ll).getD ((v2.getD 4 d0).ii).toNat []).getD 4 d0).ll), .s ((v2.getD 0 d0).ss)]).bindR fun r3 =>
 .norm [.s ((v2.getD 0 d0).ss), .sl ((v2.getD 1 d0).ll), .b ((r3.getD 0 d0).bb), .sl ((v2.getD 2 d0).ll), .i ((v2.getD 3 d0).ii), .i ((v2.getD 4 d0).ii), .i ((v2.getD 5 d0).ii), .b ((v2.getD 6 d0).bb), .s ((v2.getD 7 d0).ss), .s ((v2.getD 8 d0).ss), .sl ((v2.getD 9 d0).ll), .sl ((v2.getD 10 d0).ll), .sl ((v2.getD 11 d0).ll), .sl ((v2.getD 12 d0).ll), .sl ((v2.getD 13 d0).ll), .b ((v2.getD 14 d0).bb), .sl ((v2.getD 15 d0).ll), .i (((((v2.getD 2 d0).ll).getD ((v2.getD 4 d0).ii).toNat []).getD 0 d0).ii), .b (((((v2.getD 2 d0).ll).getD ((v2.getD 4 d0).ii).toNat []).getD 1 d0).bb), .s (((((v2.getD 2 d0).ll).getD ((v2.getD 4 d0).ii).toNat []).getD 2 d0).ss), .s (((((v2.getD 2 d0).ll).getD ((v2.getD 4 d0).ii).toNat []).getD 3 d0).ss), .sl (((((v2.getD 2 d0).ll).getD ((v2.getD 4 d0).ii).toNat []).getD 4 d0).ll), .sl (((((v2.getD 2 d0).ll).getD ((v2.getD 4 d0).ii).toNat []).getD 5 d0).ll), .sl (((((v2.getD 2 d0).ll).getD ((v2.getD 4 d0).ii).toNat []).getD 6 d0).ll), .sl (((((v2.getD 2 d0).ll).getD ((v2.getD 4 d0).ii).toNat []).getD 7 d0).ll), .sl (((((v2.getD 2 d0).ll).getD ((v2.getD 4 d0).ii).toNat []).getD 8 d0).ll), .b (((((v2.getD 2 d0).ll).getD ((v2.getD 4 d0).ii).toNat []).getD 9 d0).bb), .sl (((((v2.getD 2 d0).ll).getD ((v2.getD 4 d0).ii).toNat []).getD 10 d0).ll)]
 else
 Out.andThen (if ((v2.getD 5 d0).ii == (4 : Int)) = true then
 (r_slices_Contains_string [.sl ((v2.getD 9 d0).ll), .s (((((v2.getD 2 d0).ll).getD ((v2.getD 4 d0).ii).toNat []).getD 3 d0).ss)]).bindR fun r4 =>
 .norm [.s ((v2.getD 0 d0).ss), .sl ((v2.getD 1 d0).ll), .b ((r4.getD 0 d0).bb), .sl ((v2.getD 2 d0).ll), .i ((v2.getD 3 d0).ii), .i ((v2.getD 4 d0).ii), .i ((v2.getD 5 d0).ii), .b ((v2.getD 6 d0).bb), .s ((v2.getD 7 d0).ss), .s ((v2.getD 8 d0).ss), .sl ((v2.getD 9 d0).ll), .sl ((v2.getD 10 d0).ll), .sl ((v2.getD 11 d0).ll), .sl ((v2.getD 12 d0).ll), .sl ((v2.getD 13 d0).ll), .b ((v2.getD 14 d0).bb), .sl ((v2.getD 15 d0).ll), .i (((((v2.getD 2 d0).ll).getD ((v2.getD 4 d0).ii).toNat []).getD 0 d0).ii), .b (((((v2.getD 2 d0).ll).getD ((v2.getD 4 d0).ii).toNat []).getD 1 d0).bb), .s (((((v2.getD 2 d0).ll).getD ((v2.getD 4 d0).ii).toNat []).getD 2 d0).ss), .s (((((v2.getD 2 d0).ll).getD ((v2.getD 4 d0).ii).toNat []).getD 3 d0).ss), .sl (((((v2.getD 2 d0).ll).getD ((v2.getD 4 d0).ii).toNat []).getD 4 d0).ll), .sl (((((v2.getD 2 d0).ll).getD ((v2.getD 4 d0).ii).toNat []).getD 5 d0).ll), .sl (((((v2.getD 2 d0).ll).getD ((v2.getD 4 d0).ii).toNat []).getD 6 d0).ll), .sl (((((v2.getD 2 d0).ll).getD ((v2.getD 4 d0).ii).toNat []).getD 7 d0).ll), .sl (((((v2.getD 2 d0).ll).getD ((v2.getD 4 d0).ii).toNat []).getD 8 d0).ll), .b (((((v2.getD 2 d0).ll).getD ((v2.getD 4 d0).ii).toNat []).getD 9 d0).bb), .sl (((((v2.getD 2 d0).ll).getD ((v2.getD 4 d0).ii).toNat []).getD 10 d0).ll)]
 else
 .norm [.s ((v2.getD 0 d0).ss), .sl ((v2.getD 1 d0).ll), .b false, .sl ((v2.getD 2 d0).ll), .i ((v2.getD 3 d0).ii), .i ((v2.getD 4 d0).ii), .i ((v2.getD 5 d0).ii), .b ((v2.getD 6 d0).bb), .s ((v2.getD 7 d0).ss), .s ((v2.getD 8 d0).ss), .sl ((v2.getD 9 d0).ll), .sl ((v2.getD 10 d0).ll), .sl ((v2.getD 11 d0).ll), .sl ((v2.getD 12 d0).ll), .sl ((v2.getD 13 d0).ll), .b ((v2.getD 14 d0).bb), .sl ((v2.getD 15 d0).ll), .i (((((v2.getD 2 d0).ll).getD ((v2.getD 4 d0).ii).toNat []).getD 0 d0).ii), .b (((((v2.getD 2 d0).ll).getD ((v2.getD 4 d0).ii).toNat []).getD 1 d0).bb), .s (((((v2.getD 2 d0).ll).getD ((v2.getD 4 d0).ii).toNat []).getD 2 d0).ss), .s (((((v2.getD 2 d0).ll).getD ((v2.getD 4 d0).ii).toNat []).getD 3 d0).ss), .sl (((((v2.getD 2 d0).ll).getD ((v2.getD 4 d0).ii).toNat []).getD 4 d0).ll), .sl (((((v2.getD 2 d0).ll).getD ((v2.getD 4 d0).ii).toNat []).getD 5 d0).ll), .sl (((((v2.getD 2 d0).ll).getD ((v2.getD 4 d0).ii).toNat []).getD 6 d0).ll), .sl (((((v2.getD 2 d0).ll).getD ((v2.getD 4 d0).ii).toNat []).getD 7 d0).ll), .sl (((((v2.getD 2 d0).ll).getD ((v2.getD 4 d0).ii).toNat []).getD 8 d0).ll), .b (((((v2.getD 2 d0).ll).getD ((v2.getD 4 d0).ii).toNat []).getD 9 d0).bb), .sl (((((v2.getD 2 d0).ll).getD ((v2.getD 4 d0).ii).toNat []).getD 10 d0).ll)]) fun v5 =>
 .norm [.s ((v5.getD 0 d0).ss), .sl ((v5.getD 1 d0).ll), .b ((v5.getD 2 d0).bb), .sl ((v5.getD 3 d0).ll), .i ((v5.getD 4 d0).ii), .i ((v5.getD 5 d0).ii), .i ((v5.getD 6 d0).ii), .b ((v5.getD 7 d0).bb), .s ((v5.getD 8 d0).ss), .s ((v5.getD 9 d0).ss), .sl ((v5.getD 10 d0).ll), .sl ((v5.getD 11 d0).ll), .sl ((v5.getD 12 d0).ll), .sl ((v5.getD 13 d0).ll), .sl ((v5.getD 14 d0).ll), .b ((v5.getD 15 d0).bb), .sl ((v5.getD 16 d0).ll), .i ((v5.getD 17 d0).ii), .b ((v5.getD 18 d0).bb), .s ((v5.getD 19 d0).ss), .s ((v5.getD 20 d0).ss), .sl ((v5.getD 21 d0).ll), .sl ((v5.getD 22 d0).ll), .sl ((v5.getD 23 d0).ll), .sl ((v5.getD 24 d0).ll), .sl ((v5.getD 25 d0).ll), .b ((v5.getD 26 d0).bb), .sl ((v5.getD 27 d0).ll)]) fun v6 =>
 .norm [.s ((v6.getD 0 d0).ss), .sl ((v6.getD 1 d0).ll), .b ((v6.getD 2 d0).bb), .sl ((v6.getD 3 d0).ll), .i ((v6.getD 4 d0).ii), .i ((v6.getD 5 d0).ii), .i ((v6.getD 6 d0).ii), .b ((v6.getD 7 d0).bb), .s ((v6.getD 8 d0).ss), .s ((v6.getD 9 d0).ss), .sl ((v6.getD 10 d0).ll), .sl ((v6.getD 11 d0).ll), .sl ((v6.getD 12 d0).ll), .sl ((v6.getD 13 d0).ll), .sl ((v6.getD 14 d0).ll), .b ((v6.getD 15 d0).bb), .sl ((v6.getD 16 d0).ll), .i ((v6.getD 17 d0).ii), .b ((v6.getD 18 d0).bb), .s ((v6.getD 19 d0).ss), .s ((v6.getD 20 d0).ss), .sl ((v6.getD 21 d0).ll), .sl ((v6.getD 22 d0).ll), .sl ((v6.getD 23 d0).ll), .sl ((v6.getD 24 d0).ll), .sl ((v6.getD 25 d0).ll), .b ((v6.getD 26 d0).bb), .sl ((v6.getD 27 d0).ll)]) fun v7 =>
 .norm [.s ((v7.getD 0 d0).ss), .sl ((v7.getD 1 d0).ll), .b ((v7.getD 2 d0).bb), .sl ((v7.getD 3 d0).ll), .i ((v7.getD 4 d0).ii), .i ((v7.getD 5 d0).ii), .i ((v7.getD 6 d0).ii), .b ((v7.getD 7 d0).bb), .s ((v7.getD 8 d0).ss), .s ((v7.getD 9 d0).ss), .sl ((v7.getD 10 d0).ll), .sl ((v7.getD 11 d0).ll), .sl ((v7.getD 12 d0).ll), .sl ((v7.getD 13 d0).ll), .sl ((v7.getD 14 d0).ll), .b ((v7.getD 15 d0).bb), .sl ((v7.getD 16 d0).ll), .i ((v7.getD 17 d0).ii), .b ((v7.getD 18 d0).bb), .s ((v7.getD 19 d0).ss), .s ((v7.getD 20 d0).ss), .sl ((v7.getD 21 d0).ll), .sl ((v7.getD 22 d0).ll), .sl ((v7.getD 23 d0).ll), .sl ((v7.getD 24 d0).ll), .sl ((v7.getD 25 d0).ll), .b ((v7.getD 26 d0).bb), .sl ((v7.getD 27 d0).ll)]) 2 fun v8 =>
 Out.andThen (if (v8.getD 2 d0).bb = true then
 .norm [.s ((v8.getD 0 d0).ss), .sl ((v8.getD 1 d0).ll), .sl ((v8.getD 3 d0).ll), .i ((v8.getD 4 d0).ii), .i ((v8.getD 5 d0).ii), .b ((v8.getD 17 d0).ii == (2 : Int)), .i ((v8.getD 6 d0).ii), .b ((v8.getD 7 d0).bb), .s ((v8.getD 8 d0).ss), .s ((v8.getD 9 d0).ss), .sl ((v8.getD 10 d0).ll), .sl ((v8.getD 11 d0).ll), .sl ((v8.getD 12 d0).ll), .sl ((v8.getD 13 d0).ll), .sl ((v8.getD 14 d0).ll), .b ((v8.getD 15 d0).bb), .sl ((v8.getD 16 d0).ll), .i ((v8.getD 17 d0).ii), .b ((v8.getD 18 d0).bb), .s ((v8.getD 19 d0).ss), .s ((v8.getD 20 d0).ss), .sl ((v8.getD 21 d0).ll), .sl ((v8.getD 22 d0).ll), .sl ((v8.getD 23 d0).ll), .sl ((v8.getD 24 d0).ll), .sl ((v8.getD 25 d0).ll), .b ((v8.getD 26 d0).bb), .sl ((v8.getD 27 d0).ll)]
 else
 .norm [.s ((v8.getD 0 d0).ss), .sl ((v8.getD 1 d0).ll), .sl ((v8.getD 3 d0).ll), .i ((v8.getD 4 d0).ii), .i ((v8.getD 5 d0).ii), .b false, .i ((v8.getD 6 d0).ii), .b ((v8.getD 7 d0).bb), .s ((v8.getD 8 d0).ss), .s ((v8.getD 9 d0).ss), .sl ((v8.getD 10 d0).ll), .sl ((v8.getD 11 d0).ll), .sl ((v8.getD 12 d0).ll), .sl ((v8.getD 13 d0).ll), .sl ((v8.getD 14 d0).ll), .b ((v8.getD 15 d0).bb), .sl ((v8.getD 16 d0).ll), .i ((v8.getD 17 d0).ii), .b ((v8.getD 18 d0).bb), .s ((v8.getD 19 d0).ss), .s ((v8.getD 20 d0).ss), .sl ((v8.getD 21 d0).ll), .sl ((v8.getD 22 d0).ll), .sl ((v8.getD 23 d0).ll), .sl ((v8.getD 24 d0).ll), .sl ((v8.getD 25 d0).ll), .b ((v8.getD 26 d0).bb), .sl ((v8.getD 27 d0).ll)]) fun v9 =>
 Out.andThen (if (v9.getD 5 d0).bb = true then
 if ((v9.getD 1 d0).ll).length + [[DC.s ((v9.getD 20 d0).ss)]].length < LIM then
 .norm [.s ((v9.getD 0 d0).ss), .sl (((v9.getD 1 d0).ll) ++ [[DC.s ((v9.getD 20 d0).ss)]]), .sl ((v9.getD 2 d0).ll), .i ((v9.getD 3 d0).ii), .i ((v9.getD 4 d0).ii), .i ((v9.getD 6 d0).ii), .b ((v9.getD 7 d0).bb), .s ((v9.getD 8 d0).ss), .s ((v9.getD 9 d0).ss), .sl ((v9.getD 10 d0).ll), .sl ((v9.getD 11 d0).ll), .sl ((v9.getD 12 d0).ll), .sl ((v9.getD 13 d0).ll), .sl ((v9.getD 14 d0).ll), .b ((v9.getD 15 d0).bb), .sl ((v9.getD 16 d0).ll)]
 else
 .fail
 else
 .norm [.s ((v9.getD 0 d0).ss), .sl ((v9.getD 1 d0).ll), .sl ((v9.getD 2 d0).ll), .i ((v9.getD 3 d0).ii), .i ((v9.getD 4 d0).ii), .i ((v9.getD 6 d0).ii), .b ((v9.getD 7 d0).bb), .s ((v9.getD 8 d0).ss), .s ((v9.getD 9 d0).ss), .sl ((v9.getD 10 d0).ll), .sl ((v9.getD 11 d0).ll), .sl ((v9.getD 12 d0).ll), .sl ((v9.getD 13 d0).ll), .sl ((v9.getD 14 d0).ll), .b ((v9.getD 15 d0).bb), .sl ((v9.getD 16 d0).ll)]) fun v10 =>
 .norm [.s ((v10.getD 0 d0).ss), .sl ((v10.getD 1 d0).ll), .sl ((v10.getD 2 d0).ll), .i ((v10.getD 3 d0).ii), .i ((v10.getD 4 d0).ii), .i ((v10.getD 5 d0).ii), .b ((v10.getD 6 d0).bb), .s ((v10.getD 7 d0).ss), .s ((v10.getD 8 d0).ss), .sl ((v10.getD 9 d0).ll), .sl ((v10.getD 10 d0).ll), .sl ((v10.getD 11 d0).ll), .sl ((v10.getD 12 d0).ll), .sl ((v10.getD 13 d0).ll), .b ((v10.getD 14 d0).bb), .sl ((v10.getD 15 d0).ll)]
 else
 .fail) 1 fun v11 =>
 .norm [.s ((v11.getD 0 d0).ss), .sl ((v11.getD 1 d0).ll), .sl ((v11.getD 2 d0).ll), .i ((v11.getD 3 d0).ii), .i (IntKind.i64.wrap ((v11.getD 4 d0).ii + (1 : Int))), .i ((v11.getD 5 d0).ii), .b ((v11.getD 6 d0).bb), .s ((v11.getD 7 d0).ss), .s ((v11.getD 8 d0).ss), .sl ((v11.getD 9 d0).ll), .sl ((v11.getD 10 d0).ll), .sl ((v11.getD 11 d0).ll), .sl ((v11.getD 12 d0).ll), .sl ((v11.getD 13 d0).ll), .b ((v11.getD 14 d0).bb), .sl ((v11.getD 15 d0).ll)]
 else
 .ex 0 [.sl ((v2.getD 1 d0).ll)]
noncomputable def E_impl_PossibleOf (a : List DC) : Out :=
 (r_impl_typeDef [.sl ((a.getD 0 d0).ll), .sl ((a.getD 1 d0).ll), .sl ((a.getD 2 d0).ll), .s ((a.getD 3 d0).ss)]).bindR fun r1 =>
 Out.andThenB (Loop E_impl_PossibleOfL1 [.s ((a.getD 3 d0).ss), .sl [], .sl ((a.getD 0 d0).ll), .i (((a.getD 0 d0).ll).length : Int), .i (0 : Int), .i ((r1.getD 0 d0).ii), .b ((r1.getD 1 d0).bb), .s ((r1.getD 2 d0).ss), .s ((r1.getD 3 d0).ss), .sl ((r1.getD 4 d0).ll), .sl ((r1.getD 5 d0).ll), .sl ((r1.getD 6 d0).ll), .sl ((r1.getD 7 d0).ll), .sl ((r1.getD 8 d0).ll), .b ((r1.getD 9 d0).bb), .sl ((r1.getD 10 d0).ll)]) 0 fun v12 =>
 if ((v12.getD 0 d0).ll).length < LIM then
 if (sortD ((v12.getD 0 d0).ll)).length < LIM then
 .ret [.sl (compD (sortD ((v12.getD 0 d0).ll)))]
 else
 .fail
 else
 .fail
theorem eq_impl_PossibleOf a : r_impl_PossibleOf a = E_impl_PossibleOf a := (Run_eq cfg 15 _ a).trans (by kernel_rfl)
noncomputable def E_slices_ContainsFunc_string__impl_Overlap_1 (a : List DC) : Out :=
 (r_slices_IndexFunc_string__impl_Overlap_1 [.sl ((a.getD 0 d0).ll), .sl ((a.getD 1 d0).ll)]).bindR fun r1 =>
 .ret [.b (decide ((r1.getD 0 d0).ii ≥ (0 : Int))), .sl ((r1.getD 1 d0).ll)]
theorem eq_slices_ContainsFunc_string__impl_Overlap_1 a : r_slices_ContainsFunc_string__impl_Overlap_1 a = E_slices_ContainsFunc_string__impl_Overlap_1 a := (Run_eq cfg 16 _ a).trans (by kernel_rfl)
noncomputable def E_laws_eqDefSL1 : List DC → Out := fun v1 =>
 if (decide ((v1.getD 2 d0).ii < (((v1.getD 0 d0).ll).length : Int))) = true then
 Out.andThenB (if 62 = 62 ∧ 0 ≤ (v1.getD 2 d0).ii ∧ (v1.getD 2 d0).ii < (((v1.getD 0 d0).ll).length : Int) then
 if 62 = 62 ∧ 0 ≤ (v1.getD 2 d0).ii ∧ (v1.getD 2 d0).ii < (((v1.getD 1 d0).ll).length : Int) then
 (r_laws_eqDef [.i (((((v1.getD 0 d0).ll).getD ((v1.getD 2 d0).ii).toNat []).getD 0 d0).ii), .b (((((v1.getD 0 d0).ll).getD ((v1.getD 2 d0).ii).toNat []).getD 1 d0).bb), .s (((((v1.getD 0 d0).ll).getD ((v1.getD 2 d0).ii).toNat []).getD 2 d0).ss), .s (((((v1.getD 0 d0).ll).getD ((v1.getD 2 d0).ii).toNat []).getD 3 d0).ss), .sl (((((v1.getD 0 d0).ll).getD ((v1.getD 2 d0).ii).toNat []).getD 4 d0).ll), .sl (((((v1.getD 0 d0).ll).getD ((v1.getD 2 d0).ii).toNat []).getD 5 d0).ll), .sl (((((v1.getD 0 d0).ll).getD ((v1.getD 2 d0).ii).toNat []).getD 6 d0).ll), .sl (((((v1.getD 0 d0).ll).getD ((v1.getD 2 d0).ii).toNat []).getD 7 d0).ll), .sl (((((v1.getD 0 d0).ll).getD ((v1.getD 2 d0).ii).toNat []).getD 8 d0).ll), .b (((((v1.getD 0 d0).ll).getD ((v1.getD 2 d0).ii).toNat []).getD 9 d0).bb), .sl (((((v1.getD 0 d0).ll).getD ((v1.getD 2 d0).ii).toNat []).getD 10 d0).ll), .i (((((v1.getD 1 d0).ll).getD ((v1.getD 2 d0).ii).toNat []).getD 0 d0).ii), .b (((((v1.getD 1 d0).ll).getD ((v1.getD 2 d0).ii).toNat []).getD 1 d0).bb), .s (((((v1.getD 1 d0).ll).getD ((v1.getD 2 d0).ii).toNat []).getD 2 d0).ss), .s (((((v1.getD 1 d0).ll).getD ((v1.getD 2 d0).ii).toNat []).getD 3 d0).ss), .sl (((((v1.getD 1 d0).ll).getD ((v1.getD 2 d0).ii).toNat []).getD 4 d0).ll), .sl (((((v1.getD 1 d0).ll).getD ((v1.getD 2 d0).ii).toNat []).getD 5 d0).ll), .sl (((((v1.getD 1 d0).ll).getD ((v1.getD 2 d0).ii).toNat []).getD 6 d0).ll), .sl (((((v1.getD 1 d0).ll).getD ((v1.getD 2 d0).ii).toNat []).getD 7 d0).ll), .sl (((((v1.getD 1 d0).ll).getD ((v1.getD 2 d0).ii).toNat []).getD 8 d0).ll), .b (((((v1.getD 1 d0).ll).getD ((v1.getD 2 d0).ii).toNat []).getD 9 d0).bb), .sl (((((v1.getD 1 d0).ll).getD ((v1.getD 2 d0).ii).toNat []).getD 10 d0).ll)]).bindR fun r2 =>
 if (!((r2.getD 0 d0).bb)) = true then
 .ret [.b false]
 else
 .norm [.sl ((v1.getD 0 d0).ll), .sl ((v1.getD 1 d0).ll), .i ((v1.getD 2 d0).ii)]
 else
 .fail
 else
 .fail) 1 fun v3 =>
 .norm [.sl ((v3.getD 0 d0).ll), .sl ((v3.getD 1 d0).ll), .i (IntKind.i64.wrap ((v3.getD 2 d0).ii + (1 : Int)))]
 else
 .ex 0 []
noncomputable def E_laws_eqDefS (a : List DC) : Out :=
 if ((((a.getD 0 d0).ll).length : Int) != (((a.getD 1 d0).ll).length : Int)) = true then
 .ret [.b false]
 else
 Out.andThenB (Loop E_laws_eqDefSL1 [.sl ((a.getD 0 d0).ll), .sl ((a.getD 1 d0).ll), .i (0 : Int)]) 0 fun v4 =>
 .ret [.b true]
theorem eq_laws_eqDefS a : r_laws_eqDefS a = E_laws_eqDefS a := (Run_eq cfg 19 _ a).trans (by kernel_rfl)
noncomputable def E_laws_eqRootSL1 : List DC → Out := fun v1 =>
 if (decide ((v1.getD 2 d0).ii < (((v1.getD 0 d0).ll).length : Int))) = true then
 Out.andThenB (if 65 = 65 ∧ 0 ≤ (v1.getD 2 d0).ii ∧ (v1.getD 2 d0).ii < (((v1.getD 0 d0).ll).length : Int) then
 if 65 = 65 ∧ 0 ≤ (v1.getD 2 d0).ii ∧ (v1.getD 2 d0).ii < (((v1.getD 1 d0).ll).length : Int) then
 (r_laws_eqRoot [.i (((((v1.getD 0 d0).ll).getD ((v1.getD 2 d0).ii).toNat []).getD 0 d0).ii), .s (((((v1.getD 0 d0).ll).getD ((v1.getD 2 d0).ii).toNat []).getD 1 d0).ss), .i (((((v1.getD 1 d0).ll).getD ((v1.getD 2 d0).ii).toNat []).getD 0 d0).ii), .s (((((v1.getD 1 d0).ll).getD ((v1.getD 2 d0).ii).toNat []).getD 1 d0).ss)]).bindR fun r2 =>
 if (!((r2.getD 0 d0).bb)) = true then
 .ret [.b false]
 else
 .norm [.sl ((v1.getD 0 d0).ll), .sl ((v1.getD 1 d0).ll), .i ((v1.getD 2 d0).ii)]
 else
 .fail
 else
 .fail) 1 fun v3 =>
 .norm [.sl ((v3.getD 0 d0).ll), .sl ((v3.getD 1 d0).ll), .i (IntKind.i64.wrap ((v3.getD 2 d0).ii + (1 : Int)))]
 else
 .ex 0 []
noncomputable def E_laws_eqRootS (a : List DC) : Out :=
 if ((((a.getD 0 d0).ll).length : Int) != (((a.getD 1 d0).ll).length : Int)) = true then
 .ret [.b false]
 else
 Out.andThenB (Loop E_laws_eqRootSL1 [.sl ((a.getD 0 d0).ll), .sl ((a.getD 1 d0).ll), .i (0 : Int)]) 0 fun v4 =>
 .ret [.b true]
theorem eq_laws_eqRootS a : r_laws_eqRootS a = E_laws_eqRootS a := (Run_eq cfg 20 _ a).trans (by kernel_rfl)
noncomputable def E_laws_szDef (a : List DC) : Out :=
 if (decide ((IntKind.i64.wrap ((a.getD 11 d0).ii - (((a.getD 2 d0).ss).length : Int))) < (0 : Int))) = true then
 .ret [.i (-1 : Int)]
 else
 if (decide ((IntKind.i64.wrap ((IntKind.i64.wrap ((a.getD 11 d0).ii - (((a.getD 2 d0).ss).length : Int))) - (((a.getD 3 d0).ss).length : Int))) < (0 : Int))) = true then
 .ret [.i (-1 : Int)]
 else
 (r_laws_szStringS [.sl ((a.getD 4 d0).ll), .i (IntKind.i64.wrap ((IntKind.i64.wrap ((a.getD 11 d0).ii - (((a.getD 2 d0).ss).length : Int))) - (((a.getD 3 d0).ss).length : Int)))]).bindR fun r1 =>
 if (decide ((r1.getD 0 d0).ii < (0 : Int))) = true then
 .ret [.i (-1 : Int)]
 else
 (r_laws_szFieldDefS [.sl ((a.getD 5 d0).ll), .i ((r1.getD 0 d0).ii)]).bindR fun r2 =>
 if (decide ((r2.getD 0 d0).ii < (0 : Int))) = true then
 .ret [.i (-1 : Int)]
 else
 (r_laws_szInDefS [.sl ((a.getD 6 d0).ll), .i ((r2.getD 0 d0).ii)]).bindR fun r3 =>
 if (decide ((r3.getD 0 d0).ii < (0 : Int))) = true then
 .ret [.i (-1 : Int)]
 else
 (r_laws_szEnumDefS [.sl ((a.getD 7 d0).ll), .i ((r3.getD 0 d0).ii)]).bindR fun r4 =>
 if (decide ((r4.getD 0 d0).ii < (0 : Int))) = true then
 .ret [.i (-1 : Int)]
 else
 (r_laws_szRootS [.sl ((a.getD 8 d0).ll), .i ((r4.getD 0 d0).ii)]).bindR fun r5 =>
 if (decide ((r5.getD 0 d0).ii < (0 : Int))) = true then
 .ret [.i (-1 : Int)]
 else
 (r_laws_szDirS [.sl ((a.getD 10 d0).ll), .i ((r5.getD 0 d0).ii)]).bindR fun r6 =>
 if (decide ((r6.getD 0 d0).ii < (0 : Int))) = true then
 .ret [.i (-1 : Int)]
 else
 .ret [.i ((r6.getD 0 d0).ii)]
theorem eq_laws_szDef a : r_laws_szDef a = E_laws_szDef a := (Run_eq cfg 21 _ a).trans (by kernel_rfl)
noncomputable def E_laws_szRoot (a : List DC) : Out :=
 if (decide ((IntKind.i64.wrap ((a.getD 2 d0).ii - (((a.getD 1 d0).ss).length : Int))) < (0 : Int))) = true then
 .ret [.i (-1 : Int)]
 else
 .ret [.i (IntKind.i64.wrap ((a.getD 2 d0).ii - (((a.getD 1 d0).ss).length : Int)))]
theorem eq_laws_szRoot a : r_laws_szRoot a = E_laws_szRoot a := (Run_eq cfg 22 _ a).trans (by kernel_rfl)
noncomputable def E_laws_toDef (a : List DC) : Out :=
 (r_laws_toStringS [.sl ((a.getD 4 d0).ll)]).bindR fun r1 =>
 (r_laws_toFieldDefS [.sl ((a.getD 5 d0).ll)]).bindR fun r2 =>
 (r_laws_toInDefS [.sl ((a.getD 6 d0).ll)]).bindR fun r3 =>
 (r_laws_toEnumDefS [.sl ((a.getD 7 d0).ll)]).bindR fun r4 =>
 (r_laws_toRootS [.sl ((a.getD 8 d0).ll)]).bindR fun r5 =>
 (r_laws_toDirS [.sl ((a.getD 10 d0).ll)]).bindR fun r6 =>
 .ret [.i ((a.getD 0 d0).ii), .b ((a.getD 1 d0).bb), .s ((a.getD 2 d0).ss), .s ((a.getD 3 d0).ss), .sl ((r1.getD 0 d0).ll), .sl ((r2.getD 0 d0).ll), .sl ((r3.getD 0 d0).ll), .sl ((r4.getD 0 d0).ll), .sl ((r5.getD 0 d0).ll), .b ((a.getD 9 d0).bb), .sl ((r6.getD 0 d0).ll)]
theorem eq_laws_toDef a : r_laws_toDef a = E_laws_toDef a := (Run_eq cfg 25 _ a).trans (by kernel_rfl)
noncomputable def E_laws_toRoot (a : List DC) : Out :=
 .ret [.i ((a.getD 0 d0).ii), .s ((a.getD 1 d0).ss)]
theorem eq_laws_toRoot a : r_laws_toRoot a = E_laws_toRoot a := (Run_eq cfg 26 _ a).trans (by kernel_rfl)
noncomputable def E_spec_TypeAtL1 : List DC → Out := fun v1 =>
 Out.andThen (if (decide ((v1.getD 1 d0).ii < (((v1.getD 2 d0).ll).length : Int))) = true then
 .norm [.s ((v1.getD 0 d0).ss), .i ((v1.getD 1 d0).ii), .b (decide ((((v1.getD 2 d0).ll).length : Int) ≤ (60 : Int))), .sl ((v1.getD 2 d0).ll), .sl ((v1.getD 3 d0).ll), .sl ((v1.getD 4 d0).ll)]
 else
 .norm [.s ((v1.getD 0 d0).ss), .i ((v1.getD 1 d0).ii), .b false, .sl ((v1.getD 2 d0).ll), .sl ((v1.getD 3 d0).ll), .sl ((v1.getD 4 d0).ll)]) fun v2 =>
 if (v2.getD 2 d0).bb = true then
 Out.andThenB (if 62 = 62 ∧ 0 ≤ (v2.getD 1 d0).ii ∧ (v2.getD 1 d0).ii < (((v2.getD 3 d0).ll).length : Int) then
 if (((((v2.getD 3 d0).ll).getD ((v2.getD 1 d0).ii).toNat []).getD 3 d0).ss == (v2.getD 0 d0).ss) = true then
 .ret [.i ((v2.getD 1 d0).ii)]
 else
 .norm [.s ((v2.getD 0 d0).ss), .i ((v2.getD 1 d0).ii), .sl ((v2.getD 3 d0).ll), .sl ((v2.getD 4 d0).ll), .sl ((v2.getD 5 d0).ll)]
 else
 .fail) 1 fun v3 =>
 .norm [.s ((v3.getD 0 d0).ss), .i (IntKind.i64.wrap ((v3.getD 1 d0).ii + (1 : Int))), .sl ((v3.getD 2 d0).ll), .sl ((v3.getD 3 d0).ll), .sl ((v3.getD 4 d0).ll)]
 else
 .ex 0 []
noncomputable def E_spec_TypeAt (a : List DC) : Out :=
 Out.andThenB (Loop E_spec_TypeAtL1 [.s ((a.getD 3 d0).ss), .i (0 : Int), .sl ((a.getD 0 d0).ll), .sl ((a.getD 1 d0).ll), .sl ((a.getD 2 d0).ll)]) 0 fun v4 =>
 .ret [.i (-1 : Int)]
theorem eq_spec_TypeAt a : r_spec_TypeAt a = E_spec_TypeAt a := (Run_eq cfg 23 _ a).trans (by kernel_rfl)
noncomputable def E_spec_l18SortedL1 : List DC → Out := fun v3 =>
 Out.andThen (if (decide ((v3.getD 3 d0).ii < (((v3.getD 0 d0).ll).length : Int))) = true then
 .norm [.sl ((v3.getD 0 d0).ll), .sl ((v3.getD 1 d0).ll), .sl ((v3.getD 2 d0).ll), .i ((v3.getD 3 d0).ii), .i ((v3.getD 4 d0).ii), .b true]
 else
 .norm [.sl ((v3.getD 0 d0).ll), .sl ((v3.getD 1 d0).ll), .sl ((v3.getD 2 d0).ll), .i ((v3.getD 3 d0).ii), .i ((v3.getD 4 d0).ii), .b (decide ((v3.getD 4 d0).ii < (((v3.getD 1 d0).ll).length : Int)))]) fun v4 =>
 if (v4.getD 5 d0).bb = true then
 Out.andThenB (Out.andThen (if (decide ((v4.getD 4 d0).ii ≥ (((v4.getD 1 d0).ll).length : Int))) = true then
 .norm [.sl ((v4.getD 0 d0).ll), .sl ((v4.getD 1 d0).ll), .sl ((v4.getD 2 d0).ll), .i ((v4.getD 3 d0).ii), .i ((v4.getD 4 d0).ii), .b true]
 else
 if (decide ((v4.getD 3 d0).ii < (((v4.getD 0 d0).ll).length : Int))) = true then
 if 9 = 9 ∧ 0 ≤ (v4.getD 3 d0).ii ∧ (v4.getD 3 d0).ii < (((v4.getD 0 d0).ll).length : Int) then
 if 9 = 9 ∧ 0 ≤ (v4.getD 4 d0).ii ∧ (v4.getD 4 d0).ii < (((v4.getD 1 d0).ll).length : Int) then
 .norm [.sl ((v4.getD 0 d0).ll), .sl ((v4.getD 1 d0).ll), .sl ((v4.getD 2 d0).ll), .i ((v4.getD 3 d0).ii), .i ((v4.getD 4 d0).ii), .b (Op.bytesLess (((((v4.getD 0 d0).ll).getD ((v4.getD 3 d0).ii).toNat []).getD 0 d0).ss) (((((v4.getD 1 d0).ll).getD ((v4.getD 4 d0).ii).toNat []).getD 0 d0).ss) || ((((v4.getD 0 d0).ll).getD ((v4.getD 3 d0).ii).toNat []).getD 0 d0).ss == ((((v4.getD 1 d0).ll).getD ((v4.getD 4 d0).ii).toNat []).getD 0 d0).ss)]
 else
 .fail
 else
 .fail
 else
 .norm [.sl ((v4.getD 0 d0).ll), .sl ((v4.getD 1 d0).ll), .sl ((v4.getD 2 d0).ll), .i ((v4.getD 3 d0).ii), .i ((v4.getD 4 d0).ii), .b false]) fun v5 =>
 Out.andThen (if (v5.getD 5 d0).bb = true then
 if 9 = 9 ∧ 0 ≤ (v5.getD 3 d0).ii ∧ (v5.getD 3 d0).ii < (((v5.getD 0 d0).ll).length : Int) then
 .norm [.sl ((v5.getD 0 d0).ll), .sl ((v5.getD 1 d0).ll), .sl ((v5.getD 2 d0).ll), .i (IntKind.i64.wrap ((v5.getD 3 d0).ii + (1 : Int))), .i ((v5.getD 4 d0).ii), .s (((((v5.getD 0 d0).ll).getD ((v5.getD 3 d0).ii).toNat []).getD 0 d0).ss)]
 else
 .fail
 else
 if 9 = 9 ∧ 0 ≤ (v5.getD 4 d0).ii ∧ (v5.getD 4 d0).ii < (((v5.getD 1 d0).ll).length : Int) then
 .norm [.sl ((v5.getD 0 d0).ll), .sl ((v5.getD 1 d0).ll), .sl ((v5.getD 2 d0).ll), .i ((v5.getD 3 d0).ii), .i (IntKind.i64.wrap ((v5.getD 4 d0).ii + (1 : Int))), .s (((((v5.getD 1 d0).ll).getD ((v5.getD 4 d0).ii).toNat []).getD 0 d0).ss)]
 else
 .fail) fun v6 =>
 Out.andThen (if ((((v6.getD 2 d0).ll).length : Int) == (0 : Int)) = true then
 .norm [.sl ((v6.getD 0 d0).ll), .sl ((v6.getD 1 d0).ll), .sl ((v6.getD 2 d0).ll), .i ((v6.getD 3 d0).ii), .i ((v6.getD 4 d0).ii), .s ((v6.getD 5 d0).ss), .b true]
 else
 if 9 = 9 ∧ 0 ≤ (IntKind.i64.wrap ((((v6.getD 2 d0).ll).length : Int) - (1 : Int))) ∧ (IntKind.i64.wrap ((((v6.getD 2 d0).ll).length : Int) - (1 : Int))) < (((v6.getD 2 d0).ll).length : Int) then
 .norm [.sl ((v6.getD 0 d0).ll), .sl ((v6.getD 1 d0).ll), .sl ((v6.getD 2 d0).ll), .i ((v6.getD 3 d0).ii), .i ((v6.getD 4 d0).ii), .s ((v6.getD 5 d0).ss), .b (!(((((v6.getD 2 d0).ll).getD (IntKind.i64.wrap ((((v6.getD 2 d0).ll).length : Int) - (1 : Int))).toNat []).getD 0 d0).ss == (v6.getD 5 d0).ss))]
 else
 .fail) fun v7 =>
 Out.andThen (if (v7.getD 6 d0).bb = true then
 if ((v7.getD 2 d0).ll).length + [[DC.s ((v7.getD 5 d0).ss)]].length < LIM then
 .norm [.sl ((v7.getD 0 d0).ll), .sl ((v7.getD 1 d0).ll), .sl (((v7.getD 2 d0).ll) ++ [[DC.s ((v7.getD 5 d0).ss)]]), .i ((v7.getD 3 d0).ii), .i ((v7.getD 4 d0).ii)]
 else
 .fail
 else
 .norm [.sl ((v7.getD 0 d0).ll), .sl ((v7.getD 1 d0).ll), .sl ((v7.getD 2 d0).ll), .i ((v7.getD 3 d0).ii), .i ((v7.getD 4 d0).ii)]) fun v8 =>
 .norm [.sl ((v8.getD 0 d0).ll), .sl ((v8.getD 1 d0).ll), .sl ((v8.getD 2 d0).ll), .i ((v8.getD 3 d0).ii), .i ((v8.getD 4 d0).ii)]) 1 fun v9 =>
 .norm [.sl ((v9.getD 0 d0).ll), .sl ((v9.getD 1 d0).ll), .sl ((v9.getD 2 d0).ll), .i ((v9.getD 3 d0).ii), .i ((v9.getD 4 d0).ii)]
 else
 .ex 0 [.sl ((v4.getD 2 d0).ll)]
noncomputable def E_spec_l18Sorted (a : List DC) : Out :=
 if (decide ((((a.getD 0 d0).ll).length : Int) < (2 : Int))) = true then
 if ([] : List (List DC)).length + ((a.getD 0 d0).ll).length < LIM then
 .ret [.sl (([] : List (List DC)) ++ ((a.getD 0 d0).ll))]
 else
 .fail
 else
 if (2 : Int) = 0 then
 .fail
 else
 if 0 ≤ (IntKind.i64.wrap ((((a.getD 0 d0).ll).length : Int).tdiv (2 : Int))) ∧ (IntKind.i64.wrap ((((a.getD 0 d0).ll).length : Int).tdiv (2 : Int))) ≤ (((a.getD 0 d0).ll).length : Int) then
 (r_spec_l18Sorted [.sl (((a.getD 0 d0).ll).take (IntKind.i64.wrap ((((a.getD 0 d0).ll).length : Int).tdiv (2 : Int))).toNat)]).bindR fun r1 =>
 if (2 : Int) = 0 then
 .fail
 else
 if 0 ≤ (IntKind.i64.wrap ((((a.getD 0 d0).ll).length : Int).tdiv (2 : Int))) ∧ (IntKind.i64.wrap ((((a.getD 0 d0).ll).length : Int).tdiv (2 : Int))) ≤ (((a.getD 0 d0).ll).length : Int) then
 (r_spec_l18Sorted [.sl (((a.getD 0 d0).ll).drop (IntKind.i64.wrap ((((a.getD 0 d0).ll).length : Int).tdiv (2 : Int))).toNat)]).bindR fun r2 =>
 Out.andThenB (Loop E_spec_l18SortedL1 [.sl ((r1.getD 0 d0).ll), .sl ((r2.getD 0 d0).ll), .sl [], .i (0 : Int), .i (0 : Int)]) 0 fun v10 =>
 .ret [.sl ((v10.getD 0 d0).ll)]
 else
 .fail
 else
 .fail
theorem eq_spec_l18Sorted a : r_spec_l18Sorted a = E_spec_l18Sorted a := (Run_eq cfg 24 _ a).trans (by kernel_rfl)
noncomputable def E_impl_typeDef (a : List DC) : Out :=
 (r_impl_TypeAt [.sl ((a.getD 0 d0).ll), .sl ((a.getD 1 d0).ll), .sl ((a.getD 2 d0).ll), .s ((a.getD 3 d0).ss)]).bindR fun r1 =>
 if (decide ((r1.getD 0 d0).ii < (0 : Int))) = true then
 .ret [.i (0 : Int), .b false, .s [], .s [], .sl [], .sl [], .sl [], .sl [], .sl [], .b false, .sl [], .b false]
 else
 if 62 = 62 ∧ 0 ≤ (r1.getD 0 d0).ii ∧ (r1.getD 0 d0).ii < (((a.getD 0 d0).ll).length : Int) then
 .ret [.i (((((a.getD 0 d0).ll).getD ((r1.getD 0 d0).ii).toNat []).getD 0 d0).ii), .b (((((a.getD 0 d0).ll).getD ((r1.getD 0 d0).ii).toNat []).getD 1 d0).bb), .s (((((a.getD 0 d0).ll).getD ((r1.getD 0 d0).ii).toNat []).getD 2 d0).ss), .s (((((a.getD 0 d0).ll).getD ((r1.getD 0 d0).ii).toNat []).getD 3 d0).ss), .sl (((((a.getD 0 d0).ll).getD ((r1.getD 0 d0).ii).toNat []).getD 4 d0).ll), .sl (((((a.getD 0 d0).ll).getD ((r1.getD 0 d0).ii).toNat []).getD 5 d0).ll), .sl (((((a.getD 0 d0).ll).getD ((r1.getD 0 d0).ii).toNat []).getD 6 d0).ll), .sl (((((a.getD 0 d0).ll).getD ((r1.getD 0 d0).ii).toNat []).getD 7 d0).ll), .sl (((((a.getD 0 d0).ll).getD ((r1.getD 0 d0).ii).toNat []).getD 8 d0).ll), .b (((((a.getD 0 d0).ll).getD ((r1.getD 0 d0).ii).toNat []).getD 9 d0).bb), .sl (((((a.getD 0 d0).ll).getD ((r1.getD 0 d0).ii).toNat []).getD 10 d0).ll), .b true]
 else
 .fail
theorem eq_impl_typeDef a : r_impl_typeDef a = E_impl_typeDef a := (Run_eq cfg 27 _ a).trans (by kernel_rfl)
noncomputable def E_slices_Contains_string (a : List DC) : Out :=
 (r_slices_Index_string [.sl ((a.getD 0 d0).ll), .s ((a.getD 1 d0).ss)]).bindR fun r1 =>
 .ret [.b (decide ((r1.getD 0 d0).ii ≥ (0 : Int)))]
theorem eq_slices_Contains_string a : r_slices_Contains_string a = E_slices_Contains_string a := (Run_eq cfg 18 _ a).trans (by kernel_rfl)
noncomputable def E_slices_IndexFunc_string__impl_Overlap_1L1 : List DC → Out := fun v1 =>
 if (decide ((v1.getD 2 d0).ii < (v1.getD 1 d0).ii)) = true then
 Out.andThenB (if 9 = 9 ∧ 0 ≤ (v1.getD 2 d0).ii ∧ (v1.getD 2 d0).ii < (((v1.getD 0 d0).ll).length : Int) then
 (r_impl_Overlap_1 [.s (((((v1.getD 0 d0).ll).getD ((v1.getD 2 d0).ii).toNat []).getD 0 d0).ss), .sl ((v1.getD 3 d0).ll)]).bindR fun r2 =>
 if (r2.getD 0 d0).bb = true then
 .ret [.i ((v1.getD 2 d0).ii), .sl ((r2.getD 1 d0).ll)]
 else
 .norm [.sl ((v1.getD 0 d0).ll), .i ((v1.getD 1 d0).ii), .i ((v1.getD 2 d0).ii), .sl ((r2.getD 1 d0).ll)]
 else
 .fail) 1 fun v3 =>
 .norm [.sl ((v3.getD 0 d0).ll), .i ((v3.getD 1 d0).ii), .i (IntKind.i64.wrap ((v3.getD 2 d0).ii + (1 : Int))), .sl ((v3.getD 3 d0).ll)]
 else
 .ex 0 [.sl ((v1.getD 3 d0).ll)]
noncomputable def E_slices_IndexFunc_string__impl_Overlap_1 (a : List DC) : Out :=
 Out.andThenB (Loop E_slices_IndexFunc_string__impl_Overlap_1L1 [.sl ((a.getD 0 d0).ll), .i (((a.getD 0 d0).ll).length : Int), .i (0 : Int), .sl ((a.getD 1 d0).ll)]) 0 fun v4 =>
 .ret [.i (-1 : Int), .sl ((v4.getD 0 d0).ll)]
theorem eq_slices_IndexFunc_string__impl_Overlap_1 a : r_slices_IndexFunc_string__impl_Overlap_1 a = E_slices_IndexFunc_string__impl_Overlap_1 a := (Run_eq cfg 30 _ a).trans (by kernel_rfl)
noncomputable def E_laws_eqDef (a : List DC) : Out :=
 if ((a.getD 0 d0).ii != (a.getD 11 d0).ii) = true then
 .ret [.b false]
 else
 if (!((a.getD 1 d0).bb == (a.getD 12 d0).bb)) = true then
 .ret [.b false]
 else
 if (!((a.getD 2 d0).ss == (a.getD 13 d0).ss)) = true then
 .ret [.b false]
 else
 if (!((a.getD 3 d0).ss == (a.getD 14 d0).ss)) = true then
 .ret [.b false]
 else
 (r_laws_eqStringS [.sl ((a.getD 4 d0).ll), .sl ((a.getD 15 d0).ll)]).bindR fun r1 =>
 if (!((r1.getD 0 d0).bb)) = true then
 .ret [.b false]
 else
 (r_laws_eqFieldDefS [.sl ((a.getD 5 d0).ll), .sl ((a.getD 16 d0).ll)]).bindR fun r2 =>
 if (!((r2.getD 0 d0).bb)) = true then
 .ret [.b false]
 else
 (r_laws_eqInDefS [.sl ((a.getD 6 d0).ll), .sl ((a.getD 17 d0).ll)]).bindR fun r3 =>
 if (!((r3.getD 0 d0).bb)) = true then
 .ret [.b false]
 else
 (r_laws_eqEnumDefS [.sl ((a.getD 7 d0).ll), .sl ((a.getD 18 d0).ll)]).bindR fun r4 =>
 if (!((r4.getD 0 d0).bb)) = true then
 .ret [.b false]
 else
 (r_laws_eqRootS [.sl ((a.getD 8 d0).ll), .sl ((a.getD 19 d0).ll)]).bindR fun r5 =>
 if (!((r5.getD 0 d0).bb)) = true then
 .ret [.b false]
 else
 if (!((a.getD 9 d0).bb == (a.getD 20 d0).bb)) = true then
 .ret [.b false]
 else
 (r_laws_eqDirS [.sl ((a.getD 10 d0).ll), .sl ((a.getD 21 d0).ll)]).bindR fun r6 =>
 if (!((r6.getD 0 d0).bb)) = true then
 .ret [.b false]
 else
 .ret [.b true]
theorem eq_laws_eqDef a : r_laws_eqDef a = E_laws_eqDef a := (Run_eq cfg 32 _ a).trans (by kernel_rfl)
noncomputable def E_laws_eqRoot (a : List DC) : Out :=
 if ((a.getD 0 d0).ii != (a.getD 2 d0).ii) = true then
 .ret [.b false]
 else
 if (!((a.getD 1 d0).ss == (a.getD 3 d0).ss)) = true then
 .ret [.b false]
 else
 .ret [.b true]
theorem eq_laws_eqRoot a : r_laws_eqRoot a = E_laws_eqRoot a := (Run_eq cfg 33 _ a).trans (by kernel_rfl)
noncomputable def E_laws_szStringSL1 : List DC → Out := fun v1 =>
 if (decide ((v1.getD 2 d0).ii < (((v1.getD 0 d0).ll).length : Int))) = true then
 Out.andThenB (if 9 = 9 ∧ 0 ≤ (v1.getD 2 d0).ii ∧ (v1.getD 2 d0).ii < (((v1.getD 0 d0).ll).length : Int) then
 if (decide ((IntKind.i64.wrap ((v1.getD 1 d0).ii - ((((((v1.getD 0 d0).ll).getD ((v1.getD 2 d0).ii).toNat []).getD 0 d0).ss).length : Int))) < (0 : Int))) = true then
 .ret [.i (-1 : Int)]
 else
 .norm [.sl ((v1.getD 0 d0).ll), .i (IntKind.i64.wrap ((v1.getD 1 d0).ii - ((((((v1.getD 0 d0).ll).getD ((v1.getD 2 d0).ii).toNat []).getD 0 d0).ss).length : Int))), .i ((v1.getD 2 d0).ii)]
 else
 .fail) 1 fun v2 =>
 .norm [.sl ((v2.getD 0 d0).ll), .i ((v2.getD 1 d0).ii), .i (IntKind.i64.wrap ((v2.getD 2 d0).ii + (1 : Int)))]
 else
 .ex 0 [.i ((v1.getD 1 d0).ii)]
noncomputable def E_laws_szStringS (a : List DC) : Out :=
 if (decide ((IntKind.i64.wrap ((a.getD 1 d0).ii - (((a.getD 0 d0).ll).length : Int))) < (0 : Int))) = true then
 .ret [.i (-1 : Int)]
 else
 Out.andThenB (Loop E_laws_szStringSL1 [.sl ((a.getD 0 d0).ll), .i (IntKind.i64.wrap ((a.getD 1 d0).ii - (((a.getD 0 d0).ll).length : Int))), .i (0 : Int)]) 0 fun v3 =>
 .ret [.i ((v3.getD 0 d0).ii)]
theorem eq_laws_szStringS a : r_laws_szStringS a = E_laws_szStringS a := (Run_eq cfg 34 _ a).trans (by kernel_rfl)
noncomputable def E_laws_szFieldDefSL1 : List DC → Out := fun v1 =>
 if (decide ((v1.getD 2 d0).ii < (((v1.getD 0 d0).ll).length : Int))) = true then
 Out.andThenB (if 95 = 95 ∧ 0 ≤ (v1.getD 2 d0).ii ∧ (v1.getD 2 d0).ii < (((v1.getD 0 d0).ll).length : Int) then
 (r_laws_szFieldDef [.s (((((v1.getD 0 d0).ll).getD ((v1.getD 2 d0).ii).toNat []).getD 0 d0).ss), .s (((((v1.getD 0 d0).ll).getD ((v1.getD 2 d0).ii).toNat []).getD 1 d0).ss), .sl (((((v1.getD 0 d0).ll).getD ((v1.getD 2 d0).ii).toNat []).getD 2 d0).ll), .s (((((v1.getD 0 d0).ll).getD ((v1.getD 2 d0).ii).toNat []).getD 3 d0).ss), .s (((((v1.getD 0 d0).ll).getD ((v1.getD 2 d0).ii).toNat []).getD 4 d0).ss), .sl (((((v1.getD 0 d0).ll).getD ((v1.getD 2 d0).ii).toNat []).getD 5 d0).ll), .i ((v1.getD 1 d0).ii)]).bindR fun r2 =>
 if (decide ((r2.getD 0 d0).ii < (0 : Int))) = true then
 .ret [.i (-1 : Int)]
 else
 .norm [.sl ((v1.getD 0 d0).ll), .i ((r2.getD 0 d0).ii), .i ((v1.getD 2 d0).ii)]
 else
 .fail) 1 fun v3 =>
 .norm [.sl ((v3.getD 0 d0).ll), .i ((v3.getD 1 d0).ii), .i (IntKind.i64.wrap ((v3.getD 2 d0).ii + (1 : Int)))]
 else
 .ex 0 [.i ((v1.getD 1 d0).ii)]
noncomputable def E_laws_szFieldDefS (a : List DC) : Out :=
 if (decide ((IntKind.i64.wrap ((a.getD 1 d0).ii - (((a.getD 0 d0).ll).length : Int))) < (0 : Int))) = true then
 .ret [.i (-1 : Int)]
 else
 Out.andThenB (Loop E_laws_szFieldDefSL1 [.sl ((a.getD 0 d0).ll), .i (IntKind.i64.wrap ((a.getD 1 d0).ii - (((a.getD 0 d0).ll).length : Int))), .i (0 : Int)]) 0 fun v4 =>
 .ret [.i ((v4.getD 0 d0).ii)]
theorem eq_laws_szFieldDefS a : r_laws_szFieldDefS a = E_laws_szFieldDefS a := (Run_eq cfg 35 _ a).trans (by kernel_rfl)
noncomputable def E_laws_szInDefSL1 : List DC → Out := fun v1 =>
 if (decide ((v1.getD 2 d0).ii < (((v1.getD 0 d0).ll).length : Int))) = true then
 Out.andThenB (if 101 = 101 ∧ 0 ≤ (v1.getD 2 d0).ii ∧ (v1.getD 2 d0).ii < (((v1.getD 0 d0).ll).length : Int) then
 (r_laws_szInDef [.s (((((v1.getD 0 d0).ll).getD ((v1.getD 2 d0).ii).toNat []).getD 0 d0).ss), .s (((((v1.getD 0 d0).ll).getD ((v1.getD 2 d0).ii).toNat []).getD 1 d0).ss), .s (((((v1.getD 0 d0).ll).getD ((v1.getD 2 d0).ii).toNat []).getD 2 d0).ss), .s (((((v1.getD 0 d0).ll).getD ((v1.getD 2 d0).ii).toNat []).getD 3 d0).ss), .b (((((v1.getD 0 d0).ll).getD ((v1.getD 2 d0).ii).toNat []).getD 4 d0).bb), .i (((((v1.getD 0 d0).ll).getD ((v1.getD 2 d0).ii).toNat []).getD 5 d0).ii), .s (((((v1.getD 0 d0).ll).getD ((v1.getD 2 d0).ii).toNat []).getD 6 d0).ss), .sl (((((v1.getD 0 d0).ll).getD ((v1.getD 2 d0).ii).toNat []).getD 7 d0).ll), .sl (((((v1.getD 0 d0).ll).getD ((v1.getD 2 d0).ii).toNat []).getD 8 d0).ll), .sl (((((v1.getD 0 d0).ll).getD ((v1.getD 2 d0).ii).toNat []).getD 9 d0).ll), .i ((v1.getD 1 d0).ii)]).bindR fun r2 =>
 if (decide ((r2.getD 0 d0).ii < (0 : Int))) = true then
 .ret [.i (-1 : Int)]
 else
 .norm [.sl ((v1.getD 0 d0).ll), .i ((r2.getD 0 d0).ii), .i ((v1.getD 2 d0).ii)]
 else
 .fail) 1 fun v3 =>
 .norm [.sl ((v3.getD 0 d0).ll), .i ((v3.getD 1 d0).ii), .i (IntKind.i64.wrap ((v3.getD 2 d0).ii + (1 : Int)))]
 else
 .ex 0 [.i ((v1.getD 1 d0).ii)]
noncomputable def E_laws_szInDefS (a : List DC) : Out :=
 if (decide ((IntKind.i64.wrap ((a.getD 1 d0).ii - (((a.getD 0 d0).ll).length : Int))) < (0 : Int))) = true then
 .ret [.i (-1 : Int)]
 else
 Out.andThenB (Loop E_laws_szInDefSL1 [.sl ((a.getD 0 d0).ll), .i (IntKind.i64.wrap ((a.getD 1 d0).ii - (((a.getD 0 d0).ll).length : Int))), .i (0 : Int)]) 0 fun v4 =>
 .ret [.i ((v4.getD 0 d0).ii)]
theorem eq_laws_szInDefS a : r_laws_szInDefS a = E_laws_szInDefS a := (Run_eq cfg 36 _ a).trans (by kernel_rfl)
noncomputable def E_laws_szEnumDefSL1 : List DC → Out := fun v1 =>
 if (decide ((v1.getD 2 d0).ii < (((v1.getD 0 d0).ll).length : Int))) = true then
 Out.andThenB (if 104 = 104 ∧ 0 ≤ (v1.getD 2 d0).ii ∧ (v1.getD 2 d0).ii < (((v1.getD 0 d0).ll).length : Int) then
 (r_laws_szEnumDef [.s (((((v1.getD 0 d0).ll).getD ((v1.getD 2 d0).ii).toNat []).getD 0 d0).ss), .s (((((v1.getD 0 d0).ll).getD ((v1.getD 2 d0).ii).toNat []).getD 1 d0).ss), .sl (((((v1.getD 0 d0).ll).getD ((v1.getD 2 d0).ii).toNat []).getD 2 d0).ll), .i ((v1.getD 1 d0).ii)]).bindR fun r2 =>
 if (decide ((r2.getD 0 d0).ii < (0 : Int))) = true then
 .ret [.i (-1 : Int)]
 else
 .norm [.sl ((v1.getD 0 d0).ll), .i ((r2.getD 0 d0).ii), .i ((v1.getD 2 d0).ii)]
 else
 .fail) 1 fun v3 =>
 .norm [.sl ((v3.getD 0 d0).ll), .i ((v3.getD 1 d0).ii), .i (IntKind.i64.wrap ((v3.getD 2 d0).ii + (1 : Int)))]
 else
 .ex 0 [.i ((v1.getD 1 d0).ii)]
noncomputable def E_laws_szEnumDefS (a : List DC) : Out :=
 if (decide ((IntKind.i64.wrap ((a.getD 1 d0).ii - (((a.getD 0 d0).ll).length : Int))) < (0 : Int))) = true then
 .ret [.i (-1 : Int)]
 else
 Out.andThenB (Loop E_laws_szEnumDefSL1 [.sl ((a.getD 0 d0).ll), .i (IntKind.i64.wrap ((a.getD 1 d0).ii - (((a.getD 0 d0).ll).length : Int))), .i (0 : Int)]) 0 fun v4 =>
 .ret [.i ((v4.getD 0 d0).ii)]
theorem eq_laws_szEnumDefS a : r_laws_szEnumDefS a = E_laws_szEnumDefS a := (Run_eq cfg 37 _ a).trans (by kernel_rfl)
noncomputable def E_laws_szDirSL1 : List DC → Out := fun v1 =>
 if (decide ((v1.getD 2 d0).ii < (((v1.getD 0 d0).ll).length : Int))) = true then
 Out.andThenB (if 108 = 108 ∧ 0 ≤ (v1.getD 2 d0).ii ∧ (v1.getD 2 d0).ii < (((v1.getD 0 d0).ll).length : Int) then
 (r_laws_szDir [.s (((((v1.getD 0 d0).ll).getD ((v1.getD 2 d0).ii).toNat []).getD 0 d0).ss), .sl (((((v1.getD 0 d0).ll).getD ((v1.getD 2 d0).ii).toNat []).getD 1 d0).ll), .i ((v1.getD 1 d0).ii)]).bindR fun r2 =>
 if (decide ((r2.getD 0 d0).ii < (0 : Int))) = true then
 .ret [.i (-1 : Int)]
 else
 .norm [.sl ((v1.getD 0 d0).ll), .i ((r2.getD 0 d0).ii), .i ((v1.getD 2 d0).ii)]
 else
 .fail) 1 fun v3 =>
 .norm [.sl ((v3.getD 0 d0).ll), .i ((v3.getD 1 d0).ii), .i (IntKind.i64.wrap ((v3.getD 2 d0).ii + (1 : Int)))]
 else
 .ex 0 [.i ((v1.getD 1 d0).ii)]
noncomputable def E_laws_szDirS (a : List DC) : Out :=
 if (decide ((IntKind.i64.wrap ((a.getD 1 d0).ii - (((a.getD 0 d0).ll).length : Int))) < (0 : Int))) = true then
 .ret [.i (-1 : Int)]
 else
 Out.andThenB (Loop E_laws_szDirSL1 [.sl ((a.getD 0 d0).ll), .i (IntKind.i64.wrap ((a.getD 1 d0).ii - (((a.getD 0 d0).ll).length : Int))), .i (0 : Int)]) 0 fun v4 =>
 .ret [.i ((v4.getD 0 d0).ii)]
theorem eq_laws_szDirS a : r_laws_szDirS a = E_laws_szDirS a := (Run_eq cfg 38 _ a).trans (by kernel_rfl)
noncomputable def E_laws_toStringSL1 : List DC → Out := fun v1 =>
 if (decide ((v1.getD 2 d0).ii < (((v1.getD 0 d0).ll).length : Int))) = true then
 Out.andThenB (if 9 = 9 ∧ 0 ≤ (v1.getD 2 d0).ii ∧ (v1.getD 2 d0).ii < (((v1.getD 0 d0).ll).length : Int) then
 if 9 = 9 ∧ 0 ≤ (v1.getD 2 d0).ii ∧ (v1.getD 2 d0).ii < (((v1.getD 1 d0).ll).length : Int) then
 .norm [.sl ((v1.getD 0 d0).ll), .sl (((v1.getD 1 d0).ll).set (((v1.getD 2 d0).ii).toNat) (setRunD (((v1.getD 1 d0).ll).getD (((v1.getD 2 d0).ii).toNat) []) 0 [DC.s (((((v1.getD 0 d0).ll).getD ((v1.getD 2 d0).ii).toNat []).getD 0 d0).ss)])), .i ((v1.getD 2 d0).ii)]
 else
 .fail
 else
 .fail) 1 fun v2 =>
 .norm [.sl ((v2.getD 0 d0).ll), .sl ((v2.getD 1 d0).ll), .i (IntKind.i64.wrap ((v2.getD 2 d0).ii + (1 : Int)))]
 else
 .ex 0 [.sl ((v1.getD 1 d0).ll)]
noncomputable def E_laws_toStringS (a : List DC) : Out :=
 if 0 ≤ (((a.getD 0 d0).ll).length : Int) ∧ (((a.getD 0 d0).ll).length : Int) < (LIM : Int) ∧ (((a.getD 0 d0).ll).length : Int) = (((a.getD 0 d0).ll).length : Int) ∧ 16 ≤ 1024 ∧ 0 < 1 ∧ dp 9 = false then
 Out.andThenB (Loop E_laws_toStringSL1 [.sl ((a.getD 0 d0).ll), .sl (List.replicate (((a.getD 0 d0).ll).length : Int).toNat [DC.s []]), .i (0 : Int)]) 0 fun v3 =>
 .ret [.sl ((v3.getD 0 d0).ll)]
 else
 .fail
theorem eq_laws_toStringS a : r_laws_toStringS a = E_laws_toStringS a := (Run_eq cfg 39 _ a).trans (by kernel_rfl)
noncomputable def E_laws_toFieldDefSL1 : List DC → Out := fun v1 =>
 if (decide ((v1.getD 2 d0).ii < (((v1.getD 0 d0).ll).length : Int))) = true then
 Out.andThenB (if 95 = 95 ∧ 0 ≤ (v1.getD 2 d0).ii ∧ (v1.getD 2 d0).ii < (((v1.getD 0 d0).ll).length : Int) then
 (r_laws_toFieldDef [.s (((((v1.getD 0 d0).ll).getD ((v1.getD 2 d0).ii).toNat []).getD 0 d0).ss), .s (((((v1.getD 0 d0).ll).getD ((v1.getD 2 d0).ii).toNat []).getD 1 d0).ss), .sl (((((v1.getD 0 d0).ll).getD ((v1.getD 2 d0).ii).toNat []).getD 2 d0).ll), .s (((((v1.getD 0 d0).ll).getD ((v1.getD 2 d0).ii).toNat []).getD 3 d0).ss), .s (((((v1.getD 0 d0).ll).getD ((v1.getD 2 d0).ii).toNat []).getD 4 d0).ss), .sl (((((v1.getD 0 d0).ll).getD ((v1.getD 2 d0).ii).toNat []).getD 5 d0).ll)]).bindR fun r2 =>
 if 111 = 111 ∧ 0 ≤ (v1.getD 2 d0).ii ∧ (v1.getD 2 d0).ii < (((v1.getD 1 d0).ll).length : Int) then
 .norm [.sl ((v1.getD 0 d0).ll), .sl (((v1.getD 1 d0).ll).set (((v1.getD 2 d0).ii).toNat) (setRunD (((v1.getD 1 d0).ll).getD (((v1.getD 2 d0).ii).toNat) []) 0 [DC.s ((r2.getD 0 d0).ss), DC.s ((r2.getD 1 d0).ss), DC.sl ((r2.getD 2 d0).ll), DC.s ((r2.getD 3 d0).ss), DC.s ((r2.getD 4 d0).ss), DC.sl ((r2.getD 5 d0).ll)])), .i ((v1.getD 2 d0).ii)]
 else
 .fail
 else
 .fail) 1 fun v3 =>
 .norm [.sl ((v3.getD 0 d0).ll), .sl ((v3.getD 1 d0).ll), .i (IntKind.i64.wrap ((v3.getD 2 d0).ii + (1 : Int)))]
 else
 .ex 0 [.sl ((v1.getD 1 d0).ll)]
noncomputable def E_laws_toFieldDefS (a : List DC) : Out :=
 if 0 ≤ (((a.getD 0 d0).ll).length : Int) ∧ (((a.getD 0 d0).ll).length : Int) < (LIM : Int) ∧ (((a.getD 0 d0).ll).length : Int) = (((a.getD 0 d0).ll).length : Int) ∧ 112 ≤ 1024 ∧ 0 < 6 ∧ dp 111 = false then
 Out.andThenB (Loop E_laws_toFieldDefSL1 [.sl ((a.getD 0 d0).ll), .sl (List.replicate (((a.getD 0 d0).ll).length : Int).toNat [DC.s [], DC.s [], DC.sl [], DC.s [], DC.s [], DC.sl []]), .i (0 : Int)]) 0 fun v4 =>
 .ret [.sl ((v4.getD 0 d0).ll)]
 else
 .fail
theorem eq_laws_toFieldDefS a : r_laws_toFieldDefS a = E_laws_toFieldDefS a := (Run_eq cfg 40 _ a).trans (by kernel_rfl)
noncomputable def E_laws_toInDefSL1 : List DC → Out := fun v1 =>
 if (decide ((v1.getD 2 d0).ii < (((v1.getD 0 d0).ll).length : Int))) = true then
 Out.andThenB (if 101 = 101 ∧ 0 ≤ (v1.getD 2 d0).ii ∧ (v1.getD 2 d0).ii < (((v1.getD 0 d0).ll).length : Int) then
 (r_laws_toInDef [.s (((((v1.getD 0 d0).ll).getD ((v1.getD 2 d0).ii).toNat []).getD 0 d0).ss), .s (((((v1.getD 0 d0).ll).getD ((v1.getD 2 d0).ii).toNat []).getD 1 d0).ss), .s (((((v1.getD 0 d0).ll).getD ((v1.getD 2 d0).ii).toNat []).getD 2 d0).ss), .s (((((v1.getD 0 d0).ll).getD ((v1.getD 2 d0).ii).toNat []).getD 3 d0).ss), .b (((((v1.getD 0 d0).ll).getD ((v1.getD 2 d0).ii).toNat []).getD 4 d0).bb), .i (((((v1.getD 0 d0).ll).getD ((v1.getD 2 d0).ii).toNat []).getD 5 d0).ii), .s (((((v1.getD 0 d0).ll).getD ((v1.getD 2 d0).ii).toNat []).getD 6 d0).ss), .sl (((((v1.getD 0 d0).ll).getD ((v1.getD 2 d0).ii).toNat []).getD 7 d0).ll), .sl (((((v1.getD 0 d0).ll).getD ((v1.getD 2 d0).ii).toNat []).getD 8 d0).ll), .sl (((((v1.getD 0 d0).ll).getD ((v1.getD 2 d0).ii).toNat []).getD 9 d0).ll)]).bindR fun r2 =>
 if 117 = 117 ∧ 0 ≤ (v1.getD 2 d0).ii ∧ (v1.getD 2 d0).ii < (((v1.getD 1 d0).ll).length : Int) then
 .norm [.sl ((v1.getD 0 d0).ll), .sl (((v1.getD 1 d0).ll).set (((v1.getD 2 d0).ii).toNat) (setRunD (((v1.getD 1 d0).ll).getD (((v1.getD 2 d0).ii).toNat) []) 0 [DC.s ((r2.getD 0 d0).ss), DC.s ((r2.getD 1 d0).ss), DC.s ((r2.getD 2 d0).ss), DC.s ((r2.getD 3 d0).ss), DC.b ((r2.getD 4 d0).bb), DC.i ((r2.getD 5 d0).ii), DC.s ((r2.getD 6 d0).ss), DC.sl ((r2.getD 7 d0).ll), DC.sl ((r2.getD 8 d0).ll), DC.sl ((r2.getD 9 d0).ll)])), .i ((v1.getD 2 d0).ii)]
 else
 .fail
 else
 .fail) 1 fun v3 =>
 .norm [.sl ((v3.getD 0 d0).ll), .sl ((v3.getD 1 d0).ll), .i (IntKind.i64.wrap ((v3.getD 2 d0).ii + (1 : Int)))]
 else
 .ex 0 [.sl ((v1.getD 1 d0).ll)]
noncomputable def E_laws_toInDefS (a : List DC) : Out :=
 if 0 ≤ (((a.getD 0 d0).ll).length : Int) ∧ (((a.getD 0 d0).ll).length : Int) < (LIM : Int) ∧ (((a.getD 0 d0).ll).length : Int) = (((a.getD 0 d0).ll).length : Int) ∧ 168 ≤ 1024 ∧ 0 < 10 ∧ dp 117 = false then
 Out.andThenB (Loop E_laws_toInDefSL1 [.sl ((a.getD 0 d0).ll), .sl (List.replicate (((a.getD 0 d0).ll).length : Int).toNat [DC.s [], DC.s [], DC.s [], DC.s [], DC.b false, DC.i 0, DC.s [], DC.sl [], DC.sl [], DC.sl []]), .i (0 : Int)]) 0 fun v4 =>
 .ret [.sl ((v4.getD 0 d0).ll)]
 else
 .fail
theorem eq_laws_toInDefS a : r_laws_toInDefS a = E_laws_toInDefS a := (Run_eq cfg 41 _ a).trans (by kernel_rfl)
noncomputable def E_laws_toEnumDefSL1 : List DC → Out := fun v1 =>
 if (decide ((v1.getD 2 d0).ii < (((v1.getD 0 d0).ll).length : Int))) = true then
 Out.andThenB (if 104 = 104 ∧ 0 ≤ (v1.getD 2 d0).ii ∧ (v1.getD 2 d0).ii < (((v1.getD 0 d0).ll).length : Int) then
 (r_laws_toEnumDef [.s (((((v1.getD 0 d0).ll).getD ((v1.getD 2 d0).ii).toNat []).getD 0 d0).ss), .s (((((v1.getD 0 d0).ll).getD ((v1.getD 2 d0).ii).toNat []).getD 1 d0).ss), .sl (((((v1.getD 0 d0).ll).getD ((v1.getD 2 d0).ii).toNat []).getD 2 d0).ll)]).bindR fun r2 =>
 if 120 = 120 ∧ 0 ≤ (v1.getD 2 d0).ii ∧ (v1.getD 2 d0).ii < (((v1.getD 1 d0).ll).length : Int) then
 .norm [.sl ((v1.getD 0 d0).ll), .sl (((v1.getD 1 d0).ll).set (((v1.getD 2 d0).ii).toNat) (setRunD (((v1.getD 1 d0).ll).getD (((v1.getD 2 d0).ii).toNat) []) 0 [DC.s ((r2.getD 0 d0).ss), DC.s ((r2.getD 1 d0).ss), DC.sl ((r2.getD 2 d0).ll)])), .i ((v1.getD 2 d0).ii)]
 else
 .fail
 else
 .fail) 1 fun v3 =>
 .norm [.sl ((v3.getD 0 d0).ll), .sl ((v3.getD 1 d0).ll), .i (IntKind.i64.wrap ((v3.getD 2 d0).ii + (1 : Int)))]
 else
 .ex 0 [.sl ((v1.getD 1 d0).ll)]
noncomputable def E_laws_toEnumDefS (a : List DC) : Out :=
 if 0 ≤ (((a.getD 0 d0).ll).length : Int) ∧ (((a.getD 0 d0).ll).length : Int) < (LIM : Int) ∧ (((a.getD 0 d0).ll).length : Int) = (((a.getD 0 d0).ll).length : Int) ∧ 56 ≤ 1024 ∧ 0 < 3 ∧ dp 120 = false then
 Out.andThenB (Loop E_laws_toEnumDefSL1 [.sl ((a.getD 0 d0).ll), .sl (List.replicate (((a.getD 0 d0).ll).length : Int).toNat [DC.s [], DC.s [], DC.sl []]), .i (0 : Int)]) 0 fun v4 =>
 .ret [.sl ((v4.getD 0 d0).ll)]
 else
 .fail
theorem eq_laws_toEnumDefS a : r_laws_toEnumDefS a = E_laws_toEnumDefS a := (Run_eq cfg 42 _ a).trans (by kernel_rfl)
noncomputable def E_laws_toDirSL1 : List DC → Out := fun v1 =>
 if (decide ((v1.getD 2 d0).ii < (((v1.getD 0 d0).ll).length : Int))) = true then
 Out.andThenB (if 108 = 108 ∧ 0 ≤ (v1.getD 2 d0).ii ∧ (v1.getD 2 d0).ii < (((v1.getD 0 d0).ll).length : Int) then
 (r_laws_toDir [.s (((((v1.getD 0 d0).ll).getD ((v1.getD 2 d0).ii).toNat []).getD 0 d0).ss), .sl (((((v1.getD 0 d0).ll).getD ((v1.getD 2 d0).ii).toNat []).getD 1 d0).ll)]).bindR fun r2 =>
 if 124 = 124 ∧ 0 ≤ (v1.getD 2 d0).ii ∧ (v1.getD 2 d0).ii < (((v1.getD 1 d0).ll).length : Int) then
 .norm [.sl ((v1.getD 0 d0).ll), .sl (((v1.getD 1 d0).ll).set (((v1.getD 2 d0).ii).toNat) (setRunD (((v1.getD 1 d0).ll).getD (((v1.getD 2 d0).ii).toNat) []) 0 [DC.s ((r2.getD 0 d0).ss), DC.sl ((r2.getD 1 d0).ll)])), .i ((v1.getD 2 d0).ii)]
 else
 .fail
 else
 .fail) 1 fun v3 =>
 .norm [.sl ((v3.getD 0 d0).ll), .sl ((v3.getD 1 d0).ll), .i (IntKind.i64.wrap ((v3.getD 2 d0).ii + (1 : Int)))]
 else
 .ex 0 [.sl ((v1.getD 1 d0).ll)]
noncomputable def E_laws_toDirS (a : List DC) : Out :=
 if 0 ≤ (((a.getD 0 d0).ll).length : Int) ∧ (((a.getD 0 d0).ll).length : Int) < (LIM : Int) ∧ (((a.getD 0 d0).ll).length : Int) = (((a.getD 0 d0).ll).length : Int) ∧ 40 ≤ 1024 ∧ 0 < 2 ∧ dp 124 = false then
 Out.andThenB (Loop E_laws_toDirSL1 [.sl ((a.getD 0 d0).ll), .sl (List.replicate (((a.getD 0 d0).ll).length : Int).toNat [DC.s [], DC.sl []]), .i (0 : Int)]) 0 fun v4 =>
 .ret [.sl ((v4.getD 0 d0).ll)]
 else
 .fail
theorem eq_laws_toDirS a : r_laws_toDirS a = E_laws_toDirS a := (Run_eq cfg 43 _ a).trans (by kernel_rfl)
noncomputable def E_impl_TypeAt (a : List DC) : Out :=
 (r_impl_named [.sl ((a.getD 0 d0).ll), .s ((a.getD 3 d0).ss)]).bindR fun r1 =>
 .ret [.i ((r1.getD 0 d0).ii)]
theorem eq_impl_TypeAt a : r_impl_TypeAt a = E_impl_TypeAt a := (Run_eq cfg 44 _ a).trans (by kernel_rfl)
noncomputable def E_slices_Index_stringL1 : List DC → Out := fun v1 =>
 if (decide ((v1.getD 3 d0).ii < (v1.getD 2 d0).ii)) = true then
 Out.andThenB (if 9 = 9 ∧ 0 ≤ (v1.getD 3 d0).ii ∧ (v1.getD 3 d0).ii < (((v1.getD 0 d0).ll).length : Int) then
 if ((v1.getD 1 d0).ss == ((((v1.getD 0 d0).ll).getD ((v1.getD 3 d0).ii).toNat []).getD 0 d0).ss) = true then
 .ret [.i ((v1.getD 3 d0).ii)]
 else
 .norm [.sl ((v1.getD 0 d0).ll), .s ((v1.getD 1 d0).ss), .i ((v1.getD 2 d0).ii), .i ((v1.getD 3 d0).ii)]
 else
 .fail) 1 fun v2 =>
 .norm [.sl ((v2.getD 0 d0).ll), .s ((v2.getD 1 d0).ss), .i ((v2.getD 2 d0).ii), .i (IntKind.i64.wrap ((v2.getD 3 d0).ii + (1 : Int)))]
 else
 .ex 0 []
noncomputable def E_slices_Index_string (a : List DC) : Out :=
 Out.andThenB (Loop E_slices_Index_stringL1 [.sl ((a.getD 0 d0).ll), .s ((a.getD 1 d0).ss), .i (((a.getD 0 d0).ll).length : Int), .i (0 : Int)]) 0 fun v3 =>
 .ret [.i (-1 : Int)]
theorem eq_slices_Index_string a : r_slices_Index_string a = E_slices_Index_string a := (Run_eq cfg 31 _ a).trans (by kernel_rfl)
noncomputable def E_impl_Overlap_1 (a : List DC) : Out :=
 (r_slices_Contains_string [.sl ((a.getD 1 d0).ll), .s ((a.getD 0 d0).ss)]).bindR fun r1 =>
 .ret [.b ((r1.getD 0 d0).bb), .sl ((a.getD 1 d0).ll)]
theorem eq_impl_Overlap_1 a : r_impl_Overlap_1 a = E_impl_Overlap_1 a := (Run_eq cfg 17 _ a).trans (by kernel_rfl)
noncomputable def E_laws_eqStringSL1 : List DC → Out := fun v1 =>
 if (decide ((v1.getD 2 d0).ii < (((v1.getD 0 d0).ll).length : Int))) = true then
 Out.andThenB (if 9 = 9 ∧ 0 ≤ (v1.getD 2 d0).ii ∧ (v1.getD 2 d0).ii < (((v1.getD 0 d0).ll).length : Int) then
 if 9 = 9 ∧ 0 ≤ (v1.getD 2 d0).ii ∧ (v1.getD 2 d0).ii < (((v1.getD 1 d0).ll).length : Int) then
 if (!(((((v1.getD 0 d0).ll).getD ((v1.getD 2 d0).ii).toNat []).getD 0 d0).ss == ((((v1.getD 1 d0).ll).getD ((v1.getD 2 d0).ii).toNat []).getD 0 d0).ss)) = true then
 .ret [.b false]
 else
 .norm [.sl ((v1.getD 0 d0).ll), .sl ((v1.getD 1 d0).ll), .i ((v1.getD 2 d0).ii)]
 else
 .fail
 else
 .fail) 1 fun v2 =>
 .norm [.sl ((v2.getD 0 d0).ll), .sl ((v2.getD 1 d0).ll), .i (IntKind.i64.wrap ((v2.getD 2 d0).ii + (1 : Int)))]
 else
 .ex 0 []
noncomputable def E_laws_eqStringS (a : List DC) : Out :=
 if ((((a.getD 0 d0).ll).length : Int) != (((a.getD 1 d0).ll).length : Int)) = true then
 .ret [.b false]
 else
 Out.andThenB (Loop E_laws_eqStringSL1 [.sl ((a.getD 0 d0).ll), .sl ((a.getD 1 d0).ll), .i (0 : Int)]) 0 fun v3 =>
 .ret [.b true]
theorem eq_laws_eqStringS a : r_laws_eqStringS a = E_laws_eqStringS a := (Run_eq cfg 47 _ a).trans (by kernel_rfl)
noncomputable def E_laws_eqFieldDefSL1 : List DC → Out := fun v1 =>
 if (decide ((v1.getD 2 d0).ii < (((v1.getD 0 d0).ll).length : Int))) = true then
 Out.andThenB (if 111 = 111 ∧ 0 ≤ (v1.getD 2 d0).ii ∧ (v1.getD 2 d0).ii < (((v1.getD 0 d0).ll).length : Int) then
 if 111 = 111 ∧ 0 ≤ (v1.getD 2 d0).ii ∧ (v1.getD 2 d0).ii < (((v1.getD 1 d0).ll).length : Int) then
 (r_laws_eqFieldDef [.s (((((v1.getD 0 d0).ll).getD ((v1.getD 2 d0).ii).toNat []).getD 0 d0).ss), .s (((((v1.getD 0 d0).ll).getD ((v1.getD 2 d0).ii).toNat []).getD 1 d0).ss), .sl (((((v1.getD 0 d0).ll).getD ((v1.getD 2 d0).ii).toNat []).getD 2 d0).ll), .s (((((v1.getD 0 d0).ll).getD ((v1.getD 2 d0).ii).toNat []).getD 3 d0).ss), .s (((((v1.getD 0 d0).ll).getD ((v1.getD 2 d0).ii).toNat []).getD 4 d0).ss), .sl (((((v1.getD 0 d0).ll).getD ((v1.getD 2 d0).ii).toNat []).getD 5 d0).ll), .s (((((v1.getD 1 d0).ll).getD ((v1.getD 2 d0).ii).toNat []).getD 0 d0).ss), .s (((((v1.getD 1 d0).ll).getD ((v1.getD 2 d0).ii).toNat []).getD 1 d0).ss), .sl (((((v1.getD 1 d0).ll).getD ((v1.getD 2 d0).ii).toNat []).getD 2 d0).ll), .s (((((v1.getD 1 d0).ll).getD ((v1.getD 2 d0).ii).toNat []).getD 3 d0).ss), .s (((((v1.getD 1 d0).ll).getD ((v1.getD 2 d0).ii).toNat []).getD 4 d0).ss), .sl (((((v1.getD 1 d0).ll).getD ((v1.getD 2 d0).ii).toNat []).getD 5 d0).ll)]).bindR fun r2 =>
 if (!((r2.getD 0 d0).bb)) = true then
 .ret [.b false]
 else
 .norm [.sl ((v1.getD 0 d0).ll), .sl ((v1.getD 1 d0).ll), .i ((v1.getD 2 d0).ii)]
 else
 .fail
 else
 .fail) 1 fun v3 =>
 .norm [.sl ((v3.getD 0 d0).ll), .sl ((v3.getD 1 d0).ll), .i (IntKind.i64.wrap ((v3.getD 2 d0).ii + (1 : Int)))]
 else
 .ex 0 []
noncomputable def E_laws_eqFieldDefS (a : List DC) : Out :=
 if ((((a.getD 0 d0).ll).length : Int) != (((a.getD 1 d0).ll).length : Int)) = true then
 .ret [.b false]
 else
 Out.andThenB (Loop E_laws_eqFieldDefSL1 [.sl ((a.getD 0 d0).ll), .sl ((a.getD 1 d0).ll), .i (0 : Int)]) 0 fun v4 =>
 .ret [.b true]
theorem eq_laws_eqFieldDefS a : r_laws_eqFieldDefS a = E_laws_eqFieldDefS a := (Run_eq cfg 48 _ a).trans (by kernel_rfl)
noncomputable def E_laws_eqInDefSL1 : List DC → Out := fun v1 =>
 if (decide ((v1.getD 2 d0).ii < (((v1.getD 0 d0).ll).length : Int))) = true then
 Out.andThenB (if 117 = 117 ∧ 0 ≤ (v1.getD 2 d0).ii ∧ (v1.getD 2 d0).ii < (((v1.getD 0 d0).ll).length : Int) then
 if 117 = 117 ∧ 0 ≤ (v1.getD 2 d0).ii ∧ (v1.getD 2 d0).ii < (((v1.getD 1 d0).ll).length : Int) then
 (r_laws_eqInDef [.s (((((v1.getD 0 d0).ll).getD ((v1.getD 2 d0).ii).toNat []).getD 0 d0).ss), .s (((((v1.getD 0 d0).ll).getD ((v1.getD 2 d0).ii).toNat []).getD 1 d0).ss), .s (((((v1.getD 0 d0).ll).getD ((v1.getD 2 d0).ii).toNat []).getD 2 d0).ss), .s (((((v1.getD 0 d0).ll).getD ((v1.getD 2 d0).ii).toNat []).getD 3 d0).ss), .b (((((v1.getD 0 d0).ll).getD ((v1.getD 2 d0).ii).toNat []).getD 4 d0).bb), .i (((((v1.getD 0 d0).ll).getD ((v1.getD 2 d0).ii).toNat []).getD 5 d0).ii), .s (((((v1.getD 0 d0).ll).getD ((v1.getD 2 d0).ii).toNat []).getD 6 d0).ss), .sl (((((v1.getD 0 d0).ll).getD ((v1.getD 2 d0).ii).toNat []).getD 7 d0).ll), .sl (((((v1.getD 0 d0).ll).getD ((v1.getD 2 d0).ii).toNat []).getD 8 d0).ll), .sl (((((v1.getD 0 d0).ll).getD ((v1.getD 2 d0).ii).toNat []).getD 9 d0).ll), .s (((((v1.getD 1 d0).ll).getD ((v1.getD 2 d0).ii).toNat []).getD 0 d0).ss), .s (((((v1.getD 1 d0).ll).getD ((v1.getD 2 d0).ii).toNat []).getD 1 d0).ss), .s (((((v1.getD 1 d0).ll).getD ((v1.getD 2 d0).ii).toNat []).getD 2 d0).ss), .s (((((v1.getD 1 d0).ll).getD ((v1.getD 2 d0).ii).toNat []).getD 3 d0).ss), .b (((((v1.getD 1 d0).ll).getD ((v1.getD 2 d0).ii).toNat []).getD 4 d0).bb), .i (((((v1.getD 1 d0).ll).getD ((v1.getD 2 d0).ii).toNat []).getD 5 d0).ii), .s (((((v1.getD 1 d0).ll).getD ((v1.getD 2 d0).ii).toNat []).getD 6 d0).ss), .sl (((((v1.getD 1 d0).ll).getD ((v1.getD 2 d0).ii).toNat []).getD 7 d0).ll), .sl (((((v1.getD 1 d0).ll).getD ((v1.getD 2 d0).ii).toNat []).getD 8 d0).ll), .sl (((((v1.getD 1 d0).ll).getD ((v1.getD 2 d0).ii).toNat []).getD 9 d0).ll)]).bindR fun r2 =>
 if (!((r2.getD 0 d0).bb)) = true then
 .ret [.b false]
 else
 .norm [.sl ((v1.getD 0 d0).ll), .sl ((v1.getD 1 d0).ll), .i ((v1.getD 2 d0).ii)]
 else
 .fail
 else
 .fail) 1 fun v3 =>
 .norm [.sl ((v3.getD 0 d0).ll), .sl ((v3.getD 1 d0).ll), .i (IntKind.i64.wrap ((v3.getD 2 d0).ii + (1 : Int)))]
 else
 .ex 0 []
noncomputable def E_laws_eqInDefS (a : List DC) : Out :=
 if ((((a.getD 0 d0).ll).length : Int) != (((a.getD 1 d0).ll).length : Int)) = true then
 .ret [.b false]
 else
 Out.andThenB (Loop E_laws_eqInDefSL1 [.sl ((a.getD 0 d0).ll), .sl ((a.getD 1 d0).ll), .i (0 : Int)]) 0 fun v4 =>
 .ret [.b true]
theorem eq_laws_eqInDefS a : r_laws_eqInDefS a = E_laws_eqInDefS a := (Run_eq cfg 49 _ a).trans (by kernel_rfl)
noncomputable def E_laws_eqEnumDefSL1 : List DC → Out := fun v1 =>
 if (decide ((v1.getD 2 d0).ii < (((v1.getD 0 d0).ll).length : Int))) = true then
 Out.andThenB (if 120 = 120 ∧ 0 ≤ (v1.getD 2 d0).ii ∧ (v1.getD 2 d0).ii < (((v1.getD 0 d0).ll).length : Int) then
 if 120 = 120 ∧ 0 ≤ (v1.getD 2 d0).ii ∧ (v1.getD 2 d0).ii < (((v1.getD 1 d0).ll).length : Int) then
 (r_laws_eqEnumDef [.s (((((v1.getD 0 d0).ll).getD ((v1.getD 2 d0).ii).toNat []).getD 0 d0).ss), .s (((((v1.getD 0 d0).ll).getD ((v1.getD 2 d0).ii).toNat []).getD 1 d0).ss), .sl (((((v1.getD 0 d0).ll).getD ((v1.getD 2 d0).ii).toNat []).getD 2 d0).ll), .s (((((v1.getD 1 d0).ll).getD ((v1.getD 2 d0).ii).toNat []).getD 0 d0).ss), .s (((((v1.getD 1 d0).ll).getD ((v1.getD 2 d0).ii).toNat []).getD 1 d0).ss), .sl (((((v1.getD 1 d0).ll).getD ((v1.getD 2 d0).ii).toNat []).getD 2 d0).ll)]).bindR fun r2 =>
 if (!((r2.getD 0 d0).bb)) = true then
 .ret [.b false]
 else
 .norm [.sl ((v1.getD 0 d0).ll), .sl ((v1.getD 1 d0).ll), .i ((v1.getD 2 d0).ii)]
 else
 .fail
 else
 .fail) 1 fun v3 =>
 .norm [.sl ((v3.getD 0 d0).ll), .sl ((v3.getD 1 d0).ll), .i (IntKind.i64.wrap ((v3.getD 2 d0).ii + (1 : Int)))]
 else
 .ex 0 []
noncomputable def E_laws_eqEnumDefS (a : List DC) : Out :=
 if ((((a.getD 0 d0).ll).length : Int) != (((a.getD 1 d0).ll).length : Int)) = true then
 .ret [.b false]
 else
 Out.andThenB (Loop E_laws_eqEnumDefSL1 [.sl ((a.getD 0 d0).ll), .sl ((a.getD 1 d0).ll), .i (0 : Int)]) 0 fun v4 =>
 .ret [.b true]
theorem eq_laws_eqEnumDefS a : r_laws_eqEnumDefS a = E_laws_eqEnumDefS a := (Run_eq cfg 50 _ a).trans (by kernel_rfl)
noncomputable def E_laws_eqDirSL1 : List DC → Out := fun v1 =>
 if (decide ((v1.getD 2 d0).ii < (((v1.getD 0 d0).ll).length : Int))) = true then
 Out.andThenB (if 124 = 124 ∧ 0 ≤ (v1.getD 2 d0).ii ∧ (v1.getD 2 d0).ii < (((v1.getD 0 d0).ll).length : Int) then
 if 124 = 124 ∧ 0 ≤ (v1.getD 2 d0).ii ∧ (v1.getD 2 d0).ii < (((v1.getD 1 d0).ll).length : Int) then
 (r_laws_eqDir [.s (((((v1.getD 0 d0).ll).getD ((v1.getD 2 d0).ii).toNat []).getD 0 d0).ss), .sl (((((v1.getD 0 d0).ll).getD ((v1.getD 2 d0).ii).toNat []).getD 1 d0).ll), .s (((((v1.getD 1 d0).ll).getD ((v1.getD 2 d0).ii).toNat []).getD 0 d0).ss), .sl (((((v1.getD 1 d0).ll).getD ((v1.getD 2 d0).ii).toNat []).getD 1 d0).ll)]).bindR fun r2 =>
 if (!((r2.getD 0 d0).bb)) = true then
 .ret [.b false]
 else
 .norm [.sl ((v1.getD 0 d0).ll), .sl ((v1.getD 1 d0).ll), .i ((v1.getD 2 d0).ii)]
 else
 .fail
 else
 .fail) 1 fun v3 =>
 .norm [.sl ((v3.getD 0 d0).ll), .sl ((v3.getD 1 d0).ll), .i (IntKind.i64.wrap ((v3.getD 2 d0).ii + (1 : Int)))]
 else
 .ex 0 []
noncomputable def E_laws_eqDirS (a : List DC) : Out :=
 if ((((a.getD 0 d0).ll).length : Int) != (((a.getD 1 d0).ll).length : Int)) = true then
 .ret [.b false]
 else
 Out.andThenB (Loop E_laws_eqDirSL1 [.sl ((a.getD 0 d0).ll), .sl ((a.getD 1 d0).ll), .i (0 : Int)]) 0 fun v4 =>
 .ret [.b true]
theorem eq_laws_eqDirS a : r_laws_eqDirS a = E_laws_eqDirS a := (Run_eq cfg 51 _ a).trans (by kernel_rfl)
noncomputable def E_laws_szFieldDef (a : List DC) : Out :=
 if (decide ((IntKind.i64.wrap ((a.getD 6 d0).ii - (((a.getD 0 d0).ss).length : Int))) < (0 : Int))) = true then
 .ret [.i (-1 : Int)]
 else
 if (decide ((IntKind.i64.wrap ((IntKind.i64.wrap ((a.getD 6 d0).ii - (((a.getD 0 d0).ss).length : Int))) - (((a.getD 1 d0).ss).length : Int))) < (0 : Int))) = true then
 .ret [.i (-1 : Int)]
 else
 (r_laws_szInDefS [.sl ((a.getD 2 d0).ll), .i (IntKind.i64.wrap ((IntKind.i64.wrap ((a.getD 6 d0).ii - (((a.getD 0 d0).ss).length : Int))) - (((a.getD 1 d0).ss).length : Int)))]).bindR fun r1 =>
 if (decide ((r1.getD 0 d0).ii < (0 : Int))) = true then
 .ret [.i (-1 : Int)]
 else
 (r_laws_szType [.s ((a.getD 3 d0).ss), .s ((a.getD 4 d0).ss), .i ((r1.getD 0 d0).ii)]).bindR fun r2 =>
 if (decide ((r2.getD 0 d0).ii < (0 : Int))) = true then
 .ret [.i (-1 : Int)]
 else
 (r_laws_szDirS [.sl ((a.getD 5 d0).ll), .i ((r2.getD 0 d0).ii)]).bindR fun r3 =>
 if (decide ((r3.getD 0 d0).ii < (0 : Int))) = true then
 .ret [.i (-1 : Int)]
 else
 .ret [.i ((r3.getD 0 d0).ii)]
theorem eq_laws_szFieldDef a : r_laws_szFieldDef a = E_laws_szFieldDef a := (Run_eq cfg 52 _ a).trans (by kernel_rfl)
noncomputable def E_laws_szInDef (a : List DC) : Out :=
 if (decide ((IntKind.i64.wrap ((a.getD 10 d0).ii - (((a.getD 0 d0).ss).length : Int))) < (0 : Int))) = true then
 .ret [.i (-1 : Int)]
 else
 if (decide ((IntKind.i64.wrap ((IntKind.i64.wrap ((a.getD 10 d0).ii - (((a.getD 0 d0).ss).length : Int))) - (((a.getD 1 d0).ss).length : Int))) < (0 : Int))) = true then
 .ret [.i (-1 : Int)]
 else
 (r_laws_szType [.s ((a.getD 2 d0).ss), .s ((a.getD 3 d0).ss), .i (IntKind.i64.wrap ((IntKind.i64.wrap ((a.getD 10 d0).ii - (((a.getD 0 d0).ss).length : Int))) - (((a.getD 1 d0).ss).length : Int)))]).bindR fun r1 =>
 if (decide ((r1.getD 0 d0).ii < (0 : Int))) = true then
 .ret [.i (-1 : Int)]
 else
 (r_laws_szValue [.i ((a.getD 5 d0).ii), .s ((a.getD 6 d0).ss), .sl ((a.getD 7 d0).ll), .sl ((a.getD 8 d0).ll), .i ((r1.getD 0 d0).ii)]).bindR fun r2 =>
 if (decide ((r2.getD 0 d0).ii < (0 : Int))) = true then
 .ret [.i (-1 : Int)]
 else
 (r_laws_szDirS [.sl ((a.getD 9 d0).ll), .i ((r2.getD 0 d0).ii)]).bindR fun r3 =>
 if (decide ((r3.getD 0 d0).ii < (0 : Int))) = true then
 .ret [.i (-1 : Int)]
 else
 .ret [.i ((r3.getD 0 d0).ii)]
theorem eq_laws_szInDef a : r_laws_szInDef a = E_laws_szInDef a := (Run_eq cfg 53 _ a).trans (by kernel_rfl)
noncomputable def E_laws_szEnumDef (a : List DC) : Out :=
 if (decide ((IntKind.i64.wrap ((a.getD 3 d0).ii - (((a.getD 0 d0).ss).length : Int))) < (0 : Int))) = true then
 .ret [.i (-1 : Int)]
 else
 if (decide ((IntKind.i64.wrap ((IntKind.i64.wrap ((a.getD 3 d0).ii - (((a.getD 0 d0).ss).length : Int))) - (((a.getD 1 d0).ss).length : Int))) < (0 : Int))) = true then
 .ret [.i (-1 : Int)]
 else
 (r_laws_szDirS [.sl ((a.getD 2 d0).ll), .i (IntKind.i64.wrap ((IntKind.i64.wrap ((a.getD 3 d0).ii - (((a.getD 0 d0).ss).length : Int))) - (((a.getD 1 d0).ss).length : Int)))]).bindR fun r1 =>
 if (decide ((r1.getD 0 d0).ii < (0 : Int))) = true then
 .ret [.i (-1 : Int)]
 else
 .ret [.i ((r1.getD 0 d0).ii)]
theorem eq_laws_szEnumDef a : r_laws_szEnumDef a = E_laws_szEnumDef a := (Run_eq cfg 54 _ a).trans (by kernel_rfl)
noncomputable def E_laws_szDir (a : List DC) : Out :=
 if (decide ((IntKind.i64.wrap ((a.getD 2 d0).ii - (((a.getD 0 d0).ss).length : Int))) < (0 : Int))) = true then
 .ret [.i (-1 : Int)]
 else
 (r_laws_szArgS [.sl ((a.getD 1 d0).ll), .i (IntKind.i64.wrap ((a.getD 2 d0).ii - (((a.getD 0 d0).ss).length : Int)))]).bindR fun r1 =>
 if (decide ((r1.getD 0 d0).ii < (0 : Int))) = true then
 .ret [.i (-1 : Int)]
 else
 .ret [.i ((r1.getD 0 d0).ii)]
theorem eq_laws_szDir a : r_laws_szDir a = E_laws_szDir a := (Run_eq cfg 55 _ a).trans (by kernel_rfl)
noncomputable def E_laws_toFieldDef (a : List DC) : Out :=
 (r_laws_toInDefS [.sl ((a.getD 2 d0).ll)]).bindR fun r1 =>
 (r_laws_toType [.s ((a.getD 3 d0).ss), .s ((a.getD 4 d0).ss)]).bindR fun r2 =>
 (r_laws_toDirS [.sl ((a.getD 5 d0).ll)]).bindR fun r3 =>
 .ret [.s ((a.getD 0 d0).ss), .s ((a.getD 1 d0).ss), .sl ((r1.getD 0 d0).ll), .s ((r2.getD 0 d0).ss), .s ((r2.getD 1 d0).ss), .sl ((r3.getD 0 d0).ll)]
theorem eq_laws_toFieldDef a : r_laws_toFieldDef a = E_laws_toFieldDef a := (Run_eq cfg 56 _ a).trans (by kernel_rfl)
noncomputable def E_laws_toInDef (a : List DC) : Out :=
 (r_laws_toType [.s ((a.getD 2 d0).ss), .s ((a.getD 3 d0).ss)]).bindR fun r1 =>
 (r_laws_toValue [.i ((a.getD 5 d0).ii), .s ((a.getD 6 d0).ss), .sl ((a.getD 7 d0).ll), .sl ((a.getD 8 d0).ll)]).bindR fun r2 =>
 (r_laws_toDirS [.sl ((a.getD 9 d0).ll)]).bindR fun r3 =>
 .ret [.s ((a.getD 0 d0).ss), .s ((a.getD 1 d0).ss), .s ((r1.getD 0 d0).ss), .s ((r1.getD 1 d0).ss), .b ((a.getD 4 d0).bb), .i ((r2.getD 0 d0).ii), .s ((r2.getD 1 d0).ss), .sl ((r2.getD 2 d0).ll), .sl ((r2.getD 3 d0).ll), .sl ((r3.getD 0 d0).ll)]
theorem eq_laws_toInDef a : r_laws_toInDef a = E_laws_toInDef a := (Run_eq cfg 57 _ a).trans (by kernel_rfl)
noncomputable def E_laws_toEnumDef (a : List DC) : Out :=
 (r_laws_toDirS [.sl ((a.getD 2 d0).ll)]).bindR fun r1 =>
 .ret [.s ((a.getD 0 d0).ss), .s ((a.getD 1 d0).ss), .sl ((r1.getD 0 d0).ll)]
theorem eq_laws_toEnumDef a : r_laws_toEnumDef a = E_laws_toEnumDef a := (Run_eq cfg 58 _ a).trans (by kernel_rfl)
noncomputable def E_laws_toDir (a : List DC) : Out :=
 (r_laws_toArgS [.sl ((a.getD 1 d0).ll)]).bindR fun r1 =>
 .ret [.s ((a.getD 0 d0).ss), .sl ((r1.getD 0 d0).ll)]
theorem eq_laws_toDir a : r_laws_toDir a = E_laws_toDir a := (Run_eq cfg 59 _ a).trans (by kernel_rfl)
noncomputable def E_impl_named (a : List DC) : Out :=
 if (decide ((((a.getD 0 d0).ll).length : Int) > (60 : Int))) = true then
 .ret [.i (-1 : Int)]
 else
 (r_slices_IndexFunc_impl_Def__impl_named_1 [.sl ((a.getD 0 d0).ll), .s ((a.getD 1 d0).ss)]).bindR fun r1 =>
 .ret [.i ((r1.getD 0 d0).ii)]
theorem eq_impl_named a : r_impl_named a = E_impl_named a := (Run_eq cfg 60 _ a).trans (by kernel_rfl)
noncomputable def E_laws_eqFieldDef (a : List DC) : Out :=
 if (!((a.getD 0 d0).ss == (a.getD 6 d0).ss)) = true then
 .ret [.b false]
 else
 if (!((a.getD 1 d0).ss == (a.getD 7 d0).ss)) = true then
 .ret [.b false]
 else
 (r_laws_eqInDefS [.sl ((a.getD 2 d0).ll), .sl ((a.getD 8 d0).ll)]).bindR fun r1 =>
 if (!((r1.getD 0 d0).bb)) = true then
 .ret [.b false]
 else
 (r_laws_eqType [.s ((a.getD 3 d0).ss), .s ((a.getD 4 d0).ss), .s ((a.getD 9 d0).ss), .s ((a.getD 10 d0).ss)]).bindR fun r2 =>
 if (!((r2.getD 0 d0).bb)) = true then
 .ret [.b false]
 else
 (r_laws_eqDirS [.sl ((a.getD 5 d0).ll), .sl ((a.getD 11 d0).ll)]).bindR fun r3 =>
 if (!((r3.getD 0 d0).bb)) = true then
 .ret [.b false]
 else
 .ret [.b true]
theorem eq_laws_eqFieldDef a : r_laws_eqFieldDef a = E_laws_eqFieldDef a := (Run_eq cfg 72 _ a).trans (by kernel_rfl)
noncomputable def E_laws_eqInDef (a : List DC) : Out :=
 if (!((a.getD 0 d0).ss == (a.getD 10 d0).ss)) = true then
 .ret [.b false]
 else
 if (!((a.getD 1 d0).ss == (a.getD 11 d0).ss)) = true then
 .ret [.b false]
 else
 (r_laws_eqType [.s ((a.getD 2 d0).ss), .s ((a.getD 3 d0).ss), .s ((a.getD 12 d0).ss), .s ((a.getD 13 d0).ss)]).bindR fun r1 =>
 if (!((r1.getD 0 d0).bb)) = true then
 .ret [.b false]
 else
 if (!((a.getD 4 d0).bb == (a.getD 14 d0).bb)) = true then
 .ret [.b false]
 else
 (r_laws_eqValue [.i ((a.getD 5 d0).ii), .s ((a.getD 6 d0).ss), .sl ((a.getD 7 d0).ll), .sl ((a.getD 8 d0).ll), .i ((a.getD 15 d0).ii), .s ((a.getD 16 d0).ss), .sl ((a.getD 17 d0).ll), .sl ((a.getD 18 d0).ll)]).bindR fun r2 =>
 if (!((r2.getD 0 d0).bb)) = true then
 .ret [.b false]
 else
 (r_laws_eqDirS [.sl ((a.getD 9 d0).ll), .sl ((a.getD 19 d0).ll)]).bindR fun r3 =>
 if (!((r3.getD 0 d0).bb)) = true then
 .ret [.b false]
 else
 .ret [.b true]
theorem eq_laws_eqInDef a : r_laws_eqInDef a = E_laws_eqInDef a := (Run_eq cfg 73 _ a).trans (by kernel_rfl)
noncomputable def E_laws_eqEnumDef (a : List DC) : Out :=
 if (!((a.getD 0 d0).ss == (a.getD 3 d0).ss)) = true then
 .ret [.b false]
 else
 if (!((a.getD 1 d0).ss == (a.getD 4 d0).ss)) = true then
 .ret [.b false]
 else
 (r_laws_eqDirS [.sl ((a.getD 2 d0).ll), .sl ((a.getD 5 d0).ll)]).bindR fun r1 =>
 if (!((r1.getD 0 d0).bb)) = true then
 .ret [.b false]
 else
 .ret [.b true]
theorem eq_laws_eqEnumDef a : r_laws_eqEnumDef a = E_laws_eqEnumDef a := (Run_eq cfg 74 _ a).trans (by kernel_rfl)
noncomputable def E_laws_eqDir (a : List DC) : Out :=
 if (!((a.getD 0 d0).ss == (a.getD 2 d0).ss)) = true then
 .ret [.b false]
 else
 (r_laws_eqArgS [.sl ((a.getD 1 d0).ll), .sl ((a.getD 3 d0).ll)]).bindR fun r1 =>
 if (!((r1.getD 0 d0).bb)) = true then
 .ret [.b false]
 else
 .ret [.b true]
theorem eq_laws_eqDir a : r_laws_eqDir a = E_laws_eqDir a := (Run_eq cfg 75 _ a).trans (by kernel_rfl)
noncomputable def E_laws_szType (a : List DC) : Out :=
 if (decide ((IntKind.i64.wrap ((a.getD 2 d0).ii - (((a.getD 0 d0).ss).length : Int))) < (0 : Int))) = true then
 .ret [.i (-1 : Int)]
 else
 if (decide ((IntKind.i64.wrap ((IntKind.i64.wrap ((a.getD 2 d0).ii - (((a.getD 0 d0).ss).length : Int))) - (((a.getD 1 d0).ss).length : Int))) < (0 : Int))) = true then
 .ret [.i (-1 : Int)]
 else
 .ret [.i (IntKind.i64.wrap ((IntKind.i64.wrap ((a.getD 2 d0).ii - (((a.getD 0 d0).ss).length : Int))) - (((a.getD 1 d0).ss).length : Int)))]
theorem eq_laws_szType a : r_laws_szType a = E_laws_szType a := (Run_eq cfg 76 _ a).trans (by kernel_rfl)
noncomputable def E_laws_szValue (a : List DC) : Out :=
 if (decide ((IntKind.i64.wrap ((a.getD 4 d0).ii - (((a.getD 1 d0).ss).length : Int))) < (0 : Int))) = true then
 .ret [.i (-1 : Int)]
 else
 (r_laws_szValueS [.sl ((a.getD 2 d0).ll), .i (IntKind.i64.wrap ((a.getD 4 d0).ii - (((a.getD 1 d0).ss).length : Int)))]).bindR fun r1 =>
 if (decide ((r1.getD 0 d0).ii < (0 : Int))) = true then
 .ret [.i (-1 : Int)]
 else
 (r_laws_szStringS [.sl ((a.getD 3 d0).ll), .i ((r1.getD 0 d0).ii)]).bindR fun r2 =>
 if (decide ((r2.getD 0 d0).ii < (0 : Int))) = true then
 .ret [.i (-1 : Int)]
 else
 .ret [.i ((r2.getD 0 d0).ii)]
theorem eq_laws_szValue a : r_laws_szValue a = E_laws_szValue a := (Run_eq cfg 77 _ a).trans (by kernel_rfl)
noncomputable def E_laws_szArgSL1 : List DC → Out := fun v1 =>
 if (decide ((v1.getD 2 d0).ii < (((v1.getD 0 d0).ll).length : Int))) = true then
 Out.andThenB (if 164 = 164 ∧ 0 ≤ (v1.getD 2 d0).ii ∧ (v1.getD 2 d0).ii < (((v1.getD 0 d0).ll).length : Int) then
 (r_laws_szArg [.s (((((v1.getD 0 d0).ll).getD ((v1.getD 2 d0).ii).toNat []).getD 0 d0).ss), .i (((((v1.getD 0 d0).ll).getD ((v1.getD 2 d0).ii).toNat []).getD 1 d0).ii), .s (((((v1.getD 0 d0).ll).getD ((v1.getD 2 d0).ii).toNat []).getD 2 d0).ss), .sl (((((v1.getD 0 d0).ll).getD ((v1.getD 2 d0).ii).toNat []).getD 3 d0).ll), .sl (((((v1.getD 0 d0).ll).getD ((v1.getD 2 d0).ii).toNat []).getD 4 d0).ll), .i ((v1.getD 1 d0).ii)]).bindR fun r2 =>
 if (decide ((r2.getD 0 d0).ii < (0 : Int))) = true then
 .ret [.i (-1 : Int)]
 else
 .norm [.sl ((v1.getD 0 d0).ll), .i ((r2.getD 0 d0).ii), .i ((v1.getD 2 d0).ii)]
 else
 .fail) 1 fun v3 =>
 .norm [.sl ((v3.getD 0 d0).ll), .i ((v3.getD 1 d0).ii), .i (IntKind.i64.wrap ((v3.getD 2 d0).ii + (1 : Int)))]
 else
 .ex 0 [.i ((v1.getD 1 d0).ii)]
noncomputable def E_laws_szArgS (a : List DC) : Out :=
 if (decide ((IntKind.i64.wrap ((a.getD 1 d0).ii - (((a.getD 0 d0).ll).length : Int))) < (0 : Int))) = true then
 .ret [.i (-1 : Int)]
 else
 Out.andThenB (Loop E_laws_szArgSL1 [.sl ((a.getD 0 d0).ll), .i (IntKind.i64.wrap ((a.getD 1 d0).ii - (((a.getD 0 d0).ll).length : Int))), .i (0 : Int)]) 0 fun v4 =>
 .ret [.i ((v4.getD 0 d0).ii)]
theorem eq_laws_szArgS a : r_laws_szArgS a = E_laws_szArgS a := (Run_eq cfg 78 _ a).trans (by kernel_rfl)
noncomputable def E_laws_toType (a : List DC) : Out :=
 .ret [.s ((a.getD 0 d0).ss), .s ((a.getD 1 d0).ss)]
theorem eq_laws_toType a : r_laws_toType a = E_laws_toType a := (Run_eq cfg 79 _ a).trans (by kernel_rfl)
noncomputable def E_laws_toValue (a : List DC) : Out :=
 (r_laws_toValueS [.sl ((a.getD 2 d0).ll)]).bindR fun r1 =>
 (r_laws_toStringS [.sl ((a.getD 3 d0).ll)]).bindR fun r2 =>
 .ret [.i ((a.getD 0 d0).ii), .s ((a.getD 1 d0).ss), .sl ((r1.getD 0 d0).ll), .sl ((r2.getD 0 d0).ll)]
theorem eq_laws_toValue a : r_laws_toValue a = E_laws_toValue a := (Run_eq cfg 80 _ a).trans (by kernel_rfl)
noncomputable def E_laws_toArgSL1 : List DC → Out := fun v1 =>
 if (decide ((v1.getD 2 d0).ii < (((v1.getD 0 d0).ll).length : Int))) = true then
 Out.andThenB (if 164 = 164 ∧ 0 ≤ (v1.getD 2 d0).ii ∧ (v1.getD 2 d0).ii < (((v1.getD 0 d0).ll).length : Int) then
 (r_laws_toArg [.s (((((v1.getD 0 d0).ll).getD ((v1.getD 2 d0).ii).toNat []).getD 0 d0).ss), .i (((((v1.getD 0 d0).ll).getD ((v1.getD 2 d0).ii).toNat []).getD 1 d0).ii), .s (((((v1.getD 0 d0).ll).getD ((v1.getD 2 d0).ii).toNat []).getD 2 d0).ss), .sl (((((v1.getD 0 d0).ll).getD ((v1.getD 2 d0).ii).toNat []).getD 3 d0).ll), .sl (((((v1.getD 0 d0).ll).getD ((v1.getD 2 d0).ii).toNat []).getD 4 d0).ll)]).bindR fun r2 =>
 if 167 = 167 ∧ 0 ≤ (v1.getD 2 d0).ii ∧ (v1.getD 2 d0).ii < (((v1.getD 1 d0).ll).length : Int) then
 .norm [.sl ((v1.getD 0 d0).ll), .sl (((v1.getD 1 d0).ll).set (((v1.getD 2 d0).ii).toNat) (setRunD (((v1.getD 1 d0).ll).getD (((v1.getD 2 d0).ii).toNat) []) 0 [DC.s ((r2.getD 0 d0).ss), DC.i ((r2.getD 1 d0).ii), DC.s ((r2.getD 2 d0).ss), DC.sl ((r2.getD 3 d0).ll), DC.sl ((r2.getD 4 d0).ll)])), .i ((v1.getD 2 d0).ii)]
 else
 .fail
 else
 .fail) 1 fun v3 =>
 .norm [.sl ((v3.getD 0 d0).ll), .sl ((v3.getD 1 d0).ll), .i (IntKind.i64.wrap ((v3.getD 2 d0).ii + (1 : Int)))]
 else
 .ex 0 [.sl ((v1.getD 1 d0).ll)]
noncomputable def E_laws_toArgS (a : List DC) : Out :=
 if 0 ≤ (((a.getD 0 d0).ll).length : Int) ∧ (((a.getD 0 d0).ll).length : Int) < (LIM : Int) ∧ (((a.getD 0 d0).ll).length : Int) = (((a.getD 0 d0).ll).length : Int) ∧ 88 ≤ 1024 ∧ 0 < 5 ∧ dp 167 = false then
 Out.andThenB (Loop E_laws_toArgSL1 [.sl ((a.getD 0 d0).ll), .sl (List.replicate (((a.getD 0 d0).ll).length : Int).toNat [DC.s [], DC.i 0, DC.s [], DC.sl [], DC.sl []]), .i (0 : Int)]) 0 fun v4 =>
 .ret [.sl ((v4.getD 0 d0).ll)]
 else
 .fail
theorem eq_laws_toArgS a : r_laws_toArgS a = E_laws_toArgS a := (Run_eq cfg 81 _ a).trans (by kernel_rfl)
noncomputable def E_slices_IndexFunc_impl_Def__impl_named_1L1 : List DC → Out := fun v1 =>
 if (decide ((v1.getD 2 d0).ii < (v1.getD 1 d0).ii)) = true then
 Out.andThenB (if 62 = 62 ∧ 0 ≤ (v1.getD 2 d0).ii ∧ (v1.getD 2 d0).ii < (((v1.getD 0 d0).ll).length : Int) then
 (r_impl_named_1 [.i (((((v1.getD 0 d0).ll).getD ((v1.getD 2 d0).ii).toNat []).getD 0 d0).ii), .b (((((v1.getD 0 d0).ll).getD ((v1.getD 2 d0).ii).toNat []).getD 1 d0).bb), .s (((((v1.getD 0 d0).ll).getD ((v1.getD 2 d0).ii).toNat []).getD 2 d0).ss), .s (((((v1.getD 0 d0).ll).getD ((v1.getD 2 d0).ii).toNat []).getD 3 d0).ss), .sl (((((v1.getD 0 d0).ll).getD ((v1.getD 2 d0).ii).toNat []).getD 4 d0).ll), .sl (((((v1.getD 0 d0).ll).getD ((v1.getD 2 d0).ii).toNat []).getD 5 d0).ll), .sl (((((v1.getD 0 d0).ll).getD ((v1.getD 2 d0).ii).toNat []).getD 6 d0).ll), .sl (((((v1.getD 0 d0).ll).getD ((v1.getD 2 d0).ii).toNat []).getD 7 d0).ll), .sl (((((v1.getD 0 d0).ll).getD ((v1.getD 2 d0).ii).toNat []).getD 8 d0).ll), .b (((((v1.getD 0 d0).ll).getD ((v1.getD 2 d0).ii).toNat []).getD 9 d0).bb), .sl (((((v1.getD 0 d0).ll).getD ((v1.getD 2 d0).ii).toNat []).getD 10 d0).ll), .s ((v1.getD 3 d0).ss)]).bindR fun r2 =>
 if (r2.getD 0 d0).bb = true then
 .ret [.i ((v1.getD 2 d0).ii), .s ((r2.getD 1 d0).ss)]
 else
 .norm [.sl ((v1.getD 0 d0).ll), .i ((v1.getD 1 d0).ii), .i ((v1.getD 2 d0).ii), .s ((r2.getD 1 d0).ss)]
 else
 .fail) 1 fun v3 =>
 .norm [.sl ((v3.getD 0 d0).ll), .i ((v3.getD 1 d0).ii), .i (IntKind.i64.wrap ((v3.getD 2 d0).ii + (1 : Int))), .s ((v3.getD 3 d0).ss)]
 else
 .ex 0 [.s ((v1.getD 3 d0).ss)]
noncomputable def E_slices_IndexFunc_impl_Def__impl_named_1 (a : List DC) : Out :=
 Out.andThenB (Loop E_slices_IndexFunc_impl_Def__impl_named_1L1 [.sl ((a.getD 0 d0).ll), .i (((a.getD 0 d0).ll).length : Int), .i (0 : Int), .s ((a.getD 1 d0).ss)]) 0 fun v4 =>
 .ret [.i (-1 : Int), .s ((v4.getD 0 d0).ss)]
theorem eq_slices_IndexFunc_impl_Def__impl_named_1 a : r_slices_IndexFunc_impl_Def__impl_named_1 a = E_slices_IndexFunc_impl_Def__impl_named_1 a := (Run_eq cfg 82 _ a).trans (by kernel_rfl)
noncomputable def E_laws_eqType (a : List DC) : Out :=
 if (!((a.getD 0 d0).ss == (a.getD 2 d0).ss)) = true then
 .ret [.b false]
 else
 if (!((a.getD 1 d0).ss == (a.getD 3 d0).ss)) = true then
 .ret [.b false]
 else
 .ret [.b true]
theorem eq_laws_eqType a : r_laws_eqType a = E_laws_eqType a := (Run_eq cfg 90 _ a).trans (by kernel_rfl)
noncomputable def E_laws_eqValue (a : List DC) : Out :=
 if ((a.getD 0 d0).ii != (a.getD 4 d0).ii) = true then
 .ret [.b false]
 else
 if (!((a.getD 1 d0).ss == (a.getD 5 d0).ss)) = true then
 .ret [.b false]
 else
 (r_laws_eqValueS [.sl ((a.getD 2 d0).ll), .sl ((a.getD 6 d0).ll)]).bindR fun r1 =>
 if (!((r1.getD 0 d0).bb)) = true then
 .ret [.b false]
 else
 (r_laws_eqStringS [.sl ((a.getD 3 d0).ll), .sl ((a.getD 7 d0).ll)]).bindR fun r2 =>
 if (!((r2.getD 0 d0).bb)) = true then
 .ret [.b false]
 else
 .ret [.b true]
theorem eq_laws_eqValue a : r_laws_eqValue a = E_laws_eqValue a := (Run_eq cfg 91 _ a).trans (by kernel_rfl)
noncomputable def E_laws_eqArgSL1 : List DC → Out := fun v1 =>
 if (decide ((v1.getD 2 d0).ii < (((v1.getD 0 d0).ll).length : Int))) = true then
 Out.andThenB (if 167 = 167 ∧ 0 ≤ (v1.getD 2 d0).ii ∧ (v1.getD 2 d0).ii < (((v1.getD 0 d0).ll).length : Int) then
 if 167 = 167 ∧ 0 ≤ (v1.getD 2 d0).ii ∧ (v1.getD 2 d0).ii < (((v1.getD 1 d0).ll).length : Int) then
 (r_laws_eqArg [.s (((((v1.getD 0 d0).ll).getD ((v1.getD 2 d0).ii).toNat []).getD 0 d0).ss), .i (((((v1.getD 0 d0).ll).getD ((v1.getD 2 d0).ii).toNat []).getD 1 d0).ii), .s (((((v1.getD 0 d0).ll).getD ((v1.getD 2 d0).ii).toNat []).getD 2 d0).ss), .sl (((((v1.getD 0 d0).ll).getD ((v1.getD 2 d0).ii).toNat []).getD 3 d0).ll), .sl (((((v1.getD 0 d0).ll).getD ((v1.getD 2 d0).ii).toNat []).getD 4 d0).ll), .s (((((v1.getD 1 d0).ll).getD ((v1.getD 2 d0).ii).toNat []).getD 0 d0).ss), .i (((((v1.getD 1 d0).ll).getD ((v1.getD 2 d0).ii).toNat []).getD 1 d0).ii), .s (((((v1.getD 1 d0).ll).getD ((v1.getD 2 d0).ii).toNat []).getD 2 d0).ss), .sl (((((v1.getD 1 d0).ll).getD ((v1.getD 2 d0).ii).toNat []).getD 3 d0).ll), .sl (((((v1.getD 1 d0).ll).getD ((v1.getD 2 d0).ii).toNat []).getD 4 d0).ll)]).bindR fun r2 =>
 if (!((r2.getD 0 d0).bb)) = true then
 .ret [.b false]
 else
 .norm [.sl ((v1.getD 0 d0).ll), .sl ((v1.getD 1 d0).ll), .i ((v1.getD 2 d0).ii)]
 else
 .fail
 else
 .fail) 1 fun v3 =>
 .norm [.sl ((v3.getD 0 d0).ll), .sl ((v3.getD 1 d0).ll), .i (IntKind.i64.wrap ((v3.getD 2 d0).ii + (1 : Int)))]
 else
 .ex 0 []
noncomputable def E_laws_eqArgS (a : List DC) : Out :=
 if ((((a.getD 0 d0).ll).length : Int) != (((a.getD 1 d0).ll).length : Int)) = true then
 .ret [.b false]
 else
 Out.andThenB (Loop E_laws_eqArgSL1 [.sl ((a.getD 0 d0).ll), .sl ((a.getD 1 d0).ll), .i (0 : Int)]) 0 fun v4 =>
 .ret [.b true]
theorem eq_laws_eqArgS a : r_laws_eqArgS a = E_laws_eqArgS a := (Run_eq cfg 92 _ a).trans (by kernel_rfl)
noncomputable def E_laws_szValueSL1 : List DC → Out := fun v1 =>
 if (decide ((v1.getD 2 d0).ii < (((v1.getD 0 d0).ll).length : Int))) = true then
 Out.andThenB (if 99 = 99 ∧ 0 ≤ (v1.getD 2 d0).ii ∧ (v1.getD 2 d0).ii < (((v1.getD 0 d0).ll).length : Int) then
 (r_laws_szValue [.i (((((v1.getD 0 d0).ll).getD ((v1.getD 2 d0).ii).toNat []).getD 0 d0).ii), .s (((((v1.getD 0 d0).ll).getD ((v1.getD 2 d0).ii).toNat []).getD 1 d0).ss), .sl (((((v1.getD 0 d0).ll).getD ((v1.getD 2 d0).ii).toNat []).getD 2 d0).ll), .sl (((((v1.getD 0 d0).ll).getD ((v1.getD 2 d0).ii).toNat []).getD 3 d0).ll), .i ((v1.getD 1 d0).ii)]).bindR fun r2 =>
 if (decide ((r2.getD 0 d0).ii < (0 : Int))) = true then
 .ret [.i (-1 : Int)]
 else
 .norm [.sl ((v1.getD 0 d0).ll), .i ((r2.getD 0 d0).ii), .i ((v1.getD 2 d0).ii)]
 else
 .fail) 1 fun v3 =>
 .norm [.sl ((v3.getD 0 d0).ll), .i ((v3.getD 1 d0).ii), .i (IntKind.i64.wrap ((v3.getD 2 d0).ii + (1 : Int)))]
 else
 .ex 0 [.i ((v1.getD 1 d0).ii)]
noncomputable def E_laws_szValueS (a : List DC) : Out :=
 if (decide ((IntKind.i64.wrap ((a.getD 1 d0).ii - (((a.getD 0 d0).ll).length : Int))) < (0 : Int))) = true then
 .ret [.i (-1 : Int)]
 else
 Out.andThenB (Loop E_laws_szValueSL1 [.sl ((a.getD 0 d0).ll), .i (IntKind.i64.wrap ((a.getD 1 d0).ii - (((a.getD 0 d0).ll).length : Int))), .i (0 : Int)]) 0 fun v4 =>
 .ret [.i ((v4.getD 0 d0).ii)]
theorem eq_laws_szValueS a : r_laws_szValueS a = E_laws_szValueS a := (Run_eq cfg 93 _ a).trans (by kernel_rfl)
noncomputable def E_laws_szArg (a : List DC) : Out :=
 if (decide ((IntKind.i64.wrap ((a.getD 5 d0).ii - (((a.getD 0 d0).ss).length : Int))) < (0 : Int))) = true then
 .ret [.i (-1 : Int)]
 else
 (r_laws_szValue [.i ((a.getD 1 d0).ii), .s ((a.getD 2 d0).ss), .sl ((a.getD 3 d0).ll), .sl ((a.getD 4 d0).ll), .i (IntKind.i64.wrap ((a.getD 5 d0).ii - (((a.getD 0 d0).ss).length : Int)))]).bindR fun r1 =>
 if (decide ((r1.getD 0 d0).ii < (0 : Int))) = true then
 .ret [.i (-1 : Int)]
 else
 .ret [.i ((r1.getD 0 d0).ii)]
theorem eq_laws_szArg a : r_laws_szArg a = E_laws_szArg a := (Run_eq cfg 94 _ a).trans (by kernel_rfl)
noncomputable def E_laws_toValueSL1 : List DC → Out := fun v1 =>
 if (decide ((v1.getD 2 d0).ii < (((v1.getD 0 d0).ll).length : Int))) = true then
 Out.andThenB (if 99 = 99 ∧ 0 ≤ (v1.getD 2 d0).ii ∧ (v1.getD 2 d0).ii < (((v1.getD 0 d0).ll).length : Int) then
 (r_laws_toValue [.i (((((v1.getD 0 d0).ll).getD ((v1.getD 2 d0).ii).toNat []).getD 0 d0).ii), .s (((((v1.getD 0 d0).ll).getD ((v1.getD 2 d0).ii).toNat []).getD 1 d0).ss), .sl (((((v1.getD 0 d0).ll).getD ((v1.getD 2 d0).ii).toNat []).getD 2 d0).ll), .sl (((((v1.getD 0 d0).ll).getD ((v1.getD 2 d0).ii).toNat []).getD 3 d0).ll)]).bindR fun r2 =>
 if 115 = 115 ∧ 0 ≤ (v1.getD 2 d0).ii ∧ (v1.getD 2 d0).ii < (((v1.getD 1 d0).ll).length : Int) then
 .norm [.sl ((v1.getD 0 d0).ll), .sl (((v1.getD 1 d0).ll).set (((v1.getD 2 d0).ii).toNat) (setRunD (((v1.getD 1 d0).ll).getD (((v1.getD 2 d0).ii).toNat) []) 0 [DC.i ((r2.getD 0 d0).ii), DC.s ((r2.getD 1 d0).ss), DC.sl ((r2.getD 2 d0).ll), DC.sl ((r2.getD 3 d0).ll)])), .i ((v1.getD 2 d0).ii)]
 else
 .fail
 else
 .fail) 1 fun v3 =>
 .norm [.sl ((v3.getD 0 d0).ll), .sl ((v3.getD 1 d0).ll), .i (IntKind.i64.wrap ((v3.getD 2 d0).ii + (1 : Int)))]
 else
 .ex 0 [.sl ((v1.getD 1 d0).ll)]
noncomputable def E_laws_toValueS (a : List DC) : Out :=
 if 0 ≤ (((a.getD 0 d0).ll).length : Int) ∧ (((a.getD 0 d0).ll).length : Int) < (LIM : Int) ∧ (((a.getD 0 d0).ll).length : Int) = (((a.getD 0 d0).ll).length : Int) ∧ 72 ≤ 1024 ∧ 0 < 4 ∧ dp 115 = false then
 Out.andThenB (Loop E_laws_toValueSL1 [.sl ((a.getD 0 d0).ll), .sl (List.replicate (((a.getD 0 d0).ll).length : Int).toNat [DC.i 0, DC.s [], DC.sl [], DC.sl []]), .i (0 : Int)]) 0 fun v4 =>
 .ret [.sl ((v4.getD 0 d0).ll)]
 else
 .fail
theorem eq_laws_toValueS a : r_laws_toValueS a = E_laws_toValueS a := (Run_eq cfg 95 _ a).trans (by kernel_rfl)
noncomputable def E_laws_toArg (a : List DC) : Out :=
 (r_laws_toValue [.i ((a.getD 1 d0).ii), .s ((a.getD 2 d0).ss), .sl ((a.getD 3 d0).ll), .sl ((a.getD 4 d0).ll)]).bindR fun r1 =>
 .ret [.s ((a.getD 0 d0).ss), .i ((r1.getD 0 d0).ii), .s ((r1.getD 1 d0).ss), .sl ((r1.getD 2 d0).ll), .sl ((r1.getD 3 d0).ll)]
theorem eq_laws_toArg a : r_laws_toArg a = E_laws_toArg a := (Run_eq cfg 96 _ a).trans (by kernel_rfl)
noncomputable def E_impl_named_1 (a : List DC) : Out :=
 .ret [.b ((a.getD 3 d0).ss == (a.getD 11 d0).ss), .s ((a.getD 11 d0).ss)]
theorem eq_impl_named_1 a : r_impl_named_1 a = E_impl_named_1 a := (Run_eq cfg 83 _ a).trans (by kernel_rfl)
noncomputable def E_laws_eqValueSL1 : List DC → Out := fun v1 =>
 if (decide ((v1.getD 2 d0).ii < (((v1.getD 0 d0).ll).length : Int))) = true then
 Out.andThenB (if 115 = 115 ∧ 0 ≤ (v1.getD 2 d0).ii ∧ (v1.getD 2 d0).ii < (((v1.getD 0 d0).ll).length : Int) then
 if 115 = 115 ∧ 0 ≤ (v1.getD 2 d0).ii ∧ (v1.getD 2 d0).ii < (((v1.getD 1 d0).ll).length : Int) then
 (r_laws_eqValue [.i (((((v1.getD 0 d0).ll).getD ((v1.getD 2 d0).ii).toNat []).getD 0 d0).ii), .s (((((v1.getD 0 d0).ll).getD ((v1.getD 2 d0).ii).toNat []).getD 1 d0).ss), .sl (((((v1.getD 0 d0).ll).getD ((v1.getD 2 d0).ii).toNat []).getD 2 d0).ll), .sl (((((v1.getD 0 d0).ll).getD ((v1.getD 2 d0).ii).toNat []).getD 3 d0).ll), .i (((((v1.getD 1 d0).ll).getD ((v1.getD 2 d0).ii).toNat []).getD 0 d0).ii), .s (((((v1.getD 1 d0).ll).getD ((v1.getD 2 d0).ii).toNat []).getD 1 d0).ss), .sl (((((v1.getD 1 d0).ll).getD ((v1.getD 2 d0).ii).toNat []).getD 2 d0).ll), .sl (((((v1.getD 1 d0).ll).getD ((v1.getD 2 d0).ii).toNat []).getD 3 d0).ll)]).bindR fun r2 =>
 if (!((r2.getD 0 d0).bb)) = true then
 .ret [.b false]
 else
 .norm [.sl ((v1.getD 0 d0).ll), .sl ((v1.getD 1 d0).ll), .i ((v1.getD 2 d0).ii)]
 else
 .fail
 else
 .fail) 1 fun v3 =>
 .norm [.sl ((v3.getD 0 d0).ll), .sl ((v3.getD 1 d0).ll), .i (IntKind.i64.wrap ((v3.getD 2 d0).ii + (1 : Int)))]
 else
 .ex 0 []
noncomputable def E_laws_eqValueS (a : List DC) : Out :=
 if ((((a.getD 0 d0).ll).length : Int) != (((a.getD 1 d0).ll).length : Int)) = true then
 .ret [.b false]
 else
 Out.andThenB (Loop E_laws_eqValueSL1 [.sl ((a.getD 0 d0).ll), .sl ((a.getD 1 d0).ll), .i (0 : Int)]) 0 fun v4 =>
 .ret [.b true]
theorem eq_laws_eqValueS a : r_laws_eqValueS a = E_laws_eqValueS a := (Run_eq cfg 98 _ a).trans (by kernel_rfl)
noncomputable def E_laws_eqArg (a : List DC) : Out :=
 if (!((a.getD 0 d0).ss == (a.getD 5 d0).ss)) = true then
 .ret [.b false]
 else
 (r_laws_eqValue [.i ((a.getD 1 d0).ii), .s ((a.getD 2 d0).ss), .sl ((a.getD 3 d0).ll), .sl ((a.getD 4 d0).ll), .i ((a.getD 6 d0).ii), .s ((a.getD 7 d0).ss), .sl ((a.getD 8 d0).ll), .sl ((a.getD 9 d0).ll)]).bindR fun r1 =>
 if (!((r1.getD 0 d0).bb)) = true then
 .ret [.b false]
 else
 .ret [.b true]
theorem eq_laws_eqArg a : r_laws_eqArg a = E_laws_eqArg a := (Run_eq cfg 99 _ a).trans (by kernel_rfl)
end Go.Proofs.QV

