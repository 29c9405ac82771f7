import Derived.Test.YtjmfjemandkfdabGreatDoorMI5
import Derived.WalkKit
import Derived.ProofKit
import Derived.OpenShut
import Derived.ShutString
import Derived.ChangeOld
import Derived.SizedLaws
import Derived.Lib.ParseIntB
import Derived.Test.YtjmfjemandkfdabGreatDoorProg
import Derived.Shelf.Strconv.ParseIntPublic10
import Derived.Lib.AtoiErrMem
import Derived.BigCall
/- The input reads as it did. -/
namespace Go.Proofs.QV
open Go
theorem args_stay {H : Type} {enc : TypeId × Value → H} {P : Program} (hl : laidOutB P = true) {W W' : World} (hb : RowKit.Below W.heap.size W W') : ∀ {ts : List TypeId} {vs : List Value} {ds : List (DataW H)} {ps : List MemPlace},
    (ts.all fun t => P.readableRec t && Nat.blt t P.types.size) = true → DataW.TrodAll enc P W 0 (fun _ => true) true ts vs ds ps → DataW.TrodAll enc P W' 0 (fun b => decide (b < W.heap.size)) true ts vs ds ps
  | [], [], [], ps, _, h => h
  | t :: ts, v :: vs, d :: ds, ps, ht, ⟨p, q, h1, h2, h3⟩ => by
    simp only [List.all_cons, Bool.and_eq_true] at ht
    obtain ⟨⟨k1, k2⟩, k3⟩ := ht
    refine ⟨p, q, RowKit.Below.trod hl k1 (by simpa [Nat.blt_eq] using k2) h1 hb ?_, args_stay hl hb k3 h2, h3⟩
    obtain ⟨m, hm⟩ := h1
    exact DataW.trod_lt m _ _ _ hm
  | [], _ :: _, _, _, _, h => h.elim
  | [], [], _ :: _, _, _, h => h.elim
  | _ :: _, [], _, _, _, h => h.elim
  | _ :: _, _ :: _, [], _, _, h => h.elim
theorem wrap64 {n : Int} (h1 : -9223372036854775808 ≤ n) (h2 : n ≤ 9223372036854775807) : IntKind.i64.wrap n = n := by
  rw [IntKind.wrap_i64]
  omega
set_option linter.unusedVariables false
set_option linter.unusedSimpArgs false
def Out.esc (o : Out) : Prop := ∀ K, o.andThen K = o
theorem Out.esc_ret (v : List DC) : (Out.ret v).esc := fun _ => rfl
theorem Out.esc_ex (id : Nat) (v : List DC) : (Out.ex id v).esc := fun _ => rfl
theorem Loop_norm {F : List DC → Out} {v v' : List DC} (h : F v = .norm v') : Loop F v = Loop F v' := by rw [Loop_eq, h]; rfl
theorem Loop_ret {F : List DC → Out} {v r : List DC} (h : F v = .ret r) : Loop F v = .ret r := by rw [Loop_eq, h]; rfl
theorem Loop_ex {F : List DC → Out} {v r : List DC} {id : Nat} (h : F v = .ex id r) : Loop F v = .ex id r := by rw [Loop_eq, h]; rfl
theorem Loop_esc {F : List DC → Out} {v : List DC} {o : Out} (h : F v = o) (he : o.esc) : Loop F v = o := by rw [Loop_eq, h, he]
theorem Loop_upto {F : List DC → Out} {st : Nat → List DC} {o : Out} : ∀ (m i : Nat), (∀ j, i ≤ j → j < i + m → F (st j) = .norm (st (j + 1))) → Loop F (st (i + m)) = o → Loop F (st i) = o
  | 0, i, _, h2 => by simpa using h2
  | m + 1, i, h1, h2 => by
    rw [Loop_norm (h1 i (Nat.le_refl _) (by omega))]
    refine Loop_upto m (i + 1) (fun j hj hj' => h1 j (by omega) (by omega)) ?_
    rw [show i + 1 + m = i + (m + 1) by omega]
    exact h2
def goF {α : Type} (p : α → Bool) (stop : Nat → α → Out) (fin : Out) : Nat → List α → Out
  | _, [] => fin
  | i, x :: xs => if p x = true then stop i x else goF p stop fin (i + 1) xs
theorem Loop_find {α : Type} {l : List α} {st : Nat → List DC} {p : α → Bool} {stop : Nat → α → Out} {fin : Out} {F : List DC → Out}
    (hF : ∀ (i : Nat) (hi : i < l.length), F (st i) = if p l[i] = true then stop i l[i] else .norm (st (i + 1)))
    (hs : ∀ i x, (stop i x).esc) (hend : F (st l.length) = fin) (hfin : fin.esc) : ∀ (m i : Nat), i + m = l.length → Loop F (st i) = goF p stop fin i (l.drop i)
  | 0, i, hi => by
    have : i = l.length := by omega
    subst this
    rw [List.drop_length, goF]
    exact Loop_esc hend hfin
  | m + 1, i, hi => by
    have hlt : i < l.length := by omega
    rw [List.drop_eq_getElem_cons hlt, goF]
    by_cases hp : p l[i] = true
    · rw [if_pos hp]
      exact Loop_esc (by rw [hF i hlt, if_pos hp]) (hs _ _)
    · rw [if_neg hp, Loop_norm (by rw [hF i hlt, if_neg hp])]
      exact Loop_find hF hs hend hfin m (i + 1) (by omega)
theorem Loop_find0 {α : Type} {l : List α} {st : Nat → List DC} {p : α → Bool} {stop : Nat → α → Out} {fin : Out} {F : List DC → Out}
    (hF : ∀ (i : Nat) (hi : i < l.length), F (st i) = if p l[i] = true then stop i l[i] else .norm (st (i + 1)))
    (hs : ∀ i x, (stop i x).esc) (hend : F (st l.length) = fin) (hfin : fin.esc) : Loop F (st 0) = goF p stop fin 0 l := by
  have := Loop_find hF hs hend hfin l.length 0 (by omega)
  rwa [List.drop_zero] at this
theorem goF_any {α : Type} {p : α → Bool} {a : Out} {fin : Out} : ∀ (l : List α) (i : Nat), goF p (fun _ _ => a) fin i l = if l.any p = true then a else fin
  | [], i => rfl
  | x :: l, i => by
    rw [goF, goF_any l (i + 1), List.any_cons]
    cases p x <;> simp
theorem wrap_succ {i n : Nat} (h : i < n) (hn : n ≤ 9223372036854775807) : IntKind.i64.wrap ((i : Int) + 1) = ((i + 1 : Nat) : Int) := by
  rw [wrap64 (by omega) (by omega)]
  simp
theorem map_getD {α : Type} {f : α → List DC} {l : List α} {i : Nat} (h : i < l.length) : (l.map f).getD i [] = f l[i] := by
  rw [List.getD_eq_getElem?_getD, List.getElem?_map, List.getElem?_eq_getElem h]
  rfl
def szR (left : Int) (w : Nat) : Int := if left < (w : Int) then -1 else left - w
theorem szR_lt {left : Int} {w : Nat} (h : left < (w : Int)) : szR left w = -1 := if_pos h
theorem szR_ge {left : Int} {w : Nat} (h : ¬ left < (w : Int)) : szR left w = left - w := if_neg h
theorem szS_loop {α : Type} {enc : α → List DC} {vs : List α} {F : List DC → Out}
    (hF : ∀ (i : Nat) (hi : i < vs.length) (left : Int), 0 ≤ left → left ≤ 1048576 → F [.sl (vs.map enc), .i left, .i (i : Int)] = if left < (wtL (enc vs[i]) : Int) then .ret [.i (-1)] else .norm [.sl (vs.map enc), .i (left - wtL (enc vs[i])), .i ((i + 1 : Nat) : Int)])
    (hend : ∀ left, F [.sl (vs.map enc), .i left, .i (vs.length : Int)] = .ex 0 [.i left]) :
    ∀ (m i : Nat) (left : Int), i + m = vs.length → 0 ≤ left → left ≤ 1048576 → Loop F [.sl (vs.map enc), .i left, .i (i : Int)] = if left < (wtV ((vs.drop i).map enc) : Int) then .ret [.i (-1)] else .ex 0 [.i (left - wtV ((vs.drop i).map enc))]
  | 0, i, left, hi, h0, h1 => by
    have : i = vs.length := by omega
    subst this
    rw [List.drop_length, Loop_ex (hend left)]
    simp only [List.map_nil, wtV]
    rw [if_neg (by omega)]
    simp
  | m + 1, i, left, hi, h0, h1 => by
    have hlt : i < vs.length := by omega
    have hw : wtV ((vs.drop i).map enc) = wtL (enc vs[i]) + wtV ((vs.drop (i + 1)).map enc) := by
      rw [List.drop_eq_getElem_cons hlt, List.map_cons, wtV]
    by_cases hc : left < (wtL (enc vs[i]) : Int)
    · rw [Loop_ret (by rw [hF i hlt left h0 h1, if_pos hc]), if_pos (by omega)]
    · rw [Loop_norm (by rw [hF i hlt left h0 h1, if_neg hc]), szS_loop hF hend m (i + 1) _ (by omega) (by omega) (by omega), hw]
      by_cases h2 : left - (wtL (enc vs[i]) : Int) < (wtV ((vs.drop (i + 1)).map enc) : Int)
      · rw [if_pos h2, if_pos (by omega)]
      · rw [if_neg h2, if_neg (by omega)]
        congr 3
        omega
theorem szS_all {α : Type} {enc : α → List DC} {vs : List α} {F : List DC → Out} (hl : vs.length ≤ 9223372036854775807)
    (hF : ∀ (i : Nat) (hi : i < vs.length) (left : Int), 0 ≤ left → left ≤ 1048576 → F [.sl (vs.map enc), .i left, .i (i : Int)] = if left < (wtL (enc vs[i]) : Int) then .ret [.i (-1)] else .norm [.sl (vs.map enc), .i (left - wtL (enc vs[i])), .i ((i + 1 : Nat) : Int)])
    (hend : ∀ left, F [.sl (vs.map enc), .i left, .i (vs.length : Int)] = .ex 0 [.i left]) {left : Int} (h0 : 0 ≤ left) (h1 : left ≤ 1048576) :
    (if (decide ((IntKind.i64.wrap (left - (((vs.map enc).length : Nat) : Int))) < (0 : Int))) = true then Out.ret [DC.i (-1 : Int)]
    else Out.andThenB (Loop F [DC.sl (vs.map enc), DC.i (IntKind.i64.wrap (left - (((vs.map enc).length : Nat) : Int))), DC.i (0 : Int)]) 0 fun v4 => .ret [DC.i ((v4.getD 0 d0).ii)]) = .ret [.i (szR left (DC.wt (.sl (vs.map enc))))] := by
  rw [DC.wt, List.length_map, wrap64 (by omega) (by omega)]
  by_cases hc : left - (vs.length : Int) < 0
  · simp only [hc, decide_true, if_true]
    rw [szR_lt (by omega)]
  · simp only [hc, decide_false, Bool.false_eq_true, if_false]
    have := szS_loop hF hend vs.length 0 (left - vs.length) (by omega) (by omega) (by omega)
    rw [List.drop_zero] at this
    rw [show (0 : Int) = ((0 : Nat) : Int) from rfl, this]
    by_cases h2 : left - (vs.length : Int) < (wtV (vs.map enc) : Int)
    · rw [if_pos h2, szR_lt (by omega)]
      rfl
    · rw [if_neg h2, szR_ge (by omega)]
      simp only [Out.andThenB_ex, if_true, List.getD_cons_zero, DC.ii_i]
      congr 3
      omega
theorem toS_loop {α : Type} {enc : α → List DC} {vs : List α} {z : List DC} {F : List DC → Out} (hl : vs.length ≤ 1048576)
    (hF : ∀ (i : Nat) (hi : i < vs.length) (cur : List (List DC)), cur.length = vs.length → cur.getD i [] = z → F [.sl (vs.map enc), .sl cur, .i (i : Int)] = .norm [.sl (vs.map enc), .sl (cur.set i (enc vs[i])), .i ((i + 1 : Nat) : Int)])
    (hend : ∀ cur, F [.sl (vs.map enc), .sl cur, .i (vs.length : Int)] = .ex 0 [.sl cur]) :
    Loop F [.sl (vs.map enc), .sl (List.replicate vs.length z), .i ((0 : Nat) : Int)] = .ex 0 [.sl (vs.map enc)] := by
  have hloop : Loop F [.sl (vs.map enc), .sl (List.replicate vs.length z), .i ((0 : Nat) : Int)] = .ex 0 [.sl (vs.map enc)] := by
    have h := Loop_upto (F := F) (st := fun i => [.sl (vs.map enc), .sl ((vs.map enc).take i ++ List.replicate (vs.length - i) z), .i (i : Int)]) (o := .ex 0 [.sl (vs.map enc)]) vs.length 0 (fun i _ hi => by
      have hlt : i < vs.length := by omega
      have hlen : ((vs.map enc).take i ++ List.replicate (vs.length - i) z).length = vs.length := by simp; omega
      have hgz : ((vs.map enc).take i ++ List.replicate (vs.length - i) z).getD i [] = z := by
        rw [List.getD_eq_getElem?_getD, List.getElem?_append_right (by simp; omega), List.getElem?_replicate, if_pos (by simp; omega)]
        rfl
      have := hF i hlt _ hlen hgz
      have hset : ((vs.map enc).take i ++ List.replicate (vs.length - i) z).set i (enc vs[i]) = (vs.map enc).take (i + 1) ++ List.replicate (vs.length - (i + 1)) z := by
        have ht : (vs.map enc).take (i + 1) = (vs.map enc).take i ++ [enc vs[i]] := by rw [List.take_add_one, List.getElem?_map, List.getElem?_eq_getElem hlt]; rfl
        rw [List.set_append_right _ _ (by simp; omega), ht]
        obtain ⟨m, hm⟩ : ∃ m, vs.length - i = m + 1 := ⟨vs.length - i - 1, by omega⟩
        have hm2 : vs.length - (i + 1) = m := by omega
        have hm3 : i - ((vs.map enc).take i).length = 0 := by simp; omega
        rw [hm, hm2, hm3, List.replicate_succ]
        simp only [List.set_cons_zero, List.append_assoc, List.singleton_append]
      rw [hset] at this
      exact this) (by
        have := hend (vs.map enc)
        refine Loop_ex ?_
        have ht : (vs.map enc).take (0 + vs.length) = vs.map enc := List.take_of_length_le (by simp)
        rw [ht]
        simpa using this)
    simpa using h
  exact hloop
theorem lim_of {n : Nat} (h : n ≤ 1048576) : (n : Int) < (LIM : Int) := by simp only [LIM]; omega
theorem eqS_all {l : List (List DC)} {F : List DC → Out} (hF : ∀ (i : Nat), i < l.length → F [.sl l, .sl l, .i (i : Int)] = .norm [.sl l, .sl l, .i ((i + 1 : Nat) : Int)]) (hend : F [.sl l, .sl l, .i (l.length : Int)] = .ex 0 []) :
    (if ((l.length : Int) != (l.length : Int)) = true then Out.ret [DC.b false]
    else Out.andThenB (Loop F [DC.sl l, DC.sl l, DC.i (0 : Int)]) 0 fun v4 => .ret [DC.b true]) = .ret [.b true] := by
  have hloop : Loop F [.sl l, .sl l, .i ((0 : Nat) : Int)] = .ex 0 [] :=
    Loop_upto (st := fun i => [.sl l, .sl l, .i (i : Int)]) l.length 0 (fun j _ hj => hF j (by omega)) (by rw [Nat.zero_add]; exact Loop_ex hend)
  rw [show (0 : Int) = ((0 : Nat) : Int) from rfl, hloop]
  simp
def gi (v : List DC) (n : Nat) : Int := (v.getD n d0).ii
def gl (v : List DC) (n : Nat) : List (List DC) := (v.getD n d0).ll
def gs (v : List DC) (n : Nat) : List UInt8 := (v.getD n d0).ss
def gb (v : List DC) (n : Nat) : Bool := (v.getD n d0).bb
theorem zz0 : (∀ {α : Type} {x : α} {l : List α} {d : α}, (x :: l).getD 0 d = x) ∧ (∀ x l, gi (x :: l) 0 = x.ii) ∧ (∀ x l, gl (x :: l) 0 = x.ll) ∧ (∀ x l, gs (x :: l) 0 = x.ss) ∧ (∀ x l, gb (x :: l) 0 = x.bb) :=
  ⟨List.getD_cons_zero, fun _ _ => rfl, fun _ _ => rfl, fun _ _ => rfl, fun _ _ => rfl⟩
theorem zz1 : (∀ {α : Type} {x : α} {l : List α} {i : Nat} {d : α}, (x :: l).getD (i + 1) d = l.getD i d) ∧ (∀ x l n, gi (x :: l) (n + 1) = gi l n) ∧ (∀ x l n, gl (x :: l) (n + 1) = gl l n) ∧ (∀ x l n, gs (x :: l) (n + 1) = gs l n) ∧ (∀ x l n, gb (x :: l) (n + 1) = gb l n) :=
  ⟨List.getD_cons_succ, fun _ _ _ => rfl, fun _ _ _ => rfl, fun _ _ _ => rfl, fun _ _ _ => rfl⟩
@[simp] theorem gi0 (x : DC) (l : List DC) : gi (x :: l) 0 = x.ii := rfl
@[simp] theorem gl0 (x : DC) (l : List DC) : gl (x :: l) 0 = x.ll := rfl
@[simp] theorem gs0 (x : DC) (l : List DC) : gs (x :: l) 0 = x.ss := rfl
@[simp] theorem gb0 (x : DC) (l : List DC) : gb (x :: l) 0 = x.bb := rfl
@[simp] theorem gi1 (x : DC) (l : List DC) (n : Nat) : gi (x :: l) (n + 1) = gi l n := rfl
@[simp] theorem gl1 (x : DC) (l : List DC) (n : Nat) : gl (x :: l) (n + 1) = gl l n := rfl
@[simp] theorem gs1 (x : DC) (l : List DC) (n : Nat) : gs (x :: l) (n + 1) = gs l n := rfl
@[simp] theorem gb1 (x : DC) (l : List DC) (n : Nat) : gb (x :: l) (n + 1) = gb l n := rfl
theorem zr (v : List DC) (K : List DC → Out) : (Out.ret v).bindR K = K v := rfl
@[simp] theorem zb (x : Bool) : (DC.b x).bb = x := rfl
@[simp] theorem zi (x : Int) : (DC.i x).ii = x := rfl
@[simp] theorem zs (x : List UInt8) : (DC.s x).ss = x := rfl
@[simp] theorem zl (x : List (List DC)) : (DC.sl x).ll = x := rfl
theorem zt (b : Bool) : b = true ∨ b = false := Bool.eq_false_or_eq_true b
theorem zm {α β : Type} (f : α → β) {l : List α} : (l.map f).length = l.length := List.length_map f
theorem zf : (false = true) = False := Bool.false_eq_true
def k1Is : CT → KC → Bool
  | .b, .one .b => true
  | .i k, .one (.i k') => decide (k = k')
  | .s, .one .s => true
  | _, _ => false
def tmIs : List CT → List KC → Bool
  | [], [] => true
  | c :: cs, k :: ks => k1Is c k && tmIs cs ks
  | _, _ => false
def hintLit (cts : List CT) (h : Hint) : Bool := tmIs cts h.tm && (match h.ob with | [] => true | _ => false)
theorem tmIs_eq : ∀ {cts : List CT} {ks : List KC}, tmIs cts ks = true → ks = cts.map fun c => .one c.k1
  | [], [], _ => rfl
  | c :: cs, k :: ks, h => by
    simp only [tmIs, Bool.and_eq_true] at h
    rw [List.map_cons, ← tmIs_eq h.2]
    congr 1
    have h1 := h.1
    unfold k1Is at h1
    split at h1
    · rfl
    · simp only [decide_eq_true_eq] at h1; rw [h1]; rfl
    · rfl
    · simp at h1
  | [], _ :: _, h => by simp [tmIs] at h
  | _ :: _, [], h => by simp [tmIs] at h
theorem tmIs_flat : ∀ {cts : List CT} {ks : List KC}, tmIs cts ks = true → cts.all CT.flat = true
  | [], _, _ => rfl
  | c :: cs, k :: ks, h => by
    simp only [tmIs, Bool.and_eq_true] at h
    rw [List.all_cons, tmIs_flat h.2, Bool.and_true]
    have h1 := h.1
    cases c <;> simp_all [k1Is, CT.flat]
  | _ :: _, [], h => by simp [tmIs] at h
def litC : CT → DC → Value
  | .b, d => .bool d.bb
  | .i k, d => .int k d.ii
  | .s, d => .string ⟨d.ss.toArray⟩
  | .sl _, _ => undef
def lits : List CT → List DC → Nat → List Value
  | [], _, _ => []
  | c :: cs, v, n => litC c (v.getD n d0) :: lits cs v (n + 1)
theorem lits_len : ∀ (cts : List CT) (v : List DC) (n : Nat), (lits cts v n).length = cts.length
  | [], _, _ => rfl
  | c :: cs, v, n => by rw [lits, List.length_cons, lits_len cs v (n + 1), List.length_cons]
theorem mkT_lit (v : List DC) : ∀ (cts : List CT) (n i : Nat) (c : CT), cts.all CT.flat = true → cts[i]? = some c → (mkT v n (cts.map fun c => KC.one c.k1))[i]? = some (.one (c.k1.mk v (n + i)))
  | [], n, i, c, _, h => by simp at h
  | a :: cts, n, 0, c, hf, h => by
    simp only [List.getElem?_cons_zero, Option.some.injEq] at h
    subst h
    rfl
  | a :: cts, n, i + 1, c, hf, h => by
    simp only [List.all_cons, Bool.and_eq_true] at hf
    simp only [List.getElem?_cons_succ] at h
    have hc : a.k1.cnt = 1 := by cases a <;> rfl
    rw [List.map_cons, mkT, List.getElem?_cons_succ, hc, mkT_lit v cts (n + 1) i c hf.2 h]
    congr 3
    omega
theorem mkT_len (v : List DC) : ∀ (ks : List KC) (n : Nat), (mkT v n ks).length = ks.length
  | [], _ => rfl
  | .one k :: ks, n => by rw [mkT, List.length_cons, mkT_len v ks, List.length_cons]
  | .agg l :: ks, n => by rw [mkT, List.length_cons, mkT_len v ks, List.length_cons]
theorem lits_get (v : List DC) : ∀ (cts : List CT) (n i : Nat) (c : CT), cts[i]? = some c → (lits cts v n)[i]? = some (litC c (v.getD (n + i) d0))
  | [], n, i, c, h => by simp at h
  | a :: cts, n, 0, c, h => by
    simp only [List.getElem?_cons_zero, Option.some.injEq] at h
    subst h
    rfl
  | a :: cts, n, i + 1, c, h => by
    simp only [List.getElem?_cons_succ] at h
    rw [lits, List.getElem?_cons_succ, lits_get v cts (n + 1) i c h]
    congr 3
    omega
section
variable {P : Program} {ty : Nat → Option TI}
theorem lit_args {A : An} {g : Gh} {fi : FI} {cts : List CT} {v : List DC} {vals : Array Value} {w : World} (hf : cts.all CT.flat = true)
    (hr : Rel ty A g (startSt fi ⟨cts.map fun c => .one c.k1, []⟩ v) { tmps := vals ++ Array.replicate (fi.ntmps - vals.size) undef, defers := [] } w) (hs : vals.size = cts.length) : vals = (lits cts v 0).toArray := by
  apply Array.toList_inj.1
  apply List.ext_getElem?
  intro i
  by_cases hi : i < cts.length
  · have hc : cts[i]? = some cts[i] := List.getElem?_eq_getElem hi
    have h1 := mkT_lit v cts 0 i _ hf hc
    have h2 : (startSt fi ⟨cts.map fun c => .one c.k1, []⟩ v).tm[i]? = some (.one (cts[i].k1.mk v (0 + i))) := by
      unfold startSt mkSt
      dsimp only
      rw [List.getElem?_append_left (by rw [mkT_len]; simpa using hi)]
      exact h1
    have hv : vals.toList[i]? = some (vals[i]'(by omega)) := by
      rw [Array.getElem?_toList, Array.getElem?_eq_getElem (by omega)]
    have h3 := hr.tm i _ (vals[i]'(by omega)) h2 (by
      dsimp only
      rw [Array.getElem?_append_left (by omega), Array.getElem?_eq_getElem (by omega)])
    have hfl : CT.flat cts[i] = true := List.all_eq_true.1 hf _ (List.getElem_mem hi)
    have hl := lits_get v cts 0 i _ hc
    simp only [List.toList_toArray] at hl ⊢
    rw [hv, hl]
    congr 1
    generalize cts[i] = c at h3 hfl ⊢
    cases c with
    | sl e => simp [CT.flat] at hfl
    | b => exact h3
    | i k => exact h3
    | s => exact h3
  · rw [List.getElem?_eq_none (by simp; omega), List.getElem?_eq_none (by simp [lits_len]; omega)]
theorem rkAll_ct (rcts : List CT) (i : Nat) : rkAll i (rcts.map fun c => (false, [RK.ct c])) = rcts.map CT.k1 := by
  unfold rkAll
  induction rcts with
  | nil => rfl
  | cons c cs ih =>
    rw [List.map_cons, List.flatMap_cons, List.map_cons]
    show rkK i (RK.ct c :: (cs.map fun c => (false, [RK.ct c])).flatMap Prod.snd) = _
    rw [rkK]
    show c.k1 :: rkK i _ = _
    rw [ih]
def okD : CT → DC → Bool
  | .b, .b _ => true
  | .i _, .i _ => true
  | .s, .s _ => true
  | _, _ => false
def okDs : List CT → List DC → Nat → Bool
  | [], _, _ => true
  | c :: cs, r, n => okD c (r.getD n d0) && okDs cs r (n + 1)
theorem lit_res {A : An} {rcts : List CT} {r : List DC} {w' : World} (hf : okDs rcts r 0 = true) (hA : A.m = 0) (hk : Keep A w') : Res ty A [] (rcts.map fun c => (false, [RK.ct c])) r (lits rcts r 0) w' := by
  refine ⟨⟨⟨fun _ => False, fun _ => 0, fun _ => undef⟩, [], [], lits rcts r 0, [], ?_, rfl, ?_, ?_, fun b h => h.elim, fun j hj => by omega, fun j hj => by omega⟩, hk⟩
  · have : ∀ (cs : List CT) (n : Nat), RVs (cs.map fun c => (false, [RK.ct c])) (lits cs r n) (lits cs r n) := by
      intro cs
      induction cs with
      | nil => intro n; rfl
      | cons c cs ih => intro n; exact ⟨[litC c (r.getD n d0)], lits cs r (n + 1), rfl, rfl, fun h => absurd h (by simp), fun _ => rfl, ih (n + 1)⟩
    exact this rcts 0
  · rw [rkAll_ct, List.flatMap_nil, List.append_nil, List.append_nil]
    have : ∀ (cs : List CT) (n : Nat), okDs cs r n = true → FL ty A ⟨fun _ => False, fun _ => 0, fun _ => undef⟩ [] [] w' r n (cs.map CT.k1) (lits cs r n) := by
      intro cs
      induction cs with
      | nil => intro n _; trivial
      | cons c cs ih =>
        intro n hc
        simp only [okDs, Bool.and_eq_true] at hc
        have hcnt : c.k1.cnt = 1 := by cases c <;> rfl
        rw [List.map_cons, lits]
        refine ⟨⟨[r.getD n d0], by rw [hcnt]; rfl, fun i hi => ?_, ?_⟩, ?_⟩
        · rw [hcnt] at hi
          have : i = 0 := by omega
          subst this
          rfl
        · have h1 := hc.1
          cases c with
          | b => cases hd : r.getD n d0 <;> rw [hd] at h1 <;> simp [okD] at h1; exact ⟨_, rfl, rfl⟩
          | i k => cases hd : r.getD n d0 <;> rw [hd] at h1 <;> simp [okD] at h1; exact ⟨_, rfl, rfl⟩
          | s => cases hd : r.getD n d0 <;> rw [hd] at h1 <;> simp [okD] at h1; exact ⟨_, rfl, rfl⟩
          | sl e => simp [okD] at h1
        · rw [hcnt]
          exact ih (n + 1) hc.2
    exact this rcts 0 hf
  · rw [rkAll_ct, List.flatMap_nil, List.append_nil, List.append_nil]
    have : ∀ (cs : List CT) (us : List Value), Apart (cs.map CT.k1) us := by
      intro cs
      induction cs with
      | nil => intro us; cases us <;> trivial
      | cons c cs ih =>
        intro us
        cases us with
        | nil => cases c <;> trivial
        | cons u us => cases c <;> exact ih us
    exact this rcts _
theorem via_lit {G : Glob} {f : Nat} {fi : FI} {fd : Func} {cts rcts : List CT} {x : Via} (h1 : P.funcs[f]? = some fd) (h2 : (fd.name == "runtime.NumGoroutine") = false) (h3 : fd.body.isNone = false)
    (hrk : fi.rk = rcts.map fun c => (false, [RK.ct c])) (hp : fi.prim = none) (hv : fi.via = some x) (hok : x.ok = hintLit cts)
    (hq : ∀ fn cl v r b w, CallOK P G ty fn cl → (∃ fi', fn x.f = some fi' ∧ fi'.rk = [(false, [.ct .b])]) → cl x.f x.h (x.pre v) = .ret b → x.post v b = some r → G.ok w ∧ (∀ b, G.gb b → b < w.heap.size) → okDs rcts r 0 = true ∧ Calls P f (lits cts v 0).toArray w fun e w' => e = .returned (resVal (lits rcts r 0)) ∧ RowKit.Below w.heap.size w w') : FnOk P G ty f fi := by
  refine ⟨⟨fd, h1, h2, h3, fun _ h => by rw [hv] at h; simp at h⟩, fun p hpp => (by rw [hp] at hpp; cases hpp), fun x' hx fn cl hcl h v r e => ?_⟩
  rw [hv] at hx
  simp only [Option.some.injEq] at hx
  subst hx
  unfold viaF at e
  split at e
  · simp at e
  · rename_i fi' hfi
    split at e
    · rename_i hrk' hok'
      split at e
      · rename_i b hb
        split at e
        · rename_i r' hr'
          simp only [Out.ret.injEq] at e
          subst e
          rw [hok] at hok'
          unfold hintLit at hok'
          rw [Bool.and_eq_true] at hok'
          obtain ⟨k1, k2⟩ := hok'
          have hob : h.ob = [] := by
            cases ho : h.ob with
            | nil => rfl
            | cons a l => rw [ho] at k2; simp at k2
          have htm := tmIs_eq k1
          have hflat := tmIs_flat k1
          obtain ⟨tm, ob⟩ := h
          dsimp only at hob htm k1
          subst hob htm
          intro A g vals w hA hr hs hw hm
          have hvals := lit_args hflat hr (by simpa using hs)
          subst hw
          obtain ⟨hokr, hc⟩ := hq fn cl v r' b A.w0 hcl ⟨fi', hfi, hrk'⟩ hb hr' ⟨hA.1, fun b hb => (hA.2 b hb).1⟩
          rw [← hvals] at hc
          refine Calls.mono hc fun en w' hen => ?_
          obtain ⟨rfl, bel⟩ := hen
          refine ⟨_, rfl, ?_⟩
          rw [hrk]
          refine lit_res hokr (by rw [hm]; rfl) ⟨bel.os, bel.tape, bel.output, bel.size, fun b hb _ _ => bel.block b hb⟩
        · simp at e
      · simp at e
    · simp at e
end
def isOk {α : Type} : Lib.NumEnd α → Bool
  | .ok _ => true
  | _ => false
def postFits (v r : List DC) : Option (List DC) :=
  match v, r with
  | [.s l], [.b x] => if l.length ≤ 281474976710656 then some [.b (x && isOk (Lib.parseIntB 32 l))] else none
  | _, _ => none
section
variable {P : Program} {ty : Nat → Option TI} {w : World}
theorem str_bool {G : Glob} {fn : Nat → Option FI} {cl : Nat → Hint → List DC → Out} (hcl : CallOK P G ty fn cl) {f : Nat} {fi : FI} (hf : fn f = some fi) (hrk : fi.rk = [(false, [.ct .b])]) {l : List UInt8} {x : Bool} (hr : cl f ⟨[.one .s], []⟩ [.s l] = .ret [.b x])
    (hG : G.ok w ∧ ∀ b, G.gb b → b < w.heap.size) : Calls P f #[.string ⟨l.toArray⟩] w fun e w' => e = .returned (.bool x) ∧ RowKit.Below w.heap.size w w' := by
  let A : An := { w0 := w, I0 := fun b => b < w.heap.size, Pv := fun _ => False, Pm := fun _ => False, m := 0, pb := fun _ => 0 }
  let g : Gh := { I := fun b => b < w.heap.size, blk := fun _ => 0, val := fun _ => undef }
  have hfree : ∀ id o, getH (List.replicate fi.nobj HS.free) id ≠ .live o := by
    intro id o
    unfold getH
    rw [List.getD_eq_getElem?_getD, List.getElem?_replicate]
    split <;> simp
  have hst : startSt fi ⟨[.one .s], []⟩ [.s l] = ⟨[.one (.str l)] ++ List.replicate (fi.ntmps - 1) (.one .undef), List.replicate fi.nobj HS.free⟩ := rfl
  have hrel : Rel ty A g (startSt fi ⟨[.one .s], []⟩ [.s l]) { tmps := #[.string ⟨l.toArray⟩] ++ Array.replicate (fi.ntmps - (#[Value.string ⟨l.toArray⟩] : Array Value).size) undef, defers := [] } w := by
    rw [hst]
    refine ⟨?_, fun i c v h1 h2 => ?_, fun id o ho => absurd ho (hfree id o), fun i j o p x _ hi => absurd hi (hfree i o), fun b hb => hb, fun b hb => .inl hb, fun id o x ho => absurd ho (hfree id o), fun j hj => by simp [A] at hj, fun j hj => by simp [A] at hj,
      ⟨rfl, rfl, rfl, Nat.le_refl _, fun _ _ _ _ => rfl⟩, rfl⟩
    · simp [Nat.add_comm]
    · cases i with
      | zero =>
        simp only [List.cons_append, List.getElem?_cons_zero, Option.some.injEq] at h1
        subst h1
        dsimp only at h2
        rw [Array.getElem?_append_left (by simp)] at h2
        have : v = .string ⟨l.toArray⟩ := by simpa using h2.symm
        exact this
      | succ i =>
        simp only [List.cons_append, List.nil_append, List.getElem?_cons_succ, List.getElem?_replicate] at h1
        split at h1
        · simp only [Option.some.injEq] at h1
          subst h1
          trivial
        · simp at h1
  have hcalls := hcl f fi ⟨[.one .s], []⟩ [.s l] [.b x] hf hr A g #[.string ⟨l.toArray⟩] w ⟨hG.1, fun b hb => ⟨hG.2 b hb, fun h => h, fun h => h⟩⟩ hrel rfl rfl rfl
  refine Calls.mono hcalls fun e w' he => ?_
  cases e with
  | returned rv =>
    obtain ⟨vs, rfl, hres⟩ := he
    obtain ⟨⟨gr, H0, H1, us1, us2, q1, q2, q3, _⟩, hkeep⟩ := hres
    rw [hrk] at q1 q3
    match vs, q1 with
    | [v], ⟨u1, u2, z1, z2, z3, z4, z5⟩ =>
      have z5' : u2 = [] := z5
      subst z5'
      have := z4 rfl
      subst this
      rw [List.append_nil] at z1
      subst z1
      have hus2 : us2 = [] := q2
      subst hus2
      obtain ⟨⟨dd, y1, y2, y3⟩, _⟩ := q3
      obtain ⟨y, rfl, rfl⟩ := y3
      have := y2 0 (by simp [RK.k1, CT.k1, K1.cnt])
      simp only [Nat.add_zero, List.getD_cons_zero] at this
      have hx : y = x := by
        have : DC.b x = DC.b y := this
        simpa using this.symm
      subst hx
      exact ⟨rfl, ⟨hkeep.os, hkeep.tape, hkeep.output, hkeep.size, fun b hb => hkeep.block b hb (fun h => h) (fun h => h)⟩⟩
    | [], q1 => exact q1.elim
    | _ :: _ :: _, ⟨_, _, _, _, _, _, h⟩ => exact h.elim
  | panicked ch => exact he.elim
  | outgrown => exact he.elim
end
end Go.Proofs.QV

namespace Go.Proofs
open Go.Shelf
set_option maxRecDepth 100000
def Tryz.lays174_ren : Go.Shelf.Ren := ⟨fun | 174 => 94 | 247 => 109 | 245 => 110 | 287 => 118 | 279 => 119 | 280 => 120 | 281 => 121 | 282 => 122 | 321 => 126 | 322 => 127 | 316 => 128 | 171 => 130 | 205 => 129 | 243 => 132 | 246 => 133 | 283 => 134 | 284 => 135 | 285 => 136 | 286 => 137 | 129 => 139 | 317 => 138 | 318 => 140 | 319 => 141 | 320 => 142 | 337 => 143 | 338 => 144 | n => n, fun | 9 => 9 | 3 => 3 | 2 => 2 | 75 => 149 | 85 => 150 | 4 => 4 | 167 => 175 | 5 => 5 | 53 => 176 | 175 => 177 | 46 => 179 | 168 => 180 | 37 => 185 | 0 => 0 | 210 => 188 | 21 => 21 | 127 => 191 | 145 => 194 | 143 => 192 | 171 => 196 | 173 => 199 | 212 => 203 | 51 => 204 | 20 => 20 | 213 => 205 | 232 => 209 | 233 => 210 | 80 => 211 | n => n, fun | 15 => 0 | 16 => 1 | 17 => 2 | 18 => 3 | 19 => 4 | n => n⟩
theorem Tryz.lays174 : Go.Proofs.LaysC.n174 Tryz.prog Tryz.lays174_ren := {
  mixed := by kernel_rfl,
  f129 := Tryz.func139.trans (congrArg some (by kernel_rfl)),
  f171 := Tryz.func130.trans (congrArg some (by kernel_rfl)),
  f174 := Tryz.func94.trans (congrArg some (by kernel_rfl)),
  f205 := Tryz.func129.trans (congrArg some (by kernel_rfl)),
  f243 := Tryz.func132.trans (congrArg some (by kernel_rfl)),
  f245 := Tryz.func110.trans (congrArg some (by kernel_rfl)),
  f246 := Tryz.func133.trans (congrArg some (by kernel_rfl)),
  f247 := Tryz.func109.trans (congrArg some (by kernel_rfl)),
  f279 := Tryz.func119.trans (congrArg some (by kernel_rfl)),
  f280 := Tryz.func120.trans (congrArg some (by kernel_rfl)),
  f281 := Tryz.func121.trans (congrArg some (by kernel_rfl)),
  f282 := Tryz.func122.trans (congrArg some (by kernel_rfl)),
  f283 := Tryz.func134.trans (congrArg some (by kernel_rfl)),
  f284 := Tryz.func135.trans (congrArg some (by kernel_rfl)),
  f285 := Tryz.func136.trans (congrArg some (by kernel_rfl)),
  f286 := Tryz.func137.trans (congrArg some (by kernel_rfl)),
  f287 := Tryz.func118.trans (congrArg some (by kernel_rfl)),
  f316 := Tryz.func128.trans (congrArg some (by kernel_rfl)),
  f317 := Tryz.func138.trans (congrArg some (by kernel_rfl)),
  f318 := Tryz.func140.trans (congrArg some (by kernel_rfl)),
  f319 := Tryz.func141.trans (congrArg some (by kernel_rfl)),
  f320 := Tryz.func142.trans (congrArg some (by kernel_rfl)),
  f321 := Tryz.func126.trans (congrArg some (by kernel_rfl)),
  f322 := Tryz.func127.trans (congrArg some (by kernel_rfl)),
  f337 := Tryz.func143.trans (congrArg some (by kernel_rfl)),
  f338 := Tryz.func144.trans (congrArg some (by kernel_rfl)),
  t0 := Tryz.underlying0,
  a0 := Tryz.isAgg0,
  z0 := Tryz.sizeOf0,
  v0 := Tryz.zeroValue0,
  t2 := Tryz.underlying2,
  a2 := Tryz.isAgg2,
  z2 := Tryz.sizeOf2,
  v2 := Tryz.zeroValue2,
  t3 := Tryz.underlying3,
  a3 := Tryz.isAgg3,
  z3 := Tryz.sizeOf3,
  v3 := Tryz.zeroValue3,
  t4 := Tryz.underlying4,
  a4 := Tryz.isAgg4,
  z4 := Tryz.sizeOf4,
  v4 := Tryz.zeroValue4,
  t5 := Tryz.underlying5,
  a5 := Tryz.isAgg5,
  z5 := Tryz.sizeOf5,
  v5 := Tryz.zeroValue5,
  t9 := Tryz.underlying9,
  a9 := Tryz.isAgg9,
  z9 := Tryz.sizeOf9,
  v9 := Tryz.zeroValue9,
  t20 := Tryz.underlying20,
  a20 := Tryz.isAgg20,
  z20 := Tryz.sizeOf20,
  v20 := Tryz.zeroValue20,
  t21 := Tryz.underlying21,
  a21 := Tryz.isAgg21,
  z21 := Tryz.sizeOf21,
  v21 := Tryz.zeroValue21,
  t37 := Tryz.underlying185,
  a37 := Tryz.isAgg185,
  z37 := Tryz.sizeOf185,
  v37 := Tryz.zeroValue185,
  t46 := Tryz.underlying179,
  a46 := Tryz.isAgg179,
  z46 := Tryz.sizeOf179,
  v46 := Tryz.zeroValue179,
  t51 := Tryz.underlying204,
  a51 := Tryz.isAgg204,
  z51 := Tryz.sizeOf204,
  v51 := Tryz.zeroValue204,
  t53 := Tryz.underlying176,
  a53 := Tryz.isAgg176,
  z53 := Tryz.sizeOf176,
  v53 := Tryz.zeroValue176,
  t75 := Tryz.underlying149,
  a75 := Tryz.isAgg149,
  z75 := Tryz.sizeOf149,
  v75 := Tryz.zeroValue149,
  t85 := Tryz.underlying150,
  a85 := Tryz.isAgg150,
  z85 := Tryz.sizeOf150,
  v85 := Tryz.zeroValue150,
  t127 := Tryz.underlying191,
  a127 := Tryz.isAgg191,
  z127 := Tryz.sizeOf191,
  v127 := Tryz.zeroValue191,
  t143 := Tryz.underlying192,
  a143 := Tryz.isAgg192,
  z143 := Tryz.sizeOf192,
  v143 := Tryz.zeroValue192,
  t145 := Tryz.underlying194,
  a145 := Tryz.isAgg194,
  z145 := Tryz.sizeOf194,
  v145 := Tryz.zeroValue194,
  t167 := Tryz.underlying175,
  a167 := Tryz.isAgg175,
  z167 := Tryz.sizeOf175,
  v167 := Tryz.zeroValue175,
  t168 := Tryz.underlying180,
  a168 := Tryz.isAgg180,
  z168 := Tryz.sizeOf180,
  v168 := Tryz.zeroValue180,
  t171 := Tryz.underlying196,
  a171 := Tryz.isAgg196,
  z171 := Tryz.sizeOf196,
  v171 := Tryz.zeroValue196,
  t173 := Tryz.underlying199,
  a173 := Tryz.isAgg199,
  z173 := Tryz.sizeOf199,
  v173 := Tryz.zeroValue199,
  t175 := Tryz.underlying177,
  a175 := Tryz.isAgg177,
  z175 := Tryz.sizeOf177,
  v175 := Tryz.zeroValue177,
  t210 := Tryz.underlying188,
  a210 := Tryz.isAgg188,
  z210 := Tryz.sizeOf188,
  v210 := Tryz.zeroValue188,
  t212 := Tryz.underlying203,
  a212 := Tryz.isAgg203,
  z212 := Tryz.sizeOf203,
  v212 := Tryz.zeroValue203,
  t213 := Tryz.underlying205,
  a213 := Tryz.isAgg205,
  z213 := Tryz.sizeOf205,
  t232 := Tryz.underlying209,
  a232 := Tryz.isAgg209,
  z232 := Tryz.sizeOf209,
  v232 := Tryz.zeroValue209,
  t233 := Tryz.underlying210,
  a233 := Tryz.isAgg210,
  z233 := Tryz.sizeOf210,
  v233 := Tryz.zeroValue210,
  g15 := by kernel_rfl,
  g16 := by kernel_rfl,
  g17 := by kernel_rfl,
  g18 := by kernel_rfl,
  g19 := by kernel_rfl,
  t80 := Tryz.underlying211,
  a80 := Tryz.isAgg211,
  z80 := Tryz.sizeOf211,
  v80 := Tryz.zeroValue211,
  i0 := by kernel_rfl,
  i2 := by kernel_rfl,
  i3 := by kernel_rfl,
  i4 := by kernel_rfl,
  i5 := by kernel_rfl,
  i9 := by kernel_rfl,
  i20 := by kernel_rfl,
  i21 := by kernel_rfl,
  i37 := by kernel_rfl,
  i46 := by kernel_rfl,
  i51 := by kernel_rfl,
  i53 := by kernel_rfl,
  i75 := by kernel_rfl,
  i80 := by kernel_rfl,
  i85 := by kernel_rfl,
  i127 := by kernel_rfl,
  i143 := by kernel_rfl,
  i145 := by kernel_rfl,
  i167 := by kernel_rfl,
  i168 := by kernel_rfl,
  i171 := by kernel_rfl,
  i173 := by kernel_rfl,
  i175 := by kernel_rfl,
  i210 := by kernel_rfl,
  i212 := by kernel_rfl,
  i232 := by kernel_rfl,
  i233 := by kernel_rfl,
  m15 := by kernel_rfl,
  m16 := by kernel_rfl,
  m17 := by kernel_rfl,
  m18 := by kernel_rfl,
  m19 := by kernel_rfl,
  c0 := by kernel_rfl,
  c2 := by kernel_rfl,
  c3 := by kernel_rfl,
  c4 := by kernel_rfl,
  c5 := by kernel_rfl,
  c9 := by kernel_rfl,
  c20 := by kernel_rfl,
  c21 := by kernel_rfl,
  c37 := by kernel_rfl,
  c46 := by kernel_rfl,
  c51 := by kernel_rfl,
  c53 := by kernel_rfl,
  c75 := by kernel_rfl,
  c80 := by kernel_rfl,
  c85 := by kernel_rfl,
  c127 := by kernel_rfl,
  c143 := by kernel_rfl,
  c145 := by kernel_rfl,
  c167 := by kernel_rfl,
  c168 := by kernel_rfl,
  c171 := by kernel_rfl,
  c173 := by kernel_rfl,
  c175 := by kernel_rfl,
  c210 := by kernel_rfl,
  c212 := by kernel_rfl,
  c213 := by kernel_rfl,
  c232 := by kernel_rfl,
  c233 := by kernel_rfl }
end Go.Proofs
namespace Go.Proofs
open Go.Shelf Go.RowKit
set_option maxHeartbeats 4000000
theorem Tryz.pi_ok (s : ByteArray) (hmax : s.size ≤ 9223372036854775806) (v : Int) (h : Lib.parseIntB 32 s.data.toList = .ok v) (w : World) :
    Calls Tryz.prog 94 #[.string s, .int .i64 10, .int .i64 32] w fun e w' => e = .returned (.tuple #[.int .i64 v, .nilIface]) ∧ (w' = w ∨ ∃ t, w' = Lib.bytesWorld w 5 t) := Any.strconv_ParseInt_10_at32_ok Tryz.lays174 s hmax v h w
theorem Tryz.pi_range (s : ByteArray) (hlim : s.size ≤ 281474976710656) (h : Lib.parseIntB 32 s.data.toList = .range) (ev : Value) (w : World) (hv : w.cell? ⟨1, 0, none⟩ = some ev) (hev : ev = .nilIface ∨ ∃ te pe, ev = .iface te pe) :
    Calls Tryz.prog 94 #[.string s, .int .i64 10, .int .i64 32] w fun e w' => ∃ N, e = .returned (.tuple #[.int .i64 (Lib.intSat 32 s.data.toList), .iface 180 (.pointer (some ⟨N, 0, none⟩))]) ∧ w.heap.size ≤ N ∧ w'.heap[N]? = some (.cells #[.string ⟨#[80, 97, 114, 115, 101, 73, 110, 116]⟩, .string s, ev] 188 (0, 0)) ∧ RowKit.Below w.heap.size w w' := Any.strconv_ParseInt_10_at32_range Tryz.lays174 s hlim h ev w hv hev
theorem Tryz.fits32 (s : ByteArray) (x : Bool) (hlim : s.size ≤ 281474976710656) (ev0 ev1 : Value) (w : World) (hv0 : w.cell? ⟨0, 0, none⟩ = some ev0) (he0 : ev0 = .nilIface ∨ ∃ te pe, ev0 = .iface te pe) (hv1 : w.cell? ⟨1, 0, none⟩ = some ev1) (he1 : ev1 = .nilIface ∨ ∃ te pe, ev1 = .iface te pe)
    (hI : ∀ W, Below w.heap.size w W → Calls Tryz.prog 95 #[.string s] W fun e w' => e = .returned (.bool x) ∧ Below W.heap.size W w') :
    Calls Tryz.prog 73 #[.string s] w fun e w' => e = .returned (.bool (x && QV.isOk (Lib.parseIntB 32 s.data.toList))) ∧ Below w.heap.size w w' := by
  cases x
  · cases h : Lib.parseIntB 32 s.data.toList
    case ok v =>
      go_enter Tryz.func73, Tryz.ntmps73
      go_wp2_with (go_at_call 94; refine (Tryz.pi_ok s (by omega) v h _).mono ?_; rintro e W1 ⟨rfl, hW⟩)
      have hb : Below w.heap.size w W1 := by
        rcases hW with rfl | ⟨t, rfl⟩
        · exact Below.refl _ _
        · exact Lib.bytesWorld_below _ _ _
      go_wp2_with (go_at_call 95; refine (hI W1 hb).mono ?_; rintro e W2 ⟨rfl, hb2⟩)
      go_wp2
      go_ret
      exact ⟨rfl, hb.trans (hb2.mono hb.size)⟩
    case range =>
      go_enter Tryz.func73, Tryz.ntmps73
      go_wp2_with (go_at_call 94; refine (Tryz.pi_range s hlim h ev1 _ ?_ he1).mono ?_)
      · exact hv1
      rintro e W1 ⟨N, rfl, -, -, hb⟩
      go_wp2_with (go_at_call 95; refine (hI W1 hb).mono ?_; rintro e W2 ⟨rfl, hb2⟩)
      go_wp2
      go_ret
      exact ⟨rfl, hb.trans (hb2.mono hb.size)⟩
    have hp : ∀ W : World, W.cell? ⟨0, 0, none⟩ = some ev0 → Calls Tryz.prog 94 #[.string s, .int .i64 10, .int .i64 32] W fun e w' => ∃ N, e = .returned (.tuple #[.int .i64 (0), .iface 180 (.pointer (some ⟨N, 0, none⟩))]) ∧ W.heap.size ≤ N ∧ w'.heap[N]? = some (.cells #[.string ⟨#[80, 97, 114, 115, 101, 73, 110, 116]⟩, .string s, ev0] 188 (0, 0)) ∧ RowKit.Below W.heap.size W w' :=
      fun W hv => Any.strconv_ParseInt_10_at32_syntax Tryz.lays174 s hlim h ev0 W hv he0
    go_enter Tryz.func73, Tryz.ntmps73
    go_wp2_with (go_at_call 94; refine (hp _ ?_).mono ?_)
    · exact hv0
    rintro e W1 ⟨N, rfl, -, -, hb⟩
    go_wp2_with (go_at_call 95; refine (hI W1 hb).mono ?_; rintro e W2 ⟨rfl, hb2⟩)
    go_wp2
    go_ret
    exact ⟨rfl, hb.trans (hb2.mono hb.size)⟩
  · cases h : Lib.parseIntB 32 s.data.toList
    case ok v =>
      go_enter Tryz.func73, Tryz.ntmps73
      go_wp2_with (go_at_call 94; refine (Tryz.pi_ok s (by omega) v h _).mono ?_; rintro e W1 ⟨rfl, hW⟩)
      have hb : Below w.heap.size w W1 := by
        rcases hW with rfl | ⟨t, rfl⟩
        · exact Below.refl _ _
        · exact Lib.bytesWorld_below _ _ _
      go_wp2_with (go_at_call 95; refine (hI W1 hb).mono ?_; rintro e W2 ⟨rfl, hb2⟩)
      go_wp2
      go_ret
      exact ⟨rfl, hb.trans (hb2.mono hb.size)⟩
    case range =>
      go_enter Tryz.func73, Tryz.ntmps73
      go_wp2_with (go_at_call 94; refine (Tryz.pi_range s hlim h ev1 _ ?_ he1).mono ?_)
      · exact hv1
      rintro e W1 ⟨N, rfl, -, -, hb⟩
      go_wp2_with (go_at_call 95; refine (hI W1 hb).mono ?_; rintro e W2 ⟨rfl, hb2⟩)
      go_wp2
      go_ret
      exact ⟨rfl, hb.trans (hb2.mono hb.size)⟩
    have hp : ∀ W : World, W.cell? ⟨0, 0, none⟩ = some ev0 → Calls Tryz.prog 94 #[.string s, .int .i64 10, .int .i64 32] W fun e w' => ∃ N, e = .returned (.tuple #[.int .i64 (0), .iface 180 (.pointer (some ⟨N, 0, none⟩))]) ∧ W.heap.size ≤ N ∧ w'.heap[N]? = some (.cells #[.string ⟨#[80, 97, 114, 115, 101, 73, 110, 116]⟩, .string s, ev0] 188 (0, 0)) ∧ RowKit.Below W.heap.size W w' :=
      fun W hv => Any.strconv_ParseInt_10_at32_syntax Tryz.lays174 s hlim h ev0 W hv he0
    go_enter Tryz.func73, Tryz.ntmps73
    go_wp2_with (go_at_call 94; refine (hp _ ?_).mono ?_)
    · exact hv0
    rintro e W1 ⟨N, rfl, -, -, hb⟩
    go_wp2_with (go_at_call 95; refine (hI W1 hb).mono ?_; rintro e W2 ⟨rfl, hb2⟩)
    go_wp2
    go_ret
    exact ⟨rfl, hb.trans (hb2.mono hb.size)⟩
end Go.Proofs
namespace Go.Proofs.QV
open Go
set_option linter.unusedVariables false
def isI (v : Value) : Prop := v = .nilIface ∨ ∃ te pe, v = .iface te pe
def gOk (w : World) : Prop := (∃ v, w.cell? ⟨0, 0, none⟩ = some v ∧ isI v) ∧ ∃ v, w.cell? ⟨1, 0, none⟩ = some v ∧ isI v
theorem gOk_dep (w w' : World) (h : ∀ b, (b = 0 ∨ b = 1) → w'.heap[b]? = w.heap[b]?) (k : gOk w) : gOk w' := by
  have h1 : ∀ o, w'.cell? ⟨0, o, none⟩ = w.cell? ⟨0, o, none⟩ := fun o => World.cell?_of_block (h 0 (by simp))
  have h2 : ∀ o, w'.cell? ⟨1, o, none⟩ = w.cell? ⟨1, o, none⟩ := fun o => World.cell?_of_block (h 1 (by simp))
  obtain ⟨⟨v, k1, k2⟩, u, k3, k4⟩ := k
  exact ⟨⟨v, (h1 _).trans k1, k2⟩, u, (h2 _).trans k3, k4⟩
def G : Glob := ⟨fun b => b = 0 ∨ b = 1, gOk, gOk_dep⟩
def viaFits : Via := ⟨hintLit [.s], 95, ⟨[.one .s], []⟩, fun v => v, postFits⟩
theorem call_Fits32 {ty : Nat → Option TI} : ∀ fn cl v r b w, CallOK Tryz.prog G ty fn cl → (∃ fi', fn viaFits.f = some fi' ∧ fi'.rk = [(false, [.ct .b])]) → cl viaFits.f viaFits.h (viaFits.pre v) = .ret b → viaFits.post v b = some r → G.ok w ∧ (∀ b, G.gb b → b < w.heap.size) →
    okDs [.b] r 0 = true ∧ Calls Tryz.prog 73 (lits [.s] v 0).toArray w fun e w' => e = .returned (resVal (lits [.b] r 0)) ∧ RowKit.Below w.heap.size w w' := by
  intro fn cl v r b w hcl ⟨fi, hf, hrk⟩ hr hp hG
  have hp : postFits v b = some r := hp
  unfold postFits at hp
  split at hp
  · rename_i l x _
    split at hp
    · rename_i hl
      injection hp with hp
      subst hp
      refine ⟨rfl, ?_⟩
      obtain ⟨⟨⟨v0, k1, k2⟩, v1, k3, k4⟩, hlt⟩ := hG
      have hG : G.ok w := ⟨⟨v0, k1, k2⟩, v1, k3, k4⟩
      exact Tryz.fits32 ⟨l.toArray⟩ x (by simpa [ByteArray.size] using hl) v0 v1 w k1 k2 k3 k4 (fun W hW => str_bool (G := G) hcl hf hrk hr ⟨G.dep w W (fun b hb => hW.block b (hlt b hb)) hG, fun b hb => Nat.lt_of_lt_of_le (hlt b hb) hW.size⟩)
    · cases hp
  · cases hp
abbrev ou : KC := .one .u
abbrev ob : KC := .one .b
abbrev os : KC := .one .s
abbrev oi : KC := .one (.i .i64)
abbrev ol (e : Nat) : KC := .one (.sl e)
def uu (n : Nat) (l : List KC) : List KC := List.replicate n (.one .u) ++ l
def vv (n : Nat) (l : List KO) : List KO := List.replicate n .u ++ l
noncomputable def tyL : List (Nat × TI) := [(3, ⟨.int .i64, [.i .i64], 8, [], false⟩),
  (4, ⟨.bool, [.b], 1, [], false⟩),
  (5, ⟨.int .u8, [.i .u8], 1, [], false⟩),
  (9, ⟨.str, [.s], 16, [], false⟩),
  (22, ⟨.slice 86, [.sl 86], 24, [], false⟩),
  (23, ⟨.slice 89, [.sl 89], 24, [], false⟩),
  (25, ⟨.struct, [.sl 86, .sl 86, .sl 89], 72, [(0, 1, false), (1, 1, false), (2, 1, false)], false⟩),
  (26, ⟨.slice 29, [.sl 29], 24, [], false⟩),
  (27, ⟨.slice 9, [.sl 9], 24, [], false⟩),
  (29, ⟨.struct, [.i .i64, .s, .sl 29, .sl 9], 72, [(0, 1, false), (1, 1, false), (2, 1, false), (3, 1, false)], false⟩),
  (31, ⟨.struct, [.s, .s], 32, [(0, 1, false), (1, 1, false)], false⟩),
  (36, ⟨.slice 64, [.sl 64], 24, [], false⟩),
  (37, ⟨.slice 96, [.sl 96], 24, [], false⟩),
  (39, ⟨.struct, [.sl 64, .sl 64, .sl 96], 72, [(0, 1, false), (1, 1, false), (2, 1, false)], false⟩),
  (41, ⟨.slice 43, [.sl 43], 24, [], false⟩),
  (43, ⟨.struct, [.i .i64, .s, .sl 43, .sl 9], 72, [(0, 1, false), (1, 1, false), (2, 1, false), (3, 1, false)], false⟩),
  (45, ⟨.struct, [.s, .s], 32, [(0, 1, false), (1, 1, false)], false⟩),
  (59, ⟨.slice 139, [.sl 139], 24, [], false⟩),
  (60, ⟨.slice 93, [.sl 93], 24, [], false⟩),
  (61, ⟨.slice 66, [.sl 66], 24, [], false⟩),
  (62, ⟨.slice 145, [.sl 145], 24, [], false⟩),
  (64, ⟨.struct, [.i .i64, .b, .s, .s, .sl 9, .sl 139, .sl 93, .sl 66, .sl 96, .b, .sl 145], 200, [(0, 1, false), (1, 1, false), (2, 1, false), (3, 1, false), (4, 1, false), (5, 1, false), (6, 1, false), (7, 1, false), (8, 1, false), (9, 1, false), (10, 1, false)], false⟩),
  (66, ⟨.struct, [.s, .s, .sl 145], 56, [(0, 1, false), (1, 1, false), (2, 1, false)], false⟩),
  (81, ⟨.slice 126, [.sl 126], 24, [], false⟩),
  (82, ⟨.slice 129, [.sl 129], 24, [], false⟩),
  (83, ⟨.slice 132, [.sl 132], 24, [], false⟩),
  (84, ⟨.slice 136, [.sl 136], 24, [], false⟩),
  (86, ⟨.struct, [.i .i64, .b, .s, .s, .sl 9, .sl 126, .sl 129, .sl 132, .sl 89, .b, .sl 136], 200, [(0, 1, false), (1, 1, false), (2, 1, false), (3, 1, false), (4, 1, false), (5, 1, false), (6, 1, false), (7, 1, false), (8, 1, false), (9, 1, false), (10, 1, false)], false⟩),
  (89, ⟨.struct, [.i .i64, .s], 24, [(0, 1, false), (1, 1, false)], false⟩),
  (93, ⟨.struct, [.s, .s, .s, .s, .b, .i .i64, .s, .sl 43, .sl 9, .sl 145], 168, [(0, 1, false), (1, 1, false), (2, 2, true), (4, 1, false), (5, 4, true), (9, 1, false)], false⟩),
  (96, ⟨.struct, [.i .i64, .s], 24, [(0, 1, false), (1, 1, false)], false⟩),
  (126, ⟨.struct, [.s, .s, .sl 129, .s, .s, .sl 136], 112, [(0, 1, false), (1, 1, false), (2, 1, false), (3, 2, true), (5, 1, false)], false⟩),
  (129, ⟨.struct, [.s, .s, .s, .s, .b, .i .i64, .s, .sl 29, .sl 9, .sl 136], 168, [(0, 1, false), (1, 1, false), (2, 2, true), (4, 1, false), (5, 4, true), (9, 1, false)], false⟩),
  (132, ⟨.struct, [.s, .s, .sl 136], 56, [(0, 1, false), (1, 1, false), (2, 1, false)], false⟩),
  (134, ⟨.slice 170, [.sl 170], 24, [], false⟩),
  (136, ⟨.struct, [.s, .sl 170], 40, [(0, 1, false), (1, 1, false)], false⟩),
  (139, ⟨.struct, [.s, .s, .sl 93, .s, .s, .sl 145], 112, [(0, 1, false), (1, 1, false), (2, 1, false), (3, 2, true), (5, 1, false)], false⟩),
  (143, ⟨.slice 173, [.sl 173], 24, [], false⟩),
  (145, ⟨.struct, [.s, .sl 173], 40, [(0, 1, false), (1, 1, false)], false⟩),
  (170, ⟨.struct, [.s, .i .i64, .s, .sl 29, .sl 9], 88, [(0, 1, false), (1, 4, true)], false⟩),
  (173, ⟨.struct, [.s, .i .i64, .s, .sl 43, .sl 9], 88, [(0, 1, false), (1, 4, true)], false⟩)]
noncomputable def fi3 : FI := mkFI Tryz.f3 5 [.ag [.sl 86, .sl 86, .sl 89], .ag [.i .i64, .s, .sl 29, .sl 9], .ag [.s, .s]] [(false, [.ct .b])] (fun _ => (.s (.r [0, 1, 2, 0] none) (.s .n (.s .n (.s .n (.s .n (.s .n (.s .n (.s .n (.s .n (.s (.r [0, 0, 3, 0] none) (.s (.r [0, 0, 4, 0] none) .n))))))))))))
noncomputable def fi4 : FI := mkFI Tryz.f4 1 [.ag [.sl 86, .sl 86, .sl 89], .ct (.i .i64)] [(false, [.ct (.i .i64)])] (fun _ => (.s (.r [0, 0] none) .n))
noncomputable def fi5 : FI := mkFI Tryz.f5 1 [.ag [.i .i64, .s, .sl 29, .sl 9], .ct (.i .i64)] [(false, [.ct (.i .i64)])] (fun _ => (.s (.r [0, 0] none) .n))
noncomputable def fi6 : FI := mkFI Tryz.f6 1 [.ag [.s, .s], .ct (.i .i64)] [(false, [.ct (.i .i64)])] (fun _ => (.s (.r [0, 0] none) .n))
noncomputable def fi8 : FI := mkFI Tryz.f8 3 [.ag [.sl 86, .sl 86, .sl 89]] [(true, [.ct (.sl 64), .ct (.sl 64), .ct (.sl 96)])] (fun _ => (.s (.r [0, 1] none) (.s (.r [2] none) .n)))
noncomputable def fi9 : FI := mkFI Tryz.f9 3 [.ag [.i .i64, .s, .sl 29, .sl 9]] [(true, [.ct (.i .i64), .ct .s, .ct (.sl 43), .ct (.sl 9)])] (fun _ => (.s (.r [0, 1] none) (.s (.r [2] none) .n)))
noncomputable def fi10 : FI := mkFI Tryz.f10 3 [.ag [.s, .s]] [(true, [.ct .s, .ct .s])] (fun _ => (.s (.r [0, 1] none) (.s (.r [2] none) .n)))
noncomputable def fi7 : FI := mkFI Tryz.f7 4 [.ag [.sl 64, .sl 64, .sl 96], .ag [.i .i64, .s, .sl 43, .sl 9], .ag [.s, .s]] [(false, [.ct .b])] (fun _ => (.s (.r [0, 1, 2, 0] none) (.s .n (.s (.s (.r [] (some ⟨uu 3 (.one (.ptr 0 0) :: .one (.ptr 1 0) :: .one (.ptr 2 0) :: uu 15 (ob :: uu 102 [])), .var 39 [.sl 64, .sl 64, .sl 96] :: .var 43 [.i .i64, .s, .sl 43, .sl 9] :: .var 45 [.s, .s] :: .u :: []⟩)) .n) (.s .n (.s (.s (.r [] (some ⟨uu 3 (.one (.ptr 0 0) :: .one (.ptr 1 0) :: .one (.ptr 2 0) :: uu 34 (ob :: uu 83 [])), .var 39 [.sl 64, .sl 64, .sl 96] :: .var 43 [.i .i64, .s, .sl 43, .sl 9] :: .var 45 [.s, .s] :: .u :: []⟩)) (.c (.s .n (.s .n (.s (.s .n (.b (.b (.s .n (.s (.b .n ⟨uu 3 (.one (.ptr 0 0) :: .one (.ptr 1 0) :: .one (.ptr 2 0) :: ou :: oi :: uu 116 []), .var 39 [.sl 64, .sl 64, .sl 96] :: .var 43 [.i .i64, .s, .sl 43, .sl 9] :: .var 45 [.s, .s] :: .u :: []⟩) .n)) ⟨uu 3 (.one (.ptr 0 0) :: .one (.ptr 1 0) :: .one (.ptr 2 0) :: ou :: oi :: uu 116 []), .var 39 [.sl 64, .sl 64, .sl 96] :: .var 43 [.i .i64, .s, .sl 43, .sl 9] :: .var 45 [.s, .s] :: .u :: []⟩) ⟨uu 124 [], vv 4 []⟩)) .n))) .n none)) (.s .n (.s .n (.s (.s .n (.c (.s (.r [] (some ⟨uu 6 (ob :: uu 117 []), vv 4 []⟩)) .n) .n none)) (.s (.r [0, 0, 0, 0, 0, 3, 0] none) (.s (.s .n (.b (.s .n (.c .n (.s .n (.c (.s .n (.b (.b (.s .n (.s (.b (.s (.r [] (some ⟨uu 4 (.one (.ptr 1 0) :: uu 4 (.one (.ptr 3 0) :: oi :: uu 105 (ob :: uu 7 []))), .u :: .var 43 [.i .i64, .s, .sl 43, .sl 9] :: .u :: .var 64 [.i .i64, .b, .s, .s, .sl 9, .sl 139, .sl 93, .sl 66, .sl 96, .b, .sl 145] :: []⟩)) .n) ⟨uu 4 (.one (.ptr 1 0) :: uu 4 (.one (.ptr 3 0) :: oi :: uu 113 [])), .u :: .var 43 [.i .i64, .s, .sl 43, .sl 9] :: .u :: .var 64 [.i .i64, .b, .s, .s, .sl 9, .sl 139, .sl 93, .sl 66, .sl 96, .b, .sl 145] :: []⟩) .n)) ⟨uu 4 (.one (.ptr 1 0) :: uu 4 (.one (.ptr 3 0) :: oi :: uu 113 [])), .u :: .var 43 [.i .i64, .s, .sl 43, .sl 9] :: .u :: .var 64 [.i .i64, .b, .s, .s, .sl 9, .sl 139, .sl 93, .sl 66, .sl 96, .b, .sl 145] :: []⟩) ⟨uu 124 [], vv 4 []⟩)) .n (some ⟨uu 124 [], vv 4 []⟩))) none)) ⟨uu 124 [], vv 4 []⟩)) .n)))))))))))
noncomputable def fi11 : FI := mkFI Tryz.f11 3 [.ag [.sl 64, .sl 64, .sl 96], .ag [.i .i64, .s, .sl 43, .sl 9], .ag [.s, .s]] [(false, [.ct .b])] (fun _ => (.s (.r [0, 1, 2, 0] none) (.s (.b .n ⟨uu 3 (.one (.ptr 0 0) :: .one (.ptr 1 0) :: .one (.ptr 2 0) :: uu 39 []), .var 39 [.sl 64, .sl 64, .sl 96] :: .var 43 [.i .i64, .s, .sl 43, .sl 9] :: .var 45 [.s, .s] :: []⟩) (.s .n (.s (.b .n ⟨uu 3 (.one (.ptr 0 0) :: .one (.ptr 1 0) :: .one (.ptr 2 0) :: uu 39 []), .var 39 [.sl 64, .sl 64, .sl 96] :: .var 43 [.i .i64, .s, .sl 43, .sl 9] :: .var 45 [.s, .s] :: []⟩) .n)))))
noncomputable def fi12 : FI := mkFI Tryz.f12 2 [.ag [.sl 64, .sl 64, .sl 96], .ag [.sl 64, .sl 64, .sl 96]] [(false, [.ct .b])] (fun _ => (.s (.r [0, 1, 0] none) .n))
noncomputable def fi13 : FI := mkFI Tryz.f13 2 [.ag [.i .i64, .s, .sl 43, .sl 9], .ag [.i .i64, .s, .sl 43, .sl 9]] [(false, [.ct .b])] (fun _ => (.s (.r [0, 1, 0] none) .n))
noncomputable def fi14 : FI := mkFI Tryz.f14 0 [.ct (.sl 86), .ct (.i .i64)] [(false, [.ct (.i .i64)])] (fun _ => (.s .n (.s .n (.s .n (.s (.s .n (.b (.b (.s .n (.s (.b .n ⟨ol 86 :: oi :: uu 3 (oi :: uu 21 []), []⟩) .n)) ⟨ol 86 :: oi :: uu 3 (oi :: uu 21 []), []⟩) ⟨ou :: oi :: uu 25 [], []⟩)) .n)))))
noncomputable def fi15 : FI := mkFI Tryz.f15 0 [.ct (.sl 89), .ct (.i .i64)] [(false, [.ct (.i .i64)])] (fun _ => (.s .n (.s .n (.s .n (.s (.s .n (.b (.b (.s .n (.s (.b .n ⟨ol 89 :: oi :: uu 3 (oi :: uu 21 []), []⟩) .n)) ⟨ol 89 :: oi :: uu 3 (oi :: uu 21 []), []⟩) ⟨ou :: oi :: uu 25 [], []⟩)) .n)))))
noncomputable def fi16 : FI := mkFI Tryz.f16 0 [.ct (.sl 29), .ct (.i .i64)] [(false, [.ct (.i .i64)])] (fun _ => (.s .n (.s .n (.s .n (.s (.s .n (.b (.b (.s .n (.s (.b .n ⟨ol 29 :: oi :: uu 3 (oi :: uu 21 []), []⟩) .n)) ⟨ol 29 :: oi :: uu 3 (oi :: uu 21 []), []⟩) ⟨ou :: oi :: uu 25 [], []⟩)) .n)))))
noncomputable def fi17 : FI := mkFI Tryz.f17 0 [.ct (.sl 9), .ct (.i .i64)] [(false, [.ct (.i .i64)])] (fun _ => (.s .n (.s .n (.s .n (.s (.s .n (.b (.b (.s .n (.s (.b .n ⟨ol 9 :: oi :: uu 3 (oi :: uu 22 []), []⟩) .n)) ⟨ol 9 :: oi :: uu 3 (oi :: uu 22 []), []⟩) ⟨ou :: oi :: uu 26 [], []⟩)) .n)))))
noncomputable def fi25 : FI := mkFI Tryz.f25 4 [.ct (.sl 86)] [(false, [.ct (.sl 64)])] (fun _ => (.s .n (.s (.r [0, 0, 0, 0] none) (.s (.s .n (.b (.b (.s .n (.s (.b .n ⟨ol 86 :: ou :: ou :: .one (.own 64 2) :: oi :: uu 18 [], vv 4 []⟩) .n)) ⟨ol 86 :: ou :: ou :: .one (.own 64 1) :: oi :: uu 18 [], vv 4 []⟩) ⟨uu 3 (.one (.own 64 3) :: uu 19 []), vv 4 []⟩)) .n))))
noncomputable def fi26 : FI := mkFI Tryz.f26 4 [.ct (.sl 89)] [(false, [.ct (.sl 96)])] (fun _ => (.s .n (.s (.r [0, 0, 0, 0] none) (.s (.s .n (.b (.b (.s .n (.s (.b .n ⟨ol 89 :: ou :: ou :: .one (.own 96 2) :: oi :: uu 18 [], vv 4 []⟩) .n)) ⟨ol 89 :: ou :: ou :: .one (.own 96 1) :: oi :: uu 18 [], vv 4 []⟩) ⟨uu 3 (.one (.own 96 3) :: uu 19 []), vv 4 []⟩)) .n))))
noncomputable def fi27 : FI := mkFI Tryz.f27 4 [.ct (.sl 29)] [(false, [.ct (.sl 43)])] (fun _ => (.s .n (.s (.r [0, 0, 0, 0] none) (.s (.s .n (.b (.b (.s .n (.s (.b .n ⟨ol 29 :: ou :: ou :: .one (.own 43 2) :: oi :: uu 18 [], vv 4 []⟩) .n)) ⟨ol 29 :: ou :: ou :: .one (.own 43 1) :: oi :: uu 18 [], vv 4 []⟩) ⟨uu 3 (.one (.own 43 3) :: uu 19 []), vv 4 []⟩)) .n))))
noncomputable def fi28 : FI := mkFI Tryz.f28 4 [.ct (.sl 9)] [(false, [.ct (.sl 9)])] (fun _ => (.s .n (.s (.r [0, 0, 0, 0] none) (.s (.s .n (.b (.b (.s .n (.s (.b .n ⟨ol 9 :: ou :: ou :: .one (.own 9 2) :: oi :: uu 17 [], vv 4 []⟩) .n)) ⟨ol 9 :: ou :: ou :: .one (.own 9 1) :: oi :: uu 17 [], vv 4 []⟩) ⟨uu 3 (.one (.own 9 3) :: uu 18 []), vv 4 []⟩)) .n))))
noncomputable def fi18 : FI := mkFI Tryz.f18 1 [.ag [.s, .s]] [(false, [.ct .b])] (fun _ => (.s (.r [0, 0] none) (.s (.r [] (some ⟨ou :: ou :: ob :: uu 14 [], .u :: []⟩)) .n)))
noncomputable def fi19 : FI := mkFI Tryz.f19 2 [.ag [.s, .s]] [(true, [.ct .s, .ct .s])] (fun _ => (.s (.r [0, 1] none) (.s (.s .n (.c .n .n (some ⟨ou :: .one (.ptr 0 0) :: .one (.ptr 1 0) :: uu 11 [], .var 45 [.s, .s] :: .var 45 [.s, .s] :: []⟩))) .n)))
noncomputable def fi20 : FI := mkFI Tryz.f20 2 [.ag [.s, .s]] [(true, [.ct .s, .ct .s])] (fun _ => (.s (.r [0, 1] none) (.s .n (.s (.s (.r [] (some ⟨ou :: .one (.ptr 0 0) :: .one (.ptr 1 0) :: uu 15 (ob :: uu 12 []), .var 45 [.s, .s] :: .var 45 [.s, .s] :: []⟩)) .n) .n))))
noncomputable def fi21 : FI := mkFI Tryz.f21 1 [.ag [.sl 64, .sl 64, .sl 96], .ct .s] [(false, [.ct (.i .i64)])] (fun _ => (.s (.r [0, 0] none) (.s (.s .n (.b (.b (.s (.s (.r [] (some ⟨ou :: os :: .one (.ptr 0 0) :: ou :: ou :: oi :: uu 10 (ob :: uu 11 []), .var 39 [.sl 64, .sl 64, .sl 96] :: []⟩)) .n) (.s (.b .n ⟨ou :: os :: .one (.ptr 0 0) :: ou :: ou :: oi :: uu 22 [], .var 39 [.sl 64, .sl 64, .sl 96] :: []⟩) .n)) ⟨ou :: os :: .one (.ptr 0 0) :: ou :: ou :: oi :: uu 22 [], .var 39 [.sl 64, .sl 64, .sl 96] :: []⟩) ⟨uu 28 [], .u :: []⟩)) .n)))
noncomputable def fi22 : FI := mkFI Tryz.f22 0 [.ct .s] [(false, [.ct .b])] (fun _ => (.s .n (.s (.r [] (some ⟨ou :: ou :: ob :: uu 18 [], []⟩)) .n)))
noncomputable def fi23 : FI := mkFI Tryz.f23 1 [.ct .s, .ag [.i .i64, .s, .sl 43, .sl 9]] [(false, [.ct .b])] (fun _ => (.s (.r [0, 0] none) (.s (.s .n (.b (.s .n (.c (.s (.r [] (some ⟨uu 4 (ob :: uu 49 []), .u :: []⟩)) .n) (.s .n (.c (.s (.r [] (some ⟨uu 4 (ob :: uu 49 []), .u :: []⟩)) .n) (.s .n (.c .n (.s .n (.c (.s (.r [] (some ⟨uu 4 (ob :: uu 49 []), .u :: []⟩)) .n) .n none)) none)) none)) none)) ⟨uu 3 (.one (.ptr 0 0) :: uu 50 []), .var 43 [.i .i64, .s, .sl 43, .sl 9] :: []⟩)) (.s (.r [] (some ⟨uu 4 (ob :: uu 49 []), .u :: []⟩)) .n))))
noncomputable def fi24 : FI := mkFI Tryz.f24 2 [.ag [.sl 64, .sl 64, .sl 96], .ct (.sl 93), .ag [.i .i64, .s, .sl 43, .sl 9]] [(false, [.ct .b])] (fun _ => (.s (.r [0, 1, 0] none) (.s (.s (.r [] (some ⟨ou :: ol 93 :: ou :: .one (.ptr 0 0) :: ou :: .one (.ptr 1 0) :: uu 22 (ob :: uu 59 []), .var 39 [.sl 64, .sl 64, .sl 96] :: .var 43 [.i .i64, .s, .sl 43, .sl 9] :: []⟩)) .n) (.s (.s .n (.b (.b (.s .n (.s (.b (.s .n (.s (.r [] (some ⟨ou :: ol 93 :: ou :: .one (.ptr 0 0) :: ou :: .one (.ptr 1 0) :: ou :: oi :: uu 63 (ob :: uu 16 []), .var 39 [.sl 64, .sl 64, .sl 96] :: .var 43 [.i .i64, .s, .sl 43, .sl 9] :: []⟩)) .n)) ⟨ou :: ol 93 :: ou :: .one (.ptr 0 0) :: ou :: .one (.ptr 1 0) :: ou :: oi :: uu 80 [], .var 39 [.sl 64, .sl 64, .sl 96] :: .var 43 [.i .i64, .s, .sl 43, .sl 9] :: []⟩) .n)) ⟨ou :: ol 93 :: ou :: .one (.ptr 0 0) :: ou :: .one (.ptr 1 0) :: ou :: oi :: uu 80 [], .var 39 [.sl 64, .sl 64, .sl 96] :: .var 43 [.i .i64, .s, .sl 43, .sl 9] :: []⟩) ⟨ou :: ol 93 :: uu 3 (.one (.ptr 1 0) :: uu 82 []), .u :: .var 43 [.i .i64, .s, .sl 43, .sl 9] :: []⟩)) (.s .n (.s (.s .n (.b (.b (.s .n (.s (.b .n ⟨uu 5 (.one (.ptr 1 0) :: uu 3 (ol 9 :: oi :: uu 77 [])), .u :: .var 43 [.i .i64, .s, .sl 43, .sl 9] :: []⟩) .n)) ⟨uu 5 (.one (.ptr 1 0) :: uu 3 (ol 9 :: oi :: uu 77 [])), .u :: .var 43 [.i .i64, .s, .sl 43, .sl 9] :: []⟩) ⟨uu 88 [], .u :: .u :: []⟩)) .n))))))
noncomputable def fi29 : FI := mkFI Tryz.f29 1 [.ag [.i .i64, .s, .sl 43, .sl 9]] [(false, [.ct .b])] (fun _ => (.s (.r [0, 0] none) (.s (.r [] (some ⟨ou :: ou :: ob :: uu 8 [], .u :: []⟩)) .n)))
noncomputable def fi30 : FI := mkFI Tryz.f30 1 [.ag [.s, .s]] [(false, [.ct .b])] (fun _ => (.s (.r [0, 0] none) .n))
noncomputable def fi31 : FI := mkFI Tryz.f31 2 [.ag [.s, .s]] [(true, [.ct .s, .ct .s])] (fun _ => (.s (.r [0, 1] none) .n))
noncomputable def fi32 : FI := mkFI Tryz.f32 0 [.ct .s, .ct .s] [(false, [.ct .b])] (fun _ => .n)
noncomputable def fi33 : FI := mkFI Tryz.f33 2 [.ag [.s, .s]] [(true, [.ct .s, .ct .s])] (fun _ => (.s (.r [0, 1] none) .n))
noncomputable def fi34 : FI := mkFI Tryz.f34 2 [.ct (.sl 43), .fn] [(false, [.ct .b])] (fun _ => .n)
noncomputable def fi36 : FI := mkFI Tryz.f36 3 [.ag [.sl 64, .sl 64, .sl 96], .ag [.i .i64, .s, .sl 43, .sl 9], .ct .s] [(false, [.ct .b])] (fun _ => (.s (.r [0, 1, 0] none) (.s (.r [0, 0, 0, 0, 0, 0, 2, 0, 0] none) (.s (.s .n (.c (.s (.r [] (some ⟨uu 6 (ob :: uu 38 []), vv 3 []⟩)) .n) .n none)) (.s (.s .n (.b (.s .n (.c .n (.s .n (.c (.s (.r [] (some ⟨uu 6 (ob :: uu 38 []), vv 3 []⟩)) .n) .n none)) none)) ⟨uu 45 [], vv 3 []⟩)) .n)))))
noncomputable def fi37 : FI := mkFI Tryz.f37 0 [.ct (.sl 64), .ct (.sl 64)] [(false, [.ct .b])] (fun _ => (.s .n (.s .n (.s (.s .n (.b (.b (.s .n (.s (.b .n ⟨ol 64 :: ol 64 :: uu 3 (oi :: uu 21 []), []⟩) .n)) ⟨ol 64 :: ol 64 :: uu 3 (oi :: uu 21 []), []⟩) ⟨uu 27 [], []⟩)) .n))))
noncomputable def fi38 : FI := mkFI Tryz.f38 0 [.ct (.sl 96), .ct (.sl 96)] [(false, [.ct .b])] (fun _ => (.s .n (.s .n (.s (.s .n (.b (.b (.s .n (.s (.b .n ⟨ol 96 :: ol 96 :: uu 3 (oi :: uu 21 []), []⟩) .n)) ⟨ol 96 :: ol 96 :: uu 3 (oi :: uu 21 []), []⟩) ⟨uu 27 [], []⟩)) .n))))
noncomputable def fi39 : FI := mkFI Tryz.f39 0 [.ct (.sl 43), .ct (.sl 43)] [(false, [.ct .b])] (fun _ => (.s .n (.s .n (.s (.s .n (.b (.b (.s .n (.s (.b .n ⟨ol 43 :: ol 43 :: uu 3 (oi :: uu 21 []), []⟩) .n)) ⟨ol 43 :: ol 43 :: uu 3 (oi :: uu 21 []), []⟩) ⟨uu 27 [], []⟩)) .n))))
noncomputable def fi40 : FI := mkFI Tryz.f40 0 [.ct (.sl 9), .ct (.sl 9)] [(false, [.ct .b])] (fun _ => (.s .n (.s .n (.s (.s .n (.b (.b (.s .n (.s (.b .n ⟨ol 9 :: ol 9 :: uu 3 (oi :: uu 20 []), []⟩) .n)) ⟨ol 9 :: ol 9 :: uu 3 (oi :: uu 20 []), []⟩) ⟨uu 26 [], []⟩)) .n))))
noncomputable def fi41 : FI := mkFI Tryz.f41 1 [.ag [.i .i64, .b, .s, .s, .sl 9, .sl 126, .sl 129, .sl 132, .sl 89, .b, .sl 136], .ct (.i .i64)] [(false, [.ct (.i .i64)])] (fun _ => (.s (.r [0, 0] none) .n))
noncomputable def fi42 : FI := mkFI Tryz.f42 1 [.ag [.i .i64, .s], .ct (.i .i64)] [(false, [.ct (.i .i64)])] (fun _ => (.s (.r [0, 0] none) .n))
noncomputable def fi47 : FI := mkFI Tryz.f47 3 [.ag [.i .i64, .b, .s, .s, .sl 9, .sl 126, .sl 129, .sl 132, .sl 89, .b, .sl 136]] [(true, [.ct (.i .i64), .ct .b, .ct .s, .ct .s, .ct (.sl 9), .ct (.sl 139), .ct (.sl 93), .ct (.sl 66), .ct (.sl 96), .ct .b, .ct (.sl 145)])] (fun _ => (.s (.r [0, 1] none) (.s (.r [2] none) .n)))
noncomputable def fi48 : FI := mkFI Tryz.f48 3 [.ag [.i .i64, .s]] [(true, [.ct (.i .i64), .ct .s])] (fun _ => (.s (.r [0, 1] none) (.s (.r [2] none) .n)))
noncomputable def fi43 : FI := mkFI Tryz.f43 0 [.ct .s] [(false, [.ct .b])] (fun _ => (.s .n (.s (.s (.r [] (some ⟨os :: uu 11 (ob :: uu 25 []), []⟩)) .n) (.s .n (.s (.s .n (.b (.b (.s .n (.s (.b (.s .n (.c .n .n (some ⟨os :: ou :: ou :: oi :: oi :: uu 33 [], []⟩))) ⟨os :: ou :: ou :: oi :: oi :: uu 33 [], []⟩) .n)) ⟨os :: ou :: ou :: oi :: oi :: uu 33 [], []⟩) ⟨os :: ou :: ou :: oi :: uu 34 [], []⟩)) .n)))))
noncomputable def fi44 : FI := mkFI Tryz.f44 0 [.ct (.sl 93), .ct .s] [(false, [.ct (.i .i64)])] (fun _ => (.s .n (.s (.s .n (.b (.b (.s .n (.s (.b .n ⟨ol 93 :: os :: uu 3 (oi :: uu 14 []), []⟩) .n)) ⟨ol 93 :: os :: uu 3 (oi :: uu 14 []), []⟩) ⟨uu 20 [], []⟩)) .n)))
noncomputable def fi45 : FI := mkFI Tryz.f45 0 [.ct (.sl 9), .ct .s] [(false, [.ct .b])] (fun _ => (.s .n (.s (.s .n (.b (.b (.s .n (.s (.b .n ⟨ol 9 :: os :: uu 3 (oi :: uu 12 []), []⟩) .n)) ⟨ol 9 :: os :: uu 3 (oi :: uu 12 []), []⟩) ⟨uu 18 [], []⟩)) .n)))
noncomputable def fi46 : FI := mkFI Tryz.f46 8 [.ct (.sl 93)] [(false, [.ct (.sl 9)])] (fun _ => (.s .n (.s (.r [0, 0] none) (.s (.s .n (.b (.b (.s .n (.s (.b (.s (.r [] (some ⟨ol 93 :: ou :: ou :: .one (.own 9 2) :: oi :: uu 20 (ob :: uu 9 []), vv 8 []⟩)) (.c (.r [0, 0, 0, 0, 0, 0, 3, 4, 0] none) .n (some ⟨ol 93 :: ou :: ou :: .one (.own 9 5) :: oi :: uu 30 [], vv 8 []⟩))) ⟨ol 93 :: ou :: ou :: .one (.own 9 6) :: oi :: uu 30 [], vv 8 []⟩) .n)) ⟨ol 93 :: ou :: ou :: .one (.own 9 1) :: oi :: uu 30 [], vv 8 []⟩) ⟨uu 3 (.one (.own 9 7) :: uu 31 []), vv 8 []⟩)) .n))))
noncomputable def fi49 : FI := mkFI Tryz.f49 0 [.ct .s, .ct .s] [(false, [.ct .s])] (fun _ => .n)
noncomputable def fi50 : FI := mkFI Tryz.f50 0 [.ct .s, .ct .s] [(false, [.ct .b])] (fun _ => (.s .n (.s (.r [] (some ⟨uu 4 (ob :: uu 16 []), []⟩)) .n)))
noncomputable def fi51 : FI := mkFI Tryz.f51 0 [.ct .s, .ct .s] [(false, [.ct .s]), (false, [.ct .b])] (fun _ => .n)
noncomputable def fi52 : FI := mkFI Tryz.f52 2 [.ct (.sl 43), .fn] [(false, [.ct (.i .i64)])] (fun _ => (.s .n (.s (.s .n (.b (.b (.s .n (.s .n (.s (.b .n ⟨ol 43 :: .one (.fn 35 [0, 1]) :: uu 5 (oi :: oi :: uu 10 []), .var 39 [.sl 64, .sl 64, .sl 96] :: .var 45 [.s, .s] :: []⟩) .n))) ⟨ol 43 :: .one (.fn 35 [0, 1]) :: uu 5 (oi :: oi :: uu 10 []), .var 39 [.sl 64, .sl 64, .sl 96] :: .var 45 [.s, .s] :: []⟩) ⟨uu 19 [], .var 39 [.sl 64, .sl 64, .sl 96] :: .var 45 [.s, .s] :: []⟩)) .n)))
noncomputable def fi53 : FI := mkFI Tryz.f53 2 [.ag [.sl 64, .sl 64, .sl 96], .ct .s] [(true, [.ct (.i .i64), .ct .b, .ct .s, .ct .s, .ct (.sl 9), .ct (.sl 139), .ct (.sl 93), .ct (.sl 66), .ct (.sl 96), .ct .b, .ct (.sl 145)]), (false, [.ct .b])] (fun _ => (.s (.r [0, 1, 0] none) .n))
noncomputable def fi54 : FI := mkFI Tryz.f54 0 [.ct .s] [(false, [.ct .b])] (fun _ => (.s .n (.s (.s .n (.b (.s (.s .n (.c .n (.s .n (.c .n (.s .n (.c .n (.s .n (.c .n .n (some ⟨uu 4 (ob :: uu 5 []), []⟩))) (some ⟨uu 4 (ob :: uu 5 []), []⟩))) (some ⟨uu 4 (ob :: uu 5 []), []⟩))) (some ⟨uu 4 (ob :: uu 5 []), []⟩))) .n) ⟨uu 10 [], []⟩)) .n)))
noncomputable def fi55 : FI := mkFI Tryz.f55 1 [.ag [.i .i64, .s, .sl 43, .sl 9], .ct .s] [(false, [.ct .b])] (fun _ => (.s (.r [0, 0] none) (.s (.s .n (.b (.s .n (.c (.s (.r [] (some ⟨uu 4 (ob :: uu 49 []), .u :: []⟩)) .n) (.s .n (.c (.s (.r [] (some ⟨uu 4 (ob :: uu 49 []), .u :: []⟩)) .n) (.s .n (.c .n (.s .n (.c (.s (.r [] (some ⟨uu 4 (ob :: uu 49 []), .u :: []⟩)) .n) .n none)) none)) none)) none)) ⟨ou :: ou :: .one (.ptr 0 0) :: uu 51 [], .var 43 [.i .i64, .s, .sl 43, .sl 9] :: []⟩)) (.s (.r [] (some ⟨uu 4 (ob :: uu 49 []), .u :: []⟩)) .n))))
noncomputable def fi56 : FI := mkFI Tryz.f56 1 [.ct (.sl 66), .fn] [(false, [.ct .b])] (fun _ => .n)
noncomputable def fi58 : FI := mkFI Tryz.f58 3 [.ag [.sl 64, .sl 64, .sl 96], .ag [.i .i64, .s, .sl 43, .sl 9], .ag [.i .i64, .b, .s, .s, .sl 9, .sl 139, .sl 93, .sl 66, .sl 96, .b, .sl 145]] [(false, [.ct .b])] (fun _ => (.s (.r [0, 1, 2, 0] none) (.s (.s (.r [] (some ⟨uu 3 (.one (.ptr 0 0) :: .one (.ptr 1 0) :: .one (.ptr 2 0) :: uu 21 (ob :: uu 45 [])), .var 39 [.sl 64, .sl 64, .sl 96] :: .var 43 [.i .i64, .s, .sl 43, .sl 9] :: .var 64 [.i .i64, .b, .s, .s, .sl 9, .sl 139, .sl 93, .sl 66, .sl 96, .b, .sl 145] :: []⟩)) .n) (.s (.s .n (.b (.b (.s .n (.s .n (.s (.b (.s .n (.s .n (.s (.r [] (some ⟨uu 3 (.one (.ptr 0 0) :: .one (.ptr 1 0) :: .one (.ptr 2 0) :: uu 23 (ol 9 :: oi :: oi :: uu 33 (ob :: uu 7 []))), .var 39 [.sl 64, .sl 64, .sl 96] :: .var 43 [.i .i64, .s, .sl 43, .sl 9] :: .var 64 [.i .i64, .b, .s, .s, .sl 9, .sl 139, .sl 93, .sl 66, .sl 96, .b, .sl 145] :: []⟩)) .n))) ⟨uu 3 (.one (.ptr 0 0) :: .one (.ptr 1 0) :: .one (.ptr 2 0) :: uu 23 (ol 9 :: oi :: oi :: uu 41 [])), .var 39 [.sl 64, .sl 64, .sl 96] :: .var 43 [.i .i64, .s, .sl 43, .sl 9] :: .var 64 [.i .i64, .b, .s, .s, .sl 9, .sl 139, .sl 93, .sl 66, .sl 96, .b, .sl 145] :: []⟩) .n))) ⟨uu 3 (.one (.ptr 0 0) :: .one (.ptr 1 0) :: .one (.ptr 2 0) :: uu 23 (ol 9 :: oi :: oi :: uu 41 [])), .var 39 [.sl 64, .sl 64, .sl 96] :: .var 43 [.i .i64, .s, .sl 43, .sl 9] :: .var 64 [.i .i64, .b, .s, .s, .sl 9, .sl 139, .sl 93, .sl 66, .sl 96, .b, .sl 145] :: []⟩) ⟨uu 4 (.one (.ptr 1 0) :: .one (.ptr 2 0) :: uu 67 []), .u :: .var 43 [.i .i64, .s, .sl 43, .sl 9] :: .var 64 [.i .i64, .b, .s, .s, .sl 9, .sl 139, .sl 93, .sl 66, .sl 96, .b, .sl 145] :: []⟩)) .n))))
noncomputable def fi59 : FI := mkFI Tryz.f59 2 [.ag [.i .i64, .b, .s, .s, .sl 9, .sl 139, .sl 93, .sl 66, .sl 96, .b, .sl 145], .ag [.i .i64, .b, .s, .s, .sl 9, .sl 139, .sl 93, .sl 66, .sl 96, .b, .sl 145]] [(false, [.ct .b])] (fun _ => (.s (.r [0, 1, 0] none) .n))
noncomputable def fi60 : FI := mkFI Tryz.f60 2 [.ag [.i .i64, .s], .ag [.i .i64, .s]] [(false, [.ct .b])] (fun _ => (.s (.r [0, 1, 0] none) .n))
noncomputable def fi61 : FI := mkFI Tryz.f61 0 [.ct (.sl 126), .ct (.i .i64)] [(false, [.ct (.i .i64)])] (fun _ => (.s .n (.s .n (.s .n (.s (.s .n (.b (.b (.s .n (.s (.b .n ⟨ol 126 :: oi :: uu 3 (oi :: uu 21 []), []⟩) .n)) ⟨ol 126 :: oi :: uu 3 (oi :: uu 21 []), []⟩) ⟨ou :: oi :: uu 25 [], []⟩)) .n)))))
noncomputable def fi62 : FI := mkFI Tryz.f62 0 [.ct (.sl 129), .ct (.i .i64)] [(false, [.ct (.i .i64)])] (fun _ => (.s .n (.s .n (.s .n (.s (.s .n (.b (.b (.s .n (.s (.b .n ⟨ol 129 :: oi :: uu 3 (oi :: uu 21 []), []⟩) .n)) ⟨ol 129 :: oi :: uu 3 (oi :: uu 21 []), []⟩) ⟨ou :: oi :: uu 25 [], []⟩)) .n)))))
noncomputable def fi63 : FI := mkFI Tryz.f63 0 [.ct (.sl 132), .ct (.i .i64)] [(false, [.ct (.i .i64)])] (fun _ => (.s .n (.s .n (.s .n (.s (.s .n (.b (.b (.s .n (.s (.b .n ⟨ol 132 :: oi :: uu 3 (oi :: uu 21 []), []⟩) .n)) ⟨ol 132 :: oi :: uu 3 (oi :: uu 21 []), []⟩) ⟨ou :: oi :: uu 25 [], []⟩)) .n)))))
noncomputable def fi64 : FI := mkFI Tryz.f64 0 [.ct (.sl 136), .ct (.i .i64)] [(false, [.ct (.i .i64)])] (fun _ => (.s .n (.s .n (.s .n (.s (.s .n (.b (.b (.s .n (.s (.b .n ⟨ol 136 :: oi :: uu 3 (oi :: uu 21 []), []⟩) .n)) ⟨ol 136 :: oi :: uu 3 (oi :: uu 21 []), []⟩) ⟨ou :: oi :: uu 25 [], []⟩)) .n)))))
noncomputable def fi66 : FI := mkFI Tryz.f66 4 [.ct (.sl 126)] [(false, [.ct (.sl 139)])] (fun _ => (.s .n (.s (.r [0, 0, 0, 0] none) (.s (.s .n (.b (.b (.s .n (.s (.b .n ⟨ol 126 :: ou :: ou :: .one (.own 139 2) :: oi :: uu 18 [], vv 4 []⟩) .n)) ⟨ol 126 :: ou :: ou :: .one (.own 139 1) :: oi :: uu 18 [], vv 4 []⟩) ⟨uu 3 (.one (.own 139 3) :: uu 19 []), vv 4 []⟩)) .n))))
noncomputable def fi67 : FI := mkFI Tryz.f67 4 [.ct (.sl 129)] [(false, [.ct (.sl 93)])] (fun _ => (.s .n (.s (.r [0, 0, 0, 0] none) (.s (.s .n (.b (.b (.s .n (.s (.b .n ⟨ol 129 :: ou :: ou :: .one (.own 93 2) :: oi :: uu 18 [], vv 4 []⟩) .n)) ⟨ol 129 :: ou :: ou :: .one (.own 93 1) :: oi :: uu 18 [], vv 4 []⟩) ⟨uu 3 (.one (.own 93 3) :: uu 19 []), vv 4 []⟩)) .n))))
noncomputable def fi68 : FI := mkFI Tryz.f68 4 [.ct (.sl 132)] [(false, [.ct (.sl 66)])] (fun _ => (.s .n (.s (.r [0, 0, 0, 0] none) (.s (.s .n (.b (.b (.s .n (.s (.b .n ⟨ol 132 :: ou :: ou :: .one (.own 66 2) :: oi :: uu 18 [], vv 4 []⟩) .n)) ⟨ol 132 :: ou :: ou :: .one (.own 66 1) :: oi :: uu 18 [], vv 4 []⟩) ⟨uu 3 (.one (.own 66 3) :: uu 19 []), vv 4 []⟩)) .n))))
noncomputable def fi69 : FI := mkFI Tryz.f69 4 [.ct (.sl 136)] [(false, [.ct (.sl 145)])] (fun _ => (.s .n (.s (.r [0, 0, 0, 0] none) (.s (.s .n (.b (.b (.s .n (.s (.b .n ⟨ol 136 :: ou :: ou :: .one (.own 145 2) :: oi :: uu 18 [], vv 4 []⟩) .n)) ⟨ol 136 :: ou :: ou :: .one (.own 145 1) :: oi :: uu 18 [], vv 4 []⟩) ⟨uu 3 (.one (.own 145 3) :: uu 19 []), vv 4 []⟩)) .n))))
noncomputable def fi65 : FI := mkFI Tryz.f65 0 [.ct .s] [(false, [.ct .b])] (fun _ => (.s .n (.s (.r [] (some ⟨ou :: ou :: ob :: uu 15 [], []⟩)) .n)))
noncomputable def fi70 : FI := mkFI Tryz.f70 0 [.ct .s, .ct .s] [(false, [.ct .s])] (fun _ => .n)
noncomputable def fi71 : FI := mkFI Tryz.f71 0 [.ct .s, .ct .s] [(false, [.ct .s]), (false, [.ct .b])] (fun _ => .n)
noncomputable def fi35 : FI := mkFI Tryz.f35 3 [.ag [.i .i64, .s, .sl 43, .sl 9], .ptr, .ptr] [(false, [.ct .b])] (fun _ => (.s (.r [2, 0] none) .n))
noncomputable def fi72 : FI := mkFI Tryz.f72 1 [.ag [.sl 64, .sl 64, .sl 96], .ct .s] [(false, [.ct (.i .i64)])] (fun _ => (.s (.r [0, 0] none) .n))
noncomputable def fi73 : FI := { mkFI Tryz.f73 0 [.ct .s] [(false, [.ct .b])] (fun _ => .n) with via := some viaFits }
noncomputable def fi74 : FI := mkFI Tryz.f74 1 [.ct (.sl 66), .fn] [(false, [.ct (.i .i64)])] (fun _ => (.s .n (.s (.s .n (.b (.b (.s .n (.s .n (.s (.b .n ⟨ol 66 :: .one (.fn 57 [0]) :: uu 5 (oi :: oi :: uu 10 []), .var 43 [.i .i64, .s, .sl 43, .sl 9] :: []⟩) .n))) ⟨ol 66 :: .one (.fn 57 [0]) :: uu 5 (oi :: oi :: uu 10 []), .var 43 [.i .i64, .s, .sl 43, .sl 9] :: []⟩) ⟨uu 19 [], .var 43 [.i .i64, .s, .sl 43, .sl 9] :: []⟩)) .n)))
noncomputable def fi75 : FI := mkFI Tryz.f75 1 [.ct (.sl 93), .ct .s] [(false, [.ct (.i .i64)])] (fun _ => (.s (.r [0, 0] none) .n))
noncomputable def fi76 : FI := mkFI Tryz.f76 0 [.ct (.sl 9), .ct .s] [(false, [.ct .b])] (fun _ => .n)
noncomputable def fi78 : FI := mkFI Tryz.f78 9 [.ct (.sl 93)] [(false, [.ct (.sl 9)])] (fun _ => (.s .n (.s (.r [0, 0] none) (.s (.s .n (.b (.b (.s .n (.s .n (.s (.b (.s (.r [0, 0, 2, 0] none) (.s (.r [] (some ⟨uu 3 (.one (.own 9 3) :: ou :: .one (.ptr 2 0) :: ou :: ol 93 :: oi :: oi :: uu 10 (ob :: uu 7 [])), .u :: .u :: .var 93 [.s, .s, .s, .s, .b, .i .i64, .s, .sl 43, .sl 9, .sl 145] :: vv 6 []⟩)) (.c (.r [0, 0, 0, 4, 5, 0] none) .n (some ⟨uu 3 (.one (.own 9 6) :: uu 3 (ol 93 :: oi :: oi :: uu 18 [])), vv 9 []⟩)))) ⟨uu 3 (.one (.own 9 7) :: uu 3 (ol 93 :: oi :: oi :: uu 18 [])), vv 9 []⟩) .n))) ⟨uu 3 (.one (.own 9 1) :: uu 3 (ol 93 :: oi :: oi :: uu 18 [])), vv 9 []⟩) ⟨uu 3 (.one (.own 9 8) :: uu 24 []), vv 9 []⟩)) .n))))
noncomputable def fi77 : FI := mkFI Tryz.f77 1 [.ct (.sl 9), .fn] [(false, [.ct .b])] (fun _ => .n)
noncomputable def fi80 : FI := mkFI Tryz.f80 0 [.ct (.sl 139), .ct (.sl 139)] [(false, [.ct .b])] (fun _ => (.s .n (.s .n (.s (.s .n (.b (.b (.s .n (.s (.b .n ⟨ol 139 :: ol 139 :: uu 3 (oi :: uu 21 []), []⟩) .n)) ⟨ol 139 :: ol 139 :: uu 3 (oi :: uu 21 []), []⟩) ⟨uu 27 [], []⟩)) .n))))
noncomputable def fi81 : FI := mkFI Tryz.f81 0 [.ct (.sl 93), .ct (.sl 93)] [(false, [.ct .b])] (fun _ => (.s .n (.s .n (.s (.s .n (.b (.b (.s .n (.s (.b .n ⟨ol 93 :: ol 93 :: uu 3 (oi :: uu 21 []), []⟩) .n)) ⟨ol 93 :: ol 93 :: uu 3 (oi :: uu 21 []), []⟩) ⟨uu 27 [], []⟩)) .n))))
noncomputable def fi82 : FI := mkFI Tryz.f82 0 [.ct (.sl 66), .ct (.sl 66)] [(false, [.ct .b])] (fun _ => (.s .n (.s .n (.s (.s .n (.b (.b (.s .n (.s (.b .n ⟨ol 66 :: ol 66 :: uu 3 (oi :: uu 21 []), []⟩) .n)) ⟨ol 66 :: ol 66 :: uu 3 (oi :: uu 21 []), []⟩) ⟨uu 27 [], []⟩)) .n))))
noncomputable def fi83 : FI := mkFI Tryz.f83 0 [.ct (.sl 145), .ct (.sl 145)] [(false, [.ct .b])] (fun _ => (.s .n (.s .n (.s (.s .n (.b (.b (.s .n (.s (.b .n ⟨ol 145 :: ol 145 :: uu 3 (oi :: uu 21 []), []⟩) .n)) ⟨ol 145 :: ol 145 :: uu 3 (oi :: uu 21 []), []⟩) ⟨uu 27 [], []⟩)) .n))))
noncomputable def fi84 : FI := mkFI Tryz.f84 1 [.ag [.s, .s, .sl 129, .s, .s, .sl 136], .ct (.i .i64)] [(false, [.ct (.i .i64)])] (fun _ => (.s (.r [0, 0] none) .n))
noncomputable def fi85 : FI := mkFI Tryz.f85 1 [.ag [.s, .s, .s, .s, .b, .i .i64, .s, .sl 29, .sl 9, .sl 136], .ct (.i .i64)] [(false, [.ct (.i .i64)])] (fun _ => (.s (.r [0, 0] none) .n))
noncomputable def fi86 : FI := mkFI Tryz.f86 1 [.ag [.s, .s, .sl 136], .ct (.i .i64)] [(false, [.ct (.i .i64)])] (fun _ => (.s (.r [0, 0] none) .n))
noncomputable def fi87 : FI := mkFI Tryz.f87 1 [.ag [.s, .sl 170], .ct (.i .i64)] [(false, [.ct (.i .i64)])] (fun _ => (.s (.r [0, 0] none) .n))
noncomputable def fi89 : FI := mkFI Tryz.f89 3 [.ag [.s, .s, .sl 129, .s, .s, .sl 136]] [(true, [.ct .s, .ct .s, .ct (.sl 93), .ct .s, .ct .s, .ct (.sl 145)])] (fun _ => (.s (.r [0, 1] none) (.s (.r [2] none) .n)))
noncomputable def fi90 : FI := mkFI Tryz.f90 3 [.ag [.s, .s, .s, .s, .b, .i .i64, .s, .sl 29, .sl 9, .sl 136]] [(true, [.ct .s, .ct .s, .ct .s, .ct .s, .ct .b, .ct (.i .i64), .ct .s, .ct (.sl 43), .ct (.sl 9), .ct (.sl 145)])] (fun _ => (.s (.r [0, 1] none) (.s (.r [2] none) .n)))
noncomputable def fi91 : FI := mkFI Tryz.f91 3 [.ag [.s, .s, .sl 136]] [(true, [.ct .s, .ct .s, .ct (.sl 145)])] (fun _ => (.s (.r [0, 1] none) (.s (.r [2] none) .n)))
noncomputable def fi92 : FI := mkFI Tryz.f92 3 [.ag [.s, .sl 170]] [(true, [.ct .s, .ct (.sl 173)])] (fun _ => (.s (.r [0, 1] none) (.s (.r [2] none) .n)))
noncomputable def fi88 : FI := mkFI Tryz.f88 0 [.ct .s] [(false, [.ct (.i .i64)])] (fun _ => (.s .n (.s .n (.s (.s (.r [] (some ⟨os :: ou :: ou :: oi :: uu 8 (ob :: uu 19 []), []⟩)) (.c .n .n (some ⟨os :: ou :: ou :: oi :: uu 28 [], []⟩))) (.s .n (.s (.s (.r [] (some ⟨uu 4 (oi :: uu 25 (ob :: ou :: [])), []⟩)) .n) .n))))))
noncomputable def fi93 : FI := mkFI Tryz.f93 1 [.ct (.sl 64), .ct .s] [(false, [.ct (.i .i64)])] (fun _ => (.s (.r [0, 0] none) .n))
noncomputable def fi95 : FI := mkFI Tryz.f95 0 [.ct .s] [(false, [.ct .b])] (fun _ => (.s .n (.s .n (.s (.r [] (some ⟨ou :: ou :: ob :: uu 19 [], []⟩)) .n))))
noncomputable def fi57 : FI := mkFI Tryz.f57 2 [.ag [.s, .s, .sl 145], .ptr] [(false, [.ct .b])] (fun _ => (.s (.r [1, 0] none) .n))
noncomputable def fi96 : FI := mkFI Tryz.f96 1 [.ct (.sl 93), .fn] [(false, [.ct (.i .i64)])] (fun _ => (.s .n (.s (.s .n (.b (.b (.s .n (.s .n (.s (.b .n ⟨ol 93 :: .one (.fn 97 [0]) :: uu 5 (oi :: oi :: uu 10 []), .var 9 [.s] :: []⟩) .n))) ⟨ol 93 :: .one (.fn 97 [0]) :: uu 5 (oi :: oi :: uu 10 []), .var 9 [.s] :: []⟩) ⟨uu 19 [], .var 9 [.s] :: []⟩)) .n)))
noncomputable def fi98 : FI := mkFI Tryz.f98 0 [.ct (.sl 9), .ct .s] [(false, [.ct (.i .i64)])] (fun _ => (.s .n (.s (.s .n (.b (.b (.s .n (.s .n (.s (.b .n ⟨ol 9 :: os :: uu 5 (oi :: oi :: uu 10 []), []⟩) .n))) ⟨ol 9 :: os :: uu 5 (oi :: oi :: uu 10 []), []⟩) ⟨uu 19 [], []⟩)) .n)))
noncomputable def fi99 : FI := mkFI Tryz.f99 1 [.ct (.sl 9), .fn] [(false, [.ct (.i .i64)])] (fun _ => (.s .n (.s (.s .n (.b (.b (.s .n (.s .n (.s (.b .n ⟨ol 9 :: .one (.fn 79 [0]) :: uu 5 (oi :: oi :: uu 10 []), .var 43 [.i .i64, .s, .sl 43, .sl 9] :: []⟩) .n))) ⟨ol 9 :: .one (.fn 79 [0]) :: uu 5 (oi :: oi :: uu 10 []), .var 43 [.i .i64, .s, .sl 43, .sl 9] :: []⟩) ⟨uu 19 [], .var 43 [.i .i64, .s, .sl 43, .sl 9] :: []⟩)) .n)))
noncomputable def fi100 : FI := mkFI Tryz.f100 2 [.ag [.s, .s, .sl 93, .s, .s, .sl 145], .ag [.s, .s, .sl 93, .s, .s, .sl 145]] [(false, [.ct .b])] (fun _ => (.s (.r [0, 1, 0] none) .n))
noncomputable def fi101 : FI := mkFI Tryz.f101 2 [.ag [.s, .s, .s, .s, .b, .i .i64, .s, .sl 43, .sl 9, .sl 145], .ag [.s, .s, .s, .s, .b, .i .i64, .s, .sl 43, .sl 9, .sl 145]] [(false, [.ct .b])] (fun _ => (.s (.r [0, 1, 0] none) .n))
noncomputable def fi102 : FI := mkFI Tryz.f102 2 [.ag [.s, .s, .sl 145], .ag [.s, .s, .sl 145]] [(false, [.ct .b])] (fun _ => (.s (.r [0, 1, 0] none) .n))
noncomputable def fi103 : FI := mkFI Tryz.f103 2 [.ag [.s, .sl 173], .ag [.s, .sl 173]] [(false, [.ct .b])] (fun _ => (.s (.r [0, 1, 0] none) .n))
noncomputable def fi104 : FI := mkFI Tryz.f104 0 [.ct (.sl 170), .ct (.i .i64)] [(false, [.ct (.i .i64)])] (fun _ => (.s .n (.s .n (.s .n (.s (.s .n (.b (.b (.s .n (.s (.b .n ⟨ol 170 :: oi :: uu 3 (oi :: uu 21 []), []⟩) .n)) ⟨ol 170 :: oi :: uu 3 (oi :: uu 21 []), []⟩) ⟨ou :: oi :: uu 25 [], []⟩)) .n)))))
noncomputable def fi106 : FI := mkFI Tryz.f106 4 [.ct (.sl 170)] [(false, [.ct (.sl 173)])] (fun _ => (.s .n (.s (.r [0, 0, 0, 0] none) (.s (.s .n (.b (.b (.s .n (.s (.b .n ⟨ol 170 :: ou :: ou :: .one (.own 173 2) :: oi :: uu 18 [], vv 4 []⟩) .n)) ⟨ol 170 :: ou :: ou :: .one (.own 173 1) :: oi :: uu 18 [], vv 4 []⟩) ⟨uu 3 (.one (.own 173 3) :: uu 19 []), vv 4 []⟩)) .n))))
noncomputable def fi105 : FI := mkFI Tryz.f105 0 [.ct .s, .ct (.i .i64)] [(false, [.ct (.i .i64)])] (fun _ => (.s .n (.s (.b (.b (.s (.s (.r [] (some ⟨os :: oi :: uu 12 (ob :: uu 3 []), []⟩)) .n) (.b .n ⟨os :: oi :: uu 16 [], []⟩)) ⟨os :: oi :: uu 16 [], []⟩) ⟨ou :: oi :: uu 16 [], []⟩) .n)))
noncomputable def fi107 : FI := mkFI Tryz.f107 1 [.ct (.sl 64), .fn] [(false, [.ct (.i .i64)])] (fun _ => (.s .n (.s (.s .n (.b (.b (.s .n (.s .n (.s (.b .n ⟨ol 64 :: .one (.fn 108 [0]) :: uu 5 (oi :: oi :: uu 10 []), .var 9 [.s] :: []⟩) .n))) ⟨ol 64 :: .one (.fn 108 [0]) :: uu 5 (oi :: oi :: uu 10 []), .var 9 [.s] :: []⟩) ⟨uu 19 [], .var 9 [.s] :: []⟩)) .n)))
noncomputable def fi111 : FI := mkFI Tryz.f111 0 [.ct .s, .ct .s] [(false, [.ct .s])] (fun _ => .n)
noncomputable def fi112 : FI := mkFI Tryz.f112 0 [.ct .s] [(false, [.ct .b])] (fun _ => (.s .n (.s (.s .n (.b (.b (.s .n (.s .n (.s (.b .n ⟨os :: uu 4 (oi :: oi :: uu 10 []), []⟩) .n))) ⟨os :: uu 4 (oi :: oi :: uu 10 []), []⟩) ⟨os :: uu 16 [], []⟩)) .n)))
noncomputable def fi97 : FI := mkFI Tryz.f97 2 [.ag [.s, .s, .s, .s, .b, .i .i64, .s, .sl 43, .sl 9, .sl 145], .ptr] [(false, [.ct .b])] (fun _ => (.s (.r [1, 0] none) .n))
noncomputable def fi79 : FI := mkFI Tryz.f79 1 [.ct .s, .ptr] [(false, [.ct .b])] (fun _ => .n)
noncomputable def fi113 : FI := mkFI Tryz.f113 2 [.ag [.s, .s], .ag [.s, .s]] [(false, [.ct .b])] (fun _ => (.s (.r [0, 1, 0] none) .n))
noncomputable def fi114 : FI := mkFI Tryz.f114 0 [.ct (.sl 173), .ct (.sl 173)] [(false, [.ct .b])] (fun _ => (.s .n (.s .n (.s (.s .n (.b (.b (.s .n (.s (.b .n ⟨ol 173 :: ol 173 :: uu 3 (oi :: uu 21 []), []⟩) .n)) ⟨ol 173 :: ol 173 :: uu 3 (oi :: uu 21 []), []⟩) ⟨uu 27 [], []⟩)) .n))))
noncomputable def fi115 : FI := mkFI Tryz.f115 1 [.ag [.s, .i .i64, .s, .sl 29, .sl 9], .ct (.i .i64)] [(false, [.ct (.i .i64)])] (fun _ => (.s (.r [0, 0] none) .n))
noncomputable def fi117 : FI := mkFI Tryz.f117 3 [.ag [.s, .i .i64, .s, .sl 29, .sl 9]] [(true, [.ct .s, .ct (.i .i64), .ct .s, .ct (.sl 43), .ct (.sl 9)])] (fun _ => (.s (.r [0, 1] none) (.s (.r [2] none) .n)))
noncomputable def fi116 : FI := mkFI Tryz.f116 0 [.ct (.i .u8)] [(false, [.ct .b])] (fun _ => (.s .n (.s (.r [] (some ⟨ou :: ou :: ob :: uu 6 [], []⟩)) .n)))
noncomputable def fi108 : FI := mkFI Tryz.f108 2 [.ag [.i .i64, .b, .s, .s, .sl 9, .sl 139, .sl 93, .sl 66, .sl 96, .b, .sl 145], .ptr] [(false, [.ct .b])] (fun _ => (.s (.r [1, 0] none) .n))
noncomputable def fi123 : FI := mkFI Tryz.f123 0 [.ct .s, .ct .s] [(false, [.ct .s])] (fun _ => .n)
noncomputable def fi124 : FI := mkFI Tryz.f124 0 [.ct (.i .u8)] [(false, [.ct .b])] (fun _ => (.s .n (.s (.r [] (some ⟨ou :: ou :: ob :: uu 6 [], []⟩)) .n)))
noncomputable def fi125 : FI := mkFI Tryz.f125 2 [.ag [.s, .i .i64, .s, .sl 43, .sl 9], .ag [.s, .i .i64, .s, .sl 43, .sl 9]] [(false, [.ct .b])] (fun _ => (.s (.r [0, 1, 0] none) .n))
noncomputable def fi131 : FI := mkFI Tryz.f131 0 [.ct .s, .ct .s] [(false, [.ct .b])] (fun _ => (.s .n (.s (.r [] (some ⟨uu 4 (ob :: uu 13 []), []⟩)) .n)))
noncomputable def fnL : List (Nat × FI) := [(3, fi3), (4, fi4), (5, fi5), (6, fi6), (8, fi8), (9, fi9), (10, fi10), (7, fi7), (11, fi11), (12, fi12), (13, fi13), (14, fi14), (15, fi15), (16, fi16), (17, fi17), (25, fi25), (26, fi26), (27, fi27), (28, fi28), (18, fi18), (19, fi19), (20, fi20), (21, fi21), (22, fi22), (23, fi23), (24, fi24), (29, fi29), (30, fi30), (31, fi31), (32, fi32), (33, fi33), (34, fi34), (36, fi36), (37, fi37), (38, fi38), (39, fi39), (40, fi40), (41, fi41), (42, fi42), (47, fi47), (48, fi48), (43, fi43), (44, fi44), (45, fi45), (46, fi46), (49, fi49), (50, fi50), (51, fi51), (52, fi52), (53, fi53), (54, fi54), (55, fi55), (56, fi56), (58, fi58), (59, fi59), (60, fi60), (61, fi61), (62, fi62), (63, fi63), (64, fi64), (66, fi66), (67, fi67), (68, fi68), (69, fi69), (65, fi65), (70, fi70), (71, fi71), (35, fi35), (72, fi72), (73, fi73), (74, fi74), (75, fi75), (76, fi76), (78, fi78), (77, fi77), (80, fi80), (81, fi81), (82, fi82), (83, fi83), (84, fi84), (85, fi85), (86, fi86), (87, fi87), (89, fi89), (90, fi90), (91, fi91), (92, fi92), (88, fi88), (93, fi93), (95, fi95), (57, fi57), (96, fi96), (98, fi98), (99, fi99), (100, fi100), (101, fi101), (102, fi102), (103, fi103), (104, fi104), (106, fi106), (105, fi105), (107, fi107), (111, fi111), (112, fi112), (97, fi97), (79, fi79), (113, fi113), (114, fi114), (115, fi115), (117, fi117), (116, fi116), (108, fi108), (123, fi123), (124, fi124), (125, fi125), (131, fi131)]
noncomputable def cfg : Cfg := ⟨fun t => look t tyL, fun f => look f fnL⟩
theorem tys : tyB Tryz.prog tyL = true := by kernel_rfl
theorem fns : ∀ x ∈ fnL, FnOk Tryz.prog G cfg.ty x.1 x.2 :=
  all_cons (mkFI_ok Tryz.func3 (by kernel_rfl)) <|
  all_cons (mkFI_ok Tryz.func4 (by kernel_rfl)) <|
  all_cons (mkFI_ok Tryz.func5 (by kernel_rfl)) <|
  all_cons (mkFI_ok Tryz.func6 (by kernel_rfl)) <|
  all_cons (mkFI_ok Tryz.func8 (by kernel_rfl)) <|
  all_cons (mkFI_ok Tryz.func9 (by kernel_rfl)) <|
  all_cons (mkFI_ok Tryz.func10 (by kernel_rfl)) <|
  all_cons (mkFI_ok Tryz.func7 (by kernel_rfl)) <|
  all_cons (mkFI_ok Tryz.func11 (by kernel_rfl)) <|
  all_cons (mkFI_ok Tryz.func12 (by kernel_rfl)) <|
  all_cons (mkFI_ok Tryz.func13 (by kernel_rfl)) <|
  all_cons (mkFI_ok Tryz.func14 (by kernel_rfl)) <|
  all_cons (mkFI_ok Tryz.func15 (by kernel_rfl)) <|
  all_cons (mkFI_ok Tryz.func16 (by kernel_rfl)) <|
  all_cons (mkFI_ok Tryz.func17 (by kernel_rfl)) <|
  all_cons (mkFI_ok Tryz.func25 (by kernel_rfl)) <|
  all_cons (mkFI_ok Tryz.func26 (by kernel_rfl)) <|
  all_cons (mkFI_ok Tryz.func27 (by kernel_rfl)) <|
  all_cons (mkFI_ok Tryz.func28 (by kernel_rfl)) <|
  all_cons (mkFI_ok Tryz.func18 (by kernel_rfl)) <|
  all_cons (mkFI_ok Tryz.func19 (by kernel_rfl)) <|
  all_cons (mkFI_ok Tryz.func20 (by kernel_rfl)) <|
  all_cons (mkFI_ok Tryz.func21 (by kernel_rfl)) <|
  all_cons (mkFI_ok Tryz.func22 (by kernel_rfl)) <|
  all_cons (mkFI_ok Tryz.func23 (by kernel_rfl)) <|
  all_cons (mkFI_ok Tryz.func24 (by kernel_rfl)) <|
  all_cons (mkFI_ok Tryz.func29 (by kernel_rfl)) <|
  all_cons (mkFI_ok Tryz.func30 (by kernel_rfl)) <|
  all_cons (mkFI_ok Tryz.func31 (by kernel_rfl)) <|
  all_cons (mkFI_ok Tryz.func32 (by kernel_rfl)) <|
  all_cons (mkFI_ok Tryz.func33 (by kernel_rfl)) <|
  all_cons (mkFI_ok Tryz.func34 (by kernel_rfl)) <|
  all_cons (mkFI_ok Tryz.func36 (by kernel_rfl)) <|
  all_cons (mkFI_ok Tryz.func37 (by kernel_rfl)) <|
  all_cons (mkFI_ok Tryz.func38 (by kernel_rfl)) <|
  all_cons (mkFI_ok Tryz.func39 (by kernel_rfl)) <|
  all_cons (mkFI_ok Tryz.func40 (by kernel_rfl)) <|
  all_cons (mkFI_ok Tryz.func41 (by kernel_rfl)) <|
  all_cons (mkFI_ok Tryz.func42 (by kernel_rfl)) <|
  all_cons (mkFI_ok Tryz.func47 (by kernel_rfl)) <|
  all_cons (mkFI_ok Tryz.func48 (by kernel_rfl)) <|
  all_cons (mkFI_ok Tryz.func43 (by kernel_rfl)) <|
  all_cons (mkFI_ok Tryz.func44 (by kernel_rfl)) <|
  all_cons (mkFI_ok Tryz.func45 (by kernel_rfl)) <|
  all_cons (mkFI_ok Tryz.func46 (by kernel_rfl)) <|
  all_cons (mkFI_ok Tryz.func49 (by kernel_rfl)) <|
  all_cons (mkFI_ok Tryz.func50 (by kernel_rfl)) <|
  all_cons (mkFI_ok Tryz.func51 (by kernel_rfl)) <|
  all_cons (mkFI_ok Tryz.func52 (by kernel_rfl)) <|
  all_cons (mkFI_ok Tryz.func53 (by kernel_rfl)) <|
  all_cons (mkFI_ok Tryz.func54 (by kernel_rfl)) <|
  all_cons (mkFI_ok Tryz.func55 (by kernel_rfl)) <|
  all_cons (mkFI_ok Tryz.func56 (by kernel_rfl)) <|
  all_cons (mkFI_ok Tryz.func58 (by kernel_rfl)) <|
  all_cons (mkFI_ok Tryz.func59 (by kernel_rfl)) <|
  all_cons (mkFI_ok Tryz.func60 (by kernel_rfl)) <|
  all_cons (mkFI_ok Tryz.func61 (by kernel_rfl)) <|
  all_cons (mkFI_ok Tryz.func62 (by kernel_rfl)) <|
  all_cons (mkFI_ok Tryz.func63 (by kernel_rfl)) <|
  all_cons (mkFI_ok Tryz.func64 (by kernel_rfl)) <|
  all_cons (mkFI_ok Tryz.func66 (by kernel_rfl)) <|
  all_cons (mkFI_ok Tryz.func67 (by kernel_rfl)) <|
  all_cons (mkFI_ok Tryz.func68 (by kernel_rfl)) <|
  all_cons (mkFI_ok Tryz.func69 (by kernel_rfl)) <|
  all_cons (mkFI_ok Tryz.func65 (by kernel_rfl)) <|
  all_cons (mkFI_ok Tryz.func70 (by kernel_rfl)) <|
  all_cons (mkFI_ok Tryz.func71 (by kernel_rfl)) <|
  all_cons (mkFI_ok Tryz.func35 (by kernel_rfl)) <|
  all_cons (mkFI_ok Tryz.func72 (by kernel_rfl)) <|
  all_cons (via_lit (cts := [.s]) (rcts := [.b]) Tryz.func73 (by kernel_rfl) (by kernel_rfl) (by kernel_rfl) rfl rfl rfl call_Fits32) <|
  all_cons (mkFI_ok Tryz.func74 (by kernel_rfl)) <|
  all_cons (mkFI_ok Tryz.func75 (by kernel_rfl)) <|
  all_cons (mkFI_ok Tryz.func76 (by kernel_rfl)) <|
  all_cons (mkFI_ok Tryz.func78 (by kernel_rfl)) <|
  all_cons (mkFI_ok Tryz.func77 (by kernel_rfl)) <|
  all_cons (mkFI_ok Tryz.func80 (by kernel_rfl)) <|
  all_cons (mkFI_ok Tryz.func81 (by kernel_rfl)) <|
  all_cons (mkFI_ok Tryz.func82 (by kernel_rfl)) <|
  all_cons (mkFI_ok Tryz.func83 (by kernel_rfl)) <|
  all_cons (mkFI_ok Tryz.func84 (by kernel_rfl)) <|
  all_cons (mkFI_ok Tryz.func85 (by kernel_rfl)) <|
  all_cons (mkFI_ok Tryz.func86 (by kernel_rfl)) <|
  all_cons (mkFI_ok Tryz.func87 (by kernel_rfl)) <|
  all_cons (mkFI_ok Tryz.func89 (by kernel_rfl)) <|
  all_cons (mkFI_ok Tryz.func90 (by kernel_rfl)) <|
  all_cons (mkFI_ok Tryz.func91 (by kernel_rfl)) <|
  all_cons (mkFI_ok Tryz.func92 (by kernel_rfl)) <|
  all_cons (mkFI_ok Tryz.func88 (by kernel_rfl)) <|
  all_cons (mkFI_ok Tryz.func93 (by kernel_rfl)) <|
  all_cons (mkFI_ok Tryz.func95 (by kernel_rfl)) <|
  all_cons (mkFI_ok Tryz.func57 (by kernel_rfl)) <|
  all_cons (mkFI_ok Tryz.func96 (by kernel_rfl)) <|
  all_cons (mkFI_ok Tryz.func98 (by kernel_rfl)) <|
  all_cons (mkFI_ok Tryz.func99 (by kernel_rfl)) <|
  all_cons (mkFI_ok Tryz.func100 (by kernel_rfl)) <|
  all_cons (mkFI_ok Tryz.func101 (by kernel_rfl)) <|
  all_cons (mkFI_ok Tryz.func102 (by kernel_rfl)) <|
  all_cons (mkFI_ok Tryz.func103 (by kernel_rfl)) <|
  all_cons (mkFI_ok Tryz.func104 (by kernel_rfl)) <|
  all_cons (mkFI_ok Tryz.func106 (by kernel_rfl)) <|
  all_cons (mkFI_ok Tryz.func105 (by kernel_rfl)) <|
  all_cons (mkFI_ok Tryz.func107 (by kernel_rfl)) <|
  all_cons (mkFI_ok Tryz.func111 (by kernel_rfl)) <|
  all_cons (mkFI_ok Tryz.func112 (by kernel_rfl)) <|
  all_cons (mkFI_ok Tryz.func97 (by kernel_rfl)) <|
  all_cons (mkFI_ok Tryz.func79 (by kernel_rfl)) <|
  all_cons (mkFI_ok Tryz.func113 (by kernel_rfl)) <|
  all_cons (mkFI_ok Tryz.func114 (by kernel_rfl)) <|
  all_cons (mkFI_ok Tryz.func115 (by kernel_rfl)) <|
  all_cons (mkFI_ok Tryz.func117 (by kernel_rfl)) <|
  all_cons (mkFI_ok Tryz.func116 (by kernel_rfl)) <|
  all_cons (mkFI_ok Tryz.func108 (by kernel_rfl)) <|
  all_cons (mkFI_ok Tryz.func123 (by kernel_rfl)) <|
  all_cons (mkFI_ok Tryz.func124 (by kernel_rfl)) <|
  all_cons (mkFI_ok Tryz.func125 (by kernel_rfl)) <|
  all_cons (mkFI_ok Tryz.func131 (by kernel_rfl)) <| all_nil
noncomputable def r_laws_FnExactFits (a : List DC) : Out := Run cfg 3 ⟨.agg [.sl 86, .sl 86, .sl 89] :: .agg [.i .i64, .s, .sl 29, .sl 9] :: .agg [.s, .s] :: [], []⟩ a
noncomputable def r_laws_szSchema (a : List DC) : Out := Run cfg 4 ⟨.agg [.sl 86, .sl 86, .sl 89] :: oi :: [], []⟩ a
noncomputable def r_laws_szValue (a : List DC) : Out := Run cfg 5 ⟨.agg [.i .i64, .s, .sl 29, .sl 9] :: oi :: [], []⟩ a
noncomputable def r_laws_szType (a : List DC) : Out := Run cfg 6 ⟨.agg [.s, .s] :: oi :: [], []⟩ a
noncomputable def r_laws_toSchema (a : List DC) : Out := Run cfg 8 ⟨.agg [.sl 86, .sl 86, .sl 89] :: [], []⟩ a
noncomputable def r_laws_toValue (a : List DC) : Out := Run cfg 9 ⟨.agg [.i .i64, .s, .sl 29, .sl 9] :: [], []⟩ a
noncomputable def r_laws_toType (a : List DC) : Out := Run cfg 10 ⟨.agg [.s, .s] :: [], []⟩ a
noncomputable def r_spec_Fits (a : List DC) : Out := Run cfg 7 ⟨.agg [.sl 64, .sl 64, .sl 96] :: .agg [.i .i64, .s, .sl 43, .sl 9] :: .agg [.s, .s] :: [], []⟩ a
noncomputable def r_impl_Fits (a : List DC) : Out := Run cfg 11 ⟨.agg [.sl 64, .sl 64, .sl 96] :: .agg [.i .i64, .s, .sl 43, .sl 9] :: .agg [.s, .s] :: [], []⟩ a
noncomputable def r_laws_eqSchema (a : List DC) : Out := Run cfg 12 ⟨.agg [.sl 64, .sl 64, .sl 96] :: .agg [.sl 64, .sl 64, .sl 96] :: [], []⟩ a
noncomputable def r_laws_eqValue (a : List DC) : Out := Run cfg 13 ⟨.agg [.i .i64, .s, .sl 43, .sl 9] :: .agg [.i .i64, .s, .sl 43, .sl 9] :: [], []⟩ a
noncomputable def r_laws_szDefS (a : List DC) : Out := Run cfg 14 ⟨ol 86 :: oi :: [], []⟩ a
noncomputable def r_laws_szRootS (a : List DC) : Out := Run cfg 15 ⟨ol 89 :: oi :: [], []⟩ a
noncomputable def r_laws_szValueS (a : List DC) : Out := Run cfg 16 ⟨ol 29 :: oi :: [], []⟩ a
noncomputable def r_laws_szStringS (a : List DC) : Out := Run cfg 17 ⟨ol 9 :: oi :: [], []⟩ a
noncomputable def r_laws_toDefS (a : List DC) : Out := Run cfg 25 ⟨ol 86 :: [], []⟩ a
noncomputable def r_laws_toRootS (a : List DC) : Out := Run cfg 26 ⟨ol 89 :: [], []⟩ a
noncomputable def r_laws_toValueS (a : List DC) : Out := Run cfg 27 ⟨ol 29 :: [], []⟩ a
noncomputable def r_laws_toStringS (a : List DC) : Out := Run cfg 28 ⟨ol 9 :: [], []⟩ a
noncomputable def r_spec_Needed (a : List DC) : Out := Run cfg 18 ⟨.agg [.s, .s] :: [], []⟩ a
noncomputable def r_spec_Fewer (a : List DC) : Out := Run cfg 19 ⟨.agg [.s, .s] :: [], []⟩ a
noncomputable def r_spec_Inner (a : List DC) : Out := Run cfg 20 ⟨.agg [.s, .s] :: [], []⟩ a
noncomputable def r_spec_TypeAt (a : List DC) : Out := Run cfg 21 ⟨.agg [.sl 64, .sl 64, .sl 96] :: os :: [], []⟩ a
noncomputable def r_spec_BuiltIn (a : List DC) : Out := Run cfg 22 ⟨os :: [], []⟩ a
noncomputable def r_spec_l19Scalar (a : List DC) : Out := Run cfg 23 ⟨os :: .agg [.i .i64, .s, .sl 43, .sl 9] :: [], []⟩ a
noncomputable def r_spec_l19Input (a : List DC) : Out := Run cfg 24 ⟨.agg [.sl 64, .sl 64, .sl 96] :: ol 93 :: .agg [.i .i64, .s, .sl 43, .sl 9] :: [], []⟩ a
noncomputable def r_impl_isNull (a : List DC) : Out := Run cfg 29 ⟨.agg [.i .i64, .s, .sl 43, .sl 9] :: [], []⟩ a
noncomputable def r_impl_Needed (a : List DC) : Out := Run cfg 30 ⟨.agg [.s, .s] :: [], []⟩ a
noncomputable def r_impl_Fewer (a : List DC) : Out := Run cfg 31 ⟨.agg [.s, .s] :: [], []⟩ a
noncomputable def r_strings_HasSuffix (a : List DC) : Out := Run cfg 32 ⟨os :: os :: [], []⟩ a
noncomputable def r_impl_Inner (a : List DC) : Out := Run cfg 33 ⟨.agg [.s, .s] :: [], []⟩ a
noncomputable def r_slices_ContainsFunc_impl_Value__impl_Fits_1 (a : List DC) : Out := Run cfg 34 ⟨ol 43 :: .one (.fn 35 [0, 1]) :: [], .var 39 [.sl 64, .sl 64, .sl 96] :: .var 45 [.s, .s] :: []⟩ a
noncomputable def r_impl_fitsName (a : List DC) : Out := Run cfg 36 ⟨.agg [.sl 64, .sl 64, .sl 96] :: .agg [.i .i64, .s, .sl 43, .sl 9] :: os :: [], []⟩ a
noncomputable def r_laws_eqDefS (a : List DC) : Out := Run cfg 37 ⟨ol 64 :: ol 64 :: [], []⟩ a
noncomputable def r_laws_eqRootS (a : List DC) : Out := Run cfg 38 ⟨ol 96 :: ol 96 :: [], []⟩ a
noncomputable def r_laws_eqValueS (a : List DC) : Out := Run cfg 39 ⟨ol 43 :: ol 43 :: [], []⟩ a
noncomputable def r_laws_eqStringS (a : List DC) : Out := Run cfg 40 ⟨ol 9 :: ol 9 :: [], []⟩ a
noncomputable def r_laws_szDef (a : List DC) : Out := Run cfg 41 ⟨.agg [.i .i64, .b, .s, .s, .sl 9, .sl 126, .sl 129, .sl 132, .sl 89, .b, .sl 136] :: oi :: [], []⟩ a
noncomputable def r_laws_szRoot (a : List DC) : Out := Run cfg 42 ⟨.agg [.i .i64, .s] :: oi :: [], []⟩ a
noncomputable def r_laws_toDef (a : List DC) : Out := Run cfg 47 ⟨.agg [.i .i64, .b, .s, .s, .sl 9, .sl 126, .sl 129, .sl 132, .sl 89, .b, .sl 136] :: [], []⟩ a
noncomputable def r_laws_toRoot (a : List DC) : Out := Run cfg 48 ⟨.agg [.i .i64, .s] :: [], []⟩ a
noncomputable def r_spec_Fits32 (a : List DC) : Out := Run cfg 43 ⟨os :: [], []⟩ a
noncomputable def r_spec_InAt (a : List DC) : Out := Run cfg 44 ⟨ol 93 :: os :: [], []⟩ a
noncomputable def r_spec_l18Has (a : List DC) : Out := Run cfg 45 ⟨ol 9 :: os :: [], []⟩ a
noncomputable def r_spec_RequiredIn (a : List DC) : Out := Run cfg 46 ⟨ol 93 :: [], []⟩ a
noncomputable def r_strings_TrimSuffix (a : List DC) : Out := Run cfg 49 ⟨os :: os :: [], []⟩ a
noncomputable def r_internal_stringslite_HasSuffix (a : List DC) : Out := Run cfg 50 ⟨os :: os :: [], []⟩ a
noncomputable def r_strings_CutSuffix (a : List DC) : Out := Run cfg 51 ⟨os :: os :: [], []⟩ a
noncomputable def r_slices_IndexFunc_impl_Value__impl_Fits_1 (a : List DC) : Out := Run cfg 52 ⟨ol 43 :: .one (.fn 35 [0, 1]) :: [], .var 39 [.sl 64, .sl 64, .sl 96] :: .var 45 [.s, .s] :: []⟩ a
noncomputable def r_impl_typeDef (a : List DC) : Out := Run cfg 53 ⟨.agg [.sl 64, .sl 64, .sl 96] :: os :: [], []⟩ a
noncomputable def r_impl_BuiltIn (a : List DC) : Out := Run cfg 54 ⟨os :: [], []⟩ a
noncomputable def r_impl_fitsBuiltIn (a : List DC) : Out := Run cfg 55 ⟨.agg [.i .i64, .s, .sl 43, .sl 9] :: os :: [], []⟩ a
noncomputable def r_slices_ContainsFunc_impl_EnumDef__impl_fitsName_1 (a : List DC) : Out := Run cfg 56 ⟨ol 66 :: .one (.fn 57 [0]) :: [], .var 43 [.i .i64, .s, .sl 43, .sl 9] :: []⟩ a
noncomputable def r_impl_fitsInput (a : List DC) : Out := Run cfg 58 ⟨.agg [.sl 64, .sl 64, .sl 96] :: .agg [.i .i64, .s, .sl 43, .sl 9] :: .agg [.i .i64, .b, .s, .s, .sl 9, .sl 139, .sl 93, .sl 66, .sl 96, .b, .sl 145] :: [], []⟩ a
noncomputable def r_laws_eqDef (a : List DC) : Out := Run cfg 59 ⟨.agg [.i .i64, .b, .s, .s, .sl 9, .sl 139, .sl 93, .sl 66, .sl 96, .b, .sl 145] :: .agg [.i .i64, .b, .s, .s, .sl 9, .sl 139, .sl 93, .sl 66, .sl 96, .b, .sl 145] :: [], []⟩ a
noncomputable def r_laws_eqRoot (a : List DC) : Out := Run cfg 60 ⟨.agg [.i .i64, .s] :: .agg [.i .i64, .s] :: [], []⟩ a
noncomputable def r_laws_szFieldDefS (a : List DC) : Out := Run cfg 61 ⟨ol 126 :: oi :: [], []⟩ a
noncomputable def r_laws_szInDefS (a : List DC) : Out := Run cfg 62 ⟨ol 129 :: oi :: [], []⟩ a
noncomputable def r_laws_szEnumDefS (a : List DC) : Out := Run cfg 63 ⟨ol 132 :: oi :: [], []⟩ a
noncomputable def r_laws_szDirS (a : List DC) : Out := Run cfg 64 ⟨ol 136 :: oi :: [], []⟩ a
noncomputable def r_laws_toFieldDefS (a : List DC) : Out := Run cfg 66 ⟨ol 126 :: [], []⟩ a
noncomputable def r_laws_toInDefS (a : List DC) : Out := Run cfg 67 ⟨ol 129 :: [], []⟩ a
noncomputable def r_laws_toEnumDefS (a : List DC) : Out := Run cfg 68 ⟨ol 132 :: [], []⟩ a
noncomputable def r_laws_toDirS (a : List DC) : Out := Run cfg 69 ⟨ol 136 :: [], []⟩ a
noncomputable def r_spec_IntOk (a : List DC) : Out := Run cfg 65 ⟨os :: [], []⟩ a
noncomputable def r_internal_stringslite_TrimSuffix (a : List DC) : Out := Run cfg 70 ⟨os :: os :: [], []⟩ a
noncomputable def r_internal_stringslite_CutSuffix (a : List DC) : Out := Run cfg 71 ⟨os :: os :: [], []⟩ a
noncomputable def r_impl_Fits_1 (a : List DC) : Out := Run cfg 35 ⟨.agg [.i .i64, .s, .sl 43, .sl 9] :: .one (.ptr 0 0) :: .one (.ptr 1 0) :: [], .var 39 [.sl 64, .sl 64, .sl 96] :: .var 45 [.s, .s] :: []⟩ a
noncomputable def r_impl_TypeAt (a : List DC) : Out := Run cfg 72 ⟨.agg [.sl 64, .sl 64, .sl 96] :: os :: [], []⟩ a
noncomputable def r_impl_Fits32 (a : List DC) : Out := Run cfg 73 ⟨os :: [], []⟩ a
noncomputable def r_slices_IndexFunc_impl_EnumDef__impl_fitsName_1 (a : List DC) : Out := Run cfg 74 ⟨ol 66 :: .one (.fn 57 [0]) :: [], .var 43 [.i .i64, .s, .sl 43, .sl 9] :: []⟩ a
noncomputable def r_impl_InAt (a : List DC) : Out := Run cfg 75 ⟨ol 93 :: os :: [], []⟩ a
noncomputable def r_slices_Contains_string (a : List DC) : Out := Run cfg 76 ⟨ol 9 :: os :: [], []⟩ a
noncomputable def r_impl_RequiredIn (a : List DC) : Out := Run cfg 78 ⟨ol 93 :: [], []⟩ a
noncomputable def r_slices_ContainsFunc_string__impl_fitsInput_1 (a : List DC) : Out := Run cfg 77 ⟨ol 9 :: .one (.fn 79 [0]) :: [], .var 43 [.i .i64, .s, .sl 43, .sl 9] :: []⟩ a
noncomputable def r_laws_eqFieldDefS (a : List DC) : Out := Run cfg 80 ⟨ol 139 :: ol 139 :: [], []⟩ a
noncomputable def r_laws_eqInDefS (a : List DC) : Out := Run cfg 81 ⟨ol 93 :: ol 93 :: [], []⟩ a
noncomputable def r_laws_eqEnumDefS (a : List DC) : Out := Run cfg 82 ⟨ol 66 :: ol 66 :: [], []⟩ a
noncomputable def r_laws_eqDirS (a : List DC) : Out := Run cfg 83 ⟨ol 145 :: ol 145 :: [], []⟩ a
noncomputable def r_laws_szFieldDef (a : List DC) : Out := Run cfg 84 ⟨.agg [.s, .s, .sl 129, .s, .s, .sl 136] :: oi :: [], []⟩ a
noncomputable def r_laws_szInDef (a : List DC) : Out := Run cfg 85 ⟨.agg [.s, .s, .s, .s, .b, .i .i64, .s, .sl 29, .sl 9, .sl 136] :: oi :: [], []⟩ a
noncomputable def r_laws_szEnumDef (a : List DC) : Out := Run cfg 86 ⟨.agg [.s, .s, .sl 136] :: oi :: [], []⟩ a
noncomputable def r_laws_szDir (a : List DC) : Out := Run cfg 87 ⟨.agg [.s, .sl 170] :: oi :: [], []⟩ a
noncomputable def r_laws_toFieldDef (a : List DC) : Out := Run cfg 89 ⟨.agg [.s, .s, .sl 129, .s, .s, .sl 136] :: [], []⟩ a
noncomputable def r_laws_toInDef (a : List DC) : Out := Run cfg 90 ⟨.agg [.s, .s, .s, .s, .b, .i .i64, .s, .sl 29, .sl 9, .sl 136] :: [], []⟩ a
noncomputable def r_laws_toEnumDef (a : List DC) : Out := Run cfg 91 ⟨.agg [.s, .s, .sl 136] :: [], []⟩ a
noncomputable def r_laws_toDir (a : List DC) : Out := Run cfg 92 ⟨.agg [.s, .sl 170] :: [], []⟩ a
noncomputable def r_spec_l03Int (a : List DC) : Out := Run cfg 88 ⟨os :: [], []⟩ a
noncomputable def r_impl_named (a : List DC) : Out := Run cfg 93 ⟨ol 64 :: os :: [], []⟩ a
noncomputable def r_impl_IntOk (a : List DC) : Out := Run cfg 95 ⟨os :: [], []⟩ a
noncomputable def r_impl_fitsName_1 (a : List DC) : Out := Run cfg 57 ⟨.agg [.s, .s, .sl 145] :: .one (.ptr 0 0) :: [], .var 43 [.i .i64, .s, .sl 43, .sl 9] :: []⟩ a
noncomputable def r_slices_IndexFunc_impl_InDef__impl_InAt_1 (a : List DC) : Out := Run cfg 96 ⟨ol 93 :: .one (.fn 97 [0]) :: [], .var 9 [.s] :: []⟩ a
noncomputable def r_slices_Index_string (a : List DC) : Out := Run cfg 98 ⟨ol 9 :: os :: [], []⟩ a
noncomputable def r_slices_IndexFunc_string__impl_fitsInput_1 (a : List DC) : Out := Run cfg 99 ⟨ol 9 :: .one (.fn 79 [0]) :: [], .var 43 [.i .i64, .s, .sl 43, .sl 9] :: []⟩ a
noncomputable def r_laws_eqFieldDef (a : List DC) : Out := Run cfg 100 ⟨.agg [.s, .s, .sl 93, .s, .s, .sl 145] :: .agg [.s, .s, .sl 93, .s, .s, .sl 145] :: [], []⟩ a
noncomputable def r_laws_eqInDef (a : List DC) : Out := Run cfg 101 ⟨.agg [.s, .s, .s, .s, .b, .i .i64, .s, .sl 43, .sl 9, .sl 145] :: .agg [.s, .s, .s, .s, .b, .i .i64, .s, .sl 43, .sl 9, .sl 145] :: [], []⟩ a
noncomputable def r_laws_eqEnumDef (a : List DC) : Out := Run cfg 102 ⟨.agg [.s, .s, .sl 145] :: .agg [.s, .s, .sl 145] :: [], []⟩ a
noncomputable def r_laws_eqDir (a : List DC) : Out := Run cfg 103 ⟨.agg [.s, .sl 173] :: .agg [.s, .sl 173] :: [], []⟩ a
noncomputable def r_laws_szArgS (a : List DC) : Out := Run cfg 104 ⟨ol 170 :: oi :: [], []⟩ a
noncomputable def r_laws_toArgS (a : List DC) : Out := Run cfg 106 ⟨ol 170 :: [], []⟩ a
noncomputable def r_spec_l03Run (a : List DC) : Out := Run cfg 105 ⟨os :: oi :: [], []⟩ a
noncomputable def r_slices_IndexFunc_impl_Def__impl_named_1 (a : List DC) : Out := Run cfg 107 ⟨ol 64 :: .one (.fn 108 [0]) :: [], .var 9 [.s] :: []⟩ a
noncomputable def r_strings_TrimPrefix (a : List DC) : Out := Run cfg 111 ⟨os :: os :: [], []⟩ a
noncomputable def r_impl_figures (a : List DC) : Out := Run cfg 112 ⟨os :: [], []⟩ a
noncomputable def r_impl_InAt_1 (a : List DC) : Out := Run cfg 97 ⟨.agg [.s, .s, .s, .s, .b, .i .i64, .s, .sl 43, .sl 9, .sl 145] :: .one (.ptr 0 0) :: [], .var 9 [.s] :: []⟩ a
noncomputable def r_impl_fitsInput_1 (a : List DC) : Out := Run cfg 79 ⟨os :: .one (.ptr 0 0) :: [], .var 43 [.i .i64, .s, .sl 43, .sl 9] :: []⟩ a
noncomputable def r_laws_eqType (a : List DC) : Out := Run cfg 113 ⟨.agg [.s, .s] :: .agg [.s, .s] :: [], []⟩ a
noncomputable def r_laws_eqArgS (a : List DC) : Out := Run cfg 114 ⟨ol 173 :: ol 173 :: [], []⟩ a
noncomputable def r_laws_szArg (a : List DC) : Out := Run cfg 115 ⟨.agg [.s, .i .i64, .s, .sl 29, .sl 9] :: oi :: [], []⟩ a
noncomputable def r_laws_toArg (a : List DC) : Out := Run cfg 117 ⟨.agg [.s, .i .i64, .s, .sl 29, .sl 9] :: [], []⟩ a
noncomputable def r_spec_l03Figure (a : List DC) : Out := Run cfg 116 ⟨.one (.i .u8) :: [], []⟩ a
noncomputable def r_impl_named_1 (a : List DC) : Out := Run cfg 108 ⟨.agg [.i .i64, .b, .s, .s, .sl 9, .sl 139, .sl 93, .sl 66, .sl 96, .b, .sl 145] :: .one (.ptr 0 0) :: [], .var 9 [.s] :: []⟩ a
noncomputable def r_internal_stringslite_TrimPrefix (a : List DC) : Out := Run cfg 123 ⟨os :: os :: [], []⟩ a
noncomputable def r_impl_isFigure (a : List DC) : Out := Run cfg 124 ⟨.one (.i .u8) :: [], []⟩ a
noncomputable def r_laws_eqArg (a : List DC) : Out := Run cfg 125 ⟨.agg [.s, .i .i64, .s, .sl 43, .sl 9] :: .agg [.s, .i .i64, .s, .sl 43, .sl 9] :: [], []⟩ a
noncomputable def r_internal_stringslite_HasPrefix (a : List DC) : Out := Run cfg 131 ⟨os :: os :: [], []⟩ a
noncomputable def E_laws_FnExactFits (a : List DC) : Out :=
 (r_laws_szSchema [.sl ((a.getD 0 d0).ll), .sl ((a.getD 1 d0).ll), .sl ((a.getD 2 d0).ll), .i (1048576 : Int)]).bindR fun r1 =>
 if (decide ((r1.getD 0 d0).ii < (0 : Int))) = true then
 .ret [.b true]
 else
 (r_laws_szValue [.i ((a.getD 3 d0).ii), .s ((a.getD 4 d0).ss), .sl ((a.getD 5 d0).ll), .sl ((a.getD 6 d0).ll), .i ((r1.getD 0 d0).ii)]).bindR fun r2 =>
 if (decide ((r2.getD 0 d0).ii < (0 : Int))) = true then
 .ret [.b true]
 else
 (r_laws_szType [.s ((a.getD 7 d0).ss), .s ((a.getD 8 d0).ss), .i ((r2.getD 0 d0).ii)]).bindR fun r3 =>
 if (decide ((r3.getD 0 d0).ii < (0 : Int))) = true then
 .ret [.b true]
 else
 (r_laws_toSchema [.sl ((a.getD 0 d0).ll), .sl ((a.getD 1 d0).ll), .sl ((a.getD 2 d0).ll)]).bindR fun r4 =>
 (r_laws_toValue [.i ((a.getD 3 d0).ii), .s ((a.getD 4 d0).ss), .sl ((a.getD 5 d0).ll), .sl ((a.getD 6 d0).ll)]).bindR fun r5 =>
 (r_laws_toType [.s ((a.getD 7 d0).ss), .s ((a.getD 8 d0).ss)]).bindR fun r6 =>
 (r_spec_Fits [.sl ((r4.getD 0 d0).ll), .sl ((r4.getD 1 d0).ll), .sl ((r4.getD 2 d0).ll), .i ((r5.getD 0 d0).ii), .s ((r5.getD 1 d0).ss), .sl ((r5.getD 2 d0).ll), .sl ((r5.getD 3 d0).ll), .s ((r6.getD 0 d0).ss), .s ((r6.getD 1 d0).ss)]).bindR fun r7 =>
 (r_laws_toSchema [.sl ((a.getD 0 d0).ll), .sl ((a.getD 1 d0).ll), .sl ((a.getD 2 d0).ll)]).bindR fun r8 =>
 (r_laws_toValue [.i ((a.getD 3 d0).ii), .s ((a.getD 4 d0).ss), .sl ((a.getD 5 d0).ll), .sl ((a.getD 6 d0).ll)]).bindR fun r9 =>
 (r_laws_toType [.s ((a.getD 7 d0).ss), .s ((a.getD 8 d0).ss)]).bindR fun r10 =>
 (r_impl_Fits [.sl ((r8.getD 0 d0).ll), .sl ((r8.getD 1 d0).ll), .sl ((r8.getD 2 d0).ll), .i ((r9.getD 0 d0).ii), .s ((r9.getD 1 d0).ss), .sl ((r9.getD 2 d0).ll), .sl ((r9.getD 3 d0).ll), .s ((r10.getD 0 d0).ss), .s ((r10.getD 1 d0).ss)]).bindR fun r11 =>
 if (!((r11.getD 0 d0).bb == (r7.getD 0 d0).bb)) = true then
 .ret [.b false]
 else
 (r_laws_toSchema [.sl ((a.getD 0 d0).ll), .sl ((a.getD 1 d0).ll), .sl ((a.getD 2 d0).ll)]).bindR fun r12 =>
 (r_laws_eqSchema [.sl ((r8.getD 0 d0).ll), .sl ((r8.getD 1 d0).ll), .sl ((r8.getD 2 d0).ll), .sl ((r12.getD 0 d0).ll), .sl ((r12.getD 1 d0).ll), .sl ((r12.getD 2 d0).ll)]).bindR fun r13 =>
 if (!((r13.getD 0 d0).bb)) = true then
 .ret [.b false]
 else
 (r_laws_toValue [.i ((a.getD 3 d0).ii), .s ((a.getD 4 d0).ss), .sl ((a.getD 5 d0).ll), .sl ((a.getD 6 d0).ll)]).bindR fun r14 =>
 (r_laws_eqValue [.i ((r9.getD 0 d0).ii), .s ((r9.getD 1 d0).ss), .sl ((r9.getD 2 d0).ll), .sl ((r9.getD 3 d0).ll), .i ((r14.getD 0 d0).ii), .s ((r14.getD 1 d0).ss), .sl ((r14.getD 2 d0).ll), .sl ((r14.getD 3 d0).ll)]).bindR fun r15 =>
 if (!((r15.getD 0 d0).bb)) = true then
 .ret [.b false]
 else
 .ret [.b true]
theorem eq_laws_FnExactFits a : r_laws_FnExactFits a = E_laws_FnExactFits a := (Run_eq cfg 3 _ a).trans (by kernel_rfl)
noncomputable def E_laws_szSchema (a : List DC) : Out :=
 (r_laws_szDefS [.sl ((a.getD 0 d0).ll), .i ((a.getD 3 d0).ii)]).bindR fun r1 =>
 if (decide ((r1.getD 0 d0).ii < (0 : Int))) = true then
 .ret [.i (-1 : Int)]
 else
 (r_laws_szDefS [.sl ((a.getD 1 d0).ll), .i ((r1.getD 0 d0).ii)]).bindR fun r2 =>
 if (decide ((r2.getD 0 d0).ii < (0 : Int))) = true then
 .ret [.i (-1 : Int)]
 else
 (r_laws_szRootS [.sl ((a.getD 2 d0).ll), .i ((r2.getD 0 d0).ii)]).bindR fun r3 =>
 if (decide ((r3.getD 0 d0).ii < (0 : Int))) = true then
 .ret [.i (-1 : Int)]
 else
 .ret [.i ((r3.getD 0 d0).ii)]
theorem eq_laws_szSchema a : r_laws_szSchema a = E_laws_szSchema a := (Run_eq cfg 4 _ a).trans (by kernel_rfl)
noncomputable def E_laws_szValue (a : List DC) : Out :=
 if (decide ((IntKind.i64.wrap ((a.getD 4 d0).ii - (((a.getD 1 d0).ss).length : Int))) < (0 : Int))) = true then
 .ret [.i (-1 : Int)]
 else
 (r_laws_szValueS [.sl ((a.getD 2 d0).ll), .i (IntKind.i64.wrap ((a.getD 4 d0).ii - (((a.getD 1 d0).ss).length : Int)))]).bindR fun r1 =>
 if (decide ((r1.getD 0 d0).ii < (0 : Int))) = true then
 .ret [.i (-1 : Int)]
 else
 (r_laws_szStringS [.sl ((a.getD 3 d0).ll), .i ((r1.getD 0 d0).ii)]).bindR fun r2 =>
 if (decide ((r2.getD 0 d0).ii < (0 : Int))) = true then
 .ret [.i (-1 : Int)]
 else
 .ret [.i ((r2.getD 0 d0).ii)]
theorem eq_laws_szValue a : r_laws_szValue a = E_laws_szValue a := (Run_eq cfg 5 _ a).trans (by kernel_rfl)
noncomputable def E_laws_szType (a : List DC) : Out :=
 if (decide ((IntKind.i64.wrap ((a.getD 2 d0).ii - (((a.getD 0 d0).ss).length : Int))) < (0 : Int))) = true then
 .ret [.i (-1 : Int)]
 else
 if (decide ((IntKind.i64.wrap ((IntKind.i64.wrap ((a.getD 2 d0).ii - (((a.getD 0 d0).ss).length : Int))) - (((a.getD 1 d0).ss).length : Int))) < (0 : Int))) = true then
 .ret [.i (-1 : Int)]
 else
 .ret [.i (IntKind.i64.wrap ((IntKind.i64.wrap ((a.getD 2 d0).ii - (((a.getD 0 d0).ss).length : Int))) - (((a.getD 1 d0).ss).length : Int)))]
theorem eq_laws_szType a : r_laws_szType a = E_laws_szType a := (Run_eq cfg 6 _ a).trans (by kernel_rfl)
noncomputable def E_laws_toSchema (a : List DC) : Out :=
 (r_laws_toDefS [.sl ((a.getD 0 d0).ll)]).bindR fun r1 =>
 (r_laws_toDefS [.sl ((a.getD 1 d0).ll)]).bindR fun r2 =>
 (r_laws_toRootS [.sl ((a.getD 2 d0).ll)]).bindR fun r3 =>
 .ret [.sl ((r1.getD 0 d0).ll), .sl ((r2.getD 0 d0).ll), .sl ((r3.getD 0 d0).ll)]
theorem eq_laws_toSchema a : r_laws_toSchema a = E_laws_toSchema a := (Run_eq cfg 8 _ a).trans (by kernel_rfl)
noncomputable def E_laws_toValue (a : List DC) : Out :=
 (r_laws_toValueS [.sl ((a.getD 2 d0).ll)]).bindR fun r1 =>
 (r_laws_toStringS [.sl ((a.getD 3 d0).ll)]).bindR fun r2 =>
 .ret [.i ((a.getD 0 d0).ii), .s ((a.getD 1 d0).ss), .sl ((r1.getD 0 d0).ll), .sl ((r2.getD 0 d0).ll)]
theorem eq_laws_toValue a : r_laws_toValue a = E_laws_toValue a := (Run_eq cfg 9 _ a).trans (by kernel_rfl)
noncomputable def E_laws_toType (a : List DC) : Out :=
 .ret [.s ((a.getD 0 d0).ss), .s ((a.getD 1 d0).ss)]
theorem eq_laws_toType a : r_laws_toType a = E_laws_toType a := (Run_eq cfg 10 _ a).trans (by kernel_rfl)
noncomputable def E_spec_FitsL1 : List DC → Out := fun v7 =>
 if (decide ((v7.getD 0 d0).ii < (((v7.getD 6 d0).ll).length : Int))) = true then
 Out.andThenB (if 43 = 43 ∧ 0 ≤ (v7.getD 0 d0).ii ∧ (v7.getD 0 d0).ii < (((v7.getD 6 d0).ll).length : Int) then
 (r_spec_Fits [.sl ((v7.getD 1 d0).ll), .sl ((v7.getD 2 d0).ll), .sl ((v7.getD 3 d0).ll), .i (((((v7.getD 6 d0).ll).getD ((v7.getD 0 d0).ii).toNat []).getD 0 d0).ii), .s (((((v7.getD 6 d0).ll).getD ((v7.getD 0 d0).ii).toNat []).getD 1 d0).ss), .sl (((((v7.getD 6 d0).ll).getD ((v7.getD 0 d0).ii).toNat []).getD 2 d0).ll), .sl (((((v7.getD 6 d0).ll).getD ((v7.getD 0 d0).ii).toNat []).getD 3 d0).ll), .s ((v7.getD 8 d0).ss), .s ((v7.getD 9 d0).ss)]).bindR fun r8 =>
 if (!((r8.getD 0 d0).bb)) = true then
 .ret [.b false]
 else
 .norm [.i ((v7.getD 0 d0).ii), .sl ((v7.getD 1 d0).ll), .sl ((v7.getD 2 d0).ll), .sl ((v7.getD 3 d0).ll), .i ((v7.getD 4 d0).ii), .s ((v7.getD 5 d0).ss), .sl ((v7.getD 6 d0).ll), .sl ((v7.getD 7 d0).ll), .s ((v7.getD 8 d0).ss), .s ((v7.getD 9 d0).ss)]
 else
 .fail) 1 fun v9 =>
 .norm [.i (IntKind.i64.wrap ((v9.getD 0 d0).ii + (1 : Int))), .sl ((v9.getD 1 d0).ll), .sl ((v9.getD 2 d0).ll), .sl ((v9.getD 3 d0).ll), .i ((v9.getD 4 d0).ii), .s ((v9.getD 5 d0).ss), .sl ((v9.getD 6 d0).ll), .sl ((v9.getD 7 d0).ll), .s ((v9.getD 8 d0).ss), .s ((v9.getD 9 d0).ss)]
 else
 .ex 0 []
noncomputable def E_spec_FitsL2 : List DC → Out := fun v15 =>
 if (decide ((v15.getD 0 d0).ii < (((v15.getD 12 d0).ll).length : Int))) = true then
 Out.andThenB (Out.andThen (if ((v15.getD 1 d0).ii == (6 : Int)) = true then
 if 66 = 66 ∧ 0 ≤ (v15.getD 0 d0).ii ∧ (v15.getD 0 d0).ii < (((v15.getD 12 d0).ll).length : Int) then
 .norm [.i ((v15.getD 0 d0).ii), .b (((((v15.getD 12 d0).ll).getD ((v15.getD 0 d0).ii).toNat []).getD 0 d0).ss == (v15.getD 2 d0).ss), .i ((v15.getD 1 d0).ii), .s ((v15.getD 2 d0).ss), .sl ((v15.getD 3 d0).ll), .sl ((v15.getD 4 d0).ll), .i ((v15.getD 5 d0).ii), .b ((v15.getD 6 d0).bb), .s ((v15.getD 7 d0).ss), .s ((v15.getD 8 d0).ss), .sl ((v15.getD 9 d0).ll), .sl ((v15.getD 10 d0).ll), .sl ((v15.getD 11 d0).ll), .sl ((v15.getD 12 d0).ll), .sl ((v15.getD 13 d0).ll), .b ((v15.getD 14 d0).bb), .sl ((v15.getD 15 d0).ll)]
 else
 .fail
 else
 .norm [.i ((v15.getD 0 d0).ii), .b false, .i ((v15.getD 1 d0).ii), .s ((v15.getD 2 d0).ss), .sl ((v15.getD 3 d0).ll), .sl ((v15.getD 4 d0).ll), .i ((v15.getD 5 d0).ii), .b ((v15.getD 6 d0).bb), .s ((v15.getD 7 d0).ss), .s ((v15.getD 8 d0).ss), .sl ((v15.getD 9 d0).ll), .sl ((v15.getD 10 d0).ll), .sl ((v15.getD 11 d0).ll), .sl ((v15.getD 12 d0).ll), .sl ((v15.getD 13 d0).ll), .b ((v15.getD 14 d0).bb), .sl ((v15.getD 15 d0).ll)]) fun v16 =>
 if (v16.getD 1 d0).bb = true then
 .ret [.b true]
 else
 .norm [.i ((v16.getD 0 d0).ii), .i ((v16.getD 2 d0).ii), .s ((v16.getD 3 d0).ss), .sl ((v16.getD 4 d0).ll), .sl ((v16.getD 5 d0).ll), .i ((v16.getD 6 d0).ii), .b ((v16.getD 7 d0).bb), .s ((v16.getD 8 d0).ss), .s ((v16.getD 9 d0).ss), .sl ((v16.getD 10 d0).ll), .sl ((v16.getD 11 d0).ll), .sl ((v16.getD 12 d0).ll), .sl ((v16.getD 13 d0).ll), .sl ((v16.getD 14 d0).ll), .b ((v16.getD 15 d0).bb), .sl ((v16.getD 16 d0).ll)]) 4 fun v17 =>
 .norm [.i (IntKind.i64.wrap ((v17.getD 0 d0).ii + (1 : Int))), .i ((v17.getD 1 d0).ii), .s ((v17.getD 2 d0).ss), .sl ((v17.getD 3 d0).ll), .sl ((v17.getD 4 d0).ll), .i ((v17.getD 5 d0).ii), .b ((v17.getD 6 d0).bb), .s ((v17.getD 7 d0).ss), .s ((v17.getD 8 d0).ss), .sl ((v17.getD 9 d0).ll), .sl ((v17.getD 10 d0).ll), .sl ((v17.getD 11 d0).ll), .sl ((v17.getD 12 d0).ll), .sl ((v17.getD 13 d0).ll), .b ((v17.getD 14 d0).bb), .sl ((v17.getD 15 d0).ll)]
 else
 .ex 3 []
noncomputable def E_spec_Fits (a : List DC) : Out :=
 if ((a.getD 3 d0).ii == (1 : Int)) = true then
 .ret [.b true]
 else
 Out.andThen (if ((a.getD 3 d0).ii == (5 : Int)) = true then
 .norm [.b ((a.getD 4 d0).ss == ([110, 117, 108, 108] : List UInt8)), .sl ((a.getD 0 d0).ll), .sl ((a.getD 1 d0).ll), .sl ((a.getD 2 d0).ll), .i ((a.getD 3 d0).ii), .s ((a.getD 4 d0).ss), .sl ((a.getD 5 d0).ll), .sl ((a.getD 6 d0).ll), .s ((a.getD 7 d0).ss), .s ((a.getD 8 d0).ss)]
 else
 .norm [.b false, .sl ((a.getD 0 d0).ll), .sl ((a.getD 1 d0).ll), .sl ((a.getD 2 d0).ll), .i ((a.getD 3 d0).ii), .s ((a.getD 4 d0).ss), .sl ((a.getD 5 d0).ll), .sl ((a.getD 6 d0).ll), .s ((a.getD 7 d0).ss), .s ((a.getD 8 d0).ss)]) fun v1 =>
 if (v1.getD 0 d0).bb = true then
 (r_spec_Needed [.s ((v1.getD 8 d0).ss), .s ((v1.getD 9 d0).ss)]).bindR fun r2 =>
 .ret [.b (!((r2.getD 0 d0).bb))]
 else
 (r_spec_Fewer [.s ((v1.getD 8 d0).ss), .s ((v1.getD 9 d0).ss)]).bindR fun r3 =>
 Out.andThen (if (decide ((((r3.getD 1 d0).ss).length : Int) > (0 : Int))) = true then
 if 0 ≤ (IntKind.i64.wrap ((((r3.getD 1 d0).ss).length : Int) - (1 : Int))) ∧ (IntKind.i64.wrap ((((r3.getD 1 d0).ss).length : Int) - (1 : Int))) < (((r3.getD 1 d0).ss).length : Int) then
 .norm [.b (((((r3.getD 1 d0).ss).getD (IntKind.i64.wrap ((((r3.getD 1 d0).ss).length : Int) - (1 : Int))).toNat 0).toNat : Int) == (93 : Int)), .sl ((v1.getD 1 d0).ll), .sl ((v1.getD 2 d0).ll), .sl ((v1.getD 3 d0).ll), .i ((v1.getD 4 d0).ii), .s ((v1.getD 5 d0).ss), .sl ((v1.getD 6 d0).ll), .sl ((v1.getD 7 d0).ll), .s ((r3.getD 0 d0).ss), .s ((r3.getD 1 d0).ss)]
 else
 .fail
 else
 .norm [.b false, .sl ((v1.getD 1 d0).ll), .sl ((v1.getD 2 d0).ll), .sl ((v1.getD 3 d0).ll), .i ((v1.getD 4 d0).ii), .s ((v1.getD 5 d0).ss), .sl ((v1.getD 6 d0).ll), .sl ((v1.getD 7 d0).ll), .s ((r3.getD 0 d0).ss), .s ((r3.getD 1 d0).ss)]) fun v4 =>
 if (v4.getD 0 d0).bb = true then
 (r_spec_Inner [.s ((v4.getD 8 d0).ss), .s ((v4.getD 9 d0).ss)]).bindR fun r5 =>
 if ((v4.getD 4 d0).ii != (7 : Int)) = true then
 (r_spec_Fits [.sl ((v4.getD 1 d0).ll), .sl ((v4.getD 2 d0).ll), .sl ((v4.getD 3 d0).ll), .i ((v4.getD 4 d0).ii), .s ((v4.getD 5 d0).ss), .sl ((v4.getD 6 d0).ll), .sl ((v4.getD 7 d0).ll), .s ((r5.getD 0 d0).ss), .s ((r5.getD 1 d0).ss)]).bindR fun r6 =>
 .ret [.b ((r6.getD 0 d0).bb)]
 else
 Out.andThenB (Loop E_spec_FitsL1 [.i (0 : Int), .sl ((v4.getD 1 d0).ll), .sl ((v4.getD 2 d0).ll), .sl ((v4.getD 3 d0).ll), .i ((v4.getD 4 d0).ii), .s ((v4.getD 5 d0).ss), .sl ((v4.getD 6 d0).ll), .sl ((v4.getD 7 d0).ll), .s ((r5.getD 0 d0).ss), .s ((r5.getD 1 d0).ss)]) 0 fun v10 =>
 .ret [.b true]
 else
 if (decide ((((v4.getD 9 d0).ss).length : Int) > (0 : Int))) = true then
 .ret [.b false]
 else
 (r_spec_TypeAt [.sl ((v4.getD 1 d0).ll), .sl ((v4.getD 2 d0).ll), .sl ((v4.getD 3 d0).ll), .s ((v4.getD 8 d0).ss)]).bindR fun r11 =>
 if (decide ((r11.getD 0 d0).ii < (0 : Int))) = true then
 Out.andThen ((r_spec_BuiltIn [.s ((v4.getD 8 d0).ss)]).bindR fun r12 =>
 if (r12.getD 0 d0).bb = true then
 (r_spec_l19Scalar [.s ((v4.getD 8 d0).ss), .i ((v4.getD 4 d0).ii), .s ((v4.getD 5 d0).ss), .sl ((v4.getD 6 d0).ll), .sl ((v4.getD 7 d0).ll)]).bindR fun r13 =>
 .norm [.b ((r13.getD 0 d0).bb)]
 else
 .norm [.b false]) fun v14 =>
 .ret [.b ((v14.getD 0 d0).bb)]
 else
 if 64 = 64 ∧ 0 ≤ (r11.getD 0 d0).ii ∧ (r11.getD 0 d0).ii < (((v4.getD 1 d0).ll).length : Int) then
 Out.andThenB (if (((((v4.getD 1 d0).ll).getD ((r11.getD 0 d0).ii).toNat []).getD 0 d0).ii == (1 : Int)) = true then
 .ret [.b true]
 else
 Out.andThen (if (((((v4.getD 1 d0).ll).getD ((r11.getD 0 d0).ii).toNat []).getD 0 d0).ii == (5 : Int)) = true then
 Out.andThenB (Loop E_spec_FitsL2 [.i (0 : Int), .i ((v4.getD 4 d0).ii), .s ((v4.getD 5 d0).ss), .sl ((v4.getD 6 d0).ll), .sl ((v4.getD 7 d0).ll), .i (((((v4.getD 1 d0).ll).getD ((r11.getD 0 d0).ii).toNat []).getD 0 d0).ii), .b (((((v4.getD 1 d0).ll).getD ((r11.getD 0 d0).ii).toNat []).getD 1 d0).bb), .s (((((v4.getD 1 d0).ll).getD ((r11.getD 0 d0).ii).toNat []).getD 2 d0).ss), .s (((((v4.getD 1 d0).ll).getD ((r11.getD 0 d0).ii).toNat []).getD 3 d0).ss), .sl (((((v4.getD 1 d0).ll).getD ((r11.getD 0 d0).ii).toNat []).getD 4 d0).ll), .sl (((((v4.getD 1 d0).ll).getD ((r11.getD 0 d0).ii).toNat []).getD 5 d0).ll), .sl (((((v4.getD 1 d0).ll).getD ((r11.getD 0 d0).ii).toNat []).getD 6 d0).ll), .sl (((((v4.getD 1 d0).ll).getD ((r11.getD 0 d0).ii).toNat []).getD 7 d0).ll), .sl (((((v4.getD 1 d0).ll).getD ((r11.getD 0 d0).ii).toNat []).getD 8 d0).ll), .b (((((v4.getD 1 d0).ll).getD ((r11.getD 0 d0).ii).toNat []).getD 9 d0).bb), .sl (((((v4.getD 1 d0).ll).getD ((r11.getD 0 d0).ii).toNat []).getD 10 d0).ll)]) 3 fun v18 =>
 .norm []
 else
 if (((((v4.getD 1 d0).ll).getD ((r11.getD 0 d0).ii).toNat []).getD 0 d0).ii == (6 : Int)) = true then
 (r_spec_l19Input [.sl ((v4.getD 1 d0).ll), .sl ((v4.getD 2 d0).ll), .sl ((v4.getD 3 d0).ll), .sl (((((v4.getD 1 d0).ll).getD ((r11.getD 0 d0).ii).toNat []).getD 6 d0).ll), .i ((v4.getD 4 d0).ii), .s ((v4.getD 5 d0).ss), .sl ((v4.getD 6 d0).ll), .sl ((v4.getD 7 d0).ll)]).bindR fun r19 =>
 .ret [.b ((r19.getD 0 d0).bb)]
 else
 .norm []) fun v20 =>
 .norm []) 2 fun v21 =>
 .ret [.b false]
 else
 .fail
theorem eq_spec_Fits a : r_spec_Fits a = E_spec_Fits a := (Run_eq cfg 7 _ a).trans (by kernel_rfl)
noncomputable def E_impl_Fits (a : List DC) : Out :=
 Out.andThenB (if ((a.getD 3 d0).ii == (1 : Int)) = true then
 .ret [.b true]
 else
 (r_impl_isNull [.i ((a.getD 3 d0).ii), .s ((a.getD 4 d0).ss), .sl ((a.getD 5 d0).ll), .sl ((a.getD 6 d0).ll)]).bindR fun r1 =>
 if (r1.getD 0 d0).bb = true then
 (r_impl_Needed [.s ((a.getD 7 d0).ss), .s ((a.getD 8 d0).ss)]).bindR fun r2 =>
 .ret [.b (!((r2.getD 0 d0).bb))]
 else
 .norm [.sl ((a.getD 0 d0).ll), .sl ((a.getD 1 d0).ll), .sl ((a.getD 2 d0).ll), .i ((a.getD 3 d0).ii), .s ((a.getD 4 d0).ss), .sl ((a.getD 5 d0).ll), .sl ((a.getD 6 d0).ll), .s ((a.getD 7 d0).ss), .s ((a.getD 8 d0).ss)]) 0 fun v3 =>
 (r_impl_Fewer [.s ((v3.getD 7 d0).ss), .s ((v3.getD 8 d0).ss)]).bindR fun r4 =>
 Out.andThenB ((r_strings_HasSuffix [.s ((r4.getD 1 d0).ss), .s ([93] : List UInt8)]).bindR fun r5 =>
 if (r5.getD 0 d0).bb = true then
 if ((v3.getD 3 d0).ii != (7 : Int)) = true then
 (r_impl_Inner [.s ((r4.getD 0 d0).ss), .s ((r4.getD 1 d0).ss)]).bindR fun r6 =>
 (r_impl_Fits [.sl ((v3.getD 0 d0).ll), .sl ((v3.getD 1 d0).ll), .sl ((v3.getD 2 d0).ll), .i ((v3.getD 3 d0).ii), .s ((v3.getD 4 d0).ss), .sl ((v3.getD 5 d0).ll), .sl ((v3.getD 6 d0).ll), .s ((r6.getD 0 d0).ss), .s ((r6.getD 1 d0).ss)]).bindR fun r7 =>
 .ret [.b ((r7.getD 0 d0).bb)]
 else
 (r_slices_ContainsFunc_impl_Value__impl_Fits_1 [.sl ((v3.getD 5 d0).ll), .sl ((v3.getD 0 d0).ll), .sl ((v3.getD 1 d0).ll), .sl ((v3.getD 2 d0).ll), .s ((r4.getD 0 d0).ss), .s ((r4.getD 1 d0).ss)]).bindR fun r8 =>
 .ret [.b (!((r8.getD 0 d0).bb))]
 else
 if (!((r4.getD 1 d0).ss == ([] : List UInt8))) = true then
 .ret [.b false]
 else
 .norm [.sl ((v3.getD 0 d0).ll), .sl ((v3.getD 1 d0).ll), .sl ((v3.getD 2 d0).ll), .i ((v3.getD 3 d0).ii), .s ((v3.getD 4 d0).ss), .sl ((v3.getD 5 d0).ll), .sl ((v3.getD 6 d0).ll), .s ((r4.getD 0 d0).ss), .s ((r4.getD 1 d0).ss)]) 1 fun v9 =>
 (r_impl_fitsName [.sl ((v9.getD 0 d0).ll), .sl ((v9.getD 1 d0).ll), .sl ((v9.getD 2 d0).ll), .i ((v9.getD 3 d0).ii), .s ((v9.getD 4 d0).ss), .sl ((v9.getD 5 d0).ll), .sl ((v9.getD 6 d0).ll), .s ((v9.getD 7 d0).ss)]).bindR fun r10 =>
 .ret [.b ((r10.getD 0 d0).bb)]
theorem eq_impl_Fits a : r_impl_Fits a = E_impl_Fits a := (Run_eq cfg 11 _ a).trans (by kernel_rfl)
noncomputable def E_laws_eqSchema (a : List DC) : Out :=
 (r_laws_eqDefS [.sl ((a.getD 0 d0).ll), .sl ((a.getD 3 d0).ll)]).bindR fun r1 =>
 if (!((r1.getD 0 d0).bb)) = true then
 .ret [.b false]
 else
 (r_laws_eqDefS [.sl ((a.getD 1 d0).ll), .sl ((a.getD 4 d0).ll)]).bindR fun r2 =>
 if (!((r2.getD 0 d0).bb)) = true then
 .ret [.b false]
 else
 (r_laws_eqRootS [.sl ((a.getD 2 d0).ll), .sl ((a.getD 5 d0).ll)]).bindR fun r3 =>
 if (!((r3.getD 0 d0).bb)) = true then
 .ret [.b false]
 else
 .ret [.b true]
theorem eq_laws_eqSchema a : r_laws_eqSchema a = E_laws_eqSchema a := (Run_eq cfg 12 _ a).trans (by kernel_rfl)
noncomputable def E_laws_eqValue (a : List DC) : Out :=
 if ((a.getD 0 d0).ii != (a.getD 4 d0).ii) = true then
 .ret [.b false]
 else
 if (!((a.getD 1 d0).ss == (a.getD 5 d0).ss)) = true then
 .ret [.b false]
 else
 (r_laws_eqValueS [.sl ((a.getD 2 d0).ll), .sl ((a.getD 6 d0).ll)]).bindR fun r1 =>
 if (!((r1.getD 0 d0).bb)) = true then
 .ret [.b false]
 else
 (r_laws_eqStringS [.sl ((a.getD 3 d0).ll), .sl ((a.getD 7 d0).ll)]).bindR fun r2 =>
 if (!((r2.getD 0 d0).bb)) = true then
 .ret [.b false]
 else
 .ret [.b true]
theorem eq_laws_eqValue a : r_laws_eqValue a = E_laws_eqValue a := (Run_eq cfg 13 _ a).trans (by kernel_rfl)
noncomputable def E_laws_szDefSL1 : List DC → Out := fun v1 =>
 if (decide ((v1.getD 2 d0).ii < (((v1.getD 0 d0).ll).length : Int))) = true then
 Out.andThenB (if 86 = 86 ∧ 0 ≤ (v1.getD 2 d0).ii ∧ (v1.getD 2 d0).ii < (((v1.getD 0 d0).ll).length : Int) then
 (r_laws_szDef [.i (((((v1.getD 0 d0).ll).getD ((v1.getD 2 d0).ii).toNat []).getD 0 d0).ii), .b (((((v1.getD 0 d0).ll).getD ((v1.getD 2 d0).ii).toNat []).getD 1 d0).bb), .s (((((v1.getD 0 d0).ll).getD ((v1.getD 2 d0).ii).toNat []).getD 2 d0).ss), .s (((((v1.getD 0 d0).ll).getD ((v1.getD 2 d0).ii).toNat []).getD 3 d0).ss), .sl (((((v1.getD 0 d0).ll).getD ((v1.getD 2 d0).ii).toNat []).getD 4 d0).ll), .sl (((((v1.getD 0 d0).ll).getD ((v1.getD 2 d0).ii).toNat []).getD 5 d0).ll), .sl (((((v1.getD 0 d0).ll).getD ((v1.getD 2 d0).ii).toNat []).getD 6 d0).ll), .sl (((((v1.getD 0 d0).ll).getD ((v1.getD 2 d0).ii).toNat []).getD 7 d0).ll), .sl (((((v1.getD 0 d0).ll).getD ((v1.getD 2 d0).ii).toNat []).getD 8 d0).ll), .b (((((v1.getD 0 d0).ll).getD ((v1.getD 2 d0).ii).toNat []).getD 9 d0).bb), .sl (((((v1.getD 0 d0).ll).getD ((v1.getD 2 d0).ii).toNat []).getD 10 d0).ll), .i ((v1.getD 1 d0).ii)]).bindR fun r2 =>
 if (decide ((r2.getD 0 d0).ii < (0 : Int))) = true then
 .ret [.i (-1 : Int)]
 else
 .norm [.sl ((v1.getD 0 d0).ll), .i ((r2.getD 0 d0).ii), .i ((v1.getD 2 d0).ii)]
 else
 .fail) 1 fun v3 =>
 .norm [.sl ((v3.getD 0 d0).ll), .i ((v3.getD 1 d0).ii), .i (IntKind.i64.wrap ((v3.getD 2 d0).ii + (1 : Int)))]
 else
 .ex 0 [.i ((v1.getD 1 d0).ii)]
noncomputable def E_laws_szDefS (a : List DC) : Out :=
 if (decide ((IntKind.i64.wrap ((a.getD 1 d0).ii - (((a.getD 0 d0).ll).length : Int))) < (0 : Int))) = true then
 .ret [.i (-1 : Int)]
 else
 Out.andThenB (Loop E_laws_szDefSL1 [.sl ((a.getD 0 d0).ll), .i (IntKind.i64.wrap ((a.getD 1 d0).ii - (((a.getD 0 d0).ll).length : Int))), .i (0 : Int)]) 0 fun v4 =>
 .ret [.i ((v4.getD 0 d0).ii)]
theorem eq_laws_szDefS a : r_laws_szDefS a = E_laws_szDefS a := (Run_eq cfg 14 _ a).trans (by kernel_rfl)
noncomputable def E_laws_szRootSL1 : List DC → Out := fun v1 =>
 if (decide ((v1.getD 2 d0).ii < (((v1.getD 0 d0).ll).length : Int))) = true then
 Out.andThenB (if 89 = 89 ∧ 0 ≤ (v1.getD 2 d0).ii ∧ (v1.getD 2 d0).ii < (((v1.getD 0 d0).ll).length : Int) then
 (r_laws_szRoot [.i (((((v1.getD 0 d0).ll).getD ((v1.getD 2 d0).ii).toNat []).getD 0 d0).ii), .s (((((v1.getD 0 d0).ll).getD ((v1.getD 2 d0).ii).toNat []).getD 1 d0).ss), .i ((v1.getD 1 d0).ii)]).bindR fun r2 =>
 if (decide ((r2.getD 0 d0).ii < (0 : Int))) = true then
 .ret [.i (-1 : Int)]
 else
 .norm [.sl ((v1.getD 0 d0).ll), .i ((r2.getD 0 d0).ii), .i ((v1.getD 2 d0).ii)]
 else
 .fail) 1 fun v3 =>
 .norm [.sl ((v3.getD 0 d0).ll), .i ((v3.getD 1 d0).ii), .i (IntKind.i64.wrap ((v3.getD 2 d0).ii + (1 : Int)))]
 else
 .ex 0 [.i ((v1.getD 1 d0).ii)]
noncomputable def E_laws_szRootS (a : List DC) : Out :=
 if (decide ((IntKind.i64.wrap ((a.getD 1 d0).ii - (((a.getD 0 d0).ll).length : Int))) < (0 : Int))) = true then
 .ret [.i (-1 : Int)]
 else
 Out.andThenB (Loop E_laws_szRootSL1 [.sl ((a.getD 0 d0).ll), .i (IntKind.i64.wrap ((a.getD 1 d0).ii - (((a.getD 0 d0).ll).length : Int))), .i (0 : Int)]) 0 fun v4 =>
 .ret [.i ((v4.getD 0 d0).ii)]
theorem eq_laws_szRootS a : r_laws_szRootS a = E_laws_szRootS a := (Run_eq cfg 15 _ a).trans (by kernel_rfl)
noncomputable def E_laws_szValueSL1 : List DC → Out := fun v1 =>
 if (decide ((v1.getD 2 d0).ii < (((v1.getD 0 d0).ll).length : Int))) = true then
 Out.andThenB (if 29 = 29 ∧ 0 ≤ (v1.getD 2 d0).ii ∧ (v1.getD 2 d0).ii < (((v1.getD 0 d0).ll).length : Int) then
 (r_laws_szValue [.i (((((v1.getD 0 d0).ll).getD ((v1.getD 2 d0).ii).toNat []).getD 0 d0).ii), .s (((((v1.getD 0 d0).ll).getD ((v1.getD 2 d0).ii).toNat []).getD 1 d0).ss), .sl (((((v1.getD 0 d0).ll).getD ((v1.getD 2 d0).ii).toNat []).getD 2 d0).ll), .sl (((((v1.getD 0 d0).ll).getD ((v1.getD 2 d0).ii).toNat []).getD 3 d0).ll), .i ((v1.getD 1 d0).ii)]).bindR fun r2 =>
 if (decide ((r2.getD 0 d0).ii < (0 : Int))) = true then
 .ret [.i (-1 : Int)]
 else
 .norm [.sl ((v1.getD 0 d0).ll), .i ((r2.getD 0 d0).ii), .i ((v1.getD 2 d0).ii)]
 else
 .fail) 1 fun v3 =>
 .norm [.sl ((v3.getD 0 d0).ll), .i ((v3.getD 1 d0).ii), .i (IntKind.i64.wrap ((v3.getD 2 d0).ii + (1 : Int)))]
 else
 .ex 0 [.i ((v1.getD 1 d0).ii)]
noncomputable def E_laws_szValueS (a : List DC) : Out :=
 if (decide ((IntKind.i64.wrap ((a.getD 1 d0).ii - (((a.getD 0 d0).ll).length : Int))) < (0 : Int))) = true then
 .ret [.i (-1 : Int)]
 else
 Out.andThenB (Loop E_laws_szValueSL1 [.sl ((a.getD 0 d0).ll), .i (IntKind.i64.wrap ((a.getD 1 d0).ii - (((a.getD 0 d0).ll).length : Int))), .i (0 : Int)]) 0 fun v4 =>
 .ret [.i ((v4.getD 0 d0).ii)]
theorem eq_laws_szValueS a : r_laws_szValueS a = E_laws_szValueS a := (Run_eq cfg 16 _ a).trans (by kernel_rfl)
noncomputable def E_laws_szStringSL1 : List DC → Out := fun v1 =>
 if (decide ((v1.getD 2 d0).ii < (((v1.getD 0 d0).ll).length : Int))) = true then
 Out.andThenB (if 9 = 9 ∧ 0 ≤ (v1.getD 2 d0).ii ∧ (v1.getD 2 d0).ii < (((v1.getD 0 d0).ll).length : Int) then
 if (decide ((IntKind.i64.wrap ((v1.getD 1 d0).ii - ((((((v1.getD 0 d0).ll).getD ((v1.getD 2 d0).ii).toNat []).getD 0 d0).ss).length : Int))) < (0 : Int))) = true then
 .ret [.i (-1 : Int)]
 else
 .norm [.sl ((v1.getD 0 d0).ll), .i (IntKind.i64.wrap ((v1.getD 1 d0).ii - ((((((v1.getD 0 d0).ll).getD ((v1.getD 2 d0).ii).toNat []).getD 0 d0).ss).length : Int))), .i ((v1.getD 2 d0).ii)]
 else
 .fail) 1 fun v2 =>
 .norm [.sl ((v2.getD 0 d0).ll), .i ((v2.getD 1 d0).ii), .i (IntKind.i64.wrap ((v2.getD 2 d0).ii + (1 : Int)))]
 else
 .ex 0 [.i ((v1.getD 1 d0).ii)]
noncomputable def E_laws_szStringS (a : List DC) : Out :=
 if (decide ((IntKind.i64.wrap ((a.getD 1 d0).ii - (((a.getD 0 d0).ll).length : Int))) < (0 : Int))) = true then
 .ret [.i (-1 : Int)]
 else
 Out.andThenB (Loop E_laws_szStringSL1 [.sl ((a.getD 0 d0).ll), .i (IntKind.i64.wrap ((a.getD 1 d0).ii - (((a.getD 0 d0).ll).length : Int))), .i (0 : Int)]) 0 fun v3 =>
 .ret [.i ((v3.getD 0 d0).ii)]
theorem eq_laws_szStringS a : r_laws_szStringS a = E_laws_szStringS a := (Run_eq cfg 17 _ a).trans (by kernel_rfl)
noncomputable def E_laws_toDefSL1 : List DC → Out := fun v1 =>
 if (decide ((v1.getD 2 d0).ii < (((v1.getD 0 d0).ll).length : Int))) = true then
 Out.andThenB (if 86 = 86 ∧ 0 ≤ (v1.getD 2 d0).ii ∧ (v1.getD 2 d0).ii < (((v1.getD 0 d0).ll).length : Int) then
 (r_laws_toDef [.i (((((v1.getD 0 d0).ll).getD ((v1.getD 2 d0).ii).toNat []).getD 0 d0).ii), .b (((((v1.getD 0 d0).ll).getD ((v1.getD 2 d0).ii).toNat []).getD 1 d0).bb), .s (((((v1.getD 0 d0).ll).getD ((v1.getD 2 d0).ii).toNat []).getD 2 d0).ss), .s (((((v1.getD 0 d0).ll).getD ((v1.getD 2 d0).ii).toNat []).getD 3 d0).ss), .sl (((((v1.getD 0 d0).ll).getD ((v1.getD 2 d0).ii).toNat []).getD 4 d0).ll), .sl (((((v1.getD 0 d0).ll).getD ((v1.getD 2 d0).ii).toNat []).getD 5 d0).ll), .sl (((((v1.getD 0 d0).ll).getD ((v1.getD 2 d0).ii).toNat []).getD 6 d0).ll), .sl (((((v1.getD 0 d0).ll).getD ((v1.getD 2 d0).ii).toNat []).getD 7 d0).ll), .sl (((((v1.getD 0 d0).ll).getD ((v1.getD 2 d0).ii).toNat []).getD 8 d0).ll), .b (((((v1.getD 0 d0).ll).getD ((v1.getD 2 d0).ii).toNat []).getD 9 d0).bb), .sl (((((v1.getD 0 d0).ll).getD ((v1.getD 2 d0).ii).toNat []).getD 10 d0).ll)]).bindR fun r2 =>
 if 64 = 64 ∧ 0 ≤ (v1.getD 2 d0).ii ∧ (v1.getD 2 d0).ii < (((v1.getD 1 d0).ll).length : Int) then
 .norm [.sl ((v1.getD 0 d0).ll), .sl (((v1.getD 1 d0).ll).set (((v1.getD 2 d0).ii).toNat) (setRunD (((v1.getD 1 d0).ll).getD (((v1.getD 2 d0).ii).toNat) []) 0 [DC.i ((r2.getD 0 d0).ii), DC.b ((r2.getD 1 d0).bb), DC.s ((r2.getD 2 d0).ss), DC.s ((r2.getD 3 d0).ss), DC.sl ((r2.getD 4 d0).ll), DC.sl ((r2.getD 5 d0).ll), DC.sl ((r2.getD 6 d0).ll), DC.sl ((r2.getD 7 d0).ll), DC.sl ((r2.getD 8 d0).ll), DC.b ((r2.getD 9 d0).bb), DC.sl ((r2.getD 10 d0).ll)])), .i ((v1.getD 2 d0).ii)]
 else
 .fail
 else
 .fail) 1 fun v3 =>
 .norm [.sl ((v3.getD 0 d0).ll), .sl ((v3.getD 1 d0).ll), .i (IntKind.i64.wrap ((v3.getD 2 d0).ii + (1 : Int)))]
 else
 .ex 0 [.sl ((v1.getD 1 d0).ll)]
noncomputable def E_laws_toDefS (a : List DC) : Out :=
 if 0 ≤ (((a.getD 0 d0).ll).length : Int) ∧ (((a.getD 0 d0).ll).length : Int) < (LIM : Int) ∧ (((a.getD 0 d0).ll).length : Int) = (((a.getD 0 d0).ll).length : Int) ∧ 200 ≤ 1024 ∧ 0 < 11 then
 Out.andThenB (Loop E_laws_toDefSL1 [.sl ((a.getD 0 d0).ll), .sl (List.replicate (((a.getD 0 d0).ll).length : Int).toNat [DC.i 0, DC.b false, DC.s [], DC.s [], DC.sl [], DC.sl [], DC.sl [], DC.sl [], DC.sl [], DC.b false, DC.sl []]), .i (0 : Int)]) 0 fun v4 =>
 .ret [.sl ((v4.getD 0 d0).ll)]
 else
 .fail
theorem eq_laws_toDefS a : r_laws_toDefS a = E_laws_toDefS a := (Run_eq cfg 25 _ a).trans (by kernel_rfl)
noncomputable def E_laws_toRootSL1 : List DC → Out := fun v1 =>
 if (decide ((v1.getD 2 d0).ii < (((v1.getD 0 d0).ll).length : Int))) = true then
 Out.andThenB (if 89 = 89 ∧ 0 ≤ (v1.getD 2 d0).ii ∧ (v1.getD 2 d0).ii < (((v1.getD 0 d0).ll).length : Int) then
 (r_laws_toRoot [.i (((((v1.getD 0 d0).ll).getD ((v1.getD 2 d0).ii).toNat []).getD 0 d0).ii), .s (((((v1.getD 0 d0).ll).getD ((v1.getD 2 d0).ii).toNat []).getD 1 d0).ss)]).bindR fun r2 =>
 if 96 = 96 ∧ 0 ≤ (v1.getD 2 d0).ii ∧ (v1.getD 2 d0).ii < (((v1.getD 1 d0).ll).length : Int) then
 .norm [.sl ((v1.getD 0 d0).ll), .sl (((v1.getD 1 d0).ll).set (((v1.getD 2 d0).ii).toNat) (setRunD (((v1.getD 1 d0).ll).getD (((v1.getD 2 d0).ii).toNat) []) 0 [DC.i ((r2.getD 0 d0).ii), DC.s ((r2.getD 1 d0).ss)])), .i ((v1.getD 2 d0).ii)]
 else
 .fail
 else
 .fail) 1 fun v3 =>
 .norm [.sl ((v3.getD 0 d0).ll), .sl ((v3.getD 1 d0).ll), .i (IntKind.i64.wrap ((v3.getD 2 d0).ii + (1 : Int)))]
 else
 .ex 0 [.sl ((v1.getD 1 d0).ll)]
noncomputable def E_laws_toRootS (a : List DC) : Out :=
 if 0 ≤ (((a.getD 0 d0).ll).length : Int) ∧ (((a.getD 0 d0).ll).length : Int) < (LIM : Int) ∧ (((a.getD 0 d0).ll).length : Int) = (((a.getD 0 d0).ll).length : Int) ∧ 24 ≤ 1024 ∧ 0 < 2 then
 Out.andThenB (Loop E_laws_toRootSL1 [.sl ((a.getD 0 d0).ll), .sl (List.replicate (((a.getD 0 d0).ll).length : Int).toNat [DC.i 0, DC.s []]), .i (0 : Int)]) 0 fun v4 =>
 .ret [.sl ((v4.getD 0 d0).ll)]
 else
 .fail
theorem eq_laws_toRootS a : r_laws_toRootS a = E_laws_toRootS a := (Run_eq cfg 26 _ a).trans (by kernel_rfl)
noncomputable def E_laws_toValueSL1 : List DC → Out := fun v1 =>
 if (decide ((v1.getD 2 d0).ii < (((v1.getD 0 d0).ll).length : Int))) = true then
 Out.andThenB (if 29 = 29 ∧ 0 ≤ (v1.getD 2 d0).ii ∧ (v1.getD 2 d0).ii < (((v1.getD 0 d0).ll).length : Int) then
 (r_laws_toValue [.i (((((v1.getD 0 d0).ll).getD ((v1.getD 2 d0).ii).toNat []).getD 0 d0).ii), .s (((((v1.getD 0 d0).ll).getD ((v1.getD 2 d0).ii).toNat []).getD 1 d0).ss), .sl (((((v1.getD 0 d0).ll).getD ((v1.getD 2 d0).ii).toNat []).getD 2 d0).ll), .sl (((((v1.getD 0 d0).ll).getD ((v1.getD 2 d0).ii).toNat []).getD 3 d0).ll)]).bindR fun r2 =>
 if 43 = 43 ∧ 0 ≤ (v1.getD 2 d0).ii ∧ (v1.getD 2 d0).ii < (((v1.getD 1 d0).ll).length : Int) then
 .norm [.sl ((v1.getD 0 d0).ll), .sl (((v1.getD 1 d0).ll).set (((v1.getD 2 d0).ii).toNat) (setRunD (((v1.getD 1 d0).ll).getD (((v1.getD 2 d0).ii).toNat) []) 0 [DC.i ((r2.getD 0 d0).ii), DC.s ((r2.getD 1 d0).ss), DC.sl ((r2.getD 2 d0).ll), DC.sl ((r2.getD 3 d0).ll)])), .i ((v1.getD 2 d0).ii)]
 else
 .fail
 else
 .fail) 1 fun v3 =>
 .norm [.sl ((v3.getD 0 d0).ll), .sl ((v3.getD 1 d0).ll), .i (IntKind.i64.wrap ((v3.getD 2 d0).ii + (1 : Int)))]
 else
 .ex 0 [.sl ((v1.getD 1 d0).ll)]
noncomputable def E_laws_toValueS (a : List DC) : Out :=
 if 0 ≤ (((a.getD 0 d0).ll).length : Int) ∧ (((a.getD 0 d0).ll).length : Int) < (LIM : Int) ∧ (((a.getD 0 d0).ll).length : Int) = (((a.getD 0 d0).ll).length : Int) ∧ 72 ≤ 1024 ∧ 0 < 4 then
 Out.andThenB (Loop E_laws_toValueSL1 [.sl ((a.getD 0 d0).ll), .sl (List.replicate (((a.getD 0 d0).ll).length : Int).toNat [DC.i 0, DC.s [], DC.sl [], DC.sl []]), .i (0 : Int)]) 0 fun v4 =>
 .ret [.sl ((v4.getD 0 d0).ll)]
 else
 .fail
theorem eq_laws_toValueS a : r_laws_toValueS a = E_laws_toValueS a := (Run_eq cfg 27 _ a).trans (by kernel_rfl)
noncomputable def E_laws_toStringSL1 : List DC → Out := fun v1 =>
 if (decide ((v1.getD 2 d0).ii < (((v1.getD 0 d0).ll).length : Int))) = true then
 Out.andThenB (if 9 = 9 ∧ 0 ≤ (v1.getD 2 d0).ii ∧ (v1.getD 2 d0).ii < (((v1.getD 0 d0).ll).length : Int) then
 if 9 = 9 ∧ 0 ≤ (v1.getD 2 d0).ii ∧ (v1.getD 2 d0).ii < (((v1.getD 1 d0).ll).length : Int) then
 .norm [.sl ((v1.getD 0 d0).ll), .sl (((v1.getD 1 d0).ll).set (((v1.getD 2 d0).ii).toNat) (setRunD (((v1.getD 1 d0).ll).getD (((v1.getD 2 d0).ii).toNat) []) 0 [DC.s (((((v1.getD 0 d0).ll).getD ((v1.getD 2 d0).ii).toNat []).getD 0 d0).ss)])), .i ((v1.getD 2 d0).ii)]
 else
 .fail
 else
 .fail) 1 fun v2 =>
 .norm [.sl ((v2.getD 0 d0).ll), .sl ((v2.getD 1 d0).ll), .i (IntKind.i64.wrap ((v2.getD 2 d0).ii + (1 : Int)))]
 else
 .ex 0 [.sl ((v1.getD 1 d0).ll)]
noncomputable def E_laws_toStringS (a : List DC) : Out :=
 if 0 ≤ (((a.getD 0 d0).ll).length : Int) ∧ (((a.getD 0 d0).ll).length : Int) < (LIM : Int) ∧ (((a.getD 0 d0).ll).length : Int) = (((a.getD 0 d0).ll).length : Int) ∧ 16 ≤ 1024 ∧ 0 < 1 then
 Out.andThenB (Loop E_laws_toStringSL1 [.sl ((a.getD 0 d0).ll), .sl (List.replicate (((a.getD 0 d0).ll).length : Int).toNat [DC.s []]), .i (0 : Int)]) 0 fun v3 =>
 .ret [.sl ((v3.getD 0 d0).ll)]
 else
 .fail
theorem eq_laws_toStringS a : r_laws_toStringS a = E_laws_toStringS a := (Run_eq cfg 28 _ a).trans (by kernel_rfl)
noncomputable def E_spec_Needed (a : List DC) : Out :=
 Out.andThen (if (decide ((((a.getD 1 d0).ss).length : Int) > (0 : Int))) = true then
 if 0 ≤ (IntKind.i64.wrap ((((a.getD 1 d0).ss).length : Int) - (1 : Int))) ∧ (IntKind.i64.wrap ((((a.getD 1 d0).ss).length : Int) - (1 : Int))) < (((a.getD 1 d0).ss).length : Int) then
 .norm [.b (((((a.getD 1 d0).ss).getD (IntKind.i64.wrap ((((a.getD 1 d0).ss).length : Int) - (1 : Int))).toNat 0).toNat : Int) == (33 : Int))]
 else
 .fail
 else
 .norm [.b false]) fun v1 =>
 .ret [.b ((v1.getD 0 d0).bb)]
theorem eq_spec_Needed a : r_spec_Needed a = E_spec_Needed a := (Run_eq cfg 18 _ a).trans (by kernel_rfl)
noncomputable def E_spec_Fewer (a : List DC) : Out :=
 (r_spec_Needed [.s ((a.getD 0 d0).ss), .s ((a.getD 1 d0).ss)]).bindR fun r1 =>
 Out.andThen (if (r1.getD 0 d0).bb = true then
 if 0 ≤ (IntKind.i64.wrap ((((a.getD 1 d0).ss).length : Int) - (1 : Int))) ∧ (IntKind.i64.wrap ((((a.getD 1 d0).ss).length : Int) - (1 : Int))) ≤ (((a.getD 1 d0).ss).length : Int) then
 .norm [.s ((a.getD 0 d0).ss), .s (((a.getD 1 d0).ss).take (IntKind.i64.wrap ((((a.getD 1 d0).ss).length : Int) - (1 : Int))).toNat), .s [], .s []]
 else
 .fail
 else
 .norm [.s ((a.getD 0 d0).ss), .s ((a.getD 1 d0).ss), .s [], .s []]) fun v2 =>
 .ret [.s ((v2.getD 0 d0).ss), .s ((v2.getD 1 d0).ss)]
theorem eq_spec_Fewer a : r_spec_Fewer a = E_spec_Fewer a := (Run_eq cfg 19 _ a).trans (by kernel_rfl)
noncomputable def E_spec_Inner (a : List DC) : Out :=
 (r_spec_Fewer [.s ((a.getD 0 d0).ss), .s ((a.getD 1 d0).ss)]).bindR fun r1 =>
 Out.andThen (if (decide ((((r1.getD 1 d0).ss).length : Int) > (0 : Int))) = true then
 if 0 ≤ (IntKind.i64.wrap ((((r1.getD 1 d0).ss).length : Int) - (1 : Int))) ∧ (IntKind.i64.wrap ((((r1.getD 1 d0).ss).length : Int) - (1 : Int))) < (((r1.getD 1 d0).ss).length : Int) then
 .norm [.b (((((r1.getD 1 d0).ss).getD (IntKind.i64.wrap ((((r1.getD 1 d0).ss).length : Int) - (1 : Int))).toNat 0).toNat : Int) == (93 : Int)), .s ((r1.getD 0 d0).ss), .s ((r1.getD 1 d0).ss), .s [], .s []]
 else
 .fail
 else
 .norm [.b false, .s ((r1.getD 0 d0).ss), .s ((r1.getD 1 d0).ss), .s [], .s []]) fun v2 =>
 if (v2.getD 0 d0).bb = true then
 if 0 ≤ (IntKind.i64.wrap ((((v2.getD 2 d0).ss).length : Int) - (1 : Int))) ∧ (IntKind.i64.wrap ((((v2.getD 2 d0).ss).length : Int) - (1 : Int))) ≤ (((v2.getD 2 d0).ss).length : Int) then
 .ret [.s ((v2.getD 1 d0).ss), .s (((v2.getD 2 d0).ss).take (IntKind.i64.wrap ((((v2.getD 2 d0).ss).length : Int) - (1 : Int))).toNat)]
 else
 .fail
 else
 .ret [.s ((v2.getD 1 d0).ss), .s []]
theorem eq_spec_Inner a : r_spec_Inner a = E_spec_Inner a := (Run_eq cfg 20 _ a).trans (by kernel_rfl)
noncomputable def E_spec_TypeAtL1 : List DC → Out := fun v1 =>
 Out.andThen (if (decide ((v1.getD 1 d0).ii < (((v1.getD 2 d0).ll).length : Int))) = true then
 .norm [.s ((v1.getD 0 d0).ss), .i ((v1.getD 1 d0).ii), .b (decide ((((v1.getD 2 d0).ll).length : Int) ≤ (60 : Int))), .sl ((v1.getD 2 d0).ll), .sl ((v1.getD 3 d0).ll), .sl ((v1.getD 4 d0).ll)]
 else
 .norm [.s ((v1.getD 0 d0).ss), .i ((v1.getD 1 d0).ii), .b false, .sl ((v1.getD 2 d0).ll), .sl ((v1.getD 3 d0).ll), .sl ((v1.getD 4 d0).ll)]) fun v2 =>
 if (v2.getD 2 d0).bb = true then
 Out.andThenB (if 64 = 64 ∧ 0 ≤ (v2.getD 1 d0).ii ∧ (v2.getD 1 d0).ii < (((v2.getD 3 d0).ll).length : Int) then
 if (((((v2.getD 3 d0).ll).getD ((v2.getD 1 d0).ii).toNat []).getD 3 d0).ss == (v2.getD 0 d0).ss) = true then
 .ret [.i ((v2.getD 1 d0).ii)]
 else
 .norm [.s ((v2.getD 0 d0).ss), .i ((v2.getD 1 d0).ii), .sl ((v2.getD 3 d0).ll), .sl ((v2.getD 4 d0).ll), .sl ((v2.getD 5 d0).ll)]
 else
 .fail) 1 fun v3 =>
 .norm [.s ((v3.getD 0 d0).ss), .i (IntKind.i64.wrap ((v3.getD 1 d0).ii + (1 : Int))), .sl ((v3.getD 2 d0).ll), .sl ((v3.getD 3 d0).ll), .sl ((v3.getD 4 d0).ll)]
 else
 .ex 0 []
noncomputable def E_spec_TypeAt (a : List DC) : Out :=
 Out.andThenB (Loop E_spec_TypeAtL1 [.s ((a.getD 3 d0).ss), .i (0 : Int), .sl ((a.getD 0 d0).ll), .sl ((a.getD 1 d0).ll), .sl ((a.getD 2 d0).ll)]) 0 fun v4 =>
 .ret [.i (-1 : Int)]
theorem eq_spec_TypeAt a : r_spec_TypeAt a = E_spec_TypeAt a := (Run_eq cfg 21 _ a).trans (by kernel_rfl)
noncomputable def E_spec_BuiltIn (a : List DC) : Out :=
 Out.andThen (if ((a.getD 0 d0).ss == ([73, 110, 116] : List UInt8)) = true then
 .norm [.b true]
 else
 if ((a.getD 0 d0).ss == ([70, 108, 111, 97, 116] : List UInt8)) = true then
 .norm [.b true]
 else
 if ((a.getD 0 d0).ss == ([83, 116, 114, 105, 110, 103] : List UInt8)) = true then
 .norm [.b true]
 else
 if ((a.getD 0 d0).ss == ([66, 111, 111, 108, 101, 97, 110] : List UInt8)) = true then
 .norm [.b true]
 else
 .norm [.b ((a.getD 0 d0).ss == ([73, 68] : List UInt8))]) fun v1 =>
 .ret [.b ((v1.getD 0 d0).bb)]
theorem eq_spec_BuiltIn a : r_spec_BuiltIn a = E_spec_BuiltIn a := (Run_eq cfg 22 _ a).trans (by kernel_rfl)
noncomputable def E_spec_l19Scalar (a : List DC) : Out :=
 Out.andThenB (if ((a.getD 0 d0).ss == ([73, 110, 116] : List UInt8)) = true then
 Out.andThen (if ((a.getD 1 d0).ii == (2 : Int)) = true then
 (r_spec_Fits32 [.s ((a.getD 2 d0).ss)]).bindR fun r1 =>
 .norm [.b ((r1.getD 0 d0).bb)]
 else
 .norm [.b false]) fun v2 =>
 .ret [.b ((v2.getD 0 d0).bb)]
 else
 if ((a.getD 0 d0).ss == ([70, 108, 111, 97, 116] : List UInt8)) = true then
 Out.andThen (if ((a.getD 1 d0).ii == (2 : Int)) = true then
 .norm [.b true]
 else
 .norm [.b ((a.getD 1 d0).ii == (3 : Int))]) fun v3 =>
 .ret [.b ((v3.getD 0 d0).bb)]
 else
 if ((a.getD 0 d0).ss == ([83, 116, 114, 105, 110, 103] : List UInt8)) = true then
 .ret [.b ((a.getD 1 d0).ii == (4 : Int))]
 else
 if ((a.getD 0 d0).ss == ([66, 111, 111, 108, 101, 97, 110] : List UInt8)) = true then
 Out.andThen (if ((a.getD 1 d0).ii == (5 : Int)) = true then
 if ((a.getD 2 d0).ss == ([116, 114, 117, 101] : List UInt8)) = true then
 .norm [.b true]
 else
 .norm [.b ((a.getD 2 d0).ss == ([102, 97, 108, 115, 101] : List UInt8))]
 else
 .norm [.b false]) fun v4 =>
 .ret [.b ((v4.getD 0 d0).bb)]
 else
 .norm [.i ((a.getD 1 d0).ii), .s ((a.getD 2 d0).ss), .sl ((a.getD 3 d0).ll), .sl ((a.getD 4 d0).ll)]) 0 fun v5 =>
 Out.andThen (if ((v5.getD 0 d0).ii == (2 : Int)) = true then
 .norm [.b true]
 else
 .norm [.b ((v5.getD 0 d0).ii == (4 : Int))]) fun v6 =>
 .ret [.b ((v6.getD 0 d0).bb)]
theorem eq_spec_l19Scalar a : r_spec_l19Scalar a = E_spec_l19Scalar a := (Run_eq cfg 23 _ a).trans (by kernel_rfl)
noncomputable def E_spec_l19InputL1 : List DC → Out := fun v2 =>
 if (decide ((v2.getD 1 d0).ii < (((v2.getD 8 d0).ll).length : Int))) = true then
 Out.andThenB (if 9 = 9 ∧ 0 ≤ (v2.getD 1 d0).ii ∧ (v2.getD 1 d0).ii < (((v2.getD 8 d0).ll).length : Int) then
 (r_spec_InAt [.sl ((v2.getD 0 d0).ll), .s (((((v2.getD 8 d0).ll).getD ((v2.getD 1 d0).ii).toNat []).getD 0 d0).ss)]).bindR fun r3 =>
 Out.andThen (if (decide ((r3.getD 0 d0).ii < (0 : Int))) = true then
 .norm [.sl ((v2.getD 0 d0).ll), .i ((v2.getD 1 d0).ii), .b true, .sl ((v2.getD 2 d0).ll), .sl ((v2.getD 3 d0).ll), .sl ((v2.getD 4 d0).ll), .i ((v2.getD 5 d0).ii), .s ((v2.getD 6 d0).ss), .sl ((v2.getD 7 d0).ll), .sl ((v2.getD 8 d0).ll)]
 else
 if 0 ≤ (v2.getD 1 d0).ii ∧ (v2.getD 1 d0).ii ≤ (((v2.getD 8 d0).ll).length : Int) then
 if 9 = 9 ∧ 0 ≤ (v2.getD 1 d0).ii ∧ (v2.getD 1 d0).ii < (((v2.getD 8 d0).ll).length : Int) then
 (r_spec_l18Has [.sl (((v2.getD 8 d0).ll).take ((v2.getD 1 d0).ii).toNat), .s (((((v2.getD 8 d0).ll).getD ((v2.getD 1 d0).ii).toNat []).getD 0 d0).ss)]).bindR fun r4 =>
 if (r4.getD 0 d0).bb = true then
 .norm [.sl ((v2.getD 0 d0).ll), .i ((v2.getD 1 d0).ii), .b true, .sl ((v2.getD 2 d0).ll), .sl ((v2.getD 3 d0).ll), .sl ((v2.getD 4 d0).ll), .i ((v2.getD 5 d0).ii), .s ((v2.getD 6 d0).ss), .sl ((v2.getD 7 d0).ll), .sl ((v2.getD 8 d0).ll)]
 else
 if 43 = 43 ∧ 0 ≤ (v2.getD 1 d0).ii ∧ (v2.getD 1 d0).ii < (((v2.getD 7 d0).ll).length : Int) then
 if 93 = 93 ∧ 0 ≤ (r3.getD 0 d0).ii ∧ (r3.getD 0 d0).ii < (((v2.getD 0 d0).ll).length : Int) then
 (r_spec_Fits [.sl ((v2.getD 2 d0).ll), .sl ((v2.getD 3 d0).ll), .sl ((v2.getD 4 d0).ll), .i (((((v2.getD 7 d0).ll).getD ((v2.getD 1 d0).ii).toNat []).getD 0 d0).ii), .s (((((v2.getD 7 d0).ll).getD ((v2.getD 1 d0).ii).toNat []).getD 1 d0).ss), .sl (((((v2.getD 7 d0).ll).getD ((v2.getD 1 d0).ii).toNat []).getD 2 d0).ll), .sl (((((v2.getD 7 d0).ll).getD ((v2.getD 1 d0).ii).toNat []).getD 3 d0).ll), .s (((((v2.getD 0 d0).ll).getD ((r3.getD 0 d0).ii).toNat []).getD 2 d0).ss), .s (((((v2.getD 0 d0).ll).getD ((r3.getD 0 d0).ii).toNat []).getD 3 d0).ss)]).bindR fun r5 =>
 .norm [.sl ((v2.getD 0 d0).ll), .i ((v2.getD 1 d0).ii), .b (!((r5.getD 0 d0).bb)), .sl ((v2.getD 2 d0).ll), .sl ((v2.getD 3 d0).ll), .sl ((v2.getD 4 d0).ll), .i ((v2.getD 5 d0).ii), .s ((v2.getD 6 d0).ss), .sl ((v2.getD 7 d0).ll), .sl ((v2.getD 8 d0).ll)]
 else
 .fail
 else
 .fail
 else
 .fail
 else
 .fail) fun v6 =>
 if (v6.getD 2 d0).bb = true then
 .ret [.b false]
 else
 .norm [.sl ((v6.getD 0 d0).ll), .i ((v6.getD 1 d0).ii), .sl ((v6.getD 3 d0).ll), .sl ((v6.getD 4 d0).ll), .sl ((v6.getD 5 d0).ll), .i ((v6.getD 6 d0).ii), .s ((v6.getD 7 d0).ss), .sl ((v6.getD 8 d0).ll), .sl ((v6.getD 9 d0).ll)]
 else
 .fail) 1 fun v7 =>
 .norm [.sl ((v7.getD 0 d0).ll), .i (IntKind.i64.wrap ((v7.getD 1 d0).ii + (1 : Int))), .sl ((v7.getD 2 d0).ll), .sl ((v7.getD 3 d0).ll), .sl ((v7.getD 4 d0).ll), .i ((v7.getD 5 d0).ii), .s ((v7.getD 6 d0).ss), .sl ((v7.getD 7 d0).ll), .sl ((v7.getD 8 d0).ll)]
 else
 .ex 0 [.sl ((v2.getD 0 d0).ll), .i ((v2.getD 5 d0).ii), .s ((v2.getD 6 d0).ss), .sl ((v2.getD 7 d0).ll), .sl ((v2.getD 8 d0).ll)]
noncomputable def E_spec_l19InputL2 : List DC → Out := fun v10 =>
 if (decide ((v10.getD 1 d0).ii < (((v10.getD 0 d0).ll).length : Int))) = true then
 Out.andThenB (if 9 = 9 ∧ 0 ≤ (v10.getD 1 d0).ii ∧ (v10.getD 1 d0).ii < (((v10.getD 0 d0).ll).length : Int) then
 (r_spec_l18Has [.sl ((v10.getD 5 d0).ll), .s (((((v10.getD 0 d0).ll).getD ((v10.getD 1 d0).ii).toNat []).getD 0 d0).ss)]).bindR fun r11 =>
 if (!((r11.getD 0 d0).bb)) = true then
 .ret [.b false]
 else
 .norm [.sl ((v10.getD 0 d0).ll), .i ((v10.getD 1 d0).ii), .i ((v10.getD 2 d0).ii), .s ((v10.getD 3 d0).ss), .sl ((v10.getD 4 d0).ll), .sl ((v10.getD 5 d0).ll)]
 else
 .fail) 3 fun v12 =>
 .norm [.sl ((v12.getD 0 d0).ll), .i (IntKind.i64.wrap ((v12.getD 1 d0).ii + (1 : Int))), .i ((v12.getD 2 d0).ii), .s ((v12.getD 3 d0).ss), .sl ((v12.getD 4 d0).ll), .sl ((v12.getD 5 d0).ll)]
 else
 .ex 2 []
noncomputable def E_spec_l19Input (a : List DC) : Out :=
 Out.andThen (if ((a.getD 4 d0).ii != (8 : Int)) = true then
 .norm [.sl ((a.getD 3 d0).ll), .b true, .sl ((a.getD 0 d0).ll), .sl ((a.getD 1 d0).ll), .sl ((a.getD 2 d0).ll), .i ((a.getD 4 d0).ii), .s ((a.getD 5 d0).ss), .sl ((a.getD 6 d0).ll), .sl ((a.getD 7 d0).ll)]
 else
 if ((((a.getD 7 d0).ll).length : Int) != (((a.getD 6 d0).ll).length : Int)) = true then
 .norm [.sl ((a.getD 3 d0).ll), .b true, .sl ((a.getD 0 d0).ll), .sl ((a.getD 1 d0).ll), .sl ((a.getD 2 d0).ll), .i ((a.getD 4 d0).ii), .s ((a.getD 5 d0).ss), .sl ((a.getD 6 d0).ll), .sl ((a.getD 7 d0).ll)]
 else
 .norm [.sl ((a.getD 3 d0).ll), .b (decide ((((a.getD 7 d0).ll).length : Int) > (100 : Int))), .sl ((a.getD 0 d0).ll), .sl ((a.getD 1 d0).ll), .sl ((a.getD 2 d0).ll), .i ((a.getD 4 d0).ii), .s ((a.getD 5 d0).ss), .sl ((a.getD 6 d0).ll), .sl ((a.getD 7 d0).ll)]) fun v1 =>
 if (v1.getD 1 d0).bb = true then
 .ret [.b false]
 else
 Out.andThenB (Loop E_spec_l19InputL1 [.sl ((v1.getD 0 d0).ll), .i (0 : Int), .sl ((v1.getD 2 d0).ll), .sl ((v1.getD 3 d0).ll), .sl ((v1.getD 4 d0).ll), .i ((v1.getD 5 d0).ii), .s ((v1.getD 6 d0).ss), .sl ((v1.getD 7 d0).ll), .sl ((v1.getD 8 d0).ll)]) 0 fun v8 =>
 (r_spec_RequiredIn [.sl ((v8.getD 0 d0).ll)]).bindR fun r9 =>
 Out.andThenB (Loop E_spec_l19InputL2 [.sl ((r9.getD 0 d0).ll), .i (0 : Int), .i ((v8.getD 1 d0).ii), .s ((v8.getD 2 d0).ss), .sl ((v8.getD 3 d0).ll), .sl ((v8.getD 4 d0).ll)]) 2 fun v13 =>
 .ret [.b true]
theorem eq_spec_l19Input a : r_spec_l19Input a = E_spec_l19Input a := (Run_eq cfg 24 _ a).trans (by kernel_rfl)
noncomputable def E_impl_isNull (a : List DC) : Out :=
 Out.andThen (if ((a.getD 0 d0).ii == (5 : Int)) = true then
 .norm [.b ((a.getD 1 d0).ss == ([110, 117, 108, 108] : List UInt8))]
 else
 .norm [.b false]) fun v1 =>
 .ret [.b ((v1.getD 0 d0).bb)]
theorem eq_impl_isNull a : r_impl_isNull a = E_impl_isNull a := (Run_eq cfg 29 _ a).trans (by kernel_rfl)
noncomputable def E_impl_Needed (a : List DC) : Out :=
 (r_strings_HasSuffix [.s ((a.getD 1 d0).ss), .s ([33] : List UInt8)]).bindR fun r1 =>
 .ret [.b ((r1.getD 0 d0).bb)]
theorem eq_impl_Needed a : r_impl_Needed a = E_impl_Needed a := (Run_eq cfg 30 _ a).trans (by kernel_rfl)
noncomputable def E_impl_Fewer (a : List DC) : Out :=
 (r_strings_TrimSuffix [.s ((a.getD 1 d0).ss), .s ([33] : List UInt8)]).bindR fun r1 =>
 .ret [.s ((a.getD 0 d0).ss), .s ((r1.getD 0 d0).ss)]
theorem eq_impl_Fewer a : r_impl_Fewer a = E_impl_Fewer a := (Run_eq cfg 31 _ a).trans (by kernel_rfl)
noncomputable def E_strings_HasSuffix (a : List DC) : Out :=
 (r_internal_stringslite_HasSuffix [.s ((a.getD 0 d0).ss), .s ((a.getD 1 d0).ss)]).bindR fun r1 =>
 .ret [.b ((r1.getD 0 d0).bb)]
theorem eq_strings_HasSuffix a : r_strings_HasSuffix a = E_strings_HasSuffix a := (Run_eq cfg 32 _ a).trans (by kernel_rfl)
noncomputable def E_impl_Inner (a : List DC) : Out :=
 (r_impl_Fewer [.s ((a.getD 0 d0).ss), .s ((a.getD 1 d0).ss)]).bindR fun r1 =>
 (r_strings_CutSuffix [.s ((r1.getD 1 d0).ss), .s ([93] : List UInt8)]).bindR fun r2 =>
 if (!((r2.getD 1 d0).bb)) = true then
 .ret [.s ((a.getD 0 d0).ss), .s []]
 else
 .ret [.s ((a.getD 0 d0).ss), .s ((r2.getD 0 d0).ss)]
theorem eq_impl_Inner a : r_impl_Inner a = E_impl_Inner a := (Run_eq cfg 33 _ a).trans (by kernel_rfl)
noncomputable def E_slices_ContainsFunc_impl_Value__impl_Fits_1 (a : List DC) : Out :=
 (r_slices_IndexFunc_impl_Value__impl_Fits_1 [.sl ((a.getD 0 d0).ll), .sl ((a.getD 1 d0).ll), .sl ((a.getD 2 d0).ll), .sl ((a.getD 3 d0).ll), .s ((a.getD 4 d0).ss), .s ((a.getD 5 d0).ss)]).bindR fun r1 =>
 .ret [.b (decide ((r1.getD 0 d0).ii ≥ (0 : Int))), .sl ((r1.getD 1 d0).ll), .sl ((r1.getD 2 d0).ll), .sl ((r1.getD 3 d0).ll), .s ((r1.getD 4 d0).ss), .s ((r1.getD 5 d0).ss)]
theorem eq_slices_ContainsFunc_impl_Value__impl_Fits_1 a : r_slices_ContainsFunc_impl_Value__impl_Fits_1 a = E_slices_ContainsFunc_impl_Value__impl_Fits_1 a := (Run_eq cfg 34 _ a).trans (by kernel_rfl)
noncomputable def E_impl_fitsName (a : List DC) : Out :=
 (r_impl_typeDef [.sl ((a.getD 0 d0).ll), .sl ((a.getD 1 d0).ll), .sl ((a.getD 2 d0).ll), .s ((a.getD 7 d0).ss)]).bindR fun r1 =>
 if (!((r1.getD 11 d0).bb)) = true then
 Out.andThen ((r_impl_BuiltIn [.s ((a.getD 7 d0).ss)]).bindR fun r2 =>
 if (r2.getD 0 d0).bb = true then
 (r_impl_fitsBuiltIn [.i ((a.getD 3 d0).ii), .s ((a.getD 4 d0).ss), .sl ((a.getD 5 d0).ll), .sl ((a.getD 6 d0).ll), .s ((a.getD 7 d0).ss)]).bindR fun r3 =>
 .norm [.b ((r3.getD 0 d0).bb)]
 else
 .norm [.b false]) fun v4 =>
 .ret [.b ((v4.getD 0 d0).bb)]
 else
 Out.andThenB (if ((r1.getD 0 d0).ii == (1 : Int)) = true then
 .ret [.b true]
 else
 if ((r1.getD 0 d0).ii == (5 : Int)) = true then
 Out.andThen (if ((a.getD 3 d0).ii == (6 : Int)) = true then
 (r_slices_ContainsFunc_impl_EnumDef__impl_fitsName_1 [.sl ((r1.getD 7 d0).ll), .i ((a.getD 3 d0).ii), .s ((a.getD 4 d0).ss), .sl ((a.getD 5 d0).ll), .sl ((a.getD 6 d0).ll)]).bindR fun r5 =>
 .norm [.b ((r5.getD 0 d0).bb)]
 else
 .norm [.b false]) fun v6 =>
 .ret [.b ((v6.getD 0 d0).bb)]
 else
 if ((r1.getD 0 d0).ii == (6 : Int)) = true then
 (r_impl_fitsInput [.sl ((a.getD 0 d0).ll), .sl ((a.getD 1 d0).ll), .sl ((a.getD 2 d0).ll), .i ((a.getD 3 d0).ii), .s ((a.getD 4 d0).ss), .sl ((a.getD 5 d0).ll), .sl ((a.getD 6 d0).ll), .i ((r1.getD 0 d0).ii), .b ((r1.getD 1 d0).bb), .s ((r1.getD 2 d0).ss), .s ((r1.getD 3 d0).ss), .sl ((r1.getD 4 d0).ll), .sl ((r1.getD 5 d0).ll), .sl ((r1.getD 6 d0).ll), .sl ((r1.getD 7 d0).ll), .sl ((r1.getD 8 d0).ll), .b ((r1.getD 9 d0).bb), .sl ((r1.getD 10 d0).ll)]).bindR fun r7 =>
 .ret [.b ((r7.getD 0 d0).bb)]
 else
 .norm []) 0 fun v8 =>
 .ret [.b false]
theorem eq_impl_fitsName a : r_impl_fitsName a = E_impl_fitsName a := (Run_eq cfg 36 _ a).trans (by kernel_rfl)
noncomputable def E_laws_eqDefSL1 : List DC → Out := fun v1 =>
 if (decide ((v1.getD 2 d0).ii < (((v1.getD 0 d0).ll).length : Int))) = true then
 Out.andThenB (if 64 = 64 ∧ 0 ≤ (v1.getD 2 d0).ii ∧ (v1.getD 2 d0).ii < (((v1.getD 0 d0).ll).length : Int) then
 if 64 = 64 ∧ 0 ≤ (v1.getD 2 d0).ii ∧ (v1.getD 2 d0).ii < (((v1.getD 1 d0).ll).length : Int) then
 (r_laws_eqDef [.i (((((v1.getD 0 d0).ll).getD ((v1.getD 2 d0).ii).toNat []).getD 0 d0).ii), .b (((((v1.getD 0 d0).ll).getD ((v1.getD 2 d0).ii).toNat []).getD 1 d0).bb), .s (((((v1.getD 0 d0).ll).getD ((v1.getD 2 d0).ii).toNat []).getD 2 d0).ss), .s (((((v1.getD 0 d0).ll).getD ((v1.getD 2 d0).ii).toNat []).getD 3 d0).ss), .sl (((((v1.getD 0 d0).ll).getD ((v1.getD 2 d0).ii).toNat []).getD 4 d0).ll), .sl (((((v1.getD 0 d0).ll).getD ((v1.getD 2 d0).ii).toNat []).getD 5 d0).ll), .sl (((((v1.getD 0 d0).ll).getD ((v1.getD 2 d0).ii).toNat []).getD 6 d0).ll), .sl (((((v1.getD 0 d0).ll).getD ((v1.getD 2 d0).ii).toNat []).getD 7 d0).ll), .sl (((((v1.getD 0 d0).ll).getD ((v1.getD 2 d0).ii).toNat []).getD 8 d0).ll), .b (((((v1.getD 0 d0).ll).getD ((v1.getD 2 d0).ii).toNat []).getD 9 d0).bb), .sl (((((v1.getD 0 d0).ll).getD ((v1.getD 2 d0).ii).toNat []).getD 10 d0).ll), .i (((((v1.getD 1 d0).ll).getD ((v1.getD 2 d0).ii).toNat []).getD 0 d0).ii), .b (((((v1.getD 1 d0).ll).getD ((v1.getD 2 d0).ii).toNat []).getD 1 d0).bb), .s (((((v1.getD 1 d0).ll).getD ((v1.getD 2 d0).ii).toNat []).getD 2 d0).ss), .s (((((v1.getD 1 d0).ll).getD ((v1.getD 2 d0).ii).toNat []).getD 3 d0).ss), .sl (((((v1.getD 1 d0).ll).getD ((v1.getD 2 d0).ii).toNat []).getD 4 d0).ll), .sl (((((v1.getD 1 d0).ll).getD ((v1.getD 2 d0).ii).toNat []).getD 5 d0).ll), .sl (((((v1.getD 1 d0).ll).getD ((v1.getD 2 d0).ii).toNat []).getD 6 d0).ll), .sl (((((v1.getD 1 d0).ll).getD ((v1.getD 2 d0).ii).toNat []).getD 7 d0).ll), .sl (((((v1.getD 1 d0).ll).getD ((v1.getD 2 d0).ii).toNat []).getD 8 d0).ll), .b (((((v1.getD 1 d0).ll).getD ((v1.getD 2 d0).ii).toNat []).getD 9 d0).bb), .sl (((((v1.getD 1 d0).ll).getD ((v1.getD 2 d0).ii).toNat []).getD 10 d0).ll)]).bindR fun r2 =>
 if (!((r2.getD 0 d0).bb)) = true then
 .ret [.b false]
 else
 .norm [.sl ((v1.getD 0 d0).ll), .sl ((v1.getD 1 d0).ll), .i ((v1.getD 2 d0).ii)]
 else
 .fail
 else
 .fail) 1 fun v3 =>
 .norm [.sl ((v3.getD 0 d0).ll), .sl ((v3.getD 1 d0).ll), .i (IntKind.i64.wrap ((v3.getD 2 d0).ii + (1 : Int)))]
 else
 .ex 0 []
noncomputable def E_laws_eqDefS (a : List DC) : Out :=
 if ((((a.getD 0 d0).ll).length : Int) != (((a.getD 1 d0).ll).length : Int)) = true then
 .ret [.b false]
 else
 Out.andThenB (Loop E_laws_eqDefSL1 [.sl ((a.getD 0 d0).ll), .sl ((a.getD 1 d0).ll), .i (0 : Int)]) 0 fun v4 =>
 .ret [.b true]
theorem eq_laws_eqDefS a : r_laws_eqDefS a = E_laws_eqDefS a := (Run_eq cfg 37 _ a).trans (by kernel_rfl)
noncomputable def E_laws_eqRootSL1 : List DC → Out := fun v1 =>
 if (decide ((v1.getD 2 d0).ii < (((v1.getD 0 d0).ll).length : Int))) = true then
 Out.andThenB (if 96 = 96 ∧ 0 ≤ (v1.getD 2 d0).ii ∧ (v1.getD 2 d0).ii < (((v1.getD 0 d0).ll).length : Int) then
 if 96 = 96 ∧ 0 ≤ (v1.getD 2 d0).ii ∧ (v1.getD 2 d0).ii < (((v1.getD 1 d0).ll).length : Int) then
 (r_laws_eqRoot [.i (((((v1.getD 0 d0).ll).getD ((v1.getD 2 d0).ii).toNat []).getD 0 d0).ii), .s (((((v1.getD 0 d0).ll).getD ((v1.getD 2 d0).ii).toNat []).getD 1 d0).ss), .i (((((v1.getD 1 d0).ll).getD ((v1.getD 2 d0).ii).toNat []).getD 0 d0).ii), .s (((((v1.getD 1 d0).ll).getD ((v1.getD 2 d0).ii).toNat []).getD 1 d0).ss)]).bindR fun r2 =>
 if (!((r2.getD 0 d0).bb)) = true then
 .ret [.b false]
 else
 .norm [.sl ((v1.getD 0 d0).ll), .sl ((v1.getD 1 d0).ll), .i ((v1.getD 2 d0).ii)]
 else
 .fail
 else
 .fail) 1 fun v3 =>
 .norm [.sl ((v3.getD 0 d0).ll), .sl ((v3.getD 1 d0).ll), .i (IntKind.i64.wrap ((v3.getD 2 d0).ii + (1 : Int)))]
 else
 .ex 0 []
noncomputable def E_laws_eqRootS (a : List DC) : Out :=
 if ((((a.getD 0 d0).ll).length : Int) != (((a.getD 1 d0).ll).length : Int)) = true then
 .ret [.b false]
 else
 Out.andThenB (Loop E_laws_eqRootSL1 [.sl ((a.getD 0 d0).ll), .sl ((a.getD 1 d0).ll), .i (0 : Int)]) 0 fun v4 =>
 .ret [.b true]
theorem eq_laws_eqRootS a : r_laws_eqRootS a = E_laws_eqRootS a := (Run_eq cfg 38 _ a).trans (by kernel_rfl)
noncomputable def E_laws_eqValueSL1 : List DC → Out := fun v1 =>
 if (decide ((v1.getD 2 d0).ii < (((v1.getD 0 d0).ll).length : Int))) = true then
 Out.andThenB (if 43 = 43 ∧ 0 ≤ (v1.getD 2 d0).ii ∧ (v1.getD 2 d0).ii < (((v1.getD 0 d0).ll).length : Int) then
 if 43 = 43 ∧ 0 ≤ (v1.getD 2 d0).ii ∧ (v1.getD 2 d0).ii < (((v1.getD 1 d0).ll).length : Int) then
 (r_laws_eqValue [.i (((((v1.getD 0 d0).ll).getD ((v1.getD 2 d0).ii).toNat []).getD 0 d0).ii), .s (((((v1.getD 0 d0).ll).getD ((v1.getD 2 d0).ii).toNat []).getD 1 d0).ss), .sl (((((v1.getD 0 d0).ll).getD ((v1.getD 2 d0).ii).toNat []).getD 2 d0).ll), .sl (((((v1.getD 0 d0).ll).getD ((v1.getD 2 d0).ii).toNat []).getD 3 d0).ll), .i (((((v1.getD 1 d0).ll).getD ((v1.getD 2 d0).ii).toNat []).getD 0 d0).ii), .s (((((v1.getD 1 d0).ll).getD ((v1.getD 2 d0).ii).toNat []).getD 1 d0).ss), .sl (((((v1.getD 1 d0).ll).getD ((v1.getD 2 d0).ii).toNat []).getD 2 d0).ll), .sl (((((v1.getD 1 d0).ll).getD ((v1.getD 2 d0).ii).toNat []).getD 3 d0).ll)]).bindR fun r2 =>
 if (!((r2.getD 0 d0).bb)) = true then
 .ret [.b false]
 else
 .norm [.sl ((v1.getD 0 d0).ll), .sl ((v1.getD 1 d0).ll), .i ((v1.getD 2 d0).ii)]
 else
 .fail
 else
 .fail) 1 fun v3 =>
 .norm [.sl ((v3.getD 0 d0).ll), .sl ((v3.getD 1 d0).ll), .i (IntKind.i64.wrap ((v3.getD 2 d0).ii + (1 : Int)))]
 else
 .ex 0 []
noncomputable def E_laws_eqValueS (a : List DC) : Out :=
 if ((((a.getD 0 d0).ll).length : Int) != (((a.getD 1 d0).ll).length : Int)) = true then
 .ret [.b false]
 else
 Out.andThenB (Loop E_laws_eqValueSL1 [.sl ((a.getD 0 d0).ll), .sl ((a.getD 1 d0).ll), .i (0 : Int)]) 0 fun v4 =>
 .ret [.b true]
theorem eq_laws_eqValueS a : r_laws_eqValueS a = E_laws_eqValueS a := (Run_eq cfg 39 _ a).trans (by kernel_rfl)
noncomputable def E_laws_eqStringSL1 : List DC → Out := fun v1 =>
 if (decide ((v1.getD 2 d0).ii < (((v1.getD 0 d0).ll).length : Int))) = true then
 Out.andThenB (if 9 = 9 ∧ 0 ≤ (v1.getD 2 d0).ii ∧ (v1.getD 2 d0).ii < (((v1.getD 0 d0).ll).length : Int) then
 if 9 = 9 ∧ 0 ≤ (v1.getD 2 d0).ii ∧ (v1.getD 2 d0).ii < (((v1.getD 1 d0).ll).length : Int) then
 if (!(((((v1.getD 0 d0).ll).getD ((v1.getD 2 d0).ii).toNat []).getD 0 d0).ss == ((((v1.getD 1 d0).ll).getD ((v1.getD 2 d0).ii).toNat []).getD 0 d0).ss)) = true then
 .ret [.b false]
 else
 .norm [.sl ((v1.getD 0 d0).ll), .sl ((v1.getD 1 d0).ll), .i ((v1.getD 2 d0).ii)]
 else
 .fail
 else
 .fail) 1 fun v2 =>
 .norm [.sl ((v2.getD 0 d0).ll), .sl ((v2.getD 1 d0).ll), .i (IntKind.i64.wrap ((v2.getD 2 d0).ii + (1 : Int)))]
 else
 .ex 0 []
noncomputable def E_laws_eqStringS (a : List DC) : Out :=
 if ((((a.getD 0 d0).ll).length : Int) != (((a.getD 1 d0).ll).length : Int)) = true then
 .ret [.b false]
 else
 Out.andThenB (Loop E_laws_eqStringSL1 [.sl ((a.getD 0 d0).ll), .sl ((a.getD 1 d0).ll), .i (0 : Int)]) 0 fun v3 =>
 .ret [.b true]
theorem eq_laws_eqStringS a : r_laws_eqStringS a = E_laws_eqStringS a := (Run_eq cfg 40 _ a).trans (by kernel_rfl)
noncomputable def E_laws_szDef (a : List DC) : Out :=
 if (decide ((IntKind.i64.wrap ((a.getD 11 d0).ii - (((a.getD 2 d0).ss).length : Int))) < (0 : Int))) = true then
 .ret [.i (-1 : Int)]
 else
 if (decide ((IntKind.i64.wrap ((IntKind.i64.wrap ((a.getD 11 d0).ii - (((a.getD 2 d0).ss).length : Int))) - (((a.getD 3 d0).ss).length : Int))) < (0 : Int))) = true then
 .ret [.i (-1 : Int)]
 else
 (r_laws_szStringS [.sl ((a.getD 4 d0).ll), .i (IntKind.i64.wrap ((IntKind.i64.wrap ((a.getD 11 d0).ii - (((a.getD 2 d0).ss).length : Int))) - (((a.getD 3 d0).ss).length : Int)))]).bindR fun r1 =>
 if (decide ((r1.getD 0 d0).ii < (0 : Int))) = true then
 .ret [.i (-1 : Int)]
 else
 (r_laws_szFieldDefS [.sl ((a.getD 5 d0).ll), .i ((r1.getD 0 d0).ii)]).bindR fun r2 =>
 if (decide ((r2.getD 0 d0).ii < (0 : Int))) = true then
 .ret [.i (-1 : Int)]
 else
 (r_laws_szInDefS [.sl ((a.getD 6 d0).ll), .i ((r2.getD 0 d0).ii)]).bindR fun r3 =>
 if (decide ((r3.getD 0 d0).ii < (0 : Int))) = true then
 .ret [.i (-1 : Int)]
 else
 (r_laws_szEnumDefS [.sl ((a.getD 7 d0).ll), .i ((r3.getD 0 d0).ii)]).bindR fun r4 =>
 if (decide ((r4.getD 0 d0).ii < (0 : Int))) = true then
 .ret [.i (-1 : Int)]
 else
 (r_laws_szRootS [.sl ((a.getD 8 d0).ll), .i ((r4.getD 0 d0).ii)]).bindR fun r5 =>
 if (decide ((r5.getD 0 d0).ii < (0 : Int))) = true then
 .ret [.i (-1 : Int)]
 else
 (r_laws_szDirS [.sl ((a.getD 10 d0).ll), .i ((r5.getD 0 d0).ii)]).bindR fun r6 =>
 if (decide ((r6.getD 0 d0).ii < (0 : Int))) = true then
 .ret [.i (-1 : Int)]
 else
 .ret [.i ((r6.getD 0 d0).ii)]
theorem eq_laws_szDef a : r_laws_szDef a = E_laws_szDef a := (Run_eq cfg 41 _ a).trans (by kernel_rfl)
noncomputable def E_laws_szRoot (a : List DC) : Out :=
 if (decide ((IntKind.i64.wrap ((a.getD 2 d0).ii - (((a.getD 1 d0).ss).length : Int))) < (0 : Int))) = true then
 .ret [.i (-1 : Int)]
 else
 .ret [.i (IntKind.i64.wrap ((a.getD 2 d0).ii - (((a.getD 1 d0).ss).length : Int)))]
theorem eq_laws_szRoot a : r_laws_szRoot a = E_laws_szRoot a := (Run_eq cfg 42 _ a).trans (by kernel_rfl)
noncomputable def E_laws_toDef (a : List DC) : Out :=
 (r_laws_toStringS [.sl ((a.getD 4 d0).ll)]).bindR fun r1 =>
 (r_laws_toFieldDefS [.sl ((a.getD 5 d0).ll)]).bindR fun r2 =>
 (r_laws_toInDefS [.sl ((a.getD 6 d0).ll)]).bindR fun r3 =>
 (r_laws_toEnumDefS [.sl ((a.getD 7 d0).ll)]).bindR fun r4 =>
 (r_laws_toRootS [.sl ((a.getD 8 d0).ll)]).bindR fun r5 =>
 (r_laws_toDirS [.sl ((a.getD 10 d0).ll)]).bindR fun r6 =>
 .ret [.i ((a.getD 0 d0).ii), .b ((a.getD 1 d0).bb), .s ((a.getD 2 d0).ss), .s ((a.getD 3 d0).ss), .sl ((r1.getD 0 d0).ll), .sl ((r2.getD 0 d0).ll), .sl ((r3.getD 0 d0).ll), .sl ((r4.getD 0 d0).ll), .sl ((r5.getD 0 d0).ll), .b ((a.getD 9 d0).bb), .sl ((r6.getD 0 d0).ll)]
theorem eq_laws_toDef a : r_laws_toDef a = E_laws_toDef a := (Run_eq cfg 47 _ a).trans (by kernel_rfl)
noncomputable def E_laws_toRoot (a : List DC) : Out :=
 .ret [.i ((a.getD 0 d0).ii), .s ((a.getD 1 d0).ss)]
theorem eq_laws_toRoot a : r_laws_toRoot a = E_laws_toRoot a := (Run_eq cfg 48 _ a).trans (by kernel_rfl)
noncomputable def E_spec_Fits32L1 : List DC → Out := fun v3 =>
 if (decide ((v3.getD 2 d0).ii < (((v3.getD 0 d0).ss).length : Int))) = true then
 Out.andThenB (if 0 ≤ (v3.getD 2 d0).ii ∧ (v3.getD 2 d0).ii < (((v3.getD 0 d0).ss).length : Int) then
 Out.andThen (if (((((v3.getD 0 d0).ss).getD ((v3.getD 2 d0).ii).toNat 0).toNat : Int) != (45 : Int)) = true then
 if 0 ≤ (v3.getD 2 d0).ii ∧ (v3.getD 2 d0).ii < (((v3.getD 0 d0).ss).length : Int) then
 .norm [.s ((v3.getD 0 d0).ss), .i (IntKind.i64.wrap ((IntKind.i64.wrap ((IntKind.i64.wrap ((v3.getD 1 d0).ii * (10 : Int))) + (IntKind.i64.wrap ((((v3.getD 0 d0).ss).getD ((v3.getD 2 d0).ii).toNat 0).toNat : Int)))) - (48 : Int))), .i ((v3.getD 2 d0).ii)]
 else
 .fail
 else
 .norm [.s ((v3.getD 0 d0).ss), .i ((v3.getD 1 d0).ii), .i ((v3.getD 2 d0).ii)]) fun v4 =>
 .norm [.s ((v4.getD 0 d0).ss), .i ((v4.getD 1 d0).ii), .i ((v4.getD 2 d0).ii)]
 else
 .fail) 1 fun v5 =>
 .norm [.s ((v5.getD 0 d0).ss), .i ((v5.getD 1 d0).ii), .i (IntKind.i64.wrap ((v5.getD 2 d0).ii + (1 : Int)))]
 else
 .ex 0 [.s ((v3.getD 0 d0).ss), .i ((v3.getD 1 d0).ii)]
noncomputable def E_spec_Fits32 (a : List DC) : Out :=
 Out.andThen ((r_spec_IntOk [.s ((a.getD 0 d0).ss)]).bindR fun r1 =>
 if (!((r1.getD 0 d0).bb)) = true then
 .norm [.s ((a.getD 0 d0).ss), .b true]
 else
 .norm [.s ((a.getD 0 d0).ss), .b (decide ((((a.getD 0 d0).ss).length : Int) > (11 : Int)))]) fun v2 =>
 if (v2.getD 1 d0).bb = true then
 .ret [.b false]
 else
 Out.andThenB (Loop E_spec_Fits32L1 [.s ((v2.getD 0 d0).ss), .i (0 : Int), .i (0 : Int)]) 0 fun v6 =>
 if 0 ≤ (0 : Int) ∧ (0 : Int) < (((v6.getD 0 d0).ss).length : Int) then
 if (((((v6.getD 0 d0).ss).getD (0 : Int).toNat 0).toNat : Int) == (45 : Int)) = true then
 .ret [.b (decide ((v6.getD 1 d0).ii ≤ (2147483648 : Int)))]
 else
 .ret [.b (decide ((v6.getD 1 d0).ii ≤ (2147483647 : Int)))]
 else
 .fail
theorem eq_spec_Fits32 a : r_spec_Fits32 a = E_spec_Fits32 a := (Run_eq cfg 43 _ a).trans (by kernel_rfl)
noncomputable def E_spec_InAtL1 : List DC → Out := fun v1 =>
 if (decide ((v1.getD 2 d0).ii < (((v1.getD 0 d0).ll).length : Int))) = true then
 Out.andThenB (if 93 = 93 ∧ 0 ≤ (v1.getD 2 d0).ii ∧ (v1.getD 2 d0).ii < (((v1.getD 0 d0).ll).length : Int) then
 if (((((v1.getD 0 d0).ll).getD ((v1.getD 2 d0).ii).toNat []).getD 0 d0).ss == (v1.getD 1 d0).ss) = true then
 .ret [.i ((v1.getD 2 d0).ii)]
 else
 .norm [.sl ((v1.getD 0 d0).ll), .s ((v1.getD 1 d0).ss), .i ((v1.getD 2 d0).ii)]
 else
 .fail) 1 fun v2 =>
 .norm [.sl ((v2.getD 0 d0).ll), .s ((v2.getD 1 d0).ss), .i (IntKind.i64.wrap ((v2.getD 2 d0).ii + (1 : Int)))]
 else
 .ex 0 []
noncomputable def E_spec_InAt (a : List DC) : Out :=
 Out.andThenB (Loop E_spec_InAtL1 [.sl ((a.getD 0 d0).ll), .s ((a.getD 1 d0).ss), .i (0 : Int)]) 0 fun v3 =>
 .ret [.i (-1 : Int)]
theorem eq_spec_InAt a : r_spec_InAt a = E_spec_InAt a := (Run_eq cfg 44 _ a).trans (by kernel_rfl)
noncomputable def E_spec_l18HasL1 : List DC → Out := fun v1 =>
 if (decide ((v1.getD 2 d0).ii < (((v1.getD 0 d0).ll).length : Int))) = true then
 Out.andThenB (if 9 = 9 ∧ 0 ≤ (v1.getD 2 d0).ii ∧ (v1.getD 2 d0).ii < (((v1.getD 0 d0).ll).length : Int) then
 if (((((v1.getD 0 d0).ll).getD ((v1.getD 2 d0).ii).toNat []).getD 0 d0).ss == (v1.getD 1 d0).ss) = true then
 .ret [.b true]
 else
 .norm [.sl ((v1.getD 0 d0).ll), .s ((v1.getD 1 d0).ss), .i ((v1.getD 2 d0).ii)]
 else
 .fail) 1 fun v2 =>
 .norm [.sl ((v2.getD 0 d0).ll), .s ((v2.getD 1 d0).ss), .i (IntKind.i64.wrap ((v2.getD 2 d0).ii + (1 : Int)))]
 else
 .ex 0 []
noncomputable def E_spec_l18Has (a : List DC) : Out :=
 Out.andThenB (Loop E_spec_l18HasL1 [.sl ((a.getD 0 d0).ll), .s ((a.getD 1 d0).ss), .i (0 : Int)]) 0 fun v3 =>
 .ret [.b false]
theorem eq_spec_l18Has a : r_spec_l18Has a = E_spec_l18Has a := (Run_eq cfg 45 _ a).trans (by kernel_rfl)
noncomputable def E_spec_RequiredInL1 : List DC → Out := fun v1 =>
 if (decide ((v1.getD 2 d0).ii < (((v1.getD 0 d0).ll).length : Int))) = true then
 Out.andThenB (Out.andThen (if 93 = 93 ∧ 0 ≤ (v1.getD 2 d0).ii ∧ (v1.getD 2 d0).ii < (((v1.getD 0 d0).ll).length : Int) then
 (r_spec_Needed [.s (((((v1.getD 0 d0).ll).getD ((v1.getD 2 d0).ii).toNat []).getD 2 d0).ss), .s (((((v1.getD 0 d0).ll).getD ((v1.getD 2 d0).ii).toNat []).getD 3 d0).ss)]).bindR fun r2 =>
 if (r2.getD 0 d0).bb = true then
 if 93 = 93 ∧ 0 ≤ (v1.getD 2 d0).ii ∧ (v1.getD 2 d0).ii < (((v1.getD 0 d0).ll).length : Int) then
 .norm [.sl ((v1.getD 0 d0).ll), .sl ((v1.getD 1 d0).ll), .i ((v1.getD 2 d0).ii), .b (!(((((v1.getD 0 d0).ll).getD ((v1.getD 2 d0).ii).toNat []).getD 4 d0).bb))]
 else
 .fail
 else
 .norm [.sl ((v1.getD 0 d0).ll), .sl ((v1.getD 1 d0).ll), .i ((v1.getD 2 d0).ii), .b false]
 else
 .fail) fun v3 =>
 Out.andThen (if (v3.getD 3 d0).bb = true then
 if 93 = 93 ∧ 0 ≤ (v3.getD 2 d0).ii ∧ (v3.getD 2 d0).ii < (((v3.getD 0 d0).ll).length : Int) then
 if ((v3.getD 1 d0).ll).length + [[DC.s (((((v3.getD 0 d0).ll).getD ((v3.getD 2 d0).ii).toNat []).getD 0 d0).ss)]].length < LIM then
 .norm [.sl ((v3.getD 0 d0).ll), .sl (((v3.getD 1 d0).ll) ++ [[DC.s (((((v3.getD 0 d0).ll).getD ((v3.getD 2 d0).ii).toNat []).getD 0 d0).ss)]]), .i ((v3.getD 2 d0).ii)]
 else
 .fail
 else
 .fail
 else
 .norm [.sl ((v3.getD 0 d0).ll), .sl ((v3.getD 1 d0).ll), .i ((v3.getD 2 d0).ii)]) fun v4 =>
 .norm [.sl ((v4.getD 0 d0).ll), .sl ((v4.getD 1 d0).ll), .i ((v4.getD 2 d0).ii)]) 1 fun v5 =>
 .norm [.sl ((v5.getD 0 d0).ll), .sl ((v5.getD 1 d0).ll), .i (IntKind.i64.wrap ((v5.getD 2 d0).ii + (1 : Int)))]
 else
 .ex 0 [.sl ((v1.getD 1 d0).ll)]
noncomputable def E_spec_RequiredIn (a : List DC) : Out :=
 Out.andThenB (Loop E_spec_RequiredInL1 [.sl ((a.getD 0 d0).ll), .sl [], .i (0 : Int)]) 0 fun v6 =>
 .ret [.sl ((v6.getD 0 d0).ll)]
theorem eq_spec_RequiredIn a : r_spec_RequiredIn a = E_spec_RequiredIn a := (Run_eq cfg 46 _ a).trans (by kernel_rfl)
noncomputable def E_strings_TrimSuffix (a : List DC) : Out :=
 (r_internal_stringslite_TrimSuffix [.s ((a.getD 0 d0).ss), .s ((a.getD 1 d0).ss)]).bindR fun r1 =>
 .ret [.s ((r1.getD 0 d0).ss)]
theorem eq_strings_TrimSuffix a : r_strings_TrimSuffix a = E_strings_TrimSuffix a := (Run_eq cfg 49 _ a).trans (by kernel_rfl)
noncomputable def E_internal_stringslite_HasSuffix (a : List DC) : Out :=
 Out.andThen (if (decide ((((a.getD 0 d0).ss).length : Int) ≥ (((a.getD 1 d0).ss).length : Int))) = true then
 if 0 ≤ (IntKind.i64.wrap ((((a.getD 0 d0).ss).length : Int) - (((a.getD 1 d0).ss).length : Int))) ∧ (IntKind.i64.wrap ((((a.getD 0 d0).ss).length : Int) - (((a.getD 1 d0).ss).length : Int))) ≤ (((a.getD 0 d0).ss).length : Int) then
 .norm [.b ((((a.getD 0 d0).ss).drop (IntKind.i64.wrap ((((a.getD 0 d0).ss).length : Int) - (((a.getD 1 d0).ss).length : Int))).toNat) == (a.getD 1 d0).ss)]
 else
 .fail
 else
 .norm [.b false]) fun v1 =>
 .ret [.b ((v1.getD 0 d0).bb)]
theorem eq_internal_stringslite_HasSuffix a : r_internal_stringslite_HasSuffix a = E_internal_stringslite_HasSuffix a := (Run_eq cfg 50 _ a).trans (by kernel_rfl)
noncomputable def E_strings_CutSuffix (a : List DC) : Out :=
 (r_internal_stringslite_CutSuffix [.s ((a.getD 0 d0).ss), .s ((a.getD 1 d0).ss)]).bindR fun r1 =>
 .ret [.s ((r1.getD 0 d0).ss), .b ((r1.getD 1 d0).bb)]
theorem eq_strings_CutSuffix a : r_strings_CutSuffix a = E_strings_CutSuffix a := (Run_eq cfg 51 _ a).trans (by kernel_rfl)
noncomputable def E_slices_IndexFunc_impl_Value__impl_Fits_1L1 : List DC → Out := fun v1 =>
 if (decide ((v1.getD 2 d0).ii < (v1.getD 1 d0).ii)) = true then
 Out.andThenB (if 43 = 43 ∧ 0 ≤ (v1.getD 2 d0).ii ∧ (v1.getD 2 d0).ii < (((v1.getD 0 d0).ll).length : Int) then
 (r_impl_Fits_1 [.i (((((v1.getD 0 d0).ll).getD ((v1.getD 2 d0).ii).toNat []).getD 0 d0).ii), .s (((((v1.getD 0 d0).ll).getD ((v1.getD 2 d0).ii).toNat []).getD 1 d0).ss), .sl (((((v1.getD 0 d0).ll).getD ((v1.getD 2 d0).ii).toNat []).getD 2 d0).ll), .sl (((((v1.getD 0 d0).ll).getD ((v1.getD 2 d0).ii).toNat []).getD 3 d0).ll), .sl ((v1.getD 3 d0).ll), .sl ((v1.getD 4 d0).ll), .sl ((v1.getD 5 d0).ll), .s ((v1.getD 6 d0).ss), .s ((v1.getD 7 d0).ss)]).bindR fun r2 =>
 if (r2.getD 0 d0).bb = true then
 .ret [.i ((v1.getD 2 d0).ii), .sl ((r2.getD 1 d0).ll), .sl ((r2.getD 2 d0).ll), .sl ((r2.getD 3 d0).ll), .s ((r2.getD 4 d0).ss), .s ((r2.getD 5 d0).ss)]
 else
 .norm [.sl ((v1.getD 0 d0).ll), .i ((v1.getD 1 d0).ii), .i ((v1.getD 2 d0).ii), .sl ((r2.getD 1 d0).ll), .sl ((r2.getD 2 d0).ll), .sl ((r2.getD 3 d0).ll), .s ((r2.getD 4 d0).ss), .s ((r2.getD 5 d0).ss)]
 else
 .fail) 1 fun v3 =>
 .norm [.sl ((v3.getD 0 d0).ll), .i ((v3.getD 1 d0).ii), .i (IntKind.i64.wrap ((v3.getD 2 d0).ii + (1 : Int))), .sl ((v3.getD 3 d0).ll), .sl ((v3.getD 4 d0).ll), .sl ((v3.getD 5 d0).ll), .s ((v3.getD 6 d0).ss), .s ((v3.getD 7 d0).ss)]
 else
 .ex 0 [.sl ((v1.getD 3 d0).ll), .sl ((v1.getD 4 d0).ll), .sl ((v1.getD 5 d0).ll), .s ((v1.getD 6 d0).ss), .s ((v1.getD 7 d0).ss)]
noncomputable def E_slices_IndexFunc_impl_Value__impl_Fits_1 (a : List DC) : Out :=
 Out.andThenB (Loop E_slices_IndexFunc_impl_Value__impl_Fits_1L1 [.sl ((a.getD 0 d0).ll), .i (((a.getD 0 d0).ll).length : Int), .i (0 : Int), .sl ((a.getD 1 d0).ll), .sl ((a.getD 2 d0).ll), .sl ((a.getD 3 d0).ll), .s ((a.getD 4 d0).ss), .s ((a.getD 5 d0).ss)]) 0 fun v4 =>
 .ret [.i (-1 : Int), .sl ((v4.getD 0 d0).ll), .sl ((v4.getD 1 d0).ll), .sl ((v4.getD 2 d0).ll), .s ((v4.getD 3 d0).ss), .s ((v4.getD 4 d0).ss)]
theorem eq_slices_IndexFunc_impl_Value__impl_Fits_1 a : r_slices_IndexFunc_impl_Value__impl_Fits_1 a = E_slices_IndexFunc_impl_Value__impl_Fits_1 a := (Run_eq cfg 52 _ a).trans (by kernel_rfl)
noncomputable def E_impl_typeDef (a : List DC) : Out :=
 (r_impl_TypeAt [.sl ((a.getD 0 d0).ll), .sl ((a.getD 1 d0).ll), .sl ((a.getD 2 d0).ll), .s ((a.getD 3 d0).ss)]).bindR fun r1 =>
 if (decide ((r1.getD 0 d0).ii < (0 : Int))) = true then
 .ret [.i (0 : Int), .b false, .s [], .s [], .sl [], .sl [], .sl [], .sl [], .sl [], .b false, .sl [], .b false]
 else
 if 64 = 64 ∧ 0 ≤ (r1.getD 0 d0).ii ∧ (r1.getD 0 d0).ii < (((a.getD 0 d0).ll).length : Int) then
 .ret [.i (((((a.getD 0 d0).ll).getD ((r1.getD 0 d0).ii).toNat []).getD 0 d0).ii), .b (((((a.getD 0 d0).ll).getD ((r1.getD 0 d0).ii).toNat []).getD 1 d0).bb), .s (((((a.getD 0 d0).ll).getD ((r1.getD 0 d0).ii).toNat []).getD 2 d0).ss), .s (((((a.getD 0 d0).ll).getD ((r1.getD 0 d0).ii).toNat []).getD 3 d0).ss), .sl (((((a.getD 0 d0).ll).getD ((r1.getD 0 d0).ii).toNat []).getD 4 d0).ll), .sl (((((a.getD 0 d0).ll).getD ((r1.getD 0 d0).ii).toNat []).getD 5 d0).ll), .sl (((((a.getD 0 d0).ll).getD ((r1.getD 0 d0).ii).toNat []).getD 6 d0).ll), .sl (((((a.getD 0 d0).ll).getD ((r1.getD 0 d0).ii).toNat []).getD 7 d0).ll), .sl (((((a.getD 0 d0).ll).getD ((r1.getD 0 d0).ii).toNat []).getD 8 d0).ll), .b (((((a.getD 0 d0).ll).getD ((r1.getD 0 d0).ii).toNat []).getD 9 d0).bb), .sl (((((a.getD 0 d0).ll).getD ((r1.getD 0 d0).ii).toNat []).getD 10 d0).ll), .b true]
 else
 .fail
theorem eq_impl_typeDef a : r_impl_typeDef a = E_impl_typeDef a := (Run_eq cfg 53 _ a).trans (by kernel_rfl)
noncomputable def E_impl_BuiltIn (a : List DC) : Out :=
 Out.andThenB (Out.andThen (if ((a.getD 0 d0).ss == ([73, 110, 116] : List UInt8)) = true then
 .norm [.b ((a.getD 0 d0).ss == ([73, 110, 116] : List UInt8))]
 else
 Out.andThen (if ((a.getD 0 d0).ss == ([70, 108, 111, 97, 116] : List UInt8)) = true then
 .norm [.b ((a.getD 0 d0).ss == ([70, 108, 111, 97, 116] : List UInt8))]
 else
 Out.andThen (if ((a.getD 0 d0).ss == ([83, 116, 114, 105, 110, 103] : List UInt8)) = true then
 .norm [.b ((a.getD 0 d0).ss == ([83, 116, 114, 105, 110, 103] : List UInt8))]
 else
 Out.andThen (if ((a.getD 0 d0).ss == ([66, 111, 111, 108, 101, 97, 110] : List UInt8)) = true then
 .norm [.b ((a.getD 0 d0).ss == ([66, 111, 111, 108, 101, 97, 110] : List UInt8))]
 else
 .norm [.b ((a.getD 0 d0).ss == ([73, 68] : List UInt8))]) fun v1 =>
 .norm [.b ((v1.getD 0 d0).bb)]) fun v2 =>
 .norm [.b ((v2.getD 0 d0).bb)]) fun v3 =>
 .norm [.b ((v3.getD 0 d0).bb)]) fun v4 =>
 if (v4.getD 0 d0).bb = true then
 .ret [.b true]
 else
 .norm []) 0 fun v5 =>
 .ret [.b false]
theorem eq_impl_BuiltIn a : r_impl_BuiltIn a = E_impl_BuiltIn a := (Run_eq cfg 54 _ a).trans (by kernel_rfl)
noncomputable def E_impl_fitsBuiltIn (a : List DC) : Out :=
 Out.andThenB (if ((a.getD 4 d0).ss == ([73, 110, 116] : List UInt8)) = true then
 Out.andThen (if ((a.getD 0 d0).ii == (2 : Int)) = true then
 (r_impl_Fits32 [.s ((a.getD 1 d0).ss)]).bindR fun r1 =>
 .norm [.b ((r1.getD 0 d0).bb)]
 else
 .norm [.b false]) fun v2 =>
 .ret [.b ((v2.getD 0 d0).bb)]
 else
 if ((a.getD 4 d0).ss == ([70, 108, 111, 97, 116] : List UInt8)) = true then
 Out.andThen (if ((a.getD 0 d0).ii == (2 : Int)) = true then
 .norm [.b true]
 else
 .norm [.b ((a.getD 0 d0).ii == (3 : Int))]) fun v3 =>
 .ret [.b ((v3.getD 0 d0).bb)]
 else
 if ((a.getD 4 d0).ss == ([83, 116, 114, 105, 110, 103] : List UInt8)) = true then
 .ret [.b ((a.getD 0 d0).ii == (4 : Int))]
 else
 if ((a.getD 4 d0).ss == ([66, 111, 111, 108, 101, 97, 110] : List UInt8)) = true then
 Out.andThen (if ((a.getD 0 d0).ii == (5 : Int)) = true then
 if ((a.getD 1 d0).ss == ([116, 114, 117, 101] : List UInt8)) = true then
 .norm [.b true]
 else
 .norm [.b ((a.getD 1 d0).ss == ([102, 97, 108, 115, 101] : List UInt8))]
 else
 .norm [.b false]) fun v4 =>
 .ret [.b ((v4.getD 0 d0).bb)]
 else
 .norm [.i ((a.getD 0 d0).ii), .s ((a.getD 1 d0).ss), .sl ((a.getD 2 d0).ll), .sl ((a.getD 3 d0).ll)]) 0 fun v5 =>
 Out.andThen (if ((v5.getD 0 d0).ii == (2 : Int)) = true then
 .norm [.b true]
 else
 .norm [.b ((v5.getD 0 d0).ii == (4 : Int))]) fun v6 =>
 .ret [.b ((v6.getD 0 d0).bb)]
theorem eq_impl_fitsBuiltIn a : r_impl_fitsBuiltIn a = E_impl_fitsBuiltIn a := (Run_eq cfg 55 _ a).trans (by kernel_rfl)
noncomputable def E_slices_ContainsFunc_impl_EnumDef__impl_fitsName_1 (a : List DC) : Out :=
 (r_slices_IndexFunc_impl_EnumDef__impl_fitsName_1 [.sl ((a.getD 0 d0).ll), .i ((a.getD 1 d0).ii), .s ((a.getD 2 d0).ss), .sl ((a.getD 3 d0).ll), .sl ((a.getD 4 d0).ll)]).bindR fun r1 =>
 .ret [.b (decide ((r1.getD 0 d0).ii ≥ (0 : Int))), .i ((r1.getD 1 d0).ii), .s ((r1.getD 2 d0).ss), .sl ((r1.getD 3 d0).ll), .sl ((r1.getD 4 d0).ll)]
theorem eq_slices_ContainsFunc_impl_EnumDef__impl_fitsName_1 a : r_slices_ContainsFunc_impl_EnumDef__impl_fitsName_1 a = E_slices_ContainsFunc_impl_EnumDef__impl_fitsName_1 a := (Run_eq cfg 56 _ a).trans (by kernel_rfl)
noncomputable def E_impl_fitsInputL1 : List DC → Out := fun v2 =>
 if (decide ((v2.getD 2 d0).ii < (v2.getD 1 d0).ii)) = true then
 Out.andThenB (if 9 = 9 ∧ 0 ≤ (v2.getD 2 d0).ii ∧ (v2.getD 2 d0).ii < (((v2.getD 0 d0).ll).length : Int) then
 (r_impl_InAt [.sl ((v2.getD 16 d0).ll), .s (((((v2.getD 0 d0).ll).getD ((v2.getD 2 d0).ii).toNat []).getD 0 d0).ss)]).bindR fun r3 =>
 Out.andThen (if (decide ((r3.getD 0 d0).ii < (0 : Int))) = true then
 .norm [.sl ((v2.getD 0 d0).ll), .i ((v2.getD 1 d0).ii), .i ((v2.getD 2 d0).ii), .b true, .sl ((v2.getD 3 d0).ll), .sl ((v2.getD 4 d0).ll), .sl ((v2.getD 5 d0).ll), .i ((v2.getD 6 d0).ii), .s ((v2.getD 7 d0).ss), .sl ((v2.getD 8 d0).ll), .sl ((v2.getD 9 d0).ll), .i ((v2.getD 10 d0).ii), .b ((v2.getD 11 d0).bb), .s ((v2.getD 12 d0).ss), .s ((v2.getD 13 d0).ss), .sl ((v2.getD 14 d0).ll), .sl ((v2.getD 15 d0).ll), .sl ((v2.getD 16 d0).ll), .sl ((v2.getD 17 d0).ll), .sl ((v2.getD 18 d0).ll), .b ((v2.getD 19 d0).bb), .sl ((v2.getD 20 d0).ll)]
 else
 if 0 ≤ (v2.getD 2 d0).ii ∧ (v2.getD 2 d0).ii ≤ (((v2.getD 9 d0).ll).length : Int) then
 (r_slices_Contains_string [.sl (((v2.getD 9 d0).ll).take ((v2.getD 2 d0).ii).toNat), .s (((((v2.getD 0 d0).ll).getD ((v2.getD 2 d0).ii).toNat []).getD 0 d0).ss)]).bindR fun r4 =>
 if (r4.getD 0 d0).bb = true then
 .norm [.sl ((v2.getD 0 d0).ll), .i ((v2.getD 1 d0).ii), .i ((v2.getD 2 d0).ii), .b true, .sl ((v2.getD 3 d0).ll), .sl ((v2.getD 4 d0).ll), .sl ((v2.getD 5 d0).ll), .i ((v2.getD 6 d0).ii), .s ((v2.getD 7 d0).ss), .sl ((v2.getD 8 d0).ll), .sl ((v2.getD 9 d0).ll), .i ((v2.getD 10 d0).ii), .b ((v2.getD 11 d0).bb), .s ((v2.getD 12 d0).ss), .s ((v2.getD 13 d0).ss), .sl ((v2.getD 14 d0).ll), .sl ((v2.getD 15 d0).ll), .sl ((v2.getD 16 d0).ll), .sl ((v2.getD 17 d0).ll), .sl ((v2.getD 18 d0).ll), .b ((v2.getD 19 d0).bb), .sl ((v2.getD 20 d0).ll)]
 else
 if 43 = 43 ∧ 0 ≤ (v2.getD 2 d0).ii ∧ (v2.getD 2 d0).ii < (((v2.getD 8 d0).ll).length : Int) then
 if 93 = 93 ∧ 0 ≤ (r3.getD 0 d0).ii ∧ (r3.getD 0 d0).ii < (((v2.getD 16 d0).ll).length : Int) then
 (r_impl_Fits [.sl ((v2.getD 3 d0).ll), .sl ((v2.getD 4 d0).ll), .sl ((v2.getD 5 d0).ll), .i (((((v2.getD 8 d0).ll).getD ((v2.getD 2 d0).ii).toNat []).getD 0 d0).ii), .s (((((v2.getD 8 d0).ll).getD ((v2.getD 2 d0).ii).toNat []).getD 1 d0).ss), .sl (((((v2.getD 8 d0).ll).getD ((v2.getD 2 d0).ii).toNat []).getD 2 d0).ll), .sl (((((v2.getD 8 d0).ll).getD ((v2.getD 2 d0).ii).toNat []).getD 3 d0).ll), .s (((((v2.getD 16 d0).ll).getD ((r3.getD 0 d0).ii).toNat []).getD 2 d0).ss), .s (((((v2.getD 16 d0).ll).getD ((r3.getD 0 d0).ii).toNat []).getD 3 d0).ss)]).bindR fun r5 =>
 .norm [.sl ((v2.getD 0 d0).ll), .i ((v2.getD 1 d0).ii), .i ((v2.getD 2 d0).ii), .b (!((r5.getD 0 d0).bb)), .sl ((v2.getD 3 d0).ll), .sl ((v2.getD 4 d0).ll), .sl ((v2.getD 5 d0).ll), .i ((v2.getD 6 d0).ii), .s ((v2.getD 7 d0).ss), .sl ((v2.getD 8 d0).ll), .sl ((v2.getD 9 d0).ll), .i ((v2.getD 10 d0).ii), .b ((v2.getD 11 d0).bb), .s ((v2.getD 12 d0).ss), .s ((v2.getD 13 d0).ss), .sl ((v2.getD 14 d0).ll), .sl ((v2.getD 15 d0).ll), .sl ((v2.getD 16 d0).ll), .sl ((v2.getD 17 d0).ll), .sl ((v2.getD 18 d0).ll), .b ((v2.getD 19 d0).bb), .sl ((v2.getD 20 d0).ll)]
 else
 .fail
 else
 .fail
 else
 .fail) fun v6 =>
 if (v6.getD 3 d0).bb = true then
 .ret [.b false]
 else
 .norm [.sl ((v6.getD 0 d0).ll), .i ((v6.getD 1 d0).ii), .i ((v6.getD 2 d0).ii), .sl ((v6.getD 4 d0).ll), .sl ((v6.getD 5 d0).ll), .sl ((v6.getD 6 d0).ll), .i ((v6.getD 7 d0).ii), .s ((v6.getD 8 d0).ss), .sl ((v6.getD 9 d0).ll), .sl ((v6.getD 10 d0).ll), .i ((v6.getD 11 d0).ii), .b ((v6.getD 12 d0).bb), .s ((v6.getD 13 d0).ss), .s ((v6.getD 14 d0).ss), .sl ((v6.getD 15 d0).ll), .sl ((v6.getD 16 d0).ll), .sl ((v6.getD 17 d0).ll), .sl ((v6.getD 18 d0).ll), .sl ((v6.getD 19 d0).ll), .b ((v6.getD 20 d0).bb), .sl ((v6.getD 21 d0).ll)]
 else
 .fail) 1 fun v7 =>
 .norm [.sl ((v7.getD 0 d0).ll), .i ((v7.getD 1 d0).ii), .i (IntKind.i64.wrap ((v7.getD 2 d0).ii + (1 : Int))), .sl ((v7.getD 3 d0).ll), .sl ((v7.getD 4 d0).ll), .sl ((v7.getD 5 d0).ll), .i ((v7.getD 6 d0).ii), .s ((v7.getD 7 d0).ss), .sl ((v7.getD 8 d0).ll), .sl ((v7.getD 9 d0).ll), .i ((v7.getD 10 d0).ii), .b ((v7.getD 11 d0).bb), .s ((v7.getD 12 d0).ss), .s ((v7.getD 13 d0).ss), .sl ((v7.getD 14 d0).ll), .sl ((v7.getD 15 d0).ll), .sl ((v7.getD 16 d0).ll), .sl ((v7.getD 17 d0).ll), .sl ((v7.getD 18 d0).ll), .b ((v7.getD 19 d0).bb), .sl ((v7.getD 20 d0).ll)]
 else
 .ex 0 [.i ((v2.getD 6 d0).ii), .s ((v2.getD 7 d0).ss), .sl ((v2.getD 8 d0).ll), .sl ((v2.getD 9 d0).ll), .i ((v2.getD 10 d0).ii), .b ((v2.getD 11 d0).bb), .s ((v2.getD 12 d0).ss), .s ((v2.getD 13 d0).ss), .sl ((v2.getD 14 d0).ll), .sl ((v2.getD 15 d0).ll), .sl ((v2.getD 16 d0).ll), .sl ((v2.getD 17 d0).ll), .sl ((v2.getD 18 d0).ll), .b ((v2.getD 19 d0).bb), .sl ((v2.getD 20 d0).ll)]
noncomputable def E_impl_fitsInput (a : List DC) : Out :=
 Out.andThen (if ((a.getD 3 d0).ii != (8 : Int)) = true then
 .norm [.b true, .sl ((a.getD 0 d0).ll), .sl ((a.getD 1 d0).ll), .sl ((a.getD 2 d0).ll), .i ((a.getD 3 d0).ii), .s ((a.getD 4 d0).ss), .sl ((a.getD 5 d0).ll), .sl ((a.getD 6 d0).ll), .i ((a.getD 7 d0).ii), .b ((a.getD 8 d0).bb), .s ((a.getD 9 d0).ss), .s ((a.getD 10 d0).ss), .sl ((a.getD 11 d0).ll), .sl ((a.getD 12 d0).ll), .sl ((a.getD 13 d0).ll), .sl ((a.getD 14 d0).ll), .sl ((a.getD 15 d0).ll), .b ((a.getD 16 d0).bb), .sl ((a.getD 17 d0).ll)]
 else
 if ((((a.getD 6 d0).ll).length : Int) != (((a.getD 5 d0).ll).length : Int)) = true then
 .norm [.b true, .sl ((a.getD 0 d0).ll), .sl ((a.getD 1 d0).ll), .sl ((a.getD 2 d0).ll), .i ((a.getD 3 d0).ii), .s ((a.getD 4 d0).ss), .sl ((a.getD 5 d0).ll), .sl ((a.getD 6 d0).ll), .i ((a.getD 7 d0).ii), .b ((a.getD 8 d0).bb), .s ((a.getD 9 d0).ss), .s ((a.getD 10 d0).ss), .sl ((a.getD 11 d0).ll), .sl ((a.getD 12 d0).ll), .sl ((a.getD 13 d0).ll), .sl ((a.getD 14 d0).ll), .sl ((a.getD 15 d0).ll), .b ((a.getD 16 d0).bb), .sl ((a.getD 17 d0).ll)]
 else
 .norm [.b (decide ((((a.getD 5 d0).ll).length : Int) > (100 : Int))), .sl ((a.getD 0 d0).ll), .sl ((a.getD 1 d0).ll), .sl ((a.getD 2 d0).ll), .i ((a.getD 3 d0).ii), .s ((a.getD 4 d0).ss), .sl ((a.getD 5 d0).ll), .sl ((a.getD 6 d0).ll), .i ((a.getD 7 d0).ii), .b ((a.getD 8 d0).bb), .s ((a.getD 9 d0).ss), .s ((a.getD 10 d0).ss), .sl ((a.getD 11 d0).ll), .sl ((a.getD 12 d0).ll), .sl ((a.getD 13 d0).ll), .sl ((a.getD 14 d0).ll), .sl ((a.getD 15 d0).ll), .b ((a.getD 16 d0).bb), .sl ((a.getD 17 d0).ll)]) fun v1 =>
 if (v1.getD 0 d0).bb = true then
 .ret [.b false]
 else
 Out.andThenB (Loop E_impl_fitsInputL1 [.sl ((v1.getD 7 d0).ll), .i (((v1.getD 7 d0).ll).length : Int), .i (0 : Int), .sl ((v1.getD 1 d0).ll), .sl ((v1.getD 2 d0).ll), .sl ((v1.getD 3 d0).ll), .i ((v1.getD 4 d0).ii), .s ((v1.getD 5 d0).ss), .sl ((v1.getD 6 d0).ll), .sl ((v1.getD 7 d0).ll), .i ((v1.getD 8 d0).ii), .b ((v1.getD 9 d0).bb), .s ((v1.getD 10 d0).ss), .s ((v1.getD 11 d0).ss), .sl ((v1.getD 12 d0).ll), .sl ((v1.getD 13 d0).ll), .sl ((v1.getD 14 d0).ll), .sl ((v1.getD 15 d0).ll), .sl ((v1.getD 16 d0).ll), .b ((v1.getD 17 d0).bb), .sl ((v1.getD 18 d0).ll)]) 0 fun v8 =>
 (r_impl_RequiredIn [.sl ((v8.getD 10 d0).ll)]).bindR fun r9 =>
 (r_slices_ContainsFunc_string__impl_fitsInput_1 [.sl ((r9.getD 0 d0).ll), .i ((v8.getD 0 d0).ii), .s ((v8.getD 1 d0).ss), .sl ((v8.getD 2 d0).ll), .sl ((v8.getD 3 d0).ll)]).bindR fun r10 =>
 .ret [.b (!((r10.getD 0 d0).bb))]
theorem eq_impl_fitsInput a : r_impl_fitsInput a = E_impl_fitsInput a := (Run_eq cfg 58 _ a).trans (by kernel_rfl)
noncomputable def E_laws_eqDef (a : List DC) : Out :=
 if ((a.getD 0 d0).ii != (a.getD 11 d0).ii) = true then
 .ret [.b false]
 else
 if (!((a.getD 1 d0).bb == (a.getD 12 d0).bb)) = true then
 .ret [.b false]
 else
 if (!((a.getD 2 d0).ss == (a.getD 13 d0).ss)) = true then
 .ret [.b false]
 else
 if (!((a.getD 3 d0).ss == (a.getD 14 d0).ss)) = true then
 .ret [.b false]
 else
 (r_laws_eqStringS [.sl ((a.getD 4 d0).ll), .sl ((a.getD 15 d0).ll)]).bindR fun r1 =>
 if (!((r1.getD 0 d0).bb)) = true then
 .ret [.b false]
 else
 (r_laws_eqFieldDefS [.sl ((a.getD 5 d0).ll), .sl ((a.getD 16 d0).ll)]).bindR fun r2 =>
 if (!((r2.getD 0 d0).bb)) = true then
 .ret [.b false]
 else
 (r_laws_eqInDefS [.sl ((a.getD 6 d0).ll), .sl ((a.getD 17 d0).ll)]).bindR fun r3 =>
 if (!((r3.getD 0 d0).bb)) = true then
 .ret [.b false]
 else
 (r_laws_eqEnumDefS [.sl ((a.getD 7 d0).ll), .sl ((a.getD 18 d0).ll)]).bindR fun r4 =>
 if (!((r4.getD 0 d0).bb)) = true then
 .ret [.b false]
 else
 (r_laws_eqRootS [.sl ((a.getD 8 d0).ll), .sl ((a.getD 19 d0).ll)]).bindR fun r5 =>
 if (!((r5.getD 0 d0).bb)) = true then
 .ret [.b false]
 else
 if (!((a.getD 9 d0).bb == (a.getD 20 d0).bb)) = true then
 .ret [.b false]
 else
 (r_laws_eqDirS [.sl ((a.getD 10 d0).ll), .sl ((a.getD 21 d0).ll)]).bindR fun r6 =>
 if (!((r6.getD 0 d0).bb)) = true then
 .ret [.b false]
 else
 .ret [.b true]
theorem eq_laws_eqDef a : r_laws_eqDef a = E_laws_eqDef a := (Run_eq cfg 59 _ a).trans (by kernel_rfl)
noncomputable def E_laws_eqRoot (a : List DC) : Out :=
 if ((a.getD 0 d0).ii != (a.getD 2 d0).ii) = true then
 .ret [.b false]
 else
 if (!((a.getD 1 d0).ss == (a.getD 3 d0).ss)) = true then
 .ret [.b false]
 else
 .ret [.b true]
theorem eq_laws_eqRoot a : r_laws_eqRoot a = E_laws_eqRoot a := (Run_eq cfg 60 _ a).trans (by kernel_rfl)
noncomputable def E_laws_szFieldDefSL1 : List DC → Out := fun v1 =>
 if (decide ((v1.getD 2 d0).ii < (((v1.getD 0 d0).ll).length : Int))) = true then
 Out.andThenB (if 126 = 126 ∧ 0 ≤ (v1.getD 2 d0).ii ∧ (v1.getD 2 d0).ii < (((v1.getD 0 d0).ll).length : Int) then
 (r_laws_szFieldDef [.s (((((v1.getD 0 d0).ll).getD ((v1.getD 2 d0).ii).toNat []).getD 0 d0).ss), .s (((((v1.getD 0 d0).ll).getD ((v1.getD 2 d0).ii).toNat []).getD 1 d0).ss), .sl (((((v1.getD 0 d0).ll).getD ((v1.getD 2 d0).ii).toNat []).getD 2 d0).ll), .s (((((v1.getD 0 d0).ll).getD ((v1.getD 2 d0).ii).toNat []).getD 3 d0).ss), .s (((((v1.getD 0 d0).ll).getD ((v1.getD 2 d0).ii).toNat []).getD 4 d0).ss), .sl (((((v1.getD 0 d0).ll).getD ((v1.getD 2 d0).ii).toNat []).getD 5 d0).ll), .i ((v1.getD 1 d0).ii)]).bindR fun r2 =>
 if (decide ((r2.getD 0 d0).ii < (0 : Int))) = true then
 .ret [.i (-1 : Int)]
 else
 .norm [.sl ((v1.getD 0 d0).ll), .i ((r2.getD 0 d0).ii), .i ((v1.getD 2 d0).ii)]
 else
 .fail) 1 fun v3 =>
 .norm [.sl ((v3.getD 0 d0).ll), .i ((v3.getD 1 d0).ii), .i (IntKind.i64.wrap ((v3.getD 2 d0).ii + (1 : Int)))]
 else
 .ex 0 [.i ((v1.getD 1 d0).ii)]
noncomputable def E_laws_szFieldDefS (a : List DC) : Out :=
 if (decide ((IntKind.i64.wrap ((a.getD 1 d0).ii - (((a.getD 0 d0).ll).length : Int))) < (0 : Int))) = true then
 .ret [.i (-1 : Int)]
 else
 Out.andThenB (Loop E_laws_szFieldDefSL1 [.sl ((a.getD 0 d0).ll), .i (IntKind.i64.wrap ((a.getD 1 d0).ii - (((a.getD 0 d0).ll).length : Int))), .i (0 : Int)]) 0 fun v4 =>
 .ret [.i ((v4.getD 0 d0).ii)]
theorem eq_laws_szFieldDefS a : r_laws_szFieldDefS a = E_laws_szFieldDefS a := (Run_eq cfg 61 _ a).trans (by kernel_rfl)
noncomputable def E_laws_szInDefSL1 : List DC → Out := fun v1 =>
 if (decide ((v1.getD 2 d0).ii < (((v1.getD 0 d0).ll).length : Int))) = true then
 Out.andThenB (if 129 = 129 ∧ 0 ≤ (v1.getD 2 d0).ii ∧ (v1.getD 2 d0).ii < (((v1.getD 0 d0).ll).length : Int) then
 (r_laws_szInDef [.s (((((v1.getD 0 d0).ll).getD ((v1.getD 2 d0).ii).toNat []).getD 0 d0).ss), .s (((((v1.getD 0 d0).ll).getD ((v1.getD 2 d0).ii).toNat []).getD 1 d0).ss), .s (((((v1.getD 0 d0).ll).getD ((v1.getD 2 d0).ii).toNat []).getD 2 d0).ss), .s (((((v1.getD 0 d0).ll).getD ((v1.getD 2 d0).ii).toNat []).getD 3 d0).ss), .b (((((v1.getD 0 d0).ll).getD ((v1.getD 2 d0).ii).toNat []).getD 4 d0).bb), .i (((((v1.getD 0 d0).ll).getD ((v1.getD 2 d0).ii).toNat []).getD 5 d0).ii), .s (((((v1.getD 0 d0).ll).getD ((v1.getD 2 d0).ii).toNat []).getD 6 d0).ss), .sl (((((v1.getD 0 d0).ll).getD ((v1.getD 2 d0).ii).toNat []).getD 7 d0).ll), .sl (((((v1.getD 0 d0).ll).getD ((v1.getD 2 d0).ii).toNat []).getD 8 d0).ll), .sl (((((v1.getD 0 d0).ll).getD ((v1.getD 2 d0).ii).toNat []).getD 9 d0).ll), .i ((v1.getD 1 d0).ii)]).bindR fun r2 =>
 if (decide ((r2.getD 0 d0).ii < (0 : Int))) = true then
 .ret [.i (-1 : Int)]
 else
 .norm [.sl ((v1.getD 0 d0).ll), .i ((r2.getD 0 d0).ii), .i ((v1.getD 2 d0).ii)]
 else
 .fail) 1 fun v3 =>
 .norm [.sl ((v3.getD 0 d0).ll), .i ((v3.getD 1 d0).ii), .i (IntKind.i64.wrap ((v3.getD 2 d0).ii + (1 : Int)))]
 else
 .ex 0 [.i ((v1.getD 1 d0).ii)]
noncomputable def E_laws_szInDefS (a : List DC) : Out :=
 if (decide ((IntKind.i64.wrap ((a.getD 1 d0).ii - (((a.getD 0 d0).ll).length : Int))) < (0 : Int))) = true then
 .ret [.i (-1 : Int)]
 else
 Out.andThenB (Loop E_laws_szInDefSL1 [.sl ((a.getD 0 d0).ll), .i (IntKind.i64.wrap ((a.getD 1 d0).ii - (((a.getD 0 d0).ll).length : Int))), .i (0 : Int)]) 0 fun v4 =>
 .ret [.i ((v4.getD 0 d0).ii)]
theorem eq_laws_szInDefS a : r_laws_szInDefS a = E_laws_szInDefS a := (Run_eq cfg 62 _ a).trans (by kernel_rfl)
noncomputable def E_laws_szEnumDefSL1 : List DC → Out := fun v1 =>
 if (decide ((v1.getD 2 d0).ii < (((v1.getD 0 d0).ll).length : Int))) = true then
 Out.andThenB (if 132 = 132 ∧ 0 ≤ (v1.getD 2 d0).ii ∧ (v1.getD 2 d0).ii < (((v1.getD 0 d0).ll).length : Int) then
 (r_laws_szEnumDef [.s (((((v1.getD 0 d0).ll).getD ((v1.getD 2 d0).ii).toNat []).getD 0 d0).ss), .s (((((v1.getD 0 d0).ll).getD ((v1.getD 2 d0).ii).toNat []).getD 1 d0).ss), .sl (((((v1.getD 0 d0).ll).getD ((v1.getD 2 d0).ii).toNat []).getD 2 d0).ll), .i ((v1.getD 1 d0).ii)]).bindR fun r2 =>
 if (decide ((r2.getD 0 d0).ii < (0 : Int))) = true then
 .ret [.i (-1 : Int)]
 else
 .norm [.sl ((v1.getD 0 d0).ll), .i ((r2.getD 0 d0).ii), .i ((v1.getD 2 d0).ii)]
 else
 .fail) 1 fun v3 =>
 .norm [.sl ((v3.getD 0 d0).ll), .i ((v3.getD 1 d0).ii), .i (IntKind.i64.wrap ((v3.getD 2 d0).ii + (1 : Int)))]
 else
 .ex 0 [.i ((v1.getD 1 d0).ii)]
noncomputable def E_laws_szEnumDefS (a : List DC) : Out :=
 if (decide ((IntKind.i64.wrap ((a.getD 1 d0).ii - (((a.getD 0 d0).ll).length : Int))) < (0 : Int))) = true then
 .ret [.i (-1 : Int)]
 else
 Out.andThenB (Loop E_laws_szEnumDefSL1 [.sl ((a.getD 0 d0).ll), .i (IntKind.i64.wrap ((a.getD 1 d0).ii - (((a.getD 0 d0).ll).length : Int))), .i (0 : Int)]) 0 fun v4 =>
 .ret [.i ((v4.getD 0 d0).ii)]
theorem eq_laws_szEnumDefS a : r_laws_szEnumDefS a = E_laws_szEnumDefS a := (Run_eq cfg 63 _ a).trans (by kernel_rfl)
noncomputable def E_laws_szDirSL1 : List DC → Out := fun v1 =>
 if (decide ((v1.getD 2 d0).ii < (((v1.getD 0 d0).ll).length : Int))) = true then
 Out.andThenB (if 136 = 136 ∧ 0 ≤ (v1.getD 2 d0).ii ∧ (v1.getD 2 d0).ii < (((v1.getD 0 d0).ll).length : Int) then
 (r_laws_szDir [.s (((((v1.getD 0 d0).ll).getD ((v1.getD 2 d0).ii).toNat []).getD 0 d0).ss), .sl (((((v1.getD 0 d0).ll).getD ((v1.getD 2 d0).ii).toNat []).getD 1 d0).ll), .i ((v1.getD 1 d0).ii)]).bindR fun r2 =>
 if (decide ((r2.getD 0 d0).ii < (0 : Int))) = true then
 .ret [.i (-1 : Int)]
 else
 .norm [.sl ((v1.getD 0 d0).ll), .i ((r2.getD 0 d0).ii), .i ((v1.getD 2 d0).ii)]
 else
 .fail) 1 fun v3 =>
 .norm [.sl ((v3.getD 0 d0).ll), .i ((v3.getD 1 d0).ii), .i (IntKind.i64.wrap ((v3.getD 2 d0).ii + (1 : Int)))]
 else
 .ex 0 [.i ((v1.getD 1 d0).ii)]
noncomputable def E_laws_szDirS (a : List DC) : Out :=
 if (decide ((IntKind.i64.wrap ((a.getD 1 d0).ii - (((a.getD 0 d0).ll).length : Int))) < (0 : Int))) = true then
 .ret [.i (-1 : Int)]
 else
 Out.andThenB (Loop E_laws_szDirSL1 [.sl ((a.getD 0 d0).ll), .i (IntKind.i64.wrap ((a.getD 1 d0).ii - (((a.getD 0 d0).ll).length : Int))), .i (0 : Int)]) 0 fun v4 =>
 .ret [.i ((v4.getD 0 d0).ii)]
theorem eq_laws_szDirS a : r_laws_szDirS a = E_laws_szDirS a := (Run_eq cfg 64 _ a).trans (by kernel_rfl)
noncomputable def E_laws_toFieldDefSL1 : List DC → Out := fun v1 =>
 if (decide ((v1.getD 2 d0).ii < (((v1.getD 0 d0).ll).length : Int))) = true then
 Out.andThenB (if 126 = 126 ∧ 0 ≤ (v1.getD 2 d0).ii ∧ (v1.getD 2 d0).ii < (((v1.getD 0 d0).ll).length : Int) then
 (r_laws_toFieldDef [.s (((((v1.getD 0 d0).ll).getD ((v1.getD 2 d0).ii).toNat []).getD 0 d0).ss), .s (((((v1.getD 0 d0).ll).getD ((v1.getD 2 d0).ii).toNat []).getD 1 d0).ss), .sl (((((v1.getD 0 d0).ll).getD ((v1.getD 2 d0).ii).toNat []).getD 2 d0).ll), .s (((((v1.getD 0 d0).ll).getD ((v1.getD 2 d0).ii).toNat []).getD 3 d0).ss), .s (((((v1.getD 0 d0).ll).getD ((v1.getD 2 d0).ii).toNat []).getD 4 d0).ss), .sl (((((v1.getD 0 d0).ll).getD ((v1.getD 2 d0).ii).toNat []).getD 5 d0).ll)]).bindR fun r2 =>
 if 139 = 139 ∧ 0 ≤ (v1.getD 2 d0).ii ∧ (v1.getD 2 d0).ii < (((v1.getD 1 d0).ll).length : Int) then
 .norm [.sl ((v1.getD 0 d0).ll), .sl (((v1.getD 1 d0).ll).set (((v1.getD 2 d0).ii).toNat) (setRunD (((v1.getD 1 d0).ll).getD (((v1.getD 2 d0).ii).toNat) []) 0 [DC.s ((r2.getD 0 d0).ss), DC.s ((r2.getD 1 d0).ss), DC.sl ((r2.getD 2 d0).ll), DC.s ((r2.getD 3 d0).ss), DC.s ((r2.getD 4 d0).ss), DC.sl ((r2.getD 5 d0).ll)])), .i ((v1.getD 2 d0).ii)]
 else
 .fail
 else
 .fail) 1 fun v3 =>
 .norm [.sl ((v3.getD 0 d0).ll), .sl ((v3.getD 1 d0).ll), .i (IntKind.i64.wrap ((v3.getD 2 d0).ii + (1 : Int)))]
 else
 .ex 0 [.sl ((v1.getD 1 d0).ll)]
noncomputable def E_laws_toFieldDefS (a : List DC) : Out :=
 if 0 ≤ (((a.getD 0 d0).ll).length : Int) ∧ (((a.getD 0 d0).ll).length : Int) < (LIM : Int) ∧ (((a.getD 0 d0).ll).length : Int) = (((a.getD 0 d0).ll).length : Int) ∧ 112 ≤ 1024 ∧ 0 < 6 then
 Out.andThenB (Loop E_laws_toFieldDefSL1 [.sl ((a.getD 0 d0).ll), .sl (List.replicate (((a.getD 0 d0).ll).length : Int).toNat [DC.s [], DC.s [], DC.sl [], DC.s [], DC.s [], DC.sl []]), .i (0 : Int)]) 0 fun v4 =>
 .ret [.sl ((v4.getD 0 d0).ll)]
 else
 .fail
theorem eq_laws_toFieldDefS a : r_laws_toFieldDefS a = E_laws_toFieldDefS a := (Run_eq cfg 66 _ a).trans (by kernel_rfl)
noncomputable def E_laws_toInDefSL1 : List DC → Out := fun v1 =>
 if (decide ((v1.getD 2 d0).ii < (((v1.getD 0 d0).ll).length : Int))) = true then
 Out.andThenB (if 129 = 129 ∧ 0 ≤ (v1.getD 2 d0).ii ∧ (v1.getD 2 d0).ii < (((v1.getD 0 d0).ll).length : Int) then
 (r_laws_toInDef [.s (((((v1.getD 0 d0).ll).getD ((v1.getD 2 d0).ii).toNat []).getD 0 d0).ss), .s (((((v1.getD 0 d0).ll).getD ((v1.getD 2 d0).ii).toNat []).getD 1 d0).ss), .s (((((v1.getD 0 d0).ll).getD ((v1.getD 2 d0).ii).toNat []).getD 2 d0).ss), .s (((((v1.getD 0 d0).ll).getD ((v1.getD 2 d0).ii).toNat []).getD 3 d0).ss), .b (((((v1.getD 0 d0).ll).getD ((v1.getD 2 d0).ii).toNat []).getD 4 d0).bb), .i (((((v1.getD 0 d0).ll).getD ((v1.getD 2 d0).ii).toNat []).getD 5 d0).ii), .s (((((v1.getD 0 d0).ll).getD ((v1.getD 2 d0).ii).toNat []).getD 6 d0).ss), .sl (((((v1.getD 0 d0).ll).getD ((v1.getD 2 d0).ii).toNat []).getD 7 d0).ll), .sl (((((v1.getD 0 d0).ll).getD ((v1.getD 2 d0).ii).toNat []).getD 8 d0).ll), .sl (((((v1.getD 0 d0).ll).getD ((v1.getD 2 d0).ii).toNat []).getD 9 d0).ll)]).bindR fun r2 =>
 if 93 = 93 ∧ 0 ≤ (v1.getD 2 d0).ii ∧ (v1.getD 2 d0).ii < (((v1.getD 1 d0).ll).length : Int) then
 .norm [.sl ((v1.getD 0 d0).ll), .sl (((v1.getD 1 d0).ll).set (((v1.getD 2 d0).ii).toNat) (setRunD (((v1.getD 1 d0).ll).getD (((v1.getD 2 d0).ii).toNat) []) 0 [DC.s ((r2.getD 0 d0).ss), DC.s ((r2.getD 1 d0).ss), DC.s ((r2.getD 2 d0).ss), DC.s ((r2.getD 3 d0).ss), DC.b ((r2.getD 4 d0).bb), DC.i ((r2.getD 5 d0).ii), DC.s ((r2.getD 6 d0).ss), DC.sl ((r2.getD 7 d0).ll), DC.sl ((r2.getD 8 d0).ll), DC.sl ((r2.getD 9 d0).ll)])), .i ((v1.getD 2 d0).ii)]
 else
 .fail
 else
 .fail) 1 fun v3 =>
 .norm [.sl ((v3.getD 0 d0).ll), .sl ((v3.getD 1 d0).ll), .i (IntKind.i64.wrap ((v3.getD 2 d0).ii + (1 : Int)))]
 else
 .ex 0 [.sl ((v1.getD 1 d0).ll)]
noncomputable def E_laws_toInDefS (a : List DC) : Out :=
 if 0 ≤ (((a.getD 0 d0).ll).length : Int) ∧ (((a.getD 0 d0).ll).length : Int) < (LIM : Int) ∧ (((a.getD 0 d0).ll).length : Int) = (((a.getD 0 d0).ll).length : Int) ∧ 168 ≤ 1024 ∧ 0 < 10 then
 Out.andThenB (Loop E_laws_toInDefSL1 [.sl ((a.getD 0 d0).ll), .sl (List.replicate (((a.getD 0 d0).ll).length : Int).toNat [DC.s [], DC.s [], DC.s [], DC.s [], DC.b false, DC.i 0, DC.s [], DC.sl [], DC.sl [], DC.sl []]), .i (0 : Int)]) 0 fun v4 =>
 .ret [.sl ((v4.getD 0 d0).ll)]
 else
 .fail
theorem eq_laws_toInDefS a : r_laws_toInDefS a = E_laws_toInDefS a := (Run_eq cfg 67 _ a).trans (by kernel_rfl)
noncomputable def E_laws_toEnumDefSL1 : List DC → Out := fun v1 =>
 if (decide ((v1.getD 2 d0).ii < (((v1.getD 0 d0).ll).length : Int))) = true then
 Out.andThenB (if 132 = 132 ∧ 0 ≤ (v1.getD 2 d0).ii ∧ (v1.getD 2 d0).ii < (((v1.getD 0 d0).ll).length : Int) then
 (r_laws_toEnumDef [.s (((((v1.getD 0 d0).ll).getD ((v1.getD 2 d0).ii).toNat []).getD 0 d0).ss), .s (((((v1.getD 0 d0).ll).getD ((v1.getD 2 d0).ii).toNat []).getD 1 d0).ss), .sl (((((v1.getD 0 d0).ll).getD ((v1.getD 2 d0).ii).toNat []).getD 2 d0).ll)]).bindR fun r2 =>
 if 66 = 66 ∧ 0 ≤ (v1.getD 2 d0).ii ∧ (v1.getD 2 d0).ii < (((v1.getD 1 d0).ll).length : Int) then
 .norm [.sl ((v1.getD 0 d0).ll), .sl (((v1.getD 1 d0).ll).set (((v1.getD 2 d0).ii).toNat) (setRunD (((v1.getD 1 d0).ll).getD (((v1.getD 2 d0).ii).toNat) []) 0 [DC.s ((r2.getD 0 d0).ss), DC.s ((r2.getD 1 d0).ss), DC.sl ((r2.getD 2 d0).ll)])), .i ((v1.getD 2 d0).ii)]
 else
 .fail
 else
 .fail) 1 fun v3 =>
 .norm [.sl ((v3.getD 0 d0).ll), .sl ((v3.getD 1 d0).ll), .i (IntKind.i64.wrap ((v3.getD 2 d0).ii + (1 : Int)))]
 else
 .ex 0 [.sl ((v1.getD 1 d0).ll)]
noncomputable def E_laws_toEnumDefS (a : List DC) : Out :=
 if 0 ≤ (((a.getD 0 d0).ll).length : Int) ∧ (((a.getD 0 d0).ll).length : Int) < (LIM : Int) ∧ (((a.getD 0 d0).ll).length : Int) = (((a.getD 0 d0).ll).length : Int) ∧ 56 ≤ 1024 ∧ 0 < 3 then
 Out.andThenB (Loop E_laws_toEnumDefSL1 [.sl ((a.getD 0 d0).ll), .sl (List.replicate (((a.getD 0 d0).ll).length : Int).toNat [DC.s [], DC.s [], DC.sl []]), .i (0 : Int)]) 0 fun v4 =>
 .ret [.sl ((v4.getD 0 d0).ll)]
 else
 .fail
theorem eq_laws_toEnumDefS a : r_laws_toEnumDefS a = E_laws_toEnumDefS a := (Run_eq cfg 68 _ a).trans (by kernel_rfl)
noncomputable def E_laws_toDirSL1 : List DC → Out := fun v1 =>
 if (decide ((v1.getD 2 d0).ii < (((v1.getD 0 d0).ll).length : Int))) = true then
 Out.andThenB (if 136 = 136 ∧ 0 ≤ (v1.getD 2 d0).ii ∧ (v1.getD 2 d0).ii < (((v1.getD 0 d0).ll).length : Int) then
 (r_laws_toDir [.s (((((v1.getD 0 d0).ll).getD ((v1.getD 2 d0).ii).toNat []).getD 0 d0).ss), .sl (((((v1.getD 0 d0).ll).getD ((v1.getD 2 d0).ii).toNat []).getD 1 d0).ll)]).bindR fun r2 =>
 if 145 = 145 ∧ 0 ≤ (v1.getD 2 d0).ii ∧ (v1.getD 2 d0).ii < (((v1.getD 1 d0).ll).length : Int) then
 .norm [.sl ((v1.getD 0 d0).ll), .sl (((v1.getD 1 d0).ll).set (((v1.getD 2 d0).ii).toNat) (setRunD (((v1.getD 1 d0).ll).getD (((v1.getD 2 d0).ii).toNat) []) 0 [DC.s ((r2.getD 0 d0).ss), DC.sl ((r2.getD 1 d0).ll)])), .i ((v1.getD 2 d0).ii)]
 else
 .fail
 else
 .fail) 1 fun v3 =>
 .norm [.sl ((v3.getD 0 d0).ll), .sl ((v3.getD 1 d0).ll), .i (IntKind.i64.wrap ((v3.getD 2 d0).ii + (1 : Int)))]
 else
 .ex 0 [.sl ((v1.getD 1 d0).ll)]
noncomputable def E_laws_toDirS (a : List DC) : Out :=
 if 0 ≤ (((a.getD 0 d0).ll).length : Int) ∧ (((a.getD 0 d0).ll).length : Int) < (LIM : Int) ∧ (((a.getD 0 d0).ll).length : Int) = (((a.getD 0 d0).ll).length : Int) ∧ 40 ≤ 1024 ∧ 0 < 2 then
 Out.andThenB (Loop E_laws_toDirSL1 [.sl ((a.getD 0 d0).ll), .sl (List.replicate (((a.getD 0 d0).ll).length : Int).toNat [DC.s [], DC.sl []]), .i (0 : Int)]) 0 fun v4 =>
 .ret [.sl ((v4.getD 0 d0).ll)]
 else
 .fail
theorem eq_laws_toDirS a : r_laws_toDirS a = E_laws_toDirS a := (Run_eq cfg 69 _ a).trans (by kernel_rfl)
noncomputable def E_spec_IntOk (a : List DC) : Out :=
 Out.andThen (if (decide ((((a.getD 0 d0).ss).length : Int) ≤ (40 : Int))) = true then
 if (decide ((((a.getD 0 d0).ss).length : Int) > (0 : Int))) = true then
 (r_spec_l03Int [.s ((a.getD 0 d0).ss)]).bindR fun r1 =>
 .norm [.b ((r1.getD 0 d0).ii == (((a.getD 0 d0).ss).length : Int))]
 else
 .norm [.b false]
 else
 .norm [.b false]) fun v2 =>
 .ret [.b ((v2.getD 0 d0).bb)]
theorem eq_spec_IntOk a : r_spec_IntOk a = E_spec_IntOk a := (Run_eq cfg 65 _ a).trans (by kernel_rfl)
noncomputable def E_internal_stringslite_TrimSuffix (a : List DC) : Out :=
 (r_internal_stringslite_HasSuffix [.s ((a.getD 0 d0).ss), .s ((a.getD 1 d0).ss)]).bindR fun r1 =>
 if (r1.getD 0 d0).bb = true then
 if 0 ≤ (IntKind.i64.wrap ((((a.getD 0 d0).ss).length : Int) - (((a.getD 1 d0).ss).length : Int))) ∧ (IntKind.i64.wrap ((((a.getD 0 d0).ss).length : Int) - (((a.getD 1 d0).ss).length : Int))) ≤ (((a.getD 0 d0).ss).length : Int) then
 .ret [.s (((a.getD 0 d0).ss).take (IntKind.i64.wrap ((((a.getD 0 d0).ss).length : Int) - (((a.getD 1 d0).ss).length : Int))).toNat)]
 else
 .fail
 else
 .ret [.s ((a.getD 0 d0).ss)]
theorem eq_internal_stringslite_TrimSuffix a : r_internal_stringslite_TrimSuffix a = E_internal_stringslite_TrimSuffix a := (Run_eq cfg 70 _ a).trans (by kernel_rfl)
noncomputable def E_internal_stringslite_CutSuffix (a : List DC) : Out :=
 (r_internal_stringslite_HasSuffix [.s ((a.getD 0 d0).ss), .s ((a.getD 1 d0).ss)]).bindR fun r1 =>
 if (!((r1.getD 0 d0).bb)) = true then
 .ret [.s ((a.getD 0 d0).ss), .b false]
 else
 if 0 ≤ (IntKind.i64.wrap ((((a.getD 0 d0).ss).length : Int) - (((a.getD 1 d0).ss).length : Int))) ∧ (IntKind.i64.wrap ((((a.getD 0 d0).ss).length : Int) - (((a.getD 1 d0).ss).length : Int))) ≤ (((a.getD 0 d0).ss).length : Int) then
 .ret [.s (((a.getD 0 d0).ss).take (IntKind.i64.wrap ((((a.getD 0 d0).ss).length : Int) - (((a.getD 1 d0).ss).length : Int))).toNat), .b true]
 else
 .fail
theorem eq_internal_stringslite_CutSuffix a : r_internal_stringslite_CutSuffix a = E_internal_stringslite_CutSuffix a := (Run_eq cfg 71 _ a).trans (by kernel_rfl)
noncomputable def E_impl_Fits_1 (a : List DC) : Out :=
 (r_impl_Inner [.s ((a.getD 7 d0).ss), .s ((a.getD 8 d0).ss)]).bindR fun r1 =>
 (r_impl_Fits [.sl ((a.getD 4 d0).ll), .sl ((a.getD 5 d0).ll), .sl ((a.getD 6 d0).ll), .i ((a.getD 0 d0).ii), .s ((a.getD 1 d0).ss), .sl ((a.getD 2 d0).ll), .sl ((a.getD 3 d0).ll), .s ((r1.getD 0 d0).ss), .s ((r1.getD 1 d0).ss)]).bindR fun r2 =>
 .ret [.b (!((r2.getD 0 d0).bb)), .sl ((a.getD 4 d0).ll), .sl ((a.getD 5 d0).ll), .sl ((a.getD 6 d0).ll), .s ((a.getD 7 d0).ss), .s ((a.getD 8 d0).ss)]
theorem eq_impl_Fits_1 a : r_impl_Fits_1 a = E_impl_Fits_1 a := (Run_eq cfg 35 _ a).trans (by kernel_rfl)
noncomputable def E_impl_TypeAt (a : List DC) : Out :=
 (r_impl_named [.sl ((a.getD 0 d0).ll), .s ((a.getD 3 d0).ss)]).bindR fun r1 =>
 .ret [.i ((r1.getD 0 d0).ii)]
theorem eq_impl_TypeAt a : r_impl_TypeAt a = E_impl_TypeAt a := (Run_eq cfg 72 _ a).trans (by kernel_rfl)
noncomputable def E_impl_Fits32 (a : List DC) : Out := match r_impl_IntOk a with | .ret r => (match postFits a r with | some r' => .ret r' | none => .fail) | _ => .fail
theorem eq_impl_Fits32 a : r_impl_Fits32 a = E_impl_Fits32 a := (Run_eq cfg 73 _ a).trans (by kernel_rfl)
noncomputable def E_slices_IndexFunc_impl_EnumDef__impl_fitsName_1L1 : List DC → Out := fun v1 =>
 if (decide ((v1.getD 2 d0).ii < (v1.getD 1 d0).ii)) = true then
 Out.andThenB (if 66 = 66 ∧ 0 ≤ (v1.getD 2 d0).ii ∧ (v1.getD 2 d0).ii < (((v1.getD 0 d0).ll).length : Int) then
 (r_impl_fitsName_1 [.s (((((v1.getD 0 d0).ll).getD ((v1.getD 2 d0).ii).toNat []).getD 0 d0).ss), .s (((((v1.getD 0 d0).ll).getD ((v1.getD 2 d0).ii).toNat []).getD 1 d0).ss), .sl (((((v1.getD 0 d0).ll).getD ((v1.getD 2 d0).ii).toNat []).getD 2 d0).ll), .i ((v1.getD 3 d0).ii), .s ((v1.getD 4 d0).ss), .sl ((v1.getD 5 d0).ll), .sl ((v1.getD 6 d0).ll)]).bindR fun r2 =>
 if (r2.getD 0 d0).bb = true then
 .ret [.i ((v1.getD 2 d0).ii), .i ((r2.getD 1 d0).ii), .s ((r2.getD 2 d0).ss), .sl ((r2.getD 3 d0).ll), .sl ((r2.getD 4 d0).ll)]
 else
 .norm [.sl ((v1.getD 0 d0).ll), .i ((v1.getD 1 d0).ii), .i ((v1.getD 2 d0).ii), .i ((r2.getD 1 d0).ii), .s ((r2.getD 2 d0).ss), .sl ((r2.getD 3 d0).ll), .sl ((r2.getD 4 d0).ll)]
 else
 .fail) 1 fun v3 =>
 .norm [.sl ((v3.getD 0 d0).ll), .i ((v3.getD 1 d0).ii), .i (IntKind.i64.wrap ((v3.getD 2 d0).ii + (1 : Int))), .i ((v3.getD 3 d0).ii), .s ((v3.getD 4 d0).ss), .sl ((v3.getD 5 d0).ll), .sl ((v3.getD 6 d0).ll)]
 else
 .ex 0 [.i ((v1.getD 3 d0).ii), .s ((v1.getD 4 d0).ss), .sl ((v1.getD 5 d0).ll), .sl ((v1.getD 6 d0).ll)]
noncomputable def E_slices_IndexFunc_impl_EnumDef__impl_fitsName_1 (a : List DC) : Out :=
 Out.andThenB (Loop E_slices_IndexFunc_impl_EnumDef__impl_fitsName_1L1 [.sl ((a.getD 0 d0).ll), .i (((a.getD 0 d0).ll).length : Int), .i (0 : Int), .i ((a.getD 1 d0).ii), .s ((a.getD 2 d0).ss), .sl ((a.getD 3 d0).ll), .sl ((a.getD 4 d0).ll)]) 0 fun v4 =>
 .ret [.i (-1 : Int), .i ((v4.getD 0 d0).ii), .s ((v4.getD 1 d0).ss), .sl ((v4.getD 2 d0).ll), .sl ((v4.getD 3 d0).ll)]
theorem eq_slices_IndexFunc_impl_EnumDef__impl_fitsName_1 a : r_slices_IndexFunc_impl_EnumDef__impl_fitsName_1 a = E_slices_IndexFunc_impl_EnumDef__impl_fitsName_1 a := (Run_eq cfg 74 _ a).trans (by kernel_rfl)
noncomputable def E_impl_InAt (a : List DC) : Out :=
 (r_slices_IndexFunc_impl_InDef__impl_InAt_1 [.sl ((a.getD 0 d0).ll), .s ((a.getD 1 d0).ss)]).bindR fun r1 =>
 .ret [.i ((r1.getD 0 d0).ii)]
theorem eq_impl_InAt a : r_impl_InAt a = E_impl_InAt a := (Run_eq cfg 75 _ a).trans (by kernel_rfl)
noncomputable def E_slices_Contains_string (a : List DC) : Out :=
 (r_slices_Index_string [.sl ((a.getD 0 d0).ll), .s ((a.getD 1 d0).ss)]).bindR fun r1 =>
 .ret [.b (decide ((r1.getD 0 d0).ii ≥ (0 : Int)))]
theorem eq_slices_Contains_string a : r_slices_Contains_string a = E_slices_Contains_string a := (Run_eq cfg 76 _ a).trans (by kernel_rfl)
noncomputable def E_impl_RequiredInL1 : List DC → Out := fun v1 =>
 if (decide ((v1.getD 3 d0).ii < (v1.getD 2 d0).ii)) = true then
 Out.andThenB (if 93 = 93 ∧ 0 ≤ (v1.getD 3 d0).ii ∧ (v1.getD 3 d0).ii < (((v1.getD 1 d0).ll).length : Int) then
 Out.andThen ((r_impl_Needed [.s (((((v1.getD 1 d0).ll).getD ((v1.getD 3 d0).ii).toNat []).getD 2 d0).ss), .s (((((v1.getD 1 d0).ll).getD ((v1.getD 3 d0).ii).toNat []).getD 3 d0).ss)]).bindR fun r2 =>
 if (r2.getD 0 d0).bb = true then
 .norm [.sl ((v1.getD 0 d0).ll), .sl ((v1.getD 1 d0).ll), .i ((v1.getD 2 d0).ii), .i ((v1.getD 3 d0).ii), .b (!(((((v1.getD 1 d0).ll).getD ((v1.getD 3 d0).ii).toNat []).getD 4 d0).bb)), .s (((((v1.getD 1 d0).ll).getD ((v1.getD 3 d0).ii).toNat []).getD 0 d0).ss), .s (((((v1.getD 1 d0).ll).getD ((v1.getD 3 d0).ii).toNat []).getD 1 d0).ss), .s (((((v1.getD 1 d0).ll).getD ((v1.getD 3 d0).ii).toNat []).getD 2 d0).ss), .s (((((v1.getD 1 d0).ll).getD ((v1.getD 3 d0).ii).toNat []).getD 3 d0).ss), .b (((((v1.getD 1 d0).ll).getD ((v1.getD 3 d0).ii).toNat []).getD 4 d0).bb), .i (((((v1.getD 1 d0).ll).getD ((v1.getD 3 d0).ii).toNat []).getD 5 d0).ii), .s (((((v1.getD 1 d0).ll).getD ((v1.getD 3 d0).ii).toNat []).getD 6 d0).ss), .sl (((((v1.getD 1 d0).ll).getD ((v1.getD 3 d0).ii).toNat []).getD 7 d0).ll), .sl (((((v1.getD 1 d0).ll).getD ((v1.getD 3 d0).ii).toNat []).getD 8 d0).ll), .sl (((((v1.getD 1 d0).ll).getD ((v1.getD 3 d0).ii).toNat []).getD 9 d0).ll)]
 else
 .norm [.sl ((v1.getD 0 d0).ll), .sl ((v1.getD 1 d0).ll), .i ((v1.getD 2 d0).ii), .i ((v1.getD 3 d0).ii), .b false, .s (((((v1.getD 1 d0).ll).getD ((v1.getD 3 d0).ii).toNat []).getD 0 d0).ss), .s (((((v1.getD 1 d0).ll).getD ((v1.getD 3 d0).ii).toNat []).getD 1 d0).ss), .s (((((v1.getD 1 d0).ll).getD ((v1.getD 3 d0).ii).toNat []).getD 2 d0).ss), .s (((((v1.getD 1 d0).ll).getD ((v1.getD 3 d0).ii).toNat []).getD 3 d0).ss), .b (((((v1.getD 1 d0).ll).getD ((v1.getD 3 d0).ii).toNat []).getD 4 d0).bb), .i (((((v1.getD 1 d0).ll).getD ((v1.getD 3 d0).ii).toNat []).getD 5 d0).ii), .s (((((v1.getD 1 d0).ll).getD ((v1.getD 3 d0).ii).toNat []).getD 6 d0).ss), .sl (((((v1.getD 1 d0).ll).getD ((v1.getD 3 d0).ii).toNat []).getD 7 d0).ll), .sl (((((v1.getD 1 d0).ll).getD ((v1.getD 3 d0).ii).toNat []).getD 8 d0).ll), .sl (((((v1.getD 1 d0).ll).getD ((v1.getD 3 d0).ii).toNat []).getD 9 d0).ll)]) fun v3 =>
 Out.andThen (if (v3.getD 4 d0).bb = true then
 if ((v3.getD 0 d0).ll).length + [[DC.s ((v3.getD 5 d0).ss)]].length < LIM then
 .norm [.sl (((v3.getD 0 d0).ll) ++ [[DC.s ((v3.getD 5 d0).ss)]]), .sl ((v3.getD 1 d0).ll), .i ((v3.getD 2 d0).ii), .i ((v3.getD 3 d0).ii)]
 else
 .fail
 else
 .norm [.sl ((v3.getD 0 d0).ll), .sl ((v3.getD 1 d0).ll), .i ((v3.getD 2 d0).ii), .i ((v3.getD 3 d0).ii)]) fun v4 =>
 .norm [.sl ((v4.getD 0 d0).ll), .sl ((v4.getD 1 d0).ll), .i ((v4.getD 2 d0).ii), .i ((v4.getD 3 d0).ii)]
 else
 .fail) 1 fun v5 =>
 .norm [.sl ((v5.getD 0 d0).ll), .sl ((v5.getD 1 d0).ll), .i ((v5.getD 2 d0).ii), .i (IntKind.i64.wrap ((v5.getD 3 d0).ii + (1 : Int)))]
 else
 .ex 0 [.sl ((v1.getD 0 d0).ll)]
noncomputable def E_impl_RequiredIn (a : List DC) : Out :=
 Out.andThenB (Loop E_impl_RequiredInL1 [.sl [], .sl ((a.getD 0 d0).ll), .i (((a.getD 0 d0).ll).length : Int), .i (0 : Int)]) 0 fun v6 =>
 .ret [.sl ((v6.getD 0 d0).ll)]
theorem eq_impl_RequiredIn a : r_impl_RequiredIn a = E_impl_RequiredIn a := (Run_eq cfg 78 _ a).trans (by kernel_rfl)
noncomputable def E_slices_ContainsFunc_string__impl_fitsInput_1 (a : List DC) : Out :=
 (r_slices_IndexFunc_string__impl_fitsInput_1 [.sl ((a.getD 0 d0).ll), .i ((a.getD 1 d0).ii), .s ((a.getD 2 d0).ss), .sl ((a.getD 3 d0).ll), .sl ((a.getD 4 d0).ll)]).bindR fun r1 =>
 .ret [.b (decide ((r1.getD 0 d0).ii ≥ (0 : Int))), .i ((r1.getD 1 d0).ii), .s ((r1.getD 2 d0).ss), .sl ((r1.getD 3 d0).ll), .sl ((r1.getD 4 d0).ll)]
theorem eq_slices_ContainsFunc_string__impl_fitsInput_1 a : r_slices_ContainsFunc_string__impl_fitsInput_1 a = E_slices_ContainsFunc_string__impl_fitsInput_1 a := (Run_eq cfg 77 _ a).trans (by kernel_rfl)
noncomputable def E_laws_eqFieldDefSL1 : List DC → Out := fun v1 =>
 if (decide ((v1.getD 2 d0).ii < (((v1.getD 0 d0).ll).length : Int))) = true then
 Out.andThenB (if 139 = 139 ∧ 0 ≤ (v1.getD 2 d0).ii ∧ (v1.getD 2 d0).ii < (((v1.getD 0 d0).ll).length : Int) then
 if 139 = 139 ∧ 0 ≤ (v1.getD 2 d0).ii ∧ (v1.getD 2 d0).ii < (((v1.getD 1 d0).ll).length : Int) then
 (r_laws_eqFieldDef [.s (((((v1.getD 0 d0).ll).getD ((v1.getD 2 d0).ii).toNat []).getD 0 d0).ss), .s (((((v1.getD 0 d0).ll).getD ((v1.getD 2 d0).ii).toNat []).getD 1 d0).ss), .sl (((((v1.getD 0 d0).ll).getD ((v1.getD 2 d0).ii).toNat []).getD 2 d0).ll), .s (((((v1.getD 0 d0).ll).getD ((v1.getD 2 d0).ii).toNat []).getD 3 d0).ss), .s (((((v1.getD 0 d0).ll).getD ((v1.getD 2 d0).ii).toNat []).getD 4 d0).ss), .sl (((((v1.getD 0 d0).ll).getD ((v1.getD 2 d0).ii).toNat []).getD 5 d0).ll), .s (((((v1.getD 1 d0).ll).getD ((v1.getD 2 d0).ii).toNat []).getD 0 d0).ss), .s (((((v1.getD 1 d0).ll).getD ((v1.getD 2 d0).ii).toNat []).getD 1 d0).ss), .sl (((((v1.getD 1 d0).ll).getD ((v1.getD 2 d0).ii).toNat []).getD 2 d0).ll), .s (((((v1.getD 1 d0).ll).getD ((v1.getD 2 d0).ii).toNat []).getD 3 d0).ss), .s (((((v1.getD 1 d0).ll).getD ((v1.getD 2 d0).ii).toNat []).getD 4 d0).ss), .sl (((((v1.getD 1 d0).ll).getD ((v1.getD 2 d0).ii).toNat []).getD 5 d0).ll)]).bindR fun r2 =>
 if (!((r2.getD 0 d0).bb)) = true then
 .ret [.b false]
 else
 .norm [.sl ((v1.getD 0 d0).ll), .sl ((v1.getD 1 d0).ll), .i ((v1.getD 2 d0).ii)]
 else
 .fail
 else
 .fail) 1 fun v3 =>
 .norm [.sl ((v3.getD 0 d0).ll), .sl ((v3.getD 1 d0).ll), .i (IntKind.i64.wrap ((v3.getD 2 d0).ii + (1 : Int)))]
 else
 .ex 0 []
noncomputable def E_laws_eqFieldDefS (a : List DC) : Out :=
 if ((((a.getD 0 d0).ll).length : Int) != (((a.getD 1 d0).ll).length : Int)) = true then
 .ret [.b false]
 else
 Out.andThenB (Loop E_laws_eqFieldDefSL1 [.sl ((a.getD 0 d0).ll), .sl ((a.getD 1 d0).ll), .i (0 : Int)]) 0 fun v4 =>
 .ret [.b true]
theorem eq_laws_eqFieldDefS a : r_laws_eqFieldDefS a = E_laws_eqFieldDefS a := (Run_eq cfg 80 _ a).trans (by kernel_rfl)
noncomputable def E_laws_eqInDefSL1 : List DC → Out := fun v1 =>
 if (decide ((v1.getD 2 d0).ii < (((v1.getD 0 d0).ll).length : Int))) = true then
 Out.andThenB (if 93 = 93 ∧ 0 ≤ (v1.getD 2 d0).ii ∧ (v1.getD 2 d0).ii < (((v1.getD 0 d0).ll).length : Int) then
 if 93 = 93 ∧ 0 ≤ (v1.getD 2 d0).ii ∧ (v1.getD 2 d0).ii < (((v1.getD 1 d0).ll).length : Int) then
 (r_laws_eqInDef [.s (((((v1.getD 0 d0).ll).getD ((v1.getD 2 d0).ii).toNat []).getD 0 d0).ss), .s (((((v1.getD 0 d0).ll).getD ((v1.getD 2 d0).ii).toNat []).getD 1 d0).ss), .s (((((v1.getD 0 d0).ll).getD ((v1.getD 2 d0).ii).toNat []).getD 2 d0).ss), .s (((((v1.getD 0 d0).ll).getD ((v1.getD 2 d0).ii).toNat []).getD 3 d0).ss), .b (((((v1.getD 0 d0).ll).getD ((v1.getD 2 d0).ii).toNat []).getD 4 d0).bb), .i (((((v1.getD 0 d0).ll).getD ((v1.getD 2 d0).ii).toNat []).getD 5 d0).ii), .s (((((v1.getD 0 d0).ll).getD ((v1.getD 2 d0).ii).toNat []).getD 6 d0).ss), .sl (((((v1.getD 0 d0).ll).getD ((v1.getD 2 d0).ii).toNat []).getD 7 d0).ll), .sl (((((v1.getD 0 d0).ll).getD ((v1.getD 2 d0).ii).toNat []).getD 8 d0).ll), .sl (((((v1.getD 0 d0).ll).getD ((v1.getD 2 d0).ii).toNat []).getD 9 d0).ll), .s (((((v1.getD 1 d0).ll).getD ((v1.getD 2 d0).ii).toNat []).getD 0 d0).ss), .s (((((v1.getD 1 d0).ll).getD ((v1.getD 2 d0).ii).toNat []).getD 1 d0).ss), .s (((((v1.getD 1 d0).ll).getD ((v1.getD 2 d0).ii).toNat []).getD 2 d0).ss), .s (((((v1.getD 1 d0).ll).getD ((v1.getD 2 d0).ii).toNat []).getD 3 d0).ss), .b (((((v1.getD 1 d0).ll).getD ((v1.getD 2 d0).ii).toNat []).getD 4 d0).bb), .i (((((v1.getD 1 d0).ll).getD ((v1.getD 2 d0).ii).toNat []).getD 5 d0).ii), .s (((((v1.getD 1 d0).ll).getD ((v1.getD 2 d0).ii).toNat []).getD 6 d0).ss), .sl (((((v1.getD 1 d0).ll).getD ((v1.getD 2 d0).ii).toNat []).getD 7 d0).ll), .sl (((((v1.getD 1 d0).ll).getD ((v1.getD 2 d0).ii).toNat []).getD 8 d0).ll), .sl (((((v1.getD 1 d0).ll).getD ((v1.getD 2 d0).ii).toNat []).getD 9 d0).ll)]).bindR fun r2 =>
 if (!((r2.getD 0 d0).bb)) = true then
 .ret [.b false]
 else
 .norm [.sl ((v1.getD 0 d0).ll), .sl ((v1.getD 1 d0).ll), .i ((v1.getD 2 d0).ii)]
 else
 .fail
 else
 .fail) 1 fun v3 =>
 .norm [.sl ((v3.getD 0 d0).ll), .sl ((v3.getD 1 d0).ll), .i (IntKind.i64.wrap ((v3.getD 2 d0).ii + (1 : Int)))]
 else
 .ex 0 []
noncomputable def E_laws_eqInDefS (a : List DC) : Out :=
 if ((((a.getD 0 d0).ll).length : Int) != (((a.getD 1 d0).ll).length : Int)) = true then
 .ret [.b false]
 else
 Out.andThenB (Loop E_laws_eqInDefSL1 [.sl ((a.getD 0 d0).ll), .sl ((a.getD 1 d0).ll), .i (0 : Int)]) 0 fun v4 =>
 .ret [.b true]
theorem eq_laws_eqInDefS a : r_laws_eqInDefS a = E_laws_eqInDefS a := (Run_eq cfg 81 _ a).trans (by kernel_rfl)
noncomputable def E_laws_eqEnumDefSL1 : List DC → Out := fun v1 =>
 if (decide ((v1.getD 2 d0).ii < (((v1.getD 0 d0).ll).length : Int))) = true then
 Out.andThenB (if 66 = 66 ∧ 0 ≤ (v1.getD 2 d0).ii ∧ (v1.getD 2 d0).ii < (((v1.getD 0 d0).ll).length : Int) then
 if 66 = 66 ∧ 0 ≤ (v1.getD 2 d0).ii ∧ (v1.getD 2 d0).ii < (((v1.getD 1 d0).ll).length : Int) then
 (r_laws_eqEnumDef [.s (((((v1.getD 0 d0).ll).getD ((v1.getD 2 d0).ii).toNat []).getD 0 d0).ss), .s (((((v1.getD 0 d0).ll).getD ((v1.getD 2 d0).ii).toNat []).getD 1 d0).ss), .sl (((((v1.getD 0 d0).ll).getD ((v1.getD 2 d0).ii).toNat []).getD 2 d0).ll), .s (((((v1.getD 1 d0).ll).getD ((v1.getD 2 d0).ii).toNat []).getD 0 d0).ss), .s (((((v1.getD 1 d0).ll).getD ((v1.getD 2 d0).ii).toNat []).getD 1 d0).ss), .sl (((((v1.getD 1 d0).ll).getD ((v1.getD 2 d0).ii).toNat []).getD 2 d0).ll)]).bindR fun r2 =>
 if (!((r2.getD 0 d0).bb)) = true then
 .ret [.b false]
 else
 .norm [.sl ((v1.getD 0 d0).ll), .sl ((v1.getD 1 d0).ll), .i ((v1.getD 2 d0).ii)]
 else
 .fail
 else
 .fail) 1 fun v3 =>
 .norm [.sl ((v3.getD 0 d0).ll), .sl ((v3.getD 1 d0).ll), .i (IntKind.i64.wrap ((v3.getD 2 d0).ii + (1 : Int)))]
 else
 .ex 0 []
noncomputable def E_laws_eqEnumDefS (a : List DC) : Out :=
 if ((((a.getD 0 d0).ll).length : Int) != (((a.getD 1 d0).ll).length : Int)) = true then
 .ret [.b false]
 else
 Out.andThenB (Loop E_laws_eqEnumDefSL1 [.sl ((a.getD 0 d0).ll), .sl ((a.getD 1 d0).ll), .i (0 : Int)]) 0 fun v4 =>
 .ret [.b true]
theorem eq_laws_eqEnumDefS a : r_laws_eqEnumDefS a = E_laws_eqEnumDefS a := (Run_eq cfg 82 _ a).trans (by kernel_rfl)
noncomputable def E_laws_eqDirSL1 : List DC → Out := fun v1 =>
 if (decide ((v1.getD 2 d0).ii < (((v1.getD 0 d0).ll).length : Int))) = true then
 Out.andThenB (if 145 = 145 ∧ 0 ≤ (v1.getD 2 d0).ii ∧ (v1.getD 2 d0).ii < (((v1.getD 0 d0).ll).length : Int) then
 if 145 = 145 ∧ 0 ≤ (v1.getD 2 d0).ii ∧ (v1.getD 2 d0).ii < (((v1.getD 1 d0).ll).length : Int) then
 (r_laws_eqDir [.s (((((v1.getD 0 d0).ll).getD ((v1.getD 2 d0).ii).toNat []).getD 0 d0).ss), .sl (((((v1.getD 0 d0).ll).getD ((v1.getD 2 d0).ii).toNat []).getD 1 d0).ll), .s (((((v1.getD 1 d0).ll).getD ((v1.getD 2 d0).ii).toNat []).getD 0 d0).ss), .sl (((((v1.getD 1 d0).ll).getD ((v1.getD 2 d0).ii).toNat []).getD 1 d0).ll)]).bindR fun r2 =>
 if (!((r2.getD 0 d0).bb)) = true then
 .ret [.b false]
 else
 .norm [.sl ((v1.getD 0 d0).ll), .sl ((v1.getD 1 d0).ll), .i ((v1.getD 2 d0).ii)]
 else
 .fail
 else
 .fail) 1 fun v3 =>
 .norm [.sl ((v3.getD 0 d0).ll), .sl ((v3.getD 1 d0).ll), .i (IntKind.i64.wrap ((v3.getD 2 d0).ii + (1 : Int)))]
 else
 .ex 0 []
noncomputable def E_laws_eqDirS (a : List DC) : Out :=
 if ((((a.getD 0 d0).ll).length : Int) != (((a.getD 1 d0).ll).length : Int)) = true then
 .ret [.b false]
 else
 Out.andThenB (Loop E_laws_eqDirSL1 [.sl ((a.getD 0 d0).ll), .sl ((a.getD 1 d0).ll), .i (0 : Int)]) 0 fun v4 =>
 .ret [.b true]
theorem eq_laws_eqDirS a : r_laws_eqDirS a = E_laws_eqDirS a := (Run_eq cfg 83 _ a).trans (by kernel_rfl)
noncomputable def E_laws_szFieldDef (a : List DC) : Out :=
 if (decide ((IntKind.i64.wrap ((a.getD 6 d0).ii - (((a.getD 0 d0).ss).length : Int))) < (0 : Int))) = true then
 .ret [.i (-1 : Int)]
 else
 if (decide ((IntKind.i64.wrap ((IntKind.i64.wrap ((a.getD 6 d0).ii - (((a.getD 0 d0).ss).length : Int))) - (((a.getD 1 d0).ss).length : Int))) < (0 : Int))) = true then
 .ret [.i (-1 : Int)]
 else
 (r_laws_szInDefS [.sl ((a.getD 2 d0).ll), .i (IntKind.i64.wrap ((IntKind.i64.wrap ((a.getD 6 d0).ii - (((a.getD 0 d0).ss).length : Int))) - (((a.getD 1 d0).ss).length : Int)))]).bindR fun r1 =>
 if (decide ((r1.getD 0 d0).ii < (0 : Int))) = true then
 .ret [.i (-1 : Int)]
 else
 (r_laws_szType [.s ((a.getD 3 d0).ss), .s ((a.getD 4 d0).ss), .i ((r1.getD 0 d0).ii)]).bindR fun r2 =>
 if (decide ((r2.getD 0 d0).ii < (0 : Int))) = true then
 .ret [.i (-1 : Int)]
 else
 (r_laws_szDirS [.sl ((a.getD 5 d0).ll), .i ((r2.getD 0 d0).ii)]).bindR fun r3 =>
 if (decide ((r3.getD 0 d0).ii < (0 : Int))) = true then
 .ret [.i (-1 : Int)]
 else
 .ret [.i ((r3.getD 0 d0).ii)]
theorem eq_laws_szFieldDef a : r_laws_szFieldDef a = E_laws_szFieldDef a := (Run_eq cfg 84 _ a).trans (by kernel_rfl)
noncomputable def E_laws_szInDef (a : List DC) : Out :=
 if (decide ((IntKind.i64.wrap ((a.getD 10 d0).ii - (((a.getD 0 d0).ss).length : Int))) < (0 : Int))) = true then
 .ret [.i (-1 : Int)]
 else
 if (decide ((IntKind.i64.wrap ((IntKind.i64.wrap ((a.getD 10 d0).ii - (((a.getD 0 d0).ss).length : Int))) - (((a.getD 1 d0).ss).length : Int))) < (0 : Int))) = true then
 .ret [.i (-1 : Int)]
 else
 (r_laws_szType [.s ((a.getD 2 d0).ss), .s ((a.getD 3 d0).ss), .i (IntKind.i64.wrap ((IntKind.i64.wrap ((a.getD 10 d0).ii - (((a.getD 0 d0).ss).length : Int))) - (((a.getD 1 d0).ss).length : Int)))]).bindR fun r1 =>
 if (decide ((r1.getD 0 d0).ii < (0 : Int))) = true then
 .ret [.i (-1 : Int)]
 else
 (r_laws_szValue [.i ((a.getD 5 d0).ii), .s ((a.getD 6 d0).ss), .sl ((a.getD 7 d0).ll), .sl ((a.getD 8 d0).ll), .i ((r1.getD 0 d0).ii)]).bindR fun r2 =>
 if (decide ((r2.getD 0 d0).ii < (0 : Int))) = true then
 .ret [.i (-1 : Int)]
 else
 (r_laws_szDirS [.sl ((a.getD 9 d0).ll), .i ((r2.getD 0 d0).ii)]).bindR fun r3 =>
 if (decide ((r3.getD 0 d0).ii < (0 : Int))) = true then
 .ret [.i (-1 : Int)]
 else
 .ret [.i ((r3.getD 0 d0).ii)]
theorem eq_laws_szInDef a : r_laws_szInDef a = E_laws_szInDef a := (Run_eq cfg 85 _ a).trans (by kernel_rfl)
noncomputable def E_laws_szEnumDef (a : List DC) : Out :=
 if (decide ((IntKind.i64.wrap ((a.getD 3 d0).ii - (((a.getD 0 d0).ss).length : Int))) < (0 : Int))) = true then
 .ret [.i (-1 : Int)]
 else
 if (decide ((IntKind.i64.wrap ((IntKind.i64.wrap ((a.getD 3 d0).ii - (((a.getD 0 d0).ss).length : Int))) - (((a.getD 1 d0).ss).length : Int))) < (0 : Int))) = true then
 .ret [.i (-1 : Int)]
 else
 (r_laws_szDirS [.sl ((a.getD 2 d0).ll), .i (IntKind.i64.wrap ((IntKind.i64.wrap ((a.getD 3 d0).ii - (((a.getD 0 d0).ss).length : Int))) - (((a.getD 1 d0).ss).length : Int)))]).bindR fun r1 =>
 if (decide ((r1.getD 0 d0).ii < (0 : Int))) = true then
 .ret [.i (-1 : Int)]
 else
 .ret [.i ((r1.getD 0 d0).ii)]
theorem eq_laws_szEnumDef a : r_laws_szEnumDef a = E_laws_szEnumDef a := (Run_eq cfg 86 _ a).trans (by kernel_rfl)
noncomputable def E_laws_szDir (a : List DC) : Out :=
 if (decide ((IntKind.i64.wrap ((a.getD 2 d0).ii - (((a.getD 0 d0).ss).length : Int))) < (0 : Int))) = true then
 .ret [.i (-1 : Int)]
 else
 (r_laws_szArgS [.sl ((a.getD 1 d0).ll), .i (IntKind.i64.wrap ((a.getD 2 d0).ii - (((a.getD 0 d0).ss).length : Int)))]).bindR fun r1 =>
 if (decide ((r1.getD 0 d0).ii < (0 : Int))) = true then
 .ret [.i (-1 : Int)]
 else
 .ret [.i ((r1.getD 0 d0).ii)]
theorem eq_laws_szDir a : r_laws_szDir a = E_laws_szDir a := (Run_eq cfg 87 _ a).trans (by kernel_rfl)
noncomputable def E_laws_toFieldDef (a : List DC) : Out :=
 (r_laws_toInDefS [.sl ((a.getD 2 d0).ll)]).bindR fun r1 =>
 (r_laws_toType [.s ((a.getD 3 d0).ss), .s ((a.getD 4 d0).ss)]).bindR fun r2 =>
 (r_laws_toDirS [.sl ((a.getD 5 d0).ll)]).bindR fun r3 =>
 .ret [.s ((a.getD 0 d0).ss), .s ((a.getD 1 d0).ss), .sl ((r1.getD 0 d0).ll), .s ((r2.getD 0 d0).ss), .s ((r2.getD 1 d0).ss), .sl ((r3.getD 0 d0).ll)]
theorem eq_laws_toFieldDef a : r_laws_toFieldDef a = E_laws_toFieldDef a := (Run_eq cfg 89 _ a).trans (by kernel_rfl)
noncomputable def E_laws_toInDef (a : List DC) : Out :=
 (r_laws_toType [.s ((a.getD 2 d0).ss), .s ((a.getD 3 d0).ss)]).bindR fun r1 =>
 (r_laws_toValue [.i ((a.getD 5 d0).ii), .s ((a.getD 6 d0).ss), .sl ((a.getD 7 d0).ll), .sl ((a.getD 8 d0).ll)]).bindR fun r2 =>
 (r_laws_toDirS [.sl ((a.getD 9 d0).ll)]).bindR fun r3 =>
 .ret [.s ((a.getD 0 d0).ss), .s ((a.getD 1 d0).ss), .s ((r1.getD 0 d0).ss), .s ((r1.getD 1 d0).ss), .b ((a.getD 4 d0).bb), .i ((r2.getD 0 d0).ii), .s ((r2.getD 1 d0).ss), .sl ((r2.getD 2 d0).ll), .sl ((r2.getD 3 d0).ll), .sl ((r3.getD 0 d0).ll)]
theorem eq_laws_toInDef a : r_laws_toInDef a = E_laws_toInDef a := (Run_eq cfg 90 _ a).trans (by kernel_rfl)
noncomputable def E_laws_toEnumDef (a : List DC) : Out :=
 (r_laws_toDirS [.sl ((a.getD 2 d0).ll)]).bindR fun r1 =>
 .ret [.s ((a.getD 0 d0).ss), .s ((a.getD 1 d0).ss), .sl ((r1.getD 0 d0).ll)]
theorem eq_laws_toEnumDef a : r_laws_toEnumDef a = E_laws_toEnumDef a := (Run_eq cfg 91 _ a).trans (by kernel_rfl)
noncomputable def E_laws_toDir (a : List DC) : Out :=
 (r_laws_toArgS [.sl ((a.getD 1 d0).ll)]).bindR fun r1 =>
 .ret [.s ((a.getD 0 d0).ss), .sl ((r1.getD 0 d0).ll)]
theorem eq_laws_toDir a : r_laws_toDir a = E_laws_toDir a := (Run_eq cfg 92 _ a).trans (by kernel_rfl)
noncomputable def E_spec_l03Int (a : List DC) : Out :=
 Out.andThen (if (decide ((((a.getD 0 d0).ss).length : Int) > (0 : Int))) = true then
 if 0 ≤ (0 : Int) ∧ (0 : Int) < (((a.getD 0 d0).ss).length : Int) then
 .norm [.s ((a.getD 0 d0).ss), .i (0 : Int), .b (((((a.getD 0 d0).ss).getD (0 : Int).toNat 0).toNat : Int) == (45 : Int))]
 else
 .fail
 else
 .norm [.s ((a.getD 0 d0).ss), .i (0 : Int), .b false]) fun v1 =>
 Out.andThen (if (v1.getD 2 d0).bb = true then
 .norm [.s ((v1.getD 0 d0).ss), .i (1 : Int)]
 else
 .norm [.s ((v1.getD 0 d0).ss), .i ((v1.getD 1 d0).ii)]) fun v2 =>
 (r_spec_l03Run [.s ((v2.getD 0 d0).ss), .i ((v2.getD 1 d0).ii)]).bindR fun r3 =>
 Out.andThen (if ((r3.getD 0 d0).ii == (v2.getD 1 d0).ii) = true then
 .norm [.i ((r3.getD 0 d0).ii), .b true]
 else
 if 0 ≤ (v2.getD 1 d0).ii ∧ (v2.getD 1 d0).ii < (((v2.getD 0 d0).ss).length : Int) then
 if (((((v2.getD 0 d0).ss).getD ((v2.getD 1 d0).ii).toNat 0).toNat : Int) == (48 : Int)) = true then
 .norm [.i ((r3.getD 0 d0).ii), .b (decide ((r3.getD 0 d0).ii > (IntKind.i64.wrap ((v2.getD 1 d0).ii + (1 : Int)))))]
 else
 .norm [.i ((r3.getD 0 d0).ii), .b false]
 else
 .fail) fun v4 =>
 if (v4.getD 1 d0).bb = true then
 .ret [.i (0 : Int)]
 else
 .ret [.i ((v4.getD 0 d0).ii)]
theorem eq_spec_l03Int a : r_spec_l03Int a = E_spec_l03Int a := (Run_eq cfg 88 _ a).trans (by kernel_rfl)
noncomputable def E_impl_named (a : List DC) : Out :=
 if (decide ((((a.getD 0 d0).ll).length : Int) > (60 : Int))) = true then
 .ret [.i (-1 : Int)]
 else
 (r_slices_IndexFunc_impl_Def__impl_named_1 [.sl ((a.getD 0 d0).ll), .s ((a.getD 1 d0).ss)]).bindR fun r1 =>
 .ret [.i ((r1.getD 0 d0).ii)]
theorem eq_impl_named a : r_impl_named a = E_impl_named a := (Run_eq cfg 93 _ a).trans (by kernel_rfl)
noncomputable def E_impl_IntOk (a : List DC) : Out :=
 (r_strings_TrimPrefix [.s ((a.getD 0 d0).ss), .s ([45] : List UInt8)]).bindR fun r1 =>
 Out.andThen (if (decide ((((a.getD 0 d0).ss).length : Int) ≤ (40 : Int))) = true then
 (r_impl_figures [.s ((r1.getD 0 d0).ss)]).bindR fun r2 =>
 if (r2.getD 0 d0).bb = true then
 if ((r1.getD 0 d0).ss == ([48] : List UInt8)) = true then
 .norm [.b true]
 else
 if 0 ≤ (0 : Int) ∧ (0 : Int) < (((r1.getD 0 d0).ss).length : Int) then
 .norm [.b (((((r1.getD 0 d0).ss).getD (0 : Int).toNat 0).toNat : Int) != (48 : Int))]
 else
 .fail
 else
 .norm [.b false]
 else
 .norm [.b false]) fun v3 =>
 .ret [.b ((v3.getD 0 d0).bb)]
theorem eq_impl_IntOk a : r_impl_IntOk a = E_impl_IntOk a := (Run_eq cfg 95 _ a).trans (by kernel_rfl)
noncomputable def E_impl_fitsName_1 (a : List DC) : Out :=
 .ret [.b ((a.getD 0 d0).ss == (a.getD 4 d0).ss), .i ((a.getD 3 d0).ii), .s ((a.getD 4 d0).ss), .sl ((a.getD 5 d0).ll), .sl ((a.getD 6 d0).ll)]
theorem eq_impl_fitsName_1 a : r_impl_fitsName_1 a = E_impl_fitsName_1 a := (Run_eq cfg 57 _ a).trans (by kernel_rfl)
noncomputable def E_slices_IndexFunc_impl_InDef__impl_InAt_1L1 : List DC → Out := fun v1 =>
 if (decide ((v1.getD 2 d0).ii < (v1.getD 1 d0).ii)) = true then
 Out.andThenB (if 93 = 93 ∧ 0 ≤ (v1.getD 2 d0).ii ∧ (v1.getD 2 d0).ii < (((v1.getD 0 d0).ll).length : Int) then
 (r_impl_InAt_1 [.s (((((v1.getD 0 d0).ll).getD ((v1.getD 2 d0).ii).toNat []).getD 0 d0).ss), .s (((((v1.getD 0 d0).ll).getD ((v1.getD 2 d0).ii).toNat []).getD 1 d0).ss), .s (((((v1.getD 0 d0).ll).getD ((v1.getD 2 d0).ii).toNat []).getD 2 d0).ss), .s (((((v1.getD 0 d0).ll).getD ((v1.getD 2 d0).ii).toNat []).getD 3 d0).ss), .b (((((v1.getD 0 d0).ll).getD ((v1.getD 2 d0).ii).toNat []).getD 4 d0).bb), .i (((((v1.getD 0 d0).ll).getD ((v1.getD 2 d0).ii).toNat []).getD 5 d0).ii), .s (((((v1.getD 0 d0).ll).getD ((v1.getD 2 d0).ii).toNat []).getD 6 d0).ss), .sl (((((v1.getD 0 d0).ll).getD ((v1.getD 2 d0).ii).toNat []).getD 7 d0).ll), .sl (((((v1.getD 0 d0).ll).getD ((v1.getD 2 d0).ii).toNat []).getD 8 d0).ll), .sl (((((v1.getD 0 d0).ll).getD ((v1.getD 2 d0).ii).toNat []).getD 9 d0).ll), .s ((v1.getD 3 d0).ss)]).bindR fun r2 =>
 if (r2.getD 0 d0).bb = true then
 .ret [.i ((v1.getD 2 d0).ii), .s ((r2.getD 1 d0).ss)]
 else
 .norm [.sl ((v1.getD 0 d0).ll), .i ((v1.getD 1 d0).ii), .i ((v1.getD 2 d0).ii), .s ((r2.getD 1 d0).ss)]
 else
 .fail) 1 fun v3 =>
 .norm [.sl ((v3.getD 0 d0).ll), .i ((v3.getD 1 d0).ii), .i (IntKind.i64.wrap ((v3.getD 2 d0).ii + (1 : Int))), .s ((v3.getD 3 d0).ss)]
 else
 .ex 0 [.s ((v1.getD 3 d0).ss)]
noncomputable def E_slices_IndexFunc_impl_InDef__impl_InAt_1 (a : List DC) : Out :=
 Out.andThenB (Loop E_slices_IndexFunc_impl_InDef__impl_InAt_1L1 [.sl ((a.getD 0 d0).ll), .i (((a.getD 0 d0).ll).length : Int), .i (0 : Int), .s ((a.getD 1 d0).ss)]) 0 fun v4 =>
 .ret [.i (-1 : Int), .s ((v4.getD 0 d0).ss)]
theorem eq_slices_IndexFunc_impl_InDef__impl_InAt_1 a : r_slices_IndexFunc_impl_InDef__impl_InAt_1 a = E_slices_IndexFunc_impl_InDef__impl_InAt_1 a := (Run_eq cfg 96 _ a).trans (by kernel_rfl)
noncomputable def E_slices_Index_stringL1 : List DC → Out := fun v1 =>
 if (decide ((v1.getD 3 d0).ii < (v1.getD 2 d0).ii)) = true then
 Out.andThenB (if 9 = 9 ∧ 0 ≤ (v1.getD 3 d0).ii ∧ (v1.getD 3 d0).ii < (((v1.getD 0 d0).ll).length : Int) then
 if ((v1.getD 1 d0).ss == ((((v1.getD 0 d0).ll).getD ((v1.getD 3 d0).ii).toNat []).getD 0 d0).ss) = true then
 .ret [.i ((v1.getD 3 d0).ii)]
 else
 .norm [.sl ((v1.getD 0 d0).ll), .s ((v1.getD 1 d0).ss), .i ((v1.getD 2 d0).ii), .i ((v1.getD 3 d0).ii)]
 else
 .fail) 1 fun v2 =>
 .norm [.sl ((v2.getD 0 d0).ll), .s ((v2.getD 1 d0).ss), .i ((v2.getD 2 d0).ii), .i (IntKind.i64.wrap ((v2.getD 3 d0).ii + (1 : Int)))]
 else
 .ex 0 []
noncomputable def E_slices_Index_string (a : List DC) : Out :=
 Out.andThenB (Loop E_slices_Index_stringL1 [.sl ((a.getD 0 d0).ll), .s ((a.getD 1 d0).ss), .i (((a.getD 0 d0).ll).length : Int), .i (0 : Int)]) 0 fun v3 =>
 .ret [.i (-1 : Int)]
theorem eq_slices_Index_string a : r_slices_Index_string a = E_slices_Index_string a := (Run_eq cfg 98 _ a).trans (by kernel_rfl)
noncomputable def E_slices_IndexFunc_string__impl_fitsInput_1L1 : List DC → Out := fun v1 =>
 if (decide ((v1.getD 2 d0).ii < (v1.getD 1 d0).ii)) = true then
 Out.andThenB (if 9 = 9 ∧ 0 ≤ (v1.getD 2 d0).ii ∧ (v1.getD 2 d0).ii < (((v1.getD 0 d0).ll).length : Int) then
 (r_impl_fitsInput_1 [.s (((((v1.getD 0 d0).ll).getD ((v1.getD 2 d0).ii).toNat []).getD 0 d0).ss), .i ((v1.getD 3 d0).ii), .s ((v1.getD 4 d0).ss), .sl ((v1.getD 5 d0).ll), .sl ((v1.getD 6 d0).ll)]).bindR fun r2 =>
 if (r2.getD 0 d0).bb = true then
 .ret [.i ((v1.getD 2 d0).ii), .i ((r2.getD 1 d0).ii), .s ((r2.getD 2 d0).ss), .sl ((r2.getD 3 d0).ll), .sl ((r2.getD 4 d0).ll)]
 else
 .norm [.sl ((v1.getD 0 d0).ll), .i ((v1.getD 1 d0).ii), .i ((v1.getD 2 d0).ii), .i ((r2.getD 1 d0).ii), .s ((r2.getD 2 d0).ss), .sl ((r2.getD 3 d0).ll), .sl ((r2.getD 4 d0).ll)]
 else
 .fail) 1 fun v3 =>
 .norm [.sl ((v3.getD 0 d0).ll), .i ((v3.getD 1 d0).ii), .i (IntKind.i64.wrap ((v3.getD 2 d0).ii + (1 : Int))), .i ((v3.getD 3 d0).ii), .s ((v3.getD 4 d0).ss), .sl ((v3.getD 5 d0).ll), .sl ((v3.getD 6 d0).ll)]
 else
 .ex 0 [.i ((v1.getD 3 d0).ii), .s ((v1.getD 4 d0).ss), .sl ((v1.getD 5 d0).ll), .sl ((v1.getD 6 d0).ll)]
noncomputable def E_slices_IndexFunc_string__impl_fitsInput_1 (a : List DC) : Out :=
 Out.andThenB (Loop E_slices_IndexFunc_string__impl_fitsInput_1L1 [.sl ((a.getD 0 d0).ll), .i (((a.getD 0 d0).ll).length : Int), .i (0 : Int), .i ((a.getD 1 d0).ii), .s ((a.getD 2 d0).ss), .sl ((a.getD 3 d0).ll), .sl ((a.getD 4 d0).ll)]) 0 fun v4 =>
 .ret [.i (-1 : Int), .i ((v4.getD 0 d0).ii), .s ((v4.getD 1 d0).ss), .sl ((v4.getD 2 d0).ll), .sl ((v4.getD 3 d0).ll)]
theorem eq_slices_IndexFunc_string__impl_fitsInput_1 a : r_slices_IndexFunc_string__impl_fitsInput_1 a = E_slices_IndexFunc_string__impl_fitsInput_1 a := (Run_eq cfg 99 _ a).trans (by kernel_rfl)
noncomputable def E_laws_eqFieldDef (a : List DC) : Out :=
 if (!((a.getD 0 d0).ss == (a.getD 6 d0).ss)) = true then
 .ret [.b false]
 else
 if (!((a.getD 1 d0).ss == (a.getD 7 d0).ss)) = true then
 .ret [.b false]
 else
 (r_laws_eqInDefS [.sl ((a.getD 2 d0).ll), .sl ((a.getD 8 d0).ll)]).bindR fun r1 =>
 if (!((r1.getD 0 d0).bb)) = true then
 .ret [.b false]
 else
 (r_laws_eqType [.s ((a.getD 3 d0).ss), .s ((a.getD 4 d0).ss), .s ((a.getD 9 d0).ss), .s ((a.getD 10 d0).ss)]).bindR fun r2 =>
 if (!((r2.getD 0 d0).bb)) = true then
 .ret [.b false]
 else
 (r_laws_eqDirS [.sl ((a.getD 5 d0).ll), .sl ((a.getD 11 d0).ll)]).bindR fun r3 =>
 if (!((r3.getD 0 d0).bb)) = true then
 .ret [.b false]
 else
 .ret [.b true]
theorem eq_laws_eqFieldDef a : r_laws_eqFieldDef a = E_laws_eqFieldDef a := (Run_eq cfg 100 _ a).trans (by kernel_rfl)
noncomputable def E_laws_eqInDef (a : List DC) : Out :=
 if (!((a.getD 0 d0).ss == (a.getD 10 d0).ss)) = true then
 .ret [.b false]
 else
 if (!((a.getD 1 d0).ss == (a.getD 11 d0).ss)) = true then
 .ret [.b false]
 else
 (r_laws_eqType [.s ((a.getD 2 d0).ss), .s ((a.getD 3 d0).ss), .s ((a.getD 12 d0).ss), .s ((a.getD 13 d0).ss)]).bindR fun r1 =>
 if (!((r1.getD 0 d0).bb)) = true then
 .ret [.b false]
 else
 if (!((a.getD 4 d0).bb == (a.getD 14 d0).bb)) = true then
 .ret [.b false]
 else
 (r_laws_eqValue [.i ((a.getD 5 d0).ii), .s ((a.getD 6 d0).ss), .sl ((a.getD 7 d0).ll), .sl ((a.getD 8 d0).ll), .i ((a.getD 15 d0).ii), .s ((a.getD 16 d0).ss), .sl ((a.getD 17 d0).ll), .sl ((a.getD 18 d0).ll)]).bindR fun r2 =>
 if (!((r2.getD 0 d0).bb)) = true then
 .ret [.b false]
 else
 (r_laws_eqDirS [.sl ((a.getD 9 d0).ll), .sl ((a.getD 19 d0).ll)]).bindR fun r3 =>
 if (!((r3.getD 0 d0).bb)) = true then
 .ret [.b false]
 else
 .ret [.b true]
theorem eq_laws_eqInDef a : r_laws_eqInDef a = E_laws_eqInDef a := (Run_eq cfg 101 _ a).trans (by kernel_rfl)
noncomputable def E_laws_eqEnumDef (a : List DC) : Out :=
 if (!((a.getD 0 d0).ss == (a.getD 3 d0).ss)) = true then
 .ret [.b false]
 else
 if (!((a.getD 1 d0).ss == (a.getD 4 d0).ss)) = true then
 .ret [.b false]
 else
 (r_laws_eqDirS [.sl ((a.getD 2 d0).ll), .sl ((a.getD 5 d0).ll)]).bindR fun r1 =>
 if (!((r1.getD 0 d0).bb)) = true then
 .ret [.b false]
 else
 .ret [.b true]
theorem eq_laws_eqEnumDef a : r_laws_eqEnumDef a = E_laws_eqEnumDef a := (Run_eq cfg 102 _ a).trans (by kernel_rfl)
noncomputable def E_laws_eqDir (a : List DC) : Out :=
 if (!((a.getD 0 d0).ss == (a.getD 2 d0).ss)) = true then
 .ret [.b false]
 else
 (r_laws_eqArgS [.sl ((a.getD 1 d0).ll), .sl ((a.getD 3 d0).ll)]).bindR fun r1 =>
 if (!((r1.getD 0 d0).bb)) = true then
 .ret [.b false]
 else
 .ret [.b true]
theorem eq_laws_eqDir a : r_laws_eqDir a = E_laws_eqDir a := (Run_eq cfg 103 _ a).trans (by kernel_rfl)
noncomputable def E_laws_szArgSL1 : List DC → Out := fun v1 =>
 if (decide ((v1.getD 2 d0).ii < (((v1.getD 0 d0).ll).length : Int))) = true then
 Out.andThenB (if 170 = 170 ∧ 0 ≤ (v1.getD 2 d0).ii ∧ (v1.getD 2 d0).ii < (((v1.getD 0 d0).ll).length : Int) then
 (r_laws_szArg [.s (((((v1.getD 0 d0).ll).getD ((v1.getD 2 d0).ii).toNat []).getD 0 d0).ss), .i (((((v1.getD 0 d0).ll).getD ((v1.getD 2 d0).ii).toNat []).getD 1 d0).ii), .s (((((v1.getD 0 d0).ll).getD ((v1.getD 2 d0).ii).toNat []).getD 2 d0).ss), .sl (((((v1.getD 0 d0).ll).getD ((v1.getD 2 d0).ii).toNat []).getD 3 d0).ll), .sl (((((v1.getD 0 d0).ll).getD ((v1.getD 2 d0).ii).toNat []).getD 4 d0).ll), .i ((v1.getD 1 d0).ii)]).bindR fun r2 =>
 if (decide ((r2.getD 0 d0).ii < (0 : Int))) = true then
 .ret [.i (-1 : Int)]
 else
 .norm [.sl ((v1.getD 0 d0).ll), .i ((r2.getD 0 d0).ii), .i ((v1.getD 2 d0).ii)]
 else
 .fail) 1 fun v3 =>
 .norm [.sl ((v3.getD 0 d0).ll), .i ((v3.getD 1 d0).ii), .i (IntKind.i64.wrap ((v3.getD 2 d0).ii + (1 : Int)))]
 else
 .ex 0 [.i ((v1.getD 1 d0).ii)]
noncomputable def E_laws_szArgS (a : List DC) : Out :=
 if (decide ((IntKind.i64.wrap ((a.getD 1 d0).ii - (((a.getD 0 d0).ll).length : Int))) < (0 : Int))) = true then
 .ret [.i (-1 : Int)]
 else
 Out.andThenB (Loop E_laws_szArgSL1 [.sl ((a.getD 0 d0).ll), .i (IntKind.i64.wrap ((a.getD 1 d0).ii - (((a.getD 0 d0).ll).length : Int))), .i (0 : Int)]) 0 fun v4 =>
 .ret [.i ((v4.getD 0 d0).ii)]
theorem eq_laws_szArgS a : r_laws_szArgS a = E_laws_szArgS a := (Run_eq cfg 104 _ a).trans (by kernel_rfl)
noncomputable def E_laws_toArgSL1 : List DC → Out := fun v1 =>
 if (decide ((v1.getD 2 d0).ii < (((v1.getD 0 d0).ll).length : Int))) = true then
 Out.andThenB (if 170 = 170 ∧ 0 ≤ (v1.getD 2 d0).ii ∧ (v1.getD 2 d0).ii < (((v1.getD 0 d0).ll).length : Int) then
 (r_laws_toArg [.s (((((v1.getD 0 d0).ll).getD ((v1.getD 2 d0).ii).toNat []).getD 0 d0).ss), .i (((((v1.getD 0 d0).ll).getD ((v1.getD 2 d0).ii).toNat []).getD 1 d0).ii), .s (((((v1.getD 0 d0).ll).getD ((v1.getD 2 d0).ii).toNat []).getD 2 d0).ss), .sl (((((v1.getD 0 d0).ll).getD ((v1.getD 2 d0).ii).toNat []).getD 3 d0).ll), .sl (((((v1.getD 0 d0).ll).getD ((v1.getD 2 d0).ii).toNat []).getD 4 d0).ll)]).bindR fun r2 =>
 if 173 = 173 ∧ 0 ≤ (v1.getD 2 d0).ii ∧ (v1.getD 2 d0).ii < (((v1.getD 1 d0).ll).length : Int) then
 .norm [.sl ((v1.getD 0 d0).ll), .sl (((v1.getD 1 d0).ll).set (((v1.getD 2 d0).ii).toNat) (setRunD (((v1.getD 1 d0).ll).getD (((v1.getD 2 d0).ii).toNat) []) 0 [DC.s ((r2.getD 0 d0).ss), DC.i ((r2.getD 1 d0).ii), DC.s ((r2.getD 2 d0).ss), DC.sl ((r2.getD 3 d0).ll), DC.sl ((r2.getD 4 d0).ll)])), .i ((v1.getD 2 d0).ii)]
 else
 .fail
 else
 .fail) 1 fun v3 =>
 .norm [.sl ((v3.getD 0 d0).ll), .sl ((v3.getD 1 d0).ll), .i (IntKind.i64.wrap ((v3.getD 2 d0).ii + (1 : Int)))]
 else
 .ex 0 [.sl ((v1.getD 1 d0).ll)]
noncomputable def E_laws_toArgS (a : List DC) : Out :=
 if 0 ≤ (((a.getD 0 d0).ll).length : Int) ∧ (((a.getD 0 d0).ll).length : Int) < (LIM : Int) ∧ (((a.getD 0 d0).ll).length : Int) = (((a.getD 0 d0).ll).length : Int) ∧ 88 ≤ 1024 ∧ 0 < 5 then
 Out.andThenB (Loop E_laws_toArgSL1 [.sl ((a.getD 0 d0).ll), .sl (List.replicate (((a.getD 0 d0).ll).length : Int).toNat [DC.s [], DC.i 0, DC.s [], DC.sl [], DC.sl []]), .i (0 : Int)]) 0 fun v4 =>
 .ret [.sl ((v4.getD 0 d0).ll)]
 else
 .fail
theorem eq_laws_toArgS a : r_laws_toArgS a = E_laws_toArgS a := (Run_eq cfg 106 _ a).trans (by kernel_rfl)
noncomputable def E_spec_l03RunL1 : List DC → Out := fun v1 =>
 Out.andThen (if (decide ((v1.getD 1 d0).ii < (((v1.getD 0 d0).ss).length : Int))) = true then
 if 0 ≤ (v1.getD 1 d0).ii ∧ (v1.getD 1 d0).ii < (((v1.getD 0 d0).ss).length : Int) then
 (r_spec_l03Figure [.i ((((v1.getD 0 d0).ss).getD ((v1.getD 1 d0).ii).toNat 0).toNat : Int)]).bindR fun r2 =>
 .norm [.s ((v1.getD 0 d0).ss), .i ((v1.getD 1 d0).ii), .b ((r2.getD 0 d0).bb)]
 else
 .fail
 else
 .norm [.s ((v1.getD 0 d0).ss), .i ((v1.getD 1 d0).ii), .b false]) fun v3 =>
 if (v3.getD 2 d0).bb = true then
 Out.andThenB (.norm [.s ((v3.getD 0 d0).ss), .i (IntKind.i64.wrap ((v3.getD 1 d0).ii + (1 : Int)))]) 1 fun v4 =>
 .norm [.s ((v4.getD 0 d0).ss), .i ((v4.getD 1 d0).ii)]
 else
 .ex 0 [.i ((v3.getD 1 d0).ii)]
noncomputable def E_spec_l03Run (a : List DC) : Out :=
 Out.andThenB (Loop E_spec_l03RunL1 [.s ((a.getD 0 d0).ss), .i ((a.getD 1 d0).ii)]) 0 fun v5 =>
 .ret [.i ((v5.getD 0 d0).ii)]
theorem eq_spec_l03Run a : r_spec_l03Run a = E_spec_l03Run a := (Run_eq cfg 105 _ a).trans (by kernel_rfl)
noncomputable def E_slices_IndexFunc_impl_Def__impl_named_1L1 : List DC → Out := fun v1 =>
 if (decide ((v1.getD 2 d0).ii < (v1.getD 1 d0).ii)) = true then
 Out.andThenB (if 64 = 64 ∧ 0 ≤ (v1.getD 2 d0).ii ∧ (v1.getD 2 d0).ii < (((v1.getD 0 d0).ll).length : Int) then
 (r_impl_named_1 [.i (((((v1.getD 0 d0).ll).getD ((v1.getD 2 d0).ii).toNat []).getD 0 d0).ii), .b (((((v1.getD 0 d0).ll).getD ((v1.getD 2 d0).ii).toNat []).getD 1 d0).bb), .s (((((v1.getD 0 d0).ll).getD ((v1.getD 2 d0).ii).toNat []).getD 2 d0).ss), .s (((((v1.getD 0 d0).ll).getD ((v1.getD 2 d0).ii).toNat []).getD 3 d0).ss), .sl (((((v1.getD 0 d0).ll).getD ((v1.getD 2 d0).ii).toNat []).getD 4 d0).ll), .sl (((((v1.getD 0 d0).ll).getD ((v1.getD 2 d0).ii).toNat []).getD 5 d0).ll), .sl (((((v1.getD 0 d0).ll).getD ((v1.getD 2 d0).ii).toNat []).getD 6 d0).ll), .sl (((((v1.getD 0 d0).ll).getD ((v1.getD 2 d0).ii).toNat []).getD 7 d0).ll), .sl (((((v1.getD 0 d0).ll).getD ((v1.getD 2 d0).ii).toNat []).getD 8 d0).ll), .b (((((v1.getD 0 d0).ll).getD ((v1.getD 2 d0).ii).toNat []).getD 9 d0).bb), .sl (((((v1.getD 0 d0).ll).getD ((v1.getD 2 d0).ii).toNat []).getD 10 d0).ll), .s ((v1.getD 3 d0).ss)]).bindR fun r2 =>
 if (r2.getD 0 d0).bb = true then
 .ret [.i ((v1.getD 2 d0).ii), .s ((r2.getD 1 d0).ss)]
 else
 .norm [.sl ((v1.getD 0 d0).ll), .i ((v1.getD 1 d0).ii), .i ((v1.getD 2 d0).ii), .s ((r2.getD 1 d0).ss)]
 else
 .fail) 1 fun v3 =>
 .norm [.sl ((v3.getD 0 d0).ll), .i ((v3.getD 1 d0).ii), .i (IntKind.i64.wrap ((v3.getD 2 d0).ii + (1 : Int))), .s ((v3.getD 3 d0).ss)]
 else
 .ex 0 [.s ((v1.getD 3 d0).ss)]
noncomputable def E_slices_IndexFunc_impl_Def__impl_named_1 (a : List DC) : Out :=
 Out.andThenB (Loop E_slices_IndexFunc_impl_Def__impl_named_1L1 [.sl ((a.getD 0 d0).ll), .i (((a.getD 0 d0).ll).length : Int), .i (0 : Int), .s ((a.getD 1 d0).ss)]) 0 fun v4 =>
 .ret [.i (-1 : Int), .s ((v4.getD 0 d0).ss)]
theorem eq_slices_IndexFunc_impl_Def__impl_named_1 a : r_slices_IndexFunc_impl_Def__impl_named_1 a = E_slices_IndexFunc_impl_Def__impl_named_1 a := (Run_eq cfg 107 _ a).trans (by kernel_rfl)
noncomputable def E_strings_TrimPrefix (a : List DC) : Out :=
 (r_internal_stringslite_TrimPrefix [.s ((a.getD 0 d0).ss), .s ((a.getD 1 d0).ss)]).bindR fun r1 =>
 .ret [.s ((r1.getD 0 d0).ss)]
theorem eq_strings_TrimPrefix a : r_strings_TrimPrefix a = E_strings_TrimPrefix a := (Run_eq cfg 111 _ a).trans (by kernel_rfl)
noncomputable def E_impl_figuresL1 : List DC → Out := fun v1 =>
 if (decide ((v1.getD 2 d0).ii < (v1.getD 1 d0).ii)) = true then
 Out.andThenB (if 0 ≤ (v1.getD 2 d0).ii ∧ (v1.getD 2 d0).ii < (((v1.getD 0 d0).ss).length : Int) then
 (r_impl_isFigure [.i ((((v1.getD 0 d0).ss).getD ((v1.getD 2 d0).ii).toNat 0).toNat : Int)]).bindR fun r2 =>
 if (!((r2.getD 0 d0).bb)) = true then
 .ret [.b false]
 else
 .norm [.s ((v1.getD 0 d0).ss), .i ((v1.getD 1 d0).ii), .i ((v1.getD 2 d0).ii)]
 else
 .fail) 1 fun v3 =>
 .norm [.s ((v3.getD 0 d0).ss), .i ((v3.getD 1 d0).ii), .i (IntKind.i64.wrap ((v3.getD 2 d0).ii + (1 : Int)))]
 else
 .ex 0 [.s ((v1.getD 0 d0).ss)]
noncomputable def E_impl_figures (a : List DC) : Out :=
 Out.andThenB (Loop E_impl_figuresL1 [.s ((a.getD 0 d0).ss), .i (((a.getD 0 d0).ss).length : Int), .i (0 : Int)]) 0 fun v4 =>
 .ret [.b (!((v4.getD 0 d0).ss == ([] : List UInt8)))]
theorem eq_impl_figures a : r_impl_figures a = E_impl_figures a := (Run_eq cfg 112 _ a).trans (by kernel_rfl)
noncomputable def E_impl_InAt_1 (a : List DC) : Out :=
 .ret [.b ((a.getD 0 d0).ss == (a.getD 10 d0).ss), .s ((a.getD 10 d0).ss)]
theorem eq_impl_InAt_1 a : r_impl_InAt_1 a = E_impl_InAt_1 a := (Run_eq cfg 97 _ a).trans (by kernel_rfl)
noncomputable def E_impl_fitsInput_1 (a : List DC) : Out :=
 (r_slices_Contains_string [.sl ((a.getD 4 d0).ll), .s ((a.getD 0 d0).ss)]).bindR fun r1 =>
 .ret [.b (!((r1.getD 0 d0).bb)), .i ((a.getD 1 d0).ii), .s ((a.getD 2 d0).ss), .sl ((a.getD 3 d0).ll), .sl ((a.getD 4 d0).ll)]
theorem eq_impl_fitsInput_1 a : r_impl_fitsInput_1 a = E_impl_fitsInput_1 a := (Run_eq cfg 79 _ a).trans (by kernel_rfl)
noncomputable def E_laws_eqType (a : List DC) : Out :=
 if (!((a.getD 0 d0).ss == (a.getD 2 d0).ss)) = true then
 .ret [.b false]
 else
 if (!((a.getD 1 d0).ss == (a.getD 3 d0).ss)) = true then
 .ret [.b false]
 else
 .ret [.b true]
theorem eq_laws_eqType a : r_laws_eqType a = E_laws_eqType a := (Run_eq cfg 113 _ a).trans (by kernel_rfl)
noncomputable def E_laws_eqArgSL1 : List DC → Out := fun v1 =>
 if (decide ((v1.getD 2 d0).ii < (((v1.getD 0 d0).ll).length : Int))) = true then
 Out.andThenB (if 173 = 173 ∧ 0 ≤ (v1.getD 2 d0).ii ∧ (v1.getD 2 d0).ii < (((v1.getD 0 d0).ll).length : Int) then
 if 173 = 173 ∧ 0 ≤ (v1.getD 2 d0).ii ∧ (v1.getD 2 d0).ii < (((v1.getD 1 d0).ll).length : Int) then
 (r_laws_eqArg [.s (((((v1.getD 0 d0).ll).getD ((v1.getD 2 d0).ii).toNat []).getD 0 d0).ss), .i (((((v1.getD 0 d0).ll).getD ((v1.getD 2 d0).ii).toNat []).getD 1 d0).ii), .s (((((v1.getD 0 d0).ll).getD ((v1.getD 2 d0).ii).toNat []).getD 2 d0).ss), .sl (((((v1.getD 0 d0).ll).getD ((v1.getD 2 d0).ii).toNat []).getD 3 d0).ll), .sl (((((v1.getD 0 d0).ll).getD ((v1.getD 2 d0).ii).toNat []).getD 4 d0).ll), .s (((((v1.getD 1 d0).ll).getD ((v1.getD 2 d0).ii).toNat []).getD 0 d0).ss), .i (((((v1.getD 1 d0).ll).getD ((v1.getD 2 d0).ii).toNat []).getD 1 d0).ii), .s (((((v1.getD 1 d0).ll).getD ((v1.getD 2 d0).ii).toNat []).getD 2 d0).ss), .sl (((((v1.getD 1 d0).ll).getD ((v1.getD 2 d0).ii).toNat []).getD 3 d0).ll), .sl (((((v1.getD 1 d0).ll).getD ((v1.getD 2 d0).ii).toNat []).getD 4 d0).ll)]).bindR fun r2 =>
 if (!((r2.getD 0 d0).bb)) = true then
 .ret [.b false]
 else
 .norm [.sl ((v1.getD 0 d0).ll), .sl ((v1.getD 1 d0).ll), .i ((v1.getD 2 d0).ii)]
 else
 .fail
 else
 .fail) 1 fun v3 =>
 .norm [.sl ((v3.getD 0 d0).ll), .sl ((v3.getD 1 d0).ll), .i (IntKind.i64.wrap ((v3.getD 2 d0).ii + (1 : Int)))]
 else
 .ex 0 []
noncomputable def E_laws_eqArgS (a : List DC) : Out :=
 if ((((a.getD 0 d0).ll).length : Int) != (((a.getD 1 d0).ll).length : Int)) = true then
 .ret [.b false]
 else
 Out.andThenB (Loop E_laws_eqArgSL1 [.sl ((a.getD 0 d0).ll), .sl ((a.getD 1 d0).ll), .i (0 : Int)]) 0 fun v4 =>
 .ret [.b true]
theorem eq_laws_eqArgS a : r_laws_eqArgS a = E_laws_eqArgS a := (Run_eq cfg 114 _ a).trans (by kernel_rfl)
noncomputable def E_laws_szArg (a : List DC) : Out :=
 if (decide ((IntKind.i64.wrap ((a.getD 5 d0).ii - (((a.getD 0 d0).ss).length : Int))) < (0 : Int))) = true then
 .ret [.i (-1 : Int)]
 else
 (r_laws_szValue [.i ((a.getD 1 d0).ii), .s ((a.getD 2 d0).ss), .sl ((a.getD 3 d0).ll), .sl ((a.getD 4 d0).ll), .i (IntKind.i64.wrap ((a.getD 5 d0).ii - (((a.getD 0 d0).ss).length : Int)))]).bindR fun r1 =>
 if (decide ((r1.getD 0 d0).ii < (0 : Int))) = true then
 .ret [.i (-1 : Int)]
 else
 .ret [.i ((r1.getD 0 d0).ii)]
theorem eq_laws_szArg a : r_laws_szArg a = E_laws_szArg a := (Run_eq cfg 115 _ a).trans (by kernel_rfl)
noncomputable def E_laws_toArg (a : List DC) : Out :=
 (r_laws_toValue [.i ((a.getD 1 d0).ii), .s ((a.getD 2 d0).ss), .sl ((a.getD 3 d0).ll), .sl ((a.getD 4 d0).ll)]).bindR fun r1 =>
 .ret [.s ((a.getD 0 d0).ss), .i ((r1.getD 0 d0).ii), .s ((r1.getD 1 d0).ss), .sl ((r1.getD 2 d0).ll), .sl ((r1.getD 3 d0).ll)]
theorem eq_laws_toArg a : r_laws_toArg a = E_laws_toArg a := (Run_eq cfg 117 _ a).trans (by kernel_rfl)
noncomputable def E_spec_l03Figure (a : List DC) : Out :=
 Out.andThen (if (decide ((a.getD 0 d0).ii ≥ (48 : Int))) = true then
 .norm [.b (decide ((a.getD 0 d0).ii ≤ (57 : Int)))]
 else
 .norm [.b false]) fun v1 =>
 .ret [.b ((v1.getD 0 d0).bb)]
theorem eq_spec_l03Figure a : r_spec_l03Figure a = E_spec_l03Figure a := (Run_eq cfg 116 _ a).trans (by kernel_rfl)
noncomputable def E_impl_named_1 (a : List DC) : Out :=
 .ret [.b ((a.getD 3 d0).ss == (a.getD 11 d0).ss), .s ((a.getD 11 d0).ss)]
theorem eq_impl_named_1 a : r_impl_named_1 a = E_impl_named_1 a := (Run_eq cfg 108 _ a).trans (by kernel_rfl)
noncomputable def E_internal_stringslite_TrimPrefix (a : List DC) : Out :=
 (r_internal_stringslite_HasPrefix [.s ((a.getD 0 d0).ss), .s ((a.getD 1 d0).ss)]).bindR fun r1 =>
 if (r1.getD 0 d0).bb = true then
 if 0 ≤ (((a.getD 1 d0).ss).length : Int) ∧ (((a.getD 1 d0).ss).length : Int) ≤ (((a.getD 0 d0).ss).length : Int) then
 .ret [.s (((a.getD 0 d0).ss).drop (((a.getD 1 d0).ss).length : Int).toNat)]
 else
 .fail
 else
 .ret [.s ((a.getD 0 d0).ss)]
theorem eq_internal_stringslite_TrimPrefix a : r_internal_stringslite_TrimPrefix a = E_internal_stringslite_TrimPrefix a := (Run_eq cfg 123 _ a).trans (by kernel_rfl)
noncomputable def E_impl_isFigure (a : List DC) : Out :=
 Out.andThen (if (decide ((a.getD 0 d0).ii ≥ (48 : Int))) = true then
 .norm [.b (decide ((a.getD 0 d0).ii ≤ (57 : Int)))]
 else
 .norm [.b false]) fun v1 =>
 .ret [.b ((v1.getD 0 d0).bb)]
theorem eq_impl_isFigure a : r_impl_isFigure a = E_impl_isFigure a := (Run_eq cfg 124 _ a).trans (by kernel_rfl)
noncomputable def E_laws_eqArg (a : List DC) : Out :=
 if (!((a.getD 0 d0).ss == (a.getD 5 d0).ss)) = true then
 .ret [.b false]
 else
 (r_laws_eqValue [.i ((a.getD 1 d0).ii), .s ((a.getD 2 d0).ss), .sl ((a.getD 3 d0).ll), .sl ((a.getD 4 d0).ll), .i ((a.getD 6 d0).ii), .s ((a.getD 7 d0).ss), .sl ((a.getD 8 d0).ll), .sl ((a.getD 9 d0).ll)]).bindR fun r1 =>
 if (!((r1.getD 0 d0).bb)) = true then
 .ret [.b false]
 else
 .ret [.b true]
theorem eq_laws_eqArg a : r_laws_eqArg a = E_laws_eqArg a := (Run_eq cfg 125 _ a).trans (by kernel_rfl)
noncomputable def E_internal_stringslite_HasPrefix (a : List DC) : Out :=
 Out.andThen (if (decide ((((a.getD 0 d0).ss).length : Int) ≥ (((a.getD 1 d0).ss).length : Int))) = true then
 if 0 ≤ (((a.getD 1 d0).ss).length : Int) ∧ (((a.getD 1 d0).ss).length : Int) ≤ (((a.getD 0 d0).ss).length : Int) then
 .norm [.b ((((a.getD 0 d0).ss).take (((a.getD 1 d0).ss).length : Int).toNat) == (a.getD 1 d0).ss)]
 else
 .fail
 else
 .norm [.b false]) fun v1 =>
 .ret [.b ((v1.getD 0 d0).bb)]
theorem eq_internal_stringslite_HasPrefix a : r_internal_stringslite_HasPrefix a = E_internal_stringslite_HasPrefix a := (Run_eq cfg 131 _ a).trans (by kernel_rfl)
end Go.Proofs.QV

