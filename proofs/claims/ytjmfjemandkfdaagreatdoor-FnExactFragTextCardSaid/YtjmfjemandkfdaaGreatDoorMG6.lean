import Derived.Test.YtjmfjemandkfdaaGreatDoorMG5
import Derived.WalkKit
import Derived.ProofKit
import Derived.OpenShut
import Derived.ShutString
import Derived.ChangeOld
import Derived.SizedLaws
import Derived.Shelf.Strings.IndexAny
import Derived.Laws.RangeAny
import Derived.Laws.Runes
import Derived.Below
import Derived.Shelf.RegionOpenPlain
import Derived.Shelf.Strings.IndexAnyAll
import Derived.Lib.QuoteLoop
import Derived.Lib.RuneCountTail
import Derived.WalkMore
import Derived.Shelf.Small.Utf8
import Derived.Test.YtjmfjemandkfdaaGreatDoorProg
import Derived.Shelf.Lays
import Derived.Shelf.Unicode.ValidAny
import Derived.Lib.LaidU8T
import Derived.Shelf.Strings.Cut
import Derived.Shelf.Strings.OnBuilder
import Derived.Shelf.Strings.Repeat
import Derived.Shelf.Small.Strs
/- The input reads as it did. -/
namespace Go.Proofs.QV
open Go
theorem args_stay {H : Type} {enc : TypeId × Value → H} {P : Program} (hl : laidOutB P = true) {W W' : World} (hb : RowKit.Below W.heap.size W W') : ∀ {ts : List TypeId} {vs : List Value} {ds : List (DataW H)} {ps : List MemPlace},
    (ts.all fun t => P.readableRec t && Nat.blt t P.types.size) = true → DataW.TrodAll enc P W 0 (fun _ => true) true ts vs ds ps → DataW.TrodAll enc P W' 0 (fun b => decide (b < W.heap.size)) true ts vs ds ps
  | [], [], [], ps, _, h => h
  | t :: ts, v :: vs, d :: ds, ps, ht, ⟨p, q, h1, h2, h3⟩ => by
    simp only [List.all_cons, Bool.and_eq_true] at ht
    obtain ⟨⟨k1, k2⟩, k3⟩ := ht
    refine ⟨p, q, RowKit.Below.trod hl k1 (by simpa [Nat.blt_eq] using k2) h1 hb ?_, args_stay hl hb k3 h2, h3⟩
    obtain ⟨m, hm⟩ := h1
    exact DataW.trod_lt m _ _ _ hm
  | [], _ :: _, _, _, _, h => h.elim
  | [], [], _ :: _, _, _, h => h.elim
  | _ :: _, [], _, _, _, h => h.elim
  | _ :: _, _ :: _, [], _, _, h => h.elim
theorem wrap64 {n : Int} (h1 : -9223372036854775808 ≤ n) (h2 : n ≤ 9223372036854775807) : IntKind.i64.wrap n = n := by
  rw [IntKind.wrap_i64]
  omega
set_option linter.unusedVariables false
set_option linter.unusedSimpArgs false
def Out.esc (o : Out) : Prop := ∀ K, o.andThen K = o
theorem Out.esc_ret (v : List DC) : (Out.ret v).esc := fun _ => rfl
theorem Out.esc_ex (id : Nat) (v : List DC) : (Out.ex id v).esc := fun _ => rfl
theorem Loop_norm {F : List DC → Out} {v v' : List DC} (h : F v = .norm v') : Loop F v = Loop F v' := by rw [Loop_eq, h]; rfl
theorem Loop_ret {F : List DC → Out} {v r : List DC} (h : F v = .ret r) : Loop F v = .ret r := by rw [Loop_eq, h]; rfl
theorem Loop_ex {F : List DC → Out} {v r : List DC} {id : Nat} (h : F v = .ex id r) : Loop F v = .ex id r := by rw [Loop_eq, h]; rfl
theorem Loop_esc {F : List DC → Out} {v : List DC} {o : Out} (h : F v = o) (he : o.esc) : Loop F v = o := by rw [Loop_eq, h, he]
theorem Loop_upto {F : List DC → Out} {st : Nat → List DC} {o : Out} : ∀ (m i : Nat), (∀ j, i ≤ j → j < i + m → F (st j) = .norm (st (j + 1))) → Loop F (st (i + m)) = o → Loop F (st i) = o
  | 0, i, _, h2 => by simpa using h2
  | m + 1, i, h1, h2 => by
    rw [Loop_norm (h1 i (Nat.le_refl _) (by omega))]
    refine Loop_upto m (i + 1) (fun j hj hj' => h1 j (by omega) (by omega)) ?_
    rw [show i + 1 + m = i + (m + 1) by omega]
    exact h2
def goE {α σ : Type} (f : Nat → σ → α → Sum σ Out) (fin : σ → Out) : Nat → σ → List α → Out
  | _, s, [] => fin s
  | i, s, x :: xs =>
    match f i s x with
    | .inl s' => goE f fin (i + 1) s' xs
    | .inr o => o
theorem Loop_fold {α σ : Type} {l : List α} {st : Nat → σ → List DC} {f : Nat → σ → α → Sum σ Out} {fin : σ → Out} {F : List DC → Out} (I : Nat → σ → Prop)
    (hF : ∀ (i : Nat) (s : σ) (hi : i < l.length), I i s → (∃ s', f i s l[i] = .inl s' ∧ I (i + 1) s' ∧ F (st i s) = .norm (st (i + 1) s')) ∨ ∃ o, f i s l[i] = .inr o ∧ o.esc ∧ F (st i s) = o)
    (hend : ∀ s, I l.length s → F (st l.length s) = fin s ∧ (fin s).esc) : ∀ (m i : Nat) (s : σ), i + m = l.length → I i s → Loop F (st i s) = goE f fin i s (l.drop i)
  | 0, i, s, hi, hI => by
    have : i = l.length := by omega
    subst this
    rw [List.drop_length, goE]
    exact Loop_esc (hend s hI).1 (hend s hI).2
  | m + 1, i, s, hi, hI => by
    have hlt : i < l.length := by omega
    rw [List.drop_eq_getElem_cons hlt, goE]
    rcases hF i s hlt hI with ⟨s', h1, h2, h3⟩ | ⟨o, h1, h2, h3⟩
    · rw [h1, Loop_norm h3]
      exact Loop_fold I hF hend m (i + 1) s' (by omega) h2
    · rw [h1]
      exact Loop_esc h3 h2
def goF {α : Type} (p : α → Bool) (stop : Nat → α → Out) (fin : Out) : Nat → List α → Out
  | _, [] => fin
  | i, x :: xs => if p x = true then stop i x else goF p stop fin (i + 1) xs
theorem Loop_find {α : Type} {l : List α} {st : Nat → List DC} {p : α → Bool} {stop : Nat → α → Out} {fin : Out} {F : List DC → Out}
    (hF : ∀ (i : Nat) (hi : i < l.length), F (st i) = if p l[i] = true then stop i l[i] else .norm (st (i + 1)))
    (hs : ∀ i x, (stop i x).esc) (hend : F (st l.length) = fin) (hfin : fin.esc) : ∀ (m i : Nat), i + m = l.length → Loop F (st i) = goF p stop fin i (l.drop i)
  | 0, i, hi => by
    have : i = l.length := by omega
    subst this
    rw [List.drop_length, goF]
    exact Loop_esc hend hfin
  | m + 1, i, hi => by
    have hlt : i < l.length := by omega
    rw [List.drop_eq_getElem_cons hlt, goF]
    by_cases hp : p l[i] = true
    · rw [if_pos hp]
      exact Loop_esc (by rw [hF i hlt, if_pos hp]) (hs _ _)
    · rw [if_neg hp, Loop_norm (by rw [hF i hlt, if_neg hp])]
      exact Loop_find hF hs hend hfin m (i + 1) (by omega)
theorem Loop_find0 {α : Type} {l : List α} {st : Nat → List DC} {p : α → Bool} {stop : Nat → α → Out} {fin : Out} {F : List DC → Out}
    (hF : ∀ (i : Nat) (hi : i < l.length), F (st i) = if p l[i] = true then stop i l[i] else .norm (st (i + 1)))
    (hs : ∀ i x, (stop i x).esc) (hend : F (st l.length) = fin) (hfin : fin.esc) : Loop F (st 0) = goF p stop fin 0 l := by
  have := Loop_find hF hs hend hfin l.length 0 (by omega)
  rwa [List.drop_zero] at this
theorem goF_idx {α : Type} {p : α → Bool} {stop : Nat → α → Out} {fin : Out} : ∀ (l : List α) (i : Nat), goF p stop fin i l = match l.findIdx? p with | some j => (match l[j]? with | some x => stop (i + j) x | none => .fail) | none => fin
  | [], i => rfl
  | x :: l, i => by
    rw [goF, List.findIdx?_cons]
    by_cases hp : p x = true
    · simp [hp]
    · simp only [hp, Bool.false_eq_true, if_false]
      rw [goF_idx l (i + 1)]
      cases h : l.findIdx? p with
      | none => simp
      | some j => simp [Nat.add_assoc, Nat.add_comm 1 j]
theorem goF_any {α : Type} {p : α → Bool} {a : Out} {fin : Out} : ∀ (l : List α) (i : Nat), goF p (fun _ _ => a) fin i l = if l.any p = true then a else fin
  | [], i => rfl
  | x :: l, i => by
    rw [goF, goF_any l (i + 1), List.any_cons]
    cases p x <;> simp
theorem wrap_succ {i n : Nat} (h : i < n) (hn : n ≤ 9223372036854775807) : IntKind.i64.wrap ((i : Int) + 1) = ((i + 1 : Nat) : Int) := by
  rw [wrap64 (by omega) (by omega)]
  simp
theorem map_getD {α : Type} {f : α → List DC} {l : List α} {i : Nat} (h : i < l.length) : (l.map f).getD i [] = f l[i] := by
  rw [List.getD_eq_getElem?_getD, List.getElem?_map, List.getElem?_eq_getElem h]
  rfl
def szR (left : Int) (w : Nat) : Int := if left < (w : Int) then -1 else left - w
theorem szR_lt {left : Int} {w : Nat} (h : left < (w : Int)) : szR left w = -1 := if_pos h
theorem szR_ge {left : Int} {w : Nat} (h : ¬ left < (w : Int)) : szR left w = left - w := if_neg h
theorem szS_loop {α : Type} {enc : α → List DC} {vs : List α} {F : List DC → Out}
    (hF : ∀ (i : Nat) (hi : i < vs.length) (left : Int), 0 ≤ left → left ≤ 1048576 → F [.sl (vs.map enc), .i left, .i (i : Int)] = if left < (wtL (enc vs[i]) : Int) then .ret [.i (-1)] else .norm [.sl (vs.map enc), .i (left - wtL (enc vs[i])), .i ((i + 1 : Nat) : Int)])
    (hend : ∀ left, F [.sl (vs.map enc), .i left, .i (vs.length : Int)] = .ex 0 [.i left]) :
    ∀ (m i : Nat) (left : Int), i + m = vs.length → 0 ≤ left → left ≤ 1048576 → Loop F [.sl (vs.map enc), .i left, .i (i : Int)] = if left < (wtV ((vs.drop i).map enc) : Int) then .ret [.i (-1)] else .ex 0 [.i (left - wtV ((vs.drop i).map enc))]
  | 0, i, left, hi, h0, h1 => by
    have : i = vs.length := by omega
    subst this
    rw [List.drop_length, Loop_ex (hend left)]
    simp only [List.map_nil, wtV]
    rw [if_neg (by omega)]
    simp
  | m + 1, i, left, hi, h0, h1 => by
    have hlt : i < vs.length := by omega
    have hw : wtV ((vs.drop i).map enc) = wtL (enc vs[i]) + wtV ((vs.drop (i + 1)).map enc) := by
      rw [List.drop_eq_getElem_cons hlt, List.map_cons, wtV]
    by_cases hc : left < (wtL (enc vs[i]) : Int)
    · rw [Loop_ret (by rw [hF i hlt left h0 h1, if_pos hc]), if_pos (by omega)]
    · rw [Loop_norm (by rw [hF i hlt left h0 h1, if_neg hc]), szS_loop hF hend m (i + 1) _ (by omega) (by omega) (by omega), hw]
      by_cases h2 : left - (wtL (enc vs[i]) : Int) < (wtV ((vs.drop (i + 1)).map enc) : Int)
      · rw [if_pos h2, if_pos (by omega)]
      · rw [if_neg h2, if_neg (by omega)]
        congr 3
        omega
theorem szS_all {α : Type} {enc : α → List DC} {vs : List α} {F : List DC → Out} (hl : vs.length ≤ 9223372036854775807)
    (hF : ∀ (i : Nat) (hi : i < vs.length) (left : Int), 0 ≤ left → left ≤ 1048576 → F [.sl (vs.map enc), .i left, .i (i : Int)] = if left < (wtL (enc vs[i]) : Int) then .ret [.i (-1)] else .norm [.sl (vs.map enc), .i (left - wtL (enc vs[i])), .i ((i + 1 : Nat) : Int)])
    (hend : ∀ left, F [.sl (vs.map enc), .i left, .i (vs.length : Int)] = .ex 0 [.i left]) {left : Int} (h0 : 0 ≤ left) (h1 : left ≤ 1048576) :
    (if (decide ((IntKind.i64.wrap (left - (((vs.map enc).length : Nat) : Int))) < (0 : Int))) = true then Out.ret [DC.i (-1 : Int)]
    else Out.andThenB (Loop F [DC.sl (vs.map enc), DC.i (IntKind.i64.wrap (left - (((vs.map enc).length : Nat) : Int))), DC.i (0 : Int)]) 0 fun v4 => .ret [DC.i ((v4.getD 0 d0).ii)]) = .ret [.i (szR left (DC.wt (.sl (vs.map enc))))] := by
  rw [DC.wt, List.length_map, wrap64 (by omega) (by omega)]
  by_cases hc : left - (vs.length : Int) < 0
  · simp only [hc, decide_true, if_true]
    rw [szR_lt (by omega)]
  · simp only [hc, decide_false, Bool.false_eq_true, if_false]
    have := szS_loop hF hend vs.length 0 (left - vs.length) (by omega) (by omega) (by omega)
    rw [List.drop_zero] at this
    rw [show (0 : Int) = ((0 : Nat) : Int) from rfl, this]
    by_cases h2 : left - (vs.length : Int) < (wtV (vs.map enc) : Int)
    · rw [if_pos h2, szR_lt (by omega)]
      rfl
    · rw [if_neg h2, szR_ge (by omega)]
      simp only [Out.andThenB_ex, if_true, List.getD_cons_zero, DC.ii_i]
      congr 3
      omega
theorem toS_loop {α : Type} {enc : α → List DC} {vs : List α} {z : List DC} {F : List DC → Out} (hl : vs.length ≤ 1048576)
    (hF : ∀ (i : Nat) (hi : i < vs.length) (cur : List (List DC)), cur.length = vs.length → cur.getD i [] = z → F [.sl (vs.map enc), .sl cur, .i (i : Int)] = .norm [.sl (vs.map enc), .sl (cur.set i (enc vs[i])), .i ((i + 1 : Nat) : Int)])
    (hend : ∀ cur, F [.sl (vs.map enc), .sl cur, .i (vs.length : Int)] = .ex 0 [.sl cur]) :
    Loop F [.sl (vs.map enc), .sl (List.replicate vs.length z), .i ((0 : Nat) : Int)] = .ex 0 [.sl (vs.map enc)] := by
  have hloop : Loop F [.sl (vs.map enc), .sl (List.replicate vs.length z), .i ((0 : Nat) : Int)] = .ex 0 [.sl (vs.map enc)] := by
    have h := Loop_upto (F := F) (st := fun i => [.sl (vs.map enc), .sl ((vs.map enc).take i ++ List.replicate (vs.length - i) z), .i (i : Int)]) (o := .ex 0 [.sl (vs.map enc)]) vs.length 0 (fun i _ hi => by
      have hlt : i < vs.length := by omega
      have hlen : ((vs.map enc).take i ++ List.replicate (vs.length - i) z).length = vs.length := by simp; omega
      have hgz : ((vs.map enc).take i ++ List.replicate (vs.length - i) z).getD i [] = z := by
        rw [List.getD_eq_getElem?_getD, List.getElem?_append_right (by simp; omega), List.getElem?_replicate, if_pos (by simp; omega)]
        rfl
      have := hF i hlt _ hlen hgz
      have hset : ((vs.map enc).take i ++ List.replicate (vs.length - i) z).set i (enc vs[i]) = (vs.map enc).take (i + 1) ++ List.replicate (vs.length - (i + 1)) z := by
        have ht : (vs.map enc).take (i + 1) = (vs.map enc).take i ++ [enc vs[i]] := by rw [List.take_add_one, List.getElem?_map, List.getElem?_eq_getElem hlt]; rfl
        rw [List.set_append_right _ _ (by simp; omega), ht]
        obtain ⟨m, hm⟩ : ∃ m, vs.length - i = m + 1 := ⟨vs.length - i - 1, by omega⟩
        have hm2 : vs.length - (i + 1) = m := by omega
        have hm3 : i - ((vs.map enc).take i).length = 0 := by simp; omega
        rw [hm, hm2, hm3, List.replicate_succ]
        simp only [List.set_cons_zero, List.append_assoc, List.singleton_append]
      rw [hset] at this
      exact this) (by
        have := hend (vs.map enc)
        refine Loop_ex ?_
        have ht : (vs.map enc).take (0 + vs.length) = vs.map enc := List.take_of_length_le (by simp)
        rw [ht]
        simpa using this)
    simpa using h
  exact hloop
theorem lim_of {n : Nat} (h : n ≤ 1048576) : (n : Int) < (LIM : Int) := by simp only [LIM]; omega
theorem eqS_all {l : List (List DC)} {F : List DC → Out} (hF : ∀ (i : Nat), i < l.length → F [.sl l, .sl l, .i (i : Int)] = .norm [.sl l, .sl l, .i ((i + 1 : Nat) : Int)]) (hend : F [.sl l, .sl l, .i (l.length : Int)] = .ex 0 []) :
    (if ((l.length : Int) != (l.length : Int)) = true then Out.ret [DC.b false]
    else Out.andThenB (Loop F [DC.sl l, DC.sl l, DC.i (0 : Int)]) 0 fun v4 => .ret [DC.b true]) = .ret [.b true] := by
  have hloop : Loop F [.sl l, .sl l, .i ((0 : Nat) : Int)] = .ex 0 [] :=
    Loop_upto (st := fun i => [.sl l, .sl l, .i (i : Int)]) l.length 0 (fun j _ hj => hF j (by omega)) (by rw [Nat.zero_add]; exact Loop_ex hend)
  rw [show (0 : Int) = ((0 : Nat) : Int) from rfl, hloop]
  simp
def gi (v : List DC) (n : Nat) : Int := (v.getD n d0).ii
def gl (v : List DC) (n : Nat) : List (List DC) := (v.getD n d0).ll
def gs (v : List DC) (n : Nat) : List UInt8 := (v.getD n d0).ss
def gb (v : List DC) (n : Nat) : Bool := (v.getD n d0).bb
theorem zz0 : (∀ {α : Type} {x : α} {l : List α} {d : α}, (x :: l).getD 0 d = x) ∧ (∀ x l, gi (x :: l) 0 = x.ii) ∧ (∀ x l, gl (x :: l) 0 = x.ll) ∧ (∀ x l, gs (x :: l) 0 = x.ss) ∧ (∀ x l, gb (x :: l) 0 = x.bb) :=
  ⟨List.getD_cons_zero, fun _ _ => rfl, fun _ _ => rfl, fun _ _ => rfl, fun _ _ => rfl⟩
theorem zz1 : (∀ {α : Type} {x : α} {l : List α} {i : Nat} {d : α}, (x :: l).getD (i + 1) d = l.getD i d) ∧ (∀ x l n, gi (x :: l) (n + 1) = gi l n) ∧ (∀ x l n, gl (x :: l) (n + 1) = gl l n) ∧ (∀ x l n, gs (x :: l) (n + 1) = gs l n) ∧ (∀ x l n, gb (x :: l) (n + 1) = gb l n) :=
  ⟨List.getD_cons_succ, fun _ _ _ => rfl, fun _ _ _ => rfl, fun _ _ _ => rfl, fun _ _ _ => rfl⟩
@[simp] theorem gi0 (x : DC) (l : List DC) : gi (x :: l) 0 = x.ii := rfl
@[simp] theorem gl0 (x : DC) (l : List DC) : gl (x :: l) 0 = x.ll := rfl
@[simp] theorem gs0 (x : DC) (l : List DC) : gs (x :: l) 0 = x.ss := rfl
@[simp] theorem gb0 (x : DC) (l : List DC) : gb (x :: l) 0 = x.bb := rfl
@[simp] theorem gi1 (x : DC) (l : List DC) (n : Nat) : gi (x :: l) (n + 1) = gi l n := rfl
@[simp] theorem gl1 (x : DC) (l : List DC) (n : Nat) : gl (x :: l) (n + 1) = gl l n := rfl
@[simp] theorem gs1 (x : DC) (l : List DC) (n : Nat) : gs (x :: l) (n + 1) = gs l n := rfl
@[simp] theorem gb1 (x : DC) (l : List DC) (n : Nat) : gb (x :: l) (n + 1) = gb l n := rfl
theorem zr (v : List DC) (K : List DC → Out) : (Out.ret v).bindR K = K v := rfl
@[simp] theorem zb (x : Bool) : (DC.b x).bb = x := rfl
@[simp] theorem zi (x : Int) : (DC.i x).ii = x := rfl
@[simp] theorem zs (x : List UInt8) : (DC.s x).ss = x := rfl
@[simp] theorem zl (x : List (List DC)) : (DC.sl x).ll = x := rfl
theorem zt (b : Bool) : b = true ∨ b = false := Bool.eq_false_or_eq_true b
theorem zm {α β : Type} (f : α → β) {l : List α} : (l.map f).length = l.length := List.length_map f
theorem zf : (false = true) = False := Bool.false_eq_true
def k1Is : CT → KC → Bool
  | .b, .one .b => true
  | .i k, .one (.i k') => decide (k = k')
  | .s, .one .s => true
  | _, _ => false
def tmIs : List CT → List KC → Bool
  | [], [] => true
  | c :: cs, k :: ks => k1Is c k && tmIs cs ks
  | _, _ => false
def hintLit (cts : List CT) (h : Hint) : Bool := tmIs cts h.tm && (match h.ob with | [] => true | _ => false)
theorem tmIs_eq : ∀ {cts : List CT} {ks : List KC}, tmIs cts ks = true → ks = cts.map fun c => .one c.k1
  | [], [], _ => rfl
  | c :: cs, k :: ks, h => by
    simp only [tmIs, Bool.and_eq_true] at h
    rw [List.map_cons, ← tmIs_eq h.2]
    congr 1
    have h1 := h.1
    unfold k1Is at h1
    split at h1
    · rfl
    · simp only [decide_eq_true_eq] at h1; rw [h1]; rfl
    · rfl
    · simp at h1
  | [], _ :: _, h => by simp [tmIs] at h
  | _ :: _, [], h => by simp [tmIs] at h
theorem tmIs_flat : ∀ {cts : List CT} {ks : List KC}, tmIs cts ks = true → cts.all CT.flat = true
  | [], _, _ => rfl
  | c :: cs, k :: ks, h => by
    simp only [tmIs, Bool.and_eq_true] at h
    rw [List.all_cons, tmIs_flat h.2, Bool.and_true]
    have h1 := h.1
    cases c <;> simp_all [k1Is, CT.flat]
  | _ :: _, [], h => by simp [tmIs] at h
def litC : CT → DC → Value
  | .b, d => .bool d.bb
  | .i k, d => .int k d.ii
  | .s, d => .string ⟨d.ss.toArray⟩
  | .sl _, _ => undef
def lits : List CT → List DC → Nat → List Value
  | [], _, _ => []
  | c :: cs, v, n => litC c (v.getD n d0) :: lits cs v (n + 1)
theorem lits_len : ∀ (cts : List CT) (v : List DC) (n : Nat), (lits cts v n).length = cts.length
  | [], _, _ => rfl
  | c :: cs, v, n => by rw [lits, List.length_cons, lits_len cs v (n + 1), List.length_cons]
theorem mkT_lit (v : List DC) : ∀ (cts : List CT) (n i : Nat) (c : CT), cts.all CT.flat = true → cts[i]? = some c → (mkT v n (cts.map fun c => KC.one c.k1))[i]? = some (.one (c.k1.mk v (n + i)))
  | [], n, i, c, _, h => by simp at h
  | a :: cts, n, 0, c, hf, h => by
    simp only [List.getElem?_cons_zero, Option.some.injEq] at h
    subst h
    rfl
  | a :: cts, n, i + 1, c, hf, h => by
    simp only [List.all_cons, Bool.and_eq_true] at hf
    simp only [List.getElem?_cons_succ] at h
    have hc : a.k1.cnt = 1 := by cases a <;> rfl
    rw [List.map_cons, mkT, List.getElem?_cons_succ, hc, mkT_lit v cts (n + 1) i c hf.2 h]
    congr 3
    omega
theorem mkT_len (v : List DC) : ∀ (ks : List KC) (n : Nat), (mkT v n ks).length = ks.length
  | [], _ => rfl
  | .one k :: ks, n => by rw [mkT, List.length_cons, mkT_len v ks, List.length_cons]
  | .agg l :: ks, n => by rw [mkT, List.length_cons, mkT_len v ks, List.length_cons]
theorem lits_get (v : List DC) : ∀ (cts : List CT) (n i : Nat) (c : CT), cts[i]? = some c → (lits cts v n)[i]? = some (litC c (v.getD (n + i) d0))
  | [], n, i, c, h => by simp at h
  | a :: cts, n, 0, c, h => by
    simp only [List.getElem?_cons_zero, Option.some.injEq] at h
    subst h
    rfl
  | a :: cts, n, i + 1, c, h => by
    simp only [List.getElem?_cons_succ] at h
    rw [lits, List.getElem?_cons_succ, lits_get v cts (n + 1) i c h]
    congr 3
    omega
section
variable {P : Program} {ty : Nat → Option TI}
theorem lit_args {A : An} {g : Gh} {fi : FI} {cts : List CT} {v : List DC} {vals : Array Value} {w : World} (hf : cts.all CT.flat = true)
    (hr : Rel ty A g (startSt fi ⟨cts.map fun c => .one c.k1, []⟩ v) { tmps := vals ++ Array.replicate (fi.ntmps - vals.size) undef, defers := [] } w) (hs : vals.size = cts.length) : vals = (lits cts v 0).toArray := by
  apply Array.toList_inj.1
  apply List.ext_getElem?
  intro i
  by_cases hi : i < cts.length
  · have hc : cts[i]? = some cts[i] := List.getElem?_eq_getElem hi
    have h1 := mkT_lit v cts 0 i _ hf hc
    have h2 : (startSt fi ⟨cts.map fun c => .one c.k1, []⟩ v).tm[i]? = some (.one (cts[i].k1.mk v (0 + i))) := by
      unfold startSt mkSt
      dsimp only
      rw [List.getElem?_append_left (by rw [mkT_len]; simpa using hi)]
      exact h1
    have hv : vals.toList[i]? = some (vals[i]'(by omega)) := by
      rw [Array.getElem?_toList, Array.getElem?_eq_getElem (by omega)]
    have h3 := hr.tm i _ (vals[i]'(by omega)) h2 (by
      dsimp only
      rw [Array.getElem?_append_left (by omega), Array.getElem?_eq_getElem (by omega)])
    have hfl : CT.flat cts[i] = true := List.all_eq_true.1 hf _ (List.getElem_mem hi)
    have hl := lits_get v cts 0 i _ hc
    simp only [List.toList_toArray] at hl ⊢
    rw [hv, hl]
    congr 1
    generalize cts[i] = c at h3 hfl ⊢
    cases c with
    | sl e => simp [CT.flat] at hfl
    | b => exact h3
    | i k => exact h3
    | s => exact h3
  · rw [List.getElem?_eq_none (by simp; omega), List.getElem?_eq_none (by simp [lits_len]; omega)]
theorem rkAll_ct (rcts : List CT) (i : Nat) : rkAll i (rcts.map fun c => (false, [RK.ct c])) = rcts.map CT.k1 := by
  unfold rkAll
  induction rcts with
  | nil => rfl
  | cons c cs ih =>
    rw [List.map_cons, List.flatMap_cons, List.map_cons]
    show rkK i (RK.ct c :: (cs.map fun c => (false, [RK.ct c])).flatMap Prod.snd) = _
    rw [rkK]
    show c.k1 :: rkK i _ = _
    rw [ih]
def okD : CT → DC → Bool
  | .b, .b _ => true
  | .i _, .i _ => true
  | .s, .s _ => true
  | _, _ => false
def okDs : List CT → List DC → Nat → Bool
  | [], _, _ => true
  | c :: cs, r, n => okD c (r.getD n d0) && okDs cs r (n + 1)
theorem lit_res {A : An} {rcts : List CT} {r : List DC} {w' : World} (hf : okDs rcts r 0 = true) (hA : A.m = 0) (hk : Keep A w') : Res ty A [] (rcts.map fun c => (false, [RK.ct c])) r (lits rcts r 0) w' := by
  refine ⟨⟨⟨fun _ => False, fun _ => 0, fun _ => undef⟩, [], [], lits rcts r 0, [], ?_, rfl, ?_, ?_, fun b h => h.elim, fun j hj => by omega, fun j hj => by omega⟩, hk⟩
  · have : ∀ (cs : List CT) (n : Nat), RVs (cs.map fun c => (false, [RK.ct c])) (lits cs r n) (lits cs r n) := by
      intro cs
      induction cs with
      | nil => intro n; rfl
      | cons c cs ih => intro n; exact ⟨[litC c (r.getD n d0)], lits cs r (n + 1), rfl, rfl, fun h => absurd h (by simp), fun _ => rfl, ih (n + 1)⟩
    exact this rcts 0
  · rw [rkAll_ct, List.flatMap_nil, List.append_nil, List.append_nil]
    have : ∀ (cs : List CT) (n : Nat), okDs cs r n = true → FL ty A ⟨fun _ => False, fun _ => 0, fun _ => undef⟩ [] [] w' r n (cs.map CT.k1) (lits cs r n) := by
      intro cs
      induction cs with
      | nil => intro n _; trivial
      | cons c cs ih =>
        intro n hc
        simp only [okDs, Bool.and_eq_true] at hc
        have hcnt : c.k1.cnt = 1 := by cases c <;> rfl
        rw [List.map_cons, lits]
        refine ⟨⟨[r.getD n d0], by rw [hcnt]; rfl, fun i hi => ?_, ?_⟩, ?_⟩
        · rw [hcnt] at hi
          have : i = 0 := by omega
          subst this
          rfl
        · have h1 := hc.1
          cases c with
          | b => cases hd : r.getD n d0 <;> rw [hd] at h1 <;> simp [okD] at h1; exact ⟨_, rfl, rfl⟩
          | i k => cases hd : r.getD n d0 <;> rw [hd] at h1 <;> simp [okD] at h1; exact ⟨_, rfl, rfl⟩
          | s => cases hd : r.getD n d0 <;> rw [hd] at h1 <;> simp [okD] at h1; exact ⟨_, rfl, rfl⟩
          | sl e => simp [okD] at h1
        · rw [hcnt]
          exact ih (n + 1) hc.2
    exact this rcts 0 hf
  · rw [rkAll_ct, List.flatMap_nil, List.append_nil, List.append_nil]
    have : ∀ (cs : List CT) (us : List Value), Apart (cs.map CT.k1) us := by
      intro cs
      induction cs with
      | nil => intro us; cases us <;> trivial
      | cons c cs ih =>
        intro us
        cases us with
        | nil => cases c <;> trivial
        | cons u us => cases c <;> exact ih us
    exact this rcts _
def primH (cts rcts : List CT) (q : List DC → Option (List DC)) : Hint → List DC → Option (List DC) := fun h v => if hintLit cts h = true then (match q v with | some r => if okDs rcts r 0 = true then some r else none | none => none) else none
theorem prim_lit {G : Glob} {f : Nat} {fi : FI} {fd : Func} {cts rcts : List CT} {q : List DC → Option (List DC)} (h1 : P.funcs[f]? = some fd) (h2 : (fd.name == "runtime.NumGoroutine") = false) (h3 : fd.body.isNone = false)
    (hrk : fi.rk = rcts.map fun c => (false, [RK.ct c])) (hp : fi.prim = some fun h v => if hintLit cts h = true then (match q v with | some r => if okDs rcts r 0 = true then some r else none | none => none) else none)
    (hq : ∀ v r w, q v = some r → G.ok w → Calls P f (lits cts v 0).toArray w fun e w' => e = .returned (resVal (lits rcts r 0)) ∧ RowKit.Below w.heap.size w w') (hvi : fi.via = none := by rfl) : FnOk P G ty f fi := by
  refine ⟨⟨fd, h1, h2, h3, fun h => by rw [hp] at h; simp at h⟩, fun p hpp h v r e => ?_, fun x hx => (by rw [hvi] at hx; cases hx)⟩
  rw [hp] at hpp
  simp only [Option.some.injEq] at hpp
  subst hpp
  dsimp only at e
  split at e
  · rename_i hh
    cases hqv : q v with
    | none => rw [hqv] at e; simp at e
    | some r' =>
      rw [hqv] at e
      dsimp only at e
      split at e
      · rename_i hok
        simp only [Option.some.injEq] at e
        subst e
        unfold hintLit at hh
        rw [Bool.and_eq_true] at hh
        obtain ⟨k1, k2⟩ := hh
        have hob : h.ob = [] := by
          cases ho : h.ob with
          | nil => rfl
          | cons a l => rw [ho] at k2; simp at k2
        have htm := tmIs_eq k1
        have hflat := tmIs_flat k1
        obtain ⟨tm, ob⟩ := h
        dsimp only at hob htm k1
        subst hob htm
        intro A g vals w hA hr hs hw hm
        have hvals := lit_args hflat hr (by simpa using hs)
        subst hw
        have hc := hq v r' A.w0 hqv hA.1
        rw [← hvals] at hc
        refine Calls.mono hc fun en w' hen => ?_
        obtain ⟨rfl, bel⟩ := hen
        refine ⟨_, rfl, ?_⟩
        rw [hrk]
        refine lit_res hok (by rw [hm]; rfl) ⟨bel.os, bel.tape, bel.output, bel.size, fun b hb _ _ => bel.block b hb⟩
      · simp at e
  · simp at e
end
end Go.Proofs.QV

namespace Go.Proofs
open Go.Shelf Go.RowKit Go.Lib
variable {P : Program} {ρ : Ren}
def eE : ByteArray := ⟨#[101, 69]⟩
theorem below_iter (w : World) (s : ByteArray) (p : Nat) : Below w.heap.size w (w.iter s p) := by
  have hs : (w.iter s p).heap = w.heap.push (.stringIter s p) := rfl
  exact ⟨rfl, rfl, rfl, by rw [hs]; simp, fun b hb => by rw [hs, Array.getElem?_push, if_neg (by omega)]⟩
set_option maxHeartbeats 2000000 in
set_option maxRecDepth 1000000 in
theorem IndexRune_ee_err (L : Lays.n152 P ρ) (w : World) :
    Calls P (ρ.f 152) #[.string eE, .int .i32 65533] w fun e w' => e = .returned (.int .i64 (-1)) ∧ Below w.heap.size w w' := by
  have t3 := L.t3; have a3 := L.a3; have z3 := L.z3; have v3 := L.v3
  have t4 := L.t4; have a4 := L.a4; have z4 := L.z4; have v4 := L.v4
  have t5 := L.t5; have a5 := L.a5; have z5 := L.z5; have v5 := L.v5
  have t9 := L.t9; have a9 := L.a9; have z9 := L.z9; have v9 := L.v9
  have t21 := L.t21; have a21 := L.a21; have z21 := L.z21; have v21 := L.v21
  have n0 := fun ty => run_next_ascii (P := P) w eE 0 ty (by decide) (by decide)
  have n1 := fun ty => run_next_ascii (P := P) w eE 1 ty (by decide) (by decide)
  have n2 := fun ty => run_next_end (P := P) w eE 2 ty (by decide)
  go_enter L.f152, Body.n152_ntmps ρ
  go_wp2
  go_loopg [5, 6] 2 (fun g _ _ wx => ∃ i : Nat, i + g = 2 ∧ wx = w.iter eE i)
  case atStart => exact ⟨0, rfl, rfl⟩
  case round =>
    obtain ⟨i, hig, rfl⟩ := hrel
    cases gk with
    | zero =>
      obtain rfl : i = 2 := by omega
      go_wp2
      go_ret
      exact ⟨rfl, below_iter _ _ _⟩
    | succ g =>
      rcases Nat.lt_or_ge 0 i with h | h
      · obtain rfl : i = 1 := by omega
        have e1 : ((eE[1]'(by decide)).toNat : Int) = 69 := by decide
        simp only [e1] at n1
        go_wp2
        go_roundg g
        case measure => omega
        case rel => exact ⟨2, by omega, rfl⟩
      · obtain rfl : i = 0 := by omega
        have e0 : ((eE[0]'(by decide)).toNat : Int) = 101 := by decide
        simp only [e0] at n0
        go_wp2
        go_roundg g
        case measure => omega
        case rel => exact ⟨1, by omega, rfl⟩
set_option maxHeartbeats 2000000 in
set_option maxRecDepth 1000000 in
theorem IndexRune_ee_big (L : Lays.n152 P ρ) (r : Int) (w : World) (h0 : 128 ≤ r) (h1 : ¬ r = 65533) (h2 : Lib.validRune r = true) (h3 : 3 ≤ (Utf8.encode r).size) (h4 : (Utf8.encode r).size ≤ 4) :
    Calls P (ρ.f 152) #[.string eE, .int .i32 r] w fun e w' => e = .returned (.int .i64 (-1)) ∧ Below w.heap.size w w' := by
  have t3 := L.t3; have a3 := L.a3; have z3 := L.z3; have v3 := L.v3
  have t4 := L.t4; have a4 := L.a4; have z4 := L.z4; have v4 := L.v4
  have t5 := L.t5; have a5 := L.a5; have z5 := L.z5; have v5 := L.v5
  have t9 := L.t9; have a9 := L.a9; have z9 := L.z9; have v9 := L.v9
  have t21 := L.t21; have a21 := L.a21; have z21 := L.z21; have v21 := L.v21
  have hlt : decide (r < 128) = false := decide_eq_false (by omega)
  have hge : decide (0 ≤ r) = true := decide_eq_true (by omega)
  have hne : (r == 65533) = false := beq_eq_false_iff_ne.2 h1
  have e119 : ∀ args w, (callFunc (ρ.f 119) args).run P w = .ok (.enter (ρ.f 119) args) w := enters_of L.f119 (by kernel_rfl) rfl
  have e137 : ∀ args w, (callFunc (ρ.f 137) args).run P w = .ok (.enter (ρ.f 137) args) w := enters_of L.f137 (by kernel_rfl) rfl
  go_enter L.f152, Body.n152_ntmps ρ
  go_wp2_with (go_at_fn (ρ.f 119); refine (Any.utf8_ValidRune { L with } _ _).mono ?_; rintro e w' ⟨rfl, hw⟩; rw [hw, h2])
  have u21s : (P.underlying (ρ.t 21)).isSome = true := by rw [t21]; rfl
  have hw3 : (Utf8.encode r).size = 3 ∨ (Utf8.encode r).size = 4 := by omega
  go_step3
  go_wp2
  have hc : decide (((Utf8.encode r).size : Int) - 1 < (eE.size : Int)) = false := decide_eq_false (by have : (eE.size : Int) = 2 := rfl; omega)
  go_loopg [9] 1 (fun g x wx => g = 1 ∧ x = Value.int .i64 (((Utf8.encode r).size : Int) - 1) ∧ wx = w)
  case atStart => exact ⟨rfl, rfl, rfl⟩
  case round =>
    obtain ⟨_, rfl, rfl⟩ := hrel
    go_wp2
    rw [Exit.noGoto_ret]
    go_ret
    exact ⟨rfl, Below.refl _ _⟩
set_option maxHeartbeats 2000000 in
set_option maxRecDepth 1000000 in
theorem IndexRune_ee_two (L : Lays.n152 P ρ) (r : Int) (w : World) (h0 : 128 ≤ r) (h1 : ¬ r = 65533) (h2 : Lib.validRune r = true) (h3 : (Utf8.encode r).size = 2) :
    Calls P (ρ.f 152) #[.string eE, .int .i32 r] w fun e w' => e = .returned (.int .i64 (-1)) ∧ Below w.heap.size w w' := by
  have mixed := L.mixed
  have t3 := L.t3; have a3 := L.a3; have z3 := L.z3; have v3 := L.v3
  have t4 := L.t4; have a4 := L.a4; have z4 := L.z4; have v4 := L.v4
  have t5 := L.t5; have a5 := L.a5; have z5 := L.z5; have v5 := L.v5
  have t9 := L.t9; have a9 := L.a9; have z9 := L.z9; have v9 := L.v9
  have t21 := L.t21; have a21 := L.a21; have z21 := L.z21; have v21 := L.v21
  have h2' := h2
  have hlt : decide (r < 128) = false := decide_eq_false (by omega)
  have hge : decide (0 ≤ r) = true := decide_eq_true (by omega)
  have hne : (r == 65533) = false := beq_eq_false_iff_ne.2 h1
  have e119 : ∀ args w, (callFunc (ρ.f 119) args).run P w = .ok (.enter (ρ.f 119) args) w := enters_of L.f119 (by kernel_rfl) rfl
  have e137 : ∀ args w, (callFunc (ρ.f 137) args).run P w = .ok (.enter (ρ.f 137) args) w := enters_of L.f137 (by kernel_rfl) rfl
  go_enter L.f152, Body.n152_ntmps ρ
  go_wp2_with (go_at_fn (ρ.f 119); refine (Any.utf8_ValidRune { L with } _ _).mono ?_; rintro e w' ⟨rfl, hw⟩; rw [hw, h2])
  have u21s : (P.underlying (ρ.t 21)).isSome = true := by rw [t21]; rfl
  go_step3
  go_wp2
  have iE : ∀ w : World, (Instr.index (ρ.t 9) (.string eE) (.int .i64 1)).run P w = .ok (.int .u8 69) w := fun w => by
    rw [run_index_string w (ρ.t 9) eE .i64 1 t9, dif_pos (by decide)]; rfl
  obtain ⟨B, hB, iR⟩ : ∃ B : UInt8, 128 ≤ B.toNat ∧ ∀ w : World, (Instr.index (ρ.t 9) (.string (Utf8.encode r)) (.int .i64 1)).run P w = .ok (.int .u8 (B.toNat : Int)) w := by
    have hf := (encode_facts r (by rw [validRune_eq]; exact h2') h0).2.2 (by omega)
    refine ⟨(Utf8.encode r)[1]'(by omega), ?_, fun w => ?_⟩
    · have e : (Utf8.encode r)[(Utf8.encode r).size - 1]'(by omega) = (Utf8.encode r)[1]'(by omega) := by congr 1; omega
      rw [← e]; exact hf
    · rw [run_index_string w (ρ.t 9) _ .i64 1 t9, dif_pos (by omega)]; rfl
  have hne1 : ((69 : Int) == (B.toNat : Int)) = false := beq_eq_false_iff_ne.2 (by omega)
  have hback : ((B.toNat : Int)).toNat.toUInt8 = B := by simp
  have hib : Lib.indexByte (eE.extract 2 eE.size).data.toList B = -1 := by
    have : (eE.extract 2 eE.size).data.toList = [] := by decide
    rw [this]; rfl
  have hc : decide ((1 : Int) < (eE.size : Int)) = true := by decide
  have hw2 : IntKind.i64.wrap 2 = 2 := by decide
  have hle2 : (0 : Int) ≤ 2 ∧ (2 : Int) ≤ (eE.size : Int) := by decide
  go_loopg [9] 1 (fun g x wx => g = 1 ∧ x = Value.int .i64 1 ∧ wx = w)
  case atStart => exact ⟨rfl, rfl, rfl⟩
  case round =>
    obtain ⟨_, rfl, rfl⟩ := hrel
    go_wp2
    go_step3
    go_wp2
    go_region_o
    go_wp2
    go_region_with_o (go_at_fn (ρ.f 137); refine (Any.strings_IndexByte { L with } _ _ _).mono ?_; rintro e w' ⟨rfl, hw⟩; rw [hw, hback])
    go_wp2
    rw [Exit.noGoto_ret]
    go_wp2
    rw [Exit.noGoto_ret]
    go_ret
    exact ⟨rfl, ((Below.refl _ _).drew).drew⟩
def irE (r : Int) : Int := if r < 128 then Lib.indexByte eE.data.toList r.toNat.toUInt8 else -1
theorem IndexRune_ee (L : Lays.n152 P ρ) (r : Int) (w : World) (h0 : 0 ≤ r) (h2 : Lib.validRune r = true) :
    Calls P (ρ.f 152) #[.string eE, .int .i32 r] w fun e w' => e = .returned (.int .i64 (irE r)) ∧ Below w.heap.size w w' := by
  by_cases h : r < 128
  · refine (Any.strings_IndexRune_ascii L eE r w h0 h).mono ?_
    rintro e w' ⟨rfl, hw⟩
    rw [hw]
    exact ⟨by rw [irE, if_pos h], Below.refl _ _⟩
  · have e : irE r = -1 := by rw [irE, if_neg h]
    rw [e]
    by_cases h1 : r = 65533
    · subst h1; exact IndexRune_ee_err L w
    · have hf := encode_facts r (by rw [validRune_eq]; exact h2) (by omega)
      by_cases h3 : (Utf8.encode r).size = 2
      · exact IndexRune_ee_two L r w (by omega) h1 h2 h3
      · exact IndexRune_ee_big L r w (by omega) h1 h2 (by omega) (by omega)
theorem run_next_gen (w : World) (b : Nat) (s : ByteArray) (pos : Nat) (ty : TypeId) (hb : w.heap[b]? = some (.stringIter s pos)) (h : pos < s.size) :
    (Instr.next (.pointer (some ⟨b, 0, none⟩)) true ty).run P w =
      .ok (.tuple #[.bool true, .int .i64 pos, .int .i32 (Utf8.decode s pos).1]) { w with heap := w.heap.setIfInBounds b (.stringIter s (pos + (Utf8.decode s pos).2)) } := by
  simp only [Instr.next, getObj, setObj, Sem.run_bind, Sem.run, hb, Result.andThen, h, if_true]
  simp [goInt]
theorem run_next_gend (w : World) (b : Nat) (s : ByteArray) (pos : Nat) (ty : TypeId) (hb : w.heap[b]? = some (.stringIter s pos)) (h : ¬ pos < s.size) :
    (Instr.next (.pointer (some ⟨b, 0, none⟩)) true ty).run P w = .ok (.tuple #[.bool false]) w := by
  simp [Instr.next, getObj, Sem.run, hb, h]
theorem decodeN_wide (n b0 b1 b2 b3 : Nat) (hn : 0 < n) : 1 ≤ (Lib.decodeN n b0 b1 b2 b3).2 ∧ (Lib.decodeN n b0 b1 b2 b3).2 ≤ n ∧ (Lib.decodeN n b0 b1 b2 b3).2 ≤ 4 ∧ (1 < (Lib.decodeN n b0 b1 b2 b3).2 → 128 ≤ b1) ∧ (2 < (Lib.decodeN n b0 b1 b2 b3).2 → 128 ≤ b2) ∧ (3 < (Lib.decodeN n b0 b1 b2 b3).2 → 128 ≤ b3) ∧ (b0 < 128 → (Lib.decodeN n b0 b1 b2 b3).1 = b0) ∧ (128 ≤ b0 → 128 ≤ (Lib.decodeN n b0 b1 b2 b3).1) := by
  unfold Lib.decodeN
  repeat' split
  all_goals (refine ⟨?_, ?_, ?_, ?_, ?_, ?_, ?_, ?_⟩ <;> intros <;> (first | rfl | (simp only at *; omega)))
theorem get!_at (s : ByteArray) (i : Nat) (h : i < s.size) : s.data.toList[i]? = some (s.get! i) := by
  rw [Lib.data_getElem? s i h]
  congr 1
  exact (get_at s i h).symm.trans (by rw [Nat.add_zero])
theorem eE_contains (x : UInt8) (h : 128 ≤ x.toNat) : eE.data.toList.contains x = false := by
  have e : eE.data.toList = [101, 69] := rfl
  rw [e]
  have h1 : (x == 101) = false := beq_eq_false_iff_ne.2 (by rintro rfl; exact absurd h (by decide))
  have h2 : (x == 69) = false := beq_eq_false_iff_ne.2 (by rintro rfl; exact absurd h (by decide))
  simp only [List.contains, List.elem, h1, h2]
theorem noAny_skip {s : ByteArray} {i : Nat} (hno : Lib.NoAny s.data.toList eE.data.toList i) (hi : i < s.size) (h0 : eE.data.toList.contains (s.get! i) = false) :
    Lib.NoAny s.data.toList eE.data.toList (i + (Utf8.decode s i).2) := by
  have hw := decodeN_wide (s.size - i) (s.get! i).toNat (s.get! (i + 1)).toNat (s.get! (i + 2)).toNat (s.get! (i + 3)).toNat (by omega)
  rw [← Lib.decode_at] at hw
  intro j b hj hb
  by_cases h : j < i
  · exact hno j b h hb
  · have hjs : j < s.size := by omega
    rw [get!_at s j hjs] at hb
    injection hb with hb
    subst hb
    obtain ⟨k, rfl⟩ : ∃ k, j = i + k := ⟨j - i, by omega⟩
    rcases k with _ | _ | _ | _ | k
    · exact h0
    · exact eE_contains _ (hw.2.2.2.1 (by omega))
    · exact eE_contains _ (hw.2.2.2.2.1 (by omega))
    · exact eE_contains _ (hw.2.2.2.2.2.1 (by omega))
    · omega
theorem below_setIter {w wx : World} {b : Nat} {o : Obj} (hw : Below b w wx) : Below b w { wx with heap := wx.heap.setIfInBounds b o } := by
  refine ⟨hw.os, hw.tape, hw.output, ?_, fun k hk => ?_⟩
  · show w.heap.size ≤ (wx.heap.setIfInBounds b o).size
    rw [Array.size_setIfInBounds]; exact hw.size
  · show (wx.heap.setIfInBounds b o)[k]? = _
    rw [Array.getElem?_setIfInBounds, if_neg (by omega)]
    exact hw.block k hk
theorem irE_hit (s : ByteArray) (i : Nat) (hi : i < s.size) (h : eE.data.toList.contains (s.get! i) = true) : (0 : Int) ≤ irE (Utf8.decode s i).1 := by
  have hw := decodeN_wide (s.size - i) (s.get! i).toNat (s.get! (i + 1)).toNat (s.get! (i + 2)).toNat (s.get! (i + 3)).toNat (by omega)
  rw [← Lib.decode_at] at hw
  have hx : (s.get! i).toNat < 128 := by
    rcases Nat.lt_or_ge (s.get! i).toNat 128 with h' | h'
    · exact h'
    · rw [eE_contains _ h'] at h; cases h
  have hr := hw.2.2.2.2.2.2.1 hx
  have hcon := Lib.contains_iff_indexByte eE.data.toList (s.get! i)
  rw [h] at hcon
  rw [hr, irE, if_pos (by omega)]
  have e : ((((s.get! i).toNat : Nat) : Int)).toNat.toUInt8 = s.get! i := by simp
  rw [e]
  exact of_decide_eq_true hcon.symm
theorem irE_no (s : ByteArray) (i : Nat) (hi : i < s.size) (h : eE.data.toList.contains (s.get! i) = false) : ¬ (0 : Int) ≤ irE (Utf8.decode s i).1 := by
  have hw := decodeN_wide (s.size - i) (s.get! i).toNat (s.get! (i + 1)).toNat (s.get! (i + 2)).toNat (s.get! (i + 3)).toNat (by omega)
  rw [← Lib.decode_at] at hw
  have hcon := Lib.contains_iff_indexByte eE.data.toList (s.get! i)
  rw [h] at hcon
  unfold irE
  split
  · rename_i hr
    have hx : (s.get! i).toNat < 128 := by
      rcases Nat.lt_or_ge (s.get! i).toNat 128 with h' | h'
      · exact h'
      · have := hw.2.2.2.2.2.2.2 h'; omega
    have hr := hw.2.2.2.2.2.2.1 hx
    rw [hr]
    have e : ((((s.get! i).toNat : Nat) : Int)).toNat.toUInt8 = s.get! i := by simp
    rw [e]
    exact of_decide_eq_false hcon.symm
  · omega
set_option maxHeartbeats 8000000 in
set_option maxRecDepth 1000000 in
theorem IndexAny_ee_short (L : Lays.n153 P ρ) (s : ByteArray) (w : World) (h8 : s.size ≤ 8) :
    Calls P (ρ.f 153) #[.string s, .string eE] w fun e w' => e = .returned (.int .i64 (Lib.indexAny s.data.toList eE.data.toList)) ∧ Below w.heap.size w w' := by
  have hemp : eE.toList.isEmpty = false := by rw [Lib.toList_data]; rfl
  have hn1 : ((eE.size : Int) == 1) = false := by decide
  have h8z : decide ((8 : Int) < (s.size : Int)) = false := decide_eq_false (by omega)
  have t3 := L.t3; have a3 := L.a3; have z3 := L.z3; have v3 := L.v3
  have t4 := L.t4; have a4 := L.a4; have z4 := L.z4; have v4 := L.v4
  have t5 := L.t5; have a5 := L.a5; have z5 := L.z5; have v5 := L.v5
  have t9 := L.t9; have a9 := L.a9; have z9 := L.z9; have v9 := L.v9
  have t21 := L.t21; have a21 := L.a21; have z21 := L.z21; have v21 := L.v21
  have e152 : ∀ args w, (callFunc (ρ.f 152) args).run P w = .ok (.enter (ρ.f 152) args) w := enters_of L.f152 (by kernel_rfl) rfl
  have e226 : ∀ args w, (callFunc (ρ.f 226) args).run P w = .ok (.enter (ρ.f 226) args) w := enters_of L.f226 (by kernel_rfl) rfl
  go_enter L.f153, Body.n153_ntmps ρ
  go_wp2_with (go_at_fn (ρ.f 226); refine (Any.strings_shouldUseASCIISet { L with } _ _).mono ?_; rintro e w' ⟨rfl, hw⟩; rw [hw, h8z])
  go_loopg [9, 10] s.size (fun g _ _ wx => ∃ i : Nat, i + g = s.size ∧ wx.heap[w.heap.size]? = some (.stringIter s i) ∧ Below w.heap.size w wx ∧ Lib.NoAny s.data.toList eE.data.toList i)
  case atStart => exact ⟨0, by omega, World.iter_heap _ _ _, below_iter _ _ _, Lib.NoAny.zero _ _⟩
  case round =>
    obtain ⟨i, hig, hit, hbl, hno⟩ := hrel
    have HN : Aside (Lib.NoAny s.data.toList eE.data.toList i) := hno
    clear hno
    cases gk with
    | zero =>
      obtain rfl : i = s.size := by omega
      have hnx := fun ty => run_next_gend (P := P) wr w.heap.size s s.size ty hit (by omega)
      go_wp2
      go_ret
      exact ⟨by rw [Lib.indexAny_none (by rw [← Lib.size_eq]; exact HN.out)]; rfl, hbl⟩
    | succ g =>
      have hi : i < s.size := by omega
      have hnx := fun ty => run_next_gen (P := P) wr w.heap.size s i ty hit hi
      have hwd := decodeN_wide (s.size - i) (s.get! i).toNat (s.get! (i + 1)).toNat (s.get! (i + 2)).toNat (s.get! (i + 3)).toNat (by omega)
      rw [← Lib.decode_at] at hwd
      have hW1 := hwd.1
      have hW2 := hwd.2.1
      have hrv : Lib.validRune ((Utf8.decode s i).1 : Int) = true := by
        have h := Lib.decodeN_valid (s.size - i) (s.get! i).toNat (s.get! (i + 1)).toNat (s.get! (i + 2)).toNat (s.get! (i + 3)).toNat (UInt8.toNat_lt _)
        rw [← Lib.decode_at] at h
        simp only [Lib.validRune, decide_eq_true_eq]
        omega
      have HR : Aside (Lib.validRune ((Utf8.decode s i).1 : Int) = true) := hrv
      have hbl2 : Below w.heap.size w { wr with heap := wr.heap.setIfInBounds w.heap.size (.stringIter s (i + (Utf8.decode s i).2)) } := below_setIter hbl
      have hit2 : ({ wr with heap := wr.heap.setIfInBounds w.heap.size (.stringIter s (i + (Utf8.decode s i).2)) } : World).heap[w.heap.size]? = some (.stringIter s (i + (Utf8.decode s i).2)) := by
        have : w.heap.size < wr.heap.size := (Array.getElem?_eq_some_iff.1 hit).1
        show (wr.heap.setIfInBounds w.heap.size _)[w.heap.size]? = _
        rw [Array.getElem?_setIfInBounds, if_pos rfl, if_pos this]
      generalize hw2 : ({ wr with heap := wr.heap.setIfInBounds w.heap.size (.stringIter s (i + (Utf8.decode s i).2)) } : World) = w2 at *
      clear hw2 hwd hrv
      cases hin : eE.data.toList.contains (s.get! i)
      · have hlt := irE_no s i hi hin
        have hstep := noAny_skip HN.out hi hin
        have HS : Aside (Lib.NoAny s.data.toList eE.data.toList (i + (Utf8.decode s i).2)) := hstep
        clear hstep hin
        generalize hr : (Utf8.decode s i).1 = r at *
        generalize hwi : (Utf8.decode s i).2 = wi at *
        go_wp2_with (go_at_fn (ρ.f 152); refine (IndexRune_ee { L with } _ _ (by omega) HR.out).mono ?_; rintro e w3 ⟨rfl, hb3⟩)
        go_roundg (g + 1 - wi)
        case measure => omega
        case rel =>
          refine ⟨i + wi, by omega, ?_, ?_, HS.out⟩
          · rw [hb3.block _ (Array.getElem?_eq_some_iff.1 hit2).1]; exact hit2
          · exact hbl2.trans (hb3.mono hbl2.size)
      · have hge := irE_hit s i hi hin
        have HX : Aside (Lib.indexAny s.data.toList eE.data.toList = (i : Int)) := Lib.indexAny_hit HN.out (get!_at s i hi) hin
        clear hin
        generalize hr : (Utf8.decode s i).1 = r at *
        generalize hwi : (Utf8.decode s i).2 = wi at *
        go_wp2_with (go_at_fn (ρ.f 152); refine (IndexRune_ee { L with } _ _ (by omega) HR.out).mono ?_; rintro e w3 ⟨rfl, hb3⟩)
        go_ret
        exact ⟨by rw [HX.out]; rfl, hbl2.trans (hb3.mono hbl2.size)⟩
theorem IndexAny_ee (L : Lays.n153 P ρ) (hv116 : ∀ w, (zeroValue (ρ.t 116)).run P w = .ok (.agg (Array.replicate 256 (.bool false))) w) (hi116 : (P.info? (ρ.t 116)).map (·.size) = some 256) (s : ByteArray) (w : World) (hs : s.size < 4294967281) :
    Calls P (ρ.f 153) #[.string s, .string eE] w fun e w' => e = .returned (.int .i64 (Lib.indexAny s.data.toList [101, 69])) ∧ Below w.heap.size w w' := by
  rcases Nat.lt_or_ge 8 s.size with h | h
  · refine (Any.strings_IndexAny_long L hv116 hi116 s eE w (by decide) h hs (by decide) ?_).mono ?_
    · intro j b hj
      have e : eE.data.toList = [101, 69] := rfl
      rw [e] at hj
      rcases j with _ | _ | j
      · injection hj with hj; subst hj; decide
      · injection hj with hj; subst hj; decide
      · simp at hj
    · rintro e w' ⟨rfl, hw⟩
      subst hw
      exact ⟨rfl, ((Below.refl _ _).alloc (Nat.le_refl _) _).alloc (by show w.heap.size ≤ (w.heap.push _).size; rw [Array.size_push]; omega) _⟩
  · exact IndexAny_ee_short L s w h
#print axioms IndexAny_ee
end Go.Proofs

namespace Go.Proofs.QV
open Go
set_option linter.unusedVariables false
set_option linter.unusedSimpArgs false
def primW (e : Nat) (q : List (List DC) → List UInt8 → Option (List UInt8)) : Hint → List DC → Option (List DC) := fun h v =>
  match h.tm, h.ob, v with
  | [.one (.sl e'), .one .s], [], [.sl l, .s sep] => if e' = e then (match q l sep with | some r => some [.s r] | none => none) else none
  | _, _, _ => none
section
variable {P : Program} {ty : Nat → Option TI}
theorem prim_words {G : Glob} {f : Nat} {fi : FI} {fd : Func} {e : Nat} {q : List (List DC) → List UInt8 → Option (List UInt8)} (h1 : P.funcs[f]? = some fd) (h2 : (fd.name == "runtime.NumGoroutine") = false) (h3 : fd.body.isNone = false)
    (hrk : fi.rk = [(false, [RK.ct .s])]) (hp : fi.prim = some (primW e q))
    (hq : ∀ l sep r a w F, q l sep = some r → G.ok w → RdC ty w (.sl e) (.sl l) a F → Calls P f #[a, .string ⟨sep.toArray⟩] w fun en w' => en = .returned (.string ⟨r.toArray⟩) ∧ RowKit.Below w.heap.size w w') (hvi : fi.via = none := by rfl) : FnOk P G ty f fi := by
  refine ⟨⟨fd, h1, h2, h3, fun h => by rw [hp] at h; simp at h⟩, fun p hpp h v r en => ?_, fun x hx => (by rw [hvi] at hx; cases hx)⟩
  rw [hp] at hpp
  simp only [Option.some.injEq] at hpp
  subst hpp
  unfold primW at en
  split at en
  · rename_i e' l sep htm hob
    split at en
    · rename_i he
      subst he
      split at en
      · rename_i r' hqv
        simp only [Option.some.injEq] at en
        subst en
        obtain ⟨tm, ob⟩ := h
        dsimp only at htm hob
        subst htm hob
        intro A g vals w hA hr hs hw hm
        have hs2 : vals.size = 2 := by simpa using hs
        have t0 := hr.tm 0 _ (vals[0]'(by omega)) (show (startSt fi ⟨[.one (.sl e'), .one .s], []⟩ [.sl l, .s sep]).tm[0]? = some (.one (.sl e' l)) from rfl) (by
          dsimp only
          rw [Array.getElem?_append_left (by omega), Array.getElem?_eq_getElem (by omega)])
        have t1 := hr.tm 1 _ (vals[1]'(by omega)) (show (startSt fi ⟨[.one (.sl e'), .one .s], []⟩ [.sl l, .s sep]).tm[1]? = some (.one (.str sep)) from rfl) (by
          dsimp only
          rw [Array.getElem?_append_left (by omega), Array.getElem?_eq_getElem (by omega)])
        have hv : vals = #[vals[0]'(by omega), .string ⟨sep.toArray⟩] := by
          apply Array.ext
          · simp [hs2]
          · intro i hi1 hi2
            have : i = 0 ∨ i = 1 := by simp at hi2; omega
            rcases this with rfl | rfl
            · rfl
            · exact t1
        obtain ⟨F, t0, -⟩ := t0
        subst hw
        have hc := hq l sep r' _ A.w0 F hqv hA.1 t0
        rw [← hv] at hc
        refine Calls.mono hc fun en w' hen => ?_
        obtain ⟨rfl, bel⟩ := hen
        refine ⟨lits [.s] [.s r'] 0, rfl, ?_⟩
        rw [hrk]
        exact lit_res (rcts := [.s]) (r := [.s r']) rfl (by rw [hm]; rfl) ⟨bel.os, bel.tape, bel.output, bel.size, fun b hb _ _ => bel.block b hb⟩
      · simp at en
    · simp at en
  · simp at en
theorem words_cells {w : World} {l : List (List DC)} {vs : List Value} {F : List Nat} (h : RdV ty w [.s] l vs F) : vs = (l.map fun x => (x.getD 0 d0).ss).map fun s => Value.string ⟨s.toArray⟩ := by
  cases h with
  | nil => rfl
  | cons _ x l v vs F G h1 h2 =>
    cases h1 with
    | cons t ts y ys u us F1 F2 a1 a2 =>
      cases a1
      cases a2
      rw [words_cells h2]
      rfl
end
end Go.Proofs.QV

namespace Go.Proofs
open Go.Shelf
def Tryz.lays153_ren : Go.Shelf.Ren := ⟨fun | 153 => 122 | 152 => 132 | 226 => 133 | 227 => 134 | 228 => 135 | 137 => 86 | 119 => 138 | 224 => 139 | 225 => 140 | 217 => 108 | 266 => 127 | n => n, fun | 9 => 9 | 3 => 3 | 4 => 4 | 5 => 5 | 21 => 21 | 117 => 168 | 116 => 167 | 0 => 0 | 46 => 125 | 124 => 172 | n => n, fun | n => n⟩
theorem Tryz.lays153 : Go.Proofs.Lays.n153 Tryz.prog Tryz.lays153_ren := {
  mixed := by kernel_rfl,
  f119 := Tryz.func138.trans (congrArg some (by kernel_rfl)),
  f137 := Tryz.func86.trans (congrArg some (by kernel_rfl)),
  f152 := Tryz.func132.trans (congrArg some (by kernel_rfl)),
  f153 := Tryz.func122.trans (congrArg some (by kernel_rfl)),
  f217 := Tryz.func108.trans (congrArg some (by kernel_rfl)),
  f224 := Tryz.func139.trans (congrArg some (by kernel_rfl)),
  f225 := Tryz.func140.trans (congrArg some (by kernel_rfl)),
  f226 := Tryz.func133.trans (congrArg some (by kernel_rfl)),
  f227 := Tryz.func134.trans (congrArg some (by kernel_rfl)),
  f228 := Tryz.func135.trans (congrArg some (by kernel_rfl)),
  f266 := Tryz.func127.trans (congrArg some (by kernel_rfl)),
  t0 := Tryz.underlying0,
  a0 := Tryz.isAgg0,
  z0 := Tryz.sizeOf0,
  v0 := Tryz.zeroValue0,
  t3 := Tryz.underlying3,
  a3 := Tryz.isAgg3,
  z3 := Tryz.sizeOf3,
  v3 := Tryz.zeroValue3,
  t4 := Tryz.underlying4,
  a4 := Tryz.isAgg4,
  z4 := Tryz.sizeOf4,
  v4 := Tryz.zeroValue4,
  t5 := Tryz.underlying5,
  a5 := Tryz.isAgg5,
  z5 := Tryz.sizeOf5,
  v5 := Tryz.zeroValue5,
  t9 := Tryz.underlying9,
  a9 := Tryz.isAgg9,
  z9 := Tryz.sizeOf9,
  v9 := Tryz.zeroValue9,
  t21 := Tryz.underlying21,
  a21 := Tryz.isAgg21,
  z21 := Tryz.sizeOf21,
  v21 := Tryz.zeroValue21,
  t46 := Tryz.underlying125,
  a46 := Tryz.isAgg125,
  z46 := Tryz.sizeOf125,
  v46 := Tryz.zeroValue125,
  t116 := Tryz.underlying167,
  a116 := Tryz.isAgg167,
  z116 := Tryz.sizeOf167,
  t117 := Tryz.underlying168,
  a117 := Tryz.isAgg168,
  z117 := Tryz.sizeOf168,
  v117 := Tryz.zeroValue168,
  t124 := Tryz.underlying172,
  a124 := Tryz.isAgg172,
  z124 := Tryz.sizeOf172,
  v124 := Tryz.zeroValue172 }
def Tryz.lays196_ren : Go.Shelf.Ren := ⟨fun | 196 => 107 | 259 => 126 | n => n, fun | 9 => 9 | 4 => 4 | 3 => 3 | 5 => 5 | 12 => 12 | 119 => 158 | 0 => 0 | 46 => 125 | 139 => 161 | 138 => 160 | 53 => 146 | n => n, fun | 3 => 0 | 4 => 1 | n => n⟩
theorem Tryz.lays196 : Go.Proofs.Lays.n196 Tryz.prog Tryz.lays196_ren := {
  mixed := by kernel_rfl,
  f196 := Tryz.func107.trans (congrArg some (by kernel_rfl)),
  f259 := Tryz.func126.trans (congrArg some (by kernel_rfl)),
  t0 := Tryz.underlying0,
  a0 := Tryz.isAgg0,
  z0 := Tryz.sizeOf0,
  v0 := Tryz.zeroValue0,
  t3 := Tryz.underlying3,
  a3 := Tryz.isAgg3,
  z3 := Tryz.sizeOf3,
  v3 := Tryz.zeroValue3,
  t4 := Tryz.underlying4,
  a4 := Tryz.isAgg4,
  z4 := Tryz.sizeOf4,
  v4 := Tryz.zeroValue4,
  t5 := Tryz.underlying5,
  a5 := Tryz.isAgg5,
  z5 := Tryz.sizeOf5,
  v5 := Tryz.zeroValue5,
  t9 := Tryz.underlying9,
  a9 := Tryz.isAgg9,
  z9 := Tryz.sizeOf9,
  v9 := Tryz.zeroValue9,
  t12 := Tryz.underlying12,
  a12 := Tryz.isAgg12,
  z12 := Tryz.sizeOf12,
  v12 := Tryz.zeroValue12,
  t46 := Tryz.underlying125,
  a46 := Tryz.isAgg125,
  z46 := Tryz.sizeOf125,
  v46 := Tryz.zeroValue125,
  t53 := Tryz.underlying146,
  a53 := Tryz.isAgg146,
  z53 := Tryz.sizeOf146,
  v53 := Tryz.zeroValue146,
  t119 := Tryz.underlying158,
  a119 := Tryz.isAgg158,
  z119 := Tryz.sizeOf158,
  t138 := Tryz.underlying160,
  a138 := Tryz.isAgg160,
  z138 := Tryz.sizeOf160,
  v138 := Tryz.zeroValue160,
  t139 := Tryz.underlying161,
  a139 := Tryz.isAgg161,
  z139 := Tryz.sizeOf161,
  v139 := Tryz.zeroValue161,
  g3 := by kernel_rfl,
  g4 := by kernel_rfl }
def Tryz.lays220_ren : Go.Shelf.Ren := ⟨fun | 220 => 136 | 219 => 141 | 217 => 108 | 225 => 140 | 224 => 139 | 267 => 142 | 266 => 127 | 314 => 143 | n => n, fun | 9 => 9 | 4 => 4 | 3 => 3 | 5 => 5 | 46 => 125 | 146 => 144 | 51 => 143 | n => n, fun | 1 => 2 | n => n⟩
theorem Tryz.lays220 : Go.Proofs.Lays.n220 Tryz.prog Tryz.lays220_ren := {
  mixed := by kernel_rfl,
  f217 := Tryz.func108.trans (congrArg some (by kernel_rfl)),
  f219 := Tryz.func141.trans (congrArg some (by kernel_rfl)),
  f220 := Tryz.func136.trans (congrArg some (by kernel_rfl)),
  f224 := Tryz.func139.trans (congrArg some (by kernel_rfl)),
  f225 := Tryz.func140.trans (congrArg some (by kernel_rfl)),
  f266 := Tryz.func127.trans (congrArg some (by kernel_rfl)),
  f267 := Tryz.func142.trans (congrArg some (by kernel_rfl)),
  f314 := Tryz.func143.trans (congrArg some (by kernel_rfl)),
  t3 := Tryz.underlying3,
  a3 := Tryz.isAgg3,
  z3 := Tryz.sizeOf3,
  v3 := Tryz.zeroValue3,
  t4 := Tryz.underlying4,
  a4 := Tryz.isAgg4,
  z4 := Tryz.sizeOf4,
  v4 := Tryz.zeroValue4,
  t5 := Tryz.underlying5,
  a5 := Tryz.isAgg5,
  z5 := Tryz.sizeOf5,
  v5 := Tryz.zeroValue5,
  t9 := Tryz.underlying9,
  a9 := Tryz.isAgg9,
  z9 := Tryz.sizeOf9,
  v9 := Tryz.zeroValue9,
  t46 := Tryz.underlying125,
  a46 := Tryz.isAgg125,
  z46 := Tryz.sizeOf125,
  v46 := Tryz.zeroValue125,
  t51 := Tryz.underlying143,
  a51 := Tryz.isAgg143,
  z51 := Tryz.sizeOf143,
  v51 := Tryz.zeroValue143,
  t146 := Tryz.underlying144,
  a146 := Tryz.isAgg144,
  z146 := Tryz.sizeOf144,
  v146 := Tryz.zeroValue144,
  g1 := by kernel_rfl }
def Tryz.lays156_ren : Go.Shelf.Ren := ⟨fun | 156 => 54 | 165 => 71 | 166 => 72 | 169 => 73 | 240 => 87 | 241 => 88 | 276 => 109 | 277 => 110 | n => n, fun | 31 => 76 | 9 => 9 | 3 => 3 | 4 => 4 | 0 => 0 | 20 => 20 | 72 => 108 | 76 => 112 | 70 => 106 | 37 => 38 | 75 => 111 | 127 => 126 | 164 => 140 | 5 => 5 | 80 => 114 | n => n, fun | n => n⟩
theorem Tryz.lays156 : Go.Proofs.Lays.n156 Tryz.prog Tryz.lays156_ren := {
  mixed := by kernel_rfl,
  f156 := Tryz.func54.trans (congrArg some (by kernel_rfl)),
  f165 := Tryz.func71.trans (congrArg some (by kernel_rfl)),
  f166 := Tryz.func72.trans (congrArg some (by kernel_rfl)),
  f169 := Tryz.func73.trans (congrArg some (by kernel_rfl)),
  f240 := Tryz.func87.trans (congrArg some (by kernel_rfl)),
  f241 := Tryz.func88.trans (congrArg some (by kernel_rfl)),
  f276 := Tryz.func109.trans (congrArg some (by kernel_rfl)),
  f277 := Tryz.func110.trans (congrArg some (by kernel_rfl)),
  t0 := Tryz.underlying0,
  a0 := Tryz.isAgg0,
  z0 := Tryz.sizeOf0,
  v0 := Tryz.zeroValue0,
  t3 := Tryz.underlying3,
  a3 := Tryz.isAgg3,
  z3 := Tryz.sizeOf3,
  v3 := Tryz.zeroValue3,
  t4 := Tryz.underlying4,
  a4 := Tryz.isAgg4,
  z4 := Tryz.sizeOf4,
  v4 := Tryz.zeroValue4,
  t9 := Tryz.underlying9,
  a9 := Tryz.isAgg9,
  z9 := Tryz.sizeOf9,
  v9 := Tryz.zeroValue9,
  t20 := Tryz.underlying20,
  a20 := Tryz.isAgg20,
  z20 := Tryz.sizeOf20,
  v20 := Tryz.zeroValue20,
  t31 := Tryz.underlying76,
  a31 := Tryz.isAgg76,
  z31 := Tryz.sizeOf76,
  v31 := Tryz.zeroValue76,
  t37 := Tryz.underlying38,
  a37 := Tryz.isAgg38,
  z37 := Tryz.sizeOf38,
  v37 := Tryz.zeroValue38,
  t70 := Tryz.underlying106,
  a70 := Tryz.isAgg106,
  z70 := Tryz.sizeOf106,
  v70 := Tryz.zeroValue106,
  t72 := Tryz.underlying108,
  a72 := Tryz.isAgg108,
  z72 := Tryz.sizeOf108,
  v72 := Tryz.zeroValue108,
  t75 := Tryz.underlying111,
  a75 := Tryz.isAgg111,
  z75 := Tryz.sizeOf111,
  v75 := Tryz.zeroValue111,
  t76 := Tryz.underlying112,
  a76 := Tryz.isAgg112,
  z76 := Tryz.sizeOf112,
  v76 := Tryz.zeroValue112,
  t127 := Tryz.underlying126,
  a127 := Tryz.isAgg126,
  z127 := Tryz.sizeOf126,
  v127 := Tryz.zeroValue126,
  t164 := Tryz.underlying140,
  a164 := Tryz.isAgg140,
  z164 := Tryz.sizeOf140,
  v164 := Tryz.zeroValue140 }
def Tryz.lays105_ren : Go.Shelf.Ren := ⟨fun | 105 => 75 | 212 => 89 | 99 => 90 | 165 => 71 | 166 => 72 | 170 => 91 | 169 => 73 | 263 => 111 | 264 => 112 | 206 => 113 | 240 => 87 | 241 => 88 | 276 => 109 | 277 => 110 | n => n, fun | 9 => 9 | 3 => 3 | 4 => 4 | 20 => 20 | 0 => 0 | 46 => 125 | 109 => 127 | 5 => 5 | 72 => 108 | 76 => 112 | 51 => 143 | 146 => 144 | 53 => 146 | 148 => 147 | 70 => 106 | 37 => 38 | 75 => 111 | 127 => 126 | 164 => 140 | 80 => 114 | n => n, fun | n => n⟩
theorem Tryz.lays105 : Go.Proofs.Lays.n105 Tryz.prog Tryz.lays105_ren := {
  mixed := by kernel_rfl,
  f99 := Tryz.func90.trans (congrArg some (by kernel_rfl)),
  f105 := Tryz.func75.trans (congrArg some (by kernel_rfl)),
  f165 := Tryz.func71.trans (congrArg some (by kernel_rfl)),
  f166 := Tryz.func72.trans (congrArg some (by kernel_rfl)),
  f169 := Tryz.func73.trans (congrArg some (by kernel_rfl)),
  f170 := Tryz.func91.trans (congrArg some (by kernel_rfl)),
  f206 := Tryz.func113.trans (congrArg some (by kernel_rfl)),
  f212 := Tryz.func89.trans (congrArg some (by kernel_rfl)),
  f240 := Tryz.func87.trans (congrArg some (by kernel_rfl)),
  f241 := Tryz.func88.trans (congrArg some (by kernel_rfl)),
  f263 := Tryz.func111.trans (congrArg some (by kernel_rfl)),
  f264 := Tryz.func112.trans (congrArg some (by kernel_rfl)),
  f276 := Tryz.func109.trans (congrArg some (by kernel_rfl)),
  f277 := Tryz.func110.trans (congrArg some (by kernel_rfl)),
  t0 := Tryz.underlying0,
  a0 := Tryz.isAgg0,
  z0 := Tryz.sizeOf0,
  v0 := Tryz.zeroValue0,
  t3 := Tryz.underlying3,
  a3 := Tryz.isAgg3,
  z3 := Tryz.sizeOf3,
  v3 := Tryz.zeroValue3,
  t4 := Tryz.underlying4,
  a4 := Tryz.isAgg4,
  z4 := Tryz.sizeOf4,
  v4 := Tryz.zeroValue4,
  t5 := Tryz.underlying5,
  a5 := Tryz.isAgg5,
  z5 := Tryz.sizeOf5,
  v5 := Tryz.zeroValue5,
  t9 := Tryz.underlying9,
  a9 := Tryz.isAgg9,
  z9 := Tryz.sizeOf9,
  v9 := Tryz.zeroValue9,
  t20 := Tryz.underlying20,
  a20 := Tryz.isAgg20,
  z20 := Tryz.sizeOf20,
  v20 := Tryz.zeroValue20,
  t37 := Tryz.underlying38,
  a37 := Tryz.isAgg38,
  z37 := Tryz.sizeOf38,
  v37 := Tryz.zeroValue38,
  t46 := Tryz.underlying125,
  a46 := Tryz.isAgg125,
  z46 := Tryz.sizeOf125,
  v46 := Tryz.zeroValue125,
  t51 := Tryz.underlying143,
  a51 := Tryz.isAgg143,
  z51 := Tryz.sizeOf143,
  v51 := Tryz.zeroValue143,
  t53 := Tryz.underlying146,
  a53 := Tryz.isAgg146,
  z53 := Tryz.sizeOf146,
  v53 := Tryz.zeroValue146,
  t70 := Tryz.underlying106,
  a70 := Tryz.isAgg106,
  z70 := Tryz.sizeOf106,
  v70 := Tryz.zeroValue106,
  t72 := Tryz.underlying108,
  a72 := Tryz.isAgg108,
  z72 := Tryz.sizeOf108,
  v72 := Tryz.zeroValue108,
  t75 := Tryz.underlying111,
  a75 := Tryz.isAgg111,
  z75 := Tryz.sizeOf111,
  v75 := Tryz.zeroValue111,
  t76 := Tryz.underlying112,
  a76 := Tryz.isAgg112,
  z76 := Tryz.sizeOf112,
  v76 := Tryz.zeroValue112,
  t109 := Tryz.underlying127,
  a109 := Tryz.isAgg127,
  z109 := Tryz.sizeOf127,
  v109 := Tryz.zeroValue127,
  t127 := Tryz.underlying126,
  a127 := Tryz.isAgg126,
  z127 := Tryz.sizeOf126,
  v127 := Tryz.zeroValue126,
  t146 := Tryz.underlying144,
  a146 := Tryz.isAgg144,
  z146 := Tryz.sizeOf144,
  v146 := Tryz.zeroValue144,
  t148 := Tryz.underlying147,
  a148 := Tryz.isAgg147,
  z148 := Tryz.sizeOf147,
  v148 := Tryz.zeroValue147,
  t164 := Tryz.underlying140,
  a164 := Tryz.isAgg140,
  z164 := Tryz.sizeOf140,
  v164 := Tryz.zeroValue140 }
def Tryz.lays217_ren : Go.Shelf.Ren := ⟨fun | 217 => 108 | 266 => 127 | n => n, fun | 9 => 9 | 5 => 5 | 3 => 3 | n => n, fun | n => n⟩
theorem Tryz.lays217 : Go.Proofs.Lays.n217 Tryz.prog Tryz.lays217_ren := {
  mixed := by kernel_rfl,
  f217 := Tryz.func108.trans (congrArg some (by kernel_rfl)),
  f266 := Tryz.func127.trans (congrArg some (by kernel_rfl)),
  t3 := Tryz.underlying3,
  a3 := Tryz.isAgg3,
  z3 := Tryz.sizeOf3,
  v3 := Tryz.zeroValue3,
  t5 := Tryz.underlying5,
  a5 := Tryz.isAgg5,
  z5 := Tryz.sizeOf5,
  v5 := Tryz.zeroValue5,
  t9 := Tryz.underlying9,
  a9 := Tryz.isAgg9,
  z9 := Tryz.sizeOf9,
  v9 := Tryz.zeroValue9 }
end Go.Proofs
namespace Go.Proofs.QV
open Go
set_option linter.unusedVariables false
set_option maxRecDepth 100000
def gOk (w : World) : Prop := (Lib.Utf8Tabs 0 1 w) ∧ (∃ m, w.cell? ⟨2, 0, none⟩ = some (.int .i64 m))
theorem gOk_dep (w w' : World) (h : ∀ b, (b = 0 ∨ b = 1 ∨ b = 2) → w'.heap[b]? = w.heap[b]?) (k : gOk w) : gOk w' := by
  have h0 : ∀ o, w'.cell? ⟨0, o, none⟩ = w.cell? ⟨0, o, none⟩ := fun o => World.cell?_of_block (h 0 (by simp))
  have h1 : ∀ o, w'.cell? ⟨1, o, none⟩ = w.cell? ⟨1, o, none⟩ := fun o => World.cell?_of_block (h 1 (by simp))
  have h2 : ∀ o, w'.cell? ⟨2, o, none⟩ = w.cell? ⟨2, o, none⟩ := fun o => World.cell?_of_block (h 2 (by simp))
  obtain ⟨⟨k1, k2⟩, m, k3⟩ := k
  exact ⟨⟨fun c hc => (h0 _).trans (k1 c hc), fun i hi => ⟨(h1 _).trans (k2 i hi).1, (h1 _).trans (k2 i hi).2⟩⟩, m, (h2 _).trans k3⟩
def G : Glob := ⟨fun b => b = 0 ∨ b = 1 ∨ b = 2, gOk, gOk_dep⟩
theorem extra156 : Builder.Extra Tryz.prog Tryz.lays156_ren where
  sizeBuilder := by kernel_rfl
  liesBuilder := by kernel_rfl
  t5 := Tryz.underlying5
  a5 := Tryz.isAgg5
  z5 := Tryz.sizeOf5
  v5 := Tryz.zeroValue5
  infoByte := by kernel_rfl
  cellsByte := by kernel_rfl
  sizeByte := by kernel_rfl
  neB5 := by decide
theorem extra105 : Builder.Extra Tryz.prog Tryz.lays105_ren where
  sizeBuilder := by kernel_rfl
  liesBuilder := by kernel_rfl
  t5 := Tryz.underlying5
  a5 := Tryz.isAgg5
  z5 := Tryz.sizeOf5
  v5 := Tryz.zeroValue5
  infoByte := by kernel_rfl
  cellsByte := by kernel_rfl
  sizeByte := by kernel_rfl
  neB5 := by decide
def qIndexAny (v : List DC) : Option (List DC) := match v with
  | [.s s, .s c] => if s.length < 4294967281 ∧ c = [101, 69] then some [.i (Lib.indexAny s [101, 69])] else none
  | _ => none
theorem call_IndexAny (v r : List DC) (w : World) (hq : qIndexAny v = some r) (hG : G.ok w) : Calls Tryz.prog 122 (lits [.s, .s] v 0).toArray w fun e w' => e = .returned (resVal (lits [.i .i64] r 0)) ∧ RowKit.Below w.heap.size w w' := by
  unfold qIndexAny at hq
  split at hq
  · rename_i s c
    split at hq
    · rename_i hs
      obtain ⟨hs, rfl⟩ := hs
      injection hq with hq
      subst hq
      have h116 : (Tryz.prog.info? (Tryz.lays153_ren.t 116)).map (fun i => (i.zero, i.size)) = some (some (.agg (Array.replicate 256 (.bool false))), 256) := by kernel_rfl
      refine Calls.mono (IndexAny_ee Tryz.lays153 (zero_of_info h116).1 (zero_of_info h116).2 ⟨s.toArray⟩ w (by rw [Lib.size_eq]; simpa using hs)) fun e w' h => ?_
      obtain ⟨rfl, h⟩ := h
      exact ⟨rfl, h⟩
    · cases hq
  · cases hq
def qValidString (v : List DC) : Option (List DC) := match v with
  | [.s s] => if s.length ≤ 9223372036854775807 then some [.b (Lib.validD s)] else none
  | _ => none
theorem call_ValidString (v r : List DC) (w : World) (hq : qValidString v = some r) (hG : G.ok w) : Calls Tryz.prog 107 (lits [.s] v 0).toArray w fun e w' => e = .returned (resVal (lits [.b] r 0)) ∧ RowKit.Below w.heap.size w w' := by
  unfold qValidString at hq
  split at hq
  · rename_i s
    split at hq
    · rename_i hs
      injection hq with hq
      subst hq
      refine Calls.mono (Any.utf8_ValidString Tryz.lays196 ⟨s.toArray⟩ w (by rw [Lib.size_eq]; simpa using hs) hG.1) fun e w' h => ?_
      obtain ⟨rfl, h⟩ := h
      exact ⟨rfl, h⟩
    · cases hq
  · cases hq
def qCut (v : List DC) : Option (List DC) := match v with
  | [.s s, .s c] => if s.length < 4294967281 then some [.s (Lib.cut s c).1, .s (Lib.cut s c).2.1, .b (Lib.cut s c).2.2] else none
  | _ => none
theorem call_Cut (v r : List DC) (w : World) (hq : qCut v = some r) (hG : G.ok w) : Calls Tryz.prog 136 (lits [.s, .s] v 0).toArray w fun e w' => e = .returned (resVal (lits [.s, .s, .b] r 0)) ∧ RowKit.Below w.heap.size w w' := by
  unfold qCut at hq
  split at hq
  · rename_i s c
    split at hq
    · rename_i hs
      injection hq with hq
      subst hq
      obtain ⟨m, hm⟩ := hG.2
      refine Calls.mono (Any.stringslite_Cut Tryz.lays220 ⟨s.toArray⟩ ⟨c.toArray⟩ m w (by rw [Lib.size_eq]; simpa using hs) hm) fun e w' h => ?_
      obtain ⟨rfl, k, rfl⟩ := h
      exact ⟨rfl, below_drewN _ _⟩
    · cases hq
  · cases hq
def qJoin (l : List (List DC)) (sep : List UInt8) : Option (List UInt8) := if l.length ≤ 140737488355328 ∧ (Lib.join (l.map fun x => (x.getD 0 d0).ss) sep).length ≤ 140737488355328 then some (Lib.join (l.map fun x => (x.getD 0 d0).ss) sep) else none
theorem call_Join {ty : Nat → Option TI} {e : Nat} (hty : ∀ te, ty e = some te → te.cts = [.s]) (l : List (List DC)) (sep r : List UInt8) (a : Value) (w : World) (F : List Nat) (hq : qJoin l sep = some r) (hG : G.ok w) (hr : RdC ty w (.sl e) (.sl l) a F) :
    Calls Tryz.prog 54 #[a, .string ⟨sep.toArray⟩] w fun en w' => en = .returned (.string ⟨r.toArray⟩) ∧ RowKit.Below w.heap.size w w' := by
  unfold qJoin at hq
  split at hq
  · rename_i hs
    obtain ⟨hs1, hs2⟩ := hs
    injection hq with hq
    subst hq
    cases hr with
    | nil _ a c =>
      refine Calls.mono (Any.strings_Join_none Tryz.lays156 extra156 a c ⟨sep.toArray⟩ w) fun en w' h => ?_
      obtain ⟨h1, rfl⟩ := h
      exact ⟨h1, RowKit.Below.refl _ _⟩
    | sl _ ti b off n cap l vs F h1 h0 h2 h3 h4 h5 h6 =>
      rw [hty ti h1] at h6
      have hv := words_cells h6
      subst hv h2
      have hb : b < w.heap.size := by
        cases l with
        | nil => exact absurd rfl h3
        | cons x l =>
          have hc := h5 0 _ rfl
          rcases Nat.lt_or_ge b w.heap.size with h' | h'
          · exact h'
          · have hn : w.heap[b]? = none := Array.getElem?_eq_none h'
            unfold World.cell? at hc
            simp [hn] at hc
      have e1 : (l.map fun x => (⟨((x.getD 0 d0).ss).toArray⟩ : ByteArray)).map (·.data.toList) = l.map fun x => (x.getD 0 d0).ss := by
        rw [List.map_map]
        rfl
      have hJ := Any.strings_Join Tryz.lays156 extra156 b off cap (l.map fun x => (⟨((x.getD 0 d0).ss).toArray⟩ : ByteArray)) ⟨sep.toArray⟩ w (fun j x hx => h5 j _ (by
        rw [List.getElem?_map] at hx
        rw [List.getElem?_map, List.getElem?_map]
        cases hj : l[j]? with
        | none => rw [hj] at hx; simp at hx
        | some y => rw [hj] at hx; simp only [Option.map_some, Option.some.injEq] at hx; subst hx; rfl)) hb (by rw [List.length_map]; exact hs1) (by rw [List.length_map]; exact h4) (by rw [e1]; exact hs2)
      rw [e1, List.length_map] at hJ
      exact hJ
  · cases hq
def qRepeat (v : List DC) : Option (List DC) := match v with
  | [.s s, .i c] => if 0 ≤ c ∧ c ≤ 9223372036854775807 ∧ s.length * c.toNat ≤ 140737488355328 then some [.s (Lib.repeatL s c.toNat)] else none
  | _ => none
theorem call_Repeat (v r : List DC) (w : World) (hq : qRepeat v = some r) (hG : G.ok w) : Calls Tryz.prog 75 (lits [.s, .i .i64] v 0).toArray w fun e w' => e = .returned (resVal (lits [.s] r 0)) ∧ RowKit.Below w.heap.size w w' := by
  unfold qRepeat at hq
  split at hq
  · rename_i s c
    split at hq
    · rename_i hs
      obtain ⟨h1, h2, h3⟩ := hs
      injection hq with hq
      subst hq
      have hc : c = ((c.toNat : Nat) : Int) := by omega
      have hR := Any.strings_Repeat Tryz.lays105 extra105 ⟨s.toArray⟩ c.toNat w (by omega) (by rw [Lib.size_eq]; simpa using h3)
      rw [← hc] at hR
      exact hR
    · cases hq
  · cases hq
def qIndexByte (v : List DC) : Option (List DC) := match v with
  | [.s s, .i c] => some [.i (Lib.indexByte s c.toNat.toUInt8)]
  | _ => none
theorem call_IndexByte (v r : List DC) (w : World) (hq : qIndexByte v = some r) (hG : G.ok w) : Calls Tryz.prog 108 (lits [.s, .i .u8] v 0).toArray w fun e w' => e = .returned (resVal (lits [.i .i64] r 0)) ∧ RowKit.Below w.heap.size w w' := by
  unfold qIndexByte at hq
  split at hq
  · rename_i s c
    injection hq with hq
    subst hq
    refine Calls.mono (Any.stringslite_IndexByte Tryz.lays217 ⟨s.toArray⟩ c w) fun e w' h => ?_
    obtain ⟨rfl, rfl⟩ := h
    exact ⟨rfl, RowKit.Below.refl _ _⟩
  · cases hq
abbrev ou : KC := .one .u
abbrev ob : KC := .one .b
abbrev os : KC := .one .s
abbrev oi : KC := .one (.i .i64)
abbrev ol (e : Nat) : KC := .one (.sl e)
def uu (n : Nat) (l : List KC) : List KC := List.replicate n (.one .u) ++ l
def vv (n : Nat) (l : List KO) : List KO := List.replicate n .u ++ l
noncomputable def tyL : List (Nat × TI) := [(3, ⟨.int .i64, [.i .i64], 8, [], false⟩),
  (4, ⟨.bool, [.b], 1, [], false⟩),
  (5, ⟨.int .u8, [.i .u8], 1, [], false⟩),
  (9, ⟨.str, [.s], 16, [], false⟩),
  (22, ⟨.slice 50, [.sl 50], 24, [], false⟩),
  (23, ⟨.slice 53, [.sl 53], 24, [], false⟩),
  (25, ⟨.struct, [.s, .s, .sl 50, .sl 53], 80, [(0, 1, false), (1, 1, false), (2, 1, false), (3, 1, false)], false⟩),
  (28, ⟨.slice 59, [.sl 59], 24, [], false⟩),
  (29, ⟨.slice 64, [.sl 64], 24, [], false⟩),
  (31, ⟨.struct, [.s, .s, .sl 59, .sl 64], 80, [(0, 1, false), (1, 1, false), (2, 1, false), (3, 1, false)], false⟩),
  (38, ⟨.slice 5, [.sl 5], 24, [], false⟩),
  (48, ⟨.slice 99, [.sl 99], 24, [], false⟩),
  (50, ⟨.struct, [.s, .sl 99], 40, [(0, 1, false), (1, 1, false)], false⟩),
  (53, ⟨.struct, [.i .i64, .s, .s, .s, .sl 99, .sl 50, .sl 53], 128, [(0, 1, false), (1, 1, false), (2, 1, false), (3, 1, false), (4, 1, false), (5, 1, false), (6, 1, false)], false⟩),
  (57, ⟨.slice 80, [.sl 80], 24, [], false⟩),
  (59, ⟨.struct, [.s, .sl 80], 40, [(0, 1, false), (1, 1, false)], false⟩),
  (64, ⟨.struct, [.i .i64, .s, .s, .s, .sl 80, .sl 59, .sl 64], 128, [(0, 1, false), (1, 1, false), (2, 1, false), (3, 1, false), (4, 1, false), (5, 1, false), (6, 1, false)], false⟩),
  (75, ⟨.slice 78, [.sl 78], 24, [], false⟩),
  (76, ⟨.slice 9, [.sl 9], 24, [], false⟩),
  (78, ⟨.struct, [.i .i64, .s, .sl 78, .sl 9], 72, [(0, 1, false), (1, 1, false), (2, 1, false), (3, 1, false)], false⟩),
  (80, ⟨.struct, [.s, .i .i64, .s, .sl 78, .sl 9], 88, [(0, 1, false), (1, 4, true)], false⟩),
  (88, ⟨.struct, [.i .i64], 8, [(0, 1, false)], false⟩),
  (95, ⟨.slice 97, [.sl 97], 24, [], false⟩),
  (97, ⟨.struct, [.i .i64, .s, .sl 97, .sl 9], 72, [(0, 1, false), (1, 1, false), (2, 1, false), (3, 1, false)], false⟩),
  (99, ⟨.struct, [.s, .i .i64, .s, .sl 97, .sl 9], 88, [(0, 1, false), (1, 4, true)], false⟩)]
noncomputable def h_strings_Join : Hint := ⟨ol 9 :: os :: [], []⟩
noncomputable def h_strings_Repeat : Hint := ⟨os :: oi :: [], []⟩
noncomputable def h_unicode_utf8_ValidString : Hint := ⟨os :: [], []⟩
noncomputable def h_internal_stringslite_IndexByte : Hint := ⟨os :: .one (.i .u8) :: [], []⟩
noncomputable def h_strings_IndexAny : Hint := ⟨os :: os :: [], []⟩
noncomputable def h_internal_stringslite_Cut : Hint := ⟨os :: os :: [], []⟩
noncomputable def fi3 : FI := mkFI Tryz.f3 2 [.ag [.s, .s, .sl 50, .sl 53]] [(false, [.ct .b])] (fun _ => (.s (.r [0, 0] none) (.s .n (.s .n (.s .n (.s .n (.s (.r [0, 0, 1, 0] none) .n)))))))
noncomputable def fi4 : FI := mkFI Tryz.f4 1 [.ag [.s, .s, .sl 50, .sl 53], .ct (.i .i64)] [(false, [.ct (.i .i64)])] (fun _ => (.s (.r [0, 0] none) .n))
noncomputable def fi6 : FI := mkFI Tryz.f6 3 [.ag [.s, .s, .sl 50, .sl 53]] [(true, [.ct .s, .ct .s, .ct (.sl 59), .ct (.sl 64)])] (fun _ => (.s (.r [0, 1] none) (.s (.r [2] none) .n)))
noncomputable def fi5 : FI := mkFI Tryz.f5 6 [.ag [.s, .s, .sl 59, .sl 64]] [(false, [.ct .s])] (fun _ => (.s (.r [0, 0] none) (.s .n (.s (.r [0, 0, 0, 0, 0, 0, 0, 1, 0, 0, 2, 0] none) (.s (.r [0, 0, 0, 3, 4, 5, 0, 0] none) .n)))))
noncomputable def fi7 : FI := mkFI Tryz.f7 1 [.ag [.s, .s, .sl 59, .sl 64]] [(false, [.ct .s])] (fun _ => (.s (.r [0, 0] none) .n))
noncomputable def fi8 : FI := mkFI Tryz.f8 2 [.ag [.s, .s, .sl 59, .sl 64], .ag [.s, .s, .sl 59, .sl 64]] [(false, [.ct .b])] (fun _ => (.s (.r [0, 1, 0] none) .n))
noncomputable def fi9 : FI := mkFI Tryz.f9 0 [.ct (.sl 50), .ct (.i .i64)] [(false, [.ct (.i .i64)])] (fun _ => (.s .n (.s .n (.s .n (.s (.s .n (.b (.b (.s .n (.s (.b .n ⟨ol 50 :: oi :: uu 3 (oi :: uu 21 []), []⟩) .n)) ⟨ol 50 :: oi :: uu 3 (oi :: uu 21 []), []⟩) ⟨ou :: oi :: uu 25 [], []⟩)) .n)))))
noncomputable def fi10 : FI := mkFI Tryz.f10 0 [.ct (.sl 53), .ct (.i .i64)] [(false, [.ct (.i .i64)])] (fun _ => (.s .n (.s .n (.s .n (.s (.s .n (.b (.b (.s .n (.s (.b .n ⟨ol 53 :: oi :: uu 3 (oi :: uu 21 []), []⟩) .n)) ⟨ol 53 :: oi :: uu 3 (oi :: uu 21 []), []⟩) ⟨ou :: oi :: uu 25 [], []⟩)) .n)))))
noncomputable def fi14 : FI := mkFI Tryz.f14 4 [.ct (.sl 50)] [(false, [.ct (.sl 59)])] (fun _ => (.s .n (.s (.r [0, 0, 0, 0] none) (.s (.s .n (.b (.b (.s .n (.s (.b .n ⟨ol 50 :: ou :: ou :: .one (.own 59 2) :: oi :: uu 18 [], vv 4 []⟩) .n)) ⟨ol 50 :: ou :: ou :: .one (.own 59 1) :: oi :: uu 18 [], vv 4 []⟩) ⟨uu 3 (.one (.own 59 3) :: uu 19 []), vv 4 []⟩)) .n))))
noncomputable def fi15 : FI := mkFI Tryz.f15 4 [.ct (.sl 53)] [(false, [.ct (.sl 64)])] (fun _ => (.s .n (.s (.r [0, 0, 0, 0] none) (.s (.s .n (.b (.b (.s .n (.s (.b .n ⟨ol 53 :: ou :: ou :: .one (.own 64 2) :: oi :: uu 18 [], vv 4 []⟩) .n)) ⟨ol 53 :: ou :: ou :: .one (.own 64 1) :: oi :: uu 18 [], vv 4 []⟩) ⟨uu 3 (.one (.own 64 3) :: uu 19 []), vv 4 []⟩)) .n))))
noncomputable def fi11 : FI := mkFI Tryz.f11 1 [.ag [.s, .s, .sl 59, .sl 64]] [(false, [.ct .b])] (fun _ => (.s (.r [0, 0] none) (.s (.r [] (some ⟨ou :: ou :: ob :: uu 29 [], .u :: []⟩)) .n)))
noncomputable def fi12 : FI := mkFI Tryz.f12 8 [.mv 5, .ct (.sl 59)] [(false, [.new 5])] (fun _ => (.s .n (.s (.s .n (.b (.b (.s .n (.s (.b (.s (.r [0, 2, 3, 0, 0, 0, 0, 0, 4, 0] none) (.r [0, 0, 0, 0, 0, 0, 5, 0] none)) ⟨.one (.own 5 6) :: ol 59 :: uu 3 (oi :: uu 23 []), vv 8 []⟩) .n)) ⟨.one (.own 5 1) :: ol 59 :: uu 3 (oi :: uu 23 []), vv 8 []⟩) ⟨.one (.own 5 7) :: uu 28 [], vv 8 []⟩)) .n)))
noncomputable def fi13 : FI := mkFI Tryz.f13 7 [.mv 5, .ct (.sl 64), .ct (.i .i64)] [(false, [.new 5])] (fun _ => (.s .n (.s (.r [0, 1, 2, 0] none) (.s (.r [0, 0, 0, 0, 3, 0] none) (.s (.r [0, 0, 4, 5, 6, 0] none) .n)))))
noncomputable def fi16 : FI := mkFI Tryz.f16 1 [.ag [.s, .s, .sl 59, .sl 64]] [(false, [.ct .b])] (fun _ => (.s (.r [0, 0] none) (.s (.r [] (some ⟨ou :: ou :: ob :: uu 23 [], .u :: []⟩)) .n)))
noncomputable def fi17 : FI := mkFI Tryz.f17 1 [.ct (.sl 59)] [(false, [.ct .s])] (fun _ => (.s .n (.s .n (.s .n (.s (.s .n (.b (.b (.s .n (.s .n (.s (.b (.s (.r [0, 0, 0, 0] none) .n) ⟨uu 3 (os :: uu 5 (ol 59 :: oi :: oi :: uu 14 [])), .u :: []⟩) .n))) ⟨uu 3 (os :: uu 5 (ol 59 :: oi :: oi :: uu 14 [])), .u :: []⟩) ⟨uu 3 (os :: uu 22 []), .u :: []⟩)) .n)))))
noncomputable def fi18 : FI := mkFI Tryz.f18 0 [.ct (.sl 64)] [(false, [.ct .s])] (fun _ => .n)
noncomputable def fi19 : FI := mkFI Tryz.f19 0 [.ct (.sl 59), .ct (.sl 59)] [(false, [.ct .b])] (fun _ => (.s .n (.s .n (.s (.s .n (.b (.b (.s .n (.s (.b .n ⟨ol 59 :: ol 59 :: uu 3 (oi :: uu 21 []), []⟩) .n)) ⟨ol 59 :: ol 59 :: uu 3 (oi :: uu 21 []), []⟩) ⟨uu 27 [], []⟩)) .n))))
noncomputable def fi20 : FI := mkFI Tryz.f20 0 [.ct (.sl 64), .ct (.sl 64)] [(false, [.ct .b])] (fun _ => (.s .n (.s .n (.s (.s .n (.b (.b (.s .n (.s (.b .n ⟨ol 64 :: ol 64 :: uu 3 (oi :: uu 21 []), []⟩) .n)) ⟨ol 64 :: ol 64 :: uu 3 (oi :: uu 21 []), []⟩) ⟨uu 27 [], []⟩)) .n))))
noncomputable def fi21 : FI := mkFI Tryz.f21 1 [.ag [.s, .sl 99], .ct (.i .i64)] [(false, [.ct (.i .i64)])] (fun _ => (.s (.r [0, 0] none) .n))
noncomputable def fi22 : FI := mkFI Tryz.f22 1 [.ag [.i .i64, .s, .s, .s, .sl 99, .sl 50, .sl 53], .ct (.i .i64)] [(false, [.ct (.i .i64)])] (fun _ => (.s (.r [0, 0] none) .n))
noncomputable def fi29 : FI := mkFI Tryz.f29 3 [.ag [.s, .sl 99]] [(true, [.ct .s, .ct (.sl 80)])] (fun _ => (.s (.r [0, 1] none) (.s (.r [2] none) .n)))
noncomputable def fi30 : FI := mkFI Tryz.f30 3 [.ag [.i .i64, .s, .s, .s, .sl 99, .sl 50, .sl 53]] [(true, [.ct (.i .i64), .ct .s, .ct .s, .ct .s, .ct (.sl 80), .ct (.sl 59), .ct (.sl 64)])] (fun _ => (.s (.r [0, 1] none) (.s (.r [2] none) .n)))
noncomputable def fi23 : FI := mkFI Tryz.f23 0 [.ct .s] [(false, [.ct .b])] (fun _ => (.s .n (.s (.s (.r [] (some ⟨os :: uu 15 (ob :: uu 18 []), []⟩)) .n) (.s (.s .n (.b (.b (.s .n (.s (.b (.s (.r [] (some ⟨os :: ou :: ou :: oi :: uu 30 (ob :: []), []⟩)) .n) ⟨os :: ou :: ou :: oi :: uu 31 [], []⟩) .n)) ⟨os :: ou :: ou :: oi :: uu 31 [], []⟩) ⟨uu 35 [], []⟩)) .n))))
noncomputable def fi24 : FI := mkFI Tryz.f24 0 [.ct (.sl 59)] [(false, [.ct .b])] (fun _ => (.s .n (.s (.s .n (.b (.b (.s .n (.s (.b (.s (.r [] (some ⟨ol 59 :: ou :: ou :: oi :: uu 21 (ob :: []), []⟩)) .n) ⟨ol 59 :: ou :: ou :: oi :: uu 22 [], []⟩) .n)) ⟨ol 59 :: ou :: ou :: oi :: uu 22 [], []⟩) ⟨uu 26 [], []⟩)) .n)))
noncomputable def fi25 : FI := mkFI Tryz.f25 0 [.ct (.sl 64)] [(false, [.ct .b])] (fun _ => (.s .n (.s .n (.s (.s .n (.b (.b (.s (.s (.r [] (some ⟨ol 64 :: ou :: ou :: oi :: oi :: uu 8 (ob :: uu 26 []), []⟩)) .n) (.s (.b .n ⟨ol 64 :: ou :: ou :: oi :: oi :: uu 35 [], []⟩) .n)) ⟨ol 64 :: ou :: ou :: oi :: oi :: uu 35 [], []⟩) ⟨ol 64 :: ou :: ou :: oi :: uu 36 [], []⟩)) (.s (.s .n (.b (.b (.s (.s (.r [] (some ⟨ol 64 :: ou :: ou :: oi :: ou :: oi :: uu 23 (ob :: uu 10 []), []⟩)) .n) (.s (.b .n ⟨ol 64 :: ou :: ou :: oi :: ou :: oi :: uu 34 [], []⟩) .n)) ⟨ol 64 :: ou :: ou :: oi :: ou :: oi :: uu 34 [], []⟩) ⟨uu 3 (oi :: uu 36 []), []⟩)) .n)))))
noncomputable def fi26 : FI := mkFI Tryz.f26 16 [.mv 5, .ct (.sl 80)] [(false, [.new 5])] (fun _ => (.s .n (.s (.s .n (.b (.b (.s .n (.s (.b (.s (.s .n (.c (.r [0, 2, 3, 0] none) (.r [0, 4, 5, 0] none) (some ⟨.one (.own 5 6) :: ol 80 :: uu 3 (oi :: uu 37 []), vv 16 []⟩))) (.s (.r [0, 0, 0, 0, 0, 0, 7, 8, 9, 0] none) (.r [0, 0, 0, 0, 0, 0, 10, 0] none))) ⟨.one (.own 5 11) :: ol 80 :: uu 3 (oi :: uu 37 []), vv 16 []⟩) .n)) ⟨.one (.own 5 1) :: ol 80 :: uu 3 (oi :: uu 37 []), vv 16 []⟩) ⟨.one (.own 5 12) :: ol 80 :: uu 41 [], vv 16 []⟩)) (.s (.s .n (.c (.r [0, 13, 14, 0] none) .n (some ⟨.one (.own 5 15) :: uu 42 [], vv 16 []⟩))) .n))))
noncomputable def fi27 : FI := mkFI Tryz.f27 28 [.mv 5, .ct (.sl 64), .ct (.i .i64)] [(false, [.new 5])] (fun _ => (.s .n (.s (.s .n (.b (.b (.s .n (.s (.b (.s (.r [0, 0, 0, 0, 2, 0] none) (.s (.r [0, 0, 3, 0] none) (.s (.s .n (.b (.s .n (.c (.s (.s .n (.c (.r [0, 0, 0, 4, 5, 6, 0] none) .n (some ⟨.one (.own 5 7) :: ol 64 :: oi :: uu 4 (oi :: .one (.ptr 2 0) :: uu 69 []), .u :: .u :: .var 64 [.i .i64, .s, .s, .s, .sl 80, .sl 59, .sl 64] :: vv 25 []⟩))) (.r [0, 0, 0, 8, 0] none)) (.s .n (.c (.r [0, 9, 10, 0, 0, 11, 0] none) (.s (.r [0, 12, 13, 0] none) (.s .n (.c (.r [0, 14, 0, 0, 15, 0] none) .n (some ⟨.one (.own 5 16) :: ol 64 :: oi :: uu 4 (oi :: .one (.ptr 2 0) :: uu 69 []), .u :: .u :: .var 64 [.i .i64, .s, .s, .s, .sl 80, .sl 59, .sl 64] :: vv 25 []⟩)))) (some ⟨.one (.own 5 17) :: ol 64 :: oi :: uu 4 (oi :: .one (.ptr 2 0) :: uu 69 []), .u :: .u :: .var 64 [.i .i64, .s, .s, .s, .sl 80, .sl 59, .sl 64] :: vv 25 []⟩))) (some ⟨.one (.own 5 18) :: ol 64 :: oi :: uu 4 (oi :: .one (.ptr 2 0) :: uu 69 []), .u :: .u :: .var 64 [.i .i64, .s, .s, .s, .sl 80, .sl 59, .sl 64] :: vv 25 []⟩))) ⟨.one (.own 5 19) :: ol 64 :: oi :: uu 4 (oi :: .one (.ptr 2 0) :: uu 69 []), .u :: .u :: .var 64 [.i .i64, .s, .s, .s, .sl 80, .sl 59, .sl 64] :: vv 25 []⟩)) (.s (.r [0, 0, 0, 20, 0, 0, 21, 0] none) (.s (.s .n (.c (.r [0, 0, 0, 0, 22, 0] none) .n (some ⟨.one (.own 5 23) :: ol 64 :: oi :: uu 4 (oi :: uu 70 []), vv 28 []⟩))) (.r [0, 24, 25, 0] none)))))) ⟨.one (.own 5 26) :: ol 64 :: oi :: uu 4 (oi :: uu 70 []), vv 28 []⟩) .n)) ⟨.one (.own 5 1) :: ol 64 :: oi :: uu 4 (oi :: uu 70 []), vv 28 []⟩) ⟨.one (.own 5 27) :: uu 77 [], vv 28 []⟩)) .n)))
noncomputable def fi28 : FI := mkFI Tryz.f28 6 [.mv 5, .ct (.i .i64)] [(false, [.new 5])] (fun _ => (.s .n (.s (.s .n (.b (.b (.s .n (.s (.b (.r [0, 2, 3, 0] none) ⟨.one (.own 5 4) :: oi :: uu 3 (oi :: uu 10 []), vv 6 []⟩) .n)) ⟨.one (.own 5 1) :: oi :: uu 3 (oi :: uu 10 []), vv 6 []⟩) ⟨.one (.own 5 5) :: uu 15 [], vv 6 []⟩)) .n)))
noncomputable def fi31 : FI := mkFI Tryz.f31 0 [.ct .s] [(false, [.ct .b])] (fun _ => (.s .n (.s (.s (.r [] (some ⟨os :: uu 11 (ob :: uu 11 []), []⟩)) .n) (.s (.s .n (.b (.b (.s .n (.s .n (.s (.b .n ⟨os :: uu 13 (oi :: oi :: uu 8 []), []⟩) .n))) ⟨os :: uu 13 (oi :: oi :: uu 8 []), []⟩) ⟨uu 24 [], []⟩)) .n))))
noncomputable def fi32 : FI := mkFI Tryz.f32 0 [.ct (.sl 59)] [(false, [.ct .b])] (fun _ => .n)
noncomputable def fi33 : FI := mkFI Tryz.f33 2 [.ct (.sl 64)] [(false, [.ct .b])] (fun _ => (.s .n (.s (.r [0, 0, 0] none) (.s (.s .n (.b (.b (.s .n (.s .n (.s (.b (.s (.r [0, 0, 1, 0] none) .n) ⟨ol 64 :: ou :: ou :: .one (.ptr 0 0) :: uu 4 (ol 64 :: oi :: oi :: uu 11 []), .var 88 [.i .i64] :: .u :: []⟩) .n))) ⟨ol 64 :: ou :: ou :: .one (.ptr 0 0) :: uu 4 (ol 64 :: oi :: oi :: uu 11 []), .var 88 [.i .i64] :: .u :: []⟩) ⟨ol 64 :: uu 21 [], .u :: .u :: []⟩)) .n))))
noncomputable def fi34 : FI := mkFI Tryz.f34 7 [.ct (.sl 80)] [(false, [.ct .s])] (fun _ => (.s .n (.s (.s (.r [] (some ⟨ol 80 :: uu 12 (ob :: uu 22 []), vv 7 []⟩)) .n) (.s (.r [0, 0] none) (.s (.s .n (.b (.b (.s .n (.s .n (.s (.b (.s (.r [0, 0, 2, 0] none) (.r [0, 0, 0, 0, 0, 0, 0, 0, 3, 4, 0] none)) ⟨uu 3 (.one (.own 9 5) :: uu 11 (ol 80 :: oi :: oi :: uu 18 [])), vv 7 []⟩) .n))) ⟨uu 3 (.one (.own 9 1) :: uu 11 (ol 80 :: oi :: oi :: uu 18 [])), vv 7 []⟩) ⟨uu 3 (.one (.own 9 6) :: uu 32 []), vv 7 []⟩)) .n)))))
noncomputable def fi35 : FI := mkFI Tryz.f35 0 [.ct (.sl 64), .ct (.i .i64)] [(false, [.ct .s])] (fun _ => (.s .n (.s (.s (.r [] (some ⟨ol 64 :: oi :: uu 9 (ob :: uu 3 []), []⟩)) .n) .n)))
noncomputable def fi36 : FI := mkFI Tryz.f36 2 [.ag [.s, .sl 80], .ag [.s, .sl 80]] [(false, [.ct .b])] (fun _ => (.s (.r [0, 1, 0] none) .n))
noncomputable def fi37 : FI := mkFI Tryz.f37 2 [.ag [.i .i64, .s, .s, .s, .sl 80, .sl 59, .sl 64], .ag [.i .i64, .s, .s, .s, .sl 80, .sl 59, .sl 64]] [(false, [.ct .b])] (fun _ => (.s (.r [0, 1, 0] none) .n))
noncomputable def fi38 : FI := mkFI Tryz.f38 0 [.ct (.sl 99), .ct (.i .i64)] [(false, [.ct (.i .i64)])] (fun _ => (.s .n (.s .n (.s .n (.s (.s .n (.b (.b (.s .n (.s (.b .n ⟨ol 99 :: oi :: uu 3 (oi :: uu 21 []), []⟩) .n)) ⟨ol 99 :: oi :: uu 3 (oi :: uu 21 []), []⟩) ⟨ou :: oi :: uu 25 [], []⟩)) .n)))))
noncomputable def fi45 : FI := mkFI Tryz.f45 4 [.ct (.sl 99)] [(false, [.ct (.sl 80)])] (fun _ => (.s .n (.s (.r [0, 0, 0, 0] none) (.s (.s .n (.b (.b (.s .n (.s (.b .n ⟨ol 99 :: ou :: ou :: .one (.own 80 2) :: oi :: uu 18 [], vv 4 []⟩) .n)) ⟨ol 99 :: ou :: ou :: .one (.own 80 1) :: oi :: uu 18 [], vv 4 []⟩) ⟨uu 3 (.one (.own 80 3) :: uu 19 []), vv 4 []⟩)) .n))))
noncomputable def fi39 : FI := mkFI Tryz.f39 0 [.ct (.i .u8)] [(false, [.ct .b])] (fun _ => (.s .n (.s (.r [] (some ⟨ou :: ou :: ob :: uu 6 [], []⟩)) .n)))
noncomputable def fi40 : FI := mkFI Tryz.f40 0 [.ct (.i .u8)] [(false, [.ct .b])] (fun _ => (.s .n (.s (.r [] (some ⟨ou :: ou :: ob :: uu 18 [], []⟩)) .n)))
noncomputable def fi41 : FI := mkFI Tryz.f41 0 [.ct (.sl 80)] [(false, [.ct .b])] (fun _ => (.s .n (.s (.s .n (.b (.b (.s .n (.s (.b (.s (.r [] (some ⟨ol 80 :: ou :: ou :: oi :: uu 21 (ob :: []), []⟩)) .n) ⟨ol 80 :: ou :: ou :: oi :: uu 22 [], []⟩) .n)) ⟨ol 80 :: ou :: ou :: oi :: uu 22 [], []⟩) ⟨uu 26 [], []⟩)) .n)))
noncomputable def fi42 : FI := mkFI Tryz.f42 1 [.ag [.i .i64, .s, .s, .s, .sl 80, .sl 59, .sl 64], .ct (.i .i64)] [(false, [.ct (.i .i64)])] (fun _ => (.s (.r [0, 0] none) (.s .n (.s (.s .n (.b (.b (.s (.s (.r [] (some ⟨ou :: oi :: .one (.ptr 0 0) :: ou :: ou :: oi :: uu 10 (ob :: uu 10 []), .var 64 [.i .i64, .s, .s, .s, .sl 80, .sl 59, .sl 64] :: []⟩)) .n) (.s (.b .n ⟨ou :: oi :: .one (.ptr 0 0) :: ou :: ou :: oi :: uu 21 [], .var 64 [.i .i64, .s, .s, .s, .sl 80, .sl 59, .sl 64] :: []⟩) .n)) ⟨ou :: oi :: .one (.ptr 0 0) :: ou :: ou :: oi :: uu 21 [], .var 64 [.i .i64, .s, .s, .s, .sl 80, .sl 59, .sl 64] :: []⟩) ⟨ou :: oi :: uu 25 [], .u :: []⟩)) .n))))
noncomputable def fi43 : FI := mkFI Tryz.f43 1 [.ag [.i .i64, .s, .s, .s, .sl 80, .sl 59, .sl 64], .ct (.i .i64)] [(false, [.ct .b])] (fun _ => (.s (.r [0, 0] none) (.s (.s (.r [] (some ⟨ou :: oi :: .one (.ptr 0 0) :: uu 21 (ob :: uu 16 []), .var 64 [.i .i64, .s, .s, .s, .sl 80, .sl 59, .sl 64] :: []⟩)) .n) (.s (.s .n (.b (.b (.s .n (.s (.b .n ⟨ou :: oi :: .one (.ptr 0 0) :: ou :: ou :: oi :: uu 35 [], .var 64 [.i .i64, .s, .s, .s, .sl 80, .sl 59, .sl 64] :: []⟩) .n)) ⟨ou :: oi :: .one (.ptr 0 0) :: ou :: ou :: oi :: uu 35 [], .var 64 [.i .i64, .s, .s, .s, .sl 80, .sl 59, .sl 64] :: []⟩) ⟨uu 41 [], .u :: []⟩)) .n))))
noncomputable def fi44 : FI := mkFI Tryz.f44 25 [.mv 5, .ag [.i .i64, .s, .sl 78, .sl 9]] [(false, [.new 5])] (fun _ => (.s (.r [1, 0] none) (.s (.s .n (.b (.s .n (.c (.s (.r [0, 2, 3, 0, 0, 4, 0] none) .n) (.s .n (.c (.s (.r [0, 0, 0, 0, 5, 0] none) .n) (.s (.s .n (.c .n .n (some ⟨.one (.own 5 6) :: ou :: ou :: .one (.ptr 1 0) :: uu 21 (ob :: uu 48 []), .u :: .var 78 [.i .i64, .s, .sl 78, .sl 9] :: vv 23 []⟩))) (.c (.s .n (.s (.s .n (.c .n .n (some ⟨.one (.own 5 7) :: ou :: ou :: .one (.ptr 1 0) :: ou :: .one (.i .u8) :: .one (.i .u8) :: uu 67 [], .u :: .var 78 [.i .i64, .s, .sl 78, .sl 9] :: vv 23 []⟩))) (.s (.r [0, 0, 8, 9, 0] none) (.s (.s .n (.b (.b (.s .n (.s (.b (.s (.s .n (.c (.r [0, 11, 12, 0] none) .n (some ⟨.one (.own 5 13) :: ou :: ou :: .one (.ptr 1 0) :: ou :: ou :: .one (.i .u8) :: oi :: uu 66 [], .u :: .var 78 [.i .i64, .s, .sl 78, .sl 9] :: vv 23 []⟩))) (.s (.s .n (.c (.r [0, 0, 0, 0, 0, 0, 14, 15, 16, 0] none) .n (some ⟨.one (.own 5 17) :: ou :: ou :: .one (.ptr 1 0) :: ou :: ou :: .one (.i .u8) :: oi :: uu 66 [], .u :: .var 78 [.i .i64, .s, .sl 78, .sl 9] :: vv 23 []⟩))) (.r [0, 0, 0, 0, 0, 0, 18, 0] none))) ⟨.one (.own 5 19) :: ou :: ou :: .one (.ptr 1 0) :: ou :: ou :: .one (.i .u8) :: oi :: uu 66 [], .u :: .var 78 [.i .i64, .s, .sl 78, .sl 9] :: vv 23 []⟩) .n)) ⟨.one (.own 5 10) :: ou :: ou :: .one (.ptr 1 0) :: ou :: ou :: .one (.i .u8) :: oi :: uu 66 [], .u :: .var 78 [.i .i64, .s, .sl 78, .sl 9] :: vv 23 []⟩) ⟨.one (.own 5 20) :: uu 5 (.one (.i .u8) :: uu 67 []), vv 25 []⟩)) (.s (.r [0, 0, 21, 22, 0] none) .n))))) .n none)) none)) none)) ⟨.one (.own 5 23) :: ou :: ou :: .one (.ptr 1 0) :: uu 70 [], .u :: .var 78 [.i .i64, .s, .sl 78, .sl 9] :: vv 23 []⟩)) (.s (.r [0, 0, 0, 24, 0] none) .n))))
noncomputable def fi46 : FI := mkFI Tryz.f46 0 [.ct (.i .i64), .ct (.i .i64), .ct (.i .i64)] [(false, [.ct .b])] (fun _ => (.s .n (.s (.r [] (some ⟨uu 6 (ob :: uu 8 []), []⟩)) .n)))
noncomputable def fi47 : FI := mkFI Tryz.f47 0 [.ct (.i .u8)] [(false, [.ct .b])] (fun _ => (.s .n (.s (.r [] (some ⟨ou :: ou :: ob :: uu 6 [], []⟩)) .n)))
noncomputable def fi48 : FI := mkFI Tryz.f48 0 [.ct (.i .u8)] [(false, [.ct .b])] (fun _ => (.s .n (.s (.r [] (some ⟨ou :: ou :: ob :: uu 10 [], []⟩)) .n)))
noncomputable def fi49 : FI := mkFI Tryz.f49 0 [.ct (.sl 59), .fn] [(false, [.ct .b])] (fun _ => .n)
noncomputable def fi52 : FI := mkFI Tryz.f52 3 [.ptr, .ag [.i .i64, .s, .s, .s, .sl 80, .sl 59, .sl 64], .ct (.i .i64)] [(false, [.ct .b])] (fun _ => (.s (.r [1, 0] none) (.s .n (.s (.s (.r [] (some ⟨.one (.ptr 0 0) :: ou :: oi :: ou :: .one (.ptr 1 0) :: uu 26 (ob :: uu 107 []), .var 88 [.i .i64] :: .var 64 [.i .i64, .s, .s, .s, .sl 80, .sl 59, .sl 64] :: .u :: []⟩)) .n) (.s .n (.s (.s .n (.b (.s .n (.c (.r [] (some ⟨.one (.ptr 0 0) :: ou :: oi :: ou :: .one (.ptr 1 0) :: ou :: ou :: ob :: uu 131 [], .var 88 [.i .i64] :: .var 64 [.i .i64, .s, .s, .s, .sl 80, .sl 59, .sl 64] :: .u :: []⟩)) (.s .n (.c (.r [] (some ⟨.one (.ptr 0 0) :: ou :: oi :: ou :: .one (.ptr 1 0) :: ou :: ou :: ob :: uu 131 [], .var 88 [.i .i64] :: .var 64 [.i .i64, .s, .s, .s, .sl 80, .sl 59, .sl 64] :: .u :: []⟩)) (.s .n (.c (.r [] (some ⟨.one (.ptr 0 0) :: ou :: oi :: ou :: .one (.ptr 1 0) :: ou :: ou :: ob :: uu 131 [], .var 88 [.i .i64] :: .var 64 [.i .i64, .s, .s, .s, .sl 80, .sl 59, .sl 64] :: .u :: []⟩)) .n (some ⟨.one (.ptr 0 0) :: ou :: oi :: ou :: .one (.ptr 1 0) :: ou :: ou :: ob :: uu 131 [], .var 88 [.i .i64] :: .var 64 [.i .i64, .s, .s, .s, .sl 80, .sl 59, .sl 64] :: .u :: []⟩))) (some ⟨.one (.ptr 0 0) :: ou :: oi :: ou :: .one (.ptr 1 0) :: ou :: ou :: ob :: uu 131 [], .var 88 [.i .i64] :: .var 64 [.i .i64, .s, .s, .s, .sl 80, .sl 59, .sl 64] :: .u :: []⟩))) (some ⟨.one (.ptr 0 0) :: ou :: oi :: ou :: .one (.ptr 1 0) :: ou :: ou :: ob :: uu 131 [], .var 88 [.i .i64] :: .var 64 [.i .i64, .s, .s, .s, .sl 80, .sl 59, .sl 64] :: .u :: []⟩))) ⟨.one (.ptr 0 0) :: ou :: oi :: ou :: .one (.ptr 1 0) :: ou :: ou :: ob :: uu 131 [], .var 88 [.i .i64] :: .var 64 [.i .i64, .s, .s, .s, .sl 80, .sl 59, .sl 64] :: .u :: []⟩)) (.s .n (.s (.s .n (.b (.b (.s .n (.s .n (.s (.b (.s (.r [0, 0, 2, 0] none) .n) ⟨.one (.ptr 0 0) :: ou :: oi :: uu 123 (ol 64 :: oi :: oi :: uu 10 []), .var 88 [.i .i64] :: .u :: .u :: []⟩) .n))) ⟨.one (.ptr 0 0) :: ou :: oi :: uu 123 (ol 64 :: oi :: oi :: uu 10 []), .var 88 [.i .i64] :: .u :: .u :: []⟩) ⟨uu 139 [], .var 88 [.i .i64] :: .u :: .u :: []⟩)) .n))))))))
noncomputable def fi51 : FI := mkFI Tryz.f51 0 [.ct (.sl 80)] [(false, [.ct .b])] (fun _ => .n)
noncomputable def fi53 : FI := mkFI Tryz.f53 9 [.ag [.i .i64, .s, .sl 78, .sl 9]] [(false, [.ct .s])] (fun _ => (.s (.r [0, 0] none) (.s (.r [1, 0] none) (.s (.s .n (.b (.b (.s .n (.s .n (.s (.b (.s (.r [0, 0, 0, 3, 0, 0] none) (.s .n (.s (.s .n (.c .n .n (some ⟨ou :: .one (.ptr 0 0) :: ou :: .one (.own 9 4) :: ou :: ou :: os :: uu 3 (ol 78 :: oi :: oi :: uu 48 []), .var 78 [.i .i64, .s, .sl 78, .sl 9] :: vv 8 []⟩))) (.r [0, 0, 5, 6, 0] none)))) ⟨ou :: .one (.ptr 0 0) :: ou :: .one (.own 9 7) :: uu 6 (ol 78 :: oi :: oi :: uu 48 []), .var 78 [.i .i64, .s, .sl 78, .sl 9] :: vv 8 []⟩) .n))) ⟨ou :: .one (.ptr 0 0) :: ou :: .one (.own 9 2) :: uu 6 (ol 78 :: oi :: oi :: uu 48 []), .var 78 [.i .i64, .s, .sl 78, .sl 9] :: vv 8 []⟩) ⟨ou :: .one (.ptr 0 0) :: ou :: .one (.own 9 8) :: uu 57 [], .var 78 [.i .i64, .s, .sl 78, .sl 9] :: vv 8 []⟩)) (.s .n (.s (.s .n (.b .n ⟨ou :: .one (.ptr 0 0) :: uu 59 [], .var 78 [.i .i64, .s, .sl 78, .sl 9] :: vv 8 []⟩)) .n))))))
noncomputable def fi54 : FI := { mkFI Tryz.f54 0 [.ct (.sl 9), .ct .s] [(false, [.ct .s])] (fun _ => .n) with prim := some (primW 9 qJoin) }
noncomputable def fi55 : FI := mkFI Tryz.f55 0 [.ct (.sl 64), .fn] [(false, [.ct .b])] (fun _ => .n)
noncomputable def fi58 : FI := mkFI Tryz.f58 1 [.ct (.sl 64), .ct (.i .i64)] [(false, [.ct .s])] (fun _ => (.s .n (.s .n (.s .n (.s (.s .n (.b (.b (.s .n (.s .n (.s (.b (.s (.r [0, 0, 0, 0] none) (.s .n (.s (.s .n (.c .n .n (some ⟨ou :: oi :: uu 3 (os :: os :: uu 4 (ol 64 :: oi :: oi :: uu 28 [])), .u :: []⟩))) .n))) ⟨ou :: oi :: uu 3 (os :: os :: uu 4 (ol 64 :: oi :: oi :: uu 28 [])), .u :: []⟩) .n))) ⟨ou :: oi :: uu 3 (os :: os :: uu 4 (ol 64 :: oi :: oi :: uu 28 [])), .u :: []⟩) ⟨uu 6 (os :: uu 35 []), .u :: []⟩)) .n)))))
noncomputable def fi59 : FI := mkFI Tryz.f59 0 [.ct (.sl 80), .ct (.sl 80)] [(false, [.ct .b])] (fun _ => (.s .n (.s .n (.s (.s .n (.b (.b (.s .n (.s (.b .n ⟨ol 80 :: ol 80 :: uu 3 (oi :: uu 21 []), []⟩) .n)) ⟨ol 80 :: ol 80 :: uu 3 (oi :: uu 21 []), []⟩) ⟨uu 27 [], []⟩)) .n))))
noncomputable def fi60 : FI := mkFI Tryz.f60 1 [.ag [.s, .i .i64, .s, .sl 97, .sl 9], .ct (.i .i64)] [(false, [.ct (.i .i64)])] (fun _ => (.s (.r [0, 0] none) .n))
noncomputable def fi64 : FI := mkFI Tryz.f64 3 [.ag [.s, .i .i64, .s, .sl 97, .sl 9]] [(true, [.ct .s, .ct (.i .i64), .ct .s, .ct (.sl 78), .ct (.sl 9)])] (fun _ => (.s (.r [0, 1] none) (.s (.r [2] none) .n)))
noncomputable def fi61 : FI := mkFI Tryz.f61 1 [.ag [.i .i64, .s, .sl 78, .sl 9]] [(false, [.ct .b])] (fun _ => (.s (.r [0, 0] none) .n))
noncomputable def fi62 : FI := mkFI Tryz.f62 1 [.ag [.i .i64, .s, .s, .s, .sl 80, .sl 59, .sl 64]] [(false, [.ct .b])] (fun _ => (.s (.r [0, 0] none) (.s (.s .n (.b (.s .n (.c (.s (.r [] (some ⟨ou :: ou :: ob :: uu 86 [], .u :: []⟩)) .n) (.s .n (.c (.s (.r [] (some ⟨ou :: ou :: ob :: uu 86 [], .u :: []⟩)) .n) (.s .n (.c (.s (.r [] (some ⟨ou :: ou :: ob :: uu 86 [], .u :: []⟩)) .n) .n none)) none)) none)) ⟨uu 89 [], .u :: []⟩)) .n)))
noncomputable def fi63 : FI := mkFI Tryz.f63 0 [.ct .s] [(false, [.ct .s])] (fun _ => (.s .n (.s (.s (.r [] (some ⟨os :: uu 12 (ob :: uu 71 []), []⟩)) .n) (.s .n (.s (.s .n (.b (.b (.s .n (.s (.b (.s .n (.b (.s (.r [] (some ⟨os :: ou :: ou :: os :: oi :: .one (.i .u8) :: uu 24 (ob :: uu 54 []), []⟩)) (.c .n (.s .n (.c .n (.s .n (.c .n (.s .n (.c .n (.s .n (.c .n (.s .n (.c .n (.s (.r [] (some ⟨os :: ou :: ou :: os :: oi :: .one (.i .u8) :: uu 64 (ob :: uu 14 []), []⟩)) (.c .n .n (some ⟨os :: ou :: ou :: os :: oi :: uu 80 [], []⟩))) (some ⟨os :: ou :: ou :: os :: oi :: uu 80 [], []⟩))) (some ⟨os :: ou :: ou :: os :: oi :: uu 80 [], []⟩))) (some ⟨os :: ou :: ou :: os :: oi :: uu 80 [], []⟩))) (some ⟨os :: ou :: ou :: os :: oi :: uu 80 [], []⟩))) (some ⟨os :: ou :: ou :: os :: oi :: uu 80 [], []⟩))) (some ⟨os :: ou :: ou :: os :: oi :: uu 80 [], []⟩))) ⟨os :: ou :: ou :: os :: oi :: uu 80 [], []⟩)) ⟨os :: ou :: ou :: os :: oi :: uu 80 [], []⟩) .n)) ⟨os :: ou :: ou :: os :: oi :: uu 80 [], []⟩) ⟨uu 3 (os :: uu 81 []), []⟩)) .n)))))
noncomputable def fi65 : FI := mkFI Tryz.f65 0 [.ct (.i .u8)] [(false, [.ct .b])] (fun _ => (.s .n (.s (.r [] (some ⟨ou :: ou :: ob :: uu 14 [], []⟩)) .n)))
noncomputable def fi66 : FI := mkFI Tryz.f66 0 [.ct (.sl 59), .fn] [(false, [.ct (.i .i64)])] (fun _ => (.s .n (.s (.s .n (.b (.b (.s .n (.s .n (.s (.b .n ⟨ol 59 :: .one (.fn 50 []) :: uu 5 (oi :: oi :: uu 10 []), []⟩) .n))) ⟨ol 59 :: .one (.fn 50 []) :: uu 5 (oi :: oi :: uu 10 []), []⟩) ⟨uu 19 [], []⟩)) .n)))
noncomputable def fi67 : FI := mkFI Tryz.f67 0 [.ct (.sl 80), .fn] [(false, [.ct .b])] (fun _ => .n)
noncomputable def fi70 : FI := mkFI Tryz.f70 16 [.ct .s] [(false, [.ct .s])] (fun _ => (.s .n (.s (.s (.r [] (some ⟨os :: uu 13 (ob :: uu 44 []), vv 16 []⟩)) .n) (.s (.r [0, 0] none) (.s (.s .n (.b (.b (.s .n (.s .n (.s (.b (.s .n (.s .n (.s .n (.b (.s .n (.c (.r [0, 0, 0, 2, 3, 0] none) (.s (.r [] (some ⟨os :: ou :: ou :: .one (.own 5 4) :: ou :: .one (.i .u8) :: uu 11 (oi :: oi :: uu 19 (ob :: uu 20 [])), vv 16 []⟩)) (.c (.r [0, 0, 0, 0, 0, 0, 0, 5, 6, 0] none) (.r [0, 0, 7, 8, 0] none) (some ⟨os :: ou :: ou :: .one (.own 5 9) :: uu 13 (oi :: oi :: uu 40 []), vv 16 []⟩))) (some ⟨os :: ou :: ou :: .one (.own 5 10) :: uu 13 (oi :: oi :: uu 40 []), vv 16 []⟩))) ⟨os :: ou :: ou :: .one (.own 5 11) :: uu 13 (oi :: oi :: uu 40 []), vv 16 []⟩)))) ⟨os :: ou :: ou :: .one (.own 5 12) :: uu 13 (oi :: oi :: uu 40 []), vv 16 []⟩) .n))) ⟨os :: ou :: ou :: .one (.own 5 1) :: uu 13 (oi :: oi :: uu 40 []), vv 16 []⟩) ⟨uu 3 (.one (.own 5 13) :: uu 55 []), vv 16 []⟩)) (.s (.r [0, 14, 15, 0, 0] none) .n))))))
noncomputable def fi74 : FI := mkFI Tryz.f74 0 [.ct (.sl 64), .fn] [(false, [.ct (.i .i64)])] (fun _ => (.s .n (.s (.s .n (.b (.b (.s .n (.s .n (.s (.b .n ⟨ol 64 :: .one (.fn 56 []) :: uu 5 (oi :: oi :: uu 10 []), []⟩) .n))) ⟨ol 64 :: .one (.fn 56 []) :: uu 5 (oi :: oi :: uu 10 []), []⟩) ⟨uu 19 [], []⟩)) .n)))
noncomputable def fi75 : FI := { mkFI Tryz.f75 0 [.ct .s, .ct (.i .i64)] [(false, [.ct .s])] (fun _ => .n) with prim := some (primH [.s, .i .i64] [.s] qRepeat) }
noncomputable def fi76 : FI := mkFI Tryz.f76 1 [.ag [.i .i64, .s, .s, .s, .sl 80, .sl 59, .sl 64]] [(false, [.ct .s])] (fun _ => (.s (.r [0, 0] none) (.s (.s .n (.b (.s .n (.c (.s .n (.s (.s .n (.c .n .n (some ⟨ou :: .one (.ptr 0 0) :: ou :: os :: uu 44 [], .var 64 [.i .i64, .s, .s, .s, .sl 80, .sl 59, .sl 64] :: []⟩))) .n)) .n none)) ⟨ou :: .one (.ptr 0 0) :: uu 46 [], .var 64 [.i .i64, .s, .s, .s, .sl 80, .sl 59, .sl 64] :: []⟩)) (.s .n (.s (.s .n (.c .n .n (some ⟨ou :: .one (.ptr 0 0) :: ou :: ou :: os :: uu 43 [], .var 64 [.i .i64, .s, .s, .s, .sl 80, .sl 59, .sl 64] :: []⟩))) .n)))))
noncomputable def fi77 : FI := mkFI Tryz.f77 2 [.ag [.s, .i .i64, .s, .sl 78, .sl 9], .ag [.s, .i .i64, .s, .sl 78, .sl 9]] [(false, [.ct .b])] (fun _ => (.s (.r [0, 1, 0] none) .n))
noncomputable def fi78 : FI := mkFI Tryz.f78 1 [.ag [.i .i64, .s, .sl 97, .sl 9], .ct (.i .i64)] [(false, [.ct (.i .i64)])] (fun _ => (.s (.r [0, 0] none) .n))
noncomputable def fi82 : FI := mkFI Tryz.f82 3 [.ag [.i .i64, .s, .sl 97, .sl 9]] [(true, [.ct (.i .i64), .ct .s, .ct (.sl 78), .ct (.sl 9)])] (fun _ => (.s (.r [0, 1] none) (.s (.r [2] none) .n)))
noncomputable def fi79 : FI := mkFI Tryz.f79 1 [.ag [.i .i64, .s, .sl 78, .sl 9], .ct (.i .i64)] [(false, [.ct .b])] (fun _ => (.s (.r [0, 0] none) (.s .n (.s (.r [] (some ⟨ou :: oi :: .one (.ptr 0 0) :: ou :: ou :: ob :: uu 82 [], .var 78 [.i .i64, .s, .sl 78, .sl 9] :: []⟩)) (.s (.s (.r [] (some ⟨ou :: oi :: .one (.ptr 0 0) :: uu 54 (ob :: uu 30 []), .var 78 [.i .i64, .s, .sl 78, .sl 9] :: []⟩)) .n) (.s (.s .n (.b (.b (.s .n (.s (.b (.s (.r [] (some ⟨ou :: oi :: .one (.ptr 0 0) :: uu 3 (oi :: uu 80 (ob :: [])), .var 78 [.i .i64, .s, .sl 78, .sl 9] :: []⟩)) .n) ⟨ou :: oi :: .one (.ptr 0 0) :: uu 3 (oi :: uu 81 []), .var 78 [.i .i64, .s, .sl 78, .sl 9] :: []⟩) .n)) ⟨ou :: oi :: .one (.ptr 0 0) :: uu 3 (oi :: uu 81 []), .var 78 [.i .i64, .s, .sl 78, .sl 9] :: []⟩) ⟨uu 88 [], .u :: []⟩)) .n))))))
noncomputable def fi80 : FI := mkFI Tryz.f80 0 [.ct .s] [(false, [.ct .b])] (fun _ => (.s .n (.s (.s .n (.b (.b (.s .n (.b .n ⟨os :: ou :: ou :: oi :: uu 17 [], []⟩)) ⟨os :: ou :: ou :: oi :: uu 17 [], []⟩) ⟨uu 21 [], []⟩)) .n)))
noncomputable def fi81 : FI := mkFI Tryz.f81 1 [.ct (.i .i64)] [(false, [.ct .s])] (fun _ => (.s .n (.s .n (.s (.r [0, 0, 0, 0, 0, 0, 0, 0, 0, 0, 0, 0, 0, 0, 0, 0, 0, 0, 0, 0, 0, 0] none) .n))))
noncomputable def fi50 : FI := mkFI Tryz.f50 1 [.ag [.s, .sl 80]] [(false, [.ct .b])] (fun _ => (.s (.r [0, 0] none) (.s (.r [] (some ⟨ou :: ou :: ob :: uu 10 [], .u :: []⟩)) .n)))
noncomputable def fi83 : FI := mkFI Tryz.f83 0 [.ct (.sl 80), .fn] [(false, [.ct (.i .i64)])] (fun _ => (.s .n (.s (.s .n (.b (.b (.s .n (.s .n (.s (.b .n ⟨ol 80 :: .one (.fn 68 []) :: uu 5 (oi :: oi :: uu 10 []), []⟩) .n))) ⟨ol 80 :: .one (.fn 68 []) :: uu 5 (oi :: oi :: uu 10 []), []⟩) ⟨uu 19 [], []⟩)) .n)))
noncomputable def fi85 : FI := mkFI Tryz.f85 0 [.ct .s] [(false, [.ct .b])] (fun _ => .n)
noncomputable def fi86 : FI := mkFI Tryz.f86 0 [.ct .s, .ct (.i .u8)] [(false, [.ct (.i .i64)])] (fun _ => .n)
noncomputable def fi56 : FI := mkFI Tryz.f56 1 [.ag [.i .i64, .s, .s, .s, .sl 80, .sl 59, .sl 64]] [(false, [.ct .b])] (fun _ => (.s (.r [0, 0] none) .n))
noncomputable def fi92 : FI := mkFI Tryz.f92 2 [.ag [.i .i64, .s, .sl 78, .sl 9], .ag [.i .i64, .s, .sl 78, .sl 9]] [(false, [.ct .b])] (fun _ => (.s (.r [0, 1, 0] none) .n))
noncomputable def fi93 : FI := mkFI Tryz.f93 0 [.ct (.sl 97), .ct (.i .i64)] [(false, [.ct (.i .i64)])] (fun _ => (.s .n (.s .n (.s .n (.s (.s .n (.b (.b (.s .n (.s (.b .n ⟨ol 97 :: oi :: uu 3 (oi :: uu 21 []), []⟩) .n)) ⟨ol 97 :: oi :: uu 3 (oi :: uu 21 []), []⟩) ⟨ou :: oi :: uu 25 [], []⟩)) .n)))))
noncomputable def fi94 : FI := mkFI Tryz.f94 0 [.ct (.sl 9), .ct (.i .i64)] [(false, [.ct (.i .i64)])] (fun _ => (.s .n (.s .n (.s .n (.s (.s .n (.b (.b (.s .n (.s (.b .n ⟨ol 9 :: oi :: uu 3 (oi :: uu 22 []), []⟩) .n)) ⟨ol 9 :: oi :: uu 3 (oi :: uu 22 []), []⟩) ⟨ou :: oi :: uu 26 [], []⟩)) .n)))))
noncomputable def fi97 : FI := mkFI Tryz.f97 4 [.ct (.sl 97)] [(false, [.ct (.sl 78)])] (fun _ => (.s .n (.s (.r [0, 0, 0, 0] none) (.s (.s .n (.b (.b (.s .n (.s (.b .n ⟨ol 97 :: ou :: ou :: .one (.own 78 2) :: oi :: uu 18 [], vv 4 []⟩) .n)) ⟨ol 97 :: ou :: ou :: .one (.own 78 1) :: oi :: uu 18 [], vv 4 []⟩) ⟨uu 3 (.one (.own 78 3) :: uu 19 []), vv 4 []⟩)) .n))))
noncomputable def fi98 : FI := mkFI Tryz.f98 4 [.ct (.sl 9)] [(false, [.ct (.sl 9)])] (fun _ => (.s .n (.s (.r [0, 0, 0, 0] none) (.s (.s .n (.b (.b (.s .n (.s (.b .n ⟨ol 9 :: ou :: ou :: .one (.own 9 2) :: oi :: uu 17 [], vv 4 []⟩) .n)) ⟨ol 9 :: ou :: ou :: .one (.own 9 1) :: oi :: uu 17 [], vv 4 []⟩) ⟨uu 3 (.one (.own 9 3) :: uu 18 []), vv 4 []⟩)) .n))))
noncomputable def fi95 : FI := mkFI Tryz.f95 1 [.ag [.i .i64, .s, .sl 78, .sl 9]] [(false, [.ct .b])] (fun _ => (.s (.r [0, 0] none) (.s (.s .n (.b (.s .n (.c .n (.s .n (.c .n (.s .n (.c .n (.s .n (.c .n (.s .n (.c .n (.s .n (.c (.s (.r [] (some ⟨ou :: ou :: ob :: uu 45 [], .u :: []⟩)) .n) (.s (.s .n (.c .n .n (some ⟨ou :: .one (.ptr 0 0) :: uu 40 (ob :: uu 5 []), .var 78 [.i .i64, .s, .sl 78, .sl 9] :: []⟩))) .n) none)) none)) none)) none)) none)) none)) ⟨uu 48 [], .u :: []⟩)) .n)))
noncomputable def fi96 : FI := mkFI Tryz.f96 0 [.ct .s, .ct (.i .i64)] [(false, [.ct (.i .i64)]), (false, [.ct (.i .i64)])] (fun _ => (.s .n (.s (.s (.r [] (some ⟨os :: oi :: uu 16 (ob :: uu 70 []), []⟩)) .n) (.s .n (.s .n (.s .n (.s (.b (.s .n (.c .n (.s (.r [] (some ⟨os :: oi :: uu 4 (oi :: uu 20 (ob :: uu 61 [])), []⟩)) (.c .n (.s (.r [] (some ⟨os :: oi :: uu 4 (oi :: uu 29 (ob :: uu 52 [])), []⟩)) (.c .n (.s (.r [] (some ⟨os :: oi :: uu 4 (oi :: uu 38 (ob :: uu 43 [])), []⟩)) .n) (some ⟨os :: oi :: uu 5 (oi :: oi :: uu 80 []), []⟩))) (some ⟨os :: oi :: uu 5 (oi :: oi :: uu 80 []), []⟩))) none)) ⟨os :: oi :: uu 5 (oi :: oi :: uu 80 []), []⟩) (.s .n (.s (.s .n (.b (.b (.s .n (.s (.b (.s .n (.s (.s (.r [] (some ⟨os :: oi :: uu 5 (oi :: oi :: oi :: oi :: uu 65 (ob :: uu 12 [])), []⟩)) .n) .n)) ⟨os :: oi :: uu 5 (oi :: oi :: oi :: uu 79 []), []⟩) .n)) ⟨os :: oi :: uu 5 (oi :: oi :: oi :: uu 79 []), []⟩) ⟨uu 7 (oi :: oi :: uu 80 []), []⟩)) .n)))))))))
noncomputable def fi68 : FI := mkFI Tryz.f68 1 [.ag [.s, .i .i64, .s, .sl 78, .sl 9]] [(false, [.ct .b])] (fun _ => (.s (.r [0, 0] none) (.s (.r [] (some ⟨ou :: ou :: ob :: uu 10 [], .u :: []⟩)) .n)))
noncomputable def fi107 : FI := { mkFI Tryz.f107 0 [.ct .s] [(false, [.ct .b])] (fun _ => .n) with prim := some (primH [.s] [.b] qValidString) }
noncomputable def fi108 : FI := { mkFI Tryz.f108 0 [.ct .s, .ct (.i .u8)] [(false, [.ct (.i .i64)])] (fun _ => .n) with prim := some (primH [.s, .i .u8] [.i .i64] qIndexByte) }
noncomputable def fi57 : FI := mkFI Tryz.f57 2 [.ag [.i .i64, .s, .s, .s, .sl 80, .sl 59, .sl 64]] [(false, [.ct .b])] (fun _ => (.s (.r [0, 0] none) (.s (.r [0, 1, 0] none) .n)))
noncomputable def fi114 : FI := mkFI Tryz.f114 0 [.ct (.sl 78), .ct (.sl 78)] [(false, [.ct .b])] (fun _ => (.s .n (.s .n (.s (.s .n (.b (.b (.s .n (.s (.b .n ⟨ol 78 :: ol 78 :: uu 3 (oi :: uu 21 []), []⟩) .n)) ⟨ol 78 :: ol 78 :: uu 3 (oi :: uu 21 []), []⟩) ⟨uu 27 [], []⟩)) .n))))
noncomputable def fi115 : FI := mkFI Tryz.f115 0 [.ct (.sl 9), .ct (.sl 9)] [(false, [.ct .b])] (fun _ => (.s .n (.s .n (.s (.s .n (.b (.b (.s .n (.s (.b .n ⟨ol 9 :: ol 9 :: uu 3 (oi :: uu 20 []), []⟩) .n)) ⟨ol 9 :: ol 9 :: uu 3 (oi :: uu 20 []), []⟩) ⟨uu 26 [], []⟩)) .n))))
noncomputable def fi116 : FI := mkFI Tryz.f116 0 [.ct .s] [(false, [.ct .b])] (fun _ => (.s .n (.s (.r [] (some ⟨ou :: ou :: ob :: uu 15 [], []⟩)) .n)))
noncomputable def fi117 : FI := mkFI Tryz.f117 0 [.ct .s] [(false, [.ct .b])] (fun _ => (.s .n (.s .n (.s (.s (.r [] (some ⟨os :: ou :: ou :: oi :: uu 16 (ob :: uu 60 []), []⟩)) .n) (.s (.s .n (.c .n .n (some ⟨os :: ou :: ou :: oi :: uu 77 [], []⟩))) (.s (.s (.r [] (some ⟨os :: ou :: ou :: oi :: uu 45 (ob :: uu 31 []), []⟩)) (.c (.s .n (.s (.s (.r [] (some ⟨os :: ou :: ou :: oi :: uu 63 (ob :: uu 13 []), []⟩)) (.c .n .n (some ⟨os :: ou :: ou :: oi :: uu 77 [], []⟩))) .n)) .n (some ⟨os :: ou :: ou :: oi :: uu 77 [], []⟩))) .n))))))
noncomputable def fi118 : FI := mkFI Tryz.f118 0 [.ct .s] [(false, [.ct .b])] (fun _ => (.s .n (.s (.r [] (some ⟨ou :: ou :: ob :: uu 10 [], []⟩)) .n)))
noncomputable def fi119 : FI := mkFI Tryz.f119 4 [.ct (.i .i64)] [(false, [.ct .s])] (fun _ => (.s .n (.s .n (.s (.b (.s .n (.c (.s (.r [0, 0, 0, 0, 0] none) .n) (.s .n (.c (.s (.r [0, 0, 0, 0, 0, 0, 0, 0, 1, 0, 0] none) .n) (.s .n (.c (.s (.r [0, 0, 0, 0, 0, 0, 0, 0, 0, 0, 0, 0, 0, 2, 0, 0] none) .n) .n none)) none)) none)) ⟨oi :: uu 63 [], vv 4 []⟩) (.s (.r [0, 0, 0, 0, 0, 0, 0, 0, 0, 0, 0, 0, 0, 0, 0, 0, 0, 0, 3, 0, 0] none) .n)))))
noncomputable def fi69 : FI := mkFI Tryz.f69 1 [.ag [.i .i64, .s, .sl 78, .sl 9]] [(false, [.ct .b])] (fun _ => (.s (.r [0, 0] none) .n))
noncomputable def fi128 : FI := mkFI Tryz.f128 0 [.ct .s] [(false, [.ct (.i .i64)])] (fun _ => (.s .n (.s .n (.s (.s (.r [] (some ⟨os :: ou :: ou :: oi :: uu 8 (ob :: uu 19 []), []⟩)) (.c .n .n (some ⟨os :: ou :: ou :: oi :: uu 28 [], []⟩))) (.s .n (.s (.s (.r [] (some ⟨uu 4 (oi :: uu 25 (ob :: ou :: [])), []⟩)) .n) .n))))))
noncomputable def fi129 : FI := mkFI Tryz.f129 0 [.ct .s, .ct (.i .i64)] [(false, [.ct (.i .i64)])] (fun _ => (.s .n (.s (.b (.b (.s (.s (.r [] (some ⟨os :: oi :: uu 12 (ob :: uu 3 []), []⟩)) .n) (.b .n ⟨os :: oi :: uu 16 [], []⟩)) ⟨os :: oi :: uu 16 [], []⟩) ⟨ou :: oi :: uu 16 [], []⟩) .n)))
noncomputable def fi130 : FI := mkFI Tryz.f130 0 [.ct (.i .i64)] [(false, [.ct .b])] (fun _ => (.s .n (.s (.r [] (some ⟨ou :: ou :: ob :: uu 7 [], []⟩)) .n)))
noncomputable def fi84 : FI := mkFI Tryz.f84 2 [.ag [.i .i64, .s, .sl 78, .sl 9], .ct (.i .i64)] [(false, [.ct .b])] (fun _ => (.s (.r [0, 1, 0] none) (.s (.s .n (.b (.s .n (.c (.s (.r [] (some ⟨uu 4 (ob :: uu 97 []), .u :: .u :: []⟩)) .n) (.s .n (.c (.s (.r [] (some ⟨uu 4 (ob :: uu 97 []), .u :: .u :: []⟩)) .n) (.s .n (.c (.s (.r [] (some ⟨uu 4 (ob :: uu 97 []), .u :: .u :: []⟩)) .n) (.s .n (.c (.s (.r [] (some ⟨uu 4 (ob :: uu 97 []), .u :: .u :: []⟩)) .n) (.s .n (.c (.s (.r [] (some ⟨uu 4 (ob :: uu 97 []), .u :: .u :: []⟩)) .n) (.s .n (.c (.s (.r [] (some ⟨uu 4 (ob :: uu 97 []), .u :: .u :: []⟩)) .n) (.s .n (.c .n (.s .n (.c (.s (.r [] (some ⟨ou :: ou :: .one (.ptr 0 0) :: .one (.ptr 1 0) :: uu 83 (ob :: uu 14 []), .var 78 [.i .i64, .s, .sl 78, .sl 9] :: .var 3 [.i .i64] :: []⟩)) .n) .n none)) (some ⟨ou :: ou :: .one (.ptr 0 0) :: .one (.ptr 1 0) :: uu 98 [], .var 78 [.i .i64, .s, .sl 78, .sl 9] :: .var 3 [.i .i64] :: []⟩))) none)) none)) none)) none)) none)) none)) ⟨ou :: ou :: .one (.ptr 0 0) :: .one (.ptr 1 0) :: uu 98 [], .var 78 [.i .i64, .s, .sl 78, .sl 9] :: .var 3 [.i .i64] :: []⟩)) (.s (.r [] (some ⟨uu 4 (ob :: uu 97 []), .u :: .u :: []⟩)) .n))))
noncomputable def fi137 : FI := mkFI Tryz.f137 0 [.ct (.i .i64), .ct (.i .i64), .ct (.i .i64)] [(false, [.ct .b])] (fun _ => (.s .n (.s (.r [] (some ⟨uu 6 (ob :: uu 8 []), []⟩)) .n)))
noncomputable def fi99 : FI := mkFI Tryz.f99 1 [.ag [.i .i64, .s, .sl 78, .sl 9]] [(false, [.ct .b])] (fun _ => (.s (.r [0, 0] none) (.s (.r [] (some ⟨ou :: ou :: ob :: uu 10 [], .u :: []⟩)) .n)))
noncomputable def fi100 : FI := mkFI Tryz.f100 0 [.ct .s] [(false, [.ct .b])] (fun _ => (.s .n (.s .n (.s (.r [] (some ⟨ou :: ou :: ob :: uu 19 [], []⟩)) .n))))
noncomputable def fi101 : FI := mkFI Tryz.f101 0 [.ct .s] [(false, [.ct .b])] (fun _ => (.s .n (.s .n (.s .n (.s .n (.s (.s .n (.c (.s .n (.s (.s (.r [] (some ⟨uu 3 (os :: os :: oi :: uu 29 (ob :: uu 28 [])), []⟩)) (.c .n .n (some ⟨uu 3 (os :: os :: oi :: uu 58 []), []⟩))) .n)) .n (some ⟨uu 3 (os :: ou :: oi :: uu 58 []), []⟩))) (.s .n (.s (.r [] (some ⟨ou :: ou :: ob :: uu 61 [], []⟩)) .n))))))))
noncomputable def fi102 : FI := mkFI Tryz.f102 0 [.ct .s] [(false, [.ct .b])] (fun _ => (.s .n (.s (.r [] (some ⟨ou :: ou :: ob :: uu 10 [], []⟩)) .n)))
noncomputable def fi103 : FI := mkFI Tryz.f103 0 [.ct (.sl 9), .fn] [(false, [.ct .b])] (fun _ => .n)
noncomputable def fi105 : FI := mkFI Tryz.f105 1 [.ct (.sl 78), .fn] [(false, [.ct .b])] (fun _ => .n)
noncomputable def fi120 : FI := mkFI Tryz.f120 0 [.ct .s, .ct .s] [(false, [.ct .s])] (fun _ => .n)
noncomputable def fi121 : FI := mkFI Tryz.f121 0 [.ct .s] [(false, [.ct .b])] (fun _ => (.s .n (.s (.s .n (.b (.b (.s .n (.s .n (.s (.b .n ⟨os :: uu 4 (oi :: oi :: uu 10 []), []⟩) .n))) ⟨os :: uu 4 (oi :: oi :: uu 10 []), []⟩) ⟨os :: uu 16 [], []⟩)) .n)))
noncomputable def fi122 : FI := { mkFI Tryz.f122 0 [.ct .s, .ct .s] [(false, [.ct (.i .i64)])] (fun _ => .n) with prim := some (primH [.s, .s] [.i .i64] qIndexAny) }
noncomputable def fi123 : FI := mkFI Tryz.f123 0 [.ct .s, .ct .s] [(false, [.ct .s]), (false, [.ct .s]), (false, [.ct .b])] (fun _ => .n)
noncomputable def fi124 : FI := mkFI Tryz.f124 0 [.ct (.sl 9), .fn] [(false, [.ct (.i .i64)])] (fun _ => (.s .n (.s (.s .n (.b (.b (.s .n (.s .n (.s (.b .n ⟨ol 9 :: .one (.fn 104 []) :: uu 5 (oi :: oi :: uu 10 []), []⟩) .n))) ⟨ol 9 :: .one (.fn 104 []) :: uu 5 (oi :: oi :: uu 10 []), []⟩) ⟨uu 19 [], []⟩)) .n)))
noncomputable def fi125 : FI := mkFI Tryz.f125 1 [.ct (.sl 78), .fn] [(false, [.ct (.i .i64)])] (fun _ => (.s .n (.s (.s .n (.b (.b (.s .n (.s .n (.s (.b .n ⟨ol 78 :: .one (.fn 106 [0]) :: uu 5 (oi :: oi :: uu 10 []), .var 3 [.i .i64] :: []⟩) .n))) ⟨ol 78 :: .one (.fn 106 [0]) :: uu 5 (oi :: oi :: uu 10 []), .var 3 [.i .i64] :: []⟩) ⟨uu 19 [], .var 3 [.i .i64] :: []⟩)) .n)))
noncomputable def fi131 : FI := mkFI Tryz.f131 0 [.ct .s, .ct .s] [(false, [.ct .s])] (fun _ => .n)
noncomputable def fi136 : FI := { mkFI Tryz.f136 0 [.ct .s, .ct .s] [(false, [.ct .s]), (false, [.ct .s]), (false, [.ct .b])] (fun _ => .n) with prim := some (primH [.s, .s] [.s, .s, .b] qCut) }
noncomputable def fi104 : FI := mkFI Tryz.f104 0 [.ct .s] [(false, [.ct .b])] (fun _ => .n)
noncomputable def fi106 : FI := mkFI Tryz.f106 2 [.ag [.i .i64, .s, .sl 78, .sl 9], .ptr] [(false, [.ct .b])] (fun _ => (.s (.r [1, 0] none) .n))
noncomputable def fi113 : FI := mkFI Tryz.f113 0 [.ct .s, .ct .s] [(false, [.ct .b])] (fun _ => (.s .n (.s (.r [] (some ⟨uu 4 (ob :: uu 13 []), []⟩)) .n)))
noncomputable def fnL : List (Nat × FI) := [(3, fi3), (4, fi4), (6, fi6), (5, fi5), (7, fi7), (8, fi8), (9, fi9), (10, fi10), (14, fi14), (15, fi15), (11, fi11), (12, fi12), (13, fi13), (16, fi16), (17, fi17), (18, fi18), (19, fi19), (20, fi20), (21, fi21), (22, fi22), (29, fi29), (30, fi30), (23, fi23), (24, fi24), (25, fi25), (26, fi26), (27, fi27), (28, fi28), (31, fi31), (32, fi32), (33, fi33), (34, fi34), (35, fi35), (36, fi36), (37, fi37), (38, fi38), (45, fi45), (39, fi39), (40, fi40), (41, fi41), (42, fi42), (43, fi43), (44, fi44), (46, fi46), (47, fi47), (48, fi48), (49, fi49), (52, fi52), (51, fi51), (53, fi53), (54, fi54), (55, fi55), (58, fi58), (59, fi59), (60, fi60), (64, fi64), (61, fi61), (62, fi62), (63, fi63), (65, fi65), (66, fi66), (67, fi67), (70, fi70), (74, fi74), (75, fi75), (76, fi76), (77, fi77), (78, fi78), (82, fi82), (79, fi79), (80, fi80), (81, fi81), (50, fi50), (83, fi83), (85, fi85), (86, fi86), (56, fi56), (92, fi92), (93, fi93), (94, fi94), (97, fi97), (98, fi98), (95, fi95), (96, fi96), (68, fi68), (107, fi107), (108, fi108), (57, fi57), (114, fi114), (115, fi115), (116, fi116), (117, fi117), (118, fi118), (119, fi119), (69, fi69), (128, fi128), (129, fi129), (130, fi130), (84, fi84), (137, fi137), (99, fi99), (100, fi100), (101, fi101), (102, fi102), (103, fi103), (105, fi105), (120, fi120), (121, fi121), (122, fi122), (123, fi123), (124, fi124), (125, fi125), (131, fi131), (136, fi136), (104, fi104), (106, fi106), (113, fi113)]
noncomputable def cfg : Cfg := ⟨fun t => look t tyL, fun f => look f fnL⟩
theorem tys : tyB Tryz.prog tyL = true := by kernel_rfl
theorem fns : ∀ x ∈ fnL, FnOk Tryz.prog G cfg.ty x.1 x.2 :=
  all_cons (mkFI_ok Tryz.func3 (by kernel_rfl)) <|
  all_cons (mkFI_ok Tryz.func4 (by kernel_rfl)) <|
  all_cons (mkFI_ok Tryz.func6 (by kernel_rfl)) <|
  all_cons (mkFI_ok Tryz.func5 (by kernel_rfl)) <|
  all_cons (mkFI_ok Tryz.func7 (by kernel_rfl)) <|
  all_cons (mkFI_ok Tryz.func8 (by kernel_rfl)) <|
  all_cons (mkFI_ok Tryz.func9 (by kernel_rfl)) <|
  all_cons (mkFI_ok Tryz.func10 (by kernel_rfl)) <|
  all_cons (mkFI_ok Tryz.func14 (by kernel_rfl)) <|
  all_cons (mkFI_ok Tryz.func15 (by kernel_rfl)) <|
  all_cons (mkFI_ok Tryz.func11 (by kernel_rfl)) <|
  all_cons (mkFI_ok Tryz.func12 (by kernel_rfl)) <|
  all_cons (mkFI_ok Tryz.func13 (by kernel_rfl)) <|
  all_cons (mkFI_ok Tryz.func16 (by kernel_rfl)) <|
  all_cons (mkFI_ok Tryz.func17 (by kernel_rfl)) <|
  all_cons (mkFI_ok Tryz.func18 (by kernel_rfl)) <|
  all_cons (mkFI_ok Tryz.func19 (by kernel_rfl)) <|
  all_cons (mkFI_ok Tryz.func20 (by kernel_rfl)) <|
  all_cons (mkFI_ok Tryz.func21 (by kernel_rfl)) <|
  all_cons (mkFI_ok Tryz.func22 (by kernel_rfl)) <|
  all_cons (mkFI_ok Tryz.func29 (by kernel_rfl)) <|
  all_cons (mkFI_ok Tryz.func30 (by kernel_rfl)) <|
  all_cons (mkFI_ok Tryz.func23 (by kernel_rfl)) <|
  all_cons (mkFI_ok Tryz.func24 (by kernel_rfl)) <|
  all_cons (mkFI_ok Tryz.func25 (by kernel_rfl)) <|
  all_cons (mkFI_ok Tryz.func26 (by kernel_rfl)) <|
  all_cons (mkFI_ok Tryz.func27 (by kernel_rfl)) <|
  all_cons (mkFI_ok Tryz.func28 (by kernel_rfl)) <|
  all_cons (mkFI_ok Tryz.func31 (by kernel_rfl)) <|
  all_cons (mkFI_ok Tryz.func32 (by kernel_rfl)) <|
  all_cons (mkFI_ok Tryz.func33 (by kernel_rfl)) <|
  all_cons (mkFI_ok Tryz.func34 (by kernel_rfl)) <|
  all_cons (mkFI_ok Tryz.func35 (by kernel_rfl)) <|
  all_cons (mkFI_ok Tryz.func36 (by kernel_rfl)) <|
  all_cons (mkFI_ok Tryz.func37 (by kernel_rfl)) <|
  all_cons (mkFI_ok Tryz.func38 (by kernel_rfl)) <|
  all_cons (mkFI_ok Tryz.func45 (by kernel_rfl)) <|
  all_cons (mkFI_ok Tryz.func39 (by kernel_rfl)) <|
  all_cons (mkFI_ok Tryz.func40 (by kernel_rfl)) <|
  all_cons (mkFI_ok Tryz.func41 (by kernel_rfl)) <|
  all_cons (mkFI_ok Tryz.func42 (by kernel_rfl)) <|
  all_cons (mkFI_ok Tryz.func43 (by kernel_rfl)) <|
  all_cons (mkFI_ok Tryz.func44 (by kernel_rfl)) <|
  all_cons (mkFI_ok Tryz.func46 (by kernel_rfl)) <|
  all_cons (mkFI_ok Tryz.func47 (by kernel_rfl)) <|
  all_cons (mkFI_ok Tryz.func48 (by kernel_rfl)) <|
  all_cons (mkFI_ok Tryz.func49 (by kernel_rfl)) <|
  all_cons (mkFI_ok Tryz.func52 (by kernel_rfl)) <|
  all_cons (mkFI_ok Tryz.func51 (by kernel_rfl)) <|
  all_cons (mkFI_ok Tryz.func53 (by kernel_rfl)) <|
  all_cons (prim_words (e := 9) (q := qJoin) Tryz.func54 (by kernel_rfl) (by kernel_rfl) (by kernel_rfl) rfl (call_Join fun te h => by injection (show look 9 tyL = some te from h) with h; subst h; rfl)) <|
  all_cons (mkFI_ok Tryz.func55 (by kernel_rfl)) <|
  all_cons (mkFI_ok Tryz.func58 (by kernel_rfl)) <|
  all_cons (mkFI_ok Tryz.func59 (by kernel_rfl)) <|
  all_cons (mkFI_ok Tryz.func60 (by kernel_rfl)) <|
  all_cons (mkFI_ok Tryz.func64 (by kernel_rfl)) <|
  all_cons (mkFI_ok Tryz.func61 (by kernel_rfl)) <|
  all_cons (mkFI_ok Tryz.func62 (by kernel_rfl)) <|
  all_cons (mkFI_ok Tryz.func63 (by kernel_rfl)) <|
  all_cons (mkFI_ok Tryz.func65 (by kernel_rfl)) <|
  all_cons (mkFI_ok Tryz.func66 (by kernel_rfl)) <|
  all_cons (mkFI_ok Tryz.func67 (by kernel_rfl)) <|
  all_cons (mkFI_ok Tryz.func70 (by kernel_rfl)) <|
  all_cons (mkFI_ok Tryz.func74 (by kernel_rfl)) <|
  all_cons (prim_lit (cts := [.s, .i .i64]) (rcts := [.s]) Tryz.func75 (by kernel_rfl) (by kernel_rfl) (by kernel_rfl) rfl call_Repeat) <|
  all_cons (mkFI_ok Tryz.func76 (by kernel_rfl)) <|
  all_cons (mkFI_ok Tryz.func77 (by kernel_rfl)) <|
  all_cons (mkFI_ok Tryz.func78 (by kernel_rfl)) <|
  all_cons (mkFI_ok Tryz.func82 (by kernel_rfl)) <|
  all_cons (mkFI_ok Tryz.func79 (by kernel_rfl)) <|
  all_cons (mkFI_ok Tryz.func80 (by kernel_rfl)) <|
  all_cons (mkFI_ok Tryz.func81 (by kernel_rfl)) <|
  all_cons (mkFI_ok Tryz.func50 (by kernel_rfl)) <|
  all_cons (mkFI_ok Tryz.func83 (by kernel_rfl)) <|
  all_cons (mkFI_ok Tryz.func85 (by kernel_rfl)) <|
  all_cons (mkFI_ok Tryz.func86 (by kernel_rfl)) <|
  all_cons (mkFI_ok Tryz.func56 (by kernel_rfl)) <|
  all_cons (mkFI_ok Tryz.func92 (by kernel_rfl)) <|
  all_cons (mkFI_ok Tryz.func93 (by kernel_rfl)) <|
  all_cons (mkFI_ok Tryz.func94 (by kernel_rfl)) <|
  all_cons (mkFI_ok Tryz.func97 (by kernel_rfl)) <|
  all_cons (mkFI_ok Tryz.func98 (by kernel_rfl)) <|
  all_cons (mkFI_ok Tryz.func95 (by kernel_rfl)) <|
  all_cons (mkFI_ok Tryz.func96 (by kernel_rfl)) <|
  all_cons (mkFI_ok Tryz.func68 (by kernel_rfl)) <|
  all_cons (prim_lit (cts := [.s]) (rcts := [.b]) Tryz.func107 (by kernel_rfl) (by kernel_rfl) (by kernel_rfl) rfl call_ValidString) <|
  all_cons (prim_lit (cts := [.s, .i .u8]) (rcts := [.i .i64]) Tryz.func108 (by kernel_rfl) (by kernel_rfl) (by kernel_rfl) rfl call_IndexByte) <|
  all_cons (mkFI_ok Tryz.func57 (by kernel_rfl)) <|
  all_cons (mkFI_ok Tryz.func114 (by kernel_rfl)) <|
  all_cons (mkFI_ok Tryz.func115 (by kernel_rfl)) <|
  all_cons (mkFI_ok Tryz.func116 (by kernel_rfl)) <|
  all_cons (mkFI_ok Tryz.func117 (by kernel_rfl)) <|
  all_cons (mkFI_ok Tryz.func118 (by kernel_rfl)) <|
  all_cons (mkFI_ok Tryz.func119 (by kernel_rfl)) <|
  all_cons (mkFI_ok Tryz.func69 (by kernel_rfl)) <|
  all_cons (mkFI_ok Tryz.func128 (by kernel_rfl)) <|
  all_cons (mkFI_ok Tryz.func129 (by kernel_rfl)) <|
  all_cons (mkFI_ok Tryz.func130 (by kernel_rfl)) <|
  all_cons (mkFI_ok Tryz.func84 (by kernel_rfl)) <|
  all_cons (mkFI_ok Tryz.func137 (by kernel_rfl)) <|
  all_cons (mkFI_ok Tryz.func99 (by kernel_rfl)) <|
  all_cons (mkFI_ok Tryz.func100 (by kernel_rfl)) <|
  all_cons (mkFI_ok Tryz.func101 (by kernel_rfl)) <|
  all_cons (mkFI_ok Tryz.func102 (by kernel_rfl)) <|
  all_cons (mkFI_ok Tryz.func103 (by kernel_rfl)) <|
  all_cons (mkFI_ok Tryz.func105 (by kernel_rfl)) <|
  all_cons (mkFI_ok Tryz.func120 (by kernel_rfl)) <|
  all_cons (mkFI_ok Tryz.func121 (by kernel_rfl)) <|
  all_cons (prim_lit (cts := [.s, .s]) (rcts := [.i .i64]) Tryz.func122 (by kernel_rfl) (by kernel_rfl) (by kernel_rfl) rfl call_IndexAny) <|
  all_cons (mkFI_ok Tryz.func123 (by kernel_rfl)) <|
  all_cons (mkFI_ok Tryz.func124 (by kernel_rfl)) <|
  all_cons (mkFI_ok Tryz.func125 (by kernel_rfl)) <|
  all_cons (mkFI_ok Tryz.func131 (by kernel_rfl)) <|
  all_cons (prim_lit (cts := [.s, .s]) (rcts := [.s, .s, .b]) Tryz.func136 (by kernel_rfl) (by kernel_rfl) (by kernel_rfl) rfl call_Cut) <|
  all_cons (mkFI_ok Tryz.func104 (by kernel_rfl)) <|
  all_cons (mkFI_ok Tryz.func106 (by kernel_rfl)) <|
  all_cons (mkFI_ok Tryz.func113 (by kernel_rfl)) <| all_nil
noncomputable def r_laws_FnExactFragText (a : List DC) : Out := Run cfg 3 ⟨.agg [.s, .s, .sl 50, .sl 53] :: [], []⟩ a
noncomputable def r_laws_szFrag (a : List DC) : Out := Run cfg 4 ⟨.agg [.s, .s, .sl 50, .sl 53] :: oi :: [], []⟩ a
noncomputable def r_laws_toFrag (a : List DC) : Out := Run cfg 6 ⟨.agg [.s, .s, .sl 50, .sl 53] :: [], []⟩ a
noncomputable def r_spec_FragText (a : List DC) : Out := Run cfg 5 ⟨.agg [.s, .s, .sl 59, .sl 64] :: [], []⟩ a
noncomputable def r_impl_FragText (a : List DC) : Out := Run cfg 7 ⟨.agg [.s, .s, .sl 59, .sl 64] :: [], []⟩ a
noncomputable def r_laws_eqFrag (a : List DC) : Out := Run cfg 8 ⟨.agg [.s, .s, .sl 59, .sl 64] :: .agg [.s, .s, .sl 59, .sl 64] :: [], []⟩ a
noncomputable def r_laws_szDirS (a : List DC) : Out := Run cfg 9 ⟨ol 50 :: oi :: [], []⟩ a
noncomputable def r_laws_szSelS (a : List DC) : Out := Run cfg 10 ⟨ol 53 :: oi :: [], []⟩ a
noncomputable def r_laws_toDirS (a : List DC) : Out := Run cfg 14 ⟨ol 50 :: [], []⟩ a
noncomputable def r_laws_toSelS (a : List DC) : Out := Run cfg 15 ⟨ol 53 :: [], []⟩ a
noncomputable def r_spec_FragOk (a : List DC) : Out := Run cfg 11 ⟨.agg [.s, .s, .sl 59, .sl 64] :: [], []⟩ a
noncomputable def r_spec_l10SayDirs (a : List DC) : Out := Run cfg 12 ⟨.one (.own 5 0) :: ol 59 :: [], .u :: []⟩ a
noncomputable def r_spec_l11Block (a : List DC) : Out := Run cfg 13 ⟨.one (.own 5 0) :: ol 64 :: oi :: [], .u :: []⟩ a
noncomputable def r_impl_FragOk (a : List DC) : Out := Run cfg 16 ⟨.agg [.s, .s, .sl 59, .sl 64] :: [], []⟩ a
noncomputable def r_impl_DirsText (a : List DC) : Out := Run cfg 17 ⟨ol 59 :: [], []⟩ a
noncomputable def r_impl_bodyText (a : List DC) : Out := Run cfg 18 ⟨ol 64 :: [], []⟩ a
noncomputable def r_laws_eqDirS (a : List DC) : Out := Run cfg 19 ⟨ol 59 :: ol 59 :: [], []⟩ a
noncomputable def r_laws_eqSelS (a : List DC) : Out := Run cfg 20 ⟨ol 64 :: ol 64 :: [], []⟩ a
noncomputable def r_laws_szDir (a : List DC) : Out := Run cfg 21 ⟨.agg [.s, .sl 99] :: oi :: [], []⟩ a
noncomputable def r_laws_szSel (a : List DC) : Out := Run cfg 22 ⟨.agg [.i .i64, .s, .s, .s, .sl 99, .sl 50, .sl 53] :: oi :: [], []⟩ a
noncomputable def r_laws_toDir (a : List DC) : Out := Run cfg 29 ⟨.agg [.s, .sl 99] :: [], []⟩ a
noncomputable def r_laws_toSel (a : List DC) : Out := Run cfg 30 ⟨.agg [.i .i64, .s, .s, .s, .sl 99, .sl 50, .sl 53] :: [], []⟩ a
noncomputable def r_spec_NameOk (a : List DC) : Out := Run cfg 23 ⟨os :: [], []⟩ a
noncomputable def r_spec_DirsOk (a : List DC) : Out := Run cfg 24 ⟨ol 59 :: [], []⟩ a
noncomputable def r_spec_l11Ok (a : List DC) : Out := Run cfg 25 ⟨ol 64 :: [], []⟩ a
noncomputable def r_spec_l10Say (a : List DC) : Out := Run cfg 26 ⟨.one (.own 5 0) :: ol 80 :: [], .u :: []⟩ a
noncomputable def r_spec_l11Say (a : List DC) : Out := Run cfg 27 ⟨.one (.own 5 0) :: ol 64 :: oi :: [], .u :: []⟩ a
noncomputable def r_spec_l11Blanks (a : List DC) : Out := Run cfg 28 ⟨.one (.own 5 0) :: oi :: [], .u :: []⟩ a
noncomputable def r_impl_NameOk (a : List DC) : Out := Run cfg 31 ⟨os :: [], []⟩ a
noncomputable def r_impl_DirsOk (a : List DC) : Out := Run cfg 32 ⟨ol 59 :: [], []⟩ a
noncomputable def r_impl_selsOk (a : List DC) : Out := Run cfg 33 ⟨ol 64 :: [], []⟩ a
noncomputable def r_impl_ArgsText (a : List DC) : Out := Run cfg 34 ⟨ol 80 :: [], []⟩ a
noncomputable def r_impl_SelsText (a : List DC) : Out := Run cfg 35 ⟨ol 64 :: oi :: [], []⟩ a
noncomputable def r_laws_eqDir (a : List DC) : Out := Run cfg 36 ⟨.agg [.s, .sl 80] :: .agg [.s, .sl 80] :: [], []⟩ a
noncomputable def r_laws_eqSel (a : List DC) : Out := Run cfg 37 ⟨.agg [.i .i64, .s, .s, .s, .sl 80, .sl 59, .sl 64] :: .agg [.i .i64, .s, .s, .s, .sl 80, .sl 59, .sl 64] :: [], []⟩ a
noncomputable def r_laws_szArgS (a : List DC) : Out := Run cfg 38 ⟨ol 99 :: oi :: [], []⟩ a
noncomputable def r_laws_toArgS (a : List DC) : Out := Run cfg 45 ⟨ol 99 :: [], []⟩ a
noncomputable def r_spec_l03Figure (a : List DC) : Out := Run cfg 39 ⟨.one (.i .u8) :: [], []⟩ a
noncomputable def r_spec_l03Letter (a : List DC) : Out := Run cfg 40 ⟨.one (.i .u8) :: [], []⟩ a
noncomputable def r_spec_ArgsOk (a : List DC) : Out := Run cfg 41 ⟨ol 80 :: [], []⟩ a
noncomputable def r_spec_l11Count (a : List DC) : Out := Run cfg 42 ⟨.agg [.i .i64, .s, .s, .s, .sl 80, .sl 59, .sl 64] :: oi :: [], []⟩ a
noncomputable def r_spec_l11Right (a : List DC) : Out := Run cfg 43 ⟨.agg [.i .i64, .s, .s, .s, .sl 80, .sl 59, .sl 64] :: oi :: [], []⟩ a
noncomputable def r_spec_l07Say (a : List DC) : Out := Run cfg 44 ⟨.one (.own 5 0) :: .agg [.i .i64, .s, .sl 78, .sl 9] :: [], .u :: []⟩ a
noncomputable def r_impl_in (a : List DC) : Out := Run cfg 46 ⟨oi :: oi :: oi :: [], []⟩ a
noncomputable def r_impl_isFigure (a : List DC) : Out := Run cfg 47 ⟨.one (.i .u8) :: [], []⟩ a
noncomputable def r_impl_inName (a : List DC) : Out := Run cfg 48 ⟨.one (.i .u8) :: [], []⟩ a
noncomputable def r_slices_ContainsFunc_impl_Dir__impl_DirsOk_1 (a : List DC) : Out := Run cfg 49 ⟨ol 59 :: .one (.fn 50 []) :: [], []⟩ a
noncomputable def r_impl_bound_selOk (a : List DC) : Out := Run cfg 52 ⟨.one (.ptr 0 0) :: .agg [.i .i64, .s, .s, .s, .sl 80, .sl 59, .sl 64] :: oi :: [], .var 88 [.i .i64] :: []⟩ a
noncomputable def r_impl_ArgsOk (a : List DC) : Out := Run cfg 51 ⟨ol 80 :: [], []⟩ a
noncomputable def r_impl_printValue (a : List DC) : Out := Run cfg 53 ⟨.agg [.i .i64, .s, .sl 78, .sl 9] :: [], []⟩ a
noncomputable def r_strings_Join (a : List DC) : Out := Run cfg 54 h_strings_Join a
noncomputable def r_slices_ContainsFunc_impl_Sel__impl_SelsText_1 (a : List DC) : Out := Run cfg 55 ⟨ol 64 :: .one (.fn 56 []) :: [], []⟩ a
noncomputable def r_impl_selsText (a : List DC) : Out := Run cfg 58 ⟨ol 64 :: oi :: [], []⟩ a
noncomputable def r_laws_eqArgS (a : List DC) : Out := Run cfg 59 ⟨ol 80 :: ol 80 :: [], []⟩ a
noncomputable def r_laws_szArg (a : List DC) : Out := Run cfg 60 ⟨.agg [.s, .i .i64, .s, .sl 97, .sl 9] :: oi :: [], []⟩ a
noncomputable def r_laws_toArg (a : List DC) : Out := Run cfg 64 ⟨.agg [.s, .i .i64, .s, .sl 97, .sl 9] :: [], []⟩ a
noncomputable def r_spec_ValueOk (a : List DC) : Out := Run cfg 61 ⟨.agg [.i .i64, .s, .sl 78, .sl 9] :: [], []⟩ a
noncomputable def r_spec_l11Names (a : List DC) : Out := Run cfg 62 ⟨.agg [.i .i64, .s, .s, .s, .sl 80, .sl 59, .sl 64] :: [], []⟩ a
noncomputable def r_spec_Escaped (a : List DC) : Out := Run cfg 63 ⟨os :: [], []⟩ a
noncomputable def r_impl_isLetter (a : List DC) : Out := Run cfg 65 ⟨.one (.i .u8) :: [], []⟩ a
noncomputable def r_slices_IndexFunc_impl_Dir__impl_DirsOk_1 (a : List DC) : Out := Run cfg 66 ⟨ol 59 :: .one (.fn 50 []) :: [], []⟩ a
noncomputable def r_slices_ContainsFunc_impl_Arg__impl_ArgsOk_1 (a : List DC) : Out := Run cfg 67 ⟨ol 80 :: .one (.fn 68 []) :: [], []⟩ a
noncomputable def r_impl_Escaped (a : List DC) : Out := Run cfg 70 ⟨os :: [], []⟩ a
noncomputable def r_slices_IndexFunc_impl_Sel__impl_SelsText_1 (a : List DC) : Out := Run cfg 74 ⟨ol 64 :: .one (.fn 56 []) :: [], []⟩ a
noncomputable def r_strings_Repeat (a : List DC) : Out := Run cfg 75 h_strings_Repeat a
noncomputable def r_impl_selHead (a : List DC) : Out := Run cfg 76 ⟨.agg [.i .i64, .s, .s, .s, .sl 80, .sl 59, .sl 64] :: [], []⟩ a
noncomputable def r_laws_eqArg (a : List DC) : Out := Run cfg 77 ⟨.agg [.s, .i .i64, .s, .sl 78, .sl 9] :: .agg [.s, .i .i64, .s, .sl 78, .sl 9] :: [], []⟩ a
noncomputable def r_laws_szValue (a : List DC) : Out := Run cfg 78 ⟨.agg [.i .i64, .s, .sl 97, .sl 9] :: oi :: [], []⟩ a
noncomputable def r_laws_toValue (a : List DC) : Out := Run cfg 82 ⟨.agg [.i .i64, .s, .sl 97, .sl 9] :: [], []⟩ a
noncomputable def r_spec_l07Right (a : List DC) : Out := Run cfg 79 ⟨.agg [.i .i64, .s, .sl 78, .sl 9] :: oi :: [], []⟩ a
noncomputable def r_spec_TextOk (a : List DC) : Out := Run cfg 80 ⟨os :: [], []⟩ a
noncomputable def r_spec_l04Hex4 (a : List DC) : Out := Run cfg 81 ⟨oi :: [], []⟩ a
noncomputable def r_impl_DirsOk_1 (a : List DC) : Out := Run cfg 50 ⟨.agg [.s, .sl 80] :: [], []⟩ a
noncomputable def r_slices_IndexFunc_impl_Arg__impl_ArgsOk_1 (a : List DC) : Out := Run cfg 83 ⟨ol 80 :: .one (.fn 68 []) :: [], []⟩ a
noncomputable def r_impl_TextOk (a : List DC) : Out := Run cfg 85 ⟨os :: [], []⟩ a
noncomputable def r_strings_IndexByte (a : List DC) : Out := Run cfg 86 ⟨os :: .one (.i .u8) :: [], []⟩ a
noncomputable def r_impl_SelsText_1 (a : List DC) : Out := Run cfg 56 ⟨.agg [.i .i64, .s, .s, .s, .sl 80, .sl 59, .sl 64] :: [], []⟩ a
noncomputable def r_laws_eqValue (a : List DC) : Out := Run cfg 92 ⟨.agg [.i .i64, .s, .sl 78, .sl 9] :: .agg [.i .i64, .s, .sl 78, .sl 9] :: [], []⟩ a
noncomputable def r_laws_szValueS (a : List DC) : Out := Run cfg 93 ⟨ol 97 :: oi :: [], []⟩ a
noncomputable def r_laws_szStringS (a : List DC) : Out := Run cfg 94 ⟨ol 9 :: oi :: [], []⟩ a
noncomputable def r_laws_toValueS (a : List DC) : Out := Run cfg 97 ⟨ol 97 :: [], []⟩ a
noncomputable def r_laws_toStringS (a : List DC) : Out := Run cfg 98 ⟨ol 9 :: [], []⟩ a
noncomputable def r_spec_l07One (a : List DC) : Out := Run cfg 95 ⟨.agg [.i .i64, .s, .sl 78, .sl 9] :: [], []⟩ a
noncomputable def r_spec_RuneAt (a : List DC) : Out := Run cfg 96 ⟨os :: oi :: [], []⟩ a
noncomputable def r_impl_ArgsOk_1 (a : List DC) : Out := Run cfg 68 ⟨.agg [.s, .i .i64, .s, .sl 78, .sl 9] :: [], []⟩ a
noncomputable def r_unicode_utf8_ValidString (a : List DC) : Out := Run cfg 107 h_unicode_utf8_ValidString a
noncomputable def r_internal_stringslite_IndexByte (a : List DC) : Out := Run cfg 108 h_internal_stringslite_IndexByte a
noncomputable def r_impl_SelOk (a : List DC) : Out := Run cfg 57 ⟨.agg [.i .i64, .s, .s, .s, .sl 80, .sl 59, .sl 64] :: [], []⟩ a
noncomputable def r_laws_eqValueS (a : List DC) : Out := Run cfg 114 ⟨ol 78 :: ol 78 :: [], []⟩ a
noncomputable def r_laws_eqStringS (a : List DC) : Out := Run cfg 115 ⟨ol 9 :: ol 9 :: [], []⟩ a
noncomputable def r_spec_IntOk (a : List DC) : Out := Run cfg 116 ⟨os :: [], []⟩ a
noncomputable def r_spec_FloatOk (a : List DC) : Out := Run cfg 117 ⟨os :: [], []⟩ a
noncomputable def r_spec_Word (a : List DC) : Out := Run cfg 118 ⟨os :: [], []⟩ a
noncomputable def r_spec_RuneText (a : List DC) : Out := Run cfg 119 ⟨oi :: [], []⟩ a
noncomputable def r_impl_ValueOk (a : List DC) : Out := Run cfg 69 ⟨.agg [.i .i64, .s, .sl 78, .sl 9] :: [], []⟩ a
noncomputable def r_spec_l03Int (a : List DC) : Out := Run cfg 128 ⟨os :: [], []⟩ a
noncomputable def r_spec_l03Run (a : List DC) : Out := Run cfg 129 ⟨os :: oi :: [], []⟩ a
noncomputable def r_spec_l02Scalar (a : List DC) : Out := Run cfg 130 ⟨oi :: [], []⟩ a
noncomputable def r_impl_valueOk (a : List DC) : Out := Run cfg 84 ⟨.agg [.i .i64, .s, .sl 78, .sl 9] :: oi :: [], []⟩ a
noncomputable def r_spec_l01In (a : List DC) : Out := Run cfg 137 ⟨oi :: oi :: oi :: [], []⟩ a
noncomputable def r_impl_plain (a : List DC) : Out := Run cfg 99 ⟨.agg [.i .i64, .s, .sl 78, .sl 9] :: [], []⟩ a
noncomputable def r_impl_IntOk (a : List DC) : Out := Run cfg 100 ⟨os :: [], []⟩ a
noncomputable def r_impl_FloatOk (a : List DC) : Out := Run cfg 101 ⟨os :: [], []⟩ a
noncomputable def r_impl_Word (a : List DC) : Out := Run cfg 102 ⟨os :: [], []⟩ a
noncomputable def r_slices_ContainsFunc_string__impl_valueOk_1 (a : List DC) : Out := Run cfg 103 ⟨ol 9 :: .one (.fn 104 []) :: [], []⟩ a
noncomputable def r_slices_ContainsFunc_impl_Value__impl_valueOk_2 (a : List DC) : Out := Run cfg 105 ⟨ol 78 :: .one (.fn 106 [0]) :: [], .var 3 [.i .i64] :: []⟩ a
noncomputable def r_strings_TrimPrefix (a : List DC) : Out := Run cfg 120 ⟨os :: os :: [], []⟩ a
noncomputable def r_impl_figures (a : List DC) : Out := Run cfg 121 ⟨os :: [], []⟩ a
noncomputable def r_strings_IndexAny (a : List DC) : Out := Run cfg 122 h_strings_IndexAny a
noncomputable def r_strings_Cut (a : List DC) : Out := Run cfg 123 ⟨os :: os :: [], []⟩ a
noncomputable def r_slices_IndexFunc_string__impl_valueOk_1 (a : List DC) : Out := Run cfg 124 ⟨ol 9 :: .one (.fn 104 []) :: [], []⟩ a
noncomputable def r_slices_IndexFunc_impl_Value__impl_valueOk_2 (a : List DC) : Out := Run cfg 125 ⟨ol 78 :: .one (.fn 106 [0]) :: [], .var 3 [.i .i64] :: []⟩ a
noncomputable def r_internal_stringslite_TrimPrefix (a : List DC) : Out := Run cfg 131 ⟨os :: os :: [], []⟩ a
noncomputable def r_internal_stringslite_Cut (a : List DC) : Out := Run cfg 136 h_internal_stringslite_Cut a
noncomputable def r_impl_valueOk_1 (a : List DC) : Out := Run cfg 104 ⟨os :: [], []⟩ a
noncomputable def r_impl_valueOk_2 (a : List DC) : Out := Run cfg 106 ⟨.agg [.i .i64, .s, .sl 78, .sl 9] :: .one (.ptr 0 0) :: [], .var 3 [.i .i64] :: []⟩ a
noncomputable def r_internal_stringslite_HasPrefix (a : List DC) : Out := Run cfg 113 ⟨os :: os :: [], []⟩ a
noncomputable def E_laws_FnExactFragText (a : List DC) : Out :=
 (r_laws_szFrag [.s ((a.getD 0 d0).ss), .s ((a.getD 1 d0).ss), .sl ((a.getD 2 d0).ll), .sl ((a.getD 3 d0).ll), .i (1048576 : Int)]).bindR fun r1 =>
 if (decide ((r1.getD 0 d0).ii < (0 : Int))) = true then
 .ret [.b true]
 else
 (r_laws_toFrag [.s ((a.getD 0 d0).ss), .s ((a.getD 1 d0).ss), .sl ((a.getD 2 d0).ll), .sl ((a.getD 3 d0).ll)]).bindR fun r2 =>
 (r_spec_FragText [.s ((r2.getD 0 d0).ss), .s ((r2.getD 1 d0).ss), .sl ((r2.getD 2 d0).ll), .sl ((r2.getD 3 d0).ll)]).bindR fun r3 =>
 (r_laws_toFrag [.s ((a.getD 0 d0).ss), .s ((a.getD 1 d0).ss), .sl ((a.getD 2 d0).ll), .sl ((a.getD 3 d0).ll)]).bindR fun r4 =>
 (r_impl_FragText [.s ((r4.getD 0 d0).ss), .s ((r4.getD 1 d0).ss), .sl ((r4.getD 2 d0).ll), .sl ((r4.getD 3 d0).ll)]).bindR fun r5 =>
 if (!((r5.getD 0 d0).ss == (r3.getD 0 d0).ss)) = true then
 .ret [.b false]
 else
 (r_laws_toFrag [.s ((a.getD 0 d0).ss), .s ((a.getD 1 d0).ss), .sl ((a.getD 2 d0).ll), .sl ((a.getD 3 d0).ll)]).bindR fun r6 =>
 (r_laws_eqFrag [.s ((r4.getD 0 d0).ss), .s ((r4.getD 1 d0).ss), .sl ((r4.getD 2 d0).ll), .sl ((r4.getD 3 d0).ll), .s ((r6.getD 0 d0).ss), .s ((r6.getD 1 d0).ss), .sl ((r6.getD 2 d0).ll), .sl ((r6.getD 3 d0).ll)]).bindR fun r7 =>
 if (!((r7.getD 0 d0).bb)) = true then
 .ret [.b false]
 else
 .ret [.b true]
theorem eq_laws_FnExactFragText a : r_laws_FnExactFragText a = E_laws_FnExactFragText a := (Run_eq cfg 3 _ a).trans (by kernel_rfl)
noncomputable def E_laws_szFrag (a : List DC) : Out :=
 if (decide ((IntKind.i64.wrap ((a.getD 4 d0).ii - (((a.getD 0 d0).ss).length : Int))) < (0 : Int))) = true then
 .ret [.i (-1 : Int)]
 else
 if (decide ((IntKind.i64.wrap ((IntKind.i64.wrap ((a.getD 4 d0).ii - (((a.getD 0 d0).ss).length : Int))) - (((a.getD 1 d0).ss).length : Int))) < (0 : Int))) = true then
 .ret [.i (-1 : Int)]
 else
 (r_laws_szDirS [.sl ((a.getD 2 d0).ll), .i (IntKind.i64.wrap ((IntKind.i64.wrap ((a.getD 4 d0).ii - (((a.getD 0 d0).ss).length : Int))) - (((a.getD 1 d0).ss).length : Int)))]).bindR fun r1 =>
 if (decide ((r1.getD 0 d0).ii < (0 : Int))) = true then
 .ret [.i (-1 : Int)]
 else
 (r_laws_szSelS [.sl ((a.getD 3 d0).ll), .i ((r1.getD 0 d0).ii)]).bindR fun r2 =>
 if (decide ((r2.getD 0 d0).ii < (0 : Int))) = true then
 .ret [.i (-1 : Int)]
 else
 .ret [.i ((r2.getD 0 d0).ii)]
theorem eq_laws_szFrag a : r_laws_szFrag a = E_laws_szFrag a := (Run_eq cfg 4 _ a).trans (by kernel_rfl)
noncomputable def E_laws_toFrag (a : List DC) : Out :=
 (r_laws_toDirS [.sl ((a.getD 2 d0).ll)]).bindR fun r1 =>
 (r_laws_toSelS [.sl ((a.getD 3 d0).ll)]).bindR fun r2 =>
 .ret [.s ((a.getD 0 d0).ss), .s ((a.getD 1 d0).ss), .sl ((r1.getD 0 d0).ll), .sl ((r2.getD 0 d0).ll)]
theorem eq_laws_toFrag a : r_laws_toFrag a = E_laws_toFrag a := (Run_eq cfg 6 _ a).trans (by kernel_rfl)
noncomputable def E_spec_FragText (a : List DC) : Out :=
 (r_spec_FragOk [.s ((a.getD 0 d0).ss), .s ((a.getD 1 d0).ss), .sl ((a.getD 2 d0).ll), .sl ((a.getD 3 d0).ll)]).bindR fun r1 =>
 if (!((r1.getD 0 d0).bb)) = true then
 .ret [.s ([] : List UInt8)]
 else
 if ([102, 114, 97, 103, 109, 101, 110, 116, 32] : List UInt8).length + ((a.getD 0 d0).ss).length < LIM then
 if (([102, 114, 97, 103, 109, 101, 110, 116, 32] : List UInt8) ++ ((a.getD 0 d0).ss)).length + ([32, 111, 110, 32] : List UInt8).length < LIM then
 if ((([102, 114, 97, 103, 109, 101, 110, 116, 32] : List UInt8) ++ ((a.getD 0 d0).ss)) ++ ([32, 111, 110, 32] : List UInt8)).length + ((a.getD 1 d0).ss).length < LIM then
 if (((([102, 114, 97, 103, 109, 101, 110, 116, 32] : List UInt8) ++ ((a.getD 0 d0).ss)) ++ ([32, 111, 110, 32] : List UInt8)) ++ ((a.getD 1 d0).ss)).length < LIM then
 (r_spec_l10SayDirs [.sl (bytesRow (((([102, 114, 97, 103, 109, 101, 110, 116, 32] : List UInt8) ++ ((a.getD 0 d0).ss)) ++ ([32, 111, 110, 32] : List UInt8)) ++ ((a.getD 1 d0).ss))), .sl ((a.getD 2 d0).ll)]).bindR fun r2 =>
 (r_spec_l11Block [.sl ((r2.getD 0 d0).ll), .sl ((a.getD 3 d0).ll), .i (0 : Int)]).bindR fun r3 =>
 if ((r3.getD 0 d0).ll).length + [[DC.i (10 : Int)]].length < LIM then
 .ret [.s (rowBytes (((r3.getD 0 d0).ll) ++ [[DC.i (10 : Int)]]))]
 else
 .fail
 else
 .fail
 else
 .fail
 else
 .fail
 else
 .fail
theorem eq_spec_FragText a : r_spec_FragText a = E_spec_FragText a := (Run_eq cfg 5 _ a).trans (by kernel_rfl)
noncomputable def E_impl_FragText (a : List DC) : Out :=
 (r_impl_FragOk [.s ((a.getD 0 d0).ss), .s ((a.getD 1 d0).ss), .sl ((a.getD 2 d0).ll), .sl ((a.getD 3 d0).ll)]).bindR fun r1 =>
 if (!((r1.getD 0 d0).bb)) = true then
 .ret [.s ([] : List UInt8)]
 else
 if ([102, 114, 97, 103, 109, 101, 110, 116, 32] : List UInt8).length + ((a.getD 0 d0).ss).length < LIM then
 if (([102, 114, 97, 103, 109, 101, 110, 116, 32] : List UInt8) ++ ((a.getD 0 d0).ss)).length + ([32, 111, 110, 32] : List UInt8).length < LIM then
 if ((([102, 114, 97, 103, 109, 101, 110, 116, 32] : List UInt8) ++ ((a.getD 0 d0).ss)) ++ ([32, 111, 110, 32] : List UInt8)).length + ((a.getD 1 d0).ss).length < LIM then
 (r_impl_DirsText [.sl ((a.getD 2 d0).ll)]).bindR fun r2 =>
 if (((([102, 114, 97, 103, 109, 101, 110, 116, 32] : List UInt8) ++ ((a.getD 0 d0).ss)) ++ ([32, 111, 110, 32] : List UInt8)) ++ ((a.getD 1 d0).ss)).length + ((r2.getD 0 d0).ss).length < LIM then
 if ((((([102, 114, 97, 103, 109, 101, 110, 116, 32] : List UInt8) ++ ((a.getD 0 d0).ss)) ++ ([32, 111, 110, 32] : List UInt8)) ++ ((a.getD 1 d0).ss)) ++ ((r2.getD 0 d0).ss)).length + ([32] : List UInt8).length < LIM then
 (r_impl_bodyText [.sl ((a.getD 3 d0).ll)]).bindR fun r3 =>
 if (((((([102, 114, 97, 103, 109, 101, 110, 116, 32] : List UInt8) ++ ((a.getD 0 d0).ss)) ++ ([32, 111, 110, 32] : List UInt8)) ++ ((a.getD 1 d0).ss)) ++ ((r2.getD 0 d0).ss)) ++ ([32] : List UInt8)).length + ((r3.getD 0 d0).ss).length < LIM then
 .ret [.s ((((((([102, 114, 97, 103, 109, 101, 110, 116, 32] : List UInt8) ++ ((a.getD 0 d0).ss)) ++ ([32, 111, 110, 32] : List UInt8)) ++ ((a.getD 1 d0).ss)) ++ ((r2.getD 0 d0).ss)) ++ ([32] : List UInt8)) ++ ((r3.getD 0 d0).ss))]
 else
 .fail
 else
 .fail
 else
 .fail
 else
 .fail
 else
 .fail
 else
 .fail
theorem eq_impl_FragText a : r_impl_FragText a = E_impl_FragText a := (Run_eq cfg 7 _ a).trans (by kernel_rfl)
noncomputable def E_laws_eqFrag (a : List DC) : Out :=
 if (!((a.getD 0 d0).ss == (a.getD 4 d0).ss)) = true then
 .ret [.b false]
 else
 if (!((a.getD 1 d0).ss == (a.getD 5 d0).ss)) = true then
 .ret [.b false]
 else
 (r_laws_eqDirS [.sl ((a.getD 2 d0).ll), .sl ((a.getD 6 d0).ll)]).bindR fun r1 =>
 if (!((r1.getD 0 d0).bb)) = true then
 .ret [.b false]
 else
 (r_laws_eqSelS [.sl ((a.getD 3 d0).ll), .sl ((a.getD 7 d0).ll)]).bindR fun r2 =>
 if (!((r2.getD 0 d0).bb)) = true then
 .ret [.b false]
 else
 .ret [.b true]
theorem eq_laws_eqFrag a : r_laws_eqFrag a = E_laws_eqFrag a := (Run_eq cfg 8 _ a).trans (by kernel_rfl)
noncomputable def E_laws_szDirSL1 : List DC → Out := fun v1 =>
 if (decide ((v1.getD 2 d0).ii < (((v1.getD 0 d0).ll).length : Int))) = true then
 Out.andThenB (if 50 = 50 ∧ 0 ≤ (v1.getD 2 d0).ii ∧ (v1.getD 2 d0).ii < (((v1.getD 0 d0).ll).length : Int) then
 (r_laws_szDir [.s (((((v1.getD 0 d0).ll).getD ((v1.getD 2 d0).ii).toNat []).getD 0 d0).ss), .sl (((((v1.getD 0 d0).ll).getD ((v1.getD 2 d0).ii).toNat []).getD 1 d0).ll), .i ((v1.getD 1 d0).ii)]).bindR fun r2 =>
 if (decide ((r2.getD 0 d0).ii < (0 : Int))) = true then
 .ret [.i (-1 : Int)]
 else
 .norm [.sl ((v1.getD 0 d0).ll), .i ((r2.getD 0 d0).ii), .i ((v1.getD 2 d0).ii)]
 else
 .fail) 1 fun v3 =>
 .norm [.sl ((v3.getD 0 d0).ll), .i ((v3.getD 1 d0).ii), .i (IntKind.i64.wrap ((v3.getD 2 d0).ii + (1 : Int)))]
 else
 .ex 0 [.i ((v1.getD 1 d0).ii)]
noncomputable def E_laws_szDirS (a : List DC) : Out :=
 if (decide ((IntKind.i64.wrap ((a.getD 1 d0).ii - (((a.getD 0 d0).ll).length : Int))) < (0 : Int))) = true then
 .ret [.i (-1 : Int)]
 else
 Out.andThenB (Loop E_laws_szDirSL1 [.sl ((a.getD 0 d0).ll), .i (IntKind.i64.wrap ((a.getD 1 d0).ii - (((a.getD 0 d0).ll).length : Int))), .i (0 : Int)]) 0 fun v4 =>
 .ret [.i ((v4.getD 0 d0).ii)]
theorem eq_laws_szDirS a : r_laws_szDirS a = E_laws_szDirS a := (Run_eq cfg 9 _ a).trans (by kernel_rfl)
noncomputable def E_laws_szSelSL1 : List DC → Out := fun v1 =>
 if (decide ((v1.getD 2 d0).ii < (((v1.getD 0 d0).ll).length : Int))) = true then
 Out.andThenB (if 53 = 53 ∧ 0 ≤ (v1.getD 2 d0).ii ∧ (v1.getD 2 d0).ii < (((v1.getD 0 d0).ll).length : Int) then
 (r_laws_szSel [.i (((((v1.getD 0 d0).ll).getD ((v1.getD 2 d0).ii).toNat []).getD 0 d0).ii), .s (((((v1.getD 0 d0).ll).getD ((v1.getD 2 d0).ii).toNat []).getD 1 d0).ss), .s (((((v1.getD 0 d0).ll).getD ((v1.getD 2 d0).ii).toNat []).getD 2 d0).ss), .s (((((v1.getD 0 d0).ll).getD ((v1.getD 2 d0).ii).toNat []).getD 3 d0).ss), .sl (((((v1.getD 0 d0).ll).getD ((v1.getD 2 d0).ii).toNat []).getD 4 d0).ll), .sl (((((v1.getD 0 d0).ll).getD ((v1.getD 2 d0).ii).toNat []).getD 5 d0).ll), .sl (((((v1.getD 0 d0).ll).getD ((v1.getD 2 d0).ii).toNat []).getD 6 d0).ll), .i ((v1.getD 1 d0).ii)]).bindR fun r2 =>
 if (decide ((r2.getD 0 d0).ii < (0 : Int))) = true then
 .ret [.i (-1 : Int)]
 else
 .norm [.sl ((v1.getD 0 d0).ll), .i ((r2.getD 0 d0).ii), .i ((v1.getD 2 d0).ii)]
 else
 .fail) 1 fun v3 =>
 .norm [.sl ((v3.getD 0 d0).ll), .i ((v3.getD 1 d0).ii), .i (IntKind.i64.wrap ((v3.getD 2 d0).ii + (1 : Int)))]
 else
 .ex 0 [.i ((v1.getD 1 d0).ii)]
noncomputable def E_laws_szSelS (a : List DC) : Out :=
 if (decide ((IntKind.i64.wrap ((a.getD 1 d0).ii - (((a.getD 0 d0).ll).length : Int))) < (0 : Int))) = true then
 .ret [.i (-1 : Int)]
 else
 Out.andThenB (Loop E_laws_szSelSL1 [.sl ((a.getD 0 d0).ll), .i (IntKind.i64.wrap ((a.getD 1 d0).ii - (((a.getD 0 d0).ll).length : Int))), .i (0 : Int)]) 0 fun v4 =>
 .ret [.i ((v4.getD 0 d0).ii)]
theorem eq_laws_szSelS a : r_laws_szSelS a = E_laws_szSelS a := (Run_eq cfg 10 _ a).trans (by kernel_rfl)
noncomputable def E_laws_toDirSL1 : List DC → Out := fun v1 =>
 if (decide ((v1.getD 2 d0).ii < (((v1.getD 0 d0).ll).length : Int))) = true then
 Out.andThenB (if 50 = 50 ∧ 0 ≤ (v1.getD 2 d0).ii ∧ (v1.getD 2 d0).ii < (((v1.getD 0 d0).ll).length : Int) then
 (r_laws_toDir [.s (((((v1.getD 0 d0).ll).getD ((v1.getD 2 d0).ii).toNat []).getD 0 d0).ss), .sl (((((v1.getD 0 d0).ll).getD ((v1.getD 2 d0).ii).toNat []).getD 1 d0).ll)]).bindR fun r2 =>
 if 59 = 59 ∧ 0 ≤ (v1.getD 2 d0).ii ∧ (v1.getD 2 d0).ii < (((v1.getD 1 d0).ll).length : Int) then
 .norm [.sl ((v1.getD 0 d0).ll), .sl (((v1.getD 1 d0).ll).set (((v1.getD 2 d0).ii).toNat) (setRunD (((v1.getD 1 d0).ll).getD (((v1.getD 2 d0).ii).toNat) []) 0 [DC.s ((r2.getD 0 d0).ss), DC.sl ((r2.getD 1 d0).ll)])), .i ((v1.getD 2 d0).ii)]
 else
 .fail
 else
 .fail) 1 fun v3 =>
 .norm [.sl ((v3.getD 0 d0).ll), .sl ((v3.getD 1 d0).ll), .i (IntKind.i64.wrap ((v3.getD 2 d0).ii + (1 : Int)))]
 else
 .ex 0 [.sl ((v1.getD 1 d0).ll)]
noncomputable def E_laws_toDirS (a : List DC) : Out :=
 if 0 ≤ (((a.getD 0 d0).ll).length : Int) ∧ (((a.getD 0 d0).ll).length : Int) < (LIM : Int) ∧ (((a.getD 0 d0).ll).length : Int) = (((a.getD 0 d0).ll).length : Int) ∧ 40 ≤ 1024 ∧ 0 < 2 then
 Out.andThenB (Loop E_laws_toDirSL1 [.sl ((a.getD 0 d0).ll), .sl (List.replicate (((a.getD 0 d0).ll).length : Int).toNat [DC.s [], DC.sl []]), .i (0 : Int)]) 0 fun v4 =>
 .ret [.sl ((v4.getD 0 d0).ll)]
 else
 .fail
theorem eq_laws_toDirS a : r_laws_toDirS a = E_laws_toDirS a := (Run_eq cfg 14 _ a).trans (by kernel_rfl)
noncomputable def E_laws_toSelSL1 : List DC → Out := fun v1 =>
 if (decide ((v1.getD 2 d0).ii < (((v1.getD 0 d0).ll).length : Int))) = true then
 Out.andThenB (if 53 = 53 ∧ 0 ≤ (v1.getD 2 d0).ii ∧ (v1.getD 2 d0).ii < (((v1.getD 0 d0).ll).length : Int) then
 (r_laws_toSel [.i (((((v1.getD 0 d0).ll).getD ((v1.getD 2 d0).ii).toNat []).getD 0 d0).ii), .s (((((v1.getD 0 d0).ll).getD ((v1.getD 2 d0).ii).toNat []).getD 1 d0).ss), .s (((((v1.getD 0 d0).ll).getD ((v1.getD 2 d0).ii).toNat []).getD 2 d0).ss), .s (((((v1.getD 0 d0).ll).getD ((v1.getD 2 d0).ii).toNat []).getD 3 d0).ss), .sl (((((v1.getD 0 d0).ll).getD ((v1.getD 2 d0).ii).toNat []).getD 4 d0).ll), .sl (((((v1.getD 0 d0).ll).getD ((v1.getD 2 d0).ii).toNat []).getD 5 d0).ll), .sl (((((v1.getD 0 d0).ll).getD ((v1.getD 2 d0).ii).toNat []).getD 6 d0).ll)]).bindR fun r2 =>
 if 64 = 64 ∧ 0 ≤ (v1.getD 2 d0).ii ∧ (v1.getD 2 d0).ii < (((v1.getD 1 d0).ll).length : Int) then
 .norm [.sl ((v1.getD 0 d0).ll), .sl (((v1.getD 1 d0).ll).set (((v1.getD 2 d0).ii).toNat) (setRunD (((v1.getD 1 d0).ll).getD (((v1.getD 2 d0).ii).toNat) []) 0 [DC.i ((r2.getD 0 d0).ii), DC.s ((r2.getD 1 d0).ss), DC.s ((r2.getD 2 d0).ss), DC.s ((r2.getD 3 d0).ss), DC.sl ((r2.getD 4 d0).ll), DC.sl ((r2.getD 5 d0).ll), DC.sl ((r2.getD 6 d0).ll)])), .i ((v1.getD 2 d0).ii)]
 else
 .fail
 else
 .fail) 1 fun v3 =>
 .norm [.sl ((v3.getD 0 d0).ll), .sl ((v3.getD 1 d0).ll), .i (IntKind.i64.wrap ((v3.getD 2 d0).ii + (1 : Int)))]
 else
 .ex 0 [.sl ((v1.getD 1 d0).ll)]
noncomputable def E_laws_toSelS (a : List DC) : Out :=
 if 0 ≤ (((a.getD 0 d0).ll).length : Int) ∧ (((a.getD 0 d0).ll).length : Int) < (LIM : Int) ∧ (((a.getD 0 d0).ll).length : Int) = (((a.getD 0 d0).ll).length : Int) ∧ 128 ≤ 1024 ∧ 0 < 7 then
 Out.andThenB (Loop E_laws_toSelSL1 [.sl ((a.getD 0 d0).ll), .sl (List.replicate (((a.getD 0 d0).ll).length : Int).toNat [DC.i 0, DC.s [], DC.s [], DC.s [], DC.sl [], DC.sl [], DC.sl []]), .i (0 : Int)]) 0 fun v4 =>
 .ret [.sl ((v4.getD 0 d0).ll)]
 else
 .fail
theorem eq_laws_toSelS a : r_laws_toSelS a = E_laws_toSelS a := (Run_eq cfg 15 _ a).trans (by kernel_rfl)
noncomputable def E_spec_FragOk (a : List DC) : Out :=
 Out.andThen ((r_spec_NameOk [.s ((a.getD 0 d0).ss)]).bindR fun r1 =>
 if (r1.getD 0 d0).bb = true then
 if (!((a.getD 0 d0).ss == ([111, 110] : List UInt8))) = true then
 (r_spec_NameOk [.s ((a.getD 1 d0).ss)]).bindR fun r2 =>
 if (r2.getD 0 d0).bb = true then
 (r_spec_DirsOk [.sl ((a.getD 2 d0).ll)]).bindR fun r3 =>
 if (r3.getD 0 d0).bb = true then
 if (decide ((((a.getD 3 d0).ll).length : Int) > (0 : Int))) = true then
 (r_spec_l11Ok [.sl ((a.getD 3 d0).ll)]).bindR fun r4 =>
 .norm [.b ((r4.getD 0 d0).bb)]
 else
 .norm [.b false]
 else
 .norm [.b false]
 else
 .norm [.b false]
 else
 .norm [.b false]
 else
 .norm [.b false]) fun v5 =>
 .ret [.b ((v5.getD 0 d0).bb)]
theorem eq_spec_FragOk a : r_spec_FragOk a = E_spec_FragOk a := (Run_eq cfg 11 _ a).trans (by kernel_rfl)
noncomputable def E_spec_l10SayDirsL1 : List DC → Out := fun v1 =>
 if (decide ((v1.getD 2 d0).ii < (((v1.getD 1 d0).ll).length : Int))) = true then
 Out.andThenB (if ((v1.getD 0 d0).ll).length + [[DC.i (32 : Int)], [DC.i (64 : Int)]].length < LIM then
 if 59 = 59 ∧ 0 ≤ (v1.getD 2 d0).ii ∧ (v1.getD 2 d0).ii < (((v1.getD 1 d0).ll).length : Int) then
 if (((v1.getD 0 d0).ll) ++ [[DC.i (32 : Int)], [DC.i (64 : Int)]]).length + (bytesRow (((((v1.getD 1 d0).ll).getD ((v1.getD 2 d0).ii).toNat []).getD 0 d0).ss)).length < LIM then
 if 59 = 59 ∧ 0 ≤ (v1.getD 2 d0).ii ∧ (v1.getD 2 d0).ii < (((v1.getD 1 d0).ll).length : Int) then
 (r_spec_l10Say [.sl ((((v1.getD 0 d0).ll) ++ [[DC.i (32 : Int)], [DC.i (64 : Int)]]) ++ (bytesRow (((((v1.getD 1 d0).ll).getD ((v1.getD 2 d0).ii).toNat []).getD 0 d0).ss))), .sl (((((v1.getD 1 d0).ll).getD ((v1.getD 2 d0).ii).toNat []).getD 1 d0).ll)]).bindR fun r2 =>
 .norm [.sl ((r2.getD 0 d0).ll), .sl ((v1.getD 1 d0).ll), .i ((v1.getD 2 d0).ii)]
 else
 .fail
 else
 .fail
 else
 .fail
 else
 .fail) 1 fun v3 =>
 .norm [.sl ((v3.getD 0 d0).ll), .sl ((v3.getD 1 d0).ll), .i (IntKind.i64.wrap ((v3.getD 2 d0).ii + (1 : Int)))]
 else
 .ex 0 [.sl ((v1.getD 0 d0).ll)]
noncomputable def E_spec_l10SayDirs (a : List DC) : Out :=
 Out.andThenB (Loop E_spec_l10SayDirsL1 [.sl ((a.getD 0 d0).ll), .sl ((a.getD 1 d0).ll), .i (0 : Int)]) 0 fun v4 =>
 .ret [.sl ((v4.getD 0 d0).ll)]
theorem eq_spec_l10SayDirs a : r_spec_l10SayDirs a = E_spec_l10SayDirs a := (Run_eq cfg 12 _ a).trans (by kernel_rfl)
noncomputable def E_spec_l11Block (a : List DC) : Out :=
 if ((a.getD 0 d0).ll).length + [[DC.i (32 : Int)], [DC.i (123 : Int)], [DC.i (10 : Int)]].length < LIM then
 (r_spec_l11Say [.sl (((a.getD 0 d0).ll) ++ [[DC.i (32 : Int)], [DC.i (123 : Int)], [DC.i (10 : Int)]]), .sl ((a.getD 1 d0).ll), .i (IntKind.i64.wrap ((a.getD 2 d0).ii + (1 : Int)))]).bindR fun r1 =>
 (r_spec_l11Blanks [.sl ((r1.getD 0 d0).ll), .i ((a.getD 2 d0).ii)]).bindR fun r2 =>
 if ((r2.getD 0 d0).ll).length + [[DC.i (125 : Int)]].length < LIM then
 .ret [.sl (((r2.getD 0 d0).ll) ++ [[DC.i (125 : Int)]])]
 else
 .fail
 else
 .fail
theorem eq_spec_l11Block a : r_spec_l11Block a = E_spec_l11Block a := (Run_eq cfg 13 _ a).trans (by kernel_rfl)
noncomputable def E_impl_FragOk (a : List DC) : Out :=
 Out.andThen ((r_impl_NameOk [.s ((a.getD 0 d0).ss)]).bindR fun r1 =>
 if (r1.getD 0 d0).bb = true then
 if (!((a.getD 0 d0).ss == ([111, 110] : List UInt8))) = true then
 (r_impl_NameOk [.s ((a.getD 1 d0).ss)]).bindR fun r2 =>
 if (r2.getD 0 d0).bb = true then
 (r_impl_DirsOk [.sl ((a.getD 2 d0).ll)]).bindR fun r3 =>
 if (r3.getD 0 d0).bb = true then
 (r_impl_selsOk [.sl ((a.getD 3 d0).ll)]).bindR fun r4 =>
 .norm [.b ((r4.getD 0 d0).bb)]
 else
 .norm [.b false]
 else
 .norm [.b false]
 else
 .norm [.b false]
 else
 .norm [.b false]) fun v5 =>
 .ret [.b ((v5.getD 0 d0).bb)]
theorem eq_impl_FragOk a : r_impl_FragOk a = E_impl_FragOk a := (Run_eq cfg 16 _ a).trans (by kernel_rfl)
noncomputable def E_impl_DirsTextL1 : List DC → Out := fun v2 =>
 if (decide ((v2.getD 3 d0).ii < (v2.getD 2 d0).ii)) = true then
 Out.andThenB (if 59 = 59 ∧ 0 ≤ (v2.getD 3 d0).ii ∧ (v2.getD 3 d0).ii < (((v2.getD 1 d0).ll).length : Int) then
 if ([32, 64] : List UInt8).length + (((((v2.getD 1 d0).ll).getD ((v2.getD 3 d0).ii).toNat []).getD 0 d0).ss).length < LIM then
 (r_impl_ArgsText [.sl (((((v2.getD 1 d0).ll).getD ((v2.getD 3 d0).ii).toNat []).getD 1 d0).ll)]).bindR fun r3 =>
 if (([32, 64] : List UInt8) ++ (((((v2.getD 1 d0).ll).getD ((v2.getD 3 d0).ii).toNat []).getD 0 d0).ss)).length + ((r3.getD 0 d0).ss).length < LIM then
 if ((v2.getD 0 d0).ss).length + ((([32, 64] : List UInt8) ++ (((((v2.getD 1 d0).ll).getD ((v2.getD 3 d0).ii).toNat []).getD 0 d0).ss)) ++ ((r3.getD 0 d0).ss)).length < LIM then
 .norm [.s (((v2.getD 0 d0).ss) ++ ((([32, 64] : List UInt8) ++ (((((v2.getD 1 d0).ll).getD ((v2.getD 3 d0).ii).toNat []).getD 0 d0).ss)) ++ ((r3.getD 0 d0).ss))), .sl ((v2.getD 1 d0).ll), .i ((v2.getD 2 d0).ii), .i ((v2.getD 3 d0).ii)]
 else
 .fail
 else
 .fail
 else
 .fail
 else
 .fail) 1 fun v4 =>
 .norm [.s ((v4.getD 0 d0).ss), .sl ((v4.getD 1 d0).ll), .i ((v4.getD 2 d0).ii), .i (IntKind.i64.wrap ((v4.getD 3 d0).ii + (1 : Int)))]
 else
 .ex 0 [.s ((v2.getD 0 d0).ss)]
noncomputable def E_impl_DirsText (a : List DC) : Out :=
 (r_impl_DirsOk [.sl ((a.getD 0 d0).ll)]).bindR fun r1 =>
 if (!((r1.getD 0 d0).bb)) = true then
 .ret [.s ([] : List UInt8)]
 else
 Out.andThenB (Loop E_impl_DirsTextL1 [.s ([] : List UInt8), .sl ((a.getD 0 d0).ll), .i (((a.getD 0 d0).ll).length : Int), .i (0 : Int)]) 0 fun v5 =>
 .ret [.s ((v5.getD 0 d0).ss)]
theorem eq_impl_DirsText a : r_impl_DirsText a = E_impl_DirsText a := (Run_eq cfg 17 _ a).trans (by kernel_rfl)
noncomputable def E_impl_bodyText (a : List DC) : Out :=
 (r_impl_SelsText [.sl ((a.getD 0 d0).ll), .i (1 : Int)]).bindR fun r1 =>
 if ([123, 10] : List UInt8).length + ((r1.getD 0 d0).ss).length < LIM then
 if (([123, 10] : List UInt8) ++ ((r1.getD 0 d0).ss)).length + ([125, 10] : List UInt8).length < LIM then
 .ret [.s ((([123, 10] : List UInt8) ++ ((r1.getD 0 d0).ss)) ++ ([125, 10] : List UInt8))]
 else
 .fail
 else
 .fail
theorem eq_impl_bodyText a : r_impl_bodyText a = E_impl_bodyText a := (Run_eq cfg 18 _ a).trans (by kernel_rfl)
noncomputable def E_laws_eqDirSL1 : List DC → Out := fun v1 =>
 if (decide ((v1.getD 2 d0).ii < (((v1.getD 0 d0).ll).length : Int))) = true then
 Out.andThenB (if 59 = 59 ∧ 0 ≤ (v1.getD 2 d0).ii ∧ (v1.getD 2 d0).ii < (((v1.getD 0 d0).ll).length : Int) then
 if 59 = 59 ∧ 0 ≤ (v1.getD 2 d0).ii ∧ (v1.getD 2 d0).ii < (((v1.getD 1 d0).ll).length : Int) then
 (r_laws_eqDir [.s (((((v1.getD 0 d0).ll).getD ((v1.getD 2 d0).ii).toNat []).getD 0 d0).ss), .sl (((((v1.getD 0 d0).ll).getD ((v1.getD 2 d0).ii).toNat []).getD 1 d0).ll), .s (((((v1.getD 1 d0).ll).getD ((v1.getD 2 d0).ii).toNat []).getD 0 d0).ss), .sl (((((v1.getD 1 d0).ll).getD ((v1.getD 2 d0).ii).toNat []).getD 1 d0).ll)]).bindR fun r2 =>
 if (!((r2.getD 0 d0).bb)) = true then
 .ret [.b false]
 else
 .norm [.sl ((v1.getD 0 d0).ll), .sl ((v1.getD 1 d0).ll), .i ((v1.getD 2 d0).ii)]
 else
 .fail
 else
 .fail) 1 fun v3 =>
 .norm [.sl ((v3.getD 0 d0).ll), .sl ((v3.getD 1 d0).ll), .i (IntKind.i64.wrap ((v3.getD 2 d0).ii + (1 : Int)))]
 else
 .ex 0 []
noncomputable def E_laws_eqDirS (a : List DC) : Out :=
 if ((((a.getD 0 d0).ll).length : Int) != (((a.getD 1 d0).ll).length : Int)) = true then
 .ret [.b false]
 else
 Out.andThenB (Loop E_laws_eqDirSL1 [.sl ((a.getD 0 d0).ll), .sl ((a.getD 1 d0).ll), .i (0 : Int)]) 0 fun v4 =>
 .ret [.b true]
theorem eq_laws_eqDirS a : r_laws_eqDirS a = E_laws_eqDirS a := (Run_eq cfg 19 _ a).trans (by kernel_rfl)
noncomputable def E_laws_eqSelSL1 : List DC → Out := fun v1 =>
 if (decide ((v1.getD 2 d0).ii < (((v1.getD 0 d0).ll).length : Int))) = true then
 Out.andThenB (if 64 = 64 ∧ 0 ≤ (v1.getD 2 d0).ii ∧ (v1.getD 2 d0).ii < (((v1.getD 0 d0).ll).length : Int) then
 if 64 = 64 ∧ 0 ≤ (v1.getD 2 d0).ii ∧ (v1.getD 2 d0).ii < (((v1.getD 1 d0).ll).length : Int) then
 (r_laws_eqSel [.i (((((v1.getD 0 d0).ll).getD ((v1.getD 2 d0).ii).toNat []).getD 0 d0).ii), .s (((((v1.getD 0 d0).ll).getD ((v1.getD 2 d0).ii).toNat []).getD 1 d0).ss), .s (((((v1.getD 0 d0).ll).getD ((v1.getD 2 d0).ii).toNat []).getD 2 d0).ss), .s (((((v1.getD 0 d0).ll).getD ((v1.getD 2 d0).ii).toNat []).getD 3 d0).ss), .sl (((((v1.getD 0 d0).ll).getD ((v1.getD 2 d0).ii).toNat []).getD 4 d0).ll), .sl (((((v1.getD 0 d0).ll).getD ((v1.getD 2 d0).ii).toNat []).getD 5 d0).ll), .sl (((((v1.getD 0 d0).ll).getD ((v1.getD 2 d0).ii).toNat []).getD 6 d0).ll), .i (((((v1.getD 1 d0).ll).getD ((v1.getD 2 d0).ii).toNat []).getD 0 d0).ii), .s (((((v1.getD 1 d0).ll).getD ((v1.getD 2 d0).ii).toNat []).getD 1 d0).ss), .s (((((v1.getD 1 d0).ll).getD ((v1.getD 2 d0).ii).toNat []).getD 2 d0).ss), .s (((((v1.getD 1 d0).ll).getD ((v1.getD 2 d0).ii).toNat []).getD 3 d0).ss), .sl (((((v1.getD 1 d0).ll).getD ((v1.getD 2 d0).ii).toNat []).getD 4 d0).ll), .sl (((((v1.getD 1 d0).ll).getD ((v1.getD 2 d0).ii).toNat []).getD 5 d0).ll), .sl (((((v1.getD 1 d0).ll).getD ((v1.getD 2 d0).ii).toNat []).getD 6 d0).ll)]).bindR fun r2 =>
 if (!((r2.getD 0 d0).bb)) = true then
 .ret [.b false]
 else
 .norm [.sl ((v1.getD 0 d0).ll), .sl ((v1.getD 1 d0).ll), .i ((v1.getD 2 d0).ii)]
 else
 .fail
 else
 .fail) 1 fun v3 =>
 .norm [.sl ((v3.getD 0 d0).ll), .sl ((v3.getD 1 d0).ll), .i (IntKind.i64.wrap ((v3.getD 2 d0).ii + (1 : Int)))]
 else
 .ex 0 []
noncomputable def E_laws_eqSelS (a : List DC) : Out :=
 if ((((a.getD 0 d0).ll).length : Int) != (((a.getD 1 d0).ll).length : Int)) = true then
 .ret [.b false]
 else
 Out.andThenB (Loop E_laws_eqSelSL1 [.sl ((a.getD 0 d0).ll), .sl ((a.getD 1 d0).ll), .i (0 : Int)]) 0 fun v4 =>
 .ret [.b true]
theorem eq_laws_eqSelS a : r_laws_eqSelS a = E_laws_eqSelS a := (Run_eq cfg 20 _ a).trans (by kernel_rfl)
noncomputable def E_laws_szDir (a : List DC) : Out :=
 if (decide ((IntKind.i64.wrap ((a.getD 2 d0).ii - (((a.getD 0 d0).ss).length : Int))) < (0 : Int))) = true then
 .ret [.i (-1 : Int)]
 else
 (r_laws_szArgS [.sl ((a.getD 1 d0).ll), .i (IntKind.i64.wrap ((a.getD 2 d0).ii - (((a.getD 0 d0).ss).length : Int)))]).bindR fun r1 =>
 if (decide ((r1.getD 0 d0).ii < (0 : Int))) = true then
 .ret [.i (-1 : Int)]
 else
 .ret [.i ((r1.getD 0 d0).ii)]
theorem eq_laws_szDir a : r_laws_szDir a = E_laws_szDir a := (Run_eq cfg 21 _ a).trans (by kernel_rfl)
noncomputable def E_laws_szSel (a : List DC) : Out :=
 if (decide ((IntKind.i64.wrap ((a.getD 7 d0).ii - (((a.getD 1 d0).ss).length : Int))) < (0 : Int))) = true then
 .ret [.i (-1 : Int)]
 else
 if (decide ((IntKind.i64.wrap ((IntKind.i64.wrap ((a.getD 7 d0).ii - (((a.getD 1 d0).ss).length : Int))) - (((a.getD 2 d0).ss).length : Int))) < (0 : Int))) = true then
 .ret [.i (-1 : Int)]
 else
 if (decide ((IntKind.i64.wrap ((IntKind.i64.wrap ((IntKind.i64.wrap ((a.getD 7 d0).ii - (((a.getD 1 d0).ss).length : Int))) - (((a.getD 2 d0).ss).length : Int))) - (((a.getD 3 d0).ss).length : Int))) < (0 : Int))) = true then
 .ret [.i (-1 : Int)]
 else
 (r_laws_szArgS [.sl ((a.getD 4 d0).ll), .i (IntKind.i64.wrap ((IntKind.i64.wrap ((IntKind.i64.wrap ((a.getD 7 d0).ii - (((a.getD 1 d0).ss).length : Int))) - (((a.getD 2 d0).ss).length : Int))) - (((a.getD 3 d0).ss).length : Int)))]).bindR fun r1 =>
 if (decide ((r1.getD 0 d0).ii < (0 : Int))) = true then
 .ret [.i (-1 : Int)]
 else
 (r_laws_szDirS [.sl ((a.getD 5 d0).ll), .i ((r1.getD 0 d0).ii)]).bindR fun r2 =>
 if (decide ((r2.getD 0 d0).ii < (0 : Int))) = true then
 .ret [.i (-1 : Int)]
 else
 (r_laws_szSelS [.sl ((a.getD 6 d0).ll), .i ((r2.getD 0 d0).ii)]).bindR fun r3 =>
 if (decide ((r3.getD 0 d0).ii < (0 : Int))) = true then
 .ret [.i (-1 : Int)]
 else
 .ret [.i ((r3.getD 0 d0).ii)]
theorem eq_laws_szSel a : r_laws_szSel a = E_laws_szSel a := (Run_eq cfg 22 _ a).trans (by kernel_rfl)
noncomputable def E_laws_toDir (a : List DC) : Out :=
 (r_laws_toArgS [.sl ((a.getD 1 d0).ll)]).bindR fun r1 =>
 .ret [.s ((a.getD 0 d0).ss), .sl ((r1.getD 0 d0).ll)]
theorem eq_laws_toDir a : r_laws_toDir a = E_laws_toDir a := (Run_eq cfg 29 _ a).trans (by kernel_rfl)
noncomputable def E_laws_toSel (a : List DC) : Out :=
 (r_laws_toArgS [.sl ((a.getD 4 d0).ll)]).bindR fun r1 =>
 (r_laws_toDirS [.sl ((a.getD 5 d0).ll)]).bindR fun r2 =>
 (r_laws_toSelS [.sl ((a.getD 6 d0).ll)]).bindR fun r3 =>
 .ret [.i ((a.getD 0 d0).ii), .s ((a.getD 1 d0).ss), .s ((a.getD 2 d0).ss), .s ((a.getD 3 d0).ss), .sl ((r1.getD 0 d0).ll), .sl ((r2.getD 0 d0).ll), .sl ((r3.getD 0 d0).ll)]
theorem eq_laws_toSel a : r_laws_toSel a = E_laws_toSel a := (Run_eq cfg 30 _ a).trans (by kernel_rfl)
noncomputable def E_spec_NameOkL1 : List DC → Out := fun v3 =>
 if (decide ((v3.getD 1 d0).ii < (((v3.getD 0 d0).ss).length : Int))) = true then
 Out.andThenB (Out.andThen (if 0 ≤ (v3.getD 1 d0).ii ∧ (v3.getD 1 d0).ii < (((v3.getD 0 d0).ss).length : Int) then
 (r_spec_l03Letter [.i ((((v3.getD 0 d0).ss).getD ((v3.getD 1 d0).ii).toNat 0).toNat : Int)]).bindR fun r4 =>
 if (!((r4.getD 0 d0).bb)) = true then
 if 0 ≤ (v3.getD 1 d0).ii ∧ (v3.getD 1 d0).ii < (((v3.getD 0 d0).ss).length : Int) then
 (r_spec_l03Figure [.i ((((v3.getD 0 d0).ss).getD ((v3.getD 1 d0).ii).toNat 0).toNat : Int)]).bindR fun r5 =>
 .norm [.s ((v3.getD 0 d0).ss), .i ((v3.getD 1 d0).ii), .b (!((r5.getD 0 d0).bb))]
 else
 .fail
 else
 .norm [.s ((v3.getD 0 d0).ss), .i ((v3.getD 1 d0).ii), .b false]
 else
 .fail) fun v6 =>
 if (v6.getD 2 d0).bb = true then
 .ret [.b false]
 else
 .norm [.s ((v6.getD 0 d0).ss), .i ((v6.getD 1 d0).ii)]) 1 fun v7 =>
 .norm [.s ((v7.getD 0 d0).ss), .i (IntKind.i64.wrap ((v7.getD 1 d0).ii + (1 : Int)))]
 else
 .ex 0 []
noncomputable def E_spec_NameOk (a : List DC) : Out :=
 Out.andThen (if ((((a.getD 0 d0).ss).length : Int) == (0 : Int)) = true then
 .norm [.s ((a.getD 0 d0).ss), .b true]
 else
 if (decide ((((a.getD 0 d0).ss).length : Int) > (30 : Int))) = true then
 .norm [.s ((a.getD 0 d0).ss), .b true]
 else
 if 0 ≤ (0 : Int) ∧ (0 : Int) < (((a.getD 0 d0).ss).length : Int) then
 (r_spec_l03Figure [.i ((((a.getD 0 d0).ss).getD (0 : Int).toNat 0).toNat : Int)]).bindR fun r1 =>
 .norm [.s ((a.getD 0 d0).ss), .b ((r1.getD 0 d0).bb)]
 else
 .fail) fun v2 =>
 if (v2.getD 1 d0).bb = true then
 .ret [.b false]
 else
 Out.andThenB (Loop E_spec_NameOkL1 [.s ((v2.getD 0 d0).ss), .i (0 : Int)]) 0 fun v8 =>
 .ret [.b true]
theorem eq_spec_NameOk a : r_spec_NameOk a = E_spec_NameOk a := (Run_eq cfg 23 _ a).trans (by kernel_rfl)
noncomputable def E_spec_DirsOkL1 : List DC → Out := fun v1 =>
 if (decide ((v1.getD 1 d0).ii < (((v1.getD 0 d0).ll).length : Int))) = true then
 Out.andThenB (Out.andThen (if 59 = 59 ∧ 0 ≤ (v1.getD 1 d0).ii ∧ (v1.getD 1 d0).ii < (((v1.getD 0 d0).ll).length : Int) then
 (r_spec_NameOk [.s (((((v1.getD 0 d0).ll).getD ((v1.getD 1 d0).ii).toNat []).getD 0 d0).ss)]).bindR fun r2 =>
 if (!((r2.getD 0 d0).bb)) = true then
 .norm [.sl ((v1.getD 0 d0).ll), .i ((v1.getD 1 d0).ii), .b true]
 else
 if 59 = 59 ∧ 0 ≤ (v1.getD 1 d0).ii ∧ (v1.getD 1 d0).ii < (((v1.getD 0 d0).ll).length : Int) then
 (r_spec_ArgsOk [.sl (((((v1.getD 0 d0).ll).getD ((v1.getD 1 d0).ii).toNat []).getD 1 d0).ll)]).bindR fun r3 =>
 .norm [.sl ((v1.getD 0 d0).ll), .i ((v1.getD 1 d0).ii), .b (!((r3.getD 0 d0).bb))]
 else
 .fail
 else
 .fail) fun v4 =>
 if (v4.getD 2 d0).bb = true then
 .ret [.b false]
 else
 .norm [.sl ((v4.getD 0 d0).ll), .i ((v4.getD 1 d0).ii)]) 1 fun v5 =>
 .norm [.sl ((v5.getD 0 d0).ll), .i (IntKind.i64.wrap ((v5.getD 1 d0).ii + (1 : Int)))]
 else
 .ex 0 []
noncomputable def E_spec_DirsOk (a : List DC) : Out :=
 Out.andThenB (Loop E_spec_DirsOkL1 [.sl ((a.getD 0 d0).ll), .i (0 : Int)]) 0 fun v6 =>
 .ret [.b true]
theorem eq_spec_DirsOk a : r_spec_DirsOk a = E_spec_DirsOk a := (Run_eq cfg 24 _ a).trans (by kernel_rfl)
noncomputable def E_spec_l11OkL1 : List DC → Out := fun v1 =>
 Out.andThen (if (decide ((v1.getD 2 d0).ii < (((v1.getD 0 d0).ll).length : Int))) = true then
 .norm [.sl ((v1.getD 0 d0).ll), .i ((v1.getD 1 d0).ii), .i ((v1.getD 2 d0).ii), .b (decide ((v1.getD 1 d0).ii ≥ (0 : Int)))]
 else
 .norm [.sl ((v1.getD 0 d0).ll), .i ((v1.getD 1 d0).ii), .i ((v1.getD 2 d0).ii), .b false]) fun v2 =>
 if (v2.getD 3 d0).bb = true then
 Out.andThenB (if 64 = 64 ∧ 0 ≤ (v2.getD 2 d0).ii ∧ (v2.getD 2 d0).ii < (((v2.getD 0 d0).ll).length : Int) then
 (r_spec_l11Count [.i (((((v2.getD 0 d0).ll).getD ((v2.getD 2 d0).ii).toNat []).getD 0 d0).ii), .s (((((v2.getD 0 d0).ll).getD ((v2.getD 2 d0).ii).toNat []).getD 1 d0).ss), .s (((((v2.getD 0 d0).ll).getD ((v2.getD 2 d0).ii).toNat []).getD 2 d0).ss), .s (((((v2.getD 0 d0).ll).getD ((v2.getD 2 d0).ii).toNat []).getD 3 d0).ss), .sl (((((v2.getD 0 d0).ll).getD ((v2.getD 2 d0).ii).toNat []).getD 4 d0).ll), .sl (((((v2.getD 0 d0).ll).getD ((v2.getD 2 d0).ii).toNat []).getD 5 d0).ll), .sl (((((v2.getD 0 d0).ll).getD ((v2.getD 2 d0).ii).toNat []).getD 6 d0).ll), .i ((v2.getD 1 d0).ii)]).bindR fun r3 =>
 .norm [.sl ((v2.getD 0 d0).ll), .i ((r3.getD 0 d0).ii), .i ((v2.getD 2 d0).ii)]
 else
 .fail) 1 fun v4 =>
 .norm [.sl ((v4.getD 0 d0).ll), .i ((v4.getD 1 d0).ii), .i (IntKind.i64.wrap ((v4.getD 2 d0).ii + (1 : Int)))]
 else
 .ex 0 [.sl ((v2.getD 0 d0).ll), .i ((v2.getD 1 d0).ii)]
noncomputable def E_spec_l11OkL2 : List DC → Out := fun v6 =>
 Out.andThen (if (decide ((v6.getD 2 d0).ii < (((v6.getD 0 d0).ll).length : Int))) = true then
 .norm [.sl ((v6.getD 0 d0).ll), .i ((v6.getD 1 d0).ii), .i ((v6.getD 2 d0).ii), .b (decide ((v6.getD 1 d0).ii ≥ (0 : Int)))]
 else
 .norm [.sl ((v6.getD 0 d0).ll), .i ((v6.getD 1 d0).ii), .i ((v6.getD 2 d0).ii), .b false]) fun v7 =>
 if (v7.getD 3 d0).bb = true then
 Out.andThenB (if 64 = 64 ∧ 0 ≤ (v7.getD 2 d0).ii ∧ (v7.getD 2 d0).ii < (((v7.getD 0 d0).ll).length : Int) then
 (r_spec_l11Right [.i (((((v7.getD 0 d0).ll).getD ((v7.getD 2 d0).ii).toNat []).getD 0 d0).ii), .s (((((v7.getD 0 d0).ll).getD ((v7.getD 2 d0).ii).toNat []).getD 1 d0).ss), .s (((((v7.getD 0 d0).ll).getD ((v7.getD 2 d0).ii).toNat []).getD 2 d0).ss), .s (((((v7.getD 0 d0).ll).getD ((v7.getD 2 d0).ii).toNat []).getD 3 d0).ss), .sl (((((v7.getD 0 d0).ll).getD ((v7.getD 2 d0).ii).toNat []).getD 4 d0).ll), .sl (((((v7.getD 0 d0).ll).getD ((v7.getD 2 d0).ii).toNat []).getD 5 d0).ll), .sl (((((v7.getD 0 d0).ll).getD ((v7.getD 2 d0).ii).toNat []).getD 6 d0).ll), .i (10 : Int)]).bindR fun r8 =>
 if (!((r8.getD 0 d0).bb)) = true then
 .ret [.b false]
 else
 .norm [.sl ((v7.getD 0 d0).ll), .i ((v7.getD 1 d0).ii), .i ((v7.getD 2 d0).ii)]
 else
 .fail) 3 fun v9 =>
 .norm [.sl ((v9.getD 0 d0).ll), .i ((v9.getD 1 d0).ii), .i (IntKind.i64.wrap ((v9.getD 2 d0).ii + (1 : Int)))]
 else
 .ex 2 [.i ((v7.getD 1 d0).ii)]
noncomputable def E_spec_l11Ok (a : List DC) : Out :=
 Out.andThenB (Loop E_spec_l11OkL1 [.sl ((a.getD 0 d0).ll), .i (120 : Int), .i (0 : Int)]) 0 fun v5 =>
 Out.andThenB (Loop E_spec_l11OkL2 [.sl ((v5.getD 0 d0).ll), .i ((v5.getD 1 d0).ii), .i (0 : Int)]) 2 fun v10 =>
 .ret [.b (decide ((v10.getD 0 d0).ii ≥ (0 : Int)))]
theorem eq_spec_l11Ok a : r_spec_l11Ok a = E_spec_l11Ok a := (Run_eq cfg 25 _ a).trans (by kernel_rfl)
noncomputable def E_spec_l10SayL1 : List DC → Out := fun v1 =>
 if (decide ((v1.getD 2 d0).ii < (((v1.getD 1 d0).ll).length : Int))) = true then
 Out.andThenB (Out.andThen (if ((v1.getD 2 d0).ii == (0 : Int)) = true then
 if ((v1.getD 0 d0).ll).length + [[DC.i (40 : Int)]].length < LIM then
 .norm [.sl (((v1.getD 0 d0).ll) ++ [[DC.i (40 : Int)]]), .sl ((v1.getD 1 d0).ll), .i ((v1.getD 2 d0).ii)]
 else
 .fail
 else
 if ((v1.getD 0 d0).ll).length + [[DC.i (44 : Int)], [DC.i (32 : Int)]].length < LIM then
 .norm [.sl (((v1.getD 0 d0).ll) ++ [[DC.i (44 : Int)], [DC.i (32 : Int)]]), .sl ((v1.getD 1 d0).ll), .i ((v1.getD 2 d0).ii)]
 else
 .fail) fun v2 =>
 if 80 = 80 ∧ 0 ≤ (v2.getD 2 d0).ii ∧ (v2.getD 2 d0).ii < (((v2.getD 1 d0).ll).length : Int) then
 if ((v2.getD 0 d0).ll).length + (bytesRow (((((v2.getD 1 d0).ll).getD ((v2.getD 2 d0).ii).toNat []).getD 0 d0).ss)).length < LIM then
 if (((v2.getD 0 d0).ll) ++ (bytesRow (((((v2.getD 1 d0).ll).getD ((v2.getD 2 d0).ii).toNat []).getD 0 d0).ss))).length + [[DC.i (58 : Int)], [DC.i (32 : Int)]].length < LIM then
 if 80 = 80 ∧ 0 ≤ (v2.getD 2 d0).ii ∧ (v2.getD 2 d0).ii < (((v2.getD 1 d0).ll).length : Int) then
 (r_spec_l07Say [.sl ((((v2.getD 0 d0).ll) ++ (bytesRow (((((v2.getD 1 d0).ll).getD ((v2.getD 2 d0).ii).toNat []).getD 0 d0).ss))) ++ [[DC.i (58 : Int)], [DC.i (32 : Int)]]), .i (((((v2.getD 1 d0).ll).getD ((v2.getD 2 d0).ii).toNat []).getD 1 d0).ii), .s (((((v2.getD 1 d0).ll).getD ((v2.getD 2 d0).ii).toNat []).getD 2 d0).ss), .sl (((((v2.getD 1 d0).ll).getD ((v2.getD 2 d0).ii).toNat []).getD 3 d0).ll), .sl (((((v2.getD 1 d0).ll).getD ((v2.getD 2 d0).ii).toNat []).getD 4 d0).ll)]).bindR fun r3 =>
 .norm [.sl ((r3.getD 0 d0).ll), .sl ((v2.getD 1 d0).ll), .i ((v2.getD 2 d0).ii)]
 else
 .fail
 else
 .fail
 else
 .fail
 else
 .fail) 1 fun v4 =>
 .norm [.sl ((v4.getD 0 d0).ll), .sl ((v4.getD 1 d0).ll), .i (IntKind.i64.wrap ((v4.getD 2 d0).ii + (1 : Int)))]
 else
 .ex 0 [.sl ((v1.getD 0 d0).ll), .sl ((v1.getD 1 d0).ll)]
noncomputable def E_spec_l10Say (a : List DC) : Out :=
 Out.andThenB (Loop E_spec_l10SayL1 [.sl ((a.getD 0 d0).ll), .sl ((a.getD 1 d0).ll), .i (0 : Int)]) 0 fun v5 =>
 Out.andThen (if (decide ((((v5.getD 1 d0).ll).length : Int) > (0 : Int))) = true then
 if ((v5.getD 0 d0).ll).length + [[DC.i (41 : Int)]].length < LIM then
 .norm [.sl (((v5.getD 0 d0).ll) ++ [[DC.i (41 : Int)]])]
 else
 .fail
 else
 .norm [.sl ((v5.getD 0 d0).ll)]) fun v6 =>
 .ret [.sl ((v6.getD 0 d0).ll)]
theorem eq_spec_l10Say a : r_spec_l10Say a = E_spec_l10Say a := (Run_eq cfg 26 _ a).trans (by kernel_rfl)
noncomputable def E_spec_l11SayL1 : List DC → Out := fun v1 =>
 if (decide ((v1.getD 3 d0).ii < (((v1.getD 1 d0).ll).length : Int))) = true then
 Out.andThenB (if 64 = 64 ∧ 0 ≤ (v1.getD 3 d0).ii ∧ (v1.getD 3 d0).ii < (((v1.getD 1 d0).ll).length : Int) then
 (r_spec_l11Blanks [.sl ((v1.getD 0 d0).ll), .i ((v1.getD 2 d0).ii)]).bindR fun r2 =>
 Out.andThenB (Out.andThen (if (((((v1.getD 1 d0).ll).getD ((v1.getD 3 d0).ii).toNat []).getD 0 d0).ii == (1 : Int)) = true then
 Out.andThen (if (!(((((v1.getD 1 d0).ll).getD ((v1.getD 3 d0).ii).toNat []).getD 1 d0).ss == ([] : List UInt8))) = true then
 if ((r2.getD 0 d0).ll).length + (bytesRow (((((v1.getD 1 d0).ll).getD ((v1.getD 3 d0).ii).toNat []).getD 1 d0).ss)).length < LIM then
 if (((r2.getD 0 d0).ll) ++ (bytesRow (((((v1.getD 1 d0).ll).getD ((v1.getD 3 d0).ii).toNat []).getD 1 d0).ss))).length + [[DC.i (58 : Int)], [DC.i (32 : Int)]].length < LIM then
 .norm [.sl ((((r2.getD 0 d0).ll) ++ (bytesRow (((((v1.getD 1 d0).ll).getD ((v1.getD 3 d0).ii).toNat []).getD 1 d0).ss))) ++ [[DC.i (58 : Int)], [DC.i (32 : Int)]]), .sl ((v1.getD 1 d0).ll), .i ((v1.getD 2 d0).ii), .i ((v1.getD 3 d0).ii), .i (((((v1.getD 1 d0).ll).getD ((v1.getD 3 d0).ii).toNat []).getD 0 d0).ii), .s (((((v1.getD 1 d0).ll).getD ((v1.getD 3 d0).ii).toNat []).getD 1 d0).ss), .s (((((v1.getD 1 d0).ll).getD ((v1.getD 3 d0).ii).toNat []).getD 2 d0).ss), .s (((((v1.getD 1 d0).ll).getD ((v1.getD 3 d0).ii).toNat []).getD 3 d0).ss), .sl (((((v1.getD 1 d0).ll).getD ((v1.getD 3 d0).ii).toNat []).getD 4 d0).ll), .sl (((((v1.getD 1 d0).ll).getD ((v1.getD 3 d0).ii).toNat []).getD 5 d0).ll), .sl (((((v1.getD 1 d0).ll).getD ((v1.getD 3 d0).ii).toNat []).getD 6 d0).ll)]
 else
 .fail
 else
 .fail
 else
 .norm [.sl ((r2.getD 0 d0).ll), .sl ((v1.getD 1 d0).ll), .i ((v1.getD 2 d0).ii), .i ((v1.getD 3 d0).ii), .i (((((v1.getD 1 d0).ll).getD ((v1.getD 3 d0).ii).toNat []).getD 0 d0).ii), .s (((((v1.getD 1 d0).ll).getD ((v1.getD 3 d0).ii).toNat []).getD 1 d0).ss), .s (((((v1.getD 1 d0).ll).getD ((v1.getD 3 d0).ii).toNat []).getD 2 d0).ss), .s (((((v1.getD 1 d0).ll).getD ((v1.getD 3 d0).ii).toNat []).getD 3 d0).ss), .sl (((((v1.getD 1 d0).ll).getD ((v1.getD 3 d0).ii).toNat []).getD 4 d0).ll), .sl (((((v1.getD 1 d0).ll).getD ((v1.getD 3 d0).ii).toNat []).getD 5 d0).ll), .sl (((((v1.getD 1 d0).ll).getD ((v1.getD 3 d0).ii).toNat []).getD 6 d0).ll)]) fun v3 =>
 if ((v3.getD 0 d0).ll).length + (bytesRow ((v3.getD 6 d0).ss)).length < LIM then
 .norm [.sl (((v3.getD 0 d0).ll) ++ (bytesRow ((v3.getD 6 d0).ss))), .sl ((v3.getD 1 d0).ll), .i ((v3.getD 2 d0).ii), .i ((v3.getD 3 d0).ii), .i ((v3.getD 4 d0).ii), .s ((v3.getD 5 d0).ss), .s ((v3.getD 6 d0).ss), .s ((v3.getD 7 d0).ss), .sl ((v3.getD 8 d0).ll), .sl ((v3.getD 9 d0).ll), .sl ((v3.getD 10 d0).ll)]
 else
 .fail
 else
 Out.andThen (if (((((v1.getD 1 d0).ll).getD ((v1.getD 3 d0).ii).toNat []).getD 0 d0).ii == (2 : Int)) = true then
 if ((r2.getD 0 d0).ll).length + [[DC.i (46 : Int)], [DC.i (46 : Int)], [DC.i (46 : Int)]].length < LIM then
 if (((r2.getD 0 d0).ll) ++ [[DC.i (46 : Int)], [DC.i (46 : Int)], [DC.i (46 : Int)]]).length + (bytesRow (((((v1.getD 1 d0).ll).getD ((v1.getD 3 d0).ii).toNat []).getD 2 d0).ss)).length < LIM then
 .norm [.sl ((((r2.getD 0 d0).ll) ++ [[DC.i (46 : Int)], [DC.i (46 : Int)], [DC.i (46 : Int)]]) ++ (bytesRow (((((v1.getD 1 d0).ll).getD ((v1.getD 3 d0).ii).toNat []).getD 2 d0).ss))), .sl ((v1.getD 1 d0).ll), .i ((v1.getD 2 d0).ii), .i ((v1.getD 3 d0).ii), .i (((((v1.getD 1 d0).ll).getD ((v1.getD 3 d0).ii).toNat []).getD 0 d0).ii), .s (((((v1.getD 1 d0).ll).getD ((v1.getD 3 d0).ii).toNat []).getD 1 d0).ss), .s (((((v1.getD 1 d0).ll).getD ((v1.getD 3 d0).ii).toNat []).getD 2 d0).ss), .s (((((v1.getD 1 d0).ll).getD ((v1.getD 3 d0).ii).toNat []).getD 3 d0).ss), .sl (((((v1.getD 1 d0).ll).getD ((v1.getD 3 d0).ii).toNat []).getD 4 d0).ll), .sl (((((v1.getD 1 d0).ll).getD ((v1.getD 3 d0).ii).toNat []).getD 5 d0).ll), .sl (((((v1.getD 1 d0).ll).getD ((v1.getD 3 d0).ii).toNat []).getD 6 d0).ll)]
 else
 .fail
 else
 .fail
 else
 if ((r2.getD 0 d0).ll).length + [[DC.i (46 : Int)], [DC.i (46 : Int)], [DC.i (46 : Int)]].length < LIM then
 Out.andThen (if (!(((((v1.getD 1 d0).ll).getD ((v1.getD 3 d0).ii).toNat []).getD 3 d0).ss == ([] : List UInt8))) = true then
 if (((r2.getD 0 d0).ll) ++ [[DC.i (46 : Int)], [DC.i (46 : Int)], [DC.i (46 : Int)]]).length + (bytesRow ([32, 111, 110, 32] : List UInt8)).length < LIM then
 if ((((r2.getD 0 d0).ll) ++ [[DC.i (46 : Int)], [DC.i (46 : Int)], [DC.i (46 : Int)]]) ++ (bytesRow ([32, 111, 110, 32] : List UInt8))).length + (bytesRow (((((v1.getD 1 d0).ll).getD ((v1.getD 3 d0).ii).toNat []).getD 3 d0).ss)).length < LIM then
 .norm [.sl (((((r2.getD 0 d0).ll) ++ [[DC.i (46 : Int)], [DC.i (46 : Int)], [DC.i (46 : Int)]]) ++ (bytesRow ([32, 111, 110, 32] : List UInt8))) ++ (bytesRow (((((v1.getD 1 d0).ll).getD ((v1.getD 3 d0).ii).toNat []).getD 3 d0).ss))), .sl ((v1.getD 1 d0).ll), .i ((v1.getD 2 d0).ii), .i ((v1.getD 3 d0).ii), .i (((((v1.getD 1 d0).ll).getD ((v1.getD 3 d0).ii).toNat []).getD 0 d0).ii), .s (((((v1.getD 1 d0).ll).getD ((v1.getD 3 d0).ii).toNat []).getD 1 d0).ss), .s (((((v1.getD 1 d0).ll).getD ((v1.getD 3 d0).ii).toNat []).getD 2 d0).ss), .s (((((v1.getD 1 d0).ll).getD ((v1.getD 3 d0).ii).toNat []).getD 3 d0).ss), .sl (((((v1.getD 1 d0).ll).getD ((v1.getD 3 d0).ii).toNat []).getD 4 d0).ll), .sl (((((v1.getD 1 d0).ll).getD ((v1.getD 3 d0).ii).toNat []).getD 5 d0).ll), .sl (((((v1.getD 1 d0).ll).getD ((v1.getD 3 d0).ii).toNat []).getD 6 d0).ll)]
 else
 .fail
 else
 .fail
 else
 .norm [.sl (((r2.getD 0 d0).ll) ++ [[DC.i (46 : Int)], [DC.i (46 : Int)], [DC.i (46 : Int)]]), .sl ((v1.getD 1 d0).ll), .i ((v1.getD 2 d0).ii), .i ((v1.getD 3 d0).ii), .i (((((v1.getD 1 d0).ll).getD ((v1.getD 3 d0).ii).toNat []).getD 0 d0).ii), .s (((((v1.getD 1 d0).ll).getD ((v1.getD 3 d0).ii).toNat []).getD 1 d0).ss), .s (((((v1.getD 1 d0).ll).getD ((v1.getD 3 d0).ii).toNat []).getD 2 d0).ss), .s (((((v1.getD 1 d0).ll).getD ((v1.getD 3 d0).ii).toNat []).getD 3 d0).ss), .sl (((((v1.getD 1 d0).ll).getD ((v1.getD 3 d0).ii).toNat []).getD 4 d0).ll), .sl (((((v1.getD 1 d0).ll).getD ((v1.getD 3 d0).ii).toNat []).getD 5 d0).ll), .sl (((((v1.getD 1 d0).ll).getD ((v1.getD 3 d0).ii).toNat []).getD 6 d0).ll)]) fun v4 =>
 .norm [.sl ((v4.getD 0 d0).ll), .sl ((v4.getD 1 d0).ll), .i ((v4.getD 2 d0).ii), .i ((v4.getD 3 d0).ii), .i ((v4.getD 4 d0).ii), .s ((v4.getD 5 d0).ss), .s ((v4.getD 6 d0).ss), .s ((v4.getD 7 d0).ss), .sl ((v4.getD 8 d0).ll), .sl ((v4.getD 9 d0).ll), .sl ((v4.getD 10 d0).ll)]
 else
 .fail) fun v5 =>
 .norm [.sl ((v5.getD 0 d0).ll), .sl ((v5.getD 1 d0).ll), .i ((v5.getD 2 d0).ii), .i ((v5.getD 3 d0).ii), .i ((v5.getD 4 d0).ii), .s ((v5.getD 5 d0).ss), .s ((v5.getD 6 d0).ss), .s ((v5.getD 7 d0).ss), .sl ((v5.getD 8 d0).ll), .sl ((v5.getD 9 d0).ll), .sl ((v5.getD 10 d0).ll)]) fun v6 =>
 .norm [.sl ((v6.getD 0 d0).ll), .sl ((v6.getD 1 d0).ll), .i ((v6.getD 2 d0).ii), .i ((v6.getD 3 d0).ii), .i ((v6.getD 4 d0).ii), .s ((v6.getD 5 d0).ss), .s ((v6.getD 6 d0).ss), .s ((v6.getD 7 d0).ss), .sl ((v6.getD 8 d0).ll), .sl ((v6.getD 9 d0).ll), .sl ((v6.getD 10 d0).ll)]) 2 fun v7 =>
 (r_spec_l10Say [.sl ((v7.getD 0 d0).ll), .sl ((v7.getD 8 d0).ll)]).bindR fun r8 =>
 (r_spec_l10SayDirs [.sl ((r8.getD 0 d0).ll), .sl ((v7.getD 9 d0).ll)]).bindR fun r9 =>
 Out.andThen (if (decide ((((v7.getD 10 d0).ll).length : Int) > (0 : Int))) = true then
 (r_spec_l11Block [.sl ((r9.getD 0 d0).ll), .sl ((v7.getD 10 d0).ll), .i ((v7.getD 2 d0).ii)]).bindR fun r10 =>
 .norm [.sl ((r10.getD 0 d0).ll), .sl ((v7.getD 1 d0).ll), .i ((v7.getD 2 d0).ii), .i ((v7.getD 3 d0).ii)]
 else
 .norm [.sl ((r9.getD 0 d0).ll), .sl ((v7.getD 1 d0).ll), .i ((v7.getD 2 d0).ii), .i ((v7.getD 3 d0).ii)]) fun v11 =>
 if ((v11.getD 0 d0).ll).length + [[DC.i (10 : Int)]].length < LIM then
 .norm [.sl (((v11.getD 0 d0).ll) ++ [[DC.i (10 : Int)]]), .sl ((v11.getD 1 d0).ll), .i ((v11.getD 2 d0).ii), .i ((v11.getD 3 d0).ii)]
 else
 .fail
 else
 .fail) 1 fun v12 =>
 .norm [.sl ((v12.getD 0 d0).ll), .sl ((v12.getD 1 d0).ll), .i ((v12.getD 2 d0).ii), .i (IntKind.i64.wrap ((v12.getD 3 d0).ii + (1 : Int)))]
 else
 .ex 0 [.sl ((v1.getD 0 d0).ll)]
noncomputable def E_spec_l11Say (a : List DC) : Out :=
 Out.andThenB (Loop E_spec_l11SayL1 [.sl ((a.getD 0 d0).ll), .sl ((a.getD 1 d0).ll), .i ((a.getD 2 d0).ii), .i (0 : Int)]) 0 fun v13 =>
 .ret [.sl ((v13.getD 0 d0).ll)]
theorem eq_spec_l11Say a : r_spec_l11Say a = E_spec_l11Say a := (Run_eq cfg 27 _ a).trans (by kernel_rfl)
noncomputable def E_spec_l11BlanksL1 : List DC → Out := fun v1 =>
 if (decide ((v1.getD 2 d0).ii < (IntKind.i64.wrap ((2 : Int) * (v1.getD 1 d0).ii)))) = true then
 Out.andThenB (if ((v1.getD 0 d0).ll).length + [[DC.i (32 : Int)]].length < LIM then
 .norm [.sl (((v1.getD 0 d0).ll) ++ [[DC.i (32 : Int)]]), .i ((v1.getD 1 d0).ii), .i ((v1.getD 2 d0).ii)]
 else
 .fail) 1 fun v2 =>
 .norm [.sl ((v2.getD 0 d0).ll), .i ((v2.getD 1 d0).ii), .i (IntKind.i64.wrap ((v2.getD 2 d0).ii + (1 : Int)))]
 else
 .ex 0 [.sl ((v1.getD 0 d0).ll)]
noncomputable def E_spec_l11Blanks (a : List DC) : Out :=
 Out.andThenB (Loop E_spec_l11BlanksL1 [.sl ((a.getD 0 d0).ll), .i ((a.getD 1 d0).ii), .i (0 : Int)]) 0 fun v3 =>
 .ret [.sl ((v3.getD 0 d0).ll)]
theorem eq_spec_l11Blanks a : r_spec_l11Blanks a = E_spec_l11Blanks a := (Run_eq cfg 28 _ a).trans (by kernel_rfl)
noncomputable def E_impl_NameOkL1 : List DC → Out := fun v4 =>
 if (decide ((v4.getD 2 d0).ii < (v4.getD 1 d0).ii)) = true then
 Out.andThenB (if 0 ≤ (v4.getD 2 d0).ii ∧ (v4.getD 2 d0).ii < (((v4.getD 0 d0).ss).length : Int) then
 (r_impl_inName [.i ((((v4.getD 0 d0).ss).getD ((v4.getD 2 d0).ii).toNat 0).toNat : Int)]).bindR fun r5 =>
 if (!((r5.getD 0 d0).bb)) = true then
 .ret [.b false]
 else
 .norm [.s ((v4.getD 0 d0).ss), .i ((v4.getD 1 d0).ii), .i ((v4.getD 2 d0).ii)]
 else
 .fail) 1 fun v6 =>
 .norm [.s ((v6.getD 0 d0).ss), .i ((v6.getD 1 d0).ii), .i (IntKind.i64.wrap ((v6.getD 2 d0).ii + (1 : Int)))]
 else
 .ex 0 []
noncomputable def E_impl_NameOk (a : List DC) : Out :=
 Out.andThen ((r_impl_in [.i (((a.getD 0 d0).ss).length : Int), .i (1 : Int), .i (30 : Int)]).bindR fun r1 =>
 if (!((r1.getD 0 d0).bb)) = true then
 .norm [.s ((a.getD 0 d0).ss), .b true]
 else
 if 0 ≤ (0 : Int) ∧ (0 : Int) < (((a.getD 0 d0).ss).length : Int) then
 (r_impl_isFigure [.i ((((a.getD 0 d0).ss).getD (0 : Int).toNat 0).toNat : Int)]).bindR fun r2 =>
 .norm [.s ((a.getD 0 d0).ss), .b ((r2.getD 0 d0).bb)]
 else
 .fail) fun v3 =>
 if (v3.getD 1 d0).bb = true then
 .ret [.b false]
 else
 Out.andThenB (Loop E_impl_NameOkL1 [.s ((v3.getD 0 d0).ss), .i (((v3.getD 0 d0).ss).length : Int), .i (0 : Int)]) 0 fun v7 =>
 .ret [.b true]
theorem eq_impl_NameOk a : r_impl_NameOk a = E_impl_NameOk a := (Run_eq cfg 31 _ a).trans (by kernel_rfl)
noncomputable def E_impl_DirsOk (a : List DC) : Out :=
 (r_slices_ContainsFunc_impl_Dir__impl_DirsOk_1 [.sl ((a.getD 0 d0).ll)]).bindR fun r1 =>
 .ret [.b (!((r1.getD 0 d0).bb))]
theorem eq_impl_DirsOk a : r_impl_DirsOk a = E_impl_DirsOk a := (Run_eq cfg 32 _ a).trans (by kernel_rfl)
noncomputable def E_impl_selsOkL1 : List DC → Out := fun v1 =>
 if (decide ((v1.getD 3 d0).ii < (v1.getD 2 d0).ii)) = true then
 Out.andThenB (if 64 = 64 ∧ 0 ≤ (v1.getD 3 d0).ii ∧ (v1.getD 3 d0).ii < (((v1.getD 1 d0).ll).length : Int) then
 (r_impl_bound_selOk [.i (((((v1.getD 1 d0).ll).getD ((v1.getD 3 d0).ii).toNat []).getD 0 d0).ii), .s (((((v1.getD 1 d0).ll).getD ((v1.getD 3 d0).ii).toNat []).getD 1 d0).ss), .s (((((v1.getD 1 d0).ll).getD ((v1.getD 3 d0).ii).toNat []).getD 2 d0).ss), .s (((((v1.getD 1 d0).ll).getD ((v1.getD 3 d0).ii).toNat []).getD 3 d0).ss), .sl (((((v1.getD 1 d0).ll).getD ((v1.getD 3 d0).ii).toNat []).getD 4 d0).ll), .sl (((((v1.getD 1 d0).ll).getD ((v1.getD 3 d0).ii).toNat []).getD 5 d0).ll), .sl (((((v1.getD 1 d0).ll).getD ((v1.getD 3 d0).ii).toNat []).getD 6 d0).ll), .i (10 : Int), .i ((v1.getD 4 d0).ii)]).bindR fun r2 =>
 if (!((r2.getD 0 d0).bb)) = true then
 .ret [.b false]
 else
 .norm [.sl ((v1.getD 0 d0).ll), .sl ((v1.getD 1 d0).ll), .i ((v1.getD 2 d0).ii), .i ((v1.getD 3 d0).ii), .i ((r2.getD 1 d0).ii)]
 else
 .fail) 1 fun v3 =>
 .norm [.sl ((v3.getD 0 d0).ll), .sl ((v3.getD 1 d0).ll), .i ((v3.getD 2 d0).ii), .i (IntKind.i64.wrap ((v3.getD 3 d0).ii + (1 : Int))), .i ((v3.getD 4 d0).ii)]
 else
 .ex 0 [.sl ((v1.getD 0 d0).ll)]
noncomputable def E_impl_selsOk (a : List DC) : Out :=
 Out.andThenB (Loop E_impl_selsOkL1 [.sl ((a.getD 0 d0).ll), .sl ((a.getD 0 d0).ll), .i (((a.getD 0 d0).ll).length : Int), .i (0 : Int), .i (120 : Int)]) 0 fun v4 =>
 .ret [.b (decide ((((v4.getD 0 d0).ll).length : Int) > (0 : Int)))]
theorem eq_impl_selsOk a : r_impl_selsOk a = E_impl_selsOk a := (Run_eq cfg 33 _ a).trans (by kernel_rfl)
noncomputable def E_impl_ArgsTextL1 : List DC → Out := fun v3 =>
 if (decide ((v3.getD 3 d0).ii < (v3.getD 2 d0).ii)) = true then
 Out.andThenB (if 80 = 80 ∧ 0 ≤ (v3.getD 3 d0).ii ∧ (v3.getD 3 d0).ii < (((v3.getD 1 d0).ll).length : Int) then
 if (((((v3.getD 1 d0).ll).getD ((v3.getD 3 d0).ii).toNat []).getD 0 d0).ss).length + ([58, 32] : List UInt8).length < LIM then
 (r_impl_printValue [.i (((((v3.getD 1 d0).ll).getD ((v3.getD 3 d0).ii).toNat []).getD 1 d0).ii), .s (((((v3.getD 1 d0).ll).getD ((v3.getD 3 d0).ii).toNat []).getD 2 d0).ss), .sl (((((v3.getD 1 d0).ll).getD ((v3.getD 3 d0).ii).toNat []).getD 3 d0).ll), .sl (((((v3.getD 1 d0).ll).getD ((v3.getD 3 d0).ii).toNat []).getD 4 d0).ll)]).bindR fun r4 =>
 if ((((((v3.getD 1 d0).ll).getD ((v3.getD 3 d0).ii).toNat []).getD 0 d0).ss) ++ ([58, 32] : List UInt8)).length + ((r4.getD 0 d0).ss).length < LIM then
 if ((v3.getD 0 d0).ll).length + [[DC.s (((((((v3.getD 1 d0).ll).getD ((v3.getD 3 d0).ii).toNat []).getD 0 d0).ss) ++ ([58, 32] : List UInt8)) ++ ((r4.getD 0 d0).ss))]].length < LIM then
 .norm [.sl (((v3.getD 0 d0).ll) ++ [[DC.s (((((((v3.getD 1 d0).ll).getD ((v3.getD 3 d0).ii).toNat []).getD 0 d0).ss) ++ ([58, 32] : List UInt8)) ++ ((r4.getD 0 d0).ss))]]), .sl ((v3.getD 1 d0).ll), .i ((v3.getD 2 d0).ii), .i ((v3.getD 3 d0).ii)]
 else
 .fail
 else
 .fail
 else
 .fail
 else
 .fail) 1 fun v5 =>
 .norm [.sl ((v5.getD 0 d0).ll), .sl ((v5.getD 1 d0).ll), .i ((v5.getD 2 d0).ii), .i (IntKind.i64.wrap ((v5.getD 3 d0).ii + (1 : Int)))]
 else
 .ex 0 [.sl ((v3.getD 0 d0).ll)]
noncomputable def E_impl_ArgsText (a : List DC) : Out :=
 Out.andThen (if ((((a.getD 0 d0).ll).length : Int) == (0 : Int)) = true then
 .norm [.sl ((a.getD 0 d0).ll), .b true]
 else
 (r_impl_ArgsOk [.sl ((a.getD 0 d0).ll)]).bindR fun r1 =>
 .norm [.sl ((a.getD 0 d0).ll), .b (!((r1.getD 0 d0).bb))]) fun v2 =>
 if (v2.getD 1 d0).bb = true then
 .ret [.s ([] : List UInt8)]
 else
 Out.andThenB (Loop E_impl_ArgsTextL1 [.sl [], .sl ((v2.getD 0 d0).ll), .i (((v2.getD 0 d0).ll).length : Int), .i (0 : Int)]) 0 fun v6 =>
 (r_strings_Join [.sl ((v6.getD 0 d0).ll), .s ([44, 32] : List UInt8)]).bindR fun r7 =>
 if ([40] : List UInt8).length + ((r7.getD 0 d0).ss).length < LIM then
 if (([40] : List UInt8) ++ ((r7.getD 0 d0).ss)).length + ([41] : List UInt8).length < LIM then
 .ret [.s ((([40] : List UInt8) ++ ((r7.getD 0 d0).ss)) ++ ([41] : List UInt8))]
 else
 .fail
 else
 .fail
theorem eq_impl_ArgsText a : r_impl_ArgsText a = E_impl_ArgsText a := (Run_eq cfg 34 _ a).trans (by kernel_rfl)
noncomputable def E_impl_SelsText (a : List DC) : Out :=
 Out.andThen ((r_impl_in [.i ((a.getD 1 d0).ii), .i (0 : Int), .i (20 : Int)]).bindR fun r1 =>
 if (!((r1.getD 0 d0).bb)) = true then
 .norm [.sl ((a.getD 0 d0).ll), .i ((a.getD 1 d0).ii), .b true]
 else
 (r_slices_ContainsFunc_impl_Sel__impl_SelsText_1 [.sl ((a.getD 0 d0).ll)]).bindR fun r2 =>
 .norm [.sl ((a.getD 0 d0).ll), .i ((a.getD 1 d0).ii), .b ((r2.getD 0 d0).bb)]) fun v3 =>
 if (v3.getD 2 d0).bb = true then
 .ret [.s ([] : List UInt8)]
 else
 (r_impl_selsText [.sl ((v3.getD 0 d0).ll), .i ((v3.getD 1 d0).ii)]).bindR fun r4 =>
 .ret [.s ((r4.getD 0 d0).ss)]
theorem eq_impl_SelsText a : r_impl_SelsText a = E_impl_SelsText a := (Run_eq cfg 35 _ a).trans (by kernel_rfl)
noncomputable def E_laws_eqDir (a : List DC) : Out :=
 if (!((a.getD 0 d0).ss == (a.getD 2 d0).ss)) = true then
 .ret [.b false]
 else
 (r_laws_eqArgS [.sl ((a.getD 1 d0).ll), .sl ((a.getD 3 d0).ll)]).bindR fun r1 =>
 if (!((r1.getD 0 d0).bb)) = true then
 .ret [.b false]
 else
 .ret [.b true]
theorem eq_laws_eqDir a : r_laws_eqDir a = E_laws_eqDir a := (Run_eq cfg 36 _ a).trans (by kernel_rfl)
noncomputable def E_laws_eqSel (a : List DC) : Out :=
 if ((a.getD 0 d0).ii != (a.getD 7 d0).ii) = true then
 .ret [.b false]
 else
 if (!((a.getD 1 d0).ss == (a.getD 8 d0).ss)) = true then
 .ret [.b false]
 else
 if (!((a.getD 2 d0).ss == (a.getD 9 d0).ss)) = true then
 .ret [.b false]
 else
 if (!((a.getD 3 d0).ss == (a.getD 10 d0).ss)) = true then
 .ret [.b false]
 else
 (r_laws_eqArgS [.sl ((a.getD 4 d0).ll), .sl ((a.getD 11 d0).ll)]).bindR fun r1 =>
 if (!((r1.getD 0 d0).bb)) = true then
 .ret [.b false]
 else
 (r_laws_eqDirS [.sl ((a.getD 5 d0).ll), .sl ((a.getD 12 d0).ll)]).bindR fun r2 =>
 if (!((r2.getD 0 d0).bb)) = true then
 .ret [.b false]
 else
 (r_laws_eqSelS [.sl ((a.getD 6 d0).ll), .sl ((a.getD 13 d0).ll)]).bindR fun r3 =>
 if (!((r3.getD 0 d0).bb)) = true then
 .ret [.b false]
 else
 .ret [.b true]
theorem eq_laws_eqSel a : r_laws_eqSel a = E_laws_eqSel a := (Run_eq cfg 37 _ a).trans (by kernel_rfl)
noncomputable def E_laws_szArgSL1 : List DC → Out := fun v1 =>
 if (decide ((v1.getD 2 d0).ii < (((v1.getD 0 d0).ll).length : Int))) = true then
 Out.andThenB (if 99 = 99 ∧ 0 ≤ (v1.getD 2 d0).ii ∧ (v1.getD 2 d0).ii < (((v1.getD 0 d0).ll).length : Int) then
 (r_laws_szArg [.s (((((v1.getD 0 d0).ll).getD ((v1.getD 2 d0).ii).toNat []).getD 0 d0).ss), .i (((((v1.getD 0 d0).ll).getD ((v1.getD 2 d0).ii).toNat []).getD 1 d0).ii), .s (((((v1.getD 0 d0).ll).getD ((v1.getD 2 d0).ii).toNat []).getD 2 d0).ss), .sl (((((v1.getD 0 d0).ll).getD ((v1.getD 2 d0).ii).toNat []).getD 3 d0).ll), .sl (((((v1.getD 0 d0).ll).getD ((v1.getD 2 d0).ii).toNat []).getD 4 d0).ll), .i ((v1.getD 1 d0).ii)]).bindR fun r2 =>
 if (decide ((r2.getD 0 d0).ii < (0 : Int))) = true then
 .ret [.i (-1 : Int)]
 else
 .norm [.sl ((v1.getD 0 d0).ll), .i ((r2.getD 0 d0).ii), .i ((v1.getD 2 d0).ii)]
 else
 .fail) 1 fun v3 =>
 .norm [.sl ((v3.getD 0 d0).ll), .i ((v3.getD 1 d0).ii), .i (IntKind.i64.wrap ((v3.getD 2 d0).ii + (1 : Int)))]
 else
 .ex 0 [.i ((v1.getD 1 d0).ii)]
noncomputable def E_laws_szArgS (a : List DC) : Out :=
 if (decide ((IntKind.i64.wrap ((a.getD 1 d0).ii - (((a.getD 0 d0).ll).length : Int))) < (0 : Int))) = true then
 .ret [.i (-1 : Int)]
 else
 Out.andThenB (Loop E_laws_szArgSL1 [.sl ((a.getD 0 d0).ll), .i (IntKind.i64.wrap ((a.getD 1 d0).ii - (((a.getD 0 d0).ll).length : Int))), .i (0 : Int)]) 0 fun v4 =>
 .ret [.i ((v4.getD 0 d0).ii)]
theorem eq_laws_szArgS a : r_laws_szArgS a = E_laws_szArgS a := (Run_eq cfg 38 _ a).trans (by kernel_rfl)
noncomputable def E_laws_toArgSL1 : List DC → Out := fun v1 =>
 if (decide ((v1.getD 2 d0).ii < (((v1.getD 0 d0).ll).length : Int))) = true then
 Out.andThenB (if 99 = 99 ∧ 0 ≤ (v1.getD 2 d0).ii ∧ (v1.getD 2 d0).ii < (((v1.getD 0 d0).ll).length : Int) then
 (r_laws_toArg [.s (((((v1.getD 0 d0).ll).getD ((v1.getD 2 d0).ii).toNat []).getD 0 d0).ss), .i (((((v1.getD 0 d0).ll).getD ((v1.getD 2 d0).ii).toNat []).getD 1 d0).ii), .s (((((v1.getD 0 d0).ll).getD ((v1.getD 2 d0).ii).toNat []).getD 2 d0).ss), .sl (((((v1.getD 0 d0).ll).getD ((v1.getD 2 d0).ii).toNat []).getD 3 d0).ll), .sl (((((v1.getD 0 d0).ll).getD ((v1.getD 2 d0).ii).toNat []).getD 4 d0).ll)]).bindR fun r2 =>
 if 80 = 80 ∧ 0 ≤ (v1.getD 2 d0).ii ∧ (v1.getD 2 d0).ii < (((v1.getD 1 d0).ll).length : Int) then
 .norm [.sl ((v1.getD 0 d0).ll), .sl (((v1.getD 1 d0).ll).set (((v1.getD 2 d0).ii).toNat) (setRunD (((v1.getD 1 d0).ll).getD (((v1.getD 2 d0).ii).toNat) []) 0 [DC.s ((r2.getD 0 d0).ss), DC.i ((r2.getD 1 d0).ii), DC.s ((r2.getD 2 d0).ss), DC.sl ((r2.getD 3 d0).ll), DC.sl ((r2.getD 4 d0).ll)])), .i ((v1.getD 2 d0).ii)]
 else
 .fail
 else
 .fail) 1 fun v3 =>
 .norm [.sl ((v3.getD 0 d0).ll), .sl ((v3.getD 1 d0).ll), .i (IntKind.i64.wrap ((v3.getD 2 d0).ii + (1 : Int)))]
 else
 .ex 0 [.sl ((v1.getD 1 d0).ll)]
noncomputable def E_laws_toArgS (a : List DC) : Out :=
 if 0 ≤ (((a.getD 0 d0).ll).length : Int) ∧ (((a.getD 0 d0).ll).length : Int) < (LIM : Int) ∧ (((a.getD 0 d0).ll).length : Int) = (((a.getD 0 d0).ll).length : Int) ∧ 88 ≤ 1024 ∧ 0 < 5 then
 Out.andThenB (Loop E_laws_toArgSL1 [.sl ((a.getD 0 d0).ll), .sl (List.replicate (((a.getD 0 d0).ll).length : Int).toNat [DC.s [], DC.i 0, DC.s [], DC.sl [], DC.sl []]), .i (0 : Int)]) 0 fun v4 =>
 .ret [.sl ((v4.getD 0 d0).ll)]
 else
 .fail
theorem eq_laws_toArgS a : r_laws_toArgS a = E_laws_toArgS a := (Run_eq cfg 45 _ a).trans (by kernel_rfl)
noncomputable def E_spec_l03Figure (a : List DC) : Out :=
 Out.andThen (if (decide ((a.getD 0 d0).ii ≥ (48 : Int))) = true then
 .norm [.b (decide ((a.getD 0 d0).ii ≤ (57 : Int)))]
 else
 .norm [.b false]) fun v1 =>
 .ret [.b ((v1.getD 0 d0).bb)]
theorem eq_spec_l03Figure a : r_spec_l03Figure a = E_spec_l03Figure a := (Run_eq cfg 39 _ a).trans (by kernel_rfl)
noncomputable def E_spec_l03Letter (a : List DC) : Out :=
 Out.andThen (if (decide ((a.getD 0 d0).ii ≥ (97 : Int))) = true then
 if (decide ((a.getD 0 d0).ii ≤ (122 : Int))) = true then
 .norm [.b true]
 else
 if (decide ((a.getD 0 d0).ii ≥ (65 : Int))) = true then
 if (decide ((a.getD 0 d0).ii ≤ (90 : Int))) = true then
 .norm [.b true]
 else
 .norm [.b ((a.getD 0 d0).ii == (95 : Int))]
 else
 .norm [.b ((a.getD 0 d0).ii == (95 : Int))]
 else
 if (decide ((a.getD 0 d0).ii ≥ (65 : Int))) = true then
 if (decide ((a.getD 0 d0).ii ≤ (90 : Int))) = true then
 .norm [.b true]
 else
 .norm [.b ((a.getD 0 d0).ii == (95 : Int))]
 else
 .norm [.b ((a.getD 0 d0).ii == (95 : Int))]) fun v1 =>
 .ret [.b ((v1.getD 0 d0).bb)]
theorem eq_spec_l03Letter a : r_spec_l03Letter a = E_spec_l03Letter a := (Run_eq cfg 40 _ a).trans (by kernel_rfl)
noncomputable def E_spec_ArgsOkL1 : List DC → Out := fun v1 =>
 if (decide ((v1.getD 1 d0).ii < (((v1.getD 0 d0).ll).length : Int))) = true then
 Out.andThenB (Out.andThen (if 80 = 80 ∧ 0 ≤ (v1.getD 1 d0).ii ∧ (v1.getD 1 d0).ii < (((v1.getD 0 d0).ll).length : Int) then
 (r_spec_NameOk [.s (((((v1.getD 0 d0).ll).getD ((v1.getD 1 d0).ii).toNat []).getD 0 d0).ss)]).bindR fun r2 =>
 if (!((r2.getD 0 d0).bb)) = true then
 .norm [.sl ((v1.getD 0 d0).ll), .i ((v1.getD 1 d0).ii), .b true]
 else
 if 80 = 80 ∧ 0 ≤ (v1.getD 1 d0).ii ∧ (v1.getD 1 d0).ii < (((v1.getD 0 d0).ll).length : Int) then
 (r_spec_ValueOk [.i (((((v1.getD 0 d0).ll).getD ((v1.getD 1 d0).ii).toNat []).getD 1 d0).ii), .s (((((v1.getD 0 d0).ll).getD ((v1.getD 1 d0).ii).toNat []).getD 2 d0).ss), .sl (((((v1.getD 0 d0).ll).getD ((v1.getD 1 d0).ii).toNat []).getD 3 d0).ll), .sl (((((v1.getD 0 d0).ll).getD ((v1.getD 1 d0).ii).toNat []).getD 4 d0).ll)]).bindR fun r3 =>
 .norm [.sl ((v1.getD 0 d0).ll), .i ((v1.getD 1 d0).ii), .b (!((r3.getD 0 d0).bb))]
 else
 .fail
 else
 .fail) fun v4 =>
 if (v4.getD 2 d0).bb = true then
 .ret [.b false]
 else
 .norm [.sl ((v4.getD 0 d0).ll), .i ((v4.getD 1 d0).ii)]) 1 fun v5 =>
 .norm [.sl ((v5.getD 0 d0).ll), .i (IntKind.i64.wrap ((v5.getD 1 d0).ii + (1 : Int)))]
 else
 .ex 0 []
noncomputable def E_spec_ArgsOk (a : List DC) : Out :=
 Out.andThenB (Loop E_spec_ArgsOkL1 [.sl ((a.getD 0 d0).ll), .i (0 : Int)]) 0 fun v6 =>
 .ret [.b true]
theorem eq_spec_ArgsOk a : r_spec_ArgsOk a = E_spec_ArgsOk a := (Run_eq cfg 41 _ a).trans (by kernel_rfl)
noncomputable def E_spec_l11CountL1 : List DC → Out := fun v1 =>
 Out.andThen (if (decide ((v1.getD 1 d0).ii < (((v1.getD 8 d0).ll).length : Int))) = true then
 .norm [.i ((v1.getD 0 d0).ii), .i ((v1.getD 1 d0).ii), .b (decide ((v1.getD 0 d0).ii ≥ (0 : Int))), .i ((v1.getD 2 d0).ii), .s ((v1.getD 3 d0).ss), .s ((v1.getD 4 d0).ss), .s ((v1.getD 5 d0).ss), .sl ((v1.getD 6 d0).ll), .sl ((v1.getD 7 d0).ll), .sl ((v1.getD 8 d0).ll)]
 else
 .norm [.i ((v1.getD 0 d0).ii), .i ((v1.getD 1 d0).ii), .b false, .i ((v1.getD 2 d0).ii), .s ((v1.getD 3 d0).ss), .s ((v1.getD 4 d0).ss), .s ((v1.getD 5 d0).ss), .sl ((v1.getD 6 d0).ll), .sl ((v1.getD 7 d0).ll), .sl ((v1.getD 8 d0).ll)]) fun v2 =>
 if (v2.getD 2 d0).bb = true then
 Out.andThenB (if 64 = 64 ∧ 0 ≤ (v2.getD 1 d0).ii ∧ (v2.getD 1 d0).ii < (((v2.getD 9 d0).ll).length : Int) then
 (r_spec_l11Count [.i (((((v2.getD 9 d0).ll).getD ((v2.getD 1 d0).ii).toNat []).getD 0 d0).ii), .s (((((v2.getD 9 d0).ll).getD ((v2.getD 1 d0).ii).toNat []).getD 1 d0).ss), .s (((((v2.getD 9 d0).ll).getD ((v2.getD 1 d0).ii).toNat []).getD 2 d0).ss), .s (((((v2.getD 9 d0).ll).getD ((v2.getD 1 d0).ii).toNat []).getD 3 d0).ss), .sl (((((v2.getD 9 d0).ll).getD ((v2.getD 1 d0).ii).toNat []).getD 4 d0).ll), .sl (((((v2.getD 9 d0).ll).getD ((v2.getD 1 d0).ii).toNat []).getD 5 d0).ll), .sl (((((v2.getD 9 d0).ll).getD ((v2.getD 1 d0).ii).toNat []).getD 6 d0).ll), .i ((v2.getD 0 d0).ii)]).bindR fun r3 =>
 .norm [.i ((r3.getD 0 d0).ii), .i ((v2.getD 1 d0).ii), .i ((v2.getD 3 d0).ii), .s ((v2.getD 4 d0).ss), .s ((v2.getD 5 d0).ss), .s ((v2.getD 6 d0).ss), .sl ((v2.getD 7 d0).ll), .sl ((v2.getD 8 d0).ll), .sl ((v2.getD 9 d0).ll)]
 else
 .fail) 1 fun v4 =>
 .norm [.i ((v4.getD 0 d0).ii), .i (IntKind.i64.wrap ((v4.getD 1 d0).ii + (1 : Int))), .i ((v4.getD 2 d0).ii), .s ((v4.getD 3 d0).ss), .s ((v4.getD 4 d0).ss), .s ((v4.getD 5 d0).ss), .sl ((v4.getD 6 d0).ll), .sl ((v4.getD 7 d0).ll), .sl ((v4.getD 8 d0).ll)]
 else
 .ex 0 [.i ((v2.getD 0 d0).ii)]
noncomputable def E_spec_l11Count (a : List DC) : Out :=
 Out.andThenB (Loop E_spec_l11CountL1 [.i (IntKind.i64.wrap ((a.getD 7 d0).ii - (1 : Int))), .i (0 : Int), .i ((a.getD 0 d0).ii), .s ((a.getD 1 d0).ss), .s ((a.getD 2 d0).ss), .s ((a.getD 3 d0).ss), .sl ((a.getD 4 d0).ll), .sl ((a.getD 5 d0).ll), .sl ((a.getD 6 d0).ll)]) 0 fun v5 =>
 .ret [.i ((v5.getD 0 d0).ii)]
theorem eq_spec_l11Count a : r_spec_l11Count a = E_spec_l11Count a := (Run_eq cfg 42 _ a).trans (by kernel_rfl)
noncomputable def E_spec_l11RightL1 : List DC → Out := fun v5 =>
 if (decide ((v5.getD 1 d0).ii < (((v5.getD 8 d0).ll).length : Int))) = true then
 Out.andThenB (if 64 = 64 ∧ 0 ≤ (v5.getD 1 d0).ii ∧ (v5.getD 1 d0).ii < (((v5.getD 8 d0).ll).length : Int) then
 (r_spec_l11Right [.i (((((v5.getD 8 d0).ll).getD ((v5.getD 1 d0).ii).toNat []).getD 0 d0).ii), .s (((((v5.getD 8 d0).ll).getD ((v5.getD 1 d0).ii).toNat []).getD 1 d0).ss), .s (((((v5.getD 8 d0).ll).getD ((v5.getD 1 d0).ii).toNat []).getD 2 d0).ss), .s (((((v5.getD 8 d0).ll).getD ((v5.getD 1 d0).ii).toNat []).getD 3 d0).ss), .sl (((((v5.getD 8 d0).ll).getD ((v5.getD 1 d0).ii).toNat []).getD 4 d0).ll), .sl (((((v5.getD 8 d0).ll).getD ((v5.getD 1 d0).ii).toNat []).getD 5 d0).ll), .sl (((((v5.getD 8 d0).ll).getD ((v5.getD 1 d0).ii).toNat []).getD 6 d0).ll), .i (IntKind.i64.wrap ((v5.getD 0 d0).ii - (1 : Int)))]).bindR fun r6 =>
 if (!((r6.getD 0 d0).bb)) = true then
 .ret [.b false]
 else
 .norm [.i ((v5.getD 0 d0).ii), .i ((v5.getD 1 d0).ii), .i ((v5.getD 2 d0).ii), .s ((v5.getD 3 d0).ss), .s ((v5.getD 4 d0).ss), .s ((v5.getD 5 d0).ss), .sl ((v5.getD 6 d0).ll), .sl ((v5.getD 7 d0).ll), .sl ((v5.getD 8 d0).ll)]
 else
 .fail) 1 fun v7 =>
 .norm [.i ((v7.getD 0 d0).ii), .i (IntKind.i64.wrap ((v7.getD 1 d0).ii + (1 : Int))), .i ((v7.getD 2 d0).ii), .s ((v7.getD 3 d0).ss), .s ((v7.getD 4 d0).ss), .s ((v7.getD 5 d0).ss), .sl ((v7.getD 6 d0).ll), .sl ((v7.getD 7 d0).ll), .sl ((v7.getD 8 d0).ll)]
 else
 .ex 0 []
noncomputable def E_spec_l11Right (a : List DC) : Out :=
 Out.andThen (if ((a.getD 7 d0).ii == (0 : Int)) = true then
 .norm [.i ((a.getD 7 d0).ii), .b true, .i ((a.getD 0 d0).ii), .s ((a.getD 1 d0).ss), .s ((a.getD 2 d0).ss), .s ((a.getD 3 d0).ss), .sl ((a.getD 4 d0).ll), .sl ((a.getD 5 d0).ll), .sl ((a.getD 6 d0).ll)]
 else
 (r_spec_l11Names [.i ((a.getD 0 d0).ii), .s ((a.getD 1 d0).ss), .s ((a.getD 2 d0).ss), .s ((a.getD 3 d0).ss), .sl ((a.getD 4 d0).ll), .sl ((a.getD 5 d0).ll), .sl ((a.getD 6 d0).ll)]).bindR fun r1 =>
 if (!((r1.getD 0 d0).bb)) = true then
 .norm [.i ((a.getD 7 d0).ii), .b true, .i ((a.getD 0 d0).ii), .s ((a.getD 1 d0).ss), .s ((a.getD 2 d0).ss), .s ((a.getD 3 d0).ss), .sl ((a.getD 4 d0).ll), .sl ((a.getD 5 d0).ll), .sl ((a.getD 6 d0).ll)]
 else
 (r_spec_ArgsOk [.sl ((a.getD 4 d0).ll)]).bindR fun r2 =>
 if (!((r2.getD 0 d0).bb)) = true then
 .norm [.i ((a.getD 7 d0).ii), .b true, .i ((a.getD 0 d0).ii), .s ((a.getD 1 d0).ss), .s ((a.getD 2 d0).ss), .s ((a.getD 3 d0).ss), .sl ((a.getD 4 d0).ll), .sl ((a.getD 5 d0).ll), .sl ((a.getD 6 d0).ll)]
 else
 (r_spec_DirsOk [.sl ((a.getD 5 d0).ll)]).bindR fun r3 =>
 .norm [.i ((a.getD 7 d0).ii), .b (!((r3.getD 0 d0).bb)), .i ((a.getD 0 d0).ii), .s ((a.getD 1 d0).ss), .s ((a.getD 2 d0).ss), .s ((a.getD 3 d0).ss), .sl ((a.getD 4 d0).ll), .sl ((a.getD 5 d0).ll), .sl ((a.getD 6 d0).ll)]) fun v4 =>
 if (v4.getD 1 d0).bb = true then
 .ret [.b false]
 else
 Out.andThenB (Loop E_spec_l11RightL1 [.i ((v4.getD 0 d0).ii), .i (0 : Int), .i ((v4.getD 2 d0).ii), .s ((v4.getD 3 d0).ss), .s ((v4.getD 4 d0).ss), .s ((v4.getD 5 d0).ss), .sl ((v4.getD 6 d0).ll), .sl ((v4.getD 7 d0).ll), .sl ((v4.getD 8 d0).ll)]) 0 fun v8 =>
 .ret [.b true]
theorem eq_spec_l11Right a : r_spec_l11Right a = E_spec_l11Right a := (Run_eq cfg 43 _ a).trans (by kernel_rfl)
noncomputable def E_spec_l07SayL1 : List DC → Out := fun v4 =>
 if (decide ((v4.getD 2 d0).ii < (((v4.getD 5 d0).ll).length : Int))) = true then
 Out.andThenB (Out.andThen (if (decide ((v4.getD 2 d0).ii > (0 : Int))) = true then
 if ((v4.getD 0 d0).ll).length + [[DC.i (44 : Int)], [DC.i (32 : Int)]].length < LIM then
 .norm [.sl (((v4.getD 0 d0).ll) ++ [[DC.i (44 : Int)], [DC.i (32 : Int)]]), .i ((v4.getD 1 d0).ii), .i ((v4.getD 2 d0).ii), .i ((v4.getD 3 d0).ii), .s ((v4.getD 4 d0).ss), .sl ((v4.getD 5 d0).ll), .sl ((v4.getD 6 d0).ll)]
 else
 .fail
 else
 .norm [.sl ((v4.getD 0 d0).ll), .i ((v4.getD 1 d0).ii), .i ((v4.getD 2 d0).ii), .i ((v4.getD 3 d0).ii), .s ((v4.getD 4 d0).ss), .sl ((v4.getD 5 d0).ll), .sl ((v4.getD 6 d0).ll)]) fun v5 =>
 Out.andThen (if ((v5.getD 3 d0).ii == (8 : Int)) = true then
 if 9 = 9 ∧ 0 ≤ (v5.getD 2 d0).ii ∧ (v5.getD 2 d0).ii < (((v5.getD 6 d0).ll).length : Int) then
 if ((v5.getD 0 d0).ll).length + (bytesRow (((((v5.getD 6 d0).ll).getD ((v5.getD 2 d0).ii).toNat []).getD 0 d0).ss)).length < LIM then
 if (((v5.getD 0 d0).ll) ++ (bytesRow (((((v5.getD 6 d0).ll).getD ((v5.getD 2 d0).ii).toNat []).getD 0 d0).ss))).length + [[DC.i (58 : Int)], [DC.i (32 : Int)]].length < LIM then
 .norm [.sl ((((v5.getD 0 d0).ll) ++ (bytesRow (((((v5.getD 6 d0).ll).getD ((v5.getD 2 d0).ii).toNat []).getD 0 d0).ss))) ++ [[DC.i (58 : Int)], [DC.i (32 : Int)]]), .i ((v5.getD 1 d0).ii), .i ((v5.getD 2 d0).ii), .i ((v5.getD 3 d0).ii), .s ((v5.getD 4 d0).ss), .sl ((v5.getD 5 d0).ll), .sl ((v5.getD 6 d0).ll)]
 else
 .fail
 else
 .fail
 else
 .fail
 else
 .norm [.sl ((v5.getD 0 d0).ll), .i ((v5.getD 1 d0).ii), .i ((v5.getD 2 d0).ii), .i ((v5.getD 3 d0).ii), .s ((v5.getD 4 d0).ss), .sl ((v5.getD 5 d0).ll), .sl ((v5.getD 6 d0).ll)]) fun v6 =>
 if 78 = 78 ∧ 0 ≤ (v6.getD 2 d0).ii ∧ (v6.getD 2 d0).ii < (((v6.getD 5 d0).ll).length : Int) then
 (r_spec_l07Say [.sl ((v6.getD 0 d0).ll), .i (((((v6.getD 5 d0).ll).getD ((v6.getD 2 d0).ii).toNat []).getD 0 d0).ii), .s (((((v6.getD 5 d0).ll).getD ((v6.getD 2 d0).ii).toNat []).getD 1 d0).ss), .sl (((((v6.getD 5 d0).ll).getD ((v6.getD 2 d0).ii).toNat []).getD 2 d0).ll), .sl (((((v6.getD 5 d0).ll).getD ((v6.getD 2 d0).ii).toNat []).getD 3 d0).ll)]).bindR fun r7 =>
 .norm [.sl ((r7.getD 0 d0).ll), .i ((v6.getD 1 d0).ii), .i ((v6.getD 2 d0).ii), .i ((v6.getD 3 d0).ii), .s ((v6.getD 4 d0).ss), .sl ((v6.getD 5 d0).ll), .sl ((v6.getD 6 d0).ll)]
 else
 .fail) 2 fun v8 =>
 .norm [.sl ((v8.getD 0 d0).ll), .i ((v8.getD 1 d0).ii), .i (IntKind.i64.wrap ((v8.getD 2 d0).ii + (1 : Int))), .i ((v8.getD 3 d0).ii), .s ((v8.getD 4 d0).ss), .sl ((v8.getD 5 d0).ll), .sl ((v8.getD 6 d0).ll)]
 else
 .ex 1 [.sl ((v4.getD 0 d0).ll), .i ((v4.getD 1 d0).ii)]
noncomputable def E_spec_l07Say (a : List DC) : Out :=
 Out.andThenB (if ((a.getD 1 d0).ii == (1 : Int)) = true then
 if ((a.getD 0 d0).ll).length + [[DC.i (36 : Int)]].length < LIM then
 if (((a.getD 0 d0).ll) ++ [[DC.i (36 : Int)]]).length + (bytesRow ((a.getD 2 d0).ss)).length < LIM then
 .ret [.sl ((((a.getD 0 d0).ll) ++ [[DC.i (36 : Int)]]) ++ (bytesRow ((a.getD 2 d0).ss)))]
 else
 .fail
 else
 .fail
 else
 if ((a.getD 1 d0).ii == (4 : Int)) = true then
 (r_spec_Escaped [.s ((a.getD 2 d0).ss)]).bindR fun r1 =>
 if ((a.getD 0 d0).ll).length + (bytesRow ((r1.getD 0 d0).ss)).length < LIM then
 .ret [.sl (((a.getD 0 d0).ll) ++ (bytesRow ((r1.getD 0 d0).ss)))]
 else
 .fail
 else
 Out.andThen (if ((a.getD 1 d0).ii == (7 : Int)) = true then
 .norm [.sl ((a.getD 0 d0).ll), .b ((a.getD 1 d0).ii == (7 : Int)), .i ((a.getD 1 d0).ii), .s ((a.getD 2 d0).ss), .sl ((a.getD 3 d0).ll), .sl ((a.getD 4 d0).ll)]
 else
 .norm [.sl ((a.getD 0 d0).ll), .b ((a.getD 1 d0).ii == (8 : Int)), .i ((a.getD 1 d0).ii), .s ((a.getD 2 d0).ss), .sl ((a.getD 3 d0).ll), .sl ((a.getD 4 d0).ll)]) fun v2 =>
 if (v2.getD 1 d0).bb = true then
 Out.andThen (if ((v2.getD 2 d0).ii == (8 : Int)) = true then
 .norm [.sl ((v2.getD 0 d0).ll), .i (123 : Int), .i (125 : Int), .i ((v2.getD 2 d0).ii), .s ((v2.getD 3 d0).ss), .sl ((v2.getD 4 d0).ll), .sl ((v2.getD 5 d0).ll)]
 else
 .norm [.sl ((v2.getD 0 d0).ll), .i (91 : Int), .i (93 : Int), .i ((v2.getD 2 d0).ii), .s ((v2.getD 3 d0).ss), .sl ((v2.getD 4 d0).ll), .sl ((v2.getD 5 d0).ll)]) fun v3 =>
 if ((v3.getD 0 d0).ll).length + [[DC.i ((v3.getD 1 d0).ii)]].length < LIM then
 Out.andThenB (Loop E_spec_l07SayL1 [.sl (((v3.getD 0 d0).ll) ++ [[DC.i ((v3.getD 1 d0).ii)]]), .i ((v3.getD 2 d0).ii), .i (0 : Int), .i ((v3.getD 3 d0).ii), .s ((v3.getD 4 d0).ss), .sl ((v3.getD 5 d0).ll), .sl ((v3.getD 6 d0).ll)]) 1 fun v9 =>
 if ((v9.getD 0 d0).ll).length + [[DC.i ((v9.getD 1 d0).ii)]].length < LIM then
 .ret [.sl (((v9.getD 0 d0).ll) ++ [[DC.i ((v9.getD 1 d0).ii)]])]
 else
 .fail
 else
 .fail
 else
 .norm [.sl ((v2.getD 0 d0).ll), .i ((v2.getD 2 d0).ii), .s ((v2.getD 3 d0).ss), .sl ((v2.getD 4 d0).ll), .sl ((v2.getD 5 d0).ll)]) 0 fun v10 =>
 if ((v10.getD 0 d0).ll).length + (bytesRow ((v10.getD 2 d0).ss)).length < LIM then
 .ret [.sl (((v10.getD 0 d0).ll) ++ (bytesRow ((v10.getD 2 d0).ss)))]
 else
 .fail
theorem eq_spec_l07Say a : r_spec_l07Say a = E_spec_l07Say a := (Run_eq cfg 44 _ a).trans (by kernel_rfl)
noncomputable def E_impl_in (a : List DC) : Out :=
 Out.andThen (if (decide ((a.getD 0 d0).ii ≥ (a.getD 1 d0).ii)) = true then
 .norm [.b (decide ((a.getD 0 d0).ii ≤ (a.getD 2 d0).ii))]
 else
 .norm [.b false]) fun v1 =>
 .ret [.b ((v1.getD 0 d0).bb)]
theorem eq_impl_in a : r_impl_in a = E_impl_in a := (Run_eq cfg 46 _ a).trans (by kernel_rfl)
noncomputable def E_impl_isFigure (a : List DC) : Out :=
 Out.andThen (if (decide ((a.getD 0 d0).ii ≥ (48 : Int))) = true then
 .norm [.b (decide ((a.getD 0 d0).ii ≤ (57 : Int)))]
 else
 .norm [.b false]) fun v1 =>
 .ret [.b ((v1.getD 0 d0).bb)]
theorem eq_impl_isFigure a : r_impl_isFigure a = E_impl_isFigure a := (Run_eq cfg 47 _ a).trans (by kernel_rfl)
noncomputable def E_impl_inName (a : List DC) : Out :=
 Out.andThen ((r_impl_isLetter [.i ((a.getD 0 d0).ii)]).bindR fun r1 =>
 if (r1.getD 0 d0).bb = true then
 .norm [.b true]
 else
 (r_impl_isFigure [.i ((a.getD 0 d0).ii)]).bindR fun r2 =>
 if (r2.getD 0 d0).bb = true then
 .norm [.b true]
 else
 .norm [.b ((a.getD 0 d0).ii == (95 : Int))]) fun v3 =>
 .ret [.b ((v3.getD 0 d0).bb)]
theorem eq_impl_inName a : r_impl_inName a = E_impl_inName a := (Run_eq cfg 48 _ a).trans (by kernel_rfl)
noncomputable def E_slices_ContainsFunc_impl_Dir__impl_DirsOk_1 (a : List DC) : Out :=
 (r_slices_IndexFunc_impl_Dir__impl_DirsOk_1 [.sl ((a.getD 0 d0).ll)]).bindR fun r1 =>
 .ret [.b (decide ((r1.getD 0 d0).ii ≥ (0 : Int)))]
theorem eq_slices_ContainsFunc_impl_Dir__impl_DirsOk_1 a : r_slices_ContainsFunc_impl_Dir__impl_DirsOk_1 a = E_slices_ContainsFunc_impl_Dir__impl_DirsOk_1 a := (Run_eq cfg 49 _ a).trans (by kernel_rfl)
noncomputable def E_impl_bound_selOkL1 : List DC → Out := fun v16 =>
 if (decide ((v16.getD 3 d0).ii < (v16.getD 2 d0).ii)) = true then
 Out.andThenB (if 64 = 64 ∧ 0 ≤ (v16.getD 3 d0).ii ∧ (v16.getD 3 d0).ii < (((v16.getD 1 d0).ll).length : Int) then
 (r_impl_bound_selOk [.i (((((v16.getD 1 d0).ll).getD ((v16.getD 3 d0).ii).toNat []).getD 0 d0).ii), .s (((((v16.getD 1 d0).ll).getD ((v16.getD 3 d0).ii).toNat []).getD 1 d0).ss), .s (((((v16.getD 1 d0).ll).getD ((v16.getD 3 d0).ii).toNat []).getD 2 d0).ss), .s (((((v16.getD 1 d0).ll).getD ((v16.getD 3 d0).ii).toNat []).getD 3 d0).ss), .sl (((((v16.getD 1 d0).ll).getD ((v16.getD 3 d0).ii).toNat []).getD 4 d0).ll), .sl (((((v16.getD 1 d0).ll).getD ((v16.getD 3 d0).ii).toNat []).getD 5 d0).ll), .sl (((((v16.getD 1 d0).ll).getD ((v16.getD 3 d0).ii).toNat []).getD 6 d0).ll), .i (IntKind.i64.wrap ((v16.getD 0 d0).ii - (1 : Int))), .i ((v16.getD 4 d0).ii)]).bindR fun r17 =>
 if (!((r17.getD 0 d0).bb)) = true then
 .ret [.b false, .i ((r17.getD 1 d0).ii)]
 else
 .norm [.i ((v16.getD 0 d0).ii), .sl ((v16.getD 1 d0).ll), .i ((v16.getD 2 d0).ii), .i ((v16.getD 3 d0).ii), .i ((r17.getD 1 d0).ii)]
 else
 .fail) 2 fun v18 =>
 .norm [.i ((v18.getD 0 d0).ii), .sl ((v18.getD 1 d0).ll), .i ((v18.getD 2 d0).ii), .i (IntKind.i64.wrap ((v18.getD 3 d0).ii + (1 : Int))), .i ((v18.getD 4 d0).ii)]
 else
 .ex 1 [.i ((v16.getD 4 d0).ii)]
noncomputable def E_impl_bound_selOk (a : List DC) : Out :=
 Out.andThen (if (decide ((IntKind.i64.wrap ((a.getD 8 d0).ii - (1 : Int))) < (0 : Int))) = true then
 .norm [.i ((a.getD 7 d0).ii), .b true, .i (IntKind.i64.wrap ((a.getD 8 d0).ii - (1 : Int))), .i ((a.getD 0 d0).ii), .s ((a.getD 1 d0).ss), .s ((a.getD 2 d0).ss), .s ((a.getD 3 d0).ss), .sl ((a.getD 4 d0).ll), .sl ((a.getD 5 d0).ll), .sl ((a.getD 6 d0).ll)]
 else
 if ((a.getD 7 d0).ii == (0 : Int)) = true then
 .norm [.i ((a.getD 7 d0).ii), .b true, .i (IntKind.i64.wrap ((a.getD 8 d0).ii - (1 : Int))), .i ((a.getD 0 d0).ii), .s ((a.getD 1 d0).ss), .s ((a.getD 2 d0).ss), .s ((a.getD 3 d0).ss), .sl ((a.getD 4 d0).ll), .sl ((a.getD 5 d0).ll), .sl ((a.getD 6 d0).ll)]
 else
 (r_impl_DirsOk [.sl ((a.getD 5 d0).ll)]).bindR fun r1 =>
 .norm [.i ((a.getD 7 d0).ii), .b (!((r1.getD 0 d0).bb)), .i (IntKind.i64.wrap ((a.getD 8 d0).ii - (1 : Int))), .i ((a.getD 0 d0).ii), .s ((a.getD 1 d0).ss), .s ((a.getD 2 d0).ss), .s ((a.getD 3 d0).ss), .sl ((a.getD 4 d0).ll), .sl ((a.getD 5 d0).ll), .sl ((a.getD 6 d0).ll)]) fun v2 =>
 if (v2.getD 1 d0).bb = true then
 .ret [.b false, .i ((v2.getD 2 d0).ii)]
 else
 Out.andThenB (Out.andThen (if ((v2.getD 3 d0).ii == (1 : Int)) = true then
 Out.andThen ((r_impl_NameOk [.s ((v2.getD 5 d0).ss)]).bindR fun r3 =>
 if (r3.getD 0 d0).bb = true then
 if ((v2.getD 4 d0).ss == ([] : List UInt8)) = true then
 if ((v2.getD 6 d0).ss == ([] : List UInt8)) = true then
 (r_impl_ArgsOk [.sl ((v2.getD 7 d0).ll)]).bindR fun r4 =>
 .norm [.i ((v2.getD 0 d0).ii), .b ((r4.getD 0 d0).bb), .i ((v2.getD 2 d0).ii), .i ((v2.getD 3 d0).ii), .s ((v2.getD 4 d0).ss), .s ((v2.getD 5 d0).ss), .s ((v2.getD 6 d0).ss), .sl ((v2.getD 7 d0).ll), .sl ((v2.getD 8 d0).ll), .sl ((v2.getD 9 d0).ll)]
 else
 .norm [.i ((v2.getD 0 d0).ii), .b false, .i ((v2.getD 2 d0).ii), .i ((v2.getD 3 d0).ii), .s ((v2.getD 4 d0).ss), .s ((v2.getD 5 d0).ss), .s ((v2.getD 6 d0).ss), .sl ((v2.getD 7 d0).ll), .sl ((v2.getD 8 d0).ll), .sl ((v2.getD 9 d0).ll)]
 else
 (r_impl_NameOk [.s ((v2.getD 4 d0).ss)]).bindR fun r5 =>
 if (r5.getD 0 d0).bb = true then
 if ((v2.getD 6 d0).ss == ([] : List UInt8)) = true then
 (r_impl_ArgsOk [.sl ((v2.getD 7 d0).ll)]).bindR fun r6 =>
 .norm [.i ((v2.getD 0 d0).ii), .b ((r6.getD 0 d0).bb), .i ((v2.getD 2 d0).ii), .i ((v2.getD 3 d0).ii), .s ((v2.getD 4 d0).ss), .s ((v2.getD 5 d0).ss), .s ((v2.getD 6 d0).ss), .sl ((v2.getD 7 d0).ll), .sl ((v2.getD 8 d0).ll), .sl ((v2.getD 9 d0).ll)]
 else
 .norm [.i ((v2.getD 0 d0).ii), .b false, .i ((v2.getD 2 d0).ii), .i ((v2.getD 3 d0).ii), .s ((v2.getD 4 d0).ss), .s ((v2.getD 5 d0).ss), .s ((v2.getD 6 d0).ss), .sl ((v2.getD 7 d0).ll), .sl ((v2.getD 8 d0).ll), .sl ((v2.getD 9 d0).ll)]
 else
 .norm [.i ((v2.getD 0 d0).ii), .b false, .i ((v2.getD 2 d0).ii), .i ((v2.getD 3 d0).ii), .s ((v2.getD 4 d0).ss), .s ((v2.getD 5 d0).ss), .s ((v2.getD 6 d0).ss), .sl ((v2.getD 7 d0).ll), .sl ((v2.getD 8 d0).ll), .sl ((v2.getD 9 d0).ll)]
 else
 .norm [.i ((v2.getD 0 d0).ii), .b false, .i ((v2.getD 2 d0).ii), .i ((v2.getD 3 d0).ii), .s ((v2.getD 4 d0).ss), .s ((v2.getD 5 d0).ss), .s ((v2.getD 6 d0).ss), .sl ((v2.getD 7 d0).ll), .sl ((v2.getD 8 d0).ll), .sl ((v2.getD 9 d0).ll)]) fun v7 =>
 .norm [.i ((v7.getD 0 d0).ii), .b ((v7.getD 1 d0).bb), .i ((v7.getD 2 d0).ii), .i ((v7.getD 3 d0).ii), .s ((v7.getD 4 d0).ss), .s ((v7.getD 5 d0).ss), .s ((v7.getD 6 d0).ss), .sl ((v7.getD 7 d0).ll), .sl ((v7.getD 8 d0).ll), .sl ((v7.getD 9 d0).ll)]
 else
 Out.andThen (if ((v2.getD 3 d0).ii == (2 : Int)) = true then
 Out.andThen ((r_impl_NameOk [.s ((v2.getD 5 d0).ss)]).bindR fun r8 =>
 if (r8.getD 0 d0).bb = true then
 if (!((v2.getD 5 d0).ss == ([111, 110] : List UInt8))) = true then
 if ((v2.getD 4 d0).ss == ([] : List UInt8)) = true then
 if ((v2.getD 6 d0).ss == ([] : List UInt8)) = true then
 if ((((v2.getD 7 d0).ll).length : Int) == (0 : Int)) = true then
 .norm [.i ((v2.getD 0 d0).ii), .b ((((v2.getD 9 d0).ll).length : Int) == (0 : Int)), .i ((v2.getD 2 d0).ii), .i ((v2.getD 3 d0).ii), .s ((v2.getD 4 d0).ss), .s ((v2.getD 5 d0).ss), .s ((v2.getD 6 d0).ss), .sl ((v2.getD 7 d0).ll), .sl ((v2.getD 8 d0).ll), .sl ((v2.getD 9 d0).ll)]
 else
 .norm [.i ((v2.getD 0 d0).ii), .b false, .i ((v2.getD 2 d0).ii), .i ((v2.getD 3 d0).ii), .s ((v2.getD 4 d0).ss), .s ((v2.getD 5 d0).ss), .s ((v2.getD 6 d0).ss), .sl ((v2.getD 7 d0).ll), .sl ((v2.getD 8 d0).ll), .sl ((v2.getD 9 d0).ll)]
 else
 .norm [.i ((v2.getD 0 d0).ii), .b false, .i ((v2.getD 2 d0).ii), .i ((v2.getD 3 d0).ii), .s ((v2.getD 4 d0).ss), .s ((v2.getD 5 d0).ss), .s ((v2.getD 6 d0).ss), .sl ((v2.getD 7 d0).ll), .sl ((v2.getD 8 d0).ll), .sl ((v2.getD 9 d0).ll)]
 else
 .norm [.i ((v2.getD 0 d0).ii), .b false, .i ((v2.getD 2 d0).ii), .i ((v2.getD 3 d0).ii), .s ((v2.getD 4 d0).ss), .s ((v2.getD 5 d0).ss), .s ((v2.getD 6 d0).ss), .sl ((v2.getD 7 d0).ll), .sl ((v2.getD 8 d0).ll), .sl ((v2.getD 9 d0).ll)]
 else
 .norm [.i ((v2.getD 0 d0).ii), .b false, .i ((v2.getD 2 d0).ii), .i ((v2.getD 3 d0).ii), .s ((v2.getD 4 d0).ss), .s ((v2.getD 5 d0).ss), .s ((v2.getD 6 d0).ss), .sl ((v2.getD 7 d0).ll), .sl ((v2.getD 8 d0).ll), .sl ((v2.getD 9 d0).ll)]
 else
 .norm [.i ((v2.getD 0 d0).ii), .b false, .i ((v2.getD 2 d0).ii), .i ((v2.getD 3 d0).ii), .s ((v2.getD 4 d0).ss), .s ((v2.getD 5 d0).ss), .s ((v2.getD 6 d0).ss), .sl ((v2.getD 7 d0).ll), .sl ((v2.getD 8 d0).ll), .sl ((v2.getD 9 d0).ll)]) fun v9 =>
 .norm [.i ((v9.getD 0 d0).ii), .b ((v9.getD 1 d0).bb), .i ((v9.getD 2 d0).ii), .i ((v9.getD 3 d0).ii), .s ((v9.getD 4 d0).ss), .s ((v9.getD 5 d0).ss), .s ((v9.getD 6 d0).ss), .sl ((v9.getD 7 d0).ll), .sl ((v9.getD 8 d0).ll), .sl ((v9.getD 9 d0).ll)]
 else
 Out.andThen (if ((v2.getD 3 d0).ii == (3 : Int)) = true then
 Out.andThen (if ((v2.getD 5 d0).ss == ([] : List UInt8)) = true then
 if ((v2.getD 4 d0).ss == ([] : List UInt8)) = true then
 if ((v2.getD 6 d0).ss == ([] : List UInt8)) = true then
 if ((((v2.getD 7 d0).ll).length : Int) == (0 : Int)) = true then
 .norm [.i ((v2.getD 0 d0).ii), .b (decide ((((v2.getD 9 d0).ll).length : Int) > (0 : Int))), .i ((v2.getD 2 d0).ii), .i ((v2.getD 3 d0).ii), .s ((v2.getD 4 d0).ss), .s ((v2.getD 5 d0).ss), .s ((v2.getD 6 d0).ss), .sl ((v2.getD 7 d0).ll), .sl ((v2.getD 8 d0).ll), .sl ((v2.getD 9 d0).ll)]
 else
 .norm [.i ((v2.getD 0 d0).ii), .b false, .i ((v2.getD 2 d0).ii), .i ((v2.getD 3 d0).ii), .s ((v2.getD 4 d0).ss), .s ((v2.getD 5 d0).ss), .s ((v2.getD 6 d0).ss), .sl ((v2.getD 7 d0).ll), .sl ((v2.getD 8 d0).ll), .sl ((v2.getD 9 d0).ll)]
 else
 (r_impl_NameOk [.s ((v2.getD 6 d0).ss)]).bindR fun r10 =>
 if (r10.getD 0 d0).bb = true then
 if ((((v2.getD 7 d0).ll).length : Int) == (0 : Int)) = true then
 .norm [.i ((v2.getD 0 d0).ii), .b (decide ((((v2.getD 9 d0).ll).length : Int) > (0 : Int))), .i ((v2.getD 2 d0).ii), .i ((v2.getD 3 d0).ii), .s ((v2.getD 4 d0).ss), .s ((v2.getD 5 d0).ss), .s ((v2.getD 6 d0).ss), .sl ((v2.getD 7 d0).ll), .sl ((v2.getD 8 d0).ll), .sl ((v2.getD 9 d0).ll)]
 else
 .norm [.i ((v2.getD 0 d0).ii), .b false, .i ((v2.getD 2 d0).ii), .i ((v2.getD 3 d0).ii), .s ((v2.getD 4 d0).ss), .s ((v2.getD 5 d0).ss), .s ((v2.getD 6 d0).ss), .sl ((v2.getD 7 d0).ll), .sl ((v2.getD 8 d0).ll), .sl ((v2.getD 9 d0).ll)]
 else
 .norm [.i ((v2.getD 0 d0).ii), .b false, .i ((v2.getD 2 d0).ii), .i ((v2.getD 3 d0).ii), .s ((v2.getD 4 d0).ss), .s ((v2.getD 5 d0).ss), .s ((v2.getD 6 d0).ss), .sl ((v2.getD 7 d0).ll), .sl ((v2.getD 8 d0).ll), .sl ((v2.getD 9 d0).ll)]
 else
 .norm [.i ((v2.getD 0 d0).ii), .b false, .i ((v2.getD 2 d0).ii), .i ((v2.getD 3 d0).ii), .s ((v2.getD 4 d0).ss), .s ((v2.getD 5 d0).ss), .s ((v2.getD 6 d0).ss), .sl ((v2.getD 7 d0).ll), .sl ((v2.getD 8 d0).ll), .sl ((v2.getD 9 d0).ll)]
 else
 .norm [.i ((v2.getD 0 d0).ii), .b false, .i ((v2.getD 2 d0).ii), .i ((v2.getD 3 d0).ii), .s ((v2.getD 4 d0).ss), .s ((v2.getD 5 d0).ss), .s ((v2.getD 6 d0).ss), .sl ((v2.getD 7 d0).ll), .sl ((v2.getD 8 d0).ll), .sl ((v2.getD 9 d0).ll)]) fun v11 =>
 .norm [.i ((v11.getD 0 d0).ii), .b ((v11.getD 1 d0).bb), .i ((v11.getD 2 d0).ii), .i ((v11.getD 3 d0).ii), .s ((v11.getD 4 d0).ss), .s ((v11.getD 5 d0).ss), .s ((v11.getD 6 d0).ss), .sl ((v11.getD 7 d0).ll), .sl ((v11.getD 8 d0).ll), .sl ((v11.getD 9 d0).ll)]
 else
 .norm [.i ((v2.getD 0 d0).ii), .b false, .i ((v2.getD 2 d0).ii), .i ((v2.getD 3 d0).ii), .s ((v2.getD 4 d0).ss), .s ((v2.getD 5 d0).ss), .s ((v2.getD 6 d0).ss), .sl ((v2.getD 7 d0).ll), .sl ((v2.getD 8 d0).ll), .sl ((v2.getD 9 d0).ll)]) fun v12 =>
 .norm [.i ((v12.getD 0 d0).ii), .b ((v12.getD 1 d0).bb), .i ((v12.getD 2 d0).ii), .i ((v12.getD 3 d0).ii), .s ((v12.getD 4 d0).ss), .s ((v12.getD 5 d0).ss), .s ((v12.getD 6 d0).ss), .sl ((v12.getD 7 d0).ll), .sl ((v12.getD 8 d0).ll), .sl ((v12.getD 9 d0).ll)]) fun v13 =>
 .norm [.i ((v13.getD 0 d0).ii), .b ((v13.getD 1 d0).bb), .i ((v13.getD 2 d0).ii), .i ((v13.getD 3 d0).ii), .s ((v13.getD 4 d0).ss), .s ((v13.getD 5 d0).ss), .s ((v13.getD 6 d0).ss), .sl ((v13.getD 7 d0).ll), .sl ((v13.getD 8 d0).ll), .sl ((v13.getD 9 d0).ll)]) fun v14 =>
 .norm [.i ((v14.getD 0 d0).ii), .b ((v14.getD 1 d0).bb), .i ((v14.getD 2 d0).ii), .i ((v14.getD 3 d0).ii), .s ((v14.getD 4 d0).ss), .s ((v14.getD 5 d0).ss), .s ((v14.getD 6 d0).ss), .sl ((v14.getD 7 d0).ll), .sl ((v14.getD 8 d0).ll), .sl ((v14.getD 9 d0).ll)]) 0 fun v15 =>
 if (!((v15.getD 1 d0).bb)) = true then
 .ret [.b false, .i ((v15.getD 2 d0).ii)]
 else
 Out.andThenB (Loop E_impl_bound_selOkL1 [.i ((v15.getD 0 d0).ii), .sl ((v15.getD 9 d0).ll), .i (((v15.getD 9 d0).ll).length : Int), .i (0 : Int), .i ((v15.getD 2 d0).ii)]) 1 fun v19 =>
 .ret [.b true, .i ((v19.getD 0 d0).ii)]
theorem eq_impl_bound_selOk a : r_impl_bound_selOk a = E_impl_bound_selOk a := (Run_eq cfg 52 _ a).trans (by kernel_rfl)
noncomputable def E_impl_ArgsOk (a : List DC) : Out :=
 (r_slices_ContainsFunc_impl_Arg__impl_ArgsOk_1 [.sl ((a.getD 0 d0).ll)]).bindR fun r1 =>
 .ret [.b (!((r1.getD 0 d0).bb))]
theorem eq_impl_ArgsOk a : r_impl_ArgsOk a = E_impl_ArgsOk a := (Run_eq cfg 51 _ a).trans (by kernel_rfl)
noncomputable def E_impl_printValueL1 : List DC → Out := fun v1 =>
 if (decide ((v1.getD 3 d0).ii < (v1.getD 2 d0).ii)) = true then
 Out.andThenB (if 78 = 78 ∧ 0 ≤ (v1.getD 3 d0).ii ∧ (v1.getD 3 d0).ii < (((v1.getD 1 d0).ll).length : Int) then
 (r_impl_printValue [.i (((((v1.getD 1 d0).ll).getD ((v1.getD 3 d0).ii).toNat []).getD 0 d0).ii), .s (((((v1.getD 1 d0).ll).getD ((v1.getD 3 d0).ii).toNat []).getD 1 d0).ss), .sl (((((v1.getD 1 d0).ll).getD ((v1.getD 3 d0).ii).toNat []).getD 2 d0).ll), .sl (((((v1.getD 1 d0).ll).getD ((v1.getD 3 d0).ii).toNat []).getD 3 d0).ll)]).bindR fun r2 =>
 Out.andThen (if ((v1.getD 4 d0).ii == (8 : Int)) = true then
 if 9 = 9 ∧ 0 ≤ (v1.getD 3 d0).ii ∧ (v1.getD 3 d0).ii < (((v1.getD 7 d0).ll).length : Int) then
 if (((((v1.getD 7 d0).ll).getD ((v1.getD 3 d0).ii).toNat []).getD 0 d0).ss).length + ([58, 32] : List UInt8).length < LIM then
 if ((((((v1.getD 7 d0).ll).getD ((v1.getD 3 d0).ii).toNat []).getD 0 d0).ss) ++ ([58, 32] : List UInt8)).length + ((r2.getD 0 d0).ss).length < LIM then
 .norm [.sl ((v1.getD 0 d0).ll), .s (((((((v1.getD 7 d0).ll).getD ((v1.getD 3 d0).ii).toNat []).getD 0 d0).ss) ++ ([58, 32] : List UInt8)) ++ ((r2.getD 0 d0).ss)), .sl ((v1.getD 1 d0).ll), .i ((v1.getD 2 d0).ii), .i ((v1.getD 3 d0).ii), .i ((v1.getD 4 d0).ii), .s ((v1.getD 5 d0).ss), .sl ((v1.getD 6 d0).ll), .sl ((v1.getD 7 d0).ll)]
 else
 .fail
 else
 .fail
 else
 .fail
 else
 .norm [.sl ((v1.getD 0 d0).ll), .s ((r2.getD 0 d0).ss), .sl ((v1.getD 1 d0).ll), .i ((v1.getD 2 d0).ii), .i ((v1.getD 3 d0).ii), .i ((v1.getD 4 d0).ii), .s ((v1.getD 5 d0).ss), .sl ((v1.getD 6 d0).ll), .sl ((v1.getD 7 d0).ll)]) fun v3 =>
 if ((v3.getD 0 d0).ll).length + [[DC.s ((v3.getD 1 d0).ss)]].length < LIM then
 .norm [.sl (((v3.getD 0 d0).ll) ++ [[DC.s ((v3.getD 1 d0).ss)]]), .sl ((v3.getD 2 d0).ll), .i ((v3.getD 3 d0).ii), .i ((v3.getD 4 d0).ii), .i ((v3.getD 5 d0).ii), .s ((v3.getD 6 d0).ss), .sl ((v3.getD 7 d0).ll), .sl ((v3.getD 8 d0).ll)]
 else
 .fail
 else
 .fail) 1 fun v4 =>
 .norm [.sl ((v4.getD 0 d0).ll), .sl ((v4.getD 1 d0).ll), .i ((v4.getD 2 d0).ii), .i (IntKind.i64.wrap ((v4.getD 3 d0).ii + (1 : Int))), .i ((v4.getD 4 d0).ii), .s ((v4.getD 5 d0).ss), .sl ((v4.getD 6 d0).ll), .sl ((v4.getD 7 d0).ll)]
 else
 .ex 0 [.sl ((v1.getD 0 d0).ll), .i ((v1.getD 4 d0).ii), .s ((v1.getD 5 d0).ss), .sl ((v1.getD 6 d0).ll), .sl ((v1.getD 7 d0).ll)]
noncomputable def E_impl_printValue (a : List DC) : Out :=
 Out.andThenB (Loop E_impl_printValueL1 [.sl [], .sl ((a.getD 2 d0).ll), .i (((a.getD 2 d0).ll).length : Int), .i (0 : Int), .i ((a.getD 0 d0).ii), .s ((a.getD 1 d0).ss), .sl ((a.getD 2 d0).ll), .sl ((a.getD 3 d0).ll)]) 0 fun v5 =>
 (r_strings_Join [.sl ((v5.getD 0 d0).ll), .s ([44, 32] : List UInt8)]).bindR fun r6 =>
 Out.andThenB (if ((v5.getD 1 d0).ii == (1 : Int)) = true then
 if ([36] : List UInt8).length + ((v5.getD 2 d0).ss).length < LIM then
 .ret [.s (([36] : List UInt8) ++ ((v5.getD 2 d0).ss))]
 else
 .fail
 else
 if ((v5.getD 1 d0).ii == (4 : Int)) = true then
 (r_impl_Escaped [.s ((v5.getD 2 d0).ss)]).bindR fun r7 =>
 .ret [.s ((r7.getD 0 d0).ss)]
 else
 if ((v5.getD 1 d0).ii == (7 : Int)) = true then
 if ([91] : List UInt8).length + ((r6.getD 0 d0).ss).length < LIM then
 if (([91] : List UInt8) ++ ((r6.getD 0 d0).ss)).length + ([93] : List UInt8).length < LIM then
 .ret [.s ((([91] : List UInt8) ++ ((r6.getD 0 d0).ss)) ++ ([93] : List UInt8))]
 else
 .fail
 else
 .fail
 else
 if ((v5.getD 1 d0).ii == (8 : Int)) = true then
 if ([123] : List UInt8).length + ((r6.getD 0 d0).ss).length < LIM then
 if (([123] : List UInt8) ++ ((r6.getD 0 d0).ss)).length + ([125] : List UInt8).length < LIM then
 .ret [.s ((([123] : List UInt8) ++ ((r6.getD 0 d0).ss)) ++ ([125] : List UInt8))]
 else
 .fail
 else
 .fail
 else
 .norm [.i ((v5.getD 1 d0).ii), .s ((v5.getD 2 d0).ss), .sl ((v5.getD 3 d0).ll), .sl ((v5.getD 4 d0).ll)]) 2 fun v8 =>
 .ret [.s ((v8.getD 1 d0).ss)]
theorem eq_impl_printValue a : r_impl_printValue a = E_impl_printValue a := (Run_eq cfg 53 _ a).trans (by kernel_rfl)
noncomputable def E_strings_Join (a : List DC) : Out := match primW 9 qJoin h_strings_Join a with | some r => .ret r | none => .fail
theorem eq_strings_Join a : r_strings_Join a = E_strings_Join a := (Run_eq cfg 54 h_strings_Join a).trans (by kernel_rfl)
noncomputable def E_slices_ContainsFunc_impl_Sel__impl_SelsText_1 (a : List DC) : Out :=
 (r_slices_IndexFunc_impl_Sel__impl_SelsText_1 [.sl ((a.getD 0 d0).ll)]).bindR fun r1 =>
 .ret [.b (decide ((r1.getD 0 d0).ii ≥ (0 : Int)))]
theorem eq_slices_ContainsFunc_impl_Sel__impl_SelsText_1 a : r_slices_ContainsFunc_impl_Sel__impl_SelsText_1 a = E_slices_ContainsFunc_impl_Sel__impl_SelsText_1 a := (Run_eq cfg 55 _ a).trans (by kernel_rfl)
noncomputable def E_impl_selsTextL1 : List DC → Out := fun v2 =>
 if (decide ((v2.getD 5 d0).ii < (v2.getD 4 d0).ii)) = true then
 Out.andThenB (if 64 = 64 ∧ 0 ≤ (v2.getD 5 d0).ii ∧ (v2.getD 5 d0).ii < (((v2.getD 3 d0).ll).length : Int) then
 (r_impl_selHead [.i (((((v2.getD 3 d0).ll).getD ((v2.getD 5 d0).ii).toNat []).getD 0 d0).ii), .s (((((v2.getD 3 d0).ll).getD ((v2.getD 5 d0).ii).toNat []).getD 1 d0).ss), .s (((((v2.getD 3 d0).ll).getD ((v2.getD 5 d0).ii).toNat []).getD 2 d0).ss), .s (((((v2.getD 3 d0).ll).getD ((v2.getD 5 d0).ii).toNat []).getD 3 d0).ss), .sl (((((v2.getD 3 d0).ll).getD ((v2.getD 5 d0).ii).toNat []).getD 4 d0).ll), .sl (((((v2.getD 3 d0).ll).getD ((v2.getD 5 d0).ii).toNat []).getD 5 d0).ll), .sl (((((v2.getD 3 d0).ll).getD ((v2.getD 5 d0).ii).toNat []).getD 6 d0).ll)]).bindR fun r3 =>
 if ((v2.getD 1 d0).ss).length + ((r3.getD 0 d0).ss).length < LIM then
 if ((v2.getD 2 d0).ss).length + (((v2.getD 1 d0).ss) ++ ((r3.getD 0 d0).ss)).length < LIM then
 Out.andThen (if (decide (((((((v2.getD 3 d0).ll).getD ((v2.getD 5 d0).ii).toNat []).getD 6 d0).ll).length : Int) > (0 : Int))) = true then
 (r_impl_selsText [.sl (((((v2.getD 3 d0).ll).getD ((v2.getD 5 d0).ii).toNat []).getD 6 d0).ll), .i (IntKind.i64.wrap ((v2.getD 0 d0).ii + (1 : Int)))]).bindR fun r4 =>
 if ([32, 123, 10] : List UInt8).length + ((r4.getD 0 d0).ss).length < LIM then
 if (([32, 123, 10] : List UInt8) ++ ((r4.getD 0 d0).ss)).length + ((v2.getD 1 d0).ss).length < LIM then
 if ((([32, 123, 10] : List UInt8) ++ ((r4.getD 0 d0).ss)) ++ ((v2.getD 1 d0).ss)).length + ([125] : List UInt8).length < LIM then
 if (((v2.getD 2 d0).ss) ++ (((v2.getD 1 d0).ss) ++ ((r3.getD 0 d0).ss))).length + (((([32, 123, 10] : List UInt8) ++ ((r4.getD 0 d0).ss)) ++ ((v2.getD 1 d0).ss)) ++ ([125] : List UInt8)).length < LIM then
 .norm [.i ((v2.getD 0 d0).ii), .s ((v2.getD 1 d0).ss), .s ((((v2.getD 2 d0).ss) ++ (((v2.getD 1 d0).ss) ++ ((r3.getD 0 d0).ss))) ++ (((([32, 123, 10] : List UInt8) ++ ((r4.getD 0 d0).ss)) ++ ((v2.getD 1 d0).ss)) ++ ([125] : List UInt8))), .sl ((v2.getD 3 d0).ll), .i ((v2.getD 4 d0).ii), .i ((v2.getD 5 d0).ii)]
 else
 .fail
 else
 .fail
 else
 .fail
 else
 .fail
 else
 .norm [.i ((v2.getD 0 d0).ii), .s ((v2.getD 1 d0).ss), .s (((v2.getD 2 d0).ss) ++ (((v2.getD 1 d0).ss) ++ ((r3.getD 0 d0).ss))), .sl ((v2.getD 3 d0).ll), .i ((v2.getD 4 d0).ii), .i ((v2.getD 5 d0).ii)]) fun v5 =>
 if ((v5.getD 2 d0).ss).length + ([10] : List UInt8).length < LIM then
 .norm [.i ((v5.getD 0 d0).ii), .s ((v5.getD 1 d0).ss), .s (((v5.getD 2 d0).ss) ++ ([10] : List UInt8)), .sl ((v5.getD 3 d0).ll), .i ((v5.getD 4 d0).ii), .i ((v5.getD 5 d0).ii)]
 else
 .fail
 else
 .fail
 else
 .fail
 else
 .fail) 1 fun v6 =>
 .norm [.i ((v6.getD 0 d0).ii), .s ((v6.getD 1 d0).ss), .s ((v6.getD 2 d0).ss), .sl ((v6.getD 3 d0).ll), .i ((v6.getD 4 d0).ii), .i (IntKind.i64.wrap ((v6.getD 5 d0).ii + (1 : Int)))]
 else
 .ex 0 [.s ((v2.getD 2 d0).ss)]
noncomputable def E_impl_selsText (a : List DC) : Out :=
 (r_strings_Repeat [.s ([32, 32] : List UInt8), .i ((a.getD 1 d0).ii)]).bindR fun r1 =>
 Out.andThenB (Loop E_impl_selsTextL1 [.i ((a.getD 1 d0).ii), .s ((r1.getD 0 d0).ss), .s ([] : List UInt8), .sl ((a.getD 0 d0).ll), .i (((a.getD 0 d0).ll).length : Int), .i (0 : Int)]) 0 fun v7 =>
 .ret [.s ((v7.getD 0 d0).ss)]
theorem eq_impl_selsText a : r_impl_selsText a = E_impl_selsText a := (Run_eq cfg 58 _ a).trans (by kernel_rfl)
noncomputable def E_laws_eqArgSL1 : List DC → Out := fun v1 =>
 if (decide ((v1.getD 2 d0).ii < (((v1.getD 0 d0).ll).length : Int))) = true then
 Out.andThenB (if 80 = 80 ∧ 0 ≤ (v1.getD 2 d0).ii ∧ (v1.getD 2 d0).ii < (((v1.getD 0 d0).ll).length : Int) then
 if 80 = 80 ∧ 0 ≤ (v1.getD 2 d0).ii ∧ (v1.getD 2 d0).ii < (((v1.getD 1 d0).ll).length : Int) then
 (r_laws_eqArg [.s (((((v1.getD 0 d0).ll).getD ((v1.getD 2 d0).ii).toNat []).getD 0 d0).ss), .i (((((v1.getD 0 d0).ll).getD ((v1.getD 2 d0).ii).toNat []).getD 1 d0).ii), .s (((((v1.getD 0 d0).ll).getD ((v1.getD 2 d0).ii).toNat []).getD 2 d0).ss), .sl (((((v1.getD 0 d0).ll).getD ((v1.getD 2 d0).ii).toNat []).getD 3 d0).ll), .sl (((((v1.getD 0 d0).ll).getD ((v1.getD 2 d0).ii).toNat []).getD 4 d0).ll), .s (((((v1.getD 1 d0).ll).getD ((v1.getD 2 d0).ii).toNat []).getD 0 d0).ss), .i (((((v1.getD 1 d0).ll).getD ((v1.getD 2 d0).ii).toNat []).getD 1 d0).ii), .s (((((v1.getD 1 d0).ll).getD ((v1.getD 2 d0).ii).toNat []).getD 2 d0).ss), .sl (((((v1.getD 1 d0).ll).getD ((v1.getD 2 d0).ii).toNat []).getD 3 d0).ll), .sl (((((v1.getD 1 d0).ll).getD ((v1.getD 2 d0).ii).toNat []).getD 4 d0).ll)]).bindR fun r2 =>
 if (!((r2.getD 0 d0).bb)) = true then
 .ret [.b false]
 else
 .norm [.sl ((v1.getD 0 d0).ll), .sl ((v1.getD 1 d0).ll), .i ((v1.getD 2 d0).ii)]
 else
 .fail
 else
 .fail) 1 fun v3 =>
 .norm [.sl ((v3.getD 0 d0).ll), .sl ((v3.getD 1 d0).ll), .i (IntKind.i64.wrap ((v3.getD 2 d0).ii + (1 : Int)))]
 else
 .ex 0 []
noncomputable def E_laws_eqArgS (a : List DC) : Out :=
 if ((((a.getD 0 d0).ll).length : Int) != (((a.getD 1 d0).ll).length : Int)) = true then
 .ret [.b false]
 else
 Out.andThenB (Loop E_laws_eqArgSL1 [.sl ((a.getD 0 d0).ll), .sl ((a.getD 1 d0).ll), .i (0 : Int)]) 0 fun v4 =>
 .ret [.b true]
theorem eq_laws_eqArgS a : r_laws_eqArgS a = E_laws_eqArgS a := (Run_eq cfg 59 _ a).trans (by kernel_rfl)
noncomputable def E_laws_szArg (a : List DC) : Out :=
 if (decide ((IntKind.i64.wrap ((a.getD 5 d0).ii - (((a.getD 0 d0).ss).length : Int))) < (0 : Int))) = true then
 .ret [.i (-1 : Int)]
 else
 (r_laws_szValue [.i ((a.getD 1 d0).ii), .s ((a.getD 2 d0).ss), .sl ((a.getD 3 d0).ll), .sl ((a.getD 4 d0).ll), .i (IntKind.i64.wrap ((a.getD 5 d0).ii - (((a.getD 0 d0).ss).length : Int)))]).bindR fun r1 =>
 if (decide ((r1.getD 0 d0).ii < (0 : Int))) = true then
 .ret [.i (-1 : Int)]
 else
 .ret [.i ((r1.getD 0 d0).ii)]
theorem eq_laws_szArg a : r_laws_szArg a = E_laws_szArg a := (Run_eq cfg 60 _ a).trans (by kernel_rfl)
noncomputable def E_laws_toArg (a : List DC) : Out :=
 (r_laws_toValue [.i ((a.getD 1 d0).ii), .s ((a.getD 2 d0).ss), .sl ((a.getD 3 d0).ll), .sl ((a.getD 4 d0).ll)]).bindR fun r1 =>
 .ret [.s ((a.getD 0 d0).ss), .i ((r1.getD 0 d0).ii), .s ((r1.getD 1 d0).ss), .sl ((r1.getD 2 d0).ll), .sl ((r1.getD 3 d0).ll)]
theorem eq_laws_toArg a : r_laws_toArg a = E_laws_toArg a := (Run_eq cfg 64 _ a).trans (by kernel_rfl)
noncomputable def E_spec_ValueOk (a : List DC) : Out :=
 (r_spec_l07Right [.i ((a.getD 0 d0).ii), .s ((a.getD 1 d0).ss), .sl ((a.getD 2 d0).ll), .sl ((a.getD 3 d0).ll), .i (10 : Int)]).bindR fun r1 =>
 .ret [.b ((r1.getD 0 d0).bb)]
theorem eq_spec_ValueOk a : r_spec_ValueOk a = E_spec_ValueOk a := (Run_eq cfg 61 _ a).trans (by kernel_rfl)
noncomputable def E_spec_l11Names (a : List DC) : Out :=
 Out.andThenB (if ((a.getD 0 d0).ii == (1 : Int)) = true then
 Out.andThen ((r_spec_NameOk [.s ((a.getD 2 d0).ss)]).bindR fun r1 =>
 if (r1.getD 0 d0).bb = true then
 if ((a.getD 1 d0).ss == ([] : List UInt8)) = true then
 .norm [.b ((a.getD 3 d0).ss == ([] : List UInt8))]
 else
 (r_spec_NameOk [.s ((a.getD 1 d0).ss)]).bindR fun r2 =>
 if (r2.getD 0 d0).bb = true then
 .norm [.b ((a.getD 3 d0).ss == ([] : List UInt8))]
 else
 .norm [.b false]
 else
 .norm [.b false]) fun v3 =>
 .ret [.b ((v3.getD 0 d0).bb)]
 else
 if ((a.getD 0 d0).ii == (2 : Int)) = true then
 Out.andThen ((r_spec_NameOk [.s ((a.getD 2 d0).ss)]).bindR fun r4 =>
 if (r4.getD 0 d0).bb = true then
 if (!((a.getD 2 d0).ss == ([111, 110] : List UInt8))) = true then
 if ((a.getD 1 d0).ss == ([] : List UInt8)) = true then
 if ((a.getD 3 d0).ss == ([] : List UInt8)) = true then
 if ((((a.getD 4 d0).ll).length : Int) == (0 : Int)) = true then
 .norm [.b ((((a.getD 6 d0).ll).length : Int) == (0 : Int))]
 else
 .norm [.b false]
 else
 .norm [.b false]
 else
 .norm [.b false]
 else
 .norm [.b false]
 else
 .norm [.b false]) fun v5 =>
 .ret [.b ((v5.getD 0 d0).bb)]
 else
 if ((a.getD 0 d0).ii == (3 : Int)) = true then
 Out.andThen (if ((a.getD 2 d0).ss == ([] : List UInt8)) = true then
 if ((a.getD 1 d0).ss == ([] : List UInt8)) = true then
 if ((a.getD 3 d0).ss == ([] : List UInt8)) = true then
 if ((((a.getD 4 d0).ll).length : Int) == (0 : Int)) = true then
 .norm [.b (decide ((((a.getD 6 d0).ll).length : Int) > (0 : Int)))]
 else
 .norm [.b false]
 else
 (r_spec_NameOk [.s ((a.getD 3 d0).ss)]).bindR fun r6 =>
 if (r6.getD 0 d0).bb = true then
 if ((((a.getD 4 d0).ll).length : Int) == (0 : Int)) = true then
 .norm [.b (decide ((((a.getD 6 d0).ll).length : Int) > (0 : Int)))]
 else
 .norm [.b false]
 else
 .norm [.b false]
 else
 .norm [.b false]
 else
 .norm [.b false]) fun v7 =>
 .ret [.b ((v7.getD 0 d0).bb)]
 else
 .norm []) 0 fun v8 =>
 .ret [.b false]
theorem eq_spec_l11Names a : r_spec_l11Names a = E_spec_l11Names a := (Run_eq cfg 62 _ a).trans (by kernel_rfl)
noncomputable def E_spec_EscapedL1 : List DC → Out := fun v3 =>
 if (decide ((v3.getD 2 d0).ii < (((v3.getD 0 d0).ss).length : Int))) = true then
 Out.andThenB (if 0 ≤ (v3.getD 2 d0).ii ∧ (v3.getD 2 d0).ii < (((v3.getD 0 d0).ss).length : Int) then
 Out.andThenB (Out.andThen (if (((((v3.getD 0 d0).ss).getD ((v3.getD 2 d0).ii).toNat 0).toNat : Int) == (34 : Int)) = true then
 .norm [.s ((v3.getD 0 d0).ss), .s ((v3.getD 1 d0).ss), .i ((v3.getD 2 d0).ii), .i ((((v3.getD 0 d0).ss).getD ((v3.getD 2 d0).ii).toNat 0).toNat : Int), .b true]
 else
 .norm [.s ((v3.getD 0 d0).ss), .s ((v3.getD 1 d0).ss), .i ((v3.getD 2 d0).ii), .i ((((v3.getD 0 d0).ss).getD ((v3.getD 2 d0).ii).toNat 0).toNat : Int), .b (((((v3.getD 0 d0).ss).getD ((v3.getD 2 d0).ii).toNat 0).toNat : Int) == (92 : Int))]) fun v4 =>
 Out.andThen (if (v4.getD 4 d0).bb = true then
 if ((v4.getD 1 d0).ss).length + ([92] : List UInt8).length < LIM then
 if 0 ≤ (v4.getD 2 d0).ii ∧ (v4.getD 2 d0).ii ≤ (IntKind.i64.wrap ((v4.getD 2 d0).ii + (1 : Int))) ∧ (IntKind.i64.wrap ((v4.getD 2 d0).ii + (1 : Int))) ≤ (((v4.getD 0 d0).ss).length : Int) then
 if (((v4.getD 1 d0).ss) ++ ([92] : List UInt8)).length + ((((v4.getD 0 d0).ss).take (IntKind.i64.wrap ((v4.getD 2 d0).ii + (1 : Int))).toNat).drop ((v4.getD 2 d0).ii).toNat).length < LIM then
 .norm [.s ((v4.getD 0 d0).ss), .s ((((v4.getD 1 d0).ss) ++ ([92] : List UInt8)) ++ ((((v4.getD 0 d0).ss).take (IntKind.i64.wrap ((v4.getD 2 d0).ii + (1 : Int))).toNat).drop ((v4.getD 2 d0).ii).toNat)), .i ((v4.getD 2 d0).ii)]
 else
 .fail
 else
 .fail
 else
 .fail
 else
 Out.andThen (if ((v4.getD 3 d0).ii == (8 : Int)) = true then
 if ((v4.getD 1 d0).ss).length + ([92, 98] : List UInt8).length < LIM then
 .norm [.s ((v4.getD 0 d0).ss), .s (((v4.getD 1 d0).ss) ++ ([92, 98] : List UInt8)), .i ((v4.getD 2 d0).ii)]
 else
 .fail
 else
 Out.andThen (if ((v4.getD 3 d0).ii == (9 : Int)) = true then
 if ((v4.getD 1 d0).ss).length + ([92, 116] : List UInt8).length < LIM then
 .norm [.s ((v4.getD 0 d0).ss), .s (((v4.getD 1 d0).ss) ++ ([92, 116] : List UInt8)), .i ((v4.getD 2 d0).ii)]
 else
 .fail
 else
 Out.andThen (if ((v4.getD 3 d0).ii == (10 : Int)) = true then
 if ((v4.getD 1 d0).ss).length + ([92, 110] : List UInt8).length < LIM then
 .norm [.s ((v4.getD 0 d0).ss), .s (((v4.getD 1 d0).ss) ++ ([92, 110] : List UInt8)), .i ((v4.getD 2 d0).ii)]
 else
 .fail
 else
 Out.andThen (if ((v4.getD 3 d0).ii == (12 : Int)) = true then
 if ((v4.getD 1 d0).ss).length + ([92, 102] : List UInt8).length < LIM then
 .norm [.s ((v4.getD 0 d0).ss), .s (((v4.getD 1 d0).ss) ++ ([92, 102] : List UInt8)), .i ((v4.getD 2 d0).ii)]
 else
 .fail
 else
 Out.andThen (if ((v4.getD 3 d0).ii == (13 : Int)) = true then
 if ((v4.getD 1 d0).ss).length + ([92, 114] : List UInt8).length < LIM then
 .norm [.s ((v4.getD 0 d0).ss), .s (((v4.getD 1 d0).ss) ++ ([92, 114] : List UInt8)), .i ((v4.getD 2 d0).ii)]
 else
 .fail
 else
 Out.andThen (if (decide ((v4.getD 3 d0).ii < (32 : Int))) = true then
 .norm [.s ((v4.getD 0 d0).ss), .s ((v4.getD 1 d0).ss), .i ((v4.getD 2 d0).ii), .i ((v4.getD 3 d0).ii), .b true]
 else
 .norm [.s ((v4.getD 0 d0).ss), .s ((v4.getD 1 d0).ss), .i ((v4.getD 2 d0).ii), .i ((v4.getD 3 d0).ii), .b ((v4.getD 3 d0).ii == (127 : Int))]) fun v5 =>
 Out.andThen (if (v5.getD 4 d0).bb = true then
 if ((v5.getD 1 d0).ss).length + ([92, 117] : List UInt8).length < LIM then
 (r_spec_l04Hex4 [.i (IntKind.i64.wrap ((v5.getD 3 d0).ii))]).bindR fun r6 =>
 if (((v5.getD 1 d0).ss) ++ ([92, 117] : List UInt8)).length + ((r6.getD 0 d0).ss).length < LIM then
 .norm [.s ((v5.getD 0 d0).ss), .s ((((v5.getD 1 d0).ss) ++ ([92, 117] : List UInt8)) ++ ((r6.getD 0 d0).ss)), .i ((v5.getD 2 d0).ii)]
 else
 .fail
 else
 .fail
 else
 if 0 ≤ (v5.getD 2 d0).ii ∧ (v5.getD 2 d0).ii ≤ (IntKind.i64.wrap ((v5.getD 2 d0).ii + (1 : Int))) ∧ (IntKind.i64.wrap ((v5.getD 2 d0).ii + (1 : Int))) ≤ (((v5.getD 0 d0).ss).length : Int) then
 if ((v5.getD 1 d0).ss).length + ((((v5.getD 0 d0).ss).take (IntKind.i64.wrap ((v5.getD 2 d0).ii + (1 : Int))).toNat).drop ((v5.getD 2 d0).ii).toNat).length < LIM then
 .norm [.s ((v5.getD 0 d0).ss), .s (((v5.getD 1 d0).ss) ++ ((((v5.getD 0 d0).ss).take (IntKind.i64.wrap ((v5.getD 2 d0).ii + (1 : Int))).toNat).drop ((v5.getD 2 d0).ii).toNat)), .i ((v5.getD 2 d0).ii)]
 else
 .fail
 else
 .fail) fun v7 =>
 .norm [.s ((v7.getD 0 d0).ss), .s ((v7.getD 1 d0).ss), .i ((v7.getD 2 d0).ii)]) fun v8 =>
 .norm [.s ((v8.getD 0 d0).ss), .s ((v8.getD 1 d0).ss), .i ((v8.getD 2 d0).ii)]) fun v9 =>
 .norm [.s ((v9.getD 0 d0).ss), .s ((v9.getD 1 d0).ss), .i ((v9.getD 2 d0).ii)]) fun v10 =>
 .norm [.s ((v10.getD 0 d0).ss), .s ((v10.getD 1 d0).ss), .i ((v10.getD 2 d0).ii)]) fun v11 =>
 .norm [.s ((v11.getD 0 d0).ss), .s ((v11.getD 1 d0).ss), .i ((v11.getD 2 d0).ii)]) fun v12 =>
 .norm [.s ((v12.getD 0 d0).ss), .s ((v12.getD 1 d0).ss), .i ((v12.getD 2 d0).ii)]) fun v13 =>
 .norm [.s ((v13.getD 0 d0).ss), .s ((v13.getD 1 d0).ss), .i ((v13.getD 2 d0).ii)]) 2 fun v14 =>
 .norm [.s ((v14.getD 0 d0).ss), .s ((v14.getD 1 d0).ss), .i ((v14.getD 2 d0).ii)]
 else
 .fail) 1 fun v15 =>
 .norm [.s ((v15.getD 0 d0).ss), .s ((v15.getD 1 d0).ss), .i (IntKind.i64.wrap ((v15.getD 2 d0).ii + (1 : Int)))]
 else
 .ex 0 [.s ((v3.getD 1 d0).ss)]
noncomputable def E_spec_Escaped (a : List DC) : Out :=
 Out.andThen ((r_spec_TextOk [.s ((a.getD 0 d0).ss)]).bindR fun r1 =>
 if (!((r1.getD 0 d0).bb)) = true then
 .norm [.s ((a.getD 0 d0).ss), .b true]
 else
 .norm [.s ((a.getD 0 d0).ss), .b (decide ((((a.getD 0 d0).ss).length : Int) > (200 : Int)))]) fun v2 =>
 if (v2.getD 1 d0).bb = true then
 .ret [.s ([] : List UInt8)]
 else
 Out.andThenB (Loop E_spec_EscapedL1 [.s ((v2.getD 0 d0).ss), .s ([34] : List UInt8), .i (0 : Int)]) 0 fun v16 =>
 if ((v16.getD 0 d0).ss).length + ([34] : List UInt8).length < LIM then
 .ret [.s (((v16.getD 0 d0).ss) ++ ([34] : List UInt8))]
 else
 .fail
theorem eq_spec_Escaped a : r_spec_Escaped a = E_spec_Escaped a := (Run_eq cfg 63 _ a).trans (by kernel_rfl)
noncomputable def E_impl_isLetter (a : List DC) : Out :=
 Out.andThen (if (decide ((a.getD 0 d0).ii ≥ (97 : Int))) = true then
 if (decide ((a.getD 0 d0).ii ≤ (122 : Int))) = true then
 .norm [.b true]
 else
 if (decide ((a.getD 0 d0).ii ≥ (65 : Int))) = true then
 .norm [.b (decide ((a.getD 0 d0).ii ≤ (90 : Int)))]
 else
 .norm [.b false]
 else
 if (decide ((a.getD 0 d0).ii ≥ (65 : Int))) = true then
 .norm [.b (decide ((a.getD 0 d0).ii ≤ (90 : Int)))]
 else
 .norm [.b false]) fun v1 =>
 .ret [.b ((v1.getD 0 d0).bb)]
theorem eq_impl_isLetter a : r_impl_isLetter a = E_impl_isLetter a := (Run_eq cfg 65 _ a).trans (by kernel_rfl)
noncomputable def E_slices_IndexFunc_impl_Dir__impl_DirsOk_1L1 : List DC → Out := fun v1 =>
 if (decide ((v1.getD 2 d0).ii < (v1.getD 1 d0).ii)) = true then
 Out.andThenB (if 59 = 59 ∧ 0 ≤ (v1.getD 2 d0).ii ∧ (v1.getD 2 d0).ii < (((v1.getD 0 d0).ll).length : Int) then
 (r_impl_DirsOk_1 [.s (((((v1.getD 0 d0).ll).getD ((v1.getD 2 d0).ii).toNat []).getD 0 d0).ss), .sl (((((v1.getD 0 d0).ll).getD ((v1.getD 2 d0).ii).toNat []).getD 1 d0).ll)]).bindR fun r2 =>
 if (r2.getD 0 d0).bb = true then
 .ret [.i ((v1.getD 2 d0).ii)]
 else
 .norm [.sl ((v1.getD 0 d0).ll), .i ((v1.getD 1 d0).ii), .i ((v1.getD 2 d0).ii)]
 else
 .fail) 1 fun v3 =>
 .norm [.sl ((v3.getD 0 d0).ll), .i ((v3.getD 1 d0).ii), .i (IntKind.i64.wrap ((v3.getD 2 d0).ii + (1 : Int)))]
 else
 .ex 0 []
noncomputable def E_slices_IndexFunc_impl_Dir__impl_DirsOk_1 (a : List DC) : Out :=
 Out.andThenB (Loop E_slices_IndexFunc_impl_Dir__impl_DirsOk_1L1 [.sl ((a.getD 0 d0).ll), .i (((a.getD 0 d0).ll).length : Int), .i (0 : Int)]) 0 fun v4 =>
 .ret [.i (-1 : Int)]
theorem eq_slices_IndexFunc_impl_Dir__impl_DirsOk_1 a : r_slices_IndexFunc_impl_Dir__impl_DirsOk_1 a = E_slices_IndexFunc_impl_Dir__impl_DirsOk_1 a := (Run_eq cfg 66 _ a).trans (by kernel_rfl)
noncomputable def E_slices_ContainsFunc_impl_Arg__impl_ArgsOk_1 (a : List DC) : Out :=
 (r_slices_IndexFunc_impl_Arg__impl_ArgsOk_1 [.sl ((a.getD 0 d0).ll)]).bindR fun r1 =>
 .ret [.b (decide ((r1.getD 0 d0).ii ≥ (0 : Int)))]
theorem eq_slices_ContainsFunc_impl_Arg__impl_ArgsOk_1 a : r_slices_ContainsFunc_impl_Arg__impl_ArgsOk_1 a = E_slices_ContainsFunc_impl_Arg__impl_ArgsOk_1 a := (Run_eq cfg 67 _ a).trans (by kernel_rfl)
noncomputable def E_impl_EscapedL1 : List DC → Out := fun v3 =>
 if (decide ((v3.getD 3 d0).ii < (v3.getD 2 d0).ii)) = true then
 Out.andThenB (if 0 ≤ (v3.getD 3 d0).ii ∧ (v3.getD 3 d0).ii < (((v3.getD 0 d0).ss).length : Int) then
 (r_strings_IndexByte [.s ([34, 92, 8, 9, 10, 12, 13] : List UInt8), .i ((((v3.getD 0 d0).ss).getD ((v3.getD 3 d0).ii).toNat 0).toNat : Int)]).bindR fun r4 =>
 Out.andThenB (Out.andThen (if (decide ((r4.getD 0 d0).ii ≥ (0 : Int))) = true then
 if 0 ≤ (r4.getD 0 d0).ii ∧ (r4.getD 0 d0).ii < (([34, 92, 98, 116, 110, 102, 114] : List UInt8).length : Int) then
 if ((v3.getD 1 d0).ll).length + [[DC.i (92 : Int)], [DC.i ((([34, 92, 98, 116, 110, 102, 114] : List UInt8).getD ((r4.getD 0 d0).ii).toNat 0).toNat : Int)]].length < LIM then
 .norm [.s ((v3.getD 0 d0).ss), .sl (((v3.getD 1 d0).ll) ++ [[DC.i (92 : Int)], [DC.i ((([34, 92, 98, 116, 110, 102, 114] : List UInt8).getD ((r4.getD 0 d0).ii).toNat 0).toNat : Int)]]), .i ((v3.getD 2 d0).ii), .i ((v3.getD 3 d0).ii)]
 else
 .fail
 else
 .fail
 else
 Out.andThen (if (decide (((((v3.getD 0 d0).ss).getD ((v3.getD 3 d0).ii).toNat 0).toNat : Int) < (32 : Int))) = true then
 .norm [.s ((v3.getD 0 d0).ss), .sl ((v3.getD 1 d0).ll), .i ((((v3.getD 0 d0).ss).getD ((v3.getD 3 d0).ii).toNat 0).toNat : Int), .i ((v3.getD 2 d0).ii), .i ((v3.getD 3 d0).ii), .b true]
 else
 .norm [.s ((v3.getD 0 d0).ss), .sl ((v3.getD 1 d0).ll), .i ((((v3.getD 0 d0).ss).getD ((v3.getD 3 d0).ii).toNat 0).toNat : Int), .i ((v3.getD 2 d0).ii), .i ((v3.getD 3 d0).ii), .b (((((v3.getD 0 d0).ss).getD ((v3.getD 3 d0).ii).toNat 0).toNat : Int) == (127 : Int))]) fun v5 =>
 Out.andThen (if (v5.getD 5 d0).bb = true then
 if (4 : Int) < 0 then
 .fail
 else
 if 0 ≤ (((v5.getD 2 d0).ii).fdiv (2 ^ (min (4 : Int).toNat (IntKind.u8.bits)))) ∧ (((v5.getD 2 d0).ii).fdiv (2 ^ (min (4 : Int).toNat (IntKind.u8.bits)))) < (([48, 49, 50, 51, 52, 53, 54, 55, 56, 57, 97, 98, 99, 100, 101, 102] : List UInt8).length : Int) then
 if 0 ≤ (IntKind.u8.wrap (BitVec.ofInt (IntKind.u8.bits) ((v5.getD 2 d0).ii) &&& BitVec.ofInt (IntKind.u8.bits) (15 : Int)).toNat) ∧ (IntKind.u8.wrap (BitVec.ofInt (IntKind.u8.bits) ((v5.getD 2 d0).ii) &&& BitVec.ofInt (IntKind.u8.bits) (15 : Int)).toNat) < (([48, 49, 50, 51, 52, 53, 54, 55, 56, 57, 97, 98, 99, 100, 101, 102] : List UInt8).length : Int) then
 if ((v5.getD 1 d0).ll).length + [[DC.i (92 : Int)], [DC.i (117 : Int)], [DC.i (48 : Int)], [DC.i (48 : Int)], [DC.i ((([48, 49, 50, 51, 52, 53, 54, 55, 56, 57, 97, 98, 99, 100, 101, 102] : List UInt8).getD (((v5.getD 2 d0).ii).fdiv (2 ^ (min (4 : Int).toNat (IntKind.u8.bits)))).toNat 0).toNat : Int)], [DC.i ((([48, 49, 50, 51, 52, 53, 54, 55, 56, 57, 97, 98, 99, 100, 101, 102] : List UInt8).getD (IntKind.u8.wrap (BitVec.ofInt (IntKind.u8.bits) ((v5.getD 2 d0).ii) &&& BitVec.ofInt (IntKind.u8.bits) (15 : Int)).toNat).toNat 0).toNat : Int)]].length < LIM then
 .norm [.s ((v5.getD 0 d0).ss), .sl (((v5.getD 1 d0).ll) ++ [[DC.i (92 : Int)], [DC.i (117 : Int)], [DC.i (48 : Int)], [DC.i (48 : Int)], [DC.i ((([48, 49, 50, 51, 52, 53, 54, 55, 56, 57, 97, 98, 99, 100, 101, 102] : List UInt8).getD (((v5.getD 2 d0).ii).fdiv (2 ^ (min (4 : Int).toNat (IntKind.u8.bits)))).toNat 0).toNat : Int)], [DC.i ((([48, 49, 50, 51, 52, 53, 54, 55, 56, 57, 97, 98, 99, 100, 101, 102] : List UInt8).getD (IntKind.u8.wrap (BitVec.ofInt (IntKind.u8.bits) ((v5.getD 2 d0).ii) &&& BitVec.ofInt (IntKind.u8.bits) (15 : Int)).toNat).toNat 0).toNat : Int)]]), .i ((v5.getD 3 d0).ii), .i ((v5.getD 4 d0).ii)]
 else
 .fail
 else
 .fail
 else
 .fail
 else
 if ((v5.getD 1 d0).ll).length + [[DC.i ((v5.getD 2 d0).ii)]].length < LIM then
 .norm [.s ((v5.getD 0 d0).ss), .sl (((v5.getD 1 d0).ll) ++ [[DC.i ((v5.getD 2 d0).ii)]]), .i ((v5.getD 3 d0).ii), .i ((v5.getD 4 d0).ii)]
 else
 .fail) fun v6 =>
 .norm [.s ((v6.getD 0 d0).ss), .sl ((v6.getD 1 d0).ll), .i ((v6.getD 2 d0).ii), .i ((v6.getD 3 d0).ii)]) fun v7 =>
 .norm [.s ((v7.getD 0 d0).ss), .sl ((v7.getD 1 d0).ll), .i ((v7.getD 2 d0).ii), .i ((v7.getD 3 d0).ii)]) 2 fun v8 =>
 .norm [.s ((v8.getD 0 d0).ss), .sl ((v8.getD 1 d0).ll), .i ((v8.getD 2 d0).ii), .i ((v8.getD 3 d0).ii)]
 else
 .fail) 1 fun v9 =>
 .norm [.s ((v9.getD 0 d0).ss), .sl ((v9.getD 1 d0).ll), .i ((v9.getD 2 d0).ii), .i (IntKind.i64.wrap ((v9.getD 3 d0).ii + (1 : Int)))]
 else
 .ex 0 [.sl ((v3.getD 1 d0).ll)]
noncomputable def E_impl_Escaped (a : List DC) : Out :=
 Out.andThen ((r_impl_TextOk [.s ((a.getD 0 d0).ss)]).bindR fun r1 =>
 if (!((r1.getD 0 d0).bb)) = true then
 .norm [.s ((a.getD 0 d0).ss), .b true]
 else
 .norm [.s ((a.getD 0 d0).ss), .b (decide ((((a.getD 0 d0).ss).length : Int) > (200 : Int)))]) fun v2 =>
 if (v2.getD 1 d0).bb = true then
 .ret [.s ([] : List UInt8)]
 else
 Out.andThenB (Loop E_impl_EscapedL1 [.s ((v2.getD 0 d0).ss), .sl [[DC.i (34 : Int)]], .i (((v2.getD 0 d0).ss).length : Int), .i (0 : Int)]) 0 fun v10 =>
 if ((v10.getD 0 d0).ll).length + [[DC.i (34 : Int)]].length < LIM then
 .ret [.s (rowBytes (((v10.getD 0 d0).ll) ++ [[DC.i (34 : Int)]]))]
 else
 .fail
theorem eq_impl_Escaped a : r_impl_Escaped a = E_impl_Escaped a := (Run_eq cfg 70 _ a).trans (by kernel_rfl)
noncomputable def E_slices_IndexFunc_impl_Sel__impl_SelsText_1L1 : List DC → Out := fun v1 =>
 if (decide ((v1.getD 2 d0).ii < (v1.getD 1 d0).ii)) = true then
 Out.andThenB (if 64 = 64 ∧ 0 ≤ (v1.getD 2 d0).ii ∧ (v1.getD 2 d0).ii < (((v1.getD 0 d0).ll).length : Int) then
 (r_impl_SelsText_1 [.i (((((v1.getD 0 d0).ll).getD ((v1.getD 2 d0).ii).toNat []).getD 0 d0).ii), .s (((((v1.getD 0 d0).ll).getD ((v1.getD 2 d0).ii).toNat []).getD 1 d0).ss), .s (((((v1.getD 0 d0).ll).getD ((v1.getD 2 d0).ii).toNat []).getD 2 d0).ss), .s (((((v1.getD 0 d0).ll).getD ((v1.getD 2 d0).ii).toNat []).getD 3 d0).ss), .sl (((((v1.getD 0 d0).ll).getD ((v1.getD 2 d0).ii).toNat []).getD 4 d0).ll), .sl (((((v1.getD 0 d0).ll).getD ((v1.getD 2 d0).ii).toNat []).getD 5 d0).ll), .sl (((((v1.getD 0 d0).ll).getD ((v1.getD 2 d0).ii).toNat []).getD 6 d0).ll)]).bindR fun r2 =>
 if (r2.getD 0 d0).bb = true then
 .ret [.i ((v1.getD 2 d0).ii)]
 else
 .norm [.sl ((v1.getD 0 d0).ll), .i ((v1.getD 1 d0).ii), .i ((v1.getD 2 d0).ii)]
 else
 .fail) 1 fun v3 =>
 .norm [.sl ((v3.getD 0 d0).ll), .i ((v3.getD 1 d0).ii), .i (IntKind.i64.wrap ((v3.getD 2 d0).ii + (1 : Int)))]
 else
 .ex 0 []
noncomputable def E_slices_IndexFunc_impl_Sel__impl_SelsText_1 (a : List DC) : Out :=
 Out.andThenB (Loop E_slices_IndexFunc_impl_Sel__impl_SelsText_1L1 [.sl ((a.getD 0 d0).ll), .i (((a.getD 0 d0).ll).length : Int), .i (0 : Int)]) 0 fun v4 =>
 .ret [.i (-1 : Int)]
theorem eq_slices_IndexFunc_impl_Sel__impl_SelsText_1 a : r_slices_IndexFunc_impl_Sel__impl_SelsText_1 a = E_slices_IndexFunc_impl_Sel__impl_SelsText_1 a := (Run_eq cfg 74 _ a).trans (by kernel_rfl)
noncomputable def E_strings_Repeat (a : List DC) : Out := match primH [.s, .i .i64] [.s] qRepeat h_strings_Repeat a with | some r => .ret r | none => .fail
theorem eq_strings_Repeat a : r_strings_Repeat a = E_strings_Repeat a := (Run_eq cfg 75 h_strings_Repeat a).trans (by kernel_rfl)
noncomputable def E_impl_selHead (a : List DC) : Out :=
 Out.andThenB (if ((a.getD 0 d0).ii == (1 : Int)) = true then
 Out.andThen (if (!((a.getD 1 d0).ss == ([] : List UInt8))) = true then
 if ((a.getD 1 d0).ss).length + ([58, 32] : List UInt8).length < LIM then
 .norm [.s (((a.getD 1 d0).ss) ++ ([58, 32] : List UInt8)), .i ((a.getD 0 d0).ii), .s ((a.getD 1 d0).ss), .s ((a.getD 2 d0).ss), .s ((a.getD 3 d0).ss), .sl ((a.getD 4 d0).ll), .sl ((a.getD 5 d0).ll), .sl ((a.getD 6 d0).ll)]
 else
 .fail
 else
 .norm [.s ([] : List UInt8), .i ((a.getD 0 d0).ii), .s ((a.getD 1 d0).ss), .s ((a.getD 2 d0).ss), .s ((a.getD 3 d0).ss), .sl ((a.getD 4 d0).ll), .sl ((a.getD 5 d0).ll), .sl ((a.getD 6 d0).ll)]) fun v1 =>
 if ((v1.getD 0 d0).ss).length + ((v1.getD 3 d0).ss).length < LIM then
 (r_impl_ArgsText [.sl ((v1.getD 5 d0).ll)]).bindR fun r2 =>
 if (((v1.getD 0 d0).ss) ++ ((v1.getD 3 d0).ss)).length + ((r2.getD 0 d0).ss).length < LIM then
 (r_impl_DirsText [.sl ((v1.getD 6 d0).ll)]).bindR fun r3 =>
 if ((((v1.getD 0 d0).ss) ++ ((v1.getD 3 d0).ss)) ++ ((r2.getD 0 d0).ss)).length + ((r3.getD 0 d0).ss).length < LIM then
 .ret [.s (((((v1.getD 0 d0).ss) ++ ((v1.getD 3 d0).ss)) ++ ((r2.getD 0 d0).ss)) ++ ((r3.getD 0 d0).ss))]
 else
 .fail
 else
 .fail
 else
 .fail
 else
 if ((a.getD 0 d0).ii == (2 : Int)) = true then
 if ([46, 46, 46] : List UInt8).length + ((a.getD 2 d0).ss).length < LIM then
 (r_impl_DirsText [.sl ((a.getD 5 d0).ll)]).bindR fun r4 =>
 if (([46, 46, 46] : List UInt8) ++ ((a.getD 2 d0).ss)).length + ((r4.getD 0 d0).ss).length < LIM then
 .ret [.s ((([46, 46, 46] : List UInt8) ++ ((a.getD 2 d0).ss)) ++ ((r4.getD 0 d0).ss))]
 else
 .fail
 else
 .fail
 else
 .norm [.i ((a.getD 0 d0).ii), .s ((a.getD 1 d0).ss), .s ((a.getD 2 d0).ss), .s ((a.getD 3 d0).ss), .sl ((a.getD 4 d0).ll), .sl ((a.getD 5 d0).ll), .sl ((a.getD 6 d0).ll)]) 0 fun v5 =>
 Out.andThen (if (!((v5.getD 3 d0).ss == ([] : List UInt8))) = true then
 if ([32, 111, 110, 32] : List UInt8).length + ((v5.getD 3 d0).ss).length < LIM then
 .norm [.s (([32, 111, 110, 32] : List UInt8) ++ ((v5.getD 3 d0).ss)), .i ((v5.getD 0 d0).ii), .s ((v5.getD 1 d0).ss), .s ((v5.getD 2 d0).ss), .s ((v5.getD 3 d0).ss), .sl ((v5.getD 4 d0).ll), .sl ((v5.getD 5 d0).ll), .sl ((v5.getD 6 d0).ll)]
 else
 .fail
 else
 .norm [.s ([] : List UInt8), .i ((v5.getD 0 d0).ii), .s ((v5.getD 1 d0).ss), .s ((v5.getD 2 d0).ss), .s ((v5.getD 3 d0).ss), .sl ((v5.getD 4 d0).ll), .sl ((v5.getD 5 d0).ll), .sl ((v5.getD 6 d0).ll)]) fun v6 =>
 if ([46, 46, 46] : List UInt8).length + ((v6.getD 0 d0).ss).length < LIM then
 (r_impl_DirsText [.sl ((v6.getD 6 d0).ll)]).bindR fun r7 =>
 if (([46, 46, 46] : List UInt8) ++ ((v6.getD 0 d0).ss)).length + ((r7.getD 0 d0).ss).length < LIM then
 .ret [.s ((([46, 46, 46] : List UInt8) ++ ((v6.getD 0 d0).ss)) ++ ((r7.getD 0 d0).ss))]
 else
 .fail
 else
 .fail
theorem eq_impl_selHead a : r_impl_selHead a = E_impl_selHead a := (Run_eq cfg 76 _ a).trans (by kernel_rfl)
noncomputable def E_laws_eqArg (a : List DC) : Out :=
 if (!((a.getD 0 d0).ss == (a.getD 5 d0).ss)) = true then
 .ret [.b false]
 else
 (r_laws_eqValue [.i ((a.getD 1 d0).ii), .s ((a.getD 2 d0).ss), .sl ((a.getD 3 d0).ll), .sl ((a.getD 4 d0).ll), .i ((a.getD 6 d0).ii), .s ((a.getD 7 d0).ss), .sl ((a.getD 8 d0).ll), .sl ((a.getD 9 d0).ll)]).bindR fun r1 =>
 if (!((r1.getD 0 d0).bb)) = true then
 .ret [.b false]
 else
 .ret [.b true]
theorem eq_laws_eqArg a : r_laws_eqArg a = E_laws_eqArg a := (Run_eq cfg 77 _ a).trans (by kernel_rfl)
noncomputable def E_laws_szValue (a : List DC) : Out :=
 if (decide ((IntKind.i64.wrap ((a.getD 4 d0).ii - (((a.getD 1 d0).ss).length : Int))) < (0 : Int))) = true then
 .ret [.i (-1 : Int)]
 else
 (r_laws_szValueS [.sl ((a.getD 2 d0).ll), .i (IntKind.i64.wrap ((a.getD 4 d0).ii - (((a.getD 1 d0).ss).length : Int)))]).bindR fun r1 =>
 if (decide ((r1.getD 0 d0).ii < (0 : Int))) = true then
 .ret [.i (-1 : Int)]
 else
 (r_laws_szStringS [.sl ((a.getD 3 d0).ll), .i ((r1.getD 0 d0).ii)]).bindR fun r2 =>
 if (decide ((r2.getD 0 d0).ii < (0 : Int))) = true then
 .ret [.i (-1 : Int)]
 else
 .ret [.i ((r2.getD 0 d0).ii)]
theorem eq_laws_szValue a : r_laws_szValue a = E_laws_szValue a := (Run_eq cfg 78 _ a).trans (by kernel_rfl)
noncomputable def E_laws_toValue (a : List DC) : Out :=
 (r_laws_toValueS [.sl ((a.getD 2 d0).ll)]).bindR fun r1 =>
 (r_laws_toStringS [.sl ((a.getD 3 d0).ll)]).bindR fun r2 =>
 .ret [.i ((a.getD 0 d0).ii), .s ((a.getD 1 d0).ss), .sl ((r1.getD 0 d0).ll), .sl ((r2.getD 0 d0).ll)]
theorem eq_laws_toValue a : r_laws_toValue a = E_laws_toValue a := (Run_eq cfg 82 _ a).trans (by kernel_rfl)
end Go.Proofs.QV
