import Derived.Test.YthbcjkppdjpihaaGreatDoorMA5
import Derived.WalkKit
import Derived.ProofKit
import Derived.OpenShut
import Derived.ShutString
import Derived.ChangeOld
import Derived.SizedLaws
import Derived.Lib.ParseIntB
import Derived.Test.YthbcjkppdjpihaaGreatDoorMA4
import Derived.Test.YthbcjkppdjpihaaGreatDoorProg
import Derived.Shelf.Strconv.ParseIntPublic10
import Derived.Lib.AtoiErrMem
import Derived.BigCall
/- The input reads as it did. -/
namespace Go.Proofs.QV
open Go
theorem args_stay {H : Type} {enc : TypeId × Value → H} {P : Program} (hl : laidOutB P = true) {W W' : World} (hb : RowKit.Below W.heap.size W W') : ∀ {ts : List TypeId} {vs : List Value} {ds : List (DataW H)} {ps : List MemPlace},
    (ts.all fun t => P.readableRec t && Nat.blt t P.types.size) = true → DataW.TrodAll enc P W 0 (fun _ => true) true ts vs ds ps → DataW.TrodAll enc P W' 0 (fun b => decide (b < W.heap.size)) true ts vs ds ps
  | [], [], [], ps, _, h => h
  | t :: ts, v :: vs, d :: ds, ps, ht, ⟨p, q, h1, h2, h3⟩ => by
    simp only [List.all_cons, Bool.and_eq_true] at ht
    obtain ⟨⟨k1, k2⟩, k3⟩ := ht
    refine ⟨p, q, RowKit.Below.trod hl k1 (by simpa [Nat.blt_eq] using k2) h1 hb ?_, args_stay hl hb k3 h2, h3⟩
    obtain ⟨m, hm⟩ := h1
    exact DataW.trod_lt m _ _ _ hm
  | [], _ :: _, _, _, _, h => h.elim
  | [], [], _ :: _, _, _, h => h.elim
  | _ :: _, [], _, _, _, h => h.elim
  | _ :: _, _ :: _, [], _, _, h => h.elim
theorem wrap64 {n : Int} (h1 : -9223372036854775808 ≤ n) (h2 : n ≤ 9223372036854775807) : IntKind.i64.wrap n = n := by
  rw [IntKind.wrap_i64]
  omega
set_option linter.unusedVariables false
set_option linter.unusedSimpArgs false
def Out.esc (o : Out) : Prop := ∀ K, o.andThen K = o
theorem Out.esc_ret (v : List DC) : (Out.ret v).esc := fun _ => rfl
theorem Out.esc_ex (id : Nat) (v : List DC) : (Out.ex id v).esc := fun _ => rfl
theorem Loop_norm {F : List DC → Out} {v v' : List DC} (h : F v = .norm v') : Loop F v = Loop F v' := by rw [Loop_eq, h]; rfl
theorem Loop_ex {F : List DC → Out} {v r : List DC} {id : Nat} (h : F v = .ex id r) : Loop F v = .ex id r := by rw [Loop_eq, h]; rfl
theorem Loop_esc {F : List DC → Out} {v : List DC} {o : Out} (h : F v = o) (he : o.esc) : Loop F v = o := by rw [Loop_eq, h, he]
theorem Loop_upto {F : List DC → Out} {st : Nat → List DC} {o : Out} : ∀ (m i : Nat), (∀ j, i ≤ j → j < i + m → F (st j) = .norm (st (j + 1))) → Loop F (st (i + m)) = o → Loop F (st i) = o
  | 0, i, _, h2 => by simpa using h2
  | m + 1, i, h1, h2 => by
    rw [Loop_norm (h1 i (Nat.le_refl _) (by omega))]
    refine Loop_upto m (i + 1) (fun j hj hj' => h1 j (by omega) (by omega)) ?_
    rw [show i + 1 + m = i + (m + 1) by omega]
    exact h2
def goF {α : Type} (p : α → Bool) (stop : Nat → α → Out) (fin : Out) : Nat → List α → Out
  | _, [] => fin
  | i, x :: xs => if p x = true then stop i x else goF p stop fin (i + 1) xs
theorem Loop_find {α : Type} {l : List α} {st : Nat → List DC} {p : α → Bool} {stop : Nat → α → Out} {fin : Out} {F : List DC → Out}
    (hF : ∀ (i : Nat) (hi : i < l.length), F (st i) = if p l[i] = true then stop i l[i] else .norm (st (i + 1)))
    (hs : ∀ i x, (stop i x).esc) (hend : F (st l.length) = fin) (hfin : fin.esc) : ∀ (m i : Nat), i + m = l.length → Loop F (st i) = goF p stop fin i (l.drop i)
  | 0, i, hi => by
    have : i = l.length := by omega
    subst this
    rw [List.drop_length, goF]
    exact Loop_esc hend hfin
  | m + 1, i, hi => by
    have hlt : i < l.length := by omega
    rw [List.drop_eq_getElem_cons hlt, goF]
    by_cases hp : p l[i] = true
    · rw [if_pos hp]
      exact Loop_esc (by rw [hF i hlt, if_pos hp]) (hs _ _)
    · rw [if_neg hp, Loop_norm (by rw [hF i hlt, if_neg hp])]
      exact Loop_find hF hs hend hfin m (i + 1) (by omega)
theorem Loop_find0 {α : Type} {l : List α} {st : Nat → List DC} {p : α → Bool} {stop : Nat → α → Out} {fin : Out} {F : List DC → Out}
    (hF : ∀ (i : Nat) (hi : i < l.length), F (st i) = if p l[i] = true then stop i l[i] else .norm (st (i + 1)))
    (hs : ∀ i x, (stop i x).esc) (hend : F (st l.length) = fin) (hfin : fin.esc) : Loop F (st 0) = goF p stop fin 0 l := by
  have := Loop_find hF hs hend hfin l.length 0 (by omega)
  rwa [List.drop_zero] at this
theorem goF_any {α : Type} {p : α → Bool} {a : Out} {fin : Out} : ∀ (l : List α) (i : Nat), goF p (fun _ _ => a) fin i l = if l.any p = true then a else fin
  | [], i => rfl
  | x :: l, i => by
    rw [goF, goF_any l (i + 1), List.any_cons]
    cases p x <;> simp
theorem wrap_succ {i n : Nat} (h : i < n) (hn : n ≤ 9223372036854775807) : IntKind.i64.wrap ((i : Int) + 1) = ((i + 1 : Nat) : Int) := by
  rw [wrap64 (by omega) (by omega)]
  simp
theorem map_getD {α : Type} {f : α → List DC} {l : List α} {i : Nat} (h : i < l.length) : (l.map f).getD i [] = f l[i] := by
  rw [List.getD_eq_getElem?_getD, List.getElem?_map, List.getElem?_eq_getElem h]
  rfl
theorem zz0 {α : Type} {x : α} {l : List α} {d : α} : (x :: l).getD 0 d = x := List.getD_cons_zero
theorem zz1 {α : Type} {x : α} {l : List α} {i : Nat} {d : α} : (x :: l).getD (i + 1) d = l.getD i d := List.getD_cons_succ
@[simp] theorem zb (x : Bool) : (DC.b x).bb = x := rfl
@[simp] theorem zi (x : Int) : (DC.i x).ii = x := rfl
@[simp] theorem zs (x : List UInt8) : (DC.s x).ss = x := rfl
@[simp] theorem zl (x : List (List DC)) : (DC.sl x).ll = x := rfl
theorem zt (b : Bool) : b = true ∨ b = false := Bool.eq_false_or_eq_true b
theorem zm {α β : Type} (f : α → β) {l : List α} : (l.map f).length = l.length := List.length_map f
theorem zf : (false = true) = False := Bool.false_eq_true
def k1Is : CT → KC → Bool
  | .b, .one .b => true
  | .i k, .one (.i k') => decide (k = k')
  | .s, .one .s => true
  | _, _ => false
def tmIs : List CT → List KC → Bool
  | [], [] => true
  | c :: cs, k :: ks => k1Is c k && tmIs cs ks
  | _, _ => false
def hintLit (cts : List CT) (h : Hint) : Bool := tmIs cts h.tm && (match h.ob with | [] => true | _ => false)
theorem tmIs_eq : ∀ {cts : List CT} {ks : List KC}, tmIs cts ks = true → ks = cts.map fun c => .one c.k1
  | [], [], _ => rfl
  | c :: cs, k :: ks, h => by
    simp only [tmIs, Bool.and_eq_true] at h
    rw [List.map_cons, ← tmIs_eq h.2]
    congr 1
    have h1 := h.1
    unfold k1Is at h1
    split at h1
    · rfl
    · simp only [decide_eq_true_eq] at h1; rw [h1]; rfl
    · rfl
    · simp at h1
  | [], _ :: _, h => by simp [tmIs] at h
  | _ :: _, [], h => by simp [tmIs] at h
theorem tmIs_flat : ∀ {cts : List CT} {ks : List KC}, tmIs cts ks = true → cts.all CT.flat = true
  | [], _, _ => rfl
  | c :: cs, k :: ks, h => by
    simp only [tmIs, Bool.and_eq_true] at h
    rw [List.all_cons, tmIs_flat h.2, Bool.and_true]
    have h1 := h.1
    cases c <;> simp_all [k1Is, CT.flat]
  | _ :: _, [], h => by simp [tmIs] at h
def litC : CT → DC → Value
  | .b, d => .bool d.bb
  | .i k, d => .int k d.ii
  | .s, d => .string ⟨d.ss.toArray⟩
  | .sl _, _ => undef
def lits : List CT → List DC → Nat → List Value
  | [], _, _ => []
  | c :: cs, v, n => litC c (v.getD n d0) :: lits cs v (n + 1)
theorem lits_len : ∀ (cts : List CT) (v : List DC) (n : Nat), (lits cts v n).length = cts.length
  | [], _, _ => rfl
  | c :: cs, v, n => by rw [lits, List.length_cons, lits_len cs v (n + 1), List.length_cons]
theorem mkT_lit (v : List DC) : ∀ (cts : List CT) (n i : Nat) (c : CT), cts.all CT.flat = true → cts[i]? = some c → (mkT v n (cts.map fun c => KC.one c.k1))[i]? = some (.one (c.k1.mk v (n + i)))
  | [], n, i, c, _, h => by simp at h
  | a :: cts, n, 0, c, hf, h => by
    simp only [List.getElem?_cons_zero, Option.some.injEq] at h
    subst h
    rfl
  | a :: cts, n, i + 1, c, hf, h => by
    simp only [List.all_cons, Bool.and_eq_true] at hf
    simp only [List.getElem?_cons_succ] at h
    have hc : a.k1.cnt = 1 := by cases a <;> rfl
    rw [List.map_cons, mkT, List.getElem?_cons_succ, hc, mkT_lit v cts (n + 1) i c hf.2 h]
    congr 3
    omega
theorem mkT_len (v : List DC) : ∀ (ks : List KC) (n : Nat), (mkT v n ks).length = ks.length
  | [], _ => rfl
  | .one k :: ks, n => by rw [mkT, List.length_cons, mkT_len v ks, List.length_cons]
  | .agg l :: ks, n => by rw [mkT, List.length_cons, mkT_len v ks, List.length_cons]
theorem lits_get (v : List DC) : ∀ (cts : List CT) (n i : Nat) (c : CT), cts[i]? = some c → (lits cts v n)[i]? = some (litC c (v.getD (n + i) d0))
  | [], n, i, c, h => by simp at h
  | a :: cts, n, 0, c, h => by
    simp only [List.getElem?_cons_zero, Option.some.injEq] at h
    subst h
    rfl
  | a :: cts, n, i + 1, c, h => by
    simp only [List.getElem?_cons_succ] at h
    rw [lits, List.getElem?_cons_succ, lits_get v cts (n + 1) i c h]
    congr 3
    omega
section
variable {P : Program} {ty : Nat → Option TI}
theorem lit_args {A : An} {g : Gh} {fi : FI} {cts : List CT} {v : List DC} {vals : Array Value} {w : World} (hf : cts.all CT.flat = true)
    (hr : Rel ty A g (startSt fi ⟨cts.map fun c => .one c.k1, []⟩ v) { tmps := vals ++ Array.replicate (fi.ntmps - vals.size) undef, defers := [] } w) (hs : vals.size = cts.length) : vals = (lits cts v 0).toArray := by
  apply Array.toList_inj.1
  apply List.ext_getElem?
  intro i
  by_cases hi : i < cts.length
  · have hc : cts[i]? = some cts[i] := List.getElem?_eq_getElem hi
    have h1 := mkT_lit v cts 0 i _ hf hc
    have h2 : (startSt fi ⟨cts.map fun c => .one c.k1, []⟩ v).tm[i]? = some (.one (cts[i].k1.mk v (0 + i))) := by
      unfold startSt mkSt
      dsimp only
      rw [List.getElem?_append_left (by rw [mkT_len]; simpa using hi)]
      exact h1
    have hv : vals.toList[i]? = some (vals[i]'(by omega)) := by
      rw [Array.getElem?_toList, Array.getElem?_eq_getElem (by omega)]
    have h3 := hr.tm i _ (vals[i]'(by omega)) h2 (by
      dsimp only
      rw [Array.getElem?_append_left (by omega), Array.getElem?_eq_getElem (by omega)])
    have hfl : CT.flat cts[i] = true := List.all_eq_true.1 hf _ (List.getElem_mem hi)
    have hl := lits_get v cts 0 i _ hc
    simp only [List.toList_toArray] at hl ⊢
    rw [hv, hl]
    congr 1
    generalize cts[i] = c at h3 hfl ⊢
    cases c with
    | sl e => simp [CT.flat] at hfl
    | b => exact h3
    | i k => exact h3
    | s => exact h3
  · rw [List.getElem?_eq_none (by simp; omega), List.getElem?_eq_none (by simp [lits_len]; omega)]
theorem rkAll_ct (rcts : List CT) (i : Nat) : rkAll i (rcts.map fun c => (false, [RK.ct c])) = rcts.map CT.k1 := by
  unfold rkAll
  induction rcts with
  | nil => rfl
  | cons c cs ih =>
    rw [List.map_cons, List.flatMap_cons, List.map_cons]
    show rkK i (RK.ct c :: (cs.map fun c => (false, [RK.ct c])).flatMap Prod.snd) = _
    rw [rkK]
    show c.k1 :: rkK i _ = _
    rw [ih]
def okD : CT → DC → Bool
  | .b, .b _ => true
  | .i _, .i _ => true
  | .s, .s _ => true
  | _, _ => false
def okDs : List CT → List DC → Nat → Bool
  | [], _, _ => true
  | c :: cs, r, n => okD c (r.getD n d0) && okDs cs r (n + 1)
theorem lit_res {A : An} {rcts : List CT} {r : List DC} {w' : World} (hf : okDs rcts r 0 = true) (hA : A.m = 0) (hk : Keep A w') : Res ty A [] (rcts.map fun c => (false, [RK.ct c])) r (lits rcts r 0) w' := by
  refine ⟨⟨⟨fun _ => False, fun _ => 0, fun _ => undef, fun _ _ => False⟩, [], [], lits rcts r 0, [], ?_, rfl, ?_, ?_, fun b h => h.elim, fun j hj => by omega, fun j hj => by omega⟩, hk⟩
  · have : ∀ (cs : List CT) (n : Nat), RVs (cs.map fun c => (false, [RK.ct c])) (lits cs r n) (lits cs r n) := by
      intro cs
      induction cs with
      | nil => intro n; rfl
      | cons c cs ih => intro n; exact ⟨[litC c (r.getD n d0)], lits cs r (n + 1), rfl, rfl, fun h => absurd h (by simp), fun _ => rfl, ih (n + 1)⟩
    exact this rcts 0
  · rw [rkAll_ct, List.flatMap_nil, List.append_nil, List.append_nil]
    have : ∀ (cs : List CT) (n : Nat), okDs cs r n = true → FL ty A ⟨fun _ => False, fun _ => 0, fun _ => undef, fun _ _ => False⟩ [] [] w' r n (cs.map CT.k1) (lits cs r n) := by
      intro cs
      induction cs with
      | nil => intro n _; trivial
      | cons c cs ih =>
        intro n hc
        simp only [okDs, Bool.and_eq_true] at hc
        have hcnt : c.k1.cnt = 1 := by cases c <;> rfl
        rw [List.map_cons, lits]
        refine ⟨⟨[r.getD n d0], by rw [hcnt]; rfl, fun i hi => ?_, ?_⟩, ?_⟩
        · rw [hcnt] at hi
          have : i = 0 := by omega
          subst this
          rfl
        · have h1 := hc.1
          cases c with
          | b => cases hd : r.getD n d0 <;> rw [hd] at h1 <;> simp [okD] at h1; exact ⟨_, rfl, rfl⟩
          | i k => cases hd : r.getD n d0 <;> rw [hd] at h1 <;> simp [okD] at h1; exact ⟨_, rfl, rfl⟩
          | s => cases hd : r.getD n d0 <;> rw [hd] at h1 <;> simp [okD] at h1; exact ⟨_, rfl, rfl⟩
          | sl e => simp [okD] at h1
        · rw [hcnt]
          exact ih (n + 1) hc.2
    exact this rcts 0 hf
  · rw [rkAll_ct, List.flatMap_nil, List.append_nil, List.append_nil]
    have : ∀ {B : Value → Nat → Nat → Prop} (cs : List CT) (us : List Value), Apart B (cs.map CT.k1) us := by
      intro B
      intro cs
      induction cs with
      | nil => intro us; cases us <;> trivial
      | cons c cs ih =>
        intro us
        cases us with
        | nil => cases c <;> trivial
        | cons u us => cases c <;> exact ih us
    exact this rcts _
def primH (cts rcts : List CT) (q : List DC → Option (List DC)) : Hint → List DC → Option (List DC) := fun h v => if hintLit cts h = true then (match q v with | some r => if okDs rcts r 0 = true then some r else none | none => none) else none
theorem prim_lit {G : Glob} {f : Nat} {fi : FI} {fd : Func} {cts rcts : List CT} {q : List DC → Option (List DC)} (h1 : P.funcs[f]? = some fd) (h2 : (fd.name == "runtime.NumGoroutine") = false) (h3 : fd.body.isNone = false)
    (hmk : fi.mark = none) (hrk : fi.rk = rcts.map fun c => (false, [RK.ct c])) (hp : fi.prim = some fun h v => if hintLit cts h = true then (match q v with | some r => if okDs rcts r 0 = true then some r else none | none => none) else none)
    (hq : ∀ v r w, q v = some r → G.ok w → Calls P f (lits cts v 0).toArray w fun e w' => e = .returned (resVal (lits rcts r 0)) ∧ RowKit.Below w.heap.size w w') (hstf : fi.stf = none := by rfl) : FnOk P G ty f fi := by
  refine ⟨⟨fd, h1, h2, h3, fun h => by rw [hp] at h; simp at h⟩, fun p hpp h v r e => ?_, fun m hm => (by rw [hmk] at hm; cases hm), fun m hm => (by rw [hstf] at hm; cases hm)⟩
  rw [hp] at hpp
  simp only [Option.some.injEq] at hpp
  subst hpp
  dsimp only at e
  split at e
  · rename_i hh
    cases hqv : q v with
    | none => rw [hqv] at e; simp at e
    | some r' =>
      rw [hqv] at e
      dsimp only at e
      split at e
      · rename_i hok
        simp only [Option.some.injEq] at e
        subst e
        unfold hintLit at hh
        rw [Bool.and_eq_true] at hh
        obtain ⟨k1, k2⟩ := hh
        have hob : h.ob = [] := by
          cases ho : h.ob with
          | nil => rfl
          | cons a l => rw [ho] at k2; simp at k2
        have htm := tmIs_eq k1
        have hflat := tmIs_flat k1
        obtain ⟨tm, ob⟩ := h
        dsimp only at hob htm k1
        subst hob htm
        intro A g vals w hA hr hs hw hm
        have hvals := lit_args hflat hr (by simpa using hs)
        subst hw
        have hc := hq v r' A.w0 hqv hA.1
        rw [← hvals] at hc
        refine Calls.mono hc fun en w' hen => ?_
        obtain ⟨rfl, bel⟩ := hen
        refine ⟨_, rfl, ?_⟩
        rw [hrk]
        refine lit_res hok (by rw [hm]; rfl) ⟨bel.os, bel.tape, bel.output, bel.size, fun b hb _ _ => bel.block b hb⟩
      · simp at e
  · simp at e
end
def isOk {α : Type} : Lib.NumEnd α → Bool
  | .ok _ => true
  | _ => false
def postFits (v r : List DC) : Option (List DC) :=
  match v, r with
  | [.s l], [.b x] => if l.length ≤ 281474976710656 then some [.b (x && isOk (Lib.parseIntB 32 l))] else none
  | _, _ => none
section
variable {P : Program} {ty : Nat → Option TI} {w : World}
theorem str_bool {G : Glob} {fn : Nat → Option FI} {cl : Nat → Hint → List DC → Out} (hcl : CallOK P G ty fn cl) {f : Nat} {fi : FI} (hf : fn f = some fi) (hrk : fi.rk = [(false, [.ct .b])]) {l : List UInt8} {x : Bool} (hr : cl f ⟨[.one .s], []⟩ [.s l] = .ret [.b x])
    (hG : G.ok w ∧ ∀ b, G.gb b → b < w.heap.size) : Calls P f #[.string ⟨l.toArray⟩] w fun e w' => e = .returned (.bool x) ∧ RowKit.Below w.heap.size w w' := by
  let A : An := { w0 := w, I0 := fun b => b < w.heap.size, Pv := fun _ => False, Pm := fun _ => False, m := 0, pb := fun _ => 0 }
  let g : Gh := { I := fun b => b < w.heap.size, blk := fun _ => 0, val := fun _ => undef, dom := fun _ _ => False }
  have hfree : ∀ id o, getH (List.replicate fi.nobj HS.free) id ≠ .live o := by
    intro id o
    unfold getH
    rw [List.getD_eq_getElem?_getD, List.getElem?_replicate]
    split <;> simp
  have hst : startSt fi ⟨[.one .s], []⟩ [.s l] = ⟨[.one (.str l)] ++ List.replicate (fi.ntmps - 1) (.one .undef), List.replicate fi.nobj HS.free⟩ := rfl
  have hrel : Rel ty A g (startSt fi ⟨[.one .s], []⟩ [.s l]) { tmps := #[.string ⟨l.toArray⟩] ++ Array.replicate (fi.ntmps - (#[Value.string ⟨l.toArray⟩] : Array Value).size) undef, defers := [] } w := by
    rw [hst]
    refine ⟨?_, fun i c v h1 h2 => ?_, fun id o ho => absurd ho (hfree id o), fun i j o p x _ hi => absurd hi (hfree i o), fun b hb => hb, fun b hb => .inl hb, fun id o x ho => absurd ho (hfree id o), fun j hj => by simp [A] at hj, fun j hj => by simp [A] at hj,
      ⟨rfl, rfl, rfl, Nat.le_refl _, fun _ _ _ _ => rfl⟩, rfl⟩
    · simp [Nat.add_comm]
    · cases i with
      | zero =>
        simp only [List.cons_append, List.getElem?_cons_zero, Option.some.injEq] at h1
        subst h1
        dsimp only at h2
        rw [Array.getElem?_append_left (by simp)] at h2
        have : v = .string ⟨l.toArray⟩ := by simpa using h2.symm
        exact this
      | succ i =>
        simp only [List.cons_append, List.nil_append, List.getElem?_cons_succ, List.getElem?_replicate] at h1
        split at h1
        · simp only [Option.some.injEq] at h1
          subst h1
          trivial
        · simp at h1
  have hcalls := hcl f fi ⟨[.one .s], []⟩ [.s l] [.b x] hf hr A g #[.string ⟨l.toArray⟩] w ⟨hG.1, fun b hb => ⟨hG.2 b hb, fun h => h, fun h => h⟩⟩ hrel rfl rfl rfl
  refine Calls.mono hcalls fun e w' he => ?_
  cases e with
  | returned rv =>
    obtain ⟨vs, rfl, hres⟩ := he
    obtain ⟨⟨gr, H0, H1, us1, us2, q1, q2, q3, _⟩, hkeep⟩ := hres
    rw [hrk] at q1 q3
    match vs, q1 with
    | [v], ⟨u1, u2, z1, z2, z3, z4, z5⟩ =>
      have z5' : u2 = [] := z5
      subst z5'
      have := z4 rfl
      subst this
      rw [List.append_nil] at z1
      subst z1
      have hus2 : us2 = [] := q2
      subst hus2
      obtain ⟨⟨dd, y1, y2, y3⟩, _⟩ := q3
      obtain ⟨y, rfl, rfl⟩ := y3
      have := y2 0 (by simp [RK.k1, CT.k1, K1.cnt])
      simp only [Nat.add_zero, List.getD_cons_zero] at this
      have hx : y = x := by
        have : DC.b x = DC.b y := this
        simpa using this.symm
      subst hx
      exact ⟨rfl, ⟨hkeep.os, hkeep.tape, hkeep.output, hkeep.size, fun b hb => hkeep.block b hb (fun h => h) (fun h => h)⟩⟩
    | [], q1 => exact q1.elim
    | _ :: _ :: _, ⟨_, _, _, _, _, _, h⟩ => exact h.elim
  | panicked ch => exact he.elim
  | outgrown => exact he.elim
end
noncomputable def qVia (cfg : Cfg) (f : Nat) (v : List DC) : Option (List DC) := match Run cfg f ⟨[.one .s], []⟩ v with
  | .ret b => postFits v b
  | _ => none
end Go.Proofs.QV

namespace Go.Proofs
open Go.Shelf
set_option maxRecDepth 100000
def Tryz.lays174_ren : Go.Shelf.Ren := ⟨fun | 174 => 77 | 247 => 97 | 245 => 98 | 287 => 126 | 279 => 127 | 280 => 128 | 281 => 129 | 282 => 130 | 321 => 153 | 322 => 154 | 316 => 155 | 171 => 157 | 205 => 156 | 243 => 163 | 246 => 168 | 283 => 169 | 284 => 170 | 285 => 171 | 286 => 172 | 129 => 174 | 317 => 173 | 318 => 175 | 319 => 176 | 320 => 177 | 337 => 178 | 338 => 179 | n => n, fun | 9 => 9 | 3 => 3 | 2 => 2 | 75 => 123 | 85 => 124 | 4 => 4 | 167 => 168 | 5 => 5 | 53 => 169 | 175 => 170 | 46 => 119 | 168 => 172 | 37 => 22 | 0 => 0 | 210 => 196 | 21 => 21 | 127 => 201 | 145 => 204 | 143 => 202 | 171 => 209 | 173 => 212 | 212 => 215 | 51 => 216 | 20 => 20 | 213 => 217 | 232 => 220 | 233 => 221 | 80 => 222 | n => n, fun | 15 => 0 | 16 => 1 | 17 => 2 | 18 => 3 | 19 => 4 | n => n⟩
theorem Tryz.lays174 : Go.Proofs.LaysC.n174 Tryz.prog Tryz.lays174_ren := {
  mixed := by kernel_rfl,
  f129 := Tryz.func174.trans (congrArg some (by kernel_rfl)),
  f171 := Tryz.func157.trans (congrArg some (by kernel_rfl)),
  f174 := Tryz.func77.trans (congrArg some (by kernel_rfl)),
  f205 := Tryz.func156.trans (congrArg some (by kernel_rfl)),
  f243 := Tryz.func163.trans (congrArg some (by kernel_rfl)),
  f245 := Tryz.func98.trans (congrArg some (by kernel_rfl)),
  f246 := Tryz.func168.trans (congrArg some (by kernel_rfl)),
  f247 := Tryz.func97.trans (congrArg some (by kernel_rfl)),
  f279 := Tryz.func127.trans (congrArg some (by kernel_rfl)),
  f280 := Tryz.func128.trans (congrArg some (by kernel_rfl)),
  f281 := Tryz.func129.trans (congrArg some (by kernel_rfl)),
  f282 := Tryz.func130.trans (congrArg some (by kernel_rfl)),
  f283 := Tryz.func169.trans (congrArg some (by kernel_rfl)),
  f284 := Tryz.func170.trans (congrArg some (by kernel_rfl)),
  f285 := Tryz.func171.trans (congrArg some (by kernel_rfl)),
  f286 := Tryz.func172.trans (congrArg some (by kernel_rfl)),
  f287 := Tryz.func126.trans (congrArg some (by kernel_rfl)),
  f316 := Tryz.func155.trans (congrArg some (by kernel_rfl)),
  f317 := Tryz.func173.trans (congrArg some (by kernel_rfl)),
  f318 := Tryz.func175.trans (congrArg some (by kernel_rfl)),
  f319 := Tryz.func176.trans (congrArg some (by kernel_rfl)),
  f320 := Tryz.func177.trans (congrArg some (by kernel_rfl)),
  f321 := Tryz.func153.trans (congrArg some (by kernel_rfl)),
  f322 := Tryz.func154.trans (congrArg some (by kernel_rfl)),
  f337 := Tryz.func178.trans (congrArg some (by kernel_rfl)),
  f338 := Tryz.func179.trans (congrArg some (by kernel_rfl)),
  t0 := Tryz.underlying0,
  a0 := Tryz.isAgg0,
  z0 := Tryz.sizeOf0,
  v0 := Tryz.zeroValue0,
  t2 := Tryz.underlying2,
  a2 := Tryz.isAgg2,
  z2 := Tryz.sizeOf2,
  v2 := Tryz.zeroValue2,
  t3 := Tryz.underlying3,
  a3 := Tryz.isAgg3,
  z3 := Tryz.sizeOf3,
  v3 := Tryz.zeroValue3,
  t4 := Tryz.underlying4,
  a4 := Tryz.isAgg4,
  z4 := Tryz.sizeOf4,
  v4 := Tryz.zeroValue4,
  t5 := Tryz.underlying5,
  a5 := Tryz.isAgg5,
  z5 := Tryz.sizeOf5,
  v5 := Tryz.zeroValue5,
  t9 := Tryz.underlying9,
  a9 := Tryz.isAgg9,
  z9 := Tryz.sizeOf9,
  v9 := Tryz.zeroValue9,
  t20 := Tryz.underlying20,
  a20 := Tryz.isAgg20,
  z20 := Tryz.sizeOf20,
  v20 := Tryz.zeroValue20,
  t21 := Tryz.underlying21,
  a21 := Tryz.isAgg21,
  z21 := Tryz.sizeOf21,
  v21 := Tryz.zeroValue21,
  t37 := Tryz.underlying22,
  a37 := Tryz.isAgg22,
  z37 := Tryz.sizeOf22,
  v37 := Tryz.zeroValue22,
  t46 := Tryz.underlying119,
  a46 := Tryz.isAgg119,
  z46 := Tryz.sizeOf119,
  v46 := Tryz.zeroValue119,
  t51 := Tryz.underlying216,
  a51 := Tryz.isAgg216,
  z51 := Tryz.sizeOf216,
  v51 := Tryz.zeroValue216,
  t53 := Tryz.underlying169,
  a53 := Tryz.isAgg169,
  z53 := Tryz.sizeOf169,
  v53 := Tryz.zeroValue169,
  t75 := Tryz.underlying123,
  a75 := Tryz.isAgg123,
  z75 := Tryz.sizeOf123,
  v75 := Tryz.zeroValue123,
  t85 := Tryz.underlying124,
  a85 := Tryz.isAgg124,
  z85 := Tryz.sizeOf124,
  v85 := Tryz.zeroValue124,
  t127 := Tryz.underlying201,
  a127 := Tryz.isAgg201,
  z127 := Tryz.sizeOf201,
  v127 := Tryz.zeroValue201,
  t143 := Tryz.underlying202,
  a143 := Tryz.isAgg202,
  z143 := Tryz.sizeOf202,
  v143 := Tryz.zeroValue202,
  t145 := Tryz.underlying204,
  a145 := Tryz.isAgg204,
  z145 := Tryz.sizeOf204,
  v145 := Tryz.zeroValue204,
  t167 := Tryz.underlying168,
  a167 := Tryz.isAgg168,
  z167 := Tryz.sizeOf168,
  v167 := Tryz.zeroValue168,
  t168 := Tryz.underlying172,
  a168 := Tryz.isAgg172,
  z168 := Tryz.sizeOf172,
  v168 := Tryz.zeroValue172,
  t171 := Tryz.underlying209,
  a171 := Tryz.isAgg209,
  z171 := Tryz.sizeOf209,
  v171 := Tryz.zeroValue209,
  t173 := Tryz.underlying212,
  a173 := Tryz.isAgg212,
  z173 := Tryz.sizeOf212,
  v173 := Tryz.zeroValue212,
  t175 := Tryz.underlying170,
  a175 := Tryz.isAgg170,
  z175 := Tryz.sizeOf170,
  v175 := Tryz.zeroValue170,
  t210 := Tryz.underlying196,
  a210 := Tryz.isAgg196,
  z210 := Tryz.sizeOf196,
  v210 := Tryz.zeroValue196,
  t212 := Tryz.underlying215,
  a212 := Tryz.isAgg215,
  z212 := Tryz.sizeOf215,
  v212 := Tryz.zeroValue215,
  t213 := Tryz.underlying217,
  a213 := Tryz.isAgg217,
  z213 := Tryz.sizeOf217,
  t232 := Tryz.underlying220,
  a232 := Tryz.isAgg220,
  z232 := Tryz.sizeOf220,
  v232 := Tryz.zeroValue220,
  t233 := Tryz.underlying221,
  a233 := Tryz.isAgg221,
  z233 := Tryz.sizeOf221,
  v233 := Tryz.zeroValue221,
  g15 := by kernel_rfl,
  g16 := by kernel_rfl,
  g17 := by kernel_rfl,
  g18 := by kernel_rfl,
  g19 := by kernel_rfl,
  t80 := Tryz.underlying222,
  a80 := Tryz.isAgg222,
  z80 := Tryz.sizeOf222,
  v80 := Tryz.zeroValue222,
  i0 := by kernel_rfl,
  i2 := by kernel_rfl,
  i3 := by kernel_rfl,
  i4 := by kernel_rfl,
  i5 := by kernel_rfl,
  i9 := by kernel_rfl,
  i20 := by kernel_rfl,
  i21 := by kernel_rfl,
  i37 := by kernel_rfl,
  i46 := by kernel_rfl,
  i51 := by kernel_rfl,
  i53 := by kernel_rfl,
  i75 := by kernel_rfl,
  i80 := by kernel_rfl,
  i85 := by kernel_rfl,
  i127 := by kernel_rfl,
  i143 := by kernel_rfl,
  i145 := by kernel_rfl,
  i167 := by kernel_rfl,
  i168 := by kernel_rfl,
  i171 := by kernel_rfl,
  i173 := by kernel_rfl,
  i175 := by kernel_rfl,
  i210 := by kernel_rfl,
  i212 := by kernel_rfl,
  i232 := by kernel_rfl,
  i233 := by kernel_rfl,
  m15 := by kernel_rfl,
  m16 := by kernel_rfl,
  m17 := by kernel_rfl,
  m18 := by kernel_rfl,
  m19 := by kernel_rfl,
  c0 := by kernel_rfl,
  c2 := by kernel_rfl,
  c3 := by kernel_rfl,
  c4 := by kernel_rfl,
  c5 := by kernel_rfl,
  c9 := by kernel_rfl,
  c20 := by kernel_rfl,
  c21 := by kernel_rfl,
  c37 := by kernel_rfl,
  c46 := by kernel_rfl,
  c51 := by kernel_rfl,
  c53 := by kernel_rfl,
  c75 := by kernel_rfl,
  c80 := by kernel_rfl,
  c85 := by kernel_rfl,
  c127 := by kernel_rfl,
  c143 := by kernel_rfl,
  c145 := by kernel_rfl,
  c167 := by kernel_rfl,
  c168 := by kernel_rfl,
  c171 := by kernel_rfl,
  c173 := by kernel_rfl,
  c175 := by kernel_rfl,
  c210 := by kernel_rfl,
  c212 := by kernel_rfl,
  c213 := by kernel_rfl,
  c232 := by kernel_rfl,
  c233 := by kernel_rfl }
end Go.Proofs
namespace Go.Proofs
open Go.Shelf Go.RowKit
set_option maxHeartbeats 4000000
theorem Tryz.pi_ok (s : ByteArray) (hmax : s.size ≤ 9223372036854775806) (v : Int) (h : Lib.parseIntB 32 s.data.toList = .ok v) (w : World) :
    Calls Tryz.prog 77 #[.string s, .int .i64 10, .int .i64 32] w fun e w' => e = .returned (.tuple #[.int .i64 v, .nilIface]) ∧ (w' = w ∨ ∃ t, w' = Lib.bytesWorld w 5 t) := Any.strconv_ParseInt_10_at32_ok Tryz.lays174 s hmax v h w
theorem Tryz.pi_range (s : ByteArray) (hlim : s.size ≤ 281474976710656) (h : Lib.parseIntB 32 s.data.toList = .range) (ev : Value) (w : World) (hv : w.cell? ⟨1, 0, none⟩ = some ev) (hev : ev = .nilIface ∨ ∃ te pe, ev = .iface te pe) :
    Calls Tryz.prog 77 #[.string s, .int .i64 10, .int .i64 32] w fun e w' => ∃ N, e = .returned (.tuple #[.int .i64 (Lib.intSat 32 s.data.toList), .iface 172 (.pointer (some ⟨N, 0, none⟩))]) ∧ w.heap.size ≤ N ∧ w'.heap[N]? = some (.cells #[.string ⟨#[80, 97, 114, 115, 101, 73, 110, 116]⟩, .string s, ev] 196 (0, 0)) ∧ RowKit.Below w.heap.size w w' := Any.strconv_ParseInt_10_at32_range Tryz.lays174 s hlim h ev w hv hev
theorem Tryz.fits32 (s : ByteArray) (x : Bool) (hlim : s.size ≤ 281474976710656) (ev0 ev1 : Value) (w : World) (hv0 : w.cell? ⟨0, 0, none⟩ = some ev0) (he0 : ev0 = .nilIface ∨ ∃ te pe, ev0 = .iface te pe) (hv1 : w.cell? ⟨1, 0, none⟩ = some ev1) (he1 : ev1 = .nilIface ∨ ∃ te pe, ev1 = .iface te pe)
    (hI : ∀ W, Below w.heap.size w W → Calls Tryz.prog 78 #[.string s] W fun e w' => e = .returned (.bool x) ∧ Below W.heap.size W w') :
    Calls Tryz.prog 62 #[.string s] w fun e w' => e = .returned (.bool (x && QV.isOk (Lib.parseIntB 32 s.data.toList))) ∧ Below w.heap.size w w' := by
  cases x
  · cases h : Lib.parseIntB 32 s.data.toList
    case ok v =>
      go_enter Tryz.func62, Tryz.ntmps62
      go_wp2_with (go_at_call 77; refine (Tryz.pi_ok s (by omega) v h _).mono ?_; rintro e W1 ⟨rfl, hW⟩)
      have hb : Below w.heap.size w W1 := by
        rcases hW with rfl | ⟨t, rfl⟩
        · exact Below.refl _ _
        · exact Lib.bytesWorld_below _ _ _
      go_wp2_with (go_at_call 78; refine (hI W1 hb).mono ?_; rintro e W2 ⟨rfl, hb2⟩)
      go_wp2
      go_ret
      exact ⟨rfl, hb.trans (hb2.mono hb.size)⟩
    case range =>
      go_enter Tryz.func62, Tryz.ntmps62
      go_wp2_with (go_at_call 77; refine (Tryz.pi_range s hlim h ev1 _ ?_ he1).mono ?_)
      · exact hv1
      rintro e W1 ⟨N, rfl, -, -, hb⟩
      go_wp2_with (go_at_call 78; refine (hI W1 hb).mono ?_; rintro e W2 ⟨rfl, hb2⟩)
      go_wp2
      go_ret
      exact ⟨rfl, hb.trans (hb2.mono hb.size)⟩
    have hp : ∀ W : World, W.cell? ⟨0, 0, none⟩ = some ev0 → Calls Tryz.prog 77 #[.string s, .int .i64 10, .int .i64 32] W fun e w' => ∃ N, e = .returned (.tuple #[.int .i64 (0), .iface 172 (.pointer (some ⟨N, 0, none⟩))]) ∧ W.heap.size ≤ N ∧ w'.heap[N]? = some (.cells #[.string ⟨#[80, 97, 114, 115, 101, 73, 110, 116]⟩, .string s, ev0] 196 (0, 0)) ∧ RowKit.Below W.heap.size W w' :=
      fun W hv => Any.strconv_ParseInt_10_at32_syntax Tryz.lays174 s hlim h ev0 W hv he0
    go_enter Tryz.func62, Tryz.ntmps62
    go_wp2_with (go_at_call 77; refine (hp _ ?_).mono ?_)
    · exact hv0
    rintro e W1 ⟨N, rfl, -, -, hb⟩
    go_wp2_with (go_at_call 78; refine (hI W1 hb).mono ?_; rintro e W2 ⟨rfl, hb2⟩)
    go_wp2
    go_ret
    exact ⟨rfl, hb.trans (hb2.mono hb.size)⟩
  · cases h : Lib.parseIntB 32 s.data.toList
    case ok v =>
      go_enter Tryz.func62, Tryz.ntmps62
      go_wp2_with (go_at_call 77; refine (Tryz.pi_ok s (by omega) v h _).mono ?_; rintro e W1 ⟨rfl, hW⟩)
      have hb : Below w.heap.size w W1 := by
        rcases hW with rfl | ⟨t, rfl⟩
        · exact Below.refl _ _
        · exact Lib.bytesWorld_below _ _ _
      go_wp2_with (go_at_call 78; refine (hI W1 hb).mono ?_; rintro e W2 ⟨rfl, hb2⟩)
      go_wp2
      go_ret
      exact ⟨rfl, hb.trans (hb2.mono hb.size)⟩
    case range =>
      go_enter Tryz.func62, Tryz.ntmps62
      go_wp2_with (go_at_call 77; refine (Tryz.pi_range s hlim h ev1 _ ?_ he1).mono ?_)
      · exact hv1
      rintro e W1 ⟨N, rfl, -, -, hb⟩
      go_wp2_with (go_at_call 78; refine (hI W1 hb).mono ?_; rintro e W2 ⟨rfl, hb2⟩)
      go_wp2
      go_ret
      exact ⟨rfl, hb.trans (hb2.mono hb.size)⟩
    have hp : ∀ W : World, W.cell? ⟨0, 0, none⟩ = some ev0 → Calls Tryz.prog 77 #[.string s, .int .i64 10, .int .i64 32] W fun e w' => ∃ N, e = .returned (.tuple #[.int .i64 (0), .iface 172 (.pointer (some ⟨N, 0, none⟩))]) ∧ W.heap.size ≤ N ∧ w'.heap[N]? = some (.cells #[.string ⟨#[80, 97, 114, 115, 101, 73, 110, 116]⟩, .string s, ev0] 196 (0, 0)) ∧ RowKit.Below W.heap.size W w' :=
      fun W hv => Any.strconv_ParseInt_10_at32_syntax Tryz.lays174 s hlim h ev0 W hv he0
    go_enter Tryz.func62, Tryz.ntmps62
    go_wp2_with (go_at_call 77; refine (hp _ ?_).mono ?_)
    · exact hv0
    rintro e W1 ⟨N, rfl, -, -, hb⟩
    go_wp2_with (go_at_call 78; refine (hI W1 hb).mono ?_; rintro e W2 ⟨rfl, hb2⟩)
    go_wp2
    go_ret
    exact ⟨rfl, hb.trans (hb2.mono hb.size)⟩
end Go.Proofs
namespace Go.Proofs.QV
open Go
set_option linter.unusedVariables false
def isI (v : Value) : Prop := v = .nilIface ∨ ∃ te pe, v = .iface te pe
def gOk (w : World) : Prop := (∃ v, w.cell? ⟨0, 0, none⟩ = some v ∧ isI v) ∧ ∃ v, w.cell? ⟨1, 0, none⟩ = some v ∧ isI v
theorem gOk_dep (w w' : World) (h : ∀ b, (b = 0 ∨ b = 1) → w'.heap[b]? = w.heap[b]?) (k : gOk w) : gOk w' := by
  have h1 : ∀ o, w'.cell? ⟨0, o, none⟩ = w.cell? ⟨0, o, none⟩ := fun o => World.cell?_of_block (h 0 (by simp))
  have h2 : ∀ o, w'.cell? ⟨1, o, none⟩ = w.cell? ⟨1, o, none⟩ := fun o => World.cell?_of_block (h 1 (by simp))
  obtain ⟨⟨v, k1, k2⟩, u, k3, k4⟩ := k
  exact ⟨⟨v, (h1 _).trans k1, k2⟩, u, (h2 _).trans k3, k4⟩
def G : Glob := ⟨fun b => b = 0 ∨ b = 1, gOk, gOk_dep⟩
theorem lt_cell {w : World} {b : Nat} {v : Value} (h : w.cell? ⟨b, 0, none⟩ = some v) : b < w.heap.size := by
  rcases Nat.lt_or_ge b w.heap.size with h' | h'
  · exact h'
  · simp [World.cell?, Array.getElem?_eq_none h'] at h
theorem call_Fits32 {cfg : Cfg} (hty : TyOk Tryz.prog cfg.ty) (hm : Tryz.prog.follows .mixedOrders = true) (hfn : ∀ f fi, cfg.fn f = some fi → FnOk Tryz.prog G cfg.ty f fi) (hf : ∃ fi', cfg.fn 78 = some fi' ∧ fi'.rk = [(false, [.ct .b])]) :
    ∀ v r w, qVia cfg 78 v = some r → G.ok w → Calls Tryz.prog 62 (lits [.s] v 0).toArray w fun e w' => e = .returned (resVal (lits [.b] r 0)) ∧ RowKit.Below w.heap.size w w' := by
  intro v r w hq hG
  obtain ⟨fi, hf, hrk⟩ := hf
  unfold qVia at hq
  split at hq
  · rename_i b hr
    obtain ⟨N, hN⟩ := Run.evt hr
    have hr := hN N (Nat.le_refl _)
    have hp := hq
    unfold postFits at hp
    split at hp
    · rename_i l x _
      split at hp
      · rename_i hl
        injection hp with hp
        subst hp
        obtain ⟨⟨v0, k1, k2⟩, v1, k3, k4⟩ := hG
        have hG : G.ok w := ⟨⟨v0, k1, k2⟩, v1, k3, k4⟩
        have hlt : ∀ b, G.gb b → b < w.heap.size := by
          intro b hb
          rcases hb with rfl | rfl
          · exact lt_cell k1
          · exact lt_cell k3
        exact Tryz.fits32 ⟨l.toArray⟩ x (by simpa [ByteArray.size] using hl) v0 v1 w k1 k2 k3 k4 (fun W hW => str_bool (G := G) (callF_sound hty hm hfn N) hf hrk hr ⟨G.dep w W (fun b hb => hW.block b (hlt b hb)) hG, fun b hb => Nat.lt_of_lt_of_le (hlt b hb) hW.size⟩)
      · cases hp
    · cases hp
  · cases hq
set_option linter.unusedSimpArgs false
def boxOut (ty : Nat → Option TI) (tv : Nat) (cts : List CT) (t : Nat) (st : St) : Out :=
  match st.tm.getD t (.one .undef) with
  | .one (.ptr id 0) =>
    (match getH st.H id with
    | .live (.var tv' cs) =>
      (match Nat.beq tv' tv with
      | true =>
        (match normL ty st.H (cts.map CT.k1) cs with
        | some (v, _) => .ret v
        | none => .fail)
      | false => .fail)
    | _ => .fail)
  | _ => .fail
def callB (cfg : Cfg) (fi : FI) (tv : Nat) (cts : List CT) (t : Nat) (h : Hint) (v : List DC) (k : Nat) : Out :=
  exec cfg.ty cfg.fn (callF cfg k) 0 k (boxOut cfg.ty tv cts t) (fi.body h) (fun _ => none) (startSt fi h v) (boxOut cfg.ty tv cts t)
noncomputable def RunB (cfg : Cfg) (fi : FI) (tv : Nat) (cts : List CT) (t : Nat) (h : Hint) (v : List DC) : Out := lim (callB cfg fi tv cts t h v)
theorem callB_lim (cfg : Cfg) (fi : FI) (tv : Nat) (cts : List CT) (t : Nat) (h : Hint) (v : List DC) :
    Lim (callB cfg fi tv cts t h v) (execD (Run cfg) Loop cfg.ty cfg.fn 0 (boxOut cfg.ty tv cts t) (fi.body h) (fun _ => none) (startSt fi h v) (boxOut cfg.ty tv cts t)) :=
  Lim.exec (ty := cfg.ty) (fn := cfg.fn) (mm := 0) (rt := boxOut cfg.ty tv cts t) (fun f h v => call_lim cfg f h v) (fi.body h) (fun _ => none) (startSt fi h v) (K := fun _ => boxOut cfg.ty tv cts t) (fun st => Lim.const _)
theorem RunB_eq (cfg : Cfg) (fi : FI) (tv : Nat) (cts : List CT) (t : Nat) (h : Hint) (v : List DC) :
    RunB cfg fi tv cts t h v = execD (Run cfg) Loop cfg.ty cfg.fn 0 (boxOut cfg.ty tv cts t) (fi.body h) (fun _ => none) (startSt fi h v) (boxOut cfg.ty tv cts t) :=
  (Mono.lim (callB_lim cfg fi tv cts t h v).1).uniq (callB_lim cfg fi tv cts t h v).2
theorem RunB_get {cfg : Cfg} {fi : FI} {tv : Nat} {cts : List CT} {t : Nat} {h : Hint} {v r : List DC} (e : RunB cfg fi tv cts t h v = .ret r) : ∃ k, callB cfg fi tv cts t h v k = .ret r := by
  obtain ⟨N, hN⟩ := Mono.lim (callB_lim cfg fi tv cts t h v).1
  exact ⟨N, (hN N (Nat.le_refl _)).trans e⟩
theorem boxOut_ne (ty : Nat → Option TI) (tv : Nat) (cts : List CT) (t : Nat) (st : St) : (∀ v, boxOut ty tv cts t st ≠ .norm v) ∧ ∀ id v, boxOut ty tv cts t st ≠ .ex id v := by
  unfold boxOut
  constructor
  · intro v
    repeat' split
    all_goals simp
  · intro id v
    repeat' split
    all_goals simp
section
variable {P : Program} {G : Glob}
theorem callB_ok {cfg : Cfg} (hty : TyOk P cfg.ty) (hm : P.follows .mixedOrders = true) (hfn : ∀ f fi, cfg.fn f = some fi → FnOk P G cfg.ty f fi) {f : Nat} {fi : FI} {fd : Func} (h1 : P.funcs[f]? = some fd) (h2 : ∀ h, fd.body = some (fi.body h).code) (h3 : fd.ntmps = fi.ntmps)
    {t : Nat} (h4 : fd.results.toList = [.tmp t]) {tv : Nat} {cts : List CT} {h : Hint} {k : Nat} {v r : List DC} (e : callB cfg fi tv cts t h v k = .ret r) {A : An} {g : Gh} {vals : Array Value} {w : World} (hA : AOk G A)
    (hr : Rel cfg.ty A g (startSt fi h v) { tmps := vals ++ Array.replicate (fi.ntmps - vals.size) undef, defers := [] } w) (hvs : vals.size = h.tm.length) (hw : A.w0 = w) (hmm : A.m = 0) :
    Calls P f vals w fun
      | .returned rv, w' => ∃ (b : Nat) (us : List Value) (gr : Gh) (H0 H1 : List HS), rv = .pointer (some ⟨b, 0, none⟩) ∧ w'.heap[b]? = some (.cells us.toArray tv (0, 0)) ∧ (∀ u ∈ us, u.oneCell' = true) ∧ FL cfg.ty A gr H0 H1 w' r 0 (cts.map CT.k1) us ∧
          ¬ gr.I b ∧ (A.w0.heap.size ≤ b ∨ A.Pv b) ∧ (∀ b, gr.I b → b < w'.heap.size ∧ (A.I0 b ∨ A.w0.heap.size ≤ b ∨ A.Pm b)) ∧ Keep A w'
      | _, _ => False := by
  unfold callB at e
  refine calls_of_wp h1 (h2 h) ?_
  rw [h3]
  refine wp_mono (exec_ok hty (call_step hfn (callF_sound hty hm hfn k) A hA) hm hmm (fun st v => (boxOut_ne _ _ _ _ st).1 v) (fun st id v => (boxOut_ne _ _ _ _ st).2 id v) (fi.body h) _ _ _ (.ret r) g _ w hr e (by simp)) fun ex a' w' hq => ?_
  have fin : ∀ g' st', Rel cfg.ty A g' st' a' w' → boxOut cfg.ty tv cts t st' = .ret r → a'.defers = [] ∧ ∃ v, (results fd a'.tmps).run P w' = .ok v w' ∧
      ∃ (b : Nat) (us : List Value) (gr : Gh) (H0 H1 : List HS), v = .pointer (some ⟨b, 0, none⟩) ∧ w'.heap[b]? = some (.cells us.toArray tv (0, 0)) ∧ (∀ u ∈ us, u.oneCell' = true) ∧ FL cfg.ty A gr H0 H1 w' r 0 (cts.map CT.k1) us ∧
          ¬ gr.I b ∧ (A.w0.heap.size ≤ b ∨ A.Pv b) ∧ (∀ b, gr.I b → b < w'.heap.size ∧ (A.I0 b ∨ A.w0.heap.size ≤ b ∨ A.Pm b)) ∧ Keep A w' := by
    intro g' st' hr' hk
    obtain ⟨tm', H'⟩ := st'
    unfold boxOut at hk
    dsimp only at hk
    have hg := hr'.getD t
    split at hk
    · rename_i id hid
      split at hk
      · rename_i tv' cs hv
        split at hk
        · rename_i htv
          have htv := Nat.eq_of_beq_eq_true htv
          subst htv
          split at hk
          · rename_i v' H1 hn
            simp only [Out.ret.injEq] at hk
            subst hk
            rw [hid] at hg
            obtain ⟨z1, z2, z3⟩ := hg
            have hp := z3 ⟨_, _, hv⟩
            obtain ⟨us, o1, o2, o3, o4⟩ := hr'.ob id _ hv
            obtain ⟨g1, r1, s1, f1, ap, l1, _⟩ := normL_ok (H0 := H') [] [] hr' (fun _ h => h) (src_uniq hr') (src_nil hr') o2 hn
            simp only [List.nil_append, List.append_nil, List.length_nil] at f1
            obtain ⟨t', cs', hv1⟩ := s1.var id ⟨_, _, hv⟩
            refine ⟨hr'.df, a'.tmps.getD t undef, run_results (vs := [a'.tmps.getD t undef]) (by rw [h4]; rfl), g'.blk id, us, g1, H', H1, hp, o1, o4, f1, ?_, hr'.ow id _ _ hv rfl, fun b hb => ⟨r1.lt b hb, r1.inI b hb⟩, hr'.keep⟩
            have := oblk_notI r1 hv1 (b := g1.blk id) rfl
            rwa [s1.blk] at this
          · simp at hk
        · simp at hk
      · simp at hk
    · simp at hk
  cases ex with
  | normal =>
    obtain ⟨g', st', hr', hk⟩ := hq
    exact fin g' st' hr' hk
  | ret =>
    obtain ⟨g', st', hr', hk⟩ := hq
    exact fin g' st' hr' hk
  | exit id =>
    obtain ⟨_, _, _, hk, _⟩ := hq
    simp at hk
  | goto l => exact hq.elim
  | panic c => exact hq.elim
  | outgrown => exact hq.elim
def pkK : PK → KC
  | .ct c => .one c.k1
  | .ag ts => .agg (ts.map CT.k1)
  | _ => .one .u
def bsz : Out → Nat
  | .ret _ => 0
  | _ => LIM
def retD : Out → List DC
  | .ret r => r
  | _ => []
theorem argK_ct : ∀ {ps : List PK} {cs : List C} {n r : Nat} {l : List KC}, ps.all PK.plain = true → argK n r ps cs = some l → l = ps.map pkK
  | [], [], n, r, l, _, e => by
    simp only [argK, Option.some.injEq] at e
    exact e.symm
  | .ct c :: ps, x :: cs, n, r, l, h, e => by
    simp only [argK] at e
    split at e
    · rename_i l' hl
      simp only [Option.some.injEq] at e
      subst e
      rw [argK_ct (by simpa [PK.plain] using h) hl]
      rfl
    · simp at e
  | .ag ts :: ps, x :: cs, n, r, l, h, e => by
    simp only [argK] at e
    split at e
    · rename_i l' hl
      simp only [Option.some.injEq] at e
      subst e
      rw [argK_ct (by simpa [PK.plain] using h) hl]
      rfl
    · simp at e
  | .mv _ :: _, _, _, _, _, h, _ => by simp [PK.plain] at h
  | .ptr :: _, _, _, _, _, h, _ => by simp [PK.plain] at h
  | .fn :: _, _, _, _, _, h, _ => by simp [PK.plain] at h
  | [], _ :: _, _, _, _, _, e => by simp [argK] at e
  | .ct _ :: _, [], _, _, _, _, e => by simp [argK] at e
  | .ag _ :: _, [], _, _, _, _, e => by simp [argK] at e
def qBox (ty : Nat → Option TI) (pk : List PK) (R : List DC → Out) (tv : Nat) (cts : List CT) (base : Nat) (H : List HS) (args : List C) : Option (Nat × List HS × C) :=
  match argK 0 0 pk args with
  | some kcs =>
    (match srcT (kcs.map KC.data) args with
    | some p =>
      (match normL ty H (kcs.flatMap fun k => k.data.kinds) p with
      | some (v, H1) =>
        (match getH H1 base, ({ tm := kcs, ob := [] } : Hint).ok with
        | .free, true => some (bsz (R v), setH H1 base (.live (.var tv (mkL (retD (R v)) 0 (cts.map CT.k1)))), .one (.ptr base 0))
        | _, _ => none)
      | none => none)
    | none => none)
  | none => none
theorem box_st {cfg : Cfg} (hty : TyOk P cfg.ty) (hm : P.follows .mixedOrders = true) (hfn : ∀ f fi, cfg.fn f = some fi → FnOk P G cfg.ty f fi) {f : Nat} {fi : FI} {fd : Func} (h1 : P.funcs[f]? = some fd) (h2 : ∀ h, fd.body = some (fi.body h).code) (h3 : fd.ntmps = fi.ntmps)
    {t : Nat} (h4 : fd.results.toList = [.tmp t]) (hpl : fi.pk.all PK.plain = true) {tv : Nat} {cts : List CT} {R : List DC → Out} (hRR : ∀ v r, R v = .ret r → ∃ k, callB cfg fi tv cts t ⟨fi.pk.map pkK, []⟩ v k = .ret r) : StOK P G cfg.ty f (qBox cfg.ty fi.pk R tv cts) := by
  intro A g tm H H' a w base n args vals c hA h hl hc e hn
  unfold qBox at e
  split at e
  · rename_i kcs e1
    split at e
    · rename_i p e3
      split at e
      · rename_i v0 H1 e5
        split at e
        · rename_i hfree hok
          simp only [Option.some.injEq, Prod.mk.injEq] at e
          obtain ⟨rfl, rfl, rfl⟩ := e
          have hR : ∃ r, R v0 = .ret r := by
            cases hx : R v0 with
            | ret r => exact ⟨r, rfl⟩
            | _ => rw [hx] at hn; exact absurd hn (Nat.lt_irrefl _)
          obtain ⟨r, hR⟩ := hR
          obtain ⟨k, hk⟩ := hRR _ _ hR
          rw [← argK_ct hpl e1] at hk
          rw [hR]
          simp only [retD]
          obtain ⟨hidn, hct⟩ := argK_plain hpl e1
          obtain ⟨g1, Ac, gc, r1, s1, hbeg, hI0, hplain, hrel, hlen⟩ := start_ok h (fi := fi) (vals := vals) (kcs := kcs) (kos := []) (p := p) (q := []) (v0 := v0) (H1 := H1) (nr := 0) hl hc (by rw [hidn]; exact e1) (by rw [hidn]; rfl) e3 (by rw [hidn]; rfl) (by simpa using e5) (by rw [hidn]; rfl) (by simpa using hok)
          rw [hidn] at hbeg
          have hPm := hplain hpl
          have hPv : ∀ b, ¬ Ac.Pv b := fun b hb => by
            obtain ⟨id, hid, _⟩ := hbeg.Pv b hb
            simp at hid
          have hw0 := hbeg.w0
          have hAc : AOk G Ac := by
            refine ⟨?_, fun b hb => ?_⟩
            · rw [hw0]
              refine G.dep A.w0 w (fun b hb => ?_) hA.1
              obtain ⟨z1, z2, z3⟩ := hA.2 b hb
              exact h.keep.block b z1 z2 z3
            · obtain ⟨z1, z2, z3⟩ := hA.2 b hb
              exact ⟨by rw [hw0]; exact Nat.lt_of_lt_of_le z1 h.keep.size, hPv b, hPm b⟩
          have hcalls := callB_ok hty hm hfn h1 h2 h3 h4 hk (vals := vals.toArray) hAc hrel (by simpa using hlen) hw0 hbeg.m
          refine Calls.mono hcalls fun en w' hen => ?_
          cases en with
          | returned rv =>
            obtain ⟨b, us, gr, H0r, H1r, rfl, o1, o4, f1, hnI, how, hI, hkeep⟩ := hen
            have hsz : w.heap.size ≤ w'.heap.size := by have := hkeep.size; rwa [hw0] at this
            have hbw : w.heap.size ≤ b := by
              rcases how with hh | hh
              · rwa [hw0] at hh
              · exact absurd hh (hPv b)
            have hbl : ∀ x, x < w.heap.size → w'.heap[x]? = w.heap[x]? := fun x hx => by
              have := hkeep.block x (by rw [hw0]; exact hx) (hPv x) (hPm x)
              rwa [hw0] at this
            have hIr : ∀ x, gr.I x → x < w.heap.size → g1.I x := fun x hx hlt => by
              rcases (hI x hx).2 with hh | hh | hh
              · rwa [hI0] at hh
              · rw [hw0] at hh; omega
              · exact absurd hh (hPm x)
            let g2 : Gh := { g1 with I := fun x => g1.I x ∨ gr.I x }
            have hch : Ch g1 g2 H1 H1 w w' := ⟨fun x hx => .inl hx, fun x hx => hbl x (r1.lt x hx), fun _ hn => hn, fun _ _ hr => ⟨hr, rfl⟩, fun _ _ hr => ⟨hr, rfl⟩⟩
            have hosame : ∀ i o, oblk g2 i o = oblk g1 i o := fun i o => oblk_same rfl rfl rfl i o
            have hold : ∀ i o x, getH H1 i = .live o → oblk g1 i o x → x < w.heap.size ∧ ¬ g2.I x := fun i o x hi hx => by
              have hlt := r1.oblk_lt hi hx
              have hn1 := oblk_notI r1 hi hx
              refine ⟨hlt, fun hh => ?_⟩
              rcases hh with hh | hh
              · exact hn1 hh
              · exact hn1 (hIr x hh hlt)
            have r2 : Rel cfg.ty A g2 ⟨tm, H1⟩ a w' := by
              refine r1.ch hch (fun id o ho => OR.mono hch rfl rfl rfl (fun x hx => ⟨hbl x (hold id o x ho hx).1, (hold id o x ho hx).2⟩) (r1.ob id o ho)) (fun i j o p x hij hi hj hx hx' => ?_) (fun x hx => ?_) (fun x hx => ?_) (fun id o x ho hx => ?_) (fun j hj hv => r1.pb j hj hv) ?_
              · rw [hosame] at hx hx'
                exact r1.sep i j o p x hij hi hj hx hx'
              · rcases hx with hx | hx
                · exact Nat.lt_of_lt_of_le (r1.lt x hx) hsz
                · exact (hI x hx).1
              · rcases hx with hx | hx
                · exact r1.inI x hx
                · rcases (hI x hx).2 with hh | hh | hh
                  · rw [hI0] at hh; exact r1.inI x hh
                  · rw [hw0] at hh; exact .inr (.inl (Nat.le_trans h.keep.size hh))
                  · exact absurd hh (hPm x)
              · rw [hosame] at hx
                exact r1.ow id o x ho hx
              · exact r1.keep.trans (by rw [hkeep.os, hw0]) (by rw [hkeep.tape, hw0]) (by rw [hkeep.output, hw0]) hsz fun x hx _ _ => hbl x (Nat.lt_of_lt_of_le hx r1.keep.size)
            let g3 : Gh := { I := g2.I, blk := fun i => if i = base then b else g2.blk i, val := g2.val, dom := g2.dom }
            have hb3 : g3.blk base = b := by simp [g3]
            have hlt := getH_lt_free hfree
            have hnb : ¬ g2.I b := fun hh => by
              rcases hh with hh | hh
              · exact absurd (r1.lt b hh) (by omega)
              · exact hnI hh
            have hks : (cts.map CT.k1).map K1.data = cts.map CT.k1 := map_data_ct fun k hk => by
              obtain ⟨c, _, rfl⟩ := List.mem_map.1 hk
              exact ⟨c, rfl⟩
            have hkc : ∀ {i : Nat} {k : K1}, (cts.map CT.k1)[i]? = some k → ∃ c : CT, k = c.k1 := fun {i k} hk => by
              obtain ⟨c, _, hc⟩ := List.mem_map.1 (List.mem_of_getElem? hk)
              exact ⟨c, hc.symm⟩
            have hu := r2.upd (id := base) (x := .live (.var tv (mkL r 0 (cts.map CT.k1)))) (g' := g3) (w' := w') hlt (by simp) rfl (fun i hi => by simp [g3, hi]) (fun hn => absurd hn (not_nf_free hfree)) (fun hn => absurd hn (not_nf_free hfree))
              (fun x hx => rfl) (Nat.le_refl _)
              (fun hch3 p hp => by
                obtain rfl : Obj'.var tv (mkL r 0 (cts.map CT.k1)) = p := by simpa using hp
                refine ⟨⟨us, by rw [hb3]; exact o1, ?_, by rw [hb3]; exact hnb, o4⟩, fun x hx => ?_⟩
                · refine FL_srl2 (g := gr) (g' := g3) (fun x hx => .inr hx) (by rw [hks]; exact f1) (fun i e id u h1 h2 => ?_) (fun i m off u h1 h2 => ?_) (fun i f caps u h1 h2 => ?_)
                  · obtain ⟨c, hc⟩ := hkc h1
                    cases c <;> simp [CT.k1] at hc
                  · obtain ⟨c, hc⟩ := hkc h1
                    cases c <;> simp [CT.k1] at hc
                  · obtain ⟨c, hc⟩ := hkc h1
                    cases c <;> simp [CT.k1] at hc
                · have hx : g3.blk base = x := hx
                  rw [hb3] at hx
                  subst hx
                  refine ⟨hnb, .inl (Nat.le_trans h.keep.size hbw), fun i p _ hi hp' => ?_⟩
                  rw [hosame] at hp'
                  have := (hold i p b hi hp').1
                  omega)
              (fun hm _ => absurd (r2.nfm base hm) (not_nf_free hfree)) r2.keep
            exact ⟨_, g3, rfl, hu.1, fun x hx => .inl (s1.I x hx), ⟨nf_live (getH_set_same _ hlt), rfl, fun _ => by rw [hb3]⟩⟩
          | panicked ch => exact hen.elim
          | outgrown => exact hen.elim
        · simp at e
      · simp at e
    · simp at e
  · simp at e
theorem box_fn {cfg : Cfg} (hty : TyOk P cfg.ty) (hm : P.follows .mixedOrders = true) (hfn : ∀ f fi, cfg.fn f = some fi → FnOk P G cfg.ty f fi) {f : Nat} {fi : FI} (hfi : FnOk P G cfg.ty f fi) (hp : fi.prim = none)
    {t : Nat} (h4 : fi.res = [.tmp t]) (hpl : fi.pk.all PK.plain = true) {tv : Nat} {cts : List CT} {R : List DC → Out} (hRR : ∀ v r, R v = .ret r → ∃ k, callB cfg fi tv cts t ⟨fi.pk.map pkK, []⟩ v k = .ret r) :
    FnOk P G cfg.ty f { fi with stf := some (qBox cfg.ty fi.pk R tv cts) } := by
  obtain ⟨fd, h1, _, _, h2⟩ := hfi.ex
  obtain ⟨k1, k2, k3⟩ := h2 hp
  exact ⟨hfi.ex, hfi.prim, hfi.mark, fun q' e => by (cases e; exact box_st hty hm hfn h1 k1 k2 (k3.trans h4) hpl hRR)⟩
end
abbrev Stp := (Nat → List DC → Out) → Nat → List DC → Out
def evG (L : List (Nat × Nat × Hint × Stp)) : Nat → Nat → List DC → Out
  | 0, _, _ => .fail
  | n + 1, i, v =>
    match look i L with
    | some x => x.2.2 (evG L n) n v
    | none => .fail
def runG (cfg : Cfg) (L : List (Nat × Nat × Hint × Stp)) (n i : Nat) (v : List DC) : Out :=
  match look i L with
  | some x => callF cfg n x.1 x.2.1 v
  | none => .fail
def StpOk (cfg : Cfg) (L : List (Nat × Nat × Hint × Stp)) (x : Nat × Nat × Hint × Stp) : Prop := ∀ n v, callF cfg (n + 1) x.2.1 x.2.2.1 v = x.2.2.2 (runG cfg L n) n v
theorem stp_nil {cfg : Cfg} {L : List (Nat × Nat × Hint × Stp)} : ∀ x ∈ ([] : List (Nat × Nat × Hint × Stp)), StpOk cfg L x := fun _ h => by cases h
theorem stp_cons {cfg : Cfg} {L l : List (Nat × Nat × Hint × Stp)} {y : Nat × Nat × Hint × Stp} (h : StpOk cfg L y) (hl : ∀ x ∈ l, StpOk cfg L x) : ∀ x ∈ y :: l, StpOk cfg L x := fun x hx => by
  rcases List.mem_cons.1 hx with rfl | hx
  · exact h
  · exact hl x hx
theorem evG_eq {cfg : Cfg} {L : List (Nat × Nat × Hint × Stp)} (h : ∀ x ∈ L, StpOk cfg L x) : ∀ n, evG L n = runG cfg L n
  | 0 => by
    funext i v
    unfold runG
    cases look i L with
    | none => rfl
    | some x => rfl
  | n + 1 => by
    funext i v
    unfold runG
    rw [evG]
    cases hx : look i L with
    | none => rfl
    | some x =>
      dsimp only
      rw [evG_eq h n, h _ (look_mem hx) n v]
theorem evG_run {cfg : Cfg} {L : List (Nat × Nat × Hint × Stp)} (h : ∀ x ∈ L, StpOk cfg L x) {n i f : Nat} {hn : Hint} {v r : List DC} (hf : (look i L).map (fun x => (x.1, x.2.1)) = some (f, hn)) (e : evG L n i v = .ret r) : Run cfg f hn v = .ret r := by
  rw [evG_eq h] at e
  unfold runG at e
  cases hx : look i L with
  | none => rw [hx] at hf; simp at hf
  | some x =>
    rw [hx] at hf e
    simp only [Option.map_some, Option.some.injEq, Prod.mk.injEq] at hf
    obtain ⟨rfl, rfl⟩ := hf
    dsimp only at e
    refine (call_lim cfg x.1 x.2.1 v).2.uniq ⟨n, fun k hk => ?_⟩
    have key : ∀ j, callF cfg (n + j) x.1 x.2.1 v = .ret r := by
      intro j
      induction j with
      | zero => exact e
      | succ j ih =>
        rcases callF_mono cfg (n + j) x.1 x.2.1 v with hm | hm
        · rw [ih] at hm; simp at hm
        · exact hm.trans ih
    have := key (k - n)
    rwa [show n + (k - n) = k by omega] at this
end Go.Proofs.QV
