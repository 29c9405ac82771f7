/- The types' table; loads, stores and freezing, at the level of one run. -/
import Derived.Test.YtljggmbgbnmapaaGreatV3
import Derived.Laws.Tables
namespace Go.Proofs.YtljggmbgbnmapaaGreatV
open Go

def zeroV : CT → Value
  | .b => .bool false
  | .i k => .int k 0
  | .s => .string ⟨#[]⟩
  | .sl _ => .slice none 0 0

def isAggD : TypeDesc → Bool
  | .struct _ => true
  | .array _ _ => true
  | _ => false

/-- The field is as the table has it. -/
structure FldOk (P : Program) (n : Nat) (f : Go.Field) (x : Nat × Nat × Bool) : Prop where
  off : f.offset = x.1
  size : ∃ inf, P.info? f.type = some inf ∧ inf.size = x.2.1
  agg : ∃ d, P.underlying f.type = some d ∧ isAggD d = x.2.2
  fit : x.1 + x.2.1 ≤ n

def KdOk (P : Program) (ti : TI) : TypeDesc → Prop
  | .bool => ti.kd = .bool ∧ ti.cts = [.b]
  | .int k => ti.kd = .int k ∧ ti.cts = [.i k]
  | .string => ti.kd = .str ∧ ti.cts = [.s]
  | .slice e => ti.kd = .slice e ∧ ti.cts = [.sl e]
  | .struct fs => ti.kd = .struct ∧ fs.size = ti.flds.length ∧ ∀ (j : Nat) (f : Go.Field) (x : Nat × Nat × Bool), fs[j]? = some f → ti.flds[j]? = some x → FldOk P ti.cts.length f x
  | _ => False

/-- '==' of two values of a type that may be compared so. -/
def EqOk (P : Program) (t : Nat) (ti : TI) : Prop :=
  ∀ (xs ys : List Value) (l m : List S) (r : Bool), ti.eq = true → eqCells l m = some r → fitsL ti.cts l = true → fitsL ti.cts m = true → (∀ (g : Gh) (H : List HS) (w : World) (ty : Nat → Option TI), SRL ty g H w l xs → SRL ty g H w m ys →
    xs.length = ti.cts.length → ys.length = ti.cts.length →
    (∀ (x y : Operand), (do eqGuard .eql t x y (.agg xs.toArray) (.agg ys.toArray); binOp .eql t (.agg xs.toArray) (.agg ys.toArray) : Sem Value).run P w = .ok (.bool r) w ∧
      (do eqGuard .neq t x y (.agg xs.toArray) (.agg ys.toArray); binOp .neq t (.agg xs.toArray) (.agg ys.toArray) : Sem Value).run P w = .ok (.bool (!r)) w))

structure TIok (P : Program) (t : Nat) (ti : TI) : Prop where
  info : ∃ inf z, P.info? t = some inf ∧ inf.size = ti.cts.length ∧ inf.bytes = ti.bytes ∧ inf.zero = some z ∧ z.cells = (ti.cts.map zeroV).toArray
  kd : ∃ d, P.underlying t = some d ∧ KdOk P ti d
  zero1 : isStruct (some ti) = false → ∃ inf, P.info? t = some inf ∧ inf.zero = some (zeroV (ti.cts.headD .b))
  eq : EqOk P t ti

def TyOk (P : Program) (ty : Nat → Option TI) : Prop := ∀ t ti, ty t = some ti → TIok P t ti

section
variable {P : Program} {ty : Nat → Option TI}

theorem run_typeInfo {t : Nat} {inf : TypeInfo} (h : P.info? t = some inf) (w : World) : (typeInfo t).run P w = .ok inf w := by
  simp [typeInfo, h]
theorem run_sizeOf {t : Nat} {inf : TypeInfo} (h : P.info? t = some inf) (w : World) : (sizeOf t).run P w = .ok inf.size w := by
  simp [sizeOf, typeInfo, h]
theorem run_zeroValue {t : Nat} {inf : TypeInfo} {z : Value} (h : P.info? t = some inf) (hz : inf.zero = some z) (w : World) : (zeroValue t).run P w = .ok z w := by
  simp [zeroValue, typeInfo, h, hz]
theorem run_isAgg {t : Nat} {d : TypeDesc} (h : P.underlying t = some d) (w : World) : (isAgg t).run P w = .ok (isAggD d) w := by
  unfold isAgg
  rw [Sem.run_bind, run_underlying h]
  cases d <;> rfl

theorem TIok.struct {t : Nat} {ti : TI} (h : TIok P t ti) : ∃ d, P.underlying t = some d ∧ isAggD d = isStruct (some ti) := by
  obtain ⟨d, hd, hk⟩ := h.kd
  refine ⟨d, hd, ?_⟩
  cases d <;> simp [KdOk, isAggD, isStruct] at hk ⊢ <;> simp [hk]

theorem TIok.one {t : Nat} {ti : TI} (h : TIok P t ti) (hs : isStruct (some ti) = false) : ti.cts.length = 1 := by
  obtain ⟨d, hd, hk⟩ := h.kd
  cases d <;> simp [KdOk] at hk <;> simp [isStruct, hk] at hs ⊢

/-- A variable is loaded: its cells, put together. -/
theorem run_loadVar {t : Nat} {ti : TI} (h : TIok P t ti) (w : World) (b off : Nat) (vs : List Value) (hl : vs.length = ti.cts.length)
    (hc : ∀ (j : Nat) (v : Value), vs[j]? = some v → w.cell? ⟨b, off + j, none⟩ = some v) :
    (loadVar t ⟨b, off, none⟩).run P w = .ok (if isStruct (some ti) then .agg vs.toArray else vs.headD undef) w := by
  obtain ⟨d, hd, hs⟩ := h.struct
  obtain ⟨inf, z, hi, hsz, _⟩ := h.info
  unfold loadVar
  rw [Sem.run_bind, run_isAgg hd, Result.andThen_ok, hs]
  cases hst : isStruct (some ti) with
  | true =>
    have hr := run_loadCells_list (P := P) w ⟨b, off, none⟩ vs (fun j v hj => by rw [Addr.add_lit]; exact hc j v hj)
    rw [hl, ← hsz] at hr
    simp [run_sizeOf hi, hr]
  | false =>
    have h1 := h.one hst
    match vs, hl with
    | [v], _ =>
      have := hc 0 v rfl
      simp only [Nat.add_zero] at this
      simp [this]
    | [], hl => simp [h1] at hl
    | _ :: _ :: _, hl => simp [h1] at hl

/-- A variable is stored: its cells, in a block that is no string's. -/
theorem run_storeVar {t : Nat} {ti : TI} (h : TIok P t ti) (w : World) (b off : Nat) (e : TypeId) (cur : Array Value) (v : Value) (vs : List Value) (hv : v.cells = vs.toArray) (hl : vs.length = ti.cts.length)
    (hg : w.heap[b]? = some (.cells cur e (0, 0))) (hfit : off + vs.length ≤ cur.size) (h1 : ∀ u ∈ vs, u.oneCell' = true) :
    (storeVar t ⟨b, off, none⟩ v).run P w = .ok () (w.setRow b (cur.toList.take off ++ vs ++ cur.toList.drop (off + vs.length)).toArray) := by
  obtain ⟨inf, z, hi, hsz, _⟩ := h.info
  have hst := run_storeCells_at P b off e vs 0 cur w hg (by simpa using hfit) h1
  simp only [Nat.add_zero] at hst
  simp [storeVar, run_sizeOf hi, hv, hl, hsz, hst]

variable {A : An} {g : Gh} {tm : List C} {H : List HS} {a : Act} {w : World}

/-- A row of the call's own that is frozen, as it reads. -/
theorem Rel.read_fz (h : Rel ty A g ⟨tm, H⟩ a w) {id e : Nat} {l : List (List DC)} (hr : getH H id = .live (.fz e l)) :
    ∃ F, RdC ty w (.sl e) (.sl l) (g.val id) F ∧ ∀ b ∈ F, g.I b := h.ob id _ hr

theorem toDC_ok (h : Rel ty A g ⟨tm, H⟩ a w) {t : CT} {s : S} {v : Value} {d : DC} {H' : List HS} (hs : SR ty g H w s v) (e : toDC H t s = some (d, H')) :
    ∃ g' F, Rel ty A g' ⟨tm, H'⟩ a w ∧ Ch g g' H H' w w ∧ RdC ty w t d v F ∧ ∀ b ∈ F, g'.I b := by
  unfold toDC at e
  split at e
  · simp only [Option.some.injEq, Prod.mk.injEq] at e
    obtain ⟨rfl, rfl⟩ := e
    exact ⟨g, [], h, .refl _ _ _, by rw [show v = _ from hs]; exact .b _, fun _ h => by cases h⟩
  · split at e
    · rename_i hk
      simp only [Option.some.injEq, Prod.mk.injEq] at e
      obtain ⟨rfl, rfl⟩ := e
      subst hk
      exact ⟨g, [], h, .refl _ _ _, by rw [show v = _ from hs]; exact .i _ _, fun _ h => by cases h⟩
    · simp at e
  · simp only [Option.some.injEq, Prod.mk.injEq] at e
    obtain ⟨rfl, rfl⟩ := e
    exact ⟨g, [], h, .refl _ _ _, by rw [show v = _ from hs]; exact .s _, fun _ h => by cases h⟩
  · split at e
    · rename_i hk
      simp only [Option.some.injEq, Prod.mk.injEq] at e
      obtain ⟨rfl, rfl⟩ := e
      subst hk
      obtain ⟨F, h1, h2⟩ := hs
      exact ⟨g, F, h, .refl _ _ _, h1, h2⟩
    · simp at e
  · simp only [Option.some.injEq, Prod.mk.injEq] at e
    obtain ⟨rfl, rfl⟩ := e
    exact ⟨g, [], h, .refl _ _ _, by rw [show v = _ from hs]; exact .nil _ _ _, fun _ h => by cases h⟩
  · obtain ⟨hn, _, hv⟩ := hs
    split at e
    · rename_i e2 l hr
      split at e
      · rename_i hk
        simp only [Option.some.injEq, Prod.mk.injEq] at e
        obtain ⟨rfl, rfl⟩ := e
        subst hk
        obtain ⟨g', h1, h2, F, h3, h4⟩ := h.freeze hr
        have hval := (h2.row _ hn ⟨e2, l, .inr (getH_set_same _ (getH_lt_live hr))⟩).2
        exact ⟨g', F, h1, h2, by rw [hv ⟨_, _, .inl hr⟩, ← hval]; exact h3, h4⟩
      · simp at e
    · rename_i e2 l hr
      split at e
      · rename_i hk
        simp only [Option.some.injEq, Prod.mk.injEq] at e
        obtain ⟨rfl, rfl⟩ := e
        subst hk
        obtain ⟨F, h3, h4⟩ := h.read_fz hr
        exact ⟨g, F, h, .refl _ _ _, by rw [hv ⟨_, _, .inr hr⟩]; exact h3, h4⟩
      · simp at e
    · simp at e
  · simp at e

theorem toDCs_ok : ∀ {ts : List CT} {ss : List S} {vs : List Value} {ds : List DC} {g : Gh} {H H' : List HS}, Rel ty A g ⟨tm, H⟩ a w → SRL ty g H w ss vs → toDCs H ts ss = some (ds, H') →
    ∃ g' F, Rel ty A g' ⟨tm, H'⟩ a w ∧ Ch g g' H H' w w ∧ RdL ty w ts ds vs F ∧ ∀ b ∈ F, g'.I b
  | [], [], [], _, g, H, _, h, _, e => by
    simp only [toDCs, Option.some.injEq, Prod.mk.injEq] at e
    obtain ⟨rfl, rfl⟩ := e
    exact ⟨g, [], h, .refl _ _ _, .nil, fun _ h => by cases h⟩
  | t :: ts, s :: ss, v :: vs, ds, g, H, H', h, hs, e => by
    simp only [toDCs] at e
    split at e
    · rename_i d H1 e1
      split at e
      · rename_i ds' H2 e2
        simp only [Option.some.injEq, Prod.mk.injEq] at e
        obtain ⟨rfl, rfl⟩ := e
        obtain ⟨g1, F, h1, c1, r1, i1⟩ := toDC_ok h hs.1 e1
        obtain ⟨g2, G, h2, c2, r2, i2⟩ := toDCs_ok h1 (hs.2.mono c1) e2
        refine ⟨g2, F ++ G, h2, c1.trans c2, .cons _ _ _ _ _ _ _ _ r1 r2, fun b hb => ?_⟩
        rcases List.mem_append.1 hb with hb | hb
        · exact c2.I b (i1 b hb)
        · exact i2 b hb
      · simp at e
    · simp at e
  | [], _ :: _, _, _, _, _, _, _, _, e => by simp [toDCs] at e
  | _ :: _, [], _, _, _, _, _, _, _, e => by simp [toDCs] at e
  | [], [], _ :: _, _, _, _, _, _, hs, _ => hs.elim
  | _ :: _, _ :: _, [], _, _, _, _, _, hs, _ => hs.elim

/-- A datum, as a cell of the state. -/
theorem ofDC_ok {t : CT} {d : DC} {v : Value} {F : List Nat} (h : RdC ty w t d v F) (hF : ∀ b ∈ F, g.I b) : SR ty g H w (ofDC t d) v := by
  cases h with
  | b x => rfl
  | i k n => rfl
  | s l => rfl
  | nil e a c => exact ⟨[], .nil e a c, fun _ h => by cases h⟩
  | sl e ti b off n cap l vs F h1 h0 h2 h3 h4 h5 h6 => exact ⟨_, .sl e ti b off n cap l vs F h1 h0 h2 h3 h4 h5 h6, hF⟩

theorem ofDCs_ok : ∀ {ts : List CT} {ds : List DC} {vs : List Value} {F : List Nat} (x : List DC) (j : Nat), RdL ty w ts ds vs F → (∀ b ∈ F, g.I b) → (∀ i, i < ts.length → x.getD (j + i) d0 = ds.getD i d0) →
    SRL ty g H w (ofDCs ts x j) vs
  | _, _, _, _, _, _, .nil, _, _ => trivial
  | _, _, _, _, x, j, .cons t ts d ds v vs F G h1 h2, hF, hx => by
    refine ⟨?_, ?_⟩
    · have := hx 0 (by simp)
      simp only [Nat.add_zero, List.getD_cons_zero] at this
      rw [this]
      exact ofDC_ok h1 fun b hb => hF b (by simp [hb])
    · refine ofDCs_ok x (j + 1) h2 (fun b hb => hF b (by simp [hb])) fun i hi => ?_
      have := hx (i + 1) (by simp; omega)
      rw [show j + 1 + i = j + (i + 1) from by omega, this]
      simp

theorem CT.same_eq {x y : CT} (h : CT.same x y = true) : x = y := by
  cases x <;> cases y <;> simp [CT.same] at h <;> simp [h]

theorem CT.sameL_eq : ∀ {x y : List CT}, CT.sameL x y = true → x = y
  | [], [], _ => rfl
  | x :: l, y :: m, h => by
    simp only [CT.sameL, Bool.and_eq_true] at h
    rw [CT.same_eq h.1, CT.sameL_eq h.2]
  | [], _ :: _, h => by simp [CT.sameL] at h
  | _ :: _, [], h => by simp [CT.sameL] at h

theorem RdL.drop : ∀ {ts : List CT} {x : List DC} {vs : List Value} {F : List Nat} (n : Nat), RdL ty w ts x vs F → ∃ F', RdL ty w (ts.drop n) (x.drop n) (vs.drop n) F' ∧ ∀ b ∈ F', b ∈ F
  | _, _, _, _, n, .nil => ⟨[], by simp; exact .nil, fun _ h => h⟩
  | _, _, _, _, 0, .cons t ts x xs v vs F G h1 h2 => ⟨F ++ G, .cons t ts x xs v vs F G h1 h2, fun _ h => h⟩
  | _, _, _, _, n + 1, .cons t ts x xs v vs F G h1 h2 => by
    obtain ⟨F', h3, h4⟩ := RdL.drop n h2
    exact ⟨F', h3, fun b hb => by simp [h4 b hb]⟩

theorem RdL.take : ∀ {ts : List CT} {x : List DC} {vs : List Value} {F : List Nat} (n : Nat), RdL ty w ts x vs F → ∃ F', RdL ty w (ts.take n) (x.take n) (vs.take n) F' ∧ ∀ b ∈ F', b ∈ F
  | _, _, _, _, n, .nil => ⟨[], by simp; exact .nil, fun _ h => h⟩
  | _, _, _, _, 0, .cons t ts x xs v vs F G h1 h2 => ⟨[], .nil, fun _ h => by cases h⟩
  | _, _, _, _, n + 1, .cons t ts x xs v vs F G h1 h2 => by
    obtain ⟨F', h3, h4⟩ := RdL.take n h2
    refine ⟨F ++ F', .cons t _ x _ v _ _ _ h1 h3, fun b hb => ?_⟩
    rcases List.mem_append.1 hb with hb | hb
    · simp [hb]
    · simp [h4 b hb]

/-- A part of an element's cells, as cells of the state. -/
theorem part_ok {ts us : List CT} {x : List DC} {vs : List Value} {F : List Nat} {off : Nat} (h : RdL ty w ts x vs F) (hF : ∀ b ∈ F, g.I b) (he : (ts.drop off).take us.length = us) :
    SRL ty g H w (ofDCs us x off) ((vs.drop off).take us.length) ∧ ((vs.drop off).take us.length).length = us.length := by
  obtain ⟨F1, h1, i1⟩ := h.drop off
  obtain ⟨F2, h2, i2⟩ := h1.take us.length
  rw [he] at h2
  refine ⟨ofDCs_ok x off h2 (fun b hb => hF b (i1 b (i2 b hb))) (fun i hi => ?_), h2.length.1⟩
  rw [List.getD_eq_getElem?_getD, List.getD_eq_getElem?_getD, List.getElem?_take, if_pos hi, List.getElem?_drop]

end
end Go.Proofs.YtljggmbgbnmapaaGreatV
