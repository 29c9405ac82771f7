/- One operation: what the evaluator does is what the machine does (the plain operations). -/
import Derived.Test.YtljggmbgbnmapaaGreatV4
import Derived.Laws.StructEq
namespace Go.Proofs.YtljggmbgbnmapaaGreatV
open Go
set_option linter.unusedVariables false

theorem wp_value {P : Program} {o : Oper} {a : Act} {w w' : World} {K : Act → World → Prop} {Q : Exit → Act → World → Prop} {v : Value}
    (hr : (execOp a.eval o).run P w = .ok (.value v) w') (hk : K (a.put o.dst v) w') : o.wp P a w K Q := by
  unfold Oper.wp
  rw [hr]
  exact hk

theorem wp_skip_op {P : Program} {o : Oper} {a : Act} {w w' : World} {K : Act → World → Prop} {Q : Exit → Act → World → Prop}
    (hr : (execOp a.eval o).run P w = .ok .skip w') (hk : K (a.put o.dst undef) w') : o.wp P a w K Q := by
  unfold Oper.wp
  rw [hr]
  exact hk

section
variable {P : Program} {ty : Nat → Option TI} {A : An} {g : Gh} {tm : List C} {H : List HS} {a : Act} {w : World} {o : Oper} {Q : Exit → Act → World → Prop}

/-- What is to be shown behind an operation. -/
def Post (ty : Nat → Option TI) (A : An) (g : Gh) (H : List HS) (w : World) (st' : St) (a' : Act) (w' : World) : Prop :=
  ∃ g', Rel ty A g' st' a' w' ∧ ∀ b, g.I b → g'.I b

theorem post_put (h : Rel ty A g ⟨tm, H⟩ a w) {c : C} {v : Value} (hc : CR ty g H w c v) : Post ty A g H w ⟨putC tm o.dst c, H⟩ (a.put o.dst v) w :=
  ⟨g, h.put o.dst hc, fun _ h => h⟩

theorem SR.one {s : S} {v : Value} (h : SR ty g H w s v) (hd : s.isDef = true) : v.oneCell' = true := by
  cases s with
  | undef => simp [S.isDef] at hd
  | nil => rw [show v = _ from h]; rfl
  | bool b => rw [show v = _ from h]; rfl
  | int k n => rw [show v = _ from h]; rfl
  | str l => rw [show v = _ from h]; rfl
  | sl e l => obtain ⟨F, h1, _⟩ := h; exact h1.one
  | own id => exact h.2.1
  | ptr id off => exact h.2.1
  | fn f caps => obtain ⟨vs, h1, _⟩ := h; rw [h1]; rfl

theorem one_cells {v : Value} (h : v.oneCell' = true) : v.cells = #[v] := by
  cases v <;> first | rfl | simp [Value.oneCell'] at h

theorem SRL.one : ∀ {ss : List S} {vs : List Value}, SRL ty g H w ss vs → ss.all S.isDef = true → ∀ u ∈ vs, u.oneCell' = true
  | [], [], _, _ => fun _ h => by cases h
  | s :: ss, v :: vs, ⟨a, b⟩, hd => fun u hu => by
    simp only [List.all_cons, Bool.and_eq_true] at hd
    rcases List.mem_cons.1 hu with rfl | hu
    · exact a.one hd.1
    · exact SRL.one b hd.2 u hu
  | [], _ :: _, h, _ => h.elim
  | _ :: _, [], h, _ => h.elim

theorem cells_ok {c : C} {v : Value} {ss : List S} (h : CR ty g H w c v) (e : c.cells = some ss) :
    ∃ vs : List Value, v.cells = vs.toArray ∧ SRL ty g H w ss vs ∧ (∀ u ∈ vs, u.oneCell' = true) ∧ vs.length = ss.length := by
  cases c with
  | one s =>
    simp only [C.cells] at e
    split at e
    · rename_i hd
      simp only [Option.some.injEq] at e
      subst e
      have h1 := SR.one h hd
      exact ⟨[v], one_cells h1, ⟨h, trivial⟩, fun u hu => by simp at hu; subst hu; exact h1, rfl⟩
    · simp at e
  | agg l =>
    simp only [C.cells] at e
    split at e
    · rename_i hd
      simp only [Option.some.injEq] at e
      subst e
      obtain ⟨vs, h1, h2⟩ := h
      exact ⟨vs, by rw [h1]; rfl, h2, h2.one hd, h2.length⟩
    · simp at e
  | tup l => simp [C.cells] at e
  | elS e x off => simp [C.cells] at e
  | elO id ix e off => simp [C.cells] at e

theorem SRL.take : ∀ {ss : List S} {vs : List Value} (n : Nat), SRL ty g H w ss vs → SRL ty g H w (ss.take n) (vs.take n)
  | [], [], n, _ => by simp [SRL]
  | _ :: _, _ :: _, 0, _ => trivial
  | _ :: _, _ :: _, n + 1, ⟨a, b⟩ => ⟨a, SRL.take n b⟩
  | [], _ :: _, _, h => h.elim
  | _ :: _, [], _, h => h.elim

theorem SRL.drop : ∀ {ss : List S} {vs : List Value} (n : Nat), SRL ty g H w ss vs → SRL ty g H w (ss.drop n) (vs.drop n)
  | [], [], n, _ => by simp [SRL]
  | _ :: _, _ :: _, 0, h => h
  | _ :: _, _ :: _, n + 1, ⟨_, b⟩ => SRL.drop n b
  | [], _ :: _, _, h => h.elim
  | _ :: _, [], _, h => h.elim

theorem SRL.append : ∀ {ss : List S} {vs : List Value} {ss' : List S} {vs' : List Value}, SRL ty g H w ss vs → SRL ty g H w ss' vs' → SRL ty g H w (ss ++ ss') (vs ++ vs')
  | [], [], _, _, _, h => h
  | _ :: _, _ :: _, _, _, ⟨a, b⟩, h => ⟨a, SRL.append b h⟩
  | [], _ :: _, _, _, h, _ => h.elim
  | _ :: _, [], _, _, h, _ => h.elim

theorem SRL.head {ss : List S} {vs : List Value} (h : SRL ty g H w ss vs) : SR ty g H w (ss.headD .undef) (vs.headD undef) := by
  match ss, vs, h with
  | [], [], _ => trivial
  | _ :: _, _ :: _, h => exact h.1

/-- A value out of its cells. -/
theorem mkC_ok {st : Bool} {ss : List S} {vs : List Value} (h : SRL ty g H w ss vs) : CR ty g H w (mkC st ss) (if st then .agg vs.toArray else vs.headD undef) := by
  cases st with
  | true => exact ⟨vs, rfl, h⟩
  | false => exact h.head

theorem step_move (x : Operand) (ho : o.op = .move x ∨ o.op = .assign x) (h : Rel ty A g ⟨tm, H⟩ a w) :
    o.wp P a w (Post ty A g H w ⟨putC tm o.dst (opd tm x), H⟩) Q := by
  refine wp_value (v := a.eval x) (w' := w) ?_ (post_put h (h.opd x))
  rcases ho with ho | ho <;> simp [execOp, ho]

theorem step_pick (c x y : Operand) (ho : o.op = .pick c x y) (h : Rel ty A g ⟨tm, H⟩ a w) {b : Bool} {s t : S} (hc : opd tm c = .one (.bool b)) (hx : opd tm x = .one s) (hy : opd tm y = .one t) :
    o.wp P a w (Post ty A g H w ⟨putC tm o.dst (match pickS b s t with | some r => .one r | none => if b = true then .one s else .one t), H⟩) Q := by
  have rc : a.eval c = .bool b := by have := h.opd c; rw [hc] at this; exact this
  have rx := h.opd x
  have ry := h.opd y
  rw [hx] at rx
  rw [hy] at ry
  refine wp_value (v := if b = true then a.eval x else a.eval y) (w' := w) (by simp [execOp, ho, rc, asBool]) (post_put h ?_)
  unfold pickS
  split
  · rename_i r hr
    split at hr
    · rename_i p q
      simp only [Option.some.injEq] at hr
      subst hr
      rw [show a.eval x = _ from rx, show a.eval y = _ from ry]
      cases b <;> rfl
    · rename_i k p k' q
      split at hr
      · rename_i hk
        simp only [Option.some.injEq] at hr
        subst hr
        subst hk
        rw [show a.eval x = _ from rx, show a.eval y = _ from ry]
        cases b <;> rfl
      · simp at hr
    · rename_i p q
      simp only [Option.some.injEq] at hr
      subst hr
      rw [show a.eval x = _ from rx, show a.eval y = _ from ry]
      cases b <;> rfl
    · simp at hr
  · cases b
    · exact ry
    · exact rx

theorem step_pick2 (c x y : Operand) (ho : o.op = .pick c x y) (h : Rel ty A g ⟨tm, H⟩ a w) {b : Bool} (hc : opd tm c = .one (.bool b)) :
    o.wp P a w (Post ty A g H w ⟨putC tm o.dst (if b = true then opd tm x else opd tm y), H⟩) Q := by
  have rc : a.eval c = .bool b := by have := h.opd c; rw [hc] at this; exact this
  refine wp_value (v := if b = true then a.eval x else a.eval y) (w' := w) (by simp [execOp, ho, rc, asBool]) (post_put h ?_)
  cases b
  · exact h.opd y
  · exact h.opd x

theorem alloc_rel (h : Rel ty A g ⟨tm, H⟩ a w) {base t : Nat} {ss : List S} {vs : List Value} (hf : getH H base = .free) (hs : SRL ty g H w ss vs) (h1 : ∀ u ∈ vs, u.oneCell' = true) :
    Post ty A g H w ⟨putC tm o.dst (.one (.ptr base 0)), setH H base (.live (.var t ss))⟩ (a.put o.dst (.pointer (some ⟨w.heap.size, 0, none⟩))) (w.alloc (.cells vs.toArray t)) := by
  obtain ⟨g', r, c, _, hb, hI⟩ := h.new (o := .var t ss) (obj := .cells vs.toArray t) hf undef fun g' hv hb hI c => by
    refine ⟨⟨vs, by rw [hb]; exact heap_alloc_new w _, hs.mono c, ?_, h1⟩, fun b hb' => by simp only [oblk, Option.some.injEq] at hb'; rw [← hb', hb]⟩
    rw [hb, hI]
    intro hi
    exact absurd (h.lt _ hi) (Nat.lt_irrefl _)
  refine ⟨g', r.put o.dst (c := .one (.ptr base 0)) ⟨?_, rfl, fun _ => by rw [hb]⟩, c.I⟩
  exact nf_live (getH_set_same _ (getH_lt_free hf))

theorem zeros_ok : ∀ (ts : List CT), SRL ty g H w (ts.map zeroS) (ts.map zeroV) ∧ ∀ u ∈ ts.map zeroV, u.oneCell' = true
  | [] => ⟨trivial, fun _ h => by cases h⟩
  | t :: ts => by
    obtain ⟨h1, h2⟩ := zeros_ok ts
    refine ⟨⟨?_, h1⟩, fun u hu => ?_⟩
    · cases t <;> rfl
    · simp only [List.map_cons, List.mem_cons] at hu
      rcases hu with rfl | hu
      · cases t <;> rfl
      · exact h2 u (by simpa using hu)

theorem step_alloc (hty : TyOk P ty) (t base : Nat) (ti : TI) (ho : o.op = .alloc t) (h : Rel ty A g ⟨tm, H⟩ a w) (ht : ty t = some ti) (hf : getH H base = .free) :
    o.wp P a w (Post ty A g H w ⟨putC tm o.dst (.one (.ptr base 0)), setH H base (.live (.var t (ti.cts.map zeroS)))⟩) Q := by
  obtain ⟨inf, z, hi, hsz, hby, hz, hzc⟩ := (hty t ti ht).info
  obtain ⟨h1, h2⟩ := zeros_ok (ty := ty) (g := g) (H := H) (w := w) ti.cts
  refine wp_value (v := .pointer (some ⟨w.heap.size, 0, none⟩)) (w' := w.alloc (.cells (ti.cts.map zeroV).toArray t)) ?_ (alloc_rel h hf h1 h2)
  simp [execOp, ho, Instr.alloc, run_zeroValue hi hz, newVar, newRow, hzc]

theorem step_box (t base : Nat) (ss : List S) (x : Operand) (ho : o.op = .box t x) (h : Rel ty A g ⟨tm, H⟩ a w) (hx : (opd tm x).cells = some ss) (hf : getH H base = .free) :
    o.wp P a w (Post ty A g H w ⟨putC tm o.dst (.one (.ptr base 0)), setH H base (.live (.var t ss))⟩) Q := by
  obtain ⟨vs, h1, h2, h3, _⟩ := cells_ok (h.opd x) hx
  refine wp_value (v := .pointer (some ⟨w.heap.size, 0, none⟩)) (w' := w.alloc (.cells vs.toArray t)) ?_ (alloc_rel h hf h2 h3)
  simp [execOp, ho, Instr.box, newVar, newRow, h1]

theorem List.getElem?_drop_take {α : Type} (l : List α) (off n j : Nat) (hj : j < n) : ((l.drop off).take n)[j]? = l[off + j]? := by
  rw [List.getElem?_take, if_pos hj, List.getElem?_drop]

/-- Loads. -/
theorem step_load (hty : TyOk P ty) (t : Nat) (x : Operand) (ho : o.op = .load t x) (h : Rel ty A g ⟨tm, H⟩ a w) {c : Cls} {v : C}
    (e : loadR (ρ := Option (Cls × C)) ty none t ⟨tm, H⟩ (opd tm x) (fun c v => some (c, v)) = some (c, v)) :
    o.wp P a w (Post ty A g H w ⟨putC tm o.dst v, H⟩) Q := by
  unfold loadR at e
  have hx := h.opd x
  split at e
  · simp at e
  · rename_i ti ht
    have htk := hty t ti ht
    have fin : ∀ (b off : Nat) (vs : List Value) (ss : List S), a.eval x = .pointer (some ⟨b, off, none⟩) → vs.length = ti.cts.length → (∀ (j : Nat) (u : Value), vs[j]? = some u → w.cell? ⟨b, off + j, none⟩ = some u) →
        SRL ty g H w ss vs → v = mkC (isStruct (some ti)) ss → o.wp P a w (Post ty A g H w ⟨putC tm o.dst v, H⟩) Q := by
      intro b off vs ss hp hl hc hs hv
      refine wp_value (v := if isStruct (some ti) then .agg vs.toArray else vs.headD undef) (w' := w) ?_ (post_put h (by rw [hv]; exact mkC_ok hs))
      simp [execOp, ho, Instr.loadAt, hp, Instr.sureAddr, run_loadVar htk w b off vs hl hc]
    split at e
    · rename_i id off hid
      rw [hid] at hx
      split at e
      · rename_i t' cs hv
        split at e
        · rename_i hfit
          simp only [Option.some.injEq, Prod.mk.injEq] at e
          obtain ⟨vs, h1, h2, _⟩ := h.ob id _ hv
          have hlen := h2.length
          refine fin (g.blk id) off ((vs.drop off).take ti.cts.length) _ (hx.2.2 ⟨_, _, hv⟩) (by simp; omega) (fun j u hu => ?_) ((h2.drop off).take ti.cts.length) e.2.symm
          have hj : j < ti.cts.length := by
            rcases Nat.lt_or_ge j ti.cts.length with h' | h'
            · exact h'
            · rw [List.getElem?_take, if_neg (by omega)] at hu; simp at hu
          rw [List.getElem?_drop_take _ _ _ _ hj] at hu
          simp [World.cell?, h1, hu]
        · simp at e
      · simp at e
    · rename_i el y off hid
      rw [hid] at hx
      split at e
      · rename_i te hte
        split at e
        · rename_i hsame
          simp only [Option.some.injEq, Prod.mk.injEq] at e
          obtain ⟨ti', b, o', vs, F, h1, h2, h3, h4, h5, h6⟩ := hx
          obtain rfl : te = ti' := by rw [hte] at h1; exact Option.some.inj h1
          obtain ⟨p1, p2⟩ := part_ok (H := H) h4 h5 (CT.sameL_eq hsame)
          refine fin b (o' + off) _ _ h2 p2 (fun j u hu => ?_) p1 e.2.symm
          have hj : j < ti.cts.length := by
            rcases Nat.lt_or_ge j ti.cts.length with h' | h'
            · exact h'
            · rw [List.getElem?_take, if_neg (by omega)] at hu; simp at hu
          rw [List.getElem?_drop_take _ _ _ _ hj] at hu
          rw [Nat.add_assoc]
          exact h3 _ u hu
        · simp at e
      · simp at e
    · rename_i el id ix off hid
      rw [hid] at hx
      split at e
      · rename_i te e' l hte hrow
        split at e
        · rename_i hc
          obtain ⟨hee, hsame⟩ := hc
          simp only [Option.some.injEq, Prod.mk.injEq] at e
          subst hee
          obtain ⟨ti', b, len, cap, h1, h2, h3, h4⟩ := hx.2 ⟨_, _, .inl hrow⟩
          obtain rfl : te = ti' := by rw [hte] at h1; exact Option.some.inj h1
          obtain ⟨ti'', vs, F, k1, k0, k2, k3, k4, k5⟩ := h.ob id _ hrow
          obtain rfl : te = ti'' := by rw [hte] at k1; exact Option.some.inj k1
          have hlen : l.length = len := by
            rcases k2.2 with ⟨hv, _⟩ | ⟨_, _, _, hv, _⟩
            · rw [h2] at hv; simp at hv
            · rw [h2] at hv; simp at hv; exact hv.2.1.symm
          obtain ⟨u, G, q1, q2, q3⟩ := k3.at ix (by omega)
          obtain ⟨p1, p2⟩ := part_ok (H := H) q1 (fun b hb => k4 b (q2 b hb)) (CT.sameL_eq hsame)
          refine fin b (ix * te.cts.length + off) _ _ h4 p2 (fun j x hu => ?_) p1 e.2.symm
          have hj : j < ti.cts.length := by
            rcases Nat.lt_or_ge j ti.cts.length with h' | h'
            · exact h'
            · rw [List.getElem?_take, if_neg (by omega)] at hu; simp at hu
          rw [List.getElem?_drop_take _ _ _ _ hj] at hu
          have hjl : off + j < te.cts.length := by
            have := (RdL.length q1).1
            rcases Nat.lt_or_ge (off + j) u.length with h' | h'
            · omega
            · simp [List.getElem?_eq_none h'] at hu
          have hk : ix * te.cts.length + off + j < l.length * te.cts.length := by
            have := Nat.mul_le_mul_right te.cts.length (show ix + 1 ≤ l.length by omega)
            rw [Nat.succ_mul] at this
            omega
          rw [World.ownsRow.cellAt (w := w) (g := b) (n := l.length) (cap := cap) (xs := vs) (base := 0) (e := e') (size := te.cts.length) (by rw [hlen, ← h2, ← hlen]; exact k2) _ hk, Nat.add_assoc, q3 _ hjl]
          exact hu
        · simp at e
      · rename_i te e' l hte hrow
        split at e
        · rename_i hc
          obtain ⟨hee, hsame⟩ := hc
          simp only [Option.some.injEq, Prod.mk.injEq] at e
          subst hee
          obtain ⟨ti', b, len, cap, h1, h2, h3, h4⟩ := hx.2 ⟨_, _, .inr hrow⟩
          obtain rfl : te = ti' := by rw [hte] at h1; exact Option.some.inj h1
          obtain ⟨F, k2, k4⟩ := h.ob id _ hrow
          rw [h2] at k2
          cases k2 with
          | nil => omega
          | sl _ ti'' _ _ _ _ _ vs F k1 k0 kn kne kcap kc k3 =>
            obtain rfl : te = ti'' := by rw [hte] at k1; exact Option.some.inj k1
            obtain ⟨u, G, q1, q2, q3⟩ := k3.at ix (by omega)
            obtain ⟨p1, p2⟩ := part_ok (H := H) q1 (fun c hb => k4 c (by simp [q2 c hb])) (CT.sameL_eq hsame)
            refine fin b (ix * te.cts.length + off) _ _ h4 p2 (fun j x hu => ?_) p1 e.2.symm
            have hj : j < ti.cts.length := by
              rcases Nat.lt_or_ge j ti.cts.length with h' | h'
              · exact h'
              · rw [List.getElem?_take, if_neg (by omega)] at hu; simp at hu
            rw [List.getElem?_drop_take _ _ _ _ hj] at hu
            have hjl : off + j < te.cts.length := by
              have := (RdL.length q1).1
              rcases Nat.lt_or_ge (off + j) u.length with h' | h'
              · omega
              · simp [List.getElem?_eq_none h'] at hu
            have := kc (ix * te.cts.length + (off + j)) x (by rw [q3 _ hjl]; exact hu)
            rw [Nat.zero_add] at this
            rw [Nat.add_assoc]
            exact this
        · simp at e
      · simp at e
    · simp at e
end
end Go.Proofs.YtljggmbgbnmapaaGreatV
