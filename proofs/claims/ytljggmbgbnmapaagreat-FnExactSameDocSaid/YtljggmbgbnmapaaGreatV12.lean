/- One operation: rows and records that are made and put together. -/
import Derived.Test.YtljggmbgbnmapaaGreatV11
namespace Go.Proofs.YtljggmbgbnmapaaGreatV
open Go
set_option linter.unusedVariables false

section
variable {P : Program} {ty : Nat → Option TI} {A : An} {g : Gh} {tm : List C} {H : List HS} {a : Act} {w : World} {o : Oper} {Q : Exit → Act → World → Prop}

theorem zeroC_ok (t : CT) : RdC ty w t (zeroD t) (zeroV t) [] := by
  cases t
  · exact .b _
  · exact .i _ _
  · exact .s _
  · exact .nil _ _ _

theorem zeroL_ok : ∀ ts : List CT, RdL ty w ts (ts.map zeroD) (ts.map zeroV) []
  | [] => .nil
  | t :: ts => RdL.cons t ts _ _ _ _ [] [] (zeroC_ok t) (zeroL_ok ts)

theorem zeroR_ok (ts : List CT) : ∀ n : Nat, RdV ty w ts (List.replicate n (ts.map zeroD)) (List.replicate n (ts.map zeroV)).flatten []
  | 0 => .nil _
  | n + 1 => by
    rw [List.replicate_succ, List.replicate_succ, List.flatten_cons]
    exact RdV.cons ts _ _ _ _ [] [] (zeroL_ok ts) (zeroR_ok ts n)

theorem madeCells_flat (z : Value) (zs : List Value) (hz : z.cells = zs.toArray) (h0 : 0 < zs.length) (n : Nat) : (madeCells z.cells (n * zs.length)).toList = (List.replicate n zs).flatten := by
  have h1 : (List.replicate n zs).flatten = (List.replicate n z).flatMap fun v => v.cells.toList := by
    induction n with
    | zero => rfl
    | succ n ih => simp [List.replicate_succ, ih, hz]
  rw [h1]
  have hs : ∀ v ∈ List.replicate n z, v.cells.size = zs.length := by
    intro v hv
    rw [List.eq_of_mem_replicate hv, hz]
    simp
  apply List.ext_getElem?
  intro k
  rw [Great.flat_get h0 _ hs k]
  have hsz : z.cells.size = zs.length := by rw [hz]; simp
  by_cases hk : k < n * zs.length
  · have hd : k / zs.length < n := Nat.div_lt_of_lt_mul (by rw [Nat.mul_comm]; exact hk)
    have hm : k % zs.length < z.cells.size := by rw [hsz]; exact Nat.mod_lt _ h0
    simp [madeCells, hk, hd, hsz]
    rw [Array.getElem?_eq_getElem hm]
    simp [getElem!_pos, hm]
  · have hd : ¬ k / zs.length < n := by
      intro h
      have := (Nat.div_lt_iff_lt_mul h0).1 h
      omega
    simp [madeCells, hk, hd]

theorem step_makeSlice (hty : TyOk P ty) (t : TypeId) (x y : Operand) (base : Nat) (ho : o.op = .makeSlice t x y) (h : Rel ty A g ⟨tm, H⟩ a w) {e : Nat} {te : TI} (ht : isSlice (ty t) = some e) (hte : ty e = some te) {m : Int}
    (hx : opd tm x = .one (.int .i64 m)) (hy : opd tm y = .one (.int .i64 m)) (hf : getH H base = .free) (hc : 0 ≤ m ∧ m < (LIM : Int)) (hb : te.bytes ≤ 1024) (h0 : 0 < te.cts.length) :
    o.wp P a w (Post ty A g H w ⟨putC tm o.dst (.one (.own base)), setH H base (.live (.row e (List.replicate m.toNat (te.cts.map zeroD))))⟩) Q := by
  have rx := h.opd x
  have ry := h.opd y
  rw [hx] at rx
  rw [hy] at ry
  obtain ⟨n, rfl⟩ := Int.eq_ofNat_of_zero_le hc.1
  have hn : n < LIM := by exact Int.ofNat_lt.1 hc.2
  obtain ⟨inf, z, hinf, hsz, hby, hz, hzc⟩ := (hty e te hte).info
  have hzl : z.cells = (te.cts.map zeroV).toArray := hzc
  obtain ⟨w', h1, h2, h3⟩ := run_make_full (P := P) w 0 t e inf z te.cts.length (isSlice_ok hty ht) hinf hz hsz .i64 .i64 n (by
    rw [hby]
    refine Nat.le_trans (Nat.mul_le_mul hb (Nat.le_of_lt hn)) ?_
    simp [LIM]) (by simp only [LIM] at hn; simp only [maxLen]; omega) (Nat.zero_le _)
  have hcell := madeCells_flat z (te.cts.map zeroV) hzl (by simpa using h0) n
  rw [List.length_map] at hcell
  rw [hcell] at h2
  obtain ⟨g', q1, q2, q3⟩ := h.grow (base := base) (e := e) (l := List.replicate n (te.cts.map zeroD)) hf hte h0 h3 (fun b hb => by simp at hb) (by simpa using h2) (zeroR_ok te.cts n) (fun _ h => by cases h)
    (fun b hb => .inr (by simp only [Value.ownBlock, Option.some.injEq] at hb; omega))
  refine wp_value (v := .slice (some ⟨w.heap.size, 0, none⟩) n n) (w' := w') ?_ (post_row q1 q2.I (getH_set_same _ (getH_lt_free hf)) q3 rfl)
  simp only [execOp, ho]
  rw [show a.eval x = _ from rx, show a.eval y = _ from ry, Sem.run_bind, h1]
  rfl

/-- Parts of a slice's literal. -/
theorem rowsOf_ok : ∀ (parts : List (Nat × Operand)) {j : Nat} {ts : List CT} {l : List (List DC)} {g : Gh} {H H1 : List HS}, Rel ty A g ⟨tm, H⟩ a w → rowsOf H ts j (parts.map fun p => (p.1, opd tm p.2)) = some (l, H1) →
    ∃ (g' : Gh) (F : List Nat) (vs : List Value), Rel ty A g' ⟨tm, H1⟩ a w ∧ Ch g g' H H1 w w ∧ RdV ty w ts l (vs.flatMap fun v => v.cells.toList) F ∧ (∀ b ∈ F, g'.I b) ∧ (∀ v ∈ vs, v.cells.size = ts.length) ∧
      parts.map (fun p => (p.1, a.eval p.2)) = (vs.zipIdx j).map (fun x => (x.2, x.1)) ∧ vs.length = l.length
  | [], j, ts, l, g, H, H1, h, e => by
    simp only [List.map_nil, rowsOf, Option.some.injEq, Prod.mk.injEq] at e
    obtain ⟨rfl, rfl⟩ := e
    exact ⟨g, [], [], h, .refl _ _ _, .nil _, fun _ h => by (cases h), fun _ h => by (cases h), rfl, rfl⟩
  | (i, x) :: parts, j, ts, l, g, H, H1, h, e => by
    simp only [List.map_cons, rowsOf] at e
    split at e
    · rename_i hij
      subst hij
      split at e
      · rename_i ss hss
        split at e
        · rename_i d H2 hd
          split at e
          · rename_i ds H3 hds
            simp only [Option.some.injEq, Prod.mk.injEq] at e
            obtain ⟨rfl, rfl⟩ := e
            obtain ⟨us, u1, u2, u3, u4⟩ := cells_ok (h.opd x) hss
            obtain ⟨g1, F1, r1, c1, d1, i1⟩ := toDCs_ok h u2 hd
            obtain ⟨g2, F2, vs, r2, c2, d2, i2, k1, k2, k3⟩ := rowsOf_ok parts r1 hds
            refine ⟨g2, F1 ++ F2, a.eval x :: vs, r2, c1.trans c2, ?_, fun b hb => ?_, fun v hv => ?_, ?_, by simp [k3]⟩
            · rw [List.flatMap_cons, u1]
              exact .cons _ _ _ _ _ _ _ d1 d2
            · rcases List.mem_append.1 hb with hb | hb
              · exact c2.I b (i1 b hb)
              · exact i2 b hb
            · rcases List.mem_cons.1 hv with rfl | hv
              · rw [u1]; simpa using d1.length.1
              · exact k1 v hv
            · simp [k2]
          · simp at e
        · simp at e
      · simp at e
    · simp at e

theorem step_buildSlice (hty : TyOk P ty) (t : TypeId) (n : Nat) (parts : Array (Nat × Operand)) (base : Nat) (ho : o.op = .buildSlice t n parts) (h : Rel ty A g ⟨tm, H⟩ a w) {e : Nat} {te : TI} (ht : isSlice (ty t) = some e) (hte : ty e = some te)
    {l : List (List DC)} {H1 : List HS} (hr : rowsOf H te.cts 0 (parts.toList.map fun p => (p.1, opd tm p.2)) = some (l, H1)) (hf : getH H1 base = .free)
    (hc : l.length = n ∧ n ≤ 10000 ∧ 0 < te.cts.length ∧ te.cts.length ≤ 1024) :
    o.wp P a w (Post ty A g H w ⟨putC tm o.dst (.one (.own base)), setH H1 base (.live (.row e l))⟩) Q := by
  obtain ⟨g1, F, vs, r1, c1, d1, i1, k1, k2, k3⟩ := rowsOf_ok parts.toList h hr
  obtain ⟨hn, h10, h0, h1024⟩ := hc
  obtain ⟨inf, z, hinf, hsz, hby, hz, hzc⟩ := (hty e te hte).info
  have hcl : (vs.flatMap fun v => v.cells.toList).length = n * te.cts.length := by rw [d1.length, hn]
  have hrun : (Instr.buildSlice t n (parts.map fun x => (x.1, a.eval x.2))).run P w = .ok (.slice (some ⟨w.heap.size, 0, none⟩) n n) (w.alloc (.cells (vs.flatMap fun v => v.cells.toList).toArray e)) := by
    have hp : (parts.map fun x => (x.1, a.eval x.2)).toList = (vs.zipIdx 0).map (fun x => (x.2, x.1)) := by simpa using k2
    by_cases hz0 : n = 0
    · subst hz0
      have hv : vs = [] := List.eq_nil_of_length_eq_zero (by omega)
      subst hv
      simp at hp
      simp [Instr.buildSlice, run_underlying (isSlice_ok hty ht), run_sizeOf hinf, Instr.fill, newRow, hp]
      rw [show Array.range 0 = #[] from by simp [Array.range]]
      simp
    · have hm : n * te.cts.length ≤ 10000 * 1024 := Nat.mul_le_mul h10 h1024
      have hpos : 0 < n * te.cts.length := Nat.mul_pos (by omega) h0
      refine run_buildSlice w t e n _ _ inf z (isSlice_ok hty ht) hinf hz (by rw [hsz]; omega) (by rw [hsz]; omega) ?_
      rw [hp, hsz]
      exact Great.fill_whole h0 vs _ k1 (by rw [k3, hn]; simp)
  have hown := World.ownsRow_lit (base := 0) (e := e) (size := te.cts.length) w (vs.flatMap fun v => v.cells.toList).toArray n (Nat.zero_le _) (by simp only [maxLen]; omega) (by simpa using hcl)
  obtain ⟨g', q1, q2, q3⟩ := r1.grow (base := base) (e := e) (l := l) hf hte h0 (World.grownBy_alloc w _ none) (fun b hb => by simp at hb) (by rw [hn]; simpa using hown) d1 i1
    (fun b hb => .inr (by simp only [Value.ownBlock, Option.some.injEq] at hb; omega))
  refine wp_value (v := .slice (some ⟨w.heap.size, 0, none⟩) n n) ?_ (post_row q1 (fun b hb => q2.I b (c1.I b hb)) (getH_set_same _ (getH_lt_free hf)) q3 rfl)
  simp only [execOp, ho]
  rw [Sem.run_bind, hrun]
  rfl

/-- A part's cells put in, one behind the other. -/
theorem foldl_part (cs : List Value) (off : Nat) (cells : List Value) (hfit : off + cs.length ≤ cells.length) :
    (cs.toArray.zipIdx.foldl (fun (acc : Array Value) (x : Value × Nat) => acc.setIfInBounds (off + x.2) x.1) cells.toArray) = (cells.take off ++ (cs ++ cells.drop (off + cs.length))).toArray := by
  have h := Great.foldl_set off cs 0 cells.toArray
  rw [← Array.foldl_toList, Array.toList_zipIdx]
  apply Array.ext_getElem?
  intro k
  rw [h.2 k]
  simp only [Nat.add_zero, List.size_toArray, List.getElem?_toArray]
  by_cases hk : off ≤ k ∧ k < off + cs.length
  · rw [if_pos ⟨hk.1, hk.2, by omega⟩, List.getElem?_append_right (by simp; omega), List.getElem?_append_left (by simp; omega)]
    congr 1
    simp
    omega
  · rw [if_neg (by omega)]
    by_cases h2 : k < off
    · rw [List.getElem?_append_left (by simp; omega), List.getElem?_take, if_pos h2]
    · rw [List.getElem?_append_right (by simp; omega), List.getElem?_append_right (by simp; omega), List.getElem?_drop]
      congr 1
      simp
      omega

theorem fill_ok (h : Rel ty A g ⟨tm, H⟩ a w) (place : Nat → Option (Nat × Nat)) (flds : List (Nat × Nat × Bool)) (hpl : ∀ (j : Nat) (x : Nat × Nat × Bool), flds[j]? = some x → place j = some (x.1, x.2.1)) (n : Nat)
    (hfit : ∀ (j : Nat) (x : Nat × Nat × Bool), flds[j]? = some x → x.1 + x.2.1 ≤ n) :
    ∀ (parts : List (Nat × Operand)) (z r : List S) (zs : List Value), buildC flds z (parts.map fun p => (p.1, opd tm p.2)) = some r → SRL ty g H w z zs → z.length = n →
    ∃ rs : List Value, Instr.fill place zs.toArray (parts.map fun p => (p.1, a.eval p.2)) = some rs.toArray ∧ SRL ty g H w r rs ∧ r.length = n
  | [], z, r, zs, e, hz, hn => by
    simp only [List.map_nil, buildC, Option.some.injEq] at e
    subst e
    exact ⟨zs, rfl, hz, hn⟩
  | (j, x) :: parts, z, r, zs, e, hz, hn => by
    simp only [List.map_cons, buildC] at e
    split at e
    · rename_i off k ag ss hj hss
      split at e
      · rename_i hk
        obtain ⟨us, u1, u2, u3, u4⟩ := cells_ok (h.opd x) hss
        have hf := hfit j _ hj
        have hzl := hz.length
        simp only at hf
        have hs : SRL ty g H w (setRun z off ss) (zs.take off ++ (us ++ zs.drop (off + us.length))) := by
          rw [u4]
          exact (hz.take off).append (u2.append (hz.drop (off + ss.length)))
        obtain ⟨rs, q1, q2, q3⟩ := fill_ok h place flds hpl n hfit parts _ _ _ e hs (by simp [setRun]; omega)
        refine ⟨rs, ?_, q2, q3⟩
        rw [← q1]
        simp only [List.map_cons]
        rw [Instr.fill, hpl j _ hj]
        simp only [u1, List.size_toArray]
        rw [if_neg (by simp; omega)]
        congr 1
        exact foldl_part us off zs (by omega)
      · simp at e
    · simp at e

theorem step_build (hty : TyOk P ty) (t : TypeId) (parts : Array (Nat × Operand)) (ho : o.op = .build t parts) (h : Rel ty A g ⟨tm, H⟩ a w) {ti : TI} (ht : ty t = some ti) (hst : isStruct (some ti) = true) {ss : List S}
    (hb : buildC ti.flds (ti.cts.map zeroS) (parts.toList.map fun p => (p.1, opd tm p.2)) = some ss) :
    o.wp P a w (Post ty A g H w ⟨putC tm o.dst (.agg ss), H⟩) Q := by
  obtain ⟨fs, hu, hn, hf⟩ := kd_struct hty ht hst
  obtain ⟨inf, z, hinf, hsz, hby, hz, hzc⟩ := (hty t ti ht).info
  have hpl : ∀ (j : Nat) (x : Nat × Nat × Bool), ti.flds[j]? = some x → (fs.toList.map fun f => (f.offset, ((P.info? f.type).map (·.size)).getD 0))[j]? = some (x.1, x.2.1) := by
    intro j x hj
    have hjl : j < ti.flds.length := by
      rcases Nat.lt_or_ge j ti.flds.length with h' | h'
      · exact h'
      · simp [List.getElem?_eq_none h'] at hj
    have hfj : fs[j]? = some fs[j] := Array.getElem?_eq_getElem (by omega)
    have hok := hf j _ _ hfj hj
    obtain ⟨i', hi', hs'⟩ := hok.size
    have := hok.off
    simp [hfj, hi', hs', this]
  have hplaces : fs.toList.mapM (fun f => (P.info? f.type).map fun i => (f.offset, i.size)) = some (fs.toList.map fun f => (f.offset, ((P.info? f.type).map (·.size)).getD 0)) := by
    have : ∀ l : List Go.Field, (∀ f ∈ l, ∃ i, P.info? f.type = some i) → l.mapM (fun f => (P.info? f.type).map fun i => (f.offset, i.size)) = some (l.map fun f => (f.offset, ((P.info? f.type).map (·.size)).getD 0)) := by
      intro l
      induction l with
      | nil => intro _; rfl
      | cons f l ih =>
        intro hl
        obtain ⟨i, hi⟩ := hl f (by simp)
        rw [List.mapM_cons, ih (fun f hf => hl f (by simp [hf]))]
        simp [hi]
    refine this _ fun f hfm => ?_
    obtain ⟨j, hj, rfl⟩ := List.getElem_of_mem hfm
    have hj' : j < fs.size := by simpa using hj
    obtain ⟨i', hi', _⟩ := (hf j fs[j] (ti.flds[j]'(by omega)) (Array.getElem?_eq_getElem hj') (List.getElem?_eq_getElem (by omega))).size
    exact ⟨i', by simpa using hi'⟩
  obtain ⟨rs, q1, q2, q3⟩ := fill_ok h (fun x => (fs.toList.map fun f => (f.offset, ((P.info? f.type).map (·.size)).getD 0)).toArray[x]?) ti.flds (fun j x hj => by simpa using hpl j x hj) ti.cts.length (fun j x hj => by
    have hjl : j < ti.flds.length := by
      rcases Nat.lt_or_ge j ti.flds.length with h' | h'
      · exact h'
      · simp [List.getElem?_eq_none h'] at hj
    exact (hf j _ _ (Array.getElem?_eq_getElem (show j < fs.size by omega)) hj).fit) parts.toList _ _ _ hb (zeros_ok (ty := ty) (g := g) (H := H) (w := w) ti.cts).1 (by simp)
  have hbuilt : P.built t (parts.map fun x => (x.1, a.eval x.2)).toList = some rs.toArray := by
    unfold Program.built
    simp only [hinf, hu, hz, hplaces]
    rw [hzc]
    have : (parts.map fun x => (x.1, a.eval x.2)).toList = parts.toList.map fun p => (p.1, a.eval p.2) := by simp
    rw [this]
    exact q1
  refine wp_value (v := .agg rs.toArray) (w' := w) ?_ (post_put h ⟨rs, rfl, q2⟩)
  simp only [execOp, ho]
  rw [Sem.run_bind, run_build w t _ _ hbuilt]
  rfl

end
end Go.Proofs.YtljggmbgbnmapaaGreatV
