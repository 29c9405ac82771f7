/- From a row's input to the evaluator's begin, and from its answer to the row's end. -/
import Derived.Test.YtljggmbgbnmapaaGreatV26
import Derived.ChangeOld
import Derived.RowKit
import Derived.Carry
namespace Go.Proofs.YtljggmbgbnmapaaGreatV
open Go
set_option linter.unusedVariables false
set_option linter.unusedSimpArgs false

/-- The fields lie one behind the other. -/
def Lay (ty : Nat → Option TI) : Nat → List Go.Field → List CT → Prop
  | _, [], cts => cts = []
  | off, f :: fs, cts => f.offset = off ∧ ∃ tf rest, ty f.type = some tf ∧ cts = tf.cts ++ rest ∧ Lay ty (off + tf.cts.length) fs rest

/-- The table tells all that a reading meets. -/
structure RdTy (P : Program) (ty : Nat → Option TI) (t : Nat) (ti : TI) : Prop where
  ok : match P.underlying t with
    | some .bool => ti.cts = [.b]
    | some (.int k) => ti.cts = [.i k]
    | some .string => ti.cts = [.s]
    | some (.slice e) => ti.cts = [.sl e] ∧ ∃ te, ty e = some te ∧ 0 < te.cts.length
    | some (.struct fs) => Lay ty 0 fs.toList ti.cts
    | _ => False
  size : P.cellsOf t = ti.cts.length

mutual
/-- The numbers are of their kinds, the lengths no greater than may be. -/
inductive WfC (ty : Nat → Option TI) : CT → DC → Prop
  | b (x : Bool) : WfC ty .b (.b x)
  | i (k : IntKind) (n : Int) : k.min ≤ n → n ≤ k.max → WfC ty (.i k) (.i n)
  | s (l : List UInt8) : l.length ≤ maxLen → WfC ty .s (.s l)
  | sl (e : Nat) (te : TI) (l : List (List DC)) : ty e = some te → l.length ≤ maxLen → WfV ty te.cts l → WfC ty (.sl e) (.sl l)
  | nil (e : Nat) : WfC ty (.sl e) (.sl [])
inductive WfL (ty : Nat → Option TI) : List CT → List DC → Prop
  | nil : WfL ty [] []
  | cons (t : CT) (ts : List CT) (x : DC) (xs : List DC) : WfC ty t x → WfL ty ts xs → WfL ty (t :: ts) (x :: xs)
inductive WfV (ty : Nat → Option TI) : List CT → List (List DC) → Prop
  | nil (ts : List CT) : WfV ty ts []
  | cons (ts : List CT) (x : List DC) (l : List (List DC)) : WfL ty ts x → WfV ty ts l → WfV ty ts (x :: l)
end

theorem WfL.append {ty : Nat → Option TI} : ∀ {a b : List CT} {x y : List DC}, WfL ty a x → WfL ty b y → WfL ty (a ++ b) (x ++ y)
  | _, _, _, _, .nil, h => h
  | _, _, _, _, .cons t ts x xs h1 h2, h => .cons t _ x _ h1 (WfL.append h2 h)

section
variable {H : Type} {enc : TypeId × Value → H} {P : Program} {ty : Nat → Option TI} {w : World} {sp : Nat → Bool} {held : Bool}

theorem rdv_of {ts : List CT} : ∀ (l : List (List Value)) , (∀ c ∈ l, ∃ x F, RdL ty w ts x c F ∧ (∀ b ∈ F, b < w.heap.size) ∧ WfL ty ts x) → ∃ xs F, xs.length = l.length ∧ RdV ty w ts xs l.flatten F ∧ (∀ b ∈ F, b < w.heap.size) ∧ WfV ty ts xs
  | [], _ => ⟨[], [], rfl, .nil _, fun _ h => by (cases h), .nil _⟩
  | c :: l, h => by
    obtain ⟨x, F, h1, h2, h3⟩ := h c (by simp)
    obtain ⟨xs, G, k1, k2, k3, k4⟩ := rdv_of l fun c hc => h c (by simp [hc])
    refine ⟨x :: xs, F ++ G, by simp [k1], ?_, fun b hb => ?_, .cons _ _ _ h3 k4⟩
    · rw [List.flatten_cons]
      exact .cons _ _ _ _ _ _ _ h1 k2
    · rcases List.mem_append.1 hb with hb | hb
      · exact h2 b hb
      · exact k3 b hb

/-- A reading of the row's kind, as data. -/
theorem trod_read (hrd : ∀ t ti, ty t = some ti → RdTy P ty t ti) : ∀ (fuel t : Nat) (ti : TI) (cs : List Value) (x : DataW H × List MemPlace), ty t = some ti → DataW.trod enc P w 0 sp held fuel t cs = some x →
    ∃ d F, RdL ty w ti.cts d cs F ∧ (∀ b ∈ F, b < w.heap.size) ∧ WfL ty ti.cts d
  | 0, t, ti, cs, x, ht, h => by simp [DataW.trod] at h
  | fuel + 1, t, ti, cs, x, ht, h => by
    have ih := trod_read hrd fuel
    obtain ⟨hok, hsz⟩ := hrd t ti ht
    have lit : ∀ (c : CT) (dd : DC) (v : Value), ti.cts = [c] → cs = [v] → RdC ty w c dd v [] → WfC ty c dd → ∃ d F, RdL ty w ti.cts d cs F ∧ (∀ b ∈ F, b < w.heap.size) ∧ WfL ty ti.cts d := by
      intro c dd v h1 h2 h3 h4
      rw [h1, h2]
      exact ⟨[dd], [] ++ [], .cons _ _ _ _ _ _ _ _ h3 .nil, fun _ h => by (cases h), .cons _ _ _ _ h4 .nil⟩
    unfold DataW.trod at h
    split at h
    case h_1 b hu =>
      rw [hu] at hok
      exact lit .b (.b b) _ hok rfl (.b b) (.b b)
    case h_2 k k' n hu =>
      rw [hu] at hok
      split at h
      · rename_i hk
        obtain ⟨rfl, hwf⟩ := hk
        simp only [Lit.wf, Bool.and_eq_true, decide_eq_true_eq] at hwf
        exact lit (.i k') (.i n) _ hok rfl (.i k' n) (.i k' n hwf.1 hwf.2)
      · simp at h
    case h_4 s hu =>
      rw [hu] at hok
      split at h
      · rename_i hs
        have e : s = ⟨s.data.toList.toArray⟩ := by cases s; simp
        refine lit .s (.s s.data.toList) _ hok rfl ?_ (.s _ hs)
        have := RdC.s (ty := ty) (w := w) s.data.toList
        rw [← e] at this
        exact this
      · simp at h
    case h_7 e hu =>
      rw [hu] at hok
      exact lit (.sl e) (.sl []) _ hok.1 rfl (.nil e none 0) (.nil e)
    case h_8 e a len cap hu =>
      rw [hu] at hok
      obtain ⟨hc, te, hte, h0⟩ := hok
      have hes : P.cellsOf e = te.cts.length := (hrd e te hte).size
      split at h
      · rename_i hbnd
        simp only [Option.map_eq_some_iff, Option.bind_eq_some_iff] at h
        obtain ⟨elems, hel, rest, hrest, _⟩ := h
        by_cases hl : len = 0
        · subst hl
          exact lit (.sl e) (.sl []) _ hc rfl (.nil e _ _) (.nil e)
        · -- each element's cells
          have hget : ∀ i, i < len → ∃ cs', w.cells? 0 (a.add (i * P.cellsOf e)) (P.cellsOf e) = some cs' ∧ ∃ y, DataW.trod enc P w 0 sp held fuel e cs' = some y := by
            intro i hi
            have h1 := mapM_some_get hel i i (by rw [List.getElem?_range hi])
            have hlen := mapM_some_length hel
            rw [List.length_range] at hlen
            rw [List.getElem?_eq_getElem (by omega)] at h1
            cases hcs : w.cells? 0 (a.add (i * P.cellsOf e)) (P.cellsOf e) with
            | none => rw [hcs] at h1; simp at h1
            | some cs' =>
              rw [hcs] at h1
              exact ⟨cs', rfl, _, h1⟩
          have hspot : a.spot = none := by
            obtain ⟨cs', hcs, _⟩ := hget 0 (by omega)
            rw [Nat.zero_mul] at hcs
            obtain ⟨_, hl', hcc⟩ := World.cells?_some hcs
            have := hcc 0 (by omega)
            rw [show (a.add 0).add 0 = a by simp [Addr.add]] at this
            have h2 : cs'[0]? = some cs'[0] := List.getElem?_eq_getElem (by omega)
            rw [h2] at this
            unfold World.cell? at this
            split at this
            · split at this
              · simp at this
              · rename_i hs
                cases hsp : a.spot with
                | none => rfl
                | some _ => rw [hsp] at hs; simp at hs
            · simp at this
          have ha : a = ⟨a.block, a.off, none⟩ := by cases a; simp at hspot; simp [hspot]
          let cells : List (List Value) := (List.range len).map fun i => (w.cells? 0 (a.add (i * P.cellsOf e)) (P.cellsOf e)).getD []
          obtain ⟨xs, F, x1, x2, x3, x4⟩ := rdv_of (ty := ty) (w := w) (ts := te.cts) cells fun c hcm => by
            simp only [cells, List.mem_map, List.mem_range] at hcm
            obtain ⟨i, hi, rfl⟩ := hcm
            obtain ⟨cs', hcs, y, hy⟩ := hget i hi
            rw [hcs]
            exact ih e te cs' y hte hy
          have hlc : cells.length = len := by simp [cells]
          have hblk : a.block < w.heap.size := by
            obtain ⟨cs', hcs, _⟩ := hget 0 (by omega)
            rw [Nat.zero_mul] at hcs
            have := World.cells?_block hcs (by omega)
            simpa [Addr.add] using this
          have hcl : ∀ i, i < len → ∃ c, cells[i]? = some c ∧ c.length = te.cts.length ∧ ∀ j, j < te.cts.length → w.cell? ⟨a.block, a.off + (i * te.cts.length + j), none⟩ = c[j]? := by
            intro i hi
            obtain ⟨cs', hcs, _⟩ := hget i hi
            refine ⟨cs', by simp [cells, hi, hcs], ?_⟩
            obtain ⟨_, hl', hcc⟩ := World.cells?_some hcs
            refine ⟨by rw [hl', hes], fun j hj => ?_⟩
            have := hcc j (by omega)
            rw [← this, hes]
            congr 1
            rw [ha, Addr.add_lit, Addr.add_lit]
            simp [Nat.add_assoc]
          have hflat : ∀ (l : List (List Value)) (off : Nat), (∀ i c, l[i]? = some c → c.length = te.cts.length ∧ ∀ j, j < te.cts.length → w.cell? ⟨a.block, off + (i * te.cts.length + j), none⟩ = c[j]?) →
              ∀ (j : Nat) (v : Value), l.flatten[j]? = some v → w.cell? ⟨a.block, off + j, none⟩ = some v := by
            intro l
            induction l with
            | nil => intro off _ j v h; simp at h
            | cons c l ihl =>
              intro off hl j v hv
              obtain ⟨c1, c2⟩ := hl 0 c rfl
              rw [List.flatten_cons] at hv
              by_cases hj : j < te.cts.length
              · rw [List.getElem?_append_left (by omega)] at hv
                have := c2 j hj
                rw [Nat.zero_mul, Nat.zero_add] at this
                rw [this, hv]
              · rw [List.getElem?_append_right (by omega), c1] at hv
                have := ihl (off + te.cts.length) (fun i c hc => by
                  obtain ⟨q1, q2⟩ := hl (i + 1) c (by simpa using hc)
                  refine ⟨q1, fun j hj => ?_⟩
                  rw [← q2 j hj]
                  congr 2
                  rw [Nat.succ_mul]
                  omega) (j - te.cts.length) v hv
                rw [← this]
                congr 2
                omega
          have hxl : xs.length = len := by rw [x1, hlc]
          refine ⟨[DC.sl xs], (a.block :: F) ++ [], ?_, fun b hb => ?_, ?_⟩
          · rw [hc]
            refine .cons _ _ _ _ _ _ _ _ ?_ .nil
            rw [ha]
            refine .sl e te _ _ _ _ xs cells.flatten F hte h0 hxl.symm (by intro h; rw [h] at hxl; simp at hxl; omega) hbnd.2.1 (hflat cells a.off fun i c hic => ?_) x2
            have hi : i < len := by
              rcases Nat.lt_or_ge i cells.length with h' | h'
              · omega
              · simp [List.getElem?_eq_none h'] at hic
            obtain ⟨c', q1, q2, q3⟩ := hcl i hi
            rw [q1] at hic
            simp only [Option.some.injEq] at hic
            subst hic
            exact ⟨q2, q3⟩
          · simp only [List.append_nil, List.mem_cons] at hb
            rcases hb with rfl | hb
            · exact hblk
            · exact x3 b hb
          · rw [hc]
            exact .cons _ _ _ _ (.sl e te xs hte (by rw [hxl]; omega) x4) .nil
      · simp at h
    case h_9 fs hu =>
      rw [hu] at hok
      split at h
      · rename_i hlen
        simp only [Option.map_eq_some_iff] at h
        obtain ⟨ys, hys, _⟩ := h
        -- field by field
        have key : ∀ (fs : List Go.Field) (off : Nat) (cts : List CT) (ys : List (DataW H × List MemPlace)) (cs0 : List Value), Lay ty off fs cts → fs.mapM (fun f => DataW.trod enc P w 0 sp held fuel f.type ((cs0.drop f.offset).take (P.cellsOf f.type))) = some ys →
            off + cts.length = cs0.length → ∃ d F, RdL ty w cts d (cs0.drop off) F ∧ (∀ b ∈ F, b < w.heap.size) ∧ WfL ty cts d := by
          intro fs
          induction fs with
          | nil =>
            intro off cts ys cs0 hl _ hlen
            have hl' : cts = [] := hl
            subst hl'
            rw [List.drop_of_length_le (by simp at hlen; omega)]
            exact ⟨[], [], .nil, fun _ h => by (cases h), .nil⟩
          | cons f fs ihf =>
            intro off cts ys cs0 hl hm hlen
            obtain ⟨ho, tf, rest, htf, rfl, hl2⟩ := hl
            rw [List.mapM_cons] at hm
            simp only [Option.bind_eq_bind, Option.bind_eq_some_iff, Option.pure_def, Option.some.injEq] at hm
            obtain ⟨y, hy, ys', hys', _⟩ := hm
            obtain ⟨d1, F1, q1, q2, q3⟩ := ih f.type tf _ y htf hy
            rw [List.length_append] at hlen
            obtain ⟨d2, F2, p1, p2, p3⟩ := ihf (off + tf.cts.length) rest ys' cs0 hl2 hys' (by omega)
            refine ⟨d1 ++ d2, F1 ++ F2, ?_, fun b hb => ?_, q3.append p3⟩
            · have := q1.append p1
              rw [ho, (hrd f.type tf htf).size, ← List.drop_drop, List.take_append_drop] at this
              exact this
            · rcases List.mem_append.1 hb with hb | hb
              · exact q2 b hb
              · exact p2 b hb
        have := key fs.toList 0 ti.cts ys _ hok hys (by rw [hlen, hsz]; omega)
        simpa using this
      · simp at h
    all_goals first
      | (simp at h; done)
      | (rename_i hu; rw [hu] at hok; exact hok.elim)
      | (rename_i hu _; rw [hu] at hok; exact hok.elim)
      | (exfalso; revert hok; simp_all)

end
end Go.Proofs.YtljggmbgbnmapaaGreatV
