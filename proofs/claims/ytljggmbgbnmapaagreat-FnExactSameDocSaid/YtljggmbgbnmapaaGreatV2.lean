/- What data a value reads as, and how the evaluator's state stands to the machine's (definitions and first lemmas). -/
import Derived.Test.YtljggmbgbnmapaaGreatV1
import Derived.Laws.OwnMore
import Derived.Laws.Rows
namespace Go.Proofs.YtljggmbgbnmapaaGreatV
open Go

section
variable (ty : Nat → Option TI)

mutual
/-- One cell of a type reads as a datum; F: the blocks that the reading meets. -/
inductive RdC (w : World) : CT → DC → Value → List Nat → Prop
  | b (x : Bool) : RdC w .b (.b x) (.bool x) []
  | i (k : IntKind) (n : Int) : RdC w (.i k) (.i n) (.int k n) []
  | s (l : List UInt8) : RdC w .s (.s l) (.string ⟨l.toArray⟩) []
  | nil (e : Nat) (a : Option Addr) (c : Nat) : RdC w (.sl e) (.sl []) (.slice a 0 c) []
  | sl (e : Nat) (ti : TI) (b off n cap : Nat) (l : List (List DC)) (vs : List Value) (F : List Nat) : ty e = some ti → 0 < ti.cts.length → n = l.length → l ≠ [] → n ≤ cap →
      (∀ (j : Nat) (v : Value), vs[j]? = some v → w.cell? ⟨b, off + j, none⟩ = some v) → RdV w ti.cts l vs F →
      RdC w (.sl e) (.sl l) (.slice (some ⟨b, off, none⟩) n cap) (b :: F)
/-- Cells side by side. -/
inductive RdL (w : World) : List CT → List DC → List Value → List Nat → Prop
  | nil : RdL w [] [] [] []
  | cons (t : CT) (ts : List CT) (x : DC) (xs : List DC) (v : Value) (vs : List Value) (F G : List Nat) : RdC w t x v F → RdL w ts xs vs G → RdL w (t :: ts) (x :: xs) (v :: vs) (F ++ G)
/-- Rows of cells, one behind the other. -/
inductive RdV (w : World) : List CT → List (List DC) → List Value → List Nat → Prop
  | nil (ts : List CT) : RdV w ts [] [] []
  | cons (ts : List CT) (x : List DC) (l : List (List DC)) (v vs : List Value) (F G : List Nat) : RdL w ts x v F → RdV w ts l vs G → RdV w ts (x :: l) (v ++ vs) (F ++ G)
end

variable {ty}

mutual
theorem RdC.frame {w w' : World} : ∀ {t : CT} {d : DC} {v : Value} {F : List Nat}, RdC ty w t d v F → (∀ b ∈ F, w'.heap[b]? = w.heap[b]?) → RdC ty w' t d v F
  | _, _, _, _, .b x, _ => .b x
  | _, _, _, _, .i k n, _ => .i k n
  | _, _, _, _, .s l, _ => .s l
  | _, _, _, _, .nil e a c, _ => .nil e a c
  | _, _, _, _, .sl e ti b off n cap l vs F h1 h0 h2 h3 h4 h5 h6, h =>
    .sl e ti b off n cap l vs F h1 h0 h2 h3 h4 (fun j v hv => by rw [World.cell?_of_block (w := w) (h b (by simp))]; exact h5 j v hv) (RdV.frame h6 fun c hc => h c (by simp [hc]))
theorem RdL.frame {w w' : World} : ∀ {t : List CT} {d : List DC} {v : List Value} {F : List Nat}, RdL ty w t d v F → (∀ b ∈ F, w'.heap[b]? = w.heap[b]?) → RdL ty w' t d v F
  | _, _, _, _, .nil, _ => .nil
  | _, _, _, _, .cons t ts x xs v vs F G h1 h2, h => .cons t ts x xs v vs F G (RdC.frame h1 fun b hb => h b (by simp [hb])) (RdL.frame h2 fun b hb => h b (by simp [hb]))
theorem RdV.frame {w w' : World} : ∀ {t : List CT} {d : List (List DC)} {v : List Value} {F : List Nat}, RdV ty w t d v F → (∀ b ∈ F, w'.heap[b]? = w.heap[b]?) → RdV ty w' t d v F
  | _, _, _, _, .nil ts, _ => .nil ts
  | _, _, _, _, .cons ts x l v vs F G h1 h2, h => .cons ts x l v vs F G (RdL.frame h1 fun b hb => h b (by simp [hb])) (RdV.frame h2 fun b hb => h b (by simp [hb]))
end

theorem RdL.length {w : World} : ∀ {ts : List CT} {x : List DC} {v : List Value} {F : List Nat}, RdL ty w ts x v F → v.length = ts.length ∧ x.length = ts.length
  | _, _, _, _, .nil => ⟨rfl, rfl⟩
  | _, _, _, _, .cons _ _ _ _ _ _ _ _ _ h => by have := RdL.length h; simp [this.1, this.2]

theorem RdV.length {w : World} : ∀ {ts : List CT} {l : List (List DC)} {v : List Value} {F : List Nat}, RdV ty w ts l v F → v.length = l.length * ts.length
  | _, _, _, _, .nil ts => by simp
  | _, _, _, _, .cons ts x l v vs F G h1 h2 => by
    have a := (RdL.length h1).1
    have b := RdV.length h2
    simp only [List.length_append, List.length_cons, Nat.succ_mul, a, b]
    omega

theorem RdC.one {w : World} {t : CT} {d : DC} {v : Value} {F : List Nat} (h : RdC ty w t d v F) : v.oneCell' = true := by
  cases h <;> rfl

theorem RdC.cells {w : World} {t : CT} {d : DC} {v : Value} {F : List Nat} (h : RdC ty w t d v F) : v.cells = #[v] := by
  cases h <;> rfl

theorem RdL.one {w : World} : ∀ {ts : List CT} {x : List DC} {v : List Value} {F : List Nat}, RdL ty w ts x v F → ∀ u ∈ v, u.oneCell' = true
  | _, _, _, _, .nil => fun _ h => by cases h
  | _, _, _, _, .cons _ _ _ _ _ _ _ _ h1 h2 => fun u hu => by
    rcases List.mem_cons.1 hu with rfl | hu
    · exact h1.one
    · exact RdL.one h2 u hu

theorem RdV.one {w : World} : ∀ {ts : List CT} {l : List (List DC)} {v : List Value} {F : List Nat}, RdV ty w ts l v F → ∀ u ∈ v, u.oneCell' = true
  | _, _, _, _, .nil _ => fun _ h => by cases h
  | _, _, _, _, .cons _ _ _ _ _ _ _ h1 h2 => fun u hu => by
    rcases List.mem_append.1 hu with hu | hu
    · exact RdL.one h1 u hu
    · exact RdV.one h2 u hu

theorem RdL.append {w : World} : ∀ {ts : List CT} {x : List DC} {v : List Value} {F : List Nat} {ts' : List CT} {x' : List DC} {v' : List Value} {F' : List Nat},
    RdL ty w ts x v F → RdL ty w ts' x' v' F' → RdL ty w (ts ++ ts') (x ++ x') (v ++ v') (F ++ F')
  | _, _, _, _, _, _, _, _, .nil, h => h
  | _, _, _, _, _, _, _, _, .cons t ts x xs v vs F G h1 h2, h => by
    simp only [List.cons_append, List.append_assoc]
    exact .cons _ _ _ _ _ _ _ _ h1 (RdL.append h2 h)

theorem RdV.append {w : World} {ts : List CT} : ∀ {l : List (List DC)} {v : List Value} {F : List Nat} {l' : List (List DC)} {v' : List Value} {F' : List Nat},
    RdV ty w ts l v F → RdV ty w ts l' v' F' → RdV ty w ts (l ++ l') (v ++ v') (F ++ F')
  | _, _, _, _, _, _, .nil _, h => h
  | _, _, _, _, _, _, .cons _ x l v vs F G h1 h2, h => by
    simp only [List.cons_append, List.append_assoc]
    exact .cons _ _ _ _ _ _ _ h1 (RdV.append h2 h)

/-- The j-th row: its cells lie at j times the row's length. -/
theorem RdV.at {w : World} {ts : List CT} : ∀ {l : List (List DC)} {v : List Value} {F : List Nat}, RdV ty w ts l v F → ∀ (j : Nat), j < l.length →
    ∃ (u : List Value) (G : List Nat), RdL ty w ts (l.getD j []) u G ∧ (∀ b ∈ G, b ∈ F) ∧ (∀ (i : Nat), i < ts.length → v[j * ts.length + i]? = u[i]?)
  | _, _, _, .nil _, j, h => by simp at h
  | _, _, _, .cons _ x l v vs F G h1 h2, 0, _ => ⟨v, F, by simpa using h1, fun b hb => by simp [hb], fun i hi => by
      have := (RdL.length h1).1
      rw [List.getElem?_append_left (by omega)]
      simp⟩
  | _, _, _, .cons _ x l v vs F G h1 h2, j + 1, h => by
    obtain ⟨u, G', a, b, c⟩ := RdV.at h2 j (by simpa using h)
    have hl := (RdL.length h1).1
    refine ⟨u, G', by simpa using a, fun k hk => by simp [b k hk], fun i hi => ?_⟩
    rw [← c i hi, List.getElem?_append_right (by rw [hl, Nat.succ_mul]; omega)]
    congr 1
    rw [hl, Nat.succ_mul]
    omega

/-- A row's cells put in another's place. -/
theorem RdV.set {w : World} {ts : List CT} : ∀ {l : List (List DC)} {v : List Value} {F : List Nat}, RdV ty w ts l v F → ∀ (j : Nat) (x : List DC) (u : List Value) (G : List Nat), RdL ty w ts x u G →
    j < l.length → ∃ F', RdV ty w ts (l.set j x) (v.take (j * ts.length) ++ (u ++ v.drop (j * ts.length + ts.length))) F' ∧ ∀ b ∈ F', b ∈ F ∨ b ∈ G
  | _, _, _, .nil _, j, _, _, _, _, h => by simp at h
  | _, _, _, .cons _ x0 l v vs F G0 h1 h2, 0, x, u, G, hx, _ => by
    have hl := (RdL.length h1).1
    refine ⟨G ++ G0, ?_, fun b hb => ?_⟩
    · simp only [List.set_cons_zero, Nat.zero_mul, List.take_zero, List.nil_append, Nat.zero_add]
      rw [← hl, List.drop_left]
      exact .cons _ _ _ _ _ _ _ hx h2
    · rcases List.mem_append.1 hb with hb | hb
      · exact .inr hb
      · exact .inl (by simp [hb])
  | _, _, _, .cons _ x0 l v vs F G0 h1 h2, j + 1, x, u, G, hx, h => by
    obtain ⟨F', a, b⟩ := RdV.set h2 j x u G hx (by simpa using h)
    have hl := (RdL.length h1).1
    refine ⟨F ++ F', ?_, fun k hk => ?_⟩
    · simp only [List.set_cons_succ]
      have e1 : (v ++ vs).take ((j + 1) * ts.length) = v ++ vs.take (j * ts.length) := by
        rw [List.take_append, hl, List.take_of_length_le (by rw [hl, Nat.succ_mul]; omega)]
        congr 2
        rw [Nat.succ_mul]; omega
      have e2 : (v ++ vs).drop ((j + 1) * ts.length + ts.length) = vs.drop (j * ts.length + ts.length) := by
        rw [List.drop_append, hl, List.drop_of_length_le (by rw [hl, Nat.succ_mul]; omega), List.nil_append]
        congr 1
        rw [Nat.succ_mul]; omega
      rw [e1, e2, List.append_assoc]
      exact .cons _ _ _ _ _ _ _ h1 a
    · rcases List.mem_append.1 hk with hk | hk
      · exact .inl (by simp [hk])
      · rcases b k hk with hb | hb
        · exact .inl (by simp [hb])
        · exact .inr hb

theorem RdV.take {w : World} {ts : List CT} : ∀ {l : List (List DC)} {v : List Value} {F : List Nat}, RdV ty w ts l v F → ∀ (j : Nat),
    ∃ F', RdV ty w ts (l.take j) (v.take (j * ts.length)) F' ∧ ∀ b ∈ F', b ∈ F
  | _, _, _, .nil _, j => ⟨[], by simp; exact .nil _, fun _ h => by cases h⟩
  | _, _, _, .cons _ x0 l v vs F G0 h1 h2, 0 => ⟨[], by simp; exact .nil _, fun _ h => by cases h⟩
  | _, _, _, .cons _ x0 l v vs F G0 h1 h2, j + 1 => by
    obtain ⟨F', a, b⟩ := RdV.take h2 j
    have hl := (RdL.length h1).1
    refine ⟨F ++ F', ?_, fun k hk => ?_⟩
    · have e1 : (v ++ vs).take ((j + 1) * ts.length) = v ++ vs.take (j * ts.length) := by
        rw [List.take_append, hl, List.take_of_length_le (by rw [hl, Nat.succ_mul]; omega)]
        congr 2
        rw [Nat.succ_mul]; omega
      rw [e1]
      exact .cons _ _ _ _ _ _ _ h1 a
    · rcases List.mem_append.1 hk with hk | hk
      · simp [hk]
      · simp [b k hk]

theorem RdV.drop {w : World} {ts : List CT} : ∀ {l : List (List DC)} {v : List Value} {F : List Nat}, RdV ty w ts l v F → ∀ (j : Nat),
    ∃ F', RdV ty w ts (l.drop j) (v.drop (j * ts.length)) F' ∧ ∀ b ∈ F', b ∈ F
  | _, _, _, .nil _, j => ⟨[], by simp; exact .nil _, fun _ h => by cases h⟩
  | _, _, _, .cons _ x0 l v vs F G0 h1 h2, 0 => ⟨F ++ G0, by simp; exact .cons _ _ _ _ _ _ _ h1 h2, fun _ h => h⟩
  | _, _, _, .cons _ x0 l v vs F G0 h1 h2, j + 1 => by
    obtain ⟨F', a, b⟩ := RdV.drop h2 j
    have hl := (RdL.length h1).1
    refine ⟨F', ?_, fun k hk => by simp [b k hk]⟩
    have e2 : (v ++ vs).drop ((j + 1) * ts.length) = vs.drop (j * ts.length) := by
      rw [List.drop_append, hl, List.drop_of_length_le (by rw [hl, Nat.succ_mul]; omega), List.nil_append]
      congr 1
      rw [Nat.succ_mul]; omega
    rw [List.drop_succ_cons, e2]
    exact a
end

/-! ### The state -/

/-- The proof's own book: the blocks that nobody writes any more; each variable's block; each row's value. -/
structure Gh where
  I : Nat → Prop
  blk : Nat → Nat
  val : Nat → Value

/-- The place is or was in use. -/
def nf (H : List HS) (id : Nat) : Prop :=
  match getH H id with
  | .free => False
  | _ => True
def isVar (H : List HS) (id : Nat) : Prop := ∃ t cs, getH H id = .live (.var t cs)
def isRow (H : List HS) (id : Nat) : Prop := ∃ e l, getH H id = .live (.row e l) ∨ getH H id = .live (.fz e l)

section
variable (ty : Nat → Option TI) (g : Gh) (H : List HS) (w : World)

def SR : S → Value → Prop
  | .undef, _ => True
  | .nil, v => v = .slice none 0 0
  | .bool b, v => v = .bool b
  | .int k n, v => v = .int k n
  | .str l, v => v = .string ⟨l.toArray⟩
  | .sl e l, v => ∃ F, RdC ty w (.sl e) (.sl l) v F ∧ ∀ b ∈ F, g.I b
  | .own id, v => nf H id ∧ v.oneCell' = true ∧ (isRow H id → v = g.val id)
  | .ptr id off, v => nf H id ∧ v.oneCell' = true ∧ (isVar H id → v = .pointer (some ⟨g.blk id, off, none⟩))
  | .fn f caps, v => ∃ vs : Array Value, v = .func (.func f) #[] vs ∧ vs.size = caps.length ∧ ∀ (i id : Nat), caps[i]? = some id → nf H id ∧ (isVar H id → vs[i]? = some (.pointer (some ⟨g.blk id, 0, none⟩)))

/-- Side by side. -/
def SRL : List S → List Value → Prop
  | [], [] => True
  | s :: ss, v :: vs => SR ty g H w s v ∧ SRL ss vs
  | _, _ => False

def oneB : Value → Prop := fun v => v.oneCell' = true

def CR : C → Value → Prop
  | .one s, v => SR ty g H w s v
  | .agg l, v => ∃ vs : List Value, v = .agg vs.toArray ∧ SRL ty g H w l vs
  | .tup l, v => ∃ vs : List Value, v = .tuple vs.toArray ∧ vs.length = l.length ∧ ∀ (i : Nat) (a : Bool) (ss : List S) (u : Value), l[i]? = some (a, ss) → vs[i]? = some u →
      (a = true → ∃ us : List Value, u = .agg us.toArray ∧ SRL ty g H w ss us) ∧ (a = false → SR ty g H w (ss.headD .undef) u)
  | .elS e x off, v => ∃ (ti : TI) (b o : Nat) (vs : List Value) (F : List Nat), ty e = some ti ∧ v = .pointer (some ⟨b, o + off, none⟩) ∧ (∀ (j : Nat) (u : Value), vs[j]? = some u → w.cell? ⟨b, o + j, none⟩ = some u) ∧
      RdL ty w ti.cts x vs F ∧ (∀ c ∈ F, g.I c) ∧ g.I b
  | .elO e id ix off, v => nf H id ∧ (isRow H id → ∃ (ti : TI) (b len cap : Nat), ty e = some ti ∧ g.val id = .slice (some ⟨b, 0, none⟩) len cap ∧ ix < len ∧ v = .pointer (some ⟨b, ix * ti.cts.length + off, none⟩))

/-- An object in memory. -/
def OR (id : Nat) : Obj' → Prop
  | .var t cs => ∃ vs : List Value, w.heap[g.blk id]? = some (.cells vs.toArray t (0, 0)) ∧ SRL ty g H w cs vs ∧ ¬ g.I (g.blk id) ∧ ∀ u ∈ vs, u.oneCell' = true
  | .row e l => ∃ (ti : TI) (vs : List Value) (F : List Nat), ty e = some ti ∧ 0 < ti.cts.length ∧ w.ownsRow 0 e ti.cts.length (g.val id) l.length vs ∧ RdV ty w ti.cts l vs F ∧ (∀ b ∈ F, g.I b) ∧
      ∀ b, (g.val id).ownBlock = some b → ¬ g.I b
  | .fz e l => ∃ F, RdC ty w (.sl e) (.sl l) (g.val id) F ∧ ∀ b ∈ F, g.I b

/-- The block that an object is written in. -/
def oblk (id : Nat) : Obj' → Option Nat
  | .var _ _ => some (g.blk id)
  | .row _ _ => (g.val id).ownBlock
  | .fz _ _ => none
end

/-- What a call began with: its world; what was read alone then; the blocks of the variables and of the rows that it was handed; the variables' blocks in order. -/
structure An where
  w0 : World
  I0 : Nat → Prop
  Pv : Nat → Prop
  Pm : Nat → Prop
  m : Nat
  pb : Nat → Nat

/-- What a call leaves as it was. -/
structure Keep (A : An) (w : World) : Prop where
  os : w.os = A.w0.os
  tape : w.tape = A.w0.tape
  output : w.output = A.w0.output
  size : A.w0.heap.size ≤ w.heap.size
  block : ∀ b, b < A.w0.heap.size → ¬ A.Pv b → ¬ A.Pm b → w.heap[b]? = A.w0.heap[b]?

/-- A variable's block is new, or was handed over as one; a row's likewise. -/
def owOk (A : An) (b : Nat) : Obj' → Prop
  | .var _ _ => A.w0.heap.size ≤ b ∨ A.Pv b
  | _ => A.w0.heap.size ≤ b ∨ A.Pm b

/-- The state stands to the machine's activation and world. -/
structure Rel (ty : Nat → Option TI) (A : An) (g : Gh) (st : St) (a : Act) (w : World) : Prop where
  len : st.tm.length = a.tmps.size
  tm : ∀ (i : Nat) (c : C) (v : Value), st.tm[i]? = some c → a.tmps[i]? = some v → CR ty g st.H w c v
  ob : ∀ (id : Nat) (o : Obj'), getH st.H id = .live o → OR ty g st.H w id o
  sep : ∀ (i j : Nat) (o p : Obj') (b : Nat), i ≠ j → getH st.H i = .live o → getH st.H j = .live p → oblk g i o = some b → oblk g j p ≠ some b
  lt : ∀ b, g.I b → b < w.heap.size
  inI : ∀ b, g.I b → A.I0 b ∨ A.w0.heap.size ≤ b ∨ A.Pm b
  ow : ∀ (id : Nat) (o : Obj') (b : Nat), getH st.H id = .live o → oblk g id o = some b → owOk A b o
  nfm : ∀ j, j < A.m → nf st.H j
  pb : ∀ j, j < A.m → isVar st.H j → g.blk j = A.pb j
  keep : Keep A w
  df : a.defers = []

end Go.Proofs.YtljggmbgbnmapaaGreatV
