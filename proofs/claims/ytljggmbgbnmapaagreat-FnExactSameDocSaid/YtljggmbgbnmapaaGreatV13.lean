/- Normal forms: the state that is made anew from the data stands to the same machine. -/
import Derived.Test.YtljggmbgbnmapaaGreatV12
namespace Go.Proofs.YtljggmbgbnmapaaGreatV
open Go
set_option linter.unusedVariables false

section
variable {P : Program} {ty : Nat → Option TI} {A : An} {tm : List C} {a : Act} {w : World}

/-- A row that is nobody's yet. -/
structure Loose (ty : Nat → Option TI) (A : An) (g : Gh) (H : List HS) (w : World) (e : Nat) (l : List (List DC)) (v : Value) : Prop where
  row : ∃ (ti : TI) (vs : List Value) (F : List Nat), ty e = some ti ∧ 0 < ti.cts.length ∧ w.ownsRow 0 e ti.cts.length v l.length vs ∧ RdV ty w ti.cts l vs F ∧ ∀ b ∈ F, g.I b
  own : ∀ b, v.ownBlock = some b → ¬ g.I b ∧ (A.w0.heap.size ≤ b ∨ A.Pm b) ∧ ∀ i p, getH H i = .live p → oblk g i p ≠ some b

/-- What a kind's data say of the value. -/
def NF (ty : Nat → Option TI) (A : An) (g : Gh) (H0 H : List HS) (w : World) (k : K1) (dd : List DC) (v : Value) : Prop :=
  match k with
  | .u => dd = []
  | .b => ∃ x, dd = [.b x] ∧ v = .bool x
  | .i k => ∃ n, dd = [.i n] ∧ v = .int k n
  | .s => ∃ l, dd = [.s l] ∧ v = .string ⟨l.toArray⟩
  | .sl e => ∃ l F, dd = [.sl l] ∧ RdC ty w (.sl e) (.sl l) v F ∧ ∀ b ∈ F, g.I b
  | .own e _ => ∃ l, dd = [.sl l] ∧ Loose ty A g H w e l v
  | .ptr id off => dd = [] ∧ v.oneCell' = true ∧ (isVar H0 id → v = .pointer (some ⟨g.blk id, off, none⟩))
  | .fn f caps => dd = [] ∧ ∃ vs : Array Value, v = .func (.func f) #[] vs ∧ vs.size = caps.length ∧ ∀ (i id : Nat), caps[i]? = some id → (isVar H0 id → vs[i]? = some (.pointer (some ⟨g.blk id, 0, none⟩)))
  | .nil => dd = [] ∧ v = .slice none 0 0

def FL (ty : Nat → Option TI) (A : An) (g : Gh) (H0 H : List HS) (w : World) (v : List DC) : Nat → List K1 → List Value → Prop
  | _, [], [] => True
  | n, k :: ks, u :: us => (∃ dd, dd.length = k.cnt ∧ (∀ i, i < k.cnt → v.getD (n + i) d0 = dd.getD i d0) ∧ NF ty A g H0 H w k dd u) ∧ FL ty A g H0 H w v (n + k.cnt) ks us
  | _, _, _ => False

/-- The blocks of the rows among the values are apart. -/
def Apart : List K1 → List Value → Prop
  | .own _ _ :: ks, u :: us => (∀ b, u.ownBlock = some b → ∀ (i : Nat) (e id : Nat) (x : Value), ks[i]? = some (.own e id) → us[i]? = some x → x.ownBlock ≠ some b) ∧ Apart ks us
  | _ :: ks, _ :: us => Apart ks us
  | _, _ => True

theorem Loose.mono {g g' : Gh} {H H' : List HS} {e : Nat} {l : List (List DC)} {v : Value} (h : Loose ty A g H w e l v) (hI : ∀ b, g.I b → g'.I b)
    (hn : ∀ b, g'.I b → g.I b ∨ ∃ i p, getH H i = .live p ∧ oblk g i p = some b) (hH : ∀ i p, getH H' i = .live p → (∃ q, getH H i = .live q ∧ ∀ b, oblk g' i p = some b → oblk g i q = some b)) : Loose ty A g' H' w e l v := by
  obtain ⟨ti, vs, F, h1, h2, h3, h4, h5⟩ := h.row
  refine ⟨⟨ti, vs, F, h1, h2, h3, h4, fun b hb => hI b (h5 b hb)⟩, fun b hb => ?_⟩
  obtain ⟨k1, k2, k3⟩ := h.own b hb
  refine ⟨fun hI' => ?_, k2, fun i p hi hp => ?_⟩
  · rcases hn b hI' with h' | ⟨i, p, hi, hp⟩
    · exact k1 h'
    · exact k3 i p hi hp
  · obtain ⟨q, hq, hb'⟩ := hH i p hi
    exact k3 i q hq (hb' b hp)

theorem oblk_same {g g' : Gh} (hb : g'.blk = g.blk) (hv : g'.val = g.val) (i : Nat) (p : Obj') : oblk g' i p = oblk g i p := by
  cases p <;> simp [oblk, hb, hv]

/-- How the source changes while the data are read off. -/
structure Src (g g' : Gh) (H H' : List HS) : Prop where
  I : ∀ b, g.I b → g'.I b
  new : ∀ b, g'.I b → g.I b ∨ ∃ i e l, getH H i = .live (.row e l) ∧ oblk g i (.row e l) = some b
  blk : g'.blk = g.blk
  val : g'.val = g.val
  old : ∀ i p, getH H' i = .live p → getH H i = .live p ∨ ∃ e l q, p = .fz e l ∧ getH H i = .live q
  var : ∀ id, isVar H id → isVar H' id

theorem Src.refl (g : Gh) (H : List HS) : Src g g H H := ⟨fun _ h => h, fun _ h => .inl h, rfl, rfl, fun i p h => .inl h, fun _ h => h⟩
theorem Src.trans {g g' g'' : Gh} {H H' H'' : List HS} (h : Src g g' H H') (k : Src g' g'' H' H'') : Src g g'' H H'' := by
  refine ⟨fun b hb => k.I b (h.I b hb), fun b hb => ?_, k.blk.trans h.blk, k.val.trans h.val, fun i p hi => ?_, fun id hv => k.var id (h.var id hv)⟩
  · rcases k.new b hb with hb | ⟨i, e, l, hi, hp⟩
    · exact h.new b hb
    · rcases h.old i _ hi with hq | ⟨e', l', q, hq, _⟩
      · exact .inr ⟨i, e, l, hq, by rw [← oblk_same h.blk h.val]; exact hp⟩
      · simp at hq
  · rcases k.old i p hi with hq | ⟨e, l, q, rfl, hq⟩
    · exact h.old i p hq
    · rcases h.old i q hq with hr | ⟨_, _, r, _, hr⟩
      · exact .inr ⟨e, l, q, rfl, hr⟩
      · exact .inr ⟨e, l, r, rfl, hr⟩

theorem Src.live {g g' : Gh} {H H' : List HS} (s : Src g g' H H') (i : Nat) (p : Obj') (hi : getH H' i = .live p) : ∃ q, getH H i = .live q ∧ ∀ b, oblk g' i p = some b → oblk g i q = some b := by
  rcases s.old i p hi with hq | ⟨e, l, q, rfl, hq⟩
  · exact ⟨p, hq, fun b hb => by rw [← oblk_same s.blk s.val]; exact hb⟩
  · exact ⟨q, hq, fun b hb => by simp [oblk] at hb⟩

theorem Src.newI {g g' : Gh} {H H' : List HS} (s : Src g g' H H') (b : Nat) (hb : g'.I b) : g.I b ∨ ∃ i p, getH H i = .live p ∧ oblk g i p = some b := by
  rcases s.new b hb with h | ⟨i, e, l, h1, h2⟩
  · exact .inl h
  · exact .inr ⟨i, _, h1, h2⟩

theorem NF.mono {g g' : Gh} {H0 H H' : List HS} {k : K1} {dd : List DC} {v : Value} (s : Src g g' H H') (h : NF ty A g H0 H w k dd v) : NF ty A g' H0 H' w k dd v := by
  cases k with
  | sl e => obtain ⟨l, F, h1, h2, h3⟩ := h; exact ⟨l, F, h1, h2, fun b hb => s.I b (h3 b hb)⟩
  | own e id => obtain ⟨l, h1, h2⟩ := h; exact ⟨l, h1, h2.mono s.I s.newI s.live⟩
  | ptr id off => obtain ⟨h1, h2, h3⟩ := h; exact ⟨h1, h2, fun hv => by rw [s.blk]; exact h3 hv⟩
  | fn f caps => obtain ⟨h1, vs, h2, h3, h4⟩ := h; exact ⟨h1, vs, h2, h3, fun i id hi hv => by rw [s.blk]; exact h4 i id hi hv⟩
  | _ => exact h

theorem live_set {H : List HS} {id : Nat} {x : HS} (hlt : id < H.length) {i : Nat} {p : Obj'} (hi : getH (setH H id x) i = .live p) : (i = id ∧ x = .live p) ∨ (i ≠ id ∧ getH H i = .live p) := by
  by_cases e : id = i
  · subst e; rw [getH_set_same _ hlt] at hi; exact .inl ⟨rfl, hi⟩
  · rw [getH_set_ne _ e] at hi; exact .inr ⟨fun h => e h.symm, hi⟩

theorem toDC_src {g : Gh} {H : List HS} (h : Rel ty A g ⟨tm, H⟩ a w) {e : Nat} {s : S} {v : Value} {d : DC} {H' : List HS} (hs : SR ty g H w s v) (e1 : toDC H (.sl e) s = some (d, H')) :
    ∃ g' F l, d = .sl l ∧ Rel ty A g' ⟨tm, H'⟩ a w ∧ Ch g g' H H' w w ∧ Src g g' H H' ∧ RdC ty w (.sl e) (.sl l) v F ∧ ∀ b ∈ F, g'.I b := by
  cases s with
  | sl e2 l =>
    simp only [toDC] at e1
    split at e1
    · rename_i hk
      subst hk
      simp only [Option.some.injEq, Prod.mk.injEq] at e1
      obtain ⟨rfl, rfl⟩ := e1
      obtain ⟨F, h1, h2⟩ := hs
      exact ⟨g, F, l, rfl, h, .refl _ _ _, .refl _ _, h1, h2⟩
    · simp at e1
  | nil =>
    simp only [toDC, Option.some.injEq, Prod.mk.injEq] at e1
    obtain ⟨rfl, rfl⟩ := e1
    exact ⟨g, [], [], rfl, h, .refl _ _ _, .refl _ _, by rw [show v = _ from hs]; exact .nil _ _ _, fun _ h => by (cases h)⟩
  | own id =>
    obtain ⟨hn, _, hv⟩ := hs
    simp only [toDC] at e1
    split at e1
    · rename_i e2 l hr
      split at e1
      · rename_i hk
        subst hk
        simp only [Option.some.injEq, Prod.mk.injEq] at e1
        obtain ⟨rfl, rfl⟩ := e1
        obtain ⟨g', h1, h2, ⟨F, h3, h4⟩, h5, h6, h7⟩ := h.freeze2 hr
        refine ⟨g', F, l, rfl, h1, h2, ⟨h2.I, fun b hb => ?_, h5, h6, fun i p hi => ?_, fun i hvi => ?_⟩, by rw [hv ⟨_, _, .inl hr⟩, ← h6]; exact h3, h4⟩
        · rcases h7 b hb with hb | hb
          · exact .inl hb
          · exact .inr ⟨id, e2, l, hr, hb⟩
        · rcases live_set (getH_lt_live hr) hi with ⟨rfl, hx⟩ | ⟨_, hi⟩
          · exact .inr ⟨e2, l, _, by simpa using hx.symm, hr⟩
          · exact .inl hi
        · obtain ⟨t, cs, hc⟩ := hvi
          have : id ≠ i := by rintro rfl; rw [hr] at hc; simp at hc
          exact ⟨t, cs, by rw [getH_set_ne _ this]; exact hc⟩
      · simp at e1
    · rename_i e2 l hr
      split at e1
      · rename_i hk
        subst hk
        simp only [Option.some.injEq, Prod.mk.injEq] at e1
        obtain ⟨rfl, rfl⟩ := e1
        obtain ⟨F, h3, h4⟩ := h.read_fz hr
        exact ⟨g, F, l, rfl, h, .refl _ _ _, .refl _ _, by rw [hv ⟨_, _, .inr hr⟩]; exact h3, h4⟩
      · simp at e1
    · simp at e1
  | _ => simp [toDC] at e1

/-- One kind. -/
theorem normK1_ok {g : Gh} {H H0 : List HS} (h : Rel ty A g ⟨tm, H⟩ a w) (h0 : ∀ id, isVar H0 id → isVar H id) {k : K1} {s : S} {v : Value} {d : List DC} {H' : List HS} (hs : SR ty g H w s v) (e1 : normK1 ty H k s = some (d, H')) :
    ∃ g', Rel ty A g' ⟨tm, H'⟩ a w ∧ Ch g g' H H' w w ∧ Src g g' H H' ∧ NF ty A g' H0 H' w k d v ∧ d.length = k.cnt ∧
      (∀ e id, k = .own e id → ∀ b, v.ownBlock = some b → ∃ i p, getH H i = .live p ∧ oblk g i p = some b) := by
  have triv : ∀ {d'}, NF ty A g H0 H w k d' v → d' = d → H = H' → d.length = k.cnt → (∀ e id, k ≠ .own e id) → ∃ g', Rel ty A g' ⟨tm, H'⟩ a w ∧ Ch g g' H H' w w ∧ Src g g' H H' ∧ NF ty A g' H0 H' w k d v ∧ d.length = k.cnt ∧
      (∀ e id, k = .own e id → ∀ b, v.ownBlock = some b → ∃ i p, getH H i = .live p ∧ oblk g i p = some b) := by
    intro d' h1 h2 h3 h4 h5
    subst h2
    subst h3
    exact ⟨g, h, .refl _ _ _, .refl _ _, h1, h4, fun e id hk => absurd hk (h5 e id)⟩
  unfold normK1 at e1
  split at e1
  · simp only [Option.some.injEq, Prod.mk.injEq] at e1
    obtain ⟨rfl, rfl⟩ := e1
    exact triv (show NF ty A g H0 H w .u [] v from rfl) rfl rfl rfl (by simp)
  · simp only [Option.some.injEq, Prod.mk.injEq] at e1
    obtain ⟨rfl, rfl⟩ := e1
    exact triv (show NF ty A g H0 H w .b _ v from ⟨_, rfl, hs⟩) rfl rfl rfl (by simp)
  · split at e1
    · rename_i hk
      subst hk
      simp only [Option.some.injEq, Prod.mk.injEq] at e1
      obtain ⟨rfl, rfl⟩ := e1
      exact triv (show NF ty A g H0 H w (.i _) _ v from ⟨_, rfl, hs⟩) rfl rfl rfl (by simp)
    · simp at e1
  · simp only [Option.some.injEq, Prod.mk.injEq] at e1
    obtain ⟨rfl, rfl⟩ := e1
    exact triv (show NF ty A g H0 H w .s _ v from ⟨_, rfl, hs⟩) rfl rfl rfl (by simp)
  · split at e1
    · rename_i d' H1 hd
      simp only [Option.some.injEq, Prod.mk.injEq] at e1
      obtain ⟨rfl, rfl⟩ := e1
      obtain ⟨g', F, l, rfl, h1, h2, h3, h4, h5⟩ := toDC_src h hs hd
      exact ⟨g', h1, h2, h3, ⟨l, F, rfl, h4, h5⟩, rfl, by simp⟩
    · simp at e1
  · rename_i e id0 id
    split at e1
    · rename_i e' l hr
      split at e1
      · rename_i hk
        subst hk
        simp only [Option.some.injEq, Prod.mk.injEq] at e1
        obtain ⟨rfl, rfl⟩ := e1
        obtain ⟨h1, h2⟩ := h.kill hr
        obtain ⟨ti, vs, F, k1, k0, k2, k3, k4, k5⟩ := h.ob id _ hr
        have hv := hs.2.2 ⟨_, _, .inl hr⟩
        have hlt := getH_lt_live hr
        refine ⟨g, h1, h2, ⟨fun _ h => h, fun _ h => .inl h, rfl, rfl, fun i p hi => ?_, fun i hvi => ?_⟩, ⟨l, rfl, ⟨⟨ti, vs, F, k1, k0, by rw [hv]; exact k2, k3, k4⟩, fun b hb => ?_⟩⟩, rfl, fun _ _ _ b hb => ⟨id, _, hr, by rw [hv] at hb; exact hb⟩⟩
        · rcases live_set hlt hi with ⟨_, hx⟩ | ⟨_, hi⟩
          · simp at hx
          · exact .inl hi
        · obtain ⟨t, cs, hc⟩ := hvi
          have : id ≠ i := by rintro rfl; rw [hr] at hc; simp at hc
          exact ⟨t, cs, by rw [getH_set_ne _ this]; exact hc⟩
        · rw [hv] at hb
          refine ⟨k5 b hb, h.ow id _ b hr hb, fun i p hi hp => ?_⟩
          rcases live_set hlt hi with ⟨_, hx⟩ | ⟨hne, hi⟩
          · simp at hx
          · exact h.sep i id p _ b hne hi hr hp hb
      · simp at e1
    · simp at e1
  · rename_i e id
    split at e1
    · rename_i ti hti
      split at e1
      · rename_i h0'
        simp only [Option.some.injEq, Prod.mk.injEq] at e1
        obtain ⟨rfl, rfl⟩ := e1
        have hv : v = .slice none 0 0 := hs
        subst hv
        refine ⟨g, h, .refl _ _ _, .refl _ _, ⟨[], rfl, ⟨⟨ti, [], [], hti, h0', World.ownsRow_nil _ _ _ _, .nil _, fun _ h => by cases h⟩, fun b hb => by simp [Value.ownBlock] at hb⟩⟩, rfl, fun _ _ _ b hb => by simp [Value.ownBlock] at hb⟩
      · simp at e1
    · simp at e1
  · split at e1
    · rename_i hk
      obtain ⟨rfl, rfl⟩ := hk
      simp only [Option.some.injEq, Prod.mk.injEq] at e1
      obtain ⟨rfl, rfl⟩ := e1
      exact triv (show NF ty A g H0 H w (.ptr _ _) [] v from ⟨rfl, hs.2.1, fun hv => hs.2.2 (h0 _ hv)⟩) rfl rfl rfl (by simp)
    · simp at e1
  · split at e1
    · rename_i hk
      obtain ⟨rfl, rfl⟩ := hk
      simp only [Option.some.injEq, Prod.mk.injEq] at e1
      obtain ⟨rfl, rfl⟩ := e1
      obtain ⟨vs, h1, h2, h3⟩ := hs
      exact triv (show NF ty A g H0 H w (.fn _ _) [] v from ⟨rfl, vs, h1, h2, fun i id hi hv => (h3 i id hi).2 (h0 _ hv)⟩) rfl rfl rfl (by simp)
    · simp at e1
  · simp only [Option.some.injEq, Prod.mk.injEq] at e1
    obtain ⟨rfl, rfl⟩ := e1
    exact triv (show NF ty A g H0 H w .nil [] v from ⟨rfl, hs⟩) rfl rfl rfl (by simp)
  · simp at e1

theorem normL_ok : ∀ {ks : List K1} {ss : List S} {vs : List Value} {g : Gh} {H H0 H1 : List HS} {d : List DC} (pre post : List DC), Rel ty A g ⟨tm, H⟩ a w → (∀ id, isVar H0 id → isVar H id) → SRL ty g H w ss vs → normL ty H ks ss = some (d, H1) →
    ∃ g1, Rel ty A g1 ⟨tm, H1⟩ a w ∧ Src g g1 H H1 ∧ FL ty A g1 H0 H1 w (pre ++ (d ++ post)) pre.length ks vs ∧ Apart ks vs ∧ d.length = cntL ks ∧
      ∀ (i : Nat) (e id : Nat) (x : Value), ks[i]? = some (.own e id) → vs[i]? = some x → ∀ b, x.ownBlock = some b → ∃ j p, getH H j = .live p ∧ oblk g j p = some b
  | [], [], [], g, H, H0, H1, d, pre, post, h, h0, hs, e => by
    simp only [normL, Option.some.injEq, Prod.mk.injEq] at e
    obtain ⟨rfl, rfl⟩ := e
    exact ⟨g, h, .refl _ _, trivial, trivial, rfl, fun i e id x hi => by simp at hi⟩
  | k :: ks, s :: ss, v :: vs, g, H, H0, H2, d, pre, post, h, h0, hs, e => by
    simp only [normL] at e
    split at e
    · rename_i d1 H1 e1
      split at e
      · rename_i d2 H2' e2
        simp only [Option.some.injEq, Prod.mk.injEq] at e
        obtain ⟨rfl, rfl⟩ := e
        obtain ⟨g1, r1, c1, s1, n1, l1, o1⟩ := normK1_ok h h0 hs.1 e1
        obtain ⟨g2, r2, s2, n2, a2, l2, o2⟩ := normL_ok (pre ++ d1) post r1 (fun id hv => s1.var id (h0 id hv)) (hs.2.mono c1) e2
        refine ⟨g2, r2, s1.trans s2, ⟨⟨d1, l1, fun i hi => ?_, n1.mono s2⟩, ?_⟩, ?_, by simp [cntL, l1, l2], fun i e id x hi hx b hb => ?_⟩
        · simp only [List.getD_eq_getElem?_getD]
          rw [List.getElem?_append_right (by omega), Nat.add_sub_cancel_left, List.append_assoc, List.getElem?_append_left (by omega)]
        · have : pre ++ (d1 ++ d2 ++ post) = pre ++ d1 ++ (d2 ++ post) := by simp
          rw [this, ← l1, ← List.length_append]
          exact n2
        · cases k with
          | own e id =>
            refine ⟨fun b hb i e' id' x hi hx hxb => ?_, a2⟩
            obtain ⟨j, p, hj, hp⟩ := o2 i e' id' x hi hx b hxb
            obtain ⟨l, _, hl⟩ := n1
            exact (hl.own b hb).2.2 j p hj hp
          | _ => exact a2
        · cases i with
          | zero =>
            simp only [List.getElem?_cons_zero, Option.some.injEq] at hi hx
            subst hx
            exact o1 e id hi b hb
          | succ i =>
            simp only [List.getElem?_cons_succ] at hi hx
            obtain ⟨j, p, hj, hp⟩ := o2 i e id x hi hx b hb
            obtain ⟨q, hq, hq'⟩ := s1.live j p hj
            exact ⟨j, q, hq, hq' b hp⟩
      · simp at e
    · simp at e
  | [], _ :: _, _, _, _, _, _, _, _, _, _, _, _, e => by simp [normL] at e
  | _ :: _, [], _, _, _, _, _, _, _, _, _, _, _, e => by simp [normL] at e
  | [], [], _ :: _, _, _, _, _, _, _, _, _, _, hs, _ => hs.elim
  | _ :: _, _ :: _, [], _, _, _, _, _, _, _, _, _, hs, _ => hs.elim

theorem mkL_append (v : List DC) : ∀ (n : Nat) (a b : List K1), mkL v n (a ++ b) = mkL v n a ++ mkL v (n + cntL a) b
  | n, [], b => rfl
  | n, k :: a, b => by simp [mkL, cntL, mkL_append v (n + k.cnt) a b, Nat.add_assoc]

theorem mkL_length (v : List DC) : ∀ (n : Nat) (a : List K1), (mkL v n a).length = a.length
  | n, [] => rfl
  | n, k :: a => by simp [mkL, mkL_length v (n + k.cnt) a]

theorem cntL_append : ∀ (a b : List K1), cntL (a ++ b) = cntL a + cntL b
  | [], b => by simp [cntL]
  | k :: a, b => by simp [cntL, cntL_append a b, Nat.add_assoc]

theorem SRL.split {g : Gh} {H : List HS} : ∀ {a b : List S} {xs : List Value}, SRL ty g H w (a ++ b) xs → ∃ ys zs, xs = ys ++ zs ∧ SRL ty g H w a ys ∧ SRL ty g H w b zs
  | [], b, xs, h => ⟨[], xs, rfl, trivial, h⟩
  | s :: a, b, x :: xs, h => by
    obtain ⟨ys, zs, h1, h2, h3⟩ := SRL.split (a := a) h.2
    exact ⟨x :: ys, zs, by simp [h1], ⟨h.1, h2⟩, h3⟩
  | s :: a, b, [], h => h.elim

/-- Side by side, the second list being cut as the first. -/
theorem SRL.unappend {g : Gh} {H : List HS} {a b : List S} {xs ys : List Value} (h : SRL ty g H w (a ++ b) (xs ++ ys)) (hl : xs.length = a.length) : SRL ty g H w a xs ∧ SRL ty g H w b ys := by
  obtain ⟨us, vs, h1, h2, h3⟩ := SRL.split h
  have := h2.length
  obtain ⟨rfl, rfl⟩ := List.append_inj h1 (by omega)
  exact ⟨h2, h3⟩

/-- The source's cells and their values. -/
theorem srcT_ok : ∀ {ks : List KC} {cs : List C} {p : List S} {us : List Value} {g : Gh} {H : List HS}, srcT ks cs = some p → us.length = cs.length → (∀ (i : Nat) (c : C) (v : Value), cs[i]? = some c → us[i]? = some v → CR ty g H w c v) →
    ∃ vs : List Value, SRL ty g H w p vs ∧ p.length = (ks.flatMap KC.kinds).length ∧
      ∀ (g' : Gh) (H' : List HS) (v : List DC) (n : Nat), SRL ty g' H' w (mkL v n (ks.flatMap KC.kinds)) vs →
        (mkT v n ks).length = us.length ∧ ∀ (i : Nat) (c : C) (u : Value), (mkT v n ks)[i]? = some c → us[i]? = some u → CR ty g' H' w c u
  | [], [], p, us, g, H, e, hl, hc => by
    simp only [srcT, Option.some.injEq] at e
    subst e
    have : us = [] := List.eq_nil_of_length_eq_zero hl
    subst this
    exact ⟨[], trivial, rfl, fun g' H' v n h => ⟨rfl, fun i c u hi => by simp [mkT] at hi⟩⟩
  | k :: ks, c :: cs, p, us, g, H, e, hl, hc => by
    match us, hl with
    | u :: us, hl =>
      have hcs : ∀ (i : Nat) (c : C) (v : Value), cs[i]? = some c → us[i]? = some v → CR ty g H w c v := fun i c v h1 h2 => hc (i + 1) c v h1 h2
      have hl' : us.length = cs.length := by simpa using hl
      have hc0 := hc 0 c u rfl rfl
      have one : ∀ (k1 : K1) (s : S) (r : List S), k = .one k1 → p = s :: r → srcT ks cs = some r → SR ty g H w s u → ∃ vs : List Value, SRL ty g H w p vs ∧ p.length = ((k :: ks).flatMap KC.kinds).length ∧
          ∀ (g' : Gh) (H' : List HS) (v : List DC) (n : Nat), SRL ty g' H' w (mkL v n ((k :: ks).flatMap KC.kinds)) vs →
            (mkT v n (k :: ks)).length = (u :: us).length ∧ ∀ (i : Nat) (c : C) (u' : Value), (mkT v n (k :: ks))[i]? = some c → (u :: us)[i]? = some u' → CR ty g' H' w c u' := by
        intro k1 s r hk hp hr hs
        subst hk
        subst hp
        obtain ⟨vs, h1, h2, h3⟩ := srcT_ok hr hl' hcs
        refine ⟨u :: vs, ⟨hs, h1⟩, by simp [KC.kinds, h2], fun g' H' v n hh => ?_⟩
        simp only [List.flatMap_cons, KC.kinds, List.singleton_append, mkL] at hh
        obtain ⟨q1, q2⟩ := h3 g' H' v (n + k1.cnt) hh.2
        refine ⟨by simp [mkT, q1], fun i c u' hi hu => ?_⟩
        cases i with
        | zero =>
          simp only [mkT, List.getElem?_cons_zero, Option.some.injEq] at hi hu
          subst hi
          subst hu
          exact hh.1
        | succ i =>
          simp only [mkT, List.getElem?_cons_succ] at hi hu
          exact q2 i c u' hi hu
      unfold srcT at e
      split at e
      · rename_i heq _; simp at heq
      · rename_i ks' c' cs' hk hcc
        simp only [List.cons.injEq] at hk hcc
        obtain ⟨rfl, rfl⟩ := hk
        obtain ⟨rfl, rfl⟩ := hcc
        split at e
        · rename_i r hr
          simp only [Option.some.injEq] at e
          exact one .u .undef r rfl e.symm hr trivial
        · simp at e
      · rename_i k1 ks' s cs' _ hk hcc
        simp only [List.cons.injEq] at hk hcc
        obtain ⟨rfl, rfl⟩ := hk
        obtain ⟨rfl, rfl⟩ := hcc
        split at e
        · rename_i r hr
          simp only [Option.some.injEq] at e
          exact one k1 s r rfl e.symm hr hc0
        · simp at e
      · rename_i l ks' ss cs' hk hcc
        simp only [List.cons.injEq] at hk hcc
        obtain ⟨rfl, rfl⟩ := hk
        obtain ⟨rfl, rfl⟩ := hcc
        split at e
        · rename_i hlen
          split at e
          · rename_i r hr
            simp only [Option.some.injEq] at e
            subst e
            obtain ⟨xs, hx, hs⟩ := hc0
            obtain ⟨vs, h1, h2, h3⟩ := srcT_ok hr hl' hcs
            refine ⟨xs ++ vs, hs.append h1, by simp [KC.kinds, h2, hlen], fun g' H' v n hh => ?_⟩
            simp only [List.flatMap_cons, KC.kinds, mkL_append] at hh
            obtain ⟨hh1, hh2⟩ := hh.unappend (by rw [hs.length, mkL_length, hlen])
            obtain ⟨q1, q2⟩ := h3 g' H' v _ hh2
            refine ⟨by simp [mkT, q1], fun i c u' hi hu => ?_⟩
            cases i with
            | zero =>
              simp only [mkT, List.getElem?_cons_zero, Option.some.injEq] at hi hu
              subst hi
              subst hu
              exact ⟨xs, hx, hh1⟩
            | succ i =>
              simp only [mkT, List.getElem?_cons_succ] at hi hu
              exact q2 i c u' hi hu
          · simp at e
        · simp at e
      · simp at e
  | [], _ :: _, _, _, _, _, e, _, _ => by simp [srcT] at e
  | .one _ :: _, [], _, _, _, _, e, _, _ => by simp [srcT] at e
  | .agg _ :: _, [], _, _, _, _, e, _, _ => by simp [srcT] at e

/-- The variables' cells and their values. -/
theorem srcO_ok {g : Gh} {H : List HS} (h : Rel ty A g ⟨tm, H⟩ a w) : ∀ {ks : List KO} {id : Nat} {q : List S}, srcO H id ks = some q →
    ∃ vs : List Value, SRL ty g H w q vs ∧ q.length = (ks.flatMap KO.kinds).length ∧ (∀ (i t : Nat) (l : List K1), ks[i]? = some (.var t l) → isVar H (id + i)) ∧
      ∀ (g' : Gh) (H' : List HS) (v : List DC) (n : Nat) (ks0 : List K1), SRL ty g' H' w (mkL v n (ks.flatMap KO.kinds)) vs →
        ∀ (i t : Nat) (cs : List S), (mkO v ks0 n id ks)[i]? = some (.live (.var t cs)) → (∀ t' l, ks[i]? ≠ some (.var t' l)) ∨
          ∃ us : List Value, w.heap[g.blk (id + i)]? = some (.cells us.toArray t (0, 0)) ∧ SRL ty g' H' w cs us ∧ ∀ u ∈ us, u.oneCell' = true
  | [], id, q, e => by
    simp only [srcO, Option.some.injEq] at e
    subst e
    exact ⟨[], trivial, rfl, fun i t l hi => by simp at hi, fun g' H' v n ks0 _ i t cs hi => by simp [mkO] at hi⟩
  | .u :: ks, id, q, e => by
    simp only [srcO] at e
    obtain ⟨vs, h1, h2, h4, h3⟩ := srcO_ok h e
    refine ⟨vs, h1, by simpa [KO.kinds] using h2, fun i t l hi => ?_, fun g' H' v n ks0 hh i t cs hi => ?_⟩
    · cases i with
      | zero => simp at hi
      | succ i => rw [show id + (i + 1) = id + 1 + i by omega]; exact h4 i t l (by simpa using hi)
    · cases i with
      | zero => exact .inl fun t' l h => by simp at h
      | succ i =>
        rcases h3 g' H' v n ks0 (by simpa [KO.kinds] using hh) i t cs (by simpa [mkO] using hi) with h | ⟨us, k1, k2⟩
        · exact .inl fun t' l hk => h t' l (by simpa using hk)
        · exact .inr ⟨us, by rw [show id + (i + 1) = id + 1 + i by omega]; exact k1, k2⟩
  | .var t l :: ks, id, q, e => by
    simp only [srcO] at e
    split at e
    · rename_i t' cs hv
      split at e
      · rename_i hc
        obtain ⟨rfl, hc⟩ := hc
        split at e
        · rename_i r hr
          simp only [Option.some.injEq] at e
          subst e
          obtain ⟨vs, h1, h2, h4, h3⟩ := srcO_ok h hr
          obtain ⟨us, k1, k2, k3, k4⟩ := h.ob id _ hv
          refine ⟨us ++ vs, k2.append h1, by simp [KO.kinds, h2, hc], fun i t l' hi => ?_, fun g' H' v n ks0 hh i t cs' hi => ?_⟩
          · cases i with
            | zero => exact ⟨_, _, hv⟩
            | succ i => rw [show id + (i + 1) = id + 1 + i by omega]; exact h4 i t l' (by simpa using hi)
          · simp only [List.flatMap_cons, KO.kinds, mkL_append] at hh
            obtain ⟨hh1, hh2⟩ := hh.unappend (by rw [k2.length, mkL_length, hc])
            cases i with
            | zero =>
              simp only [mkO, List.getElem?_cons_zero, Option.some.injEq, HS.live.injEq, Obj'.var.injEq] at hi
              obtain ⟨rfl, rfl⟩ := hi
              exact .inr ⟨us, k1, hh1, k4⟩
            | succ i =>
              rcases h3 g' H' v _ ks0 hh2 i t cs' (by simpa [mkO] using hi) with h | ⟨us, k1, k2⟩
              · exact .inl fun t' l hk => h t' l (by simpa using hk)
              · exact .inr ⟨us, by rw [show id + (i + 1) = id + 1 + i by omega]; exact k1, k2⟩
        · simp at e
      · simp at e
    · simp at e

/-- The value that stands where a row's kind stands. -/
def valAt (id : Nat) : List K1 → List Value → Value
  | .own _ i :: ks, u :: us => if i = id then u else valAt id ks us
  | _ :: ks, _ :: us => valAt id ks us
  | _, _ => .nilIface

theorem ownAt_ok {g : Gh} {H0 H : List HS} {v : List DC} (id : Nat) : ∀ {n : Nat} {ks : List K1} {us : List Value}, FL ty A g H0 H w v n ks us →
    (ownAt v id n ks = .free ∧ ∀ (i : Nat) (e : Nat), ks[i]? ≠ some (.own e id)) ∨
    ∃ (e : Nat) (l : List (List DC)) (i : Nat), ownAt v id n ks = .live (.row e l) ∧ Loose ty A g H w e l (valAt id ks us) ∧ ks[i]? = some (.own e id) ∧ us[i]? = some (valAt id ks us)
  | _, [], [], _ => .inl ⟨rfl, fun i e h => by simp at h⟩
  | n, k :: ks, u :: us, ⟨⟨dd, hd, hv, hn⟩, hf⟩ => by
    have other : (∀ e, k ≠ .own e id) → ownAt v id n (k :: ks) = ownAt v id (n + k.cnt) ks → valAt id (k :: ks) (u :: us) = valAt id ks us →
        (ownAt v id n (k :: ks) = .free ∧ ∀ (i : Nat) (e : Nat), (k :: ks)[i]? ≠ some (.own e id)) ∨
        ∃ (e : Nat) (l : List (List DC)) (i : Nat), ownAt v id n (k :: ks) = .live (.row e l) ∧ Loose ty A g H w e l (valAt id (k :: ks) (u :: us)) ∧ (k :: ks)[i]? = some (.own e id) ∧ (u :: us)[i]? = some (valAt id (k :: ks) (u :: us)) := by
      intro h1 h2 h3
      rw [h2, h3]
      rcases ownAt_ok id hf with ⟨q1, q2⟩ | ⟨e, l, i, q1, q2, q3, q4⟩
      · refine .inl ⟨q1, fun i e hi => ?_⟩
        cases i with
        | zero => exact h1 e (by simpa using hi)
        | succ i => exact q2 i e (by simpa using hi)
      · exact .inr ⟨e, l, i + 1, q1, q2, by simpa using q3, by simpa using q4⟩
    cases k with
    | own e i =>
      by_cases hi : i = id
      · subst hi
        obtain ⟨l, rfl, hl⟩ := hn
        have := hv 0 (by simp [K1.cnt])
        simp only [Nat.add_zero, List.getD_cons_zero] at this
        exact .inr ⟨e, l, 0, by rw [ownAt, if_pos rfl, this]; rfl, by simpa [valAt] using hl, rfl, by simp [valAt]⟩
      · exact other (fun e' h => by simp at h; exact hi h.2) (by simp [ownAt, hi, K1.cnt]) (by simp [valAt, hi])
    | _ => exact other (fun e' h => by simp at h) rfl rfl
  | _, [], _ :: _, h => h.elim
  | _, _ :: _, [], h => h.elim

theorem nodupB_cons {x : Nat} {l : List Nat} (h : nodupB (x :: l) = true) : x ∉ l ∧ nodupB l = true := by
  simp only [nodupB, Bool.and_eq_true, Bool.not_eq_true', List.contains_eq_mem, decide_eq_false_iff_not] at h
  exact h

theorem mem_ids {ks : List K1} {i e id : Nat} (h : ks[i]? = some (.own e id)) : id ∈ ks.flatMap K1.ids :=
  List.mem_flatMap.2 ⟨_, List.mem_of_getElem? h, by simp [K1.ids]⟩

theorem valAt_nodup {id : Nat} : ∀ {ks : List K1} {us : List Value} {i e : Nat} {u : Value}, nodupB (ks.flatMap K1.ids) = true → ks[i]? = some (.own e id) → us[i]? = some u → valAt id ks us = u
  | [], _, i, e, u, _, h, _ => by simp at h
  | k :: ks, [], i, e, u, _, _, h => by simp at h
  | k :: ks, x :: us, 0, e, u, hn, h1, h2 => by
    simp only [List.getElem?_cons_zero, Option.some.injEq] at h1 h2
    subst h1
    subst h2
    simp [valAt]
  | k :: ks, x :: us, i + 1, e, u, hn, h1, h2 => by
    simp only [List.getElem?_cons_succ] at h1 h2
    cases k with
    | own e' id' =>
      have hn' : nodupB (id' :: ks.flatMap K1.ids) = true := by simpa [K1.ids] using hn
      obtain ⟨k1, k2⟩ := nodupB_cons hn'
      have : id' ≠ id := by
        rintro rfl
        exact k1 (mem_ids h1)
      simp [valAt, this, valAt_nodup k2 h1 h2]
    | _ =>
      simp only [valAt]
      exact valAt_nodup (by simpa [K1.ids] using hn) h1 h2

theorem apart_ne : ∀ {ks : List K1} {us : List Value} {i j e id e' id' : Nat} {u x : Value}, Apart ks us → ks[i]? = some (.own e id) → us[i]? = some u → ks[j]? = some (.own e' id') → us[j]? = some x → i < j → ∀ b, u.ownBlock = some b → x.ownBlock ≠ some b
  | [], _, i, j, _, _, _, _, _, _, _, h, _, _, _, _ => by simp at h
  | k :: ks, [], i, j, _, _, _, _, _, _, _, _, h, _, _, _ => by simp at h
  | k :: ks, y :: us, 0, 0, _, _, _, _, _, _, _, _, _, _, _, h => by omega
  | k :: ks, y :: us, 0, j + 1, e, id, e', id', u, x, ha, h1, h2, h3, h4, _ => by
    simp only [List.getElem?_cons_zero, Option.some.injEq] at h1 h2
    simp only [List.getElem?_cons_succ] at h3 h4
    subst h1
    subst h2
    exact fun b hb => ha.1 b hb j e' id' x h3 h4
  | k :: ks, y :: us, i + 1, 0, _, _, _, _, _, _, _, _, _, _, _, h => by omega
  | k :: ks, y :: us, i + 1, j + 1, e, id, e', id', u, x, ha, h1, h2, h3, h4, hij => by
    simp only [List.getElem?_cons_succ] at h1 h2 h3 h4
    have ha' : Apart ks us := by
      cases k with
      | own _ _ => exact ha.2
      | _ => exact ha
    exact apart_ne ha' h1 h2 h3 h4 (by omega)

/-- The cells that are made anew stand to the values. -/
theorem FL_srl {g g' : Gh} {H0 H H' : List HS} {v : List DC} (hI : ∀ b, g.I b → g'.I b) (hb : g'.blk = g.blk) : ∀ {n : Nat} {ks : List K1} {us : List Value}, FL ty A g H0 H w v n ks us →
    (∀ (i e id : Nat) (u : Value), ks[i]? = some (.own e id) → us[i]? = some u → nf H' id ∧ g'.val id = u) →
    (∀ id ∈ ks.flatMap K1.pids, nf H' id ∧ (isVar H' id → isVar H0 id)) → SRL ty g' H' w (mkL v n ks) us
  | _, [], [], _, _, _ => trivial
  | n, k :: ks, u :: us, ⟨⟨dd, hd, hv, hn⟩, hf⟩, ho, hp => by
    refine ⟨?_, FL_srl hI hb hf (fun i e id x h1 h2 => ho (i + 1) e id x (by simpa using h1) (by simpa using h2)) (fun id hid => hp id (by simp only [List.flatMap_cons, List.mem_append]; exact .inr hid))⟩
    have h0 : 0 < k.cnt → v.getD n d0 = dd.getD 0 d0 := fun h => by simpa using hv 0 h
    have hpk : ∀ id ∈ k.pids, nf H' id ∧ (isVar H' id → isVar H0 id) := fun id hid => hp id (by simp only [List.flatMap_cons, List.mem_append]; exact .inl hid)
    cases k with
    | u => trivial
    | b =>
      obtain ⟨x, rfl, rfl⟩ := hn
      simp only [K1.mk, SR]
      rw [h0 (by simp [K1.cnt])]
      rfl
    | i kd =>
      obtain ⟨x, rfl, rfl⟩ := hn
      simp only [K1.mk, SR]
      rw [h0 (by simp [K1.cnt])]
      rfl
    | s =>
      obtain ⟨x, rfl, rfl⟩ := hn
      simp only [K1.mk, SR]
      rw [h0 (by simp [K1.cnt])]
      rfl
    | sl e =>
      obtain ⟨l, F, rfl, h1, h2⟩ := hn
      simp only [K1.mk, SR]
      rw [h0 (by simp [K1.cnt])]
      exact ⟨F, h1, fun b hb => hI b (h2 b hb)⟩
    | own e id =>
      obtain ⟨l, rfl, hl⟩ := hn
      obtain ⟨h1, h2⟩ := ho 0 e id u rfl rfl
      obtain ⟨ti, vs, F, _, _, h3, _⟩ := hl.row
      exact ⟨h1, ownsRow_one h3, fun _ => h2.symm⟩
    | ptr id off =>
      obtain ⟨_, h1, h2⟩ := hn
      obtain ⟨h3, h4⟩ := hpk id (by simp [K1.pids])
      exact ⟨h3, h1, fun hv => by rw [hb]; exact h2 (h4 hv)⟩
    | fn f caps =>
      obtain ⟨_, vs, h1, h2, h3⟩ := hn
      refine ⟨vs, h1, h2, fun i id hi => ?_⟩
      obtain ⟨h4, h5⟩ := hpk id (by simpa [K1.pids] using List.mem_of_getElem? hi)
      exact ⟨h4, fun hv => by rw [hb]; exact h3 i id hi (h5 hv)⟩
    | nil => exact hn.2
  | _, [], _ :: _, h, _, _ => h.elim
  | _, _ :: _, [], h, _, _ => h.elim

theorem mkO_get (v : List DC) (ks0 : List K1) : ∀ (kos : List KO) (n id i : Nat),
    ((mkO v ks0 n id kos)[i]? = none ∧ kos[i]? = none) ∨ ((mkO v ks0 n id kos)[i]? = some (ownAt v (id + i) 0 ks0) ∧ kos[i]? = some .u) ∨ ∃ t l cs, (mkO v ks0 n id kos)[i]? = some (.live (.var t cs)) ∧ kos[i]? = some (.var t l)
  | [], n, id, i => .inl ⟨by simp [mkO], by simp⟩
  | .u :: kos, n, id, 0 => .inr (.inl ⟨by simp [mkO], rfl⟩)
  | .var t l :: kos, n, id, 0 => .inr (.inr ⟨t, l, mkL v n l, by simp [mkO], rfl⟩)
  | .u :: kos, n, id, i + 1 => by
    have := mkO_get v ks0 kos n (id + 1) i
    rw [show id + 1 + i = id + (i + 1) by omega] at this
    simpa [mkO] using this
  | .var t l :: kos, n, id, i + 1 => by
    have := mkO_get v ks0 kos (n + cntL l) (id + 1) i
    rw [show id + 1 + i = id + (i + 1) by omega] at this
    simpa [mkO] using this

/-- THE STATE IN ITS NORMAL FORM STANDS TO THE SAME MACHINE. -/
theorem norm_ok {g : Gh} {st : St} {mm : Nat} {h : Hint} {v : List DC} (hr : Rel ty A g st a w) (hm : A.m = mm) (e : normS ty mm h st = some v) : ∃ g', Rel ty A g' (mkSt h v) a w := by
  obtain ⟨tm, H⟩ := st
  unfold normS at e
  split at e
  · rename_i hok
    split at e
    · rename_i p q hp hq
      split at e
      · rename_i v' H1 hv
        simp only [Option.some.injEq] at e
        subst e
        simp only at hp hq hv
        obtain ⟨vs1, a1, a2, a3⟩ := srcT_ok (us := a.tmps.toList) (ty := ty) (w := w) (g := g) (H := H) hp (by simpa using hr.len.symm) (fun i c x h1 h2 => hr.tm i c x h1 (by simpa using h2))
        obtain ⟨vs2, b1, b2, b3, b4⟩ := srcO_ok hr hq
        obtain ⟨g1, r1, s1, f1, ap, l1, _⟩ := normL_ok (H0 := H) [] [] hr (fun _ h => h) (a1.append b1) hv
        simp only [List.nil_append, List.append_nil, List.length_nil] at f1
        simp only [Hint.okM, Hint.ok, Bool.and_eq_true, List.all_eq_true] at hok
        obtain ⟨⟨⟨hnd, hids⟩, hpids⟩, hmm⟩ := hok
        have hV1 : vs1.length = (h.tm.flatMap KC.kinds).length := by rw [a1.length, a2]
        let g' : Gh := { I := g1.I, blk := g.blk, val := fun id => valAt id h.kinds (vs1 ++ vs2) }
        let H' := mkO v' h.kinds (cntL (h.tm.flatMap KC.kinds)) 0 h.ob
        have hget : ∀ id, (getH H' id = .dead ∧ h.ob[id]? = none) ∨ (getH H' id = ownAt v' id 0 h.kinds ∧ h.ob[id]? = some .u) ∨ ∃ t l cs, getH H' id = .live (.var t cs) ∧ h.ob[id]? = some (.var t l) ∧ H'[id]? = some (.live (.var t cs)) := by
          intro id
          rcases mkO_get v' h.kinds h.ob (cntL (h.tm.flatMap KC.kinds)) 0 id with ⟨k1, k2⟩ | ⟨k1, k2⟩ | ⟨t, l, cs, k1, k2⟩
          · exact .inl ⟨by simp [getH, H', List.getD_eq_getElem?_getD, k1], k2⟩
          · exact .inr (.inl ⟨by simp [getH, H', List.getD_eq_getElem?_getD, k1], k2⟩)
          · exact .inr (.inr ⟨t, l, cs, by simp [getH, H', List.getD_eq_getElem?_getD, k1], k2, k1⟩)
        have hvar : ∀ id, isVar H' id → isVar H id := by
          intro id ⟨t, cs, hc⟩
          rcases hget id with ⟨k1, _⟩ | ⟨k1, _⟩ | ⟨t', l, cs', k1, k2, _⟩
          · rw [k1] at hc; simp at hc
          · rw [k1] at hc
            rcases ownAt_ok id f1 with ⟨q1, _⟩ | ⟨e, l, i, q1, _⟩
            · rw [q1] at hc; simp at hc
            · rw [q1] at hc; simp at hc
          · have := b3 id t' l k2
            rwa [Nat.zero_add] at this
        have hown : ∀ (i e id : Nat) (u : Value), h.kinds[i]? = some (.own e id) → (vs1 ++ vs2)[i]? = some u → nf H' id ∧ g'.val id = u := by
          intro i e id u h1 h2
          refine ⟨?_, valAt_nodup hnd h1 h2⟩
          have hin := hids id (mem_ids h1)
          rcases hget id with ⟨_, k2⟩ | ⟨k1, _⟩ | ⟨t, l, cs, k1, k2, _⟩
          · rw [k2] at hin; simp at hin
          · rcases ownAt_ok id f1 with ⟨q1, q2⟩ | ⟨e', l, i', q1, _⟩
            · exact absurd h1 (q2 i e)
            · exact nf_live (k1.trans q1)
          · exact nf_live k1
        have hptr : ∀ id ∈ h.kinds.flatMap K1.pids, nf H' id ∧ (isVar H' id → isVar H id) := by
          intro id hid
          refine ⟨?_, hvar id⟩
          have hin := hpids id hid
          rcases hget id with ⟨_, k2⟩ | ⟨_, k2⟩ | ⟨t, l, cs, k1, k2, _⟩
          · rw [k2] at hin; simp at hin
          · rw [k2] at hin; simp [KO.isU] at hin
          · exact nf_live k1
        have hsrl : SRL ty g' H' w (mkL v' 0 h.kinds) (vs1 ++ vs2) := FL_srl (g := g1) (g' := g') (fun _ h => h) s1.blk.symm f1 hown hptr
        rw [Hint.kinds, mkL_append, Nat.zero_add] at hsrl
        obtain ⟨t1, t2⟩ := hsrl.unappend (by rw [hV1, mkL_length])
        obtain ⟨c1, c2⟩ := a3 g' H' v' 0 t1
        have hobj : ∀ id o, getH H' id = .live o → (∃ t cs us, o = .var t cs ∧ w.heap[g.blk id]? = some (.cells us.toArray t (0, 0)) ∧ SRL ty g' H' w cs us ∧ (∀ u ∈ us, u.oneCell' = true) ∧ isVar H id) ∨
            ∃ (e : Nat) (l : List (List DC)) (i : Nat), o = .row e l ∧ Loose ty A g1 H1 w e l (g'.val id) ∧ h.kinds[i]? = some (.own e id) ∧ (vs1 ++ vs2)[i]? = some (g'.val id) := by
          intro id o ho
          rcases hget id with ⟨k1, _⟩ | ⟨k1, _⟩ | ⟨t, l, cs, k1, k2, k3⟩
          · rw [k1] at ho; simp at ho
          · rcases ownAt_ok id f1 with ⟨q1, _⟩ | ⟨e, l, i, q1, q2, q3, q4⟩
            · rw [k1, q1] at ho; simp at ho
            · rw [k1, q1] at ho
              simp only [HS.live.injEq] at ho
              exact .inr ⟨e, l, i, ho.symm, q2, q3, q4⟩
          · rw [k1] at ho
            simp only [HS.live.injEq] at ho
            rcases b4 g' H' v' _ h.kinds t2 id t cs k3 with hno | ⟨us, u1, u2, u3⟩
            · exact absurd k2 (hno t l)
            · rw [Nat.zero_add] at u1
              exact .inl ⟨t, cs, us, ho.symm, u1, u2, u3, hvar id ⟨t, cs, k1⟩⟩
        have hvarI : ∀ id, isVar H id → ¬ g1.I (g.blk id) := by
          intro id ⟨t, cs, hc⟩ hI
          obtain ⟨_, _, _, k3, _⟩ := hr.ob id _ hc
          rcases s1.new _ hI with hI | ⟨i, e, l, hi, hb⟩
          · exact k3 hI
          · refine hr.sep i id _ _ _ ?_ hi hc hb rfl
            rintro rfl
            rw [hc] at hi
            simp at hi
        refine ⟨g', ⟨by simpa [mkSt] using c1, fun i c x h1 h2 => c2 i c x h1 (by simpa using h2), fun id o ho => ?_, fun i j o p b hij hi hj hb hb' => ?_, r1.lt, r1.inI, fun id o b ho hb => ?_, fun j hj => ?_, fun j hj hv => ?_, r1.keep, r1.df⟩⟩
        · rcases hobj id o ho with ⟨t, cs, us, rfl, k1, k2, k3, k4⟩ | ⟨e, l, i, rfl, k1, k2, k3⟩
          · exact ⟨us, k1, k2, hvarI id k4, k3⟩
          · obtain ⟨ti, vs, F, q1, q2, q3, q4, q5⟩ := k1.row
            exact ⟨ti, vs, F, q1, q2, q3, q4, q5, fun b hb => (k1.own b hb).1⟩
        · rcases hobj i o hi with ⟨t, cs, us, rfl, k1, k2, k3, k4⟩ | ⟨e, l, n, rfl, k1, k2, k3⟩
          · rcases hobj j p hj with ⟨t', cs', us', rfl, k1', k2', k3', k4'⟩ | ⟨e, l, n, rfl, k1', k2', k3'⟩
            · obtain ⟨t1, c1, h1⟩ := k4
              obtain ⟨t2, c2, h2⟩ := k4'
              exact hr.sep i j _ _ b hij h1 h2 (show oblk g i (.var t1 c1) = some b from hb) (show oblk g j (.var t2 c2) = some b from hb')
            · obtain ⟨t1, c1, h1⟩ := s1.var i k4
              refine (k1'.own b hb').2.2 i _ h1 ?_
              rw [oblk_same s1.blk s1.val]
              exact hb
          · rcases hobj j p hj with ⟨t', cs', us', rfl, k1', k2', k3', k4'⟩ | ⟨e', l', n', rfl, k1', k2', k3'⟩
            · obtain ⟨t1, c1, h1⟩ := s1.var j k4'
              refine (k1.own b hb).2.2 j _ h1 ?_
              rw [oblk_same s1.blk s1.val]
              exact hb'
            · rcases Nat.lt_trichotomy n n' with hlt | rfl | hlt
              · exact apart_ne ap k2 k3 k2' k3' hlt b hb hb'
              · rw [k2] at k2'
                simp only [Option.some.injEq, K1.own.injEq] at k2'
                exact hij k2'.2
              · exact apart_ne ap k2' k3' k2 k3 hlt b hb' hb
        · rcases hobj id o ho with ⟨t, cs, us, rfl, k1, k2, k3, k4⟩ | ⟨e, l, i, rfl, k1, k2, k3⟩
          · obtain ⟨t1, c1, h1⟩ := k4
            exact hr.ow id (.var t1 c1) b h1 hb
          · exact (k1.own b hb).2.1
        · have := hmm j (by rw [List.mem_range, ← hm]; exact hj)
          rcases hget j with ⟨_, k2⟩ | ⟨_, k2⟩ | ⟨t, l, cs, k1, k2, _⟩
          · rw [k2] at this; simp at this
          · rw [k2] at this; simp [KO.isU] at this
          · exact nf_live k1
        · exact hr.pb j hj (hvar j hv)
      · simp at e
    · simp at e
  · simp at e

end
end Go.Proofs.YtljggmbgbnmapaaGreatV
