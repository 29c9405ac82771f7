/- The state's relation under changes of the objects and of the world. -/
import Derived.Test.YtljggmbgbnmapaaGreatV2
namespace Go.Proofs.YtljggmbgbnmapaaGreatV
open Go

theorem getH_set_same {H : List HS} {id : Nat} (x : HS) (h : id < H.length) : getH (setH H id x) id = x := by
  simp [getH, setH, List.getD_eq_getElem?_getD, h]
theorem getH_set_ne {H : List HS} {i j : Nat} (x : HS) (h : i ≠ j) : getH (setH H i x) j = getH H j := by
  simp [getH, setH, List.getD_eq_getElem?_getD, List.getElem?_set_ne h]
theorem getH_lt_live {H : List HS} {id : Nat} {o : Obj'} (h : getH H id = .live o) : id < H.length := by
  rcases Nat.lt_or_ge id H.length with h' | h'
  · exact h'
  · simp [getH, List.getD_eq_getElem?_getD, List.getElem?_eq_none h'] at h
theorem getH_lt_free {H : List HS} {id : Nat} (h : getH H id = .free) : id < H.length := by
  rcases Nat.lt_or_ge id H.length with h' | h'
  · exact h'
  · simp [getH, List.getD_eq_getElem?_getD, List.getElem?_eq_none h'] at h

theorem nf_live {H : List HS} {id : Nat} {o : Obj'} (h : getH H id = .live o) : nf H id := by simp [nf, h]
theorem not_nf_free {H : List HS} {id : Nat} (h : getH H id = .free) : ¬ nf H id := by simp [nf, h]

/-- What a change keeps. -/
structure Ch (g g' : Gh) (H H' : List HS) (w w' : World) : Prop where
  I : ∀ b, g.I b → g'.I b
  Iw : ∀ b, g.I b → w'.heap[b]? = w.heap[b]?
  nf : ∀ id, nf H id → nf H' id
  row : ∀ id, Go.Proofs.YtljggmbgbnmapaaGreatV.nf H id → isRow H' id → isRow H id ∧ g'.val id = g.val id
  var : ∀ id, Go.Proofs.YtljggmbgbnmapaaGreatV.nf H id → isVar H' id → isVar H id ∧ g'.blk id = g.blk id

theorem Ch.refl (g : Gh) (H : List HS) (w : World) : Ch g g H H w w := ⟨fun _ h => h, fun _ _ => rfl, fun _ h => h, fun _ _ h => ⟨h, rfl⟩, fun _ _ h => ⟨h, rfl⟩⟩

theorem Ch.trans {g g' g'' : Gh} {H H' H'' : List HS} {w w' w'' : World} (h : Ch g g' H H' w w') (k : Ch g' g'' H' H'' w' w'') : Ch g g'' H H'' w w'' where
  I b hb := k.I b (h.I b hb)
  Iw b hb := (k.Iw b (h.I b hb)).trans (h.Iw b hb)
  nf id hi := k.nf id (h.nf id hi)
  row id hi hr := by
    obtain ⟨a, b⟩ := k.row id (h.nf id hi) hr
    obtain ⟨c, d⟩ := h.row id hi a
    exact ⟨c, b.trans d⟩
  var id hi hr := by
    obtain ⟨a, b⟩ := k.var id (h.nf id hi) hr
    obtain ⟨c, d⟩ := h.var id hi a
    exact ⟨c, b.trans d⟩

section
variable {ty : Nat → Option TI} {g g' : Gh} {H H' : List HS} {w w' : World}

theorem SR.mono (c : Ch g g' H H' w w') : ∀ {s : S} {v : Value}, SR ty g H w s v → SR ty g' H' w' s v
  | .undef, _, _ => trivial
  | .nil, _, h => h
  | .bool _, _, h => h
  | .int _ _, _, h => h
  | .str _, _, h => h
  | .sl e l, v, ⟨F, h1, h2⟩ => ⟨F, h1.frame fun b hb => c.Iw b (h2 b hb), fun b hb => c.I b (h2 b hb)⟩
  | .own id, v, ⟨h1, h0, h2⟩ => ⟨c.nf id h1, h0, fun hr => by
      obtain ⟨a, b⟩ := c.row id h1 hr
      rw [b]; exact h2 a⟩
  | .ptr id off, v, ⟨h1, h0, h2⟩ => ⟨c.nf id h1, h0, fun hr => by
      obtain ⟨a, b⟩ := c.var id h1 hr
      rw [b]; exact h2 a⟩
  | .fn f caps, v, ⟨vs, h1, h2, h3⟩ => ⟨vs, h1, h2, fun i id hi => by
      obtain ⟨h4, h5⟩ := h3 i id hi
      refine ⟨c.nf id h4, fun hr => ?_⟩
      obtain ⟨a, b⟩ := c.var id h4 hr
      rw [b]; exact h5 a⟩

theorem SRL.mono (c : Ch g g' H H' w w') : ∀ {s : List S} {v : List Value}, SRL ty g H w s v → SRL ty g' H' w' s v
  | [], [], _ => trivial
  | _ :: _, _ :: _, ⟨a, b⟩ => ⟨a.mono c, SRL.mono c b⟩
  | [], _ :: _, h => h.elim
  | _ :: _, [], h => h.elim

theorem CR.mono (c : Ch g g' H H' w w') : ∀ {x : C} {v : Value}, CR ty g H w x v → CR ty g' H' w' x v
  | .one _, _, h => SR.mono c h
  | .agg _, _, ⟨vs, a, b⟩ => ⟨vs, a, b.mono c⟩
  | .tup l, _, ⟨vs, a, b, d⟩ => ⟨vs, a, b, fun i x ss u h1 h2 => by
      obtain ⟨e, f⟩ := d i x ss u h1 h2
      exact ⟨fun hx => let ⟨us, p, q⟩ := e hx; ⟨us, p, q.mono c⟩, fun hx => (f hx).mono c⟩⟩
  | .elS e x off, v, ⟨ti, b, o, vs, F, h1, h2, h3, h4, h5, h6⟩ =>
    ⟨ti, b, o, vs, F, h1, h2, fun j u hu => by rw [World.cell?_of_block (w := w) (c.Iw b h6)]; exact h3 j u hu, h4.frame fun k hk => c.Iw k (h5 k hk), fun k hk => c.I k (h5 k hk), c.I b h6⟩
  | .elO e id ix off, v, ⟨h1, h2⟩ => ⟨c.nf id h1, fun hr => by
      obtain ⟨a, b⟩ := c.row id h1 hr
      obtain ⟨ti, k, len, cap, h3, h4, h5, h6⟩ := h2 a
      exact ⟨ti, k, len, cap, h3, by rw [b]; exact h4, h5, h6⟩⟩

theorem SRL.length : ∀ {s : List S} {v : List Value}, SRL ty g H w s v → v.length = s.length
  | [], [], _ => rfl
  | _ :: _, _ :: _, ⟨_, b⟩ => by simp [SRL.length b]
  | [], _ :: _, h => h.elim
  | _ :: _, [], h => h.elim

theorem ownsRow_frame {w w' : World} {base e size : Nat} {v : Value} {n : Nat} {xs : List Value} (h : w.ownsRow base e size v n xs) (hb : ∀ b, v.ownBlock = some b → w'.heap[b]? = w.heap[b]?) :
    w'.ownsRow base e size v n xs := by
  refine ⟨h.1, ?_⟩
  rcases h.2 with h | ⟨k, cap, cur, rfl, h1, h2, h3⟩
  · exact .inl h
  · exact .inr ⟨k, cap, cur, rfl, h1, by rw [hb k rfl]; exact h2, h3⟩

/-- An object that a change doesn't touch. -/
theorem OR.mono (c : Ch g g' H H' w w') {id : Nat} {o : Obj'} (hv : g'.val id = g.val id) (hk : g'.blk id = g.blk id)
    (hb : ∀ b, oblk g id o = some b → w'.heap[b]? = w.heap[b]? ∧ ¬ g'.I b) (h : OR ty g H w id o) : OR ty g' H' w' id o := by
  cases o with
  | var t cs =>
    obtain ⟨vs, h1, h2, h3, h4⟩ := h
    obtain ⟨b1, b2⟩ := hb (g.blk id) rfl
    exact ⟨vs, by rw [hk, b1]; exact h1, h2.mono c, by rw [hk]; exact b2, h4⟩
  | row e l =>
    obtain ⟨ti, vs, F, h1, h0, h2, h3, h4, h5⟩ := h
    exact ⟨ti, vs, F, h1, h0, by rw [hv]; exact ownsRow_frame h2 fun b hb' => (hb b hb').1, h3.frame fun b hb' => c.Iw b (h4 b hb'), fun b hb' => c.I b (h4 b hb'),
      fun b hb' => (hb b (show (g.val id).ownBlock = some b by rw [← hv]; exact hb')).2⟩
  | fz e l =>
    obtain ⟨F, h1, h2⟩ := h
    exact ⟨F, by rw [hv]; exact h1.frame fun b hb' => c.Iw b (h2 b hb'), fun b hb' => c.I b (h2 b hb')⟩

end

section
variable {ty : Nat → Option TI} {A : An} {g : Gh} {tm : List C} {H : List HS} {a : Act} {w : World}

/-- The slots follow a change of the objects. -/
theorem Rel.ch {g' : Gh} {H' : List HS} {w' : World} (h : Rel ty A g ⟨tm, H⟩ a w) (c : Ch g g' H H' w w')
    (ob : ∀ (id : Nat) (o : Obj'), getH H' id = .live o → OR ty g' H' w' id o)
    (sep : ∀ (i j : Nat) (o p : Obj') (b : Nat), i ≠ j → getH H' i = .live o → getH H' j = .live p → oblk g' i o = some b → oblk g' j p ≠ some b)
    (lt : ∀ b, g'.I b → b < w'.heap.size) (inI : ∀ b, g'.I b → A.I0 b ∨ A.w0.heap.size ≤ b ∨ A.Pm b)
    (ow : ∀ (id : Nat) (o : Obj') (b : Nat), getH H' id = .live o → oblk g' id o = some b → owOk A b o)
    (pb : ∀ j, j < A.m → isVar H' j → g'.blk j = A.pb j) (keep : Keep A w') : Rel ty A g' ⟨tm, H'⟩ a w' where
  len := h.len
  tm i x v h1 h2 := (h.tm i x v h1 h2).mono c
  ob := ob
  sep := sep
  lt := lt
  inI := inI
  ow := ow
  nfm j hj := c.nf j (h.nfm j hj)
  pb := pb
  keep := keep
  df := h.df

/-- A slot is written. -/
theorem Rel.put (h : Rel ty A g ⟨tm, H⟩ a w) (dst : Option Tmp) {c : C} {v : Value} (hc : CR ty g H w c v) : Rel ty A g ⟨putC tm dst c, H⟩ (a.put dst v) w := by
  cases dst with
  | none => exact h
  | some d =>
    refine ⟨by simpa [putC, Act.put] using h.len, fun i x u h1 h2 => ?_, h.ob, h.sep, h.lt, h.inI, h.ow, h.nfm, h.pb, h.keep, h.df⟩
    simp only [putC, Act.put] at h1 h2
    by_cases hd : d = i
    · subst hd
      rw [List.getElem?_set] at h1
      rw [Array.getElem?_setIfInBounds] at h2
      by_cases hl : d < tm.length
      · have hl' : d < a.tmps.size := (show tm.length = a.tmps.size from h.len) ▸ hl
        simp [hl] at h1
        simp [hl'] at h2
        subst h1
        subst h2
        exact hc
      · simp [hl] at h1
    · rw [List.getElem?_set_ne hd] at h1
      rw [Array.getElem?_setIfInBounds_ne hd] at h2
      exact h.tm i x u h1 h2

/-- Any undefined slot. -/
theorem CR.undef {g : Gh} {H : List HS} {w : World} (v : Value) : CR ty g H w (.one .undef) v := trivial

/-- An operand's value. -/
theorem Rel.getD (h : Rel ty A g ⟨tm, H⟩ a w) (t : Nat) : CR ty g H w (tm.getD t (.one .undef)) (a.tmps.getD t undef) := by
  rw [List.getD_eq_getElem?_getD, Array.getD_eq_getD_getElem?]
  cases h1 : tm[t]? with
  | none => exact CR.undef _
  | some c =>
    have hl : t < a.tmps.size := by
      have h3 : tm.length = a.tmps.size := h.len
      have h2 : t < tm.length := by
        rcases Nat.lt_or_ge t tm.length with h' | h'
        · exact h'
        · simp [List.getElem?_eq_none h'] at h1
      omega
    have h2 : a.tmps[t]? = some a.tmps[t] := Array.getElem?_eq_getElem hl
    rw [h2]
    exact h.tm t c _ h1 h2

theorem CR.ofConst (v : Value) : CR ty g H w (ofConst v) v := by
  unfold Go.Proofs.YtljggmbgbnmapaaGreatV.ofConst
  split
  · exact rfl
  · exact rfl
  · simp [CR, SR]
  · exact rfl
  · trivial

theorem Rel.opd (h : Rel ty A g ⟨tm, H⟩ a w) (x : Operand) : CR ty g H w (opd tm x) (a.eval x) := by
  cases x with
  | tmp t => exact h.getD t
  | const v => exact CR.ofConst v
  | global g' => trivial
  | func f => exact ⟨#[], rfl, rfl, fun i id hi => by simp at hi⟩

/-- A row of the call's own is read from now on. -/
theorem Rel.freeze2 (h : Rel ty A g ⟨tm, H⟩ a w) {id e : Nat} {l : List (List DC)} (hr : getH H id = .live (.row e l)) :
    ∃ g', Rel ty A g' ⟨tm, setH H id (.live (.fz e l))⟩ a w ∧ Ch g g' H (setH H id (.live (.fz e l))) w w ∧
      (∃ F, RdC ty w (.sl e) (.sl l) (g'.val id) F ∧ ∀ b ∈ F, g'.I b) ∧ g'.blk = g.blk ∧ g'.val = g.val ∧ ∀ b, g'.I b → g.I b ∨ (g.val id).ownBlock = some b := by
  have hlt := getH_lt_live hr
  obtain ⟨ti, vs, F, h1, h0, h2, h3, h4, h5⟩ := h.ob id _ hr
  let g' : Gh := { g with I := fun b => g.I b ∨ (g.val id).ownBlock = some b }
  have hrd : ∃ F, RdC ty w (.sl e) (.sl l) (g.val id) F ∧ ∀ b ∈ F, g'.I b := by
    rcases h2.2 with ⟨hv, hn⟩ | ⟨k, cap, cur, hv, hk, hg, hnc, hcm, hcs, htake⟩
    · have : l = [] := List.eq_nil_of_length_eq_zero hn
      subst this
      exact ⟨[], by rw [hv]; exact .nil e none 0, fun _ h => by cases h⟩
    · by_cases hl : l = []
      · subst hl
        refine ⟨[], ?_, fun _ h => by cases h⟩
        rw [hv]
        exact RdC.nil e _ cap
      · refine ⟨k :: F, ?_, fun b hb => ?_⟩
        · rw [hv]
          refine .sl e ti k 0 _ cap l vs F h1 h0 rfl hl hnc (fun j v hj => ?_) h3
          have hjl : j < vs.length := by
            rcases Nat.lt_or_ge j vs.length with h' | h'
            · exact h'
            · simp [List.getElem?_eq_none h'] at hj
          have := World.ownsRow.cellAt (w := w) (g := k) (n := l.length) (cap := cap) (xs := vs) (base := 0) (e := e) (size := ti.cts.length) (by rw [← hv]; exact h2) j (by have := h2.1; omega)
          rw [Nat.zero_add, this]
          exact hj
        · rcases List.mem_cons.1 hb with rfl | hb
          · exact .inr (by rw [hv]; rfl)
          · exact .inl (h4 b hb)
  have hch : Ch g g' H (setH H id (.live (.fz e l))) w w := by
    refine ⟨fun b hb => .inl hb, fun _ _ => rfl, fun i hi => ?_, fun i _ hi => ⟨?_, rfl⟩, fun i _ hi => ⟨?_, rfl⟩⟩
    · by_cases e : id = i
      · subst e; simp [nf, getH_set_same _ hlt]
      · simpa [nf, getH_set_ne _ e] using hi
    · by_cases e : id = i
      · subst e; exact ⟨_, _, .inl hr⟩
      · simpa [isRow, getH_set_ne _ e] using hi
    · by_cases e : id = i
      · subst e; obtain ⟨t, cs, hc⟩ := hi; rw [getH_set_same _ hlt] at hc; simp at hc
      · simpa [isVar, getH_set_ne _ e] using hi
  have hlive : ∀ i o, getH (setH H id (.live (.fz e l))) i = .live o → (i = id ∧ o = .fz e l) ∨ (i ≠ id ∧ getH H i = .live o) := by
    intro i o hi
    by_cases e : id = i
    · subst e; rw [getH_set_same _ hlt] at hi; exact .inl ⟨rfl, by simpa using hi.symm⟩
    · rw [getH_set_ne _ e] at hi; exact .inr ⟨fun h => e h.symm, hi⟩
  refine ⟨g', h.ch hch ?_ ?_ ?_ ?_ ?_ ?_ h.keep, hch, hrd, rfl, rfl, fun b hb => hb⟩
  · intro i o hi
    rcases hlive i o hi with ⟨rfl, rfl⟩ | ⟨hne, hi⟩
    · exact hrd
    · refine OR.mono hch rfl rfl (fun b hb => ⟨rfl, fun hI => ?_⟩) (h.ob i o hi)
      rcases hI with hI | hI
      · cases o with
        | var t cs => obtain ⟨_, _, _, k, _⟩ := h.ob i _ hi; simp only [oblk, Option.some.injEq] at hb; subst hb; exact k hI
        | row e l => obtain ⟨_, _, _, _, _, _, _, _, k⟩ := h.ob i _ hi; exact k b hb hI
        | fz e l => simp [oblk] at hb
      · exact h.sep i id o _ b hne hi hr hb hI
  · intro i j o p b hij hi hj hb
    rcases hlive i o hi with ⟨rfl, rfl⟩ | ⟨hne, hi⟩
    · simp [oblk] at hb
    · rcases hlive j p hj with ⟨rfl, rfl⟩ | ⟨hne', hj⟩
      · simp [oblk]
      · exact h.sep i j o p b hij hi hj hb
  · intro b hb
    rcases hb with hb | hb
    · exact h.lt b hb
    · rcases h2.2 with ⟨hv, hn⟩ | ⟨k, cap, cur, hv, hk, hg, _⟩
      · rw [hv] at hb; simp [Value.ownBlock] at hb
      · rw [hv] at hb
        simp only [Value.ownBlock, Option.some.injEq] at hb
        subst hb
        rcases Nat.lt_or_ge k w.heap.size with h' | h'
        · exact h'
        · simp [Array.getElem?_eq_none h'] at hg
  · intro b hb
    rcases hb with hb | hb
    · exact h.inI b hb
    · exact .inr (h.ow id _ b hr hb)
  · intro i o b hi hb
    rcases hlive i o hi with ⟨rfl, rfl⟩ | ⟨hne, hi⟩
    · simp [oblk] at hb
    · exact h.ow i o b hi hb
  · intro j hj hv
    exact h.pb j hj (hch.var j (h.nfm j hj) hv).1

theorem Rel.freeze (h : Rel ty A g ⟨tm, H⟩ a w) {id e : Nat} {l : List (List DC)} (hr : getH H id = .live (.row e l)) :
    ∃ g', Rel ty A g' ⟨tm, setH H id (.live (.fz e l))⟩ a w ∧ Ch g g' H (setH H id (.live (.fz e l))) w w ∧
      ∃ F, RdC ty w (.sl e) (.sl l) (g'.val id) F ∧ ∀ b ∈ F, g'.I b := by
  obtain ⟨g', h1, h2, h3, _⟩ := h.freeze2 hr
  exact ⟨g', h1, h2, h3⟩

/-- One object is changed (made, written, given away), and with it the world. -/
theorem Rel.upd (h : Rel ty A g ⟨tm, H⟩ a w) {id : Nat} {x : HS} {g' : Gh} {w' : World} (hlt : id < H.length) (hx : x ≠ .free)
    (hI : g'.I = g.I) (hvo : ∀ i, i ≠ id → g'.val i = g.val i ∧ g'.blk i = g.blk i)
    (hrow : nf H id → isRow (setH H id x) id → isRow H id ∧ g'.val id = g.val id)
    (hvar : nf H id → isVar (setH H id x) id → isVar H id ∧ g'.blk id = g.blk id)
    (hw : ∀ b, (g.I b ∨ ∃ i o, i ≠ id ∧ getH H i = .live o ∧ oblk g i o = some b) → w'.heap[b]? = w.heap[b]?)
    (hsz : w.heap.size ≤ w'.heap.size)
    (hob : Ch g g' H (setH H id x) w w' → ∀ o, x = .live o → OR ty g' (setH H id x) w' id o ∧
      ∀ b, oblk g' id o = some b → ¬ g.I b ∧ owOk A b o ∧ ∀ i p, i ≠ id → getH H i = .live p → oblk g i p ≠ some b)
    (hpb : id < A.m → isVar (setH H id x) id → g'.blk id = A.pb id) (hk : Keep A w') :
    Rel ty A g' ⟨tm, setH H id x⟩ a w' ∧ Ch g g' H (setH H id x) w w' := by
  have hch : Ch g g' H (setH H id x) w w' := by
    refine ⟨fun b hb => by rw [hI]; exact hb, fun b hb => hw b (.inl hb), fun i hi => ?_, fun i hn hi => ?_, fun i hn hi => ?_⟩
    · by_cases e : id = i
      · subst e
        unfold nf
        rw [getH_set_same _ hlt]
        cases x with
        | free => exact absurd rfl hx
        | dead => trivial
        | live o => trivial
      · simpa [nf, getH_set_ne _ e] using hi
    · by_cases e : id = i
      · subst e; exact hrow hn hi
      · exact ⟨by simpa [isRow, getH_set_ne _ e] using hi, (hvo i (fun k => e k.symm)).1⟩
    · by_cases e : id = i
      · subst e; exact hvar hn hi
      · exact ⟨by simpa [isVar, getH_set_ne _ e] using hi, (hvo i (fun k => e k.symm)).2⟩
  have hlive : ∀ i o, getH (setH H id x) i = .live o → (i = id ∧ x = .live o) ∨ (i ≠ id ∧ getH H i = .live o) := by
    intro i o hi
    by_cases e : id = i
    · subst e; rw [getH_set_same _ hlt] at hi; exact .inl ⟨rfl, hi⟩
    · rw [getH_set_ne _ e] at hi; exact .inr ⟨fun h => e h.symm, hi⟩
  have hblk : ∀ i o, i ≠ id → oblk g' i o = oblk g i o := by
    intro i o hne
    cases o with
    | var t cs => simp [oblk, (hvo i hne).2]
    | row e l => simp [oblk, (hvo i hne).1]
    | fz e l => rfl
  refine ⟨h.ch hch ?_ ?_ ?_ ?_ ?_ ?_ hk, hch⟩
  · intro i o hi
    rcases hlive i o hi with ⟨rfl, hxo⟩ | ⟨hne, hi'⟩
    · exact (hob hch o hxo).1
    · refine OR.mono hch (hvo i hne).1 (hvo i hne).2 (fun b hb => ⟨hw b (.inr ⟨i, o, hne, hi', hb⟩), fun hIb => ?_⟩) (h.ob i o hi')
      rw [hI] at hIb
      cases o with
      | var t cs => obtain ⟨_, _, _, k, _⟩ := h.ob i _ hi'; simp only [oblk, Option.some.injEq] at hb; subst hb; exact k hIb
      | row e l => obtain ⟨_, _, _, _, _, _, _, _, k⟩ := h.ob i _ hi'; exact k b hb hIb
      | fz e l => simp [oblk] at hb
  · intro i j o p b hij hi hj hb hb'
    rcases hlive i o hi with ⟨rfl, hxo⟩ | ⟨hne, hi'⟩
    · rcases hlive j p hj with ⟨rfl, hxp⟩ | ⟨hne', hj'⟩
      · exact hij rfl
      · rw [hblk j p hne'] at hb'
        exact ((hob hch o hxo).2 b hb).2.2 j p hne' hj' hb'
    · rcases hlive j p hj with ⟨rfl, hxp⟩ | ⟨hne', hj'⟩
      · rw [hblk i o hne] at hb
        exact ((hob hch p hxp).2 b hb').2.2 i o hne hi' hb
      · rw [hblk i o hne] at hb
        rw [hblk j p hne'] at hb'
        exact h.sep i j o p b hij hi' hj' hb hb'
  · intro b hb
    rw [hI] at hb
    exact Nat.lt_of_lt_of_le (h.lt b hb) hsz
  · intro b hb
    rw [hI] at hb
    exact h.inI b hb
  · intro i o b hi hb
    rcases hlive i o hi with ⟨rfl, hxo⟩ | ⟨hne, hi'⟩
    · exact ((hob hch o hxo).2 b hb).2.1
    · rw [hblk i o hne] at hb
      exact h.ow i o b hi' hb
  · intro j hj hv
    by_cases e : id = j
    · subst e; exact hpb hj hv
    · have hne : j ≠ id := fun k => e k.symm
      rw [(hvo j hne).2]
      exact h.pb j hj (by simpa [isVar, getH_set_ne _ e] using hv)

/-- A row is given away. -/
theorem Rel.kill (h : Rel ty A g ⟨tm, H⟩ a w) {id : Nat} {o : Obj'} (hr : getH H id = .live o) :
    Rel ty A g ⟨tm, setH H id .dead⟩ a w ∧ Ch g g H (setH H id .dead) w w := by
  have hlt := getH_lt_live hr
  refine h.upd hlt (by simp) rfl (fun _ _ => ⟨rfl, rfl⟩) (fun _ hi => ?_) (fun _ hi => ?_) (fun _ _ => rfl) (Nat.le_refl _) (fun _ o ho => by simp at ho) (fun _ hi => ?_) h.keep
  · obtain ⟨e, l, hi⟩ := hi; simp [getH_set_same _ hlt] at hi
  · obtain ⟨e, l, hi⟩ := hi; simp [getH_set_same _ hlt] at hi
  · obtain ⟨e, l, hi⟩ := hi; simp [getH_set_same _ hlt] at hi

theorem Keep.trans {w' : World} (h : Keep A w) (ho : w'.os = w.os) (ht : w'.tape = w.tape) (hp : w'.output = w.output) (hs : w.heap.size ≤ w'.heap.size)
    (hb : ∀ b, b < A.w0.heap.size → ¬ A.Pv b → ¬ A.Pm b → w'.heap[b]? = w.heap[b]?) : Keep A w' :=
  ⟨ho.trans h.os, ht.trans h.tape, hp.trans h.output, Nat.le_trans h.size hs, fun b h1 h2 h3 => (hb b h1 h2 h3).trans (h.block b h1 h2 h3)⟩

theorem heap_alloc_of_lt (w : World) (o : Obj) {b : Nat} (h : b < w.heap.size) : (w.alloc o).heap[b]? = w.heap[b]? := heap_alloc_old w o h

theorem block_lt {x : Obj} {w : World} {k : Nat} (hg : w.heap[k]? = some x) : k < w.heap.size := by
  rcases Nat.lt_or_ge k w.heap.size with h' | h'
  · exact h'
  · simp [Array.getElem?_eq_none h'] at hg

/-- What is owned lies in the heap. -/
theorem Rel.oblk_lt (h : Rel ty A g ⟨tm, H⟩ a w) {id b : Nat} {o : Obj'} (hi : getH H id = .live o) (hb : oblk g id o = some b) : b < w.heap.size := by
  cases o with
  | var t cs =>
    obtain ⟨vs, h1, _⟩ := h.ob id _ hi
    simp only [oblk, Option.some.injEq] at hb
    subst hb
    exact block_lt h1
  | row e l =>
    obtain ⟨ti, vs, F, _, _, h2, _⟩ := h.ob id _ hi
    simp only [oblk] at hb
    rcases h2.2 with ⟨hv, hn⟩ | ⟨k, cap, cur, hv, hk, hg, _⟩
    · rw [hv] at hb; simp [Value.ownBlock] at hb
    · rw [hv] at hb
      simp only [Value.ownBlock, Option.some.injEq] at hb
      subst hb
      exact block_lt hg
  | fz e l => simp [oblk] at hb

/-- A new object, in a new block. -/
theorem Rel.new (h : Rel ty A g ⟨tm, H⟩ a w) {base : Nat} {o : Obj'} {obj : Obj} (hf : getH H base = .free) (v : Value)
    (hob : ∀ g' : Gh, g'.val base = v → g'.blk base = w.heap.size → g'.I = g.I → Ch g g' H (setH H base (.live o)) w (w.alloc obj) → OR ty g' (setH H base (.live o)) (w.alloc obj) base o ∧ ∀ b, oblk g' base o = some b → b = w.heap.size) :
    ∃ g', Rel ty A g' ⟨tm, setH H base (.live o)⟩ a (w.alloc obj) ∧ Ch g g' H (setH H base (.live o)) w (w.alloc obj) ∧ g'.val base = v ∧ g'.blk base = w.heap.size ∧ g'.I = g.I := by
  have hlt := getH_lt_free hf
  let g' : Gh := { I := g.I, blk := fun i => if i = base then w.heap.size else g.blk i, val := fun i => if i = base then v else g.val i }
  have hv : g'.val base = v := by simp [g']
  have hb : g'.blk base = w.heap.size := by simp [g']
  have r := h.upd (id := base) (x := .live o) (g' := g') (w' := w.alloc obj) hlt (by simp) rfl (fun i hi => by simp [g', hi]) (fun hn => absurd hn (not_nf_free hf)) (fun hn => absurd hn (not_nf_free hf))
    (fun b hb => heap_alloc_of_lt w obj (by
      rcases hb with hb | ⟨i, p, _, hi, hb⟩
      · exact h.lt b hb
      · exact h.oblk_lt hi hb)) (by simp)
    (fun hch p hp => by
      obtain rfl : o = p := by simpa using hp
      obtain ⟨h1, h2⟩ := hob g' hv hb rfl hch
      refine ⟨h1, fun b hb' => ?_⟩
      have := h2 b hb'
      subst this
      refine ⟨fun hI => absurd (h.lt _ hI) (Nat.lt_irrefl _), ?_, fun i p _ hi hp' => absurd (h.oblk_lt hi hp') (Nat.lt_irrefl _)⟩
      cases o with
      | var t cs => exact .inl h.keep.size
      | row e l => exact .inl h.keep.size
      | fz e l => exact .inl h.keep.size)
    (fun hm _ => absurd (h.nfm base hm) (not_nf_free hf))
    (h.keep.trans rfl rfl rfl (by simp) fun b hb _ _ => heap_alloc_of_lt w obj (Nat.lt_of_lt_of_le hb h.keep.size))
  exact ⟨g', r.1, r.2, hv, hb, rfl⟩

end
end Go.Proofs.YtljggmbgbnmapaaGreatV
