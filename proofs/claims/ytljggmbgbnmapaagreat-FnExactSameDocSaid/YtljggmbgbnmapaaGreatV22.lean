/- A call, from without: the callee's begin. -/
import Derived.Test.YtljggmbgbnmapaaGreatV21
namespace Go.Proofs.YtljggmbgbnmapaaGreatV
open Go
set_option linter.unusedVariables false
set_option linter.unusedSimpArgs false

section
variable {P : Program} {ty : Nat → Option TI} {fn : Nat → Option FI} {cl : Nat → Hint → List DC → Out} {A : An} {w : World}

theorem kinds_data : ∀ kcs : List KC, kcs.flatMap (fun k => k.data.kinds) = (kcs.flatMap KC.kinds).map K1.data
  | [] => rfl
  | .one k :: l => by rw [List.flatMap_cons, kinds_data l, List.flatMap_cons, List.map_append]; rfl
  | .agg ks :: l => by rw [List.flatMap_cons, kinds_data l, List.flatMap_cons, List.map_append]; rfl

theorem map_data_ct {ks : List K1} (h : ∀ k ∈ ks, ∃ t : CT, k = t.k1) : ks.map K1.data = ks := by
  induction ks with
  | nil => rfl
  | cons k ks ih =>
    obtain ⟨t, rfl⟩ := h k (by simp)
    rw [List.map_cons, (CT.k1_plain t).2.2.1, ih fun k hk => h k (by simp [hk])]

theorem flatMap_u (n : Nat) : (List.replicate n KO.u).flatMap KO.kinds = [] := by
  induction n with
  | zero => rfl
  | succ n ih => rw [List.replicate_succ, List.flatMap_cons, ih]; rfl

theorem FL_own {g : Gh} {H0 H : List HS} {v : List DC} : ∀ {n : Nat} {ks : List K1} {us : List Value} {i e id : Nat} {u : Value}, FL ty A g H0 H w v n ks us → ks[i]? = some (.own e id) → us[i]? = some u → ∃ l, Loose ty A g H w e l u
  | _, [], [], i, e, id, u, _, h, _ => by simp at h
  | n, k :: ks, x :: us, 0, e, id, u, ⟨⟨dd, _, _, hn⟩, _⟩, h1, h2 => by
    simp only [List.getElem?_cons_zero, Option.some.injEq] at h1 h2
    subst h1
    subst h2
    obtain ⟨l, _, hl⟩ := hn
    exact ⟨l, hl⟩
  | n, k :: ks, x :: us, i + 1, e, id, u, ⟨_, hf⟩, h1, h2 => by
    simp only [List.getElem?_cons_succ] at h1 h2
    exact FL_own hf h1 h2
  | _, [], _ :: _, _, _, _, _, h, _, _ => h.elim
  | _, _ :: _, [], _, _, _, _, h, _, _ => h.elim

theorem argK_plain : ∀ {ps : List PK} {cs : List C} {n r : Nat} {l : List KC}, ps.all PK.plain = true → argK n r ps cs = some l → argIds ps cs = [] ∧ ∀ k ∈ l.flatMap KC.kinds, ∃ t : CT, k = t.k1
  | [], [], n, r, l, _, e => by
    simp only [argK, Option.some.injEq] at e
    subst e
    exact ⟨rfl, fun k h => by simp at h⟩
  | p :: ps, c :: cs, n, r, l, hp, e => by
    simp only [List.all_cons, Bool.and_eq_true] at hp
    cases p with
    | ct t =>
      simp only [argK] at e
      split at e
      · rename_i l' hl
        simp only [Option.some.injEq] at e
        subst e
        obtain ⟨h1, h2⟩ := argK_plain hp.2 hl
        refine ⟨by simpa [argIds] using h1, fun k hk => ?_⟩
        simp only [List.flatMap_cons, KC.kinds, List.singleton_append, List.mem_cons] at hk
        rcases hk with rfl | hk
        · exact ⟨t, rfl⟩
        · exact h2 k hk
      · simp at e
    | ag ts =>
      simp only [argK] at e
      split at e
      · rename_i l' hl
        simp only [Option.some.injEq] at e
        subst e
        obtain ⟨h1, h2⟩ := argK_plain hp.2 hl
        refine ⟨by simpa [argIds] using h1, fun k hk => ?_⟩
        simp only [List.flatMap_cons, KC.kinds, List.mem_append, List.mem_map] at hk
        rcases hk with ⟨t, _, rfl⟩ | hk
        · exact ⟨t, rfl⟩
        · exact h2 k hk
      · simp at e
    | _ => simp [PK.plain] at hp
  | [], _ :: _, _, _, _, _, e => by simp [argK] at e
  | p :: _, [], _, _, _, _, e => by cases p <;> simp [argK] at e

theorem nodup_get : ∀ {l : List Nat} {i j x : Nat}, nodupB l = true → l[i]? = some x → l[j]? = some x → i = j
  | [], i, j, x, _, h, _ => by simp at h
  | a :: l, 0, 0, x, _, _, _ => rfl
  | a :: l, 0, j + 1, x, hn, h1, h2 => by
    simp only [List.getElem?_cons_zero, Option.some.injEq] at h1
    simp only [List.getElem?_cons_succ] at h2
    subst h1
    exact absurd (List.mem_of_getElem? h2) (nodupB_cons hn).1
  | a :: l, i + 1, 0, x, hn, h1, h2 => by
    simp only [List.getElem?_cons_zero, Option.some.injEq] at h2
    simp only [List.getElem?_cons_succ] at h1
    subst h2
    exact absurd (List.mem_of_getElem? h1) (nodupB_cons hn).1
  | a :: l, i + 1, j + 1, x, hn, h1, h2 => by
    simp only [List.getElem?_cons_succ] at h1 h2
    rw [nodup_get (nodupB_cons hn).2 h1 h2]

/-- What a callee begins with, as the caller knows it. -/
structure Begun (A : An) (g1 : Gh) (H1 : List HS) (w : World) (ids : List Nat) (Ac : An) : Prop where
  w0 : Ac.w0 = w
  m : Ac.m = ids.length
  pb : ∀ (j id : Nat), ids[j]? = some id → Ac.pb j = g1.blk id
  Pv : ∀ b, Ac.Pv b → ∃ id ∈ ids, b = g1.blk id
  Pm : ∀ b, Ac.Pm b → b < w.heap.size ∧ ¬ g1.I b ∧ (A.w0.heap.size ≤ b ∨ A.Pm b) ∧ ∀ i p, getH H1 i = .live p → oblk g1 i p ≠ some b
  var : ∀ id ∈ ids, isVar H1 id

theorem start_ok {g : Gh} {tm : List C} {H H1 : List HS} {a : Act} (h : Rel ty A g ⟨tm, H⟩ a w) {fi : FI} {as : List C} {vals : List Value} (hv : vals.length = as.length)
    (hc : ∀ (i : Nat) (c : C) (v : Value), as[i]? = some c → vals[i]? = some v → CR ty g H w c v) {kcs : List KC} {kos : List KO} {p q : List S} {v0 : List DC} {nr : Nat}
    (e1 : argK 0 (argIds fi.pk as).length fi.pk as = some kcs) (e2 : objK ty H (argIds fi.pk as) = some kos) (e3 : srcT (kcs.map KC.data) as = some p) (e4 : srcV H (argIds fi.pk as) kos = some q)
    (e5 : normL ty H (kcs.flatMap (fun k => k.data.kinds) ++ kos.flatMap KO.kinds) (p ++ q) = some (v0, H1)) (hn : nodupB (argIds fi.pk as) = true) (hok : ({ tm := kcs, ob := kos ++ List.replicate nr .u } : Hint).ok = true) :
    ∃ (g1 : Gh) (Ac : An) (gc : Gh), Rel ty A g1 ⟨tm, H1⟩ a w ∧ Src g g1 H H1 ∧ Begun A g1 H1 w (argIds fi.pk as) Ac ∧ Ac.I0 = g1.I ∧ (fi.pk.all PK.plain = true → ∀ b, ¬ Ac.Pm b) ∧
      Rel ty Ac gc (startSt fi { tm := kcs, ob := kos ++ List.replicate nr .u } v0) { tmps := vals.toArray ++ Array.replicate (fi.ntmps - vals.toArray.size) undef, defers := [] } w ∧ vals.length = kcs.length := by
  generalize hids : argIds fi.pk as = ids at *
  let b : Nat → Nat := fun j => g.blk (ids.getD j 0)
  have hb : ∀ (j id : Nat), ids[j]? = some id → b j = g.blk id := fun j id hj => by simp only [b]; rw [List.getD_eq_getElem?_getD, hj]; rfl
  obtain ⟨vs1, a1, a2⟩ := srcT_flat (us := vals) e3 hv hc
  have a2 := a2.data
  obtain ⟨k1, k2, k3, k4⟩ := objK_ok e2
  obtain ⟨vs2, b1, b2, b3⟩ := srcV_ok h b (j0 := 0) e4 (fun j id hj => by rw [Nat.zero_add]; exact hb j id hj)
  obtain ⟨g1, r1, s1, f1, ap, l1, o1⟩ := normL_ok (H0 := H) [] [] h (fun _ h => h) (a1.append b1) e5
  simp only [List.nil_append, List.append_nil, List.length_nil] at f1
  let hint : Hint := { tm := kcs, ob := kos ++ List.replicate nr .u }
  have hkinds : hint.kinds = kcs.flatMap KC.kinds ++ kos.flatMap KO.kinds := by simp [Hint.kinds, hint, flatMap_u]
  have hdata : kcs.flatMap (fun k => k.data.kinds) ++ kos.flatMap KO.kinds = hint.kinds.map K1.data := by rw [hkinds, List.map_append, kinds_data, map_data_ct k4]
  rw [hdata] at f1 ap o1
  simp only [Hint.ok, Bool.and_eq_true, List.all_eq_true] at hok
  obtain ⟨⟨hnd, hidsok⟩, hpids⟩ := hok
  let gc : Gh := { I := g1.I, blk := b, val := fun id => valAt id hint.kinds (vs1 ++ vs2) }
  let Ac : An := { w0 := w, I0 := g1.I, Pv := fun x => ∃ id ∈ ids, x = g1.blk id, Pm := fun x => ∃ (i e id : Nat) (u : Value), hint.kinds[i]? = some (.own e id) ∧ (vs1 ++ vs2)[i]? = some u ∧ u.ownBlock = some x, m := ids.length, pb := b }
  have hloose : ∀ (i e id : Nat) (u : Value), hint.kinds[i]? = some (.own e id) → (vs1 ++ vs2)[i]? = some u → ∃ l, Loose ty A g1 H1 w e l u := fun i e id u h1 h2 => FL_own f1 (own_data.2 h1) h2
  have hvar1 : ∀ id ∈ ids, isVar H1 id := fun id hid => s1.var id (k3 id hid)
  have hvarI : ∀ id ∈ ids, ¬ g1.I (g1.blk id) := by
    intro id hid hI
    obtain ⟨t, cs, hcs⟩ := hvar1 id hid
    exact oblk_notI r1 hcs rfl hI
  have hbeg : Begun A g1 H1 w ids Ac := by
    refine ⟨rfl, rfl, fun j id hj => by rw [s1.blk]; exact hb j id hj, fun x hx => hx, fun x hx => ?_, hvar1⟩
    obtain ⟨i, e, id, u, h1, h2, h3⟩ := hx
    obtain ⟨l, hl⟩ := hloose i e id u h1 h2
    refine ⟨?_, hl.own x h3⟩
    obtain ⟨j, p, hj, hp⟩ := o1 i e id u (own_data.2 h1) h2 x h3
    exact h.oblk_lt hj hp
  let Hm := mkO v0 hint.kinds (cntL (hint.tm.flatMap KC.kinds)) 0 hint.ob
  have hst : startSt fi hint v0 = ⟨mkT v0 0 kcs ++ List.replicate (fi.ntmps - (mkT v0 0 kcs).length) (.one .undef), Hm ++ List.replicate (fi.nobj - Hm.length) .free⟩ := rfl
  let Hc := Hm ++ List.replicate (fi.nobj - Hm.length) .free
  have hget : ∀ id, ((getH Hc id = .dead ∨ getH Hc id = .free) ∧ hint.ob[id]? = none) ∨ (getH Hc id = ownAt v0 id 0 hint.kinds ∧ hint.ob[id]? = some .u) ∨
      ∃ t l cs, getH Hc id = .live (.var t cs) ∧ hint.ob[id]? = some (.var t l) ∧ Hm[id]? = some (.live (.var t cs)) := by
    intro id
    have hlt : ∀ x, Hm[id]? = some x → getH Hc id = x := by
      intro x hx
      have : id < Hm.length := by
        rcases Nat.lt_or_ge id Hm.length with h' | h'
        · exact h'
        · simp [List.getElem?_eq_none h'] at hx
      simp [getH, Hc, List.getD_eq_getElem?_getD, List.getElem?_append_left this, hx]
    rcases mkO_get v0 hint.kinds hint.ob (cntL (hint.tm.flatMap KC.kinds)) 0 id with ⟨q1, q2⟩ | ⟨q1, q2⟩ | ⟨t, l, cs, q1, q2⟩
    · refine .inl ⟨?_, q2⟩
      have hge : Hm.length ≤ id := by
        rcases Nat.lt_or_ge id Hm.length with h' | h'
        · have := List.getElem?_eq_getElem h'
          rw [show Hm[id]? = none from q1] at this
          simp at this
        · exact h'
      simp only [getH, Hc, List.getD_eq_getElem?_getD]
      rw [List.getElem?_append_right hge]
      by_cases hr : id - Hm.length < fi.nobj - Hm.length
      · right
        rw [List.getElem?_replicate, if_pos hr]
        rfl
      · left
        rw [List.getElem?_replicate, if_neg hr]
        rfl
    · exact .inr (.inl ⟨by simpa using hlt _ q1, q2⟩)
    · exact .inr (.inr ⟨t, l, cs, hlt _ q1, q2, q1⟩)
  have hvarlt : ∀ (id t : Nat) (l : List K1), hint.ob[id]? = some (.var t l) → id < ids.length := by
    intro id t l hid
    rcases Nat.lt_or_ge id kos.length with h' | h'
    · omega
    · simp only [hint] at hid
      rw [List.getElem?_append_right h', List.getElem?_replicate] at hid
      split at hid <;> simp at hid
  have hobv : ∀ (id : Nat), id < ids.length → ∃ t l, hint.ob[id]? = some (.var t l) := by
    intro id hid
    have h1 : id < kos.length := by omega
    obtain ⟨t, l, ht⟩ := k2 id _ (List.getElem?_eq_getElem h1)
    exact ⟨t, l, by simp only [hint]; rw [List.getElem?_append_left h1, List.getElem?_eq_getElem h1, ht]⟩
  have hnfv : ∀ id, id < ids.length → nf Hc id := by
    intro id hid
    obtain ⟨t, l, hob⟩ := hobv id hid
    rcases hget id with ⟨_, q2⟩ | ⟨_, q2⟩ | ⟨t', l', cs, q1, _⟩
    · rw [hob] at q2; simp at q2
    · rw [hob] at q2; simp at q2
    · exact nf_live q1
  have hown : ∀ (i e id : Nat) (u : Value), hint.kinds[i]? = some (.own e id) → (vs1 ++ vs2)[i]? = some u → nf Hc id ∧ gc.val id = u := by
    intro i e id u h1 h2
    refine ⟨?_, valAt_nodup hnd h1 h2⟩
    have hin := hidsok id (mem_ids h1)
    rcases hget id with ⟨_, q2⟩ | ⟨q1, q2⟩ | ⟨t, l, cs, q1, q2, _⟩
    · rw [show (kos ++ List.replicate nr KO.u)[id]? = none from q2] at hin; simp at hin
    · rcases ownAt_ok id f1 with ⟨z1, z2⟩ | ⟨e', l, i', z1, _⟩
      · exact absurd (own_data.2 h1) (z2 i e)
      · rw [ownAt_data] at z1
        exact nf_live (q1.trans z1)
    · exact nf_live q1
  -- addresses and functions
  have hpf : PF ty g H w ids hint.kinds (vs1 ++ vs2) := by
    have h1 := argK_pf (ids := ids) e1 a2 hc (fun j id hj => by rw [Nat.zero_add, ← hids]; exact hj)
    intro i k u hik hiu
    rw [hkinds] at hik
    have hl := a2.length.2
    rcases Nat.lt_or_ge i (kcs.flatMap KC.kinds).length with h' | h'
    · rw [List.getElem?_append_left h'] at hik
      rw [List.getElem?_append_left (by omega)] at hiu
      exact h1 i k u hik hiu
    · rw [List.getElem?_append_right h'] at hik
      obtain ⟨t, rfl⟩ := k4 k (List.mem_of_getElem? hik)
      exact ⟨fun m off h => absurd h ((CT.k1_plain t).1 m off), fun f caps h => absurd h ((CT.k1_plain t).2.1 f caps)⟩
  have hsrl : SRL ty gc Hc w (mkL v0 0 hint.kinds) (vs1 ++ vs2) := by
    refine FL_srl2 (g := g1) (g' := gc) (fun _ h => h) f1 hown (fun i m off u h1 h2 => ?_) (fun i f caps u h1 h2 => ?_)
    · obtain ⟨rfl, id, hid, hs⟩ := (hpf i _ u h1 h2).1 m off rfl
      have hm : m < ids.length := by
        rcases Nat.lt_or_ge m ids.length with h' | h'
        · exact h'
        · simp [List.getElem?_eq_none h'] at hid
      refine ⟨hnfv m hm, hs.2.1, fun _ => ?_⟩
      have := hs.2.2 (k3 id (List.mem_of_getElem? hid))
      rw [this]
      simp only [gc]
      rw [hb m id hid]
    · obtain ⟨caps0, ⟨xs, x1, x2, x3⟩, hl, hcap⟩ := (hpf i _ u h1 h2).2 f caps rfl
      refine ⟨xs, x1, by omega, fun j m hj => ?_⟩
      have hjl : j < caps0.length := by
        rcases Nat.lt_or_ge j caps0.length with h' | h'
        · exact h'
        · rw [List.getElem?_eq_none (by omega)] at hj; simp at hj
      have h0 := hcap j m hj
      rw [List.getElem?_eq_getElem hjl] at h0
      have hm : m < ids.length := by
        rcases Nat.lt_or_ge m ids.length with h' | h'
        · exact h'
        · simp [List.getElem?_eq_none h'] at h0
      refine ⟨hnfv m hm, fun _ => ?_⟩
      have := (x3 j _ (List.getElem?_eq_getElem hjl)).2 (k3 _ (List.mem_of_getElem? h0))
      rw [this]
      simp only [gc]
      rw [hb m _ h0]
  rw [hkinds, mkL_append, Nat.zero_add] at hsrl
  obtain ⟨t1, t2⟩ := hsrl.unappend (by rw [a2.length.2, mkL_length])
  obtain ⟨c1, c2⟩ := Flat.mkT v0 0 a2 t1
  have hobj : ∀ id o, getH Hc id = .live o → (∃ t cs us, o = .var t cs ∧ w.heap[b id]? = some (.cells us.toArray t (0, 0)) ∧ SRL ty gc Hc w cs us ∧ (∀ u ∈ us, u.oneCell' = true) ∧ ∃ i, ids[id]? = some i) ∨
      ∃ (e : Nat) (l : List (List DC)) (i : Nat), o = .row e l ∧ Loose ty A g1 H1 w e l (gc.val id) ∧ hint.kinds[i]? = some (.own e id) ∧ (vs1 ++ vs2)[i]? = some (gc.val id) := by
    intro id o ho
    rcases hget id with ⟨q1 | q1, _⟩ | ⟨q1, _⟩ | ⟨t, l, cs, q1, q2, q3⟩
    · rw [q1] at ho; simp at ho
    · rw [q1] at ho; simp at ho
    · rcases ownAt_ok id f1 with ⟨z1, _⟩ | ⟨e, l, i, z1, z2, z3, z4⟩
      · rw [ownAt_data] at z1
        rw [q1, z1] at ho; simp at ho
      · rw [ownAt_data] at z1
        rw [valAt_data] at z2 z4
        rw [q1, z1] at ho
        simp only [HS.live.injEq] at ho
        exact .inr ⟨e, l, i, ho.symm, z2, own_data.1 z3, z4⟩
    · rw [q1] at ho
      simp only [HS.live.injEq] at ho
      have hlt := hvarlt id t l q2
      obtain ⟨us, u1, u2, u3⟩ := mkO_ov b v0 hint.kinds (List.replicate nr .u) b2 t2 id t cs (by omega) q3
      rw [Nat.zero_add] at u1
      exact .inl ⟨t, cs, us, ho.symm, u1, u2, u3, ids[id], List.getElem?_eq_getElem hlt⟩
  refine ⟨g1, Ac, gc, r1, s1, hbeg, rfl, fun hpl x hx => ?_, ?_, a2.length.1⟩
  · obtain ⟨i, e, id, u, h1, _⟩ := hx
    have hp := (argK_plain hpl e1).2
    rw [hkinds] at h1
    have := List.mem_of_getElem? h1
    rw [List.mem_append] at this
    rcases this with hk | hk
    · obtain ⟨t, ht⟩ := hp _ hk
      cases t <;> simp [CT.k1] at ht
    · obtain ⟨t, ht⟩ := k4 _ hk
      cases t <;> simp [CT.k1] at ht
  · rw [hst]
    refine ⟨?_, fun i c x h1 h2 => ?_, fun id o ho => ?_, fun i j o p x hij hi hj hx hx' => ?_, r1.lt, fun x hx => .inl hx, fun id o x ho hx => ?_, fun j hj => hnfv j hj, fun j hj hvj => rfl, ⟨rfl, rfl, rfl, Nat.le_refl _, fun _ _ _ _ => rfl⟩, rfl⟩
    · simp [c1]
    · simp only [Array.getElem?_append, List.size_toArray, List.getElem?_toArray] at h2
      rcases Nat.lt_or_ge i (mkT v0 0 kcs).length with h' | h'
      · rw [List.getElem?_append_left h'] at h1
        rw [if_pos (by omega)] at h2
        exact c2 i c x h1 h2
      · rw [List.getElem?_append_right h', List.getElem?_replicate] at h1
        split at h1
        · simp only [Option.some.injEq] at h1
          subst h1
          trivial
        · simp at h1
    · rcases hobj id o ho with ⟨t, cs, us, rfl, q1, q2, q3, i, q4⟩ | ⟨e, l, i, rfl, q1, q2, q3⟩
      · refine ⟨us, q1, q2, ?_, q3⟩
        have := hvarI i (List.mem_of_getElem? q4)
        simp only [gc]
        rw [hb id i q4, ← s1.blk]
        exact this
      · obtain ⟨ti, vs, F, z1, z2, z3, z4, z5⟩ := q1.row
        exact ⟨ti, vs, F, z1, z2, z3, z4, z5, fun x hx => (q1.own x hx).1⟩
    · rcases hobj i o hi with ⟨t, cs, us, rfl, q1, q2, q3, n, q4⟩ | ⟨e, l, n, rfl, q1, q2, q3⟩
      · rcases hobj j p hj with ⟨t', cs', us', rfl, q1', q2', q3', n', q4'⟩ | ⟨e', l', n', rfl, q1', q2', q3'⟩
        · obtain ⟨tx, cx, hx1⟩ := k3 n (List.mem_of_getElem? q4)
          obtain ⟨ty', cy, hy1⟩ := k3 n' (List.mem_of_getElem? q4')
          have hne : n ≠ n' := by
            rintro rfl
            exact hij (nodup_get hn q4 q4')
          simp only [oblk, gc, Option.some.injEq] at hx hx'
          rw [hb i n q4] at hx
          rw [hb j n' q4'] at hx'
          exact h.sep n n' _ _ x hne hx1 hy1 (show oblk g n (.var tx cx) = some x by simp [oblk, hx]) (show oblk g n' (.var ty' cy) = some x by simp [oblk, hx'])
        · obtain ⟨tx, cx, hx1⟩ := hvar1 n (List.mem_of_getElem? q4)
          refine (q1'.own x hx').2.2 n _ hx1 ?_
          simp only [oblk, gc, Option.some.injEq] at hx ⊢
          rw [hb i n q4] at hx
          rw [s1.blk]
          exact hx
      · rcases hobj j p hj with ⟨t', cs', us', rfl, q1', q2', q3', n', q4'⟩ | ⟨e', l', n', rfl, q1', q2', q3'⟩
        · obtain ⟨tx, cx, hx1⟩ := hvar1 n' (List.mem_of_getElem? q4')
          refine (q1.own x hx).2.2 n' _ hx1 ?_
          simp only [oblk, gc, Option.some.injEq] at hx' ⊢
          rw [hb j n' q4'] at hx'
          rw [s1.blk]
          exact hx'
        · rcases Nat.lt_trichotomy n n' with hlt | rfl | hlt
          · exact apart_ne ap (own_data.2 q2) q3 (own_data.2 q2') q3' hlt x hx hx'
          · rw [q2] at q2'
            simp only [Option.some.injEq, K1.own.injEq] at q2'
            exact hij q2'.2
          · exact apart_ne ap (own_data.2 q2') q3' (own_data.2 q2) q3 hlt x hx' hx
    · rcases hobj id o ho with ⟨t, cs, us, rfl, q1, q2, q3, i, q4⟩ | ⟨e, l, i, rfl, q1, q2, q3⟩
      · simp only [oblk, gc, Option.some.injEq] at hx
        exact .inr ⟨i, List.mem_of_getElem? q4, by rw [← hx, s1.blk]; exact hb id i q4⟩
      · exact .inr ⟨i, e, id, _, q2, q3, hx⟩

end
end Go.Proofs.YtljggmbgbnmapaaGreatV
