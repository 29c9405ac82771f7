/- A call, from without: what is handed over. -/
import Derived.Test.YtljggmbgbnmapaaGreatV20
namespace Go.Proofs.YtljggmbgbnmapaaGreatV
open Go
set_option linter.unusedVariables false
set_option linter.unusedSimpArgs false

section
variable {P : Program} {ty : Nat → Option TI} {fn : Nat → Option FI} {cl : Nat → Hint → List DC → Out} {A : An} {w : World}

/-- The slots' values, cell by cell. -/
def Flat : List KC → List Value → List Value → Prop
  | [], [], vs => vs = []
  | .one _ :: ks, u :: us, vs => ∃ r, vs = u :: r ∧ Flat ks us r
  | .agg l :: ks, u :: us, vs => ∃ x r, u = .agg (List.toArray x) ∧ x.length = l.length ∧ vs = x ++ r ∧ Flat ks us r
  | _, _, _ => False

theorem srcT_flat {g : Gh} {H : List HS} : ∀ {ks : List KC} {cs : List C} {p : List S} {us : List Value}, srcT ks cs = some p → us.length = cs.length → (∀ (i : Nat) (c : C) (v : Value), cs[i]? = some c → us[i]? = some v → CR ty g H w c v) →
    ∃ vs : List Value, SRL ty g H w p vs ∧ Flat ks us vs
  | [], [], p, us, e, hl, hc => by
    simp only [srcT, Option.some.injEq] at e
    subst e
    have : us = [] := List.eq_nil_of_length_eq_zero hl
    subst this
    exact ⟨[], trivial, rfl⟩
  | k :: ks, c :: cs, p, us, e, hl, hc => by
    match us, hl with
    | u :: us, hl =>
      have hcs : ∀ (i : Nat) (c : C) (v : Value), cs[i]? = some c → us[i]? = some v → CR ty g H w c v := fun i c v h1 h2 => hc (i + 1) c v h1 h2
      have hl' : us.length = cs.length := by simpa using hl
      have hc0 := hc 0 c u rfl rfl
      unfold srcT at e
      split at e
      · rename_i heq _; simp at heq
      · rename_i ks' c' cs' hk hcc
        simp only [List.cons.injEq] at hk hcc
        obtain ⟨rfl, rfl⟩ := hk
        obtain ⟨rfl, rfl⟩ := hcc
        split at e
        · rename_i r hr
          simp only [Option.some.injEq] at e
          subst e
          obtain ⟨vs, h1, h2⟩ := srcT_flat hr hl' hcs
          exact ⟨u :: vs, ⟨trivial, h1⟩, vs, rfl, h2⟩
        · simp at e
      · rename_i k1 ks' s cs' _ hk hcc
        simp only [List.cons.injEq] at hk hcc
        obtain ⟨rfl, rfl⟩ := hk
        obtain ⟨rfl, rfl⟩ := hcc
        split at e
        · rename_i r hr
          simp only [Option.some.injEq] at e
          subst e
          obtain ⟨vs, h1, h2⟩ := srcT_flat hr hl' hcs
          exact ⟨u :: vs, ⟨hc0, h1⟩, vs, rfl, h2⟩
        · simp at e
      · rename_i l ks' ss cs' hk hcc
        simp only [List.cons.injEq] at hk hcc
        obtain ⟨rfl, rfl⟩ := hk
        obtain ⟨rfl, rfl⟩ := hcc
        split at e
        · rename_i hlen
          split at e
          · rename_i r hr
            simp only [Option.some.injEq] at e
            subst e
            obtain ⟨xs, hx, hs⟩ := hc0
            obtain ⟨vs, h1, h2⟩ := srcT_flat hr hl' hcs
            exact ⟨xs ++ vs, hs.append h1, xs, vs, hx, by rw [hs.length, hlen], rfl, h2⟩
          · simp at e
        · simp at e
      · simp at e
  | [], _ :: _, _, _, e, _, _ => by simp [srcT] at e
  | .one _ :: _, [], _, _, e, _, _ => by simp [srcT] at e
  | .agg _ :: _, [], _, _, e, _, _ => by simp [srcT] at e

theorem Flat.data : ∀ {ks : List KC} {us vs : List Value}, Flat (ks.map KC.data) us vs → Flat ks us vs
  | [], [], vs, h => h
  | .one k :: ks, u :: us, vs, ⟨r, h1, h2⟩ => ⟨r, h1, Flat.data h2⟩
  | .agg l :: ks, u :: us, vs, ⟨x, r, h1, h2, h3, h4⟩ => ⟨x, r, h1, by simpa using h2, h3, Flat.data h4⟩
  | [], _ :: _, _, h => h.elim
  | .one _ :: _, [], _, h => h.elim
  | .agg _ :: _, [], _, h => h.elim

theorem Flat.length : ∀ {ks : List KC} {us vs : List Value}, Flat ks us vs → us.length = ks.length ∧ vs.length = (ks.flatMap KC.kinds).length
  | [], [], vs, h => by rw [show vs = [] from h]; exact ⟨rfl, rfl⟩
  | .one k :: ks, u :: us, vs, ⟨r, h1, h2⟩ => by
    obtain ⟨a, b⟩ := Flat.length h2
    subst h1
    exact ⟨by simp [a], by simp [KC.kinds, b]⟩
  | .agg l :: ks, u :: us, vs, ⟨x, r, h1, h2, h3, h4⟩ => by
    obtain ⟨a, b⟩ := Flat.length h4
    subst h3
    exact ⟨by simp [a], by simp [KC.kinds, b, h2]⟩
  | [], _ :: _, _, h => h.elim
  | .one _ :: _, [], _, h => h.elim
  | .agg _ :: _, [], _, h => h.elim

theorem Flat.mkT {g : Gh} {H : List HS} (v : List DC) : ∀ {ks : List KC} {us vs : List Value} (n : Nat), Flat ks us vs → SRL ty g H w (mkL v n (ks.flatMap KC.kinds)) vs →
    (mkT v n ks).length = us.length ∧ ∀ (i : Nat) (c : C) (u : Value), (Go.Proofs.YtljggmbgbnmapaaGreatV.mkT v n ks)[i]? = some c → us[i]? = some u → CR ty g H w c u
  | [], [], vs, n, _, _ => ⟨rfl, fun i c u hi => by simp [Go.Proofs.YtljggmbgbnmapaaGreatV.mkT] at hi⟩
  | .one k :: ks, u :: us, vs, n, ⟨r, h1, h2⟩, hs => by
    subst h1
    simp only [List.flatMap_cons, KC.kinds, List.singleton_append, mkL] at hs
    obtain ⟨q1, q2⟩ := Flat.mkT v (n + k.cnt) h2 hs.2
    refine ⟨by simp [Go.Proofs.YtljggmbgbnmapaaGreatV.mkT, q1], fun i c u' hi hu => ?_⟩
    cases i with
    | zero =>
      simp only [Go.Proofs.YtljggmbgbnmapaaGreatV.mkT, List.getElem?_cons_zero, Option.some.injEq] at hi hu
      subst hi
      subst hu
      exact hs.1
    | succ i =>
      simp only [Go.Proofs.YtljggmbgbnmapaaGreatV.mkT, List.getElem?_cons_succ] at hi hu
      exact q2 i c u' hi hu
  | .agg l :: ks, u :: us, vs, n, ⟨x, r, h1, h2, h3, h4⟩, hs => by
    subst h3
    simp only [List.flatMap_cons, KC.kinds, mkL_append] at hs
    obtain ⟨hh1, hh2⟩ := hs.unappend (by rw [mkL_length, h2])
    obtain ⟨q1, q2⟩ := Flat.mkT v _ h4 hh2
    refine ⟨by simp [Go.Proofs.YtljggmbgbnmapaaGreatV.mkT, q1], fun i c u' hi hu => ?_⟩
    cases i with
    | zero =>
      simp only [Go.Proofs.YtljggmbgbnmapaaGreatV.mkT, List.getElem?_cons_zero, Option.some.injEq] at hi hu
      subst hi
      subst hu
      exact ⟨x, h1, hh1⟩
    | succ i =>
      simp only [Go.Proofs.YtljggmbgbnmapaaGreatV.mkT, List.getElem?_cons_succ] at hi hu
      exact q2 i c u' hi hu
  | [], _ :: _, _, _, h, _ => h.elim
  | .one _ :: _, [], _, _, h, _ => h.elim
  | .agg _ :: _, [], _, _, h, _ => h.elim

/-- What an address or a function among the arguments is. -/
def PF (ty : Nat → Option TI) (g : Gh) (H : List HS) (w : World) (ids : List Nat) (ks : List K1) (vs : List Value) : Prop :=
  ∀ (i : Nat) (k : K1) (u : Value), ks[i]? = some k → vs[i]? = some u →
    (∀ m off, k = .ptr m off → off = 0 ∧ ∃ id, ids[m]? = some id ∧ SR ty g H w (.ptr id 0) u) ∧
    (∀ f caps, k = .fn f caps → ∃ caps0 : List Nat, SR ty g H w (.fn f caps0) u ∧ caps.length = caps0.length ∧ ∀ (j m : Nat), caps[j]? = some m → ids[m]? = caps0[j]?)

theorem CT.k1_plain (t : CT) : (∀ m off, t.k1 ≠ .ptr m off) ∧ (∀ f caps, t.k1 ≠ .fn f caps) ∧ t.k1.data = t.k1 ∧ t.k1.cnt = 1 ∧ t.k1.ids = [] ∧ t.k1.pids = [] := by
  cases t <;> exact ⟨fun _ _ h => by simp [CT.k1] at h, fun _ _ h => by simp [CT.k1] at h, rfl, rfl, rfl, rfl⟩

theorem argK_pf {g : Gh} {H : List HS} {ids : List Nat} : ∀ {ps : List PK} {cs : List C} {n r : Nat} {kcs : List KC} {us vs : List Value}, argK n r ps cs = some kcs → Flat kcs us vs →
    (∀ (i : Nat) (c : C) (v : Value), cs[i]? = some c → us[i]? = some v → CR ty g H w c v) → (∀ (j id : Nat), (argIds ps cs)[j]? = some id → ids[n + j]? = some id) → PF ty g H w ids (kcs.flatMap KC.kinds) vs
  | [], [], n, r, kcs, us, vs, e, hf, hc, hi => by
    simp only [argK, Option.some.injEq] at e
    subst e
    intro i k u h
    simp at h
  | p :: ps, c :: cs, n, r, kcs, us, vs, e, hf, hc, hi => by
    -- one slot of one kind
    have one : ∀ (k1 : K1) (n' r' : Nat) (l : List KC), argK n' r' ps cs = some l → kcs = .one k1 :: l → (∀ (j id : Nat), (argIds ps cs)[j]? = some id → ids[n' + j]? = some id) →
        (∀ u, CR ty g H w c u → (∀ m off, k1 = .ptr m off → off = 0 ∧ ∃ id, ids[m]? = some id ∧ SR ty g H w (.ptr id 0) u) ∧
          (∀ f caps, k1 = .fn f caps → ∃ caps0 : List Nat, SR ty g H w (.fn f caps0) u ∧ caps.length = caps0.length ∧ ∀ (j m : Nat), caps[j]? = some m → ids[m]? = caps0[j]?)) →
        PF ty g H w ids (kcs.flatMap KC.kinds) vs := by
      intro k1 n' r' l hl hk hids hk1
      subst hk
      match us, hf with
      | u :: us, ⟨rr, h1, h2⟩ =>
        subst h1
        have ih := argK_pf hl h2 (fun i c v a b => hc (i + 1) c v a b) hids
        intro i k x hik hix
        simp only [List.flatMap_cons, KC.kinds, List.singleton_append] at hik
        cases i with
        | zero =>
          simp only [List.getElem?_cons_zero, Option.some.injEq] at hik hix
          subst hik
          subst hix
          exact hk1 u (hc 0 c u rfl rfl)
        | succ i =>
          simp only [List.getElem?_cons_succ] at hik hix
          exact ih i k x hik hix
    cases p with
    | ct t =>
      simp only [argK] at e
      split at e
      · rename_i l hl
        simp only [Option.some.injEq] at e
        refine one t.k1 n r l hl e.symm (by simpa [argIds] using hi) fun u _ => ⟨fun m off h => absurd h ((CT.k1_plain t).1 m off), fun f caps h => absurd h ((CT.k1_plain t).2.1 f caps)⟩
      · simp at e
    | ag ts =>
      simp only [argK] at e
      split at e
      · rename_i l hl
        simp only [Option.some.injEq] at e
        subst e
        match us, hf with
        | u :: us, ⟨x, rr, h1, h2, h3, h4⟩ =>
          subst h3
          have ih := argK_pf hl h4 (fun i c v a b => hc (i + 1) c v a b) (by simpa [argIds] using hi)
          intro i k y hik hiy
          simp only [List.flatMap_cons, KC.kinds] at hik
          have hlen : (ts.map CT.k1).length = x.length := h2.symm
          by_cases hlt : i < x.length
          · rw [List.getElem?_append_left (by omega), List.getElem?_map] at hik
            cases ht : ts[i]? with
            | none => rw [ht] at hik; simp at hik
            | some t =>
              rw [ht] at hik
              simp only [Option.map_some, Option.some.injEq] at hik
              subst hik
              exact ⟨fun m off h => absurd h ((CT.k1_plain t).1 m off), fun f caps h => absurd h ((CT.k1_plain t).2.1 f caps)⟩
          · rw [List.getElem?_append_right (by omega)] at hik hiy
            rw [hlen] at hik
            exact ih _ k y hik hiy
      · simp at e
    | mv el =>
      simp only [argK] at e
      split at e
      · rename_i l hl
        simp only [Option.some.injEq] at e
        exact one (.own el r) n (r + 1) l hl e.symm (by simpa [argIds] using hi) fun u _ => ⟨fun m off h => by simp at h, fun f caps h => by simp at h⟩
      · simp at e
    | ptr =>
      cases c with
      | one s =>
        cases s with
        | ptr id0 off0 =>
          cases off0 with
          | succ _ => simp [argK] at e
          | zero =>
            simp only [argK] at e
            split at e
            · rename_i l hl
              simp only [Option.some.injEq] at e
              refine one (.ptr n 0) (n + 1) r l hl e.symm (fun j id hj => ?_) fun u hu => ⟨fun m off h => ?_, fun f caps h => by simp at h⟩
              · rw [Nat.add_assoc, Nat.add_comm 1 j]
                exact hi (j + 1) id (by simpa [argIds] using hj)
              · simp only [K1.ptr.injEq] at h
                obtain ⟨rfl, rfl⟩ := h
                exact ⟨rfl, id0, by have := hi 0 id0 (by simp [argIds]); simpa using this, hu⟩
            · simp at e
        | _ => simp [argK] at e
      | _ => simp [argK] at e
    | fn =>
      cases c with
      | one s =>
        cases s with
        | fn f0 caps0 =>
          simp only [argK] at e
          split at e
          · rename_i l hl
            simp only [Option.some.injEq] at e
            refine one (.fn f0 (List.range' n caps0.length)) (n + caps0.length) r l hl e.symm (fun j id hj => ?_) fun u hu => ⟨fun m off h => by simp at h, fun f caps h => ?_⟩
            · rw [Nat.add_assoc]
              exact hi (caps0.length + j) id (by simp only [argIds]; rw [List.getElem?_append_right (by omega), Nat.add_sub_cancel_left]; exact hj)
            · simp only [K1.fn.injEq] at h
              obtain ⟨rfl, rfl⟩ := h
              refine ⟨caps0, hu, by simp, fun j m hj => ?_⟩
              have hjl : j < caps0.length := by
                rcases Nat.lt_or_ge j caps0.length with h' | h'
                · exact h'
                · rw [List.getElem?_eq_none (by simpa using h')] at hj; simp at hj
              rw [List.getElem?_range' hjl] at hj
              simp only [Nat.one_mul, Option.some.injEq] at hj
              rw [← hj, List.getElem?_eq_getElem hjl]
              exact hi j _ (by simp only [argIds]; rw [List.getElem?_append_left hjl, List.getElem?_eq_getElem hjl])
          · simp at e
        | _ => simp [argK] at e
      | _ => simp [argK] at e
  | [], _ :: _, _, _, _, _, _, e, _, _, _ => by simp [argK] at e
  | p :: _, [], _, _, _, _, _, e, _, _, _ => by cases p <;> simp [argK] at e

theorem objK_ok {H : List HS} : ∀ {ids : List Nat} {kos : List KO}, objK ty H ids = some kos → kos.length = ids.length ∧ (∀ (j : Nat) (k : KO), kos[j]? = some k → ∃ t l, k = .var t l) ∧ (∀ id ∈ ids, isVar H id) ∧ ∀ k ∈ kos.flatMap KO.kinds, ∃ t : CT, k = t.k1
  | [], kos, e => by
    simp only [objK, Option.some.injEq] at e
    subst e
    exact ⟨rfl, fun j k h => by simp at h, fun _ h => by simp at h, fun _ h => by simp at h⟩
  | id :: ids, kos, e => by
    simp only [objK] at e
    split at e
    · rename_i t cs hv
      split at e
      · rename_i ti l hti hl
        simp only [Option.some.injEq] at e
        subst e
        obtain ⟨h1, h2, h3, h4⟩ := objK_ok hl
        refine ⟨by simp [h1], fun j k hj => ?_, fun i hi => ?_, fun k hk => ?_⟩
        · cases j with
          | zero => simp only [List.getElem?_cons_zero, Option.some.injEq] at hj; exact ⟨_, _, hj.symm⟩
          | succ j => exact h2 j k (by simpa using hj)
        · rcases List.mem_cons.1 hi with rfl | hi
          · exact ⟨_, _, hv⟩
          · exact h3 i hi
        · simp only [List.flatMap_cons, List.mem_append, KO.kinds, List.mem_map] at hk
          rcases hk with ⟨t, _, rfl⟩ | hk
          · exact ⟨t, rfl⟩
          · exact h4 k hk
      · simp at e
    · simp at e

theorem vars_all : ∀ {kos : List KO} (n : Nat), (∀ (j : Nat) (k : KO), kos[j]? = some k → ∃ t l, k = .var t l) → KO.vars (kos ++ List.replicate n .u) = kos
  | [], n, _ => by
    cases n <;> simp [KO.vars, List.replicate_succ]
  | k :: kos, n, h => by
    obtain ⟨t, l, rfl⟩ := h 0 k rfl
    rw [List.cons_append, KO.vars, vars_all n fun j k hj => h (j + 1) k (by simpa using hj)]

/-- The variables' cells, in memory. -/
theorem srcV_ok {g : Gh} {H : List HS} {tm : List C} {a : Act} (h : Rel ty A g ⟨tm, H⟩ a w) (b : Nat → Nat) : ∀ {ids : List Nat} {kos : List KO} {q : List S} {j0 : Nat}, srcV H ids kos = some q → (∀ j id, ids[j]? = some id → b (j0 + j) = g.blk id) →
    ∃ us, SRL ty g H w q us ∧ OV w b j0 kos us ∧ us.length = (kos.flatMap KO.kinds).length
  | [], [], q, j0, e, hb => by
    simp only [srcV, Option.some.injEq] at e
    subst e
    exact ⟨[], trivial, rfl, rfl⟩
  | id :: ids, .var t l :: kos, q, j0, e, hb => by
    simp only [srcV] at e
    split at e
    · rename_i t' cs hv
      split at e
      · rename_i hc
        obtain ⟨rfl, hc⟩ := hc
        split at e
        · rename_i r hr
          simp only [Option.some.injEq] at e
          subst e
          obtain ⟨us, h1, h2, h3⟩ := srcV_ok h b (j0 := j0 + 1) hr fun j i hj => by
            have := hb (j + 1) i (by simpa using hj)
            rw [show j0 + 1 + j = j0 + (j + 1) by omega]
            exact this
          obtain ⟨xs, k1, k2, k3, k4⟩ := h.ob id _ hv
          have := hb 0 id rfl
          rw [Nat.add_zero] at this
          exact ⟨xs ++ us, k2.append h1, ⟨xs, us, rfl, by rw [k2.length, hc], by rw [this]; exact k1, k4, h2⟩, by simp [KO.kinds, h3, k2.length, hc]⟩
        · simp at e
      · simp at e
    · simp at e
  | [], _ :: _, _, _, e, _ => by simp [srcV] at e
  | _ :: _, [], _, _, e, _ => by simp [srcV] at e
  | _ :: _, .u :: _, _, _, e, _ => by simp [srcV] at e

theorem mkO_ov {g : Gh} {H : List HS} (b : Nat → Nat) (v : List DC) (ks0 : List K1) (rest : List KO) : ∀ {kos : List KO} {us : List Value} {j0 n id : Nat}, OV w b j0 kos us → SRL ty g H w (mkL v n (kos.flatMap KO.kinds)) us →
    ∀ (i t : Nat) (cs : List S), i < kos.length → (mkO v ks0 n id (kos ++ rest))[i]? = some (.live (.var t cs)) → ∃ us' : List Value, w.heap[b (j0 + i)]? = some (.cells us'.toArray t (0, 0)) ∧ SRL ty g H w cs us' ∧ ∀ u ∈ us', u.oneCell' = true
  | [], us, j0, n, id, _, _, i, t, cs, hi, _ => by simp at hi
  | .var t l :: kos, us, j0, n, id, ⟨u1, u2, h1, h2, h3, h4, h5⟩, hs, i, t', cs, hi, hg => by
    subst h1
    simp only [List.flatMap_cons, KO.kinds, mkL_append] at hs
    obtain ⟨hh1, hh2⟩ := hs.unappend (by rw [mkL_length, h2])
    cases i with
    | zero =>
      simp only [List.cons_append, mkO, List.getElem?_cons_zero, Option.some.injEq, HS.live.injEq, Obj'.var.injEq] at hg
      obtain ⟨rfl, rfl⟩ := hg
      exact ⟨u1, h3, hh1, h4⟩
    | succ i =>
      rw [show j0 + (i + 1) = j0 + 1 + i by omega]
      exact mkO_ov b v ks0 rest h5 hh2 i t' cs (by simpa using hi) (by simpa [mkO] using hg)
  | .u :: _, _, _, _, _, h, _, _, _, _, _, _ => h.elim

theorem data_cnt (k : K1) : k.data.cnt = k.cnt := by cases k <;> rfl

/-- The cells of a callee's begin stand to the values. -/
theorem FL_srl2 {g g' : Gh} {H0 H H' : List HS} {v : List DC} (hI : ∀ b, g.I b → g'.I b) : ∀ {n : Nat} {ks : List K1} {us : List Value}, FL ty A g H0 H w v n (ks.map K1.data) us →
    (∀ (i e id : Nat) (u : Value), ks[i]? = some (.own e id) → us[i]? = some u → nf H' id ∧ g'.val id = u) →
    (∀ (i m off : Nat) (u : Value), ks[i]? = some (.ptr m off) → us[i]? = some u → SR ty g' H' w (.ptr m off) u) →
    (∀ (i f : Nat) (caps : List Nat) (u : Value), ks[i]? = some (.fn f caps) → us[i]? = some u → SR ty g' H' w (.fn f caps) u) → SRL ty g' H' w (mkL v n ks) us
  | _, [], [], _, _, _, _ => trivial
  | n, k :: ks, u :: us, ⟨⟨dd, hd, hv, hn⟩, hf⟩, ho, hp, hfn => by
    have hf' : FL ty A g H0 H w v (n + k.cnt) (ks.map K1.data) us := by rw [← data_cnt]; exact hf
    refine ⟨?_, FL_srl2 hI hf' (fun i e id x h1 h2 => ho (i + 1) e id x (by simpa using h1) (by simpa using h2)) (fun i m off x h1 h2 => hp (i + 1) m off x (by simpa using h1) (by simpa using h2))
      (fun i f caps x h1 h2 => hfn (i + 1) f caps x (by simpa using h1) (by simpa using h2))⟩
    have h0 : 0 < k.data.cnt → v.getD n d0 = dd.getD 0 d0 := fun h => by simpa using hv 0 h
    cases k with
    | u => trivial
    | b =>
      obtain ⟨x, rfl, rfl⟩ := hn
      simp only [K1.mk, SR]
      rw [h0 (by simp [K1.cnt, K1.data])]
      rfl
    | i kd =>
      obtain ⟨x, rfl, rfl⟩ := hn
      simp only [K1.mk, SR]
      rw [h0 (by simp [K1.cnt, K1.data])]
      rfl
    | s =>
      obtain ⟨x, rfl, rfl⟩ := hn
      simp only [K1.mk, SR]
      rw [h0 (by simp [K1.cnt, K1.data])]
      rfl
    | sl e =>
      obtain ⟨l, F, rfl, h1, h2⟩ := hn
      simp only [K1.mk, SR]
      rw [h0 (by simp [K1.cnt, K1.data])]
      exact ⟨F, h1, fun b hb => hI b (h2 b hb)⟩
    | own e id =>
      obtain ⟨l, rfl, hl⟩ := hn
      obtain ⟨h1, h2⟩ := ho 0 e id u rfl rfl
      obtain ⟨ti, vs, F, _, _, h3, _⟩ := hl.row
      exact ⟨h1, ownsRow_one h3, fun _ => h2.symm⟩
    | ptr m off => exact hp 0 m off u rfl rfl
    | fn f caps => exact hfn 0 f caps u rfl rfl
    | nil => exact hn.2
  | _, [], _ :: _, h, _, _, _ => h.elim
  | _, _ :: _, [], h, _, _, _ => h.elim

theorem ownAt_data (v : List DC) (id : Nat) : ∀ (n : Nat) (ks : List K1), ownAt v id n (ks.map K1.data) = ownAt v id n ks
  | n, [] => rfl
  | n, k :: ks => by
    cases k <;> simp only [List.map_cons, K1.data, ownAt, K1.cnt, ownAt_data v id]
theorem valAt_data (id : Nat) : ∀ (ks : List K1) (us : List Value), valAt id (ks.map K1.data) us = valAt id ks us
  | [], us => rfl
  | k :: ks, [] => by cases k <;> rfl
  | k :: ks, u :: us => by cases k <;> simp only [List.map_cons, K1.data, valAt, valAt_data id ks us]
theorem own_data {ks : List K1} {i e id : Nat} : (ks.map K1.data)[i]? = some (.own e id) ↔ ks[i]? = some (.own e id) := by
  rw [List.getElem?_map]
  cases h : ks[i]? with
  | none => simp
  | some k => cases k <;> simp [K1.data]

end
end Go.Proofs.YtljggmbgbnmapaaGreatV
