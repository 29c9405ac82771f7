/- A call, from without: what comes back. -/
import Derived.Test.YtljggmbgbnmapaaGreatV22
namespace Go.Proofs.YtljggmbgbnmapaaGreatV
open Go
set_option linter.unusedVariables false
set_option linter.unusedSimpArgs false

section
variable {P : Program} {ty : Nat → Option TI} {fn : Nat → Option FI} {cl : Nat → Hint → List DC → Out} {A : An} {w : World}

theorem FL_split {g : Gh} {H0 H : List HS} {v : List DC} : ∀ {n : Nat} {ks ks' : List K1} {us us' : List Value}, FL ty A g H0 H w v n (ks ++ ks') (us ++ us') → us.length = ks.length → FL ty A g H0 H w v n ks us ∧ FL ty A g H0 H w v (n + cntL ks) ks' us'
  | n, [], ks', [], us', h, _ => ⟨trivial, h⟩
  | n, k :: ks, ks', u :: us, us', ⟨h1, h2⟩, hl => by
    obtain ⟨a, b⟩ := FL_split (ks := ks) (us := us) h2 (by simpa using hl)
    exact ⟨⟨h1, a⟩, by rw [cntL, ← Nat.add_assoc]; exact b⟩
  | _, [], _, _ :: _, _, _, hl => by simp at hl
  | _, _ :: _, _, [], _, _, hl => by simp at hl

theorem rkK_cnt (r : RK) (i : Nat) : (r.k1 i).cnt = 1 := by
  cases r with
  | ct c => cases c <;> rfl
  | new e => rfl

theorem rkK_len : ∀ (l : List RK) (i : Nat), (rkK i l).length = l.length ∧ cntL (rkK i l) = l.length
  | [], i => ⟨rfl, rfl⟩
  | r :: l, i => by
    obtain ⟨a, b⟩ := rkK_len l (r.nx i)
    exact ⟨by simp [rkK, a], by simp [rkK, cntL, b, rkK_cnt]; omega⟩

theorem rkK_append : ∀ (l m : List RK) (i : Nat), rkK i (l ++ m) = rkK i l ++ rkK (rkN i l) m
  | [], m, i => rfl
  | r :: l, m, i => by simp [rkK, rkN, rkK_append l m (r.nx i)]

theorem FL_rk {g : Gh} {H0 H : List HS} {v : List DC} {X : List K1} : ∀ {L : List RK} {i j n : Nat} {us : List Value}, FL ty A g H0 H w v n (rkK i L ++ X) us → FL ty A g H0 H w v n (rkK j L ++ X) us
  | [], i, j, n, us, h => h
  | r :: L, i, j, n, [], h => h.elim
  | r :: L, i, j, n, u :: us, h => by
    simp only [rkK, List.cons_append] at h ⊢
    obtain ⟨⟨dd, h1, h2, h3⟩, h4⟩ := h
    rw [rkK_cnt] at h1 h2 h4
    refine ⟨⟨dd, by rw [rkK_cnt]; exact h1, by rw [rkK_cnt]; exact h2, ?_⟩, by rw [rkK_cnt]; exact FL_rk h4⟩
    cases r with
    | ct c => exact h3
    | new e => exact h3

theorem own_rk {X : List K1} : ∀ {L : List RK} {i j n e id : Nat}, (rkK i L ++ X)[n]? = some (.own e id) → ∃ id', (rkK j L ++ X)[n]? = some (.own e id')
  | [], i, j, n, e, id, h => ⟨id, h⟩
  | r :: L, i, j, 0, e, id, h => by
    simp only [rkK, List.cons_append, List.getElem?_cons_zero, Option.some.injEq] at h ⊢
    cases r with
    | ct c => cases c <;> simp [RK.k1, CT.k1] at h
    | new e' =>
      simp only [RK.k1, K1.own.injEq] at h ⊢
      exact ⟨j, h.1, rfl⟩
  | r :: L, i, j, n + 1, e, id, h => by
    simp only [rkK, List.cons_append, List.getElem?_cons_succ] at h ⊢
    exact own_rk h

theorem Apart_rk {X : List K1} : ∀ {L : List RK} {i j : Nat} {us : List Value}, Apart (rkK i L ++ X) us → Apart (rkK j L ++ X) us
  | [], i, j, us, h => h
  | r :: L, i, j, [], h => by
    simp only [rkK, List.cons_append]
    cases r with
    | ct c => cases c <;> trivial
    | new e => trivial
  | r :: L, i, j, u :: us, h => by
    simp only [rkK, List.cons_append] at h ⊢
    cases r with
    | ct c => cases c <;> exact Apart_rk (i := i) (j := j) h
    | new e =>
      refine ⟨fun b hb n e' id x hn hx => ?_, Apart_rk (i := i + 1) h.2⟩
      obtain ⟨id', hn'⟩ := own_rk (j := i + 1) hn
      exact h.1 b hb n e' id' x hn' hx

theorem rkK_kind : ∀ {L : List RK} {i : Nat} {k : K1}, k ∈ rkK i L → (∃ t : CT, k = t.k1) ∨ ∃ e id, k = .own e id
  | [], i, k, h => by simp [rkK] at h
  | r :: L, i, k, h => by
    simp only [rkK, List.mem_cons] at h
    rcases h with rfl | h
    · cases r with
      | ct c => exact .inl ⟨c, rfl⟩
      | new e => exact .inr ⟨e, i, rfl⟩
    · exact rkK_kind h

theorem map_data_rk {ks : List K1} (h : ∀ k ∈ ks, (∃ t : CT, k = t.k1) ∨ ∃ e id, k = .own e id) : ks.map K1.data = ks := by
  induction ks with
  | nil => rfl
  | cons k ks ih =>
    rw [List.map_cons, ih fun k hk => h k (by simp [hk])]
    rcases h k (by simp) with ⟨t, rfl⟩ | ⟨e, id, rfl⟩
    · rw [(CT.k1_plain t).2.2.1]
    · rfl

theorem putRows_get (v : List DC) : ∀ {ks : List K1} {n : Nat} {H H2 : List HS}, putRows v n ks H = some H2 →
    nodupB (ks.flatMap K1.ids) = true ∧ (∀ id ∈ ks.flatMap K1.ids, getH H id = .free ∧ getH H2 id = ownAt v id n ks) ∧ ∀ id, id ∉ ks.flatMap K1.ids → getH H2 id = getH H id
  | [], n, H, H2, e => by
    simp only [putRows, Option.some.injEq] at e
    subst e
    exact ⟨rfl, fun id h => by simp at h, fun id _ => rfl⟩
  | k :: ks, n, H, H2, e => by
    have other : putRows v (n + k.cnt) ks H = some H2 → k.ids = [] → (∀ id, ownAt v id n (k :: ks) = ownAt v id (n + k.cnt) ks) →
        nodupB ((k :: ks).flatMap K1.ids) = true ∧ (∀ id ∈ (k :: ks).flatMap K1.ids, getH H id = .free ∧ getH H2 id = ownAt v id n (k :: ks)) ∧ ∀ id, id ∉ (k :: ks).flatMap K1.ids → getH H2 id = getH H id := by
      intro h1 h2 h3
      obtain ⟨a, b, c⟩ := putRows_get v h1
      rw [List.flatMap_cons, h2, List.nil_append]
      exact ⟨a, fun id hid => ⟨(b id hid).1, by rw [h3]; exact (b id hid).2⟩, c⟩
    cases k with
    | own e' id0 =>
      simp only [putRows] at e
      split at e
      · rename_i hf
        obtain ⟨a, b, c⟩ := putRows_get v e
        have hlt := getH_lt_free hf
        have hnot : id0 ∉ ks.flatMap K1.ids := by
          intro hmem
          have := (b id0 hmem).1
          rw [getH_set_same _ hlt] at this
          simp at this
        have hne : ∀ id ∈ ks.flatMap K1.ids, id0 ≠ id := fun id hid h => hnot (h ▸ hid)
        refine ⟨?_, fun id hid => ?_, fun id hid => ?_⟩
        · simp only [List.flatMap_cons, K1.ids, List.singleton_append, nodupB, Bool.and_eq_true, Bool.not_eq_true', List.contains_eq_mem, decide_eq_false_iff_not]
          exact ⟨hnot, a⟩
        · simp only [List.flatMap_cons, K1.ids, List.singleton_append, List.mem_cons] at hid
          rcases hid with rfl | hid
          · refine ⟨hf, ?_⟩
            rw [c id hnot, getH_set_same _ hlt, ownAt, if_pos rfl]
          · obtain ⟨b1, b2⟩ := b id hid
            rw [getH_set_ne _ (hne id hid)] at b1
            refine ⟨b1, ?_⟩
            rw [b2, ownAt, if_neg (hne id hid)]
        · simp only [List.flatMap_cons, K1.ids, List.singleton_append, List.mem_cons, not_or] at hid
          rw [c id hid.2, getH_set_ne _ fun h => hid.1 h.symm]
      · simp at e
    | _ => exact other e rfl fun _ => rfl

theorem putVars_other (v : List DC) : ∀ {ids : List Nat} {kos : List KO} {n : Nat} {H : List HS} {id : Nat}, id ∉ ids → getH (putVars v n ids kos H) id = getH H id
  | [], kos, n, H, id, _ => by cases kos <;> rfl
  | i :: ids, [], n, H, id, _ => rfl
  | i :: ids, .u :: kos, n, H, id, _ => rfl
  | i :: ids, .var t l :: kos, n, H, id, h => by
    simp only [List.mem_cons, not_or] at h
    rw [putVars, putVars_other v h.2, getH_set_ne _ fun k => h.1 k.symm]

theorem putVars_len (v : List DC) : ∀ {ids : List Nat} {kos : List KO} {n : Nat} {H : List HS}, (putVars v n ids kos H).length = H.length
  | [], kos, n, H => by cases kos <;> rfl
  | i :: ids, [], n, H => rfl
  | i :: ids, .u :: kos, n, H => rfl
  | i :: ids, .var t l :: kos, n, H => by rw [putVars, putVars_len]; simp [setH]

theorem putVars_get (v : List DC) {g : Gh} {H' : List HS} (b blk : Nat → Nat) : ∀ {ids : List Nat} {kos : List KO} {n j0 : Nat} {H : List HS} {us : List Value}, nodupB ids = true → OV w b j0 kos us → SRL ty g H' w (mkL v n (kos.flatMap KO.kinds)) us →
    (∀ j id, ids[j]? = some id → b (j0 + j) = blk id) → kos.length = ids.length → (∀ id ∈ ids, id < H.length) →
    ∀ id ∈ ids, ∃ (t : Nat) (cs : List S) (us' : List Value), getH (putVars v n ids kos H) id = .live (.var t cs) ∧ w.heap[blk id]? = some (.cells us'.toArray t (0, 0)) ∧ SRL ty g H' w cs us' ∧ ∀ u ∈ us', u.oneCell' = true
  | [], kos, n, j0, H, us, _, _, _, _, _, _ => fun id h => by simp at h
  | i :: ids, [], n, j0, H, us, _, _, _, _, hl, _ => by simp at hl
  | i :: ids, .u :: kos, n, j0, H, us, _, h, _, _, _, _ => h.elim
  | i :: ids, .var t l :: kos, n, j0, H, us, hn, ⟨u1, u2, h1, h2, h3, h4, h5⟩, hs, hb, hl, hlt => by
    subst h1
    simp only [List.flatMap_cons, KO.kinds, mkL_append] at hs
    obtain ⟨hh1, hh2⟩ := hs.unappend (by rw [mkL_length, h2])
    obtain ⟨n1, n2⟩ := nodupB_cons hn
    intro id hid
    rcases List.mem_cons.1 hid with rfl | hid
    · refine ⟨t, mkL v n l, u1, ?_, ?_, hh1, h4⟩
      · rw [putVars, putVars_other v n1, getH_set_same _ (hlt id (by simp))]
      · have := hb 0 id rfl
        rw [Nat.add_zero] at this
        rw [← this]
        exact h3
    · rw [putVars]
      exact putVars_get v b blk n2 h5 hh2 (fun j k hj => by
        have := hb (j + 1) k (by simpa using hj)
        rw [show j0 + 1 + j = j0 + (j + 1) by omega]
        exact this) (by simpa using hl) (fun k hk => by simp only [setH, List.length_set]; exact hlt k (by simp [hk])) id hid

/-- The results, as slots. -/
theorem resT_ok {g : Gh} {H : List HS} (v : List DC) : ∀ {rk : List (Bool × List RK)} {vs us : List Value} {n id : Nat}, RVs rk vs us → SRL ty g H w (mkL v n (rkK id (rk.flatMap Prod.snd))) us →
    vs.length = (resT v n id rk).length ∧ ∀ (i : Nat) (a : Bool) (ss : List S) (u : Value), (resT v n id rk)[i]? = some (a, ss) → vs[i]? = some u →
      (a = true → ∃ us : List Value, u = .agg us.toArray ∧ SRL ty g H w ss us) ∧ (a = false → SR ty g H w (ss.headD .undef) u)
  | [], [], us, n, id, _, _ => ⟨rfl, fun i a ss u h => by simp [resT] at h⟩
  | (a, l) :: rk, x :: vs, us, n, id, ⟨u1, u2, h1, h2, h3, h4, h5⟩, hs => by
    subst h1
    simp only [List.flatMap_cons, rkK_append, mkL_append, (rkK_len l id).2] at hs
    obtain ⟨hh1, hh2⟩ := hs.unappend (by rw [mkL_length, (rkK_len l id).1, h2])
    obtain ⟨q1, q2⟩ := resT_ok v h5 hh2
    refine ⟨by simp [resT, q1], fun i a' ss u hi hu => ?_⟩
    cases i with
    | zero =>
      simp only [resT, List.getElem?_cons_zero, Option.some.injEq, Prod.mk.injEq] at hi hu
      obtain ⟨rfl, rfl⟩ := hi
      subst hu
      refine ⟨fun ha => ⟨u1, h3 ha, hh1⟩, fun ha => ?_⟩
      have := h4 ha
      subst this
      exact hh1.head
    | succ i =>
      simp only [resT, List.getElem?_cons_succ] at hi hu
      exact q2 i a' ss u hi hu
  | [], _ :: _, _, _, _, h, _ => h.elim
  | _ :: _, [], _, _, _, h, _ => h.elim

theorem resC_ok {g : Gh} {H : List HS} (v : List DC) {rk : List (Bool × List RK)} {vs us : List Value} {id : Nat} (h : RVs rk vs us) (hs : SRL ty g H w (mkL v 0 (rkAll id rk)) us) : CR ty g H w (resC v id rk) (resVal vs) := by
  obtain ⟨q1, q2⟩ := resT_ok v h hs
  match rk, vs, h with
  | [(a, l)], [x], h =>
    obtain ⟨h3, h4⟩ := q2 0 a (mkL v 0 (rkK id l)) x rfl rfl
    simp only [resC, resVal]
    cases a with
    | true =>
      obtain ⟨us, k1, k2⟩ := h3 rfl
      exact ⟨us, k1, k2⟩
    | false => exact h4 rfl
  | [], vs, h =>
    have : vs = [] := by
      cases vs with
      | nil => rfl
      | cons _ _ => exact h.elim
    subst this
    exact ⟨[], rfl, q1, q2⟩
  | x :: y :: rk, vs, h =>
    match vs, q1 with
    | [], q1 => simp [resT] at q1
    | [_], q1 => simp [resT] at q1
    | v1 :: v2 :: vs, q1 => exact ⟨_, rfl, q1, q2⟩
  | [(a, l)], [], h => exact h.elim
  | [(a, l)], _ :: _ :: _, ⟨_, _, _, _, _, _, h⟩ => exact h.elim

/-- BEHIND THE CALL. -/
theorem after_call {gB : Gh} {tm : List C} {HB : List HS} {a : Act} (h : Rel ty A gB ⟨tm, HB⟩ a w) {ids : List Nat} {Ac : An} (hbeg : Begun A gB HB w ids Ac) {kos : List KO} {rk : List (Bool × List RK)} {r : List DC} {vs us1 us2 : List Value} {gr : Gh} {H0r H1r : List HS} {w' : World}
    (hkl : kos.length = ids.length) (hkc : ∀ k ∈ kos.flatMap KO.kinds, ∃ t : CT, k = t.k1) (hrv : RVs rk vs us1) (hov : OV w' Ac.pb 0 kos us2) (hfl : FL ty Ac gr H0r H1r w' r 0 (rkAll 0 rk ++ kos.flatMap KO.kinds) (us1 ++ us2))
    (hap : Apart (rkAll 0 rk ++ kos.flatMap KO.kinds) (us1 ++ us2)) (hI : ∀ b, gB.I b → gr.I b) (hIr : ∀ b, gr.I b → b < w'.heap.size ∧ (gB.I b ∨ w.heap.size ≤ b ∨ Ac.Pm b)) (hpb : ∀ j, j < ids.length → ¬ gr.I (Ac.pb j))
    (hlive : ∀ j, j < ids.length → ∃ o, getH H1r j = .live o ∧ oblk gr j o = some (Ac.pb j)) (hkeep : Keep Ac w') (hnd : nodupB ids = true) (hus1 : us1.length = (rkAll 0 rk).length) {base : Nat} {H2 : List HS}
    (hput : putRows r 0 (rkAll base rk) (putVars r (cntL (rkAll base rk)) ids kos HB) = some H2) :
    ∃ g2, Rel ty A g2 ⟨tm, H2⟩ a w' ∧ (∀ b, gB.I b → g2.I b) ∧ CR ty g2 H2 w' (resC r base rk) (resVal vs) := by
  let ks := rkAll base rk
  have hfl' : FL ty Ac gr H0r H1r w' r 0 (ks ++ kos.flatMap KO.kinds) (us1 ++ us2) := FL_rk hfl
  have hap' : Apart (ks ++ kos.flatMap KO.kinds) (us1 ++ us2) := Apart_rk hap
  have hus1' : us1.length = ks.length := by rw [hus1]; simp only [ks, rkAll]; rw [(rkK_len _ _).1, (rkK_len _ _).1]
  obtain ⟨f1, f2⟩ := FL_split hfl' hus1'
  rw [Nat.zero_add] at f2
  obtain ⟨n1, n2, n3⟩ := putRows_get r hput
  let g2 : Gh := { I := gr.I, blk := gB.blk, val := fun id => if (ks.flatMap K1.ids).contains id = true then valAt id ks us1 else gB.val id }
  have hmem : ∀ id, (ks.flatMap K1.ids).contains id = true ↔ id ∈ ks.flatMap K1.ids := fun id => by simp
  have hvlt : ∀ id ∈ ids, id < HB.length := fun id hid => by
    obtain ⟨t, cs, hc⟩ := hbeg.var id hid
    exact getH_lt_live hc
  have hkk : ∀ k ∈ ks, (∃ t : CT, k = t.k1) ∨ ∃ e id, k = .own e id := fun k hk => rkK_kind hk
  have hkr : ks.map K1.data = ks := map_data_rk hkk
  have hrow : ∀ id ∈ ks.flatMap K1.ids, ∃ (e : Nat) (l : List (List DC)) (i : Nat), getH H2 id = .live (.row e l) ∧ Loose ty Ac gr H1r w' e l (g2.val id) ∧ ks[i]? = some (.own e id) ∧ us1[i]? = some (g2.val id) := by
    intro id hid
    rcases ownAt_ok id f1 with ⟨z1, z2⟩ | ⟨e, l, i, z1, z2, z3, z4⟩
    · exfalso
      obtain ⟨k, hk, hkid⟩ := List.mem_flatMap.1 hid
      cases k with
      | own e i =>
        simp only [K1.ids, List.mem_singleton] at hkid
        subst hkid
        obtain ⟨j, hj⟩ := List.getElem?_of_mem hk
        exact z2 j e hj
      | _ => simp [K1.ids] at hkid
    · have hv : g2.val id = valAt id ks us1 := by simp only [g2]; rw [if_pos ((hmem id).2 hid)]
      exact ⟨e, l, i, (n2 id hid).2.trans z1, by rw [hv]; exact z2, z3, by rw [hv]; exact z4⟩
  have hnew : ∀ id ∈ ks.flatMap K1.ids, id ∉ ids ∧ getH HB id = .free := by
    intro id hid
    have hf := (n2 id hid).1
    have hno : id ∉ ids := by
      intro hin
      -- what was handed over is a variable, and no free place
      have key : ∀ {ids : List Nat} {kos : List KO} {n : Nat} {H : List HS}, kos.length = ids.length → (∀ k ∈ kos, ∃ t l, k = KO.var t l) → (∀ i ∈ ids, i < H.length) → id ∈ ids → getH (putVars r n ids kos H) id ≠ .free := by
        intro ids
        induction ids with
        | nil => intro kos n H _ _ _ h; simp at h
        | cons i ids ih =>
          intro kos n H hl hk hlt hin
          cases kos with
          | nil => simp at hl
          | cons k kos =>
            obtain ⟨t, l, rfl⟩ := hk k (by simp)
            rw [putVars]
            by_cases hids : id ∈ ids
            · exact ih (by simpa using hl) (fun k hk' => hk k (by simp [hk'])) (fun i hi => by simp only [setH, List.length_set]; exact hlt i (by simp [hi])) hids
            · rcases List.mem_cons.1 hin with rfl | h'
              · rw [putVars_other r hids, getH_set_same _ (hlt id (by simp))]
                simp
              · exact absurd h' hids
      refine key hkl (fun k hk => ?_) hvlt hin hf
      obtain ⟨j, hj⟩ := List.getElem?_of_mem hk
      cases k with
      | var t l => exact ⟨t, l, rfl⟩
      | u =>
        exfalso
        have : ∀ {kos : List KO} {us : List Value} {j0 : Nat}, OV w' Ac.pb j0 kos us → KO.u ∉ kos := by
          intro kos
          induction kos with
          | nil => intro us j0 _ h; simp at h
          | cons k kos ih =>
            intro us j0 h hm
            cases k with
            | u => exact h.elim
            | var t l =>
              obtain ⟨u1, u2, _, _, _, _, h5⟩ := h
              rcases List.mem_cons.1 hm with hm | hm
              · simp at hm
              · exact ih h5 hm
        exact this hov hk
    rw [putVars_other r hno] at hf
    exact ⟨hno, hf⟩
  have hval : ∀ id, id ∉ ks.flatMap K1.ids → g2.val id = gB.val id := by
    intro id hid
    simp only [g2]
    rw [if_neg (by rw [hmem]; exact hid)]
  -- the cells of what came back
  have hown2 : ∀ (i e id : Nat) (u : Value), ks[i]? = some (.own e id) → us1[i]? = some u → nf H2 id ∧ g2.val id = u := by
    intro i e id u h1 h2
    have hin := mem_ids h1
    obtain ⟨e', l, i', z1, _, z3, z4⟩ := hrow id hin
    refine ⟨nf_live z1, ?_⟩
    simp only [g2]
    rw [if_pos ((hmem id).2 hin)]
    exact valAt_nodup n1 h1 h2
  have hs1 : SRL ty g2 H2 w' (mkL r 0 ks) us1 := FL_srl2 (g := gr) (g' := g2) (fun _ h => h) (by rw [hkr]; exact f1) hown2
    (fun i m off u h1 h2 => by
      rcases hkk _ (List.mem_of_getElem? h1) with ⟨t, ht⟩ | ⟨e, id, ht⟩
      · exact absurd ht.symm ((CT.k1_plain t).1 m off)
      · simp at ht)
    (fun i f caps u h1 h2 => by
      rcases hkk _ (List.mem_of_getElem? h1) with ⟨t, ht⟩ | ⟨e, id, ht⟩
      · exact absurd ht.symm ((CT.k1_plain t).2.1 f caps)
      · simp at ht)
  have hs2 : SRL ty g2 H2 w' (mkL r (cntL ks) (kos.flatMap KO.kinds)) us2 := FL_srl2 (g := gr) (g' := g2) (fun _ h => h) (by rw [map_data_ct hkc]; exact f2)
    (fun i e id u h1 h2 => by
      obtain ⟨t, ht⟩ := hkc _ (List.mem_of_getElem? h1)
      cases t <;> simp [CT.k1] at ht)
    (fun i m off u h1 h2 => by
      obtain ⟨t, ht⟩ := hkc _ (List.mem_of_getElem? h1)
      exact absurd ht.symm ((CT.k1_plain t).1 m off))
    (fun i f caps u h1 h2 => by
      obtain ⟨t, ht⟩ := hkc _ (List.mem_of_getElem? h1)
      exact absurd ht.symm ((CT.k1_plain t).2.1 f caps))
  have hvars : ∀ id ∈ ids, ∃ (t : Nat) (cs : List S) (us' : List Value), getH H2 id = .live (.var t cs) ∧ w'.heap[gB.blk id]? = some (.cells us'.toArray t (0, 0)) ∧ SRL ty g2 H2 w' cs us' ∧ ∀ u ∈ us', u.oneCell' = true := by
    intro id hid
    obtain ⟨t, cs, us', z1, z2⟩ := putVars_get r (w := w') (g := g2) (H' := H2) Ac.pb gB.blk hnd hov hs2 (fun j i hj => by rw [Nat.zero_add]; exact hbeg.pb j i hj) hkl hvlt id hid
    refine ⟨t, cs, us', ?_, z2⟩
    rw [n3 id (fun hin => (hnew id hin).1 hid)]
    exact z1
  have hcase : ∀ id, (id ∈ ks.flatMap K1.ids) ∨ (id ∈ ids ∧ id ∉ ks.flatMap K1.ids) ∨ (id ∉ ids ∧ id ∉ ks.flatMap K1.ids ∧ getH H2 id = getH HB id) := by
    intro id
    by_cases h1 : id ∈ ks.flatMap K1.ids
    · exact .inl h1
    · by_cases h2 : id ∈ ids
      · exact .inr (.inl ⟨h2, h1⟩)
      · refine .inr (.inr ⟨h2, h1, ?_⟩)
        rw [n3 id h1, putVars_other r h2]
  have hw0 := hbeg.w0
  have hblock : ∀ b, b < w.heap.size → ¬ Ac.Pv b → ¬ Ac.Pm b → w'.heap[b]? = w.heap[b]? := fun b h1 h2 h3 => by
    have := hkeep.block b (by rw [hw0]; exact h1) h2 h3
    rwa [hw0] at this
  have hvarI : ∀ id ∈ ids, ¬ gB.I (gB.blk id) := fun id hid hI => by
    obtain ⟨t, cs, hc⟩ := hbeg.var id hid
    exact oblk_notI h hc rfl hI
  have hPvI : ∀ b, gB.I b → ¬ Ac.Pv b := fun b hb hp => by
    obtain ⟨id, hid, rfl⟩ := hbeg.Pv b hp
    exact hvarI id hid hb
  have hsize : w.heap.size ≤ w'.heap.size := by have := hkeep.size; rwa [hw0] at this
  have hch : Ch gB g2 HB H2 w w' := by
    refine ⟨hI, fun b hb => hblock b (h.lt b hb) (hPvI b hb) (fun hp => (hbeg.Pm b hp).2.1 hb), fun id hn => ?_, fun id hn hr => ?_, fun id hn hr => ?_⟩
    · rcases hcase id with h1 | ⟨h1, _⟩ | ⟨_, _, h3⟩
      · exact absurd hn (not_nf_free (hnew id h1).2)
      · obtain ⟨t, cs, us', z1, _⟩ := hvars id h1
        exact nf_live z1
      · simpa [nf, h3] using hn
    · rcases hcase id with h1 | ⟨h1, h2⟩ | ⟨_, h2, h3⟩
      · exact absurd hn (not_nf_free (hnew id h1).2)
      · obtain ⟨t, cs, us', z1, _⟩ := hvars id h1
        obtain ⟨e, l, hr⟩ := hr
        rw [z1] at hr
        simp at hr
      · exact ⟨by simpa [isRow, h3] using hr, hval id h2⟩
    · rcases hcase id with h1 | ⟨h1, h2⟩ | ⟨_, h2, h3⟩
      · exact absurd hn (not_nf_free (hnew id h1).2)
      · exact ⟨hbeg.var id h1, rfl⟩
      · exact ⟨by simpa [isVar, h3] using hr, rfl⟩
  -- the objects, of three kinds
  have hobj : ∀ id o, getH H2 id = .live o → (∃ (e : Nat) (l : List (List DC)) (i : Nat), o = .row e l ∧ Loose ty Ac gr H1r w' e l (g2.val id) ∧ ks[i]? = some (.own e id) ∧ us1[i]? = some (g2.val id)) ∨
      (∃ (t : Nat) (cs : List S) (us' : List Value), o = .var t cs ∧ id ∈ ids ∧ w'.heap[gB.blk id]? = some (.cells us'.toArray t (0, 0)) ∧ SRL ty g2 H2 w' cs us' ∧ ∀ u ∈ us', u.oneCell' = true) ∨ (id ∉ ids ∧ id ∉ ks.flatMap K1.ids ∧ getH HB id = .live o) := by
    intro id o ho
    rcases hcase id with h1 | ⟨h1, h2⟩ | ⟨h1, h2, h3⟩
    · obtain ⟨e, l, i, z1, z2, z3, z4⟩ := hrow id h1
      rw [z1] at ho
      simp only [HS.live.injEq] at ho
      exact .inl ⟨e, l, i, ho.symm, z2, z3, z4⟩
    · obtain ⟨t, cs, us', z1, z2, z3, z4⟩ := hvars id h1
      rw [z1] at ho
      simp only [HS.live.injEq] at ho
      exact .inr (.inl ⟨t, cs, us', ho.symm, h1, z2, z3, z4⟩)
    · exact .inr (.inr ⟨h1, h2, h3 ▸ ho⟩)
  have hpbid : ∀ id ∈ ids, ∃ j, j < ids.length ∧ Ac.pb j = gB.blk id := by
    intro id hid
    obtain ⟨j, hj⟩ := List.getElem?_of_mem hid
    have hlt : j < ids.length := by
      rcases Nat.lt_or_ge j ids.length with h' | h'
      · exact h'
      · simp [List.getElem?_eq_none h'] at hj
    exact ⟨j, hlt, hbeg.pb j id hj⟩
  have hvarr : ∀ id ∈ ids, ¬ gr.I (gB.blk id) := by
    intro id hid
    obtain ⟨j, h1, h2⟩ := hpbid id hid
    rw [← h2]
    exact hpb j h1
  have hold : ∀ id o b, id ∉ ids → getH HB id = .live o → oblk gB id o = some b → b < w.heap.size ∧ ¬ Ac.Pv b ∧ ¬ Ac.Pm b ∧ ¬ gr.I b := by
    intro id o b hid ho hb
    have hlt := h.oblk_lt ho hb
    have hPm : ¬ Ac.Pm b := fun hp => (hbeg.Pm b hp).2.2.2 id o ho hb
    refine ⟨hlt, fun hp => ?_, hPm, fun hIb => ?_⟩
    · obtain ⟨i, hi, rfl⟩ := hbeg.Pv b hp
      obtain ⟨t, cs, hc⟩ := hbeg.var i hi
      exact h.sep id i o _ _ (fun e => hid (e ▸ hi)) ho hc hb rfl
    · rcases (hIr b hIb).2 with h1 | h1 | h1
      · exact oblk_notI h ho hb h1
      · omega
      · exact hPm h1
  have hlo : ∀ e l id, Loose ty Ac gr H1r w' e l (g2.val id) → ∀ b, (g2.val id).ownBlock = some b → ¬ gr.I b ∧ (w.heap.size ≤ b ∨ Ac.Pm b) ∧ ∀ i ∈ ids, gB.blk i ≠ b := by
    intro e l id hl b hb
    obtain ⟨q1, q2, q3⟩ := hl.own b hb
    rw [hw0] at q2
    refine ⟨q1, q2, fun i hi hib => ?_⟩
    obtain ⟨j, j1, j2⟩ := hpbid i hi
    obtain ⟨o, ho, hob⟩ := hlive j j1
    exact q3 j o ho (by rw [hob, j2, hib])
  have hblk2 : ∀ id o, id ∉ ks.flatMap K1.ids → oblk g2 id o = oblk gB id o := by
    intro id o hid
    cases o with
    | var t cs => rfl
    | row e l => simp only [oblk, hval id hid]
    | fz e l => rfl
  refine ⟨g2, h.ch hch (fun id o ho => ?_) (fun i j o p b hij hi hj hb hb' => ?_) (fun b hb => (hIr b hb).1) (fun b hb => ?_) (fun id o b ho hb => ?_) (fun j hj hv => ?_) ?_, hI, resC_ok r hrv hs1⟩
  · rcases hobj id o ho with ⟨e, l, i, rfl, z1, z2, z3⟩ | ⟨t, cs, us', rfl, z0, z1, z2, z3⟩ | ⟨z1, z2, z3⟩
    · obtain ⟨ti, vs', F, q1, q2, q3, q4, q5⟩ := z1.row
      exact ⟨ti, vs', F, q1, q2, q3, q4, q5, fun b hb => (z1.own b hb).1⟩
    · exact ⟨us', z1, z2, hvarr id z0, z3⟩
    · refine OR.mono hch (hval id z2) rfl (fun b hb => ?_) (h.ob id o z3)
      obtain ⟨q1, q2, q3, q4⟩ := hold id o b z1 z3 hb
      exact ⟨hblock b q1 q2 q3, q4⟩
  · rcases hobj i o hi with ⟨e, l, n, rfl, z1, z2, z3⟩ | ⟨t, cs, us', rfl, z0, z1, z2, z3⟩ | ⟨z1, z2, z3⟩
    · have hx := hlo e l i z1 b hb
      rcases hobj j p hj with ⟨e', l', n', rfl, y1, y2, y3⟩ | ⟨t', cs', us', rfl, y0, y1, y2, y3⟩ | ⟨y1, y2, y3⟩
      · have kl : ∀ {n : Nat} {e id : Nat}, ks[n]? = some (.own e id) → (ks ++ kos.flatMap KO.kinds)[n]? = some (.own e id) := fun {n e id} hk => by
          have : n < ks.length := by
            rcases Nat.lt_or_ge n ks.length with h' | h'
            · exact h'
            · simp [List.getElem?_eq_none h'] at hk
          rw [List.getElem?_append_left this]
          exact hk
        have ul : ∀ {n : Nat} {u : Value}, us1[n]? = some u → (us1 ++ us2)[n]? = some u := fun {n u} hk => by
          have : n < us1.length := by
            rcases Nat.lt_or_ge n us1.length with h' | h'
            · exact h'
            · simp [List.getElem?_eq_none h'] at hk
          rw [List.getElem?_append_left this]
          exact hk
        rcases Nat.lt_trichotomy n n' with hlt | rfl | hlt
        · exact apart_ne hap' (kl z2) (ul z3) (kl y2) (ul y3) hlt b hb hb'
        · rw [z2] at y2
          simp only [Option.some.injEq, K1.own.injEq] at y2
          exact hij y2.2
        · exact apart_ne hap' (kl y2) (ul y3) (kl z2) (ul z3) hlt b hb' hb
      · simp only [oblk, g2, Option.some.injEq] at hb'
        exact hx.2.2 j y0 hb'
      · rw [hblk2 j p y2] at hb'
        obtain ⟨q1, q2, q3, q4⟩ := hold j p b y1 y3 hb'
        rcases hx.2.1 with h1 | h1
        · omega
        · exact q3 h1
    · simp only [oblk, g2, Option.some.injEq] at hb
      obtain ⟨tx, cx, hx1⟩ := hbeg.var i z0
      rcases hobj j p hj with ⟨e', l', n', rfl, y1, y2, y3⟩ | ⟨t', cs', us', rfl, y0, y1, y2, y3⟩ | ⟨y1, y2, y3⟩
      · exact (hlo e' l' j y1 b hb').2.2 i z0 hb
      · simp only [oblk, g2, Option.some.injEq] at hb'
        obtain ⟨ty', cy, hy1⟩ := hbeg.var j y0
        exact h.sep i j _ _ b hij hx1 hy1 (by simp [oblk, hb]) (by simp [oblk, hb'])
      · rw [hblk2 j p y2] at hb'
        exact h.sep i j _ _ b hij hx1 y3 (by simp [oblk, hb]) hb'
    · rw [hblk2 i o z2] at hb
      rcases hobj j p hj with ⟨e', l', n', rfl, y1, y2, y3⟩ | ⟨t', cs', us', rfl, y0, y1, y2, y3⟩ | ⟨y1, y2, y3⟩
      · obtain ⟨q1, q2, q3, q4⟩ := hold i o b z1 z3 hb
        rcases (hlo e' l' j y1 b hb').2.1 with h1 | h1
        · omega
        · exact q3 h1
      · simp only [oblk, g2, Option.some.injEq] at hb'
        obtain ⟨ty', cy, hy1⟩ := hbeg.var j y0
        exact h.sep i j _ _ b hij z3 hy1 hb (by simp [oblk, hb'])
      · rw [hblk2 j p y2] at hb'
        exact h.sep i j _ _ b hij z3 y3 hb hb'
  · rcases (hIr b hb).2 with h1 | h1 | h1
    · exact h.inI b h1
    · exact .inr (.inl (Nat.le_trans h.keep.size h1))
    · rcases (hbeg.Pm b h1).2.2.1 with h2 | h2
      · exact .inr (.inl h2)
      · exact .inr (.inr h2)
  · rcases hobj id o ho with ⟨e, l, i, rfl, z1, z2, z3⟩ | ⟨t, cs, us', rfl, z0, z1, z2, z3⟩ | ⟨z1, z2, z3⟩
    · rcases (hlo e l id z1 b hb).2.1 with h1 | h1
      · exact .inl (Nat.le_trans h.keep.size h1)
      · exact (hbeg.Pm b h1).2.2.1
    · obtain ⟨tx, cx, hx1⟩ := hbeg.var id z0
      exact h.ow id (.var tx cx) b hx1 hb
    · rw [hblk2 id o z2] at hb
      exact h.ow id o b z3 hb
  · exact h.pb j hj (by
      obtain ⟨a1, a2⟩ := hch.var j (h.nfm j hj) hv
      exact a1)
  · refine h.keep.trans (by rw [hkeep.os, hw0]) (by rw [hkeep.tape, hw0]) (by rw [hkeep.output, hw0]) hsize fun b hb hp hm => hblock b (Nat.lt_of_lt_of_le hb h.keep.size) (fun hpv => ?_) (fun hpm => ?_)
    · obtain ⟨id, hid, rfl⟩ := hbeg.Pv b hpv
      obtain ⟨t, cs, hc⟩ := hbeg.var id hid
      rcases h.ow id _ _ hc rfl with h1 | h1
      · omega
      · exact hp h1
    · rcases (hbeg.Pm b hpm).2.2.1 with h1 | h1
      · omega
      · exact hm h1

end
end Go.Proofs.YtljggmbgbnmapaaGreatV
