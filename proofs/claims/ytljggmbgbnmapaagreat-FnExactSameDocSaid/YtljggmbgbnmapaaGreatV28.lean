/- A law that answers true: from the evaluator's answer to the machine's. -/
import Derived.Test.YtljggmbgbnmapaaGreatV27
namespace Go.Proofs.YtljggmbgbnmapaaGreatV
open Go
set_option linter.unusedVariables false
set_option linter.unusedSimpArgs false

def PK.cts : PK → List CT
  | .ct c => [c]
  | .ag l => l
  | _ => []
def pkKC : PK → KC
  | .ct c => .one c.k1
  | .ag l => .agg (l.map CT.k1)
  | _ => .one .u

/-- How a parameter of a type comes. -/
def PKof (ti : TI) : PK :=
  match isStruct (some ti), ti.cts with
  | true, l => .ag l
  | false, [c] => .ct c
  | false, _ => .fn

section
variable {H : Type} {enc : TypeId × Value → H} {P : Program} {ty : Nat → Option TI} {w : World} {sp : Nat → Bool} {held : Bool}

theorem cell_one {r : Reach} {b0 : Nat} {t : TypeId} {v : Value} {d : TypeDesc} (hu : P.underlying t = some d) (hd : d = .bool ∨ (∃ k, d = .int k) ∨ d = .string ∨ ∃ e, d = .slice e) (h : Value.okWide P w r b0 t v) : v.oneCell' = true := by
  rcases hd with rfl | ⟨k, rfl⟩ | rfl | ⟨e, rfl⟩ <;> simp only [Value.okWide, hu, Cell.okWide, Cell.ok] at h <;> cases v <;> simp_all [Value.oneCell']

theorem args_read (hty : TyOk P ty) (hrd : ∀ t ti, ty t = some ti → RdTy P ty t ti) {b0 : Nat} : ∀ (ts : List TypeId) (pks : List PK) (vs : List Value) (ds : List (DataW H)) (ps : List MemPlace), DataW.TrodAll enc P w 0 sp held ts vs ds ps →
    (∀ (j : Nat) t v, ts[j]? = some t → vs[j]? = some v → Value.okWide P w .any b0 t v) → (ts.map fun t => (ty t).map PKof) = pks.map some → pks.all PK.plain = true →
    ∃ (d : List DC) (F : List Nat) (us : List Value), RdL ty w (pks.flatMap PK.cts) d us F ∧ (∀ b ∈ F, b < w.heap.size) ∧ WfL ty (pks.flatMap PK.cts) d ∧ Flat (pks.map pkKC) vs us
  | [], pks, vs, ds, ps, h, hv, hp, hpl => by
    have : pks = [] := by
      cases pks with
      | nil => rfl
      | cons _ _ => simp at hp
    subst this
    match vs, ds, h with
    | [], [], h => exact ⟨[], [], [], .nil, fun _ h => by (cases h), .nil, rfl⟩
    | _ :: _, _, h => exact h.elim
    | [], _ :: _, h => exact h.elim
  | t :: ts, pks, vs, ds, ps, h, hv, hp, hpl => by
    match pks with
    | [] => simp at hp
    | p :: pks =>
      match vs, ds, h with
      | v :: vs, d :: ds, ⟨p1, q1, h1, h2, _⟩ =>
        simp only [List.map_cons, List.cons.injEq] at hp
        simp only [List.all_cons, Bool.and_eq_true] at hpl
        obtain ⟨d2, F2, us2, k1, k2, k3, k4⟩ := args_read hty hrd ts pks vs ds q1 h2 (fun j t v a b => hv (j + 1) t v a b) hp.2 hpl.2
        cases hti : ty t with
        | none => rw [hti] at hp; simp at hp
        | some ti =>
          rw [hti] at hp
          have hpk : PKof ti = p := by simpa using hp.1
          obtain ⟨fuel, hf⟩ := h1
          obtain ⟨d1, F1, r1, r2, r3⟩ := trod_read hrd fuel t ti _ _ hti hf
          have hval := hv 0 t v rfl rfl
          obtain ⟨hok, hsz⟩ := hrd t ti hti
          have fin : ∀ (us1 : List Value), p.cts = ti.cts → v.cells.toList = us1 → (∀ r, Flat (pks.map pkKC) vs r → Flat (pkKC p :: pks.map pkKC) (v :: vs) (us1 ++ r)) → ∃ (d : List DC) (F : List Nat) (us : List Value),
              RdL ty w ((p :: pks).flatMap PK.cts) d us F ∧ (∀ b ∈ F, b < w.heap.size) ∧ WfL ty ((p :: pks).flatMap PK.cts) d ∧ Flat ((p :: pks).map pkKC) (v :: vs) us := by
            intro us1 hc hcells hflat
            rw [hcells] at r1
            refine ⟨d1 ++ d2, F1 ++ F2, us1 ++ us2, ?_, fun b hb => ?_, ?_, hflat us2 k4⟩
            · rw [List.flatMap_cons, hc]; exact r1.append k1
            · rcases List.mem_append.1 hb with hb | hb
              · exact r2 b hb
              · exact k2 b hb
            · rw [List.flatMap_cons, hc]; exact r3.append k3
          have hone : ∀ c, ti.cts = [c] → v.oneCell' = true → p = .ct c → ∃ (d : List DC) (F : List Nat) (us : List Value),
              RdL ty w ((p :: pks).flatMap PK.cts) d us F ∧ (∀ b ∈ F, b < w.heap.size) ∧ WfL ty ((p :: pks).flatMap PK.cts) d ∧ Flat ((p :: pks).map pkKC) (v :: vs) us := by
            intro c hc h1 hp'
            subst hp'
            exact fin [v] (by rw [hc]; rfl) (by rw [one_cells h1]) fun r hr => ⟨r, rfl, hr⟩
          obtain ⟨dsc, hu, hagg⟩ := (hty t ti hti).struct
          rw [hu] at hok
          unfold PKof at hpk
          cases hst : isStruct (some ti) with
          | true =>
            rw [hst] at hpk hagg
            dsimp only at hpk
            subst hpk
            cases dsc with
            | struct fs =>
              simp only [Value.okWide, hu] at hval
              obtain ⟨cs, rfl, hcs, _⟩ := hval
              refine fin cs.toList rfl rfl fun r hr => ⟨cs.toList, r, by simp, ?_, rfl, hr⟩
              simp [hcs, hsz]
            | array n e => exact hok.elim
            | _ => simp [isAggD] at hagg
          | false =>
            rw [hst] at hpk hagg
            have single : ∀ c, ti.cts = [c] → p = .ct c := fun c hc => by rw [hc] at hpk; exact hpk.symm
            cases dsc with
            | bool => exact hone _ hok (cell_one hu (.inl rfl) hval) (single _ hok)
            | int k => exact hone _ hok (cell_one hu (.inr (.inl ⟨k, rfl⟩)) hval) (single _ hok)
            | string => exact hone _ hok (cell_one hu (.inr (.inr (.inl rfl))) hval) (single _ hok)
            | slice e => exact hone _ hok.1 (cell_one hu (.inr (.inr (.inr ⟨e, rfl⟩))) hval) (single _ hok.1)
            | struct fs => simp [isAggD] at hagg
            | _ => exact hok.elim
      | [], _, h => exact h.elim
      | _ :: _, [], h => exact h.elim

theorem rdl_FL {A : An} {g : Gh} {H0 H1 : List HS} : ∀ {ts : List CT} {d : List DC} {us : List Value} {F : List Nat} (pre post : List DC), RdL ty w ts d us F → (∀ b ∈ F, g.I b) → FL ty A g H0 H1 w (pre ++ (d ++ post)) pre.length (ts.map CT.k1) us
  | _, _, _, _, pre, post, .nil, _ => trivial
  | _, _, _, _, pre, post, .cons t ts x xs v vs F G h1 h2, hF => by
    have hc := (CT.k1_plain t).2.2.2.1
    refine ⟨⟨[x], by rw [hc]; rfl, fun i hi => ?_, ?_⟩, ?_⟩
    · rw [hc] at hi
      have : i = 0 := by omega
      subst this
      simp [List.getD_eq_getElem?_getD]
    · cases h1 with
      | b x => exact ⟨x, rfl, rfl⟩
      | i k n => exact ⟨n, rfl, rfl⟩
      | s l => exact ⟨l, rfl, rfl⟩
      | nil e a c => exact ⟨[], [], rfl, .nil e a c, fun _ h => by cases h⟩
      | sl e ti b off n cap l vs' F' k1 k0 k2 k3 k4 k5 k6 => exact ⟨l, _, rfl, .sl e ti b off n cap l vs' F' k1 k0 k2 k3 k4 k5 k6, fun b hb => hF b (by simp only [List.mem_append]; exact .inl hb)⟩
    · have := rdl_FL (A := A) (g := g) (H0 := H0) (H1 := H1) (pre ++ [x]) post h2 fun b hb => hF b (by simp [hb])
      rw [hc]
      simpa using this

theorem pk_kinds : ∀ {pks : List PK}, pks.all PK.plain = true → (pks.map pkKC).flatMap KC.kinds = (pks.flatMap PK.cts).map CT.k1
  | [], _ => rfl
  | p :: pks, h => by
    simp only [List.all_cons, Bool.and_eq_true] at h
    rw [List.map_cons, List.flatMap_cons, List.flatMap_cons, List.map_append, pk_kinds h.2]
    cases p with
    | ct c => rfl
    | ag l => rfl
    | _ => simp [PK.plain] at h

/-- The begin of a law. -/
theorem begin_rel (hty : TyOk P ty) (hrd : ∀ t ti, ty t = some ti → RdTy P ty t ti) {b0 : Nat} {ts : List TypeId} {vals : Array Value} {ds : List (DataW H)} {ps : List MemPlace} (hA : DataW.TrodAll enc P w 0 sp held ts vals.toList ds ps)
    (hv : ∀ (j : Nat) t v, ts[j]? = some t → vals[j]? = some v → Value.okWide P w .any b0 t v) (fi : FI) (hp : (ts.map fun t => (ty t).map PKof) = fi.pk.map some) (hpl : fi.pk.all PK.plain = true) :
    ∃ (d : List DC) (A : An) (g : Gh), WfL ty (fi.pk.flatMap PK.cts) d ∧ Rel ty A g (startSt fi ⟨fi.pk.map pkKC, []⟩ d) { tmps := vals ++ Array.replicate (fi.ntmps - vals.size) undef, defers := [] } w ∧
      vals.size = (fi.pk.map pkKC).length ∧ A.w0 = w ∧ A.m = 0 ∧ (∀ b, ¬ A.Pv b) ∧ ∀ b, ¬ A.Pm b := by
  obtain ⟨d, F, us, h1, h2, h3, h4⟩ := args_read hty hrd ts fi.pk vals.toList ds ps hA (fun j t v a b => hv j t v a (by simpa using b)) hp hpl
  let A : An := { w0 := w, I0 := fun b => b < w.heap.size, Pv := fun _ => False, Pm := fun _ => False, m := 0, pb := fun _ => 0 }
  let g : Gh := { I := fun b => b < w.heap.size, blk := fun _ => 0, val := fun _ => undef }
  refine ⟨d, A, g, h3, ?_, by simpa using h4.length.1, rfl, rfl, fun _ h => h, fun _ h => h⟩
  have hfl := rdl_FL (A := A) (g := g) (H0 := []) (H1 := []) [] [] h1 h2
  rw [List.nil_append, List.append_nil, List.length_nil] at hfl
  have hk : ∀ k ∈ (fi.pk.flatMap PK.cts).map CT.k1, ∃ t : CT, k = t.k1 := fun k hk => by
    obtain ⟨t, _, rfl⟩ := List.mem_map.1 hk
    exact ⟨t, rfl⟩
  have hsrl : SRL ty g (List.replicate fi.nobj HS.free) w (mkL d 0 ((fi.pk.flatMap PK.cts).map CT.k1)) us := FL_srl2 (g := g) (g' := g) (fun _ h => h) (by rw [map_data_ct hk]; exact hfl)
    (fun i e id u h1 h2 => by
      obtain ⟨t, ht⟩ := hk _ (List.mem_of_getElem? h1)
      cases t <;> simp [CT.k1] at ht)
    (fun i m off u h1 h2 => by
      obtain ⟨t, ht⟩ := hk _ (List.mem_of_getElem? h1)
      exact absurd ht.symm ((CT.k1_plain t).1 m off))
    (fun i f caps u h1 h2 => by
      obtain ⟨t, ht⟩ := hk _ (List.mem_of_getElem? h1)
      exact absurd ht.symm ((CT.k1_plain t).2.1 f caps))
  rw [← pk_kinds hpl] at hsrl
  obtain ⟨c1, c2⟩ := Flat.mkT d 0 h4 hsrl
  have hst : startSt fi ⟨fi.pk.map pkKC, []⟩ d = ⟨mkT d 0 (fi.pk.map pkKC) ++ List.replicate (fi.ntmps - (mkT d 0 (fi.pk.map pkKC)).length) (.one .undef), List.replicate fi.nobj HS.free⟩ := rfl
  have hfree : ∀ id o, getH (List.replicate fi.nobj HS.free) id ≠ .live o := by
    intro id o
    unfold getH
    rw [List.getD_eq_getElem?_getD, List.getElem?_replicate]
    split <;> simp
  rw [hst]
  refine ⟨?_, fun i c x h1 h2 => ?_, fun id o ho => absurd ho (hfree id o), fun i j o p x _ hi => absurd hi (hfree i o), fun b hb => hb, fun b hb => .inl hb, fun id o x ho => absurd ho (hfree id o), fun j hj => by simp [A] at hj, fun j hj => by simp [A] at hj,
    ⟨rfl, rfl, rfl, Nat.le_refl _, fun _ _ _ _ => rfl⟩, rfl⟩
  · have : vals.size = (mkT d 0 (fi.pk.map pkKC)).length := by rw [c1]; simp
    simp [this]
  · simp only [Array.getElem?_append] at h2
    rcases Nat.lt_or_ge i (mkT d 0 (fi.pk.map pkKC)).length with h' | h'
    · rw [List.getElem?_append_left h'] at h1
      have hl : i < vals.size := by rw [c1] at h'; simpa using h'
      rw [if_pos hl] at h2
      exact c2 i c x h1 (by simpa using h2)
    · rw [List.getElem?_append_right h', List.getElem?_replicate] at h1
      split at h1
      · simp only [Option.some.injEq] at h1
        subst h1
        trivial
      · simp at h1

/-- A LAW THAT ANSWERS TRUE. -/
theorem law_calls {cfg : Cfg} (hty : TyOk P cfg.ty) (hrd : ∀ t ti, cfg.ty t = some ti → RdTy P cfg.ty t ti) (hm : P.follows .mixedOrders = true) (hfn : ∀ f fi, cfg.fn f = some fi → FnOk P cfg.ty f fi) {f : Nat} {fi : FI} (hf : cfg.fn f = some fi)
    (hrk : fi.rk = [(false, [.ct .b])]) {b0 : Nat} {ts : List TypeId} (hp : (ts.map fun t => (cfg.ty t).map PKof) = fi.pk.map some) (hpl : fi.pk.all PK.plain = true) {vals : Array Value} {ds : List (DataW H)} {ps : List MemPlace}
    (hA : DataW.TrodAll enc P w 0 sp held ts vals.toList ds ps) (hv : ∀ (j : Nat) t v, ts[j]? = some t → vals[j]? = some v → Value.okWide P w .any b0 t v)
    (hev : ∀ d, WfL cfg.ty (fi.pk.flatMap PK.cts) d → Evt (fun k => callF cfg k f ⟨fi.pk.map pkKC, []⟩ d) (.ret [.b true])) :
    Calls P f vals w fun e w' => e = .returned (.bool true) ∧ RowKit.Below w.heap.size w w' := by
  obtain ⟨d, A, g, h1, h2, h3, h4, h5, h6, h7⟩ := begin_rel hty hrd hA hv fi hp hpl
  obtain ⟨N, hN⟩ := hev d h1
  have hcalls := callF_sound hty hm hfn N f fi ⟨fi.pk.map pkKC, []⟩ d [.b true] hf (hN N (Nat.le_refl _)) A g vals w h2 h3 h4 h5
  refine Calls.mono hcalls fun e w' he => ?_
  cases e with
  | returned rv =>
    obtain ⟨vs, rfl, hres⟩ := he
    obtain ⟨⟨gr, H0, H1, us1, us2, q1, q2, q3, _⟩, hkeep⟩ := hres
    rw [hrk] at q1 q3
    match vs, q1 with
    | [v], ⟨u1, u2, z1, z2, z3, z4, z5⟩ =>
      have z5' : u2 = [] := z5
      subst z5'
      have := z4 rfl
      subst this
      rw [List.append_nil] at z1
      subst z1
      have hus2 : us2 = [] := q2
      subst hus2
      obtain ⟨⟨dd, y1, y2, y3⟩, _⟩ := q3
      obtain ⟨x, rfl, rfl⟩ := y3
      have := y2 0 (by simp [RK.k1, CT.k1, K1.cnt])
      simp only [Nat.add_zero, List.getD_cons_zero] at this
      have hx : x = true := by
        have : DC.b true = DC.b x := this
        simpa using this.symm
      subst hx
      refine ⟨rfl, ⟨by rw [hkeep.os, h4], by rw [hkeep.tape, h4], by rw [hkeep.output, h4], by have := hkeep.size; rwa [h4] at this, fun b hb => ?_⟩⟩
      have := hkeep.block b (by rw [h4]; exact hb) (h6 b) (h7 b)
      rwa [h4] at this
    | [], q1 => exact q1.elim
    | _ :: _ :: _, ⟨_, _, _, _, _, _, h⟩ => exact h.elim
  | panicked ch => exact he.elim
  | outgrown => exact he.elim

end
end Go.Proofs.YtljggmbgbnmapaaGreatV
