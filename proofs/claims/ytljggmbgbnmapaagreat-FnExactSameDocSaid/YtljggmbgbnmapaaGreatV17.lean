/- A region: its operations in text order, or in any order that the machine draws. -/
import Derived.Test.YtljggmbgbnmapaaGreatV16b
namespace Go.Proofs.YtljggmbgbnmapaaGreatV
open Go
set_option linter.unusedVariables false
set_option linter.unusedSimpArgs false

section
variable {P : Program} {ty : Nat → Option TI} {fn : Nat → Option FI} {cl : Nat → Hint → List DC → Out} {A : An}

/-- One operation, as a partial function. -/
def op1 (ty : Nat → Option TI) (fn : Nat → Option FI) (cl : Nat → Hint → List DC → Out) (all : Array Oper) (base : Nat) (o : Oper) (st : St) : Option (Cls × St) :=
  opR ty fn cl none all base o st fun c st' => some (c, st')

theorem stepR_par {ρ : Type} {fail : ρ} {base : Nat} {o : Oper} {st : St} {K : Cls → St → ρ} :
    stepR ty fn cl fail base o st K = via fail (stepR ty fn cl none base o st fun c st' => some (c, st')) fun r => K r.1 r.2 := by
  unfold stepR
  dsimp only
  have h2 := stepV_par (ty := ty) (fn := fn) (cl := cl) (fail := (none : Option (Cls × St))) (base := base) (o := o) (tm := st.tm) (H := st.H) (K := fun c H v => some (c, { tm := putC st.tm o.dst v, H := H }))
  rw [h2, via_via, stepV_par (fail := fail)]
  rfl

theorem opR_par {ρ : Type} {fail : ρ} {all : Array Oper} {base : Nat} {o : Oper} {st : St} {K : Cls → St → ρ} :
    opR ty fn cl fail all base o st K = via fail (op1 ty fn cl all base o st) fun r => K r.1 r.2 := by
  unfold op1 opR
  repeat' split
  all_goals first | rfl | exact stepR_par

theorem set_same {tm : List C} {d : Nat} {c : C} (h : tm.getD d (.one .undef) = c) (hc : c ≠ .one .undef) : tm.set d c = tm := by
  apply List.ext_getElem?
  intro i
  rw [List.getElem?_set]
  split
  · rename_i hi
    subst hi
    rw [List.getD_eq_getElem?_getD] at h
    cases hk : tm[d]? with
    | none => rw [hk] at h; exact absurd h.symm hc
    | some x =>
      rw [hk] at h
      have hlt : d < tm.length := by
        rcases Nat.lt_or_ge d tm.length with h' | h'
        · exact h'
        · simp [List.getElem?_eq_none h'] at hk
      simp only [Option.getD_some] at h
      simp [hlt, h]
  · rfl

/-- The guard, as the state has it: none: not told. -/
def gd (all : Array Oper) (o : Oper) (tm : List C) : Option Bool :=
  match o.guard with
  | none => some true
  | some (j, want) =>
    match (all[j]?).bind (·.dst) with
    | none => none
    | some d =>
      match tm.getD d (.one .undef) with
      | .one (.bool b) => some (b == want)
      | .tup [] => some false
      | _ => none

theorem op1_eq {all : Array Oper} {base : Nat} {o : Oper} {tm : List C} {H : List HS} :
    op1 ty fn cl all base o ⟨tm, H⟩ = match gd all o tm with
      | none => none
      | some true => (stepV ty fn cl (none : V3) base o tm H mk3).map fun r => (r.1, ⟨putC tm o.dst r.2.2, r.2.1⟩)
      | some false => some (.t, ⟨putC tm o.dst (.tup []), H⟩) := by
  have st : stepR ty fn cl none base o ⟨tm, H⟩ (fun c st' => some (c, st')) = (stepV ty fn cl (none : V3) base o tm H mk3).map fun r => (r.1, ⟨putC tm o.dst r.2.2, r.2.1⟩) := by
    unfold stepR
    rw [stepV_par]
    cases stepV ty fn cl (none : V3) base o tm H mk3 <;> rfl
  unfold op1 opR gd
  cases hg : o.guard with
  | none => exact st
  | some jw =>
    obtain ⟨j, want⟩ := jw
    dsimp only
    cases hd : (all[j]?).bind (·.dst) with
    | none => rfl
    | some d =>
      dsimp only
      cases hc : tm.getD d (.one .undef) with
      | one s =>
        cases s with
        | bool b =>
          have hs := set_same hc (by simp)
          cases b <;> cases want <;> simp [hs, st]
        | _ => rfl
      | tup l => cases l <;> rfl
      | _ => rfl

theorem gd_wanted {g : Gh} {tm : List C} {H : List HS} {a : Act} {w : World} (h : Rel ty A g ⟨tm, H⟩ a w) {all : Array Oper} {o : Oper} {b : Bool} (e : gd all o tm = some b) : Region.wanted o (yielded all a.tmps) = b := by
  unfold gd at e
  unfold Region.wanted
  split at e
  · rename_i hg
    rw [hg]
    simpa using e
  · rename_i j want hg
    rw [hg]
    dsimp only
    split at e
    · simp at e
    · rename_i d hd
      unfold yielded
      rw [hd]
      simp only [Option.bind_some]
      have hr := h.getD d
      rw [Array.getD_eq_getD_getElem?] at hr
      split at e
      · rename_i x hx
        rw [hx] at hr
        have hv : (a.tmps[d]?).getD undef = .bool x := hr
        cases ht : a.tmps[d]? with
        | none => rw [ht] at hv; simp [undef] at hv
        | some v =>
          rw [ht] at hv
          simp only [Option.getD_some] at hv
          subst hv
          simp only [Option.some.injEq] at e
          simp only []
          rw [← e]
          cases x <;> cases want <;> rfl
      · rename_i hx
        rw [hx] at hr
        obtain ⟨vs, h1, h2, _⟩ := hr
        have : vs = [] := List.eq_nil_of_length_eq_zero (by simpa using h2)
        subst this
        simp only [Option.some.injEq] at e
        subst e
        cases ht : a.tmps[d]? with
        | none => simp
        | some v =>
          rw [ht] at h1
          simp only [Option.getD_some] at h1
          subst h1
          simp
      · simp at e

/-- One operation of a region. -/
theorem op1_ok (hty : TyOk P ty) (hcall : CallStep P ty fn cl A) {g : Gh} {tm : List C} {H : List HS} {a : Act} {w : World} {Q : Exit → Act → World → Prop} {all : Array Oper} {i base : Nat} {o : Oper} {c : Cls} {st' : St} {K : Act → World → Prop}
    (ho : all[i]? = some o) (h : Rel ty A g ⟨tm, H⟩ a w) (e : op1 ty fn cl all base o ⟨tm, H⟩ = some (c, st')) (hK : ∀ g' a' w', Rel ty A g' st' a' w' → K a' w') : wpOp P all Q i K a w := by
  rw [op1_eq] at e
  unfold wpOp
  rw [ho]
  dsimp only
  split at e
  · simp at e
  · rename_i hg
    rw [gd_wanted h hg, if_pos rfl]
    cases hs : stepV ty fn cl (none : V3) base o tm H mk3 with
    | none => rw [hs] at e; simp at e
    | some r =>
      rw [hs] at e
      simp only [Option.map_some, Option.some.injEq, Prod.mk.injEq] at e
      obtain ⟨rfl, rfl⟩ := e
      refine .inl (Oper.wp_mono (fun a' w' hp => ?_) (step_ok (Q := Q) hty hcall h (c := r.1) (H' := r.2.1) (v := r.2.2) hs))
      obtain ⟨g', h1, _⟩ := hp
      exact hK g' a' w' h1
  · rename_i hg
    rw [gd_wanted h hg, if_neg (by simp)]
    simp only [Option.some.injEq, Prod.mk.injEq] at e
    obtain ⟨rfl, rfl⟩ := e
    exact hK g _ w (h.put o.dst (c := .tup []) ⟨[], rfl, rfl, fun i a ss u hi => by simp at hi⟩)

/-! ### What two operations have to do with each other -/

theorem putC_getD {tm : List C} {dst : Option Tmp} {v : C} {d : Nat} (h : ∀ x, dst = some x → x ≠ d) : (putC tm dst v).getD d (.one .undef) = tm.getD d (.one .undef) := by
  cases dst with
  | none => rfl
  | some x =>
    simp only [putC, List.getD_eq_getElem?_getD]
    rw [List.getElem?_set_ne (h x rfl)]

theorem putC_comm {tm : List C} {x y : Option Tmp} {u v : C} (h : ∀ d, x = some d → y ≠ some d) : putC (putC tm x u) y v = putC (putC tm y v) x u := by
  cases x with
  | none => rfl
  | some d =>
    cases y with
    | none => rfl
    | some e =>
      have : d ≠ e := fun hde => h d rfl (by rw [hde])
      simp only [putC]
      exact List.set_comm _ _ this

theorem gd_put {all : Array Oper} {o : Oper} {tm : List C} {dst : Option Tmp} {v : C} (h : ∀ d, dst = some d → d ∉ o.looksAt all) : gd all o (putC tm dst v) = gd all o tm := by
  unfold gd
  cases hg : o.guard with
  | none => rfl
  | some jw =>
    obtain ⟨j, want⟩ := jw
    dsimp only
    cases hd : (all[j]?).bind (·.dst) with
    | none => rfl
    | some d =>
      dsimp only
      rw [putC_getD fun x hx hxd => h x hx (by subst hxd; simp [Oper.looksAt, hg, hd])]

theorem opd_put {all : Array Oper} {o : Oper} {tm : List C} {dst : Option Tmp} {v : C} (h : ∀ d, dst = some d → d ∉ o.looksAt all) : ∀ x ∈ o.op.operands, opd (putC tm dst v) x = opd tm x := by
  intro x hx
  cases x with
  | tmp t =>
    simp only [opd]
    exact putC_getD fun d hd hdt => h d hd (by
      subst hdt
      exact List.mem_append_left _ (List.mem_filterMap.2 ⟨.tmp d, by simpa using hx, rfl⟩))
  | _ => rfl

/-- An operation that does not look at a slot. -/
theorem op1_put {all : Array Oper} {base : Nat} {o : Oper} {tm : List C} {H : List HS} {dst : Option Tmp} {u : C} (h : ∀ d, dst = some d → d ∉ o.looksAt all) (h2 : ∀ d, dst = some d → o.dst ≠ some d) {c : Cls} {st' : St} :
    op1 ty fn cl all base o ⟨tm, H⟩ = some (c, st') → op1 ty fn cl all base o ⟨putC tm dst u, H⟩ = some (c, ⟨putC st'.tm dst u, st'.H⟩) := by
  intro e
  rw [op1_eq] at e ⊢
  rw [gd_put h]
  split at e
  · simp at e
  · rename_i hg
    rw [stepV_congr (opd_put h)]
    cases hs : stepV ty fn cl (none : V3) base o tm H mk3 with
    | none => rw [hs] at e; simp at e
    | some r =>
      rw [hs] at e
      simp only [Option.map_some, Option.some.injEq, Prod.mk.injEq] at e ⊢
      obtain ⟨rfl, rfl⟩ := e
      exact ⟨rfl, by rw [putC_comm h2]⟩
  · rename_i hg
    simp only [Option.some.injEq, Prod.mk.injEq] at e ⊢
    obtain ⟨rfl, rfl⟩ := e
    exact ⟨rfl, by rw [putC_comm h2]⟩

theorem op1_unput {all : Array Oper} {base : Nat} {o : Oper} {tm : List C} {H : List HS} {dst : Option Tmp} {u : C} (h : ∀ d, dst = some d → d ∉ o.looksAt all) (h2 : ∀ d, dst = some d → o.dst ≠ some d) {c : Cls} {st' : St}
    (e : op1 ty fn cl all base o ⟨putC tm dst u, H⟩ = some (c, st')) : ∃ st'', op1 ty fn cl all base o ⟨tm, H⟩ = some (c, st'') ∧ st' = ⟨putC st''.tm dst u, st''.H⟩ := by
  cases hk : op1 ty fn cl all base o ⟨tm, H⟩ with
  | none =>
    rw [op1_eq] at e hk
    rw [gd_put h] at e
    split at hk
    · rename_i hg; rw [hg] at e; simp at e
    · rename_i hg
      rw [hg] at e
      dsimp only at e
      rw [stepV_congr (opd_put h)] at e
      simp only [Option.map_eq_none_iff] at hk
      rw [hk] at e
      simp at e
    · simp at hk
  | some r =>
    obtain ⟨c', st''⟩ := r
    have := op1_put (u := u) h h2 hk
    rw [this] at e
    simp only [Option.some.injEq, Prod.mk.injEq] at e
    obtain ⟨rfl, rfl⟩ := e
    exact ⟨st'', rfl, rfl⟩

/-- What a class says of an operation of a region. -/
theorem op1_cls {all : Array Oper} {base : Nat} {o : Oper} {tm : List C} {H : List HS} {c : Cls} {st' : St} (e : op1 ty fn cl all base o ⟨tm, H⟩ = some (c, st')) :
    (∃ v, st'.tm = putC tm o.dst v) ∧ (c = .t → st'.H = H ∧ ∀ H3, op1 ty fn cl all base o ⟨tm, H3⟩ = some (.t, ⟨st'.tm, H3⟩)) ∧ (c = .r → st'.H = H) := by
  rw [op1_eq] at e
  split at e
  · simp at e
  · rename_i hg
    cases hs : stepV ty fn cl (none : V3) base o tm H mk3 with
    | none => rw [hs] at e; simp at e
    | some r =>
      obtain ⟨c', H', v⟩ := r
      rw [hs] at e
      simp only [Option.map_some, Option.some.injEq, Prod.mk.injEq] at e
      obtain ⟨rfl, rfl⟩ := e
      obtain ⟨k1, k2⟩ := stepV_cls H c' H' v hs
      refine ⟨⟨v, rfl⟩, fun hc => ⟨(k1 hc).1, fun H3 => ?_⟩, k2⟩
      rw [op1_eq, hg]
      dsimp only
      have := (k1 hc).2 H3
      dsimp only at this
      rw [this]
      rfl
  · rename_i hg
    simp only [Option.some.injEq, Prod.mk.injEq] at e
    obtain ⟨rfl, rfl⟩ := e
    refine ⟨⟨_, rfl⟩, fun _ => ⟨rfl, fun H3 => ?_⟩, fun h => by simp at h⟩
    rw [op1_eq, hg]

/-- What is read stays where a new variable is made. -/
theorem op1_r {all : Array Oper} {base b : Nat} {o : Oper} {tm : List C} {H : List HS} {hs : HS} {st' : St} (hb : getH H b = .free) (e : op1 ty fn cl all base o ⟨tm, H⟩ = some (.r, st')) : op1 ty fn cl all base o ⟨tm, setH H b hs⟩ = some (.r, ⟨st'.tm, setH H b hs⟩) := by
  rw [op1_eq] at e ⊢
  split at e
  · simp at e
  · rename_i hg
    cases hs : stepV ty fn cl (none : V3) base o tm H mk3 with
    | none => rw [hs] at e; simp at e
    | some r =>
      obtain ⟨c', H', v⟩ := r
      rw [hs] at e
      simp only [Option.map_some, Option.some.injEq, Prod.mk.injEq] at e
      obtain ⟨rfl, rfl⟩ := e
      rw [stepV_r hb hs]
      rfl
  · simp only [Option.some.injEq, Prod.mk.injEq] at e
    simp at e

theorem op1_n {all : Array Oper} {base : Nat} {o : Oper} {tm : List C} {H : List HS} {st' : St} (e : op1 ty fn cl all base o ⟨tm, H⟩ = some (.n, st')) :
    getH H base = .free ∧ ∃ ob, st'.H = setH H base (.live ob) ∧ ∀ H3, getH H3 base = .free → op1 ty fn cl all base o ⟨tm, H3⟩ = some (.n, ⟨st'.tm, setH H3 base (.live ob)⟩) := by
  rw [op1_eq] at e
  split at e
  · simp at e
  · rename_i hg
    cases hs : stepV ty fn cl (none : V3) base o tm H mk3 with
    | none => rw [hs] at e; simp at e
    | some r =>
      obtain ⟨c', H', v⟩ := r
      rw [hs] at e
      simp only [Option.map_some, Option.some.injEq, Prod.mk.injEq] at e
      obtain ⟨rfl, rfl⟩ := e
      obtain ⟨h1, ob, h2, h3⟩ := stepV_n hs
      refine ⟨h1, ob, h2, fun H3 hf => ?_⟩
      rw [op1_eq, hg]
      dsimp only
      rw [h3 H3 hf]
      rfl
  · simp only [Option.some.injEq, Prod.mk.injEq] at e
    simp at e

theorem op1_rv {all : Array Oper} {base id : Nat} {o : Oper} {tm : List C} {H : List HS} {st' : St} (e : op1 ty fn cl all base o ⟨tm, H⟩ = some (.rv id, st')) :
    st'.H = H ∧ (∃ ob, getH H id = .live ob) ∧ ∀ H3, getH H3 id = getH H id → op1 ty fn cl all base o ⟨tm, H3⟩ = some (.rv id, ⟨st'.tm, H3⟩) := by
  rw [op1_eq] at e
  split at e
  · simp at e
  · rename_i hg
    cases hs : stepV ty fn cl (none : V3) base o tm H mk3 with
    | none => rw [hs] at e; simp at e
    | some r =>
      obtain ⟨c', H', v⟩ := r
      rw [hs] at e
      simp only [Option.map_some, Option.some.injEq, Prod.mk.injEq] at e
      obtain ⟨rfl, rfl⟩ := e
      obtain ⟨h1, h2, h3⟩ := stepV_rv hs
      refine ⟨h1, h2, fun H3 hf => ?_⟩
      rw [op1_eq, hg]
      dsimp only
      rw [h3 H3 hf]
      rfl
  · simp only [Option.some.injEq, Prod.mk.injEq] at e
    simp at e

theorem op1_st {all : Array Oper} {base id : Nat} {o : Oper} {tm : List C} {H : List HS} {st' : St} (e : op1 ty fn cl all base o ⟨tm, H⟩ = some (.st id, st')) :
    ∃ x, st'.H = setH H id x ∧ ∀ H3, getH H3 id = getH H id → op1 ty fn cl all base o ⟨tm, H3⟩ = some (.st id, ⟨st'.tm, setH H3 id x⟩) := by
  rw [op1_eq] at e
  split at e
  · simp at e
  · rename_i hg
    cases hs : stepV ty fn cl (none : V3) base o tm H mk3 with
    | none => rw [hs] at e; simp at e
    | some r =>
      obtain ⟨c', H', v⟩ := r
      rw [hs] at e
      simp only [Option.map_some, Option.some.injEq, Prod.mk.injEq] at e
      obtain ⟨rfl, rfl⟩ := e
      obtain ⟨x, h1, h3⟩ := stepV_st hs
      refine ⟨x, h1, fun H3 hf => ?_⟩
      rw [op1_eq, hg]
      dsimp only
      rw [h3 H3 hf]
      rfl
  · simp only [Option.some.injEq, Prod.mk.injEq] at e
    simp at e

/-- Two operations that do not bear on each other, in the other order. -/
theorem op1_swap {all : Array Oper} {b1 b2 : Nat} {x y : Oper} {st st1 st2 : St} {c1 c2 : Cls} (e1 : op1 ty fn cl all b1 x st = some (c1, st1)) (e2 : op1 ty fn cl all b2 y st1 = some (c2, st2)) (hf : Cls.free c1 c2 = true)
    (ha : Oper.apart all x y = true) : ∃ st3, op1 ty fn cl all b2 y st = some (c2, st3) ∧ op1 ty fn cl all b1 x st3 = some (c1, st2) := by
  obtain ⟨a1, a2, a3⟩ := Oper.apart_spec ha
  have a2' : ∀ d, y.dst = some d → x.dst ≠ some d := fun d h1 h2 => a2 d h2 h1
  obtain ⟨tm, H⟩ := st
  obtain ⟨tm1, H1⟩ := st1
  obtain ⟨⟨v, hv⟩, t1, r1⟩ := op1_cls e1
  simp only at hv t1 r1
  subst hv
  obtain ⟨⟨tm3, H3⟩, k1, k2⟩ := op1_unput a1 a2 e2
  subst k2
  obtain ⟨⟨u, hu⟩, t2, r2⟩ := op1_cls k1
  simp only at hu t2 r2 ⊢
  subst hu
  -- it is enough to run the first behind the second
  have fin : ∀ HH, op1 ty fn cl all b2 y ⟨tm, H⟩ = some (c2, ⟨putC tm y.dst u, HH⟩) → op1 ty fn cl all b1 x ⟨tm, HH⟩ = some (c1, ⟨putC tm x.dst v, H3⟩) →
      ∃ st3, op1 ty fn cl all b2 y ⟨tm, H⟩ = some (c2, st3) ∧ op1 ty fn cl all b1 x st3 = some (c1, ⟨putC (putC tm y.dst u) x.dst v, H3⟩) := by
    intro HH h1 h2
    refine ⟨_, h1, ?_⟩
    have := op1_put (u := u) a3 a2' h2
    rw [this, putC_comm a2']
  cases c1 with
  | t =>
    obtain ⟨rfl, t1'⟩ := t1 rfl
    exact fin H3 k1 (t1' H3)
  | r =>
    obtain rfl := r1 rfl
    cases c2 with
    | t =>
      obtain ⟨rfl, t2⟩ := t2 rfl
      exact fin _ k1 e1
    | r =>
      obtain rfl := r2 rfl
      exact fin _ k1 e1
    | rv j =>
      obtain ⟨rfl, _⟩ := op1_rv k1
      exact fin _ k1 e1
    | n =>
      obtain ⟨n1, ob, n2, n3⟩ := op1_n k1
      dsimp only at n2
      subst n2
      exact fin _ k1 (op1_r (hs := .live ob) n1 e1)
    | w => simp [Cls.free] at hf
    | st j => simp [Cls.free] at hf
  | w =>
    cases c2 with
    | t =>
      obtain ⟨rfl, t2'⟩ := t2 rfl
      exact fin H (t2' H) e1
    | _ => simp [Cls.free] at hf
  | n =>
    obtain ⟨m1, ob1, m2, m3⟩ := op1_n e1
    dsimp only at m2
    subst m2
    cases c2 with
    | t =>
      obtain ⟨rfl, t2'⟩ := t2 rfl
      exact fin H (t2' H) e1
    | n =>
      obtain ⟨n1, ob2, n2, n3⟩ := op1_n k1
      dsimp only at n2
      subst n2
      have hne : b1 ≠ b2 := by
        intro h
        subst h
        rw [getH_set_self m1] at n1
        simp at n1
      have f2 : getH H b2 = .free := by rw [getH_set_ne _ hne] at n1; exact n1
      have f1 : getH (setH H b2 (.live ob2)) b1 = .free := by rw [getH_set_ne _ (fun h => hne h.symm)]; exact m1
      have := m3 _ f1
      refine fin (setH H b2 (.live ob2)) (n3 H f2) ?_
      rw [this]
      simp only [setH]
      rw [List.set_comm _ _ hne]
    | _ => simp [Cls.free] at hf
  | rv i =>
    obtain ⟨h1, ⟨ob, hob⟩, h3⟩ := op1_rv e1
    dsimp only at h1
    subst h1
    cases c2 with
    | t =>
      obtain ⟨rfl, _⟩ := t2 rfl
      exact fin _ k1 e1
    | r =>
      obtain rfl := r2 rfl
      exact fin _ k1 e1
    | rv j =>
      obtain ⟨rfl, _⟩ := op1_rv k1
      exact fin _ k1 e1
    | n =>
      obtain ⟨n1, ob2, n2, n3⟩ := op1_n k1
      dsimp only at n2
      subst n2
      have hne : b2 ≠ i := by
        intro h
        subst h
        rw [hob] at n1
        simp at n1
      exact fin _ k1 (h3 _ (getH_set_ne _ hne))
    | st j =>
      obtain ⟨z, z1, z2⟩ := op1_st k1
      dsimp only at z1
      subst z1
      have hne : j ≠ i := by
        intro h
        subst h
        simp [Cls.free] at hf
      exact fin _ k1 (h3 _ (getH_set_ne _ hne))
    | w => simp [Cls.free] at hf
  | st i =>
    obtain ⟨z, z1, z2⟩ := op1_st e1
    dsimp only at z1
    subst z1
    cases c2 with
    | t =>
      obtain ⟨rfl, t2'⟩ := t2 rfl
      exact fin H (t2' H) e1
    | rv j =>
      obtain ⟨h1, _, h3⟩ := op1_rv k1
      dsimp only at h1
      subst h1
      have hne : i ≠ j := by
        intro h
        subst h
        simp [Cls.free] at hf
      exact fin H (h3 H (getH_set_ne _ hne).symm) e1
    | st j =>
      obtain ⟨y0, y1, y2⟩ := op1_st k1
      dsimp only at y1
      subst y1
      have hne : i ≠ j := by
        intro h
        subst h
        simp [Cls.free] at hf
      refine fin (setH H j y0) (y2 H (getH_set_ne _ hne).symm) ?_
      rw [z2 _ (getH_set_ne _ (fun h => hne h.symm))]
      simp only [setH]
      rw [List.set_comm _ _ hne]
    | _ => simp [Cls.free] at hf

end
end Go.Proofs.YtljggmbgbnmapaaGreatV
