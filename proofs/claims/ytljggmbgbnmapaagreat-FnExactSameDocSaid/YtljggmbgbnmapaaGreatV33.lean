/- The evaluator without fuel: what a call and a loop answer at last. -/
import Derived.Test.YtljggmbgbnmapaaGreatV14
import Derived.Test.YtljggmbgbnmapaaGreatV26
namespace Go.Proofs.YtljggmbgbnmapaaGreatV
open Go
set_option linter.unusedVariables false
set_option linter.unusedSimpArgs false

/-- More fuel never changes an answer. -/
def Mono (g : Nat → Out) : Prop := ∀ k, g k = .fail ∨ g (k + 1) = g k

theorem Mono.up {g : Nat → Out} (h : Mono g) {k : Nat} (hk : g k ≠ .fail) : ∀ n, g (k + n) = g k
  | 0 => rfl
  | n + 1 => by
    have ih := Mono.up h hk n
    rcases h (k + n) with h1 | h1
    · rw [ih] at h1; exact absurd h1 hk
    · rw [← Nat.add_assoc, h1, ih]

theorem Mono.le {g : Nat → Out} (h : Mono g) {k k' : Nat} (hk : k ≤ k') : g k = .fail ∨ g k' = g k := by
  by_cases hf : g k = .fail
  · exact .inl hf
  · obtain ⟨n, rfl⟩ := Nat.exists_eq_add_of_le hk
    exact .inr (h.up hf n)

open Classical in
/-- The answer at last. -/
noncomputable def lim (g : Nat → Out) : Out := if h : ∃ k, g k ≠ .fail then g (Classical.choose h) else .fail

theorem Mono.lim {g : Nat → Out} (h : Mono g) : Evt g (lim g) := by
  unfold YtljggmbgbnmapaaGreatV.lim
  split
  · rename_i hk
    have := Classical.choose_spec hk
    refine ⟨Classical.choose hk, fun k hle => ?_⟩
    rcases h.le hle with h1 | h1
    · exact absurd h1 this
    · exact h1
  · rename_i hk
    refine ⟨0, fun k _ => ?_⟩
    exact Classical.byContradiction fun hne => hk ⟨k, hne⟩

theorem Evt.uniq {g : Nat → Out} {o o' : Out} (h : Evt g o) (h' : Evt g o') : o = o' := by
  obtain ⟨N, h⟩ := h
  obtain ⟨M, h'⟩ := h'
  rw [← h (max N M) (by omega), ← h' (max N M) (by omega)]

/-- At last this, and no other answer on the way. -/
def Lim (g : Nat → Out) (o : Out) : Prop := Mono g ∧ Evt g o

theorem Lim.le {g : Nat → Out} {o : Out} (h : Lim g o) (k : Nat) : g k = .fail ∨ o = g k := by
  obtain ⟨N, hN⟩ := h.2
  rcases h.1.le (Nat.le_max_left k N) with h1 | h1
  · exact .inl h1
  · exact .inr (by rw [← h1, hN _ (by omega)])

theorem Lim.const (o : Out) : Lim (fun _ => o) o := ⟨fun _ => .inr rfl, Evt.const o⟩

def MonoO {α : Type} (g : Nat → Option α) : Prop := ∀ k, g k = none ∨ g (k + 1) = g k
def LimO {α : Type} (g : Nat → Option α) (o : Option α) : Prop := MonoO g ∧ ∃ N, ∀ k, N ≤ k → g k = o

theorem LimO.const {α : Type} (o : Option α) : LimO (fun _ => o) o := ⟨fun _ => .inr rfl, 0, fun _ _ => rfl⟩

theorem Lim.via {α : Type} {g : Nat → Option α} {o : Option α} {K : Nat → α → Out} {K' : α → Out} (h : LimO g o) (hK : ∀ a, Lim (fun k => K k a) (K' a)) : Lim (fun k => via .fail (g k) (K k)) (via .fail o K') := by
  obtain ⟨hm, N, hN⟩ := h
  constructor
  · intro k
    rcases hm k with h1 | h1
    · left
      simp [h1, YtljggmbgbnmapaaGreatV.via]
    · cases hg : g k with
      | none => left; simp [hg, YtljggmbgbnmapaaGreatV.via]
      | some a =>
        rw [hg] at h1
        simp only [h1, hg, YtljggmbgbnmapaaGreatV.via]
        exact (hK a).1 k
  · cases o with
    | none => exact ⟨N, fun k hk => by simp [hN k hk, YtljggmbgbnmapaaGreatV.via]⟩
    | some a =>
      obtain ⟨M, hM⟩ := (hK a).2
      exact ⟨max N M, fun k hk => by simp only [hN k (by omega), YtljggmbgbnmapaaGreatV.via]; exact hM k (by omega)⟩

theorem Lim.andThen {g : Nat → Out} {o : Out} {K : Nat → List DC → Out} {K' : List DC → Out} (h : Lim g o) (hK : ∀ v, Lim (fun k => K k v) (K' v)) : Lim (fun k => (g k).andThen (K k)) (o.andThen K') := by
  constructor
  · intro k
    dsimp only
    rcases h.1 k with h1 | h1
    · left; rw [h1]; rfl
    · rw [h1]
      cases hg : g k with
      | norm v => exact (hK v).1 k
      | _ => first | exact .inl rfl | exact .inr rfl
  · obtain ⟨N, hN⟩ := h.2
    cases o with
    | norm v =>
      obtain ⟨M, hM⟩ := (hK v).2
      exact ⟨max N M, fun k hk => by dsimp only; rw [hN k (by omega)]; exact hM k (by omega)⟩
    | _ => exact ⟨N, fun k hk => by dsimp only; rw [hN k hk]; rfl⟩

theorem Lim.andThenB {g : Nat → Out} {o : Out} {id : Nat} {K : Nat → List DC → Out} {K' : List DC → Out} (h : Lim g o) (hK : ∀ v, Lim (fun k => K k v) (K' v)) : Lim (fun k => (g k).andThenB id (K k)) (o.andThenB id K') := by
  constructor
  · intro k
    dsimp only
    rcases h.1 k with h1 | h1
    · left; rw [h1]; rfl
    · rw [h1]
      cases hg : g k with
      | norm v => exact (hK v).1 k
      | ex id' v =>
        simp only [Out.andThenB]
        by_cases hid : id' = id
        · simp only [hid, if_true]; exact (hK v).1 k
        · simp [hid]
      | _ => first | exact .inl rfl | exact .inr rfl
  · obtain ⟨N, hN⟩ := h.2
    cases o with
    | norm v =>
      obtain ⟨M, hM⟩ := (hK v).2
      exact ⟨max N M, fun k hk => by dsimp only; rw [hN k (by omega)]; exact hM k (by omega)⟩
    | ex id' v =>
      by_cases hid : id' = id
      · obtain ⟨M, hM⟩ := (hK v).2
        exact ⟨max N M, fun k hk => by dsimp only; rw [hN k (by omega)]; simp only [Out.andThenB, hid, if_true]; exact hM k (by omega)⟩
      · exact ⟨N, fun k hk => by dsimp only; rw [hN k hk]; simp [Out.andThenB, hid]⟩
    | _ => exact ⟨N, fun k hk => by dsimp only; rw [hN k hk]; rfl⟩

theorem Lim.ite {c : Prop} [Decidable c] {g g' : Nat → Out} {o o' : Out} (h : Lim g o) (h' : Lim g' o') : Lim (fun k => if c then g k else g' k) (if c then o else o') := by
  by_cases hc : c
  · simpa [hc] using h
  · simpa [hc] using h'

/-! ### Loops -/

theorem loopF_mono (F : List DC → Out) : ∀ (n : Nat) (v : List DC), loopF F n v = .fail ∨ loopF F (n + 1) v = loopF F n v
  | 0, v => .inl rfl
  | n + 1, v => by
    rw [loopF, loopF]
    cases F v with
    | norm v' => exact loopF_mono F n v'
    | _ => exact .inr rfl

theorem loopF_le {F F' : List DC → Out} (h : ∀ v, F v = .fail ∨ F' v = F v) : ∀ (n : Nat) (v : List DC), loopF F n v = .fail ∨ loopF F' n v = loopF F n v
  | 0, v => .inl rfl
  | n + 1, v => by
    rw [loopF, loopF]
    rcases h v with h1 | h1
    · left; rw [h1]; rfl
    · rw [h1]
      cases F v with
      | norm v' => exact loopF_le h n v'
      | _ => exact .inr rfl

/-- What a loop answers at last. -/
noncomputable def Loop (F : List DC → Out) (v : List DC) : Out := lim fun n => loopF F n v

theorem loop_lim (F : List DC → Out) (v : List DC) : Lim (fun n => loopF F n v) (Loop F v) := ⟨fun n => loopF_mono F n v, Mono.lim fun n => loopF_mono F n v⟩

theorem Loop_eq (F : List DC → Out) (v : List DC) : Loop F v = (F v).andThen (Loop F) := by
  have h1 : Evt (fun n => loopF F (n + 1) v) (Loop F v) := by
    obtain ⟨N, h⟩ := (loop_lim F v).2
    exact ⟨N, fun k hk => h (k + 1) (by omega)⟩
  have h2 : Evt (fun n => loopF F (n + 1) v) ((F v).andThen (Loop F)) := (Lim.andThen (g := fun _ => F v) (K := fun n v => loopF F n v) (Lim.const _) fun v => loop_lim F v).2
  exact h1.uniq h2

theorem Lim.loop {F : Nat → List DC → Out} {F' : List DC → Out} (h : ∀ v, Lim (fun k => F k v) (F' v)) (v : List DC) : Lim (fun k => loopF (F k) k v) (Loop F' v) := by
  constructor
  · intro k
    dsimp only
    rcases loopF_mono (F k) k v with h1 | h1
    · exact .inl h1
    · rcases loopF_le (F := F k) (F' := F (k + 1)) (fun v => (h v).1 k) (k + 1) v with h2 | h2
      · left; rw [← h1, h2]
      · right; rw [h2, h1]
  · have up : ∀ (n : Nat) (v : List DC), loopF F' n v ≠ .fail → ∃ N, ∀ k, N ≤ k → loopF (F k) n v = loopF F' n v := by
      intro n
      induction n with
      | zero => intro v hv; exact absurd rfl hv
      | succ n ih =>
        intro v hv
        obtain ⟨N, hN⟩ := (h v).2
        rw [loopF] at hv
        cases hf : F' v with
        | norm v' =>
          rw [hf] at hv
          obtain ⟨M, hM⟩ := ih v' hv
          refine ⟨max N M, fun k hk => ?_⟩
          have hNk := hN k (by omega)
          dsimp only at hNk
          rw [loopF, loopF, hNk, hf]
          exact hM k (by omega)
        | _ =>
          refine ⟨N, fun k hk => ?_⟩
          have hNk := hN k hk
          dsimp only at hNk
          rw [loopF, loopF, hNk, hf]
          rfl
    obtain ⟨n, hn⟩ := (loop_lim F' v).2
    by_cases hfail : Loop F' v = .fail
    · rw [hfail]
      refine ⟨0, fun k _ => ?_⟩
      rcases loopF_le (F := F k) (F' := F') (fun v => (h v).le k) k v with h1 | h1
      · exact h1
      · rcases (loop_lim F' v).le k with h2 | h2
        · dsimp only at h2 ⊢; rw [← h1, h2]
        · dsimp only at h2 ⊢; rw [← h1, ← h2, hfail]
    · have hne : loopF F' n v ≠ .fail := by
        have := hn n (Nat.le_refl _)
        dsimp only at this
        rw [this]; exact hfail
      obtain ⟨N, hN⟩ := up n v hne
      refine ⟨max N n, fun k hk => ?_⟩
      have h1 := hN k (by omega)
      rcases Mono.le (g := fun m => loopF (F k) m v) (fun m => loopF_mono (F k) m v) (show n ≤ k by omega) with h2 | h2
      · rw [h1] at h2; exact absurd h2 hne
      · dsimp only at h2 ⊢
        rw [h2, h1]
        exact hn n (Nat.le_refl _)

/-! ### One operation -/

section
variable {ty : Nat → Option TI} {fn : Nat → Option FI}

theorem callR_shape (base : Nat) (st : St) (f : Nat) (caps : List Nat) (args : List C) : (∀ (cl : Nat → Hint → List DC → Out) (K : List HS → C → Option (List HS × C)), callR ty fn cl none base st f caps args K = none) ∨
    ∃ (h : Hint) (v : List DC) (G : List DC → Option (List HS × C)), ∀ (cl : Nat → Hint → List DC → Out), callR ty fn cl none base st f caps args (fun H v => some (H, v)) = match cl f h v with | .ret r => G r | _ => none := by
  unfold callR
  cases fn f with
  | none => exact .inl fun _ _ => rfl
  | some fi =>
    dsimp only
    generalize args ++ caps.map (fun id => C.one (.ptr id 0)) = as
    generalize argIds fi.pk as = ids
    cases argK 0 ids.length fi.pk as with
    | none => exact .inl fun _ _ => rfl
    | some kcs =>
    cases objK ty st.H ids with
    | none => exact .inl fun _ _ => rfl
    | some kos =>
    dsimp only
    cases srcT (kcs.map KC.data) as with
    | none => exact .inl fun _ _ => rfl
    | some p =>
    cases srcV st.H ids kos with
    | none => exact .inl fun _ _ => rfl
    | some q =>
    dsimp only
    cases normL ty st.H (kcs.flatMap (fun k => k.data.kinds) ++ kos.flatMap KO.kinds) (p ++ q) with
    | none => exact .inl fun _ _ => rfl
    | some vH =>
    obtain ⟨v, H1⟩ := vH
    dsimp only
    split
    · exact .inr ⟨_, _, _, fun cl => rfl⟩
    · exact .inl fun _ _ => rfl

theorem stepV_shape (base : Nat) (o : Oper) (tm : List C) (H : List HS) : (∃ X, ∀ (cl : Nat → Hint → List DC → Out), stepV ty fn cl none base o tm H (fun c H v => some (c, H, v)) = X) ∨
    ∃ (f : Nat) (caps : List Nat) (args : List C) (c : Cls), ∀ (cl : Nat → Hint → List DC → Out), stepV ty fn cl none base o tm H (fun c H v => some (c, H, v)) = via none (callR ty fn cl none base ⟨tm, H⟩ f caps args fun H v => some (H, v)) fun (r : List HS × C) => some (c, r.1, r.2) := by
  unfold stepV
  cases o.op with
  | call c =>
    dsimp only
    cases c.callee with
    | value f =>
      dsimp only
      cases opd tm f with
      | one s =>
        cases s with
        | fn f caps => exact .inr ⟨f, caps, _, _, fun cl => callR_par (fail := none) (K := fun H v => some (_, H, v))⟩
        | _ => exact .inl ⟨_, fun _ => rfl⟩
      | _ => exact .inl ⟨_, fun _ => rfl⟩
    | _ => exact .inl ⟨_, fun _ => rfl⟩
  | _ => exact .inl ⟨_, fun _ => rfl⟩

theorem Lim.stepV {cl : Nat → Nat → Hint → List DC → Out} {cl' : Nat → Hint → List DC → Out} (hcl : ∀ f h v, Lim (fun k => cl k f h v) (cl' f h v)) {base : Nat} {o : Oper} {tm : List C} {H : List HS} {K : Nat → Cls → List HS → C → Out} {K' : Cls → List HS → C → Out}
    (hK : ∀ c H v, Lim (fun k => K k c H v) (K' c H v)) : Lim (fun k => YtljggmbgbnmapaaGreatV.stepV ty fn (cl k) .fail base o tm H (K k)) (YtljggmbgbnmapaaGreatV.stepV ty fn cl' .fail base o tm H K') := by
  rw [stepV_par, show (fun k => YtljggmbgbnmapaaGreatV.stepV ty fn (cl k) .fail base o tm H (K k)) = fun k => YtljggmbgbnmapaaGreatV.via .fail (YtljggmbgbnmapaaGreatV.stepV ty fn (cl k) none base o tm H fun c H v => some (c, H, v)) fun (r : Cls × List HS × C) => K k r.1 r.2.1 r.2.2 from funext fun k => stepV_par]
  refine Lim.via (K := fun k (r : Cls × List HS × C) => K k r.1 r.2.1 r.2.2) ?_ fun r => hK _ _ _
  rcases stepV_shape (ty := ty) (fn := fn) base o tm H with ⟨X, hX⟩ | ⟨f, caps, args, c, hX⟩
  · simp only [hX]
    exact LimO.const X
  · simp only [hX]
    rcases callR_shape (ty := ty) (fn := fn) base ⟨tm, H⟩ f caps args with h0 | ⟨h, v, G, h1⟩
    · simp only [h0]
      exact LimO.const _
    · simp only [h1]
      constructor
      · intro k
        rcases (hcl f h v).1 k with h2 | h2
        · dsimp only at h2; left; simp only [h2]; rfl
        · dsimp only at h2; right; simp only [h2]
      · obtain ⟨N, hN⟩ := (hcl f h v).2
        exact ⟨N, fun k hk => by have := hN k hk; dsimp only at this ⊢; rw [this]⟩

theorem Lim.opR {cl : Nat → Nat → Hint → List DC → Out} {cl' : Nat → Hint → List DC → Out} (hcl : ∀ f h v, Lim (fun k => cl k f h v) (cl' f h v)) {all : Array Oper} {base : Nat} {o : Oper} {st : St} {K : Nat → Cls → St → Out} {K' : Cls → St → Out}
    (hK : ∀ c st, Lim (fun k => K k c st) (K' c st)) : Lim (fun k => YtljggmbgbnmapaaGreatV.opR ty fn (cl k) .fail all base o st (K k)) (YtljggmbgbnmapaaGreatV.opR ty fn cl' .fail all base o st K') := by
  have hs : ∀ st, Lim (fun k => YtljggmbgbnmapaaGreatV.stepR ty fn (cl k) .fail base o st (K k)) (YtljggmbgbnmapaaGreatV.stepR ty fn cl' .fail base o st K') := fun st => Lim.stepV hcl fun c H v => hK _ _
  unfold YtljggmbgbnmapaaGreatV.opR
  cases o.guard with
  | none => exact hs st
  | some g =>
    obtain ⟨j, want⟩ := g
    dsimp only
    cases (all[j]?).bind (·.dst) with
    | none => exact Lim.const _
    | some d =>
      dsimp only
      cases st.tm.getD d (.one .undef) with
      | one s =>
        cases s with
        | bool b =>
          cases b <;> cases want <;> first | exact hs _ | exact hK _ _
        | _ => exact Lim.const _
      | tup l =>
        cases l with
        | nil => exact hK _ _
        | cons _ _ => exact Lim.const _
      | _ => exact Lim.const _

theorem Lim.runR {cl : Nat → Nat → Hint → List DC → Out} {cl' : Nat → Hint → List DC → Out} (hcl : ∀ f h v, Lim (fun k => cl k f h v) (cl' f h v)) {all : Array Oper} {K : Nat → List Cls → St → Out} {K' : List Cls → St → Out}
    (hK : ∀ c st, Lim (fun k => K k c st) (K' c st)) : ∀ (l : List (Oper × Nat)) (acc : List Cls) (st : St), Lim (fun k => YtljggmbgbnmapaaGreatV.runR ty fn (cl k) .fail all l acc st (K k)) (YtljggmbgbnmapaaGreatV.runR ty fn cl' .fail all l acc st K')
  | [], acc, st => hK _ _
  | (o, base) :: l, acc, st => Lim.opR hcl fun c st' => Lim.runR hcl hK l (c :: acc) st'

/-- The evaluator of code, without fuel. -/
def execD (R : Nat → Hint → List DC → Out) (L : (List DC → Out) → List DC → Out) (ty : Nat → Option TI) (fn : Nat → Option FI) (mm : Nat) (rt : St → Out) : AC → (Nat → Option Hint) → St → (St → Out) → Out
  | .skip, _, st, K => K st
  | .region _ ops draw ids none, _, st, K =>
    YtljggmbgbnmapaaGreatV.runR ty fn R Out.fail ops (zipI ops.toList ids) [] st fun cs st' =>
      match draw && !(drawOk ops cs) with
      | true => .fail
      | false => K st'
  | .region _ ops draw ids (some h), _, st, K =>
    (YtljggmbgbnmapaaGreatV.runR ty fn R Out.fail ops (zipI ops.toList ids) [] st fun cs st' =>
      match draw && !(drawOk ops cs) with
      | true => .fail
      | false => toNorm ty mm h st').andThen fun v => K (mkSt h v)
  | .seq a b, Γ, st, K => execD R L ty fn mm rt a Γ st fun st' => execD R L ty fn mm rt b Γ st' K
  | .cond c x y none, Γ, st, K =>
    match opd st.tm c with
    | .one (.bool b) => if b = true then execD R L ty fn mm rt x Γ st K else execD R L ty fn mm rt y Γ st K
    | _ => .fail
  | .cond c x y (some h), Γ, st, K =>
    match opd st.tm c with
    | .one (.bool b) => (if b = true then execD R L ty fn mm rt x Γ st (toNorm ty mm h) else execD R L ty fn mm rt y Γ st (toNorm ty mm h)).andThen fun v => K (mkSt h v)
    | _ => .fail
  | .block id body h, Γ, st, K =>
    (execD R L ty fn mm rt body (fun j => if j = id then some h else Γ j) st (toNorm ty mm h)).andThenB id fun v => K (mkSt h v)
  | .loop body h, Γ, st, _ =>
    match normS ty mm h st with
    | some v => L (fun v => execD R L ty fn mm rt body Γ (mkSt h v) (toNorm ty mm h)) v
    | none => .fail
  | .exit id, Γ, st, _ =>
    match Γ id with
    | some h =>
      (match normS ty mm h st with
      | some v => .ex id v
      | none => .fail)
    | none => .fail
  | .ret, _, st, _ => rt st

theorem Lim.exec {cl : Nat → Nat → Hint → List DC → Out} {cl' : Nat → Hint → List DC → Out} (hcl : ∀ f h v, Lim (fun k => cl k f h v) (cl' f h v)) {mm : Nat} {rt : St → Out} : ∀ (c : AC) (Γ : Nat → Option Hint) (st : St) {K : Nat → St → Out} {K' : St → Out},
    (∀ st, Lim (fun k => K k st) (K' st)) → Lim (fun k => YtljggmbgbnmapaaGreatV.exec ty fn (cl k) mm k rt c Γ st (K k)) (execD cl' Loop ty fn mm rt c Γ st K')
  | .skip, Γ, st, K, K', hK => hK st
  | .region id ops draw ids none, Γ, st, K, K', hK => by
    simp only [YtljggmbgbnmapaaGreatV.exec, execD]
    refine Lim.runR hcl (fun cs st' => ?_) _ _ _
    cases draw && !(drawOk ops cs) with
    | true => exact Lim.const _
    | false => exact hK _
  | .region id ops draw ids (some h), Γ, st, K, K', hK => by
    simp only [YtljggmbgbnmapaaGreatV.exec, execD]
    refine Lim.andThen (K := fun k v => K k (mkSt h v)) (Lim.runR hcl (K := fun _ cs st' => match draw && !(drawOk ops cs) with | true => .fail | false => toNorm ty mm h st') (fun cs st' => Lim.const _) _ _ _) fun v => hK _
  | .seq a b, Γ, st, K, K', hK => by
    simp only [YtljggmbgbnmapaaGreatV.exec, execD]
    exact Lim.exec hcl a Γ st fun st' => Lim.exec hcl b Γ st' hK
  | .cond c x y none, Γ, st, K, K', hK => by
    simp only [YtljggmbgbnmapaaGreatV.exec, execD]
    cases opd st.tm c with
    | one s =>
      cases s with
      | bool b => exact Lim.ite (Lim.exec hcl x Γ st hK) (Lim.exec hcl y Γ st hK)
      | _ => exact Lim.const _
    | _ => exact Lim.const _
  | .cond c x y (some h), Γ, st, K, K', hK => by
    simp only [YtljggmbgbnmapaaGreatV.exec, execD]
    cases opd st.tm c with
    | one s =>
      cases s with
      | bool b => exact Lim.andThen (K := fun k v => K k (mkSt h v)) (Lim.ite (Lim.exec hcl x Γ st fun st => Lim.const _) (Lim.exec hcl y Γ st fun st => Lim.const _)) fun v => hK _
      | _ => exact Lim.const _
    | _ => exact Lim.const _
  | .block id body h, Γ, st, K, K', hK => by
    simp only [YtljggmbgbnmapaaGreatV.exec, execD]
    exact Lim.andThenB (K := fun k v => K k (mkSt h v)) (Lim.exec hcl body _ st fun st => Lim.const _) fun v => hK _
  | .loop body h, Γ, st, K, K', hK => by
    simp only [YtljggmbgbnmapaaGreatV.exec, execD]
    cases normS ty mm h st with
    | none => exact Lim.const _
    | some v => exact Lim.loop (F := fun k v => YtljggmbgbnmapaaGreatV.exec ty fn (cl k) mm k rt body Γ (mkSt h v) (toNorm ty mm h)) (fun v => Lim.exec hcl body Γ _ fun st => Lim.const _) v
  | .exit id, Γ, st, K, K', hK => by
    simp only [YtljggmbgbnmapaaGreatV.exec, execD]
    exact Lim.const _
  | .ret, Γ, st, K, K', hK => by
    simp only [YtljggmbgbnmapaaGreatV.exec, execD]
    exact Lim.const _
end

/-! ### Calls -/

/-- What a call answers at last. -/
noncomputable def Run (cfg : Cfg) (f : Nat) (h : Hint) (v : List DC) : Out := lim fun k => callF cfg k f h v

/-- A function's body over what calls and loops answer. -/
def bodyD (cfg : Cfg) (R : Nat → Hint → List DC → Out) (L : (List DC → Out) → List DC → Out) (f : Nat) (h : Hint) (v : List DC) : Out :=
  match cfg.fn f with
  | none => .fail
  | some fi =>
    match fi.prim with
    | some p => (match p h v with | some r => .ret r | none => .fail)
    | none => execD R L cfg.ty cfg.fn (KO.vars h.ob).length (retOut cfg.ty fi h) (fi.body h) (fun _ => none) (startSt fi h v) (retOut cfg.ty fi h)

theorem callF_mono (cfg : Cfg) : ∀ (k f : Nat) (h : Hint) (v : List DC), callF cfg k f h v = .fail ∨ callF cfg (k + 1) f h v = callF cfg k f h v
  | 0, f, h, v => .inl rfl
  | k + 1, f, h, v => by
    -- the fuel as it grows from k on
    let cl : Nat → Nat → Hint → List DC → Out := fun j f h v => if j ≤ k then callF cfg k f h v else callF cfg (k + 1) f h v
    have hcl : ∀ f h v, Lim (fun j => cl j f h v) (callF cfg (k + 1) f h v) := by
      intro f h v
      constructor
      · intro j
        dsimp only [cl]
        by_cases h1 : j + 1 ≤ k
        · rw [if_pos (show j ≤ k by omega), if_pos h1]; exact .inr rfl
        · by_cases h2 : j ≤ k
          · rw [if_pos h2, if_neg h1]; exact callF_mono cfg k f h v
          · rw [if_neg h2, if_neg h1]; exact .inr rfl
      · exact ⟨k + 1, fun j hj => by dsimp only [cl]; rw [if_neg (by omega)]⟩
    rw [callF, callF]
    cases cfg.fn f with
    | none => exact .inl rfl
    | some fi =>
      dsimp only
      cases fi.prim with
      | some p => exact .inr rfl
      | none =>
        dsimp only
        have := (Lim.exec (ty := cfg.ty) (fn := cfg.fn) (mm := (KO.vars h.ob).length) (rt := retOut cfg.ty fi h) hcl (fi.body h) (fun _ => none) (startSt fi h v) (K := fun _ => retOut cfg.ty fi h) (fun st => Lim.const _)).1 k
        have e1 : cl k = callF cfg k := by funext f h v; simp [cl]
        have e2 : cl (k + 1) = callF cfg (k + 1) := by funext f h v; simp only [cl]; rw [if_neg (by omega)]
        dsimp only at this
        rw [e1, e2] at this
        exact this

theorem call_lim (cfg : Cfg) (f : Nat) (h : Hint) (v : List DC) : Lim (fun k => callF cfg k f h v) (Run cfg f h v) := ⟨fun k => callF_mono cfg k f h v, Mono.lim fun k => callF_mono cfg k f h v⟩

theorem Run_eq (cfg : Cfg) (f : Nat) (h : Hint) (v : List DC) : Run cfg f h v = bodyD cfg (Run cfg) Loop f h v := by
  have h1 : Evt (fun k => callF cfg (k + 1) f h v) (Run cfg f h v) := by
    obtain ⟨N, h⟩ := (call_lim cfg f h v).2
    exact ⟨N, fun k hk => h (k + 1) (by omega)⟩
  refine h1.uniq ?_
  unfold bodyD
  cases hf : cfg.fn f with
  | none => exact (Evt.const _).congr fun k => by rw [callF, hf]
  | some fi =>
    dsimp only
    cases hp : fi.prim with
    | some p => exact (Evt.const _).congr fun k => by rw [callF, hf]; dsimp only; rw [hp]; rfl
    | none =>
      have := (Lim.exec (ty := cfg.ty) (fn := cfg.fn) (mm := (KO.vars h.ob).length) (rt := retOut cfg.ty fi h) (fun f h v => call_lim cfg f h v) (fi.body h) (fun _ => none) (startSt fi h v) (K := fun _ => retOut cfg.ty fi h) (fun st => Lim.const _)).2
      exact this.congr fun k => by rw [callF, hf]; dsimp only; rw [hp]

/-- From what a call answers at last to what it answers for all great fuels. -/
theorem Run.evt {cfg : Cfg} {f : Nat} {h : Hint} {v : List DC} {o : Out} (hr : Run cfg f h v = o) : Evt (fun k => callF cfg k f h v) o := by
  rw [← hr]
  exact (call_lim cfg f h v).2

end Go.Proofs.YtljggmbgbnmapaaGreatV
