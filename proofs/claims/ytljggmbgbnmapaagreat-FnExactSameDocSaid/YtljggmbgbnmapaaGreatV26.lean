/- What holds for all great fuels. -/
import Derived.Test.YtljggmbgbnmapaaGreatV25
namespace Go.Proofs.YtljggmbgbnmapaaGreatV
open Go
set_option linter.unusedVariables false

/-- What a call returned, handed on. -/
def Out.bindR (o : Out) (K : List DC → Out) : Out :=
  match o with
  | .ret v => K v
  | _ => .fail

/-- For all great fuels the answer is this. -/
def Evt (g : Nat → Out) (o : Out) : Prop := ∃ N, ∀ k, N ≤ k → g k = o

def Evt2 (F : Nat → List DC → Out) (v : List DC) (o : Out) : Prop := ∃ N, ∀ k n, N ≤ k → N ≤ n → loopF (F k) n v = o

theorem Evt.const (o : Out) : Evt (fun _ => o) o := ⟨0, fun _ _ => rfl⟩
theorem Evt.of_eq {g : Nat → Out} {o : Out} (h : ∀ k, g k = o) : Evt g o := ⟨0, fun k _ => h k⟩
theorem Evt.succ {g : Nat → Out} {o : Out} (h : Evt (fun k => g (k + 1)) o) : Evt g o := by
  obtain ⟨N, h⟩ := h
  refine ⟨N + 1, fun k hk => ?_⟩
  obtain ⟨k, rfl⟩ : ∃ j, k = j + 1 := ⟨k - 1, by omega⟩
  exact h k (by omega)
theorem Evt.congr {g g' : Nat → Out} {o : Out} (h : Evt g o) (e : ∀ k, g' k = g k) : Evt g' o := by
  obtain ⟨N, h⟩ := h
  exact ⟨N, fun k hk => (e k).trans (h k hk)⟩
theorem Evt.bind {g : Nat → Out} {r : List DC} {G : Nat → List DC → Out} {o : Out} (h : Evt g (.ret r)) (h2 : Evt (fun k => G k r) o) : Evt (fun k => (g k).bindR (G k)) o := by
  obtain ⟨N, h⟩ := h
  obtain ⟨M, h2⟩ := h2
  exact ⟨max N M, fun k hk => by dsimp only; rw [h k (by omega)]; exact h2 k (by omega)⟩
theorem Evt.then_norm {g : Nat → Out} {r : List DC} {G : Nat → List DC → Out} {o : Out} (h : Evt g (.norm r)) (h2 : Evt (fun k => G k r) o) : Evt (fun k => (g k).andThen (G k)) o := by
  obtain ⟨N, h⟩ := h
  obtain ⟨M, h2⟩ := h2
  exact ⟨max N M, fun k hk => by dsimp only; rw [h k (by omega)]; exact h2 k (by omega)⟩
theorem Evt.then_ret {g : Nat → Out} {r : List DC} {G : Nat → List DC → Out} (h : Evt g (.ret r)) : Evt (fun k => (g k).andThen (G k)) (.ret r) := by
  obtain ⟨N, h⟩ := h
  exact ⟨N, fun k hk => by dsimp only; rw [h k hk]; rfl⟩
theorem Evt.then_ex {g : Nat → Out} {id : Nat} {r : List DC} {G : Nat → List DC → Out} (h : Evt g (.ex id r)) : Evt (fun k => (g k).andThen (G k)) (.ex id r) := by
  obtain ⟨N, h⟩ := h
  exact ⟨N, fun k hk => by dsimp only; rw [h k hk]; rfl⟩
theorem Evt.thenB_norm {g : Nat → Out} {id : Nat} {r : List DC} {G : Nat → List DC → Out} {o : Out} (h : Evt g (.norm r)) (h2 : Evt (fun k => G k r) o) : Evt (fun k => (g k).andThenB id (G k)) o := by
  obtain ⟨N, h⟩ := h
  obtain ⟨M, h2⟩ := h2
  exact ⟨max N M, fun k hk => by dsimp only; rw [h k (by omega)]; exact h2 k (by omega)⟩
theorem Evt.thenB_ex {g : Nat → Out} {id : Nat} {r : List DC} {G : Nat → List DC → Out} {o : Out} (h : Evt g (.ex id r)) (h2 : Evt (fun k => G k r) o) : Evt (fun k => (g k).andThenB id (G k)) o := by
  obtain ⟨N, h⟩ := h
  obtain ⟨M, h2⟩ := h2
  exact ⟨max N M, fun k hk => by dsimp only; rw [h k (by omega)]; simp only [Out.andThenB, if_true]; exact h2 k (by omega)⟩
theorem Evt.thenB_out {g : Nat → Out} {id id' : Nat} {r : List DC} {G : Nat → List DC → Out} (h : Evt g (.ex id' r)) (hne : id' ≠ id) : Evt (fun k => (g k).andThenB id (G k)) (.ex id' r) := by
  obtain ⟨N, h⟩ := h
  exact ⟨N, fun k hk => by dsimp only; rw [h k hk]; simp [Out.andThenB, hne]⟩
theorem Evt.thenB_ret {g : Nat → Out} {id : Nat} {r : List DC} {G : Nat → List DC → Out} (h : Evt g (.ret r)) : Evt (fun k => (g k).andThenB id (G k)) (.ret r) := by
  obtain ⟨N, h⟩ := h
  exact ⟨N, fun k hk => by dsimp only; rw [h k hk]; rfl⟩
theorem Evt2.step {F : Nat → List DC → Out} {v v' : List DC} {o : Out} (h : Evt (fun k => F k v) (.norm v')) (h2 : Evt2 F v' o) : Evt2 F v o := by
  obtain ⟨N, h⟩ := h
  obtain ⟨M, h2⟩ := h2
  refine ⟨max N (M + 1), fun k n hk hn => ?_⟩
  obtain ⟨n, rfl⟩ : ∃ j, n = j + 1 := ⟨n - 1, by omega⟩
  have h' := h k (by omega)
  dsimp only at h'
  rw [loopF, h']
  exact h2 k n (by omega) (by omega)
theorem Evt2.ex {F : Nat → List DC → Out} {v v' : List DC} {id : Nat} (h : Evt (fun k => F k v) (.ex id v')) : Evt2 F v (.ex id v') := by
  obtain ⟨N, h⟩ := h
  refine ⟨N + 1, fun k n hk hn => ?_⟩
  obtain ⟨n, rfl⟩ : ∃ j, n = j + 1 := ⟨n - 1, by omega⟩
  have h' := h k (by omega)
  dsimp only at h'
  rw [loopF, h']
  rfl
theorem Evt2.ret {F : Nat → List DC → Out} {v v' : List DC} (h : Evt (fun k => F k v) (.ret v')) : Evt2 F v (.ret v') := by
  obtain ⟨N, h⟩ := h
  refine ⟨N + 1, fun k n hk hn => ?_⟩
  obtain ⟨n, rfl⟩ : ∃ j, n = j + 1 := ⟨n - 1, by omega⟩
  have h' := h k (by omega)
  dsimp only at h'
  rw [loopF, h']
  rfl
theorem Evt2.evt {F : Nat → List DC → Out} {v : List DC} {o : Out} (h : Evt2 F v o) : Evt (fun k => loopF (F k) k v) o := by
  obtain ⟨N, h⟩ := h
  exact ⟨N, fun k hk => h k k hk hk⟩

@[simp] theorem DC.bb_b (x : Bool) : (DC.b x).bb = x := rfl
@[simp] theorem DC.ii_i (x : Int) : (DC.i x).ii = x := rfl
@[simp] theorem DC.ss_s (x : List UInt8) : (DC.s x).ss = x := rfl
@[simp] theorem DC.ll_sl (x : List (List DC)) : (DC.sl x).ll = x := rfl
@[simp] theorem Out.bindR_ret (v : List DC) (K : List DC → Out) : (Out.ret v).bindR K = K v := rfl
@[simp] theorem Out.andThen_norm (v : List DC) (K : List DC → Out) : (Out.norm v).andThen K = K v := rfl
@[simp] theorem Out.andThen_ret (v : List DC) (K : List DC → Out) : (Out.ret v).andThen K = .ret v := rfl
@[simp] theorem Out.andThen_ex (id : Nat) (v : List DC) (K : List DC → Out) : (Out.ex id v).andThen K = .ex id v := rfl
@[simp] theorem Out.andThenB_norm (id : Nat) (v : List DC) (K : List DC → Out) : (Out.norm v).andThenB id K = K v := rfl
@[simp] theorem Out.andThenB_ret (id : Nat) (v : List DC) (K : List DC → Out) : (Out.ret v).andThenB id K = .ret v := rfl
@[simp] theorem Out.andThenB_ex (id id' : Nat) (v : List DC) (K : List DC → Out) : (Out.ex id' v).andThenB id K = if id' = id then K v else .ex id' v := rfl

end Go.Proofs.YtljggmbgbnmapaaGreatV
