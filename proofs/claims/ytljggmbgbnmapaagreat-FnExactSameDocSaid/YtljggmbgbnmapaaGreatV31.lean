/- Loops over an index, for all great fuels. -/
import Derived.Test.YtljggmbgbnmapaaGreatV30
namespace Go.Proofs.YtljggmbgbnmapaaGreatV
open Go

theorem wrap64 {n : Int} (h1 : -9223372036854775808 ≤ n) (h2 : n ≤ 9223372036854775807) : IntKind.i64.wrap n = n := by
  rw [IntKind.wrap_i64]
  omega

/-- Rounds i, i + 1, .., up to n, then what follows. -/
theorem Evt2.upto {F : Nat → List DC → Out} {st : Nat → List DC} {o : Out} : ∀ (m i : Nat), (∀ j, i ≤ j → j < i + m → Evt (fun k => F k (st j)) (.norm (st (j + 1)))) → Evt2 F (st (i + m)) o → Evt2 F (st i) o
  | 0, i, _, h2 => by simpa using h2
  | m + 1, i, h1, h2 => by
    refine Evt2.step (h1 i (Nat.le_refl _) (by omega)) (Evt2.upto m (i + 1) (fun j hj hj' => h1 j (by omega) (by omega)) ?_)
    rw [show i + 1 + m = i + (m + 1) by omega]
    exact h2

/-- The first round at which something fails, if any. -/
theorem first_not {p : Nat → Bool} : ∀ (n : Nat), (∀ j, j < n → p j = true) ∨ ∃ i, i < n ∧ p i = false ∧ ∀ j, j < i → p j = true
  | 0 => .inl fun j h => by omega
  | n + 1 => by
    rcases first_not (p := p) n with h | ⟨i, h1, h2, h3⟩
    · by_cases hp : p n = true
      · refine .inl fun j hj => ?_
        rcases Nat.lt_or_ge j n with h' | h'
        · exact h j h'
        · have : j = n := by omega
          rw [this]
          exact hp
      · exact .inr ⟨n, by omega, by simpa using hp, h⟩
    · exact .inr ⟨i, by omega, h2, h3⟩

end Go.Proofs.YtljggmbgbnmapaaGreatV
