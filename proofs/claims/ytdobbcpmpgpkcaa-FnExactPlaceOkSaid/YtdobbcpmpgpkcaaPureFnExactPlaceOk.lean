/- The law FnExactPlaceOk answers true for every string; no condition beyond the row's own. -/
import Derived.Test.YtdobbcpmpgpkcaaPFnExactPlaceOkx1
namespace Go.Proofs.Ytdobbcpmpgpkcaa.Pure
open Go.RowKit Go.Proofs.Ytdobbcpmpgpkcaa.PFnExactPlaceOk Go.Proofs.YtdobbcpmpgpkcaaW.PrintWords Go.Proofs.YtdobbcpmpgpkcaaW.PrintLast

theorem ite_ex {c : Prop} [Decidable c] {x y : Option Bool} (hx : ∃ b, x = some b) (hy : ∃ b, y = some b) : ∃ b, (if c then x else y) = some b := by
  split <;> assumption

theorem FnExactPlaceOk : laws_FnExactPlaceOk.Pure := by
  intro a h
  unfold laws_FnExactPlaceOk.f
  split
  · rfl
  · have e : spec_PlaceOk.f a = impl_PlaceOk.f a := rfl
    obtain ⟨b, hb⟩ : ∃ b, impl_PlaceOk.f a = some b := by
      unfold impl_PlaceOk.f
      repeat' (first | exact ⟨_, rfl⟩ | refine ite_ex ?_ ?_)
    rw [e, hb]
    simp

end Go.Proofs.Ytdobbcpmpgpkcaa.Pure
