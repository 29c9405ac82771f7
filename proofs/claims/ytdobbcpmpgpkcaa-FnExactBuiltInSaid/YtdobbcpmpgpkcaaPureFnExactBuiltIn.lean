/- The law FnExactBuiltIn answers true for every string; no condition beyond the row's own. -/
import Derived.Test.YtdobbcpmpgpkcaaPFnExactBuiltInx1
namespace Go.Proofs.Ytdobbcpmpgpkcaa.Pure
open Go.RowKit Go.Proofs.Ytdobbcpmpgpkcaa.PFnExactBuiltIn Go.Proofs.YtdobbcpmpgpkcaaW.PrintWords Go.Proofs.YtdobbcpmpgpkcaaW.PrintLast

theorem FnExactBuiltIn : laws_FnExactBuiltIn.Pure := by
  intro a h
  unfold laws_FnExactBuiltIn.f
  split
  · rfl
  · have e : spec_BuiltIn.f a = impl_BuiltIn.f a := by
      unfold spec_BuiltIn.f impl_BuiltIn.f
      repeat' (split <;> try rfl)
      · rename_i h; simp [h]
      · rename_i h; simp [h]
    rw [e]
    cases hb : impl_BuiltIn.f a with
    | none =>
      exfalso
      revert hb
      unfold impl_BuiltIn.f
      repeat' (split <;> try simp)
    | some b => simp

end Go.Proofs.Ytdobbcpmpgpkcaa.Pure
