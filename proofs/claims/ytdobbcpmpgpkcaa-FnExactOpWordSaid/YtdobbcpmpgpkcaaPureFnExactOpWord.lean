/- The law FnExactOpWord answers true for every int; no condition beyond the row's own. -/
import Derived.Test.YtdobbcpmpgpkcaaPFnExactOpWordx1
namespace Go.Proofs.Ytdobbcpmpgpkcaa.Pure
open Go.RowKit Go.Proofs.Ytdobbcpmpgpkcaa.PFnExactOpWord Go.Proofs.YtdobbcpmpgpkcaaW.PrintWords Go.Proofs.YtdobbcpmpgpkcaaW.PrintLast

theorem FnExactOpWord : laws_FnExactOpWord.Pure := by
  intro a h
  unfold laws_FnExactOpWord.f spec_OpWord.f impl_OpWord.f impl_in.f
  simp only [Option.bind_some, List.length_cons, List.length_nil]
  have e : wrap64 (((0 + 1 + 1 + 1 + 1 : Nat) : Int) - 1) = 3 := by unfold wrap64; omega
  simp only [e]
  by_cases h1 : a = 1
  · subst h1; simp [rdOf]
  by_cases h2 : a = 2
  · subst h2; simp [rdOf]
  by_cases h3 : a = 3
  · subst h3; simp [rdOf]
  rw [if_neg h1, if_neg h2, if_neg h3]
  by_cases h4 : a ≥ 1
  · rw [if_pos h4]
    have h5 : decide (a ≤ 3) = false := by simp; omega
    simp [h5]
  · rw [if_neg h4]
    simp

end Go.Proofs.Ytdobbcpmpgpkcaa.Pure
