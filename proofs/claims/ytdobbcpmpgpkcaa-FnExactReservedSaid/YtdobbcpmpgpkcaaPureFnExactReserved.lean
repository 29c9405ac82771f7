/- The law FnExactReserved answers true for every string; no condition beyond the row's own. -/
import Derived.Test.YtdobbcpmpgpkcaaPFnExactReservedx1
namespace Go.Proofs.Ytdobbcpmpgpkcaa.Pure
open Go.RowKit Go.Proofs.Ytdobbcpmpgpkcaa.PFnExactReserved Go.Proofs.YtdobbcpmpgpkcaaW.PrintWords Go.Proofs.YtdobbcpmpgpkcaaW.PrintLast

theorem FnExactReserved : laws_FnExactReserved.Pure := by
  intro a h
  unfold laws_FnExactReserved.f
  split
  · rfl
  · unfold spec_Reserved.f impl_Reserved.f strings_HasPrefix.f stringslite_HasPrefix.f
    have e : ((⟨#[95, 95]⟩ : ByteArray).size : Int) = 2 := rfl
    have e2 : (⟨#[95, 95]⟩ : ByteArray).toList = ([95, 95] : List UInt8) := by rw [ByteArray.toList_eq]
    rw [e, e2]
    by_cases h2 : (a.size : Int) ≥ 2
    · have h3 : (2 : Int) ≤ (a.size : Int) := h2
      simp [h3]
    · have h3 : ¬ (2 : Int) ≤ (a.size : Int) := h2
      simp [h3]

end Go.Proofs.Ytdobbcpmpgpkcaa.Pure
