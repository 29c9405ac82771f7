/- The evaluator's steps do not look at what follows. -/
import Derived.Test.YtljggmbgbnmapaaGreatV13
namespace Go.Proofs.YtljggmbgbnmapaaGreatV
open Go
set_option linter.unusedVariables false
set_option linter.unusedSimpArgs false

section
variable {ρ : Type} {ty : Nat → Option TI} {fn : Nat → Option FI} {cl : Nat → Hint → List DC → Out} {fail : ρ}

def via {α : Type} (fail : ρ) (x : Option α) (K : α → ρ) : ρ :=
  match x with
  | some a => K a
  | none => fail

theorem loadR_par {t : Nat} {st : St} {a : C} {K : Cls → C → ρ} : loadR ty fail t st a K = via fail (loadR ty none t st a fun c v => some (c, v)) fun r => K r.1 r.2 := by
  unfold loadR
  repeat' split
  all_goals first | rfl | simp_all [via]

theorem storeR_par {t : Nat} {st : St} {a v : C} {K : List HS → ρ} : storeR ty fail t st a v K = via fail (storeR ty none t st a v some) K := by
  unfold storeR
  repeat' split
  all_goals first | rfl | simp_all [via]

theorem binR_par {op : BinOp} {t : Nat} {x y : C} {K : C → ρ} : binR ty fail op t x y K = via fail (binR ty none op t x y some) K := by
  unfold binR
  repeat' split
  all_goals first | rfl | simp_all [via]

theorem convR_par {s t : Nat} {st : St} {x : C} {K : Cls → List HS → C → ρ} : convR ty fail s t st x K = via fail (convR ty none s t st x fun c H v => some (c, H, v)) fun r => K r.1 r.2.1 r.2.2 := by
  unfold convR
  repeat' split
  all_goals first | rfl | simp_all [via]

theorem cutR_par {α : Type} {lo hi : Option C} {l : List α} {K : List α → ρ} : cutR fail lo hi l K = via fail (cutR none lo hi l some) K := by
  unfold cutR
  repeat' split
  all_goals first | rfl | simp_all [via]

theorem sliceR_par {t : Nat} {st : St} {x : C} {lo hi : Option C} {K : Cls → List HS → C → ρ} : sliceR ty fail t st x lo hi K = via fail (sliceR ty none t st x lo hi fun c H v => some (c, H, v)) fun r => K r.1 r.2.1 r.2.2 := by
  have key : ∀ {α : Type} (l : List α) (k : List α → Cls × List HS × C), cutR fail lo hi l (fun x => K (k x).1 (k x).2.1 (k x).2.2) = via fail (cutR none lo hi l fun x => some (k x)) fun r => K r.1 r.2.1 r.2.2 := by
    intro α l k
    rw [cutR_par (fail := fail), cutR_par (fail := none) (K := fun x => some (k x))]
    cases cutR none lo hi l some <;> rfl
  unfold sliceR
  repeat' split
  all_goals first
    | rfl
    | exact key _ (fun x => (_, _, _))
    | simp_all [via]

theorem indexR_par {e : Nat} {st : St} {x i : C} {K : Cls → C → ρ} : indexR fail e st x i K = via fail (indexR none e st x i fun c v => some (c, v)) fun r => K r.1 r.2 := by
  unfold indexR
  repeat' split
  all_goals first | rfl | simp_all [via]

theorem lenR_par {st : St} {x : C} {K : Cls → C → ρ} : lenR fail st x K = via fail (lenR none st x fun c v => some (c, v)) fun r => K r.1 r.2 := by
  unfold lenR
  repeat' split
  all_goals first | rfl | simp_all [via]

theorem appendR_par {t u base : Nat} {st : St} {x y : C} {K : List HS → C → ρ} : appendR ty fail t u base st x y K = via fail (appendR ty none t u base st x y fun H v => some (H, v)) fun r => K r.1 r.2 := by
  unfold appendR
  repeat' split
  all_goals first | rfl | simp_all [via]

theorem callR_par {base f : Nat} {st : St} {caps : List Nat} {args : List C} {K : List HS → C → ρ} : callR ty fn cl fail base st f caps args K = via fail (callR ty fn cl none base st f caps args fun H v => some (H, v)) fun r => K r.1 r.2 := by
  unfold callR
  dsimp only
  repeat' split
  all_goals first | rfl | simp_all [via]

theorem via_via {α β : Type} (x : Option α) (k : α → Option β) (K : β → ρ) : via fail (via none x k) K = via fail x fun a => via fail (k a) K := by
  cases x <;> rfl

theorem stepV_par {base : Nat} {o : Oper} {tm : List C} {H : List HS} {K : Cls → List HS → C → ρ} :
    stepV ty fn cl fail base o tm H K = via fail (stepV ty fn cl none base o tm H fun c H v => some (c, H, v)) fun r => K r.1 r.2.1 r.2.2 := by
  have l1 : ∀ {t : Nat} {st : St} {a : C}, loadR ty fail t st a (fun c v => K c H v) = via fail (loadR ty none t st a fun c v => some (c, H, v)) fun r => K r.1 r.2.1 r.2.2 := by
    intro t st a
    rw [loadR_par (fail := fail), loadR_par (fail := none) (K := fun c v => some (c, H, v)), via_via]
    rfl
  have l2 : ∀ {t : Nat} {st : St} {a v : C} {c : Cls}, storeR ty fail t st a v (fun H => K c H (.one .undef)) = via fail (storeR ty none t st a v fun H => some (c, H, C.one S.undef)) fun r => K r.1 r.2.1 r.2.2 := by
    intro t st a v c
    rw [storeR_par (fail := fail), storeR_par (fail := none) (K := fun H => some (c, H, C.one S.undef)), via_via]
    rfl
  have l3 : ∀ {op : BinOp} {t : Nat} {x y : C}, binR ty fail op t x y (fun v => K .t H v) = via fail (binR ty none op t x y fun v => some (Cls.t, H, v)) fun r => K r.1 r.2.1 r.2.2 := by
    intro op t x y
    rw [binR_par (fail := fail), binR_par (fail := none) (K := fun v => some (Cls.t, H, v)), via_via]
    rfl
  have l4 : ∀ {e : Nat} {st : St} {x i : C}, indexR fail e st x i (fun c v => K c H v) = via fail (indexR none e st x i fun c v => some (c, H, v)) fun r => K r.1 r.2.1 r.2.2 := by
    intro e st x i
    rw [indexR_par (fail := fail), indexR_par (fail := none) (K := fun c v => some (c, H, v)), via_via]
    rfl
  have l5 : ∀ {st : St} {x : C}, lenR fail st x (fun c v => K c H v) = via fail (lenR none st x fun c v => some (c, H, v)) fun r => K r.1 r.2.1 r.2.2 := by
    intro st x
    rw [lenR_par (fail := fail), lenR_par (fail := none) (K := fun c v => some (c, H, v)), via_via]
    rfl
  have l6 : ∀ {t u base : Nat} {st : St} {x y : C}, appendR ty fail t u base st x y (fun H v => K .w H v) = via fail (appendR ty none t u base st x y fun H v => some (Cls.w, H, v)) fun r => K r.1 r.2.1 r.2.2 := by
    intro t u base st x y
    rw [appendR_par (fail := fail), appendR_par (fail := none) (K := fun H v => some (Cls.w, H, v)), via_via]
    rfl
  have l7 : ∀ {base f : Nat} {st : St} {caps : List Nat} {args : List C} {c : Cls}, callR ty fn cl fail base st f caps args (fun H v => K c H v) = via fail (callR ty fn cl none base st f caps args fun H v => some (c, H, v)) fun r => K r.1 r.2.1 r.2.2 := by
    intro base f st caps args c
    rw [callR_par (fail := fail), callR_par (fail := none) (K := fun H v => some (c, H, v)), via_via]
    rfl
  unfold stepV
  split
  all_goals try first | exact l1 | exact l3 | exact convR_par
  all_goals repeat' split
  all_goals first
    | rfl
    | exact l2
    | exact l4
    | exact l5
    | exact l6
    | exact l7
    | exact sliceR_par
    | simp_all [via]

end
end Go.Proofs.YtljggmbgbnmapaaGreatV
