/- One operation: arithmetic, comparisons, conversions, values that are put together. -/
import Derived.Test.YtljggmbgbnmapaaGreatV6
import Derived.Laws.BytesArg
import Derived.Laws.IdiomStrings
namespace Go.Proofs.YtljggmbgbnmapaaGreatV
open Go
set_option linter.unusedVariables false

section
variable {P : Program} {ty : Nat → Option TI} {A : An} {g : Gh} {tm : List C} {H : List HS} {a : Act} {w : World} {o : Oper} {Q : Exit → Act → World → Prop}

theorem eqGuard_int (op : BinOp) (t : TypeId) (x y : Operand) (k : IntKind) (n : Int) (v : Value) : (eqGuard op t x y (.int k n) v).run P w = .ok () w := by
  unfold eqGuard
  cases op <;> simp
theorem eqGuard_str (op : BinOp) (t : TypeId) (x y : Operand) (s : ByteArray) (v : Value) : (eqGuard op t x y (.string s) v).run P w = .ok () w := by
  unfold eqGuard
  cases op <;> simp
theorem eqGuard_bool (op : BinOp) (t : TypeId) (x y : Operand) (s : Bool) (v : Value) : (eqGuard op t x y (.bool s) v).run P w = .ok () w := by
  unfold eqGuard
  cases op <;> simp
theorem eqGuard_off (op : BinOp) (t : TypeId) (x y : Operand) (u v : Value) (h1 : op ≠ .eql) (h2 : op ≠ .neq) : (eqGuard op t x y u v).run P w = .ok () w := by
  unfold eqGuard
  cases op <;> simp at h1 h2 ⊢

theorem run_intBin {op : BinOp} {k : IntKind} {m n : Int} {s : S} (t : TypeId) (e : intBin op k m n = some s) (v : Value) (hv : SR ty g H w s v) :
    (binOp op t (.int k m) (.int k n)).run P w = .ok v w := by
  unfold intBin at e
  cases op <;> simp only [Option.some.injEq, reduceCtorEq] at e <;> subst e <;> rw [show v = _ from hv] <;> simp [binOp, Op.intArith, Op.intBits, Op.intCmp]

theorem toList_mk (l : List UInt8) : (ByteArray.mk l.toArray).toList = l := by rw [ByteArray.toList_eq]

theorem run_strBin {op : BinOp} {m n : List UInt8} {s : S} (t : TypeId) (e : strBin op m n = some s) (v : Value) (hv : SR ty g H w s v) :
    (binOp op t (.string ⟨m.toArray⟩) (.string ⟨n.toArray⟩)).run P w = .ok v w := by
  unfold strBin at e
  cases op <;> simp only [Option.some.injEq, reduceCtorEq] at e <;> subst e <;> rw [show v = _ from hv] <;> simp [binOp, Op.stringOp]

theorem run_equal_bool {t : TypeId} (m n : Bool) (hu : P.underlying t = some .bool) : (Op.equal t (.bool m) (.bool n)).run P w = .ok (m == n) w := by
  have : ∀ d, (Op.equalIn (d + 1) t (.bool m) (.bool n)).run P w = .ok (m == n) w := fun d => by simp [Op.equalIn, run_underlying hu]
  exact this 9999

theorem step_bin (hty : TyOk P ty) (op : BinOp) (t yt : TypeId) (x y : Operand) (ho : o.op = .binOp op t x y yt) (h : Rel ty A g ⟨tm, H⟩ a w) {c : C}
    (e : binR (ρ := Option C) ty none op t (opd tm x) (opd tm y) some = some c) :
    o.wp P a w (Post ty A g H w ⟨putC tm o.dst c, H⟩) Q := by
  have hx := h.opd x
  have hy := h.opd y
  have fin : ∀ v : Value, (do eqGuard op t x y (a.eval x) (a.eval y); binOp op t (a.eval x) (a.eval y) : Sem Value).run P w = .ok v w → CR ty g H w c v → o.wp P a w (Post ty A g H w ⟨putC tm o.dst c, H⟩) Q := by
    intro v hr hc
    refine wp_value (v := v) (w' := w) ?_ (post_put h hc)
    simp only [execOp, ho]
    rw [Sem.run_bind, hr]
    rfl
  unfold binR at e
  split at e
  · rename_i k m k' n hm hn
    rw [hm] at hx
    rw [hn] at hy
    have ex : a.eval x = .int k m := hx
    have ey : a.eval y = .int k' n := hy
    rw [ex, ey] at fin
    have fin' : ∀ v : Value, (binOp op t (.int k m) (.int k' n)).run P w = .ok v w → CR ty g H w c v → o.wp P a w (Post ty A g H w ⟨putC tm o.dst c, H⟩) Q :=
      fun v hr hc => fin v (by rw [Sem.run_bind, eqGuard_int]; exact hr) hc
    split at e
    · split at e
      · simp at e
      · rename_i hb
        simp only [Option.some.injEq] at e
        subst e
        exact fin' _ (by simp [binOp, Op.shift, hb]) rfl
    · split at e
      · simp at e
      · rename_i hb
        simp only [Option.some.injEq] at e
        subst e
        exact fin' _ (by simp [binOp, Op.shift, hb]) rfl
    · split at e
      · rename_i hk
        subst hk
        split at e
        · simp at e
        · rename_i hb
          simp only [Option.some.injEq] at e
          subst e
          exact fin' _ (by simp [binOp, Op.intDiv, hb]) rfl
      · simp at e
    · split at e
      · rename_i hk
        subst hk
        split at e
        · simp at e
        · rename_i hb
          simp only [Option.some.injEq] at e
          subst e
          exact fin' _ (by simp [binOp, Op.intDiv, hb]) rfl
      · simp at e
    · split at e
      · rename_i hk
        subst hk
        split at e
        · rename_i s hs
          simp only [Option.some.injEq] at e
          subst e
          obtain ⟨v, hv⟩ : ∃ v, SR ty g H w s v := by
            unfold intBin at hs
            cases op <;> simp only [Option.some.injEq, reduceCtorEq] at hs <;> subst hs <;> exact ⟨_, rfl⟩
          exact fin' v (run_intBin t hs v hv) hv
        · simp at e
      · simp at e
  · rename_i m n hm hn
    rw [hm] at hx
    rw [hn] at hy
    have ex : a.eval x = .string ⟨m.toArray⟩ := hx
    have ey : a.eval y = .string ⟨n.toArray⟩ := hy
    rw [ex, ey] at fin
    have fin' : ∀ v : Value, (binOp op t (.string ⟨m.toArray⟩) (.string ⟨n.toArray⟩)).run P w = .ok v w → CR ty g H w c v → o.wp P a w (Post ty A g H w ⟨putC tm o.dst c, H⟩) Q :=
      fun v hr hc => fin v (by rw [Sem.run_bind, eqGuard_str]; exact hr) hc
    split at e
    · split at e
      · rename_i hb
        simp only [Option.some.injEq] at e
        subst e
        refine fin' (.string ⟨(m ++ n).toArray⟩) ?_ rfl
        have hs : ∀ l : List UInt8, (ByteArray.mk l.toArray).size = l.length := fun l => by simp [ByteArray.size]
        have hcat : (ByteArray.mk m.toArray) ++ (ByteArray.mk n.toArray) = ByteArray.mk (m ++ n).toArray := by
          apply ByteArray.ext
          simp
        have hlim : ¬ (((m.length + n.length : Nat) : Int) > IntKind.i64.max) := by
          simp only [LIM] at hb
          have : IntKind.i64.max = 9223372036854775807 := by decide
          rw [this]
          omega
        simp only [binOp, Op.stringOp, hs]
        rw [if_neg hlim, hcat]
        rfl
      · simp at e
    · split at e
      · rename_i s hs
        simp only [Option.some.injEq] at e
        subst e
        obtain ⟨v, hv⟩ : ∃ v, SR ty g H w s v := by
          unfold strBin at hs
          cases op <;> simp only [Option.some.injEq, reduceCtorEq] at hs <;> subst hs <;> exact ⟨_, rfl⟩
        exact fin' v (run_strBin t hs v hv) hv
      · simp at e
  · rename_i m n hm hn
    rw [hm] at hx
    rw [hn] at hy
    have ex : a.eval x = .bool m := hx
    have ey : a.eval y = .bool n := hy
    rw [ex, ey] at fin
    have fin' : ∀ v : Value, (binOp op t (.bool m) (.bool n)).run P w = .ok v w → CR ty g H w c v → o.wp P a w (Post ty A g H w ⟨putC tm o.dst c, H⟩) Q :=
      fun v hr hc => fin v (by rw [Sem.run_bind, eqGuard_bool]; exact hr) hc
    have hu : ∀ ti : TI, ty t = some ti → ti.kd = .bool → P.underlying t = some .bool := by
      intro ti ht hk
      obtain ⟨d, hd, hkd⟩ := (hty t ti ht).kd
      rw [hd]
      cases d <;> simp [KdOk, hk] at hkd <;> rfl
    split at e
    · rename_i ti ht
      simp only [Option.some.injEq] at e
      subst e
      exact fin' _ (by simp only [binOp]; rw [Sem.run_bind, run_equal_bool m n (hu _ ht rfl)]; rfl) rfl
    · rename_i ti ht
      simp only [Option.some.injEq] at e
      subst e
      exact fin' _ (by simp only [binOp]; rw [Sem.run_bind, run_equal_bool m n (hu _ ht rfl)]; rfl) rfl
    · simp at e
  · rename_i l m hm hn
    rw [hm] at hx
    rw [hn] at hy
    obtain ⟨xs, ex, sx⟩ := hx
    obtain ⟨ys, ey, sy⟩ := hy
    rw [ex, ey] at fin
    split at e
    · rename_i r ti hr ht
      split at e
      · rename_i hc
        simp only [Option.some.injEq] at e
        subst e
        exact fin _ ((hty t ti ht).eq xs ys l m r hc.1 hr hc.2.2.2.1 hc.2.2.2.2 g H w ty sx sy (by rw [sx.length]; exact hc.2.1) (by rw [sy.length]; exact hc.2.2.1) x y).1 rfl
      · simp at e
    · rename_i r ti hr ht
      split at e
      · rename_i hc
        simp only [Option.some.injEq] at e
        subst e
        exact fin _ ((hty t ti ht).eq xs ys l m r hc.1 hr hc.2.2.2.1 hc.2.2.2.2 g H w ty sx sy (by rw [sx.length]; exact hc.2.1) (by rw [sy.length]; exact hc.2.2.1) x y).2 rfl
      · simp at e
    · simp at e
  · simp at e

end
end Go.Proofs.YtljggmbgbnmapaaGreatV
