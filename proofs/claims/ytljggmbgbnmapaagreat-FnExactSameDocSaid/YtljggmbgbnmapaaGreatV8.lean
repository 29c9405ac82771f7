/- One operation: conversions, cuts, indexes, lengths, values that are put together. -/
import Derived.Test.YtljggmbgbnmapaaGreatV7
import Derived.Laws.Slices
import Derived.Laws.Tables
namespace Go.Proofs.YtljggmbgbnmapaaGreatV
open Go
set_option linter.unusedVariables false

section
variable {P : Program} {ty : Nat → Option TI} {A : An} {g : Gh} {tm : List C} {H : List HS} {a : Act} {w : World} {o : Oper} {Q : Exit → Act → World → Prop}

theorem kd_int (hty : TyOk P ty) {t : Nat} {ti : TI} (ht : ty t = some ti) {k : IntKind} (hk : ti.kd = .int k) : P.underlying t = some (.int k) ∧ ti.cts = [.i k] := by
  obtain ⟨d, hd, hkd⟩ := (hty t ti ht).kd
  rw [hd]
  cases d <;> simp [KdOk, hk] at hkd
  simp [hkd]
theorem kd_str (hty : TyOk P ty) {t : Nat} {ti : TI} (ht : ty t = some ti) (hk : ti.kd = .str) : P.underlying t = some .string := by
  obtain ⟨d, hd, hkd⟩ := (hty t ti ht).kd
  rw [hd]
  cases d <;> simp [KdOk, hk] at hkd
  rfl
theorem kd_slice (hty : TyOk P ty) {t : Nat} {ti : TI} (ht : ty t = some ti) {e : Nat} (hk : ti.kd = .slice e) : P.underlying t = some (.slice e) := by
  obtain ⟨d, hd, hkd⟩ := (hty t ti ht).kd
  rw [hd]
  cases d <;> simp [KdOk, hk] at hkd
  simp [hkd]
theorem isSlice_ok (hty : TyOk P ty) {t e : Nat} (h : isSlice (ty t) = some e) : P.underlying t = some (.slice e) := by
  unfold isSlice at h
  split at h
  · rename_i ti ht
    split at h
    · rename_i e' hk
      simp only [Option.some.injEq] at h
      subst h
      exact kd_slice hty ht hk
    · simp at h
  · simp at h
theorem kd_struct (hty : TyOk P ty) {t : Nat} {ti : TI} (ht : ty t = some ti) (hk : isStruct (some ti) = true) : ∃ fs, P.underlying t = some (.struct fs) ∧ fs.size = ti.flds.length ∧
    ∀ (j : Nat) (f : Go.Field) (x : Nat × Nat × Bool), fs[j]? = some f → ti.flds[j]? = some x → FldOk P ti.cts.length f x := by
  obtain ⟨d, hd, hkd⟩ := (hty t ti ht).kd
  rw [hd]
  cases d with
  | struct fs => exact ⟨fs, rfl, hkd.2.1, hkd.2.2⟩
  | _ => simp [KdOk] at hkd <;> simp [isStruct, hkd] at hk

theorem step_not (t : TypeId) (x : Operand) (ho : o.op = .unOp .not t x) (h : Rel ty A g ⟨tm, H⟩ a w) {b : Bool} (hx : opd tm x = .one (.bool b)) :
    o.wp P a w (Post ty A g H w ⟨putC tm o.dst (.one (.bool (!b))), H⟩) Q := by
  have rx := h.opd x
  rw [hx] at rx
  have ex : a.eval x = .bool b := rx
  exact wp_value (v := .bool (!b)) (w' := w) (by simp [execOp, ho, ex, Op.unary]) (post_put h rfl)

theorem step_neg (t : TypeId) (x : Operand) (ho : o.op = .unOp .neg t x) (h : Rel ty A g ⟨tm, H⟩ a w) {k : IntKind} {n : Int} (hx : opd tm x = .one (.int k n)) :
    o.wp P a w (Post ty A g H w ⟨putC tm o.dst (.one (.int k (k.wrap (0 - n)))), H⟩) Q := by
  have rx := h.opd x
  rw [hx] at rx
  have ex : a.eval x = .int k n := rx
  exact wp_value (v := .int k (k.wrap (0 - n))) (w' := w) (by simp [execOp, ho, ex, Op.unary, Op.intArith]) (post_put h rfl)

/-- A slice's contents read as told. -/
theorem sliceOf_ok (h : Rel ty A g ⟨tm, H⟩ a w) {s : S} {v : Value} {e : Nat} {l : List (List DC)} (hs : SR ty g H w s v) (e1 : sliceOf H s = some (e, l)) :
    (∃ F, RdC ty w (.sl e) (.sl l) v F ∧ ∀ b ∈ F, g.I b) ∨
    (∃ (ti : TI) (vs : List Value) (F : List Nat) (id : Nat), s = .own id ∧ getH H id = .live (.row e l) ∧ v = g.val id ∧ ty e = some ti ∧ 0 < ti.cts.length ∧ w.ownsRow 0 e ti.cts.length v l.length vs ∧ RdV ty w ti.cts l vs F ∧ ∀ b ∈ F, g.I b) := by
  unfold sliceOf at e1
  split at e1
  · simp only [Option.some.injEq, Prod.mk.injEq] at e1
    obtain ⟨rfl, rfl⟩ := e1
    exact .inl hs
  · rename_i id
    split at e1
    · rename_i e' l' hr
      simp only [Option.some.injEq, Prod.mk.injEq] at e1
      obtain ⟨rfl, rfl⟩ := e1
      obtain ⟨ti, vs, F, h1, h0, h2, h3, h4, h5⟩ := h.ob id _ hr
      have hv := hs.2.2 ⟨_, _, .inl hr⟩
      exact .inr ⟨ti, vs, F, id, rfl, hr, hv, h1, h0, by rw [hv]; exact h2, h3, h4⟩
    · rename_i e' l' hr
      simp only [Option.some.injEq, Prod.mk.injEq] at e1
      obtain ⟨rfl, rfl⟩ := e1
      obtain ⟨F, h1, h2⟩ := h.ob id _ hr
      exact .inl ⟨F, by rw [hs.2.2 ⟨_, _, .inr hr⟩]; exact h1, h2⟩
    · simp at e1
  · simp at e1

/-- The same, as cells in memory. -/
theorem slice_mem {v : Value} {e : Nat} {l : List (List DC)}
    (h : (∃ F, RdC ty w (.sl e) (.sl l) v F ∧ ∀ b ∈ F, g.I b) ∨
    (∃ (ti : TI) (vs : List Value) (F : List Nat), ty e = some ti ∧ 0 < ti.cts.length ∧ w.ownsRow 0 e ti.cts.length v l.length vs ∧ RdV ty w ti.cts l vs F ∧ ∀ b ∈ F, g.I b)) :
    ∃ (ad : Option Addr) (cap : Nat), v = .slice ad l.length cap ∧ (l = [] ∨ ∃ (ti : TI) (vs : List Value) (F : List Nat) (b off : Nat), ty e = some ti ∧ 0 < ti.cts.length ∧ ad = some ⟨b, off, none⟩ ∧
      (∀ (j : Nat) (u : Value), vs[j]? = some u → w.cell? ⟨b, off + j, none⟩ = some u) ∧ RdV ty w ti.cts l vs F ∧ ∀ b ∈ F, g.I b) ∧ (l ≠ [] → ad ≠ none) := by
  rcases h with ⟨F, h1, h2⟩ | ⟨ti, vs, F, h1, h0, h2, h3, h4⟩
  · cases h1 with
    | nil e a c => exact ⟨a, c, rfl, .inl rfl, fun h => absurd rfl h⟩
    | sl e ti b off n cap l vs F k1 k0 k2 k3 k4 k5 k6 =>
      subst k2
      exact ⟨_, _, rfl, .inr ⟨ti, vs, F, b, off, k1, k0, rfl, k5, k6, fun c hc => h2 c (by simp [hc])⟩, fun _ => by simp⟩
  · rcases h2.2 with ⟨hv, hn⟩ | ⟨k, cap, cur, hv, hk, hg, hnc, hcm, hcs, htake⟩
    · have : l = [] := List.eq_nil_of_length_eq_zero hn
      subst this
      exact ⟨none, 0, by rw [hv]; rfl, .inl rfl, fun h => absurd rfl h⟩
    · refine ⟨_, _, hv, .inr ⟨ti, vs, F, k, 0, h1, h0, rfl, fun j u hu => ?_, h3, h4⟩, fun _ => by simp⟩
      have hjl : j < vs.length := by
        rcases Nat.lt_or_ge j vs.length with h' | h'
        · exact h'
        · simp [List.getElem?_eq_none h'] at hu
      rw [Nat.zero_add, World.ownsRow.cellAt (w := w) (g := k) (n := l.length) (cap := cap) (xs := vs) (base := 0) (e := e) (size := ti.cts.length) (by rw [← hv]; exact h2) j (by have := h2.1; omega)]
      exact hu

/-- Bytes in memory. -/
theorem bytes_row {l : List (List DC)} {vs : List Value} {F : List Nat} : RdV ty w [.i .u8] l vs F → vs = (l.map fun x => (x.getD 0 d0).ii).map (Value.int .u8)
  | .nil _ => rfl
  | .cons _ x l v vs F G h1 h2 => by
    have ih := bytes_row h2
    cases h1 with
    | cons t ts x xs v' vs' F' G' k1 k2 =>
      cases k1
      cases k2
      simp [ih, DC.ii]

theorem step_conv (hty : TyOk P ty) (src dst : TypeId) (x : Operand) (ho : o.op = .convert src dst x) (h : Rel ty A g ⟨tm, H⟩ a w) {c : C} {cl : Cls} {H' : List HS}
    (e : convR (ρ := Option (Cls × List HS × C)) ty none src dst ⟨tm, H⟩ (opd tm x) (fun cl H c => some (cl, H, c)) = some (cl, H', c)) :
    H' = H ∧ o.wp P a w (Post ty A g H w ⟨putC tm o.dst c, H⟩) Q := by
  have rx := h.opd x
  have fin : ∀ v : Value, (convert src dst (a.eval x)).run P w = .ok v w → CR ty g H w c v → o.wp P a w (Post ty A g H w ⟨putC tm o.dst c, H⟩) Q :=
    fun v hr hc => wp_value (v := v) (w' := w) (by simp only [execOp, ho]; rw [Sem.run_bind, hr]; rfl) (post_put h hc)
  unfold convR at e
  split at e
  · rename_i tx ty' hs hd
    split at e
    · rename_i k k' k'' n hk hk' hx
      simp only [Option.some.injEq, Prod.mk.injEq] at e
      obtain ⟨_, rfl, rfl⟩ := e
      rw [hx] at rx
      refine ⟨rfl, fin (.int k' (k'.wrap n)) ?_ rfl⟩
      rw [show a.eval x = _ from rx]
      simp [convert, run_underlying (kd_int hty hs hk).1, run_underlying (kd_int hty hd hk').1, Conv.intToInt]
    · rename_i l hk hk' hx
      simp only [Option.some.injEq, Prod.mk.injEq] at e
      obtain ⟨_, rfl, rfl⟩ := e
      rw [hx] at rx
      refine ⟨rfl, fin (.string ⟨l.toArray⟩) ?_ rfl⟩
      rw [show a.eval x = _ from rx]
      simp [convert, run_underlying (kd_str hty hs hk), run_underlying (kd_str hty hd hk')]
    · rename_i el s hk hk' hx
      rw [hx] at rx
      have hsu := kd_slice hty hs hk
      have hdu := kd_str hty hd hk'
      split at e
      · rename_i te e' l hte hsl
        split at e
        · rename_i hee
          subst hee
          simp only [Option.some.injEq, Prod.mk.injEq] at e
          obtain ⟨_, rfl, rfl⟩ := e
          have heu := kd_int hty hte rfl
          refine ⟨rfl, fin (.string ⟨(rowBytes l).toArray⟩) ?_ rfl⟩
          have hm := slice_mem (v := a.eval x) (by
            rcases sliceOf_ok h rx hsl with h1 | ⟨ti, vs, F, id, _, _, _, h1⟩
            · exact .inl h1
            · exact .inr ⟨ti, vs, F, h1⟩)
          obtain ⟨ad, cap, hv, hm, hne⟩ := hm
          rw [hv]
          rcases hm with rfl | ⟨ti, vs, F, b, off, h1, h0, rfl, h2, h3, h4⟩
          · cases ad with
            | none => exact run_convert_bytes_nil w src e' hsu heu.1 _ _ dst hdu
            | some ad => exact run_convert_bytes_back w src dst e' ad cap [] hsu heu.1 hdu (fun j hj => by simp at hj)
          · obtain rfl := Option.some.inj (hte.symm.trans h1)
            have h3' : RdV ty w [.i .u8] l vs F := heu.2 ▸ h3
            have hvs := bytes_row h3'
            have := run_convert_bytes_arg (P := P) w src e' hsu heu.1 b off l.length cap (l.map fun x => (x.getD 0 d0).ii) (by simp) (fun i hi => by
              refine h2 i _ ?_
              rw [hvs, List.getElem?_map, List.getD_eq_getElem?_getD]
              simp [hi]) dst hdu
            rw [this]
            simp [strOfNums, rowBytes]
        · simp at e
      · rename_i hte hsl
        split at e
        · simp only [Option.some.injEq, Prod.mk.injEq] at e
          obtain ⟨_, rfl, rfl⟩ := e
          have heu := kd_int hty hte rfl
          refine ⟨rfl, fin (.string ⟨([] : List UInt8).toArray⟩) ?_ rfl⟩
          rw [show a.eval x = _ from rx]
          exact run_convert_bytes_nil w src el hsu heu.1 _ _ dst hdu
        · simp at e
      · simp at e
    · simp at e
  · simp at e
end
end Go.Proofs.YtljggmbgbnmapaaGreatV
