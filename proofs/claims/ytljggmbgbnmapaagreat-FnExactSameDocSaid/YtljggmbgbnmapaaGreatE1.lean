/- '==' of records whose fields are plain. -/
import Derived.Test.YtljggmbgbnmapaaGreatV6
import Derived.Laws.StructEq
namespace Go.Proofs.YtljggmbgbnmapaaGreatV
open Go
set_option linter.unusedVariables false
set_option linter.unusedSimpArgs false

def eqFB (P : Program) : Nat → List Go.Field → List CT → Bool
  | _, [], [] => true
  | off, f :: fs, c :: cs => f.name != "_" && Nat.beq f.offset off && (match P.underlying f.type, c with
      | some .bool, .b => true
      | some (.int k), .i k' => decide (k = k')
      | some .string, .s => true
      | _, _ => false) && eqFB P (off + 1) fs cs
  | _, _, _ => false

theorem eqF_ok {P : Program} {d : Nat} {X Y : Array Value} {w0 : World} {g : Gh} {H : List HS} {w : World} {ty : Nat → Option TI} : ∀ {fs : List Go.Field} {cs : List CT} {off : Nat} {l m : List S} {xs ys : List Value} {r : Bool}, eqFB P off fs cs = true →
    SRL ty g H w l xs → SRL ty g H w m ys → xs.length = cs.length → ys.length = cs.length → (∀ i, X[off + i]? = xs[i]?) → (∀ i, Y[off + i]? = ys[i]?) → eqCells l m = some r → fitsL cs l = true → fitsL cs m = true → (Op.eqFields (d + 1) X Y fs).run P w0 = .ok r w0
  | [], [], off, l, m, xs, ys, r, _, hl, hm, h1, h2, _, _, e, _, _ => by
    have hx : xs = [] := List.eq_nil_of_length_eq_zero (by simpa using h1)
    have hy : ys = [] := List.eq_nil_of_length_eq_zero (by simpa using h2)
    subst hx
    subst hy
    cases l with
    | cons _ _ => exact hl.elim
    | nil =>
      cases m with
      | cons _ _ => exact hm.elim
      | nil =>
        simp only [eqCells, Option.some.injEq] at e
        subst e
        simp [Op.eqFields]
  | f :: fs, c :: cs, off, l, m, xs, ys, r, hb, hl, hm, h1, h2, hX, hY, e, f1, f2 => by
    match xs, h1 with
    | x :: xs, h1 =>
     match ys, h2 with
     | y :: ys, h2 =>
      cases l with
      | nil => exact hl.elim
      | cons s l =>
      cases m with
      | nil => exact hm.elim
      | cons t m =>
      obtain ⟨sx, hl⟩ := hl
      obtain ⟨sy, hm⟩ := hm
      simp only [eqFB, Bool.and_eq_true] at hb
      obtain ⟨⟨⟨b1, b2⟩, b3⟩, b4⟩ := hb
      have hoff := Nat.eq_of_beq_eq_true b2
      have hn : f.name ≠ "_" := by simpa using b1
      have gx : X[f.offset]? = some x := by rw [hoff]; simpa using hX 0
      have gy : Y[f.offset]? = some y := by rw [hoff]; simpa using hY 0
      have ih : ∀ r', eqCells l m = some r' → fitsL cs l = true → fitsL cs m = true → (Op.eqFields (d + 1) X Y fs).run P w0 = .ok r' w0 := fun r' he k1 k2 => eqF_ok b4 hl hm (by simpa using h1) (by simpa using h2)
        (fun i => by have := hX (i + 1); rw [show off + 1 + i = off + (i + 1) by omega]; simpa using this) (fun i => by have := hY (i + 1); rw [show off + 1 + i = off + (i + 1) by omega]; simpa using this) he k1 k2
      have fin : ∀ (bq : Bool) (dsc : TypeDesc), P.underlying f.type = some dsc → isAggD dsc = false → (Op.equalIn (d + 1) f.type x y).run P w0 = .ok bq w0 → (eqCells l m).map (fun r => bq && r) = some r → fitsL cs l = true → fitsL cs m = true → (Op.eqFields (d + 1) X Y (f :: fs)).run P w0 = .ok r w0 := by
        intro bq dsc hu ha hq he k1 k2
        have part_x : (part f.type X f.offset).run P w0 = .ok x w0 := by
          unfold part
          rw [Sem.run_bind, run_isAgg hu, Result.andThen_ok, ha]
          simp [gx]
        have part_y : (part f.type Y f.offset).run P w0 = .ok y w0 := by
          unfold part
          rw [Sem.run_bind, run_isAgg hu, Result.andThen_ok, ha]
          simp [gy]
        cases hr : eqCells l m with
        | none => rw [hr] at he; simp at he
        | some r' =>
          rw [hr] at he
          simp only [Option.map_some, Option.some.injEq] at he
          subst he
          simp only [Op.eqFields, hn, ne_eq, not_false_eq_true, if_true, Sem.run_bind, part_x, part_y, hq, Result.andThen_ok]
          cases bq with
          | false => simp
          | true => simpa using ih r' hr k1 k2
      cases c with
      | b =>
        cases s <;> simp [fitsL] at f1
        cases t <;> simp [fitsL] at f2
        rename_i p q
        have ex : x = .bool p := sx
        have ey : y = .bool q := sy
        subst ex
        subst ey
        cases hu : P.underlying f.type with
        | none => rw [hu] at b3; simp at b3
        | some dsc =>
          rw [hu] at b3
          cases dsc <;> simp at b3
          exact fin (p == q) _ hu rfl (run_equalIn_bool' w0 d f.type p q hu) (by simpa [eqCells] using e) f1 f2
      | i k =>
        cases s <;> simp [fitsL] at f1
        cases t <;> simp [fitsL] at f2
        rename_i k1 p k2 q
        obtain ⟨rfl, f1⟩ := f1
        obtain ⟨rfl, f2⟩ := f2
        have ex : x = .int _ p := sx
        have ey : y = .int _ q := sy
        subst ex
        subst ey
        cases hu : P.underlying f.type with
        | none => rw [hu] at b3; simp at b3
        | some dsc =>
          rw [hu] at b3
          cases dsc <;> simp at b3
          subst b3
          exact fin (p == q) _ hu rfl (run_equalIn_int w0 d f.type _ _ p q hu) (by simpa [eqCells] using e) f1 f2
      | s =>
        cases s <;> simp [fitsL] at f1
        cases t <;> simp [fitsL] at f2
        rename_i p q
        have ex : x = .string ⟨p.toArray⟩ := sx
        have ey : y = .string ⟨q.toArray⟩ := sy
        subst ex
        subst ey
        cases hu : P.underlying f.type with
        | none => rw [hu] at b3; simp at b3
        | some dsc =>
          rw [hu] at b3
          cases dsc <;> simp at b3
          exact fin (p == q) _ hu rfl (by rw [run_equalIn_string w0 d f.type _ _ hu]; simp) (by simpa [eqCells] using e) f1 f2
      | sl el => simp [fitsL] at f1
  | [], _ :: _, _, _, _, _, _, _, h, _, _, _, _, _, _, _, _, _ => by simp [eqFB] at h
  | _ :: _, [], _, _, _, _, _, _, h, _, _, _, _, _, _, _, _, _ => by simp [eqFB] at h

theorem eqOk_of {P : Program} {t : Nat} {ti : TI} {fs : Array Go.Field} (hu : P.underlying t = some (.struct fs)) (h1 : eqFB P 0 fs.toList ti.cts = true) (h2 : P.stoodInHeld t = false) (h3 : P.eqGuardType P.depth t = false) : EqOk P t ti := by
  intro xs ys l m r _ he f1 f2 g H w ty hl hm hx hy x y
  have hf : P.fieldsOf t = fs := by simp [Program.fieldsOf, hu]
  have hu' : P.underlying t = some (.struct (P.fieldsOf t)) := by rw [hf]; exact hu
  have hrun : (Op.equalIn 10000 t (.agg xs.toArray) (.agg ys.toArray)).run P w = .ok r w := by
    rw [run_equalIn_struct w 9999 t _ _ hu' h2, hf]
    exact eqF_ok (d := 9998) h1 hl hm hx hy (fun i => by simp) (fun i => by simp) he f1 f2
  constructor
  · rw [Sem.run_bind, run_eqGuard_agg w _ _ _ _ _ _ h3, Result.andThen_ok, run_eql_struct, hrun]
    rfl
  · rw [Sem.run_bind, run_eqGuard_agg w _ _ _ _ _ _ h3, Result.andThen_ok, run_neq_struct, hrun]
    rfl

end Go.Proofs.YtljggmbgbnmapaaGreatV
