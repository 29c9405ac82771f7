/- Kinds of names in a schema: what both implementations answer. -/
import Derived.Test.YtciandfkncadgaaA1
namespace Go.Proofs.YtciandfkncadgaaV
open Go
set_option linter.unusedVariables false
set_option linter.unusedSimpArgs false
set_option maxRecDepth 100000

/-- The definition of a name; of more than 60 none counts. -/
def defOf (l : List TDef) (n : List UInt8) : Option TDef := if 60 < l.length then none else l.find? (fun d => d.name == n)

theorem place_find {α : Type} (p : α → Bool) : ∀ (l : List α), (placeOf p l = -1 ∧ l.find? p = none) ∨ ∃ (i : Nat) (h : i < l.length), placeOf p l = (i : Int) ∧ l.find? p = some l[i] ∧ p l[i] = true := by
  intro l
  induction l with
  | nil => exact .inl ⟨rfl, rfl⟩
  | cons x l ih =>
    simp only [placeOf, List.findIdx?_cons, List.find?_cons] at ih ⊢
    cases hp : p x with
    | true => exact .inr ⟨0, by simp, by simp, by simp [hp]⟩
    | false =>
      simp only [Bool.false_eq_true, if_false]
      rcases ih with ⟨h1, h2⟩ | ⟨i, h, h1, h2, h3⟩
      · left
        refine ⟨?_, h2⟩
        cases hf : l.findIdx? p with
        | none => rfl
        | some j => rw [hf] at h1; simp at h1
      · right
        refine ⟨i + 1, by simp; omega, ?_, by simpa using h2, by simpa using h3⟩
        cases hf : l.findIdx? p with
        | none => rw [hf] at h1; simp at h1
        | some j => rw [hf] at h1; simp only [Option.map_some] at h1 ⊢; omega

theorem typeAt_cases (l : List TDef) (n : List UInt8) : (typeAt l n = -1 ∧ defOf l n = none) ∨ ∃ (i : Nat) (h : i < l.length), typeAt l n = (i : Int) ∧ defOf l n = some l[i] ∧ l.length ≤ 60 := by
  unfold typeAt defOf
  by_cases h60 : 60 < l.length
  · left; simp [h60]
  · simp only [h60, if_false]
    rcases place_find (fun d : TDef => d.name == n) l with h | ⟨i, h, h1, h2, h3⟩
    · exact .inl h
    · exact .inr ⟨i, h, h1, h2, by omega⟩

def zDef : TDef := ⟨0, false, [], [], [], [], [], [], [], false, []⟩
theorem zDef_enc : zDef.enc = [.i 0, .b false, .s [], .s [], .sl [], .sl [], .sl [], .sl [], .sl [], .b false, .sl []] := rfl

theorem impl_typeDef (l : List TDef) (d r : List (List DC)) (n : List UInt8) (hl : l.length ≤ 1048576) : r_impl_typeDef [.sl (l.map TDef.enc), .sl d, .sl r, .s n] = .ret (((defOf l n).getD zDef).enc ++ [.b (defOf l n).isSome]) := by
  rw [eq_impl_typeDef]
  simp only [E_impl_typeDef, List.getD_cons_zero, List.getD_cons_succ, DC.bb_b, DC.ii_i, DC.ss_s, DC.ll_sl, impl_TypeAt l d r n hl, Out.bindR_ret]
  rcases typeAt_cases l n with ⟨h1, h2⟩ | ⟨i, h, h1, h2, _⟩
  · rw [h1, h2]
    rfl
  · rw [h1, h2]
    have hn : ¬ (i : Int) < 0 := by omega
    simp only [hn, decide_false, Bool.false_eq_true, if_false, Int.toNat_natCast, map_getD h, List.length_map, TDef.enc_eq, Option.getD_some, Option.isSome_some, List.getD_cons_zero, List.getD_cons_succ, DC.bb_b, DC.ii_i, DC.ss_s, DC.ll_sl]
    simp [h]

def builtIn (n : List UInt8) : Bool := n == [73, 110, 116] || n == [70, 108, 111, 97, 116] || n == [83, 116, 114, 105, 110, 103] || n == [66, 111, 111, 108, 101, 97, 110] || n == [73, 68]

theorem spec_BuiltIn (n : List UInt8) : r_spec_BuiltIn [.s n] = .ret [.b (builtIn n)] := by
  rw [eq_spec_BuiltIn]
  simp only [E_spec_BuiltIn, List.getD_cons_zero, DC.ss_s, builtIn]
  generalize (n == [73, 110, 116]) = a
  generalize (n == [70, 108, 111, 97, 116]) = b
  generalize (n == [83, 116, 114, 105, 110, 103]) = c
  generalize (n == [66, 111, 111, 108, 101, 97, 110]) = e
  generalize (n == [73, 68]) = f
  cases a <;> cases b <;> cases c <;> cases e <;> simp

theorem impl_BuiltIn (n : List UInt8) : r_impl_BuiltIn [.s n] = .ret [.b (builtIn n)] := by
  rw [eq_impl_BuiltIn]
  simp only [E_impl_BuiltIn, List.getD_cons_zero, DC.ss_s, builtIn]
  generalize (n == [73, 110, 116]) = a
  generalize (n == [70, 108, 111, 97, 116]) = b
  generalize (n == [83, 116, 114, 105, 110, 103]) = c
  generalize (n == [66, 111, 111, 108, 101, 97, 110]) = e
  generalize (n == [73, 68]) = f
  cases a <;> cases b <;> cases c <;> cases e <;> cases f <;> simp

def kindOf (l : List TDef) (n : List UInt8) : Int := match defOf l n with | some d => d.kind | none => if builtIn n then 1 else 0

theorem spec_KindOf (l : List TDef) (d r : List (List DC)) (n : List UInt8) (hl : l.length ≤ 1048576) : r_spec_KindOf [.sl (l.map TDef.enc), .sl d, .sl r, .s n] = .ret [.i (kindOf l n)] := by
  rw [eq_spec_KindOf]
  simp only [E_spec_KindOf, List.getD_cons_zero, List.getD_cons_succ, DC.bb_b, DC.ii_i, DC.ss_s, DC.ll_sl, spec_TypeAt l d r n hl, spec_BuiltIn, Out.bindR_ret, kindOf]
  rcases typeAt_cases l n with ⟨h1, h2⟩ | ⟨i, h, h1, h2, _⟩
  · rw [h1, h2]
    cases builtIn n <;> simp
  · rw [h1, h2]
    have hn : (i : Int) ≥ 0 := by omega
    simp only [hn, decide_true, if_true, Int.toNat_natCast, map_getD h, List.length_map, TDef.enc_eq, List.getD_cons_zero, List.getD_cons_succ, DC.bb_b, DC.ii_i, DC.ss_s, DC.ll_sl]
    simp [h]

theorem impl_KindOf (l : List TDef) (d r : List (List DC)) (n : List UInt8) (hl : l.length ≤ 1048576) : r_impl_KindOf [.sl (l.map TDef.enc), .sl d, .sl r, .s n] = .ret [.i (kindOf l n)] := by
  rw [eq_impl_KindOf]
  simp only [E_impl_KindOf, List.getD_cons_zero, List.getD_cons_succ, DC.bb_b, DC.ii_i, DC.ss_s, DC.ll_sl, impl_typeDef l d r n hl, impl_BuiltIn, Out.bindR_ret, kindOf]
  cases defOf l n with
  | none => cases builtIn n <;> simp [TDef.enc_eq]
  | some d => simp [TDef.enc_eq]

theorem spec_IsComposite (l : List TDef) (d r : List (List DC)) (n : List UInt8) (hl : l.length ≤ 1048576) : r_spec_IsComposite [.sl (l.map TDef.enc), .sl d, .sl r, .s n] = .ret [.b (kindOf l n == 2 || kindOf l n == 3 || kindOf l n == 4)] := by
  rw [eq_spec_IsComposite]
  simp only [E_spec_IsComposite, List.getD_cons_zero, List.getD_cons_succ, DC.bb_b, DC.ii_i, DC.ss_s, DC.ll_sl, spec_KindOf l d r n hl, Out.bindR_ret]
  cases kindOf l n == 2 <;> cases kindOf l n == 3 <;> simp
theorem impl_IsComposite (l : List TDef) (d r : List (List DC)) (n : List UInt8) (hl : l.length ≤ 1048576) : r_impl_IsComposite [.sl (l.map TDef.enc), .sl d, .sl r, .s n] = .ret [.b (kindOf l n == 2 || kindOf l n == 3 || kindOf l n == 4)] := by
  rw [eq_impl_IsComposite]
  simp only [E_impl_IsComposite, List.getD_cons_zero, List.getD_cons_succ, DC.bb_b, DC.ii_i, DC.ss_s, DC.ll_sl, impl_KindOf l d r n hl, Out.bindR_ret]
  cases kindOf l n == 2 <;> cases kindOf l n == 3 <;> simp
theorem spec_IsInput (l : List TDef) (d r : List (List DC)) (n : List UInt8) (hl : l.length ≤ 1048576) : r_spec_IsInput [.sl (l.map TDef.enc), .sl d, .sl r, .s n] = .ret [.b (kindOf l n == 1 || kindOf l n == 5 || kindOf l n == 6)] := by
  rw [eq_spec_IsInput]
  simp only [E_spec_IsInput, List.getD_cons_zero, List.getD_cons_succ, DC.bb_b, DC.ii_i, DC.ss_s, DC.ll_sl, spec_KindOf l d r n hl, Out.bindR_ret]
  cases kindOf l n == 1 <;> cases kindOf l n == 5 <;> simp
theorem impl_IsInput (l : List TDef) (d r : List (List DC)) (n : List UInt8) (hl : l.length ≤ 1048576) : r_impl_IsInput [.sl (l.map TDef.enc), .sl d, .sl r, .s n] = .ret [.b (kindOf l n == 1 || kindOf l n == 5 || kindOf l n == 6)] := by
  rw [eq_impl_IsInput]
  simp only [E_impl_IsInput, List.getD_cons_zero, List.getD_cons_succ, DC.bb_b, DC.ii_i, DC.ss_s, DC.ll_sl, impl_KindOf l d r n hl, Out.bindR_ret]
  cases kindOf l n == 1 <;> cases kindOf l n == 5 <;> simp
theorem spec_IsLeaf (l : List TDef) (d r : List (List DC)) (n : List UInt8) (hl : l.length ≤ 1048576) : r_spec_IsLeaf [.sl (l.map TDef.enc), .sl d, .sl r, .s n] = .ret [.b (kindOf l n == 1 || kindOf l n == 5)] := by
  rw [eq_spec_IsLeaf]
  simp only [E_spec_IsLeaf, List.getD_cons_zero, List.getD_cons_succ, DC.bb_b, DC.ii_i, DC.ss_s, DC.ll_sl, spec_KindOf l d r n hl, Out.bindR_ret]
  cases kindOf l n == 1 <;> simp
theorem impl_IsLeaf (l : List TDef) (d r : List (List DC)) (n : List UInt8) (hl : l.length ≤ 1048576) : r_impl_IsLeaf [.sl (l.map TDef.enc), .sl d, .sl r, .s n] = .ret [.b (kindOf l n == 1 || kindOf l n == 5)] := by
  rw [eq_impl_IsLeaf]
  simp only [E_impl_IsLeaf, List.getD_cons_zero, List.getD_cons_succ, DC.bb_b, DC.ii_i, DC.ss_s, DC.ll_sl, impl_KindOf l d r n hl, Out.bindR_ret]
  cases kindOf l n == 1 <;> simp
theorem spec_IsOutput (l : List TDef) (d r : List (List DC)) (n : List UInt8) (hl : l.length ≤ 1048576) : r_spec_IsOutput [.sl (l.map TDef.enc), .sl d, .sl r, .s n] = .ret [.b (kindOf l n != 0 && kindOf l n != 6)] := by
  rw [eq_spec_IsOutput]
  simp only [E_spec_IsOutput, List.getD_cons_zero, List.getD_cons_succ, DC.bb_b, DC.ii_i, DC.ss_s, DC.ll_sl, spec_KindOf l d r n hl, Out.bindR_ret]
  cases kindOf l n != 0 <;> simp
theorem impl_IsOutput (l : List TDef) (d r : List (List DC)) (n : List UInt8) (hl : l.length ≤ 1048576) : r_impl_IsOutput [.sl (l.map TDef.enc), .sl d, .sl r, .s n] = .ret [.b (kindOf l n != 0 && kindOf l n != 6)] := by
  rw [eq_impl_IsOutput]
  simp only [E_impl_IsOutput, List.getD_cons_zero, List.getD_cons_succ, DC.bb_b, DC.ii_i, DC.ss_s, DC.ll_sl, impl_KindOf l d r n hl, Out.bindR_ret]
  cases kindOf l n != 0 <;> simp

end Go.Proofs.YtciandfkncadgaaV
