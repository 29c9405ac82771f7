import Derived.Test.YtjojjfebgfhcmaaGreatDoorMT9
import Derived.Test.YtjojjfebgfhcmaaGreatDoorMT6
import Derived.Handed
import Derived.HandedShaped
import Derived.LaidLaws
import Derived.LaidMore
import Derived.ProofKit
import Derived.Shelf.Vars
/- The laws' inputs are the typed data (written by a program). -/
namespace Go.Proofs.QV
open Go
set_option linter.unusedVariables false
set_option linter.unusedSimpArgs false
mutual
theorem wfc_ok {ty : Nat → Option TI} : ∀ {t : CT} {c : DC}, WfC ty t c → c.ok
  | _, _, .b x => by simp [DC.ok]
  | _, _, .i k n _ _ => by simp [DC.ok]
  | _, _, .s l h => by rw [DC.ok]; simpa [maxLen] using h
  | _, _, .sl e te l h1 h2 h3 => by rw [DC.ok]; exact ⟨by simpa [maxLen] using h2, wfv_ok h3⟩
  | _, _, .nil e => by rw [DC.ok]; exact ⟨by simp, by rw [okV]; trivial⟩
theorem wfl_ok {ty : Nat → Option TI} : ∀ {ts : List CT} {x : List DC}, WfL ty ts x → okL x
  | _, _, .nil => by rw [okL]; trivial
  | _, _, .cons t ts x xs h1 h2 => by rw [okL]; exact ⟨wfc_ok h1, wfl_ok h2⟩
theorem wfv_ok {ty : Nat → Option TI} : ∀ {ts : List CT} {l : List (List DC)}, WfV ty ts l → okV l
  | _, _, .nil ts => by rw [okV]; trivial
  | _, _, .cons ts x l h1 h2 => by rw [okV]; exact ⟨wfl_ok h1, wfv_ok h2⟩
end
theorem decV {α : Type} {ty : Nat → Option TI} {enc : α → List DC} {cts : List CT} : ∀ {l : List (List DC)}, (∀ x ∈ l, WfL ty cts x → ∃ v, x = enc v) → WfV ty cts l → ∃ vs : List α, l = vs.map enc
  | [], _, _ => ⟨[], rfl⟩
  | x :: l, h, hw => by
    cases hw with
    | cons ts x l h1 h2 =>
      obtain ⟨v, hv⟩ := h x (by simp) h1
      obtain ⟨vs, hvs⟩ := decV (fun y hy => h y (by simp [hy])) h2
      exact ⟨v :: vs, by rw [List.map_cons, hv, hvs]⟩
theorem decC {α : Type} {ty : Nat → Option TI} {enc : α → List DC} {e : Nat} {te : TI} {c : DC} (hte : ty e = some te) (h : ∀ l, c = .sl l → ∀ x ∈ l, WfL ty te.cts x → ∃ v, x = enc v) (hw : WfC ty (.sl e) c) : ∃ vs : List α, c = .sl (vs.map enc) := by
  cases hw with
  | sl e te' l h1 h2 h3 =>
    rw [hte] at h1
    obtain rfl := Option.some.inj h1
    obtain ⟨vs, hvs⟩ := decV (h l rfl) h3
    exact ⟨vs, by rw [hvs]⟩
  | nil => exact ⟨[], rfl⟩
theorem dec_i {ty : Nat → Option TI} {k : IntKind} {c : DC} (h : WfC ty (.i k) c) : ∃ n, c = .i n ∧ k.min ≤ n ∧ n ≤ k.max := by
  cases h with
  | i k n h1 h2 => exact ⟨n, rfl, h1, h2⟩
theorem dec_b {ty : Nat → Option TI} {c : DC} (h : WfC ty .b c) : ∃ n, c = .b n := by cases h; exact ⟨_, rfl⟩
theorem dec_s {ty : Nat → Option TI} {c : DC} (h : WfC ty .s c) : ∃ n, c = .s n := by cases h; exact ⟨_, rfl⟩
theorem dec_S1 {ty : Nat → Option TI} {x : List DC} (h : WfL ty [.s] x) : ∃ n, x = S1 n := by
  cases h with
  | cons t ts x xs h1 h2 =>
    cases h2
    obtain ⟨n, rfl⟩ := dec_s h1
    exact ⟨n, rfl⟩
theorem wfl_cons {ty : Nat → Option TI} {t : CT} {ts : List CT} {x : List DC} (h : WfL ty (t :: ts) x) : ∃ c xs, x = c :: xs ∧ WfC ty t c ∧ WfL ty ts xs := by
  cases h with
  | cons t ts x xs h1 h2 => exact ⟨x, xs, rfl, h1, h2⟩
theorem wfl_nil {ty : Nat → Option TI} {x : List DC} (h : WfL ty [] x) : x = [] := by cases h; rfl
theorem mem_row_lt {l : List (List DC)} {x : List DC} (h : x ∈ l) : SizeOf.sizeOf x < SizeOf.sizeOf (DC.sl l) := by
  have := List.sizeOf_lt_of_mem h
  simp only [DC.sl.sizeOf_spec]
  omega
theorem tyS : cfg.ty 9 = some ⟨.str, [.s], 16, [], false⟩ := by kernel_rfl
theorem ty_Value : cfg.ty 95 = some ⟨.struct, [.i .i64, .s, .sl 95, .sl 9], 72, [(0, 1, false), (1, 1, false), (2, 1, false), (3, 1, false)], false⟩ := by kernel_rfl
theorem dec_Value {x : List DC} (h0 : WfL cfg.ty [.i .i64, .s, .sl 95, .sl 9] x) : ∃ v : TValue, x = TValue.enc v := by
  have h := h0
  obtain ⟨c0, r0, e0, w0, h⟩ := wfl_cons h
  obtain ⟨n0, rfl, _, _⟩ := dec_i w0
  obtain ⟨c1, r1, e1, w1, h⟩ := wfl_cons h
  obtain ⟨n1, rfl⟩ := dec_s w1
  obtain ⟨c2, r2, e2, w2, h⟩ := wfl_cons h
  have hrec2 : ∀ l, c2 = .sl l → ∀ y ∈ l, WfL cfg.ty [.i .i64, .s, .sl 95, .sl 9] y → ∃ v : TValue, y = TValue.enc v := fun l hl y hy hw => by
    have hlt : SizeOf.sizeOf y < SizeOf.sizeOf x := by
      have := mem_row_lt hy
      rw [← hl] at this
      subst e0 e1 e2
      simp only [List.cons.sizeOf_spec]
      omega
    exact dec_Value hw
  obtain ⟨n2, rfl⟩ := decC (enc := TValue.enc) ty_Value hrec2 w2
  obtain ⟨c3, r3, e3, w3, h⟩ := wfl_cons h
  obtain ⟨n3, rfl⟩ := decC (enc := S1) tyS (fun l _ y hy hw => dec_S1 hw) w3
  have hn := wfl_nil h
  refine ⟨⟨n0, n1, n2, n3⟩, ?_⟩
  rw [TValue.enc_eq]
  subst hn
  simp only [e0, e1, e2, e3]
termination_by SizeOf.sizeOf x
theorem ty_Arg : cfg.ty 175 = some ⟨.struct, [.s, .i .i64, .s, .sl 95, .sl 9], 88, [(0, 1, false), (1, 4, true)], false⟩ := by kernel_rfl
theorem dec_Arg {x : List DC} (h0 : WfL cfg.ty [.s, .i .i64, .s, .sl 95, .sl 9] x) : ∃ v : TArg, x = TArg.enc v := by
  have h := h0
  obtain ⟨c0, r0, e0, w0, h⟩ := wfl_cons h
  obtain ⟨n0, rfl⟩ := dec_s w0
  obtain ⟨c1, r1, e1, w1, h⟩ := wfl_cons h
  obtain ⟨n1, rfl, _, _⟩ := dec_i w1
  obtain ⟨c2, r2, e2, w2, h⟩ := wfl_cons h
  obtain ⟨n2, rfl⟩ := dec_s w2
  obtain ⟨c3, r3, e3, w3, h⟩ := wfl_cons h
  obtain ⟨n3, rfl⟩ := decC (enc := TValue.enc) ty_Value (fun l _ y hy hw => dec_Value hw) w3
  obtain ⟨c4, r4, e4, w4, h⟩ := wfl_cons h
  obtain ⟨n4, rfl⟩ := decC (enc := S1) tyS (fun l _ y hy hw => dec_S1 hw) w4
  have hn := wfl_nil h
  refine ⟨⟨n0, ⟨n1, n2, n3, n4⟩⟩, ?_⟩
  rw [TArg.enc_eq]
  subst hn
  simp only [e0, e1, e2, e3, e4]
theorem ty_Dir : cfg.ty 106 = some ⟨.struct, [.s, .sl 175], 40, [(0, 1, false), (1, 1, false)], false⟩ := by kernel_rfl
theorem dec_Dir {x : List DC} (h0 : WfL cfg.ty [.s, .sl 175] x) : ∃ v : TDir, x = TDir.enc v := by
  have h := h0
  obtain ⟨c0, r0, e0, w0, h⟩ := wfl_cons h
  obtain ⟨n0, rfl⟩ := dec_s w0
  obtain ⟨c1, r1, e1, w1, h⟩ := wfl_cons h
  obtain ⟨n1, rfl⟩ := decC (enc := TArg.enc) ty_Arg (fun l _ y hy hw => dec_Arg hw) w1
  have hn := wfl_nil h
  refine ⟨⟨n0, n1⟩, ?_⟩
  rw [TDir.enc_eq]
  subst hn
  simp only [e0, e1]
theorem ty_InDef : cfg.ty 97 = some ⟨.struct, [.s, .s, .s, .s, .b, .i .i64, .s, .sl 95, .sl 9, .sl 106], 168, [(0, 1, false), (1, 1, false), (2, 2, true), (4, 1, false), (5, 4, true), (9, 1, false)], false⟩ := by kernel_rfl
theorem dec_InDef {x : List DC} (h0 : WfL cfg.ty [.s, .s, .s, .s, .b, .i .i64, .s, .sl 95, .sl 9, .sl 106] x) : ∃ v : TInDef, x = TInDef.enc v := by
  have h := h0
  obtain ⟨c0, r0, e0, w0, h⟩ := wfl_cons h
  obtain ⟨n0, rfl⟩ := dec_s w0
  obtain ⟨c1, r1, e1, w1, h⟩ := wfl_cons h
  obtain ⟨n1, rfl⟩ := dec_s w1
  obtain ⟨c2, r2, e2, w2, h⟩ := wfl_cons h
  obtain ⟨n2, rfl⟩ := dec_s w2
  obtain ⟨c3, r3, e3, w3, h⟩ := wfl_cons h
  obtain ⟨n3, rfl⟩ := dec_s w3
  obtain ⟨c4, r4, e4, w4, h⟩ := wfl_cons h
  obtain ⟨n4, rfl⟩ := dec_b w4
  obtain ⟨c5, r5, e5, w5, h⟩ := wfl_cons h
  obtain ⟨n5, rfl, _, _⟩ := dec_i w5
  obtain ⟨c6, r6, e6, w6, h⟩ := wfl_cons h
  obtain ⟨n6, rfl⟩ := dec_s w6
  obtain ⟨c7, r7, e7, w7, h⟩ := wfl_cons h
  obtain ⟨n7, rfl⟩ := decC (enc := TValue.enc) ty_Value (fun l _ y hy hw => dec_Value hw) w7
  obtain ⟨c8, r8, e8, w8, h⟩ := wfl_cons h
  obtain ⟨n8, rfl⟩ := decC (enc := S1) tyS (fun l _ y hy hw => dec_S1 hw) w8
  obtain ⟨c9, r9, e9, w9, h⟩ := wfl_cons h
  obtain ⟨n9, rfl⟩ := decC (enc := TDir.enc) ty_Dir (fun l _ y hy hw => dec_Dir hw) w9
  have hn := wfl_nil h
  refine ⟨⟨n0, n1, ⟨n2, n3⟩, n4, ⟨n5, n6, n7, n8⟩, n9⟩, ?_⟩
  rw [TInDef.enc_eq]
  subst hn
  simp only [e0, e1, e2, e3, e4, e5, e6, e7, e8, e9]
theorem ty_FieldDef : cfg.ty 91 = some ⟨.struct, [.s, .s, .sl 97, .s, .s, .sl 106], 112, [(0, 1, false), (1, 1, false), (2, 1, false), (3, 2, true), (5, 1, false)], false⟩ := by kernel_rfl
theorem dec_FieldDef {x : List DC} (h0 : WfL cfg.ty [.s, .s, .sl 97, .s, .s, .sl 106] x) : ∃ v : TFieldDef, x = TFieldDef.enc v := by
  have h := h0
  obtain ⟨c0, r0, e0, w0, h⟩ := wfl_cons h
  obtain ⟨n0, rfl⟩ := dec_s w0
  obtain ⟨c1, r1, e1, w1, h⟩ := wfl_cons h
  obtain ⟨n1, rfl⟩ := dec_s w1
  obtain ⟨c2, r2, e2, w2, h⟩ := wfl_cons h
  obtain ⟨n2, rfl⟩ := decC (enc := TInDef.enc) ty_InDef (fun l _ y hy hw => dec_InDef hw) w2
  obtain ⟨c3, r3, e3, w3, h⟩ := wfl_cons h
  obtain ⟨n3, rfl⟩ := dec_s w3
  obtain ⟨c4, r4, e4, w4, h⟩ := wfl_cons h
  obtain ⟨n4, rfl⟩ := dec_s w4
  obtain ⟨c5, r5, e5, w5, h⟩ := wfl_cons h
  obtain ⟨n5, rfl⟩ := decC (enc := TDir.enc) ty_Dir (fun l _ y hy hw => dec_Dir hw) w5
  have hn := wfl_nil h
  refine ⟨⟨n0, n1, n2, ⟨n3, n4⟩, n5⟩, ?_⟩
  rw [TFieldDef.enc_eq]
  subst hn
  simp only [e0, e1, e2, e3, e4, e5]
theorem ty_EnumDef : cfg.ty 100 = some ⟨.struct, [.s, .s, .sl 106], 56, [(0, 1, false), (1, 1, false), (2, 1, false)], false⟩ := by kernel_rfl
theorem dec_EnumDef {x : List DC} (h0 : WfL cfg.ty [.s, .s, .sl 106] x) : ∃ v : TEnumDef, x = TEnumDef.enc v := by
  have h := h0
  obtain ⟨c0, r0, e0, w0, h⟩ := wfl_cons h
  obtain ⟨n0, rfl⟩ := dec_s w0
  obtain ⟨c1, r1, e1, w1, h⟩ := wfl_cons h
  obtain ⟨n1, rfl⟩ := dec_s w1
  obtain ⟨c2, r2, e2, w2, h⟩ := wfl_cons h
  obtain ⟨n2, rfl⟩ := decC (enc := TDir.enc) ty_Dir (fun l _ y hy hw => dec_Dir hw) w2
  have hn := wfl_nil h
  refine ⟨⟨n0, n1, n2⟩, ?_⟩
  rw [TEnumDef.enc_eq]
  subst hn
  simp only [e0, e1, e2]
theorem ty_Root : cfg.ty 102 = some ⟨.struct, [.i .i64, .s], 24, [(0, 1, false), (1, 1, false)], false⟩ := by kernel_rfl
theorem dec_Root {x : List DC} (h0 : WfL cfg.ty [.i .i64, .s] x) : ∃ v : TRoot, x = TRoot.enc v := by
  have h := h0
  obtain ⟨c0, r0, e0, w0, h⟩ := wfl_cons h
  obtain ⟨n0, rfl, _, _⟩ := dec_i w0
  obtain ⟨c1, r1, e1, w1, h⟩ := wfl_cons h
  obtain ⟨n1, rfl⟩ := dec_s w1
  have hn := wfl_nil h
  refine ⟨⟨n0, n1⟩, ?_⟩
  rw [TRoot.enc_eq]
  subst hn
  simp only [e0, e1]
theorem dec_Def {x : List DC} (h0 : WfL cfg.ty [.i .i64, .b, .s, .s, .sl 9, .sl 91, .sl 97, .sl 100, .sl 102, .b, .sl 106] x) : ∃ v : TDef, x = TDef.enc v := by
  have h := h0
  obtain ⟨c0, r0, e0, w0, h⟩ := wfl_cons h
  obtain ⟨n0, rfl, _, _⟩ := dec_i w0
  obtain ⟨c1, r1, e1, w1, h⟩ := wfl_cons h
  obtain ⟨n1, rfl⟩ := dec_b w1
  obtain ⟨c2, r2, e2, w2, h⟩ := wfl_cons h
  obtain ⟨n2, rfl⟩ := dec_s w2
  obtain ⟨c3, r3, e3, w3, h⟩ := wfl_cons h
  obtain ⟨n3, rfl⟩ := dec_s w3
  obtain ⟨c4, r4, e4, w4, h⟩ := wfl_cons h
  obtain ⟨n4, rfl⟩ := decC (enc := S1) tyS (fun l _ y hy hw => dec_S1 hw) w4
  obtain ⟨c5, r5, e5, w5, h⟩ := wfl_cons h
  obtain ⟨n5, rfl⟩ := decC (enc := TFieldDef.enc) ty_FieldDef (fun l _ y hy hw => dec_FieldDef hw) w5
  obtain ⟨c6, r6, e6, w6, h⟩ := wfl_cons h
  obtain ⟨n6, rfl⟩ := decC (enc := TInDef.enc) ty_InDef (fun l _ y hy hw => dec_InDef hw) w6
  obtain ⟨c7, r7, e7, w7, h⟩ := wfl_cons h
  obtain ⟨n7, rfl⟩ := decC (enc := TEnumDef.enc) ty_EnumDef (fun l _ y hy hw => dec_EnumDef hw) w7
  obtain ⟨c8, r8, e8, w8, h⟩ := wfl_cons h
  obtain ⟨n8, rfl⟩ := decC (enc := TRoot.enc) ty_Root (fun l _ y hy hw => dec_Root hw) w8
  obtain ⟨c9, r9, e9, w9, h⟩ := wfl_cons h
  obtain ⟨n9, rfl⟩ := dec_b w9
  obtain ⟨c10, r10, e10, w10, h⟩ := wfl_cons h
  obtain ⟨n10, rfl⟩ := decC (enc := TDir.enc) ty_Dir (fun l _ y hy hw => dec_Dir hw) w10
  have hn := wfl_nil h
  refine ⟨⟨n0, n1, n2, n3, n4, n5, n6, n7, n8, n9, n10⟩, ?_⟩
  rw [TDef.enc_eq]
  subst hn
  simp only [e0, e1, e2, e3, e4, e5, e6, e7, e8, e9, e10]
set_option maxRecDepth 100000
theorem wfl_app {ty : Nat → Option TI} : ∀ {ts1 ts2 : List CT} {x : List DC}, WfL ty (ts1 ++ ts2) x → ∃ y z, x = y ++ z ∧ WfL ty ts1 y ∧ WfL ty ts2 z
  | [], ts2, x, h => ⟨[], x, rfl, .nil, h⟩
  | t :: ts1, ts2, x, h => by
    obtain ⟨c, xs, rfl, h1, h2⟩ := wfl_cons h
    obtain ⟨y, z, rfl, h3, h4⟩ := wfl_app h2
    exact ⟨c :: y, z, rfl, .cons _ _ _ _ h1 h3, h4⟩
theorem law_FnExactDefText (d : List DC) (hd : WfL cfg.ty [.i .i64, .b, .s, .s, .sl 9, .sl 91, .sl 97, .sl 100, .sl 102, .b, .sl 106] d) : r_laws_FnExactDefText d = .ret [.b true] := by
  obtain ⟨y0, z0, e0, w0, hd⟩ := wfl_app (ts1 := [.i .i64, .b, .s, .s, .sl 9, .sl 91, .sl 97, .sl 100, .sl 102, .b, .sl 106]) (ts2 := []) hd
  have hz := wfl_nil hd
  have k0 := wfl_ok w0
  obtain ⟨a0, g0⟩ := dec_Def w0
  subst g0
  subst hz
  subst e0
  rw [eq_laws_FnExactDefText]
  simp only [E_laws_FnExactDefText, TDef.enc_eq, List.cons_append, List.nil_append, List.append_nil, zz0, zz1, zb, zi, zs, zl]
  rw [sz_Def a0 k0 (1048576) (by omega) (by omega)]
  simp only [zr, zz0, zz1, zb, zi, zs, zl]
  by_cases s0 : (1048576 : Int) < ((wtL (TDef.enc a0) : Nat) : Int)
  · rw [szR_lt s0]
    rfl
  rw [szR_ge s0]
  have s0' : ¬ (1048576 : Int) - ((wtL (TDef.enc a0) : Nat) : Int) < 0 := by omega
  simp only [s0', decide_false, zf, if_false]
  have W0 : wtL (TDef.enc a0) ≤ 1048576 := by omega
  have l0_faces : a0.faces.length ≤ 1048576 := by have h := W0; simp only [TDef.enc_eq, wtL, DC.wt, zm] at h; omega
  have l0_fields : a0.fields.length ≤ 1048576 := by have h := W0; simp only [TDef.enc_eq, wtL, DC.wt, zm] at h; omega
  have l0_inputs : a0.inputs.length ≤ 1048576 := by have h := W0; simp only [TDef.enc_eq, wtL, DC.wt, zm] at h; omega
  have l0_values : a0.values.length ≤ 1048576 := by have h := W0; simp only [TDef.enc_eq, wtL, DC.wt, zm] at h; omega
  have l0_roots : a0.roots.length ≤ 1048576 := by have h := W0; simp only [TDef.enc_eq, wtL, DC.wt, zm] at h; omega
  have l0_dirs : a0.dirs.length ≤ 1048576 := by have h := W0; simp only [TDef.enc_eq, wtL, DC.wt, zm] at h; omega
  have hs := spec_DefText a0 W0
  have hi := impl_DefText a0 W0
  simp only [to_Def a0 W0, eq_Def a0 W0, hs, hi, TDef.enc_eq, zz0, zz1, zb, zi, zs, zl, zr, bne_self_eq_false, beq_self_eq_true, Bool.not_true, zf, if_false]
end Go.Proofs.QV

namespace Go.Proofs.QV
open Go Go.ChangeShapes Go.WideShapes Go.ChangeAt Go.RowKit
set_option linter.unusedVariables false
variable {H : Type} {enc : TypeId × Value → H}
theorem lt_cell {w : World} {a : Addr} {v : Value} (h : w.cell? a = some v) : a.block < w.heap.size := by
  rcases Nat.lt_or_ge a.block w.heap.size with h' | h'
  · exact h'
  · have : w.heap[a.block]? = none := Array.getElem?_eq_none h'
    unfold World.cell? at h
    simp [this] at h
theorem handed_door {a : Assume} {C : Checked} {os : Os} {f : FuncId} {fn : Func} {s : ChangeSpec} {conds : List PathCond} {apart fresh handsOn again : Bool} {X : World → Array Value → Prop}
    (hX : ∀ (w w' : World) (args : Array Value), w.heap = w'.heap → X w args → X w' args)
    (own : ownKnob C.prog.godebug = none) (started : os.Started) (noInit : C.prog.inits.idxOf? f = none) (hfn : C.prog.funcs[f]? = some fn)
    (witness : ∃ (w : World) (tape : Tape) (i : Input), w.os = os ∧ (w.forCall tape i).Shaped C.prog ∧ i.vars = [] ∧ Input.okWide C.prog (w.forCall tape i) .any w.heap.size f i ∧
      ((s.pre enc C.prog fn conds apart (w.forCall tape i).memory i.args ∧ X (w.forCall tape i).memory i.args) ∧ sizedMet enc C.prog fn (OpenSpec.ofChange s) apart (w.forCall tape i).memory i.args) ∧ a.holds C.prog (lone (Frame.enter C.prog f i.args .normal) [] (w.forCall tape i)))
    (contract : ∀ (W : World) (base : Nat) (args : Array Value) (ds gs : List (DataW H)) (before : List MemPlace),
      (∀ (j : Nat) t v, fn.params[j]? = some t → args[j]? = some v → Value.okWide C.prog W .any base t v) →
      DataW.Whole enc C.prog fn.params.toList s.vars apart W args.toList ds gs before →
      X W args → W.ShapedOpen C.prog →
      Calls C.prog f args W fun e W' => ∃ v, e = .returned v ∧ s.post enc C.prog fn apart fresh handsOn again W args v W') :
    ReturnsInHanded a C os f .any (fun w args => (s.pre enc C.prog fn conds apart w args ∧ X w args) ∧ sizedMet enc C.prog fn (OpenSpec.ofChange s) apart w args) (s.post enc C.prog fn apart fresh handsOn again) := by
  refine returnsInHanded_of_calls own started noInit witness ?_
  intro w tape i _ hsh _ hok hpre _
  obtain ⟨_, _, _, fn', hfn', _, _, _, _, hval⟩ := hok
  have e : fn' = fn := Option.some.inj (hfn'.symm.trans hfn)
  subst e
  obtain ⟨⟨⟨ds, gs, before, hw, hc⟩, hx⟩, hz⟩ := hpre
  have hw' := DataW.Whole.of_heap (w' := w.forCall tape i) (by rfl) hw
  refine (contract (w.forCall tape i) w.heap.size i.args ds gs before hval hw' (hX _ _ _ (by rfl) hx) hsh).mono fun e W' ⟨v, he, hp⟩ => ?_
  subst he
  exact ChangeSpec.post_blind hp
end Go.Proofs.QV
