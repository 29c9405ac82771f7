/- The laws' inputs are the typed data (written by a program). -/
import Derived.Test.YtljggmbgbnmapaaGreatF
import Derived.Test.YtljggmbgbnmapaaGreatV30
namespace Go.Proofs.YtljggmbgbnmapaaGreatV
open Go
set_option linter.unusedVariables false
set_option linter.unusedSimpArgs false

mutual
theorem wfc_ok {ty : Nat → Option TI} : ∀ {t : CT} {c : DC}, WfC ty t c → c.ok
  | _, _, .b x => by simp [DC.ok]
  | _, _, .i k n _ _ => by simp [DC.ok]
  | _, _, .s l h => by rw [DC.ok]; simpa [maxLen] using h
  | _, _, .sl e te l h1 h2 h3 => by rw [DC.ok]; exact ⟨by simpa [maxLen] using h2, wfv_ok h3⟩
  | _, _, .nil e => by rw [DC.ok]; exact ⟨by simp, by rw [okV]; trivial⟩
theorem wfl_ok {ty : Nat → Option TI} : ∀ {ts : List CT} {x : List DC}, WfL ty ts x → okL x
  | _, _, .nil => by rw [okL]; trivial
  | _, _, .cons t ts x xs h1 h2 => by rw [okL]; exact ⟨wfc_ok h1, wfl_ok h2⟩
theorem wfv_ok {ty : Nat → Option TI} : ∀ {ts : List CT} {l : List (List DC)}, WfV ty ts l → okV l
  | _, _, .nil ts => by rw [okV]; trivial
  | _, _, .cons ts x l h1 h2 => by rw [okV]; exact ⟨wfl_ok h1, wfv_ok h2⟩
end

theorem decV {α : Type} {ty : Nat → Option TI} {enc : α → List DC} {cts : List CT} : ∀ {l : List (List DC)}, (∀ x ∈ l, WfL ty cts x → ∃ v, x = enc v) → WfV ty cts l → ∃ vs : List α, l = vs.map enc
  | [], _, _ => ⟨[], rfl⟩
  | x :: l, h, hw => by
    cases hw with
    | cons ts x l h1 h2 =>
      obtain ⟨v, hv⟩ := h x (by simp) h1
      obtain ⟨vs, hvs⟩ := decV (fun y hy => h y (by simp [hy])) h2
      exact ⟨v :: vs, by rw [List.map_cons, hv, hvs]⟩
theorem decC {α : Type} {ty : Nat → Option TI} {enc : α → List DC} {e : Nat} {te : TI} {c : DC} (hte : ty e = some te) (h : ∀ l, c = .sl l → ∀ x ∈ l, WfL ty te.cts x → ∃ v, x = enc v) (hw : WfC ty (.sl e) c) : ∃ vs : List α, c = .sl (vs.map enc) := by
  cases hw with
  | sl e te' l h1 h2 h3 =>
    rw [hte] at h1
    obtain rfl := Option.some.inj h1
    obtain ⟨vs, hvs⟩ := decV (h l rfl) h3
    exact ⟨vs, by rw [hvs]⟩
  | nil => exact ⟨[], rfl⟩
theorem dec_i {ty : Nat → Option TI} {k : IntKind} {c : DC} (h : WfC ty (.i k) c) : ∃ n, c = .i n ∧ k.min ≤ n ∧ n ≤ k.max := by
  cases h with
  | i k n h1 h2 => exact ⟨n, rfl, h1, h2⟩
theorem dec_b {ty : Nat → Option TI} {c : DC} (h : WfC ty .b c) : ∃ n, c = .b n := by cases h; exact ⟨_, rfl⟩
theorem dec_s {ty : Nat → Option TI} {c : DC} (h : WfC ty .s c) : ∃ n, c = .s n := by cases h; exact ⟨_, rfl⟩
theorem dec_S1 {ty : Nat → Option TI} {x : List DC} (h : WfL ty [.s] x) : ∃ n, x = S1 n := by
  cases h with
  | cons t ts x xs h1 h2 =>
    cases h2
    obtain ⟨n, rfl⟩ := dec_s h1
    exact ⟨n, rfl⟩
theorem wfl_cons {ty : Nat → Option TI} {t : CT} {ts : List CT} {x : List DC} (h : WfL ty (t :: ts) x) : ∃ c xs, x = c :: xs ∧ WfC ty t c ∧ WfL ty ts xs := by
  cases h with
  | cons t ts x xs h1 h2 => exact ⟨x, xs, rfl, h1, h2⟩
theorem wfl_nil {ty : Nat → Option TI} {x : List DC} (h : WfL ty [] x) : x = [] := by cases h; rfl
theorem mem_row_lt {l : List (List DC)} {x : List DC} (h : x ∈ l) : SizeOf.sizeOf x < SizeOf.sizeOf (DC.sl l) := by
  have := List.sizeOf_lt_of_mem h
  simp only [DC.sl.sizeOf_spec]
  omega

theorem tyS : cfg.ty 9 = some ⟨.str, [.s], 16, [], false⟩ := by kernel_rfl
theorem ty_Value : cfg.ty 146 = some ⟨.struct, [.i .i64, .s, .sl 146, .sl 9], 72, [(0, 1, false), (1, 1, false), (2, 1, false), (3, 1, false)], false⟩ := by kernel_rfl
theorem dec_Value {x : List DC} (h0 : WfL cfg.ty [.i .i64, .s, .sl 146, .sl 9] x) : ∃ v : TValue, x = TValue.enc v := by
  have h := h0
  obtain ⟨c0, r0, e0, w0, h⟩ := wfl_cons h
  obtain ⟨n0, rfl, _, _⟩ := dec_i w0
  obtain ⟨c1, r1, e1, w1, h⟩ := wfl_cons h
  obtain ⟨n1, rfl⟩ := dec_s w1
  obtain ⟨c2, r2, e2, w2, h⟩ := wfl_cons h
  have hrec2 : ∀ l, c2 = .sl l → ∀ y ∈ l, WfL cfg.ty [.i .i64, .s, .sl 146, .sl 9] y → ∃ v : TValue, y = TValue.enc v := fun l hl y hy hw => by
    have hlt : SizeOf.sizeOf y < SizeOf.sizeOf x := by
      have := mem_row_lt hy
      rw [← hl] at this
      subst e0 e1 e2
      simp only [List.cons.sizeOf_spec]
      omega
    exact dec_Value hw
  obtain ⟨n2, rfl⟩ := decC (enc := TValue.enc) ty_Value hrec2 w2
  obtain ⟨c3, r3, e3, w3, h⟩ := wfl_cons h
  obtain ⟨n3, rfl⟩ := decC (enc := S1) tyS (fun l _ y hy hw => dec_S1 hw) w3
  have hn := wfl_nil h
  refine ⟨⟨n0, n1, n2, n3⟩, ?_⟩
  rw [TValue.enc_eq]
  subst hn
  simp only [e0, e1, e2, e3]
termination_by SizeOf.sizeOf x
theorem decS_Value {c : DC} (h : WfC cfg.ty (.sl 146) c) : ∃ vs : List TValue, c = .sl (vs.map TValue.enc) := decC ty_Value (fun l _ y hy hw => dec_Value hw) h
theorem ty_Type : cfg.ty 143 = some ⟨.struct, [.s, .s], 32, [(0, 1, false), (1, 1, false)], false⟩ := by kernel_rfl
theorem dec_Type {x : List DC} (h0 : WfL cfg.ty [.s, .s] x) : ∃ v : TType, x = TType.enc v := by
  have h := h0
  obtain ⟨c0, r0, e0, w0, h⟩ := wfl_cons h
  obtain ⟨n0, rfl⟩ := dec_s w0
  obtain ⟨c1, r1, e1, w1, h⟩ := wfl_cons h
  obtain ⟨n1, rfl⟩ := dec_s w1
  have hn := wfl_nil h
  refine ⟨⟨n0, n1⟩, ?_⟩
  rw [TType.enc_eq]
  subst hn
  simp only [e0, e1]
theorem decS_Type {c : DC} (h : WfC cfg.ty (.sl 143) c) : ∃ vs : List TType, c = .sl (vs.map TType.enc) := decC ty_Type (fun l _ y hy hw => dec_Type hw) h
theorem ty_Arg : cfg.ty 185 = some ⟨.struct, [.s, .i .i64, .s, .sl 146, .sl 9], 88, [(0, 1, false), (1, 4, true)], false⟩ := by kernel_rfl
theorem dec_Arg {x : List DC} (h0 : WfL cfg.ty [.s, .i .i64, .s, .sl 146, .sl 9] x) : ∃ v : TArg, x = TArg.enc v := by
  have h := h0
  obtain ⟨c0, r0, e0, w0, h⟩ := wfl_cons h
  obtain ⟨n0, rfl⟩ := dec_s w0
  obtain ⟨c1, r1, e1, w1, h⟩ := wfl_cons h
  obtain ⟨n1, rfl, _, _⟩ := dec_i w1
  obtain ⟨c2, r2, e2, w2, h⟩ := wfl_cons h
  obtain ⟨n2, rfl⟩ := dec_s w2
  obtain ⟨c3, r3, e3, w3, h⟩ := wfl_cons h
  obtain ⟨n3, rfl⟩ := decC (enc := TValue.enc) ty_Value (fun l _ y hy hw => dec_Value hw) w3
  obtain ⟨c4, r4, e4, w4, h⟩ := wfl_cons h
  obtain ⟨n4, rfl⟩ := decC (enc := S1) tyS (fun l _ y hy hw => dec_S1 hw) w4
  have hn := wfl_nil h
  refine ⟨⟨n0, ⟨n1, n2, n3, n4⟩⟩, ?_⟩
  rw [TArg.enc_eq]
  subst hn
  simp only [e0, e1, e2, e3, e4]
theorem decS_Arg {c : DC} (h : WfC cfg.ty (.sl 185) c) : ∃ vs : List TArg, c = .sl (vs.map TArg.enc) := decC ty_Arg (fun l _ y hy hw => dec_Arg hw) h
theorem ty_Dir : cfg.ty 152 = some ⟨.struct, [.s, .sl 185], 40, [(0, 1, false), (1, 1, false)], false⟩ := by kernel_rfl
theorem dec_Dir {x : List DC} (h0 : WfL cfg.ty [.s, .sl 185] x) : ∃ v : TDir, x = TDir.enc v := by
  have h := h0
  obtain ⟨c0, r0, e0, w0, h⟩ := wfl_cons h
  obtain ⟨n0, rfl⟩ := dec_s w0
  obtain ⟨c1, r1, e1, w1, h⟩ := wfl_cons h
  obtain ⟨n1, rfl⟩ := decC (enc := TArg.enc) ty_Arg (fun l _ y hy hw => dec_Arg hw) w1
  have hn := wfl_nil h
  refine ⟨⟨n0, n1⟩, ?_⟩
  rw [TDir.enc_eq]
  subst hn
  simp only [e0, e1]
theorem decS_Dir {c : DC} (h : WfC cfg.ty (.sl 152) c) : ∃ vs : List TDir, c = .sl (vs.map TDir.enc) := decC ty_Dir (fun l _ y hy hw => dec_Dir hw) h
theorem ty_Sel : cfg.ty 155 = some ⟨.struct, [.i .i64, .s, .s, .s, .sl 185, .sl 152, .sl 155], 128, [(0, 1, false), (1, 1, false), (2, 1, false), (3, 1, false), (4, 1, false), (5, 1, false), (6, 1, false)], false⟩ := by kernel_rfl
theorem dec_Sel {x : List DC} (h0 : WfL cfg.ty [.i .i64, .s, .s, .s, .sl 185, .sl 152, .sl 155] x) : ∃ v : TSel, x = TSel.enc v := by
  have h := h0
  obtain ⟨c0, r0, e0, w0, h⟩ := wfl_cons h
  obtain ⟨n0, rfl, _, _⟩ := dec_i w0
  obtain ⟨c1, r1, e1, w1, h⟩ := wfl_cons h
  obtain ⟨n1, rfl⟩ := dec_s w1
  obtain ⟨c2, r2, e2, w2, h⟩ := wfl_cons h
  obtain ⟨n2, rfl⟩ := dec_s w2
  obtain ⟨c3, r3, e3, w3, h⟩ := wfl_cons h
  obtain ⟨n3, rfl⟩ := dec_s w3
  obtain ⟨c4, r4, e4, w4, h⟩ := wfl_cons h
  obtain ⟨n4, rfl⟩ := decC (enc := TArg.enc) ty_Arg (fun l _ y hy hw => dec_Arg hw) w4
  obtain ⟨c5, r5, e5, w5, h⟩ := wfl_cons h
  obtain ⟨n5, rfl⟩ := decC (enc := TDir.enc) ty_Dir (fun l _ y hy hw => dec_Dir hw) w5
  obtain ⟨c6, r6, e6, w6, h⟩ := wfl_cons h
  have hrec6 : ∀ l, c6 = .sl l → ∀ y ∈ l, WfL cfg.ty [.i .i64, .s, .s, .s, .sl 185, .sl 152, .sl 155] y → ∃ v : TSel, y = TSel.enc v := fun l hl y hy hw => by
    have hlt : SizeOf.sizeOf y < SizeOf.sizeOf x := by
      have := mem_row_lt hy
      rw [← hl] at this
      subst e0 e1 e2 e3 e4 e5 e6
      simp only [List.cons.sizeOf_spec]
      omega
    exact dec_Sel hw
  obtain ⟨n6, rfl⟩ := decC (enc := TSel.enc) ty_Sel hrec6 w6
  have hn := wfl_nil h
  refine ⟨⟨n0, n1, n2, n3, n4, n5, n6⟩, ?_⟩
  rw [TSel.enc_eq]
  subst hn
  simp only [e0, e1, e2, e3, e4, e5, e6]
termination_by SizeOf.sizeOf x
theorem decS_Sel {c : DC} (h : WfC cfg.ty (.sl 155) c) : ∃ vs : List TSel, c = .sl (vs.map TSel.enc) := decC ty_Sel (fun l _ y hy hw => dec_Sel hw) h
theorem ty_VarDef : cfg.ty 148 = some ⟨.struct, [.s, .s, .s, .b, .i .i64, .s, .sl 146, .sl 9, .sl 152], 152, [(0, 1, false), (1, 2, true), (3, 1, false), (4, 4, true), (8, 1, false)], false⟩ := by kernel_rfl
theorem dec_VarDef {x : List DC} (h0 : WfL cfg.ty [.s, .s, .s, .b, .i .i64, .s, .sl 146, .sl 9, .sl 152] x) : ∃ v : TVarDef, x = TVarDef.enc v := by
  have h := h0
  obtain ⟨c0, r0, e0, w0, h⟩ := wfl_cons h
  obtain ⟨n0, rfl⟩ := dec_s w0
  obtain ⟨c1, r1, e1, w1, h⟩ := wfl_cons h
  obtain ⟨n1, rfl⟩ := dec_s w1
  obtain ⟨c2, r2, e2, w2, h⟩ := wfl_cons h
  obtain ⟨n2, rfl⟩ := dec_s w2
  obtain ⟨c3, r3, e3, w3, h⟩ := wfl_cons h
  obtain ⟨n3, rfl⟩ := dec_b w3
  obtain ⟨c4, r4, e4, w4, h⟩ := wfl_cons h
  obtain ⟨n4, rfl, _, _⟩ := dec_i w4
  obtain ⟨c5, r5, e5, w5, h⟩ := wfl_cons h
  obtain ⟨n5, rfl⟩ := dec_s w5
  obtain ⟨c6, r6, e6, w6, h⟩ := wfl_cons h
  obtain ⟨n6, rfl⟩ := decC (enc := TValue.enc) ty_Value (fun l _ y hy hw => dec_Value hw) w6
  obtain ⟨c7, r7, e7, w7, h⟩ := wfl_cons h
  obtain ⟨n7, rfl⟩ := decC (enc := S1) tyS (fun l _ y hy hw => dec_S1 hw) w7
  obtain ⟨c8, r8, e8, w8, h⟩ := wfl_cons h
  obtain ⟨n8, rfl⟩ := decC (enc := TDir.enc) ty_Dir (fun l _ y hy hw => dec_Dir hw) w8
  have hn := wfl_nil h
  refine ⟨⟨n0, ⟨n1, n2⟩, n3, ⟨n4, n5, n6, n7⟩, n8⟩, ?_⟩
  rw [TVarDef.enc_eq]
  subst hn
  simp only [e0, e1, e2, e3, e4, e5, e6, e7, e8]
theorem decS_VarDef {c : DC} (h : WfC cfg.ty (.sl 148) c) : ∃ vs : List TVarDef, c = .sl (vs.map TVarDef.enc) := decC ty_VarDef (fun l _ y hy hw => dec_VarDef hw) h
theorem ty_Op : cfg.ty 62 = some ⟨.struct, [.i .i64, .s, .sl 148, .sl 152, .sl 155], 96, [(0, 1, false), (1, 1, false), (2, 1, false), (3, 1, false), (4, 1, false)], false⟩ := by kernel_rfl
theorem dec_Op {x : List DC} (h0 : WfL cfg.ty [.i .i64, .s, .sl 148, .sl 152, .sl 155] x) : ∃ v : TOp, x = TOp.enc v := by
  have h := h0
  obtain ⟨c0, r0, e0, w0, h⟩ := wfl_cons h
  obtain ⟨n0, rfl, _, _⟩ := dec_i w0
  obtain ⟨c1, r1, e1, w1, h⟩ := wfl_cons h
  obtain ⟨n1, rfl⟩ := dec_s w1
  obtain ⟨c2, r2, e2, w2, h⟩ := wfl_cons h
  obtain ⟨n2, rfl⟩ := decC (enc := TVarDef.enc) ty_VarDef (fun l _ y hy hw => dec_VarDef hw) w2
  obtain ⟨c3, r3, e3, w3, h⟩ := wfl_cons h
  obtain ⟨n3, rfl⟩ := decC (enc := TDir.enc) ty_Dir (fun l _ y hy hw => dec_Dir hw) w3
  obtain ⟨c4, r4, e4, w4, h⟩ := wfl_cons h
  obtain ⟨n4, rfl⟩ := decC (enc := TSel.enc) ty_Sel (fun l _ y hy hw => dec_Sel hw) w4
  have hn := wfl_nil h
  refine ⟨⟨n0, n1, n2, n3, n4⟩, ?_⟩
  rw [TOp.enc_eq]
  subst hn
  simp only [e0, e1, e2, e3, e4]
theorem decS_Op {c : DC} (h : WfC cfg.ty (.sl 62) c) : ∃ vs : List TOp, c = .sl (vs.map TOp.enc) := decC ty_Op (fun l _ y hy hw => dec_Op hw) h
theorem ty_Frag : cfg.ty 64 = some ⟨.struct, [.s, .s, .sl 152, .sl 155], 80, [(0, 1, false), (1, 1, false), (2, 1, false), (3, 1, false)], false⟩ := by kernel_rfl
theorem dec_Frag {x : List DC} (h0 : WfL cfg.ty [.s, .s, .sl 152, .sl 155] x) : ∃ v : TFrag, x = TFrag.enc v := by
  have h := h0
  obtain ⟨c0, r0, e0, w0, h⟩ := wfl_cons h
  obtain ⟨n0, rfl⟩ := dec_s w0
  obtain ⟨c1, r1, e1, w1, h⟩ := wfl_cons h
  obtain ⟨n1, rfl⟩ := dec_s w1
  obtain ⟨c2, r2, e2, w2, h⟩ := wfl_cons h
  obtain ⟨n2, rfl⟩ := decC (enc := TDir.enc) ty_Dir (fun l _ y hy hw => dec_Dir hw) w2
  obtain ⟨c3, r3, e3, w3, h⟩ := wfl_cons h
  obtain ⟨n3, rfl⟩ := decC (enc := TSel.enc) ty_Sel (fun l _ y hy hw => dec_Sel hw) w3
  have hn := wfl_nil h
  refine ⟨⟨n0, n1, n2, n3⟩, ?_⟩
  rw [TFrag.enc_eq]
  subst hn
  simp only [e0, e1, e2, e3]
theorem decS_Frag {c : DC} (h : WfC cfg.ty (.sl 64) c) : ∃ vs : List TFrag, c = .sl (vs.map TFrag.enc) := decC ty_Frag (fun l _ y hy hw => dec_Frag hw) h
theorem ty_InDef : cfg.ty 161 = some ⟨.struct, [.s, .s, .s, .s, .b, .i .i64, .s, .sl 146, .sl 9, .sl 152], 168, [(0, 1, false), (1, 1, false), (2, 2, true), (4, 1, false), (5, 4, true), (9, 1, false)], false⟩ := by kernel_rfl
theorem dec_InDef {x : List DC} (h0 : WfL cfg.ty [.s, .s, .s, .s, .b, .i .i64, .s, .sl 146, .sl 9, .sl 152] x) : ∃ v : TInDef, x = TInDef.enc v := by
  have h := h0
  obtain ⟨c0, r0, e0, w0, h⟩ := wfl_cons h
  obtain ⟨n0, rfl⟩ := dec_s w0
  obtain ⟨c1, r1, e1, w1, h⟩ := wfl_cons h
  obtain ⟨n1, rfl⟩ := dec_s w1
  obtain ⟨c2, r2, e2, w2, h⟩ := wfl_cons h
  obtain ⟨n2, rfl⟩ := dec_s w2
  obtain ⟨c3, r3, e3, w3, h⟩ := wfl_cons h
  obtain ⟨n3, rfl⟩ := dec_s w3
  obtain ⟨c4, r4, e4, w4, h⟩ := wfl_cons h
  obtain ⟨n4, rfl⟩ := dec_b w4
  obtain ⟨c5, r5, e5, w5, h⟩ := wfl_cons h
  obtain ⟨n5, rfl, _, _⟩ := dec_i w5
  obtain ⟨c6, r6, e6, w6, h⟩ := wfl_cons h
  obtain ⟨n6, rfl⟩ := dec_s w6
  obtain ⟨c7, r7, e7, w7, h⟩ := wfl_cons h
  obtain ⟨n7, rfl⟩ := decC (enc := TValue.enc) ty_Value (fun l _ y hy hw => dec_Value hw) w7
  obtain ⟨c8, r8, e8, w8, h⟩ := wfl_cons h
  obtain ⟨n8, rfl⟩ := decC (enc := S1) tyS (fun l _ y hy hw => dec_S1 hw) w8
  obtain ⟨c9, r9, e9, w9, h⟩ := wfl_cons h
  obtain ⟨n9, rfl⟩ := decC (enc := TDir.enc) ty_Dir (fun l _ y hy hw => dec_Dir hw) w9
  have hn := wfl_nil h
  refine ⟨⟨n0, n1, ⟨n2, n3⟩, n4, ⟨n5, n6, n7, n8⟩, n9⟩, ?_⟩
  rw [TInDef.enc_eq]
  subst hn
  simp only [e0, e1, e2, e3, e4, e5, e6, e7, e8, e9]
theorem decS_InDef {c : DC} (h : WfC cfg.ty (.sl 161) c) : ∃ vs : List TInDef, c = .sl (vs.map TInDef.enc) := decC ty_InDef (fun l _ y hy hw => dec_InDef hw) h
theorem ty_FieldDef : cfg.ty 158 = some ⟨.struct, [.s, .s, .sl 161, .s, .s, .sl 152], 112, [(0, 1, false), (1, 1, false), (2, 1, false), (3, 2, true), (5, 1, false)], false⟩ := by kernel_rfl
theorem dec_FieldDef {x : List DC} (h0 : WfL cfg.ty [.s, .s, .sl 161, .s, .s, .sl 152] x) : ∃ v : TFieldDef, x = TFieldDef.enc v := by
  have h := h0
  obtain ⟨c0, r0, e0, w0, h⟩ := wfl_cons h
  obtain ⟨n0, rfl⟩ := dec_s w0
  obtain ⟨c1, r1, e1, w1, h⟩ := wfl_cons h
  obtain ⟨n1, rfl⟩ := dec_s w1
  obtain ⟨c2, r2, e2, w2, h⟩ := wfl_cons h
  obtain ⟨n2, rfl⟩ := decC (enc := TInDef.enc) ty_InDef (fun l _ y hy hw => dec_InDef hw) w2
  obtain ⟨c3, r3, e3, w3, h⟩ := wfl_cons h
  obtain ⟨n3, rfl⟩ := dec_s w3
  obtain ⟨c4, r4, e4, w4, h⟩ := wfl_cons h
  obtain ⟨n4, rfl⟩ := dec_s w4
  obtain ⟨c5, r5, e5, w5, h⟩ := wfl_cons h
  obtain ⟨n5, rfl⟩ := decC (enc := TDir.enc) ty_Dir (fun l _ y hy hw => dec_Dir hw) w5
  have hn := wfl_nil h
  refine ⟨⟨n0, n1, n2, ⟨n3, n4⟩, n5⟩, ?_⟩
  rw [TFieldDef.enc_eq]
  subst hn
  simp only [e0, e1, e2, e3, e4, e5]
theorem decS_FieldDef {c : DC} (h : WfC cfg.ty (.sl 158) c) : ∃ vs : List TFieldDef, c = .sl (vs.map TFieldDef.enc) := decC ty_FieldDef (fun l _ y hy hw => dec_FieldDef hw) h
theorem ty_EnumDef : cfg.ty 164 = some ⟨.struct, [.s, .s, .sl 152], 56, [(0, 1, false), (1, 1, false), (2, 1, false)], false⟩ := by kernel_rfl
theorem dec_EnumDef {x : List DC} (h0 : WfL cfg.ty [.s, .s, .sl 152] x) : ∃ v : TEnumDef, x = TEnumDef.enc v := by
  have h := h0
  obtain ⟨c0, r0, e0, w0, h⟩ := wfl_cons h
  obtain ⟨n0, rfl⟩ := dec_s w0
  obtain ⟨c1, r1, e1, w1, h⟩ := wfl_cons h
  obtain ⟨n1, rfl⟩ := dec_s w1
  obtain ⟨c2, r2, e2, w2, h⟩ := wfl_cons h
  obtain ⟨n2, rfl⟩ := decC (enc := TDir.enc) ty_Dir (fun l _ y hy hw => dec_Dir hw) w2
  have hn := wfl_nil h
  refine ⟨⟨n0, n1, n2⟩, ?_⟩
  rw [TEnumDef.enc_eq]
  subst hn
  simp only [e0, e1, e2]
theorem decS_EnumDef {c : DC} (h : WfC cfg.ty (.sl 164) c) : ∃ vs : List TEnumDef, c = .sl (vs.map TEnumDef.enc) := decC ty_EnumDef (fun l _ y hy hw => dec_EnumDef hw) h
theorem ty_Root : cfg.ty 166 = some ⟨.struct, [.i .i64, .s], 24, [(0, 1, false), (1, 1, false)], false⟩ := by kernel_rfl
theorem dec_Root {x : List DC} (h0 : WfL cfg.ty [.i .i64, .s] x) : ∃ v : TRoot, x = TRoot.enc v := by
  have h := h0
  obtain ⟨c0, r0, e0, w0, h⟩ := wfl_cons h
  obtain ⟨n0, rfl, _, _⟩ := dec_i w0
  obtain ⟨c1, r1, e1, w1, h⟩ := wfl_cons h
  obtain ⟨n1, rfl⟩ := dec_s w1
  have hn := wfl_nil h
  refine ⟨⟨n0, n1⟩, ?_⟩
  rw [TRoot.enc_eq]
  subst hn
  simp only [e0, e1]
theorem decS_Root {c : DC} (h : WfC cfg.ty (.sl 166) c) : ∃ vs : List TRoot, c = .sl (vs.map TRoot.enc) := decC ty_Root (fun l _ y hy hw => dec_Root hw) h
theorem ty_Def : cfg.ty 70 = some ⟨.struct, [.i .i64, .b, .s, .s, .sl 9, .sl 158, .sl 161, .sl 164, .sl 166, .b, .sl 152], 200, [(0, 1, false), (1, 1, false), (2, 1, false), (3, 1, false), (4, 1, false), (5, 1, false), (6, 1, false), (7, 1, false), (8, 1, false), (9, 1, false), (10, 1, false)], false⟩ := by kernel_rfl
theorem dec_Def {x : List DC} (h0 : WfL cfg.ty [.i .i64, .b, .s, .s, .sl 9, .sl 158, .sl 161, .sl 164, .sl 166, .b, .sl 152] x) : ∃ v : TDef, x = TDef.enc v := by
  have h := h0
  obtain ⟨c0, r0, e0, w0, h⟩ := wfl_cons h
  obtain ⟨n0, rfl, _, _⟩ := dec_i w0
  obtain ⟨c1, r1, e1, w1, h⟩ := wfl_cons h
  obtain ⟨n1, rfl⟩ := dec_b w1
  obtain ⟨c2, r2, e2, w2, h⟩ := wfl_cons h
  obtain ⟨n2, rfl⟩ := dec_s w2
  obtain ⟨c3, r3, e3, w3, h⟩ := wfl_cons h
  obtain ⟨n3, rfl⟩ := dec_s w3
  obtain ⟨c4, r4, e4, w4, h⟩ := wfl_cons h
  obtain ⟨n4, rfl⟩ := decC (enc := S1) tyS (fun l _ y hy hw => dec_S1 hw) w4
  obtain ⟨c5, r5, e5, w5, h⟩ := wfl_cons h
  obtain ⟨n5, rfl⟩ := decC (enc := TFieldDef.enc) ty_FieldDef (fun l _ y hy hw => dec_FieldDef hw) w5
  obtain ⟨c6, r6, e6, w6, h⟩ := wfl_cons h
  obtain ⟨n6, rfl⟩ := decC (enc := TInDef.enc) ty_InDef (fun l _ y hy hw => dec_InDef hw) w6
  obtain ⟨c7, r7, e7, w7, h⟩ := wfl_cons h
  obtain ⟨n7, rfl⟩ := decC (enc := TEnumDef.enc) ty_EnumDef (fun l _ y hy hw => dec_EnumDef hw) w7
  obtain ⟨c8, r8, e8, w8, h⟩ := wfl_cons h
  obtain ⟨n8, rfl⟩ := decC (enc := TRoot.enc) ty_Root (fun l _ y hy hw => dec_Root hw) w8
  obtain ⟨c9, r9, e9, w9, h⟩ := wfl_cons h
  obtain ⟨n9, rfl⟩ := dec_b w9
  obtain ⟨c10, r10, e10, w10, h⟩ := wfl_cons h
  obtain ⟨n10, rfl⟩ := decC (enc := TDir.enc) ty_Dir (fun l _ y hy hw => dec_Dir hw) w10
  have hn := wfl_nil h
  refine ⟨⟨n0, n1, n2, n3, n4, n5, n6, n7, n8, n9, n10⟩, ?_⟩
  rw [TDef.enc_eq]
  subst hn
  simp only [e0, e1, e2, e3, e4, e5, e6, e7, e8, e9, e10]
theorem decS_Def {c : DC} (h : WfC cfg.ty (.sl 70) c) : ∃ vs : List TDef, c = .sl (vs.map TDef.enc) := decC ty_Def (fun l _ y hy hw => dec_Def hw) h
theorem ty_Item : cfg.ty 72 = some ⟨.struct, [.i .i64, .i .i64, .s, .sl 148, .sl 152, .sl 155, .s, .s, .sl 152, .sl 155, .i .i64, .b, .s, .s, .sl 9, .sl 158, .sl 161, .sl 164, .sl 166, .b, .sl 152], 384, [(0, 1, false), (1, 5, true), (6, 4, true), (10, 11, true)], false⟩ := by kernel_rfl
theorem dec_Item {x : List DC} (h0 : WfL cfg.ty [.i .i64, .i .i64, .s, .sl 148, .sl 152, .sl 155, .s, .s, .sl 152, .sl 155, .i .i64, .b, .s, .s, .sl 9, .sl 158, .sl 161, .sl 164, .sl 166, .b, .sl 152] x) : ∃ v : TItem, x = TItem.enc v := by
  have h := h0
  obtain ⟨c0, r0, e0, w0, h⟩ := wfl_cons h
  obtain ⟨n0, rfl, _, _⟩ := dec_i w0
  obtain ⟨c1, r1, e1, w1, h⟩ := wfl_cons h
  obtain ⟨n1, rfl, _, _⟩ := dec_i w1
  obtain ⟨c2, r2, e2, w2, h⟩ := wfl_cons h
  obtain ⟨n2, rfl⟩ := dec_s w2
  obtain ⟨c3, r3, e3, w3, h⟩ := wfl_cons h
  obtain ⟨n3, rfl⟩ := decC (enc := TVarDef.enc) ty_VarDef (fun l _ y hy hw => dec_VarDef hw) w3
  obtain ⟨c4, r4, e4, w4, h⟩ := wfl_cons h
  obtain ⟨n4, rfl⟩ := decC (enc := TDir.enc) ty_Dir (fun l _ y hy hw => dec_Dir hw) w4
  obtain ⟨c5, r5, e5, w5, h⟩ := wfl_cons h
  obtain ⟨n5, rfl⟩ := decC (enc := TSel.enc) ty_Sel (fun l _ y hy hw => dec_Sel hw) w5
  obtain ⟨c6, r6, e6, w6, h⟩ := wfl_cons h
  obtain ⟨n6, rfl⟩ := dec_s w6
  obtain ⟨c7, r7, e7, w7, h⟩ := wfl_cons h
  obtain ⟨n7, rfl⟩ := dec_s w7
  obtain ⟨c8, r8, e8, w8, h⟩ := wfl_cons h
  obtain ⟨n8, rfl⟩ := decC (enc := TDir.enc) ty_Dir (fun l _ y hy hw => dec_Dir hw) w8
  obtain ⟨c9, r9, e9, w9, h⟩ := wfl_cons h
  obtain ⟨n9, rfl⟩ := decC (enc := TSel.enc) ty_Sel (fun l _ y hy hw => dec_Sel hw) w9
  obtain ⟨c10, r10, e10, w10, h⟩ := wfl_cons h
  obtain ⟨n10, rfl, _, _⟩ := dec_i w10
  obtain ⟨c11, r11, e11, w11, h⟩ := wfl_cons h
  obtain ⟨n11, rfl⟩ := dec_b w11
  obtain ⟨c12, r12, e12, w12, h⟩ := wfl_cons h
  obtain ⟨n12, rfl⟩ := dec_s w12
  obtain ⟨c13, r13, e13, w13, h⟩ := wfl_cons h
  obtain ⟨n13, rfl⟩ := dec_s w13
  obtain ⟨c14, r14, e14, w14, h⟩ := wfl_cons h
  obtain ⟨n14, rfl⟩ := decC (enc := S1) tyS (fun l _ y hy hw => dec_S1 hw) w14
  obtain ⟨c15, r15, e15, w15, h⟩ := wfl_cons h
  obtain ⟨n15, rfl⟩ := decC (enc := TFieldDef.enc) ty_FieldDef (fun l _ y hy hw => dec_FieldDef hw) w15
  obtain ⟨c16, r16, e16, w16, h⟩ := wfl_cons h
  obtain ⟨n16, rfl⟩ := decC (enc := TInDef.enc) ty_InDef (fun l _ y hy hw => dec_InDef hw) w16
  obtain ⟨c17, r17, e17, w17, h⟩ := wfl_cons h
  obtain ⟨n17, rfl⟩ := decC (enc := TEnumDef.enc) ty_EnumDef (fun l _ y hy hw => dec_EnumDef hw) w17
  obtain ⟨c18, r18, e18, w18, h⟩ := wfl_cons h
  obtain ⟨n18, rfl⟩ := decC (enc := TRoot.enc) ty_Root (fun l _ y hy hw => dec_Root hw) w18
  obtain ⟨c19, r19, e19, w19, h⟩ := wfl_cons h
  obtain ⟨n19, rfl⟩ := dec_b w19
  obtain ⟨c20, r20, e20, w20, h⟩ := wfl_cons h
  obtain ⟨n20, rfl⟩ := decC (enc := TDir.enc) ty_Dir (fun l _ y hy hw => dec_Dir hw) w20
  have hn := wfl_nil h
  refine ⟨⟨n0, ⟨n1, n2, n3, n4, n5⟩, ⟨n6, n7, n8, n9⟩, ⟨n10, n11, n12, n13, n14, n15, n16, n17, n18, n19, n20⟩⟩, ?_⟩
  rw [TItem.enc_eq]
  subst hn
  simp only [e0, e1, e2, e3, e4, e5, e6, e7, e8, e9, e10, e11, e12, e13, e14, e15, e16, e17, e18, e19, e20]
theorem decS_Item {c : DC} (h : WfC cfg.ty (.sl 72) c) : ∃ vs : List TItem, c = .sl (vs.map TItem.enc) := decC ty_Item (fun l _ y hy hw => dec_Item hw) h
theorem ty_Doc : cfg.ty 24 = some ⟨.struct, [.sl 72], 24, [(0, 1, false)], false⟩ := by kernel_rfl
theorem dec_Doc {x : List DC} (h0 : WfL cfg.ty [.sl 72] x) : ∃ v : TDoc, x = TDoc.enc v := by
  have h := h0
  obtain ⟨c0, r0, e0, w0, h⟩ := wfl_cons h
  obtain ⟨n0, rfl⟩ := decC (enc := TItem.enc) ty_Item (fun l _ y hy hw => dec_Item hw) w0
  have hn := wfl_nil h
  refine ⟨⟨n0⟩, ?_⟩
  rw [TDoc.enc_eq]
  subst hn
  simp only [e0]
theorem decS_Doc {c : DC} (h : WfC cfg.ty (.sl 24) c) : ∃ vs : List TDoc, c = .sl (vs.map TDoc.enc) := decC ty_Doc (fun l _ y hy hw => dec_Doc hw) h
end Go.Proofs.YtljggmbgbnmapaaGreatV
