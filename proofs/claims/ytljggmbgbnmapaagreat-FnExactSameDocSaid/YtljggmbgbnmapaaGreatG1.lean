/- What the functions do, and that they do (written by a program). -/
import Derived.Test.YtljggmbgbnmapaaGreatG0
namespace Go.Proofs.YtljggmbgbnmapaaGreatV
open Go
set_option linter.unusedVariables false
set_option maxRecDepth 100000
/-- loop.example/g00964/laws.FnExactSameDoc -/
noncomputable def E_laws_FnExactSameDoc (a : List DC) : Out :=
    (r_laws_szDoc [DC.sl ((a.getD 0 d0).ll), DC.i (1048576 : Int)]).bindR fun r1 =>
    if (decide ((r1.getD 0 d0).ii < (0 : Int))) = true then
      .ret [DC.b true]
    else
      (r_laws_szDoc [DC.sl ((a.getD 1 d0).ll), DC.i ((r1.getD 0 d0).ii)]).bindR fun r2 =>
      if (decide ((r2.getD 0 d0).ii < (0 : Int))) = true then
        .ret [DC.b true]
      else
        (r_laws_toDoc [DC.sl ((a.getD 0 d0).ll)]).bindR fun r3 =>
        (r_laws_toDoc [DC.sl ((a.getD 1 d0).ll)]).bindR fun r4 =>
        (r_spec_SameDoc [DC.sl ((r3.getD 0 d0).ll), DC.sl ((r4.getD 0 d0).ll)]).bindR fun r5 =>
        (r_laws_toDoc [DC.sl ((a.getD 0 d0).ll)]).bindR fun r6 =>
        (r_laws_toDoc [DC.sl ((a.getD 1 d0).ll)]).bindR fun r7 =>
        (r_impl_SameDoc [DC.sl ((r6.getD 0 d0).ll), DC.sl ((r7.getD 0 d0).ll)]).bindR fun r8 =>
        if (!((r8.getD 0 d0).bb == (r5.getD 0 d0).bb)) = true then
          .ret [DC.b false]
        else
          (r_laws_toDoc [DC.sl ((a.getD 0 d0).ll)]).bindR fun r9 =>
          (r_laws_eqDoc [DC.sl ((r6.getD 0 d0).ll), DC.sl ((r9.getD 0 d0).ll)]).bindR fun r10 =>
          if (!((r10.getD 0 d0).bb)) = true then
            .ret [DC.b false]
          else
            (r_laws_toDoc [DC.sl ((a.getD 1 d0).ll)]).bindR fun r11 =>
            (r_laws_eqDoc [DC.sl ((r7.getD 0 d0).ll), DC.sl ((r11.getD 0 d0).ll)]).bindR fun r12 =>
            if (!((r12.getD 0 d0).bb)) = true then
              .ret [DC.b false]
            else
              .ret [DC.b true]
theorem eq_laws_FnExactSameDoc (a : List DC) : r_laws_FnExactSameDoc a = E_laws_FnExactSameDoc a := (Run_eq cfg 3 h_laws_FnExactSameDoc a).trans (by kernel_rfl)
/-- loop.example/g00964/laws.szDoc -/
noncomputable def E_laws_szDoc (a : List DC) : Out :=
    (r_laws_szItemS [DC.sl ((a.getD 0 d0).ll), DC.i ((a.getD 1 d0).ii)]).bindR fun r1 =>
    if (decide ((r1.getD 0 d0).ii < (0 : Int))) = true then
      .ret [DC.i (-1 : Int)]
    else
      .ret [DC.i ((r1.getD 0 d0).ii)]
theorem eq_laws_szDoc (a : List DC) : r_laws_szDoc a = E_laws_szDoc a := (Run_eq cfg 4 h_laws_szDoc a).trans (by kernel_rfl)
/-- loop.example/g00964/laws.toDoc -/
noncomputable def E_laws_toDoc (a : List DC) : Out :=
    (r_laws_toItemS [DC.sl ((a.getD 0 d0).ll)]).bindR fun r1 =>
    .ret [DC.sl ((r1.getD 0 d0).ll)]
theorem eq_laws_toDoc (a : List DC) : r_laws_toDoc a = E_laws_toDoc a := (Run_eq cfg 6 h_laws_toDoc a).trans (by kernel_rfl)
noncomputable def E_spec_SameDocL1 : List DC → Out := fun v1 =>
    if (decide ((v1.getD 0 d0).ii < (((v1.getD 1 d0).ll).length : Int))) = true then
      Out.andThenB (if 48 = 48 ∧ 0 ≤ (v1.getD 0 d0).ii ∧ (v1.getD 0 d0).ii < (((v1.getD 1 d0).ll).length : Int) then
          if 48 = 48 ∧ 0 ≤ (v1.getD 0 d0).ii ∧ (v1.getD 0 d0).ii < (((v1.getD 2 d0).ll).length : Int) then
            Out.andThen (if (((((v1.getD 1 d0).ll).getD ((v1.getD 0 d0).ii).toNat []).getD 0 d0).ii != ((((v1.getD 2 d0).ll).getD ((v1.getD 0 d0).ii).toNat []).getD 0 d0).ii) = true then
                .norm [DC.i ((v1.getD 0 d0).ii), DC.b true, DC.sl ((v1.getD 1 d0).ll), DC.sl ((v1.getD 2 d0).ll)]
              else
                (r_spec_l14SameOp [DC.i (((((v1.getD 1 d0).ll).getD ((v1.getD 0 d0).ii).toNat []).getD 1 d0).ii), DC.s (((((v1.getD 1 d0).ll).getD ((v1.getD 0 d0).ii).toNat []).getD 2 d0).ss), DC.sl (((((v1.getD 1 d0).ll).getD ((v1.getD 0 d0).ii).toNat []).getD 3 d0).ll), DC.sl (((((v1.getD 1 d0).ll).getD ((v1.getD 0 d0).ii).toNat []).getD 4 d0).ll), DC.sl (((((v1.getD 1 d0).ll).getD ((v1.getD 0 d0).ii).toNat []).getD 5 d0).ll), DC.i (((((v1.getD 2 d0).ll).getD ((v1.getD 0 d0).ii).toNat []).getD 1 d0).ii), DC.s (((((v1.getD 2 d0).ll).getD ((v1.getD 0 d0).ii).toNat []).getD 2 d0).ss), DC.sl (((((v1.getD 2 d0).ll).getD ((v1.getD 0 d0).ii).toNat []).getD 3 d0).ll), DC.sl (((((v1.getD 2 d0).ll).getD ((v1.getD 0 d0).ii).toNat []).getD 4 d0).ll), DC.sl (((((v1.getD 2 d0).ll).getD ((v1.getD 0 d0).ii).toNat []).getD 5 d0).ll)]).bindR fun r2 =>
                if (!((r2.getD 0 d0).bb)) = true then
                  .norm [DC.i ((v1.getD 0 d0).ii), DC.b true, DC.sl ((v1.getD 1 d0).ll), DC.sl ((v1.getD 2 d0).ll)]
                else
                  if (!(((((v1.getD 1 d0).ll).getD ((v1.getD 0 d0).ii).toNat []).getD 6 d0).ss == ((((v1.getD 2 d0).ll).getD ((v1.getD 0 d0).ii).toNat []).getD 6 d0).ss)) = true then
                    .norm [DC.i ((v1.getD 0 d0).ii), DC.b true, DC.sl ((v1.getD 1 d0).ll), DC.sl ((v1.getD 2 d0).ll)]
                  else
                    if (!(((((v1.getD 1 d0).ll).getD ((v1.getD 0 d0).ii).toNat []).getD 7 d0).ss == ((((v1.getD 2 d0).ll).getD ((v1.getD 0 d0).ii).toNat []).getD 7 d0).ss)) = true then
                      .norm [DC.i ((v1.getD 0 d0).ii), DC.b true, DC.sl ((v1.getD 1 d0).ll), DC.sl ((v1.getD 2 d0).ll)]
                    else
                      (r_spec_l10SameDirs [DC.sl (((((v1.getD 1 d0).ll).getD ((v1.getD 0 d0).ii).toNat []).getD 8 d0).ll), DC.sl (((((v1.getD 2 d0).ll).getD ((v1.getD 0 d0).ii).toNat []).getD 8 d0).ll)]).bindR fun r3 =>
                      if (!((r3.getD 0 d0).bb)) = true then
                        .norm [DC.i ((v1.getD 0 d0).ii), DC.b true, DC.sl ((v1.getD 1 d0).ll), DC.sl ((v1.getD 2 d0).ll)]
                      else
                        (r_spec_l11Same [DC.sl (((((v1.getD 1 d0).ll).getD ((v1.getD 0 d0).ii).toNat []).getD 9 d0).ll), DC.sl (((((v1.getD 2 d0).ll).getD ((v1.getD 0 d0).ii).toNat []).getD 9 d0).ll)]).bindR fun r4 =>
                        if (!((r4.getD 0 d0).bb)) = true then
                          .norm [DC.i ((v1.getD 0 d0).ii), DC.b true, DC.sl ((v1.getD 1 d0).ll), DC.sl ((v1.getD 2 d0).ll)]
                        else
                          (r_spec_l14SameDef [DC.i (((((v1.getD 1 d0).ll).getD ((v1.getD 0 d0).ii).toNat []).getD 10 d0).ii), DC.b (((((v1.getD 1 d0).ll).getD ((v1.getD 0 d0).ii).toNat []).getD 11 d0).bb), DC.s (((((v1.getD 1 d0).ll).getD ((v1.getD 0 d0).ii).toNat []).getD 12 d0).ss), DC.s (((((v1.getD 1 d0).ll).getD ((v1.getD 0 d0).ii).toNat []).getD 13 d0).ss), DC.sl (((((v1.getD 1 d0).ll).getD ((v1.getD 0 d0).ii).toNat []).getD 14 d0).ll), DC.sl (((((v1.getD 1 d0).ll).getD ((v1.getD 0 d0).ii).toNat []).getD 15 d0).ll), DC.sl (((((v1.getD 1 d0).ll).getD ((v1.getD 0 d0).ii).toNat []).getD 16 d0).ll), DC.sl (((((v1.getD 1 d0).ll).getD ((v1.getD 0 d0).ii).toNat []).getD 17 d0).ll), DC.sl (((((v1.getD 1 d0).ll).getD ((v1.getD 0 d0).ii).toNat []).getD 18 d0).ll), DC.b (((((v1.getD 1 d0).ll).getD ((v1.getD 0 d0).ii).toNat []).getD 19 d0).bb), DC.sl (((((v1.getD 1 d0).ll).getD ((v1.getD 0 d0).ii).toNat []).getD 20 d0).ll), DC.i (((((v1.getD 2 d0).ll).getD ((v1.getD 0 d0).ii).toNat []).getD 10 d0).ii), DC.b (((((v1.getD 2 d0).ll).getD ((v1.getD 0 d0).ii).toNat []).getD 11 d0).bb), DC.s (((((v1.getD 2 d0).ll).getD ((v1.getD 0 d0).ii).toNat []).getD 12 d0).ss), DC.s (((((v1.getD 2 d0).ll).getD ((v1.getD 0 d0).ii).toNat []).getD 13 d0).ss), DC.sl (((((v1.getD 2 d0).ll).getD ((v1.getD 0 d0).ii).toNat []).getD 14 d0).ll), DC.sl (((((v1.getD 2 d0).ll).getD ((v1.getD 0 d0).ii).toNat []).getD 15 d0).ll), DC.sl (((((v1.getD 2 d0).ll).getD ((v1.getD 0 d0).ii).toNat []).getD 16 d0).ll), DC.sl (((((v1.getD 2 d0).ll).getD ((v1.getD 0 d0).ii).toNat []).getD 17 d0).ll), DC.sl (((((v1.getD 2 d0).ll).getD ((v1.getD 0 d0).ii).toNat []).getD 18 d0).ll), DC.b (((((v1.getD 2 d0).ll).getD ((v1.getD 0 d0).ii).toNat []).getD 19 d0).bb), DC.sl (((((v1.getD 2 d0).ll).getD ((v1.getD 0 d0).ii).toNat []).getD 20 d0).ll)]).bindR fun r5 =>
                          .norm [DC.i ((v1.getD 0 d0).ii), DC.b (!((r5.getD 0 d0).bb)), DC.sl ((v1.getD 1 d0).ll), DC.sl ((v1.getD 2 d0).ll)]) fun v6 =>
            if (v6.getD 1 d0).bb = true then
              .ret [DC.b false]
            else
              .norm [DC.i ((v6.getD 0 d0).ii), DC.sl ((v6.getD 2 d0).ll), DC.sl ((v6.getD 3 d0).ll)]
          else
            .fail
        else
          .fail) 1 fun v7 =>
      .norm [DC.i (IntKind.i64.wrap ((v7.getD 0 d0).ii + (1 : Int))), DC.sl ((v7.getD 1 d0).ll), DC.sl ((v7.getD 2 d0).ll)]
    else
      .ex 0 []
/-- loop.example/g00964/spec.SameDoc -/
noncomputable def E_spec_SameDoc (a : List DC) : Out :=
    if ((((a.getD 0 d0).ll).length : Int) != (((a.getD 1 d0).ll).length : Int)) = true then
      .ret [DC.b false]
    else
      Out.andThenB (Loop E_spec_SameDocL1 [DC.i (0 : Int), DC.sl ((a.getD 0 d0).ll), DC.sl ((a.getD 1 d0).ll)]) 0 fun v8 =>
      .ret [DC.b true]
theorem eq_spec_SameDoc (a : List DC) : r_spec_SameDoc a = E_spec_SameDoc a := (Run_eq cfg 5 h_spec_SameDoc a).trans (by kernel_rfl)
/-- loop.example/g00964/impl.SameDoc -/
noncomputable def E_impl_SameDoc (a : List DC) : Out :=
    (r_slices_EqualFunc_impl_Item__impl_sameItem [DC.sl ((a.getD 0 d0).ll), DC.sl ((a.getD 1 d0).ll)]).bindR fun r1 =>
    .ret [DC.b ((r1.getD 0 d0).bb)]
theorem eq_impl_SameDoc (a : List DC) : r_impl_SameDoc a = E_impl_SameDoc a := (Run_eq cfg 7 h_impl_SameDoc a).trans (by kernel_rfl)
/-- loop.example/g00964/laws.eqDoc -/
noncomputable def E_laws_eqDoc (a : List DC) : Out :=
    (r_laws_eqItemS [DC.sl ((a.getD 0 d0).ll), DC.sl ((a.getD 1 d0).ll)]).bindR fun r1 =>
    if (!((r1.getD 0 d0).bb)) = true then
      .ret [DC.b false]
    else
      .ret [DC.b true]
theorem eq_laws_eqDoc (a : List DC) : r_laws_eqDoc a = E_laws_eqDoc a := (Run_eq cfg 8 h_laws_eqDoc a).trans (by kernel_rfl)
noncomputable def E_laws_szItemSL1 : List DC → Out := fun v1 =>
    if (decide ((v1.getD 2 d0).ii < (((v1.getD 0 d0).ll).length : Int))) = true then
      Out.andThenB (if 72 = 72 ∧ 0 ≤ (v1.getD 2 d0).ii ∧ (v1.getD 2 d0).ii < (((v1.getD 0 d0).ll).length : Int) then
          (r_laws_szItem [DC.i (((((v1.getD 0 d0).ll).getD ((v1.getD 2 d0).ii).toNat []).getD 0 d0).ii), DC.i (((((v1.getD 0 d0).ll).getD ((v1.getD 2 d0).ii).toNat []).getD 1 d0).ii), DC.s (((((v1.getD 0 d0).ll).getD ((v1.getD 2 d0).ii).toNat []).getD 2 d0).ss), DC.sl (((((v1.getD 0 d0).ll).getD ((v1.getD 2 d0).ii).toNat []).getD 3 d0).ll), DC.sl (((((v1.getD 0 d0).ll).getD ((v1.getD 2 d0).ii).toNat []).getD 4 d0).ll), DC.sl (((((v1.getD 0 d0).ll).getD ((v1.getD 2 d0).ii).toNat []).getD 5 d0).ll), DC.s (((((v1.getD 0 d0).ll).getD ((v1.getD 2 d0).ii).toNat []).getD 6 d0).ss), DC.s (((((v1.getD 0 d0).ll).getD ((v1.getD 2 d0).ii).toNat []).getD 7 d0).ss), DC.sl (((((v1.getD 0 d0).ll).getD ((v1.getD 2 d0).ii).toNat []).getD 8 d0).ll), DC.sl (((((v1.getD 0 d0).ll).getD ((v1.getD 2 d0).ii).toNat []).getD 9 d0).ll), DC.i (((((v1.getD 0 d0).ll).getD ((v1.getD 2 d0).ii).toNat []).getD 10 d0).ii), DC.b (((((v1.getD 0 d0).ll).getD ((v1.getD 2 d0).ii).toNat []).getD 11 d0).bb), DC.s (((((v1.getD 0 d0).ll).getD ((v1.getD 2 d0).ii).toNat []).getD 12 d0).ss), DC.s (((((v1.getD 0 d0).ll).getD ((v1.getD 2 d0).ii).toNat []).getD 13 d0).ss), DC.sl (((((v1.getD 0 d0).ll).getD ((v1.getD 2 d0).ii).toNat []).getD 14 d0).ll), DC.sl (((((v1.getD 0 d0).ll).getD ((v1.getD 2 d0).ii).toNat []).getD 15 d0).ll), DC.sl (((((v1.getD 0 d0).ll).getD ((v1.getD 2 d0).ii).toNat []).getD 16 d0).ll), DC.sl (((((v1.getD 0 d0).ll).getD ((v1.getD 2 d0).ii).toNat []).getD 17 d0).ll), DC.sl (((((v1.getD 0 d0).ll).getD ((v1.getD 2 d0).ii).toNat []).getD 18 d0).ll), DC.b (((((v1.getD 0 d0).ll).getD ((v1.getD 2 d0).ii).toNat []).getD 19 d0).bb), DC.sl (((((v1.getD 0 d0).ll).getD ((v1.getD 2 d0).ii).toNat []).getD 20 d0).ll), DC.i ((v1.getD 1 d0).ii)]).bindR fun r2 =>
          if (decide ((r2.getD 0 d0).ii < (0 : Int))) = true then
            .ret [DC.i (-1 : Int)]
          else
            .norm [DC.sl ((v1.getD 0 d0).ll), DC.i ((r2.getD 0 d0).ii), DC.i ((v1.getD 2 d0).ii)]
        else
          .fail) 1 fun v3 =>
      .norm [DC.sl ((v3.getD 0 d0).ll), DC.i ((v3.getD 1 d0).ii), DC.i (IntKind.i64.wrap ((v3.getD 2 d0).ii + (1 : Int)))]
    else
      .ex 0 [DC.i ((v1.getD 1 d0).ii)]
/-- loop.example/g00964/laws.szItemS -/
noncomputable def E_laws_szItemS (a : List DC) : Out :=
    if (decide ((IntKind.i64.wrap ((a.getD 1 d0).ii - (((a.getD 0 d0).ll).length : Int))) < (0 : Int))) = true then
      .ret [DC.i (-1 : Int)]
    else
      Out.andThenB (Loop E_laws_szItemSL1 [DC.sl ((a.getD 0 d0).ll), DC.i (IntKind.i64.wrap ((a.getD 1 d0).ii - (((a.getD 0 d0).ll).length : Int))), DC.i (0 : Int)]) 0 fun v4 =>
      .ret [DC.i ((v4.getD 0 d0).ii)]
theorem eq_laws_szItemS (a : List DC) : r_laws_szItemS a = E_laws_szItemS a := (Run_eq cfg 9 h_laws_szItemS a).trans (by kernel_rfl)
noncomputable def E_laws_toItemSL1 : List DC → Out := fun v1 =>
    if (decide ((v1.getD 2 d0).ii < (((v1.getD 0 d0).ll).length : Int))) = true then
      Out.andThenB (if 72 = 72 ∧ 0 ≤ (v1.getD 2 d0).ii ∧ (v1.getD 2 d0).ii < (((v1.getD 0 d0).ll).length : Int) then
          (r_laws_toItem [DC.i (((((v1.getD 0 d0).ll).getD ((v1.getD 2 d0).ii).toNat []).getD 0 d0).ii), DC.i (((((v1.getD 0 d0).ll).getD ((v1.getD 2 d0).ii).toNat []).getD 1 d0).ii), DC.s (((((v1.getD 0 d0).ll).getD ((v1.getD 2 d0).ii).toNat []).getD 2 d0).ss), DC.sl (((((v1.getD 0 d0).ll).getD ((v1.getD 2 d0).ii).toNat []).getD 3 d0).ll), DC.sl (((((v1.getD 0 d0).ll).getD ((v1.getD 2 d0).ii).toNat []).getD 4 d0).ll), DC.sl (((((v1.getD 0 d0).ll).getD ((v1.getD 2 d0).ii).toNat []).getD 5 d0).ll), DC.s (((((v1.getD 0 d0).ll).getD ((v1.getD 2 d0).ii).toNat []).getD 6 d0).ss), DC.s (((((v1.getD 0 d0).ll).getD ((v1.getD 2 d0).ii).toNat []).getD 7 d0).ss), DC.sl (((((v1.getD 0 d0).ll).getD ((v1.getD 2 d0).ii).toNat []).getD 8 d0).ll), DC.sl (((((v1.getD 0 d0).ll).getD ((v1.getD 2 d0).ii).toNat []).getD 9 d0).ll), DC.i (((((v1.getD 0 d0).ll).getD ((v1.getD 2 d0).ii).toNat []).getD 10 d0).ii), DC.b (((((v1.getD 0 d0).ll).getD ((v1.getD 2 d0).ii).toNat []).getD 11 d0).bb), DC.s (((((v1.getD 0 d0).ll).getD ((v1.getD 2 d0).ii).toNat []).getD 12 d0).ss), DC.s (((((v1.getD 0 d0).ll).getD ((v1.getD 2 d0).ii).toNat []).getD 13 d0).ss), DC.sl (((((v1.getD 0 d0).ll).getD ((v1.getD 2 d0).ii).toNat []).getD 14 d0).ll), DC.sl (((((v1.getD 0 d0).ll).getD ((v1.getD 2 d0).ii).toNat []).getD 15 d0).ll), DC.sl (((((v1.getD 0 d0).ll).getD ((v1.getD 2 d0).ii).toNat []).getD 16 d0).ll), DC.sl (((((v1.getD 0 d0).ll).getD ((v1.getD 2 d0).ii).toNat []).getD 17 d0).ll), DC.sl (((((v1.getD 0 d0).ll).getD ((v1.getD 2 d0).ii).toNat []).getD 18 d0).ll), DC.b (((((v1.getD 0 d0).ll).getD ((v1.getD 2 d0).ii).toNat []).getD 19 d0).bb), DC.sl (((((v1.getD 0 d0).ll).getD ((v1.getD 2 d0).ii).toNat []).getD 20 d0).ll)]).bindR fun r2 =>
          if 48 = 48 ∧ 0 ≤ (v1.getD 2 d0).ii ∧ (v1.getD 2 d0).ii < (((v1.getD 1 d0).ll).length : Int) then
            .norm [DC.sl ((v1.getD 0 d0).ll), DC.sl (((v1.getD 1 d0).ll).set (((v1.getD 2 d0).ii).toNat) (setRunD (((v1.getD 1 d0).ll).getD (((v1.getD 2 d0).ii).toNat) []) 0 [DC.i ((r2.getD 0 d0).ii), DC.i ((r2.getD 1 d0).ii), DC.s ((r2.getD 2 d0).ss), DC.sl ((r2.getD 3 d0).ll), DC.sl ((r2.getD 4 d0).ll), DC.sl ((r2.getD 5 d0).ll), DC.s ((r2.getD 6 d0).ss), DC.s ((r2.getD 7 d0).ss), DC.sl ((r2.getD 8 d0).ll), DC.sl ((r2.getD 9 d0).ll), DC.i ((r2.getD 10 d0).ii), DC.b ((r2.getD 11 d0).bb), DC.s ((r2.getD 12 d0).ss), DC.s ((r2.getD 13 d0).ss), DC.sl ((r2.getD 14 d0).ll), DC.sl ((r2.getD 15 d0).ll), DC.sl ((r2.getD 16 d0).ll), DC.sl ((r2.getD 17 d0).ll), DC.sl ((r2.getD 18 d0).ll), DC.b ((r2.getD 19 d0).bb), DC.sl ((r2.getD 20 d0).ll)])), DC.i ((v1.getD 2 d0).ii)]
          else
            .fail
        else
          .fail) 1 fun v3 =>
      .norm [DC.sl ((v3.getD 0 d0).ll), DC.sl ((v3.getD 1 d0).ll), DC.i (IntKind.i64.wrap ((v3.getD 2 d0).ii + (1 : Int)))]
    else
      .ex 0 [DC.sl ((v1.getD 1 d0).ll)]
/-- loop.example/g00964/laws.toItemS -/
noncomputable def E_laws_toItemS (a : List DC) : Out :=
    if 0 ≤ (((a.getD 0 d0).ll).length : Int) ∧ (((a.getD 0 d0).ll).length : Int) < (LIM : Int) ∧ (((a.getD 0 d0).ll).length : Int) = (((a.getD 0 d0).ll).length : Int) ∧ 384 ≤ 1024 ∧ 0 < 21 then
      Out.andThenB (Loop E_laws_toItemSL1 [DC.sl ((a.getD 0 d0).ll), DC.sl (List.replicate (((a.getD 0 d0).ll).length : Int).toNat [DC.i 0, DC.i 0, DC.s [], DC.sl [], DC.sl [], DC.sl [], DC.s [], DC.s [], DC.sl [], DC.sl [], DC.i 0, DC.b false, DC.s [], DC.s [], DC.sl [], DC.sl [], DC.sl [], DC.sl [], DC.sl [], DC.b false, DC.sl []]), DC.i (0 : Int)]) 0 fun v4 =>
      .ret [DC.sl ((v4.getD 0 d0).ll)]
    else
      .fail
theorem eq_laws_toItemS (a : List DC) : r_laws_toItemS a = E_laws_toItemS a := (Run_eq cfg 14 h_laws_toItemS a).trans (by kernel_rfl)
noncomputable def E_spec_l14SameOpL1 : List DC → Out := fun v4 =>
    if (decide ((v4.getD 0 d0).ii < (((v4.getD 3 d0).ll).length : Int))) = true then
      Out.andThenB (if 79 = 79 ∧ 0 ≤ (v4.getD 0 d0).ii ∧ (v4.getD 0 d0).ii < (((v4.getD 3 d0).ll).length : Int) then
          if 79 = 79 ∧ 0 ≤ (v4.getD 0 d0).ii ∧ (v4.getD 0 d0).ii < (((v4.getD 8 d0).ll).length : Int) then
            Out.andThen (if (!(((((v4.getD 3 d0).ll).getD ((v4.getD 0 d0).ii).toNat []).getD 0 d0).ss == ((((v4.getD 8 d0).ll).getD ((v4.getD 0 d0).ii).toNat []).getD 0 d0).ss)) = true then
                .norm [DC.i ((v4.getD 0 d0).ii), DC.b true, DC.i ((v4.getD 1 d0).ii), DC.s ((v4.getD 2 d0).ss), DC.sl ((v4.getD 3 d0).ll), DC.sl ((v4.getD 4 d0).ll), DC.sl ((v4.getD 5 d0).ll), DC.i ((v4.getD 6 d0).ii), DC.s ((v4.getD 7 d0).ss), DC.sl ((v4.getD 8 d0).ll), DC.sl ((v4.getD 9 d0).ll), DC.sl ((v4.getD 10 d0).ll)]
              else
                if (!((((((v4.getD 3 d0).ll).getD ((v4.getD 0 d0).ii).toNat []).getD 1 d0).ss == ((((v4.getD 8 d0).ll).getD ((v4.getD 0 d0).ii).toNat []).getD 1 d0).ss) && ((((((v4.getD 3 d0).ll).getD ((v4.getD 0 d0).ii).toNat []).getD 2 d0).ss == ((((v4.getD 8 d0).ll).getD ((v4.getD 0 d0).ii).toNat []).getD 2 d0).ss) && true))) = true then
                  .norm [DC.i ((v4.getD 0 d0).ii), DC.b true, DC.i ((v4.getD 1 d0).ii), DC.s ((v4.getD 2 d0).ss), DC.sl ((v4.getD 3 d0).ll), DC.sl ((v4.getD 4 d0).ll), DC.sl ((v4.getD 5 d0).ll), DC.i ((v4.getD 6 d0).ii), DC.s ((v4.getD 7 d0).ss), DC.sl ((v4.getD 8 d0).ll), DC.sl ((v4.getD 9 d0).ll), DC.sl ((v4.getD 10 d0).ll)]
                else
                  if (!(((((v4.getD 3 d0).ll).getD ((v4.getD 0 d0).ii).toNat []).getD 3 d0).bb == ((((v4.getD 8 d0).ll).getD ((v4.getD 0 d0).ii).toNat []).getD 3 d0).bb)) = true then
                    .norm [DC.i ((v4.getD 0 d0).ii), DC.b true, DC.i ((v4.getD 1 d0).ii), DC.s ((v4.getD 2 d0).ss), DC.sl ((v4.getD 3 d0).ll), DC.sl ((v4.getD 4 d0).ll), DC.sl ((v4.getD 5 d0).ll), DC.i ((v4.getD 6 d0).ii), DC.s ((v4.getD 7 d0).ss), DC.sl ((v4.getD 8 d0).ll), DC.sl ((v4.getD 9 d0).ll), DC.sl ((v4.getD 10 d0).ll)]
                  else
                    (r_spec_SameValue [DC.i (((((v4.getD 3 d0).ll).getD ((v4.getD 0 d0).ii).toNat []).getD 4 d0).ii), DC.s (((((v4.getD 3 d0).ll).getD ((v4.getD 0 d0).ii).toNat []).getD 5 d0).ss), DC.sl (((((v4.getD 3 d0).ll).getD ((v4.getD 0 d0).ii).toNat []).getD 6 d0).ll), DC.sl (((((v4.getD 3 d0).ll).getD ((v4.getD 0 d0).ii).toNat []).getD 7 d0).ll), DC.i (((((v4.getD 8 d0).ll).getD ((v4.getD 0 d0).ii).toNat []).getD 4 d0).ii), DC.s (((((v4.getD 8 d0).ll).getD ((v4.getD 0 d0).ii).toNat []).getD 5 d0).ss), DC.sl (((((v4.getD 8 d0).ll).getD ((v4.getD 0 d0).ii).toNat []).getD 6 d0).ll), DC.sl (((((v4.getD 8 d0).ll).getD ((v4.getD 0 d0).ii).toNat []).getD 7 d0).ll)]).bindR fun r5 =>
                    if (!((r5.getD 0 d0).bb)) = true then
                      .norm [DC.i ((v4.getD 0 d0).ii), DC.b true, DC.i ((v4.getD 1 d0).ii), DC.s ((v4.getD 2 d0).ss), DC.sl ((v4.getD 3 d0).ll), DC.sl ((v4.getD 4 d0).ll), DC.sl ((v4.getD 5 d0).ll), DC.i ((v4.getD 6 d0).ii), DC.s ((v4.getD 7 d0).ss), DC.sl ((v4.getD 8 d0).ll), DC.sl ((v4.getD 9 d0).ll), DC.sl ((v4.getD 10 d0).ll)]
                    else
                      (r_spec_l10SameDirs [DC.sl (((((v4.getD 3 d0).ll).getD ((v4.getD 0 d0).ii).toNat []).getD 8 d0).ll), DC.sl (((((v4.getD 8 d0).ll).getD ((v4.getD 0 d0).ii).toNat []).getD 8 d0).ll)]).bindR fun r6 =>
                      .norm [DC.i ((v4.getD 0 d0).ii), DC.b (!((r6.getD 0 d0).bb)), DC.i ((v4.getD 1 d0).ii), DC.s ((v4.getD 2 d0).ss), DC.sl ((v4.getD 3 d0).ll), DC.sl ((v4.getD 4 d0).ll), DC.sl ((v4.getD 5 d0).ll), DC.i ((v4.getD 6 d0).ii), DC.s ((v4.getD 7 d0).ss), DC.sl ((v4.getD 8 d0).ll), DC.sl ((v4.getD 9 d0).ll), DC.sl ((v4.getD 10 d0).ll)]) fun v7 =>
            if (v7.getD 1 d0).bb = true then
              .ret [DC.b false]
            else
              .norm [DC.i ((v7.getD 0 d0).ii), DC.i ((v7.getD 2 d0).ii), DC.s ((v7.getD 3 d0).ss), DC.sl ((v7.getD 4 d0).ll), DC.sl ((v7.getD 5 d0).ll), DC.sl ((v7.getD 6 d0).ll), DC.i ((v7.getD 7 d0).ii), DC.s ((v7.getD 8 d0).ss), DC.sl ((v7.getD 9 d0).ll), DC.sl ((v7.getD 10 d0).ll), DC.sl ((v7.getD 11 d0).ll)]
          else
            .fail
        else
          .fail) 1 fun v8 =>
      .norm [DC.i (IntKind.i64.wrap ((v8.getD 0 d0).ii + (1 : Int))), DC.i ((v8.getD 1 d0).ii), DC.s ((v8.getD 2 d0).ss), DC.sl ((v8.getD 3 d0).ll), DC.sl ((v8.getD 4 d0).ll), DC.sl ((v8.getD 5 d0).ll), DC.i ((v8.getD 6 d0).ii), DC.s ((v8.getD 7 d0).ss), DC.sl ((v8.getD 8 d0).ll), DC.sl ((v8.getD 9 d0).ll), DC.sl ((v8.getD 10 d0).ll)]
    else
      .ex 0 []
/-- loop.example/g00964/spec.l14SameOp -/
noncomputable def E_spec_l14SameOp (a : List DC) : Out :=
    Out.andThen (if ((a.getD 0 d0).ii != (a.getD 5 d0).ii) = true then
        .norm [DC.b true, DC.i ((a.getD 0 d0).ii), DC.s ((a.getD 1 d0).ss), DC.sl ((a.getD 2 d0).ll), DC.sl ((a.getD 3 d0).ll), DC.sl ((a.getD 4 d0).ll), DC.i ((a.getD 5 d0).ii), DC.s ((a.getD 6 d0).ss), DC.sl ((a.getD 7 d0).ll), DC.sl ((a.getD 8 d0).ll), DC.sl ((a.getD 9 d0).ll)]
      else
        if (!((a.getD 1 d0).ss == (a.getD 6 d0).ss)) = true then
          .norm [DC.b true, DC.i ((a.getD 0 d0).ii), DC.s ((a.getD 1 d0).ss), DC.sl ((a.getD 2 d0).ll), DC.sl ((a.getD 3 d0).ll), DC.sl ((a.getD 4 d0).ll), DC.i ((a.getD 5 d0).ii), DC.s ((a.getD 6 d0).ss), DC.sl ((a.getD 7 d0).ll), DC.sl ((a.getD 8 d0).ll), DC.sl ((a.getD 9 d0).ll)]
        else
          if ((((a.getD 2 d0).ll).length : Int) != (((a.getD 7 d0).ll).length : Int)) = true then
            .norm [DC.b true, DC.i ((a.getD 0 d0).ii), DC.s ((a.getD 1 d0).ss), DC.sl ((a.getD 2 d0).ll), DC.sl ((a.getD 3 d0).ll), DC.sl ((a.getD 4 d0).ll), DC.i ((a.getD 5 d0).ii), DC.s ((a.getD 6 d0).ss), DC.sl ((a.getD 7 d0).ll), DC.sl ((a.getD 8 d0).ll), DC.sl ((a.getD 9 d0).ll)]
          else
            (r_spec_l10SameDirs [DC.sl ((a.getD 3 d0).ll), DC.sl ((a.getD 8 d0).ll)]).bindR fun r1 =>
            if (!((r1.getD 0 d0).bb)) = true then
              .norm [DC.b true, DC.i ((a.getD 0 d0).ii), DC.s ((a.getD 1 d0).ss), DC.sl ((a.getD 2 d0).ll), DC.sl ((a.getD 3 d0).ll), DC.sl ((a.getD 4 d0).ll), DC.i ((a.getD 5 d0).ii), DC.s ((a.getD 6 d0).ss), DC.sl ((a.getD 7 d0).ll), DC.sl ((a.getD 8 d0).ll), DC.sl ((a.getD 9 d0).ll)]
            else
              (r_spec_l11Same [DC.sl ((a.getD 4 d0).ll), DC.sl ((a.getD 9 d0).ll)]).bindR fun r2 =>
              .norm [DC.b (!((r2.getD 0 d0).bb)), DC.i ((a.getD 0 d0).ii), DC.s ((a.getD 1 d0).ss), DC.sl ((a.getD 2 d0).ll), DC.sl ((a.getD 3 d0).ll), DC.sl ((a.getD 4 d0).ll), DC.i ((a.getD 5 d0).ii), DC.s ((a.getD 6 d0).ss), DC.sl ((a.getD 7 d0).ll), DC.sl ((a.getD 8 d0).ll), DC.sl ((a.getD 9 d0).ll)]) fun v3 =>
    if (v3.getD 0 d0).bb = true then
      .ret [DC.b false]
    else
      Out.andThenB (Loop E_spec_l14SameOpL1 [DC.i (0 : Int), DC.i ((v3.getD 1 d0).ii), DC.s ((v3.getD 2 d0).ss), DC.sl ((v3.getD 3 d0).ll), DC.sl ((v3.getD 4 d0).ll), DC.sl ((v3.getD 5 d0).ll), DC.i ((v3.getD 6 d0).ii), DC.s ((v3.getD 7 d0).ss), DC.sl ((v3.getD 8 d0).ll), DC.sl ((v3.getD 9 d0).ll), DC.sl ((v3.getD 10 d0).ll)]) 0 fun v9 =>
      .ret [DC.b true]
theorem eq_spec_l14SameOp (a : List DC) : r_spec_l14SameOp a = E_spec_l14SameOp a := (Run_eq cfg 10 h_spec_l14SameOp a).trans (by kernel_rfl)
noncomputable def E_spec_l10SameDirsL1 : List DC → Out := fun v1 =>
    Out.andThen (if (decide ((v1.getD 2 d0).ii < (((v1.getD 0 d0).ll).length : Int))) = true then
        .norm [DC.sl ((v1.getD 0 d0).ll), DC.sl ((v1.getD 1 d0).ll), DC.i ((v1.getD 2 d0).ii), DC.b (decide ((v1.getD 2 d0).ii < (((v1.getD 1 d0).ll).length : Int)))]
      else
        .norm [DC.sl ((v1.getD 0 d0).ll), DC.sl ((v1.getD 1 d0).ll), DC.i ((v1.getD 2 d0).ii), DC.b false]) fun v2 =>
    if (v2.getD 3 d0).bb = true then
      Out.andThenB (Out.andThen (if 83 = 83 ∧ 0 ≤ (v2.getD 2 d0).ii ∧ (v2.getD 2 d0).ii < (((v2.getD 0 d0).ll).length : Int) then
            if 83 = 83 ∧ 0 ≤ (v2.getD 2 d0).ii ∧ (v2.getD 2 d0).ii < (((v2.getD 1 d0).ll).length : Int) then
              if (!(((((v2.getD 0 d0).ll).getD ((v2.getD 2 d0).ii).toNat []).getD 0 d0).ss == ((((v2.getD 1 d0).ll).getD ((v2.getD 2 d0).ii).toNat []).getD 0 d0).ss)) = true then
                .norm [DC.sl ((v2.getD 0 d0).ll), DC.sl ((v2.getD 1 d0).ll), DC.i ((v2.getD 2 d0).ii), DC.b true]
              else
                if 83 = 83 ∧ 0 ≤ (v2.getD 2 d0).ii ∧ (v2.getD 2 d0).ii < (((v2.getD 0 d0).ll).length : Int) then
                  if 83 = 83 ∧ 0 ≤ (v2.getD 2 d0).ii ∧ (v2.getD 2 d0).ii < (((v2.getD 1 d0).ll).length : Int) then
                    (r_spec_SameArgs [DC.sl (((((v2.getD 0 d0).ll).getD ((v2.getD 2 d0).ii).toNat []).getD 1 d0).ll), DC.sl (((((v2.getD 1 d0).ll).getD ((v2.getD 2 d0).ii).toNat []).getD 1 d0).ll)]).bindR fun r3 =>
                    .norm [DC.sl ((v2.getD 0 d0).ll), DC.sl ((v2.getD 1 d0).ll), DC.i ((v2.getD 2 d0).ii), DC.b (!((r3.getD 0 d0).bb))]
                  else
                    .fail
                else
                  .fail
            else
              .fail
          else
            .fail) fun v4 =>
        if (v4.getD 3 d0).bb = true then
          .ret [DC.b false]
        else
          .norm [DC.sl ((v4.getD 0 d0).ll), DC.sl ((v4.getD 1 d0).ll), DC.i ((v4.getD 2 d0).ii)]) 1 fun v5 =>
      .norm [DC.sl ((v5.getD 0 d0).ll), DC.sl ((v5.getD 1 d0).ll), DC.i (IntKind.i64.wrap ((v5.getD 2 d0).ii + (1 : Int)))]
    else
      .ex 0 [DC.sl ((v2.getD 0 d0).ll), DC.sl ((v2.getD 1 d0).ll)]
/-- loop.example/g00964/spec.l10SameDirs -/
noncomputable def E_spec_l10SameDirs (a : List DC) : Out :=
    Out.andThenB (Loop E_spec_l10SameDirsL1 [DC.sl ((a.getD 0 d0).ll), DC.sl ((a.getD 1 d0).ll), DC.i (0 : Int)]) 0 fun v6 =>
    .ret [DC.b ((((v6.getD 0 d0).ll).length : Int) == (((v6.getD 1 d0).ll).length : Int))]
theorem eq_spec_l10SameDirs (a : List DC) : r_spec_l10SameDirs a = E_spec_l10SameDirs a := (Run_eq cfg 11 h_spec_l10SameDirs a).trans (by kernel_rfl)
noncomputable def E_spec_l11SameL1 : List DC → Out := fun v1 =>
    if (decide ((v1.getD 2 d0).ii < (((v1.getD 0 d0).ll).length : Int))) = true then
      Out.andThenB (if 86 = 86 ∧ 0 ≤ (v1.getD 2 d0).ii ∧ (v1.getD 2 d0).ii < (((v1.getD 0 d0).ll).length : Int) then
          if 86 = 86 ∧ 0 ≤ (v1.getD 2 d0).ii ∧ (v1.getD 2 d0).ii < (((v1.getD 1 d0).ll).length : Int) then
            Out.andThen (if (((((v1.getD 0 d0).ll).getD ((v1.getD 2 d0).ii).toNat []).getD 0 d0).ii != ((((v1.getD 1 d0).ll).getD ((v1.getD 2 d0).ii).toNat []).getD 0 d0).ii) = true then
                .norm [DC.sl ((v1.getD 0 d0).ll), DC.sl ((v1.getD 1 d0).ll), DC.i ((v1.getD 2 d0).ii), DC.b true]
              else
                if (!(((((v1.getD 0 d0).ll).getD ((v1.getD 2 d0).ii).toNat []).getD 1 d0).ss == ((((v1.getD 1 d0).ll).getD ((v1.getD 2 d0).ii).toNat []).getD 1 d0).ss)) = true then
                  .norm [DC.sl ((v1.getD 0 d0).ll), DC.sl ((v1.getD 1 d0).ll), DC.i ((v1.getD 2 d0).ii), DC.b true]
                else
                  if (!(((((v1.getD 0 d0).ll).getD ((v1.getD 2 d0).ii).toNat []).getD 2 d0).ss == ((((v1.getD 1 d0).ll).getD ((v1.getD 2 d0).ii).toNat []).getD 2 d0).ss)) = true then
                    .norm [DC.sl ((v1.getD 0 d0).ll), DC.sl ((v1.getD 1 d0).ll), DC.i ((v1.getD 2 d0).ii), DC.b true]
                  else
                    if (!(((((v1.getD 0 d0).ll).getD ((v1.getD 2 d0).ii).toNat []).getD 3 d0).ss == ((((v1.getD 1 d0).ll).getD ((v1.getD 2 d0).ii).toNat []).getD 3 d0).ss)) = true then
                      .norm [DC.sl ((v1.getD 0 d0).ll), DC.sl ((v1.getD 1 d0).ll), DC.i ((v1.getD 2 d0).ii), DC.b true]
                    else
                      (r_spec_SameArgs [DC.sl (((((v1.getD 0 d0).ll).getD ((v1.getD 2 d0).ii).toNat []).getD 4 d0).ll), DC.sl (((((v1.getD 1 d0).ll).getD ((v1.getD 2 d0).ii).toNat []).getD 4 d0).ll)]).bindR fun r2 =>
                      if (!((r2.getD 0 d0).bb)) = true then
                        .norm [DC.sl ((v1.getD 0 d0).ll), DC.sl ((v1.getD 1 d0).ll), DC.i ((v1.getD 2 d0).ii), DC.b true]
                      else
                        (r_spec_l10SameDirs [DC.sl (((((v1.getD 0 d0).ll).getD ((v1.getD 2 d0).ii).toNat []).getD 5 d0).ll), DC.sl (((((v1.getD 1 d0).ll).getD ((v1.getD 2 d0).ii).toNat []).getD 5 d0).ll)]).bindR fun r3 =>
                        if (!((r3.getD 0 d0).bb)) = true then
                          .norm [DC.sl ((v1.getD 0 d0).ll), DC.sl ((v1.getD 1 d0).ll), DC.i ((v1.getD 2 d0).ii), DC.b true]
                        else
                          (r_spec_l11Same [DC.sl (((((v1.getD 0 d0).ll).getD ((v1.getD 2 d0).ii).toNat []).getD 6 d0).ll), DC.sl (((((v1.getD 1 d0).ll).getD ((v1.getD 2 d0).ii).toNat []).getD 6 d0).ll)]).bindR fun r4 =>
                          .norm [DC.sl ((v1.getD 0 d0).ll), DC.sl ((v1.getD 1 d0).ll), DC.i ((v1.getD 2 d0).ii), DC.b (!((r4.getD 0 d0).bb))]) fun v5 =>
            if (v5.getD 3 d0).bb = true then
              .ret [DC.b false]
            else
              .norm [DC.sl ((v5.getD 0 d0).ll), DC.sl ((v5.getD 1 d0).ll), DC.i ((v5.getD 2 d0).ii)]
          else
            .fail
        else
          .fail) 1 fun v6 =>
      .norm [DC.sl ((v6.getD 0 d0).ll), DC.sl ((v6.getD 1 d0).ll), DC.i (IntKind.i64.wrap ((v6.getD 2 d0).ii + (1 : Int)))]
    else
      .ex 0 []
/-- loop.example/g00964/spec.l11Same -/
noncomputable def E_spec_l11Same (a : List DC) : Out :=
    if ((((a.getD 0 d0).ll).length : Int) != (((a.getD 1 d0).ll).length : Int)) = true then
      .ret [DC.b false]
    else
      Out.andThenB (Loop E_spec_l11SameL1 [DC.sl ((a.getD 0 d0).ll), DC.sl ((a.getD 1 d0).ll), DC.i (0 : Int)]) 0 fun v7 =>
      .ret [DC.b true]
theorem eq_spec_l11Same (a : List DC) : r_spec_l11Same a = E_spec_l11Same a := (Run_eq cfg 12 h_spec_l11Same a).trans (by kernel_rfl)
noncomputable def E_spec_l14SameDefL1 : List DC → Out := fun v4 =>
    if (decide ((v4.getD 0 d0).ii < (((v4.getD 5 d0).ll).length : Int))) = true then
      Out.andThenB (if 9 = 9 ∧ 0 ≤ (v4.getD 0 d0).ii ∧ (v4.getD 0 d0).ii < (((v4.getD 5 d0).ll).length : Int) then
          if 9 = 9 ∧ 0 ≤ (v4.getD 0 d0).ii ∧ (v4.getD 0 d0).ii < (((v4.getD 16 d0).ll).length : Int) then
            if (!(((((v4.getD 5 d0).ll).getD ((v4.getD 0 d0).ii).toNat []).getD 0 d0).ss == ((((v4.getD 16 d0).ll).getD ((v4.getD 0 d0).ii).toNat []).getD 0 d0).ss)) = true then
              .ret [DC.b false]
            else
              .norm [DC.i ((v4.getD 0 d0).ii), DC.i ((v4.getD 1 d0).ii), DC.b ((v4.getD 2 d0).bb), DC.s ((v4.getD 3 d0).ss), DC.s ((v4.getD 4 d0).ss), DC.sl ((v4.getD 5 d0).ll), DC.sl ((v4.getD 6 d0).ll), DC.sl ((v4.getD 7 d0).ll), DC.sl ((v4.getD 8 d0).ll), DC.sl ((v4.getD 9 d0).ll), DC.b ((v4.getD 10 d0).bb), DC.sl ((v4.getD 11 d0).ll), DC.i ((v4.getD 12 d0).ii), DC.b ((v4.getD 13 d0).bb), DC.s ((v4.getD 14 d0).ss), DC.s ((v4.getD 15 d0).ss), DC.sl ((v4.getD 16 d0).ll), DC.sl ((v4.getD 17 d0).ll), DC.sl ((v4.getD 18 d0).ll), DC.sl ((v4.getD 19 d0).ll), DC.sl ((v4.getD 20 d0).ll), DC.b ((v4.getD 21 d0).bb), DC.sl ((v4.getD 22 d0).ll)]
          else
            .fail
        else
          .fail) 1 fun v5 =>
      .norm [DC.i (IntKind.i64.wrap ((v5.getD 0 d0).ii + (1 : Int))), DC.i ((v5.getD 1 d0).ii), DC.b ((v5.getD 2 d0).bb), DC.s ((v5.getD 3 d0).ss), DC.s ((v5.getD 4 d0).ss), DC.sl ((v5.getD 5 d0).ll), DC.sl ((v5.getD 6 d0).ll), DC.sl ((v5.getD 7 d0).ll), DC.sl ((v5.getD 8 d0).ll), DC.sl ((v5.getD 9 d0).ll), DC.b ((v5.getD 10 d0).bb), DC.sl ((v5.getD 11 d0).ll), DC.i ((v5.getD 12 d0).ii), DC.b ((v5.getD 13 d0).bb), DC.s ((v5.getD 14 d0).ss), DC.s ((v5.getD 15 d0).ss), DC.sl ((v5.getD 16 d0).ll), DC.sl ((v5.getD 17 d0).ll), DC.sl ((v5.getD 18 d0).ll), DC.sl ((v5.getD 19 d0).ll), DC.sl ((v5.getD 20 d0).ll), DC.b ((v5.getD 21 d0).bb), DC.sl ((v5.getD 22 d0).ll)]
    else
      .ex 0 [DC.i ((v4.getD 1 d0).ii), DC.b ((v4.getD 2 d0).bb), DC.s ((v4.getD 3 d0).ss), DC.s ((v4.getD 4 d0).ss), DC.sl ((v4.getD 5 d0).ll), DC.sl ((v4.getD 6 d0).ll), DC.sl ((v4.getD 7 d0).ll), DC.sl ((v4.getD 8 d0).ll), DC.sl ((v4.getD 9 d0).ll), DC.b ((v4.getD 10 d0).bb), DC.sl ((v4.getD 11 d0).ll), DC.i ((v4.getD 12 d0).ii), DC.b ((v4.getD 13 d0).bb), DC.s ((v4.getD 14 d0).ss), DC.s ((v4.getD 15 d0).ss), DC.sl ((v4.getD 16 d0).ll), DC.sl ((v4.getD 17 d0).ll), DC.sl ((v4.getD 18 d0).ll), DC.sl ((v4.getD 19 d0).ll), DC.sl ((v4.getD 20 d0).ll), DC.b ((v4.getD 21 d0).bb), DC.sl ((v4.getD 22 d0).ll)]
noncomputable def E_spec_l14SameDefL2 : List DC → Out := fun v7 =>
    if (decide ((v7.getD 0 d0).ii < (((v7.getD 6 d0).ll).length : Int))) = true then
      Out.andThenB (if 89 = 89 ∧ 0 ≤ (v7.getD 0 d0).ii ∧ (v7.getD 0 d0).ii < (((v7.getD 6 d0).ll).length : Int) then
          if 89 = 89 ∧ 0 ≤ (v7.getD 0 d0).ii ∧ (v7.getD 0 d0).ii < (((v7.getD 17 d0).ll).length : Int) then
            Out.andThen (if (!(((((v7.getD 6 d0).ll).getD ((v7.getD 0 d0).ii).toNat []).getD 0 d0).ss == ((((v7.getD 17 d0).ll).getD ((v7.getD 0 d0).ii).toNat []).getD 0 d0).ss)) = true then
                .norm [DC.i ((v7.getD 0 d0).ii), DC.b true, DC.i ((v7.getD 1 d0).ii), DC.b ((v7.getD 2 d0).bb), DC.s ((v7.getD 3 d0).ss), DC.s ((v7.getD 4 d0).ss), DC.sl ((v7.getD 5 d0).ll), DC.sl ((v7.getD 6 d0).ll), DC.sl ((v7.getD 7 d0).ll), DC.sl ((v7.getD 8 d0).ll), DC.sl ((v7.getD 9 d0).ll), DC.b ((v7.getD 10 d0).bb), DC.sl ((v7.getD 11 d0).ll), DC.i ((v7.getD 12 d0).ii), DC.b ((v7.getD 13 d0).bb), DC.s ((v7.getD 14 d0).ss), DC.s ((v7.getD 15 d0).ss), DC.sl ((v7.getD 16 d0).ll), DC.sl ((v7.getD 17 d0).ll), DC.sl ((v7.getD 18 d0).ll), DC.sl ((v7.getD 19 d0).ll), DC.sl ((v7.getD 20 d0).ll), DC.b ((v7.getD 21 d0).bb), DC.sl ((v7.getD 22 d0).ll)]
              else
                if (!(((((v7.getD 6 d0).ll).getD ((v7.getD 0 d0).ii).toNat []).getD 1 d0).ss == ((((v7.getD 17 d0).ll).getD ((v7.getD 0 d0).ii).toNat []).getD 1 d0).ss)) = true then
                  .norm [DC.i ((v7.getD 0 d0).ii), DC.b true, DC.i ((v7.getD 1 d0).ii), DC.b ((v7.getD 2 d0).bb), DC.s ((v7.getD 3 d0).ss), DC.s ((v7.getD 4 d0).ss), DC.sl ((v7.getD 5 d0).ll), DC.sl ((v7.getD 6 d0).ll), DC.sl ((v7.getD 7 d0).ll), DC.sl ((v7.getD 8 d0).ll), DC.sl ((v7.getD 9 d0).ll), DC.b ((v7.getD 10 d0).bb), DC.sl ((v7.getD 11 d0).ll), DC.i ((v7.getD 12 d0).ii), DC.b ((v7.getD 13 d0).bb), DC.s ((v7.getD 14 d0).ss), DC.s ((v7.getD 15 d0).ss), DC.sl ((v7.getD 16 d0).ll), DC.sl ((v7.getD 17 d0).ll), DC.sl ((v7.getD 18 d0).ll), DC.sl ((v7.getD 19 d0).ll), DC.sl ((v7.getD 20 d0).ll), DC.b ((v7.getD 21 d0).bb), DC.sl ((v7.getD 22 d0).ll)]
                else
                  if (!((((((v7.getD 6 d0).ll).getD ((v7.getD 0 d0).ii).toNat []).getD 3 d0).ss == ((((v7.getD 17 d0).ll).getD ((v7.getD 0 d0).ii).toNat []).getD 3 d0).ss) && ((((((v7.getD 6 d0).ll).getD ((v7.getD 0 d0).ii).toNat []).getD 4 d0).ss == ((((v7.getD 17 d0).ll).getD ((v7.getD 0 d0).ii).toNat []).getD 4 d0).ss) && true))) = true then
                    .norm [DC.i ((v7.getD 0 d0).ii), DC.b true, DC.i ((v7.getD 1 d0).ii), DC.b ((v7.getD 2 d0).bb), DC.s ((v7.getD 3 d0).ss), DC.s ((v7.getD 4 d0).ss), DC.sl ((v7.getD 5 d0).ll), DC.sl ((v7.getD 6 d0).ll), DC.sl ((v7.getD 7 d0).ll), DC.sl ((v7.getD 8 d0).ll), DC.sl ((v7.getD 9 d0).ll), DC.b ((v7.getD 10 d0).bb), DC.sl ((v7.getD 11 d0).ll), DC.i ((v7.getD 12 d0).ii), DC.b ((v7.getD 13 d0).bb), DC.s ((v7.getD 14 d0).ss), DC.s ((v7.getD 15 d0).ss), DC.sl ((v7.getD 16 d0).ll), DC.sl ((v7.getD 17 d0).ll), DC.sl ((v7.getD 18 d0).ll), DC.sl ((v7.getD 19 d0).ll), DC.sl ((v7.getD 20 d0).ll), DC.b ((v7.getD 21 d0).bb), DC.sl ((v7.getD 22 d0).ll)]
                  else
                    (r_spec_l14SameIn [DC.sl (((((v7.getD 6 d0).ll).getD ((v7.getD 0 d0).ii).toNat []).getD 2 d0).ll), DC.sl (((((v7.getD 17 d0).ll).getD ((v7.getD 0 d0).ii).toNat []).getD 2 d0).ll)]).bindR fun r8 =>
                    if (!((r8.getD 0 d0).bb)) = true then
                      .norm [DC.i ((v7.getD 0 d0).ii), DC.b true, DC.i ((v7.getD 1 d0).ii), DC.b ((v7.getD 2 d0).bb), DC.s ((v7.getD 3 d0).ss), DC.s ((v7.getD 4 d0).ss), DC.sl ((v7.getD 5 d0).ll), DC.sl ((v7.getD 6 d0).ll), DC.sl ((v7.getD 7 d0).ll), DC.sl ((v7.getD 8 d0).ll), DC.sl ((v7.getD 9 d0).ll), DC.b ((v7.getD 10 d0).bb), DC.sl ((v7.getD 11 d0).ll), DC.i ((v7.getD 12 d0).ii), DC.b ((v7.getD 13 d0).bb), DC.s ((v7.getD 14 d0).ss), DC.s ((v7.getD 15 d0).ss), DC.sl ((v7.getD 16 d0).ll), DC.sl ((v7.getD 17 d0).ll), DC.sl ((v7.getD 18 d0).ll), DC.sl ((v7.getD 19 d0).ll), DC.sl ((v7.getD 20 d0).ll), DC.b ((v7.getD 21 d0).bb), DC.sl ((v7.getD 22 d0).ll)]
                    else
                      (r_spec_l10SameDirs [DC.sl (((((v7.getD 6 d0).ll).getD ((v7.getD 0 d0).ii).toNat []).getD 5 d0).ll), DC.sl (((((v7.getD 17 d0).ll).getD ((v7.getD 0 d0).ii).toNat []).getD 5 d0).ll)]).bindR fun r9 =>
                      .norm [DC.i ((v7.getD 0 d0).ii), DC.b (!((r9.getD 0 d0).bb)), DC.i ((v7.getD 1 d0).ii), DC.b ((v7.getD 2 d0).bb), DC.s ((v7.getD 3 d0).ss), DC.s ((v7.getD 4 d0).ss), DC.sl ((v7.getD 5 d0).ll), DC.sl ((v7.getD 6 d0).ll), DC.sl ((v7.getD 7 d0).ll), DC.sl ((v7.getD 8 d0).ll), DC.sl ((v7.getD 9 d0).ll), DC.b ((v7.getD 10 d0).bb), DC.sl ((v7.getD 11 d0).ll), DC.i ((v7.getD 12 d0).ii), DC.b ((v7.getD 13 d0).bb), DC.s ((v7.getD 14 d0).ss), DC.s ((v7.getD 15 d0).ss), DC.sl ((v7.getD 16 d0).ll), DC.sl ((v7.getD 17 d0).ll), DC.sl ((v7.getD 18 d0).ll), DC.sl ((v7.getD 19 d0).ll), DC.sl ((v7.getD 20 d0).ll), DC.b ((v7.getD 21 d0).bb), DC.sl ((v7.getD 22 d0).ll)]) fun v10 =>
            if (v10.getD 1 d0).bb = true then
              .ret [DC.b false]
            else
              .norm [DC.i ((v10.getD 0 d0).ii), DC.i ((v10.getD 2 d0).ii), DC.b ((v10.getD 3 d0).bb), DC.s ((v10.getD 4 d0).ss), DC.s ((v10.getD 5 d0).ss), DC.sl ((v10.getD 6 d0).ll), DC.sl ((v10.getD 7 d0).ll), DC.sl ((v10.getD 8 d0).ll), DC.sl ((v10.getD 9 d0).ll), DC.sl ((v10.getD 10 d0).ll), DC.b ((v10.getD 11 d0).bb), DC.sl ((v10.getD 12 d0).ll), DC.i ((v10.getD 13 d0).ii), DC.b ((v10.getD 14 d0).bb), DC.s ((v10.getD 15 d0).ss), DC.s ((v10.getD 16 d0).ss), DC.sl ((v10.getD 17 d0).ll), DC.sl ((v10.getD 18 d0).ll), DC.sl ((v10.getD 19 d0).ll), DC.sl ((v10.getD 20 d0).ll), DC.sl ((v10.getD 21 d0).ll), DC.b ((v10.getD 22 d0).bb), DC.sl ((v10.getD 23 d0).ll)]
          else
            .fail
        else
          .fail) 3 fun v11 =>
      .norm [DC.i (IntKind.i64.wrap ((v11.getD 0 d0).ii + (1 : Int))), DC.i ((v11.getD 1 d0).ii), DC.b ((v11.getD 2 d0).bb), DC.s ((v11.getD 3 d0).ss), DC.s ((v11.getD 4 d0).ss), DC.sl ((v11.getD 5 d0).ll), DC.sl ((v11.getD 6 d0).ll), DC.sl ((v11.getD 7 d0).ll), DC.sl ((v11.getD 8 d0).ll), DC.sl ((v11.getD 9 d0).ll), DC.b ((v11.getD 10 d0).bb), DC.sl ((v11.getD 11 d0).ll), DC.i ((v11.getD 12 d0).ii), DC.b ((v11.getD 13 d0).bb), DC.s ((v11.getD 14 d0).ss), DC.s ((v11.getD 15 d0).ss), DC.sl ((v11.getD 16 d0).ll), DC.sl ((v11.getD 17 d0).ll), DC.sl ((v11.getD 18 d0).ll), DC.sl ((v11.getD 19 d0).ll), DC.sl ((v11.getD 20 d0).ll), DC.b ((v11.getD 21 d0).bb), DC.sl ((v11.getD 22 d0).ll)]
    else
      .ex 2 [DC.i ((v7.getD 1 d0).ii), DC.b ((v7.getD 2 d0).bb), DC.s ((v7.getD 3 d0).ss), DC.s ((v7.getD 4 d0).ss), DC.sl ((v7.getD 5 d0).ll), DC.sl ((v7.getD 6 d0).ll), DC.sl ((v7.getD 7 d0).ll), DC.sl ((v7.getD 8 d0).ll), DC.sl ((v7.getD 9 d0).ll), DC.b ((v7.getD 10 d0).bb), DC.sl ((v7.getD 11 d0).ll), DC.i ((v7.getD 12 d0).ii), DC.b ((v7.getD 13 d0).bb), DC.s ((v7.getD 14 d0).ss), DC.s ((v7.getD 15 d0).ss), DC.sl ((v7.getD 16 d0).ll), DC.sl ((v7.getD 17 d0).ll), DC.sl ((v7.getD 18 d0).ll), DC.sl ((v7.getD 19 d0).ll), DC.sl ((v7.getD 20 d0).ll), DC.b ((v7.getD 21 d0).bb), DC.sl ((v7.getD 22 d0).ll)]
noncomputable def E_spec_l14SameDefL3 : List DC → Out := fun v13 =>
    if (decide ((v13.getD 0 d0).ii < (((v13.getD 8 d0).ll).length : Int))) = true then
      Out.andThenB (Out.andThen (if 91 = 91 ∧ 0 ≤ (v13.getD 0 d0).ii ∧ (v13.getD 0 d0).ii < (((v13.getD 8 d0).ll).length : Int) then
            if 91 = 91 ∧ 0 ≤ (v13.getD 0 d0).ii ∧ (v13.getD 0 d0).ii < (((v13.getD 19 d0).ll).length : Int) then
              if (!(((((v13.getD 8 d0).ll).getD ((v13.getD 0 d0).ii).toNat []).getD 0 d0).ss == ((((v13.getD 19 d0).ll).getD ((v13.getD 0 d0).ii).toNat []).getD 0 d0).ss)) = true then
                .norm [DC.i ((v13.getD 0 d0).ii), DC.b true, DC.i ((v13.getD 1 d0).ii), DC.b ((v13.getD 2 d0).bb), DC.s ((v13.getD 3 d0).ss), DC.s ((v13.getD 4 d0).ss), DC.sl ((v13.getD 5 d0).ll), DC.sl ((v13.getD 6 d0).ll), DC.sl ((v13.getD 7 d0).ll), DC.sl ((v13.getD 8 d0).ll), DC.sl ((v13.getD 9 d0).ll), DC.b ((v13.getD 10 d0).bb), DC.sl ((v13.getD 11 d0).ll), DC.i ((v13.getD 12 d0).ii), DC.b ((v13.getD 13 d0).bb), DC.s ((v13.getD 14 d0).ss), DC.s ((v13.getD 15 d0).ss), DC.sl ((v13.getD 16 d0).ll), DC.sl ((v13.getD 17 d0).ll), DC.sl ((v13.getD 18 d0).ll), DC.sl ((v13.getD 19 d0).ll), DC.sl ((v13.getD 20 d0).ll), DC.b ((v13.getD 21 d0).bb), DC.sl ((v13.getD 22 d0).ll)]
              else
                if 91 = 91 ∧ 0 ≤ (v13.getD 0 d0).ii ∧ (v13.getD 0 d0).ii < (((v13.getD 8 d0).ll).length : Int) then
                  if 91 = 91 ∧ 0 ≤ (v13.getD 0 d0).ii ∧ (v13.getD 0 d0).ii < (((v13.getD 19 d0).ll).length : Int) then
                    if (!(((((v13.getD 8 d0).ll).getD ((v13.getD 0 d0).ii).toNat []).getD 1 d0).ss == ((((v13.getD 19 d0).ll).getD ((v13.getD 0 d0).ii).toNat []).getD 1 d0).ss)) = true then
                      .norm [DC.i ((v13.getD 0 d0).ii), DC.b true, DC.i ((v13.getD 1 d0).ii), DC.b ((v13.getD 2 d0).bb), DC.s ((v13.getD 3 d0).ss), DC.s ((v13.getD 4 d0).ss), DC.sl ((v13.getD 5 d0).ll), DC.sl ((v13.getD 6 d0).ll), DC.sl ((v13.getD 7 d0).ll), DC.sl ((v13.getD 8 d0).ll), DC.sl ((v13.getD 9 d0).ll), DC.b ((v13.getD 10 d0).bb), DC.sl ((v13.getD 11 d0).ll), DC.i ((v13.getD 12 d0).ii), DC.b ((v13.getD 13 d0).bb), DC.s ((v13.getD 14 d0).ss), DC.s ((v13.getD 15 d0).ss), DC.sl ((v13.getD 16 d0).ll), DC.sl ((v13.getD 17 d0).ll), DC.sl ((v13.getD 18 d0).ll), DC.sl ((v13.getD 19 d0).ll), DC.sl ((v13.getD 20 d0).ll), DC.b ((v13.getD 21 d0).bb), DC.sl ((v13.getD 22 d0).ll)]
                    else
                      if 91 = 91 ∧ 0 ≤ (v13.getD 0 d0).ii ∧ (v13.getD 0 d0).ii < (((v13.getD 8 d0).ll).length : Int) then
                        if 91 = 91 ∧ 0 ≤ (v13.getD 0 d0).ii ∧ (v13.getD 0 d0).ii < (((v13.getD 19 d0).ll).length : Int) then
                          (r_spec_l10SameDirs [DC.sl (((((v13.getD 8 d0).ll).getD ((v13.getD 0 d0).ii).toNat []).getD 2 d0).ll), DC.sl (((((v13.getD 19 d0).ll).getD ((v13.getD 0 d0).ii).toNat []).getD 2 d0).ll)]).bindR fun r14 =>
                          .norm [DC.i ((v13.getD 0 d0).ii), DC.b (!((r14.getD 0 d0).bb)), DC.i ((v13.getD 1 d0).ii), DC.b ((v13.getD 2 d0).bb), DC.s ((v13.getD 3 d0).ss), DC.s ((v13.getD 4 d0).ss), DC.sl ((v13.getD 5 d0).ll), DC.sl ((v13.getD 6 d0).ll), DC.sl ((v13.getD 7 d0).ll), DC.sl ((v13.getD 8 d0).ll), DC.sl ((v13.getD 9 d0).ll), DC.b ((v13.getD 10 d0).bb), DC.sl ((v13.getD 11 d0).ll), DC.i ((v13.getD 12 d0).ii), DC.b ((v13.getD 13 d0).bb), DC.s ((v13.getD 14 d0).ss), DC.s ((v13.getD 15 d0).ss), DC.sl ((v13.getD 16 d0).ll), DC.sl ((v13.getD 17 d0).ll), DC.sl ((v13.getD 18 d0).ll), DC.sl ((v13.getD 19 d0).ll), DC.sl ((v13.getD 20 d0).ll), DC.b ((v13.getD 21 d0).bb), DC.sl ((v13.getD 22 d0).ll)]
                        else
                          .fail
                      else
                        .fail
                  else
                    .fail
                else
                  .fail
            else
              .fail
          else
            .fail) fun v15 =>
        if (v15.getD 1 d0).bb = true then
          .ret [DC.b false]
        else
          .norm [DC.i ((v15.getD 0 d0).ii), DC.i ((v15.getD 2 d0).ii), DC.b ((v15.getD 3 d0).bb), DC.s ((v15.getD 4 d0).ss), DC.s ((v15.getD 5 d0).ss), DC.sl ((v15.getD 6 d0).ll), DC.sl ((v15.getD 7 d0).ll), DC.sl ((v15.getD 8 d0).ll), DC.sl ((v15.getD 9 d0).ll), DC.sl ((v15.getD 10 d0).ll), DC.b ((v15.getD 11 d0).bb), DC.sl ((v15.getD 12 d0).ll), DC.i ((v15.getD 13 d0).ii), DC.b ((v15.getD 14 d0).bb), DC.s ((v15.getD 15 d0).ss), DC.s ((v15.getD 16 d0).ss), DC.sl ((v15.getD 17 d0).ll), DC.sl ((v15.getD 18 d0).ll), DC.sl ((v15.getD 19 d0).ll), DC.sl ((v15.getD 20 d0).ll), DC.sl ((v15.getD 21 d0).ll), DC.b ((v15.getD 22 d0).bb), DC.sl ((v15.getD 23 d0).ll)]) 5 fun v16 =>
      .norm [DC.i (IntKind.i64.wrap ((v16.getD 0 d0).ii + (1 : Int))), DC.i ((v16.getD 1 d0).ii), DC.b ((v16.getD 2 d0).bb), DC.s ((v16.getD 3 d0).ss), DC.s ((v16.getD 4 d0).ss), DC.sl ((v16.getD 5 d0).ll), DC.sl ((v16.getD 6 d0).ll), DC.sl ((v16.getD 7 d0).ll), DC.sl ((v16.getD 8 d0).ll), DC.sl ((v16.getD 9 d0).ll), DC.b ((v16.getD 10 d0).bb), DC.sl ((v16.getD 11 d0).ll), DC.i ((v16.getD 12 d0).ii), DC.b ((v16.getD 13 d0).bb), DC.s ((v16.getD 14 d0).ss), DC.s ((v16.getD 15 d0).ss), DC.sl ((v16.getD 16 d0).ll), DC.sl ((v16.getD 17 d0).ll), DC.sl ((v16.getD 18 d0).ll), DC.sl ((v16.getD 19 d0).ll), DC.sl ((v16.getD 20 d0).ll), DC.b ((v16.getD 21 d0).bb), DC.sl ((v16.getD 22 d0).ll)]
    else
      .ex 4 [DC.i ((v13.getD 1 d0).ii), DC.b ((v13.getD 2 d0).bb), DC.s ((v13.getD 3 d0).ss), DC.s ((v13.getD 4 d0).ss), DC.sl ((v13.getD 5 d0).ll), DC.sl ((v13.getD 6 d0).ll), DC.sl ((v13.getD 7 d0).ll), DC.sl ((v13.getD 8 d0).ll), DC.sl ((v13.getD 9 d0).ll), DC.b ((v13.getD 10 d0).bb), DC.sl ((v13.getD 11 d0).ll), DC.i ((v13.getD 12 d0).ii), DC.b ((v13.getD 13 d0).bb), DC.s ((v13.getD 14 d0).ss), DC.s ((v13.getD 15 d0).ss), DC.sl ((v13.getD 16 d0).ll), DC.sl ((v13.getD 17 d0).ll), DC.sl ((v13.getD 18 d0).ll), DC.sl ((v13.getD 19 d0).ll), DC.sl ((v13.getD 20 d0).ll), DC.b ((v13.getD 21 d0).bb), DC.sl ((v13.getD 22 d0).ll)]
noncomputable def E_spec_l14SameDefL4 : List DC → Out := fun v18 =>
    if (decide ((v18.getD 0 d0).ii < (((v18.getD 9 d0).ll).length : Int))) = true then
      Out.andThenB (if 93 = 93 ∧ 0 ≤ (v18.getD 0 d0).ii ∧ (v18.getD 0 d0).ii < (((v18.getD 9 d0).ll).length : Int) then
          if 93 = 93 ∧ 0 ≤ (v18.getD 0 d0).ii ∧ (v18.getD 0 d0).ii < (((v18.getD 20 d0).ll).length : Int) then
            if (!((((((v18.getD 9 d0).ll).getD ((v18.getD 0 d0).ii).toNat []).getD 0 d0).ii == ((((v18.getD 20 d0).ll).getD ((v18.getD 0 d0).ii).toNat []).getD 0 d0).ii) && ((((((v18.getD 9 d0).ll).getD ((v18.getD 0 d0).ii).toNat []).getD 1 d0).ss == ((((v18.getD 20 d0).ll).getD ((v18.getD 0 d0).ii).toNat []).getD 1 d0).ss) && true))) = true then
              .ret [DC.b false]
            else
              .norm [DC.i ((v18.getD 0 d0).ii), DC.i ((v18.getD 1 d0).ii), DC.b ((v18.getD 2 d0).bb), DC.s ((v18.getD 3 d0).ss), DC.s ((v18.getD 4 d0).ss), DC.sl ((v18.getD 5 d0).ll), DC.sl ((v18.getD 6 d0).ll), DC.sl ((v18.getD 7 d0).ll), DC.sl ((v18.getD 8 d0).ll), DC.sl ((v18.getD 9 d0).ll), DC.b ((v18.getD 10 d0).bb), DC.sl ((v18.getD 11 d0).ll), DC.i ((v18.getD 12 d0).ii), DC.b ((v18.getD 13 d0).bb), DC.s ((v18.getD 14 d0).ss), DC.s ((v18.getD 15 d0).ss), DC.sl ((v18.getD 16 d0).ll), DC.sl ((v18.getD 17 d0).ll), DC.sl ((v18.getD 18 d0).ll), DC.sl ((v18.getD 19 d0).ll), DC.sl ((v18.getD 20 d0).ll), DC.b ((v18.getD 21 d0).bb), DC.sl ((v18.getD 22 d0).ll)]
          else
            .fail
        else
          .fail) 7 fun v19 =>
      .norm [DC.i (IntKind.i64.wrap ((v19.getD 0 d0).ii + (1 : Int))), DC.i ((v19.getD 1 d0).ii), DC.b ((v19.getD 2 d0).bb), DC.s ((v19.getD 3 d0).ss), DC.s ((v19.getD 4 d0).ss), DC.sl ((v19.getD 5 d0).ll), DC.sl ((v19.getD 6 d0).ll), DC.sl ((v19.getD 7 d0).ll), DC.sl ((v19.getD 8 d0).ll), DC.sl ((v19.getD 9 d0).ll), DC.b ((v19.getD 10 d0).bb), DC.sl ((v19.getD 11 d0).ll), DC.i ((v19.getD 12 d0).ii), DC.b ((v19.getD 13 d0).bb), DC.s ((v19.getD 14 d0).ss), DC.s ((v19.getD 15 d0).ss), DC.sl ((v19.getD 16 d0).ll), DC.sl ((v19.getD 17 d0).ll), DC.sl ((v19.getD 18 d0).ll), DC.sl ((v19.getD 19 d0).ll), DC.sl ((v19.getD 20 d0).ll), DC.b ((v19.getD 21 d0).bb), DC.sl ((v19.getD 22 d0).ll)]
    else
      .ex 6 []
/-- loop.example/g00964/spec.l14SameDef -/
noncomputable def E_spec_l14SameDef (a : List DC) : Out :=
    Out.andThen (if ((a.getD 0 d0).ii != (a.getD 11 d0).ii) = true then
        .norm [DC.b true, DC.i ((a.getD 0 d0).ii), DC.b ((a.getD 1 d0).bb), DC.s ((a.getD 2 d0).ss), DC.s ((a.getD 3 d0).ss), DC.sl ((a.getD 4 d0).ll), DC.sl ((a.getD 5 d0).ll), DC.sl ((a.getD 6 d0).ll), DC.sl ((a.getD 7 d0).ll), DC.sl ((a.getD 8 d0).ll), DC.b ((a.getD 9 d0).bb), DC.sl ((a.getD 10 d0).ll), DC.i ((a.getD 11 d0).ii), DC.b ((a.getD 12 d0).bb), DC.s ((a.getD 13 d0).ss), DC.s ((a.getD 14 d0).ss), DC.sl ((a.getD 15 d0).ll), DC.sl ((a.getD 16 d0).ll), DC.sl ((a.getD 17 d0).ll), DC.sl ((a.getD 18 d0).ll), DC.sl ((a.getD 19 d0).ll), DC.b ((a.getD 20 d0).bb), DC.sl ((a.getD 21 d0).ll)]
      else
        if (!((a.getD 1 d0).bb == (a.getD 12 d0).bb)) = true then
          .norm [DC.b true, DC.i ((a.getD 0 d0).ii), DC.b ((a.getD 1 d0).bb), DC.s ((a.getD 2 d0).ss), DC.s ((a.getD 3 d0).ss), DC.sl ((a.getD 4 d0).ll), DC.sl ((a.getD 5 d0).ll), DC.sl ((a.getD 6 d0).ll), DC.sl ((a.getD 7 d0).ll), DC.sl ((a.getD 8 d0).ll), DC.b ((a.getD 9 d0).bb), DC.sl ((a.getD 10 d0).ll), DC.i ((a.getD 11 d0).ii), DC.b ((a.getD 12 d0).bb), DC.s ((a.getD 13 d0).ss), DC.s ((a.getD 14 d0).ss), DC.sl ((a.getD 15 d0).ll), DC.sl ((a.getD 16 d0).ll), DC.sl ((a.getD 17 d0).ll), DC.sl ((a.getD 18 d0).ll), DC.sl ((a.getD 19 d0).ll), DC.b ((a.getD 20 d0).bb), DC.sl ((a.getD 21 d0).ll)]
        else
          if (!((a.getD 2 d0).ss == (a.getD 13 d0).ss)) = true then
            .norm [DC.b true, DC.i ((a.getD 0 d0).ii), DC.b ((a.getD 1 d0).bb), DC.s ((a.getD 2 d0).ss), DC.s ((a.getD 3 d0).ss), DC.sl ((a.getD 4 d0).ll), DC.sl ((a.getD 5 d0).ll), DC.sl ((a.getD 6 d0).ll), DC.sl ((a.getD 7 d0).ll), DC.sl ((a.getD 8 d0).ll), DC.b ((a.getD 9 d0).bb), DC.sl ((a.getD 10 d0).ll), DC.i ((a.getD 11 d0).ii), DC.b ((a.getD 12 d0).bb), DC.s ((a.getD 13 d0).ss), DC.s ((a.getD 14 d0).ss), DC.sl ((a.getD 15 d0).ll), DC.sl ((a.getD 16 d0).ll), DC.sl ((a.getD 17 d0).ll), DC.sl ((a.getD 18 d0).ll), DC.sl ((a.getD 19 d0).ll), DC.b ((a.getD 20 d0).bb), DC.sl ((a.getD 21 d0).ll)]
          else
            if (!((a.getD 3 d0).ss == (a.getD 14 d0).ss)) = true then
              .norm [DC.b true, DC.i ((a.getD 0 d0).ii), DC.b ((a.getD 1 d0).bb), DC.s ((a.getD 2 d0).ss), DC.s ((a.getD 3 d0).ss), DC.sl ((a.getD 4 d0).ll), DC.sl ((a.getD 5 d0).ll), DC.sl ((a.getD 6 d0).ll), DC.sl ((a.getD 7 d0).ll), DC.sl ((a.getD 8 d0).ll), DC.b ((a.getD 9 d0).bb), DC.sl ((a.getD 10 d0).ll), DC.i ((a.getD 11 d0).ii), DC.b ((a.getD 12 d0).bb), DC.s ((a.getD 13 d0).ss), DC.s ((a.getD 14 d0).ss), DC.sl ((a.getD 15 d0).ll), DC.sl ((a.getD 16 d0).ll), DC.sl ((a.getD 17 d0).ll), DC.sl ((a.getD 18 d0).ll), DC.sl ((a.getD 19 d0).ll), DC.b ((a.getD 20 d0).bb), DC.sl ((a.getD 21 d0).ll)]
            else
              if (!((a.getD 9 d0).bb == (a.getD 20 d0).bb)) = true then
                .norm [DC.b true, DC.i ((a.getD 0 d0).ii), DC.b ((a.getD 1 d0).bb), DC.s ((a.getD 2 d0).ss), DC.s ((a.getD 3 d0).ss), DC.sl ((a.getD 4 d0).ll), DC.sl ((a.getD 5 d0).ll), DC.sl ((a.getD 6 d0).ll), DC.sl ((a.getD 7 d0).ll), DC.sl ((a.getD 8 d0).ll), DC.b ((a.getD 9 d0).bb), DC.sl ((a.getD 10 d0).ll), DC.i ((a.getD 11 d0).ii), DC.b ((a.getD 12 d0).bb), DC.s ((a.getD 13 d0).ss), DC.s ((a.getD 14 d0).ss), DC.sl ((a.getD 15 d0).ll), DC.sl ((a.getD 16 d0).ll), DC.sl ((a.getD 17 d0).ll), DC.sl ((a.getD 18 d0).ll), DC.sl ((a.getD 19 d0).ll), DC.b ((a.getD 20 d0).bb), DC.sl ((a.getD 21 d0).ll)]
              else
                if ((((a.getD 4 d0).ll).length : Int) != (((a.getD 15 d0).ll).length : Int)) = true then
                  .norm [DC.b true, DC.i ((a.getD 0 d0).ii), DC.b ((a.getD 1 d0).bb), DC.s ((a.getD 2 d0).ss), DC.s ((a.getD 3 d0).ss), DC.sl ((a.getD 4 d0).ll), DC.sl ((a.getD 5 d0).ll), DC.sl ((a.getD 6 d0).ll), DC.sl ((a.getD 7 d0).ll), DC.sl ((a.getD 8 d0).ll), DC.b ((a.getD 9 d0).bb), DC.sl ((a.getD 10 d0).ll), DC.i ((a.getD 11 d0).ii), DC.b ((a.getD 12 d0).bb), DC.s ((a.getD 13 d0).ss), DC.s ((a.getD 14 d0).ss), DC.sl ((a.getD 15 d0).ll), DC.sl ((a.getD 16 d0).ll), DC.sl ((a.getD 17 d0).ll), DC.sl ((a.getD 18 d0).ll), DC.sl ((a.getD 19 d0).ll), DC.b ((a.getD 20 d0).bb), DC.sl ((a.getD 21 d0).ll)]
                else
                  if ((((a.getD 5 d0).ll).length : Int) != (((a.getD 16 d0).ll).length : Int)) = true then
                    .norm [DC.b true, DC.i ((a.getD 0 d0).ii), DC.b ((a.getD 1 d0).bb), DC.s ((a.getD 2 d0).ss), DC.s ((a.getD 3 d0).ss), DC.sl ((a.getD 4 d0).ll), DC.sl ((a.getD 5 d0).ll), DC.sl ((a.getD 6 d0).ll), DC.sl ((a.getD 7 d0).ll), DC.sl ((a.getD 8 d0).ll), DC.b ((a.getD 9 d0).bb), DC.sl ((a.getD 10 d0).ll), DC.i ((a.getD 11 d0).ii), DC.b ((a.getD 12 d0).bb), DC.s ((a.getD 13 d0).ss), DC.s ((a.getD 14 d0).ss), DC.sl ((a.getD 15 d0).ll), DC.sl ((a.getD 16 d0).ll), DC.sl ((a.getD 17 d0).ll), DC.sl ((a.getD 18 d0).ll), DC.sl ((a.getD 19 d0).ll), DC.b ((a.getD 20 d0).bb), DC.sl ((a.getD 21 d0).ll)]
                  else
                    if ((((a.getD 7 d0).ll).length : Int) != (((a.getD 18 d0).ll).length : Int)) = true then
                      .norm [DC.b true, DC.i ((a.getD 0 d0).ii), DC.b ((a.getD 1 d0).bb), DC.s ((a.getD 2 d0).ss), DC.s ((a.getD 3 d0).ss), DC.sl ((a.getD 4 d0).ll), DC.sl ((a.getD 5 d0).ll), DC.sl ((a.getD 6 d0).ll), DC.sl ((a.getD 7 d0).ll), DC.sl ((a.getD 8 d0).ll), DC.b ((a.getD 9 d0).bb), DC.sl ((a.getD 10 d0).ll), DC.i ((a.getD 11 d0).ii), DC.b ((a.getD 12 d0).bb), DC.s ((a.getD 13 d0).ss), DC.s ((a.getD 14 d0).ss), DC.sl ((a.getD 15 d0).ll), DC.sl ((a.getD 16 d0).ll), DC.sl ((a.getD 17 d0).ll), DC.sl ((a.getD 18 d0).ll), DC.sl ((a.getD 19 d0).ll), DC.b ((a.getD 20 d0).bb), DC.sl ((a.getD 21 d0).ll)]
                    else
                      if ((((a.getD 8 d0).ll).length : Int) != (((a.getD 19 d0).ll).length : Int)) = true then
                        .norm [DC.b true, DC.i ((a.getD 0 d0).ii), DC.b ((a.getD 1 d0).bb), DC.s ((a.getD 2 d0).ss), DC.s ((a.getD 3 d0).ss), DC.sl ((a.getD 4 d0).ll), DC.sl ((a.getD 5 d0).ll), DC.sl ((a.getD 6 d0).ll), DC.sl ((a.getD 7 d0).ll), DC.sl ((a.getD 8 d0).ll), DC.b ((a.getD 9 d0).bb), DC.sl ((a.getD 10 d0).ll), DC.i ((a.getD 11 d0).ii), DC.b ((a.getD 12 d0).bb), DC.s ((a.getD 13 d0).ss), DC.s ((a.getD 14 d0).ss), DC.sl ((a.getD 15 d0).ll), DC.sl ((a.getD 16 d0).ll), DC.sl ((a.getD 17 d0).ll), DC.sl ((a.getD 18 d0).ll), DC.sl ((a.getD 19 d0).ll), DC.b ((a.getD 20 d0).bb), DC.sl ((a.getD 21 d0).ll)]
                      else
                        (r_spec_l14SameIn [DC.sl ((a.getD 6 d0).ll), DC.sl ((a.getD 17 d0).ll)]).bindR fun r1 =>
                        if (!((r1.getD 0 d0).bb)) = true then
                          .norm [DC.b true, DC.i ((a.getD 0 d0).ii), DC.b ((a.getD 1 d0).bb), DC.s ((a.getD 2 d0).ss), DC.s ((a.getD 3 d0).ss), DC.sl ((a.getD 4 d0).ll), DC.sl ((a.getD 5 d0).ll), DC.sl ((a.getD 6 d0).ll), DC.sl ((a.getD 7 d0).ll), DC.sl ((a.getD 8 d0).ll), DC.b ((a.getD 9 d0).bb), DC.sl ((a.getD 10 d0).ll), DC.i ((a.getD 11 d0).ii), DC.b ((a.getD 12 d0).bb), DC.s ((a.getD 13 d0).ss), DC.s ((a.getD 14 d0).ss), DC.sl ((a.getD 15 d0).ll), DC.sl ((a.getD 16 d0).ll), DC.sl ((a.getD 17 d0).ll), DC.sl ((a.getD 18 d0).ll), DC.sl ((a.getD 19 d0).ll), DC.b ((a.getD 20 d0).bb), DC.sl ((a.getD 21 d0).ll)]
                        else
                          (r_spec_l10SameDirs [DC.sl ((a.getD 10 d0).ll), DC.sl ((a.getD 21 d0).ll)]).bindR fun r2 =>
                          .norm [DC.b (!((r2.getD 0 d0).bb)), DC.i ((a.getD 0 d0).ii), DC.b ((a.getD 1 d0).bb), DC.s ((a.getD 2 d0).ss), DC.s ((a.getD 3 d0).ss), DC.sl ((a.getD 4 d0).ll), DC.sl ((a.getD 5 d0).ll), DC.sl ((a.getD 6 d0).ll), DC.sl ((a.getD 7 d0).ll), DC.sl ((a.getD 8 d0).ll), DC.b ((a.getD 9 d0).bb), DC.sl ((a.getD 10 d0).ll), DC.i ((a.getD 11 d0).ii), DC.b ((a.getD 12 d0).bb), DC.s ((a.getD 13 d0).ss), DC.s ((a.getD 14 d0).ss), DC.sl ((a.getD 15 d0).ll), DC.sl ((a.getD 16 d0).ll), DC.sl ((a.getD 17 d0).ll), DC.sl ((a.getD 18 d0).ll), DC.sl ((a.getD 19 d0).ll), DC.b ((a.getD 20 d0).bb), DC.sl ((a.getD 21 d0).ll)]) fun v3 =>
    if (v3.getD 0 d0).bb = true then
      .ret [DC.b false]
    else
      Out.andThenB (Loop E_spec_l14SameDefL1 [DC.i (0 : Int), DC.i ((v3.getD 1 d0).ii), DC.b ((v3.getD 2 d0).bb), DC.s ((v3.getD 3 d0).ss), DC.s ((v3.getD 4 d0).ss), DC.sl ((v3.getD 5 d0).ll), DC.sl ((v3.getD 6 d0).ll), DC.sl ((v3.getD 7 d0).ll), DC.sl ((v3.getD 8 d0).ll), DC.sl ((v3.getD 9 d0).ll), DC.b ((v3.getD 10 d0).bb), DC.sl ((v3.getD 11 d0).ll), DC.i ((v3.getD 12 d0).ii), DC.b ((v3.getD 13 d0).bb), DC.s ((v3.getD 14 d0).ss), DC.s ((v3.getD 15 d0).ss), DC.sl ((v3.getD 16 d0).ll), DC.sl ((v3.getD 17 d0).ll), DC.sl ((v3.getD 18 d0).ll), DC.sl ((v3.getD 19 d0).ll), DC.sl ((v3.getD 20 d0).ll), DC.b ((v3.getD 21 d0).bb), DC.sl ((v3.getD 22 d0).ll)]) 0 fun v6 =>
      Out.andThenB (Loop E_spec_l14SameDefL2 [DC.i (0 : Int), DC.i ((v6.getD 0 d0).ii), DC.b ((v6.getD 1 d0).bb), DC.s ((v6.getD 2 d0).ss), DC.s ((v6.getD 3 d0).ss), DC.sl ((v6.getD 4 d0).ll), DC.sl ((v6.getD 5 d0).ll), DC.sl ((v6.getD 6 d0).ll), DC.sl ((v6.getD 7 d0).ll), DC.sl ((v6.getD 8 d0).ll), DC.b ((v6.getD 9 d0).bb), DC.sl ((v6.getD 10 d0).ll), DC.i ((v6.getD 11 d0).ii), DC.b ((v6.getD 12 d0).bb), DC.s ((v6.getD 13 d0).ss), DC.s ((v6.getD 14 d0).ss), DC.sl ((v6.getD 15 d0).ll), DC.sl ((v6.getD 16 d0).ll), DC.sl ((v6.getD 17 d0).ll), DC.sl ((v6.getD 18 d0).ll), DC.sl ((v6.getD 19 d0).ll), DC.b ((v6.getD 20 d0).bb), DC.sl ((v6.getD 21 d0).ll)]) 2 fun v12 =>
      Out.andThenB (Loop E_spec_l14SameDefL3 [DC.i (0 : Int), DC.i ((v12.getD 0 d0).ii), DC.b ((v12.getD 1 d0).bb), DC.s ((v12.getD 2 d0).ss), DC.s ((v12.getD 3 d0).ss), DC.sl ((v12.getD 4 d0).ll), DC.sl ((v12.getD 5 d0).ll), DC.sl ((v12.getD 6 d0).ll), DC.sl ((v12.getD 7 d0).ll), DC.sl ((v12.getD 8 d0).ll), DC.b ((v12.getD 9 d0).bb), DC.sl ((v12.getD 10 d0).ll), DC.i ((v12.getD 11 d0).ii), DC.b ((v12.getD 12 d0).bb), DC.s ((v12.getD 13 d0).ss), DC.s ((v12.getD 14 d0).ss), DC.sl ((v12.getD 15 d0).ll), DC.sl ((v12.getD 16 d0).ll), DC.sl ((v12.getD 17 d0).ll), DC.sl ((v12.getD 18 d0).ll), DC.sl ((v12.getD 19 d0).ll), DC.b ((v12.getD 20 d0).bb), DC.sl ((v12.getD 21 d0).ll)]) 4 fun v17 =>
      Out.andThenB (Loop E_spec_l14SameDefL4 [DC.i (0 : Int), DC.i ((v17.getD 0 d0).ii), DC.b ((v17.getD 1 d0).bb), DC.s ((v17.getD 2 d0).ss), DC.s ((v17.getD 3 d0).ss), DC.sl ((v17.getD 4 d0).ll), DC.sl ((v17.getD 5 d0).ll), DC.sl ((v17.getD 6 d0).ll), DC.sl ((v17.getD 7 d0).ll), DC.sl ((v17.getD 8 d0).ll), DC.b ((v17.getD 9 d0).bb), DC.sl ((v17.getD 10 d0).ll), DC.i ((v17.getD 11 d0).ii), DC.b ((v17.getD 12 d0).bb), DC.s ((v17.getD 13 d0).ss), DC.s ((v17.getD 14 d0).ss), DC.sl ((v17.getD 15 d0).ll), DC.sl ((v17.getD 16 d0).ll), DC.sl ((v17.getD 17 d0).ll), DC.sl ((v17.getD 18 d0).ll), DC.sl ((v17.getD 19 d0).ll), DC.b ((v17.getD 20 d0).bb), DC.sl ((v17.getD 21 d0).ll)]) 6 fun v20 =>
      .ret [DC.b true]
theorem eq_spec_l14SameDef (a : List DC) : r_spec_l14SameDef a = E_spec_l14SameDef a := (Run_eq cfg 13 h_spec_l14SameDef a).trans (by kernel_rfl)
end Go.Proofs.YtljggmbgbnmapaaGreatV
