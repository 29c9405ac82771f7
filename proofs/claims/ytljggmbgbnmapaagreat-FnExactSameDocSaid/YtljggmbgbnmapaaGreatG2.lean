/- What the functions do, and that they do (written by a program). -/
import Derived.Test.YtljggmbgbnmapaaGreatG0
namespace Go.Proofs.YtljggmbgbnmapaaGreatV
open Go
set_option linter.unusedVariables false
set_option maxRecDepth 100000
noncomputable def E_slices_EqualFunc_impl_Item__impl_sameItemL1 : List DC → Out := fun v1 =>
    if (decide ((v1.getD 3 d0).ii < (v1.getD 2 d0).ii)) = true then
      Out.andThenB (if 48 = 48 ∧ 0 ≤ (v1.getD 3 d0).ii ∧ (v1.getD 3 d0).ii < (((v1.getD 1 d0).ll).length : Int) then
          if 48 = 48 ∧ 0 ≤ (v1.getD 3 d0).ii ∧ (v1.getD 3 d0).ii < (((v1.getD 0 d0).ll).length : Int) then
            (r_impl_sameItem [DC.i (((((v1.getD 1 d0).ll).getD ((v1.getD 3 d0).ii).toNat []).getD 0 d0).ii), DC.i (((((v1.getD 1 d0).ll).getD ((v1.getD 3 d0).ii).toNat []).getD 1 d0).ii), DC.s (((((v1.getD 1 d0).ll).getD ((v1.getD 3 d0).ii).toNat []).getD 2 d0).ss), DC.sl (((((v1.getD 1 d0).ll).getD ((v1.getD 3 d0).ii).toNat []).getD 3 d0).ll), DC.sl (((((v1.getD 1 d0).ll).getD ((v1.getD 3 d0).ii).toNat []).getD 4 d0).ll), DC.sl (((((v1.getD 1 d0).ll).getD ((v1.getD 3 d0).ii).toNat []).getD 5 d0).ll), DC.s (((((v1.getD 1 d0).ll).getD ((v1.getD 3 d0).ii).toNat []).getD 6 d0).ss), DC.s (((((v1.getD 1 d0).ll).getD ((v1.getD 3 d0).ii).toNat []).getD 7 d0).ss), DC.sl (((((v1.getD 1 d0).ll).getD ((v1.getD 3 d0).ii).toNat []).getD 8 d0).ll), DC.sl (((((v1.getD 1 d0).ll).getD ((v1.getD 3 d0).ii).toNat []).getD 9 d0).ll), DC.i (((((v1.getD 1 d0).ll).getD ((v1.getD 3 d0).ii).toNat []).getD 10 d0).ii), DC.b (((((v1.getD 1 d0).ll).getD ((v1.getD 3 d0).ii).toNat []).getD 11 d0).bb), DC.s (((((v1.getD 1 d0).ll).getD ((v1.getD 3 d0).ii).toNat []).getD 12 d0).ss), DC.s (((((v1.getD 1 d0).ll).getD ((v1.getD 3 d0).ii).toNat []).getD 13 d0).ss), DC.sl (((((v1.getD 1 d0).ll).getD ((v1.getD 3 d0).ii).toNat []).getD 14 d0).ll), DC.sl (((((v1.getD 1 d0).ll).getD ((v1.getD 3 d0).ii).toNat []).getD 15 d0).ll), DC.sl (((((v1.getD 1 d0).ll).getD ((v1.getD 3 d0).ii).toNat []).getD 16 d0).ll), DC.sl (((((v1.getD 1 d0).ll).getD ((v1.getD 3 d0).ii).toNat []).getD 17 d0).ll), DC.sl (((((v1.getD 1 d0).ll).getD ((v1.getD 3 d0).ii).toNat []).getD 18 d0).ll), DC.b (((((v1.getD 1 d0).ll).getD ((v1.getD 3 d0).ii).toNat []).getD 19 d0).bb), DC.sl (((((v1.getD 1 d0).ll).getD ((v1.getD 3 d0).ii).toNat []).getD 20 d0).ll), DC.i (((((v1.getD 0 d0).ll).getD ((v1.getD 3 d0).ii).toNat []).getD 0 d0).ii), DC.i (((((v1.getD 0 d0).ll).getD ((v1.getD 3 d0).ii).toNat []).getD 1 d0).ii), DC.s (((((v1.getD 0 d0).ll).getD ((v1.getD 3 d0).ii).toNat []).getD 2 d0).ss), DC.sl (((((v1.getD 0 d0).ll).getD ((v1.getD 3 d0).ii).toNat []).getD 3 d0).ll), DC.sl (((((v1.getD 0 d0).ll).getD ((v1.getD 3 d0).ii).toNat []).getD 4 d0).ll), DC.sl (((((v1.getD 0 d0).ll).getD ((v1.getD 3 d0).ii).toNat []).getD 5 d0).ll), DC.s (((((v1.getD 0 d0).ll).getD ((v1.getD 3 d0).ii).toNat []).getD 6 d0).ss), DC.s (((((v1.getD 0 d0).ll).getD ((v1.getD 3 d0).ii).toNat []).getD 7 d0).ss), DC.sl (((((v1.getD 0 d0).ll).getD ((v1.getD 3 d0).ii).toNat []).getD 8 d0).ll), DC.sl (((((v1.getD 0 d0).ll).getD ((v1.getD 3 d0).ii).toNat []).getD 9 d0).ll), DC.i (((((v1.getD 0 d0).ll).getD ((v1.getD 3 d0).ii).toNat []).getD 10 d0).ii), DC.b (((((v1.getD 0 d0).ll).getD ((v1.getD 3 d0).ii).toNat []).getD 11 d0).bb), DC.s (((((v1.getD 0 d0).ll).getD ((v1.getD 3 d0).ii).toNat []).getD 12 d0).ss), DC.s (((((v1.getD 0 d0).ll).getD ((v1.getD 3 d0).ii).toNat []).getD 13 d0).ss), DC.sl (((((v1.getD 0 d0).ll).getD ((v1.getD 3 d0).ii).toNat []).getD 14 d0).ll), DC.sl (((((v1.getD 0 d0).ll).getD ((v1.getD 3 d0).ii).toNat []).getD 15 d0).ll), DC.sl (((((v1.getD 0 d0).ll).getD ((v1.getD 3 d0).ii).toNat []).getD 16 d0).ll), DC.sl (((((v1.getD 0 d0).ll).getD ((v1.getD 3 d0).ii).toNat []).getD 17 d0).ll), DC.sl (((((v1.getD 0 d0).ll).getD ((v1.getD 3 d0).ii).toNat []).getD 18 d0).ll), DC.b (((((v1.getD 0 d0).ll).getD ((v1.getD 3 d0).ii).toNat []).getD 19 d0).bb), DC.sl (((((v1.getD 0 d0).ll).getD ((v1.getD 3 d0).ii).toNat []).getD 20 d0).ll)]).bindR fun r2 =>
            if (!((r2.getD 0 d0).bb)) = true then
              .ret [DC.b false]
            else
              .norm [DC.sl ((v1.getD 0 d0).ll), DC.sl ((v1.getD 1 d0).ll), DC.i ((v1.getD 2 d0).ii), DC.i ((v1.getD 3 d0).ii)]
          else
            .fail
        else
          .fail) 1 fun v3 =>
      .norm [DC.sl ((v3.getD 0 d0).ll), DC.sl ((v3.getD 1 d0).ll), DC.i ((v3.getD 2 d0).ii), DC.i (IntKind.i64.wrap ((v3.getD 3 d0).ii + (1 : Int)))]
    else
      .ex 0 []
/-- slices.EqualFunc[[]loop.example/g00964/impl.Item,[]loop.example/g00964/impl.Item,loop.example/g00964/impl.Item,loop.example/g00964/impl.Item] -/
noncomputable def E_slices_EqualFunc_impl_Item__impl_sameItem (a : List DC) : Out :=
    if ((((a.getD 0 d0).ll).length : Int) != (((a.getD 1 d0).ll).length : Int)) = true then
      .ret [DC.b false]
    else
      Out.andThenB (Loop E_slices_EqualFunc_impl_Item__impl_sameItemL1 [DC.sl ((a.getD 1 d0).ll), DC.sl ((a.getD 0 d0).ll), DC.i (((a.getD 0 d0).ll).length : Int), DC.i (0 : Int)]) 0 fun v4 =>
      .ret [DC.b true]
theorem eq_slices_EqualFunc_impl_Item__impl_sameItem (a : List DC) : r_slices_EqualFunc_impl_Item__impl_sameItem a = E_slices_EqualFunc_impl_Item__impl_sameItem a := (Run_eq cfg 15 h_slices_EqualFunc_impl_Item__impl_sameItem a).trans (by kernel_rfl)
noncomputable def E_laws_eqItemSL1 : List DC → Out := fun v1 =>
    if (decide ((v1.getD 2 d0).ii < (((v1.getD 0 d0).ll).length : Int))) = true then
      Out.andThenB (if 48 = 48 ∧ 0 ≤ (v1.getD 2 d0).ii ∧ (v1.getD 2 d0).ii < (((v1.getD 0 d0).ll).length : Int) then
          if 48 = 48 ∧ 0 ≤ (v1.getD 2 d0).ii ∧ (v1.getD 2 d0).ii < (((v1.getD 1 d0).ll).length : Int) then
            (r_laws_eqItem [DC.i (((((v1.getD 0 d0).ll).getD ((v1.getD 2 d0).ii).toNat []).getD 0 d0).ii), DC.i (((((v1.getD 0 d0).ll).getD ((v1.getD 2 d0).ii).toNat []).getD 1 d0).ii), DC.s (((((v1.getD 0 d0).ll).getD ((v1.getD 2 d0).ii).toNat []).getD 2 d0).ss), DC.sl (((((v1.getD 0 d0).ll).getD ((v1.getD 2 d0).ii).toNat []).getD 3 d0).ll), DC.sl (((((v1.getD 0 d0).ll).getD ((v1.getD 2 d0).ii).toNat []).getD 4 d0).ll), DC.sl (((((v1.getD 0 d0).ll).getD ((v1.getD 2 d0).ii).toNat []).getD 5 d0).ll), DC.s (((((v1.getD 0 d0).ll).getD ((v1.getD 2 d0).ii).toNat []).getD 6 d0).ss), DC.s (((((v1.getD 0 d0).ll).getD ((v1.getD 2 d0).ii).toNat []).getD 7 d0).ss), DC.sl (((((v1.getD 0 d0).ll).getD ((v1.getD 2 d0).ii).toNat []).getD 8 d0).ll), DC.sl (((((v1.getD 0 d0).ll).getD ((v1.getD 2 d0).ii).toNat []).getD 9 d0).ll), DC.i (((((v1.getD 0 d0).ll).getD ((v1.getD 2 d0).ii).toNat []).getD 10 d0).ii), DC.b (((((v1.getD 0 d0).ll).getD ((v1.getD 2 d0).ii).toNat []).getD 11 d0).bb), DC.s (((((v1.getD 0 d0).ll).getD ((v1.getD 2 d0).ii).toNat []).getD 12 d0).ss), DC.s (((((v1.getD 0 d0).ll).getD ((v1.getD 2 d0).ii).toNat []).getD 13 d0).ss), DC.sl (((((v1.getD 0 d0).ll).getD ((v1.getD 2 d0).ii).toNat []).getD 14 d0).ll), DC.sl (((((v1.getD 0 d0).ll).getD ((v1.getD 2 d0).ii).toNat []).getD 15 d0).ll), DC.sl (((((v1.getD 0 d0).ll).getD ((v1.getD 2 d0).ii).toNat []).getD 16 d0).ll), DC.sl (((((v1.getD 0 d0).ll).getD ((v1.getD 2 d0).ii).toNat []).getD 17 d0).ll), DC.sl (((((v1.getD 0 d0).ll).getD ((v1.getD 2 d0).ii).toNat []).getD 18 d0).ll), DC.b (((((v1.getD 0 d0).ll).getD ((v1.getD 2 d0).ii).toNat []).getD 19 d0).bb), DC.sl (((((v1.getD 0 d0).ll).getD ((v1.getD 2 d0).ii).toNat []).getD 20 d0).ll), DC.i (((((v1.getD 1 d0).ll).getD ((v1.getD 2 d0).ii).toNat []).getD 0 d0).ii), DC.i (((((v1.getD 1 d0).ll).getD ((v1.getD 2 d0).ii).toNat []).getD 1 d0).ii), DC.s (((((v1.getD 1 d0).ll).getD ((v1.getD 2 d0).ii).toNat []).getD 2 d0).ss), DC.sl (((((v1.getD 1 d0).ll).getD ((v1.getD 2 d0).ii).toNat []).getD 3 d0).ll), DC.sl (((((v1.getD 1 d0).ll).getD ((v1.getD 2 d0).ii).toNat []).getD 4 d0).ll), DC.sl (((((v1.getD 1 d0).ll).getD ((v1.getD 2 d0).ii).toNat []).getD 5 d0).ll), DC.s (((((v1.getD 1 d0).ll).getD ((v1.getD 2 d0).ii).toNat []).getD 6 d0).ss), DC.s (((((v1.getD 1 d0).ll).getD ((v1.getD 2 d0).ii).toNat []).getD 7 d0).ss), DC.sl (((((v1.getD 1 d0).ll).getD ((v1.getD 2 d0).ii).toNat []).getD 8 d0).ll), DC.sl (((((v1.getD 1 d0).ll).getD ((v1.getD 2 d0).ii).toNat []).getD 9 d0).ll), DC.i (((((v1.getD 1 d0).ll).getD ((v1.getD 2 d0).ii).toNat []).getD 10 d0).ii), DC.b (((((v1.getD 1 d0).ll).getD ((v1.getD 2 d0).ii).toNat []).getD 11 d0).bb), DC.s (((((v1.getD 1 d0).ll).getD ((v1.getD 2 d0).ii).toNat []).getD 12 d0).ss), DC.s (((((v1.getD 1 d0).ll).getD ((v1.getD 2 d0).ii).toNat []).getD 13 d0).ss), DC.sl (((((v1.getD 1 d0).ll).getD ((v1.getD 2 d0).ii).toNat []).getD 14 d0).ll), DC.sl (((((v1.getD 1 d0).ll).getD ((v1.getD 2 d0).ii).toNat []).getD 15 d0).ll), DC.sl (((((v1.getD 1 d0).ll).getD ((v1.getD 2 d0).ii).toNat []).getD 16 d0).ll), DC.sl (((((v1.getD 1 d0).ll).getD ((v1.getD 2 d0).ii).toNat []).getD 17 d0).ll), DC.sl (((((v1.getD 1 d0).ll).getD ((v1.getD 2 d0).ii).toNat []).getD 18 d0).ll), DC.b (((((v1.getD 1 d0).ll).getD ((v1.getD 2 d0).ii).toNat []).getD 19 d0).bb), DC.sl (((((v1.getD 1 d0).ll).getD ((v1.getD 2 d0).ii).toNat []).getD 20 d0).ll)]).bindR fun r2 =>
            if (!((r2.getD 0 d0).bb)) = true then
              .ret [DC.b false]
            else
              .norm [DC.sl ((v1.getD 0 d0).ll), DC.sl ((v1.getD 1 d0).ll), DC.i ((v1.getD 2 d0).ii)]
          else
            .fail
        else
          .fail) 1 fun v3 =>
      .norm [DC.sl ((v3.getD 0 d0).ll), DC.sl ((v3.getD 1 d0).ll), DC.i (IntKind.i64.wrap ((v3.getD 2 d0).ii + (1 : Int)))]
    else
      .ex 0 []
/-- loop.example/g00964/laws.eqItemS -/
noncomputable def E_laws_eqItemS (a : List DC) : Out :=
    if ((((a.getD 0 d0).ll).length : Int) != (((a.getD 1 d0).ll).length : Int)) = true then
      .ret [DC.b false]
    else
      Out.andThenB (Loop E_laws_eqItemSL1 [DC.sl ((a.getD 0 d0).ll), DC.sl ((a.getD 1 d0).ll), DC.i (0 : Int)]) 0 fun v4 =>
      .ret [DC.b true]
theorem eq_laws_eqItemS (a : List DC) : r_laws_eqItemS a = E_laws_eqItemS a := (Run_eq cfg 17 h_laws_eqItemS a).trans (by kernel_rfl)
/-- loop.example/g00964/laws.szItem -/
noncomputable def E_laws_szItem (a : List DC) : Out :=
    (r_laws_szOp [DC.i ((a.getD 1 d0).ii), DC.s ((a.getD 2 d0).ss), DC.sl ((a.getD 3 d0).ll), DC.sl ((a.getD 4 d0).ll), DC.sl ((a.getD 5 d0).ll), DC.i ((a.getD 21 d0).ii)]).bindR fun r1 =>
    if (decide ((r1.getD 0 d0).ii < (0 : Int))) = true then
      .ret [DC.i (-1 : Int)]
    else
      (r_laws_szFrag [DC.s ((a.getD 6 d0).ss), DC.s ((a.getD 7 d0).ss), DC.sl ((a.getD 8 d0).ll), DC.sl ((a.getD 9 d0).ll), DC.i ((r1.getD 0 d0).ii)]).bindR fun r2 =>
      if (decide ((r2.getD 0 d0).ii < (0 : Int))) = true then
        .ret [DC.i (-1 : Int)]
      else
        (r_laws_szDef [DC.i ((a.getD 10 d0).ii), DC.b ((a.getD 11 d0).bb), DC.s ((a.getD 12 d0).ss), DC.s ((a.getD 13 d0).ss), DC.sl ((a.getD 14 d0).ll), DC.sl ((a.getD 15 d0).ll), DC.sl ((a.getD 16 d0).ll), DC.sl ((a.getD 17 d0).ll), DC.sl ((a.getD 18 d0).ll), DC.b ((a.getD 19 d0).bb), DC.sl ((a.getD 20 d0).ll), DC.i ((r2.getD 0 d0).ii)]).bindR fun r3 =>
        if (decide ((r3.getD 0 d0).ii < (0 : Int))) = true then
          .ret [DC.i (-1 : Int)]
        else
          .ret [DC.i ((r3.getD 0 d0).ii)]
theorem eq_laws_szItem (a : List DC) : r_laws_szItem a = E_laws_szItem a := (Run_eq cfg 18 h_laws_szItem a).trans (by kernel_rfl)
/-- loop.example/g00964/laws.toItem -/
noncomputable def E_laws_toItem (a : List DC) : Out :=
    (r_laws_toOp [DC.i ((a.getD 1 d0).ii), DC.s ((a.getD 2 d0).ss), DC.sl ((a.getD 3 d0).ll), DC.sl ((a.getD 4 d0).ll), DC.sl ((a.getD 5 d0).ll)]).bindR fun r1 =>
    (r_laws_toFrag [DC.s ((a.getD 6 d0).ss), DC.s ((a.getD 7 d0).ss), DC.sl ((a.getD 8 d0).ll), DC.sl ((a.getD 9 d0).ll)]).bindR fun r2 =>
    (r_laws_toDef [DC.i ((a.getD 10 d0).ii), DC.b ((a.getD 11 d0).bb), DC.s ((a.getD 12 d0).ss), DC.s ((a.getD 13 d0).ss), DC.sl ((a.getD 14 d0).ll), DC.sl ((a.getD 15 d0).ll), DC.sl ((a.getD 16 d0).ll), DC.sl ((a.getD 17 d0).ll), DC.sl ((a.getD 18 d0).ll), DC.b ((a.getD 19 d0).bb), DC.sl ((a.getD 20 d0).ll)]).bindR fun r3 =>
    .ret [DC.i ((a.getD 0 d0).ii), DC.i ((r1.getD 0 d0).ii), DC.s ((r1.getD 1 d0).ss), DC.sl ((r1.getD 2 d0).ll), DC.sl ((r1.getD 3 d0).ll), DC.sl ((r1.getD 4 d0).ll), DC.s ((r2.getD 0 d0).ss), DC.s ((r2.getD 1 d0).ss), DC.sl ((r2.getD 2 d0).ll), DC.sl ((r2.getD 3 d0).ll), DC.i ((r3.getD 0 d0).ii), DC.b ((r3.getD 1 d0).bb), DC.s ((r3.getD 2 d0).ss), DC.s ((r3.getD 3 d0).ss), DC.sl ((r3.getD 4 d0).ll), DC.sl ((r3.getD 5 d0).ll), DC.sl ((r3.getD 6 d0).ll), DC.sl ((r3.getD 7 d0).ll), DC.sl ((r3.getD 8 d0).ll), DC.b ((r3.getD 9 d0).bb), DC.sl ((r3.getD 10 d0).ll)]
theorem eq_laws_toItem (a : List DC) : r_laws_toItem a = E_laws_toItem a := (Run_eq cfg 22 h_laws_toItem a).trans (by kernel_rfl)
noncomputable def E_spec_SameValueL1 : List DC → Out := fun v2 =>
    if (decide ((v2.getD 0 d0).ii < (((v2.getD 4 d0).ll).length : Int))) = true then
      Out.andThenB (if 9 = 9 ∧ 0 ≤ (v2.getD 0 d0).ii ∧ (v2.getD 0 d0).ii < (((v2.getD 4 d0).ll).length : Int) then
          if 9 = 9 ∧ 0 ≤ (v2.getD 0 d0).ii ∧ (v2.getD 0 d0).ii < (((v2.getD 8 d0).ll).length : Int) then
            if (!(((((v2.getD 4 d0).ll).getD ((v2.getD 0 d0).ii).toNat []).getD 0 d0).ss == ((((v2.getD 8 d0).ll).getD ((v2.getD 0 d0).ii).toNat []).getD 0 d0).ss)) = true then
              .ret [DC.b false]
            else
              .norm [DC.i ((v2.getD 0 d0).ii), DC.i ((v2.getD 1 d0).ii), DC.s ((v2.getD 2 d0).ss), DC.sl ((v2.getD 3 d0).ll), DC.sl ((v2.getD 4 d0).ll), DC.i ((v2.getD 5 d0).ii), DC.s ((v2.getD 6 d0).ss), DC.sl ((v2.getD 7 d0).ll), DC.sl ((v2.getD 8 d0).ll)]
          else
            .fail
        else
          .fail) 1 fun v3 =>
      .norm [DC.i (IntKind.i64.wrap ((v3.getD 0 d0).ii + (1 : Int))), DC.i ((v3.getD 1 d0).ii), DC.s ((v3.getD 2 d0).ss), DC.sl ((v3.getD 3 d0).ll), DC.sl ((v3.getD 4 d0).ll), DC.i ((v3.getD 5 d0).ii), DC.s ((v3.getD 6 d0).ss), DC.sl ((v3.getD 7 d0).ll), DC.sl ((v3.getD 8 d0).ll)]
    else
      .ex 0 [DC.i ((v2.getD 1 d0).ii), DC.s ((v2.getD 2 d0).ss), DC.sl ((v2.getD 3 d0).ll), DC.sl ((v2.getD 4 d0).ll), DC.i ((v2.getD 5 d0).ii), DC.s ((v2.getD 6 d0).ss), DC.sl ((v2.getD 7 d0).ll), DC.sl ((v2.getD 8 d0).ll)]
noncomputable def E_spec_SameValueL2 : List DC → Out := fun v5 =>
    if (decide ((v5.getD 0 d0).ii < (((v5.getD 3 d0).ll).length : Int))) = true then
      Out.andThenB (if 77 = 77 ∧ 0 ≤ (v5.getD 0 d0).ii ∧ (v5.getD 0 d0).ii < (((v5.getD 3 d0).ll).length : Int) then
          if 77 = 77 ∧ 0 ≤ (v5.getD 0 d0).ii ∧ (v5.getD 0 d0).ii < (((v5.getD 7 d0).ll).length : Int) then
            (r_spec_SameValue [DC.i (((((v5.getD 3 d0).ll).getD ((v5.getD 0 d0).ii).toNat []).getD 0 d0).ii), DC.s (((((v5.getD 3 d0).ll).getD ((v5.getD 0 d0).ii).toNat []).getD 1 d0).ss), DC.sl (((((v5.getD 3 d0).ll).getD ((v5.getD 0 d0).ii).toNat []).getD 2 d0).ll), DC.sl (((((v5.getD 3 d0).ll).getD ((v5.getD 0 d0).ii).toNat []).getD 3 d0).ll), DC.i (((((v5.getD 7 d0).ll).getD ((v5.getD 0 d0).ii).toNat []).getD 0 d0).ii), DC.s (((((v5.getD 7 d0).ll).getD ((v5.getD 0 d0).ii).toNat []).getD 1 d0).ss), DC.sl (((((v5.getD 7 d0).ll).getD ((v5.getD 0 d0).ii).toNat []).getD 2 d0).ll), DC.sl (((((v5.getD 7 d0).ll).getD ((v5.getD 0 d0).ii).toNat []).getD 3 d0).ll)]).bindR fun r6 =>
            if (!((r6.getD 0 d0).bb)) = true then
              .ret [DC.b false]
            else
              .norm [DC.i ((v5.getD 0 d0).ii), DC.i ((v5.getD 1 d0).ii), DC.s ((v5.getD 2 d0).ss), DC.sl ((v5.getD 3 d0).ll), DC.sl ((v5.getD 4 d0).ll), DC.i ((v5.getD 5 d0).ii), DC.s ((v5.getD 6 d0).ss), DC.sl ((v5.getD 7 d0).ll), DC.sl ((v5.getD 8 d0).ll)]
          else
            .fail
        else
          .fail) 3 fun v7 =>
      .norm [DC.i (IntKind.i64.wrap ((v7.getD 0 d0).ii + (1 : Int))), DC.i ((v7.getD 1 d0).ii), DC.s ((v7.getD 2 d0).ss), DC.sl ((v7.getD 3 d0).ll), DC.sl ((v7.getD 4 d0).ll), DC.i ((v7.getD 5 d0).ii), DC.s ((v7.getD 6 d0).ss), DC.sl ((v7.getD 7 d0).ll), DC.sl ((v7.getD 8 d0).ll)]
    else
      .ex 2 []
/-- loop.example/g00964/spec.SameValue -/
noncomputable def E_spec_SameValue (a : List DC) : Out :=
    Out.andThen (if ((a.getD 0 d0).ii != (a.getD 4 d0).ii) = true then
        .norm [DC.b true, DC.i ((a.getD 0 d0).ii), DC.s ((a.getD 1 d0).ss), DC.sl ((a.getD 2 d0).ll), DC.sl ((a.getD 3 d0).ll), DC.i ((a.getD 4 d0).ii), DC.s ((a.getD 5 d0).ss), DC.sl ((a.getD 6 d0).ll), DC.sl ((a.getD 7 d0).ll)]
      else
        if (!((a.getD 1 d0).ss == (a.getD 5 d0).ss)) = true then
          .norm [DC.b true, DC.i ((a.getD 0 d0).ii), DC.s ((a.getD 1 d0).ss), DC.sl ((a.getD 2 d0).ll), DC.sl ((a.getD 3 d0).ll), DC.i ((a.getD 4 d0).ii), DC.s ((a.getD 5 d0).ss), DC.sl ((a.getD 6 d0).ll), DC.sl ((a.getD 7 d0).ll)]
        else
          if ((((a.getD 2 d0).ll).length : Int) != (((a.getD 6 d0).ll).length : Int)) = true then
            .norm [DC.b true, DC.i ((a.getD 0 d0).ii), DC.s ((a.getD 1 d0).ss), DC.sl ((a.getD 2 d0).ll), DC.sl ((a.getD 3 d0).ll), DC.i ((a.getD 4 d0).ii), DC.s ((a.getD 5 d0).ss), DC.sl ((a.getD 6 d0).ll), DC.sl ((a.getD 7 d0).ll)]
          else
            .norm [DC.b ((((a.getD 3 d0).ll).length : Int) != (((a.getD 7 d0).ll).length : Int)), DC.i ((a.getD 0 d0).ii), DC.s ((a.getD 1 d0).ss), DC.sl ((a.getD 2 d0).ll), DC.sl ((a.getD 3 d0).ll), DC.i ((a.getD 4 d0).ii), DC.s ((a.getD 5 d0).ss), DC.sl ((a.getD 6 d0).ll), DC.sl ((a.getD 7 d0).ll)]) fun v1 =>
    if (v1.getD 0 d0).bb = true then
      .ret [DC.b false]
    else
      Out.andThenB (Loop E_spec_SameValueL1 [DC.i (0 : Int), DC.i ((v1.getD 1 d0).ii), DC.s ((v1.getD 2 d0).ss), DC.sl ((v1.getD 3 d0).ll), DC.sl ((v1.getD 4 d0).ll), DC.i ((v1.getD 5 d0).ii), DC.s ((v1.getD 6 d0).ss), DC.sl ((v1.getD 7 d0).ll), DC.sl ((v1.getD 8 d0).ll)]) 0 fun v4 =>
      Out.andThenB (Loop E_spec_SameValueL2 [DC.i (0 : Int), DC.i ((v4.getD 0 d0).ii), DC.s ((v4.getD 1 d0).ss), DC.sl ((v4.getD 2 d0).ll), DC.sl ((v4.getD 3 d0).ll), DC.i ((v4.getD 4 d0).ii), DC.s ((v4.getD 5 d0).ss), DC.sl ((v4.getD 6 d0).ll), DC.sl ((v4.getD 7 d0).ll)]) 2 fun v8 =>
      .ret [DC.b true]
theorem eq_spec_SameValue (a : List DC) : r_spec_SameValue a = E_spec_SameValue a := (Run_eq cfg 19 h_spec_SameValue a).trans (by kernel_rfl)
noncomputable def E_spec_SameArgsL1 : List DC → Out := fun v1 =>
    Out.andThen (if (decide ((v1.getD 2 d0).ii < (((v1.getD 0 d0).ll).length : Int))) = true then
        .norm [DC.sl ((v1.getD 0 d0).ll), DC.sl ((v1.getD 1 d0).ll), DC.i ((v1.getD 2 d0).ii), DC.b (decide ((v1.getD 2 d0).ii < (((v1.getD 1 d0).ll).length : Int)))]
      else
        .norm [DC.sl ((v1.getD 0 d0).ll), DC.sl ((v1.getD 1 d0).ll), DC.i ((v1.getD 2 d0).ii), DC.b false]) fun v2 =>
    if (v2.getD 3 d0).bb = true then
      Out.andThenB (Out.andThen (if 103 = 103 ∧ 0 ≤ (v2.getD 2 d0).ii ∧ (v2.getD 2 d0).ii < (((v2.getD 0 d0).ll).length : Int) then
            if 103 = 103 ∧ 0 ≤ (v2.getD 2 d0).ii ∧ (v2.getD 2 d0).ii < (((v2.getD 1 d0).ll).length : Int) then
              if (!(((((v2.getD 0 d0).ll).getD ((v2.getD 2 d0).ii).toNat []).getD 0 d0).ss == ((((v2.getD 1 d0).ll).getD ((v2.getD 2 d0).ii).toNat []).getD 0 d0).ss)) = true then
                .norm [DC.sl ((v2.getD 0 d0).ll), DC.sl ((v2.getD 1 d0).ll), DC.i ((v2.getD 2 d0).ii), DC.b true]
              else
                if 103 = 103 ∧ 0 ≤ (v2.getD 2 d0).ii ∧ (v2.getD 2 d0).ii < (((v2.getD 0 d0).ll).length : Int) then
                  if 103 = 103 ∧ 0 ≤ (v2.getD 2 d0).ii ∧ (v2.getD 2 d0).ii < (((v2.getD 1 d0).ll).length : Int) then
                    (r_spec_SameValue [DC.i (((((v2.getD 0 d0).ll).getD ((v2.getD 2 d0).ii).toNat []).getD 1 d0).ii), DC.s (((((v2.getD 0 d0).ll).getD ((v2.getD 2 d0).ii).toNat []).getD 2 d0).ss), DC.sl (((((v2.getD 0 d0).ll).getD ((v2.getD 2 d0).ii).toNat []).getD 3 d0).ll), DC.sl (((((v2.getD 0 d0).ll).getD ((v2.getD 2 d0).ii).toNat []).getD 4 d0).ll), DC.i (((((v2.getD 1 d0).ll).getD ((v2.getD 2 d0).ii).toNat []).getD 1 d0).ii), DC.s (((((v2.getD 1 d0).ll).getD ((v2.getD 2 d0).ii).toNat []).getD 2 d0).ss), DC.sl (((((v2.getD 1 d0).ll).getD ((v2.getD 2 d0).ii).toNat []).getD 3 d0).ll), DC.sl (((((v2.getD 1 d0).ll).getD ((v2.getD 2 d0).ii).toNat []).getD 4 d0).ll)]).bindR fun r3 =>
                    .norm [DC.sl ((v2.getD 0 d0).ll), DC.sl ((v2.getD 1 d0).ll), DC.i ((v2.getD 2 d0).ii), DC.b (!((r3.getD 0 d0).bb))]
                  else
                    .fail
                else
                  .fail
            else
              .fail
          else
            .fail) fun v4 =>
        if (v4.getD 3 d0).bb = true then
          .ret [DC.b false]
        else
          .norm [DC.sl ((v4.getD 0 d0).ll), DC.sl ((v4.getD 1 d0).ll), DC.i ((v4.getD 2 d0).ii)]) 1 fun v5 =>
      .norm [DC.sl ((v5.getD 0 d0).ll), DC.sl ((v5.getD 1 d0).ll), DC.i (IntKind.i64.wrap ((v5.getD 2 d0).ii + (1 : Int)))]
    else
      .ex 0 [DC.sl ((v2.getD 0 d0).ll), DC.sl ((v2.getD 1 d0).ll)]
/-- loop.example/g00964/spec.SameArgs -/
noncomputable def E_spec_SameArgs (a : List DC) : Out :=
    Out.andThenB (Loop E_spec_SameArgsL1 [DC.sl ((a.getD 0 d0).ll), DC.sl ((a.getD 1 d0).ll), DC.i (0 : Int)]) 0 fun v6 =>
    .ret [DC.b ((((v6.getD 0 d0).ll).length : Int) == (((v6.getD 1 d0).ll).length : Int))]
theorem eq_spec_SameArgs (a : List DC) : r_spec_SameArgs a = E_spec_SameArgs a := (Run_eq cfg 20 h_spec_SameArgs a).trans (by kernel_rfl)
noncomputable def E_spec_l14SameInL1 : List DC → Out := fun v1 =>
    if (decide ((v1.getD 2 d0).ii < (((v1.getD 0 d0).ll).length : Int))) = true then
      Out.andThenB (Out.andThen (if 105 = 105 ∧ 0 ≤ (v1.getD 2 d0).ii ∧ (v1.getD 2 d0).ii < (((v1.getD 0 d0).ll).length : Int) then
            if 105 = 105 ∧ 0 ≤ (v1.getD 2 d0).ii ∧ (v1.getD 2 d0).ii < (((v1.getD 1 d0).ll).length : Int) then
              if (!(((((v1.getD 0 d0).ll).getD ((v1.getD 2 d0).ii).toNat []).getD 0 d0).ss == ((((v1.getD 1 d0).ll).getD ((v1.getD 2 d0).ii).toNat []).getD 0 d0).ss)) = true then
                .norm [DC.sl ((v1.getD 0 d0).ll), DC.sl ((v1.getD 1 d0).ll), DC.i ((v1.getD 2 d0).ii), DC.b true]
              else
                if 105 = 105 ∧ 0 ≤ (v1.getD 2 d0).ii ∧ (v1.getD 2 d0).ii < (((v1.getD 0 d0).ll).length : Int) then
                  if 105 = 105 ∧ 0 ≤ (v1.getD 2 d0).ii ∧ (v1.getD 2 d0).ii < (((v1.getD 1 d0).ll).length : Int) then
                    if (!(((((v1.getD 0 d0).ll).getD ((v1.getD 2 d0).ii).toNat []).getD 1 d0).ss == ((((v1.getD 1 d0).ll).getD ((v1.getD 2 d0).ii).toNat []).getD 1 d0).ss)) = true then
                      .norm [DC.sl ((v1.getD 0 d0).ll), DC.sl ((v1.getD 1 d0).ll), DC.i ((v1.getD 2 d0).ii), DC.b true]
                    else
                      if 105 = 105 ∧ 0 ≤ (v1.getD 2 d0).ii ∧ (v1.getD 2 d0).ii < (((v1.getD 0 d0).ll).length : Int) then
                        if 105 = 105 ∧ 0 ≤ (v1.getD 2 d0).ii ∧ (v1.getD 2 d0).ii < (((v1.getD 1 d0).ll).length : Int) then
                          if (!((((((v1.getD 0 d0).ll).getD ((v1.getD 2 d0).ii).toNat []).getD 2 d0).ss == ((((v1.getD 1 d0).ll).getD ((v1.getD 2 d0).ii).toNat []).getD 2 d0).ss) && ((((((v1.getD 0 d0).ll).getD ((v1.getD 2 d0).ii).toNat []).getD 3 d0).ss == ((((v1.getD 1 d0).ll).getD ((v1.getD 2 d0).ii).toNat []).getD 3 d0).ss) && true))) = true then
                            .norm [DC.sl ((v1.getD 0 d0).ll), DC.sl ((v1.getD 1 d0).ll), DC.i ((v1.getD 2 d0).ii), DC.b true]
                          else
                            if 105 = 105 ∧ 0 ≤ (v1.getD 2 d0).ii ∧ (v1.getD 2 d0).ii < (((v1.getD 0 d0).ll).length : Int) then
                              if 105 = 105 ∧ 0 ≤ (v1.getD 2 d0).ii ∧ (v1.getD 2 d0).ii < (((v1.getD 1 d0).ll).length : Int) then
                                if (!(((((v1.getD 0 d0).ll).getD ((v1.getD 2 d0).ii).toNat []).getD 4 d0).bb == ((((v1.getD 1 d0).ll).getD ((v1.getD 2 d0).ii).toNat []).getD 4 d0).bb)) = true then
                                  .norm [DC.sl ((v1.getD 0 d0).ll), DC.sl ((v1.getD 1 d0).ll), DC.i ((v1.getD 2 d0).ii), DC.b true]
                                else
                                  if 105 = 105 ∧ 0 ≤ (v1.getD 2 d0).ii ∧ (v1.getD 2 d0).ii < (((v1.getD 0 d0).ll).length : Int) then
                                    if 105 = 105 ∧ 0 ≤ (v1.getD 2 d0).ii ∧ (v1.getD 2 d0).ii < (((v1.getD 1 d0).ll).length : Int) then
                                      (r_spec_SameValue [DC.i (((((v1.getD 0 d0).ll).getD ((v1.getD 2 d0).ii).toNat []).getD 5 d0).ii), DC.s (((((v1.getD 0 d0).ll).getD ((v1.getD 2 d0).ii).toNat []).getD 6 d0).ss), DC.sl (((((v1.getD 0 d0).ll).getD ((v1.getD 2 d0).ii).toNat []).getD 7 d0).ll), DC.sl (((((v1.getD 0 d0).ll).getD ((v1.getD 2 d0).ii).toNat []).getD 8 d0).ll), DC.i (((((v1.getD 1 d0).ll).getD ((v1.getD 2 d0).ii).toNat []).getD 5 d0).ii), DC.s (((((v1.getD 1 d0).ll).getD ((v1.getD 2 d0).ii).toNat []).getD 6 d0).ss), DC.sl (((((v1.getD 1 d0).ll).getD ((v1.getD 2 d0).ii).toNat []).getD 7 d0).ll), DC.sl (((((v1.getD 1 d0).ll).getD ((v1.getD 2 d0).ii).toNat []).getD 8 d0).ll)]).bindR fun r2 =>
                                      if (!((r2.getD 0 d0).bb)) = true then
                                        .norm [DC.sl ((v1.getD 0 d0).ll), DC.sl ((v1.getD 1 d0).ll), DC.i ((v1.getD 2 d0).ii), DC.b true]
                                      else
                                        if 105 = 105 ∧ 0 ≤ (v1.getD 2 d0).ii ∧ (v1.getD 2 d0).ii < (((v1.getD 0 d0).ll).length : Int) then
                                          if 105 = 105 ∧ 0 ≤ (v1.getD 2 d0).ii ∧ (v1.getD 2 d0).ii < (((v1.getD 1 d0).ll).length : Int) then
                                            (r_spec_l10SameDirs [DC.sl (((((v1.getD 0 d0).ll).getD ((v1.getD 2 d0).ii).toNat []).getD 9 d0).ll), DC.sl (((((v1.getD 1 d0).ll).getD ((v1.getD 2 d0).ii).toNat []).getD 9 d0).ll)]).bindR fun r3 =>
                                            .norm [DC.sl ((v1.getD 0 d0).ll), DC.sl ((v1.getD 1 d0).ll), DC.i ((v1.getD 2 d0).ii), DC.b (!((r3.getD 0 d0).bb))]
                                          else
                                            .fail
                                        else
                                          .fail
                                    else
                                      .fail
                                  else
                                    .fail
                              else
                                .fail
                            else
                              .fail
                        else
                          .fail
                      else
                        .fail
                  else
                    .fail
                else
                  .fail
            else
              .fail
          else
            .fail) fun v4 =>
        if (v4.getD 3 d0).bb = true then
          .ret [DC.b false]
        else
          .norm [DC.sl ((v4.getD 0 d0).ll), DC.sl ((v4.getD 1 d0).ll), DC.i ((v4.getD 2 d0).ii)]) 1 fun v5 =>
      .norm [DC.sl ((v5.getD 0 d0).ll), DC.sl ((v5.getD 1 d0).ll), DC.i (IntKind.i64.wrap ((v5.getD 2 d0).ii + (1 : Int)))]
    else
      .ex 0 []
/-- loop.example/g00964/spec.l14SameIn -/
noncomputable def E_spec_l14SameIn (a : List DC) : Out :=
    if ((((a.getD 0 d0).ll).length : Int) != (((a.getD 1 d0).ll).length : Int)) = true then
      .ret [DC.b false]
    else
      Out.andThenB (Loop E_spec_l14SameInL1 [DC.sl ((a.getD 0 d0).ll), DC.sl ((a.getD 1 d0).ll), DC.i (0 : Int)]) 0 fun v6 =>
      .ret [DC.b true]
theorem eq_spec_l14SameIn (a : List DC) : r_spec_l14SameIn a = E_spec_l14SameIn a := (Run_eq cfg 21 h_spec_l14SameIn a).trans (by kernel_rfl)
/-- loop.example/g00964/impl.sameItem -/
noncomputable def E_impl_sameItem (a : List DC) : Out :=
    Out.andThen (if ((a.getD 0 d0).ii == (a.getD 21 d0).ii) = true then
        if ((a.getD 1 d0).ii == (a.getD 22 d0).ii) = true then
          if ((a.getD 2 d0).ss == (a.getD 23 d0).ss) = true then
            (r_slices_EqualFunc_impl_VarDef__impl_sameVar [DC.sl ((a.getD 3 d0).ll), DC.sl ((a.getD 24 d0).ll)]).bindR fun r1 =>
            if (r1.getD 0 d0).bb = true then
              (r_impl_sameDirs [DC.sl ((a.getD 4 d0).ll), DC.sl ((a.getD 25 d0).ll)]).bindR fun r2 =>
              if (r2.getD 0 d0).bb = true then
                (r_slices_EqualFunc_impl_Sel__impl_sameSel [DC.sl ((a.getD 5 d0).ll), DC.sl ((a.getD 26 d0).ll)]).bindR fun r3 =>
                if (r3.getD 0 d0).bb = true then
                  if ((a.getD 6 d0).ss == (a.getD 27 d0).ss) = true then
                    if ((a.getD 7 d0).ss == (a.getD 28 d0).ss) = true then
                      (r_impl_sameDirs [DC.sl ((a.getD 8 d0).ll), DC.sl ((a.getD 29 d0).ll)]).bindR fun r4 =>
                      if (r4.getD 0 d0).bb = true then
                        (r_slices_EqualFunc_impl_Sel__impl_sameSel [DC.sl ((a.getD 9 d0).ll), DC.sl ((a.getD 30 d0).ll)]).bindR fun r5 =>
                        if (r5.getD 0 d0).bb = true then
                          (r_impl_sameDef [DC.i ((a.getD 10 d0).ii), DC.b ((a.getD 11 d0).bb), DC.s ((a.getD 12 d0).ss), DC.s ((a.getD 13 d0).ss), DC.sl ((a.getD 14 d0).ll), DC.sl ((a.getD 15 d0).ll), DC.sl ((a.getD 16 d0).ll), DC.sl ((a.getD 17 d0).ll), DC.sl ((a.getD 18 d0).ll), DC.b ((a.getD 19 d0).bb), DC.sl ((a.getD 20 d0).ll), DC.i ((a.getD 31 d0).ii), DC.b ((a.getD 32 d0).bb), DC.s ((a.getD 33 d0).ss), DC.s ((a.getD 34 d0).ss), DC.sl ((a.getD 35 d0).ll), DC.sl ((a.getD 36 d0).ll), DC.sl ((a.getD 37 d0).ll), DC.sl ((a.getD 38 d0).ll), DC.sl ((a.getD 39 d0).ll), DC.b ((a.getD 40 d0).bb), DC.sl ((a.getD 41 d0).ll)]).bindR fun r6 =>
                          .norm [DC.b ((r6.getD 0 d0).bb)]
                        else
                          .norm [DC.b false]
                      else
                        .norm [DC.b false]
                    else
                      .norm [DC.b false]
                  else
                    .norm [DC.b false]
                else
                  .norm [DC.b false]
              else
                .norm [DC.b false]
            else
              .norm [DC.b false]
          else
            .norm [DC.b false]
        else
          .norm [DC.b false]
      else
        .norm [DC.b false]) fun v7 =>
    .ret [DC.b ((v7.getD 0 d0).bb)]
theorem eq_impl_sameItem (a : List DC) : r_impl_sameItem a = E_impl_sameItem a := (Run_eq cfg 16 h_impl_sameItem a).trans (by kernel_rfl)
/-- loop.example/g00964/laws.eqItem -/
noncomputable def E_laws_eqItem (a : List DC) : Out :=
    if ((a.getD 0 d0).ii != (a.getD 21 d0).ii) = true then
      .ret [DC.b false]
    else
      (r_laws_eqOp [DC.i ((a.getD 1 d0).ii), DC.s ((a.getD 2 d0).ss), DC.sl ((a.getD 3 d0).ll), DC.sl ((a.getD 4 d0).ll), DC.sl ((a.getD 5 d0).ll), DC.i ((a.getD 22 d0).ii), DC.s ((a.getD 23 d0).ss), DC.sl ((a.getD 24 d0).ll), DC.sl ((a.getD 25 d0).ll), DC.sl ((a.getD 26 d0).ll)]).bindR fun r1 =>
      if (!((r1.getD 0 d0).bb)) = true then
        .ret [DC.b false]
      else
        (r_laws_eqFrag [DC.s ((a.getD 6 d0).ss), DC.s ((a.getD 7 d0).ss), DC.sl ((a.getD 8 d0).ll), DC.sl ((a.getD 9 d0).ll), DC.s ((a.getD 27 d0).ss), DC.s ((a.getD 28 d0).ss), DC.sl ((a.getD 29 d0).ll), DC.sl ((a.getD 30 d0).ll)]).bindR fun r2 =>
        if (!((r2.getD 0 d0).bb)) = true then
          .ret [DC.b false]
        else
          (r_laws_eqDef [DC.i ((a.getD 10 d0).ii), DC.b ((a.getD 11 d0).bb), DC.s ((a.getD 12 d0).ss), DC.s ((a.getD 13 d0).ss), DC.sl ((a.getD 14 d0).ll), DC.sl ((a.getD 15 d0).ll), DC.sl ((a.getD 16 d0).ll), DC.sl ((a.getD 17 d0).ll), DC.sl ((a.getD 18 d0).ll), DC.b ((a.getD 19 d0).bb), DC.sl ((a.getD 20 d0).ll), DC.i ((a.getD 31 d0).ii), DC.b ((a.getD 32 d0).bb), DC.s ((a.getD 33 d0).ss), DC.s ((a.getD 34 d0).ss), DC.sl ((a.getD 35 d0).ll), DC.sl ((a.getD 36 d0).ll), DC.sl ((a.getD 37 d0).ll), DC.sl ((a.getD 38 d0).ll), DC.sl ((a.getD 39 d0).ll), DC.b ((a.getD 40 d0).bb), DC.sl ((a.getD 41 d0).ll)]).bindR fun r3 =>
          if (!((r3.getD 0 d0).bb)) = true then
            .ret [DC.b false]
          else
            .ret [DC.b true]
theorem eq_laws_eqItem (a : List DC) : r_laws_eqItem a = E_laws_eqItem a := (Run_eq cfg 29 h_laws_eqItem a).trans (by kernel_rfl)
/-- loop.example/g00964/laws.szOp -/
noncomputable def E_laws_szOp (a : List DC) : Out :=
    if (decide ((IntKind.i64.wrap ((a.getD 5 d0).ii - (((a.getD 1 d0).ss).length : Int))) < (0 : Int))) = true then
      .ret [DC.i (-1 : Int)]
    else
      (r_laws_szVarDefS [DC.sl ((a.getD 2 d0).ll), DC.i (IntKind.i64.wrap ((a.getD 5 d0).ii - (((a.getD 1 d0).ss).length : Int)))]).bindR fun r1 =>
      if (decide ((r1.getD 0 d0).ii < (0 : Int))) = true then
        .ret [DC.i (-1 : Int)]
      else
        (r_laws_szDirS [DC.sl ((a.getD 3 d0).ll), DC.i ((r1.getD 0 d0).ii)]).bindR fun r2 =>
        if (decide ((r2.getD 0 d0).ii < (0 : Int))) = true then
          .ret [DC.i (-1 : Int)]
        else
          (r_laws_szSelS [DC.sl ((a.getD 4 d0).ll), DC.i ((r2.getD 0 d0).ii)]).bindR fun r3 =>
          if (decide ((r3.getD 0 d0).ii < (0 : Int))) = true then
            .ret [DC.i (-1 : Int)]
          else
            .ret [DC.i ((r3.getD 0 d0).ii)]
theorem eq_laws_szOp (a : List DC) : r_laws_szOp a = E_laws_szOp a := (Run_eq cfg 30 h_laws_szOp a).trans (by kernel_rfl)
/-- loop.example/g00964/laws.szFrag -/
noncomputable def E_laws_szFrag (a : List DC) : Out :=
    if (decide ((IntKind.i64.wrap ((a.getD 4 d0).ii - (((a.getD 0 d0).ss).length : Int))) < (0 : Int))) = true then
      .ret [DC.i (-1 : Int)]
    else
      if (decide ((IntKind.i64.wrap ((IntKind.i64.wrap ((a.getD 4 d0).ii - (((a.getD 0 d0).ss).length : Int))) - (((a.getD 1 d0).ss).length : Int))) < (0 : Int))) = true then
        .ret [DC.i (-1 : Int)]
      else
        (r_laws_szDirS [DC.sl ((a.getD 2 d0).ll), DC.i (IntKind.i64.wrap ((IntKind.i64.wrap ((a.getD 4 d0).ii - (((a.getD 0 d0).ss).length : Int))) - (((a.getD 1 d0).ss).length : Int)))]).bindR fun r1 =>
        if (decide ((r1.getD 0 d0).ii < (0 : Int))) = true then
          .ret [DC.i (-1 : Int)]
        else
          (r_laws_szSelS [DC.sl ((a.getD 3 d0).ll), DC.i ((r1.getD 0 d0).ii)]).bindR fun r2 =>
          if (decide ((r2.getD 0 d0).ii < (0 : Int))) = true then
            .ret [DC.i (-1 : Int)]
          else
            .ret [DC.i ((r2.getD 0 d0).ii)]
theorem eq_laws_szFrag (a : List DC) : r_laws_szFrag a = E_laws_szFrag a := (Run_eq cfg 31 h_laws_szFrag a).trans (by kernel_rfl)
/-- loop.example/g00964/laws.szDef -/
noncomputable def E_laws_szDef (a : List DC) : Out :=
    if (decide ((IntKind.i64.wrap ((a.getD 11 d0).ii - (((a.getD 2 d0).ss).length : Int))) < (0 : Int))) = true then
      .ret [DC.i (-1 : Int)]
    else
      if (decide ((IntKind.i64.wrap ((IntKind.i64.wrap ((a.getD 11 d0).ii - (((a.getD 2 d0).ss).length : Int))) - (((a.getD 3 d0).ss).length : Int))) < (0 : Int))) = true then
        .ret [DC.i (-1 : Int)]
      else
        (r_laws_szStringS [DC.sl ((a.getD 4 d0).ll), DC.i (IntKind.i64.wrap ((IntKind.i64.wrap ((a.getD 11 d0).ii - (((a.getD 2 d0).ss).length : Int))) - (((a.getD 3 d0).ss).length : Int)))]).bindR fun r1 =>
        if (decide ((r1.getD 0 d0).ii < (0 : Int))) = true then
          .ret [DC.i (-1 : Int)]
        else
          (r_laws_szFieldDefS [DC.sl ((a.getD 5 d0).ll), DC.i ((r1.getD 0 d0).ii)]).bindR fun r2 =>
          if (decide ((r2.getD 0 d0).ii < (0 : Int))) = true then
            .ret [DC.i (-1 : Int)]
          else
            (r_laws_szInDefS [DC.sl ((a.getD 6 d0).ll), DC.i ((r2.getD 0 d0).ii)]).bindR fun r3 =>
            if (decide ((r3.getD 0 d0).ii < (0 : Int))) = true then
              .ret [DC.i (-1 : Int)]
            else
              (r_laws_szEnumDefS [DC.sl ((a.getD 7 d0).ll), DC.i ((r3.getD 0 d0).ii)]).bindR fun r4 =>
              if (decide ((r4.getD 0 d0).ii < (0 : Int))) = true then
                .ret [DC.i (-1 : Int)]
              else
                (r_laws_szRootS [DC.sl ((a.getD 8 d0).ll), DC.i ((r4.getD 0 d0).ii)]).bindR fun r5 =>
                if (decide ((r5.getD 0 d0).ii < (0 : Int))) = true then
                  .ret [DC.i (-1 : Int)]
                else
                  (r_laws_szDirS [DC.sl ((a.getD 10 d0).ll), DC.i ((r5.getD 0 d0).ii)]).bindR fun r6 =>
                  if (decide ((r6.getD 0 d0).ii < (0 : Int))) = true then
                    .ret [DC.i (-1 : Int)]
                  else
                    .ret [DC.i ((r6.getD 0 d0).ii)]
theorem eq_laws_szDef (a : List DC) : r_laws_szDef a = E_laws_szDef a := (Run_eq cfg 32 h_laws_szDef a).trans (by kernel_rfl)
/-- loop.example/g00964/laws.toOp -/
noncomputable def E_laws_toOp (a : List DC) : Out :=
    (r_laws_toVarDefS [DC.sl ((a.getD 2 d0).ll)]).bindR fun r1 =>
    (r_laws_toDirS [DC.sl ((a.getD 3 d0).ll)]).bindR fun r2 =>
    (r_laws_toSelS [DC.sl ((a.getD 4 d0).ll)]).bindR fun r3 =>
    .ret [DC.i ((a.getD 0 d0).ii), DC.s ((a.getD 1 d0).ss), DC.sl ((r1.getD 0 d0).ll), DC.sl ((r2.getD 0 d0).ll), DC.sl ((r3.getD 0 d0).ll)]
theorem eq_laws_toOp (a : List DC) : r_laws_toOp a = E_laws_toOp a := (Run_eq cfg 33 h_laws_toOp a).trans (by kernel_rfl)
/-- loop.example/g00964/laws.toFrag -/
noncomputable def E_laws_toFrag (a : List DC) : Out :=
    (r_laws_toDirS [DC.sl ((a.getD 2 d0).ll)]).bindR fun r1 =>
    (r_laws_toSelS [DC.sl ((a.getD 3 d0).ll)]).bindR fun r2 =>
    .ret [DC.s ((a.getD 0 d0).ss), DC.s ((a.getD 1 d0).ss), DC.sl ((r1.getD 0 d0).ll), DC.sl ((r2.getD 0 d0).ll)]
theorem eq_laws_toFrag (a : List DC) : r_laws_toFrag a = E_laws_toFrag a := (Run_eq cfg 34 h_laws_toFrag a).trans (by kernel_rfl)
/-- loop.example/g00964/laws.toDef -/
noncomputable def E_laws_toDef (a : List DC) : Out :=
    (r_laws_toStringS [DC.sl ((a.getD 4 d0).ll)]).bindR fun r1 =>
    (r_laws_toFieldDefS [DC.sl ((a.getD 5 d0).ll)]).bindR fun r2 =>
    (r_laws_toInDefS [DC.sl ((a.getD 6 d0).ll)]).bindR fun r3 =>
    (r_laws_toEnumDefS [DC.sl ((a.getD 7 d0).ll)]).bindR fun r4 =>
    (r_laws_toRootS [DC.sl ((a.getD 8 d0).ll)]).bindR fun r5 =>
    (r_laws_toDirS [DC.sl ((a.getD 10 d0).ll)]).bindR fun r6 =>
    .ret [DC.i ((a.getD 0 d0).ii), DC.b ((a.getD 1 d0).bb), DC.s ((a.getD 2 d0).ss), DC.s ((a.getD 3 d0).ss), DC.sl ((r1.getD 0 d0).ll), DC.sl ((r2.getD 0 d0).ll), DC.sl ((r3.getD 0 d0).ll), DC.sl ((r4.getD 0 d0).ll), DC.sl ((r5.getD 0 d0).ll), DC.b ((a.getD 9 d0).bb), DC.sl ((r6.getD 0 d0).ll)]
theorem eq_laws_toDef (a : List DC) : r_laws_toDef a = E_laws_toDef a := (Run_eq cfg 35 h_laws_toDef a).trans (by kernel_rfl)
noncomputable def E_slices_EqualFunc_impl_VarDef__impl_sameVarL1 : List DC → Out := fun v1 =>
    if (decide ((v1.getD 3 d0).ii < (v1.getD 2 d0).ii)) = true then
      Out.andThenB (if 79 = 79 ∧ 0 ≤ (v1.getD 3 d0).ii ∧ (v1.getD 3 d0).ii < (((v1.getD 1 d0).ll).length : Int) then
          if 79 = 79 ∧ 0 ≤ (v1.getD 3 d0).ii ∧ (v1.getD 3 d0).ii < (((v1.getD 0 d0).ll).length : Int) then
            (r_impl_sameVar [DC.s (((((v1.getD 1 d0).ll).getD ((v1.getD 3 d0).ii).toNat []).getD 0 d0).ss), DC.s (((((v1.getD 1 d0).ll).getD ((v1.getD 3 d0).ii).toNat []).getD 1 d0).ss), DC.s (((((v1.getD 1 d0).ll).getD ((v1.getD 3 d0).ii).toNat []).getD 2 d0).ss), DC.b (((((v1.getD 1 d0).ll).getD ((v1.getD 3 d0).ii).toNat []).getD 3 d0).bb), DC.i (((((v1.getD 1 d0).ll).getD ((v1.getD 3 d0).ii).toNat []).getD 4 d0).ii), DC.s (((((v1.getD 1 d0).ll).getD ((v1.getD 3 d0).ii).toNat []).getD 5 d0).ss), DC.sl (((((v1.getD 1 d0).ll).getD ((v1.getD 3 d0).ii).toNat []).getD 6 d0).ll), DC.sl (((((v1.getD 1 d0).ll).getD ((v1.getD 3 d0).ii).toNat []).getD 7 d0).ll), DC.sl (((((v1.getD 1 d0).ll).getD ((v1.getD 3 d0).ii).toNat []).getD 8 d0).ll), DC.s (((((v1.getD 0 d0).ll).getD ((v1.getD 3 d0).ii).toNat []).getD 0 d0).ss), DC.s (((((v1.getD 0 d0).ll).getD ((v1.getD 3 d0).ii).toNat []).getD 1 d0).ss), DC.s (((((v1.getD 0 d0).ll).getD ((v1.getD 3 d0).ii).toNat []).getD 2 d0).ss), DC.b (((((v1.getD 0 d0).ll).getD ((v1.getD 3 d0).ii).toNat []).getD 3 d0).bb), DC.i (((((v1.getD 0 d0).ll).getD ((v1.getD 3 d0).ii).toNat []).getD 4 d0).ii), DC.s (((((v1.getD 0 d0).ll).getD ((v1.getD 3 d0).ii).toNat []).getD 5 d0).ss), DC.sl (((((v1.getD 0 d0).ll).getD ((v1.getD 3 d0).ii).toNat []).getD 6 d0).ll), DC.sl (((((v1.getD 0 d0).ll).getD ((v1.getD 3 d0).ii).toNat []).getD 7 d0).ll), DC.sl (((((v1.getD 0 d0).ll).getD ((v1.getD 3 d0).ii).toNat []).getD 8 d0).ll)]).bindR fun r2 =>
            if (!((r2.getD 0 d0).bb)) = true then
              .ret [DC.b false]
            else
              .norm [DC.sl ((v1.getD 0 d0).ll), DC.sl ((v1.getD 1 d0).ll), DC.i ((v1.getD 2 d0).ii), DC.i ((v1.getD 3 d0).ii)]
          else
            .fail
        else
          .fail) 1 fun v3 =>
      .norm [DC.sl ((v3.getD 0 d0).ll), DC.sl ((v3.getD 1 d0).ll), DC.i ((v3.getD 2 d0).ii), DC.i (IntKind.i64.wrap ((v3.getD 3 d0).ii + (1 : Int)))]
    else
      .ex 0 []
/-- slices.EqualFunc[[]loop.example/g00964/impl.VarDef,[]loop.example/g00964/impl.VarDef,loop.example/g00964/impl.VarDef,loop.example/g00964/impl.VarDef] -/
noncomputable def E_slices_EqualFunc_impl_VarDef__impl_sameVar (a : List DC) : Out :=
    if ((((a.getD 0 d0).ll).length : Int) != (((a.getD 1 d0).ll).length : Int)) = true then
      .ret [DC.b false]
    else
      Out.andThenB (Loop E_slices_EqualFunc_impl_VarDef__impl_sameVarL1 [DC.sl ((a.getD 1 d0).ll), DC.sl ((a.getD 0 d0).ll), DC.i (((a.getD 0 d0).ll).length : Int), DC.i (0 : Int)]) 0 fun v4 =>
      .ret [DC.b true]
theorem eq_slices_EqualFunc_impl_VarDef__impl_sameVar (a : List DC) : r_slices_EqualFunc_impl_VarDef__impl_sameVar a = E_slices_EqualFunc_impl_VarDef__impl_sameVar a := (Run_eq cfg 23 h_slices_EqualFunc_impl_VarDef__impl_sameVar a).trans (by kernel_rfl)
/-- loop.example/g00964/impl.sameDirs -/
noncomputable def E_impl_sameDirs (a : List DC) : Out :=
    (r_slices_EqualFunc_impl_Dir__impl_sameDirs_1 [DC.sl ((a.getD 0 d0).ll), DC.sl ((a.getD 1 d0).ll)]).bindR fun r1 =>
    .ret [DC.b ((r1.getD 0 d0).bb)]
theorem eq_impl_sameDirs (a : List DC) : r_impl_sameDirs a = E_impl_sameDirs a := (Run_eq cfg 25 h_impl_sameDirs a).trans (by kernel_rfl)
noncomputable def E_slices_EqualFunc_impl_Sel__impl_sameSelL1 : List DC → Out := fun v1 =>
    if (decide ((v1.getD 3 d0).ii < (v1.getD 2 d0).ii)) = true then
      Out.andThenB (if 86 = 86 ∧ 0 ≤ (v1.getD 3 d0).ii ∧ (v1.getD 3 d0).ii < (((v1.getD 1 d0).ll).length : Int) then
          if 86 = 86 ∧ 0 ≤ (v1.getD 3 d0).ii ∧ (v1.getD 3 d0).ii < (((v1.getD 0 d0).ll).length : Int) then
            (r_impl_sameSel [DC.i (((((v1.getD 1 d0).ll).getD ((v1.getD 3 d0).ii).toNat []).getD 0 d0).ii), DC.s (((((v1.getD 1 d0).ll).getD ((v1.getD 3 d0).ii).toNat []).getD 1 d0).ss), DC.s (((((v1.getD 1 d0).ll).getD ((v1.getD 3 d0).ii).toNat []).getD 2 d0).ss), DC.s (((((v1.getD 1 d0).ll).getD ((v1.getD 3 d0).ii).toNat []).getD 3 d0).ss), DC.sl (((((v1.getD 1 d0).ll).getD ((v1.getD 3 d0).ii).toNat []).getD 4 d0).ll), DC.sl (((((v1.getD 1 d0).ll).getD ((v1.getD 3 d0).ii).toNat []).getD 5 d0).ll), DC.sl (((((v1.getD 1 d0).ll).getD ((v1.getD 3 d0).ii).toNat []).getD 6 d0).ll), DC.i (((((v1.getD 0 d0).ll).getD ((v1.getD 3 d0).ii).toNat []).getD 0 d0).ii), DC.s (((((v1.getD 0 d0).ll).getD ((v1.getD 3 d0).ii).toNat []).getD 1 d0).ss), DC.s (((((v1.getD 0 d0).ll).getD ((v1.getD 3 d0).ii).toNat []).getD 2 d0).ss), DC.s (((((v1.getD 0 d0).ll).getD ((v1.getD 3 d0).ii).toNat []).getD 3 d0).ss), DC.sl (((((v1.getD 0 d0).ll).getD ((v1.getD 3 d0).ii).toNat []).getD 4 d0).ll), DC.sl (((((v1.getD 0 d0).ll).getD ((v1.getD 3 d0).ii).toNat []).getD 5 d0).ll), DC.sl (((((v1.getD 0 d0).ll).getD ((v1.getD 3 d0).ii).toNat []).getD 6 d0).ll)]).bindR fun r2 =>
            if (!((r2.getD 0 d0).bb)) = true then
              .ret [DC.b false]
            else
              .norm [DC.sl ((v1.getD 0 d0).ll), DC.sl ((v1.getD 1 d0).ll), DC.i ((v1.getD 2 d0).ii), DC.i ((v1.getD 3 d0).ii)]
          else
            .fail
        else
          .fail) 1 fun v3 =>
      .norm [DC.sl ((v3.getD 0 d0).ll), DC.sl ((v3.getD 1 d0).ll), DC.i ((v3.getD 2 d0).ii), DC.i (IntKind.i64.wrap ((v3.getD 3 d0).ii + (1 : Int)))]
    else
      .ex 0 []
/-- slices.EqualFunc[[]loop.example/g00964/impl.Sel,[]loop.example/g00964/impl.Sel,loop.example/g00964/impl.Sel,loop.example/g00964/impl.Sel] -/
noncomputable def E_slices_EqualFunc_impl_Sel__impl_sameSel (a : List DC) : Out :=
    if ((((a.getD 0 d0).ll).length : Int) != (((a.getD 1 d0).ll).length : Int)) = true then
      .ret [DC.b false]
    else
      Out.andThenB (Loop E_slices_EqualFunc_impl_Sel__impl_sameSelL1 [DC.sl ((a.getD 1 d0).ll), DC.sl ((a.getD 0 d0).ll), DC.i (((a.getD 0 d0).ll).length : Int), DC.i (0 : Int)]) 0 fun v4 =>
      .ret [DC.b true]
theorem eq_slices_EqualFunc_impl_Sel__impl_sameSel (a : List DC) : r_slices_EqualFunc_impl_Sel__impl_sameSel a = E_slices_EqualFunc_impl_Sel__impl_sameSel a := (Run_eq cfg 26 h_slices_EqualFunc_impl_Sel__impl_sameSel a).trans (by kernel_rfl)
/-- loop.example/g00964/impl.sameDef -/
noncomputable def E_impl_sameDef (a : List DC) : Out :=
    Out.andThen (if ((a.getD 0 d0).ii == (a.getD 11 d0).ii) = true then
        if ((a.getD 1 d0).bb == (a.getD 12 d0).bb) = true then
          if ((a.getD 2 d0).ss == (a.getD 13 d0).ss) = true then
            if ((a.getD 3 d0).ss == (a.getD 14 d0).ss) = true then
              if ((a.getD 9 d0).bb == (a.getD 20 d0).bb) = true then
                (r_slices_Equal_string [DC.sl ((a.getD 4 d0).ll), DC.sl ((a.getD 15 d0).ll)]).bindR fun r1 =>
                if (r1.getD 0 d0).bb = true then
                  (r_slices_EqualFunc_impl_FieldDef__impl_sameField [DC.sl ((a.getD 5 d0).ll), DC.sl ((a.getD 16 d0).ll)]).bindR fun r2 =>
                  if (r2.getD 0 d0).bb = true then
                    (r_slices_EqualFunc_impl_InDef__impl_sameIn [DC.sl ((a.getD 6 d0).ll), DC.sl ((a.getD 17 d0).ll)]).bindR fun r3 =>
                    if (r3.getD 0 d0).bb = true then
                      (r_slices_EqualFunc_impl_EnumDef__impl_sameEnum [DC.sl ((a.getD 7 d0).ll), DC.sl ((a.getD 18 d0).ll)]).bindR fun r4 =>
                      if (r4.getD 0 d0).bb = true then
                        (r_slices_Equal_impl_Root [DC.sl ((a.getD 8 d0).ll), DC.sl ((a.getD 19 d0).ll)]).bindR fun r5 =>
                        if (r5.getD 0 d0).bb = true then
                          (r_impl_sameDirs [DC.sl ((a.getD 10 d0).ll), DC.sl ((a.getD 21 d0).ll)]).bindR fun r6 =>
                          .norm [DC.b ((r6.getD 0 d0).bb)]
                        else
                          .norm [DC.b false]
                      else
                        .norm [DC.b false]
                    else
                      .norm [DC.b false]
                  else
                    .norm [DC.b false]
                else
                  .norm [DC.b false]
              else
                .norm [DC.b false]
            else
              .norm [DC.b false]
          else
            .norm [DC.b false]
        else
          .norm [DC.b false]
      else
        .norm [DC.b false]) fun v7 =>
    .ret [DC.b ((v7.getD 0 d0).bb)]
theorem eq_impl_sameDef (a : List DC) : r_impl_sameDef a = E_impl_sameDef a := (Run_eq cfg 28 h_impl_sameDef a).trans (by kernel_rfl)
/-- loop.example/g00964/laws.eqOp -/
noncomputable def E_laws_eqOp (a : List DC) : Out :=
    if ((a.getD 0 d0).ii != (a.getD 5 d0).ii) = true then
      .ret [DC.b false]
    else
      if (!((a.getD 1 d0).ss == (a.getD 6 d0).ss)) = true then
        .ret [DC.b false]
      else
        (r_laws_eqVarDefS [DC.sl ((a.getD 2 d0).ll), DC.sl ((a.getD 7 d0).ll)]).bindR fun r1 =>
        if (!((r1.getD 0 d0).bb)) = true then
          .ret [DC.b false]
        else
          (r_laws_eqDirS [DC.sl ((a.getD 3 d0).ll), DC.sl ((a.getD 8 d0).ll)]).bindR fun r2 =>
          if (!((r2.getD 0 d0).bb)) = true then
            .ret [DC.b false]
          else
            (r_laws_eqSelS [DC.sl ((a.getD 4 d0).ll), DC.sl ((a.getD 9 d0).ll)]).bindR fun r3 =>
            if (!((r3.getD 0 d0).bb)) = true then
              .ret [DC.b false]
            else
              .ret [DC.b true]
theorem eq_laws_eqOp (a : List DC) : r_laws_eqOp a = E_laws_eqOp a := (Run_eq cfg 48 h_laws_eqOp a).trans (by kernel_rfl)
/-- loop.example/g00964/laws.eqFrag -/
noncomputable def E_laws_eqFrag (a : List DC) : Out :=
    if (!((a.getD 0 d0).ss == (a.getD 4 d0).ss)) = true then
      .ret [DC.b false]
    else
      if (!((a.getD 1 d0).ss == (a.getD 5 d0).ss)) = true then
        .ret [DC.b false]
      else
        (r_laws_eqDirS [DC.sl ((a.getD 2 d0).ll), DC.sl ((a.getD 6 d0).ll)]).bindR fun r1 =>
        if (!((r1.getD 0 d0).bb)) = true then
          .ret [DC.b false]
        else
          (r_laws_eqSelS [DC.sl ((a.getD 3 d0).ll), DC.sl ((a.getD 7 d0).ll)]).bindR fun r2 =>
          if (!((r2.getD 0 d0).bb)) = true then
            .ret [DC.b false]
          else
            .ret [DC.b true]
theorem eq_laws_eqFrag (a : List DC) : r_laws_eqFrag a = E_laws_eqFrag a := (Run_eq cfg 49 h_laws_eqFrag a).trans (by kernel_rfl)
/-- loop.example/g00964/laws.eqDef -/
noncomputable def E_laws_eqDef (a : List DC) : Out :=
    if ((a.getD 0 d0).ii != (a.getD 11 d0).ii) = true then
      .ret [DC.b false]
    else
      if (!((a.getD 1 d0).bb == (a.getD 12 d0).bb)) = true then
        .ret [DC.b false]
      else
        if (!((a.getD 2 d0).ss == (a.getD 13 d0).ss)) = true then
          .ret [DC.b false]
        else
          if (!((a.getD 3 d0).ss == (a.getD 14 d0).ss)) = true then
            .ret [DC.b false]
          else
            (r_laws_eqStringS [DC.sl ((a.getD 4 d0).ll), DC.sl ((a.getD 15 d0).ll)]).bindR fun r1 =>
            if (!((r1.getD 0 d0).bb)) = true then
              .ret [DC.b false]
            else
              (r_laws_eqFieldDefS [DC.sl ((a.getD 5 d0).ll), DC.sl ((a.getD 16 d0).ll)]).bindR fun r2 =>
              if (!((r2.getD 0 d0).bb)) = true then
                .ret [DC.b false]
              else
                (r_laws_eqInDefS [DC.sl ((a.getD 6 d0).ll), DC.sl ((a.getD 17 d0).ll)]).bindR fun r3 =>
                if (!((r3.getD 0 d0).bb)) = true then
                  .ret [DC.b false]
                else
                  (r_laws_eqEnumDefS [DC.sl ((a.getD 7 d0).ll), DC.sl ((a.getD 18 d0).ll)]).bindR fun r4 =>
                  if (!((r4.getD 0 d0).bb)) = true then
                    .ret [DC.b false]
                  else
                    (r_laws_eqRootS [DC.sl ((a.getD 8 d0).ll), DC.sl ((a.getD 19 d0).ll)]).bindR fun r5 =>
                    if (!((r5.getD 0 d0).bb)) = true then
                      .ret [DC.b false]
                    else
                      if (!((a.getD 9 d0).bb == (a.getD 20 d0).bb)) = true then
                        .ret [DC.b false]
                      else
                        (r_laws_eqDirS [DC.sl ((a.getD 10 d0).ll), DC.sl ((a.getD 21 d0).ll)]).bindR fun r6 =>
                        if (!((r6.getD 0 d0).bb)) = true then
                          .ret [DC.b false]
                        else
                          .ret [DC.b true]
theorem eq_laws_eqDef (a : List DC) : r_laws_eqDef a = E_laws_eqDef a := (Run_eq cfg 50 h_laws_eqDef a).trans (by kernel_rfl)
noncomputable def E_laws_szVarDefSL1 : List DC → Out := fun v1 =>
    if (decide ((v1.getD 2 d0).ii < (((v1.getD 0 d0).ll).length : Int))) = true then
      Out.andThenB (if 148 = 148 ∧ 0 ≤ (v1.getD 2 d0).ii ∧ (v1.getD 2 d0).ii < (((v1.getD 0 d0).ll).length : Int) then
          (r_laws_szVarDef [DC.s (((((v1.getD 0 d0).ll).getD ((v1.getD 2 d0).ii).toNat []).getD 0 d0).ss), DC.s (((((v1.getD 0 d0).ll).getD ((v1.getD 2 d0).ii).toNat []).getD 1 d0).ss), DC.s (((((v1.getD 0 d0).ll).getD ((v1.getD 2 d0).ii).toNat []).getD 2 d0).ss), DC.b (((((v1.getD 0 d0).ll).getD ((v1.getD 2 d0).ii).toNat []).getD 3 d0).bb), DC.i (((((v1.getD 0 d0).ll).getD ((v1.getD 2 d0).ii).toNat []).getD 4 d0).ii), DC.s (((((v1.getD 0 d0).ll).getD ((v1.getD 2 d0).ii).toNat []).getD 5 d0).ss), DC.sl (((((v1.getD 0 d0).ll).getD ((v1.getD 2 d0).ii).toNat []).getD 6 d0).ll), DC.sl (((((v1.getD 0 d0).ll).getD ((v1.getD 2 d0).ii).toNat []).getD 7 d0).ll), DC.sl (((((v1.getD 0 d0).ll).getD ((v1.getD 2 d0).ii).toNat []).getD 8 d0).ll), DC.i ((v1.getD 1 d0).ii)]).bindR fun r2 =>
          if (decide ((r2.getD 0 d0).ii < (0 : Int))) = true then
            .ret [DC.i (-1 : Int)]
          else
            .norm [DC.sl ((v1.getD 0 d0).ll), DC.i ((r2.getD 0 d0).ii), DC.i ((v1.getD 2 d0).ii)]
        else
          .fail) 1 fun v3 =>
      .norm [DC.sl ((v3.getD 0 d0).ll), DC.i ((v3.getD 1 d0).ii), DC.i (IntKind.i64.wrap ((v3.getD 2 d0).ii + (1 : Int)))]
    else
      .ex 0 [DC.i ((v1.getD 1 d0).ii)]
/-- loop.example/g00964/laws.szVarDefS -/
noncomputable def E_laws_szVarDefS (a : List DC) : Out :=
    if (decide ((IntKind.i64.wrap ((a.getD 1 d0).ii - (((a.getD 0 d0).ll).length : Int))) < (0 : Int))) = true then
      .ret [DC.i (-1 : Int)]
    else
      Out.andThenB (Loop E_laws_szVarDefSL1 [DC.sl ((a.getD 0 d0).ll), DC.i (IntKind.i64.wrap ((a.getD 1 d0).ii - (((a.getD 0 d0).ll).length : Int))), DC.i (0 : Int)]) 0 fun v4 =>
      .ret [DC.i ((v4.getD 0 d0).ii)]
theorem eq_laws_szVarDefS (a : List DC) : r_laws_szVarDefS a = E_laws_szVarDefS a := (Run_eq cfg 51 h_laws_szVarDefS a).trans (by kernel_rfl)
noncomputable def E_laws_szDirSL1 : List DC → Out := fun v1 =>
    if (decide ((v1.getD 2 d0).ii < (((v1.getD 0 d0).ll).length : Int))) = true then
      Out.andThenB (if 152 = 152 ∧ 0 ≤ (v1.getD 2 d0).ii ∧ (v1.getD 2 d0).ii < (((v1.getD 0 d0).ll).length : Int) then
          (r_laws_szDir [DC.s (((((v1.getD 0 d0).ll).getD ((v1.getD 2 d0).ii).toNat []).getD 0 d0).ss), DC.sl (((((v1.getD 0 d0).ll).getD ((v1.getD 2 d0).ii).toNat []).getD 1 d0).ll), DC.i ((v1.getD 1 d0).ii)]).bindR fun r2 =>
          if (decide ((r2.getD 0 d0).ii < (0 : Int))) = true then
            .ret [DC.i (-1 : Int)]
          else
            .norm [DC.sl ((v1.getD 0 d0).ll), DC.i ((r2.getD 0 d0).ii), DC.i ((v1.getD 2 d0).ii)]
        else
          .fail) 1 fun v3 =>
      .norm [DC.sl ((v3.getD 0 d0).ll), DC.i ((v3.getD 1 d0).ii), DC.i (IntKind.i64.wrap ((v3.getD 2 d0).ii + (1 : Int)))]
    else
      .ex 0 [DC.i ((v1.getD 1 d0).ii)]
/-- loop.example/g00964/laws.szDirS -/
noncomputable def E_laws_szDirS (a : List DC) : Out :=
    if (decide ((IntKind.i64.wrap ((a.getD 1 d0).ii - (((a.getD 0 d0).ll).length : Int))) < (0 : Int))) = true then
      .ret [DC.i (-1 : Int)]
    else
      Out.andThenB (Loop E_laws_szDirSL1 [DC.sl ((a.getD 0 d0).ll), DC.i (IntKind.i64.wrap ((a.getD 1 d0).ii - (((a.getD 0 d0).ll).length : Int))), DC.i (0 : Int)]) 0 fun v4 =>
      .ret [DC.i ((v4.getD 0 d0).ii)]
theorem eq_laws_szDirS (a : List DC) : r_laws_szDirS a = E_laws_szDirS a := (Run_eq cfg 52 h_laws_szDirS a).trans (by kernel_rfl)
noncomputable def E_laws_szSelSL1 : List DC → Out := fun v1 =>
    if (decide ((v1.getD 2 d0).ii < (((v1.getD 0 d0).ll).length : Int))) = true then
      Out.andThenB (if 155 = 155 ∧ 0 ≤ (v1.getD 2 d0).ii ∧ (v1.getD 2 d0).ii < (((v1.getD 0 d0).ll).length : Int) then
          (r_laws_szSel [DC.i (((((v1.getD 0 d0).ll).getD ((v1.getD 2 d0).ii).toNat []).getD 0 d0).ii), DC.s (((((v1.getD 0 d0).ll).getD ((v1.getD 2 d0).ii).toNat []).getD 1 d0).ss), DC.s (((((v1.getD 0 d0).ll).getD ((v1.getD 2 d0).ii).toNat []).getD 2 d0).ss), DC.s (((((v1.getD 0 d0).ll).getD ((v1.getD 2 d0).ii).toNat []).getD 3 d0).ss), DC.sl (((((v1.getD 0 d0).ll).getD ((v1.getD 2 d0).ii).toNat []).getD 4 d0).ll), DC.sl (((((v1.getD 0 d0).ll).getD ((v1.getD 2 d0).ii).toNat []).getD 5 d0).ll), DC.sl (((((v1.getD 0 d0).ll).getD ((v1.getD 2 d0).ii).toNat []).getD 6 d0).ll), DC.i ((v1.getD 1 d0).ii)]).bindR fun r2 =>
          if (decide ((r2.getD 0 d0).ii < (0 : Int))) = true then
            .ret [DC.i (-1 : Int)]
          else
            .norm [DC.sl ((v1.getD 0 d0).ll), DC.i ((r2.getD 0 d0).ii), DC.i ((v1.getD 2 d0).ii)]
        else
          .fail) 1 fun v3 =>
      .norm [DC.sl ((v3.getD 0 d0).ll), DC.i ((v3.getD 1 d0).ii), DC.i (IntKind.i64.wrap ((v3.getD 2 d0).ii + (1 : Int)))]
    else
      .ex 0 [DC.i ((v1.getD 1 d0).ii)]
/-- loop.example/g00964/laws.szSelS -/
noncomputable def E_laws_szSelS (a : List DC) : Out :=
    if (decide ((IntKind.i64.wrap ((a.getD 1 d0).ii - (((a.getD 0 d0).ll).length : Int))) < (0 : Int))) = true then
      .ret [DC.i (-1 : Int)]
    else
      Out.andThenB (Loop E_laws_szSelSL1 [DC.sl ((a.getD 0 d0).ll), DC.i (IntKind.i64.wrap ((a.getD 1 d0).ii - (((a.getD 0 d0).ll).length : Int))), DC.i (0 : Int)]) 0 fun v4 =>
      .ret [DC.i ((v4.getD 0 d0).ii)]
theorem eq_laws_szSelS (a : List DC) : r_laws_szSelS a = E_laws_szSelS a := (Run_eq cfg 53 h_laws_szSelS a).trans (by kernel_rfl)
noncomputable def E_laws_szStringSL1 : List DC → Out := fun v1 =>
    if (decide ((v1.getD 2 d0).ii < (((v1.getD 0 d0).ll).length : Int))) = true then
      Out.andThenB (if 9 = 9 ∧ 0 ≤ (v1.getD 2 d0).ii ∧ (v1.getD 2 d0).ii < (((v1.getD 0 d0).ll).length : Int) then
          if (decide ((IntKind.i64.wrap ((v1.getD 1 d0).ii - ((((((v1.getD 0 d0).ll).getD ((v1.getD 2 d0).ii).toNat []).getD 0 d0).ss).length : Int))) < (0 : Int))) = true then
            .ret [DC.i (-1 : Int)]
          else
            .norm [DC.sl ((v1.getD 0 d0).ll), DC.i (IntKind.i64.wrap ((v1.getD 1 d0).ii - ((((((v1.getD 0 d0).ll).getD ((v1.getD 2 d0).ii).toNat []).getD 0 d0).ss).length : Int))), DC.i ((v1.getD 2 d0).ii)]
        else
          .fail) 1 fun v2 =>
      .norm [DC.sl ((v2.getD 0 d0).ll), DC.i ((v2.getD 1 d0).ii), DC.i (IntKind.i64.wrap ((v2.getD 2 d0).ii + (1 : Int)))]
    else
      .ex 0 [DC.i ((v1.getD 1 d0).ii)]
/-- loop.example/g00964/laws.szStringS -/
noncomputable def E_laws_szStringS (a : List DC) : Out :=
    if (decide ((IntKind.i64.wrap ((a.getD 1 d0).ii - (((a.getD 0 d0).ll).length : Int))) < (0 : Int))) = true then
      .ret [DC.i (-1 : Int)]
    else
      Out.andThenB (Loop E_laws_szStringSL1 [DC.sl ((a.getD 0 d0).ll), DC.i (IntKind.i64.wrap ((a.getD 1 d0).ii - (((a.getD 0 d0).ll).length : Int))), DC.i (0 : Int)]) 0 fun v3 =>
      .ret [DC.i ((v3.getD 0 d0).ii)]
theorem eq_laws_szStringS (a : List DC) : r_laws_szStringS a = E_laws_szStringS a := (Run_eq cfg 54 h_laws_szStringS a).trans (by kernel_rfl)
noncomputable def E_laws_szFieldDefSL1 : List DC → Out := fun v1 =>
    if (decide ((v1.getD 2 d0).ii < (((v1.getD 0 d0).ll).length : Int))) = true then
      Out.andThenB (if 158 = 158 ∧ 0 ≤ (v1.getD 2 d0).ii ∧ (v1.getD 2 d0).ii < (((v1.getD 0 d0).ll).length : Int) then
          (r_laws_szFieldDef [DC.s (((((v1.getD 0 d0).ll).getD ((v1.getD 2 d0).ii).toNat []).getD 0 d0).ss), DC.s (((((v1.getD 0 d0).ll).getD ((v1.getD 2 d0).ii).toNat []).getD 1 d0).ss), DC.sl (((((v1.getD 0 d0).ll).getD ((v1.getD 2 d0).ii).toNat []).getD 2 d0).ll), DC.s (((((v1.getD 0 d0).ll).getD ((v1.getD 2 d0).ii).toNat []).getD 3 d0).ss), DC.s (((((v1.getD 0 d0).ll).getD ((v1.getD 2 d0).ii).toNat []).getD 4 d0).ss), DC.sl (((((v1.getD 0 d0).ll).getD ((v1.getD 2 d0).ii).toNat []).getD 5 d0).ll), DC.i ((v1.getD 1 d0).ii)]).bindR fun r2 =>
          if (decide ((r2.getD 0 d0).ii < (0 : Int))) = true then
            .ret [DC.i (-1 : Int)]
          else
            .norm [DC.sl ((v1.getD 0 d0).ll), DC.i ((r2.getD 0 d0).ii), DC.i ((v1.getD 2 d0).ii)]
        else
          .fail) 1 fun v3 =>
      .norm [DC.sl ((v3.getD 0 d0).ll), DC.i ((v3.getD 1 d0).ii), DC.i (IntKind.i64.wrap ((v3.getD 2 d0).ii + (1 : Int)))]
    else
      .ex 0 [DC.i ((v1.getD 1 d0).ii)]
/-- loop.example/g00964/laws.szFieldDefS -/
noncomputable def E_laws_szFieldDefS (a : List DC) : Out :=
    if (decide ((IntKind.i64.wrap ((a.getD 1 d0).ii - (((a.getD 0 d0).ll).length : Int))) < (0 : Int))) = true then
      .ret [DC.i (-1 : Int)]
    else
      Out.andThenB (Loop E_laws_szFieldDefSL1 [DC.sl ((a.getD 0 d0).ll), DC.i (IntKind.i64.wrap ((a.getD 1 d0).ii - (((a.getD 0 d0).ll).length : Int))), DC.i (0 : Int)]) 0 fun v4 =>
      .ret [DC.i ((v4.getD 0 d0).ii)]
theorem eq_laws_szFieldDefS (a : List DC) : r_laws_szFieldDefS a = E_laws_szFieldDefS a := (Run_eq cfg 55 h_laws_szFieldDefS a).trans (by kernel_rfl)
end Go.Proofs.YtljggmbgbnmapaaGreatV
