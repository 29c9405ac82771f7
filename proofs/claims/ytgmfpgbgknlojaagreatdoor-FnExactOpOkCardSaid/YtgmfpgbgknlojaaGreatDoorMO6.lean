import Derived.Test.YtgmfpgbgknlojaaGreatDoorMO5
import Derived.Test.YtgmfpgbgknlojaaGreatDoorMO4
/- What the functions do, and that they do (written by a program). -/
namespace Go.Proofs.YtgmfpgbgknlojaaGreatDoorV
open Go
set_option linter.unusedVariables false
set_option maxRecDepth 100000
/-- loop.example/g00964/laws.FnExactSelOk -/
noncomputable def E_laws_FnExactSelOk (a : List DC) : Out :=
    (r_laws_szSel [DC.i ((a.getD 0 d0).ii), DC.s ((a.getD 1 d0).ss), DC.s ((a.getD 2 d0).ss), DC.s ((a.getD 3 d0).ss), DC.sl ((a.getD 4 d0).ll), DC.sl ((a.getD 5 d0).ll), DC.sl ((a.getD 6 d0).ll), DC.i (1048576 : Int)]).bindR fun r1 =>
    if (decide ((r1.getD 0 d0).ii < (0 : Int))) = true then
      .ret [DC.b true]
    else
      (r_laws_toSel [DC.i ((a.getD 0 d0).ii), DC.s ((a.getD 1 d0).ss), DC.s ((a.getD 2 d0).ss), DC.s ((a.getD 3 d0).ss), DC.sl ((a.getD 4 d0).ll), DC.sl ((a.getD 5 d0).ll), DC.sl ((a.getD 6 d0).ll)]).bindR fun r2 =>
      (r_spec_SelOk [DC.i ((r2.getD 0 d0).ii), DC.s ((r2.getD 1 d0).ss), DC.s ((r2.getD 2 d0).ss), DC.s ((r2.getD 3 d0).ss), DC.sl ((r2.getD 4 d0).ll), DC.sl ((r2.getD 5 d0).ll), DC.sl ((r2.getD 6 d0).ll)]).bindR fun r3 =>
      (r_laws_toSel [DC.i ((a.getD 0 d0).ii), DC.s ((a.getD 1 d0).ss), DC.s ((a.getD 2 d0).ss), DC.s ((a.getD 3 d0).ss), DC.sl ((a.getD 4 d0).ll), DC.sl ((a.getD 5 d0).ll), DC.sl ((a.getD 6 d0).ll)]).bindR fun r4 =>
      (r_impl_SelOk [DC.i ((r4.getD 0 d0).ii), DC.s ((r4.getD 1 d0).ss), DC.s ((r4.getD 2 d0).ss), DC.s ((r4.getD 3 d0).ss), DC.sl ((r4.getD 4 d0).ll), DC.sl ((r4.getD 5 d0).ll), DC.sl ((r4.getD 6 d0).ll)]).bindR fun r5 =>
      if (!((r5.getD 0 d0).bb == (r3.getD 0 d0).bb)) = true then
        .ret [DC.b false]
      else
        (r_laws_toSel [DC.i ((a.getD 0 d0).ii), DC.s ((a.getD 1 d0).ss), DC.s ((a.getD 2 d0).ss), DC.s ((a.getD 3 d0).ss), DC.sl ((a.getD 4 d0).ll), DC.sl ((a.getD 5 d0).ll), DC.sl ((a.getD 6 d0).ll)]).bindR fun r6 =>
        (r_laws_eqSel [DC.i ((r4.getD 0 d0).ii), DC.s ((r4.getD 1 d0).ss), DC.s ((r4.getD 2 d0).ss), DC.s ((r4.getD 3 d0).ss), DC.sl ((r4.getD 4 d0).ll), DC.sl ((r4.getD 5 d0).ll), DC.sl ((r4.getD 6 d0).ll), DC.i ((r6.getD 0 d0).ii), DC.s ((r6.getD 1 d0).ss), DC.s ((r6.getD 2 d0).ss), DC.s ((r6.getD 3 d0).ss), DC.sl ((r6.getD 4 d0).ll), DC.sl ((r6.getD 5 d0).ll), DC.sl ((r6.getD 6 d0).ll)]).bindR fun r7 =>
        if (!((r7.getD 0 d0).bb)) = true then
          .ret [DC.b false]
        else
          .ret [DC.b true]
theorem eq_laws_FnExactSelOk (a : List DC) : r_laws_FnExactSelOk a = E_laws_FnExactSelOk a := (Run_eq cfg 3 h_laws_FnExactSelOk a).trans (by kernel_rfl)
/-- loop.example/g00964/laws.FnExactFragOk -/
noncomputable def E_laws_FnExactFragOk (a : List DC) : Out :=
    (r_laws_szFrag [DC.s ((a.getD 0 d0).ss), DC.s ((a.getD 1 d0).ss), DC.sl ((a.getD 2 d0).ll), DC.sl ((a.getD 3 d0).ll), DC.i (1048576 : Int)]).bindR fun r1 =>
    if (decide ((r1.getD 0 d0).ii < (0 : Int))) = true then
      .ret [DC.b true]
    else
      (r_laws_toFrag [DC.s ((a.getD 0 d0).ss), DC.s ((a.getD 1 d0).ss), DC.sl ((a.getD 2 d0).ll), DC.sl ((a.getD 3 d0).ll)]).bindR fun r2 =>
      (r_spec_FragOk [DC.s ((r2.getD 0 d0).ss), DC.s ((r2.getD 1 d0).ss), DC.sl ((r2.getD 2 d0).ll), DC.sl ((r2.getD 3 d0).ll)]).bindR fun r3 =>
      (r_laws_toFrag [DC.s ((a.getD 0 d0).ss), DC.s ((a.getD 1 d0).ss), DC.sl ((a.getD 2 d0).ll), DC.sl ((a.getD 3 d0).ll)]).bindR fun r4 =>
      (r_impl_FragOk [DC.s ((r4.getD 0 d0).ss), DC.s ((r4.getD 1 d0).ss), DC.sl ((r4.getD 2 d0).ll), DC.sl ((r4.getD 3 d0).ll)]).bindR fun r5 =>
      if (!((r5.getD 0 d0).bb == (r3.getD 0 d0).bb)) = true then
        .ret [DC.b false]
      else
        (r_laws_toFrag [DC.s ((a.getD 0 d0).ss), DC.s ((a.getD 1 d0).ss), DC.sl ((a.getD 2 d0).ll), DC.sl ((a.getD 3 d0).ll)]).bindR fun r6 =>
        (r_laws_eqFrag [DC.s ((r4.getD 0 d0).ss), DC.s ((r4.getD 1 d0).ss), DC.sl ((r4.getD 2 d0).ll), DC.sl ((r4.getD 3 d0).ll), DC.s ((r6.getD 0 d0).ss), DC.s ((r6.getD 1 d0).ss), DC.sl ((r6.getD 2 d0).ll), DC.sl ((r6.getD 3 d0).ll)]).bindR fun r7 =>
        if (!((r7.getD 0 d0).bb)) = true then
          .ret [DC.b false]
        else
          .ret [DC.b true]
theorem eq_laws_FnExactFragOk (a : List DC) : r_laws_FnExactFragOk a = E_laws_FnExactFragOk a := (Run_eq cfg 4 h_laws_FnExactFragOk a).trans (by kernel_rfl)
/-- loop.example/g00964/laws.FnExactVarDefOk -/
noncomputable def E_laws_FnExactVarDefOk (a : List DC) : Out :=
    (r_laws_szVarDef [DC.s ((a.getD 0 d0).ss), DC.s ((a.getD 1 d0).ss), DC.s ((a.getD 2 d0).ss), DC.b ((a.getD 3 d0).bb), DC.i ((a.getD 4 d0).ii), DC.s ((a.getD 5 d0).ss), DC.sl ((a.getD 6 d0).ll), DC.sl ((a.getD 7 d0).ll), DC.sl ((a.getD 8 d0).ll), DC.i (1048576 : Int)]).bindR fun r1 =>
    if (decide ((r1.getD 0 d0).ii < (0 : Int))) = true then
      .ret [DC.b true]
    else
      (r_laws_toVarDef [DC.s ((a.getD 0 d0).ss), DC.s ((a.getD 1 d0).ss), DC.s ((a.getD 2 d0).ss), DC.b ((a.getD 3 d0).bb), DC.i ((a.getD 4 d0).ii), DC.s ((a.getD 5 d0).ss), DC.sl ((a.getD 6 d0).ll), DC.sl ((a.getD 7 d0).ll), DC.sl ((a.getD 8 d0).ll)]).bindR fun r2 =>
      (r_spec_VarDefOk [DC.s ((r2.getD 0 d0).ss), DC.s ((r2.getD 1 d0).ss), DC.s ((r2.getD 2 d0).ss), DC.b ((r2.getD 3 d0).bb), DC.i ((r2.getD 4 d0).ii), DC.s ((r2.getD 5 d0).ss), DC.sl ((r2.getD 6 d0).ll), DC.sl ((r2.getD 7 d0).ll), DC.sl ((r2.getD 8 d0).ll)]).bindR fun r3 =>
      (r_laws_toVarDef [DC.s ((a.getD 0 d0).ss), DC.s ((a.getD 1 d0).ss), DC.s ((a.getD 2 d0).ss), DC.b ((a.getD 3 d0).bb), DC.i ((a.getD 4 d0).ii), DC.s ((a.getD 5 d0).ss), DC.sl ((a.getD 6 d0).ll), DC.sl ((a.getD 7 d0).ll), DC.sl ((a.getD 8 d0).ll)]).bindR fun r4 =>
      (r_impl_VarDefOk [DC.s ((r4.getD 0 d0).ss), DC.s ((r4.getD 1 d0).ss), DC.s ((r4.getD 2 d0).ss), DC.b ((r4.getD 3 d0).bb), DC.i ((r4.getD 4 d0).ii), DC.s ((r4.getD 5 d0).ss), DC.sl ((r4.getD 6 d0).ll), DC.sl ((r4.getD 7 d0).ll), DC.sl ((r4.getD 8 d0).ll)]).bindR fun r5 =>
      if (!((r5.getD 0 d0).bb == (r3.getD 0 d0).bb)) = true then
        .ret [DC.b false]
      else
        (r_laws_toVarDef [DC.s ((a.getD 0 d0).ss), DC.s ((a.getD 1 d0).ss), DC.s ((a.getD 2 d0).ss), DC.b ((a.getD 3 d0).bb), DC.i ((a.getD 4 d0).ii), DC.s ((a.getD 5 d0).ss), DC.sl ((a.getD 6 d0).ll), DC.sl ((a.getD 7 d0).ll), DC.sl ((a.getD 8 d0).ll)]).bindR fun r6 =>
        (r_laws_eqVarDef [DC.s ((r4.getD 0 d0).ss), DC.s ((r4.getD 1 d0).ss), DC.s ((r4.getD 2 d0).ss), DC.b ((r4.getD 3 d0).bb), DC.i ((r4.getD 4 d0).ii), DC.s ((r4.getD 5 d0).ss), DC.sl ((r4.getD 6 d0).ll), DC.sl ((r4.getD 7 d0).ll), DC.sl ((r4.getD 8 d0).ll), DC.s ((r6.getD 0 d0).ss), DC.s ((r6.getD 1 d0).ss), DC.s ((r6.getD 2 d0).ss), DC.b ((r6.getD 3 d0).bb), DC.i ((r6.getD 4 d0).ii), DC.s ((r6.getD 5 d0).ss), DC.sl ((r6.getD 6 d0).ll), DC.sl ((r6.getD 7 d0).ll), DC.sl ((r6.getD 8 d0).ll)]).bindR fun r7 =>
        if (!((r7.getD 0 d0).bb)) = true then
          .ret [DC.b false]
        else
          .ret [DC.b true]
theorem eq_laws_FnExactVarDefOk (a : List DC) : r_laws_FnExactVarDefOk a = E_laws_FnExactVarDefOk a := (Run_eq cfg 5 h_laws_FnExactVarDefOk a).trans (by kernel_rfl)
/-- loop.example/g00964/laws.FnExactOpOk -/
noncomputable def E_laws_FnExactOpOk (a : List DC) : Out :=
    (r_laws_szOp [DC.i ((a.getD 0 d0).ii), DC.s ((a.getD 1 d0).ss), DC.sl ((a.getD 2 d0).ll), DC.sl ((a.getD 3 d0).ll), DC.sl ((a.getD 4 d0).ll), DC.i (1048576 : Int)]).bindR fun r1 =>
    if (decide ((r1.getD 0 d0).ii < (0 : Int))) = true then
      .ret [DC.b true]
    else
      (r_laws_toOp [DC.i ((a.getD 0 d0).ii), DC.s ((a.getD 1 d0).ss), DC.sl ((a.getD 2 d0).ll), DC.sl ((a.getD 3 d0).ll), DC.sl ((a.getD 4 d0).ll)]).bindR fun r2 =>
      (r_spec_OpOk [DC.i ((r2.getD 0 d0).ii), DC.s ((r2.getD 1 d0).ss), DC.sl ((r2.getD 2 d0).ll), DC.sl ((r2.getD 3 d0).ll), DC.sl ((r2.getD 4 d0).ll)]).bindR fun r3 =>
      (r_laws_toOp [DC.i ((a.getD 0 d0).ii), DC.s ((a.getD 1 d0).ss), DC.sl ((a.getD 2 d0).ll), DC.sl ((a.getD 3 d0).ll), DC.sl ((a.getD 4 d0).ll)]).bindR fun r4 =>
      (r_impl_OpOk [DC.i ((r4.getD 0 d0).ii), DC.s ((r4.getD 1 d0).ss), DC.sl ((r4.getD 2 d0).ll), DC.sl ((r4.getD 3 d0).ll), DC.sl ((r4.getD 4 d0).ll)]).bindR fun r5 =>
      if (!((r5.getD 0 d0).bb == (r3.getD 0 d0).bb)) = true then
        .ret [DC.b false]
      else
        (r_laws_toOp [DC.i ((a.getD 0 d0).ii), DC.s ((a.getD 1 d0).ss), DC.sl ((a.getD 2 d0).ll), DC.sl ((a.getD 3 d0).ll), DC.sl ((a.getD 4 d0).ll)]).bindR fun r6 =>
        (r_laws_eqOp [DC.i ((r4.getD 0 d0).ii), DC.s ((r4.getD 1 d0).ss), DC.sl ((r4.getD 2 d0).ll), DC.sl ((r4.getD 3 d0).ll), DC.sl ((r4.getD 4 d0).ll), DC.i ((r6.getD 0 d0).ii), DC.s ((r6.getD 1 d0).ss), DC.sl ((r6.getD 2 d0).ll), DC.sl ((r6.getD 3 d0).ll), DC.sl ((r6.getD 4 d0).ll)]).bindR fun r7 =>
        if (!((r7.getD 0 d0).bb)) = true then
          .ret [DC.b false]
        else
          .ret [DC.b true]
theorem eq_laws_FnExactOpOk (a : List DC) : r_laws_FnExactOpOk a = E_laws_FnExactOpOk a := (Run_eq cfg 6 h_laws_FnExactOpOk a).trans (by kernel_rfl)
/-- loop.example/g00964/laws.szSel -/
noncomputable def E_laws_szSel (a : List DC) : Out :=
    if (decide ((IntKind.i64.wrap ((a.getD 7 d0).ii - (((a.getD 1 d0).ss).length : Int))) < (0 : Int))) = true then
      .ret [DC.i (-1 : Int)]
    else
      if (decide ((IntKind.i64.wrap ((IntKind.i64.wrap ((a.getD 7 d0).ii - (((a.getD 1 d0).ss).length : Int))) - (((a.getD 2 d0).ss).length : Int))) < (0 : Int))) = true then
        .ret [DC.i (-1 : Int)]
      else
        if (decide ((IntKind.i64.wrap ((IntKind.i64.wrap ((IntKind.i64.wrap ((a.getD 7 d0).ii - (((a.getD 1 d0).ss).length : Int))) - (((a.getD 2 d0).ss).length : Int))) - (((a.getD 3 d0).ss).length : Int))) < (0 : Int))) = true then
          .ret [DC.i (-1 : Int)]
        else
          (r_laws_szArgS [DC.sl ((a.getD 4 d0).ll), DC.i (IntKind.i64.wrap ((IntKind.i64.wrap ((IntKind.i64.wrap ((a.getD 7 d0).ii - (((a.getD 1 d0).ss).length : Int))) - (((a.getD 2 d0).ss).length : Int))) - (((a.getD 3 d0).ss).length : Int)))]).bindR fun r1 =>
          if (decide ((r1.getD 0 d0).ii < (0 : Int))) = true then
            .ret [DC.i (-1 : Int)]
          else
            (r_laws_szDirS [DC.sl ((a.getD 5 d0).ll), DC.i ((r1.getD 0 d0).ii)]).bindR fun r2 =>
            if (decide ((r2.getD 0 d0).ii < (0 : Int))) = true then
              .ret [DC.i (-1 : Int)]
            else
              (r_laws_szSelS [DC.sl ((a.getD 6 d0).ll), DC.i ((r2.getD 0 d0).ii)]).bindR fun r3 =>
              if (decide ((r3.getD 0 d0).ii < (0 : Int))) = true then
                .ret [DC.i (-1 : Int)]
              else
                .ret [DC.i ((r3.getD 0 d0).ii)]
theorem eq_laws_szSel (a : List DC) : r_laws_szSel a = E_laws_szSel a := (Run_eq cfg 7 h_laws_szSel a).trans (by kernel_rfl)
/-- loop.example/g00964/laws.toSel -/
noncomputable def E_laws_toSel (a : List DC) : Out :=
    (r_laws_toArgS [DC.sl ((a.getD 4 d0).ll)]).bindR fun r1 =>
    (r_laws_toDirS [DC.sl ((a.getD 5 d0).ll)]).bindR fun r2 =>
    (r_laws_toSelS [DC.sl ((a.getD 6 d0).ll)]).bindR fun r3 =>
    .ret [DC.i ((a.getD 0 d0).ii), DC.s ((a.getD 1 d0).ss), DC.s ((a.getD 2 d0).ss), DC.s ((a.getD 3 d0).ss), DC.sl ((r1.getD 0 d0).ll), DC.sl ((r2.getD 0 d0).ll), DC.sl ((r3.getD 0 d0).ll)]
theorem eq_laws_toSel (a : List DC) : r_laws_toSel a = E_laws_toSel a := (Run_eq cfg 9 h_laws_toSel a).trans (by kernel_rfl)
/-- loop.example/g00964/spec.SelOk -/
noncomputable def E_spec_SelOk (a : List DC) : Out :=
    Out.andThen ((r_spec_l11Count [DC.i ((a.getD 0 d0).ii), DC.s ((a.getD 1 d0).ss), DC.s ((a.getD 2 d0).ss), DC.s ((a.getD 3 d0).ss), DC.sl ((a.getD 4 d0).ll), DC.sl ((a.getD 5 d0).ll), DC.sl ((a.getD 6 d0).ll), DC.i (120 : Int)]).bindR fun r1 =>
      if (decide ((r1.getD 0 d0).ii ≥ (0 : Int))) = true then
        (r_spec_l11Right [DC.i ((a.getD 0 d0).ii), DC.s ((a.getD 1 d0).ss), DC.s ((a.getD 2 d0).ss), DC.s ((a.getD 3 d0).ss), DC.sl ((a.getD 4 d0).ll), DC.sl ((a.getD 5 d0).ll), DC.sl ((a.getD 6 d0).ll), DC.i (10 : Int)]).bindR fun r2 =>
        .norm [DC.b ((r2.getD 0 d0).bb)]
      else
        .norm [DC.b false]) fun v3 =>
    .ret [DC.b ((v3.getD 0 d0).bb)]
theorem eq_spec_SelOk (a : List DC) : r_spec_SelOk a = E_spec_SelOk a := (Run_eq cfg 8 h_spec_SelOk a).trans (by kernel_rfl)
/-- loop.example/g00964/impl.SelOk -/
noncomputable def E_impl_SelOk (a : List DC) : Out :=
    (r_impl_bound_selOk [DC.i ((a.getD 0 d0).ii), DC.s ((a.getD 1 d0).ss), DC.s ((a.getD 2 d0).ss), DC.s ((a.getD 3 d0).ss), DC.sl ((a.getD 4 d0).ll), DC.sl ((a.getD 5 d0).ll), DC.sl ((a.getD 6 d0).ll), DC.i (10 : Int), DC.i (120 : Int)]).bindR fun r1 =>
    .ret [DC.b ((r1.getD 0 d0).bb)]
theorem eq_impl_SelOk (a : List DC) : r_impl_SelOk a = E_impl_SelOk a := (Run_eq cfg 10 h_impl_SelOk a).trans (by kernel_rfl)
/-- loop.example/g00964/laws.eqSel -/
noncomputable def E_laws_eqSel (a : List DC) : Out :=
    if ((a.getD 0 d0).ii != (a.getD 7 d0).ii) = true then
      .ret [DC.b false]
    else
      if (!((a.getD 1 d0).ss == (a.getD 8 d0).ss)) = true then
        .ret [DC.b false]
      else
        if (!((a.getD 2 d0).ss == (a.getD 9 d0).ss)) = true then
          .ret [DC.b false]
        else
          if (!((a.getD 3 d0).ss == (a.getD 10 d0).ss)) = true then
            .ret [DC.b false]
          else
            (r_laws_eqArgS [DC.sl ((a.getD 4 d0).ll), DC.sl ((a.getD 11 d0).ll)]).bindR fun r1 =>
            if (!((r1.getD 0 d0).bb)) = true then
              .ret [DC.b false]
            else
              (r_laws_eqDirS [DC.sl ((a.getD 5 d0).ll), DC.sl ((a.getD 12 d0).ll)]).bindR fun r2 =>
              if (!((r2.getD 0 d0).bb)) = true then
                .ret [DC.b false]
              else
                (r_laws_eqSelS [DC.sl ((a.getD 6 d0).ll), DC.sl ((a.getD 13 d0).ll)]).bindR fun r3 =>
                if (!((r3.getD 0 d0).bb)) = true then
                  .ret [DC.b false]
                else
                  .ret [DC.b true]
theorem eq_laws_eqSel (a : List DC) : r_laws_eqSel a = E_laws_eqSel a := (Run_eq cfg 11 h_laws_eqSel a).trans (by kernel_rfl)
/-- loop.example/g00964/laws.szFrag -/
noncomputable def E_laws_szFrag (a : List DC) : Out :=
    if (decide ((IntKind.i64.wrap ((a.getD 4 d0).ii - (((a.getD 0 d0).ss).length : Int))) < (0 : Int))) = true then
      .ret [DC.i (-1 : Int)]
    else
      if (decide ((IntKind.i64.wrap ((IntKind.i64.wrap ((a.getD 4 d0).ii - (((a.getD 0 d0).ss).length : Int))) - (((a.getD 1 d0).ss).length : Int))) < (0 : Int))) = true then
        .ret [DC.i (-1 : Int)]
      else
        (r_laws_szDirS [DC.sl ((a.getD 2 d0).ll), DC.i (IntKind.i64.wrap ((IntKind.i64.wrap ((a.getD 4 d0).ii - (((a.getD 0 d0).ss).length : Int))) - (((a.getD 1 d0).ss).length : Int)))]).bindR fun r1 =>
        if (decide ((r1.getD 0 d0).ii < (0 : Int))) = true then
          .ret [DC.i (-1 : Int)]
        else
          (r_laws_szSelS [DC.sl ((a.getD 3 d0).ll), DC.i ((r1.getD 0 d0).ii)]).bindR fun r2 =>
          if (decide ((r2.getD 0 d0).ii < (0 : Int))) = true then
            .ret [DC.i (-1 : Int)]
          else
            .ret [DC.i ((r2.getD 0 d0).ii)]
theorem eq_laws_szFrag (a : List DC) : r_laws_szFrag a = E_laws_szFrag a := (Run_eq cfg 12 h_laws_szFrag a).trans (by kernel_rfl)
/-- loop.example/g00964/laws.toFrag -/
noncomputable def E_laws_toFrag (a : List DC) : Out :=
    (r_laws_toDirS [DC.sl ((a.getD 2 d0).ll)]).bindR fun r1 =>
    (r_laws_toSelS [DC.sl ((a.getD 3 d0).ll)]).bindR fun r2 =>
    .ret [DC.s ((a.getD 0 d0).ss), DC.s ((a.getD 1 d0).ss), DC.sl ((r1.getD 0 d0).ll), DC.sl ((r2.getD 0 d0).ll)]
theorem eq_laws_toFrag (a : List DC) : r_laws_toFrag a = E_laws_toFrag a := (Run_eq cfg 14 h_laws_toFrag a).trans (by kernel_rfl)
/-- loop.example/g00964/spec.FragOk -/
noncomputable def E_spec_FragOk (a : List DC) : Out :=
    Out.andThen ((r_spec_NameOk [DC.s ((a.getD 0 d0).ss)]).bindR fun r1 =>
      if (r1.getD 0 d0).bb = true then
        if (!((a.getD 0 d0).ss == ([111, 110] : List UInt8))) = true then
          (r_spec_NameOk [DC.s ((a.getD 1 d0).ss)]).bindR fun r2 =>
          if (r2.getD 0 d0).bb = true then
            (r_spec_DirsOk [DC.sl ((a.getD 2 d0).ll)]).bindR fun r3 =>
            if (r3.getD 0 d0).bb = true then
              if (decide ((((a.getD 3 d0).ll).length : Int) > (0 : Int))) = true then
                (r_spec_l11Ok [DC.sl ((a.getD 3 d0).ll)]).bindR fun r4 =>
                .norm [DC.b ((r4.getD 0 d0).bb)]
              else
                .norm [DC.b false]
            else
              .norm [DC.b false]
          else
            .norm [DC.b false]
        else
          .norm [DC.b false]
      else
        .norm [DC.b false]) fun v5 =>
    .ret [DC.b ((v5.getD 0 d0).bb)]
theorem eq_spec_FragOk (a : List DC) : r_spec_FragOk a = E_spec_FragOk a := (Run_eq cfg 13 h_spec_FragOk a).trans (by kernel_rfl)
/-- loop.example/g00964/impl.FragOk -/
noncomputable def E_impl_FragOk (a : List DC) : Out :=
    Out.andThen ((r_impl_NameOk [DC.s ((a.getD 0 d0).ss)]).bindR fun r1 =>
      if (r1.getD 0 d0).bb = true then
        if (!((a.getD 0 d0).ss == ([111, 110] : List UInt8))) = true then
          (r_impl_NameOk [DC.s ((a.getD 1 d0).ss)]).bindR fun r2 =>
          if (r2.getD 0 d0).bb = true then
            (r_impl_DirsOk [DC.sl ((a.getD 2 d0).ll)]).bindR fun r3 =>
            if (r3.getD 0 d0).bb = true then
              (r_impl_selsOk [DC.sl ((a.getD 3 d0).ll)]).bindR fun r4 =>
              .norm [DC.b ((r4.getD 0 d0).bb)]
            else
              .norm [DC.b false]
          else
            .norm [DC.b false]
        else
          .norm [DC.b false]
      else
        .norm [DC.b false]) fun v5 =>
    .ret [DC.b ((v5.getD 0 d0).bb)]
theorem eq_impl_FragOk (a : List DC) : r_impl_FragOk a = E_impl_FragOk a := (Run_eq cfg 15 h_impl_FragOk a).trans (by kernel_rfl)
/-- loop.example/g00964/laws.eqFrag -/
noncomputable def E_laws_eqFrag (a : List DC) : Out :=
    if (!((a.getD 0 d0).ss == (a.getD 4 d0).ss)) = true then
      .ret [DC.b false]
    else
      if (!((a.getD 1 d0).ss == (a.getD 5 d0).ss)) = true then
        .ret [DC.b false]
      else
        (r_laws_eqDirS [DC.sl ((a.getD 2 d0).ll), DC.sl ((a.getD 6 d0).ll)]).bindR fun r1 =>
        if (!((r1.getD 0 d0).bb)) = true then
          .ret [DC.b false]
        else
          (r_laws_eqSelS [DC.sl ((a.getD 3 d0).ll), DC.sl ((a.getD 7 d0).ll)]).bindR fun r2 =>
          if (!((r2.getD 0 d0).bb)) = true then
            .ret [DC.b false]
          else
            .ret [DC.b true]
theorem eq_laws_eqFrag (a : List DC) : r_laws_eqFrag a = E_laws_eqFrag a := (Run_eq cfg 16 h_laws_eqFrag a).trans (by kernel_rfl)
/-- loop.example/g00964/laws.szVarDef -/
noncomputable def E_laws_szVarDef (a : List DC) : Out :=
    if (decide ((IntKind.i64.wrap ((a.getD 9 d0).ii - (((a.getD 0 d0).ss).length : Int))) < (0 : Int))) = true then
      .ret [DC.i (-1 : Int)]
    else
      (r_laws_szType [DC.s ((a.getD 1 d0).ss), DC.s ((a.getD 2 d0).ss), DC.i (IntKind.i64.wrap ((a.getD 9 d0).ii - (((a.getD 0 d0).ss).length : Int)))]).bindR fun r1 =>
      if (decide ((r1.getD 0 d0).ii < (0 : Int))) = true then
        .ret [DC.i (-1 : Int)]
      else
        (r_laws_szValue [DC.i ((a.getD 4 d0).ii), DC.s ((a.getD 5 d0).ss), DC.sl ((a.getD 6 d0).ll), DC.sl ((a.getD 7 d0).ll), DC.i ((r1.getD 0 d0).ii)]).bindR fun r2 =>
        if (decide ((r2.getD 0 d0).ii < (0 : Int))) = true then
          .ret [DC.i (-1 : Int)]
        else
          (r_laws_szDirS [DC.sl ((a.getD 8 d0).ll), DC.i ((r2.getD 0 d0).ii)]).bindR fun r3 =>
          if (decide ((r3.getD 0 d0).ii < (0 : Int))) = true then
            .ret [DC.i (-1 : Int)]
          else
            .ret [DC.i ((r3.getD 0 d0).ii)]
theorem eq_laws_szVarDef (a : List DC) : r_laws_szVarDef a = E_laws_szVarDef a := (Run_eq cfg 17 h_laws_szVarDef a).trans (by kernel_rfl)
/-- loop.example/g00964/laws.toVarDef -/
noncomputable def E_laws_toVarDef (a : List DC) : Out :=
    (r_laws_toType [DC.s ((a.getD 1 d0).ss), DC.s ((a.getD 2 d0).ss)]).bindR fun r1 =>
    (r_laws_toValue [DC.i ((a.getD 4 d0).ii), DC.s ((a.getD 5 d0).ss), DC.sl ((a.getD 6 d0).ll), DC.sl ((a.getD 7 d0).ll)]).bindR fun r2 =>
    (r_laws_toDirS [DC.sl ((a.getD 8 d0).ll)]).bindR fun r3 =>
    .ret [DC.s ((a.getD 0 d0).ss), DC.s ((r1.getD 0 d0).ss), DC.s ((r1.getD 1 d0).ss), DC.b ((a.getD 3 d0).bb), DC.i ((r2.getD 0 d0).ii), DC.s ((r2.getD 1 d0).ss), DC.sl ((r2.getD 2 d0).ll), DC.sl ((r2.getD 3 d0).ll), DC.sl ((r3.getD 0 d0).ll)]
theorem eq_laws_toVarDef (a : List DC) : r_laws_toVarDef a = E_laws_toVarDef a := (Run_eq cfg 19 h_laws_toVarDef a).trans (by kernel_rfl)
/-- loop.example/g00964/spec.VarDefOk -/
noncomputable def E_spec_VarDefOk (a : List DC) : Out :=
    Out.andThen ((r_spec_NameOk [DC.s ((a.getD 0 d0).ss)]).bindR fun r1 =>
      if (r1.getD 0 d0).bb = true then
        (r_spec_TypeOk [DC.s ((a.getD 1 d0).ss), DC.s ((a.getD 2 d0).ss)]).bindR fun r2 =>
        if (r2.getD 0 d0).bb = true then
          (r_spec_l12Default [DC.b ((a.getD 3 d0).bb), DC.i ((a.getD 4 d0).ii), DC.s ((a.getD 5 d0).ss), DC.sl ((a.getD 6 d0).ll), DC.sl ((a.getD 7 d0).ll)]).bindR fun r3 =>
          if (r3.getD 0 d0).bb = true then
            (r_spec_l12Consts [DC.sl ((a.getD 8 d0).ll)]).bindR fun r4 =>
            .norm [DC.b ((r4.getD 0 d0).bb)]
          else
            .norm [DC.b false]
        else
          .norm [DC.b false]
      else
        .norm [DC.b false]) fun v5 =>
    .ret [DC.b ((v5.getD 0 d0).bb)]
theorem eq_spec_VarDefOk (a : List DC) : r_spec_VarDefOk a = E_spec_VarDefOk a := (Run_eq cfg 18 h_spec_VarDefOk a).trans (by kernel_rfl)
/-- loop.example/g00964/impl.VarDefOk -/
noncomputable def E_impl_VarDefOk (a : List DC) : Out :=
    Out.andThen ((r_impl_NameOk [DC.s ((a.getD 0 d0).ss)]).bindR fun r1 =>
      if (r1.getD 0 d0).bb = true then
        (r_impl_TypeOk [DC.s ((a.getD 1 d0).ss), DC.s ((a.getD 2 d0).ss)]).bindR fun r2 =>
        if (r2.getD 0 d0).bb = true then
          (r_impl_defaultOk [DC.b ((a.getD 3 d0).bb), DC.i ((a.getD 4 d0).ii), DC.s ((a.getD 5 d0).ss), DC.sl ((a.getD 6 d0).ll), DC.sl ((a.getD 7 d0).ll)]).bindR fun r3 =>
          if (r3.getD 0 d0).bb = true then
            (r_impl_constDirs [DC.sl ((a.getD 8 d0).ll)]).bindR fun r4 =>
            .norm [DC.b ((r4.getD 0 d0).bb)]
          else
            .norm [DC.b false]
        else
          .norm [DC.b false]
      else
        .norm [DC.b false]) fun v5 =>
    .ret [DC.b ((v5.getD 0 d0).bb)]
theorem eq_impl_VarDefOk (a : List DC) : r_impl_VarDefOk a = E_impl_VarDefOk a := (Run_eq cfg 20 h_impl_VarDefOk a).trans (by kernel_rfl)
/-- loop.example/g00964/laws.eqVarDef -/
noncomputable def E_laws_eqVarDef (a : List DC) : Out :=
    if (!((a.getD 0 d0).ss == (a.getD 9 d0).ss)) = true then
      .ret [DC.b false]
    else
      (r_laws_eqType [DC.s ((a.getD 1 d0).ss), DC.s ((a.getD 2 d0).ss), DC.s ((a.getD 10 d0).ss), DC.s ((a.getD 11 d0).ss)]).bindR fun r1 =>
      if (!((r1.getD 0 d0).bb)) = true then
        .ret [DC.b false]
      else
        if (!((a.getD 3 d0).bb == (a.getD 12 d0).bb)) = true then
          .ret [DC.b false]
        else
          (r_laws_eqValue [DC.i ((a.getD 4 d0).ii), DC.s ((a.getD 5 d0).ss), DC.sl ((a.getD 6 d0).ll), DC.sl ((a.getD 7 d0).ll), DC.i ((a.getD 13 d0).ii), DC.s ((a.getD 14 d0).ss), DC.sl ((a.getD 15 d0).ll), DC.sl ((a.getD 16 d0).ll)]).bindR fun r2 =>
          if (!((r2.getD 0 d0).bb)) = true then
            .ret [DC.b false]
          else
            (r_laws_eqDirS [DC.sl ((a.getD 8 d0).ll), DC.sl ((a.getD 17 d0).ll)]).bindR fun r3 =>
            if (!((r3.getD 0 d0).bb)) = true then
              .ret [DC.b false]
            else
              .ret [DC.b true]
theorem eq_laws_eqVarDef (a : List DC) : r_laws_eqVarDef a = E_laws_eqVarDef a := (Run_eq cfg 21 h_laws_eqVarDef a).trans (by kernel_rfl)
/-- loop.example/g00964/laws.szOp -/
noncomputable def E_laws_szOp (a : List DC) : Out :=
    if (decide ((IntKind.i64.wrap ((a.getD 5 d0).ii - (((a.getD 1 d0).ss).length : Int))) < (0 : Int))) = true then
      .ret [DC.i (-1 : Int)]
    else
      (r_laws_szVarDefS [DC.sl ((a.getD 2 d0).ll), DC.i (IntKind.i64.wrap ((a.getD 5 d0).ii - (((a.getD 1 d0).ss).length : Int)))]).bindR fun r1 =>
      if (decide ((r1.getD 0 d0).ii < (0 : Int))) = true then
        .ret [DC.i (-1 : Int)]
      else
        (r_laws_szDirS [DC.sl ((a.getD 3 d0).ll), DC.i ((r1.getD 0 d0).ii)]).bindR fun r2 =>
        if (decide ((r2.getD 0 d0).ii < (0 : Int))) = true then
          .ret [DC.i (-1 : Int)]
        else
          (r_laws_szSelS [DC.sl ((a.getD 4 d0).ll), DC.i ((r2.getD 0 d0).ii)]).bindR fun r3 =>
          if (decide ((r3.getD 0 d0).ii < (0 : Int))) = true then
            .ret [DC.i (-1 : Int)]
          else
            .ret [DC.i ((r3.getD 0 d0).ii)]
theorem eq_laws_szOp (a : List DC) : r_laws_szOp a = E_laws_szOp a := (Run_eq cfg 22 h_laws_szOp a).trans (by kernel_rfl)
/-- loop.example/g00964/laws.toOp -/
noncomputable def E_laws_toOp (a : List DC) : Out :=
    (r_laws_toVarDefS [DC.sl ((a.getD 2 d0).ll)]).bindR fun r1 =>
    (r_laws_toDirS [DC.sl ((a.getD 3 d0).ll)]).bindR fun r2 =>
    (r_laws_toSelS [DC.sl ((a.getD 4 d0).ll)]).bindR fun r3 =>
    .ret [DC.i ((a.getD 0 d0).ii), DC.s ((a.getD 1 d0).ss), DC.sl ((r1.getD 0 d0).ll), DC.sl ((r2.getD 0 d0).ll), DC.sl ((r3.getD 0 d0).ll)]
theorem eq_laws_toOp (a : List DC) : r_laws_toOp a = E_laws_toOp a := (Run_eq cfg 24 h_laws_toOp a).trans (by kernel_rfl)
noncomputable def E_spec_OpOkL1 : List DC → Out := fun v6 =>
    if (decide ((v6.getD 0 d0).ii < (((v6.getD 3 d0).ll).length : Int))) = true then
      Out.andThenB (if 61 = 61 ∧ 0 ≤ (v6.getD 0 d0).ii ∧ (v6.getD 0 d0).ii < (((v6.getD 3 d0).ll).length : Int) then
          (r_spec_VarDefOk [DC.s (((((v6.getD 3 d0).ll).getD ((v6.getD 0 d0).ii).toNat []).getD 0 d0).ss), DC.s (((((v6.getD 3 d0).ll).getD ((v6.getD 0 d0).ii).toNat []).getD 1 d0).ss), DC.s (((((v6.getD 3 d0).ll).getD ((v6.getD 0 d0).ii).toNat []).getD 2 d0).ss), DC.b (((((v6.getD 3 d0).ll).getD ((v6.getD 0 d0).ii).toNat []).getD 3 d0).bb), DC.i (((((v6.getD 3 d0).ll).getD ((v6.getD 0 d0).ii).toNat []).getD 4 d0).ii), DC.s (((((v6.getD 3 d0).ll).getD ((v6.getD 0 d0).ii).toNat []).getD 5 d0).ss), DC.sl (((((v6.getD 3 d0).ll).getD ((v6.getD 0 d0).ii).toNat []).getD 6 d0).ll), DC.sl (((((v6.getD 3 d0).ll).getD ((v6.getD 0 d0).ii).toNat []).getD 7 d0).ll), DC.sl (((((v6.getD 3 d0).ll).getD ((v6.getD 0 d0).ii).toNat []).getD 8 d0).ll)]).bindR fun r7 =>
          if (!((r7.getD 0 d0).bb)) = true then
            .ret [DC.b false]
          else
            .norm [DC.i ((v6.getD 0 d0).ii), DC.i ((v6.getD 1 d0).ii), DC.s ((v6.getD 2 d0).ss), DC.sl ((v6.getD 3 d0).ll), DC.sl ((v6.getD 4 d0).ll), DC.sl ((v6.getD 5 d0).ll)]
        else
          .fail) 1 fun v8 =>
      .norm [DC.i (IntKind.i64.wrap ((v8.getD 0 d0).ii + (1 : Int))), DC.i ((v8.getD 1 d0).ii), DC.s ((v8.getD 2 d0).ss), DC.sl ((v8.getD 3 d0).ll), DC.sl ((v8.getD 4 d0).ll), DC.sl ((v8.getD 5 d0).ll)]
    else
      .ex 0 [DC.i ((v6.getD 1 d0).ii), DC.s ((v6.getD 2 d0).ss), DC.sl ((v6.getD 3 d0).ll), DC.sl ((v6.getD 4 d0).ll), DC.sl ((v6.getD 5 d0).ll)]
/-- loop.example/g00964/spec.OpOk -/
noncomputable def E_spec_OpOk (a : List DC) : Out :=
    Out.andThen ((r_spec_OpWord [DC.i ((a.getD 0 d0).ii)]).bindR fun r1 =>
      if ((r1.getD 0 d0).ss == ([] : List UInt8)) = true then
        .norm [DC.b true, DC.i ((a.getD 0 d0).ii), DC.s ((a.getD 1 d0).ss), DC.sl ((a.getD 2 d0).ll), DC.sl ((a.getD 3 d0).ll), DC.sl ((a.getD 4 d0).ll)]
      else
        if (!((a.getD 1 d0).ss == ([] : List UInt8))) = true then
          (r_spec_NameOk [DC.s ((a.getD 1 d0).ss)]).bindR fun r2 =>
          if (!((r2.getD 0 d0).bb)) = true then
            .norm [DC.b true, DC.i ((a.getD 0 d0).ii), DC.s ((a.getD 1 d0).ss), DC.sl ((a.getD 2 d0).ll), DC.sl ((a.getD 3 d0).ll), DC.sl ((a.getD 4 d0).ll)]
          else
            (r_spec_DirsOk [DC.sl ((a.getD 3 d0).ll)]).bindR fun r3 =>
            if (!((r3.getD 0 d0).bb)) = true then
              .norm [DC.b true, DC.i ((a.getD 0 d0).ii), DC.s ((a.getD 1 d0).ss), DC.sl ((a.getD 2 d0).ll), DC.sl ((a.getD 3 d0).ll), DC.sl ((a.getD 4 d0).ll)]
            else
              .norm [DC.b ((((a.getD 4 d0).ll).length : Int) == (0 : Int)), DC.i ((a.getD 0 d0).ii), DC.s ((a.getD 1 d0).ss), DC.sl ((a.getD 2 d0).ll), DC.sl ((a.getD 3 d0).ll), DC.sl ((a.getD 4 d0).ll)]
        else
          (r_spec_DirsOk [DC.sl ((a.getD 3 d0).ll)]).bindR fun r4 =>
          if (!((r4.getD 0 d0).bb)) = true then
            .norm [DC.b true, DC.i ((a.getD 0 d0).ii), DC.s ((a.getD 1 d0).ss), DC.sl ((a.getD 2 d0).ll), DC.sl ((a.getD 3 d0).ll), DC.sl ((a.getD 4 d0).ll)]
          else
            .norm [DC.b ((((a.getD 4 d0).ll).length : Int) == (0 : Int)), DC.i ((a.getD 0 d0).ii), DC.s ((a.getD 1 d0).ss), DC.sl ((a.getD 2 d0).ll), DC.sl ((a.getD 3 d0).ll), DC.sl ((a.getD 4 d0).ll)]) fun v5 =>
    if (v5.getD 0 d0).bb = true then
      .ret [DC.b false]
    else
      Out.andThenB (Loop E_spec_OpOkL1 [DC.i (0 : Int), DC.i ((v5.getD 1 d0).ii), DC.s ((v5.getD 2 d0).ss), DC.sl ((v5.getD 3 d0).ll), DC.sl ((v5.getD 4 d0).ll), DC.sl ((v5.getD 5 d0).ll)]) 0 fun v9 =>
      (r_spec_l11Ok [DC.sl ((v9.getD 4 d0).ll)]).bindR fun r10 =>
      .ret [DC.b ((r10.getD 0 d0).bb)]
theorem eq_spec_OpOk (a : List DC) : r_spec_OpOk a = E_spec_OpOk a := (Run_eq cfg 23 h_spec_OpOk a).trans (by kernel_rfl)
/-- loop.example/g00964/impl.OpOk -/
noncomputable def E_impl_OpOk (a : List DC) : Out :=
    Out.andThen ((r_impl_OpWord [DC.i ((a.getD 0 d0).ii)]).bindR fun r1 =>
      if (!((r1.getD 0 d0).ss == ([] : List UInt8))) = true then
        if ((a.getD 1 d0).ss == ([] : List UInt8)) = true then
          (r_slices_ContainsFunc_impl_VarDef__impl_OpOk_1 [DC.sl ((a.getD 2 d0).ll)]).bindR fun r2 =>
          if (!((r2.getD 0 d0).bb)) = true then
            (r_impl_DirsOk [DC.sl ((a.getD 3 d0).ll)]).bindR fun r3 =>
            if (r3.getD 0 d0).bb = true then
              (r_impl_selsOk [DC.sl ((a.getD 4 d0).ll)]).bindR fun r4 =>
              .norm [DC.b ((r4.getD 0 d0).bb)]
            else
              .norm [DC.b false]
          else
            .norm [DC.b false]
        else
          (r_impl_NameOk [DC.s ((a.getD 1 d0).ss)]).bindR fun r5 =>
          if (r5.getD 0 d0).bb = true then
            (r_slices_ContainsFunc_impl_VarDef__impl_OpOk_1 [DC.sl ((a.getD 2 d0).ll)]).bindR fun r6 =>
            if (!((r6.getD 0 d0).bb)) = true then
              (r_impl_DirsOk [DC.sl ((a.getD 3 d0).ll)]).bindR fun r7 =>
              if (r7.getD 0 d0).bb = true then
                (r_impl_selsOk [DC.sl ((a.getD 4 d0).ll)]).bindR fun r8 =>
                .norm [DC.b ((r8.getD 0 d0).bb)]
              else
                .norm [DC.b false]
            else
              .norm [DC.b false]
          else
            .norm [DC.b false]
      else
        .norm [DC.b false]) fun v9 =>
    .ret [DC.b ((v9.getD 0 d0).bb)]
theorem eq_impl_OpOk (a : List DC) : r_impl_OpOk a = E_impl_OpOk a := (Run_eq cfg 25 h_impl_OpOk a).trans (by kernel_rfl)
/-- loop.example/g00964/laws.eqOp -/
noncomputable def E_laws_eqOp (a : List DC) : Out :=
    if ((a.getD 0 d0).ii != (a.getD 5 d0).ii) = true then
      .ret [DC.b false]
    else
      if (!((a.getD 1 d0).ss == (a.getD 6 d0).ss)) = true then
        .ret [DC.b false]
      else
        (r_laws_eqVarDefS [DC.sl ((a.getD 2 d0).ll), DC.sl ((a.getD 7 d0).ll)]).bindR fun r1 =>
        if (!((r1.getD 0 d0).bb)) = true then
          .ret [DC.b false]
        else
          (r_laws_eqDirS [DC.sl ((a.getD 3 d0).ll), DC.sl ((a.getD 8 d0).ll)]).bindR fun r2 =>
          if (!((r2.getD 0 d0).bb)) = true then
            .ret [DC.b false]
          else
            (r_laws_eqSelS [DC.sl ((a.getD 4 d0).ll), DC.sl ((a.getD 9 d0).ll)]).bindR fun r3 =>
            if (!((r3.getD 0 d0).bb)) = true then
              .ret [DC.b false]
            else
              .ret [DC.b true]
theorem eq_laws_eqOp (a : List DC) : r_laws_eqOp a = E_laws_eqOp a := (Run_eq cfg 26 h_laws_eqOp a).trans (by kernel_rfl)
noncomputable def E_laws_szArgSL1 : List DC → Out := fun v1 =>
    if (decide ((v1.getD 2 d0).ii < (((v1.getD 0 d0).ll).length : Int))) = true then
      Out.andThenB (if 108 = 108 ∧ 0 ≤ (v1.getD 2 d0).ii ∧ (v1.getD 2 d0).ii < (((v1.getD 0 d0).ll).length : Int) then
          (r_laws_szArg [DC.s (((((v1.getD 0 d0).ll).getD ((v1.getD 2 d0).ii).toNat []).getD 0 d0).ss), DC.i (((((v1.getD 0 d0).ll).getD ((v1.getD 2 d0).ii).toNat []).getD 1 d0).ii), DC.s (((((v1.getD 0 d0).ll).getD ((v1.getD 2 d0).ii).toNat []).getD 2 d0).ss), DC.sl (((((v1.getD 0 d0).ll).getD ((v1.getD 2 d0).ii).toNat []).getD 3 d0).ll), DC.sl (((((v1.getD 0 d0).ll).getD ((v1.getD 2 d0).ii).toNat []).getD 4 d0).ll), DC.i ((v1.getD 1 d0).ii)]).bindR fun r2 =>
          if (decide ((r2.getD 0 d0).ii < (0 : Int))) = true then
            .ret [DC.i (-1 : Int)]
          else
            .norm [DC.sl ((v1.getD 0 d0).ll), DC.i ((r2.getD 0 d0).ii), DC.i ((v1.getD 2 d0).ii)]
        else
          .fail) 1 fun v3 =>
      .norm [DC.sl ((v3.getD 0 d0).ll), DC.i ((v3.getD 1 d0).ii), DC.i (IntKind.i64.wrap ((v3.getD 2 d0).ii + (1 : Int)))]
    else
      .ex 0 [DC.i ((v1.getD 1 d0).ii)]
/-- loop.example/g00964/laws.szArgS -/
noncomputable def E_laws_szArgS (a : List DC) : Out :=
    if (decide ((IntKind.i64.wrap ((a.getD 1 d0).ii - (((a.getD 0 d0).ll).length : Int))) < (0 : Int))) = true then
      .ret [DC.i (-1 : Int)]
    else
      Out.andThenB (Loop E_laws_szArgSL1 [DC.sl ((a.getD 0 d0).ll), DC.i (IntKind.i64.wrap ((a.getD 1 d0).ii - (((a.getD 0 d0).ll).length : Int))), DC.i (0 : Int)]) 0 fun v4 =>
      .ret [DC.i ((v4.getD 0 d0).ii)]
theorem eq_laws_szArgS (a : List DC) : r_laws_szArgS a = E_laws_szArgS a := (Run_eq cfg 27 h_laws_szArgS a).trans (by kernel_rfl)
noncomputable def E_laws_szDirSL1 : List DC → Out := fun v1 =>
    if (decide ((v1.getD 2 d0).ii < (((v1.getD 0 d0).ll).length : Int))) = true then
      Out.andThenB (if 111 = 111 ∧ 0 ≤ (v1.getD 2 d0).ii ∧ (v1.getD 2 d0).ii < (((v1.getD 0 d0).ll).length : Int) then
          (r_laws_szDir [DC.s (((((v1.getD 0 d0).ll).getD ((v1.getD 2 d0).ii).toNat []).getD 0 d0).ss), DC.sl (((((v1.getD 0 d0).ll).getD ((v1.getD 2 d0).ii).toNat []).getD 1 d0).ll), DC.i ((v1.getD 1 d0).ii)]).bindR fun r2 =>
          if (decide ((r2.getD 0 d0).ii < (0 : Int))) = true then
            .ret [DC.i (-1 : Int)]
          else
            .norm [DC.sl ((v1.getD 0 d0).ll), DC.i ((r2.getD 0 d0).ii), DC.i ((v1.getD 2 d0).ii)]
        else
          .fail) 1 fun v3 =>
      .norm [DC.sl ((v3.getD 0 d0).ll), DC.i ((v3.getD 1 d0).ii), DC.i (IntKind.i64.wrap ((v3.getD 2 d0).ii + (1 : Int)))]
    else
      .ex 0 [DC.i ((v1.getD 1 d0).ii)]
/-- loop.example/g00964/laws.szDirS -/
noncomputable def E_laws_szDirS (a : List DC) : Out :=
    if (decide ((IntKind.i64.wrap ((a.getD 1 d0).ii - (((a.getD 0 d0).ll).length : Int))) < (0 : Int))) = true then
      .ret [DC.i (-1 : Int)]
    else
      Out.andThenB (Loop E_laws_szDirSL1 [DC.sl ((a.getD 0 d0).ll), DC.i (IntKind.i64.wrap ((a.getD 1 d0).ii - (((a.getD 0 d0).ll).length : Int))), DC.i (0 : Int)]) 0 fun v4 =>
      .ret [DC.i ((v4.getD 0 d0).ii)]
theorem eq_laws_szDirS (a : List DC) : r_laws_szDirS a = E_laws_szDirS a := (Run_eq cfg 28 h_laws_szDirS a).trans (by kernel_rfl)
noncomputable def E_laws_szSelSL1 : List DC → Out := fun v1 =>
    if (decide ((v1.getD 2 d0).ii < (((v1.getD 0 d0).ll).length : Int))) = true then
      Out.andThenB (if 26 = 26 ∧ 0 ≤ (v1.getD 2 d0).ii ∧ (v1.getD 2 d0).ii < (((v1.getD 0 d0).ll).length : Int) then
          (r_laws_szSel [DC.i (((((v1.getD 0 d0).ll).getD ((v1.getD 2 d0).ii).toNat []).getD 0 d0).ii), DC.s (((((v1.getD 0 d0).ll).getD ((v1.getD 2 d0).ii).toNat []).getD 1 d0).ss), DC.s (((((v1.getD 0 d0).ll).getD ((v1.getD 2 d0).ii).toNat []).getD 2 d0).ss), DC.s (((((v1.getD 0 d0).ll).getD ((v1.getD 2 d0).ii).toNat []).getD 3 d0).ss), DC.sl (((((v1.getD 0 d0).ll).getD ((v1.getD 2 d0).ii).toNat []).getD 4 d0).ll), DC.sl (((((v1.getD 0 d0).ll).getD ((v1.getD 2 d0).ii).toNat []).getD 5 d0).ll), DC.sl (((((v1.getD 0 d0).ll).getD ((v1.getD 2 d0).ii).toNat []).getD 6 d0).ll), DC.i ((v1.getD 1 d0).ii)]).bindR fun r2 =>
          if (decide ((r2.getD 0 d0).ii < (0 : Int))) = true then
            .ret [DC.i (-1 : Int)]
          else
            .norm [DC.sl ((v1.getD 0 d0).ll), DC.i ((r2.getD 0 d0).ii), DC.i ((v1.getD 2 d0).ii)]
        else
          .fail) 1 fun v3 =>
      .norm [DC.sl ((v3.getD 0 d0).ll), DC.i ((v3.getD 1 d0).ii), DC.i (IntKind.i64.wrap ((v3.getD 2 d0).ii + (1 : Int)))]
    else
      .ex 0 [DC.i ((v1.getD 1 d0).ii)]
/-- loop.example/g00964/laws.szSelS -/
noncomputable def E_laws_szSelS (a : List DC) : Out :=
    if (decide ((IntKind.i64.wrap ((a.getD 1 d0).ii - (((a.getD 0 d0).ll).length : Int))) < (0 : Int))) = true then
      .ret [DC.i (-1 : Int)]
    else
      Out.andThenB (Loop E_laws_szSelSL1 [DC.sl ((a.getD 0 d0).ll), DC.i (IntKind.i64.wrap ((a.getD 1 d0).ii - (((a.getD 0 d0).ll).length : Int))), DC.i (0 : Int)]) 0 fun v4 =>
      .ret [DC.i ((v4.getD 0 d0).ii)]
theorem eq_laws_szSelS (a : List DC) : r_laws_szSelS a = E_laws_szSelS a := (Run_eq cfg 29 h_laws_szSelS a).trans (by kernel_rfl)
noncomputable def E_laws_toArgSL1 : List DC → Out := fun v1 =>
    if (decide ((v1.getD 2 d0).ii < (((v1.getD 0 d0).ll).length : Int))) = true then
      Out.andThenB (if 108 = 108 ∧ 0 ≤ (v1.getD 2 d0).ii ∧ (v1.getD 2 d0).ii < (((v1.getD 0 d0).ll).length : Int) then
          (r_laws_toArg [DC.s (((((v1.getD 0 d0).ll).getD ((v1.getD 2 d0).ii).toNat []).getD 0 d0).ss), DC.i (((((v1.getD 0 d0).ll).getD ((v1.getD 2 d0).ii).toNat []).getD 1 d0).ii), DC.s (((((v1.getD 0 d0).ll).getD ((v1.getD 2 d0).ii).toNat []).getD 2 d0).ss), DC.sl (((((v1.getD 0 d0).ll).getD ((v1.getD 2 d0).ii).toNat []).getD 3 d0).ll), DC.sl (((((v1.getD 0 d0).ll).getD ((v1.getD 2 d0).ii).toNat []).getD 4 d0).ll)]).bindR fun r2 =>
          if 114 = 114 ∧ 0 ≤ (v1.getD 2 d0).ii ∧ (v1.getD 2 d0).ii < (((v1.getD 1 d0).ll).length : Int) then
            .norm [DC.sl ((v1.getD 0 d0).ll), DC.sl (((v1.getD 1 d0).ll).set (((v1.getD 2 d0).ii).toNat) (setRunD (((v1.getD 1 d0).ll).getD (((v1.getD 2 d0).ii).toNat) []) 0 [DC.s ((r2.getD 0 d0).ss), DC.i ((r2.getD 1 d0).ii), DC.s ((r2.getD 2 d0).ss), DC.sl ((r2.getD 3 d0).ll), DC.sl ((r2.getD 4 d0).ll)])), DC.i ((v1.getD 2 d0).ii)]
          else
            .fail
        else
          .fail) 1 fun v3 =>
      .norm [DC.sl ((v3.getD 0 d0).ll), DC.sl ((v3.getD 1 d0).ll), DC.i (IntKind.i64.wrap ((v3.getD 2 d0).ii + (1 : Int)))]
    else
      .ex 0 [DC.sl ((v1.getD 1 d0).ll)]
/-- loop.example/g00964/laws.toArgS -/
noncomputable def E_laws_toArgS (a : List DC) : Out :=
    if 0 ≤ (((a.getD 0 d0).ll).length : Int) ∧ (((a.getD 0 d0).ll).length : Int) < (LIM : Int) ∧ (((a.getD 0 d0).ll).length : Int) = (((a.getD 0 d0).ll).length : Int) ∧ 88 ≤ 1024 ∧ 0 < 5 then
      Out.andThenB (Loop E_laws_toArgSL1 [DC.sl ((a.getD 0 d0).ll), DC.sl (List.replicate (((a.getD 0 d0).ll).length : Int).toNat [DC.s [], DC.i 0, DC.s [], DC.sl [], DC.sl []]), DC.i (0 : Int)]) 0 fun v4 =>
      .ret [DC.sl ((v4.getD 0 d0).ll)]
    else
      .fail
theorem eq_laws_toArgS (a : List DC) : r_laws_toArgS a = E_laws_toArgS a := (Run_eq cfg 32 h_laws_toArgS a).trans (by kernel_rfl)
noncomputable def E_laws_toDirSL1 : List DC → Out := fun v1 =>
    if (decide ((v1.getD 2 d0).ii < (((v1.getD 0 d0).ll).length : Int))) = true then
      Out.andThenB (if 111 = 111 ∧ 0 ≤ (v1.getD 2 d0).ii ∧ (v1.getD 2 d0).ii < (((v1.getD 0 d0).ll).length : Int) then
          (r_laws_toDir [DC.s (((((v1.getD 0 d0).ll).getD ((v1.getD 2 d0).ii).toNat []).getD 0 d0).ss), DC.sl (((((v1.getD 0 d0).ll).getD ((v1.getD 2 d0).ii).toNat []).getD 1 d0).ll)]).bindR fun r2 =>
          if 117 = 117 ∧ 0 ≤ (v1.getD 2 d0).ii ∧ (v1.getD 2 d0).ii < (((v1.getD 1 d0).ll).length : Int) then
            .norm [DC.sl ((v1.getD 0 d0).ll), DC.sl (((v1.getD 1 d0).ll).set (((v1.getD 2 d0).ii).toNat) (setRunD (((v1.getD 1 d0).ll).getD (((v1.getD 2 d0).ii).toNat) []) 0 [DC.s ((r2.getD 0 d0).ss), DC.sl ((r2.getD 1 d0).ll)])), DC.i ((v1.getD 2 d0).ii)]
          else
            .fail
        else
          .fail) 1 fun v3 =>
      .norm [DC.sl ((v3.getD 0 d0).ll), DC.sl ((v3.getD 1 d0).ll), DC.i (IntKind.i64.wrap ((v3.getD 2 d0).ii + (1 : Int)))]
    else
      .ex 0 [DC.sl ((v1.getD 1 d0).ll)]
/-- loop.example/g00964/laws.toDirS -/
noncomputable def E_laws_toDirS (a : List DC) : Out :=
    if 0 ≤ (((a.getD 0 d0).ll).length : Int) ∧ (((a.getD 0 d0).ll).length : Int) < (LIM : Int) ∧ (((a.getD 0 d0).ll).length : Int) = (((a.getD 0 d0).ll).length : Int) ∧ 40 ≤ 1024 ∧ 0 < 2 then
      Out.andThenB (Loop E_laws_toDirSL1 [DC.sl ((a.getD 0 d0).ll), DC.sl (List.replicate (((a.getD 0 d0).ll).length : Int).toNat [DC.s [], DC.sl []]), DC.i (0 : Int)]) 0 fun v4 =>
      .ret [DC.sl ((v4.getD 0 d0).ll)]
    else
      .fail
theorem eq_laws_toDirS (a : List DC) : r_laws_toDirS a = E_laws_toDirS a := (Run_eq cfg 33 h_laws_toDirS a).trans (by kernel_rfl)
noncomputable def E_laws_toSelSL1 : List DC → Out := fun v1 =>
    if (decide ((v1.getD 2 d0).ii < (((v1.getD 0 d0).ll).length : Int))) = true then
      Out.andThenB (if 26 = 26 ∧ 0 ≤ (v1.getD 2 d0).ii ∧ (v1.getD 2 d0).ii < (((v1.getD 0 d0).ll).length : Int) then
          (r_laws_toSel [DC.i (((((v1.getD 0 d0).ll).getD ((v1.getD 2 d0).ii).toNat []).getD 0 d0).ii), DC.s (((((v1.getD 0 d0).ll).getD ((v1.getD 2 d0).ii).toNat []).getD 1 d0).ss), DC.s (((((v1.getD 0 d0).ll).getD ((v1.getD 2 d0).ii).toNat []).getD 2 d0).ss), DC.s (((((v1.getD 0 d0).ll).getD ((v1.getD 2 d0).ii).toNat []).getD 3 d0).ss), DC.sl (((((v1.getD 0 d0).ll).getD ((v1.getD 2 d0).ii).toNat []).getD 4 d0).ll), DC.sl (((((v1.getD 0 d0).ll).getD ((v1.getD 2 d0).ii).toNat []).getD 5 d0).ll), DC.sl (((((v1.getD 0 d0).ll).getD ((v1.getD 2 d0).ii).toNat []).getD 6 d0).ll)]).bindR fun r2 =>
          if 33 = 33 ∧ 0 ≤ (v1.getD 2 d0).ii ∧ (v1.getD 2 d0).ii < (((v1.getD 1 d0).ll).length : Int) then
            .norm [DC.sl ((v1.getD 0 d0).ll), DC.sl (((v1.getD 1 d0).ll).set (((v1.getD 2 d0).ii).toNat) (setRunD (((v1.getD 1 d0).ll).getD (((v1.getD 2 d0).ii).toNat) []) 0 [DC.i ((r2.getD 0 d0).ii), DC.s ((r2.getD 1 d0).ss), DC.s ((r2.getD 2 d0).ss), DC.s ((r2.getD 3 d0).ss), DC.sl ((r2.getD 4 d0).ll), DC.sl ((r2.getD 5 d0).ll), DC.sl ((r2.getD 6 d0).ll)])), DC.i ((v1.getD 2 d0).ii)]
          else
            .fail
        else
          .fail) 1 fun v3 =>
      .norm [DC.sl ((v3.getD 0 d0).ll), DC.sl ((v3.getD 1 d0).ll), DC.i (IntKind.i64.wrap ((v3.getD 2 d0).ii + (1 : Int)))]
    else
      .ex 0 [DC.sl ((v1.getD 1 d0).ll)]
/-- loop.example/g00964/laws.toSelS -/
noncomputable def E_laws_toSelS (a : List DC) : Out :=
    if 0 ≤ (((a.getD 0 d0).ll).length : Int) ∧ (((a.getD 0 d0).ll).length : Int) < (LIM : Int) ∧ (((a.getD 0 d0).ll).length : Int) = (((a.getD 0 d0).ll).length : Int) ∧ 128 ≤ 1024 ∧ 0 < 7 then
      Out.andThenB (Loop E_laws_toSelSL1 [DC.sl ((a.getD 0 d0).ll), DC.sl (List.replicate (((a.getD 0 d0).ll).length : Int).toNat [DC.i 0, DC.s [], DC.s [], DC.s [], DC.sl [], DC.sl [], DC.sl []]), DC.i (0 : Int)]) 0 fun v4 =>
      .ret [DC.sl ((v4.getD 0 d0).ll)]
    else
      .fail
theorem eq_laws_toSelS (a : List DC) : r_laws_toSelS a = E_laws_toSelS a := (Run_eq cfg 34 h_laws_toSelS a).trans (by kernel_rfl)
noncomputable def E_spec_l11CountL1 : List DC → Out := fun v1 =>
    Out.andThen (if (decide ((v1.getD 1 d0).ii < (((v1.getD 8 d0).ll).length : Int))) = true then
        .norm [DC.i ((v1.getD 0 d0).ii), DC.i ((v1.getD 1 d0).ii), DC.b (decide ((v1.getD 0 d0).ii ≥ (0 : Int))), DC.i ((v1.getD 2 d0).ii), DC.s ((v1.getD 3 d0).ss), DC.s ((v1.getD 4 d0).ss), DC.s ((v1.getD 5 d0).ss), DC.sl ((v1.getD 6 d0).ll), DC.sl ((v1.getD 7 d0).ll), DC.sl ((v1.getD 8 d0).ll)]
      else
        .norm [DC.i ((v1.getD 0 d0).ii), DC.i ((v1.getD 1 d0).ii), DC.b false, DC.i ((v1.getD 2 d0).ii), DC.s ((v1.getD 3 d0).ss), DC.s ((v1.getD 4 d0).ss), DC.s ((v1.getD 5 d0).ss), DC.sl ((v1.getD 6 d0).ll), DC.sl ((v1.getD 7 d0).ll), DC.sl ((v1.getD 8 d0).ll)]) fun v2 =>
    if (v2.getD 2 d0).bb = true then
      Out.andThenB (if 33 = 33 ∧ 0 ≤ (v2.getD 1 d0).ii ∧ (v2.getD 1 d0).ii < (((v2.getD 9 d0).ll).length : Int) then
          (r_spec_l11Count [DC.i (((((v2.getD 9 d0).ll).getD ((v2.getD 1 d0).ii).toNat []).getD 0 d0).ii), DC.s (((((v2.getD 9 d0).ll).getD ((v2.getD 1 d0).ii).toNat []).getD 1 d0).ss), DC.s (((((v2.getD 9 d0).ll).getD ((v2.getD 1 d0).ii).toNat []).getD 2 d0).ss), DC.s (((((v2.getD 9 d0).ll).getD ((v2.getD 1 d0).ii).toNat []).getD 3 d0).ss), DC.sl (((((v2.getD 9 d0).ll).getD ((v2.getD 1 d0).ii).toNat []).getD 4 d0).ll), DC.sl (((((v2.getD 9 d0).ll).getD ((v2.getD 1 d0).ii).toNat []).getD 5 d0).ll), DC.sl (((((v2.getD 9 d0).ll).getD ((v2.getD 1 d0).ii).toNat []).getD 6 d0).ll), DC.i ((v2.getD 0 d0).ii)]).bindR fun r3 =>
          .norm [DC.i ((r3.getD 0 d0).ii), DC.i ((v2.getD 1 d0).ii), DC.i ((v2.getD 3 d0).ii), DC.s ((v2.getD 4 d0).ss), DC.s ((v2.getD 5 d0).ss), DC.s ((v2.getD 6 d0).ss), DC.sl ((v2.getD 7 d0).ll), DC.sl ((v2.getD 8 d0).ll), DC.sl ((v2.getD 9 d0).ll)]
        else
          .fail) 1 fun v4 =>
      .norm [DC.i ((v4.getD 0 d0).ii), DC.i (IntKind.i64.wrap ((v4.getD 1 d0).ii + (1 : Int))), DC.i ((v4.getD 2 d0).ii), DC.s ((v4.getD 3 d0).ss), DC.s ((v4.getD 4 d0).ss), DC.s ((v4.getD 5 d0).ss), DC.sl ((v4.getD 6 d0).ll), DC.sl ((v4.getD 7 d0).ll), DC.sl ((v4.getD 8 d0).ll)]
    else
      .ex 0 [DC.i ((v2.getD 0 d0).ii)]
/-- loop.example/g00964/spec.l11Count -/
noncomputable def E_spec_l11Count (a : List DC) : Out :=
    Out.andThenB (Loop E_spec_l11CountL1 [DC.i (IntKind.i64.wrap ((a.getD 7 d0).ii - (1 : Int))), DC.i (0 : Int), DC.i ((a.getD 0 d0).ii), DC.s ((a.getD 1 d0).ss), DC.s ((a.getD 2 d0).ss), DC.s ((a.getD 3 d0).ss), DC.sl ((a.getD 4 d0).ll), DC.sl ((a.getD 5 d0).ll), DC.sl ((a.getD 6 d0).ll)]) 0 fun v5 =>
    .ret [DC.i ((v5.getD 0 d0).ii)]
theorem eq_spec_l11Count (a : List DC) : r_spec_l11Count a = E_spec_l11Count a := (Run_eq cfg 30 h_spec_l11Count a).trans (by kernel_rfl)
noncomputable def E_spec_l11RightL1 : List DC → Out := fun v5 =>
    if (decide ((v5.getD 1 d0).ii < (((v5.getD 8 d0).ll).length : Int))) = true then
      Out.andThenB (if 33 = 33 ∧ 0 ≤ (v5.getD 1 d0).ii ∧ (v5.getD 1 d0).ii < (((v5.getD 8 d0).ll).length : Int) then
          (r_spec_l11Right [DC.i (((((v5.getD 8 d0).ll).getD ((v5.getD 1 d0).ii).toNat []).getD 0 d0).ii), DC.s (((((v5.getD 8 d0).ll).getD ((v5.getD 1 d0).ii).toNat []).getD 1 d0).ss), DC.s (((((v5.getD 8 d0).ll).getD ((v5.getD 1 d0).ii).toNat []).getD 2 d0).ss), DC.s (((((v5.getD 8 d0).ll).getD ((v5.getD 1 d0).ii).toNat []).getD 3 d0).ss), DC.sl (((((v5.getD 8 d0).ll).getD ((v5.getD 1 d0).ii).toNat []).getD 4 d0).ll), DC.sl (((((v5.getD 8 d0).ll).getD ((v5.getD 1 d0).ii).toNat []).getD 5 d0).ll), DC.sl (((((v5.getD 8 d0).ll).getD ((v5.getD 1 d0).ii).toNat []).getD 6 d0).ll), DC.i (IntKind.i64.wrap ((v5.getD 0 d0).ii - (1 : Int)))]).bindR fun r6 =>
          if (!((r6.getD 0 d0).bb)) = true then
            .ret [DC.b false]
          else
            .norm [DC.i ((v5.getD 0 d0).ii), DC.i ((v5.getD 1 d0).ii), DC.i ((v5.getD 2 d0).ii), DC.s ((v5.getD 3 d0).ss), DC.s ((v5.getD 4 d0).ss), DC.s ((v5.getD 5 d0).ss), DC.sl ((v5.getD 6 d0).ll), DC.sl ((v5.getD 7 d0).ll), DC.sl ((v5.getD 8 d0).ll)]
        else
          .fail) 1 fun v7 =>
      .norm [DC.i ((v7.getD 0 d0).ii), DC.i (IntKind.i64.wrap ((v7.getD 1 d0).ii + (1 : Int))), DC.i ((v7.getD 2 d0).ii), DC.s ((v7.getD 3 d0).ss), DC.s ((v7.getD 4 d0).ss), DC.s ((v7.getD 5 d0).ss), DC.sl ((v7.getD 6 d0).ll), DC.sl ((v7.getD 7 d0).ll), DC.sl ((v7.getD 8 d0).ll)]
    else
      .ex 0 []
/-- loop.example/g00964/spec.l11Right -/
noncomputable def E_spec_l11Right (a : List DC) : Out :=
    Out.andThen (if ((a.getD 7 d0).ii == (0 : Int)) = true then
        .norm [DC.i ((a.getD 7 d0).ii), DC.b true, DC.i ((a.getD 0 d0).ii), DC.s ((a.getD 1 d0).ss), DC.s ((a.getD 2 d0).ss), DC.s ((a.getD 3 d0).ss), DC.sl ((a.getD 4 d0).ll), DC.sl ((a.getD 5 d0).ll), DC.sl ((a.getD 6 d0).ll)]
      else
        (r_spec_l11Names [DC.i ((a.getD 0 d0).ii), DC.s ((a.getD 1 d0).ss), DC.s ((a.getD 2 d0).ss), DC.s ((a.getD 3 d0).ss), DC.sl ((a.getD 4 d0).ll), DC.sl ((a.getD 5 d0).ll), DC.sl ((a.getD 6 d0).ll)]).bindR fun r1 =>
        if (!((r1.getD 0 d0).bb)) = true then
          .norm [DC.i ((a.getD 7 d0).ii), DC.b true, DC.i ((a.getD 0 d0).ii), DC.s ((a.getD 1 d0).ss), DC.s ((a.getD 2 d0).ss), DC.s ((a.getD 3 d0).ss), DC.sl ((a.getD 4 d0).ll), DC.sl ((a.getD 5 d0).ll), DC.sl ((a.getD 6 d0).ll)]
        else
          (r_spec_ArgsOk [DC.sl ((a.getD 4 d0).ll)]).bindR fun r2 =>
          if (!((r2.getD 0 d0).bb)) = true then
            .norm [DC.i ((a.getD 7 d0).ii), DC.b true, DC.i ((a.getD 0 d0).ii), DC.s ((a.getD 1 d0).ss), DC.s ((a.getD 2 d0).ss), DC.s ((a.getD 3 d0).ss), DC.sl ((a.getD 4 d0).ll), DC.sl ((a.getD 5 d0).ll), DC.sl ((a.getD 6 d0).ll)]
          else
            (r_spec_DirsOk [DC.sl ((a.getD 5 d0).ll)]).bindR fun r3 =>
            .norm [DC.i ((a.getD 7 d0).ii), DC.b (!((r3.getD 0 d0).bb)), DC.i ((a.getD 0 d0).ii), DC.s ((a.getD 1 d0).ss), DC.s ((a.getD 2 d0).ss), DC.s ((a.getD 3 d0).ss), DC.sl ((a.getD 4 d0).ll), DC.sl ((a.getD 5 d0).ll), DC.sl ((a.getD 6 d0).ll)]) fun v4 =>
    if (v4.getD 1 d0).bb = true then
      .ret [DC.b false]
    else
      Out.andThenB (Loop E_spec_l11RightL1 [DC.i ((v4.getD 0 d0).ii), DC.i (0 : Int), DC.i ((v4.getD 2 d0).ii), DC.s ((v4.getD 3 d0).ss), DC.s ((v4.getD 4 d0).ss), DC.s ((v4.getD 5 d0).ss), DC.sl ((v4.getD 6 d0).ll), DC.sl ((v4.getD 7 d0).ll), DC.sl ((v4.getD 8 d0).ll)]) 0 fun v8 =>
      .ret [DC.b true]
theorem eq_spec_l11Right (a : List DC) : r_spec_l11Right a = E_spec_l11Right a := (Run_eq cfg 31 h_spec_l11Right a).trans (by kernel_rfl)
end Go.Proofs.YtgmfpgbgknlojaaGreatDoorV

/- What the functions do, and that they do (written by a program). -/
namespace Go.Proofs.YtgmfpgbgknlojaaGreatDoorV
open Go
set_option linter.unusedVariables false
set_option maxRecDepth 100000
noncomputable def E_impl_bound_selOkL1 : List DC → Out := fun v16 =>
    if (decide ((v16.getD 3 d0).ii < (v16.getD 2 d0).ii)) = true then
      Out.andThenB (if 33 = 33 ∧ 0 ≤ (v16.getD 3 d0).ii ∧ (v16.getD 3 d0).ii < (((v16.getD 1 d0).ll).length : Int) then
          (r_impl_bound_selOk [DC.i (((((v16.getD 1 d0).ll).getD ((v16.getD 3 d0).ii).toNat []).getD 0 d0).ii), DC.s (((((v16.getD 1 d0).ll).getD ((v16.getD 3 d0).ii).toNat []).getD 1 d0).ss), DC.s (((((v16.getD 1 d0).ll).getD ((v16.getD 3 d0).ii).toNat []).getD 2 d0).ss), DC.s (((((v16.getD 1 d0).ll).getD ((v16.getD 3 d0).ii).toNat []).getD 3 d0).ss), DC.sl (((((v16.getD 1 d0).ll).getD ((v16.getD 3 d0).ii).toNat []).getD 4 d0).ll), DC.sl (((((v16.getD 1 d0).ll).getD ((v16.getD 3 d0).ii).toNat []).getD 5 d0).ll), DC.sl (((((v16.getD 1 d0).ll).getD ((v16.getD 3 d0).ii).toNat []).getD 6 d0).ll), DC.i (IntKind.i64.wrap ((v16.getD 0 d0).ii - (1 : Int))), DC.i ((v16.getD 4 d0).ii)]).bindR fun r17 =>
          if (!((r17.getD 0 d0).bb)) = true then
            .ret [DC.b false, DC.i ((r17.getD 1 d0).ii)]
          else
            .norm [DC.i ((v16.getD 0 d0).ii), DC.sl ((v16.getD 1 d0).ll), DC.i ((v16.getD 2 d0).ii), DC.i ((v16.getD 3 d0).ii), DC.i ((r17.getD 1 d0).ii)]
        else
          .fail) 2 fun v18 =>
      .norm [DC.i ((v18.getD 0 d0).ii), DC.sl ((v18.getD 1 d0).ll), DC.i ((v18.getD 2 d0).ii), DC.i (IntKind.i64.wrap ((v18.getD 3 d0).ii + (1 : Int))), DC.i ((v18.getD 4 d0).ii)]
    else
      .ex 1 [DC.i ((v16.getD 4 d0).ii)]
/-- (*loop.example/g00964/impl.bound).selOk -/
noncomputable def E_impl_bound_selOk (a : List DC) : Out :=
    Out.andThen (if (decide ((IntKind.i64.wrap ((a.getD 8 d0).ii - (1 : Int))) < (0 : Int))) = true then
        .norm [DC.i ((a.getD 7 d0).ii), DC.b true, DC.i (IntKind.i64.wrap ((a.getD 8 d0).ii - (1 : Int))), DC.i ((a.getD 0 d0).ii), DC.s ((a.getD 1 d0).ss), DC.s ((a.getD 2 d0).ss), DC.s ((a.getD 3 d0).ss), DC.sl ((a.getD 4 d0).ll), DC.sl ((a.getD 5 d0).ll), DC.sl ((a.getD 6 d0).ll)]
      else
        if ((a.getD 7 d0).ii == (0 : Int)) = true then
          .norm [DC.i ((a.getD 7 d0).ii), DC.b true, DC.i (IntKind.i64.wrap ((a.getD 8 d0).ii - (1 : Int))), DC.i ((a.getD 0 d0).ii), DC.s ((a.getD 1 d0).ss), DC.s ((a.getD 2 d0).ss), DC.s ((a.getD 3 d0).ss), DC.sl ((a.getD 4 d0).ll), DC.sl ((a.getD 5 d0).ll), DC.sl ((a.getD 6 d0).ll)]
        else
          (r_impl_DirsOk [DC.sl ((a.getD 5 d0).ll)]).bindR fun r1 =>
          .norm [DC.i ((a.getD 7 d0).ii), DC.b (!((r1.getD 0 d0).bb)), DC.i (IntKind.i64.wrap ((a.getD 8 d0).ii - (1 : Int))), DC.i ((a.getD 0 d0).ii), DC.s ((a.getD 1 d0).ss), DC.s ((a.getD 2 d0).ss), DC.s ((a.getD 3 d0).ss), DC.sl ((a.getD 4 d0).ll), DC.sl ((a.getD 5 d0).ll), DC.sl ((a.getD 6 d0).ll)]) fun v2 =>
    if (v2.getD 1 d0).bb = true then
      .ret [DC.b false, DC.i ((v2.getD 2 d0).ii)]
    else
      Out.andThenB (Out.andThen (if ((v2.getD 3 d0).ii == (1 : Int)) = true then
            Out.andThen ((r_impl_NameOk [DC.s ((v2.getD 5 d0).ss)]).bindR fun r3 =>
              if (r3.getD 0 d0).bb = true then
                if ((v2.getD 4 d0).ss == ([] : List UInt8)) = true then
                  if ((v2.getD 6 d0).ss == ([] : List UInt8)) = true then
                    (r_impl_ArgsOk [DC.sl ((v2.getD 7 d0).ll)]).bindR fun r4 =>
                    .norm [DC.i ((v2.getD 0 d0).ii), DC.b ((r4.getD 0 d0).bb), DC.i ((v2.getD 2 d0).ii), DC.i ((v2.getD 3 d0).ii), DC.s ((v2.getD 4 d0).ss), DC.s ((v2.getD 5 d0).ss), DC.s ((v2.getD 6 d0).ss), DC.sl ((v2.getD 7 d0).ll), DC.sl ((v2.getD 8 d0).ll), DC.sl ((v2.getD 9 d0).ll)]
                  else
                    .norm [DC.i ((v2.getD 0 d0).ii), DC.b false, DC.i ((v2.getD 2 d0).ii), DC.i ((v2.getD 3 d0).ii), DC.s ((v2.getD 4 d0).ss), DC.s ((v2.getD 5 d0).ss), DC.s ((v2.getD 6 d0).ss), DC.sl ((v2.getD 7 d0).ll), DC.sl ((v2.getD 8 d0).ll), DC.sl ((v2.getD 9 d0).ll)]
                else
                  (r_impl_NameOk [DC.s ((v2.getD 4 d0).ss)]).bindR fun r5 =>
                  if (r5.getD 0 d0).bb = true then
                    if ((v2.getD 6 d0).ss == ([] : List UInt8)) = true then
                      (r_impl_ArgsOk [DC.sl ((v2.getD 7 d0).ll)]).bindR fun r6 =>
                      .norm [DC.i ((v2.getD 0 d0).ii), DC.b ((r6.getD 0 d0).bb), DC.i ((v2.getD 2 d0).ii), DC.i ((v2.getD 3 d0).ii), DC.s ((v2.getD 4 d0).ss), DC.s ((v2.getD 5 d0).ss), DC.s ((v2.getD 6 d0).ss), DC.sl ((v2.getD 7 d0).ll), DC.sl ((v2.getD 8 d0).ll), DC.sl ((v2.getD 9 d0).ll)]
                    else
                      .norm [DC.i ((v2.getD 0 d0).ii), DC.b false, DC.i ((v2.getD 2 d0).ii), DC.i ((v2.getD 3 d0).ii), DC.s ((v2.getD 4 d0).ss), DC.s ((v2.getD 5 d0).ss), DC.s ((v2.getD 6 d0).ss), DC.sl ((v2.getD 7 d0).ll), DC.sl ((v2.getD 8 d0).ll), DC.sl ((v2.getD 9 d0).ll)]
                  else
                    .norm [DC.i ((v2.getD 0 d0).ii), DC.b false, DC.i ((v2.getD 2 d0).ii), DC.i ((v2.getD 3 d0).ii), DC.s ((v2.getD 4 d0).ss), DC.s ((v2.getD 5 d0).ss), DC.s ((v2.getD 6 d0).ss), DC.sl ((v2.getD 7 d0).ll), DC.sl ((v2.getD 8 d0).ll), DC.sl ((v2.getD 9 d0).ll)]
              else
                .norm [DC.i ((v2.getD 0 d0).ii), DC.b false, DC.i ((v2.getD 2 d0).ii), DC.i ((v2.getD 3 d0).ii), DC.s ((v2.getD 4 d0).ss), DC.s ((v2.getD 5 d0).ss), DC.s ((v2.getD 6 d0).ss), DC.sl ((v2.getD 7 d0).ll), DC.sl ((v2.getD 8 d0).ll), DC.sl ((v2.getD 9 d0).ll)]) fun v7 =>
            .norm [DC.i ((v7.getD 0 d0).ii), DC.b ((v7.getD 1 d0).bb), DC.i ((v7.getD 2 d0).ii), DC.i ((v7.getD 3 d0).ii), DC.s ((v7.getD 4 d0).ss), DC.s ((v7.getD 5 d0).ss), DC.s ((v7.getD 6 d0).ss), DC.sl ((v7.getD 7 d0).ll), DC.sl ((v7.getD 8 d0).ll), DC.sl ((v7.getD 9 d0).ll)]
          else
            Out.andThen (if ((v2.getD 3 d0).ii == (2 : Int)) = true then
                Out.andThen ((r_impl_NameOk [DC.s ((v2.getD 5 d0).ss)]).bindR fun r8 =>
                  if (r8.getD 0 d0).bb = true then
                    if (!((v2.getD 5 d0).ss == ([111, 110] : List UInt8))) = true then
                      if ((v2.getD 4 d0).ss == ([] : List UInt8)) = true then
                        if ((v2.getD 6 d0).ss == ([] : List UInt8)) = true then
                          if ((((v2.getD 7 d0).ll).length : Int) == (0 : Int)) = true then
                            .norm [DC.i ((v2.getD 0 d0).ii), DC.b ((((v2.getD 9 d0).ll).length : Int) == (0 : Int)), DC.i ((v2.getD 2 d0).ii), DC.i ((v2.getD 3 d0).ii), DC.s ((v2.getD 4 d0).ss), DC.s ((v2.getD 5 d0).ss), DC.s ((v2.getD 6 d0).ss), DC.sl ((v2.getD 7 d0).ll), DC.sl ((v2.getD 8 d0).ll), DC.sl ((v2.getD 9 d0).ll)]
                          else
                            .norm [DC.i ((v2.getD 0 d0).ii), DC.b false, DC.i ((v2.getD 2 d0).ii), DC.i ((v2.getD 3 d0).ii), DC.s ((v2.getD 4 d0).ss), DC.s ((v2.getD 5 d0).ss), DC.s ((v2.getD 6 d0).ss), DC.sl ((v2.getD 7 d0).ll), DC.sl ((v2.getD 8 d0).ll), DC.sl ((v2.getD 9 d0).ll)]
                        else
                          .norm [DC.i ((v2.getD 0 d0).ii), DC.b false, DC.i ((v2.getD 2 d0).ii), DC.i ((v2.getD 3 d0).ii), DC.s ((v2.getD 4 d0).ss), DC.s ((v2.getD 5 d0).ss), DC.s ((v2.getD 6 d0).ss), DC.sl ((v2.getD 7 d0).ll), DC.sl ((v2.getD 8 d0).ll), DC.sl ((v2.getD 9 d0).ll)]
                      else
                        .norm [DC.i ((v2.getD 0 d0).ii), DC.b false, DC.i ((v2.getD 2 d0).ii), DC.i ((v2.getD 3 d0).ii), DC.s ((v2.getD 4 d0).ss), DC.s ((v2.getD 5 d0).ss), DC.s ((v2.getD 6 d0).ss), DC.sl ((v2.getD 7 d0).ll), DC.sl ((v2.getD 8 d0).ll), DC.sl ((v2.getD 9 d0).ll)]
                    else
                      .norm [DC.i ((v2.getD 0 d0).ii), DC.b false, DC.i ((v2.getD 2 d0).ii), DC.i ((v2.getD 3 d0).ii), DC.s ((v2.getD 4 d0).ss), DC.s ((v2.getD 5 d0).ss), DC.s ((v2.getD 6 d0).ss), DC.sl ((v2.getD 7 d0).ll), DC.sl ((v2.getD 8 d0).ll), DC.sl ((v2.getD 9 d0).ll)]
                  else
                    .norm [DC.i ((v2.getD 0 d0).ii), DC.b false, DC.i ((v2.getD 2 d0).ii), DC.i ((v2.getD 3 d0).ii), DC.s ((v2.getD 4 d0).ss), DC.s ((v2.getD 5 d0).ss), DC.s ((v2.getD 6 d0).ss), DC.sl ((v2.getD 7 d0).ll), DC.sl ((v2.getD 8 d0).ll), DC.sl ((v2.getD 9 d0).ll)]) fun v9 =>
                .norm [DC.i ((v9.getD 0 d0).ii), DC.b ((v9.getD 1 d0).bb), DC.i ((v9.getD 2 d0).ii), DC.i ((v9.getD 3 d0).ii), DC.s ((v9.getD 4 d0).ss), DC.s ((v9.getD 5 d0).ss), DC.s ((v9.getD 6 d0).ss), DC.sl ((v9.getD 7 d0).ll), DC.sl ((v9.getD 8 d0).ll), DC.sl ((v9.getD 9 d0).ll)]
              else
                Out.andThen (if ((v2.getD 3 d0).ii == (3 : Int)) = true then
                    Out.andThen (if ((v2.getD 5 d0).ss == ([] : List UInt8)) = true then
                        if ((v2.getD 4 d0).ss == ([] : List UInt8)) = true then
                          if ((v2.getD 6 d0).ss == ([] : List UInt8)) = true then
                            if ((((v2.getD 7 d0).ll).length : Int) == (0 : Int)) = true then
                              .norm [DC.i ((v2.getD 0 d0).ii), DC.b (decide ((((v2.getD 9 d0).ll).length : Int) > (0 : Int))), DC.i ((v2.getD 2 d0).ii), DC.i ((v2.getD 3 d0).ii), DC.s ((v2.getD 4 d0).ss), DC.s ((v2.getD 5 d0).ss), DC.s ((v2.getD 6 d0).ss), DC.sl ((v2.getD 7 d0).ll), DC.sl ((v2.getD 8 d0).ll), DC.sl ((v2.getD 9 d0).ll)]
                            else
                              .norm [DC.i ((v2.getD 0 d0).ii), DC.b false, DC.i ((v2.getD 2 d0).ii), DC.i ((v2.getD 3 d0).ii), DC.s ((v2.getD 4 d0).ss), DC.s ((v2.getD 5 d0).ss), DC.s ((v2.getD 6 d0).ss), DC.sl ((v2.getD 7 d0).ll), DC.sl ((v2.getD 8 d0).ll), DC.sl ((v2.getD 9 d0).ll)]
                          else
                            (r_impl_NameOk [DC.s ((v2.getD 6 d0).ss)]).bindR fun r10 =>
                            if (r10.getD 0 d0).bb = true then
                              if ((((v2.getD 7 d0).ll).length : Int) == (0 : Int)) = true then
                                .norm [DC.i ((v2.getD 0 d0).ii), DC.b (decide ((((v2.getD 9 d0).ll).length : Int) > (0 : Int))), DC.i ((v2.getD 2 d0).ii), DC.i ((v2.getD 3 d0).ii), DC.s ((v2.getD 4 d0).ss), DC.s ((v2.getD 5 d0).ss), DC.s ((v2.getD 6 d0).ss), DC.sl ((v2.getD 7 d0).ll), DC.sl ((v2.getD 8 d0).ll), DC.sl ((v2.getD 9 d0).ll)]
                              else
                                .norm [DC.i ((v2.getD 0 d0).ii), DC.b false, DC.i ((v2.getD 2 d0).ii), DC.i ((v2.getD 3 d0).ii), DC.s ((v2.getD 4 d0).ss), DC.s ((v2.getD 5 d0).ss), DC.s ((v2.getD 6 d0).ss), DC.sl ((v2.getD 7 d0).ll), DC.sl ((v2.getD 8 d0).ll), DC.sl ((v2.getD 9 d0).ll)]
                            else
                              .norm [DC.i ((v2.getD 0 d0).ii), DC.b false, DC.i ((v2.getD 2 d0).ii), DC.i ((v2.getD 3 d0).ii), DC.s ((v2.getD 4 d0).ss), DC.s ((v2.getD 5 d0).ss), DC.s ((v2.getD 6 d0).ss), DC.sl ((v2.getD 7 d0).ll), DC.sl ((v2.getD 8 d0).ll), DC.sl ((v2.getD 9 d0).ll)]
                        else
                          .norm [DC.i ((v2.getD 0 d0).ii), DC.b false, DC.i ((v2.getD 2 d0).ii), DC.i ((v2.getD 3 d0).ii), DC.s ((v2.getD 4 d0).ss), DC.s ((v2.getD 5 d0).ss), DC.s ((v2.getD 6 d0).ss), DC.sl ((v2.getD 7 d0).ll), DC.sl ((v2.getD 8 d0).ll), DC.sl ((v2.getD 9 d0).ll)]
                      else
                        .norm [DC.i ((v2.getD 0 d0).ii), DC.b false, DC.i ((v2.getD 2 d0).ii), DC.i ((v2.getD 3 d0).ii), DC.s ((v2.getD 4 d0).ss), DC.s ((v2.getD 5 d0).ss), DC.s ((v2.getD 6 d0).ss), DC.sl ((v2.getD 7 d0).ll), DC.sl ((v2.getD 8 d0).ll), DC.sl ((v2.getD 9 d0).ll)]) fun v11 =>
                    .norm [DC.i ((v11.getD 0 d0).ii), DC.b ((v11.getD 1 d0).bb), DC.i ((v11.getD 2 d0).ii), DC.i ((v11.getD 3 d0).ii), DC.s ((v11.getD 4 d0).ss), DC.s ((v11.getD 5 d0).ss), DC.s ((v11.getD 6 d0).ss), DC.sl ((v11.getD 7 d0).ll), DC.sl ((v11.getD 8 d0).ll), DC.sl ((v11.getD 9 d0).ll)]
                  else
                    .norm [DC.i ((v2.getD 0 d0).ii), DC.b false, DC.i ((v2.getD 2 d0).ii), DC.i ((v2.getD 3 d0).ii), DC.s ((v2.getD 4 d0).ss), DC.s ((v2.getD 5 d0).ss), DC.s ((v2.getD 6 d0).ss), DC.sl ((v2.getD 7 d0).ll), DC.sl ((v2.getD 8 d0).ll), DC.sl ((v2.getD 9 d0).ll)]) fun v12 =>
                .norm [DC.i ((v12.getD 0 d0).ii), DC.b ((v12.getD 1 d0).bb), DC.i ((v12.getD 2 d0).ii), DC.i ((v12.getD 3 d0).ii), DC.s ((v12.getD 4 d0).ss), DC.s ((v12.getD 5 d0).ss), DC.s ((v12.getD 6 d0).ss), DC.sl ((v12.getD 7 d0).ll), DC.sl ((v12.getD 8 d0).ll), DC.sl ((v12.getD 9 d0).ll)]) fun v13 =>
            .norm [DC.i ((v13.getD 0 d0).ii), DC.b ((v13.getD 1 d0).bb), DC.i ((v13.getD 2 d0).ii), DC.i ((v13.getD 3 d0).ii), DC.s ((v13.getD 4 d0).ss), DC.s ((v13.getD 5 d0).ss), DC.s ((v13.getD 6 d0).ss), DC.sl ((v13.getD 7 d0).ll), DC.sl ((v13.getD 8 d0).ll), DC.sl ((v13.getD 9 d0).ll)]) fun v14 =>
        .norm [DC.i ((v14.getD 0 d0).ii), DC.b ((v14.getD 1 d0).bb), DC.i ((v14.getD 2 d0).ii), DC.i ((v14.getD 3 d0).ii), DC.s ((v14.getD 4 d0).ss), DC.s ((v14.getD 5 d0).ss), DC.s ((v14.getD 6 d0).ss), DC.sl ((v14.getD 7 d0).ll), DC.sl ((v14.getD 8 d0).ll), DC.sl ((v14.getD 9 d0).ll)]) 0 fun v15 =>
      if (!((v15.getD 1 d0).bb)) = true then
        .ret [DC.b false, DC.i ((v15.getD 2 d0).ii)]
      else
        Out.andThenB (Loop E_impl_bound_selOkL1 [DC.i ((v15.getD 0 d0).ii), DC.sl ((v15.getD 9 d0).ll), DC.i (((v15.getD 9 d0).ll).length : Int), DC.i (0 : Int), DC.i ((v15.getD 2 d0).ii)]) 1 fun v19 =>
        .ret [DC.b true, DC.i ((v19.getD 0 d0).ii)]
theorem eq_impl_bound_selOk (a : List DC) : r_impl_bound_selOk a = E_impl_bound_selOk a := (Run_eq cfg 35 h_impl_bound_selOk a).trans (by kernel_rfl)
noncomputable def E_laws_eqArgSL1 : List DC → Out := fun v1 =>
    if (decide ((v1.getD 2 d0).ii < (((v1.getD 0 d0).ll).length : Int))) = true then
      Out.andThenB (if 114 = 114 ∧ 0 ≤ (v1.getD 2 d0).ii ∧ (v1.getD 2 d0).ii < (((v1.getD 0 d0).ll).length : Int) then
          if 114 = 114 ∧ 0 ≤ (v1.getD 2 d0).ii ∧ (v1.getD 2 d0).ii < (((v1.getD 1 d0).ll).length : Int) then
            (r_laws_eqArg [DC.s (((((v1.getD 0 d0).ll).getD ((v1.getD 2 d0).ii).toNat []).getD 0 d0).ss), DC.i (((((v1.getD 0 d0).ll).getD ((v1.getD 2 d0).ii).toNat []).getD 1 d0).ii), DC.s (((((v1.getD 0 d0).ll).getD ((v1.getD 2 d0).ii).toNat []).getD 2 d0).ss), DC.sl (((((v1.getD 0 d0).ll).getD ((v1.getD 2 d0).ii).toNat []).getD 3 d0).ll), DC.sl (((((v1.getD 0 d0).ll).getD ((v1.getD 2 d0).ii).toNat []).getD 4 d0).ll), DC.s (((((v1.getD 1 d0).ll).getD ((v1.getD 2 d0).ii).toNat []).getD 0 d0).ss), DC.i (((((v1.getD 1 d0).ll).getD ((v1.getD 2 d0).ii).toNat []).getD 1 d0).ii), DC.s (((((v1.getD 1 d0).ll).getD ((v1.getD 2 d0).ii).toNat []).getD 2 d0).ss), DC.sl (((((v1.getD 1 d0).ll).getD ((v1.getD 2 d0).ii).toNat []).getD 3 d0).ll), DC.sl (((((v1.getD 1 d0).ll).getD ((v1.getD 2 d0).ii).toNat []).getD 4 d0).ll)]).bindR fun r2 =>
            if (!((r2.getD 0 d0).bb)) = true then
              .ret [DC.b false]
            else
              .norm [DC.sl ((v1.getD 0 d0).ll), DC.sl ((v1.getD 1 d0).ll), DC.i ((v1.getD 2 d0).ii)]
          else
            .fail
        else
          .fail) 1 fun v3 =>
      .norm [DC.sl ((v3.getD 0 d0).ll), DC.sl ((v3.getD 1 d0).ll), DC.i (IntKind.i64.wrap ((v3.getD 2 d0).ii + (1 : Int)))]
    else
      .ex 0 []
/-- loop.example/g00964/laws.eqArgS -/
noncomputable def E_laws_eqArgS (a : List DC) : Out :=
    if ((((a.getD 0 d0).ll).length : Int) != (((a.getD 1 d0).ll).length : Int)) = true then
      .ret [DC.b false]
    else
      Out.andThenB (Loop E_laws_eqArgSL1 [DC.sl ((a.getD 0 d0).ll), DC.sl ((a.getD 1 d0).ll), DC.i (0 : Int)]) 0 fun v4 =>
      .ret [DC.b true]
theorem eq_laws_eqArgS (a : List DC) : r_laws_eqArgS a = E_laws_eqArgS a := (Run_eq cfg 36 h_laws_eqArgS a).trans (by kernel_rfl)
noncomputable def E_laws_eqDirSL1 : List DC → Out := fun v1 =>
    if (decide ((v1.getD 2 d0).ii < (((v1.getD 0 d0).ll).length : Int))) = true then
      Out.andThenB (if 117 = 117 ∧ 0 ≤ (v1.getD 2 d0).ii ∧ (v1.getD 2 d0).ii < (((v1.getD 0 d0).ll).length : Int) then
          if 117 = 117 ∧ 0 ≤ (v1.getD 2 d0).ii ∧ (v1.getD 2 d0).ii < (((v1.getD 1 d0).ll).length : Int) then
            (r_laws_eqDir [DC.s (((((v1.getD 0 d0).ll).getD ((v1.getD 2 d0).ii).toNat []).getD 0 d0).ss), DC.sl (((((v1.getD 0 d0).ll).getD ((v1.getD 2 d0).ii).toNat []).getD 1 d0).ll), DC.s (((((v1.getD 1 d0).ll).getD ((v1.getD 2 d0).ii).toNat []).getD 0 d0).ss), DC.sl (((((v1.getD 1 d0).ll).getD ((v1.getD 2 d0).ii).toNat []).getD 1 d0).ll)]).bindR fun r2 =>
            if (!((r2.getD 0 d0).bb)) = true then
              .ret [DC.b false]
            else
              .norm [DC.sl ((v1.getD 0 d0).ll), DC.sl ((v1.getD 1 d0).ll), DC.i ((v1.getD 2 d0).ii)]
          else
            .fail
        else
          .fail) 1 fun v3 =>
      .norm [DC.sl ((v3.getD 0 d0).ll), DC.sl ((v3.getD 1 d0).ll), DC.i (IntKind.i64.wrap ((v3.getD 2 d0).ii + (1 : Int)))]
    else
      .ex 0 []
/-- loop.example/g00964/laws.eqDirS -/
noncomputable def E_laws_eqDirS (a : List DC) : Out :=
    if ((((a.getD 0 d0).ll).length : Int) != (((a.getD 1 d0).ll).length : Int)) = true then
      .ret [DC.b false]
    else
      Out.andThenB (Loop E_laws_eqDirSL1 [DC.sl ((a.getD 0 d0).ll), DC.sl ((a.getD 1 d0).ll), DC.i (0 : Int)]) 0 fun v4 =>
      .ret [DC.b true]
theorem eq_laws_eqDirS (a : List DC) : r_laws_eqDirS a = E_laws_eqDirS a := (Run_eq cfg 37 h_laws_eqDirS a).trans (by kernel_rfl)
noncomputable def E_laws_eqSelSL1 : List DC → Out := fun v1 =>
    if (decide ((v1.getD 2 d0).ii < (((v1.getD 0 d0).ll).length : Int))) = true then
      Out.andThenB (if 33 = 33 ∧ 0 ≤ (v1.getD 2 d0).ii ∧ (v1.getD 2 d0).ii < (((v1.getD 0 d0).ll).length : Int) then
          if 33 = 33 ∧ 0 ≤ (v1.getD 2 d0).ii ∧ (v1.getD 2 d0).ii < (((v1.getD 1 d0).ll).length : Int) then
            (r_laws_eqSel [DC.i (((((v1.getD 0 d0).ll).getD ((v1.getD 2 d0).ii).toNat []).getD 0 d0).ii), DC.s (((((v1.getD 0 d0).ll).getD ((v1.getD 2 d0).ii).toNat []).getD 1 d0).ss), DC.s (((((v1.getD 0 d0).ll).getD ((v1.getD 2 d0).ii).toNat []).getD 2 d0).ss), DC.s (((((v1.getD 0 d0).ll).getD ((v1.getD 2 d0).ii).toNat []).getD 3 d0).ss), DC.sl (((((v1.getD 0 d0).ll).getD ((v1.getD 2 d0).ii).toNat []).getD 4 d0).ll), DC.sl (((((v1.getD 0 d0).ll).getD ((v1.getD 2 d0).ii).toNat []).getD 5 d0).ll), DC.sl (((((v1.getD 0 d0).ll).getD ((v1.getD 2 d0).ii).toNat []).getD 6 d0).ll), DC.i (((((v1.getD 1 d0).ll).getD ((v1.getD 2 d0).ii).toNat []).getD 0 d0).ii), DC.s (((((v1.getD 1 d0).ll).getD ((v1.getD 2 d0).ii).toNat []).getD 1 d0).ss), DC.s (((((v1.getD 1 d0).ll).getD ((v1.getD 2 d0).ii).toNat []).getD 2 d0).ss), DC.s (((((v1.getD 1 d0).ll).getD ((v1.getD 2 d0).ii).toNat []).getD 3 d0).ss), DC.sl (((((v1.getD 1 d0).ll).getD ((v1.getD 2 d0).ii).toNat []).getD 4 d0).ll), DC.sl (((((v1.getD 1 d0).ll).getD ((v1.getD 2 d0).ii).toNat []).getD 5 d0).ll), DC.sl (((((v1.getD 1 d0).ll).getD ((v1.getD 2 d0).ii).toNat []).getD 6 d0).ll)]).bindR fun r2 =>
            if (!((r2.getD 0 d0).bb)) = true then
              .ret [DC.b false]
            else
              .norm [DC.sl ((v1.getD 0 d0).ll), DC.sl ((v1.getD 1 d0).ll), DC.i ((v1.getD 2 d0).ii)]
          else
            .fail
        else
          .fail) 1 fun v3 =>
      .norm [DC.sl ((v3.getD 0 d0).ll), DC.sl ((v3.getD 1 d0).ll), DC.i (IntKind.i64.wrap ((v3.getD 2 d0).ii + (1 : Int)))]
    else
      .ex 0 []
/-- loop.example/g00964/laws.eqSelS -/
noncomputable def E_laws_eqSelS (a : List DC) : Out :=
    if ((((a.getD 0 d0).ll).length : Int) != (((a.getD 1 d0).ll).length : Int)) = true then
      .ret [DC.b false]
    else
      Out.andThenB (Loop E_laws_eqSelSL1 [DC.sl ((a.getD 0 d0).ll), DC.sl ((a.getD 1 d0).ll), DC.i (0 : Int)]) 0 fun v4 =>
      .ret [DC.b true]
theorem eq_laws_eqSelS (a : List DC) : r_laws_eqSelS a = E_laws_eqSelS a := (Run_eq cfg 38 h_laws_eqSelS a).trans (by kernel_rfl)
noncomputable def E_spec_NameOkL1 : List DC → Out := fun v3 =>
    if (decide ((v3.getD 1 d0).ii < (((v3.getD 0 d0).ss).length : Int))) = true then
      Out.andThenB (Out.andThen (if 0 ≤ (v3.getD 1 d0).ii ∧ (v3.getD 1 d0).ii < (((v3.getD 0 d0).ss).length : Int) then
            (r_spec_l03Letter [DC.i ((((v3.getD 0 d0).ss).getD ((v3.getD 1 d0).ii).toNat 0).toNat : Int)]).bindR fun r4 =>
            if (!((r4.getD 0 d0).bb)) = true then
              if 0 ≤ (v3.getD 1 d0).ii ∧ (v3.getD 1 d0).ii < (((v3.getD 0 d0).ss).length : Int) then
                (r_spec_l03Figure [DC.i ((((v3.getD 0 d0).ss).getD ((v3.getD 1 d0).ii).toNat 0).toNat : Int)]).bindR fun r5 =>
                .norm [DC.s ((v3.getD 0 d0).ss), DC.i ((v3.getD 1 d0).ii), DC.b (!((r5.getD 0 d0).bb))]
              else
                .fail
            else
              .norm [DC.s ((v3.getD 0 d0).ss), DC.i ((v3.getD 1 d0).ii), DC.b false]
          else
            .fail) fun v6 =>
        if (v6.getD 2 d0).bb = true then
          .ret [DC.b false]
        else
          .norm [DC.s ((v6.getD 0 d0).ss), DC.i ((v6.getD 1 d0).ii)]) 1 fun v7 =>
      .norm [DC.s ((v7.getD 0 d0).ss), DC.i (IntKind.i64.wrap ((v7.getD 1 d0).ii + (1 : Int)))]
    else
      .ex 0 []
/-- loop.example/g00964/spec.NameOk -/
noncomputable def E_spec_NameOk (a : List DC) : Out :=
    Out.andThen (if ((((a.getD 0 d0).ss).length : Int) == (0 : Int)) = true then
        .norm [DC.s ((a.getD 0 d0).ss), DC.b true]
      else
        if (decide ((((a.getD 0 d0).ss).length : Int) > (30 : Int))) = true then
          .norm [DC.s ((a.getD 0 d0).ss), DC.b true]
        else
          if 0 ≤ (0 : Int) ∧ (0 : Int) < (((a.getD 0 d0).ss).length : Int) then
            (r_spec_l03Figure [DC.i ((((a.getD 0 d0).ss).getD (0 : Int).toNat 0).toNat : Int)]).bindR fun r1 =>
            .norm [DC.s ((a.getD 0 d0).ss), DC.b ((r1.getD 0 d0).bb)]
          else
            .fail) fun v2 =>
    if (v2.getD 1 d0).bb = true then
      .ret [DC.b false]
    else
      Out.andThenB (Loop E_spec_NameOkL1 [DC.s ((v2.getD 0 d0).ss), DC.i (0 : Int)]) 0 fun v8 =>
      .ret [DC.b true]
theorem eq_spec_NameOk (a : List DC) : r_spec_NameOk a = E_spec_NameOk a := (Run_eq cfg 39 h_spec_NameOk a).trans (by kernel_rfl)
noncomputable def E_spec_DirsOkL1 : List DC → Out := fun v1 =>
    if (decide ((v1.getD 1 d0).ii < (((v1.getD 0 d0).ll).length : Int))) = true then
      Out.andThenB (Out.andThen (if 117 = 117 ∧ 0 ≤ (v1.getD 1 d0).ii ∧ (v1.getD 1 d0).ii < (((v1.getD 0 d0).ll).length : Int) then
            (r_spec_NameOk [DC.s (((((v1.getD 0 d0).ll).getD ((v1.getD 1 d0).ii).toNat []).getD 0 d0).ss)]).bindR fun r2 =>
            if (!((r2.getD 0 d0).bb)) = true then
              .norm [DC.sl ((v1.getD 0 d0).ll), DC.i ((v1.getD 1 d0).ii), DC.b true]
            else
              if 117 = 117 ∧ 0 ≤ (v1.getD 1 d0).ii ∧ (v1.getD 1 d0).ii < (((v1.getD 0 d0).ll).length : Int) then
                (r_spec_ArgsOk [DC.sl (((((v1.getD 0 d0).ll).getD ((v1.getD 1 d0).ii).toNat []).getD 1 d0).ll)]).bindR fun r3 =>
                .norm [DC.sl ((v1.getD 0 d0).ll), DC.i ((v1.getD 1 d0).ii), DC.b (!((r3.getD 0 d0).bb))]
              else
                .fail
          else
            .fail) fun v4 =>
        if (v4.getD 2 d0).bb = true then
          .ret [DC.b false]
        else
          .norm [DC.sl ((v4.getD 0 d0).ll), DC.i ((v4.getD 1 d0).ii)]) 1 fun v5 =>
      .norm [DC.sl ((v5.getD 0 d0).ll), DC.i (IntKind.i64.wrap ((v5.getD 1 d0).ii + (1 : Int)))]
    else
      .ex 0 []
/-- loop.example/g00964/spec.DirsOk -/
noncomputable def E_spec_DirsOk (a : List DC) : Out :=
    Out.andThenB (Loop E_spec_DirsOkL1 [DC.sl ((a.getD 0 d0).ll), DC.i (0 : Int)]) 0 fun v6 =>
    .ret [DC.b true]
theorem eq_spec_DirsOk (a : List DC) : r_spec_DirsOk a = E_spec_DirsOk a := (Run_eq cfg 40 h_spec_DirsOk a).trans (by kernel_rfl)
noncomputable def E_spec_l11OkL1 : List DC → Out := fun v1 =>
    Out.andThen (if (decide ((v1.getD 2 d0).ii < (((v1.getD 0 d0).ll).length : Int))) = true then
        .norm [DC.sl ((v1.getD 0 d0).ll), DC.i ((v1.getD 1 d0).ii), DC.i ((v1.getD 2 d0).ii), DC.b (decide ((v1.getD 1 d0).ii ≥ (0 : Int)))]
      else
        .norm [DC.sl ((v1.getD 0 d0).ll), DC.i ((v1.getD 1 d0).ii), DC.i ((v1.getD 2 d0).ii), DC.b false]) fun v2 =>
    if (v2.getD 3 d0).bb = true then
      Out.andThenB (if 33 = 33 ∧ 0 ≤ (v2.getD 2 d0).ii ∧ (v2.getD 2 d0).ii < (((v2.getD 0 d0).ll).length : Int) then
          (r_spec_l11Count [DC.i (((((v2.getD 0 d0).ll).getD ((v2.getD 2 d0).ii).toNat []).getD 0 d0).ii), DC.s (((((v2.getD 0 d0).ll).getD ((v2.getD 2 d0).ii).toNat []).getD 1 d0).ss), DC.s (((((v2.getD 0 d0).ll).getD ((v2.getD 2 d0).ii).toNat []).getD 2 d0).ss), DC.s (((((v2.getD 0 d0).ll).getD ((v2.getD 2 d0).ii).toNat []).getD 3 d0).ss), DC.sl (((((v2.getD 0 d0).ll).getD ((v2.getD 2 d0).ii).toNat []).getD 4 d0).ll), DC.sl (((((v2.getD 0 d0).ll).getD ((v2.getD 2 d0).ii).toNat []).getD 5 d0).ll), DC.sl (((((v2.getD 0 d0).ll).getD ((v2.getD 2 d0).ii).toNat []).getD 6 d0).ll), DC.i ((v2.getD 1 d0).ii)]).bindR fun r3 =>
          .norm [DC.sl ((v2.getD 0 d0).ll), DC.i ((r3.getD 0 d0).ii), DC.i ((v2.getD 2 d0).ii)]
        else
          .fail) 1 fun v4 =>
      .norm [DC.sl ((v4.getD 0 d0).ll), DC.i ((v4.getD 1 d0).ii), DC.i (IntKind.i64.wrap ((v4.getD 2 d0).ii + (1 : Int)))]
    else
      .ex 0 [DC.sl ((v2.getD 0 d0).ll), DC.i ((v2.getD 1 d0).ii)]
noncomputable def E_spec_l11OkL2 : List DC → Out := fun v6 =>
    Out.andThen (if (decide ((v6.getD 2 d0).ii < (((v6.getD 0 d0).ll).length : Int))) = true then
        .norm [DC.sl ((v6.getD 0 d0).ll), DC.i ((v6.getD 1 d0).ii), DC.i ((v6.getD 2 d0).ii), DC.b (decide ((v6.getD 1 d0).ii ≥ (0 : Int)))]
      else
        .norm [DC.sl ((v6.getD 0 d0).ll), DC.i ((v6.getD 1 d0).ii), DC.i ((v6.getD 2 d0).ii), DC.b false]) fun v7 =>
    if (v7.getD 3 d0).bb = true then
      Out.andThenB (if 33 = 33 ∧ 0 ≤ (v7.getD 2 d0).ii ∧ (v7.getD 2 d0).ii < (((v7.getD 0 d0).ll).length : Int) then
          (r_spec_l11Right [DC.i (((((v7.getD 0 d0).ll).getD ((v7.getD 2 d0).ii).toNat []).getD 0 d0).ii), DC.s (((((v7.getD 0 d0).ll).getD ((v7.getD 2 d0).ii).toNat []).getD 1 d0).ss), DC.s (((((v7.getD 0 d0).ll).getD ((v7.getD 2 d0).ii).toNat []).getD 2 d0).ss), DC.s (((((v7.getD 0 d0).ll).getD ((v7.getD 2 d0).ii).toNat []).getD 3 d0).ss), DC.sl (((((v7.getD 0 d0).ll).getD ((v7.getD 2 d0).ii).toNat []).getD 4 d0).ll), DC.sl (((((v7.getD 0 d0).ll).getD ((v7.getD 2 d0).ii).toNat []).getD 5 d0).ll), DC.sl (((((v7.getD 0 d0).ll).getD ((v7.getD 2 d0).ii).toNat []).getD 6 d0).ll), DC.i (10 : Int)]).bindR fun r8 =>
          if (!((r8.getD 0 d0).bb)) = true then
            .ret [DC.b false]
          else
            .norm [DC.sl ((v7.getD 0 d0).ll), DC.i ((v7.getD 1 d0).ii), DC.i ((v7.getD 2 d0).ii)]
        else
          .fail) 3 fun v9 =>
      .norm [DC.sl ((v9.getD 0 d0).ll), DC.i ((v9.getD 1 d0).ii), DC.i (IntKind.i64.wrap ((v9.getD 2 d0).ii + (1 : Int)))]
    else
      .ex 2 [DC.i ((v7.getD 1 d0).ii)]
/-- loop.example/g00964/spec.l11Ok -/
noncomputable def E_spec_l11Ok (a : List DC) : Out :=
    Out.andThenB (Loop E_spec_l11OkL1 [DC.sl ((a.getD 0 d0).ll), DC.i (120 : Int), DC.i (0 : Int)]) 0 fun v5 =>
    Out.andThenB (Loop E_spec_l11OkL2 [DC.sl ((v5.getD 0 d0).ll), DC.i ((v5.getD 1 d0).ii), DC.i (0 : Int)]) 2 fun v10 =>
    .ret [DC.b (decide ((v10.getD 0 d0).ii ≥ (0 : Int)))]
theorem eq_spec_l11Ok (a : List DC) : r_spec_l11Ok a = E_spec_l11Ok a := (Run_eq cfg 41 h_spec_l11Ok a).trans (by kernel_rfl)
noncomputable def E_impl_NameOkL1 : List DC → Out := fun v4 =>
    if (decide ((v4.getD 2 d0).ii < (v4.getD 1 d0).ii)) = true then
      Out.andThenB (if 0 ≤ (v4.getD 2 d0).ii ∧ (v4.getD 2 d0).ii < (((v4.getD 0 d0).ss).length : Int) then
          (r_impl_inName [DC.i ((((v4.getD 0 d0).ss).getD ((v4.getD 2 d0).ii).toNat 0).toNat : Int)]).bindR fun r5 =>
          if (!((r5.getD 0 d0).bb)) = true then
            .ret [DC.b false]
          else
            .norm [DC.s ((v4.getD 0 d0).ss), DC.i ((v4.getD 1 d0).ii), DC.i ((v4.getD 2 d0).ii)]
        else
          .fail) 1 fun v6 =>
      .norm [DC.s ((v6.getD 0 d0).ss), DC.i ((v6.getD 1 d0).ii), DC.i (IntKind.i64.wrap ((v6.getD 2 d0).ii + (1 : Int)))]
    else
      .ex 0 []
/-- loop.example/g00964/impl.NameOk -/
noncomputable def E_impl_NameOk (a : List DC) : Out :=
    Out.andThen ((r_impl_in [DC.i (((a.getD 0 d0).ss).length : Int), DC.i (1 : Int), DC.i (30 : Int)]).bindR fun r1 =>
      if (!((r1.getD 0 d0).bb)) = true then
        .norm [DC.s ((a.getD 0 d0).ss), DC.b true]
      else
        if 0 ≤ (0 : Int) ∧ (0 : Int) < (((a.getD 0 d0).ss).length : Int) then
          (r_impl_isFigure [DC.i ((((a.getD 0 d0).ss).getD (0 : Int).toNat 0).toNat : Int)]).bindR fun r2 =>
          .norm [DC.s ((a.getD 0 d0).ss), DC.b ((r2.getD 0 d0).bb)]
        else
          .fail) fun v3 =>
    if (v3.getD 1 d0).bb = true then
      .ret [DC.b false]
    else
      Out.andThenB (Loop E_impl_NameOkL1 [DC.s ((v3.getD 0 d0).ss), DC.i (((v3.getD 0 d0).ss).length : Int), DC.i (0 : Int)]) 0 fun v7 =>
      .ret [DC.b true]
theorem eq_impl_NameOk (a : List DC) : r_impl_NameOk a = E_impl_NameOk a := (Run_eq cfg 42 h_impl_NameOk a).trans (by kernel_rfl)
/-- loop.example/g00964/impl.DirsOk -/
noncomputable def E_impl_DirsOk (a : List DC) : Out :=
    (r_slices_ContainsFunc_impl_Dir__impl_DirsOk_1 [DC.sl ((a.getD 0 d0).ll)]).bindR fun r1 =>
    .ret [DC.b (!((r1.getD 0 d0).bb))]
theorem eq_impl_DirsOk (a : List DC) : r_impl_DirsOk a = E_impl_DirsOk a := (Run_eq cfg 43 h_impl_DirsOk a).trans (by kernel_rfl)
noncomputable def E_impl_selsOkL1 : List DC → Out := fun v1 =>
    if (decide ((v1.getD 3 d0).ii < (v1.getD 2 d0).ii)) = true then
      Out.andThenB (if 33 = 33 ∧ 0 ≤ (v1.getD 3 d0).ii ∧ (v1.getD 3 d0).ii < (((v1.getD 1 d0).ll).length : Int) then
          (r_impl_bound_selOk [DC.i (((((v1.getD 1 d0).ll).getD ((v1.getD 3 d0).ii).toNat []).getD 0 d0).ii), DC.s (((((v1.getD 1 d0).ll).getD ((v1.getD 3 d0).ii).toNat []).getD 1 d0).ss), DC.s (((((v1.getD 1 d0).ll).getD ((v1.getD 3 d0).ii).toNat []).getD 2 d0).ss), DC.s (((((v1.getD 1 d0).ll).getD ((v1.getD 3 d0).ii).toNat []).getD 3 d0).ss), DC.sl (((((v1.getD 1 d0).ll).getD ((v1.getD 3 d0).ii).toNat []).getD 4 d0).ll), DC.sl (((((v1.getD 1 d0).ll).getD ((v1.getD 3 d0).ii).toNat []).getD 5 d0).ll), DC.sl (((((v1.getD 1 d0).ll).getD ((v1.getD 3 d0).ii).toNat []).getD 6 d0).ll), DC.i (10 : Int), DC.i ((v1.getD 4 d0).ii)]).bindR fun r2 =>
          if (!((r2.getD 0 d0).bb)) = true then
            .ret [DC.b false]
          else
            .norm [DC.sl ((v1.getD 0 d0).ll), DC.sl ((v1.getD 1 d0).ll), DC.i ((v1.getD 2 d0).ii), DC.i ((v1.getD 3 d0).ii), DC.i ((r2.getD 1 d0).ii)]
        else
          .fail) 1 fun v3 =>
      .norm [DC.sl ((v3.getD 0 d0).ll), DC.sl ((v3.getD 1 d0).ll), DC.i ((v3.getD 2 d0).ii), DC.i (IntKind.i64.wrap ((v3.getD 3 d0).ii + (1 : Int))), DC.i ((v3.getD 4 d0).ii)]
    else
      .ex 0 [DC.sl ((v1.getD 0 d0).ll)]
/-- loop.example/g00964/impl.selsOk -/
noncomputable def E_impl_selsOk (a : List DC) : Out :=
    Out.andThenB (Loop E_impl_selsOkL1 [DC.sl ((a.getD 0 d0).ll), DC.sl ((a.getD 0 d0).ll), DC.i (((a.getD 0 d0).ll).length : Int), DC.i (0 : Int), DC.i (120 : Int)]) 0 fun v4 =>
    .ret [DC.b (decide ((((v4.getD 0 d0).ll).length : Int) > (0 : Int)))]
theorem eq_impl_selsOk (a : List DC) : r_impl_selsOk a = E_impl_selsOk a := (Run_eq cfg 44 h_impl_selsOk a).trans (by kernel_rfl)
/-- loop.example/g00964/laws.szType -/
noncomputable def E_laws_szType (a : List DC) : Out :=
    if (decide ((IntKind.i64.wrap ((a.getD 2 d0).ii - (((a.getD 0 d0).ss).length : Int))) < (0 : Int))) = true then
      .ret [DC.i (-1 : Int)]
    else
      if (decide ((IntKind.i64.wrap ((IntKind.i64.wrap ((a.getD 2 d0).ii - (((a.getD 0 d0).ss).length : Int))) - (((a.getD 1 d0).ss).length : Int))) < (0 : Int))) = true then
        .ret [DC.i (-1 : Int)]
      else
        .ret [DC.i (IntKind.i64.wrap ((IntKind.i64.wrap ((a.getD 2 d0).ii - (((a.getD 0 d0).ss).length : Int))) - (((a.getD 1 d0).ss).length : Int)))]
theorem eq_laws_szType (a : List DC) : r_laws_szType a = E_laws_szType a := (Run_eq cfg 45 h_laws_szType a).trans (by kernel_rfl)
/-- loop.example/g00964/laws.szValue -/
noncomputable def E_laws_szValue (a : List DC) : Out :=
    if (decide ((IntKind.i64.wrap ((a.getD 4 d0).ii - (((a.getD 1 d0).ss).length : Int))) < (0 : Int))) = true then
      .ret [DC.i (-1 : Int)]
    else
      (r_laws_szValueS [DC.sl ((a.getD 2 d0).ll), DC.i (IntKind.i64.wrap ((a.getD 4 d0).ii - (((a.getD 1 d0).ss).length : Int)))]).bindR fun r1 =>
      if (decide ((r1.getD 0 d0).ii < (0 : Int))) = true then
        .ret [DC.i (-1 : Int)]
      else
        (r_laws_szStringS [DC.sl ((a.getD 3 d0).ll), DC.i ((r1.getD 0 d0).ii)]).bindR fun r2 =>
        if (decide ((r2.getD 0 d0).ii < (0 : Int))) = true then
          .ret [DC.i (-1 : Int)]
        else
          .ret [DC.i ((r2.getD 0 d0).ii)]
theorem eq_laws_szValue (a : List DC) : r_laws_szValue a = E_laws_szValue a := (Run_eq cfg 46 h_laws_szValue a).trans (by kernel_rfl)
/-- loop.example/g00964/laws.toType -/
noncomputable def E_laws_toType (a : List DC) : Out :=
    .ret [DC.s ((a.getD 0 d0).ss), DC.s ((a.getD 1 d0).ss)]
theorem eq_laws_toType (a : List DC) : r_laws_toType a = E_laws_toType a := (Run_eq cfg 50 h_laws_toType a).trans (by kernel_rfl)
/-- loop.example/g00964/laws.toValue -/
noncomputable def E_laws_toValue (a : List DC) : Out :=
    (r_laws_toValueS [DC.sl ((a.getD 2 d0).ll)]).bindR fun r1 =>
    (r_laws_toStringS [DC.sl ((a.getD 3 d0).ll)]).bindR fun r2 =>
    .ret [DC.i ((a.getD 0 d0).ii), DC.s ((a.getD 1 d0).ss), DC.sl ((r1.getD 0 d0).ll), DC.sl ((r2.getD 0 d0).ll)]
theorem eq_laws_toValue (a : List DC) : r_laws_toValue a = E_laws_toValue a := (Run_eq cfg 51 h_laws_toValue a).trans (by kernel_rfl)
noncomputable def E_spec_TypeOkL1 : List DC → Out := fun v3 =>
    if (decide ((v3.getD 0 d0).ii < (((v3.getD 2 d0).ss).length : Int))) = true then
      Out.andThenB (Out.andThen (if 0 ≤ (v3.getD 0 d0).ii ∧ (v3.getD 0 d0).ii < (((v3.getD 2 d0).ss).length : Int) then
            if (((((v3.getD 2 d0).ss).getD ((v3.getD 0 d0).ii).toNat 0).toNat : Int) != (33 : Int)) = true then
              if 0 ≤ (v3.getD 0 d0).ii ∧ (v3.getD 0 d0).ii < (((v3.getD 2 d0).ss).length : Int) then
                if (((((v3.getD 2 d0).ss).getD ((v3.getD 0 d0).ii).toNat 0).toNat : Int) != (93 : Int)) = true then
                  .norm [DC.i ((v3.getD 0 d0).ii), DC.b true, DC.s ((v3.getD 1 d0).ss), DC.s ((v3.getD 2 d0).ss)]
                else
                  if (decide ((v3.getD 0 d0).ii > (0 : Int))) = true then
                    if 0 ≤ (v3.getD 0 d0).ii ∧ (v3.getD 0 d0).ii < (((v3.getD 2 d0).ss).length : Int) then
                      if (((((v3.getD 2 d0).ss).getD ((v3.getD 0 d0).ii).toNat 0).toNat : Int) == (33 : Int)) = true then
                        if 0 ≤ (IntKind.i64.wrap ((v3.getD 0 d0).ii - (1 : Int))) ∧ (IntKind.i64.wrap ((v3.getD 0 d0).ii - (1 : Int))) < (((v3.getD 2 d0).ss).length : Int) then
                          .norm [DC.i ((v3.getD 0 d0).ii), DC.b (((((v3.getD 2 d0).ss).getD (IntKind.i64.wrap ((v3.getD 0 d0).ii - (1 : Int))).toNat 0).toNat : Int) == (33 : Int)), DC.s ((v3.getD 1 d0).ss), DC.s ((v3.getD 2 d0).ss)]
                        else
                          .fail
                      else
                        .norm [DC.i ((v3.getD 0 d0).ii), DC.b false, DC.s ((v3.getD 1 d0).ss), DC.s ((v3.getD 2 d0).ss)]
                    else
                      .fail
                  else
                    .norm [DC.i ((v3.getD 0 d0).ii), DC.b false, DC.s ((v3.getD 1 d0).ss), DC.s ((v3.getD 2 d0).ss)]
              else
                .fail
            else
              if (decide ((v3.getD 0 d0).ii > (0 : Int))) = true then
                if 0 ≤ (v3.getD 0 d0).ii ∧ (v3.getD 0 d0).ii < (((v3.getD 2 d0).ss).length : Int) then
                  if (((((v3.getD 2 d0).ss).getD ((v3.getD 0 d0).ii).toNat 0).toNat : Int) == (33 : Int)) = true then
                    if 0 ≤ (IntKind.i64.wrap ((v3.getD 0 d0).ii - (1 : Int))) ∧ (IntKind.i64.wrap ((v3.getD 0 d0).ii - (1 : Int))) < (((v3.getD 2 d0).ss).length : Int) then
                      .norm [DC.i ((v3.getD 0 d0).ii), DC.b (((((v3.getD 2 d0).ss).getD (IntKind.i64.wrap ((v3.getD 0 d0).ii - (1 : Int))).toNat 0).toNat : Int) == (33 : Int)), DC.s ((v3.getD 1 d0).ss), DC.s ((v3.getD 2 d0).ss)]
                    else
                      .fail
                  else
                    .norm [DC.i ((v3.getD 0 d0).ii), DC.b false, DC.s ((v3.getD 1 d0).ss), DC.s ((v3.getD 2 d0).ss)]
                else
                  .fail
              else
                .norm [DC.i ((v3.getD 0 d0).ii), DC.b false, DC.s ((v3.getD 1 d0).ss), DC.s ((v3.getD 2 d0).ss)]
          else
            .fail) fun v4 =>
        if (v4.getD 1 d0).bb = true then
          .ret [DC.b false]
        else
          .norm [DC.i ((v4.getD 0 d0).ii), DC.s ((v4.getD 2 d0).ss), DC.s ((v4.getD 3 d0).ss)]) 1 fun v5 =>
      .norm [DC.i (IntKind.i64.wrap ((v5.getD 0 d0).ii + (1 : Int))), DC.s ((v5.getD 1 d0).ss), DC.s ((v5.getD 2 d0).ss)]
    else
      .ex 0 []
/-- loop.example/g00964/spec.TypeOk -/
noncomputable def E_spec_TypeOk (a : List DC) : Out :=
    Out.andThen ((r_spec_NameOk [DC.s ((a.getD 0 d0).ss)]).bindR fun r1 =>
      if (!((r1.getD 0 d0).bb)) = true then
        .norm [DC.b true, DC.s ((a.getD 0 d0).ss), DC.s ((a.getD 1 d0).ss)]
      else
        .norm [DC.b (decide ((((a.getD 1 d0).ss).length : Int) > (8 : Int))), DC.s ((a.getD 0 d0).ss), DC.s ((a.getD 1 d0).ss)]) fun v2 =>
    if (v2.getD 0 d0).bb = true then
      .ret [DC.b false]
    else
      Out.andThenB (Loop E_spec_TypeOkL1 [DC.i (0 : Int), DC.s ((v2.getD 1 d0).ss), DC.s ((v2.getD 2 d0).ss)]) 0 fun v6 =>
      .ret [DC.b true]
theorem eq_spec_TypeOk (a : List DC) : r_spec_TypeOk a = E_spec_TypeOk a := (Run_eq cfg 47 h_spec_TypeOk a).trans (by kernel_rfl)
/-- loop.example/g00964/spec.l12Default -/
noncomputable def E_spec_l12Default (a : List DC) : Out :=
    if (a.getD 0 d0).bb = true then
      Out.andThen ((r_spec_ValueOk [DC.i ((a.getD 1 d0).ii), DC.s ((a.getD 2 d0).ss), DC.sl ((a.getD 3 d0).ll), DC.sl ((a.getD 4 d0).ll)]).bindR fun r1 =>
        if (r1.getD 0 d0).bb = true then
          (r_spec_IsConst [DC.i ((a.getD 1 d0).ii), DC.s ((a.getD 2 d0).ss), DC.sl ((a.getD 3 d0).ll), DC.sl ((a.getD 4 d0).ll)]).bindR fun r2 =>
          .norm [DC.b ((r2.getD 0 d0).bb)]
        else
          .norm [DC.b false]) fun v3 =>
      .ret [DC.b ((v3.getD 0 d0).bb)]
    else
      (r_spec_SameValue [DC.i ((a.getD 1 d0).ii), DC.s ((a.getD 2 d0).ss), DC.sl ((a.getD 3 d0).ll), DC.sl ((a.getD 4 d0).ll), DC.i (0 : Int), DC.s [], DC.sl [], DC.sl []]).bindR fun r4 =>
      .ret [DC.b ((r4.getD 0 d0).bb)]
theorem eq_spec_l12Default (a : List DC) : r_spec_l12Default a = E_spec_l12Default a := (Run_eq cfg 48 h_spec_l12Default a).trans (by kernel_rfl)
noncomputable def E_spec_l12ConstsL1 : List DC → Out := fun v2 =>
    if 117 = 117 ∧ 0 ≤ (v2.getD 1 d0).ii ∧ (v2.getD 1 d0).ii < (((v2.getD 0 d0).ll).length : Int) then
      if (decide ((v2.getD 2 d0).ii < ((((((v2.getD 0 d0).ll).getD ((v2.getD 1 d0).ii).toNat []).getD 1 d0).ll).length : Int))) = true then
        Out.andThenB (if 117 = 117 ∧ 0 ≤ (v2.getD 1 d0).ii ∧ (v2.getD 1 d0).ii < (((v2.getD 0 d0).ll).length : Int) then
            if 114 = 114 ∧ 0 ≤ (v2.getD 2 d0).ii ∧ (v2.getD 2 d0).ii < ((((((v2.getD 0 d0).ll).getD ((v2.getD 1 d0).ii).toNat []).getD 1 d0).ll).length : Int) then
              (r_spec_IsConst [DC.i ((((((((v2.getD 0 d0).ll).getD ((v2.getD 1 d0).ii).toNat []).getD 1 d0).ll).getD ((v2.getD 2 d0).ii).toNat []).getD 1 d0).ii), DC.s ((((((((v2.getD 0 d0).ll).getD ((v2.getD 1 d0).ii).toNat []).getD 1 d0).ll).getD ((v2.getD 2 d0).ii).toNat []).getD 2 d0).ss), DC.sl ((((((((v2.getD 0 d0).ll).getD ((v2.getD 1 d0).ii).toNat []).getD 1 d0).ll).getD ((v2.getD 2 d0).ii).toNat []).getD 3 d0).ll), DC.sl ((((((((v2.getD 0 d0).ll).getD ((v2.getD 1 d0).ii).toNat []).getD 1 d0).ll).getD ((v2.getD 2 d0).ii).toNat []).getD 4 d0).ll)]).bindR fun r3 =>
              if (!((r3.getD 0 d0).bb)) = true then
                .ret [DC.b false]
              else
                .norm [DC.sl ((v2.getD 0 d0).ll), DC.i ((v2.getD 1 d0).ii), DC.i ((v2.getD 2 d0).ii)]
            else
              .fail
          else
            .fail) 3 fun v4 =>
        .norm [DC.sl ((v4.getD 0 d0).ll), DC.i ((v4.getD 1 d0).ii), DC.i (IntKind.i64.wrap ((v4.getD 2 d0).ii + (1 : Int)))]
      else
        .ex 2 [DC.sl ((v2.getD 0 d0).ll), DC.i ((v2.getD 1 d0).ii)]
    else
      .fail
noncomputable def E_spec_l12ConstsL2 : List DC → Out := fun v1 =>
    if (decide ((v1.getD 1 d0).ii < (((v1.getD 0 d0).ll).length : Int))) = true then
      Out.andThenB (Out.andThenB (Loop E_spec_l12ConstsL1 [DC.sl ((v1.getD 0 d0).ll), DC.i ((v1.getD 1 d0).ii), DC.i (0 : Int)]) 2 fun v5 =>
        .norm [DC.sl ((v5.getD 0 d0).ll), DC.i ((v5.getD 1 d0).ii)]) 1 fun v6 =>
      .norm [DC.sl ((v6.getD 0 d0).ll), DC.i (IntKind.i64.wrap ((v6.getD 1 d0).ii + (1 : Int)))]
    else
      .ex 0 [DC.sl ((v1.getD 0 d0).ll)]
/-- loop.example/g00964/spec.l12Consts -/
noncomputable def E_spec_l12Consts (a : List DC) : Out :=
    Out.andThenB (Loop E_spec_l12ConstsL2 [DC.sl ((a.getD 0 d0).ll), DC.i (0 : Int)]) 0 fun v7 =>
    (r_spec_DirsOk [DC.sl ((v7.getD 0 d0).ll)]).bindR fun r8 =>
    .ret [DC.b ((r8.getD 0 d0).bb)]
theorem eq_spec_l12Consts (a : List DC) : r_spec_l12Consts a = E_spec_l12Consts a := (Run_eq cfg 49 h_spec_l12Consts a).trans (by kernel_rfl)
/-- loop.example/g00964/impl.TypeOk -/
noncomputable def E_impl_TypeOk (a : List DC) : Out :=
    Out.andThen ((r_impl_NameOk [DC.s ((a.getD 0 d0).ss)]).bindR fun r1 =>
      if (r1.getD 0 d0).bb = true then
        if (decide ((((a.getD 1 d0).ss).length : Int) ≤ (8 : Int))) = true then
          (r_strings_Trim [DC.s ((a.getD 1 d0).ss), DC.s ([93, 33] : List UInt8)]).bindR fun r2 =>
          if ((r2.getD 0 d0).ss == ([] : List UInt8)) = true then
            (r_strings_Contains [DC.s ((a.getD 1 d0).ss), DC.s ([33, 33] : List UInt8)]).bindR fun r3 =>
            .norm [DC.b (!((r3.getD 0 d0).bb))]
          else
            .norm [DC.b false]
        else
          .norm [DC.b false]
      else
        .norm [DC.b false]) fun v4 =>
    .ret [DC.b ((v4.getD 0 d0).bb)]
theorem eq_impl_TypeOk (a : List DC) : r_impl_TypeOk a = E_impl_TypeOk a := (Run_eq cfg 52 h_impl_TypeOk a).trans (by kernel_rfl)
/-- loop.example/g00964/impl.defaultOk -/
noncomputable def E_impl_defaultOk (a : List DC) : Out :=
    if (!((a.getD 0 d0).bb)) = true then
      (r_impl_emptyValue [DC.i ((a.getD 1 d0).ii), DC.s ((a.getD 2 d0).ss), DC.sl ((a.getD 3 d0).ll), DC.sl ((a.getD 4 d0).ll)]).bindR fun r1 =>
      .ret [DC.b ((r1.getD 0 d0).bb)]
    else
      Out.andThen ((r_impl_ValueOk [DC.i ((a.getD 1 d0).ii), DC.s ((a.getD 2 d0).ss), DC.sl ((a.getD 3 d0).ll), DC.sl ((a.getD 4 d0).ll)]).bindR fun r2 =>
        if (r2.getD 0 d0).bb = true then
          (r_impl_IsConst [DC.i ((a.getD 1 d0).ii), DC.s ((a.getD 2 d0).ss), DC.sl ((a.getD 3 d0).ll), DC.sl ((a.getD 4 d0).ll)]).bindR fun r3 =>
          .norm [DC.b ((r3.getD 0 d0).bb)]
        else
          .norm [DC.b false]) fun v4 =>
      .ret [DC.b ((v4.getD 0 d0).bb)]
theorem eq_impl_defaultOk (a : List DC) : r_impl_defaultOk a = E_impl_defaultOk a := (Run_eq cfg 53 h_impl_defaultOk a).trans (by kernel_rfl)
/-- loop.example/g00964/impl.constDirs -/
noncomputable def E_impl_constDirs (a : List DC) : Out :=
    Out.andThen ((r_impl_DirsOk [DC.sl ((a.getD 0 d0).ll)]).bindR fun r1 =>
      if (r1.getD 0 d0).bb = true then
        (r_slices_ContainsFunc_impl_Dir__impl_constDirs_1 [DC.sl ((a.getD 0 d0).ll)]).bindR fun r2 =>
        .norm [DC.b (!((r2.getD 0 d0).bb))]
      else
        .norm [DC.b false]) fun v3 =>
    .ret [DC.b ((v3.getD 0 d0).bb)]
theorem eq_impl_constDirs (a : List DC) : r_impl_constDirs a = E_impl_constDirs a := (Run_eq cfg 54 h_impl_constDirs a).trans (by kernel_rfl)
/-- loop.example/g00964/laws.eqType -/
noncomputable def E_laws_eqType (a : List DC) : Out :=
    if (!((a.getD 0 d0).ss == (a.getD 2 d0).ss)) = true then
      .ret [DC.b false]
    else
      if (!((a.getD 1 d0).ss == (a.getD 3 d0).ss)) = true then
        .ret [DC.b false]
      else
        .ret [DC.b true]
theorem eq_laws_eqType (a : List DC) : r_laws_eqType a = E_laws_eqType a := (Run_eq cfg 55 h_laws_eqType a).trans (by kernel_rfl)
/-- loop.example/g00964/laws.eqValue -/
noncomputable def E_laws_eqValue (a : List DC) : Out :=
    if ((a.getD 0 d0).ii != (a.getD 4 d0).ii) = true then
      .ret [DC.b false]
    else
      if (!((a.getD 1 d0).ss == (a.getD 5 d0).ss)) = true then
        .ret [DC.b false]
      else
        (r_laws_eqValueS [DC.sl ((a.getD 2 d0).ll), DC.sl ((a.getD 6 d0).ll)]).bindR fun r1 =>
        if (!((r1.getD 0 d0).bb)) = true then
          .ret [DC.b false]
        else
          (r_laws_eqStringS [DC.sl ((a.getD 3 d0).ll), DC.sl ((a.getD 7 d0).ll)]).bindR fun r2 =>
          if (!((r2.getD 0 d0).bb)) = true then
            .ret [DC.b false]
          else
            .ret [DC.b true]
theorem eq_laws_eqValue (a : List DC) : r_laws_eqValue a = E_laws_eqValue a := (Run_eq cfg 56 h_laws_eqValue a).trans (by kernel_rfl)
noncomputable def E_laws_szVarDefSL1 : List DC → Out := fun v1 =>
    if (decide ((v1.getD 2 d0).ii < (((v1.getD 0 d0).ll).length : Int))) = true then
      Out.andThenB (if 53 = 53 ∧ 0 ≤ (v1.getD 2 d0).ii ∧ (v1.getD 2 d0).ii < (((v1.getD 0 d0).ll).length : Int) then
          (r_laws_szVarDef [DC.s (((((v1.getD 0 d0).ll).getD ((v1.getD 2 d0).ii).toNat []).getD 0 d0).ss), DC.s (((((v1.getD 0 d0).ll).getD ((v1.getD 2 d0).ii).toNat []).getD 1 d0).ss), DC.s (((((v1.getD 0 d0).ll).getD ((v1.getD 2 d0).ii).toNat []).getD 2 d0).ss), DC.b (((((v1.getD 0 d0).ll).getD ((v1.getD 2 d0).ii).toNat []).getD 3 d0).bb), DC.i (((((v1.getD 0 d0).ll).getD ((v1.getD 2 d0).ii).toNat []).getD 4 d0).ii), DC.s (((((v1.getD 0 d0).ll).getD ((v1.getD 2 d0).ii).toNat []).getD 5 d0).ss), DC.sl (((((v1.getD 0 d0).ll).getD ((v1.getD 2 d0).ii).toNat []).getD 6 d0).ll), DC.sl (((((v1.getD 0 d0).ll).getD ((v1.getD 2 d0).ii).toNat []).getD 7 d0).ll), DC.sl (((((v1.getD 0 d0).ll).getD ((v1.getD 2 d0).ii).toNat []).getD 8 d0).ll), DC.i ((v1.getD 1 d0).ii)]).bindR fun r2 =>
          if (decide ((r2.getD 0 d0).ii < (0 : Int))) = true then
            .ret [DC.i (-1 : Int)]
          else
            .norm [DC.sl ((v1.getD 0 d0).ll), DC.i ((r2.getD 0 d0).ii), DC.i ((v1.getD 2 d0).ii)]
        else
          .fail) 1 fun v3 =>
      .norm [DC.sl ((v3.getD 0 d0).ll), DC.i ((v3.getD 1 d0).ii), DC.i (IntKind.i64.wrap ((v3.getD 2 d0).ii + (1 : Int)))]
    else
      .ex 0 [DC.i ((v1.getD 1 d0).ii)]
/-- loop.example/g00964/laws.szVarDefS -/
noncomputable def E_laws_szVarDefS (a : List DC) : Out :=
    if (decide ((IntKind.i64.wrap ((a.getD 1 d0).ii - (((a.getD 0 d0).ll).length : Int))) < (0 : Int))) = true then
      .ret [DC.i (-1 : Int)]
    else
      Out.andThenB (Loop E_laws_szVarDefSL1 [DC.sl ((a.getD 0 d0).ll), DC.i (IntKind.i64.wrap ((a.getD 1 d0).ii - (((a.getD 0 d0).ll).length : Int))), DC.i (0 : Int)]) 0 fun v4 =>
      .ret [DC.i ((v4.getD 0 d0).ii)]
theorem eq_laws_szVarDefS (a : List DC) : r_laws_szVarDefS a = E_laws_szVarDefS a := (Run_eq cfg 57 h_laws_szVarDefS a).trans (by kernel_rfl)
noncomputable def E_laws_toVarDefSL1 : List DC → Out := fun v1 =>
    if (decide ((v1.getD 2 d0).ii < (((v1.getD 0 d0).ll).length : Int))) = true then
      Out.andThenB (if 53 = 53 ∧ 0 ≤ (v1.getD 2 d0).ii ∧ (v1.getD 2 d0).ii < (((v1.getD 0 d0).ll).length : Int) then
          (r_laws_toVarDef [DC.s (((((v1.getD 0 d0).ll).getD ((v1.getD 2 d0).ii).toNat []).getD 0 d0).ss), DC.s (((((v1.getD 0 d0).ll).getD ((v1.getD 2 d0).ii).toNat []).getD 1 d0).ss), DC.s (((((v1.getD 0 d0).ll).getD ((v1.getD 2 d0).ii).toNat []).getD 2 d0).ss), DC.b (((((v1.getD 0 d0).ll).getD ((v1.getD 2 d0).ii).toNat []).getD 3 d0).bb), DC.i (((((v1.getD 0 d0).ll).getD ((v1.getD 2 d0).ii).toNat []).getD 4 d0).ii), DC.s (((((v1.getD 0 d0).ll).getD ((v1.getD 2 d0).ii).toNat []).getD 5 d0).ss), DC.sl (((((v1.getD 0 d0).ll).getD ((v1.getD 2 d0).ii).toNat []).getD 6 d0).ll), DC.sl (((((v1.getD 0 d0).ll).getD ((v1.getD 2 d0).ii).toNat []).getD 7 d0).ll), DC.sl (((((v1.getD 0 d0).ll).getD ((v1.getD 2 d0).ii).toNat []).getD 8 d0).ll)]).bindR fun r2 =>
          if 61 = 61 ∧ 0 ≤ (v1.getD 2 d0).ii ∧ (v1.getD 2 d0).ii < (((v1.getD 1 d0).ll).length : Int) then
            .norm [DC.sl ((v1.getD 0 d0).ll), DC.sl (((v1.getD 1 d0).ll).set (((v1.getD 2 d0).ii).toNat) (setRunD (((v1.getD 1 d0).ll).getD (((v1.getD 2 d0).ii).toNat) []) 0 [DC.s ((r2.getD 0 d0).ss), DC.s ((r2.getD 1 d0).ss), DC.s ((r2.getD 2 d0).ss), DC.b ((r2.getD 3 d0).bb), DC.i ((r2.getD 4 d0).ii), DC.s ((r2.getD 5 d0).ss), DC.sl ((r2.getD 6 d0).ll), DC.sl ((r2.getD 7 d0).ll), DC.sl ((r2.getD 8 d0).ll)])), DC.i ((v1.getD 2 d0).ii)]
          else
            .fail
        else
          .fail) 1 fun v3 =>
      .norm [DC.sl ((v3.getD 0 d0).ll), DC.sl ((v3.getD 1 d0).ll), DC.i (IntKind.i64.wrap ((v3.getD 2 d0).ii + (1 : Int)))]
    else
      .ex 0 [DC.sl ((v1.getD 1 d0).ll)]
/-- loop.example/g00964/laws.toVarDefS -/
noncomputable def E_laws_toVarDefS (a : List DC) : Out :=
    if 0 ≤ (((a.getD 0 d0).ll).length : Int) ∧ (((a.getD 0 d0).ll).length : Int) < (LIM : Int) ∧ (((a.getD 0 d0).ll).length : Int) = (((a.getD 0 d0).ll).length : Int) ∧ 152 ≤ 1024 ∧ 0 < 9 then
      Out.andThenB (Loop E_laws_toVarDefSL1 [DC.sl ((a.getD 0 d0).ll), DC.sl (List.replicate (((a.getD 0 d0).ll).length : Int).toNat [DC.s [], DC.s [], DC.s [], DC.b false, DC.i 0, DC.s [], DC.sl [], DC.sl [], DC.sl []]), DC.i (0 : Int)]) 0 fun v4 =>
      .ret [DC.sl ((v4.getD 0 d0).ll)]
    else
      .fail
theorem eq_laws_toVarDefS (a : List DC) : r_laws_toVarDefS a = E_laws_toVarDefS a := (Run_eq cfg 59 h_laws_toVarDefS a).trans (by kernel_rfl)
/-- loop.example/g00964/spec.OpWord -/
noncomputable def E_spec_OpWord (a : List DC) : Out :=
    Out.andThenB (if ((a.getD 0 d0).ii == (1 : Int)) = true then
        .ret [DC.s ([113, 117, 101, 114, 121] : List UInt8)]
      else
        if ((a.getD 0 d0).ii == (2 : Int)) = true then
          .ret [DC.s ([109, 117, 116, 97, 116, 105, 111, 110] : List UInt8)]
        else
          if ((a.getD 0 d0).ii == (3 : Int)) = true then
            .ret [DC.s ([115, 117, 98, 115, 99, 114, 105, 112, 116, 105, 111, 110] : List UInt8)]
          else
            .norm []) 0 fun v1 =>
    .ret [DC.s ([] : List UInt8)]
theorem eq_spec_OpWord (a : List DC) : r_spec_OpWord a = E_spec_OpWord a := (Run_eq cfg 58 h_spec_OpWord a).trans (by kernel_rfl)
/-- loop.example/g00964/impl.OpWord -/
noncomputable def E_impl_OpWord (a : List DC) : Out :=
    (r_impl_in [DC.i ((a.getD 0 d0).ii), DC.i (1 : Int), DC.i (IntKind.i64.wrap (([[DC.s ([] : List UInt8)], [DC.s ([113, 117, 101, 114, 121] : List UInt8)], [DC.s ([109, 117, 116, 97, 116, 105, 111, 110] : List UInt8)], [DC.s ([115, 117, 98, 115, 99, 114, 105, 112, 116, 105, 111, 110] : List UInt8)]].length : Int) - (1 : Int)))]).bindR fun r1 =>
    if (!((r1.getD 0 d0).bb)) = true then
      .ret [DC.s ([] : List UInt8)]
    else
      if 9 = 9 ∧ 0 ≤ (a.getD 0 d0).ii ∧ (a.getD 0 d0).ii < ([[DC.s ([] : List UInt8)], [DC.s ([113, 117, 101, 114, 121] : List UInt8)], [DC.s ([109, 117, 116, 97, 116, 105, 111, 110] : List UInt8)], [DC.s ([115, 117, 98, 115, 99, 114, 105, 112, 116, 105, 111, 110] : List UInt8)]].length : Int) then
        .ret [DC.s ((([[DC.s ([] : List UInt8)], [DC.s ([113, 117, 101, 114, 121] : List UInt8)], [DC.s ([109, 117, 116, 97, 116, 105, 111, 110] : List UInt8)], [DC.s ([115, 117, 98, 115, 99, 114, 105, 112, 116, 105, 111, 110] : List UInt8)]].getD ((a.getD 0 d0).ii).toNat []).getD 0 d0).ss)]
      else
        .fail
theorem eq_impl_OpWord (a : List DC) : r_impl_OpWord a = E_impl_OpWord a := (Run_eq cfg 60 h_impl_OpWord a).trans (by kernel_rfl)
/-- slices.ContainsFunc[[]loop.example/g00964/impl.VarDef,loop.example/g00964/impl.VarDef] -/
noncomputable def E_slices_ContainsFunc_impl_VarDef__impl_OpOk_1 (a : List DC) : Out :=
    (r_slices_IndexFunc_impl_VarDef__impl_OpOk_1 [DC.sl ((a.getD 0 d0).ll)]).bindR fun r1 =>
    .ret [DC.b (decide ((r1.getD 0 d0).ii ≥ (0 : Int)))]
theorem eq_slices_ContainsFunc_impl_VarDef__impl_OpOk_1 (a : List DC) : r_slices_ContainsFunc_impl_VarDef__impl_OpOk_1 a = E_slices_ContainsFunc_impl_VarDef__impl_OpOk_1 a := (Run_eq cfg 61 h_slices_ContainsFunc_impl_VarDef__impl_OpOk_1 a).trans (by kernel_rfl)
noncomputable def E_laws_eqVarDefSL1 : List DC → Out := fun v1 =>
    if (decide ((v1.getD 2 d0).ii < (((v1.getD 0 d0).ll).length : Int))) = true then
      Out.andThenB (if 61 = 61 ∧ 0 ≤ (v1.getD 2 d0).ii ∧ (v1.getD 2 d0).ii < (((v1.getD 0 d0).ll).length : Int) then
          if 61 = 61 ∧ 0 ≤ (v1.getD 2 d0).ii ∧ (v1.getD 2 d0).ii < (((v1.getD 1 d0).ll).length : Int) then
            (r_laws_eqVarDef [DC.s (((((v1.getD 0 d0).ll).getD ((v1.getD 2 d0).ii).toNat []).getD 0 d0).ss), DC.s (((((v1.getD 0 d0).ll).getD ((v1.getD 2 d0).ii).toNat []).getD 1 d0).ss), DC.s (((((v1.getD 0 d0).ll).getD ((v1.getD 2 d0).ii).toNat []).getD 2 d0).ss), DC.b (((((v1.getD 0 d0).ll).getD ((v1.getD 2 d0).ii).toNat []).getD 3 d0).bb), DC.i (((((v1.getD 0 d0).ll).getD ((v1.getD 2 d0).ii).toNat []).getD 4 d0).ii), DC.s (((((v1.getD 0 d0).ll).getD ((v1.getD 2 d0).ii).toNat []).getD 5 d0).ss), DC.sl (((((v1.getD 0 d0).ll).getD ((v1.getD 2 d0).ii).toNat []).getD 6 d0).ll), DC.sl (((((v1.getD 0 d0).ll).getD ((v1.getD 2 d0).ii).toNat []).getD 7 d0).ll), DC.sl (((((v1.getD 0 d0).ll).getD ((v1.getD 2 d0).ii).toNat []).getD 8 d0).ll), DC.s (((((v1.getD 1 d0).ll).getD ((v1.getD 2 d0).ii).toNat []).getD 0 d0).ss), DC.s (((((v1.getD 1 d0).ll).getD ((v1.getD 2 d0).ii).toNat []).getD 1 d0).ss), DC.s (((((v1.getD 1 d0).ll).getD ((v1.getD 2 d0).ii).toNat []).getD 2 d0).ss), DC.b (((((v1.getD 1 d0).ll).getD ((v1.getD 2 d0).ii).toNat []).getD 3 d0).bb), DC.i (((((v1.getD 1 d0).ll).getD ((v1.getD 2 d0).ii).toNat []).getD 4 d0).ii), DC.s (((((v1.getD 1 d0).ll).getD ((v1.getD 2 d0).ii).toNat []).getD 5 d0).ss), DC.sl (((((v1.getD 1 d0).ll).getD ((v1.getD 2 d0).ii).toNat []).getD 6 d0).ll), DC.sl (((((v1.getD 1 d0).ll).getD ((v1.getD 2 d0).ii).toNat []).getD 7 d0).ll), DC.sl (((((v1.getD 1 d0).ll).getD ((v1.getD 2 d0).ii).toNat []).getD 8 d0).ll)]).bindR fun r2 =>
            if (!((r2.getD 0 d0).bb)) = true then
              .ret [DC.b false]
            else
              .norm [DC.sl ((v1.getD 0 d0).ll), DC.sl ((v1.getD 1 d0).ll), DC.i ((v1.getD 2 d0).ii)]
          else
            .fail
        else
          .fail) 1 fun v3 =>
      .norm [DC.sl ((v3.getD 0 d0).ll), DC.sl ((v3.getD 1 d0).ll), DC.i (IntKind.i64.wrap ((v3.getD 2 d0).ii + (1 : Int)))]
    else
      .ex 0 []
/-- loop.example/g00964/laws.eqVarDefS -/
noncomputable def E_laws_eqVarDefS (a : List DC) : Out :=
    if ((((a.getD 0 d0).ll).length : Int) != (((a.getD 1 d0).ll).length : Int)) = true then
      .ret [DC.b false]
    else
      Out.andThenB (Loop E_laws_eqVarDefSL1 [DC.sl ((a.getD 0 d0).ll), DC.sl ((a.getD 1 d0).ll), DC.i (0 : Int)]) 0 fun v4 =>
      .ret [DC.b true]
theorem eq_laws_eqVarDefS (a : List DC) : r_laws_eqVarDefS a = E_laws_eqVarDefS a := (Run_eq cfg 63 h_laws_eqVarDefS a).trans (by kernel_rfl)
/-- loop.example/g00964/laws.szArg -/
noncomputable def E_laws_szArg (a : List DC) : Out :=
    if (decide ((IntKind.i64.wrap ((a.getD 5 d0).ii - (((a.getD 0 d0).ss).length : Int))) < (0 : Int))) = true then
      .ret [DC.i (-1 : Int)]
    else
      (r_laws_szValue [DC.i ((a.getD 1 d0).ii), DC.s ((a.getD 2 d0).ss), DC.sl ((a.getD 3 d0).ll), DC.sl ((a.getD 4 d0).ll), DC.i (IntKind.i64.wrap ((a.getD 5 d0).ii - (((a.getD 0 d0).ss).length : Int)))]).bindR fun r1 =>
      if (decide ((r1.getD 0 d0).ii < (0 : Int))) = true then
        .ret [DC.i (-1 : Int)]
      else
        .ret [DC.i ((r1.getD 0 d0).ii)]
theorem eq_laws_szArg (a : List DC) : r_laws_szArg a = E_laws_szArg a := (Run_eq cfg 64 h_laws_szArg a).trans (by kernel_rfl)
/-- loop.example/g00964/laws.szDir -/
noncomputable def E_laws_szDir (a : List DC) : Out :=
    if (decide ((IntKind.i64.wrap ((a.getD 2 d0).ii - (((a.getD 0 d0).ss).length : Int))) < (0 : Int))) = true then
      .ret [DC.i (-1 : Int)]
    else
      (r_laws_szArgS [DC.sl ((a.getD 1 d0).ll), DC.i (IntKind.i64.wrap ((a.getD 2 d0).ii - (((a.getD 0 d0).ss).length : Int)))]).bindR fun r1 =>
      if (decide ((r1.getD 0 d0).ii < (0 : Int))) = true then
        .ret [DC.i (-1 : Int)]
      else
        .ret [DC.i ((r1.getD 0 d0).ii)]
theorem eq_laws_szDir (a : List DC) : r_laws_szDir a = E_laws_szDir a := (Run_eq cfg 65 h_laws_szDir a).trans (by kernel_rfl)
/-- loop.example/g00964/laws.toArg -/
noncomputable def E_laws_toArg (a : List DC) : Out :=
    (r_laws_toValue [DC.i ((a.getD 1 d0).ii), DC.s ((a.getD 2 d0).ss), DC.sl ((a.getD 3 d0).ll), DC.sl ((a.getD 4 d0).ll)]).bindR fun r1 =>
    .ret [DC.s ((a.getD 0 d0).ss), DC.i ((r1.getD 0 d0).ii), DC.s ((r1.getD 1 d0).ss), DC.sl ((r1.getD 2 d0).ll), DC.sl ((r1.getD 3 d0).ll)]
theorem eq_laws_toArg (a : List DC) : r_laws_toArg a = E_laws_toArg a := (Run_eq cfg 68 h_laws_toArg a).trans (by kernel_rfl)
/-- loop.example/g00964/laws.toDir -/
noncomputable def E_laws_toDir (a : List DC) : Out :=
    (r_laws_toArgS [DC.sl ((a.getD 1 d0).ll)]).bindR fun r1 =>
    .ret [DC.s ((a.getD 0 d0).ss), DC.sl ((r1.getD 0 d0).ll)]
theorem eq_laws_toDir (a : List DC) : r_laws_toDir a = E_laws_toDir a := (Run_eq cfg 69 h_laws_toDir a).trans (by kernel_rfl)
end Go.Proofs.YtgmfpgbgknlojaaGreatDoorV

/- What the functions do, and that they do (written by a program). -/
namespace Go.Proofs.YtgmfpgbgknlojaaGreatDoorV
open Go
set_option linter.unusedVariables false
set_option maxRecDepth 100000
/-- loop.example/g00964/spec.l11Names -/
noncomputable def E_spec_l11Names (a : List DC) : Out :=
    Out.andThenB (if ((a.getD 0 d0).ii == (1 : Int)) = true then
        Out.andThen ((r_spec_NameOk [DC.s ((a.getD 2 d0).ss)]).bindR fun r1 =>
          if (r1.getD 0 d0).bb = true then
            if ((a.getD 1 d0).ss == ([] : List UInt8)) = true then
              .norm [DC.b ((a.getD 3 d0).ss == ([] : List UInt8))]
            else
              (r_spec_NameOk [DC.s ((a.getD 1 d0).ss)]).bindR fun r2 =>
              if (r2.getD 0 d0).bb = true then
                .norm [DC.b ((a.getD 3 d0).ss == ([] : List UInt8))]
              else
                .norm [DC.b false]
          else
            .norm [DC.b false]) fun v3 =>
        .ret [DC.b ((v3.getD 0 d0).bb)]
      else
        if ((a.getD 0 d0).ii == (2 : Int)) = true then
          Out.andThen ((r_spec_NameOk [DC.s ((a.getD 2 d0).ss)]).bindR fun r4 =>
            if (r4.getD 0 d0).bb = true then
              if (!((a.getD 2 d0).ss == ([111, 110] : List UInt8))) = true then
                if ((a.getD 1 d0).ss == ([] : List UInt8)) = true then
                  if ((a.getD 3 d0).ss == ([] : List UInt8)) = true then
                    if ((((a.getD 4 d0).ll).length : Int) == (0 : Int)) = true then
                      .norm [DC.b ((((a.getD 6 d0).ll).length : Int) == (0 : Int))]
                    else
                      .norm [DC.b false]
                  else
                    .norm [DC.b false]
                else
                  .norm [DC.b false]
              else
                .norm [DC.b false]
            else
              .norm [DC.b false]) fun v5 =>
          .ret [DC.b ((v5.getD 0 d0).bb)]
        else
          if ((a.getD 0 d0).ii == (3 : Int)) = true then
            Out.andThen (if ((a.getD 2 d0).ss == ([] : List UInt8)) = true then
                if ((a.getD 1 d0).ss == ([] : List UInt8)) = true then
                  if ((a.getD 3 d0).ss == ([] : List UInt8)) = true then
                    if ((((a.getD 4 d0).ll).length : Int) == (0 : Int)) = true then
                      .norm [DC.b (decide ((((a.getD 6 d0).ll).length : Int) > (0 : Int)))]
                    else
                      .norm [DC.b false]
                  else
                    (r_spec_NameOk [DC.s ((a.getD 3 d0).ss)]).bindR fun r6 =>
                    if (r6.getD 0 d0).bb = true then
                      if ((((a.getD 4 d0).ll).length : Int) == (0 : Int)) = true then
                        .norm [DC.b (decide ((((a.getD 6 d0).ll).length : Int) > (0 : Int)))]
                      else
                        .norm [DC.b false]
                    else
                      .norm [DC.b false]
                else
                  .norm [DC.b false]
              else
                .norm [DC.b false]) fun v7 =>
            .ret [DC.b ((v7.getD 0 d0).bb)]
          else
            .norm []) 0 fun v8 =>
    .ret [DC.b false]
theorem eq_spec_l11Names (a : List DC) : r_spec_l11Names a = E_spec_l11Names a := (Run_eq cfg 66 h_spec_l11Names a).trans (by kernel_rfl)
noncomputable def E_spec_ArgsOkL1 : List DC → Out := fun v1 =>
    if (decide ((v1.getD 1 d0).ii < (((v1.getD 0 d0).ll).length : Int))) = true then
      Out.andThenB (Out.andThen (if 114 = 114 ∧ 0 ≤ (v1.getD 1 d0).ii ∧ (v1.getD 1 d0).ii < (((v1.getD 0 d0).ll).length : Int) then
            (r_spec_NameOk [DC.s (((((v1.getD 0 d0).ll).getD ((v1.getD 1 d0).ii).toNat []).getD 0 d0).ss)]).bindR fun r2 =>
            if (!((r2.getD 0 d0).bb)) = true then
              .norm [DC.sl ((v1.getD 0 d0).ll), DC.i ((v1.getD 1 d0).ii), DC.b true]
            else
              if 114 = 114 ∧ 0 ≤ (v1.getD 1 d0).ii ∧ (v1.getD 1 d0).ii < (((v1.getD 0 d0).ll).length : Int) then
                (r_spec_ValueOk [DC.i (((((v1.getD 0 d0).ll).getD ((v1.getD 1 d0).ii).toNat []).getD 1 d0).ii), DC.s (((((v1.getD 0 d0).ll).getD ((v1.getD 1 d0).ii).toNat []).getD 2 d0).ss), DC.sl (((((v1.getD 0 d0).ll).getD ((v1.getD 1 d0).ii).toNat []).getD 3 d0).ll), DC.sl (((((v1.getD 0 d0).ll).getD ((v1.getD 1 d0).ii).toNat []).getD 4 d0).ll)]).bindR fun r3 =>
                .norm [DC.sl ((v1.getD 0 d0).ll), DC.i ((v1.getD 1 d0).ii), DC.b (!((r3.getD 0 d0).bb))]
              else
                .fail
          else
            .fail) fun v4 =>
        if (v4.getD 2 d0).bb = true then
          .ret [DC.b false]
        else
          .norm [DC.sl ((v4.getD 0 d0).ll), DC.i ((v4.getD 1 d0).ii)]) 1 fun v5 =>
      .norm [DC.sl ((v5.getD 0 d0).ll), DC.i (IntKind.i64.wrap ((v5.getD 1 d0).ii + (1 : Int)))]
    else
      .ex 0 []
/-- loop.example/g00964/spec.ArgsOk -/
noncomputable def E_spec_ArgsOk (a : List DC) : Out :=
    Out.andThenB (Loop E_spec_ArgsOkL1 [DC.sl ((a.getD 0 d0).ll), DC.i (0 : Int)]) 0 fun v6 =>
    .ret [DC.b true]
theorem eq_spec_ArgsOk (a : List DC) : r_spec_ArgsOk a = E_spec_ArgsOk a := (Run_eq cfg 67 h_spec_ArgsOk a).trans (by kernel_rfl)
/-- loop.example/g00964/impl.ArgsOk -/
noncomputable def E_impl_ArgsOk (a : List DC) : Out :=
    (r_slices_ContainsFunc_impl_Arg__impl_ArgsOk_1 [DC.sl ((a.getD 0 d0).ll)]).bindR fun r1 =>
    .ret [DC.b (!((r1.getD 0 d0).bb))]
theorem eq_impl_ArgsOk (a : List DC) : r_impl_ArgsOk a = E_impl_ArgsOk a := (Run_eq cfg 70 h_impl_ArgsOk a).trans (by kernel_rfl)
/-- loop.example/g00964/laws.eqArg -/
noncomputable def E_laws_eqArg (a : List DC) : Out :=
    if (!((a.getD 0 d0).ss == (a.getD 5 d0).ss)) = true then
      .ret [DC.b false]
    else
      (r_laws_eqValue [DC.i ((a.getD 1 d0).ii), DC.s ((a.getD 2 d0).ss), DC.sl ((a.getD 3 d0).ll), DC.sl ((a.getD 4 d0).ll), DC.i ((a.getD 6 d0).ii), DC.s ((a.getD 7 d0).ss), DC.sl ((a.getD 8 d0).ll), DC.sl ((a.getD 9 d0).ll)]).bindR fun r1 =>
      if (!((r1.getD 0 d0).bb)) = true then
        .ret [DC.b false]
      else
        .ret [DC.b true]
theorem eq_laws_eqArg (a : List DC) : r_laws_eqArg a = E_laws_eqArg a := (Run_eq cfg 71 h_laws_eqArg a).trans (by kernel_rfl)
/-- loop.example/g00964/laws.eqDir -/
noncomputable def E_laws_eqDir (a : List DC) : Out :=
    if (!((a.getD 0 d0).ss == (a.getD 2 d0).ss)) = true then
      .ret [DC.b false]
    else
      (r_laws_eqArgS [DC.sl ((a.getD 1 d0).ll), DC.sl ((a.getD 3 d0).ll)]).bindR fun r1 =>
      if (!((r1.getD 0 d0).bb)) = true then
        .ret [DC.b false]
      else
        .ret [DC.b true]
theorem eq_laws_eqDir (a : List DC) : r_laws_eqDir a = E_laws_eqDir a := (Run_eq cfg 72 h_laws_eqDir a).trans (by kernel_rfl)
/-- loop.example/g00964/spec.l03Figure -/
noncomputable def E_spec_l03Figure (a : List DC) : Out :=
    Out.andThen (if (decide ((a.getD 0 d0).ii ≥ (48 : Int))) = true then
        .norm [DC.b (decide ((a.getD 0 d0).ii ≤ (57 : Int)))]
      else
        .norm [DC.b false]) fun v1 =>
    .ret [DC.b ((v1.getD 0 d0).bb)]
theorem eq_spec_l03Figure (a : List DC) : r_spec_l03Figure a = E_spec_l03Figure a := (Run_eq cfg 73 h_spec_l03Figure a).trans (by kernel_rfl)
/-- loop.example/g00964/spec.l03Letter -/
noncomputable def E_spec_l03Letter (a : List DC) : Out :=
    Out.andThen (if (decide ((a.getD 0 d0).ii ≥ (97 : Int))) = true then
        if (decide ((a.getD 0 d0).ii ≤ (122 : Int))) = true then
          .norm [DC.b true]
        else
          if (decide ((a.getD 0 d0).ii ≥ (65 : Int))) = true then
            if (decide ((a.getD 0 d0).ii ≤ (90 : Int))) = true then
              .norm [DC.b true]
            else
              .norm [DC.b ((a.getD 0 d0).ii == (95 : Int))]
          else
            .norm [DC.b ((a.getD 0 d0).ii == (95 : Int))]
      else
        if (decide ((a.getD 0 d0).ii ≥ (65 : Int))) = true then
          if (decide ((a.getD 0 d0).ii ≤ (90 : Int))) = true then
            .norm [DC.b true]
          else
            .norm [DC.b ((a.getD 0 d0).ii == (95 : Int))]
        else
          .norm [DC.b ((a.getD 0 d0).ii == (95 : Int))]) fun v1 =>
    .ret [DC.b ((v1.getD 0 d0).bb)]
theorem eq_spec_l03Letter (a : List DC) : r_spec_l03Letter a = E_spec_l03Letter a := (Run_eq cfg 74 h_spec_l03Letter a).trans (by kernel_rfl)
/-- loop.example/g00964/impl.in -/
noncomputable def E_impl_in (a : List DC) : Out :=
    Out.andThen (if (decide ((a.getD 0 d0).ii ≥ (a.getD 1 d0).ii)) = true then
        .norm [DC.b (decide ((a.getD 0 d0).ii ≤ (a.getD 2 d0).ii))]
      else
        .norm [DC.b false]) fun v1 =>
    .ret [DC.b ((v1.getD 0 d0).bb)]
theorem eq_impl_in (a : List DC) : r_impl_in a = E_impl_in a := (Run_eq cfg 75 h_impl_in a).trans (by kernel_rfl)
/-- loop.example/g00964/impl.isFigure -/
noncomputable def E_impl_isFigure (a : List DC) : Out :=
    Out.andThen (if (decide ((a.getD 0 d0).ii ≥ (48 : Int))) = true then
        .norm [DC.b (decide ((a.getD 0 d0).ii ≤ (57 : Int)))]
      else
        .norm [DC.b false]) fun v1 =>
    .ret [DC.b ((v1.getD 0 d0).bb)]
theorem eq_impl_isFigure (a : List DC) : r_impl_isFigure a = E_impl_isFigure a := (Run_eq cfg 76 h_impl_isFigure a).trans (by kernel_rfl)
/-- loop.example/g00964/impl.inName -/
noncomputable def E_impl_inName (a : List DC) : Out :=
    Out.andThen ((r_impl_isLetter [DC.i ((a.getD 0 d0).ii)]).bindR fun r1 =>
      if (r1.getD 0 d0).bb = true then
        .norm [DC.b true]
      else
        (r_impl_isFigure [DC.i ((a.getD 0 d0).ii)]).bindR fun r2 =>
        if (r2.getD 0 d0).bb = true then
          .norm [DC.b true]
        else
          .norm [DC.b ((a.getD 0 d0).ii == (95 : Int))]) fun v3 =>
    .ret [DC.b ((v3.getD 0 d0).bb)]
theorem eq_impl_inName (a : List DC) : r_impl_inName a = E_impl_inName a := (Run_eq cfg 77 h_impl_inName a).trans (by kernel_rfl)
/-- slices.ContainsFunc[[]loop.example/g00964/impl.Dir,loop.example/g00964/impl.Dir] -/
noncomputable def E_slices_ContainsFunc_impl_Dir__impl_DirsOk_1 (a : List DC) : Out :=
    (r_slices_IndexFunc_impl_Dir__impl_DirsOk_1 [DC.sl ((a.getD 0 d0).ll)]).bindR fun r1 =>
    .ret [DC.b (decide ((r1.getD 0 d0).ii ≥ (0 : Int)))]
theorem eq_slices_ContainsFunc_impl_Dir__impl_DirsOk_1 (a : List DC) : r_slices_ContainsFunc_impl_Dir__impl_DirsOk_1 a = E_slices_ContainsFunc_impl_Dir__impl_DirsOk_1 a := (Run_eq cfg 78 h_slices_ContainsFunc_impl_Dir__impl_DirsOk_1 a).trans (by kernel_rfl)
noncomputable def E_laws_szValueSL1 : List DC → Out := fun v1 =>
    if (decide ((v1.getD 2 d0).ii < (((v1.getD 0 d0).ll).length : Int))) = true then
      Out.andThenB (if 51 = 51 ∧ 0 ≤ (v1.getD 2 d0).ii ∧ (v1.getD 2 d0).ii < (((v1.getD 0 d0).ll).length : Int) then
          (r_laws_szValue [DC.i (((((v1.getD 0 d0).ll).getD ((v1.getD 2 d0).ii).toNat []).getD 0 d0).ii), DC.s (((((v1.getD 0 d0).ll).getD ((v1.getD 2 d0).ii).toNat []).getD 1 d0).ss), DC.sl (((((v1.getD 0 d0).ll).getD ((v1.getD 2 d0).ii).toNat []).getD 2 d0).ll), DC.sl (((((v1.getD 0 d0).ll).getD ((v1.getD 2 d0).ii).toNat []).getD 3 d0).ll), DC.i ((v1.getD 1 d0).ii)]).bindR fun r2 =>
          if (decide ((r2.getD 0 d0).ii < (0 : Int))) = true then
            .ret [DC.i (-1 : Int)]
          else
            .norm [DC.sl ((v1.getD 0 d0).ll), DC.i ((r2.getD 0 d0).ii), DC.i ((v1.getD 2 d0).ii)]
        else
          .fail) 1 fun v3 =>
      .norm [DC.sl ((v3.getD 0 d0).ll), DC.i ((v3.getD 1 d0).ii), DC.i (IntKind.i64.wrap ((v3.getD 2 d0).ii + (1 : Int)))]
    else
      .ex 0 [DC.i ((v1.getD 1 d0).ii)]
/-- loop.example/g00964/laws.szValueS -/
noncomputable def E_laws_szValueS (a : List DC) : Out :=
    if (decide ((IntKind.i64.wrap ((a.getD 1 d0).ii - (((a.getD 0 d0).ll).length : Int))) < (0 : Int))) = true then
      .ret [DC.i (-1 : Int)]
    else
      Out.andThenB (Loop E_laws_szValueSL1 [DC.sl ((a.getD 0 d0).ll), DC.i (IntKind.i64.wrap ((a.getD 1 d0).ii - (((a.getD 0 d0).ll).length : Int))), DC.i (0 : Int)]) 0 fun v4 =>
      .ret [DC.i ((v4.getD 0 d0).ii)]
theorem eq_laws_szValueS (a : List DC) : r_laws_szValueS a = E_laws_szValueS a := (Run_eq cfg 80 h_laws_szValueS a).trans (by kernel_rfl)
noncomputable def E_laws_szStringSL1 : List DC → Out := fun v1 =>
    if (decide ((v1.getD 2 d0).ii < (((v1.getD 0 d0).ll).length : Int))) = true then
      Out.andThenB (if 9 = 9 ∧ 0 ≤ (v1.getD 2 d0).ii ∧ (v1.getD 2 d0).ii < (((v1.getD 0 d0).ll).length : Int) then
          if (decide ((IntKind.i64.wrap ((v1.getD 1 d0).ii - ((((((v1.getD 0 d0).ll).getD ((v1.getD 2 d0).ii).toNat []).getD 0 d0).ss).length : Int))) < (0 : Int))) = true then
            .ret [DC.i (-1 : Int)]
          else
            .norm [DC.sl ((v1.getD 0 d0).ll), DC.i (IntKind.i64.wrap ((v1.getD 1 d0).ii - ((((((v1.getD 0 d0).ll).getD ((v1.getD 2 d0).ii).toNat []).getD 0 d0).ss).length : Int))), DC.i ((v1.getD 2 d0).ii)]
        else
          .fail) 1 fun v2 =>
      .norm [DC.sl ((v2.getD 0 d0).ll), DC.i ((v2.getD 1 d0).ii), DC.i (IntKind.i64.wrap ((v2.getD 2 d0).ii + (1 : Int)))]
    else
      .ex 0 [DC.i ((v1.getD 1 d0).ii)]
/-- loop.example/g00964/laws.szStringS -/
noncomputable def E_laws_szStringS (a : List DC) : Out :=
    if (decide ((IntKind.i64.wrap ((a.getD 1 d0).ii - (((a.getD 0 d0).ll).length : Int))) < (0 : Int))) = true then
      .ret [DC.i (-1 : Int)]
    else
      Out.andThenB (Loop E_laws_szStringSL1 [DC.sl ((a.getD 0 d0).ll), DC.i (IntKind.i64.wrap ((a.getD 1 d0).ii - (((a.getD 0 d0).ll).length : Int))), DC.i (0 : Int)]) 0 fun v3 =>
      .ret [DC.i ((v3.getD 0 d0).ii)]
theorem eq_laws_szStringS (a : List DC) : r_laws_szStringS a = E_laws_szStringS a := (Run_eq cfg 81 h_laws_szStringS a).trans (by kernel_rfl)
noncomputable def E_laws_toValueSL1 : List DC → Out := fun v1 =>
    if (decide ((v1.getD 2 d0).ii < (((v1.getD 0 d0).ll).length : Int))) = true then
      Out.andThenB (if 51 = 51 ∧ 0 ≤ (v1.getD 2 d0).ii ∧ (v1.getD 2 d0).ii < (((v1.getD 0 d0).ll).length : Int) then
          (r_laws_toValue [DC.i (((((v1.getD 0 d0).ll).getD ((v1.getD 2 d0).ii).toNat []).getD 0 d0).ii), DC.s (((((v1.getD 0 d0).ll).getD ((v1.getD 2 d0).ii).toNat []).getD 1 d0).ss), DC.sl (((((v1.getD 0 d0).ll).getD ((v1.getD 2 d0).ii).toNat []).getD 2 d0).ll), DC.sl (((((v1.getD 0 d0).ll).getD ((v1.getD 2 d0).ii).toNat []).getD 3 d0).ll)]).bindR fun r2 =>
          if 59 = 59 ∧ 0 ≤ (v1.getD 2 d0).ii ∧ (v1.getD 2 d0).ii < (((v1.getD 1 d0).ll).length : Int) then
            .norm [DC.sl ((v1.getD 0 d0).ll), DC.sl (((v1.getD 1 d0).ll).set (((v1.getD 2 d0).ii).toNat) (setRunD (((v1.getD 1 d0).ll).getD (((v1.getD 2 d0).ii).toNat) []) 0 [DC.i ((r2.getD 0 d0).ii), DC.s ((r2.getD 1 d0).ss), DC.sl ((r2.getD 2 d0).ll), DC.sl ((r2.getD 3 d0).ll)])), DC.i ((v1.getD 2 d0).ii)]
          else
            .fail
        else
          .fail) 1 fun v3 =>
      .norm [DC.sl ((v3.getD 0 d0).ll), DC.sl ((v3.getD 1 d0).ll), DC.i (IntKind.i64.wrap ((v3.getD 2 d0).ii + (1 : Int)))]
    else
      .ex 0 [DC.sl ((v1.getD 1 d0).ll)]
/-- loop.example/g00964/laws.toValueS -/
noncomputable def E_laws_toValueS (a : List DC) : Out :=
    if 0 ≤ (((a.getD 0 d0).ll).length : Int) ∧ (((a.getD 0 d0).ll).length : Int) < (LIM : Int) ∧ (((a.getD 0 d0).ll).length : Int) = (((a.getD 0 d0).ll).length : Int) ∧ 72 ≤ 1024 ∧ 0 < 4 then
      Out.andThenB (Loop E_laws_toValueSL1 [DC.sl ((a.getD 0 d0).ll), DC.sl (List.replicate (((a.getD 0 d0).ll).length : Int).toNat [DC.i 0, DC.s [], DC.sl [], DC.sl []]), DC.i (0 : Int)]) 0 fun v4 =>
      .ret [DC.sl ((v4.getD 0 d0).ll)]
    else
      .fail
theorem eq_laws_toValueS (a : List DC) : r_laws_toValueS a = E_laws_toValueS a := (Run_eq cfg 85 h_laws_toValueS a).trans (by kernel_rfl)
noncomputable def E_laws_toStringSL1 : List DC → Out := fun v1 =>
    if (decide ((v1.getD 2 d0).ii < (((v1.getD 0 d0).ll).length : Int))) = true then
      Out.andThenB (if 9 = 9 ∧ 0 ≤ (v1.getD 2 d0).ii ∧ (v1.getD 2 d0).ii < (((v1.getD 0 d0).ll).length : Int) then
          if 9 = 9 ∧ 0 ≤ (v1.getD 2 d0).ii ∧ (v1.getD 2 d0).ii < (((v1.getD 1 d0).ll).length : Int) then
            .norm [DC.sl ((v1.getD 0 d0).ll), DC.sl (((v1.getD 1 d0).ll).set (((v1.getD 2 d0).ii).toNat) (setRunD (((v1.getD 1 d0).ll).getD (((v1.getD 2 d0).ii).toNat) []) 0 [DC.s (((((v1.getD 0 d0).ll).getD ((v1.getD 2 d0).ii).toNat []).getD 0 d0).ss)])), DC.i ((v1.getD 2 d0).ii)]
          else
            .fail
        else
          .fail) 1 fun v2 =>
      .norm [DC.sl ((v2.getD 0 d0).ll), DC.sl ((v2.getD 1 d0).ll), DC.i (IntKind.i64.wrap ((v2.getD 2 d0).ii + (1 : Int)))]
    else
      .ex 0 [DC.sl ((v1.getD 1 d0).ll)]
/-- loop.example/g00964/laws.toStringS -/
noncomputable def E_laws_toStringS (a : List DC) : Out :=
    if 0 ≤ (((a.getD 0 d0).ll).length : Int) ∧ (((a.getD 0 d0).ll).length : Int) < (LIM : Int) ∧ (((a.getD 0 d0).ll).length : Int) = (((a.getD 0 d0).ll).length : Int) ∧ 16 ≤ 1024 ∧ 0 < 1 then
      Out.andThenB (Loop E_laws_toStringSL1 [DC.sl ((a.getD 0 d0).ll), DC.sl (List.replicate (((a.getD 0 d0).ll).length : Int).toNat [DC.s []]), DC.i (0 : Int)]) 0 fun v3 =>
      .ret [DC.sl ((v3.getD 0 d0).ll)]
    else
      .fail
theorem eq_laws_toStringS (a : List DC) : r_laws_toStringS a = E_laws_toStringS a := (Run_eq cfg 86 h_laws_toStringS a).trans (by kernel_rfl)
/-- loop.example/g00964/spec.ValueOk -/
noncomputable def E_spec_ValueOk (a : List DC) : Out :=
    (r_spec_l07Right [DC.i ((a.getD 0 d0).ii), DC.s ((a.getD 1 d0).ss), DC.sl ((a.getD 2 d0).ll), DC.sl ((a.getD 3 d0).ll), DC.i (10 : Int)]).bindR fun r1 =>
    .ret [DC.b ((r1.getD 0 d0).bb)]
theorem eq_spec_ValueOk (a : List DC) : r_spec_ValueOk a = E_spec_ValueOk a := (Run_eq cfg 82 h_spec_ValueOk a).trans (by kernel_rfl)
/-- loop.example/g00964/spec.IsConst -/
noncomputable def E_spec_IsConst (a : List DC) : Out :=
    (r_spec_l07Const [DC.i ((a.getD 0 d0).ii), DC.s ((a.getD 1 d0).ss), DC.sl ((a.getD 2 d0).ll), DC.sl ((a.getD 3 d0).ll)]).bindR fun r1 =>
    .ret [DC.b ((r1.getD 0 d0).bb)]
theorem eq_spec_IsConst (a : List DC) : r_spec_IsConst a = E_spec_IsConst a := (Run_eq cfg 83 h_spec_IsConst a).trans (by kernel_rfl)
noncomputable def E_spec_SameValueL1 : List DC → Out := fun v2 =>
    if (decide ((v2.getD 0 d0).ii < (((v2.getD 4 d0).ll).length : Int))) = true then
      Out.andThenB (if 9 = 9 ∧ 0 ≤ (v2.getD 0 d0).ii ∧ (v2.getD 0 d0).ii < (((v2.getD 4 d0).ll).length : Int) then
          if 9 = 9 ∧ 0 ≤ (v2.getD 0 d0).ii ∧ (v2.getD 0 d0).ii < (((v2.getD 8 d0).ll).length : Int) then
            if (!(((((v2.getD 4 d0).ll).getD ((v2.getD 0 d0).ii).toNat []).getD 0 d0).ss == ((((v2.getD 8 d0).ll).getD ((v2.getD 0 d0).ii).toNat []).getD 0 d0).ss)) = true then
              .ret [DC.b false]
            else
              .norm [DC.i ((v2.getD 0 d0).ii), DC.i ((v2.getD 1 d0).ii), DC.s ((v2.getD 2 d0).ss), DC.sl ((v2.getD 3 d0).ll), DC.sl ((v2.getD 4 d0).ll), DC.i ((v2.getD 5 d0).ii), DC.s ((v2.getD 6 d0).ss), DC.sl ((v2.getD 7 d0).ll), DC.sl ((v2.getD 8 d0).ll)]
          else
            .fail
        else
          .fail) 1 fun v3 =>
      .norm [DC.i (IntKind.i64.wrap ((v3.getD 0 d0).ii + (1 : Int))), DC.i ((v3.getD 1 d0).ii), DC.s ((v3.getD 2 d0).ss), DC.sl ((v3.getD 3 d0).ll), DC.sl ((v3.getD 4 d0).ll), DC.i ((v3.getD 5 d0).ii), DC.s ((v3.getD 6 d0).ss), DC.sl ((v3.getD 7 d0).ll), DC.sl ((v3.getD 8 d0).ll)]
    else
      .ex 0 [DC.i ((v2.getD 1 d0).ii), DC.s ((v2.getD 2 d0).ss), DC.sl ((v2.getD 3 d0).ll), DC.sl ((v2.getD 4 d0).ll), DC.i ((v2.getD 5 d0).ii), DC.s ((v2.getD 6 d0).ss), DC.sl ((v2.getD 7 d0).ll), DC.sl ((v2.getD 8 d0).ll)]
noncomputable def E_spec_SameValueL2 : List DC → Out := fun v5 =>
    if (decide ((v5.getD 0 d0).ii < (((v5.getD 3 d0).ll).length : Int))) = true then
      Out.andThenB (if 59 = 59 ∧ 0 ≤ (v5.getD 0 d0).ii ∧ (v5.getD 0 d0).ii < (((v5.getD 3 d0).ll).length : Int) then
          if 59 = 59 ∧ 0 ≤ (v5.getD 0 d0).ii ∧ (v5.getD 0 d0).ii < (((v5.getD 7 d0).ll).length : Int) then
            (r_spec_SameValue [DC.i (((((v5.getD 3 d0).ll).getD ((v5.getD 0 d0).ii).toNat []).getD 0 d0).ii), DC.s (((((v5.getD 3 d0).ll).getD ((v5.getD 0 d0).ii).toNat []).getD 1 d0).ss), DC.sl (((((v5.getD 3 d0).ll).getD ((v5.getD 0 d0).ii).toNat []).getD 2 d0).ll), DC.sl (((((v5.getD 3 d0).ll).getD ((v5.getD 0 d0).ii).toNat []).getD 3 d0).ll), DC.i (((((v5.getD 7 d0).ll).getD ((v5.getD 0 d0).ii).toNat []).getD 0 d0).ii), DC.s (((((v5.getD 7 d0).ll).getD ((v5.getD 0 d0).ii).toNat []).getD 1 d0).ss), DC.sl (((((v5.getD 7 d0).ll).getD ((v5.getD 0 d0).ii).toNat []).getD 2 d0).ll), DC.sl (((((v5.getD 7 d0).ll).getD ((v5.getD 0 d0).ii).toNat []).getD 3 d0).ll)]).bindR fun r6 =>
            if (!((r6.getD 0 d0).bb)) = true then
              .ret [DC.b false]
            else
              .norm [DC.i ((v5.getD 0 d0).ii), DC.i ((v5.getD 1 d0).ii), DC.s ((v5.getD 2 d0).ss), DC.sl ((v5.getD 3 d0).ll), DC.sl ((v5.getD 4 d0).ll), DC.i ((v5.getD 5 d0).ii), DC.s ((v5.getD 6 d0).ss), DC.sl ((v5.getD 7 d0).ll), DC.sl ((v5.getD 8 d0).ll)]
          else
            .fail
        else
          .fail) 3 fun v7 =>
      .norm [DC.i (IntKind.i64.wrap ((v7.getD 0 d0).ii + (1 : Int))), DC.i ((v7.getD 1 d0).ii), DC.s ((v7.getD 2 d0).ss), DC.sl ((v7.getD 3 d0).ll), DC.sl ((v7.getD 4 d0).ll), DC.i ((v7.getD 5 d0).ii), DC.s ((v7.getD 6 d0).ss), DC.sl ((v7.getD 7 d0).ll), DC.sl ((v7.getD 8 d0).ll)]
    else
      .ex 2 []
/-- loop.example/g00964/spec.SameValue -/
noncomputable def E_spec_SameValue (a : List DC) : Out :=
    Out.andThen (if ((a.getD 0 d0).ii != (a.getD 4 d0).ii) = true then
        .norm [DC.b true, DC.i ((a.getD 0 d0).ii), DC.s ((a.getD 1 d0).ss), DC.sl ((a.getD 2 d0).ll), DC.sl ((a.getD 3 d0).ll), DC.i ((a.getD 4 d0).ii), DC.s ((a.getD 5 d0).ss), DC.sl ((a.getD 6 d0).ll), DC.sl ((a.getD 7 d0).ll)]
      else
        if (!((a.getD 1 d0).ss == (a.getD 5 d0).ss)) = true then
          .norm [DC.b true, DC.i ((a.getD 0 d0).ii), DC.s ((a.getD 1 d0).ss), DC.sl ((a.getD 2 d0).ll), DC.sl ((a.getD 3 d0).ll), DC.i ((a.getD 4 d0).ii), DC.s ((a.getD 5 d0).ss), DC.sl ((a.getD 6 d0).ll), DC.sl ((a.getD 7 d0).ll)]
        else
          if ((((a.getD 2 d0).ll).length : Int) != (((a.getD 6 d0).ll).length : Int)) = true then
            .norm [DC.b true, DC.i ((a.getD 0 d0).ii), DC.s ((a.getD 1 d0).ss), DC.sl ((a.getD 2 d0).ll), DC.sl ((a.getD 3 d0).ll), DC.i ((a.getD 4 d0).ii), DC.s ((a.getD 5 d0).ss), DC.sl ((a.getD 6 d0).ll), DC.sl ((a.getD 7 d0).ll)]
          else
            .norm [DC.b ((((a.getD 3 d0).ll).length : Int) != (((a.getD 7 d0).ll).length : Int)), DC.i ((a.getD 0 d0).ii), DC.s ((a.getD 1 d0).ss), DC.sl ((a.getD 2 d0).ll), DC.sl ((a.getD 3 d0).ll), DC.i ((a.getD 4 d0).ii), DC.s ((a.getD 5 d0).ss), DC.sl ((a.getD 6 d0).ll), DC.sl ((a.getD 7 d0).ll)]) fun v1 =>
    if (v1.getD 0 d0).bb = true then
      .ret [DC.b false]
    else
      Out.andThenB (Loop E_spec_SameValueL1 [DC.i (0 : Int), DC.i ((v1.getD 1 d0).ii), DC.s ((v1.getD 2 d0).ss), DC.sl ((v1.getD 3 d0).ll), DC.sl ((v1.getD 4 d0).ll), DC.i ((v1.getD 5 d0).ii), DC.s ((v1.getD 6 d0).ss), DC.sl ((v1.getD 7 d0).ll), DC.sl ((v1.getD 8 d0).ll)]) 0 fun v4 =>
      Out.andThenB (Loop E_spec_SameValueL2 [DC.i (0 : Int), DC.i ((v4.getD 0 d0).ii), DC.s ((v4.getD 1 d0).ss), DC.sl ((v4.getD 2 d0).ll), DC.sl ((v4.getD 3 d0).ll), DC.i ((v4.getD 4 d0).ii), DC.s ((v4.getD 5 d0).ss), DC.sl ((v4.getD 6 d0).ll), DC.sl ((v4.getD 7 d0).ll)]) 2 fun v8 =>
      .ret [DC.b true]
theorem eq_spec_SameValue (a : List DC) : r_spec_SameValue a = E_spec_SameValue a := (Run_eq cfg 84 h_spec_SameValue a).trans (by kernel_rfl)
/-- strings.Trim -/
noncomputable def E_strings_Trim (a : List DC) : Out := match primH [.s, .s] [.s] qTrim h_strings_Trim a with | some r => .ret r | none => .fail
theorem eq_strings_Trim (a : List DC) : r_strings_Trim a = E_strings_Trim a := (Run_eq cfg 87 h_strings_Trim a).trans (by kernel_rfl)
/-- strings.Contains -/
noncomputable def E_strings_Contains (a : List DC) : Out := match primH [.s, .s] [.b] qContains h_strings_Contains a with | some r => .ret r | none => .fail
theorem eq_strings_Contains (a : List DC) : r_strings_Contains a = E_strings_Contains a := (Run_eq cfg 88 h_strings_Contains a).trans (by kernel_rfl)
/-- loop.example/g00964/impl.emptyValue -/
noncomputable def E_impl_emptyValue (a : List DC) : Out :=
    Out.andThen (if ((a.getD 0 d0).ii == (0 : Int)) = true then
        if ((a.getD 1 d0).ss == ([] : List UInt8)) = true then
          (r_impl_plain [DC.i ((a.getD 0 d0).ii), DC.s ((a.getD 1 d0).ss), DC.sl ((a.getD 2 d0).ll), DC.sl ((a.getD 3 d0).ll)]).bindR fun r1 =>
          .norm [DC.b ((r1.getD 0 d0).bb)]
        else
          .norm [DC.b false]
      else
        .norm [DC.b false]) fun v2 =>
    .ret [DC.b ((v2.getD 0 d0).bb)]
theorem eq_impl_emptyValue (a : List DC) : r_impl_emptyValue a = E_impl_emptyValue a := (Run_eq cfg 89 h_impl_emptyValue a).trans (by kernel_rfl)
/-- loop.example/g00964/impl.ValueOk -/
noncomputable def E_impl_ValueOk (a : List DC) : Out :=
    (r_impl_valueOk [DC.i ((a.getD 0 d0).ii), DC.s ((a.getD 1 d0).ss), DC.sl ((a.getD 2 d0).ll), DC.sl ((a.getD 3 d0).ll), DC.i (10 : Int)]).bindR fun r1 =>
    .ret [DC.b ((r1.getD 0 d0).bb)]
theorem eq_impl_ValueOk (a : List DC) : r_impl_ValueOk a = E_impl_ValueOk a := (Run_eq cfg 90 h_impl_ValueOk a).trans (by kernel_rfl)
/-- loop.example/g00964/impl.IsConst -/
noncomputable def E_impl_IsConst (a : List DC) : Out :=
    Out.andThen (if ((a.getD 0 d0).ii != (1 : Int)) = true then
        (r_slices_ContainsFunc_impl_Value__impl_IsConst_1 [DC.sl ((a.getD 2 d0).ll)]).bindR fun r1 =>
        .norm [DC.b (!((r1.getD 0 d0).bb))]
      else
        .norm [DC.b false]) fun v2 =>
    .ret [DC.b ((v2.getD 0 d0).bb)]
theorem eq_impl_IsConst (a : List DC) : r_impl_IsConst a = E_impl_IsConst a := (Run_eq cfg 91 h_impl_IsConst a).trans (by kernel_rfl)
/-- slices.ContainsFunc[[]loop.example/g00964/impl.Dir,loop.example/g00964/impl.Dir] -/
noncomputable def E_slices_ContainsFunc_impl_Dir__impl_constDirs_1 (a : List DC) : Out :=
    (r_slices_IndexFunc_impl_Dir__impl_constDirs_1 [DC.sl ((a.getD 0 d0).ll)]).bindR fun r1 =>
    .ret [DC.b (decide ((r1.getD 0 d0).ii ≥ (0 : Int)))]
theorem eq_slices_ContainsFunc_impl_Dir__impl_constDirs_1 (a : List DC) : r_slices_ContainsFunc_impl_Dir__impl_constDirs_1 a = E_slices_ContainsFunc_impl_Dir__impl_constDirs_1 a := (Run_eq cfg 78 h_slices_ContainsFunc_impl_Dir__impl_constDirs_1 a).trans (by kernel_rfl)
noncomputable def E_laws_eqValueSL1 : List DC → Out := fun v1 =>
    if (decide ((v1.getD 2 d0).ii < (((v1.getD 0 d0).ll).length : Int))) = true then
      Out.andThenB (if 59 = 59 ∧ 0 ≤ (v1.getD 2 d0).ii ∧ (v1.getD 2 d0).ii < (((v1.getD 0 d0).ll).length : Int) then
          if 59 = 59 ∧ 0 ≤ (v1.getD 2 d0).ii ∧ (v1.getD 2 d0).ii < (((v1.getD 1 d0).ll).length : Int) then
            (r_laws_eqValue [DC.i (((((v1.getD 0 d0).ll).getD ((v1.getD 2 d0).ii).toNat []).getD 0 d0).ii), DC.s (((((v1.getD 0 d0).ll).getD ((v1.getD 2 d0).ii).toNat []).getD 1 d0).ss), DC.sl (((((v1.getD 0 d0).ll).getD ((v1.getD 2 d0).ii).toNat []).getD 2 d0).ll), DC.sl (((((v1.getD 0 d0).ll).getD ((v1.getD 2 d0).ii).toNat []).getD 3 d0).ll), DC.i (((((v1.getD 1 d0).ll).getD ((v1.getD 2 d0).ii).toNat []).getD 0 d0).ii), DC.s (((((v1.getD 1 d0).ll).getD ((v1.getD 2 d0).ii).toNat []).getD 1 d0).ss), DC.sl (((((v1.getD 1 d0).ll).getD ((v1.getD 2 d0).ii).toNat []).getD 2 d0).ll), DC.sl (((((v1.getD 1 d0).ll).getD ((v1.getD 2 d0).ii).toNat []).getD 3 d0).ll)]).bindR fun r2 =>
            if (!((r2.getD 0 d0).bb)) = true then
              .ret [DC.b false]
            else
              .norm [DC.sl ((v1.getD 0 d0).ll), DC.sl ((v1.getD 1 d0).ll), DC.i ((v1.getD 2 d0).ii)]
          else
            .fail
        else
          .fail) 1 fun v3 =>
      .norm [DC.sl ((v3.getD 0 d0).ll), DC.sl ((v3.getD 1 d0).ll), DC.i (IntKind.i64.wrap ((v3.getD 2 d0).ii + (1 : Int)))]
    else
      .ex 0 []
/-- loop.example/g00964/laws.eqValueS -/
noncomputable def E_laws_eqValueS (a : List DC) : Out :=
    if ((((a.getD 0 d0).ll).length : Int) != (((a.getD 1 d0).ll).length : Int)) = true then
      .ret [DC.b false]
    else
      Out.andThenB (Loop E_laws_eqValueSL1 [DC.sl ((a.getD 0 d0).ll), DC.sl ((a.getD 1 d0).ll), DC.i (0 : Int)]) 0 fun v4 =>
      .ret [DC.b true]
theorem eq_laws_eqValueS (a : List DC) : r_laws_eqValueS a = E_laws_eqValueS a := (Run_eq cfg 95 h_laws_eqValueS a).trans (by kernel_rfl)
noncomputable def E_laws_eqStringSL1 : List DC → Out := fun v1 =>
    if (decide ((v1.getD 2 d0).ii < (((v1.getD 0 d0).ll).length : Int))) = true then
      Out.andThenB (if 9 = 9 ∧ 0 ≤ (v1.getD 2 d0).ii ∧ (v1.getD 2 d0).ii < (((v1.getD 0 d0).ll).length : Int) then
          if 9 = 9 ∧ 0 ≤ (v1.getD 2 d0).ii ∧ (v1.getD 2 d0).ii < (((v1.getD 1 d0).ll).length : Int) then
            if (!(((((v1.getD 0 d0).ll).getD ((v1.getD 2 d0).ii).toNat []).getD 0 d0).ss == ((((v1.getD 1 d0).ll).getD ((v1.getD 2 d0).ii).toNat []).getD 0 d0).ss)) = true then
              .ret [DC.b false]
            else
              .norm [DC.sl ((v1.getD 0 d0).ll), DC.sl ((v1.getD 1 d0).ll), DC.i ((v1.getD 2 d0).ii)]
          else
            .fail
        else
          .fail) 1 fun v2 =>
      .norm [DC.sl ((v2.getD 0 d0).ll), DC.sl ((v2.getD 1 d0).ll), DC.i (IntKind.i64.wrap ((v2.getD 2 d0).ii + (1 : Int)))]
    else
      .ex 0 []
/-- loop.example/g00964/laws.eqStringS -/
noncomputable def E_laws_eqStringS (a : List DC) : Out :=
    if ((((a.getD 0 d0).ll).length : Int) != (((a.getD 1 d0).ll).length : Int)) = true then
      .ret [DC.b false]
    else
      Out.andThenB (Loop E_laws_eqStringSL1 [DC.sl ((a.getD 0 d0).ll), DC.sl ((a.getD 1 d0).ll), DC.i (0 : Int)]) 0 fun v3 =>
      .ret [DC.b true]
theorem eq_laws_eqStringS (a : List DC) : r_laws_eqStringS a = E_laws_eqStringS a := (Run_eq cfg 96 h_laws_eqStringS a).trans (by kernel_rfl)
noncomputable def E_slices_IndexFunc_impl_VarDef__impl_OpOk_1L1 : List DC → Out := fun v1 =>
    if (decide ((v1.getD 2 d0).ii < (v1.getD 1 d0).ii)) = true then
      Out.andThenB (if 61 = 61 ∧ 0 ≤ (v1.getD 2 d0).ii ∧ (v1.getD 2 d0).ii < (((v1.getD 0 d0).ll).length : Int) then
          (r_impl_OpOk_1 [DC.s (((((v1.getD 0 d0).ll).getD ((v1.getD 2 d0).ii).toNat []).getD 0 d0).ss), DC.s (((((v1.getD 0 d0).ll).getD ((v1.getD 2 d0).ii).toNat []).getD 1 d0).ss), DC.s (((((v1.getD 0 d0).ll).getD ((v1.getD 2 d0).ii).toNat []).getD 2 d0).ss), DC.b (((((v1.getD 0 d0).ll).getD ((v1.getD 2 d0).ii).toNat []).getD 3 d0).bb), DC.i (((((v1.getD 0 d0).ll).getD ((v1.getD 2 d0).ii).toNat []).getD 4 d0).ii), DC.s (((((v1.getD 0 d0).ll).getD ((v1.getD 2 d0).ii).toNat []).getD 5 d0).ss), DC.sl (((((v1.getD 0 d0).ll).getD ((v1.getD 2 d0).ii).toNat []).getD 6 d0).ll), DC.sl (((((v1.getD 0 d0).ll).getD ((v1.getD 2 d0).ii).toNat []).getD 7 d0).ll), DC.sl (((((v1.getD 0 d0).ll).getD ((v1.getD 2 d0).ii).toNat []).getD 8 d0).ll)]).bindR fun r2 =>
          if (r2.getD 0 d0).bb = true then
            .ret [DC.i ((v1.getD 2 d0).ii)]
          else
            .norm [DC.sl ((v1.getD 0 d0).ll), DC.i ((v1.getD 1 d0).ii), DC.i ((v1.getD 2 d0).ii)]
        else
          .fail) 1 fun v3 =>
      .norm [DC.sl ((v3.getD 0 d0).ll), DC.i ((v3.getD 1 d0).ii), DC.i (IntKind.i64.wrap ((v3.getD 2 d0).ii + (1 : Int)))]
    else
      .ex 0 []
/-- slices.IndexFunc[[]loop.example/g00964/impl.VarDef,loop.example/g00964/impl.VarDef] -/
noncomputable def E_slices_IndexFunc_impl_VarDef__impl_OpOk_1 (a : List DC) : Out :=
    Out.andThenB (Loop E_slices_IndexFunc_impl_VarDef__impl_OpOk_1L1 [DC.sl ((a.getD 0 d0).ll), DC.i (((a.getD 0 d0).ll).length : Int), DC.i (0 : Int)]) 0 fun v4 =>
    .ret [DC.i (-1 : Int)]
theorem eq_slices_IndexFunc_impl_VarDef__impl_OpOk_1 (a : List DC) : r_slices_IndexFunc_impl_VarDef__impl_OpOk_1 a = E_slices_IndexFunc_impl_VarDef__impl_OpOk_1 a := (Run_eq cfg 97 h_slices_IndexFunc_impl_VarDef__impl_OpOk_1 a).trans (by kernel_rfl)
/-- slices.ContainsFunc[[]loop.example/g00964/impl.Arg,loop.example/g00964/impl.Arg] -/
noncomputable def E_slices_ContainsFunc_impl_Arg__impl_ArgsOk_1 (a : List DC) : Out :=
    (r_slices_IndexFunc_impl_Arg__impl_ArgsOk_1 [DC.sl ((a.getD 0 d0).ll)]).bindR fun r1 =>
    .ret [DC.b (decide ((r1.getD 0 d0).ii ≥ (0 : Int)))]
theorem eq_slices_ContainsFunc_impl_Arg__impl_ArgsOk_1 (a : List DC) : r_slices_ContainsFunc_impl_Arg__impl_ArgsOk_1 a = E_slices_ContainsFunc_impl_Arg__impl_ArgsOk_1 a := (Run_eq cfg 93 h_slices_ContainsFunc_impl_Arg__impl_ArgsOk_1 a).trans (by kernel_rfl)
/-- loop.example/g00964/impl.isLetter -/
noncomputable def E_impl_isLetter (a : List DC) : Out :=
    Out.andThen (if (decide ((a.getD 0 d0).ii ≥ (97 : Int))) = true then
        if (decide ((a.getD 0 d0).ii ≤ (122 : Int))) = true then
          .norm [DC.b true]
        else
          if (decide ((a.getD 0 d0).ii ≥ (65 : Int))) = true then
            .norm [DC.b (decide ((a.getD 0 d0).ii ≤ (90 : Int)))]
          else
            .norm [DC.b false]
      else
        if (decide ((a.getD 0 d0).ii ≥ (65 : Int))) = true then
          .norm [DC.b (decide ((a.getD 0 d0).ii ≤ (90 : Int)))]
        else
          .norm [DC.b false]) fun v1 =>
    .ret [DC.b ((v1.getD 0 d0).bb)]
theorem eq_impl_isLetter (a : List DC) : r_impl_isLetter a = E_impl_isLetter a := (Run_eq cfg 99 h_impl_isLetter a).trans (by kernel_rfl)
noncomputable def E_slices_IndexFunc_impl_Dir__impl_DirsOk_1L1 : List DC → Out := fun v1 =>
    if (decide ((v1.getD 2 d0).ii < (v1.getD 1 d0).ii)) = true then
      Out.andThenB (if 117 = 117 ∧ 0 ≤ (v1.getD 2 d0).ii ∧ (v1.getD 2 d0).ii < (((v1.getD 0 d0).ll).length : Int) then
          (r_impl_DirsOk_1 [DC.s (((((v1.getD 0 d0).ll).getD ((v1.getD 2 d0).ii).toNat []).getD 0 d0).ss), DC.sl (((((v1.getD 0 d0).ll).getD ((v1.getD 2 d0).ii).toNat []).getD 1 d0).ll)]).bindR fun r2 =>
          if (r2.getD 0 d0).bb = true then
            .ret [DC.i ((v1.getD 2 d0).ii)]
          else
            .norm [DC.sl ((v1.getD 0 d0).ll), DC.i ((v1.getD 1 d0).ii), DC.i ((v1.getD 2 d0).ii)]
        else
          .fail) 1 fun v3 =>
      .norm [DC.sl ((v3.getD 0 d0).ll), DC.i ((v3.getD 1 d0).ii), DC.i (IntKind.i64.wrap ((v3.getD 2 d0).ii + (1 : Int)))]
    else
      .ex 0 []
/-- slices.IndexFunc[[]loop.example/g00964/impl.Dir,loop.example/g00964/impl.Dir] -/
noncomputable def E_slices_IndexFunc_impl_Dir__impl_DirsOk_1 (a : List DC) : Out :=
    Out.andThenB (Loop E_slices_IndexFunc_impl_Dir__impl_DirsOk_1L1 [DC.sl ((a.getD 0 d0).ll), DC.i (((a.getD 0 d0).ll).length : Int), DC.i (0 : Int)]) 0 fun v4 =>
    .ret [DC.i (-1 : Int)]
theorem eq_slices_IndexFunc_impl_Dir__impl_DirsOk_1 (a : List DC) : r_slices_IndexFunc_impl_Dir__impl_DirsOk_1 a = E_slices_IndexFunc_impl_Dir__impl_DirsOk_1 a := (Run_eq cfg 100 h_slices_IndexFunc_impl_Dir__impl_DirsOk_1 a).trans (by kernel_rfl)
noncomputable def E_spec_l07RightL1 : List DC → Out := fun v4 =>
    if (decide ((v4.getD 1 d0).ii < (((v4.getD 4 d0).ll).length : Int))) = true then
      Out.andThenB (Out.andThen (if ((v4.getD 2 d0).ii == (8 : Int)) = true then
            if 9 = 9 ∧ 0 ≤ (v4.getD 1 d0).ii ∧ (v4.getD 1 d0).ii < (((v4.getD 5 d0).ll).length : Int) then
              (r_spec_NameOk [DC.s (((((v4.getD 5 d0).ll).getD ((v4.getD 1 d0).ii).toNat []).getD 0 d0).ss)]).bindR fun r5 =>
              if (!((r5.getD 0 d0).bb)) = true then
                .norm [DC.i ((v4.getD 0 d0).ii), DC.i ((v4.getD 1 d0).ii), DC.b true, DC.i ((v4.getD 2 d0).ii), DC.s ((v4.getD 3 d0).ss), DC.sl ((v4.getD 4 d0).ll), DC.sl ((v4.getD 5 d0).ll)]
              else
                if 59 = 59 ∧ 0 ≤ (v4.getD 1 d0).ii ∧ (v4.getD 1 d0).ii < (((v4.getD 4 d0).ll).length : Int) then
                  (r_spec_l07Right [DC.i (((((v4.getD 4 d0).ll).getD ((v4.getD 1 d0).ii).toNat []).getD 0 d0).ii), DC.s (((((v4.getD 4 d0).ll).getD ((v4.getD 1 d0).ii).toNat []).getD 1 d0).ss), DC.sl (((((v4.getD 4 d0).ll).getD ((v4.getD 1 d0).ii).toNat []).getD 2 d0).ll), DC.sl (((((v4.getD 4 d0).ll).getD ((v4.getD 1 d0).ii).toNat []).getD 3 d0).ll), DC.i (IntKind.i64.wrap ((v4.getD 0 d0).ii - (1 : Int)))]).bindR fun r6 =>
                  .norm [DC.i ((v4.getD 0 d0).ii), DC.i ((v4.getD 1 d0).ii), DC.b (!((r6.getD 0 d0).bb)), DC.i ((v4.getD 2 d0).ii), DC.s ((v4.getD 3 d0).ss), DC.sl ((v4.getD 4 d0).ll), DC.sl ((v4.getD 5 d0).ll)]
                else
                  .fail
            else
              .fail
          else
            if 59 = 59 ∧ 0 ≤ (v4.getD 1 d0).ii ∧ (v4.getD 1 d0).ii < (((v4.getD 4 d0).ll).length : Int) then
              (r_spec_l07Right [DC.i (((((v4.getD 4 d0).ll).getD ((v4.getD 1 d0).ii).toNat []).getD 0 d0).ii), DC.s (((((v4.getD 4 d0).ll).getD ((v4.getD 1 d0).ii).toNat []).getD 1 d0).ss), DC.sl (((((v4.getD 4 d0).ll).getD ((v4.getD 1 d0).ii).toNat []).getD 2 d0).ll), DC.sl (((((v4.getD 4 d0).ll).getD ((v4.getD 1 d0).ii).toNat []).getD 3 d0).ll), DC.i (IntKind.i64.wrap ((v4.getD 0 d0).ii - (1 : Int)))]).bindR fun r7 =>
              .norm [DC.i ((v4.getD 0 d0).ii), DC.i ((v4.getD 1 d0).ii), DC.b (!((r7.getD 0 d0).bb)), DC.i ((v4.getD 2 d0).ii), DC.s ((v4.getD 3 d0).ss), DC.sl ((v4.getD 4 d0).ll), DC.sl ((v4.getD 5 d0).ll)]
            else
              .fail) fun v8 =>
        if (v8.getD 2 d0).bb = true then
          .ret [DC.b false]
        else
          .norm [DC.i ((v8.getD 0 d0).ii), DC.i ((v8.getD 1 d0).ii), DC.i ((v8.getD 3 d0).ii), DC.s ((v8.getD 4 d0).ss), DC.sl ((v8.getD 5 d0).ll), DC.sl ((v8.getD 6 d0).ll)]) 1 fun v9 =>
      .norm [DC.i ((v9.getD 0 d0).ii), DC.i (IntKind.i64.wrap ((v9.getD 1 d0).ii + (1 : Int))), DC.i ((v9.getD 2 d0).ii), DC.s ((v9.getD 3 d0).ss), DC.sl ((v9.getD 4 d0).ll), DC.sl ((v9.getD 5 d0).ll)]
    else
      .ex 0 []
/-- loop.example/g00964/spec.l07Right -/
noncomputable def E_spec_l07Right (a : List DC) : Out :=
    (r_spec_l07One [DC.i ((a.getD 0 d0).ii), DC.s ((a.getD 1 d0).ss), DC.sl ((a.getD 2 d0).ll), DC.sl ((a.getD 3 d0).ll)]).bindR fun r1 =>
    if (!((r1.getD 0 d0).bb)) = true then
      .ret [DC.b false]
    else
      Out.andThen (if ((a.getD 0 d0).ii == (7 : Int)) = true then
          .norm [DC.i ((a.getD 4 d0).ii), DC.b true, DC.i ((a.getD 0 d0).ii), DC.s ((a.getD 1 d0).ss), DC.sl ((a.getD 2 d0).ll), DC.sl ((a.getD 3 d0).ll)]
        else
          .norm [DC.i ((a.getD 4 d0).ii), DC.b ((a.getD 0 d0).ii == (8 : Int)), DC.i ((a.getD 0 d0).ii), DC.s ((a.getD 1 d0).ss), DC.sl ((a.getD 2 d0).ll), DC.sl ((a.getD 3 d0).ll)]) fun v2 =>
      Out.andThen (if (!((v2.getD 1 d0).bb)) = true then
          if (decide ((((v2.getD 4 d0).ll).length : Int) > (0 : Int))) = true then
            .norm [DC.i ((v2.getD 0 d0).ii), DC.b true, DC.i ((v2.getD 2 d0).ii), DC.s ((v2.getD 3 d0).ss), DC.sl ((v2.getD 4 d0).ll), DC.sl ((v2.getD 5 d0).ll)]
          else
            if ((v2.getD 2 d0).ii != (8 : Int)) = true then
              if (decide ((((v2.getD 5 d0).ll).length : Int) > (0 : Int))) = true then
                .norm [DC.i ((v2.getD 0 d0).ii), DC.b true, DC.i ((v2.getD 2 d0).ii), DC.s ((v2.getD 3 d0).ss), DC.sl ((v2.getD 4 d0).ll), DC.sl ((v2.getD 5 d0).ll)]
              else
                if ((v2.getD 2 d0).ii == (8 : Int)) = true then
                  if ((((v2.getD 5 d0).ll).length : Int) != (((v2.getD 4 d0).ll).length : Int)) = true then
                    .norm [DC.i ((v2.getD 0 d0).ii), DC.b true, DC.i ((v2.getD 2 d0).ii), DC.s ((v2.getD 3 d0).ss), DC.sl ((v2.getD 4 d0).ll), DC.sl ((v2.getD 5 d0).ll)]
                  else
                    if (v2.getD 1 d0).bb = true then
                      .norm [DC.i ((v2.getD 0 d0).ii), DC.b ((v2.getD 0 d0).ii == (0 : Int)), DC.i ((v2.getD 2 d0).ii), DC.s ((v2.getD 3 d0).ss), DC.sl ((v2.getD 4 d0).ll), DC.sl ((v2.getD 5 d0).ll)]
                    else
                      .norm [DC.i ((v2.getD 0 d0).ii), DC.b false, DC.i ((v2.getD 2 d0).ii), DC.s ((v2.getD 3 d0).ss), DC.sl ((v2.getD 4 d0).ll), DC.sl ((v2.getD 5 d0).ll)]
                else
                  if (v2.getD 1 d0).bb = true then
                    .norm [DC.i ((v2.getD 0 d0).ii), DC.b ((v2.getD 0 d0).ii == (0 : Int)), DC.i ((v2.getD 2 d0).ii), DC.s ((v2.getD 3 d0).ss), DC.sl ((v2.getD 4 d0).ll), DC.sl ((v2.getD 5 d0).ll)]
                  else
                    .norm [DC.i ((v2.getD 0 d0).ii), DC.b false, DC.i ((v2.getD 2 d0).ii), DC.s ((v2.getD 3 d0).ss), DC.sl ((v2.getD 4 d0).ll), DC.sl ((v2.getD 5 d0).ll)]
            else
              if ((v2.getD 2 d0).ii == (8 : Int)) = true then
                if ((((v2.getD 5 d0).ll).length : Int) != (((v2.getD 4 d0).ll).length : Int)) = true then
                  .norm [DC.i ((v2.getD 0 d0).ii), DC.b true, DC.i ((v2.getD 2 d0).ii), DC.s ((v2.getD 3 d0).ss), DC.sl ((v2.getD 4 d0).ll), DC.sl ((v2.getD 5 d0).ll)]
                else
                  if (v2.getD 1 d0).bb = true then
                    .norm [DC.i ((v2.getD 0 d0).ii), DC.b ((v2.getD 0 d0).ii == (0 : Int)), DC.i ((v2.getD 2 d0).ii), DC.s ((v2.getD 3 d0).ss), DC.sl ((v2.getD 4 d0).ll), DC.sl ((v2.getD 5 d0).ll)]
                  else
                    .norm [DC.i ((v2.getD 0 d0).ii), DC.b false, DC.i ((v2.getD 2 d0).ii), DC.s ((v2.getD 3 d0).ss), DC.sl ((v2.getD 4 d0).ll), DC.sl ((v2.getD 5 d0).ll)]
              else
                if (v2.getD 1 d0).bb = true then
                  .norm [DC.i ((v2.getD 0 d0).ii), DC.b ((v2.getD 0 d0).ii == (0 : Int)), DC.i ((v2.getD 2 d0).ii), DC.s ((v2.getD 3 d0).ss), DC.sl ((v2.getD 4 d0).ll), DC.sl ((v2.getD 5 d0).ll)]
                else
                  .norm [DC.i ((v2.getD 0 d0).ii), DC.b false, DC.i ((v2.getD 2 d0).ii), DC.s ((v2.getD 3 d0).ss), DC.sl ((v2.getD 4 d0).ll), DC.sl ((v2.getD 5 d0).ll)]
        else
          if ((v2.getD 2 d0).ii != (8 : Int)) = true then
            if (decide ((((v2.getD 5 d0).ll).length : Int) > (0 : Int))) = true then
              .norm [DC.i ((v2.getD 0 d0).ii), DC.b true, DC.i ((v2.getD 2 d0).ii), DC.s ((v2.getD 3 d0).ss), DC.sl ((v2.getD 4 d0).ll), DC.sl ((v2.getD 5 d0).ll)]
            else
              if ((v2.getD 2 d0).ii == (8 : Int)) = true then
                if ((((v2.getD 5 d0).ll).length : Int) != (((v2.getD 4 d0).ll).length : Int)) = true then
                  .norm [DC.i ((v2.getD 0 d0).ii), DC.b true, DC.i ((v2.getD 2 d0).ii), DC.s ((v2.getD 3 d0).ss), DC.sl ((v2.getD 4 d0).ll), DC.sl ((v2.getD 5 d0).ll)]
                else
                  if (v2.getD 1 d0).bb = true then
                    .norm [DC.i ((v2.getD 0 d0).ii), DC.b ((v2.getD 0 d0).ii == (0 : Int)), DC.i ((v2.getD 2 d0).ii), DC.s ((v2.getD 3 d0).ss), DC.sl ((v2.getD 4 d0).ll), DC.sl ((v2.getD 5 d0).ll)]
                  else
                    .norm [DC.i ((v2.getD 0 d0).ii), DC.b false, DC.i ((v2.getD 2 d0).ii), DC.s ((v2.getD 3 d0).ss), DC.sl ((v2.getD 4 d0).ll), DC.sl ((v2.getD 5 d0).ll)]
              else
                if (v2.getD 1 d0).bb = true then
                  .norm [DC.i ((v2.getD 0 d0).ii), DC.b ((v2.getD 0 d0).ii == (0 : Int)), DC.i ((v2.getD 2 d0).ii), DC.s ((v2.getD 3 d0).ss), DC.sl ((v2.getD 4 d0).ll), DC.sl ((v2.getD 5 d0).ll)]
                else
                  .norm [DC.i ((v2.getD 0 d0).ii), DC.b false, DC.i ((v2.getD 2 d0).ii), DC.s ((v2.getD 3 d0).ss), DC.sl ((v2.getD 4 d0).ll), DC.sl ((v2.getD 5 d0).ll)]
          else
            if ((v2.getD 2 d0).ii == (8 : Int)) = true then
              if ((((v2.getD 5 d0).ll).length : Int) != (((v2.getD 4 d0).ll).length : Int)) = true then
                .norm [DC.i ((v2.getD 0 d0).ii), DC.b true, DC.i ((v2.getD 2 d0).ii), DC.s ((v2.getD 3 d0).ss), DC.sl ((v2.getD 4 d0).ll), DC.sl ((v2.getD 5 d0).ll)]
              else
                if (v2.getD 1 d0).bb = true then
                  .norm [DC.i ((v2.getD 0 d0).ii), DC.b ((v2.getD 0 d0).ii == (0 : Int)), DC.i ((v2.getD 2 d0).ii), DC.s ((v2.getD 3 d0).ss), DC.sl ((v2.getD 4 d0).ll), DC.sl ((v2.getD 5 d0).ll)]
                else
                  .norm [DC.i ((v2.getD 0 d0).ii), DC.b false, DC.i ((v2.getD 2 d0).ii), DC.s ((v2.getD 3 d0).ss), DC.sl ((v2.getD 4 d0).ll), DC.sl ((v2.getD 5 d0).ll)]
            else
              if (v2.getD 1 d0).bb = true then
                .norm [DC.i ((v2.getD 0 d0).ii), DC.b ((v2.getD 0 d0).ii == (0 : Int)), DC.i ((v2.getD 2 d0).ii), DC.s ((v2.getD 3 d0).ss), DC.sl ((v2.getD 4 d0).ll), DC.sl ((v2.getD 5 d0).ll)]
              else
                .norm [DC.i ((v2.getD 0 d0).ii), DC.b false, DC.i ((v2.getD 2 d0).ii), DC.s ((v2.getD 3 d0).ss), DC.sl ((v2.getD 4 d0).ll), DC.sl ((v2.getD 5 d0).ll)]) fun v3 =>
      if (v3.getD 1 d0).bb = true then
        .ret [DC.b false]
      else
        Out.andThenB (Loop E_spec_l07RightL1 [DC.i ((v3.getD 0 d0).ii), DC.i (0 : Int), DC.i ((v3.getD 2 d0).ii), DC.s ((v3.getD 3 d0).ss), DC.sl ((v3.getD 4 d0).ll), DC.sl ((v3.getD 5 d0).ll)]) 0 fun v10 =>
        .ret [DC.b true]
theorem eq_spec_l07Right (a : List DC) : r_spec_l07Right a = E_spec_l07Right a := (Run_eq cfg 101 h_spec_l07Right a).trans (by kernel_rfl)
noncomputable def E_spec_l07ConstL1 : List DC → Out := fun v1 =>
    if (decide ((v1.getD 0 d0).ii < (((v1.getD 3 d0).ll).length : Int))) = true then
      Out.andThenB (if 59 = 59 ∧ 0 ≤ (v1.getD 0 d0).ii ∧ (v1.getD 0 d0).ii < (((v1.getD 3 d0).ll).length : Int) then
          (r_spec_l07Const [DC.i (((((v1.getD 3 d0).ll).getD ((v1.getD 0 d0).ii).toNat []).getD 0 d0).ii), DC.s (((((v1.getD 3 d0).ll).getD ((v1.getD 0 d0).ii).toNat []).getD 1 d0).ss), DC.sl (((((v1.getD 3 d0).ll).getD ((v1.getD 0 d0).ii).toNat []).getD 2 d0).ll), DC.sl (((((v1.getD 3 d0).ll).getD ((v1.getD 0 d0).ii).toNat []).getD 3 d0).ll)]).bindR fun r2 =>
          if (!((r2.getD 0 d0).bb)) = true then
            .ret [DC.b false]
          else
            .norm [DC.i ((v1.getD 0 d0).ii), DC.i ((v1.getD 1 d0).ii), DC.s ((v1.getD 2 d0).ss), DC.sl ((v1.getD 3 d0).ll), DC.sl ((v1.getD 4 d0).ll)]
        else
          .fail) 1 fun v3 =>
      .norm [DC.i (IntKind.i64.wrap ((v3.getD 0 d0).ii + (1 : Int))), DC.i ((v3.getD 1 d0).ii), DC.s ((v3.getD 2 d0).ss), DC.sl ((v3.getD 3 d0).ll), DC.sl ((v3.getD 4 d0).ll)]
    else
      .ex 0 [DC.i ((v1.getD 1 d0).ii), DC.s ((v1.getD 2 d0).ss), DC.sl ((v1.getD 3 d0).ll), DC.sl ((v1.getD 4 d0).ll)]
/-- loop.example/g00964/spec.l07Const -/
noncomputable def E_spec_l07Const (a : List DC) : Out :=
    Out.andThenB (Loop E_spec_l07ConstL1 [DC.i (0 : Int), DC.i ((a.getD 0 d0).ii), DC.s ((a.getD 1 d0).ss), DC.sl ((a.getD 2 d0).ll), DC.sl ((a.getD 3 d0).ll)]) 0 fun v4 =>
    .ret [DC.b ((v4.getD 0 d0).ii != (1 : Int))]
theorem eq_spec_l07Const (a : List DC) : r_spec_l07Const a = E_spec_l07Const a := (Run_eq cfg 102 h_spec_l07Const a).trans (by kernel_rfl)
/-- loop.example/g00964/impl.plain -/
noncomputable def E_impl_plain (a : List DC) : Out :=
    Out.andThen (if ((((a.getD 2 d0).ll).length : Int) == (0 : Int)) = true then
        .norm [DC.b ((((a.getD 3 d0).ll).length : Int) == (0 : Int))]
      else
        .norm [DC.b false]) fun v1 =>
    .ret [DC.b ((v1.getD 0 d0).bb)]
theorem eq_impl_plain (a : List DC) : r_impl_plain a = E_impl_plain a := (Run_eq cfg 111 h_impl_plain a).trans (by kernel_rfl)
/-- loop.example/g00964/impl.valueOk -/
noncomputable def E_impl_valueOk (a : List DC) : Out :=
    Out.andThenB (if ((a.getD 0 d0).ii == (1 : Int)) = true then
        Out.andThen ((r_impl_plain [DC.i ((a.getD 0 d0).ii), DC.s ((a.getD 1 d0).ss), DC.sl ((a.getD 2 d0).ll), DC.sl ((a.getD 3 d0).ll)]).bindR fun r1 =>
          if (r1.getD 0 d0).bb = true then
            (r_impl_NameOk [DC.s ((a.getD 1 d0).ss)]).bindR fun r2 =>
            .norm [DC.b ((r2.getD 0 d0).bb)]
          else
            .norm [DC.b false]) fun v3 =>
        .ret [DC.b ((v3.getD 0 d0).bb)]
      else
        if ((a.getD 0 d0).ii == (2 : Int)) = true then
          Out.andThen ((r_impl_plain [DC.i ((a.getD 0 d0).ii), DC.s ((a.getD 1 d0).ss), DC.sl ((a.getD 2 d0).ll), DC.sl ((a.getD 3 d0).ll)]).bindR fun r4 =>
            if (r4.getD 0 d0).bb = true then
              (r_impl_IntOk [DC.s ((a.getD 1 d0).ss)]).bindR fun r5 =>
              .norm [DC.b ((r5.getD 0 d0).bb)]
            else
              .norm [DC.b false]) fun v6 =>
          .ret [DC.b ((v6.getD 0 d0).bb)]
        else
          if ((a.getD 0 d0).ii == (3 : Int)) = true then
            Out.andThen ((r_impl_plain [DC.i ((a.getD 0 d0).ii), DC.s ((a.getD 1 d0).ss), DC.sl ((a.getD 2 d0).ll), DC.sl ((a.getD 3 d0).ll)]).bindR fun r7 =>
              if (r7.getD 0 d0).bb = true then
                (r_impl_FloatOk [DC.s ((a.getD 1 d0).ss)]).bindR fun r8 =>
                .norm [DC.b ((r8.getD 0 d0).bb)]
              else
                .norm [DC.b false]) fun v9 =>
            .ret [DC.b ((v9.getD 0 d0).bb)]
          else
            if ((a.getD 0 d0).ii == (4 : Int)) = true then
              Out.andThen ((r_impl_plain [DC.i ((a.getD 0 d0).ii), DC.s ((a.getD 1 d0).ss), DC.sl ((a.getD 2 d0).ll), DC.sl ((a.getD 3 d0).ll)]).bindR fun r10 =>
                if (r10.getD 0 d0).bb = true then
                  (r_impl_Escaped [DC.s ((a.getD 1 d0).ss)]).bindR fun r11 =>
                  .norm [DC.b (!((r11.getD 0 d0).ss == ([] : List UInt8)))]
                else
                  .norm [DC.b false]) fun v12 =>
              .ret [DC.b ((v12.getD 0 d0).bb)]
            else
              if ((a.getD 0 d0).ii == (5 : Int)) = true then
                Out.andThen ((r_impl_plain [DC.i ((a.getD 0 d0).ii), DC.s ((a.getD 1 d0).ss), DC.sl ((a.getD 2 d0).ll), DC.sl ((a.getD 3 d0).ll)]).bindR fun r13 =>
                  if (r13.getD 0 d0).bb = true then
                    (r_impl_Word [DC.s ((a.getD 1 d0).ss)]).bindR fun r14 =>
                    .norm [DC.b ((r14.getD 0 d0).bb)]
                  else
                    .norm [DC.b false]) fun v15 =>
                .ret [DC.b ((v15.getD 0 d0).bb)]
              else
                if ((a.getD 0 d0).ii == (6 : Int)) = true then
                  Out.andThen ((r_impl_plain [DC.i ((a.getD 0 d0).ii), DC.s ((a.getD 1 d0).ss), DC.sl ((a.getD 2 d0).ll), DC.sl ((a.getD 3 d0).ll)]).bindR fun r16 =>
                    if (r16.getD 0 d0).bb = true then
                      (r_impl_NameOk [DC.s ((a.getD 1 d0).ss)]).bindR fun r17 =>
                      if (r17.getD 0 d0).bb = true then
                        (r_impl_Word [DC.s ((a.getD 1 d0).ss)]).bindR fun r18 =>
                        .norm [DC.b (!((r18.getD 0 d0).bb))]
                      else
                        .norm [DC.b false]
                    else
                      .norm [DC.b false]) fun v19 =>
                  .ret [DC.b ((v19.getD 0 d0).bb)]
                else
                  Out.andThen (if ((a.getD 0 d0).ii == (7 : Int)) = true then
                      if ((((a.getD 3 d0).ll).length : Int) != (0 : Int)) = true then
                        .ret [DC.b false]
                      else
                        .norm [DC.i ((a.getD 0 d0).ii), DC.s ((a.getD 1 d0).ss), DC.sl ((a.getD 2 d0).ll), DC.sl ((a.getD 3 d0).ll), DC.i ((a.getD 4 d0).ii)]
                    else
                      if ((a.getD 0 d0).ii == (8 : Int)) = true then
                        Out.andThen (if ((((a.getD 3 d0).ll).length : Int) != (((a.getD 2 d0).ll).length : Int)) = true then
                            .norm [DC.b true, DC.i ((a.getD 0 d0).ii), DC.s ((a.getD 1 d0).ss), DC.sl ((a.getD 2 d0).ll), DC.sl ((a.getD 3 d0).ll), DC.i ((a.getD 4 d0).ii)]
                          else
                            (r_slices_ContainsFunc_string__impl_valueOk_1 [DC.sl ((a.getD 3 d0).ll)]).bindR fun r20 =>
                            .norm [DC.b ((r20.getD 0 d0).bb), DC.i ((a.getD 0 d0).ii), DC.s ((a.getD 1 d0).ss), DC.sl ((a.getD 2 d0).ll), DC.sl ((a.getD 3 d0).ll), DC.i ((a.getD 4 d0).ii)]) fun v21 =>
                        if (v21.getD 0 d0).bb = true then
                          .ret [DC.b false]
                        else
                          .norm [DC.i ((v21.getD 1 d0).ii), DC.s ((v21.getD 2 d0).ss), DC.sl ((v21.getD 3 d0).ll), DC.sl ((v21.getD 4 d0).ll), DC.i ((v21.getD 5 d0).ii)]
                      else
                        .ret [DC.b false]) fun v22 =>
                  .norm [DC.i ((v22.getD 0 d0).ii), DC.s ((v22.getD 1 d0).ss), DC.sl ((v22.getD 2 d0).ll), DC.sl ((v22.getD 3 d0).ll), DC.i ((v22.getD 4 d0).ii)]) 0 fun v23 =>
    Out.andThen (if (decide ((v23.getD 4 d0).ii > (0 : Int))) = true then
        if ((v23.getD 1 d0).ss == ([] : List UInt8)) = true then
          (r_slices_ContainsFunc_impl_Value__impl_valueOk_2 [DC.sl ((v23.getD 2 d0).ll), DC.i ((v23.getD 4 d0).ii)]).bindR fun r24 =>
          .norm [DC.b (!((r24.getD 0 d0).bb))]
        else
          .norm [DC.b false]
      else
        .norm [DC.b false]) fun v25 =>
    .ret [DC.b ((v25.getD 0 d0).bb)]
theorem eq_impl_valueOk (a : List DC) : r_impl_valueOk a = E_impl_valueOk a := (Run_eq cfg 112 h_impl_valueOk a).trans (by kernel_rfl)
/-- slices.ContainsFunc[[]loop.example/g00964/impl.Value,loop.example/g00964/impl.Value] -/
noncomputable def E_slices_ContainsFunc_impl_Value__impl_IsConst_1 (a : List DC) : Out :=
    (r_slices_IndexFunc_impl_Value__impl_IsConst_1 [DC.sl ((a.getD 0 d0).ll)]).bindR fun r1 =>
    .ret [DC.b (decide ((r1.getD 0 d0).ii ≥ (0 : Int)))]
theorem eq_slices_ContainsFunc_impl_Value__impl_IsConst_1 (a : List DC) : r_slices_ContainsFunc_impl_Value__impl_IsConst_1 a = E_slices_ContainsFunc_impl_Value__impl_IsConst_1 a := (Run_eq cfg 113 h_slices_ContainsFunc_impl_Value__impl_IsConst_1 a).trans (by kernel_rfl)
noncomputable def E_slices_IndexFunc_impl_Dir__impl_constDirs_1L1 : List DC → Out := fun v1 =>
    if (decide ((v1.getD 2 d0).ii < (v1.getD 1 d0).ii)) = true then
      Out.andThenB (if 117 = 117 ∧ 0 ≤ (v1.getD 2 d0).ii ∧ (v1.getD 2 d0).ii < (((v1.getD 0 d0).ll).length : Int) then
          (r_impl_constDirs_1 [DC.s (((((v1.getD 0 d0).ll).getD ((v1.getD 2 d0).ii).toNat []).getD 0 d0).ss), DC.sl (((((v1.getD 0 d0).ll).getD ((v1.getD 2 d0).ii).toNat []).getD 1 d0).ll)]).bindR fun r2 =>
          if (r2.getD 0 d0).bb = true then
            .ret [DC.i ((v1.getD 2 d0).ii)]
          else
            .norm [DC.sl ((v1.getD 0 d0).ll), DC.i ((v1.getD 1 d0).ii), DC.i ((v1.getD 2 d0).ii)]
        else
          .fail) 1 fun v3 =>
      .norm [DC.sl ((v3.getD 0 d0).ll), DC.i ((v3.getD 1 d0).ii), DC.i (IntKind.i64.wrap ((v3.getD 2 d0).ii + (1 : Int)))]
    else
      .ex 0 []
/-- slices.IndexFunc[[]loop.example/g00964/impl.Dir,loop.example/g00964/impl.Dir] -/
noncomputable def E_slices_IndexFunc_impl_Dir__impl_constDirs_1 (a : List DC) : Out :=
    Out.andThenB (Loop E_slices_IndexFunc_impl_Dir__impl_constDirs_1L1 [DC.sl ((a.getD 0 d0).ll), DC.i (((a.getD 0 d0).ll).length : Int), DC.i (0 : Int)]) 0 fun v4 =>
    .ret [DC.i (-1 : Int)]
theorem eq_slices_IndexFunc_impl_Dir__impl_constDirs_1 (a : List DC) : r_slices_IndexFunc_impl_Dir__impl_constDirs_1 a = E_slices_IndexFunc_impl_Dir__impl_constDirs_1 a := (Run_eq cfg 100 h_slices_IndexFunc_impl_Dir__impl_constDirs_1 a).trans (by kernel_rfl)
/-- loop.example/g00964/impl.OpOk$1 -/
noncomputable def E_impl_OpOk_1 (a : List DC) : Out :=
    (r_impl_VarDefOk [DC.s ((a.getD 0 d0).ss), DC.s ((a.getD 1 d0).ss), DC.s ((a.getD 2 d0).ss), DC.b ((a.getD 3 d0).bb), DC.i ((a.getD 4 d0).ii), DC.s ((a.getD 5 d0).ss), DC.sl ((a.getD 6 d0).ll), DC.sl ((a.getD 7 d0).ll), DC.sl ((a.getD 8 d0).ll)]).bindR fun r1 =>
    .ret [DC.b (!((r1.getD 0 d0).bb))]
theorem eq_impl_OpOk_1 (a : List DC) : r_impl_OpOk_1 a = E_impl_OpOk_1 a := (Run_eq cfg 62 h_impl_OpOk_1 a).trans (by kernel_rfl)
noncomputable def E_slices_IndexFunc_impl_Arg__impl_ArgsOk_1L1 : List DC → Out := fun v1 =>
    if (decide ((v1.getD 2 d0).ii < (v1.getD 1 d0).ii)) = true then
      Out.andThenB (if 114 = 114 ∧ 0 ≤ (v1.getD 2 d0).ii ∧ (v1.getD 2 d0).ii < (((v1.getD 0 d0).ll).length : Int) then
          (r_impl_ArgsOk_1 [DC.s (((((v1.getD 0 d0).ll).getD ((v1.getD 2 d0).ii).toNat []).getD 0 d0).ss), DC.i (((((v1.getD 0 d0).ll).getD ((v1.getD 2 d0).ii).toNat []).getD 1 d0).ii), DC.s (((((v1.getD 0 d0).ll).getD ((v1.getD 2 d0).ii).toNat []).getD 2 d0).ss), DC.sl (((((v1.getD 0 d0).ll).getD ((v1.getD 2 d0).ii).toNat []).getD 3 d0).ll), DC.sl (((((v1.getD 0 d0).ll).getD ((v1.getD 2 d0).ii).toNat []).getD 4 d0).ll)]).bindR fun r2 =>
          if (r2.getD 0 d0).bb = true then
            .ret [DC.i ((v1.getD 2 d0).ii)]
          else
            .norm [DC.sl ((v1.getD 0 d0).ll), DC.i ((v1.getD 1 d0).ii), DC.i ((v1.getD 2 d0).ii)]
        else
          .fail) 1 fun v3 =>
      .norm [DC.sl ((v3.getD 0 d0).ll), DC.i ((v3.getD 1 d0).ii), DC.i (IntKind.i64.wrap ((v3.getD 2 d0).ii + (1 : Int)))]
    else
      .ex 0 []
/-- slices.IndexFunc[[]loop.example/g00964/impl.Arg,loop.example/g00964/impl.Arg] -/
noncomputable def E_slices_IndexFunc_impl_Arg__impl_ArgsOk_1 (a : List DC) : Out :=
    Out.andThenB (Loop E_slices_IndexFunc_impl_Arg__impl_ArgsOk_1L1 [DC.sl ((a.getD 0 d0).ll), DC.i (((a.getD 0 d0).ll).length : Int), DC.i (0 : Int)]) 0 fun v4 =>
    .ret [DC.i (-1 : Int)]
theorem eq_slices_IndexFunc_impl_Arg__impl_ArgsOk_1 (a : List DC) : r_slices_IndexFunc_impl_Arg__impl_ArgsOk_1 a = E_slices_IndexFunc_impl_Arg__impl_ArgsOk_1 a := (Run_eq cfg 115 h_slices_IndexFunc_impl_Arg__impl_ArgsOk_1 a).trans (by kernel_rfl)
/-- loop.example/g00964/impl.DirsOk$1 -/
noncomputable def E_impl_DirsOk_1 (a : List DC) : Out :=
    Out.andThen ((r_impl_NameOk [DC.s ((a.getD 0 d0).ss)]).bindR fun r1 =>
      if (!((r1.getD 0 d0).bb)) = true then
        .norm [DC.b true]
      else
        (r_impl_ArgsOk [DC.sl ((a.getD 1 d0).ll)]).bindR fun r2 =>
        .norm [DC.b (!((r2.getD 0 d0).bb))]) fun v3 =>
    .ret [DC.b ((v3.getD 0 d0).bb)]
theorem eq_impl_DirsOk_1 (a : List DC) : r_impl_DirsOk_1 a = E_impl_DirsOk_1 a := (Run_eq cfg 79 h_impl_DirsOk_1 a).trans (by kernel_rfl)
/-- loop.example/g00964/spec.l07One -/
noncomputable def E_spec_l07One (a : List DC) : Out :=
    Out.andThenB (if ((a.getD 0 d0).ii == (1 : Int)) = true then
        (r_spec_NameOk [DC.s ((a.getD 1 d0).ss)]).bindR fun r1 =>
        .ret [DC.b ((r1.getD 0 d0).bb)]
      else
        if ((a.getD 0 d0).ii == (2 : Int)) = true then
          (r_spec_IntOk [DC.s ((a.getD 1 d0).ss)]).bindR fun r2 =>
          .ret [DC.b ((r2.getD 0 d0).bb)]
        else
          if ((a.getD 0 d0).ii == (3 : Int)) = true then
            (r_spec_FloatOk [DC.s ((a.getD 1 d0).ss)]).bindR fun r3 =>
            .ret [DC.b ((r3.getD 0 d0).bb)]
          else
            if ((a.getD 0 d0).ii == (4 : Int)) = true then
              (r_spec_Escaped [DC.s ((a.getD 1 d0).ss)]).bindR fun r4 =>
              .ret [DC.b (!((r4.getD 0 d0).ss == ([] : List UInt8)))]
            else
              if ((a.getD 0 d0).ii == (5 : Int)) = true then
                (r_spec_Word [DC.s ((a.getD 1 d0).ss)]).bindR fun r5 =>
                .ret [DC.b ((r5.getD 0 d0).bb)]
              else
                if ((a.getD 0 d0).ii == (6 : Int)) = true then
                  Out.andThen ((r_spec_NameOk [DC.s ((a.getD 1 d0).ss)]).bindR fun r6 =>
                    if (r6.getD 0 d0).bb = true then
                      (r_spec_Word [DC.s ((a.getD 1 d0).ss)]).bindR fun r7 =>
                      .norm [DC.b (!((r7.getD 0 d0).bb))]
                    else
                      .norm [DC.b false]) fun v8 =>
                  .ret [DC.b ((v8.getD 0 d0).bb)]
                else
                  Out.andThen (if ((a.getD 0 d0).ii == (7 : Int)) = true then
                      .norm [DC.b ((a.getD 0 d0).ii == (7 : Int)), DC.i ((a.getD 0 d0).ii), DC.s ((a.getD 1 d0).ss), DC.sl ((a.getD 2 d0).ll), DC.sl ((a.getD 3 d0).ll)]
                    else
                      .norm [DC.b ((a.getD 0 d0).ii == (8 : Int)), DC.i ((a.getD 0 d0).ii), DC.s ((a.getD 1 d0).ss), DC.sl ((a.getD 2 d0).ll), DC.sl ((a.getD 3 d0).ll)]) fun v9 =>
                  if (v9.getD 0 d0).bb = true then
                    .ret [DC.b ((v9.getD 2 d0).ss == ([] : List UInt8))]
                  else
                    .norm []) 0 fun v10 =>
    .ret [DC.b false]
theorem eq_spec_l07One (a : List DC) : r_spec_l07One a = E_spec_l07One a := (Run_eq cfg 116 h_spec_l07One a).trans (by kernel_rfl)
end Go.Proofs.YtgmfpgbgknlojaaGreatDoorV

/- What the functions do, and that they do (written by a program). -/
namespace Go.Proofs.YtgmfpgbgknlojaaGreatDoorV
open Go
set_option linter.unusedVariables false
set_option maxRecDepth 100000
/-- loop.example/g00964/impl.IntOk -/
noncomputable def E_impl_IntOk (a : List DC) : Out :=
    (r_strings_TrimPrefix [DC.s ((a.getD 0 d0).ss), DC.s ([45] : List UInt8)]).bindR fun r1 =>
    Out.andThen (if (decide ((((a.getD 0 d0).ss).length : Int) ≤ (40 : Int))) = true then
        (r_impl_figures [DC.s ((r1.getD 0 d0).ss)]).bindR fun r2 =>
        if (r2.getD 0 d0).bb = true then
          if ((r1.getD 0 d0).ss == ([48] : List UInt8)) = true then
            .norm [DC.b true]
          else
            if 0 ≤ (0 : Int) ∧ (0 : Int) < (((r1.getD 0 d0).ss).length : Int) then
              .norm [DC.b (((((r1.getD 0 d0).ss).getD (0 : Int).toNat 0).toNat : Int) != (48 : Int))]
            else
              .fail
        else
          .norm [DC.b false]
      else
        .norm [DC.b false]) fun v3 =>
    .ret [DC.b ((v3.getD 0 d0).bb)]
theorem eq_impl_IntOk (a : List DC) : r_impl_IntOk a = E_impl_IntOk a := (Run_eq cfg 122 h_impl_IntOk a).trans (by kernel_rfl)
/-- loop.example/g00964/impl.FloatOk -/
noncomputable def E_impl_FloatOk (a : List DC) : Out :=
    if (decide ((((a.getD 0 d0).ss).length : Int) > (40 : Int))) = true then
      .ret [DC.b false]
    else
      (r_strings_IndexAny [DC.s ((a.getD 0 d0).ss), DC.s ([101, 69] : List UInt8)]).bindR fun r1 =>
      Out.andThen (if (decide ((r1.getD 0 d0).ii ≥ (0 : Int))) = true then
          if 0 ≤ (r1.getD 0 d0).ii ∧ (r1.getD 0 d0).ii ≤ (((a.getD 0 d0).ss).length : Int) then
            if 0 ≤ (IntKind.i64.wrap ((r1.getD 0 d0).ii + (1 : Int))) ∧ (IntKind.i64.wrap ((r1.getD 0 d0).ii + (1 : Int))) ≤ (((a.getD 0 d0).ss).length : Int) then
              Out.andThen (if (!((((a.getD 0 d0).ss).drop (IntKind.i64.wrap ((r1.getD 0 d0).ii + (1 : Int))).toNat) == ([] : List UInt8))) = true then
                  if 0 ≤ (0 : Int) ∧ (0 : Int) < ((((a.getD 0 d0).ss).drop (IntKind.i64.wrap ((r1.getD 0 d0).ii + (1 : Int))).toNat).length : Int) then
                    if ((((((a.getD 0 d0).ss).drop (IntKind.i64.wrap ((r1.getD 0 d0).ii + (1 : Int))).toNat).getD (0 : Int).toNat 0).toNat : Int) == (43 : Int)) = true then
                      .norm [DC.s (((a.getD 0 d0).ss).take ((r1.getD 0 d0).ii).toNat), DC.s (((a.getD 0 d0).ss).drop (IntKind.i64.wrap ((r1.getD 0 d0).ii + (1 : Int))).toNat), DC.i ((r1.getD 0 d0).ii), DC.b true]
                    else
                      if 0 ≤ (0 : Int) ∧ (0 : Int) < ((((a.getD 0 d0).ss).drop (IntKind.i64.wrap ((r1.getD 0 d0).ii + (1 : Int))).toNat).length : Int) then
                        .norm [DC.s (((a.getD 0 d0).ss).take ((r1.getD 0 d0).ii).toNat), DC.s (((a.getD 0 d0).ss).drop (IntKind.i64.wrap ((r1.getD 0 d0).ii + (1 : Int))).toNat), DC.i ((r1.getD 0 d0).ii), DC.b ((((((a.getD 0 d0).ss).drop (IntKind.i64.wrap ((r1.getD 0 d0).ii + (1 : Int))).toNat).getD (0 : Int).toNat 0).toNat : Int) == (45 : Int))]
                      else
                        .fail
                  else
                    .fail
                else
                  .norm [DC.s (((a.getD 0 d0).ss).take ((r1.getD 0 d0).ii).toNat), DC.s (((a.getD 0 d0).ss).drop (IntKind.i64.wrap ((r1.getD 0 d0).ii + (1 : Int))).toNat), DC.i ((r1.getD 0 d0).ii), DC.b false]) fun v2 =>
              Out.andThen (if (v2.getD 3 d0).bb = true then
                  if 0 ≤ (1 : Int) ∧ (1 : Int) ≤ (((v2.getD 1 d0).ss).length : Int) then
                    .norm [DC.s ((v2.getD 0 d0).ss), DC.s (((v2.getD 1 d0).ss).drop (1 : Int).toNat), DC.i ((v2.getD 2 d0).ii)]
                  else
                    .fail
                else
                  .norm [DC.s ((v2.getD 0 d0).ss), DC.s ((v2.getD 1 d0).ss), DC.i ((v2.getD 2 d0).ii)]) fun v3 =>
              (r_impl_figures [DC.s ((v3.getD 1 d0).ss)]).bindR fun r4 =>
              if (!((r4.getD 0 d0).bb)) = true then
                .ret [DC.b false]
              else
                .norm [DC.s ((v3.getD 0 d0).ss), DC.i ((v3.getD 2 d0).ii)]
            else
              .fail
          else
            .fail
        else
          .norm [DC.s ((a.getD 0 d0).ss), DC.i ((r1.getD 0 d0).ii)]) fun v5 =>
      (r_strings_Cut [DC.s ((v5.getD 0 d0).ss), DC.s ([46] : List UInt8)]).bindR fun r6 =>
      Out.andThen ((r_impl_IntOk [DC.s ((r6.getD 0 d0).ss)]).bindR fun r7 =>
        if (r7.getD 0 d0).bb = true then
          if (r6.getD 2 d0).bb = true then
            if (!((r6.getD 2 d0).bb)) = true then
              .norm [DC.b true]
            else
              (r_impl_figures [DC.s ((r6.getD 1 d0).ss)]).bindR fun r8 =>
              .norm [DC.b ((r8.getD 0 d0).bb)]
          else
            if (decide ((v5.getD 1 d0).ii ≥ (0 : Int))) = true then
              if (!((r6.getD 2 d0).bb)) = true then
                .norm [DC.b true]
              else
                (r_impl_figures [DC.s ((r6.getD 1 d0).ss)]).bindR fun r9 =>
                .norm [DC.b ((r9.getD 0 d0).bb)]
            else
              .norm [DC.b false]
        else
          .norm [DC.b false]) fun v10 =>
      .ret [DC.b ((v10.getD 0 d0).bb)]
theorem eq_impl_FloatOk (a : List DC) : r_impl_FloatOk a = E_impl_FloatOk a := (Run_eq cfg 123 h_impl_FloatOk a).trans (by kernel_rfl)
noncomputable def E_impl_EscapedL1 : List DC → Out := fun v3 =>
    if (decide ((v3.getD 3 d0).ii < (v3.getD 2 d0).ii)) = true then
      Out.andThenB (if 0 ≤ (v3.getD 3 d0).ii ∧ (v3.getD 3 d0).ii < (((v3.getD 0 d0).ss).length : Int) then
          (r_strings_IndexByte [DC.s ([34, 92, 8, 9, 10, 12, 13] : List UInt8), DC.i ((((v3.getD 0 d0).ss).getD ((v3.getD 3 d0).ii).toNat 0).toNat : Int)]).bindR fun r4 =>
          Out.andThenB (Out.andThen (if (decide ((r4.getD 0 d0).ii ≥ (0 : Int))) = true then
                if 0 ≤ (r4.getD 0 d0).ii ∧ (r4.getD 0 d0).ii < (([34, 92, 98, 116, 110, 102, 114] : List UInt8).length : Int) then
                  if ((v3.getD 1 d0).ll).length + [[DC.i (92 : Int)], [DC.i ((([34, 92, 98, 116, 110, 102, 114] : List UInt8).getD ((r4.getD 0 d0).ii).toNat 0).toNat : Int)]].length < LIM then
                    .norm [DC.s ((v3.getD 0 d0).ss), DC.sl (((v3.getD 1 d0).ll) ++ [[DC.i (92 : Int)], [DC.i ((([34, 92, 98, 116, 110, 102, 114] : List UInt8).getD ((r4.getD 0 d0).ii).toNat 0).toNat : Int)]]), DC.i ((v3.getD 2 d0).ii), DC.i ((v3.getD 3 d0).ii)]
                  else
                    .fail
                else
                  .fail
              else
                Out.andThen (if (decide (((((v3.getD 0 d0).ss).getD ((v3.getD 3 d0).ii).toNat 0).toNat : Int) < (32 : Int))) = true then
                    .norm [DC.s ((v3.getD 0 d0).ss), DC.sl ((v3.getD 1 d0).ll), DC.i ((((v3.getD 0 d0).ss).getD ((v3.getD 3 d0).ii).toNat 0).toNat : Int), DC.i ((v3.getD 2 d0).ii), DC.i ((v3.getD 3 d0).ii), DC.b true]
                  else
                    .norm [DC.s ((v3.getD 0 d0).ss), DC.sl ((v3.getD 1 d0).ll), DC.i ((((v3.getD 0 d0).ss).getD ((v3.getD 3 d0).ii).toNat 0).toNat : Int), DC.i ((v3.getD 2 d0).ii), DC.i ((v3.getD 3 d0).ii), DC.b (((((v3.getD 0 d0).ss).getD ((v3.getD 3 d0).ii).toNat 0).toNat : Int) == (127 : Int))]) fun v5 =>
                Out.andThen (if (v5.getD 5 d0).bb = true then
                    if (4 : Int) < 0 then
                      .fail
                    else
                      if 0 ≤ (((v5.getD 2 d0).ii).fdiv (2 ^ (min (4 : Int).toNat (IntKind.u8.bits)))) ∧ (((v5.getD 2 d0).ii).fdiv (2 ^ (min (4 : Int).toNat (IntKind.u8.bits)))) < (([48, 49, 50, 51, 52, 53, 54, 55, 56, 57, 97, 98, 99, 100, 101, 102] : List UInt8).length : Int) then
                        if 0 ≤ (IntKind.u8.wrap (BitVec.ofInt (IntKind.u8.bits) ((v5.getD 2 d0).ii) &&& BitVec.ofInt (IntKind.u8.bits) (15 : Int)).toNat) ∧ (IntKind.u8.wrap (BitVec.ofInt (IntKind.u8.bits) ((v5.getD 2 d0).ii) &&& BitVec.ofInt (IntKind.u8.bits) (15 : Int)).toNat) < (([48, 49, 50, 51, 52, 53, 54, 55, 56, 57, 97, 98, 99, 100, 101, 102] : List UInt8).length : Int) then
                          if ((v5.getD 1 d0).ll).length + [[DC.i (92 : Int)], [DC.i (117 : Int)], [DC.i (48 : Int)], [DC.i (48 : Int)], [DC.i ((([48, 49, 50, 51, 52, 53, 54, 55, 56, 57, 97, 98, 99, 100, 101, 102] : List UInt8).getD (((v5.getD 2 d0).ii).fdiv (2 ^ (min (4 : Int).toNat (IntKind.u8.bits)))).toNat 0).toNat : Int)], [DC.i ((([48, 49, 50, 51, 52, 53, 54, 55, 56, 57, 97, 98, 99, 100, 101, 102] : List UInt8).getD (IntKind.u8.wrap (BitVec.ofInt (IntKind.u8.bits) ((v5.getD 2 d0).ii) &&& BitVec.ofInt (IntKind.u8.bits) (15 : Int)).toNat).toNat 0).toNat : Int)]].length < LIM then
                            .norm [DC.s ((v5.getD 0 d0).ss), DC.sl (((v5.getD 1 d0).ll) ++ [[DC.i (92 : Int)], [DC.i (117 : Int)], [DC.i (48 : Int)], [DC.i (48 : Int)], [DC.i ((([48, 49, 50, 51, 52, 53, 54, 55, 56, 57, 97, 98, 99, 100, 101, 102] : List UInt8).getD (((v5.getD 2 d0).ii).fdiv (2 ^ (min (4 : Int).toNat (IntKind.u8.bits)))).toNat 0).toNat : Int)], [DC.i ((([48, 49, 50, 51, 52, 53, 54, 55, 56, 57, 97, 98, 99, 100, 101, 102] : List UInt8).getD (IntKind.u8.wrap (BitVec.ofInt (IntKind.u8.bits) ((v5.getD 2 d0).ii) &&& BitVec.ofInt (IntKind.u8.bits) (15 : Int)).toNat).toNat 0).toNat : Int)]]), DC.i ((v5.getD 3 d0).ii), DC.i ((v5.getD 4 d0).ii)]
                          else
                            .fail
                        else
                          .fail
                      else
                        .fail
                  else
                    if ((v5.getD 1 d0).ll).length + [[DC.i ((v5.getD 2 d0).ii)]].length < LIM then
                      .norm [DC.s ((v5.getD 0 d0).ss), DC.sl (((v5.getD 1 d0).ll) ++ [[DC.i ((v5.getD 2 d0).ii)]]), DC.i ((v5.getD 3 d0).ii), DC.i ((v5.getD 4 d0).ii)]
                    else
                      .fail) fun v6 =>
                .norm [DC.s ((v6.getD 0 d0).ss), DC.sl ((v6.getD 1 d0).ll), DC.i ((v6.getD 2 d0).ii), DC.i ((v6.getD 3 d0).ii)]) fun v7 =>
            .norm [DC.s ((v7.getD 0 d0).ss), DC.sl ((v7.getD 1 d0).ll), DC.i ((v7.getD 2 d0).ii), DC.i ((v7.getD 3 d0).ii)]) 2 fun v8 =>
          .norm [DC.s ((v8.getD 0 d0).ss), DC.sl ((v8.getD 1 d0).ll), DC.i ((v8.getD 2 d0).ii), DC.i ((v8.getD 3 d0).ii)]
        else
          .fail) 1 fun v9 =>
      .norm [DC.s ((v9.getD 0 d0).ss), DC.sl ((v9.getD 1 d0).ll), DC.i ((v9.getD 2 d0).ii), DC.i (IntKind.i64.wrap ((v9.getD 3 d0).ii + (1 : Int)))]
    else
      .ex 0 [DC.sl ((v3.getD 1 d0).ll)]
/-- loop.example/g00964/impl.Escaped -/
noncomputable def E_impl_Escaped (a : List DC) : Out :=
    Out.andThen ((r_impl_TextOk [DC.s ((a.getD 0 d0).ss)]).bindR fun r1 =>
      if (!((r1.getD 0 d0).bb)) = true then
        .norm [DC.s ((a.getD 0 d0).ss), DC.b true]
      else
        .norm [DC.s ((a.getD 0 d0).ss), DC.b (decide ((((a.getD 0 d0).ss).length : Int) > (200 : Int)))]) fun v2 =>
    if (v2.getD 1 d0).bb = true then
      .ret [DC.s ([] : List UInt8)]
    else
      Out.andThenB (Loop E_impl_EscapedL1 [DC.s ((v2.getD 0 d0).ss), DC.sl [[DC.i (34 : Int)]], DC.i (((v2.getD 0 d0).ss).length : Int), DC.i (0 : Int)]) 0 fun v10 =>
      if ((v10.getD 0 d0).ll).length + [[DC.i (34 : Int)]].length < LIM then
        .ret [DC.s (rowBytes (((v10.getD 0 d0).ll) ++ [[DC.i (34 : Int)]]))]
      else
        .fail
theorem eq_impl_Escaped (a : List DC) : r_impl_Escaped a = E_impl_Escaped a := (Run_eq cfg 124 h_impl_Escaped a).trans (by kernel_rfl)
/-- loop.example/g00964/impl.Word -/
noncomputable def E_impl_Word (a : List DC) : Out :=
    Out.andThen (if ((a.getD 0 d0).ss == ([116, 114, 117, 101] : List UInt8)) = true then
        .norm [DC.b true]
      else
        if ((a.getD 0 d0).ss == ([102, 97, 108, 115, 101] : List UInt8)) = true then
          .norm [DC.b true]
        else
          .norm [DC.b ((a.getD 0 d0).ss == ([110, 117, 108, 108] : List UInt8))]) fun v1 =>
    .ret [DC.b ((v1.getD 0 d0).bb)]
theorem eq_impl_Word (a : List DC) : r_impl_Word a = E_impl_Word a := (Run_eq cfg 125 h_impl_Word a).trans (by kernel_rfl)
/-- slices.ContainsFunc[[]string,string] -/
noncomputable def E_slices_ContainsFunc_string__impl_valueOk_1 (a : List DC) : Out :=
    (r_slices_IndexFunc_string__impl_valueOk_1 [DC.sl ((a.getD 0 d0).ll)]).bindR fun r1 =>
    .ret [DC.b (decide ((r1.getD 0 d0).ii ≥ (0 : Int)))]
theorem eq_slices_ContainsFunc_string__impl_valueOk_1 (a : List DC) : r_slices_ContainsFunc_string__impl_valueOk_1 a = E_slices_ContainsFunc_string__impl_valueOk_1 a := (Run_eq cfg 126 h_slices_ContainsFunc_string__impl_valueOk_1 a).trans (by kernel_rfl)
/-- slices.ContainsFunc[[]loop.example/g00964/impl.Value,loop.example/g00964/impl.Value] -/
noncomputable def E_slices_ContainsFunc_impl_Value__impl_valueOk_2 (a : List DC) : Out :=
    (r_slices_IndexFunc_impl_Value__impl_valueOk_2 [DC.sl ((a.getD 0 d0).ll), DC.i ((a.getD 1 d0).ii)]).bindR fun r1 =>
    .ret [DC.b (decide ((r1.getD 0 d0).ii ≥ (0 : Int))), DC.i ((r1.getD 1 d0).ii)]
theorem eq_slices_ContainsFunc_impl_Value__impl_valueOk_2 (a : List DC) : r_slices_ContainsFunc_impl_Value__impl_valueOk_2 a = E_slices_ContainsFunc_impl_Value__impl_valueOk_2 a := (Run_eq cfg 113 h_slices_ContainsFunc_impl_Value__impl_valueOk_2 a).trans (by kernel_rfl)
noncomputable def E_slices_IndexFunc_impl_Value__impl_IsConst_1L1 : List DC → Out := fun v1 =>
    if (decide ((v1.getD 2 d0).ii < (v1.getD 1 d0).ii)) = true then
      Out.andThenB (if 59 = 59 ∧ 0 ≤ (v1.getD 2 d0).ii ∧ (v1.getD 2 d0).ii < (((v1.getD 0 d0).ll).length : Int) then
          (r_impl_IsConst_1 [DC.i (((((v1.getD 0 d0).ll).getD ((v1.getD 2 d0).ii).toNat []).getD 0 d0).ii), DC.s (((((v1.getD 0 d0).ll).getD ((v1.getD 2 d0).ii).toNat []).getD 1 d0).ss), DC.sl (((((v1.getD 0 d0).ll).getD ((v1.getD 2 d0).ii).toNat []).getD 2 d0).ll), DC.sl (((((v1.getD 0 d0).ll).getD ((v1.getD 2 d0).ii).toNat []).getD 3 d0).ll)]).bindR fun r2 =>
          if (r2.getD 0 d0).bb = true then
            .ret [DC.i ((v1.getD 2 d0).ii)]
          else
            .norm [DC.sl ((v1.getD 0 d0).ll), DC.i ((v1.getD 1 d0).ii), DC.i ((v1.getD 2 d0).ii)]
        else
          .fail) 1 fun v3 =>
      .norm [DC.sl ((v3.getD 0 d0).ll), DC.i ((v3.getD 1 d0).ii), DC.i (IntKind.i64.wrap ((v3.getD 2 d0).ii + (1 : Int)))]
    else
      .ex 0 []
/-- slices.IndexFunc[[]loop.example/g00964/impl.Value,loop.example/g00964/impl.Value] -/
noncomputable def E_slices_IndexFunc_impl_Value__impl_IsConst_1 (a : List DC) : Out :=
    Out.andThenB (Loop E_slices_IndexFunc_impl_Value__impl_IsConst_1L1 [DC.sl ((a.getD 0 d0).ll), DC.i (((a.getD 0 d0).ll).length : Int), DC.i (0 : Int)]) 0 fun v4 =>
    .ret [DC.i (-1 : Int)]
theorem eq_slices_IndexFunc_impl_Value__impl_IsConst_1 (a : List DC) : r_slices_IndexFunc_impl_Value__impl_IsConst_1 a = E_slices_IndexFunc_impl_Value__impl_IsConst_1 a := (Run_eq cfg 129 h_slices_IndexFunc_impl_Value__impl_IsConst_1 a).trans (by kernel_rfl)
/-- loop.example/g00964/impl.constDirs$1 -/
noncomputable def E_impl_constDirs_1 (a : List DC) : Out :=
    (r_slices_ContainsFunc_impl_Arg__impl_constDirs_1_1 [DC.sl ((a.getD 1 d0).ll)]).bindR fun r1 =>
    .ret [DC.b ((r1.getD 0 d0).bb)]
theorem eq_impl_constDirs_1 (a : List DC) : r_impl_constDirs_1 a = E_impl_constDirs_1 a := (Run_eq cfg 92 h_impl_constDirs_1 a).trans (by kernel_rfl)
/-- loop.example/g00964/impl.ArgsOk$1 -/
noncomputable def E_impl_ArgsOk_1 (a : List DC) : Out :=
    Out.andThen ((r_impl_NameOk [DC.s ((a.getD 0 d0).ss)]).bindR fun r1 =>
      if (!((r1.getD 0 d0).bb)) = true then
        .norm [DC.b true]
      else
        (r_impl_ValueOk [DC.i ((a.getD 1 d0).ii), DC.s ((a.getD 2 d0).ss), DC.sl ((a.getD 3 d0).ll), DC.sl ((a.getD 4 d0).ll)]).bindR fun r2 =>
        .norm [DC.b (!((r2.getD 0 d0).bb))]) fun v3 =>
    .ret [DC.b ((v3.getD 0 d0).bb)]
theorem eq_impl_ArgsOk_1 (a : List DC) : r_impl_ArgsOk_1 a = E_impl_ArgsOk_1 a := (Run_eq cfg 98 h_impl_ArgsOk_1 a).trans (by kernel_rfl)
/-- loop.example/g00964/spec.IntOk -/
noncomputable def E_spec_IntOk (a : List DC) : Out :=
    Out.andThen (if (decide ((((a.getD 0 d0).ss).length : Int) ≤ (40 : Int))) = true then
        if (decide ((((a.getD 0 d0).ss).length : Int) > (0 : Int))) = true then
          (r_spec_l03Int [DC.s ((a.getD 0 d0).ss)]).bindR fun r1 =>
          .norm [DC.b ((r1.getD 0 d0).ii == (((a.getD 0 d0).ss).length : Int))]
        else
          .norm [DC.b false]
      else
        .norm [DC.b false]) fun v2 =>
    .ret [DC.b ((v2.getD 0 d0).bb)]
theorem eq_spec_IntOk (a : List DC) : r_spec_IntOk a = E_spec_IntOk a := (Run_eq cfg 130 h_spec_IntOk a).trans (by kernel_rfl)
/-- loop.example/g00964/spec.FloatOk -/
noncomputable def E_spec_FloatOk (a : List DC) : Out :=
    (r_spec_l03Int [DC.s ((a.getD 0 d0).ss)]).bindR fun r1 =>
    Out.andThen (if (decide ((((a.getD 0 d0).ss).length : Int) > (40 : Int))) = true then
        .norm [DC.s ((a.getD 0 d0).ss), DC.i ((r1.getD 0 d0).ii), DC.b true]
      else
        if ((r1.getD 0 d0).ii == (0 : Int)) = true then
          .norm [DC.s ((a.getD 0 d0).ss), DC.i ((r1.getD 0 d0).ii), DC.b true]
        else
          .norm [DC.s ((a.getD 0 d0).ss), DC.i ((r1.getD 0 d0).ii), DC.b ((r1.getD 0 d0).ii == (((a.getD 0 d0).ss).length : Int))]) fun v2 =>
    if (v2.getD 2 d0).bb = true then
      .ret [DC.b false]
    else
      if 0 ≤ (v2.getD 1 d0).ii ∧ (v2.getD 1 d0).ii < (((v2.getD 0 d0).ss).length : Int) then
        Out.andThen (if (((((v2.getD 0 d0).ss).getD ((v2.getD 1 d0).ii).toNat 0).toNat : Int) == (46 : Int)) = true then
            (r_spec_l03Run [DC.s ((v2.getD 0 d0).ss), DC.i (IntKind.i64.wrap ((v2.getD 1 d0).ii + (1 : Int)))]).bindR fun r3 =>
            if ((r3.getD 0 d0).ii == (IntKind.i64.wrap ((v2.getD 1 d0).ii + (1 : Int)))) = true then
              .ret [DC.b false]
            else
              .norm [DC.s ((v2.getD 0 d0).ss), DC.i ((r3.getD 0 d0).ii)]
          else
            .norm [DC.s ((v2.getD 0 d0).ss), DC.i ((v2.getD 1 d0).ii)]) fun v4 =>
        Out.andThen (if (decide ((v4.getD 1 d0).ii < (((v4.getD 0 d0).ss).length : Int))) = true then
            if 0 ≤ (v4.getD 1 d0).ii ∧ (v4.getD 1 d0).ii < (((v4.getD 0 d0).ss).length : Int) then
              if (((((v4.getD 0 d0).ss).getD ((v4.getD 1 d0).ii).toNat 0).toNat : Int) == (101 : Int)) = true then
                .norm [DC.s ((v4.getD 0 d0).ss), DC.i ((v4.getD 1 d0).ii), DC.b true]
              else
                if 0 ≤ (v4.getD 1 d0).ii ∧ (v4.getD 1 d0).ii < (((v4.getD 0 d0).ss).length : Int) then
                  .norm [DC.s ((v4.getD 0 d0).ss), DC.i ((v4.getD 1 d0).ii), DC.b (((((v4.getD 0 d0).ss).getD ((v4.getD 1 d0).ii).toNat 0).toNat : Int) == (69 : Int))]
                else
                  .fail
            else
              .fail
          else
            .norm [DC.s ((v4.getD 0 d0).ss), DC.i ((v4.getD 1 d0).ii), DC.b false]) fun v5 =>
        Out.andThen (if (v5.getD 2 d0).bb = true then
            Out.andThen (if (decide ((IntKind.i64.wrap ((v5.getD 1 d0).ii + (1 : Int))) < (((v5.getD 0 d0).ss).length : Int))) = true then
                if 0 ≤ (IntKind.i64.wrap ((v5.getD 1 d0).ii + (1 : Int))) ∧ (IntKind.i64.wrap ((v5.getD 1 d0).ii + (1 : Int))) < (((v5.getD 0 d0).ss).length : Int) then
                  if (((((v5.getD 0 d0).ss).getD (IntKind.i64.wrap ((v5.getD 1 d0).ii + (1 : Int))).toNat 0).toNat : Int) == (43 : Int)) = true then
                    .norm [DC.s ((v5.getD 0 d0).ss), DC.i (IntKind.i64.wrap ((v5.getD 1 d0).ii + (1 : Int))), DC.b true]
                  else
                    if 0 ≤ (IntKind.i64.wrap ((v5.getD 1 d0).ii + (1 : Int))) ∧ (IntKind.i64.wrap ((v5.getD 1 d0).ii + (1 : Int))) < (((v5.getD 0 d0).ss).length : Int) then
                      .norm [DC.s ((v5.getD 0 d0).ss), DC.i (IntKind.i64.wrap ((v5.getD 1 d0).ii + (1 : Int))), DC.b (((((v5.getD 0 d0).ss).getD (IntKind.i64.wrap ((v5.getD 1 d0).ii + (1 : Int))).toNat 0).toNat : Int) == (45 : Int))]
                    else
                      .fail
                else
                  .fail
              else
                .norm [DC.s ((v5.getD 0 d0).ss), DC.i (IntKind.i64.wrap ((v5.getD 1 d0).ii + (1 : Int))), DC.b false]) fun v6 =>
            Out.andThen (if (v6.getD 2 d0).bb = true then
                .norm [DC.s ((v6.getD 0 d0).ss), DC.i (IntKind.i64.wrap ((v6.getD 1 d0).ii + (1 : Int)))]
              else
                .norm [DC.s ((v6.getD 0 d0).ss), DC.i ((v6.getD 1 d0).ii)]) fun v7 =>
            (r_spec_l03Run [DC.s ((v7.getD 0 d0).ss), DC.i ((v7.getD 1 d0).ii)]).bindR fun r8 =>
            if ((r8.getD 0 d0).ii == (v7.getD 1 d0).ii) = true then
              .ret [DC.b false]
            else
              .norm [DC.s ((v7.getD 0 d0).ss), DC.i ((r8.getD 0 d0).ii)]
          else
            .norm [DC.s ((v5.getD 0 d0).ss), DC.i ((v5.getD 1 d0).ii)]) fun v9 =>
        .ret [DC.b ((v9.getD 1 d0).ii == (((v9.getD 0 d0).ss).length : Int))]
      else
        .fail
theorem eq_spec_FloatOk (a : List DC) : r_spec_FloatOk a = E_spec_FloatOk a := (Run_eq cfg 131 h_spec_FloatOk a).trans (by kernel_rfl)
noncomputable def E_spec_EscapedL1 : List DC → Out := fun v3 =>
    if (decide ((v3.getD 2 d0).ii < (((v3.getD 0 d0).ss).length : Int))) = true then
      Out.andThenB (if 0 ≤ (v3.getD 2 d0).ii ∧ (v3.getD 2 d0).ii < (((v3.getD 0 d0).ss).length : Int) then
          Out.andThenB (Out.andThen (if (((((v3.getD 0 d0).ss).getD ((v3.getD 2 d0).ii).toNat 0).toNat : Int) == (34 : Int)) = true then
                .norm [DC.s ((v3.getD 0 d0).ss), DC.s ((v3.getD 1 d0).ss), DC.i ((v3.getD 2 d0).ii), DC.i ((((v3.getD 0 d0).ss).getD ((v3.getD 2 d0).ii).toNat 0).toNat : Int), DC.b true]
              else
                .norm [DC.s ((v3.getD 0 d0).ss), DC.s ((v3.getD 1 d0).ss), DC.i ((v3.getD 2 d0).ii), DC.i ((((v3.getD 0 d0).ss).getD ((v3.getD 2 d0).ii).toNat 0).toNat : Int), DC.b (((((v3.getD 0 d0).ss).getD ((v3.getD 2 d0).ii).toNat 0).toNat : Int) == (92 : Int))]) fun v4 =>
            Out.andThen (if (v4.getD 4 d0).bb = true then
                if ((v4.getD 1 d0).ss).length + ([92] : List UInt8).length < LIM then
                  if 0 ≤ (v4.getD 2 d0).ii ∧ (v4.getD 2 d0).ii ≤ (IntKind.i64.wrap ((v4.getD 2 d0).ii + (1 : Int))) ∧ (IntKind.i64.wrap ((v4.getD 2 d0).ii + (1 : Int))) ≤ (((v4.getD 0 d0).ss).length : Int) then
                    if (((v4.getD 1 d0).ss) ++ ([92] : List UInt8)).length + ((((v4.getD 0 d0).ss).take (IntKind.i64.wrap ((v4.getD 2 d0).ii + (1 : Int))).toNat).drop ((v4.getD 2 d0).ii).toNat).length < LIM then
                      .norm [DC.s ((v4.getD 0 d0).ss), DC.s ((((v4.getD 1 d0).ss) ++ ([92] : List UInt8)) ++ ((((v4.getD 0 d0).ss).take (IntKind.i64.wrap ((v4.getD 2 d0).ii + (1 : Int))).toNat).drop ((v4.getD 2 d0).ii).toNat)), DC.i ((v4.getD 2 d0).ii)]
                    else
                      .fail
                  else
                    .fail
                else
                  .fail
              else
                Out.andThen (if ((v4.getD 3 d0).ii == (8 : Int)) = true then
                    if ((v4.getD 1 d0).ss).length + ([92, 98] : List UInt8).length < LIM then
                      .norm [DC.s ((v4.getD 0 d0).ss), DC.s (((v4.getD 1 d0).ss) ++ ([92, 98] : List UInt8)), DC.i ((v4.getD 2 d0).ii)]
                    else
                      .fail
                  else
                    Out.andThen (if ((v4.getD 3 d0).ii == (9 : Int)) = true then
                        if ((v4.getD 1 d0).ss).length + ([92, 116] : List UInt8).length < LIM then
                          .norm [DC.s ((v4.getD 0 d0).ss), DC.s (((v4.getD 1 d0).ss) ++ ([92, 116] : List UInt8)), DC.i ((v4.getD 2 d0).ii)]
                        else
                          .fail
                      else
                        Out.andThen (if ((v4.getD 3 d0).ii == (10 : Int)) = true then
                            if ((v4.getD 1 d0).ss).length + ([92, 110] : List UInt8).length < LIM then
                              .norm [DC.s ((v4.getD 0 d0).ss), DC.s (((v4.getD 1 d0).ss) ++ ([92, 110] : List UInt8)), DC.i ((v4.getD 2 d0).ii)]
                            else
                              .fail
                          else
                            Out.andThen (if ((v4.getD 3 d0).ii == (12 : Int)) = true then
                                if ((v4.getD 1 d0).ss).length + ([92, 102] : List UInt8).length < LIM then
                                  .norm [DC.s ((v4.getD 0 d0).ss), DC.s (((v4.getD 1 d0).ss) ++ ([92, 102] : List UInt8)), DC.i ((v4.getD 2 d0).ii)]
                                else
                                  .fail
                              else
                                Out.andThen (if ((v4.getD 3 d0).ii == (13 : Int)) = true then
                                    if ((v4.getD 1 d0).ss).length + ([92, 114] : List UInt8).length < LIM then
                                      .norm [DC.s ((v4.getD 0 d0).ss), DC.s (((v4.getD 1 d0).ss) ++ ([92, 114] : List UInt8)), DC.i ((v4.getD 2 d0).ii)]
                                    else
                                      .fail
                                  else
                                    Out.andThen (if (decide ((v4.getD 3 d0).ii < (32 : Int))) = true then
                                        .norm [DC.s ((v4.getD 0 d0).ss), DC.s ((v4.getD 1 d0).ss), DC.i ((v4.getD 2 d0).ii), DC.i ((v4.getD 3 d0).ii), DC.b true]
                                      else
                                        .norm [DC.s ((v4.getD 0 d0).ss), DC.s ((v4.getD 1 d0).ss), DC.i ((v4.getD 2 d0).ii), DC.i ((v4.getD 3 d0).ii), DC.b ((v4.getD 3 d0).ii == (127 : Int))]) fun v5 =>
                                    Out.andThen (if (v5.getD 4 d0).bb = true then
                                        if ((v5.getD 1 d0).ss).length + ([92, 117] : List UInt8).length < LIM then
                                          (r_spec_l04Hex4 [DC.i (IntKind.i64.wrap ((v5.getD 3 d0).ii))]).bindR fun r6 =>
                                          if (((v5.getD 1 d0).ss) ++ ([92, 117] : List UInt8)).length + ((r6.getD 0 d0).ss).length < LIM then
                                            .norm [DC.s ((v5.getD 0 d0).ss), DC.s ((((v5.getD 1 d0).ss) ++ ([92, 117] : List UInt8)) ++ ((r6.getD 0 d0).ss)), DC.i ((v5.getD 2 d0).ii)]
                                          else
                                            .fail
                                        else
                                          .fail
                                      else
                                        if 0 ≤ (v5.getD 2 d0).ii ∧ (v5.getD 2 d0).ii ≤ (IntKind.i64.wrap ((v5.getD 2 d0).ii + (1 : Int))) ∧ (IntKind.i64.wrap ((v5.getD 2 d0).ii + (1 : Int))) ≤ (((v5.getD 0 d0).ss).length : Int) then
                                          if ((v5.getD 1 d0).ss).length + ((((v5.getD 0 d0).ss).take (IntKind.i64.wrap ((v5.getD 2 d0).ii + (1 : Int))).toNat).drop ((v5.getD 2 d0).ii).toNat).length < LIM then
                                            .norm [DC.s ((v5.getD 0 d0).ss), DC.s (((v5.getD 1 d0).ss) ++ ((((v5.getD 0 d0).ss).take (IntKind.i64.wrap ((v5.getD 2 d0).ii + (1 : Int))).toNat).drop ((v5.getD 2 d0).ii).toNat)), DC.i ((v5.getD 2 d0).ii)]
                                          else
                                            .fail
                                        else
                                          .fail) fun v7 =>
                                    .norm [DC.s ((v7.getD 0 d0).ss), DC.s ((v7.getD 1 d0).ss), DC.i ((v7.getD 2 d0).ii)]) fun v8 =>
                                .norm [DC.s ((v8.getD 0 d0).ss), DC.s ((v8.getD 1 d0).ss), DC.i ((v8.getD 2 d0).ii)]) fun v9 =>
                            .norm [DC.s ((v9.getD 0 d0).ss), DC.s ((v9.getD 1 d0).ss), DC.i ((v9.getD 2 d0).ii)]) fun v10 =>
                        .norm [DC.s ((v10.getD 0 d0).ss), DC.s ((v10.getD 1 d0).ss), DC.i ((v10.getD 2 d0).ii)]) fun v11 =>
                    .norm [DC.s ((v11.getD 0 d0).ss), DC.s ((v11.getD 1 d0).ss), DC.i ((v11.getD 2 d0).ii)]) fun v12 =>
                .norm [DC.s ((v12.getD 0 d0).ss), DC.s ((v12.getD 1 d0).ss), DC.i ((v12.getD 2 d0).ii)]) fun v13 =>
            .norm [DC.s ((v13.getD 0 d0).ss), DC.s ((v13.getD 1 d0).ss), DC.i ((v13.getD 2 d0).ii)]) 2 fun v14 =>
          .norm [DC.s ((v14.getD 0 d0).ss), DC.s ((v14.getD 1 d0).ss), DC.i ((v14.getD 2 d0).ii)]
        else
          .fail) 1 fun v15 =>
      .norm [DC.s ((v15.getD 0 d0).ss), DC.s ((v15.getD 1 d0).ss), DC.i (IntKind.i64.wrap ((v15.getD 2 d0).ii + (1 : Int)))]
    else
      .ex 0 [DC.s ((v3.getD 1 d0).ss)]
/-- loop.example/g00964/spec.Escaped -/
noncomputable def E_spec_Escaped (a : List DC) : Out :=
    Out.andThen ((r_spec_TextOk [DC.s ((a.getD 0 d0).ss)]).bindR fun r1 =>
      if (!((r1.getD 0 d0).bb)) = true then
        .norm [DC.s ((a.getD 0 d0).ss), DC.b true]
      else
        .norm [DC.s ((a.getD 0 d0).ss), DC.b (decide ((((a.getD 0 d0).ss).length : Int) > (200 : Int)))]) fun v2 =>
    if (v2.getD 1 d0).bb = true then
      .ret [DC.s ([] : List UInt8)]
    else
      Out.andThenB (Loop E_spec_EscapedL1 [DC.s ((v2.getD 0 d0).ss), DC.s ([34] : List UInt8), DC.i (0 : Int)]) 0 fun v16 =>
      if ((v16.getD 0 d0).ss).length + ([34] : List UInt8).length < LIM then
        .ret [DC.s (((v16.getD 0 d0).ss) ++ ([34] : List UInt8))]
      else
        .fail
theorem eq_spec_Escaped (a : List DC) : r_spec_Escaped a = E_spec_Escaped a := (Run_eq cfg 132 h_spec_Escaped a).trans (by kernel_rfl)
/-- loop.example/g00964/spec.Word -/
noncomputable def E_spec_Word (a : List DC) : Out :=
    Out.andThen (if ((a.getD 0 d0).ss == ([116, 114, 117, 101] : List UInt8)) = true then
        .norm [DC.b true]
      else
        if ((a.getD 0 d0).ss == ([102, 97, 108, 115, 101] : List UInt8)) = true then
          .norm [DC.b true]
        else
          .norm [DC.b ((a.getD 0 d0).ss == ([110, 117, 108, 108] : List UInt8))]) fun v1 =>
    .ret [DC.b ((v1.getD 0 d0).bb)]
theorem eq_spec_Word (a : List DC) : r_spec_Word a = E_spec_Word a := (Run_eq cfg 133 h_spec_Word a).trans (by kernel_rfl)
/-- strings.TrimPrefix -/
noncomputable def E_strings_TrimPrefix (a : List DC) : Out :=
    (r_internal_stringslite_TrimPrefix [DC.s ((a.getD 0 d0).ss), DC.s ((a.getD 1 d0).ss)]).bindR fun r1 =>
    .ret [DC.s ((r1.getD 0 d0).ss)]
theorem eq_strings_TrimPrefix (a : List DC) : r_strings_TrimPrefix a = E_strings_TrimPrefix a := (Run_eq cfg 141 h_strings_TrimPrefix a).trans (by kernel_rfl)
noncomputable def E_impl_figuresL1 : List DC → Out := fun v1 =>
    if (decide ((v1.getD 2 d0).ii < (v1.getD 1 d0).ii)) = true then
      Out.andThenB (if 0 ≤ (v1.getD 2 d0).ii ∧ (v1.getD 2 d0).ii < (((v1.getD 0 d0).ss).length : Int) then
          (r_impl_isFigure [DC.i ((((v1.getD 0 d0).ss).getD ((v1.getD 2 d0).ii).toNat 0).toNat : Int)]).bindR fun r2 =>
          if (!((r2.getD 0 d0).bb)) = true then
            .ret [DC.b false]
          else
            .norm [DC.s ((v1.getD 0 d0).ss), DC.i ((v1.getD 1 d0).ii), DC.i ((v1.getD 2 d0).ii)]
        else
          .fail) 1 fun v3 =>
      .norm [DC.s ((v3.getD 0 d0).ss), DC.i ((v3.getD 1 d0).ii), DC.i (IntKind.i64.wrap ((v3.getD 2 d0).ii + (1 : Int)))]
    else
      .ex 0 [DC.s ((v1.getD 0 d0).ss)]
/-- loop.example/g00964/impl.figures -/
noncomputable def E_impl_figures (a : List DC) : Out :=
    Out.andThenB (Loop E_impl_figuresL1 [DC.s ((a.getD 0 d0).ss), DC.i (((a.getD 0 d0).ss).length : Int), DC.i (0 : Int)]) 0 fun v4 =>
    .ret [DC.b (!((v4.getD 0 d0).ss == ([] : List UInt8)))]
theorem eq_impl_figures (a : List DC) : r_impl_figures a = E_impl_figures a := (Run_eq cfg 142 h_impl_figures a).trans (by kernel_rfl)
/-- strings.IndexAny -/
noncomputable def E_strings_IndexAny (a : List DC) : Out := match primH [.s, .s] [.i .i64] qIndexAny h_strings_IndexAny a with | some r => .ret r | none => .fail
theorem eq_strings_IndexAny (a : List DC) : r_strings_IndexAny a = E_strings_IndexAny a := (Run_eq cfg 143 h_strings_IndexAny a).trans (by kernel_rfl)
/-- strings.Cut -/
noncomputable def E_strings_Cut (a : List DC) : Out :=
    (r_internal_stringslite_Cut [DC.s ((a.getD 0 d0).ss), DC.s ((a.getD 1 d0).ss)]).bindR fun r1 =>
    .ret [DC.s ((r1.getD 0 d0).ss), DC.s ((r1.getD 1 d0).ss), DC.b ((r1.getD 2 d0).bb)]
theorem eq_strings_Cut (a : List DC) : r_strings_Cut a = E_strings_Cut a := (Run_eq cfg 144 h_strings_Cut a).trans (by kernel_rfl)
/-- loop.example/g00964/impl.TextOk -/
noncomputable def E_impl_TextOk (a : List DC) : Out :=
    (r_unicode_utf8_ValidString [DC.s ((a.getD 0 d0).ss)]).bindR fun r1 =>
    .ret [DC.b ((r1.getD 0 d0).bb)]
theorem eq_impl_TextOk (a : List DC) : r_impl_TextOk a = E_impl_TextOk a := (Run_eq cfg 145 h_impl_TextOk a).trans (by kernel_rfl)
/-- strings.IndexByte -/
noncomputable def E_strings_IndexByte (a : List DC) : Out :=
    (r_internal_stringslite_IndexByte [DC.s ((a.getD 0 d0).ss), DC.i ((a.getD 1 d0).ii)]).bindR fun r1 =>
    .ret [DC.i ((r1.getD 0 d0).ii)]
theorem eq_strings_IndexByte (a : List DC) : r_strings_IndexByte a = E_strings_IndexByte a := (Run_eq cfg 146 h_strings_IndexByte a).trans (by kernel_rfl)
noncomputable def E_slices_IndexFunc_string__impl_valueOk_1L1 : List DC → Out := fun v1 =>
    if (decide ((v1.getD 2 d0).ii < (v1.getD 1 d0).ii)) = true then
      Out.andThenB (if 9 = 9 ∧ 0 ≤ (v1.getD 2 d0).ii ∧ (v1.getD 2 d0).ii < (((v1.getD 0 d0).ll).length : Int) then
          (r_impl_valueOk_1 [DC.s (((((v1.getD 0 d0).ll).getD ((v1.getD 2 d0).ii).toNat []).getD 0 d0).ss)]).bindR fun r2 =>
          if (r2.getD 0 d0).bb = true then
            .ret [DC.i ((v1.getD 2 d0).ii)]
          else
            .norm [DC.sl ((v1.getD 0 d0).ll), DC.i ((v1.getD 1 d0).ii), DC.i ((v1.getD 2 d0).ii)]
        else
          .fail) 1 fun v3 =>
      .norm [DC.sl ((v3.getD 0 d0).ll), DC.i ((v3.getD 1 d0).ii), DC.i (IntKind.i64.wrap ((v3.getD 2 d0).ii + (1 : Int)))]
    else
      .ex 0 []
/-- slices.IndexFunc[[]string,string] -/
noncomputable def E_slices_IndexFunc_string__impl_valueOk_1 (a : List DC) : Out :=
    Out.andThenB (Loop E_slices_IndexFunc_string__impl_valueOk_1L1 [DC.sl ((a.getD 0 d0).ll), DC.i (((a.getD 0 d0).ll).length : Int), DC.i (0 : Int)]) 0 fun v4 =>
    .ret [DC.i (-1 : Int)]
theorem eq_slices_IndexFunc_string__impl_valueOk_1 (a : List DC) : r_slices_IndexFunc_string__impl_valueOk_1 a = E_slices_IndexFunc_string__impl_valueOk_1 a := (Run_eq cfg 147 h_slices_IndexFunc_string__impl_valueOk_1 a).trans (by kernel_rfl)
noncomputable def E_slices_IndexFunc_impl_Value__impl_valueOk_2L1 : List DC → Out := fun v1 =>
    if (decide ((v1.getD 2 d0).ii < (v1.getD 1 d0).ii)) = true then
      Out.andThenB (if 59 = 59 ∧ 0 ≤ (v1.getD 2 d0).ii ∧ (v1.getD 2 d0).ii < (((v1.getD 0 d0).ll).length : Int) then
          (r_impl_valueOk_2 [DC.i (((((v1.getD 0 d0).ll).getD ((v1.getD 2 d0).ii).toNat []).getD 0 d0).ii), DC.s (((((v1.getD 0 d0).ll).getD ((v1.getD 2 d0).ii).toNat []).getD 1 d0).ss), DC.sl (((((v1.getD 0 d0).ll).getD ((v1.getD 2 d0).ii).toNat []).getD 2 d0).ll), DC.sl (((((v1.getD 0 d0).ll).getD ((v1.getD 2 d0).ii).toNat []).getD 3 d0).ll), DC.i ((v1.getD 3 d0).ii)]).bindR fun r2 =>
          if (r2.getD 0 d0).bb = true then
            .ret [DC.i ((v1.getD 2 d0).ii), DC.i ((r2.getD 1 d0).ii)]
          else
            .norm [DC.sl ((v1.getD 0 d0).ll), DC.i ((v1.getD 1 d0).ii), DC.i ((v1.getD 2 d0).ii), DC.i ((r2.getD 1 d0).ii)]
        else
          .fail) 1 fun v3 =>
      .norm [DC.sl ((v3.getD 0 d0).ll), DC.i ((v3.getD 1 d0).ii), DC.i (IntKind.i64.wrap ((v3.getD 2 d0).ii + (1 : Int))), DC.i ((v3.getD 3 d0).ii)]
    else
      .ex 0 [DC.i ((v1.getD 3 d0).ii)]
/-- slices.IndexFunc[[]loop.example/g00964/impl.Value,loop.example/g00964/impl.Value] -/
noncomputable def E_slices_IndexFunc_impl_Value__impl_valueOk_2 (a : List DC) : Out :=
    Out.andThenB (Loop E_slices_IndexFunc_impl_Value__impl_valueOk_2L1 [DC.sl ((a.getD 0 d0).ll), DC.i (((a.getD 0 d0).ll).length : Int), DC.i (0 : Int), DC.i ((a.getD 1 d0).ii)]) 0 fun v4 =>
    .ret [DC.i (-1 : Int), DC.i ((v4.getD 0 d0).ii)]
theorem eq_slices_IndexFunc_impl_Value__impl_valueOk_2 (a : List DC) : r_slices_IndexFunc_impl_Value__impl_valueOk_2 a = E_slices_IndexFunc_impl_Value__impl_valueOk_2 a := (Run_eq cfg 129 h_slices_IndexFunc_impl_Value__impl_valueOk_2 a).trans (by kernel_rfl)
/-- loop.example/g00964/impl.IsConst$1 -/
noncomputable def E_impl_IsConst_1 (a : List DC) : Out :=
    (r_impl_IsConst [DC.i ((a.getD 0 d0).ii), DC.s ((a.getD 1 d0).ss), DC.sl ((a.getD 2 d0).ll), DC.sl ((a.getD 3 d0).ll)]).bindR fun r1 =>
    .ret [DC.b (!((r1.getD 0 d0).bb))]
theorem eq_impl_IsConst_1 (a : List DC) : r_impl_IsConst_1 a = E_impl_IsConst_1 a := (Run_eq cfg 114 h_impl_IsConst_1 a).trans (by kernel_rfl)
/-- slices.ContainsFunc[[]loop.example/g00964/impl.Arg,loop.example/g00964/impl.Arg] -/
noncomputable def E_slices_ContainsFunc_impl_Arg__impl_constDirs_1_1 (a : List DC) : Out :=
    (r_slices_IndexFunc_impl_Arg__impl_constDirs_1_1 [DC.sl ((a.getD 0 d0).ll)]).bindR fun r1 =>
    .ret [DC.b (decide ((r1.getD 0 d0).ii ≥ (0 : Int)))]
theorem eq_slices_ContainsFunc_impl_Arg__impl_constDirs_1_1 (a : List DC) : r_slices_ContainsFunc_impl_Arg__impl_constDirs_1_1 a = E_slices_ContainsFunc_impl_Arg__impl_constDirs_1_1 a := (Run_eq cfg 93 h_slices_ContainsFunc_impl_Arg__impl_constDirs_1_1 a).trans (by kernel_rfl)
/-- loop.example/g00964/spec.l03Int -/
noncomputable def E_spec_l03Int (a : List DC) : Out :=
    Out.andThen (if (decide ((((a.getD 0 d0).ss).length : Int) > (0 : Int))) = true then
        if 0 ≤ (0 : Int) ∧ (0 : Int) < (((a.getD 0 d0).ss).length : Int) then
          .norm [DC.s ((a.getD 0 d0).ss), DC.i (0 : Int), DC.b (((((a.getD 0 d0).ss).getD (0 : Int).toNat 0).toNat : Int) == (45 : Int))]
        else
          .fail
      else
        .norm [DC.s ((a.getD 0 d0).ss), DC.i (0 : Int), DC.b false]) fun v1 =>
    Out.andThen (if (v1.getD 2 d0).bb = true then
        .norm [DC.s ((v1.getD 0 d0).ss), DC.i (1 : Int)]
      else
        .norm [DC.s ((v1.getD 0 d0).ss), DC.i ((v1.getD 1 d0).ii)]) fun v2 =>
    (r_spec_l03Run [DC.s ((v2.getD 0 d0).ss), DC.i ((v2.getD 1 d0).ii)]).bindR fun r3 =>
    Out.andThen (if ((r3.getD 0 d0).ii == (v2.getD 1 d0).ii) = true then
        .norm [DC.i ((r3.getD 0 d0).ii), DC.b true]
      else
        if 0 ≤ (v2.getD 1 d0).ii ∧ (v2.getD 1 d0).ii < (((v2.getD 0 d0).ss).length : Int) then
          if (((((v2.getD 0 d0).ss).getD ((v2.getD 1 d0).ii).toNat 0).toNat : Int) == (48 : Int)) = true then
            .norm [DC.i ((r3.getD 0 d0).ii), DC.b (decide ((r3.getD 0 d0).ii > (IntKind.i64.wrap ((v2.getD 1 d0).ii + (1 : Int)))))]
          else
            .norm [DC.i ((r3.getD 0 d0).ii), DC.b false]
        else
          .fail) fun v4 =>
    if (v4.getD 1 d0).bb = true then
      .ret [DC.i (0 : Int)]
    else
      .ret [DC.i ((v4.getD 0 d0).ii)]
theorem eq_spec_l03Int (a : List DC) : r_spec_l03Int a = E_spec_l03Int a := (Run_eq cfg 148 h_spec_l03Int a).trans (by kernel_rfl)
noncomputable def E_spec_l03RunL1 : List DC → Out := fun v1 =>
    Out.andThen (if (decide ((v1.getD 1 d0).ii < (((v1.getD 0 d0).ss).length : Int))) = true then
        if 0 ≤ (v1.getD 1 d0).ii ∧ (v1.getD 1 d0).ii < (((v1.getD 0 d0).ss).length : Int) then
          (r_spec_l03Figure [DC.i ((((v1.getD 0 d0).ss).getD ((v1.getD 1 d0).ii).toNat 0).toNat : Int)]).bindR fun r2 =>
          .norm [DC.s ((v1.getD 0 d0).ss), DC.i ((v1.getD 1 d0).ii), DC.b ((r2.getD 0 d0).bb)]
        else
          .fail
      else
        .norm [DC.s ((v1.getD 0 d0).ss), DC.i ((v1.getD 1 d0).ii), DC.b false]) fun v3 =>
    if (v3.getD 2 d0).bb = true then
      Out.andThenB (.norm [DC.s ((v3.getD 0 d0).ss), DC.i (IntKind.i64.wrap ((v3.getD 1 d0).ii + (1 : Int)))]) 1 fun v4 =>
      .norm [DC.s ((v4.getD 0 d0).ss), DC.i ((v4.getD 1 d0).ii)]
    else
      .ex 0 [DC.i ((v3.getD 1 d0).ii)]
/-- loop.example/g00964/spec.l03Run -/
noncomputable def E_spec_l03Run (a : List DC) : Out :=
    Out.andThenB (Loop E_spec_l03RunL1 [DC.s ((a.getD 0 d0).ss), DC.i ((a.getD 1 d0).ii)]) 0 fun v5 =>
    .ret [DC.i ((v5.getD 0 d0).ii)]
theorem eq_spec_l03Run (a : List DC) : r_spec_l03Run a = E_spec_l03Run a := (Run_eq cfg 149 h_spec_l03Run a).trans (by kernel_rfl)
noncomputable def E_spec_TextOkL1 : List DC → Out := fun v1 =>
    if (decide ((v1.getD 1 d0).ii < (((v1.getD 0 d0).ss).length : Int))) = true then
      Out.andThenB ((r_spec_RuneAt [DC.s ((v1.getD 0 d0).ss), DC.i ((v1.getD 1 d0).ii)]).bindR fun r2 =>
        if (decide ((r2.getD 0 d0).ii < (0 : Int))) = true then
          .ret [DC.b false]
        else
          .norm [DC.s ((v1.getD 0 d0).ss), DC.i (IntKind.i64.wrap ((v1.getD 1 d0).ii + (r2.getD 1 d0).ii))]) 1 fun v3 =>
      .norm [DC.s ((v3.getD 0 d0).ss), DC.i ((v3.getD 1 d0).ii)]
    else
      .ex 0 []
/-- loop.example/g00964/spec.TextOk -/
noncomputable def E_spec_TextOk (a : List DC) : Out :=
    Out.andThenB (Loop E_spec_TextOkL1 [DC.s ((a.getD 0 d0).ss), DC.i (0 : Int)]) 0 fun v4 =>
    .ret [DC.b true]
theorem eq_spec_TextOk (a : List DC) : r_spec_TextOk a = E_spec_TextOk a := (Run_eq cfg 150 h_spec_TextOk a).trans (by kernel_rfl)
/-- loop.example/g00964/spec.l04Hex4 -/
noncomputable def E_spec_l04Hex4 (a : List DC) : Out :=
    if (4096 : Int) = 0 then
      .fail
    else
      if (16 : Int) = 0 then
        .fail
      else
        if 0 ≤ ((IntKind.i64.wrap (((a.getD 0 d0).ii).tdiv (4096 : Int))).tmod (16 : Int)) ∧ ((IntKind.i64.wrap (((a.getD 0 d0).ii).tdiv (4096 : Int))).tmod (16 : Int)) < (([48, 49, 50, 51, 52, 53, 54, 55, 56, 57, 97, 98, 99, 100, 101, 102] : List UInt8).length : Int) then
          if (256 : Int) = 0 then
            .fail
          else
            if (16 : Int) = 0 then
              .fail
            else
              if 0 ≤ ((IntKind.i64.wrap (((a.getD 0 d0).ii).tdiv (256 : Int))).tmod (16 : Int)) ∧ ((IntKind.i64.wrap (((a.getD 0 d0).ii).tdiv (256 : Int))).tmod (16 : Int)) < (([48, 49, 50, 51, 52, 53, 54, 55, 56, 57, 97, 98, 99, 100, 101, 102] : List UInt8).length : Int) then
                if (16 : Int) = 0 then
                  .fail
                else
                  if (16 : Int) = 0 then
                    .fail
                  else
                    if 0 ≤ ((IntKind.i64.wrap (((a.getD 0 d0).ii).tdiv (16 : Int))).tmod (16 : Int)) ∧ ((IntKind.i64.wrap (((a.getD 0 d0).ii).tdiv (16 : Int))).tmod (16 : Int)) < (([48, 49, 50, 51, 52, 53, 54, 55, 56, 57, 97, 98, 99, 100, 101, 102] : List UInt8).length : Int) then
                      if (16 : Int) = 0 then
                        .fail
                      else
                        if 0 ≤ (((a.getD 0 d0).ii).tmod (16 : Int)) ∧ (((a.getD 0 d0).ii).tmod (16 : Int)) < (([48, 49, 50, 51, 52, 53, 54, 55, 56, 57, 97, 98, 99, 100, 101, 102] : List UInt8).length : Int) then
                          .ret [DC.s (rowBytes [[DC.i ((([48, 49, 50, 51, 52, 53, 54, 55, 56, 57, 97, 98, 99, 100, 101, 102] : List UInt8).getD ((IntKind.i64.wrap (((a.getD 0 d0).ii).tdiv (4096 : Int))).tmod (16 : Int)).toNat 0).toNat : Int)], [DC.i ((([48, 49, 50, 51, 52, 53, 54, 55, 56, 57, 97, 98, 99, 100, 101, 102] : List UInt8).getD ((IntKind.i64.wrap (((a.getD 0 d0).ii).tdiv (256 : Int))).tmod (16 : Int)).toNat 0).toNat : Int)], [DC.i ((([48, 49, 50, 51, 52, 53, 54, 55, 56, 57, 97, 98, 99, 100, 101, 102] : List UInt8).getD ((IntKind.i64.wrap (((a.getD 0 d0).ii).tdiv (16 : Int))).tmod (16 : Int)).toNat 0).toNat : Int)], [DC.i ((([48, 49, 50, 51, 52, 53, 54, 55, 56, 57, 97, 98, 99, 100, 101, 102] : List UInt8).getD (((a.getD 0 d0).ii).tmod (16 : Int)).toNat 0).toNat : Int)]])]
                        else
                          .fail
                    else
                      .fail
              else
                .fail
        else
          .fail
theorem eq_spec_l04Hex4 (a : List DC) : r_spec_l04Hex4 a = E_spec_l04Hex4 a := (Run_eq cfg 151 h_spec_l04Hex4 a).trans (by kernel_rfl)
/-- internal/stringslite.TrimPrefix -/
noncomputable def E_internal_stringslite_TrimPrefix (a : List DC) : Out :=
    (r_internal_stringslite_HasPrefix [DC.s ((a.getD 0 d0).ss), DC.s ((a.getD 1 d0).ss)]).bindR fun r1 =>
    if (r1.getD 0 d0).bb = true then
      if 0 ≤ (((a.getD 1 d0).ss).length : Int) ∧ (((a.getD 1 d0).ss).length : Int) ≤ (((a.getD 0 d0).ss).length : Int) then
        .ret [DC.s (((a.getD 0 d0).ss).drop (((a.getD 1 d0).ss).length : Int).toNat)]
      else
        .fail
    else
      .ret [DC.s ((a.getD 0 d0).ss)]
theorem eq_internal_stringslite_TrimPrefix (a : List DC) : r_internal_stringslite_TrimPrefix a = E_internal_stringslite_TrimPrefix a := (Run_eq cfg 155 h_internal_stringslite_TrimPrefix a).trans (by kernel_rfl)
/-- internal/stringslite.Cut -/
noncomputable def E_internal_stringslite_Cut (a : List DC) : Out := match primH [.s, .s] [.s, .s, .b] qCut h_internal_stringslite_Cut a with | some r => .ret r | none => .fail
theorem eq_internal_stringslite_Cut (a : List DC) : r_internal_stringslite_Cut a = E_internal_stringslite_Cut a := (Run_eq cfg 157 h_internal_stringslite_Cut a).trans (by kernel_rfl)
/-- unicode/utf8.ValidString -/
noncomputable def E_unicode_utf8_ValidString (a : List DC) : Out := match primH [.s] [.b] qValidString h_unicode_utf8_ValidString a with | some r => .ret r | none => .fail
theorem eq_unicode_utf8_ValidString (a : List DC) : r_unicode_utf8_ValidString a = E_unicode_utf8_ValidString a := (Run_eq cfg 158 h_unicode_utf8_ValidString a).trans (by kernel_rfl)
/-- internal/stringslite.IndexByte -/
noncomputable def E_internal_stringslite_IndexByte (a : List DC) : Out := match primH [.s, .i .u8] [.i .i64] qIndexByte h_internal_stringslite_IndexByte a with | some r => .ret r | none => .fail
theorem eq_internal_stringslite_IndexByte (a : List DC) : r_internal_stringslite_IndexByte a = E_internal_stringslite_IndexByte a := (Run_eq cfg 137 h_internal_stringslite_IndexByte a).trans (by kernel_rfl)
/-- loop.example/g00964/impl.valueOk$1 -/
noncomputable def E_impl_valueOk_1 (a : List DC) : Out :=
    (r_impl_NameOk [DC.s ((a.getD 0 d0).ss)]).bindR fun r1 =>
    .ret [DC.b (!((r1.getD 0 d0).bb))]
theorem eq_impl_valueOk_1 (a : List DC) : r_impl_valueOk_1 a = E_impl_valueOk_1 a := (Run_eq cfg 127 h_impl_valueOk_1 a).trans (by kernel_rfl)
/-- loop.example/g00964/impl.valueOk$2 -/
noncomputable def E_impl_valueOk_2 (a : List DC) : Out :=
    (r_impl_valueOk [DC.i ((a.getD 0 d0).ii), DC.s ((a.getD 1 d0).ss), DC.sl ((a.getD 2 d0).ll), DC.sl ((a.getD 3 d0).ll), DC.i (IntKind.i64.wrap ((a.getD 4 d0).ii - (1 : Int)))]).bindR fun r1 =>
    .ret [DC.b (!((r1.getD 0 d0).bb)), DC.i ((a.getD 4 d0).ii)]
theorem eq_impl_valueOk_2 (a : List DC) : r_impl_valueOk_2 a = E_impl_valueOk_2 a := (Run_eq cfg 128 h_impl_valueOk_2 a).trans (by kernel_rfl)
noncomputable def E_slices_IndexFunc_impl_Arg__impl_constDirs_1_1L1 : List DC → Out := fun v1 =>
    if (decide ((v1.getD 2 d0).ii < (v1.getD 1 d0).ii)) = true then
      Out.andThenB (if 114 = 114 ∧ 0 ≤ (v1.getD 2 d0).ii ∧ (v1.getD 2 d0).ii < (((v1.getD 0 d0).ll).length : Int) then
          (r_impl_constDirs_1_1 [DC.s (((((v1.getD 0 d0).ll).getD ((v1.getD 2 d0).ii).toNat []).getD 0 d0).ss), DC.i (((((v1.getD 0 d0).ll).getD ((v1.getD 2 d0).ii).toNat []).getD 1 d0).ii), DC.s (((((v1.getD 0 d0).ll).getD ((v1.getD 2 d0).ii).toNat []).getD 2 d0).ss), DC.sl (((((v1.getD 0 d0).ll).getD ((v1.getD 2 d0).ii).toNat []).getD 3 d0).ll), DC.sl (((((v1.getD 0 d0).ll).getD ((v1.getD 2 d0).ii).toNat []).getD 4 d0).ll)]).bindR fun r2 =>
          if (r2.getD 0 d0).bb = true then
            .ret [DC.i ((v1.getD 2 d0).ii)]
          else
            .norm [DC.sl ((v1.getD 0 d0).ll), DC.i ((v1.getD 1 d0).ii), DC.i ((v1.getD 2 d0).ii)]
        else
          .fail) 1 fun v3 =>
      .norm [DC.sl ((v3.getD 0 d0).ll), DC.i ((v3.getD 1 d0).ii), DC.i (IntKind.i64.wrap ((v3.getD 2 d0).ii + (1 : Int)))]
    else
      .ex 0 []
/-- slices.IndexFunc[[]loop.example/g00964/impl.Arg,loop.example/g00964/impl.Arg] -/
noncomputable def E_slices_IndexFunc_impl_Arg__impl_constDirs_1_1 (a : List DC) : Out :=
    Out.andThenB (Loop E_slices_IndexFunc_impl_Arg__impl_constDirs_1_1L1 [DC.sl ((a.getD 0 d0).ll), DC.i (((a.getD 0 d0).ll).length : Int), DC.i (0 : Int)]) 0 fun v4 =>
    .ret [DC.i (-1 : Int)]
theorem eq_slices_IndexFunc_impl_Arg__impl_constDirs_1_1 (a : List DC) : r_slices_IndexFunc_impl_Arg__impl_constDirs_1_1 a = E_slices_IndexFunc_impl_Arg__impl_constDirs_1_1 a := (Run_eq cfg 115 h_slices_IndexFunc_impl_Arg__impl_constDirs_1_1 a).trans (by kernel_rfl)
noncomputable def E_spec_RuneAtL1 : List DC → Out := fun v8 =>
    if (decide ((v8.getD 4 d0).ii < (v8.getD 2 d0).ii)) = true then
      Out.andThenB (if 0 ≤ (IntKind.i64.wrap ((v8.getD 1 d0).ii + (v8.getD 4 d0).ii)) ∧ (IntKind.i64.wrap ((v8.getD 1 d0).ii + (v8.getD 4 d0).ii)) < (((v8.getD 0 d0).ss).length : Int) then
          Out.andThen (if (decide ((IntKind.i64.wrap ((((v8.getD 0 d0).ss).getD (IntKind.i64.wrap ((v8.getD 1 d0).ii + (v8.getD 4 d0).ii)).toNat 0).toNat : Int)) < (128 : Int))) = true then
              .norm [DC.s ((v8.getD 0 d0).ss), DC.i ((v8.getD 1 d0).ii), DC.i ((v8.getD 2 d0).ii), DC.i ((v8.getD 3 d0).ii), DC.i ((v8.getD 4 d0).ii), DC.i (IntKind.i64.wrap ((((v8.getD 0 d0).ss).getD (IntKind.i64.wrap ((v8.getD 1 d0).ii + (v8.getD 4 d0).ii)).toNat 0).toNat : Int)), DC.b true]
            else
              .norm [DC.s ((v8.getD 0 d0).ss), DC.i ((v8.getD 1 d0).ii), DC.i ((v8.getD 2 d0).ii), DC.i ((v8.getD 3 d0).ii), DC.i ((v8.getD 4 d0).ii), DC.i (IntKind.i64.wrap ((((v8.getD 0 d0).ss).getD (IntKind.i64.wrap ((v8.getD 1 d0).ii + (v8.getD 4 d0).ii)).toNat 0).toNat : Int)), DC.b (decide ((IntKind.i64.wrap ((((v8.getD 0 d0).ss).getD (IntKind.i64.wrap ((v8.getD 1 d0).ii + (v8.getD 4 d0).ii)).toNat 0).toNat : Int)) > (191 : Int)))]) fun v9 =>
          if (v9.getD 6 d0).bb = true then
            .ret [DC.i (-1 : Int), DC.i (0 : Int)]
          else
            .norm [DC.s ((v9.getD 0 d0).ss), DC.i ((v9.getD 1 d0).ii), DC.i ((v9.getD 2 d0).ii), DC.i (IntKind.i64.wrap ((IntKind.i64.wrap ((IntKind.i64.wrap ((v9.getD 3 d0).ii * (64 : Int))) + (v9.getD 5 d0).ii)) - (128 : Int))), DC.i ((v9.getD 4 d0).ii)]
        else
          .fail) 2 fun v10 =>
      .norm [DC.s ((v10.getD 0 d0).ss), DC.i ((v10.getD 1 d0).ii), DC.i ((v10.getD 2 d0).ii), DC.i ((v10.getD 3 d0).ii), DC.i (IntKind.i64.wrap ((v10.getD 4 d0).ii + (1 : Int)))]
    else
      .ex 1 [DC.i ((v8.getD 2 d0).ii), DC.i ((v8.getD 3 d0).ii)]
/-- loop.example/g00964/spec.RuneAt -/
noncomputable def E_spec_RuneAt (a : List DC) : Out :=
    Out.andThen (if (decide ((a.getD 1 d0).ii < (0 : Int))) = true then
        .norm [DC.s ((a.getD 0 d0).ss), DC.i ((a.getD 1 d0).ii), DC.b true]
      else
        .norm [DC.s ((a.getD 0 d0).ss), DC.i ((a.getD 1 d0).ii), DC.b (decide ((a.getD 1 d0).ii ≥ (((a.getD 0 d0).ss).length : Int)))]) fun v1 =>
    if (v1.getD 2 d0).bb = true then
      .ret [DC.i (-1 : Int), DC.i (0 : Int)]
    else
      if 0 ≤ (v1.getD 1 d0).ii ∧ (v1.getD 1 d0).ii < (((v1.getD 0 d0).ss).length : Int) then
        Out.andThenB (if (decide ((IntKind.i64.wrap ((((v1.getD 0 d0).ss).getD ((v1.getD 1 d0).ii).toNat 0).toNat : Int)) < (128 : Int))) = true then
            .ret [DC.i (IntKind.i64.wrap ((((v1.getD 0 d0).ss).getD ((v1.getD 1 d0).ii).toNat 0).toNat : Int)), DC.i (1 : Int)]
          else
            Out.andThen (if (decide ((IntKind.i64.wrap ((((v1.getD 0 d0).ss).getD ((v1.getD 1 d0).ii).toNat 0).toNat : Int)) ≥ (194 : Int))) = true then
                .norm [DC.s ((v1.getD 0 d0).ss), DC.i ((v1.getD 1 d0).ii), DC.i (IntKind.i64.wrap ((((v1.getD 0 d0).ss).getD ((v1.getD 1 d0).ii).toNat 0).toNat : Int)), DC.b (decide ((IntKind.i64.wrap ((((v1.getD 0 d0).ss).getD ((v1.getD 1 d0).ii).toNat 0).toNat : Int)) < (224 : Int)))]
              else
                .norm [DC.s ((v1.getD 0 d0).ss), DC.i ((v1.getD 1 d0).ii), DC.i (IntKind.i64.wrap ((((v1.getD 0 d0).ss).getD ((v1.getD 1 d0).ii).toNat 0).toNat : Int)), DC.b false]) fun v2 =>
            Out.andThen (if (v2.getD 3 d0).bb = true then
                .norm [DC.s ((v2.getD 0 d0).ss), DC.i ((v2.getD 1 d0).ii), DC.i (2 : Int), DC.i (IntKind.i64.wrap ((v2.getD 2 d0).ii - (192 : Int)))]
              else
                Out.andThen (if (decide ((v2.getD 2 d0).ii ≥ (224 : Int))) = true then
                    .norm [DC.s ((v2.getD 0 d0).ss), DC.i ((v2.getD 1 d0).ii), DC.i ((v2.getD 2 d0).ii), DC.b (decide ((v2.getD 2 d0).ii < (240 : Int)))]
                  else
                    .norm [DC.s ((v2.getD 0 d0).ss), DC.i ((v2.getD 1 d0).ii), DC.i ((v2.getD 2 d0).ii), DC.b false]) fun v3 =>
                Out.andThen (if (v3.getD 3 d0).bb = true then
                    .norm [DC.s ((v3.getD 0 d0).ss), DC.i ((v3.getD 1 d0).ii), DC.i (3 : Int), DC.i (IntKind.i64.wrap ((v3.getD 2 d0).ii - (224 : Int)))]
                  else
                    Out.andThen (if (decide ((v3.getD 2 d0).ii ≥ (240 : Int))) = true then
                        .norm [DC.s ((v3.getD 0 d0).ss), DC.i ((v3.getD 1 d0).ii), DC.i ((v3.getD 2 d0).ii), DC.b (decide ((v3.getD 2 d0).ii < (245 : Int)))]
                      else
                        .norm [DC.s ((v3.getD 0 d0).ss), DC.i ((v3.getD 1 d0).ii), DC.i ((v3.getD 2 d0).ii), DC.b false]) fun v4 =>
                    if (v4.getD 3 d0).bb = true then
                      .norm [DC.s ((v4.getD 0 d0).ss), DC.i ((v4.getD 1 d0).ii), DC.i (4 : Int), DC.i (IntKind.i64.wrap ((v4.getD 2 d0).ii - (240 : Int)))]
                    else
                      .ret [DC.i (-1 : Int), DC.i (0 : Int)]) fun v5 =>
                .norm [DC.s ((v5.getD 0 d0).ss), DC.i ((v5.getD 1 d0).ii), DC.i ((v5.getD 2 d0).ii), DC.i ((v5.getD 3 d0).ii)]) fun v6 =>
            .norm [DC.s ((v6.getD 0 d0).ss), DC.i ((v6.getD 1 d0).ii), DC.i ((v6.getD 2 d0).ii), DC.i ((v6.getD 3 d0).ii)]) 0 fun v7 =>
        if (decide ((IntKind.i64.wrap ((v7.getD 1 d0).ii + (v7.getD 2 d0).ii)) > (((v7.getD 0 d0).ss).length : Int))) = true then
          .ret [DC.i (-1 : Int), DC.i (0 : Int)]
        else
          Out.andThenB (Loop E_spec_RuneAtL1 [DC.s ((v7.getD 0 d0).ss), DC.i ((v7.getD 1 d0).ii), DC.i ((v7.getD 2 d0).ii), DC.i ((v7.getD 3 d0).ii), DC.i (1 : Int)]) 1 fun v11 =>
          (r_spec_RuneText [DC.i ((v11.getD 1 d0).ii)]).bindR fun r12 =>
          if ((((r12.getD 0 d0).ss).length : Int) != (v11.getD 0 d0).ii) = true then
            .ret [DC.i (-1 : Int), DC.i (0 : Int)]
          else
            .ret [DC.i ((v11.getD 1 d0).ii), DC.i ((v11.getD 0 d0).ii)]
      else
        .fail
theorem eq_spec_RuneAt (a : List DC) : r_spec_RuneAt a = E_spec_RuneAt a := (Run_eq cfg 159 h_spec_RuneAt a).trans (by kernel_rfl)
/-- internal/stringslite.HasPrefix -/
noncomputable def E_internal_stringslite_HasPrefix (a : List DC) : Out :=
    Out.andThen (if (decide ((((a.getD 0 d0).ss).length : Int) ≥ (((a.getD 1 d0).ss).length : Int))) = true then
        if 0 ≤ (((a.getD 1 d0).ss).length : Int) ∧ (((a.getD 1 d0).ss).length : Int) ≤ (((a.getD 0 d0).ss).length : Int) then
          .norm [DC.b ((((a.getD 0 d0).ss).take (((a.getD 1 d0).ss).length : Int).toNat) == (a.getD 1 d0).ss)]
        else
          .fail
      else
        .norm [DC.b false]) fun v1 =>
    .ret [DC.b ((v1.getD 0 d0).bb)]
theorem eq_internal_stringslite_HasPrefix (a : List DC) : r_internal_stringslite_HasPrefix a = E_internal_stringslite_HasPrefix a := (Run_eq cfg 160 h_internal_stringslite_HasPrefix a).trans (by kernel_rfl)
/-- loop.example/g00964/impl.constDirs$1$1 -/
noncomputable def E_impl_constDirs_1_1 (a : List DC) : Out :=
    (r_impl_IsConst [DC.i ((a.getD 1 d0).ii), DC.s ((a.getD 2 d0).ss), DC.sl ((a.getD 3 d0).ll), DC.sl ((a.getD 4 d0).ll)]).bindR fun r1 =>
    .ret [DC.b (!((r1.getD 0 d0).bb))]
theorem eq_impl_constDirs_1_1 (a : List DC) : r_impl_constDirs_1_1 a = E_impl_constDirs_1_1 a := (Run_eq cfg 94 h_impl_constDirs_1_1 a).trans (by kernel_rfl)
/-- loop.example/g00964/spec.RuneText -/
noncomputable def E_spec_RuneText (a : List DC) : Out :=
    (r_spec_l02Scalar [DC.i ((a.getD 0 d0).ii)]).bindR fun r1 =>
    if (!((r1.getD 0 d0).bb)) = true then
      .ret [DC.s ([] : List UInt8)]
    else
      Out.andThenB (if (decide ((a.getD 0 d0).ii < (128 : Int))) = true then
          .ret [DC.s (rowBytes [[DC.i (IntKind.u8.wrap ((a.getD 0 d0).ii))]])]
        else
          if (decide ((a.getD 0 d0).ii < (2048 : Int))) = true then
            if (64 : Int) = 0 then
              .fail
            else
              if (64 : Int) = 0 then
                .fail
              else
                .ret [DC.s (rowBytes [[DC.i (IntKind.u8.wrap (IntKind.i64.wrap ((192 : Int) + (IntKind.i64.wrap (((a.getD 0 d0).ii).tdiv (64 : Int))))))], [DC.i (IntKind.u8.wrap (IntKind.i64.wrap ((128 : Int) + (((a.getD 0 d0).ii).tmod (64 : Int)))))]])]
          else
            if (decide ((a.getD 0 d0).ii < (65536 : Int))) = true then
              if (4096 : Int) = 0 then
                .fail
              else
                if (64 : Int) = 0 then
                  .fail
                else
                  if (64 : Int) = 0 then
                    .fail
                  else
                    if (64 : Int) = 0 then
                      .fail
                    else
                      .ret [DC.s (rowBytes [[DC.i (IntKind.u8.wrap (IntKind.i64.wrap ((224 : Int) + (IntKind.i64.wrap (((a.getD 0 d0).ii).tdiv (4096 : Int))))))], [DC.i (IntKind.u8.wrap (IntKind.i64.wrap ((128 : Int) + ((IntKind.i64.wrap (((a.getD 0 d0).ii).tdiv (64 : Int))).tmod (64 : Int)))))], [DC.i (IntKind.u8.wrap (IntKind.i64.wrap ((128 : Int) + (((a.getD 0 d0).ii).tmod (64 : Int)))))]])]
            else
              .norm [DC.i ((a.getD 0 d0).ii)]) 0 fun v2 =>
      if (262144 : Int) = 0 then
        .fail
      else
        if (4096 : Int) = 0 then
          .fail
        else
          if (64 : Int) = 0 then
            .fail
          else
            if (64 : Int) = 0 then
              .fail
            else
              if (64 : Int) = 0 then
                .fail
              else
                if (64 : Int) = 0 then
                  .fail
                else
                  .ret [DC.s (rowBytes [[DC.i (IntKind.u8.wrap (IntKind.i64.wrap ((240 : Int) + (IntKind.i64.wrap (((v2.getD 0 d0).ii).tdiv (262144 : Int))))))], [DC.i (IntKind.u8.wrap (IntKind.i64.wrap ((128 : Int) + ((IntKind.i64.wrap (((v2.getD 0 d0).ii).tdiv (4096 : Int))).tmod (64 : Int)))))], [DC.i (IntKind.u8.wrap (IntKind.i64.wrap ((128 : Int) + ((IntKind.i64.wrap (((v2.getD 0 d0).ii).tdiv (64 : Int))).tmod (64 : Int)))))], [DC.i (IntKind.u8.wrap (IntKind.i64.wrap ((128 : Int) + (((v2.getD 0 d0).ii).tmod (64 : Int)))))]])]
theorem eq_spec_RuneText (a : List DC) : r_spec_RuneText a = E_spec_RuneText a := (Run_eq cfg 162 h_spec_RuneText a).trans (by kernel_rfl)
/-- loop.example/g00964/spec.l02Scalar -/
noncomputable def E_spec_l02Scalar (a : List DC) : Out :=
    Out.andThen ((r_spec_l01In [DC.i ((a.getD 0 d0).ii), DC.i (0 : Int), DC.i (1114111 : Int)]).bindR fun r1 =>
      if (r1.getD 0 d0).bb = true then
        (r_spec_l01In [DC.i ((a.getD 0 d0).ii), DC.i (55296 : Int), DC.i (57343 : Int)]).bindR fun r2 =>
        .norm [DC.b (!((r2.getD 0 d0).bb))]
      else
        .norm [DC.b false]) fun v3 =>
    .ret [DC.b ((v3.getD 0 d0).bb)]
theorem eq_spec_l02Scalar (a : List DC) : r_spec_l02Scalar a = E_spec_l02Scalar a := (Run_eq cfg 163 h_spec_l02Scalar a).trans (by kernel_rfl)
/-- loop.example/g00964/spec.l01In -/
noncomputable def E_spec_l01In (a : List DC) : Out :=
    Out.andThen (if (decide ((a.getD 0 d0).ii ≥ (a.getD 1 d0).ii)) = true then
        .norm [DC.b (decide ((a.getD 0 d0).ii ≤ (a.getD 2 d0).ii))]
      else
        .norm [DC.b false]) fun v1 =>
    .ret [DC.b ((v1.getD 0 d0).bb)]
theorem eq_spec_l01In (a : List DC) : r_spec_l01In a = E_spec_l01In a := (Run_eq cfg 164 h_spec_l01In a).trans (by kernel_rfl)
end Go.Proofs.YtgmfpgbgknlojaaGreatDoorV

/- All of it (written by a program). -/

/- Figures and numbers: what both implementations answer. -/
namespace Go.Proofs.YtgmfpgbgknlojaaGreatDoorV
open Go
set_option linter.unusedVariables false
set_option linter.unusedSimpArgs false
set_option maxRecDepth 100000

theorem u8_eq (x : UInt8) (n : Nat) (hn : n < 256) : ((x.toNat : Int) == (n : Int)) = (x == UInt8.ofNat n) := by
  rw [Bool.eq_iff_iff, beq_iff_eq, beq_iff_eq, ← UInt8.toNat_inj]
  simp only [UInt8.toNat_ofNat', Nat.mod_eq_of_lt hn]
  omega

def isFig (b : UInt8) : Bool := decide (48 ≤ b.toNat) && decide (b.toNat ≤ 57)
def tw (l : List UInt8) : Nat := (l.takeWhile isFig).length
theorem tw_le (l : List UInt8) : tw l ≤ l.length := by
  have := (List.takeWhile_prefix isFig (l := l)).length_le
  exact this

theorem spec_l03Figure (b : UInt8) : r_spec_l03Figure [.i (b.toNat : Int)] = .ret [.b (isFig b)] := by
  rw [eq_spec_l03Figure]
  simp only [E_spec_l03Figure, List.getD_cons_zero, List.getD_cons_succ, DC.bb_b, DC.ii_i, isFig]
  by_cases h : 48 ≤ b.toNat
  · have h1 : (b.toNat : Int) ≥ 48 := by omega
    simp [h, h1]
    omega
  · have h1 : ¬ (b.toNat : Int) ≥ 48 := by omega
    simp [h, h1]
theorem impl_isFigure (b : UInt8) : r_impl_isFigure [.i (b.toNat : Int)] = .ret [.b (isFig b)] := by
  rw [eq_impl_isFigure]
  simp only [E_impl_isFigure, List.getD_cons_zero, List.getD_cons_succ, DC.bb_b, DC.ii_i, isFig]
  by_cases h : 48 ≤ b.toNat
  · have h1 : (b.toNat : Int) ≥ 48 := by omega
    simp [h, h1]
    omega
  · have h1 : ¬ (b.toNat : Int) ≥ 48 := by omega
    simp [h, h1]

theorem goF_run (f : UInt8 → Bool) : ∀ (l : List UInt8) (i : Nat), goF (fun x => !f x) (fun i _ => .ex 0 [.i (i : Int)]) (.ex 0 [.i ((i + l.length : Nat) : Int)]) i l = .ex 0 [.i ((i + (l.takeWhile f).length : Nat) : Int)]
  | [], i => rfl
  | x :: l, i => by
    rw [goF]
    cases h : f x with
    | false => simp [h]
    | true =>
      have := goF_run f l (i + 1)
      simp only [List.length_cons, List.takeWhile_cons, h, if_true, Bool.not_true, Bool.false_eq_true, if_false]
      rw [show i + (l.length + 1) = i + 1 + l.length by omega, this]
      congr 4
      omega

theorem spec_l03Run (s : List UInt8) (i : Nat) (hi : i ≤ s.length) (hs : s.length ≤ 1048576) : r_spec_l03Run [.s s, .i (i : Int)] = .ret [.i ((i + tw (s.drop i) : Nat) : Int)] := by
  rw [eq_spec_l03Run]
  simp only [E_spec_l03Run, List.getD_cons_zero, List.getD_cons_succ, DC.bb_b, DC.ii_i, DC.ss_s]
  have := Loop_find (l := s) (st := fun i => [.s s, .i (i : Int)]) (p := fun x => !isFig x) (stop := fun i _ => .ex 0 [.i (i : Int)]) (fin := .ex 0 [.i (s.length : Int)]) (F := E_spec_l03RunL1) (fun i hi => ?step) (fun _ _ => Out.esc_ex _ _) ?fin (Out.esc_ex _ _) (s.length - i) i (by omega)
  · have e : ((s.length : Nat) : Int) = ((i + (s.drop i).length : Nat) : Int) := by rw [List.length_drop]; omega
    rw [e, goF_run isFig (s.drop i) i] at this
    rw [this]
    rfl
  case step =>
    have hg : s.getD i 0 = s[i] := by rw [List.getD_eq_getElem?_getD, List.getElem?_eq_getElem hi]; rfl
    simp only [E_spec_l03RunL1, List.getD_cons_zero, List.getD_cons_succ, DC.bb_b, DC.ii_i, DC.ss_s, Int.toNat_natCast, hg, spec_l03Figure]
    cases hf : isFig s[i] <;> simp [hi, hf, wrap_succ hi (show s.length ≤ 9223372036854775807 by omega)]
  case fin => simp [E_spec_l03RunL1]

/-- 1 where a sign stands in front. -/
def sgn (s : List UInt8) : Nat := if s.head? = some 45 then 1 else 0
theorem sgn_le (s : List UInt8) : sgn s ≤ s.length := by
  unfold sgn
  split
  · rename_i h
    cases s with
    | nil => simp at h
    | cons _ _ => simp
  · omega
/-- How long the whole number in front is; 0 where there is none. -/
def intLen (s : List UInt8) : Nat := if tw (s.drop (sgn s)) = 0 then 0 else if s.getD (sgn s) 0 = 48 ∧ 1 < tw (s.drop (sgn s)) then 0 else sgn s + tw (s.drop (sgn s))

theorem getD_head (s : List UInt8) : s.getD 0 0 = s.head?.getD 0 := by cases s <;> rfl

theorem spec_l03Int (s : List UInt8) (hs : s.length ≤ 1048576) : r_spec_l03Int [.s s] = .ret [.i (intLen s : Int)] := by
  rw [eq_spec_l03Int]
  cases s with
  | nil =>
    have hr : r_spec_l03Run [.s [], .i 0] = .ret [.i 0] := spec_l03Run [] 0 (by simp) (by simp)
    simp [E_spec_l03Int, hr, intLen, sgn, tw]
  | cons a l =>
    have hpos : decide (((a :: l).length : Int) > 0) = true := by simp
    have hpos' : 0 ≤ (0 : Int) ∧ (0 : Int) < ((a :: l).length : Int) := by simp
    have h0 : (a :: l).getD (0 : Int).toNat 0 = a := rfl
    by_cases h : a = 45
    · subst h
      have hsg : sgn (45 :: l) = 1 := rfl
      have hr : r_spec_l03Run [.s (45 :: l), .i 1] = .ret [.i ((1 + tw l : Nat) : Int)] := spec_l03Run (45 :: l) 1 (by simp) hs
      have h45 : (((45 : UInt8).toNat : Int) == 45) = true := rfl
      simp only [E_spec_l03Int, List.getD_cons_zero, List.getD_cons_succ, DC.bb_b, DC.ii_i, DC.ss_s, hpos, hpos', if_true, and_self, decide_true, h0, h45, Out.andThen_norm, hr, Out.bindR_ret]
      have hil : intLen (45 :: l) = if tw l = 0 then 0 else if l.getD 0 0 = 48 ∧ 1 < tw l then 0 else 1 + tw l := rfl
      have hle := tw_le l
      rw [hil]
      rcases Nat.eq_zero_or_pos (tw l) with ht | ht
      · simp [ht]
      · have hl : l ≠ [] := by
          intro e
          rw [e] at ht
          simp [tw] at ht
        have e1 : (((1 + tw l : Nat) : Int) == 1) = false := beq_eq_false_iff_ne.2 (by omega)
        have hlen : 0 < l.length := by omega
        have e2 : 0 ≤ (1 : Int) ∧ (1 : Int) < ((45 :: l).length : Int) := by rw [List.length_cons]; omega
        have e3 : (45 :: l).getD (1 : Int).toNat 0 = l.getD 0 0 := rfl
        have e4 := u8_eq (l.getD 0 0) 48 (by omega)
        have e4' : (((l.getD 0 0).toNat : Int) == 48) = (l.getD 0 0 == 48) := e4
        have e5 : IntKind.i64.wrap ((1 : Int) + 1) = 2 := by decide
        simp only [e1, e2, e3, e4', e5, Bool.false_eq_true, if_false, if_true, and_self, show ¬ tw l = 0 by omega]
        by_cases h48 : l.getD 0 0 = 48
        · have e6 : (l.getD 0 0 == 48) = true := beq_iff_eq.2 h48
          by_cases h1 : 1 < tw l
          · have e7 : decide (((1 + tw l : Nat) : Int) > 2) = true := decide_eq_true (by omega)
            simp only [e6, e7, h48, h1, beq_self_eq_true, if_true, Out.andThen_norm, List.getD_cons_zero, List.getD_cons_succ, DC.bb_b, DC.ii_i, and_self]
            rfl
          · have e7 : decide (((1 + tw l : Nat) : Int) > 2) = false := decide_eq_false (by omega)
            simp only [e6, e7, h48, h1, beq_self_eq_true, if_true, Out.andThen_norm, List.getD_cons_zero, List.getD_cons_succ, DC.bb_b, DC.ii_i, Bool.false_eq_true, if_false, and_false]
        · have e6 : (l.getD 0 0 == 48) = false := beq_eq_false_iff_ne.2 h48
          simp only [e6, h48, if_true, Out.andThen_norm, List.getD_cons_zero, List.getD_cons_succ, DC.bb_b, DC.ii_i, Bool.false_eq_true, if_false, false_and]
    · have hsg : sgn (a :: l) = 0 := by simp [sgn, h]
      have hr : r_spec_l03Run [.s (a :: l), .i 0] = .ret [.i ((tw (a :: l) : Nat) : Int)] := by
        have := spec_l03Run (a :: l) 0 (by simp) hs
        simpa using this
      have h45 : ((a.toNat : Int) == 45) = false := (u8_eq a 45 (by omega)).trans (beq_eq_false_iff_ne.2 h)
      simp only [E_spec_l03Int, List.getD_cons_zero, List.getD_cons_succ, DC.bb_b, DC.ii_i, DC.ss_s, hpos, hpos', if_true, and_self, decide_true, h0, h45, Out.andThen_norm, hr, Out.bindR_ret, Bool.false_eq_true, if_false]
      have hil : intLen (a :: l) = if tw (a :: l) = 0 then 0 else if a = 48 ∧ 1 < tw (a :: l) then 0 else tw (a :: l) := by
        unfold intLen
        rw [hsg]
        simp only [List.drop_zero, Nat.zero_add]
        rfl
      rw [hil]
      generalize tw (a :: l) = n
      rcases Nat.eq_zero_or_pos n with ht | ht
      · simp [ht]
      · have e1 : ((n : Int) == 0) = false := beq_eq_false_iff_ne.2 (by omega)
        have e4' : ((a.toNat : Int) == 48) = (a == 48) := u8_eq a 48 (by omega)
        have e5 : IntKind.i64.wrap ((0 : Int) + 1) = 1 := by decide
        simp only [e1, e4', e5, Bool.false_eq_true, if_false, if_true, show ¬ n = 0 by omega]
        by_cases h48 : a = 48
        · have e6 : (a == 48) = true := beq_iff_eq.2 h48
          by_cases h1 : 1 < n
          · have e7 : decide ((n : Int) > 1) = true := decide_eq_true (by omega)
            simp only [e6, e7, h48, h1, beq_self_eq_true, if_true, Out.andThen_norm, List.getD_cons_zero, List.getD_cons_succ, DC.bb_b, DC.ii_i, and_self]
            rfl
          · have e7 : decide ((n : Int) > 1) = false := decide_eq_false (by omega)
            simp only [e6, e7, h48, h1, beq_self_eq_true, if_true, Out.andThen_norm, List.getD_cons_zero, List.getD_cons_succ, DC.bb_b, DC.ii_i, Bool.false_eq_true, if_false, and_false]
        · have e6 : (a == 48) = false := beq_eq_false_iff_ne.2 h48
          simp only [e6, h48, if_true, Out.andThen_norm, List.getD_cons_zero, List.getD_cons_succ, DC.bb_b, DC.ii_i, Bool.false_eq_true, if_false, false_and]

/-- A whole number. -/
def intOk (s : List UInt8) : Bool := decide (s.length ≤ 40) && (decide (0 < s.length) && (intLen s == s.length))

theorem spec_IntOk (s : List UInt8) (hs : s.length ≤ 1048576) : r_spec_IntOk [.s s] = .ret [.b (intOk s)] := by
  rw [eq_spec_IntOk]
  simp only [E_spec_IntOk, List.getD_cons_zero, List.getD_cons_succ, DC.bb_b, DC.ii_i, DC.ss_s, spec_l03Int s hs, Out.bindR_ret, intOk]
  by_cases h1 : s.length ≤ 40
  · have e1 : decide ((s.length : Int) ≤ 40) = true := decide_eq_true (by omega)
    by_cases h2 : 0 < s.length
    · have e2 : decide ((s.length : Int) > 0) = true := decide_eq_true (by omega)
      have e3 : ((intLen s : Int) == (s.length : Int)) = (intLen s == s.length) := by
        rw [Bool.eq_iff_iff, beq_iff_eq, beq_iff_eq]; omega
      simp only [e1, e2, e3, h1, h2, decide_true, Bool.true_and, if_true, Out.andThen_norm, List.getD_cons_zero, DC.bb_b]
    · have e2 : decide ((s.length : Int) > 0) = false := decide_eq_false (by omega)
      simp only [e1, e2, h1, h2, decide_true, decide_false, Bool.true_and, Bool.false_and, if_true, if_false, Bool.false_eq_true, Out.andThen_norm, List.getD_cons_zero, DC.bb_b]
  · have e1 : decide ((s.length : Int) ≤ 40) = false := decide_eq_false (by omega)
    simp only [e1, h1, decide_false, Bool.false_and, if_false, Bool.false_eq_true, Out.andThen_norm, List.getD_cons_zero, DC.bb_b]

/-- One or more figures. -/
def figs (l : List UInt8) : Bool := !(l == []) && l.all isFig

theorem impl_figures (s : List UInt8) (hs : s.length ≤ 1048576) : r_impl_figures [.s s] = .ret [.b (figs s)] := by
  rw [eq_impl_figures]
  simp only [E_impl_figures, List.getD_cons_zero, List.getD_cons_succ, DC.bb_b, DC.ii_i, DC.ss_s]
  rw [show (0 : Int) = ((0 : Nat) : Int) from rfl, Loop_find0 (l := s) (st := fun i => [.s s, .i (s.length : Int), .i (i : Int)]) (p := fun x => !isFig x) (stop := fun i _ => .ret [.b false]) (fin := .ex 0 [.s s]) (fun i hi => ?step) (fun _ _ => Out.esc_ret _) ?fin (Out.esc_ex _ _), goF_any]
  · unfold figs
    cases h : s.any fun x => !isFig x with
    | true =>
      have : s.all isFig = false := by
        rw [List.any_eq_true] at h
        obtain ⟨x, hx, h⟩ := h
        rw [List.all_eq_false]
        exact ⟨x, hx, by simpa using h⟩
      simp [this]
    | false =>
      have : s.all isFig = true := by
        rw [List.any_eq_false] at h
        rw [List.all_eq_true]
        intro x hx
        simpa using h x hx
      simp [this]
  case step =>
    have hg : s.getD i 0 = s[i] := by rw [List.getD_eq_getElem?_getD, List.getElem?_eq_getElem hi]; rfl
    simp only [E_impl_figuresL1, List.getD_cons_zero, List.getD_cons_succ, DC.bb_b, DC.ii_i, DC.ss_s, Int.toNat_natCast, hg, impl_isFigure]
    cases hf : isFig s[i] <;> simp [hi, hf, wrap_succ hi (show s.length ≤ 9223372036854775807 by omega)]
  case fin => simp [E_impl_figuresL1]

theorem takeWhile_all {f : UInt8 → Bool} : ∀ {l : List UInt8}, (l.takeWhile f).length = l.length ↔ l.all f = true
  | [] => by simp
  | x :: l => by
    have ih := takeWhile_all (f := f) (l := l)
    rw [List.takeWhile_cons, List.all_cons]
    cases f x <;> simp [ih]

theorem strings_TrimPrefix_sgn (s : List UInt8) : r_strings_TrimPrefix [.s s, .s [45]] = .ret [.s (s.drop (sgn s))] := by
  rw [eq_strings_TrimPrefix]
  simp only [E_strings_TrimPrefix, List.getD_cons_zero, List.getD_cons_succ, DC.ss_s]
  rw [eq_internal_stringslite_TrimPrefix]
  simp only [E_internal_stringslite_TrimPrefix, List.getD_cons_zero, List.getD_cons_succ, DC.ss_s]
  have h : r_internal_stringslite_HasPrefix [.s s, .s [45]] = .ret [.b (decide (sgn s = 1))] := by
    rw [eq_internal_stringslite_HasPrefix]
    simp only [E_internal_stringslite_HasPrefix, List.getD_cons_zero, List.getD_cons_succ, DC.ss_s]
    cases s with
    | nil => simp [sgn]
    | cons a l =>
      by_cases h : a = 45
      · subst h
        have hl : (1 : Int) ≤ (l.length : Int) + 1 := by omega
        simp [sgn, hl]
      · have hl : (1 : Int) ≤ (l.length : Int) + 1 := by omega
        simp [sgn, h, hl]
  rw [h]
  unfold sgn
  cases s with
  | nil => simp
  | cons a l =>
    by_cases h : a = 45
    · subst h
      have hl : (1 : Int) ≤ (l.length : Int) + 1 := by omega
      simp [hl]
    · simp [h]

theorem intOk_eq (s : List UInt8) : intOk s = (decide (s.length ≤ 40) && (figs (s.drop (sgn s)) && (s.drop (sgn s) == [48] || !((s.drop (sgn s)).getD 0 0 == 48)))) := by
  unfold intOk
  congr 1
  have hle := sgn_le s
  have hlen : (s.drop (sgn s)).length = s.length - sgn s := List.length_drop
  have hg : s.getD (sgn s) 0 = (s.drop (sgn s)).getD 0 0 := by simp [List.getD_eq_getElem?_getD, List.getElem?_drop]
  have hall := takeWhile_all (f := isFig) (l := s.drop (sgn s))
  unfold intLen tw figs
  rw [hg]
  generalize s.drop (sgn s) = d at *
  have htl := (List.takeWhile_prefix isFig (l := d)).length_le
  generalize (d.takeWhile isFig).length = n at *
  rw [Bool.eq_iff_iff]
  simp only [Bool.and_eq_true, Bool.or_eq_true, decide_eq_true_eq, beq_iff_eq, Bool.not_eq_true', beq_eq_false_iff_ne, ne_eq]
  rw [← hall]
  cases d with
  | nil =>
    have : n = 0 := by simpa using htl
    subst this
    simp
    omega
  | cons a l =>
    simp only [List.length_cons] at hlen htl hall
    by_cases h0 : n = 0
    · simp [h0]; omega
    · by_cases h48 : a = 48
      · subst h48
        cases l with
        | nil =>
          have h1 : ¬ 1 < n := by simp at htl; omega
          simp only [List.length_cons, List.length_nil] at *
          simp [h0, h1]
          omega
        | cons b l =>
          simp only [List.length_cons] at *
          by_cases h1 : 1 < n
          · simp [h0, h1]
            omega
          · simp [h0, h1]
            omega
      · simp [h0, h48]; omega

theorem impl_IntOk (s : List UInt8) (hs : s.length ≤ 1048576) : r_impl_IntOk [.s s] = .ret [.b (intOk s)] := by
  rw [eq_impl_IntOk, intOk_eq]
  have hd : (s.drop (sgn s)).length ≤ 1048576 := by rw [List.length_drop]; omega
  simp only [E_impl_IntOk, List.getD_cons_zero, List.getD_cons_succ, DC.bb_b, DC.ii_i, DC.ss_s, strings_TrimPrefix_sgn, Out.bindR_ret, impl_figures _ hd]
  generalize s.drop (sgn s) = d
  by_cases h1 : s.length ≤ 40
  · have e1 : decide ((s.length : Int) ≤ 40) = true := decide_eq_true (by omega)
    cases hf : figs d with
    | false => simp [e1, h1, hf]
    | true =>
      cases d with
      | nil => simp [figs] at hf
      | cons a l =>
        have e3 : ((a.toNat : Int) != 48) = !(a == 48) := congrArg (!·) (u8_eq a 48 (by omega))
        have e4 : 0 ≤ (0 : Int) ∧ (0 : Int) < ((a :: l).length : Int) := by simp
        have e5 : (a :: l).getD (0 : Int).toNat 0 = a := rfl
        have e6 : (a :: l).getD 0 0 = a := rfl
        cases hb : ((a :: l) == [48]) <;> simp only [e1, h1, hf, e4, e5, e6, hb, e3, decide_true, if_true, if_false, Bool.false_eq_true, and_self, Out.andThen_norm, List.getD_cons_zero, DC.bb_b, Bool.true_and, Bool.true_or, Bool.false_or]
  · have e1 : decide ((s.length : Int) ≤ 40) = false := decide_eq_false (by omega)
    simp [e1, h1]
end Go.Proofs.YtgmfpgbgknlojaaGreatDoorV
