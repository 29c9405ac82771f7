/- What the functions do, and that they do (written by a program). -/
import Derived.Test.YtciandfkncadgaaG0
namespace Go.Proofs.YtciandfkncadgaaV
open Go
set_option linter.unusedVariables false
set_option maxRecDepth 100000
noncomputable def E_slices_Equal_impl_RootL1 : List DC → Out := fun v1 =>
    if (decide ((v1.getD 3 d0).ii < (v1.getD 2 d0).ii)) = true then
      Out.andThenB (if 76 = 76 ∧ 0 ≤ (v1.getD 3 d0).ii ∧ (v1.getD 3 d0).ii < (((v1.getD 0 d0).ll).length : Int) then
          if 76 = 76 ∧ 0 ≤ (v1.getD 3 d0).ii ∧ (v1.getD 3 d0).ii < (((v1.getD 1 d0).ll).length : Int) then
            if (!((((((v1.getD 0 d0).ll).getD ((v1.getD 3 d0).ii).toNat []).getD 0 d0).ii == ((((v1.getD 1 d0).ll).getD ((v1.getD 3 d0).ii).toNat []).getD 0 d0).ii) && ((((((v1.getD 0 d0).ll).getD ((v1.getD 3 d0).ii).toNat []).getD 1 d0).ss == ((((v1.getD 1 d0).ll).getD ((v1.getD 3 d0).ii).toNat []).getD 1 d0).ss) && true))) = true then
              .ret [DC.b false]
            else
              .norm [DC.sl ((v1.getD 0 d0).ll), DC.sl ((v1.getD 1 d0).ll), DC.i ((v1.getD 2 d0).ii), DC.i ((v1.getD 3 d0).ii)]
          else
            .fail
        else
          .fail) 1 fun v2 =>
      .norm [DC.sl ((v2.getD 0 d0).ll), DC.sl ((v2.getD 1 d0).ll), DC.i ((v2.getD 2 d0).ii), DC.i (IntKind.i64.wrap ((v2.getD 3 d0).ii + (1 : Int)))]
    else
      .ex 0 []
/-- slices.Equal[[]loop.example/g00964/impl.Root,loop.example/g00964/impl.Root] -/
noncomputable def E_slices_Equal_impl_Root (a : List DC) : Out :=
    if ((((a.getD 0 d0).ll).length : Int) != (((a.getD 1 d0).ll).length : Int)) = true then
      .ret [DC.b false]
    else
      Out.andThenB (Loop E_slices_Equal_impl_RootL1 [DC.sl ((a.getD 0 d0).ll), DC.sl ((a.getD 1 d0).ll), DC.i (((a.getD 0 d0).ll).length : Int), DC.i (0 : Int)]) 0 fun v3 =>
      .ret [DC.b true]
theorem eq_slices_Equal_impl_Root (a : List DC) : r_slices_Equal_impl_Root a = E_slices_Equal_impl_Root a := (Run_eq cfg 70 h_slices_Equal_impl_Root a).trans (by kernel_rfl)
/-- loop.example/g00964/laws.szValue -/
noncomputable def E_laws_szValue (a : List DC) : Out :=
    if (decide ((IntKind.i64.wrap ((a.getD 4 d0).ii - (((a.getD 1 d0).ss).length : Int))) < (0 : Int))) = true then
      .ret [DC.i (-1 : Int)]
    else
      (r_laws_szValueS [DC.sl ((a.getD 2 d0).ll), DC.i (IntKind.i64.wrap ((a.getD 4 d0).ii - (((a.getD 1 d0).ss).length : Int)))]).bindR fun r1 =>
      if (decide ((r1.getD 0 d0).ii < (0 : Int))) = true then
        .ret [DC.i (-1 : Int)]
      else
        (r_laws_szStringS [DC.sl ((a.getD 3 d0).ll), DC.i ((r1.getD 0 d0).ii)]).bindR fun r2 =>
        if (decide ((r2.getD 0 d0).ii < (0 : Int))) = true then
          .ret [DC.i (-1 : Int)]
        else
          .ret [DC.i ((r2.getD 0 d0).ii)]
theorem eq_laws_szValue (a : List DC) : r_laws_szValue a = E_laws_szValue a := (Run_eq cfg 75 h_laws_szValue a).trans (by kernel_rfl)
noncomputable def E_laws_szDirSL1 : List DC → Out := fun v1 =>
    if (decide ((v1.getD 2 d0).ii < (((v1.getD 0 d0).ll).length : Int))) = true then
      Out.andThenB (if 136 = 136 ∧ 0 ≤ (v1.getD 2 d0).ii ∧ (v1.getD 2 d0).ii < (((v1.getD 0 d0).ll).length : Int) then
          (r_laws_szDir [DC.s (((((v1.getD 0 d0).ll).getD ((v1.getD 2 d0).ii).toNat []).getD 0 d0).ss), DC.sl (((((v1.getD 0 d0).ll).getD ((v1.getD 2 d0).ii).toNat []).getD 1 d0).ll), DC.i ((v1.getD 1 d0).ii)]).bindR fun r2 =>
          if (decide ((r2.getD 0 d0).ii < (0 : Int))) = true then
            .ret [DC.i (-1 : Int)]
          else
            .norm [DC.sl ((v1.getD 0 d0).ll), DC.i ((r2.getD 0 d0).ii), DC.i ((v1.getD 2 d0).ii)]
        else
          .fail) 1 fun v3 =>
      .norm [DC.sl ((v3.getD 0 d0).ll), DC.i ((v3.getD 1 d0).ii), DC.i (IntKind.i64.wrap ((v3.getD 2 d0).ii + (1 : Int)))]
    else
      .ex 0 [DC.i ((v1.getD 1 d0).ii)]
/-- loop.example/g00964/laws.szDirS -/
noncomputable def E_laws_szDirS (a : List DC) : Out :=
    if (decide ((IntKind.i64.wrap ((a.getD 1 d0).ii - (((a.getD 0 d0).ll).length : Int))) < (0 : Int))) = true then
      .ret [DC.i (-1 : Int)]
    else
      Out.andThenB (Loop E_laws_szDirSL1 [DC.sl ((a.getD 0 d0).ll), DC.i (IntKind.i64.wrap ((a.getD 1 d0).ii - (((a.getD 0 d0).ll).length : Int))), DC.i (0 : Int)]) 0 fun v4 =>
      .ret [DC.i ((v4.getD 0 d0).ii)]
theorem eq_laws_szDirS (a : List DC) : r_laws_szDirS a = E_laws_szDirS a := (Run_eq cfg 76 h_laws_szDirS a).trans (by kernel_rfl)
/-- loop.example/g00964/laws.toValue -/
noncomputable def E_laws_toValue (a : List DC) : Out :=
    (r_laws_toValueS [DC.sl ((a.getD 2 d0).ll)]).bindR fun r1 =>
    (r_laws_toStringS [DC.sl ((a.getD 3 d0).ll)]).bindR fun r2 =>
    .ret [DC.i ((a.getD 0 d0).ii), DC.s ((a.getD 1 d0).ss), DC.sl ((r1.getD 0 d0).ll), DC.sl ((r2.getD 0 d0).ll)]
theorem eq_laws_toValue (a : List DC) : r_laws_toValue a = E_laws_toValue a := (Run_eq cfg 77 h_laws_toValue a).trans (by kernel_rfl)
noncomputable def E_laws_toDirSL1 : List DC → Out := fun v1 =>
    if (decide ((v1.getD 2 d0).ii < (((v1.getD 0 d0).ll).length : Int))) = true then
      Out.andThenB (if 136 = 136 ∧ 0 ≤ (v1.getD 2 d0).ii ∧ (v1.getD 2 d0).ii < (((v1.getD 0 d0).ll).length : Int) then
          (r_laws_toDir [DC.s (((((v1.getD 0 d0).ll).getD ((v1.getD 2 d0).ii).toNat []).getD 0 d0).ss), DC.sl (((((v1.getD 0 d0).ll).getD ((v1.getD 2 d0).ii).toNat []).getD 1 d0).ll)]).bindR fun r2 =>
          if 140 = 140 ∧ 0 ≤ (v1.getD 2 d0).ii ∧ (v1.getD 2 d0).ii < (((v1.getD 1 d0).ll).length : Int) then
            .norm [DC.sl ((v1.getD 0 d0).ll), DC.sl (((v1.getD 1 d0).ll).set (((v1.getD 2 d0).ii).toNat) (setRunD (((v1.getD 1 d0).ll).getD (((v1.getD 2 d0).ii).toNat) []) 0 [DC.s ((r2.getD 0 d0).ss), DC.sl ((r2.getD 1 d0).ll)])), DC.i ((v1.getD 2 d0).ii)]
          else
            .fail
        else
          .fail) 1 fun v3 =>
      .norm [DC.sl ((v3.getD 0 d0).ll), DC.sl ((v3.getD 1 d0).ll), DC.i (IntKind.i64.wrap ((v3.getD 2 d0).ii + (1 : Int)))]
    else
      .ex 0 [DC.sl ((v1.getD 1 d0).ll)]
/-- loop.example/g00964/laws.toDirS -/
noncomputable def E_laws_toDirS (a : List DC) : Out :=
    if 0 ≤ (((a.getD 0 d0).ll).length : Int) ∧ (((a.getD 0 d0).ll).length : Int) < (LIM : Int) ∧ (((a.getD 0 d0).ll).length : Int) = (((a.getD 0 d0).ll).length : Int) ∧ 40 ≤ 1024 ∧ 0 < 2 then
      Out.andThenB (Loop E_laws_toDirSL1 [DC.sl ((a.getD 0 d0).ll), DC.sl (List.replicate (((a.getD 0 d0).ll).length : Int).toNat [DC.s [], DC.sl []]), DC.i (0 : Int)]) 0 fun v4 =>
      .ret [DC.sl ((v4.getD 0 d0).ll)]
    else
      .fail
theorem eq_laws_toDirS (a : List DC) : r_laws_toDirS a = E_laws_toDirS a := (Run_eq cfg 78 h_laws_toDirS a).trans (by kernel_rfl)
/-- loop.example/g00964/impl.InAt$1 -/
noncomputable def E_impl_InAt_1 (a : List DC) : Out :=
    .ret [DC.b ((a.getD 0 d0).ss == (a.getD 10 d0).ss), DC.s ((a.getD 10 d0).ss)]
theorem eq_impl_InAt_1 (a : List DC) : r_impl_InAt_1 a = E_impl_InAt_1 a := (Run_eq cfg 50 h_impl_InAt_1 a).trans (by kernel_rfl)
/-- loop.example/g00964/laws.eqType -/
noncomputable def E_laws_eqType (a : List DC) : Out :=
    if (!((a.getD 0 d0).ss == (a.getD 2 d0).ss)) = true then
      .ret [DC.b false]
    else
      if (!((a.getD 1 d0).ss == (a.getD 3 d0).ss)) = true then
        .ret [DC.b false]
      else
        .ret [DC.b true]
theorem eq_laws_eqType (a : List DC) : r_laws_eqType a = E_laws_eqType a := (Run_eq cfg 79 h_laws_eqType a).trans (by kernel_rfl)
/-- loop.example/g00964/laws.eqValue -/
noncomputable def E_laws_eqValue (a : List DC) : Out :=
    if ((a.getD 0 d0).ii != (a.getD 4 d0).ii) = true then
      .ret [DC.b false]
    else
      if (!((a.getD 1 d0).ss == (a.getD 5 d0).ss)) = true then
        .ret [DC.b false]
      else
        (r_laws_eqValueS [DC.sl ((a.getD 2 d0).ll), DC.sl ((a.getD 6 d0).ll)]).bindR fun r1 =>
        if (!((r1.getD 0 d0).bb)) = true then
          .ret [DC.b false]
        else
          (r_laws_eqStringS [DC.sl ((a.getD 3 d0).ll), DC.sl ((a.getD 7 d0).ll)]).bindR fun r2 =>
          if (!((r2.getD 0 d0).bb)) = true then
            .ret [DC.b false]
          else
            .ret [DC.b true]
theorem eq_laws_eqValue (a : List DC) : r_laws_eqValue a = E_laws_eqValue a := (Run_eq cfg 80 h_laws_eqValue a).trans (by kernel_rfl)
noncomputable def E_laws_eqDirSL1 : List DC → Out := fun v1 =>
    if (decide ((v1.getD 2 d0).ii < (((v1.getD 0 d0).ll).length : Int))) = true then
      Out.andThenB (if 140 = 140 ∧ 0 ≤ (v1.getD 2 d0).ii ∧ (v1.getD 2 d0).ii < (((v1.getD 0 d0).ll).length : Int) then
          if 140 = 140 ∧ 0 ≤ (v1.getD 2 d0).ii ∧ (v1.getD 2 d0).ii < (((v1.getD 1 d0).ll).length : Int) then
            (r_laws_eqDir [DC.s (((((v1.getD 0 d0).ll).getD ((v1.getD 2 d0).ii).toNat []).getD 0 d0).ss), DC.sl (((((v1.getD 0 d0).ll).getD ((v1.getD 2 d0).ii).toNat []).getD 1 d0).ll), DC.s (((((v1.getD 1 d0).ll).getD ((v1.getD 2 d0).ii).toNat []).getD 0 d0).ss), DC.sl (((((v1.getD 1 d0).ll).getD ((v1.getD 2 d0).ii).toNat []).getD 1 d0).ll)]).bindR fun r2 =>
            if (!((r2.getD 0 d0).bb)) = true then
              .ret [DC.b false]
            else
              .norm [DC.sl ((v1.getD 0 d0).ll), DC.sl ((v1.getD 1 d0).ll), DC.i ((v1.getD 2 d0).ii)]
          else
            .fail
        else
          .fail) 1 fun v3 =>
      .norm [DC.sl ((v3.getD 0 d0).ll), DC.sl ((v3.getD 1 d0).ll), DC.i (IntKind.i64.wrap ((v3.getD 2 d0).ii + (1 : Int)))]
    else
      .ex 0 []
/-- loop.example/g00964/laws.eqDirS -/
noncomputable def E_laws_eqDirS (a : List DC) : Out :=
    if ((((a.getD 0 d0).ll).length : Int) != (((a.getD 1 d0).ll).length : Int)) = true then
      .ret [DC.b false]
    else
      Out.andThenB (Loop E_laws_eqDirSL1 [DC.sl ((a.getD 0 d0).ll), DC.sl ((a.getD 1 d0).ll), DC.i (0 : Int)]) 0 fun v4 =>
      .ret [DC.b true]
theorem eq_laws_eqDirS (a : List DC) : r_laws_eqDirS a = E_laws_eqDirS a := (Run_eq cfg 81 h_laws_eqDirS a).trans (by kernel_rfl)
/-- loop.example/g00964/laws.szDef -/
noncomputable def E_laws_szDef (a : List DC) : Out :=
    if (decide ((IntKind.i64.wrap ((a.getD 11 d0).ii - (((a.getD 2 d0).ss).length : Int))) < (0 : Int))) = true then
      .ret [DC.i (-1 : Int)]
    else
      if (decide ((IntKind.i64.wrap ((IntKind.i64.wrap ((a.getD 11 d0).ii - (((a.getD 2 d0).ss).length : Int))) - (((a.getD 3 d0).ss).length : Int))) < (0 : Int))) = true then
        .ret [DC.i (-1 : Int)]
      else
        (r_laws_szStringS [DC.sl ((a.getD 4 d0).ll), DC.i (IntKind.i64.wrap ((IntKind.i64.wrap ((a.getD 11 d0).ii - (((a.getD 2 d0).ss).length : Int))) - (((a.getD 3 d0).ss).length : Int)))]).bindR fun r1 =>
        if (decide ((r1.getD 0 d0).ii < (0 : Int))) = true then
          .ret [DC.i (-1 : Int)]
        else
          (r_laws_szFieldDefS [DC.sl ((a.getD 5 d0).ll), DC.i ((r1.getD 0 d0).ii)]).bindR fun r2 =>
          if (decide ((r2.getD 0 d0).ii < (0 : Int))) = true then
            .ret [DC.i (-1 : Int)]
          else
            (r_laws_szInDefS [DC.sl ((a.getD 6 d0).ll), DC.i ((r2.getD 0 d0).ii)]).bindR fun r3 =>
            if (decide ((r3.getD 0 d0).ii < (0 : Int))) = true then
              .ret [DC.i (-1 : Int)]
            else
              (r_laws_szEnumDefS [DC.sl ((a.getD 7 d0).ll), DC.i ((r3.getD 0 d0).ii)]).bindR fun r4 =>
              if (decide ((r4.getD 0 d0).ii < (0 : Int))) = true then
                .ret [DC.i (-1 : Int)]
              else
                (r_laws_szRootS [DC.sl ((a.getD 8 d0).ll), DC.i ((r4.getD 0 d0).ii)]).bindR fun r5 =>
                if (decide ((r5.getD 0 d0).ii < (0 : Int))) = true then
                  .ret [DC.i (-1 : Int)]
                else
                  (r_laws_szDirS [DC.sl ((a.getD 10 d0).ll), DC.i ((r5.getD 0 d0).ii)]).bindR fun r6 =>
                  if (decide ((r6.getD 0 d0).ii < (0 : Int))) = true then
                    .ret [DC.i (-1 : Int)]
                  else
                    .ret [DC.i ((r6.getD 0 d0).ii)]
theorem eq_laws_szDef (a : List DC) : r_laws_szDef a = E_laws_szDef a := (Run_eq cfg 82 h_laws_szDef a).trans (by kernel_rfl)
/-- loop.example/g00964/laws.szRoot -/
noncomputable def E_laws_szRoot (a : List DC) : Out :=
    if (decide ((IntKind.i64.wrap ((a.getD 2 d0).ii - (((a.getD 1 d0).ss).length : Int))) < (0 : Int))) = true then
      .ret [DC.i (-1 : Int)]
    else
      .ret [DC.i (IntKind.i64.wrap ((a.getD 2 d0).ii - (((a.getD 1 d0).ss).length : Int)))]
theorem eq_laws_szRoot (a : List DC) : r_laws_szRoot a = E_laws_szRoot a := (Run_eq cfg 83 h_laws_szRoot a).trans (by kernel_rfl)
/-- loop.example/g00964/laws.toDef -/
noncomputable def E_laws_toDef (a : List DC) : Out :=
    (r_laws_toStringS [DC.sl ((a.getD 4 d0).ll)]).bindR fun r1 =>
    (r_laws_toFieldDefS [DC.sl ((a.getD 5 d0).ll)]).bindR fun r2 =>
    (r_laws_toInDefS [DC.sl ((a.getD 6 d0).ll)]).bindR fun r3 =>
    (r_laws_toEnumDefS [DC.sl ((a.getD 7 d0).ll)]).bindR fun r4 =>
    (r_laws_toRootS [DC.sl ((a.getD 8 d0).ll)]).bindR fun r5 =>
    (r_laws_toDirS [DC.sl ((a.getD 10 d0).ll)]).bindR fun r6 =>
    .ret [DC.i ((a.getD 0 d0).ii), DC.b ((a.getD 1 d0).bb), DC.s ((a.getD 2 d0).ss), DC.s ((a.getD 3 d0).ss), DC.sl ((r1.getD 0 d0).ll), DC.sl ((r2.getD 0 d0).ll), DC.sl ((r3.getD 0 d0).ll), DC.sl ((r4.getD 0 d0).ll), DC.sl ((r5.getD 0 d0).ll), DC.b ((a.getD 9 d0).bb), DC.sl ((r6.getD 0 d0).ll)]
theorem eq_laws_toDef (a : List DC) : r_laws_toDef a = E_laws_toDef a := (Run_eq cfg 84 h_laws_toDef a).trans (by kernel_rfl)
/-- loop.example/g00964/laws.toRoot -/
noncomputable def E_laws_toRoot (a : List DC) : Out :=
    .ret [DC.i ((a.getD 0 d0).ii), DC.s ((a.getD 1 d0).ss)]
theorem eq_laws_toRoot (a : List DC) : r_laws_toRoot a = E_laws_toRoot a := (Run_eq cfg 85 h_laws_toRoot a).trans (by kernel_rfl)
/-- loop.example/g00964/laws.eqDef -/
noncomputable def E_laws_eqDef (a : List DC) : Out :=
    if ((a.getD 0 d0).ii != (a.getD 11 d0).ii) = true then
      .ret [DC.b false]
    else
      if (!((a.getD 1 d0).bb == (a.getD 12 d0).bb)) = true then
        .ret [DC.b false]
      else
        if (!((a.getD 2 d0).ss == (a.getD 13 d0).ss)) = true then
          .ret [DC.b false]
        else
          if (!((a.getD 3 d0).ss == (a.getD 14 d0).ss)) = true then
            .ret [DC.b false]
          else
            (r_laws_eqStringS [DC.sl ((a.getD 4 d0).ll), DC.sl ((a.getD 15 d0).ll)]).bindR fun r1 =>
            if (!((r1.getD 0 d0).bb)) = true then
              .ret [DC.b false]
            else
              (r_laws_eqFieldDefS [DC.sl ((a.getD 5 d0).ll), DC.sl ((a.getD 16 d0).ll)]).bindR fun r2 =>
              if (!((r2.getD 0 d0).bb)) = true then
                .ret [DC.b false]
              else
                (r_laws_eqInDefS [DC.sl ((a.getD 6 d0).ll), DC.sl ((a.getD 17 d0).ll)]).bindR fun r3 =>
                if (!((r3.getD 0 d0).bb)) = true then
                  .ret [DC.b false]
                else
                  (r_laws_eqEnumDefS [DC.sl ((a.getD 7 d0).ll), DC.sl ((a.getD 18 d0).ll)]).bindR fun r4 =>
                  if (!((r4.getD 0 d0).bb)) = true then
                    .ret [DC.b false]
                  else
                    (r_laws_eqRootS [DC.sl ((a.getD 8 d0).ll), DC.sl ((a.getD 19 d0).ll)]).bindR fun r5 =>
                    if (!((r5.getD 0 d0).bb)) = true then
                      .ret [DC.b false]
                    else
                      if (!((a.getD 9 d0).bb == (a.getD 20 d0).bb)) = true then
                        .ret [DC.b false]
                      else
                        (r_laws_eqDirS [DC.sl ((a.getD 10 d0).ll), DC.sl ((a.getD 21 d0).ll)]).bindR fun r6 =>
                        if (!((r6.getD 0 d0).bb)) = true then
                          .ret [DC.b false]
                        else
                          .ret [DC.b true]
theorem eq_laws_eqDef (a : List DC) : r_laws_eqDef a = E_laws_eqDef a := (Run_eq cfg 86 h_laws_eqDef a).trans (by kernel_rfl)
/-- loop.example/g00964/laws.eqRoot -/
noncomputable def E_laws_eqRoot (a : List DC) : Out :=
    if ((a.getD 0 d0).ii != (a.getD 2 d0).ii) = true then
      .ret [DC.b false]
    else
      if (!((a.getD 1 d0).ss == (a.getD 3 d0).ss)) = true then
        .ret [DC.b false]
      else
        .ret [DC.b true]
theorem eq_laws_eqRoot (a : List DC) : r_laws_eqRoot a = E_laws_eqRoot a := (Run_eq cfg 87 h_laws_eqRoot a).trans (by kernel_rfl)
noncomputable def E_slices_IndexFunc_impl_Def__impl_named_1L1 : List DC → Out := fun v1 =>
    if (decide ((v1.getD 2 d0).ii < (v1.getD 1 d0).ii)) = true then
      Out.andThenB (if 84 = 84 ∧ 0 ≤ (v1.getD 2 d0).ii ∧ (v1.getD 2 d0).ii < (((v1.getD 0 d0).ll).length : Int) then
          (r_impl_named_1 [DC.i (((((v1.getD 0 d0).ll).getD ((v1.getD 2 d0).ii).toNat []).getD 0 d0).ii), DC.b (((((v1.getD 0 d0).ll).getD ((v1.getD 2 d0).ii).toNat []).getD 1 d0).bb), DC.s (((((v1.getD 0 d0).ll).getD ((v1.getD 2 d0).ii).toNat []).getD 2 d0).ss), DC.s (((((v1.getD 0 d0).ll).getD ((v1.getD 2 d0).ii).toNat []).getD 3 d0).ss), DC.sl (((((v1.getD 0 d0).ll).getD ((v1.getD 2 d0).ii).toNat []).getD 4 d0).ll), DC.sl (((((v1.getD 0 d0).ll).getD ((v1.getD 2 d0).ii).toNat []).getD 5 d0).ll), DC.sl (((((v1.getD 0 d0).ll).getD ((v1.getD 2 d0).ii).toNat []).getD 6 d0).ll), DC.sl (((((v1.getD 0 d0).ll).getD ((v1.getD 2 d0).ii).toNat []).getD 7 d0).ll), DC.sl (((((v1.getD 0 d0).ll).getD ((v1.getD 2 d0).ii).toNat []).getD 8 d0).ll), DC.b (((((v1.getD 0 d0).ll).getD ((v1.getD 2 d0).ii).toNat []).getD 9 d0).bb), DC.sl (((((v1.getD 0 d0).ll).getD ((v1.getD 2 d0).ii).toNat []).getD 10 d0).ll), DC.s ((v1.getD 3 d0).ss)]).bindR fun r2 =>
          if (r2.getD 0 d0).bb = true then
            .ret [DC.i ((v1.getD 2 d0).ii), DC.s ((r2.getD 1 d0).ss)]
          else
            .norm [DC.sl ((v1.getD 0 d0).ll), DC.i ((v1.getD 1 d0).ii), DC.i ((v1.getD 2 d0).ii), DC.s ((r2.getD 1 d0).ss)]
        else
          .fail) 1 fun v3 =>
      .norm [DC.sl ((v3.getD 0 d0).ll), DC.i ((v3.getD 1 d0).ii), DC.i (IntKind.i64.wrap ((v3.getD 2 d0).ii + (1 : Int))), DC.s ((v3.getD 3 d0).ss)]
    else
      .ex 0 [DC.s ((v1.getD 3 d0).ss)]
/-- slices.IndexFunc[[]loop.example/g00964/impl.Def,loop.example/g00964/impl.Def] -/
noncomputable def E_slices_IndexFunc_impl_Def__impl_named_1 (a : List DC) : Out :=
    Out.andThenB (Loop E_slices_IndexFunc_impl_Def__impl_named_1L1 [DC.sl ((a.getD 0 d0).ll), DC.i (((a.getD 0 d0).ll).length : Int), DC.i (0 : Int), DC.s ((a.getD 1 d0).ss)]) 0 fun v4 =>
    .ret [DC.i (-1 : Int), DC.s ((v4.getD 0 d0).ss)]
theorem eq_slices_IndexFunc_impl_Def__impl_named_1 (a : List DC) : r_slices_IndexFunc_impl_Def__impl_named_1 a = E_slices_IndexFunc_impl_Def__impl_named_1 a := (Run_eq cfg 88 h_slices_IndexFunc_impl_Def__impl_named_1 a).trans (by kernel_rfl)
noncomputable def E_slices_Index_stringL1 : List DC → Out := fun v1 =>
    if (decide ((v1.getD 3 d0).ii < (v1.getD 2 d0).ii)) = true then
      Out.andThenB (if 9 = 9 ∧ 0 ≤ (v1.getD 3 d0).ii ∧ (v1.getD 3 d0).ii < (((v1.getD 0 d0).ll).length : Int) then
          if ((v1.getD 1 d0).ss == ((((v1.getD 0 d0).ll).getD ((v1.getD 3 d0).ii).toNat []).getD 0 d0).ss) = true then
            .ret [DC.i ((v1.getD 3 d0).ii)]
          else
            .norm [DC.sl ((v1.getD 0 d0).ll), DC.s ((v1.getD 1 d0).ss), DC.i ((v1.getD 2 d0).ii), DC.i ((v1.getD 3 d0).ii)]
        else
          .fail) 1 fun v2 =>
      .norm [DC.sl ((v2.getD 0 d0).ll), DC.s ((v2.getD 1 d0).ss), DC.i ((v2.getD 2 d0).ii), DC.i (IntKind.i64.wrap ((v2.getD 3 d0).ii + (1 : Int)))]
    else
      .ex 0 []
/-- slices.Index[[]string,string] -/
noncomputable def E_slices_Index_string (a : List DC) : Out :=
    Out.andThenB (Loop E_slices_Index_stringL1 [DC.sl ((a.getD 0 d0).ll), DC.s ((a.getD 1 d0).ss), DC.i (((a.getD 0 d0).ll).length : Int), DC.i (0 : Int)]) 0 fun v3 =>
    .ret [DC.i (-1 : Int)]
theorem eq_slices_Index_string (a : List DC) : r_slices_Index_string a = E_slices_Index_string a := (Run_eq cfg 90 h_slices_Index_string a).trans (by kernel_rfl)
/-- strings.CutSuffix -/
noncomputable def E_strings_CutSuffix (a : List DC) : Out :=
    (r_internal_stringslite_CutSuffix [DC.s ((a.getD 0 d0).ss), DC.s ((a.getD 1 d0).ss)]).bindR fun r1 =>
    .ret [DC.s ((r1.getD 0 d0).ss), DC.b ((r1.getD 1 d0).bb)]
theorem eq_strings_CutSuffix (a : List DC) : r_strings_CutSuffix a = E_strings_CutSuffix a := (Run_eq cfg 91 h_strings_CutSuffix a).trans (by kernel_rfl)
noncomputable def E_spec_l14SameDefL1 : List DC → Out := fun v4 =>
    if (decide ((v4.getD 0 d0).ii < (((v4.getD 5 d0).ll).length : Int))) = true then
      Out.andThenB (if 9 = 9 ∧ 0 ≤ (v4.getD 0 d0).ii ∧ (v4.getD 0 d0).ii < (((v4.getD 5 d0).ll).length : Int) then
          if 9 = 9 ∧ 0 ≤ (v4.getD 0 d0).ii ∧ (v4.getD 0 d0).ii < (((v4.getD 16 d0).ll).length : Int) then
            if (!(((((v4.getD 5 d0).ll).getD ((v4.getD 0 d0).ii).toNat []).getD 0 d0).ss == ((((v4.getD 16 d0).ll).getD ((v4.getD 0 d0).ii).toNat []).getD 0 d0).ss)) = true then
              .ret [DC.b false]
            else
              .norm [DC.i ((v4.getD 0 d0).ii), DC.i ((v4.getD 1 d0).ii), DC.b ((v4.getD 2 d0).bb), DC.s ((v4.getD 3 d0).ss), DC.s ((v4.getD 4 d0).ss), DC.sl ((v4.getD 5 d0).ll), DC.sl ((v4.getD 6 d0).ll), DC.sl ((v4.getD 7 d0).ll), DC.sl ((v4.getD 8 d0).ll), DC.sl ((v4.getD 9 d0).ll), DC.b ((v4.getD 10 d0).bb), DC.sl ((v4.getD 11 d0).ll), DC.i ((v4.getD 12 d0).ii), DC.b ((v4.getD 13 d0).bb), DC.s ((v4.getD 14 d0).ss), DC.s ((v4.getD 15 d0).ss), DC.sl ((v4.getD 16 d0).ll), DC.sl ((v4.getD 17 d0).ll), DC.sl ((v4.getD 18 d0).ll), DC.sl ((v4.getD 19 d0).ll), DC.sl ((v4.getD 20 d0).ll), DC.b ((v4.getD 21 d0).bb), DC.sl ((v4.getD 22 d0).ll)]
          else
            .fail
        else
          .fail) 1 fun v5 =>
      .norm [DC.i (IntKind.i64.wrap ((v5.getD 0 d0).ii + (1 : Int))), DC.i ((v5.getD 1 d0).ii), DC.b ((v5.getD 2 d0).bb), DC.s ((v5.getD 3 d0).ss), DC.s ((v5.getD 4 d0).ss), DC.sl ((v5.getD 5 d0).ll), DC.sl ((v5.getD 6 d0).ll), DC.sl ((v5.getD 7 d0).ll), DC.sl ((v5.getD 8 d0).ll), DC.sl ((v5.getD 9 d0).ll), DC.b ((v5.getD 10 d0).bb), DC.sl ((v5.getD 11 d0).ll), DC.i ((v5.getD 12 d0).ii), DC.b ((v5.getD 13 d0).bb), DC.s ((v5.getD 14 d0).ss), DC.s ((v5.getD 15 d0).ss), DC.sl ((v5.getD 16 d0).ll), DC.sl ((v5.getD 17 d0).ll), DC.sl ((v5.getD 18 d0).ll), DC.sl ((v5.getD 19 d0).ll), DC.sl ((v5.getD 20 d0).ll), DC.b ((v5.getD 21 d0).bb), DC.sl ((v5.getD 22 d0).ll)]
    else
      .ex 0 [DC.i ((v4.getD 1 d0).ii), DC.b ((v4.getD 2 d0).bb), DC.s ((v4.getD 3 d0).ss), DC.s ((v4.getD 4 d0).ss), DC.sl ((v4.getD 5 d0).ll), DC.sl ((v4.getD 6 d0).ll), DC.sl ((v4.getD 7 d0).ll), DC.sl ((v4.getD 8 d0).ll), DC.sl ((v4.getD 9 d0).ll), DC.b ((v4.getD 10 d0).bb), DC.sl ((v4.getD 11 d0).ll), DC.i ((v4.getD 12 d0).ii), DC.b ((v4.getD 13 d0).bb), DC.s ((v4.getD 14 d0).ss), DC.s ((v4.getD 15 d0).ss), DC.sl ((v4.getD 16 d0).ll), DC.sl ((v4.getD 17 d0).ll), DC.sl ((v4.getD 18 d0).ll), DC.sl ((v4.getD 19 d0).ll), DC.sl ((v4.getD 20 d0).ll), DC.b ((v4.getD 21 d0).bb), DC.sl ((v4.getD 22 d0).ll)]
noncomputable def E_spec_l14SameDefL2 : List DC → Out := fun v7 =>
    if (decide ((v7.getD 0 d0).ii < (((v7.getD 6 d0).ll).length : Int))) = true then
      Out.andThenB (if 121 = 121 ∧ 0 ≤ (v7.getD 0 d0).ii ∧ (v7.getD 0 d0).ii < (((v7.getD 6 d0).ll).length : Int) then
          if 121 = 121 ∧ 0 ≤ (v7.getD 0 d0).ii ∧ (v7.getD 0 d0).ii < (((v7.getD 17 d0).ll).length : Int) then
            Out.andThen (if (!(((((v7.getD 6 d0).ll).getD ((v7.getD 0 d0).ii).toNat []).getD 0 d0).ss == ((((v7.getD 17 d0).ll).getD ((v7.getD 0 d0).ii).toNat []).getD 0 d0).ss)) = true then
                .norm [DC.i ((v7.getD 0 d0).ii), DC.b true, DC.i ((v7.getD 1 d0).ii), DC.b ((v7.getD 2 d0).bb), DC.s ((v7.getD 3 d0).ss), DC.s ((v7.getD 4 d0).ss), DC.sl ((v7.getD 5 d0).ll), DC.sl ((v7.getD 6 d0).ll), DC.sl ((v7.getD 7 d0).ll), DC.sl ((v7.getD 8 d0).ll), DC.sl ((v7.getD 9 d0).ll), DC.b ((v7.getD 10 d0).bb), DC.sl ((v7.getD 11 d0).ll), DC.i ((v7.getD 12 d0).ii), DC.b ((v7.getD 13 d0).bb), DC.s ((v7.getD 14 d0).ss), DC.s ((v7.getD 15 d0).ss), DC.sl ((v7.getD 16 d0).ll), DC.sl ((v7.getD 17 d0).ll), DC.sl ((v7.getD 18 d0).ll), DC.sl ((v7.getD 19 d0).ll), DC.sl ((v7.getD 20 d0).ll), DC.b ((v7.getD 21 d0).bb), DC.sl ((v7.getD 22 d0).ll)]
              else
                if (!(((((v7.getD 6 d0).ll).getD ((v7.getD 0 d0).ii).toNat []).getD 1 d0).ss == ((((v7.getD 17 d0).ll).getD ((v7.getD 0 d0).ii).toNat []).getD 1 d0).ss)) = true then
                  .norm [DC.i ((v7.getD 0 d0).ii), DC.b true, DC.i ((v7.getD 1 d0).ii), DC.b ((v7.getD 2 d0).bb), DC.s ((v7.getD 3 d0).ss), DC.s ((v7.getD 4 d0).ss), DC.sl ((v7.getD 5 d0).ll), DC.sl ((v7.getD 6 d0).ll), DC.sl ((v7.getD 7 d0).ll), DC.sl ((v7.getD 8 d0).ll), DC.sl ((v7.getD 9 d0).ll), DC.b ((v7.getD 10 d0).bb), DC.sl ((v7.getD 11 d0).ll), DC.i ((v7.getD 12 d0).ii), DC.b ((v7.getD 13 d0).bb), DC.s ((v7.getD 14 d0).ss), DC.s ((v7.getD 15 d0).ss), DC.sl ((v7.getD 16 d0).ll), DC.sl ((v7.getD 17 d0).ll), DC.sl ((v7.getD 18 d0).ll), DC.sl ((v7.getD 19 d0).ll), DC.sl ((v7.getD 20 d0).ll), DC.b ((v7.getD 21 d0).bb), DC.sl ((v7.getD 22 d0).ll)]
                else
                  if (!((((((v7.getD 6 d0).ll).getD ((v7.getD 0 d0).ii).toNat []).getD 3 d0).ss == ((((v7.getD 17 d0).ll).getD ((v7.getD 0 d0).ii).toNat []).getD 3 d0).ss) && ((((((v7.getD 6 d0).ll).getD ((v7.getD 0 d0).ii).toNat []).getD 4 d0).ss == ((((v7.getD 17 d0).ll).getD ((v7.getD 0 d0).ii).toNat []).getD 4 d0).ss) && true))) = true then
                    .norm [DC.i ((v7.getD 0 d0).ii), DC.b true, DC.i ((v7.getD 1 d0).ii), DC.b ((v7.getD 2 d0).bb), DC.s ((v7.getD 3 d0).ss), DC.s ((v7.getD 4 d0).ss), DC.sl ((v7.getD 5 d0).ll), DC.sl ((v7.getD 6 d0).ll), DC.sl ((v7.getD 7 d0).ll), DC.sl ((v7.getD 8 d0).ll), DC.sl ((v7.getD 9 d0).ll), DC.b ((v7.getD 10 d0).bb), DC.sl ((v7.getD 11 d0).ll), DC.i ((v7.getD 12 d0).ii), DC.b ((v7.getD 13 d0).bb), DC.s ((v7.getD 14 d0).ss), DC.s ((v7.getD 15 d0).ss), DC.sl ((v7.getD 16 d0).ll), DC.sl ((v7.getD 17 d0).ll), DC.sl ((v7.getD 18 d0).ll), DC.sl ((v7.getD 19 d0).ll), DC.sl ((v7.getD 20 d0).ll), DC.b ((v7.getD 21 d0).bb), DC.sl ((v7.getD 22 d0).ll)]
                  else
                    (r_spec_l14SameIn [DC.sl (((((v7.getD 6 d0).ll).getD ((v7.getD 0 d0).ii).toNat []).getD 2 d0).ll), DC.sl (((((v7.getD 17 d0).ll).getD ((v7.getD 0 d0).ii).toNat []).getD 2 d0).ll)]).bindR fun r8 =>
                    if (!((r8.getD 0 d0).bb)) = true then
                      .norm [DC.i ((v7.getD 0 d0).ii), DC.b true, DC.i ((v7.getD 1 d0).ii), DC.b ((v7.getD 2 d0).bb), DC.s ((v7.getD 3 d0).ss), DC.s ((v7.getD 4 d0).ss), DC.sl ((v7.getD 5 d0).ll), DC.sl ((v7.getD 6 d0).ll), DC.sl ((v7.getD 7 d0).ll), DC.sl ((v7.getD 8 d0).ll), DC.sl ((v7.getD 9 d0).ll), DC.b ((v7.getD 10 d0).bb), DC.sl ((v7.getD 11 d0).ll), DC.i ((v7.getD 12 d0).ii), DC.b ((v7.getD 13 d0).bb), DC.s ((v7.getD 14 d0).ss), DC.s ((v7.getD 15 d0).ss), DC.sl ((v7.getD 16 d0).ll), DC.sl ((v7.getD 17 d0).ll), DC.sl ((v7.getD 18 d0).ll), DC.sl ((v7.getD 19 d0).ll), DC.sl ((v7.getD 20 d0).ll), DC.b ((v7.getD 21 d0).bb), DC.sl ((v7.getD 22 d0).ll)]
                    else
                      (r_spec_l10SameDirs [DC.sl (((((v7.getD 6 d0).ll).getD ((v7.getD 0 d0).ii).toNat []).getD 5 d0).ll), DC.sl (((((v7.getD 17 d0).ll).getD ((v7.getD 0 d0).ii).toNat []).getD 5 d0).ll)]).bindR fun r9 =>
                      .norm [DC.i ((v7.getD 0 d0).ii), DC.b (!((r9.getD 0 d0).bb)), DC.i ((v7.getD 1 d0).ii), DC.b ((v7.getD 2 d0).bb), DC.s ((v7.getD 3 d0).ss), DC.s ((v7.getD 4 d0).ss), DC.sl ((v7.getD 5 d0).ll), DC.sl ((v7.getD 6 d0).ll), DC.sl ((v7.getD 7 d0).ll), DC.sl ((v7.getD 8 d0).ll), DC.sl ((v7.getD 9 d0).ll), DC.b ((v7.getD 10 d0).bb), DC.sl ((v7.getD 11 d0).ll), DC.i ((v7.getD 12 d0).ii), DC.b ((v7.getD 13 d0).bb), DC.s ((v7.getD 14 d0).ss), DC.s ((v7.getD 15 d0).ss), DC.sl ((v7.getD 16 d0).ll), DC.sl ((v7.getD 17 d0).ll), DC.sl ((v7.getD 18 d0).ll), DC.sl ((v7.getD 19 d0).ll), DC.sl ((v7.getD 20 d0).ll), DC.b ((v7.getD 21 d0).bb), DC.sl ((v7.getD 22 d0).ll)]) fun v10 =>
            if (v10.getD 1 d0).bb = true then
              .ret [DC.b false]
            else
              .norm [DC.i ((v10.getD 0 d0).ii), DC.i ((v10.getD 2 d0).ii), DC.b ((v10.getD 3 d0).bb), DC.s ((v10.getD 4 d0).ss), DC.s ((v10.getD 5 d0).ss), DC.sl ((v10.getD 6 d0).ll), DC.sl ((v10.getD 7 d0).ll), DC.sl ((v10.getD 8 d0).ll), DC.sl ((v10.getD 9 d0).ll), DC.sl ((v10.getD 10 d0).ll), DC.b ((v10.getD 11 d0).bb), DC.sl ((v10.getD 12 d0).ll), DC.i ((v10.getD 13 d0).ii), DC.b ((v10.getD 14 d0).bb), DC.s ((v10.getD 15 d0).ss), DC.s ((v10.getD 16 d0).ss), DC.sl ((v10.getD 17 d0).ll), DC.sl ((v10.getD 18 d0).ll), DC.sl ((v10.getD 19 d0).ll), DC.sl ((v10.getD 20 d0).ll), DC.sl ((v10.getD 21 d0).ll), DC.b ((v10.getD 22 d0).bb), DC.sl ((v10.getD 23 d0).ll)]
          else
            .fail
        else
          .fail) 3 fun v11 =>
      .norm [DC.i (IntKind.i64.wrap ((v11.getD 0 d0).ii + (1 : Int))), DC.i ((v11.getD 1 d0).ii), DC.b ((v11.getD 2 d0).bb), DC.s ((v11.getD 3 d0).ss), DC.s ((v11.getD 4 d0).ss), DC.sl ((v11.getD 5 d0).ll), DC.sl ((v11.getD 6 d0).ll), DC.sl ((v11.getD 7 d0).ll), DC.sl ((v11.getD 8 d0).ll), DC.sl ((v11.getD 9 d0).ll), DC.b ((v11.getD 10 d0).bb), DC.sl ((v11.getD 11 d0).ll), DC.i ((v11.getD 12 d0).ii), DC.b ((v11.getD 13 d0).bb), DC.s ((v11.getD 14 d0).ss), DC.s ((v11.getD 15 d0).ss), DC.sl ((v11.getD 16 d0).ll), DC.sl ((v11.getD 17 d0).ll), DC.sl ((v11.getD 18 d0).ll), DC.sl ((v11.getD 19 d0).ll), DC.sl ((v11.getD 20 d0).ll), DC.b ((v11.getD 21 d0).bb), DC.sl ((v11.getD 22 d0).ll)]
    else
      .ex 2 [DC.i ((v7.getD 1 d0).ii), DC.b ((v7.getD 2 d0).bb), DC.s ((v7.getD 3 d0).ss), DC.s ((v7.getD 4 d0).ss), DC.sl ((v7.getD 5 d0).ll), DC.sl ((v7.getD 6 d0).ll), DC.sl ((v7.getD 7 d0).ll), DC.sl ((v7.getD 8 d0).ll), DC.sl ((v7.getD 9 d0).ll), DC.b ((v7.getD 10 d0).bb), DC.sl ((v7.getD 11 d0).ll), DC.i ((v7.getD 12 d0).ii), DC.b ((v7.getD 13 d0).bb), DC.s ((v7.getD 14 d0).ss), DC.s ((v7.getD 15 d0).ss), DC.sl ((v7.getD 16 d0).ll), DC.sl ((v7.getD 17 d0).ll), DC.sl ((v7.getD 18 d0).ll), DC.sl ((v7.getD 19 d0).ll), DC.sl ((v7.getD 20 d0).ll), DC.b ((v7.getD 21 d0).bb), DC.sl ((v7.getD 22 d0).ll)]
noncomputable def E_spec_l14SameDefL3 : List DC → Out := fun v13 =>
    if (decide ((v13.getD 0 d0).ii < (((v13.getD 8 d0).ll).length : Int))) = true then
      Out.andThenB (Out.andThen (if 126 = 126 ∧ 0 ≤ (v13.getD 0 d0).ii ∧ (v13.getD 0 d0).ii < (((v13.getD 8 d0).ll).length : Int) then
            if 126 = 126 ∧ 0 ≤ (v13.getD 0 d0).ii ∧ (v13.getD 0 d0).ii < (((v13.getD 19 d0).ll).length : Int) then
              if (!(((((v13.getD 8 d0).ll).getD ((v13.getD 0 d0).ii).toNat []).getD 0 d0).ss == ((((v13.getD 19 d0).ll).getD ((v13.getD 0 d0).ii).toNat []).getD 0 d0).ss)) = true then
                .norm [DC.i ((v13.getD 0 d0).ii), DC.b true, DC.i ((v13.getD 1 d0).ii), DC.b ((v13.getD 2 d0).bb), DC.s ((v13.getD 3 d0).ss), DC.s ((v13.getD 4 d0).ss), DC.sl ((v13.getD 5 d0).ll), DC.sl ((v13.getD 6 d0).ll), DC.sl ((v13.getD 7 d0).ll), DC.sl ((v13.getD 8 d0).ll), DC.sl ((v13.getD 9 d0).ll), DC.b ((v13.getD 10 d0).bb), DC.sl ((v13.getD 11 d0).ll), DC.i ((v13.getD 12 d0).ii), DC.b ((v13.getD 13 d0).bb), DC.s ((v13.getD 14 d0).ss), DC.s ((v13.getD 15 d0).ss), DC.sl ((v13.getD 16 d0).ll), DC.sl ((v13.getD 17 d0).ll), DC.sl ((v13.getD 18 d0).ll), DC.sl ((v13.getD 19 d0).ll), DC.sl ((v13.getD 20 d0).ll), DC.b ((v13.getD 21 d0).bb), DC.sl ((v13.getD 22 d0).ll)]
              else
                if 126 = 126 ∧ 0 ≤ (v13.getD 0 d0).ii ∧ (v13.getD 0 d0).ii < (((v13.getD 8 d0).ll).length : Int) then
                  if 126 = 126 ∧ 0 ≤ (v13.getD 0 d0).ii ∧ (v13.getD 0 d0).ii < (((v13.getD 19 d0).ll).length : Int) then
                    if (!(((((v13.getD 8 d0).ll).getD ((v13.getD 0 d0).ii).toNat []).getD 1 d0).ss == ((((v13.getD 19 d0).ll).getD ((v13.getD 0 d0).ii).toNat []).getD 1 d0).ss)) = true then
                      .norm [DC.i ((v13.getD 0 d0).ii), DC.b true, DC.i ((v13.getD 1 d0).ii), DC.b ((v13.getD 2 d0).bb), DC.s ((v13.getD 3 d0).ss), DC.s ((v13.getD 4 d0).ss), DC.sl ((v13.getD 5 d0).ll), DC.sl ((v13.getD 6 d0).ll), DC.sl ((v13.getD 7 d0).ll), DC.sl ((v13.getD 8 d0).ll), DC.sl ((v13.getD 9 d0).ll), DC.b ((v13.getD 10 d0).bb), DC.sl ((v13.getD 11 d0).ll), DC.i ((v13.getD 12 d0).ii), DC.b ((v13.getD 13 d0).bb), DC.s ((v13.getD 14 d0).ss), DC.s ((v13.getD 15 d0).ss), DC.sl ((v13.getD 16 d0).ll), DC.sl ((v13.getD 17 d0).ll), DC.sl ((v13.getD 18 d0).ll), DC.sl ((v13.getD 19 d0).ll), DC.sl ((v13.getD 20 d0).ll), DC.b ((v13.getD 21 d0).bb), DC.sl ((v13.getD 22 d0).ll)]
                    else
                      if 126 = 126 ∧ 0 ≤ (v13.getD 0 d0).ii ∧ (v13.getD 0 d0).ii < (((v13.getD 8 d0).ll).length : Int) then
                        if 126 = 126 ∧ 0 ≤ (v13.getD 0 d0).ii ∧ (v13.getD 0 d0).ii < (((v13.getD 19 d0).ll).length : Int) then
                          (r_spec_l10SameDirs [DC.sl (((((v13.getD 8 d0).ll).getD ((v13.getD 0 d0).ii).toNat []).getD 2 d0).ll), DC.sl (((((v13.getD 19 d0).ll).getD ((v13.getD 0 d0).ii).toNat []).getD 2 d0).ll)]).bindR fun r14 =>
                          .norm [DC.i ((v13.getD 0 d0).ii), DC.b (!((r14.getD 0 d0).bb)), DC.i ((v13.getD 1 d0).ii), DC.b ((v13.getD 2 d0).bb), DC.s ((v13.getD 3 d0).ss), DC.s ((v13.getD 4 d0).ss), DC.sl ((v13.getD 5 d0).ll), DC.sl ((v13.getD 6 d0).ll), DC.sl ((v13.getD 7 d0).ll), DC.sl ((v13.getD 8 d0).ll), DC.sl ((v13.getD 9 d0).ll), DC.b ((v13.getD 10 d0).bb), DC.sl ((v13.getD 11 d0).ll), DC.i ((v13.getD 12 d0).ii), DC.b ((v13.getD 13 d0).bb), DC.s ((v13.getD 14 d0).ss), DC.s ((v13.getD 15 d0).ss), DC.sl ((v13.getD 16 d0).ll), DC.sl ((v13.getD 17 d0).ll), DC.sl ((v13.getD 18 d0).ll), DC.sl ((v13.getD 19 d0).ll), DC.sl ((v13.getD 20 d0).ll), DC.b ((v13.getD 21 d0).bb), DC.sl ((v13.getD 22 d0).ll)]
                        else
                          .fail
                      else
                        .fail
                  else
                    .fail
                else
                  .fail
            else
              .fail
          else
            .fail) fun v15 =>
        if (v15.getD 1 d0).bb = true then
          .ret [DC.b false]
        else
          .norm [DC.i ((v15.getD 0 d0).ii), DC.i ((v15.getD 2 d0).ii), DC.b ((v15.getD 3 d0).bb), DC.s ((v15.getD 4 d0).ss), DC.s ((v15.getD 5 d0).ss), DC.sl ((v15.getD 6 d0).ll), DC.sl ((v15.getD 7 d0).ll), DC.sl ((v15.getD 8 d0).ll), DC.sl ((v15.getD 9 d0).ll), DC.sl ((v15.getD 10 d0).ll), DC.b ((v15.getD 11 d0).bb), DC.sl ((v15.getD 12 d0).ll), DC.i ((v15.getD 13 d0).ii), DC.b ((v15.getD 14 d0).bb), DC.s ((v15.getD 15 d0).ss), DC.s ((v15.getD 16 d0).ss), DC.sl ((v15.getD 17 d0).ll), DC.sl ((v15.getD 18 d0).ll), DC.sl ((v15.getD 19 d0).ll), DC.sl ((v15.getD 20 d0).ll), DC.sl ((v15.getD 21 d0).ll), DC.b ((v15.getD 22 d0).bb), DC.sl ((v15.getD 23 d0).ll)]) 5 fun v16 =>
      .norm [DC.i (IntKind.i64.wrap ((v16.getD 0 d0).ii + (1 : Int))), DC.i ((v16.getD 1 d0).ii), DC.b ((v16.getD 2 d0).bb), DC.s ((v16.getD 3 d0).ss), DC.s ((v16.getD 4 d0).ss), DC.sl ((v16.getD 5 d0).ll), DC.sl ((v16.getD 6 d0).ll), DC.sl ((v16.getD 7 d0).ll), DC.sl ((v16.getD 8 d0).ll), DC.sl ((v16.getD 9 d0).ll), DC.b ((v16.getD 10 d0).bb), DC.sl ((v16.getD 11 d0).ll), DC.i ((v16.getD 12 d0).ii), DC.b ((v16.getD 13 d0).bb), DC.s ((v16.getD 14 d0).ss), DC.s ((v16.getD 15 d0).ss), DC.sl ((v16.getD 16 d0).ll), DC.sl ((v16.getD 17 d0).ll), DC.sl ((v16.getD 18 d0).ll), DC.sl ((v16.getD 19 d0).ll), DC.sl ((v16.getD 20 d0).ll), DC.b ((v16.getD 21 d0).bb), DC.sl ((v16.getD 22 d0).ll)]
    else
      .ex 4 [DC.i ((v13.getD 1 d0).ii), DC.b ((v13.getD 2 d0).bb), DC.s ((v13.getD 3 d0).ss), DC.s ((v13.getD 4 d0).ss), DC.sl ((v13.getD 5 d0).ll), DC.sl ((v13.getD 6 d0).ll), DC.sl ((v13.getD 7 d0).ll), DC.sl ((v13.getD 8 d0).ll), DC.sl ((v13.getD 9 d0).ll), DC.b ((v13.getD 10 d0).bb), DC.sl ((v13.getD 11 d0).ll), DC.i ((v13.getD 12 d0).ii), DC.b ((v13.getD 13 d0).bb), DC.s ((v13.getD 14 d0).ss), DC.s ((v13.getD 15 d0).ss), DC.sl ((v13.getD 16 d0).ll), DC.sl ((v13.getD 17 d0).ll), DC.sl ((v13.getD 18 d0).ll), DC.sl ((v13.getD 19 d0).ll), DC.sl ((v13.getD 20 d0).ll), DC.b ((v13.getD 21 d0).bb), DC.sl ((v13.getD 22 d0).ll)]
noncomputable def E_spec_l14SameDefL4 : List DC → Out := fun v18 =>
    if (decide ((v18.getD 0 d0).ii < (((v18.getD 9 d0).ll).length : Int))) = true then
      Out.andThenB (if 76 = 76 ∧ 0 ≤ (v18.getD 0 d0).ii ∧ (v18.getD 0 d0).ii < (((v18.getD 9 d0).ll).length : Int) then
          if 76 = 76 ∧ 0 ≤ (v18.getD 0 d0).ii ∧ (v18.getD 0 d0).ii < (((v18.getD 20 d0).ll).length : Int) then
            if (!((((((v18.getD 9 d0).ll).getD ((v18.getD 0 d0).ii).toNat []).getD 0 d0).ii == ((((v18.getD 20 d0).ll).getD ((v18.getD 0 d0).ii).toNat []).getD 0 d0).ii) && ((((((v18.getD 9 d0).ll).getD ((v18.getD 0 d0).ii).toNat []).getD 1 d0).ss == ((((v18.getD 20 d0).ll).getD ((v18.getD 0 d0).ii).toNat []).getD 1 d0).ss) && true))) = true then
              .ret [DC.b false]
            else
              .norm [DC.i ((v18.getD 0 d0).ii), DC.i ((v18.getD 1 d0).ii), DC.b ((v18.getD 2 d0).bb), DC.s ((v18.getD 3 d0).ss), DC.s ((v18.getD 4 d0).ss), DC.sl ((v18.getD 5 d0).ll), DC.sl ((v18.getD 6 d0).ll), DC.sl ((v18.getD 7 d0).ll), DC.sl ((v18.getD 8 d0).ll), DC.sl ((v18.getD 9 d0).ll), DC.b ((v18.getD 10 d0).bb), DC.sl ((v18.getD 11 d0).ll), DC.i ((v18.getD 12 d0).ii), DC.b ((v18.getD 13 d0).bb), DC.s ((v18.getD 14 d0).ss), DC.s ((v18.getD 15 d0).ss), DC.sl ((v18.getD 16 d0).ll), DC.sl ((v18.getD 17 d0).ll), DC.sl ((v18.getD 18 d0).ll), DC.sl ((v18.getD 19 d0).ll), DC.sl ((v18.getD 20 d0).ll), DC.b ((v18.getD 21 d0).bb), DC.sl ((v18.getD 22 d0).ll)]
          else
            .fail
        else
          .fail) 7 fun v19 =>
      .norm [DC.i (IntKind.i64.wrap ((v19.getD 0 d0).ii + (1 : Int))), DC.i ((v19.getD 1 d0).ii), DC.b ((v19.getD 2 d0).bb), DC.s ((v19.getD 3 d0).ss), DC.s ((v19.getD 4 d0).ss), DC.sl ((v19.getD 5 d0).ll), DC.sl ((v19.getD 6 d0).ll), DC.sl ((v19.getD 7 d0).ll), DC.sl ((v19.getD 8 d0).ll), DC.sl ((v19.getD 9 d0).ll), DC.b ((v19.getD 10 d0).bb), DC.sl ((v19.getD 11 d0).ll), DC.i ((v19.getD 12 d0).ii), DC.b ((v19.getD 13 d0).bb), DC.s ((v19.getD 14 d0).ss), DC.s ((v19.getD 15 d0).ss), DC.sl ((v19.getD 16 d0).ll), DC.sl ((v19.getD 17 d0).ll), DC.sl ((v19.getD 18 d0).ll), DC.sl ((v19.getD 19 d0).ll), DC.sl ((v19.getD 20 d0).ll), DC.b ((v19.getD 21 d0).bb), DC.sl ((v19.getD 22 d0).ll)]
    else
      .ex 6 []
/-- loop.example/g00964/spec.l14SameDef -/
noncomputable def E_spec_l14SameDef (a : List DC) : Out :=
    Out.andThen (if ((a.getD 0 d0).ii != (a.getD 11 d0).ii) = true then
        .norm [DC.b true, DC.i ((a.getD 0 d0).ii), DC.b ((a.getD 1 d0).bb), DC.s ((a.getD 2 d0).ss), DC.s ((a.getD 3 d0).ss), DC.sl ((a.getD 4 d0).ll), DC.sl ((a.getD 5 d0).ll), DC.sl ((a.getD 6 d0).ll), DC.sl ((a.getD 7 d0).ll), DC.sl ((a.getD 8 d0).ll), DC.b ((a.getD 9 d0).bb), DC.sl ((a.getD 10 d0).ll), DC.i ((a.getD 11 d0).ii), DC.b ((a.getD 12 d0).bb), DC.s ((a.getD 13 d0).ss), DC.s ((a.getD 14 d0).ss), DC.sl ((a.getD 15 d0).ll), DC.sl ((a.getD 16 d0).ll), DC.sl ((a.getD 17 d0).ll), DC.sl ((a.getD 18 d0).ll), DC.sl ((a.getD 19 d0).ll), DC.b ((a.getD 20 d0).bb), DC.sl ((a.getD 21 d0).ll)]
      else
        if (!((a.getD 1 d0).bb == (a.getD 12 d0).bb)) = true then
          .norm [DC.b true, DC.i ((a.getD 0 d0).ii), DC.b ((a.getD 1 d0).bb), DC.s ((a.getD 2 d0).ss), DC.s ((a.getD 3 d0).ss), DC.sl ((a.getD 4 d0).ll), DC.sl ((a.getD 5 d0).ll), DC.sl ((a.getD 6 d0).ll), DC.sl ((a.getD 7 d0).ll), DC.sl ((a.getD 8 d0).ll), DC.b ((a.getD 9 d0).bb), DC.sl ((a.getD 10 d0).ll), DC.i ((a.getD 11 d0).ii), DC.b ((a.getD 12 d0).bb), DC.s ((a.getD 13 d0).ss), DC.s ((a.getD 14 d0).ss), DC.sl ((a.getD 15 d0).ll), DC.sl ((a.getD 16 d0).ll), DC.sl ((a.getD 17 d0).ll), DC.sl ((a.getD 18 d0).ll), DC.sl ((a.getD 19 d0).ll), DC.b ((a.getD 20 d0).bb), DC.sl ((a.getD 21 d0).ll)]
        else
          if (!((a.getD 2 d0).ss == (a.getD 13 d0).ss)) = true then
            .norm [DC.b true, DC.i ((a.getD 0 d0).ii), DC.b ((a.getD 1 d0).bb), DC.s ((a.getD 2 d0).ss), DC.s ((a.getD 3 d0).ss), DC.sl ((a.getD 4 d0).ll), DC.sl ((a.getD 5 d0).ll), DC.sl ((a.getD 6 d0).ll), DC.sl ((a.getD 7 d0).ll), DC.sl ((a.getD 8 d0).ll), DC.b ((a.getD 9 d0).bb), DC.sl ((a.getD 10 d0).ll), DC.i ((a.getD 11 d0).ii), DC.b ((a.getD 12 d0).bb), DC.s ((a.getD 13 d0).ss), DC.s ((a.getD 14 d0).ss), DC.sl ((a.getD 15 d0).ll), DC.sl ((a.getD 16 d0).ll), DC.sl ((a.getD 17 d0).ll), DC.sl ((a.getD 18 d0).ll), DC.sl ((a.getD 19 d0).ll), DC.b ((a.getD 20 d0).bb), DC.sl ((a.getD 21 d0).ll)]
          else
            if (!((a.getD 3 d0).ss == (a.getD 14 d0).ss)) = true then
              .norm [DC.b true, DC.i ((a.getD 0 d0).ii), DC.b ((a.getD 1 d0).bb), DC.s ((a.getD 2 d0).ss), DC.s ((a.getD 3 d0).ss), DC.sl ((a.getD 4 d0).ll), DC.sl ((a.getD 5 d0).ll), DC.sl ((a.getD 6 d0).ll), DC.sl ((a.getD 7 d0).ll), DC.sl ((a.getD 8 d0).ll), DC.b ((a.getD 9 d0).bb), DC.sl ((a.getD 10 d0).ll), DC.i ((a.getD 11 d0).ii), DC.b ((a.getD 12 d0).bb), DC.s ((a.getD 13 d0).ss), DC.s ((a.getD 14 d0).ss), DC.sl ((a.getD 15 d0).ll), DC.sl ((a.getD 16 d0).ll), DC.sl ((a.getD 17 d0).ll), DC.sl ((a.getD 18 d0).ll), DC.sl ((a.getD 19 d0).ll), DC.b ((a.getD 20 d0).bb), DC.sl ((a.getD 21 d0).ll)]
            else
              if (!((a.getD 9 d0).bb == (a.getD 20 d0).bb)) = true then
                .norm [DC.b true, DC.i ((a.getD 0 d0).ii), DC.b ((a.getD 1 d0).bb), DC.s ((a.getD 2 d0).ss), DC.s ((a.getD 3 d0).ss), DC.sl ((a.getD 4 d0).ll), DC.sl ((a.getD 5 d0).ll), DC.sl ((a.getD 6 d0).ll), DC.sl ((a.getD 7 d0).ll), DC.sl ((a.getD 8 d0).ll), DC.b ((a.getD 9 d0).bb), DC.sl ((a.getD 10 d0).ll), DC.i ((a.getD 11 d0).ii), DC.b ((a.getD 12 d0).bb), DC.s ((a.getD 13 d0).ss), DC.s ((a.getD 14 d0).ss), DC.sl ((a.getD 15 d0).ll), DC.sl ((a.getD 16 d0).ll), DC.sl ((a.getD 17 d0).ll), DC.sl ((a.getD 18 d0).ll), DC.sl ((a.getD 19 d0).ll), DC.b ((a.getD 20 d0).bb), DC.sl ((a.getD 21 d0).ll)]
              else
                if ((((a.getD 4 d0).ll).length : Int) != (((a.getD 15 d0).ll).length : Int)) = true then
                  .norm [DC.b true, DC.i ((a.getD 0 d0).ii), DC.b ((a.getD 1 d0).bb), DC.s ((a.getD 2 d0).ss), DC.s ((a.getD 3 d0).ss), DC.sl ((a.getD 4 d0).ll), DC.sl ((a.getD 5 d0).ll), DC.sl ((a.getD 6 d0).ll), DC.sl ((a.getD 7 d0).ll), DC.sl ((a.getD 8 d0).ll), DC.b ((a.getD 9 d0).bb), DC.sl ((a.getD 10 d0).ll), DC.i ((a.getD 11 d0).ii), DC.b ((a.getD 12 d0).bb), DC.s ((a.getD 13 d0).ss), DC.s ((a.getD 14 d0).ss), DC.sl ((a.getD 15 d0).ll), DC.sl ((a.getD 16 d0).ll), DC.sl ((a.getD 17 d0).ll), DC.sl ((a.getD 18 d0).ll), DC.sl ((a.getD 19 d0).ll), DC.b ((a.getD 20 d0).bb), DC.sl ((a.getD 21 d0).ll)]
                else
                  if ((((a.getD 5 d0).ll).length : Int) != (((a.getD 16 d0).ll).length : Int)) = true then
                    .norm [DC.b true, DC.i ((a.getD 0 d0).ii), DC.b ((a.getD 1 d0).bb), DC.s ((a.getD 2 d0).ss), DC.s ((a.getD 3 d0).ss), DC.sl ((a.getD 4 d0).ll), DC.sl ((a.getD 5 d0).ll), DC.sl ((a.getD 6 d0).ll), DC.sl ((a.getD 7 d0).ll), DC.sl ((a.getD 8 d0).ll), DC.b ((a.getD 9 d0).bb), DC.sl ((a.getD 10 d0).ll), DC.i ((a.getD 11 d0).ii), DC.b ((a.getD 12 d0).bb), DC.s ((a.getD 13 d0).ss), DC.s ((a.getD 14 d0).ss), DC.sl ((a.getD 15 d0).ll), DC.sl ((a.getD 16 d0).ll), DC.sl ((a.getD 17 d0).ll), DC.sl ((a.getD 18 d0).ll), DC.sl ((a.getD 19 d0).ll), DC.b ((a.getD 20 d0).bb), DC.sl ((a.getD 21 d0).ll)]
                  else
                    if ((((a.getD 7 d0).ll).length : Int) != (((a.getD 18 d0).ll).length : Int)) = true then
                      .norm [DC.b true, DC.i ((a.getD 0 d0).ii), DC.b ((a.getD 1 d0).bb), DC.s ((a.getD 2 d0).ss), DC.s ((a.getD 3 d0).ss), DC.sl ((a.getD 4 d0).ll), DC.sl ((a.getD 5 d0).ll), DC.sl ((a.getD 6 d0).ll), DC.sl ((a.getD 7 d0).ll), DC.sl ((a.getD 8 d0).ll), DC.b ((a.getD 9 d0).bb), DC.sl ((a.getD 10 d0).ll), DC.i ((a.getD 11 d0).ii), DC.b ((a.getD 12 d0).bb), DC.s ((a.getD 13 d0).ss), DC.s ((a.getD 14 d0).ss), DC.sl ((a.getD 15 d0).ll), DC.sl ((a.getD 16 d0).ll), DC.sl ((a.getD 17 d0).ll), DC.sl ((a.getD 18 d0).ll), DC.sl ((a.getD 19 d0).ll), DC.b ((a.getD 20 d0).bb), DC.sl ((a.getD 21 d0).ll)]
                    else
                      if ((((a.getD 8 d0).ll).length : Int) != (((a.getD 19 d0).ll).length : Int)) = true then
                        .norm [DC.b true, DC.i ((a.getD 0 d0).ii), DC.b ((a.getD 1 d0).bb), DC.s ((a.getD 2 d0).ss), DC.s ((a.getD 3 d0).ss), DC.sl ((a.getD 4 d0).ll), DC.sl ((a.getD 5 d0).ll), DC.sl ((a.getD 6 d0).ll), DC.sl ((a.getD 7 d0).ll), DC.sl ((a.getD 8 d0).ll), DC.b ((a.getD 9 d0).bb), DC.sl ((a.getD 10 d0).ll), DC.i ((a.getD 11 d0).ii), DC.b ((a.getD 12 d0).bb), DC.s ((a.getD 13 d0).ss), DC.s ((a.getD 14 d0).ss), DC.sl ((a.getD 15 d0).ll), DC.sl ((a.getD 16 d0).ll), DC.sl ((a.getD 17 d0).ll), DC.sl ((a.getD 18 d0).ll), DC.sl ((a.getD 19 d0).ll), DC.b ((a.getD 20 d0).bb), DC.sl ((a.getD 21 d0).ll)]
                      else
                        (r_spec_l14SameIn [DC.sl ((a.getD 6 d0).ll), DC.sl ((a.getD 17 d0).ll)]).bindR fun r1 =>
                        if (!((r1.getD 0 d0).bb)) = true then
                          .norm [DC.b true, DC.i ((a.getD 0 d0).ii), DC.b ((a.getD 1 d0).bb), DC.s ((a.getD 2 d0).ss), DC.s ((a.getD 3 d0).ss), DC.sl ((a.getD 4 d0).ll), DC.sl ((a.getD 5 d0).ll), DC.sl ((a.getD 6 d0).ll), DC.sl ((a.getD 7 d0).ll), DC.sl ((a.getD 8 d0).ll), DC.b ((a.getD 9 d0).bb), DC.sl ((a.getD 10 d0).ll), DC.i ((a.getD 11 d0).ii), DC.b ((a.getD 12 d0).bb), DC.s ((a.getD 13 d0).ss), DC.s ((a.getD 14 d0).ss), DC.sl ((a.getD 15 d0).ll), DC.sl ((a.getD 16 d0).ll), DC.sl ((a.getD 17 d0).ll), DC.sl ((a.getD 18 d0).ll), DC.sl ((a.getD 19 d0).ll), DC.b ((a.getD 20 d0).bb), DC.sl ((a.getD 21 d0).ll)]
                        else
                          (r_spec_l10SameDirs [DC.sl ((a.getD 10 d0).ll), DC.sl ((a.getD 21 d0).ll)]).bindR fun r2 =>
                          .norm [DC.b (!((r2.getD 0 d0).bb)), DC.i ((a.getD 0 d0).ii), DC.b ((a.getD 1 d0).bb), DC.s ((a.getD 2 d0).ss), DC.s ((a.getD 3 d0).ss), DC.sl ((a.getD 4 d0).ll), DC.sl ((a.getD 5 d0).ll), DC.sl ((a.getD 6 d0).ll), DC.sl ((a.getD 7 d0).ll), DC.sl ((a.getD 8 d0).ll), DC.b ((a.getD 9 d0).bb), DC.sl ((a.getD 10 d0).ll), DC.i ((a.getD 11 d0).ii), DC.b ((a.getD 12 d0).bb), DC.s ((a.getD 13 d0).ss), DC.s ((a.getD 14 d0).ss), DC.sl ((a.getD 15 d0).ll), DC.sl ((a.getD 16 d0).ll), DC.sl ((a.getD 17 d0).ll), DC.sl ((a.getD 18 d0).ll), DC.sl ((a.getD 19 d0).ll), DC.b ((a.getD 20 d0).bb), DC.sl ((a.getD 21 d0).ll)]) fun v3 =>
    if (v3.getD 0 d0).bb = true then
      .ret [DC.b false]
    else
      Out.andThenB (Loop E_spec_l14SameDefL1 [DC.i (0 : Int), DC.i ((v3.getD 1 d0).ii), DC.b ((v3.getD 2 d0).bb), DC.s ((v3.getD 3 d0).ss), DC.s ((v3.getD 4 d0).ss), DC.sl ((v3.getD 5 d0).ll), DC.sl ((v3.getD 6 d0).ll), DC.sl ((v3.getD 7 d0).ll), DC.sl ((v3.getD 8 d0).ll), DC.sl ((v3.getD 9 d0).ll), DC.b ((v3.getD 10 d0).bb), DC.sl ((v3.getD 11 d0).ll), DC.i ((v3.getD 12 d0).ii), DC.b ((v3.getD 13 d0).bb), DC.s ((v3.getD 14 d0).ss), DC.s ((v3.getD 15 d0).ss), DC.sl ((v3.getD 16 d0).ll), DC.sl ((v3.getD 17 d0).ll), DC.sl ((v3.getD 18 d0).ll), DC.sl ((v3.getD 19 d0).ll), DC.sl ((v3.getD 20 d0).ll), DC.b ((v3.getD 21 d0).bb), DC.sl ((v3.getD 22 d0).ll)]) 0 fun v6 =>
      Out.andThenB (Loop E_spec_l14SameDefL2 [DC.i (0 : Int), DC.i ((v6.getD 0 d0).ii), DC.b ((v6.getD 1 d0).bb), DC.s ((v6.getD 2 d0).ss), DC.s ((v6.getD 3 d0).ss), DC.sl ((v6.getD 4 d0).ll), DC.sl ((v6.getD 5 d0).ll), DC.sl ((v6.getD 6 d0).ll), DC.sl ((v6.getD 7 d0).ll), DC.sl ((v6.getD 8 d0).ll), DC.b ((v6.getD 9 d0).bb), DC.sl ((v6.getD 10 d0).ll), DC.i ((v6.getD 11 d0).ii), DC.b ((v6.getD 12 d0).bb), DC.s ((v6.getD 13 d0).ss), DC.s ((v6.getD 14 d0).ss), DC.sl ((v6.getD 15 d0).ll), DC.sl ((v6.getD 16 d0).ll), DC.sl ((v6.getD 17 d0).ll), DC.sl ((v6.getD 18 d0).ll), DC.sl ((v6.getD 19 d0).ll), DC.b ((v6.getD 20 d0).bb), DC.sl ((v6.getD 21 d0).ll)]) 2 fun v12 =>
      Out.andThenB (Loop E_spec_l14SameDefL3 [DC.i (0 : Int), DC.i ((v12.getD 0 d0).ii), DC.b ((v12.getD 1 d0).bb), DC.s ((v12.getD 2 d0).ss), DC.s ((v12.getD 3 d0).ss), DC.sl ((v12.getD 4 d0).ll), DC.sl ((v12.getD 5 d0).ll), DC.sl ((v12.getD 6 d0).ll), DC.sl ((v12.getD 7 d0).ll), DC.sl ((v12.getD 8 d0).ll), DC.b ((v12.getD 9 d0).bb), DC.sl ((v12.getD 10 d0).ll), DC.i ((v12.getD 11 d0).ii), DC.b ((v12.getD 12 d0).bb), DC.s ((v12.getD 13 d0).ss), DC.s ((v12.getD 14 d0).ss), DC.sl ((v12.getD 15 d0).ll), DC.sl ((v12.getD 16 d0).ll), DC.sl ((v12.getD 17 d0).ll), DC.sl ((v12.getD 18 d0).ll), DC.sl ((v12.getD 19 d0).ll), DC.b ((v12.getD 20 d0).bb), DC.sl ((v12.getD 21 d0).ll)]) 4 fun v17 =>
      Out.andThenB (Loop E_spec_l14SameDefL4 [DC.i (0 : Int), DC.i ((v17.getD 0 d0).ii), DC.b ((v17.getD 1 d0).bb), DC.s ((v17.getD 2 d0).ss), DC.s ((v17.getD 3 d0).ss), DC.sl ((v17.getD 4 d0).ll), DC.sl ((v17.getD 5 d0).ll), DC.sl ((v17.getD 6 d0).ll), DC.sl ((v17.getD 7 d0).ll), DC.sl ((v17.getD 8 d0).ll), DC.b ((v17.getD 9 d0).bb), DC.sl ((v17.getD 10 d0).ll), DC.i ((v17.getD 11 d0).ii), DC.b ((v17.getD 12 d0).bb), DC.s ((v17.getD 13 d0).ss), DC.s ((v17.getD 14 d0).ss), DC.sl ((v17.getD 15 d0).ll), DC.sl ((v17.getD 16 d0).ll), DC.sl ((v17.getD 17 d0).ll), DC.sl ((v17.getD 18 d0).ll), DC.sl ((v17.getD 19 d0).ll), DC.b ((v17.getD 20 d0).bb), DC.sl ((v17.getD 21 d0).ll)]) 6 fun v20 =>
      .ret [DC.b true]
theorem eq_spec_l14SameDef (a : List DC) : r_spec_l14SameDef a = E_spec_l14SameDef a := (Run_eq cfg 92 h_spec_l14SameDef a).trans (by kernel_rfl)
/-- loop.example/g00964/impl.sameDef -/
noncomputable def E_impl_sameDef (a : List DC) : Out :=
    Out.andThen (if ((a.getD 0 d0).ii == (a.getD 11 d0).ii) = true then
        if ((a.getD 1 d0).bb == (a.getD 12 d0).bb) = true then
          if ((a.getD 2 d0).ss == (a.getD 13 d0).ss) = true then
            if ((a.getD 3 d0).ss == (a.getD 14 d0).ss) = true then
              if ((a.getD 9 d0).bb == (a.getD 20 d0).bb) = true then
                (r_slices_Equal_string [DC.sl ((a.getD 4 d0).ll), DC.sl ((a.getD 15 d0).ll)]).bindR fun r1 =>
                if (r1.getD 0 d0).bb = true then
                  (r_slices_EqualFunc_impl_FieldDef__impl_sameField [DC.sl ((a.getD 5 d0).ll), DC.sl ((a.getD 16 d0).ll)]).bindR fun r2 =>
                  if (r2.getD 0 d0).bb = true then
                    (r_slices_EqualFunc_impl_InDef__impl_sameIn [DC.sl ((a.getD 6 d0).ll), DC.sl ((a.getD 17 d0).ll)]).bindR fun r3 =>
                    if (r3.getD 0 d0).bb = true then
                      (r_slices_EqualFunc_impl_EnumDef__impl_sameEnum [DC.sl ((a.getD 7 d0).ll), DC.sl ((a.getD 18 d0).ll)]).bindR fun r4 =>
                      if (r4.getD 0 d0).bb = true then
                        (r_slices_Equal_impl_Root [DC.sl ((a.getD 8 d0).ll), DC.sl ((a.getD 19 d0).ll)]).bindR fun r5 =>
                        if (r5.getD 0 d0).bb = true then
                          (r_impl_sameDirs [DC.sl ((a.getD 10 d0).ll), DC.sl ((a.getD 21 d0).ll)]).bindR fun r6 =>
                          .norm [DC.b ((r6.getD 0 d0).bb)]
                        else
                          .norm [DC.b false]
                      else
                        .norm [DC.b false]
                    else
                      .norm [DC.b false]
                  else
                    .norm [DC.b false]
                else
                  .norm [DC.b false]
              else
                .norm [DC.b false]
            else
              .norm [DC.b false]
          else
            .norm [DC.b false]
        else
          .norm [DC.b false]
      else
        .norm [DC.b false]) fun v7 =>
    .ret [DC.b ((v7.getD 0 d0).bb)]
theorem eq_impl_sameDef (a : List DC) : r_impl_sameDef a = E_impl_sameDef a := (Run_eq cfg 69 h_impl_sameDef a).trans (by kernel_rfl)
noncomputable def E_laws_szValueSL1 : List DC → Out := fun v1 =>
    if (decide ((v1.getD 2 d0).ii < (((v1.getD 0 d0).ll).length : Int))) = true then
      Out.andThenB (if 59 = 59 ∧ 0 ≤ (v1.getD 2 d0).ii ∧ (v1.getD 2 d0).ii < (((v1.getD 0 d0).ll).length : Int) then
          (r_laws_szValue [DC.i (((((v1.getD 0 d0).ll).getD ((v1.getD 2 d0).ii).toNat []).getD 0 d0).ii), DC.s (((((v1.getD 0 d0).ll).getD ((v1.getD 2 d0).ii).toNat []).getD 1 d0).ss), DC.sl (((((v1.getD 0 d0).ll).getD ((v1.getD 2 d0).ii).toNat []).getD 2 d0).ll), DC.sl (((((v1.getD 0 d0).ll).getD ((v1.getD 2 d0).ii).toNat []).getD 3 d0).ll), DC.i ((v1.getD 1 d0).ii)]).bindR fun r2 =>
          if (decide ((r2.getD 0 d0).ii < (0 : Int))) = true then
            .ret [DC.i (-1 : Int)]
          else
            .norm [DC.sl ((v1.getD 0 d0).ll), DC.i ((r2.getD 0 d0).ii), DC.i ((v1.getD 2 d0).ii)]
        else
          .fail) 1 fun v3 =>
      .norm [DC.sl ((v3.getD 0 d0).ll), DC.i ((v3.getD 1 d0).ii), DC.i (IntKind.i64.wrap ((v3.getD 2 d0).ii + (1 : Int)))]
    else
      .ex 0 [DC.i ((v1.getD 1 d0).ii)]
/-- loop.example/g00964/laws.szValueS -/
noncomputable def E_laws_szValueS (a : List DC) : Out :=
    if (decide ((IntKind.i64.wrap ((a.getD 1 d0).ii - (((a.getD 0 d0).ll).length : Int))) < (0 : Int))) = true then
      .ret [DC.i (-1 : Int)]
    else
      Out.andThenB (Loop E_laws_szValueSL1 [DC.sl ((a.getD 0 d0).ll), DC.i (IntKind.i64.wrap ((a.getD 1 d0).ii - (((a.getD 0 d0).ll).length : Int))), DC.i (0 : Int)]) 0 fun v4 =>
      .ret [DC.i ((v4.getD 0 d0).ii)]
theorem eq_laws_szValueS (a : List DC) : r_laws_szValueS a = E_laws_szValueS a := (Run_eq cfg 105 h_laws_szValueS a).trans (by kernel_rfl)
noncomputable def E_laws_szStringSL1 : List DC → Out := fun v1 =>
    if (decide ((v1.getD 2 d0).ii < (((v1.getD 0 d0).ll).length : Int))) = true then
      Out.andThenB (if 9 = 9 ∧ 0 ≤ (v1.getD 2 d0).ii ∧ (v1.getD 2 d0).ii < (((v1.getD 0 d0).ll).length : Int) then
          if (decide ((IntKind.i64.wrap ((v1.getD 1 d0).ii - ((((((v1.getD 0 d0).ll).getD ((v1.getD 2 d0).ii).toNat []).getD 0 d0).ss).length : Int))) < (0 : Int))) = true then
            .ret [DC.i (-1 : Int)]
          else
            .norm [DC.sl ((v1.getD 0 d0).ll), DC.i (IntKind.i64.wrap ((v1.getD 1 d0).ii - ((((((v1.getD 0 d0).ll).getD ((v1.getD 2 d0).ii).toNat []).getD 0 d0).ss).length : Int))), DC.i ((v1.getD 2 d0).ii)]
        else
          .fail) 1 fun v2 =>
      .norm [DC.sl ((v2.getD 0 d0).ll), DC.i ((v2.getD 1 d0).ii), DC.i (IntKind.i64.wrap ((v2.getD 2 d0).ii + (1 : Int)))]
    else
      .ex 0 [DC.i ((v1.getD 1 d0).ii)]
/-- loop.example/g00964/laws.szStringS -/
noncomputable def E_laws_szStringS (a : List DC) : Out :=
    if (decide ((IntKind.i64.wrap ((a.getD 1 d0).ii - (((a.getD 0 d0).ll).length : Int))) < (0 : Int))) = true then
      .ret [DC.i (-1 : Int)]
    else
      Out.andThenB (Loop E_laws_szStringSL1 [DC.sl ((a.getD 0 d0).ll), DC.i (IntKind.i64.wrap ((a.getD 1 d0).ii - (((a.getD 0 d0).ll).length : Int))), DC.i (0 : Int)]) 0 fun v3 =>
      .ret [DC.i ((v3.getD 0 d0).ii)]
theorem eq_laws_szStringS (a : List DC) : r_laws_szStringS a = E_laws_szStringS a := (Run_eq cfg 106 h_laws_szStringS a).trans (by kernel_rfl)
/-- loop.example/g00964/laws.szDir -/
noncomputable def E_laws_szDir (a : List DC) : Out :=
    if (decide ((IntKind.i64.wrap ((a.getD 2 d0).ii - (((a.getD 0 d0).ss).length : Int))) < (0 : Int))) = true then
      .ret [DC.i (-1 : Int)]
    else
      (r_laws_szArgS [DC.sl ((a.getD 1 d0).ll), DC.i (IntKind.i64.wrap ((a.getD 2 d0).ii - (((a.getD 0 d0).ss).length : Int)))]).bindR fun r1 =>
      if (decide ((r1.getD 0 d0).ii < (0 : Int))) = true then
        .ret [DC.i (-1 : Int)]
      else
        .ret [DC.i ((r1.getD 0 d0).ii)]
theorem eq_laws_szDir (a : List DC) : r_laws_szDir a = E_laws_szDir a := (Run_eq cfg 107 h_laws_szDir a).trans (by kernel_rfl)
noncomputable def E_laws_toValueSL1 : List DC → Out := fun v1 =>
    if (decide ((v1.getD 2 d0).ii < (((v1.getD 0 d0).ll).length : Int))) = true then
      Out.andThenB (if 59 = 59 ∧ 0 ≤ (v1.getD 2 d0).ii ∧ (v1.getD 2 d0).ii < (((v1.getD 0 d0).ll).length : Int) then
          (r_laws_toValue [DC.i (((((v1.getD 0 d0).ll).getD ((v1.getD 2 d0).ii).toNat []).getD 0 d0).ii), DC.s (((((v1.getD 0 d0).ll).getD ((v1.getD 2 d0).ii).toNat []).getD 1 d0).ss), DC.sl (((((v1.getD 0 d0).ll).getD ((v1.getD 2 d0).ii).toNat []).getD 2 d0).ll), DC.sl (((((v1.getD 0 d0).ll).getD ((v1.getD 2 d0).ii).toNat []).getD 3 d0).ll)]).bindR fun r2 =>
          if 65 = 65 ∧ 0 ≤ (v1.getD 2 d0).ii ∧ (v1.getD 2 d0).ii < (((v1.getD 1 d0).ll).length : Int) then
            .norm [DC.sl ((v1.getD 0 d0).ll), DC.sl (((v1.getD 1 d0).ll).set (((v1.getD 2 d0).ii).toNat) (setRunD (((v1.getD 1 d0).ll).getD (((v1.getD 2 d0).ii).toNat) []) 0 [DC.i ((r2.getD 0 d0).ii), DC.s ((r2.getD 1 d0).ss), DC.sl ((r2.getD 2 d0).ll), DC.sl ((r2.getD 3 d0).ll)])), DC.i ((v1.getD 2 d0).ii)]
          else
            .fail
        else
          .fail) 1 fun v3 =>
      .norm [DC.sl ((v3.getD 0 d0).ll), DC.sl ((v3.getD 1 d0).ll), DC.i (IntKind.i64.wrap ((v3.getD 2 d0).ii + (1 : Int)))]
    else
      .ex 0 [DC.sl ((v1.getD 1 d0).ll)]
/-- loop.example/g00964/laws.toValueS -/
noncomputable def E_laws_toValueS (a : List DC) : Out :=
    if 0 ≤ (((a.getD 0 d0).ll).length : Int) ∧ (((a.getD 0 d0).ll).length : Int) < (LIM : Int) ∧ (((a.getD 0 d0).ll).length : Int) = (((a.getD 0 d0).ll).length : Int) ∧ 72 ≤ 1024 ∧ 0 < 4 then
      Out.andThenB (Loop E_laws_toValueSL1 [DC.sl ((a.getD 0 d0).ll), DC.sl (List.replicate (((a.getD 0 d0).ll).length : Int).toNat [DC.i 0, DC.s [], DC.sl [], DC.sl []]), DC.i (0 : Int)]) 0 fun v4 =>
      .ret [DC.sl ((v4.getD 0 d0).ll)]
    else
      .fail
theorem eq_laws_toValueS (a : List DC) : r_laws_toValueS a = E_laws_toValueS a := (Run_eq cfg 108 h_laws_toValueS a).trans (by kernel_rfl)
noncomputable def E_laws_toStringSL1 : List DC → Out := fun v1 =>
    if (decide ((v1.getD 2 d0).ii < (((v1.getD 0 d0).ll).length : Int))) = true then
      Out.andThenB (if 9 = 9 ∧ 0 ≤ (v1.getD 2 d0).ii ∧ (v1.getD 2 d0).ii < (((v1.getD 0 d0).ll).length : Int) then
          if 9 = 9 ∧ 0 ≤ (v1.getD 2 d0).ii ∧ (v1.getD 2 d0).ii < (((v1.getD 1 d0).ll).length : Int) then
            .norm [DC.sl ((v1.getD 0 d0).ll), DC.sl (((v1.getD 1 d0).ll).set (((v1.getD 2 d0).ii).toNat) (setRunD (((v1.getD 1 d0).ll).getD (((v1.getD 2 d0).ii).toNat) []) 0 [DC.s (((((v1.getD 0 d0).ll).getD ((v1.getD 2 d0).ii).toNat []).getD 0 d0).ss)])), DC.i ((v1.getD 2 d0).ii)]
          else
            .fail
        else
          .fail) 1 fun v2 =>
      .norm [DC.sl ((v2.getD 0 d0).ll), DC.sl ((v2.getD 1 d0).ll), DC.i (IntKind.i64.wrap ((v2.getD 2 d0).ii + (1 : Int)))]
    else
      .ex 0 [DC.sl ((v1.getD 1 d0).ll)]
/-- loop.example/g00964/laws.toStringS -/
noncomputable def E_laws_toStringS (a : List DC) : Out :=
    if 0 ≤ (((a.getD 0 d0).ll).length : Int) ∧ (((a.getD 0 d0).ll).length : Int) < (LIM : Int) ∧ (((a.getD 0 d0).ll).length : Int) = (((a.getD 0 d0).ll).length : Int) ∧ 16 ≤ 1024 ∧ 0 < 1 then
      Out.andThenB (Loop E_laws_toStringSL1 [DC.sl ((a.getD 0 d0).ll), DC.sl (List.replicate (((a.getD 0 d0).ll).length : Int).toNat [DC.s []]), DC.i (0 : Int)]) 0 fun v3 =>
      .ret [DC.sl ((v3.getD 0 d0).ll)]
    else
      .fail
theorem eq_laws_toStringS (a : List DC) : r_laws_toStringS a = E_laws_toStringS a := (Run_eq cfg 109 h_laws_toStringS a).trans (by kernel_rfl)
/-- loop.example/g00964/laws.toDir -/
noncomputable def E_laws_toDir (a : List DC) : Out :=
    (r_laws_toArgS [DC.sl ((a.getD 1 d0).ll)]).bindR fun r1 =>
    .ret [DC.s ((a.getD 0 d0).ss), DC.sl ((r1.getD 0 d0).ll)]
theorem eq_laws_toDir (a : List DC) : r_laws_toDir a = E_laws_toDir a := (Run_eq cfg 110 h_laws_toDir a).trans (by kernel_rfl)
end Go.Proofs.YtciandfkncadgaaV
