/- What the functions do, and that they do (written by a program). -/
import Derived.Test.YtciandfkncadgaaG0
namespace Go.Proofs.YtciandfkncadgaaV
open Go
set_option linter.unusedVariables false
set_option maxRecDepth 100000
noncomputable def E_slices_EqualFunc_impl_Dir__impl_sameDirs_1L1 : List DC → Out := fun v1 =>
    if (decide ((v1.getD 3 d0).ii < (v1.getD 2 d0).ii)) = true then
      Out.andThenB (if 140 = 140 ∧ 0 ≤ (v1.getD 3 d0).ii ∧ (v1.getD 3 d0).ii < (((v1.getD 1 d0).ll).length : Int) then
          if 140 = 140 ∧ 0 ≤ (v1.getD 3 d0).ii ∧ (v1.getD 3 d0).ii < (((v1.getD 0 d0).ll).length : Int) then
            (r_impl_sameDirs_1 [DC.s (((((v1.getD 1 d0).ll).getD ((v1.getD 3 d0).ii).toNat []).getD 0 d0).ss), DC.sl (((((v1.getD 1 d0).ll).getD ((v1.getD 3 d0).ii).toNat []).getD 1 d0).ll), DC.s (((((v1.getD 0 d0).ll).getD ((v1.getD 3 d0).ii).toNat []).getD 0 d0).ss), DC.sl (((((v1.getD 0 d0).ll).getD ((v1.getD 3 d0).ii).toNat []).getD 1 d0).ll)]).bindR fun r2 =>
            if (!((r2.getD 0 d0).bb)) = true then
              .ret [DC.b false]
            else
              .norm [DC.sl ((v1.getD 0 d0).ll), DC.sl ((v1.getD 1 d0).ll), DC.i ((v1.getD 2 d0).ii), DC.i ((v1.getD 3 d0).ii)]
          else
            .fail
        else
          .fail) 1 fun v3 =>
      .norm [DC.sl ((v3.getD 0 d0).ll), DC.sl ((v3.getD 1 d0).ll), DC.i ((v3.getD 2 d0).ii), DC.i (IntKind.i64.wrap ((v3.getD 3 d0).ii + (1 : Int)))]
    else
      .ex 0 []
/-- slices.EqualFunc[[]loop.example/g00964/impl.Dir,[]loop.example/g00964/impl.Dir,loop.example/g00964/impl.Dir,loop.example/g00964/impl.Dir] -/
noncomputable def E_slices_EqualFunc_impl_Dir__impl_sameDirs_1 (a : List DC) : Out :=
    if ((((a.getD 0 d0).ll).length : Int) != (((a.getD 1 d0).ll).length : Int)) = true then
      .ret [DC.b false]
    else
      Out.andThenB (Loop E_slices_EqualFunc_impl_Dir__impl_sameDirs_1L1 [DC.sl ((a.getD 1 d0).ll), DC.sl ((a.getD 0 d0).ll), DC.i (((a.getD 0 d0).ll).length : Int), DC.i (0 : Int)]) 0 fun v4 =>
      .ret [DC.b true]
theorem eq_slices_EqualFunc_impl_Dir__impl_sameDirs_1 (a : List DC) : r_slices_EqualFunc_impl_Dir__impl_sameDirs_1 a = E_slices_EqualFunc_impl_Dir__impl_sameDirs_1 a := (Run_eq cfg 124 h_slices_EqualFunc_impl_Dir__impl_sameDirs_1 a).trans (by kernel_rfl)
/-- loop.example/g00964/laws.szArg -/
noncomputable def E_laws_szArg (a : List DC) : Out :=
    if (decide ((IntKind.i64.wrap ((a.getD 5 d0).ii - (((a.getD 0 d0).ss).length : Int))) < (0 : Int))) = true then
      .ret [DC.i (-1 : Int)]
    else
      (r_laws_szValue [DC.i ((a.getD 1 d0).ii), DC.s ((a.getD 2 d0).ss), DC.sl ((a.getD 3 d0).ll), DC.sl ((a.getD 4 d0).ll), DC.i (IntKind.i64.wrap ((a.getD 5 d0).ii - (((a.getD 0 d0).ss).length : Int)))]).bindR fun r1 =>
      if (decide ((r1.getD 0 d0).ii < (0 : Int))) = true then
        .ret [DC.i (-1 : Int)]
      else
        .ret [DC.i ((r1.getD 0 d0).ii)]
theorem eq_laws_szArg (a : List DC) : r_laws_szArg a = E_laws_szArg a := (Run_eq cfg 155 h_laws_szArg a).trans (by kernel_rfl)
/-- loop.example/g00964/laws.toArg -/
noncomputable def E_laws_toArg (a : List DC) : Out :=
    (r_laws_toValue [DC.i ((a.getD 1 d0).ii), DC.s ((a.getD 2 d0).ss), DC.sl ((a.getD 3 d0).ll), DC.sl ((a.getD 4 d0).ll)]).bindR fun r1 =>
    .ret [DC.s ((a.getD 0 d0).ss), DC.i ((r1.getD 0 d0).ii), DC.s ((r1.getD 1 d0).ss), DC.sl ((r1.getD 2 d0).ll), DC.sl ((r1.getD 3 d0).ll)]
theorem eq_laws_toArg (a : List DC) : r_laws_toArg a = E_laws_toArg a := (Run_eq cfg 156 h_laws_toArg a).trans (by kernel_rfl)
/-- loop.example/g00964/laws.eqArg -/
noncomputable def E_laws_eqArg (a : List DC) : Out :=
    if (!((a.getD 0 d0).ss == (a.getD 5 d0).ss)) = true then
      .ret [DC.b false]
    else
      (r_laws_eqValue [DC.i ((a.getD 1 d0).ii), DC.s ((a.getD 2 d0).ss), DC.sl ((a.getD 3 d0).ll), DC.sl ((a.getD 4 d0).ll), DC.i ((a.getD 6 d0).ii), DC.s ((a.getD 7 d0).ss), DC.sl ((a.getD 8 d0).ll), DC.sl ((a.getD 9 d0).ll)]).bindR fun r1 =>
      if (!((r1.getD 0 d0).bb)) = true then
        .ret [DC.b false]
      else
        .ret [DC.b true]
theorem eq_laws_eqArg (a : List DC) : r_laws_eqArg a = E_laws_eqArg a := (Run_eq cfg 157 h_laws_eqArg a).trans (by kernel_rfl)
/-- loop.example/g00964/impl.SameValue -/
noncomputable def E_impl_SameValue (a : List DC) : Out :=
    Out.andThen (if ((a.getD 0 d0).ii == (a.getD 4 d0).ii) = true then
        if ((a.getD 1 d0).ss == (a.getD 5 d0).ss) = true then
          (r_slices_Equal_string [DC.sl ((a.getD 3 d0).ll), DC.sl ((a.getD 7 d0).ll)]).bindR fun r1 =>
          if (r1.getD 0 d0).bb = true then
            (r_slices_EqualFunc_impl_Value__impl_SameValue [DC.sl ((a.getD 2 d0).ll), DC.sl ((a.getD 6 d0).ll)]).bindR fun r2 =>
            .norm [DC.b ((r2.getD 0 d0).bb)]
          else
            .norm [DC.b false]
        else
          .norm [DC.b false]
      else
        .norm [DC.b false]) fun v3 =>
    .ret [DC.b ((v3.getD 0 d0).bb)]
theorem eq_impl_SameValue (a : List DC) : r_impl_SameValue a = E_impl_SameValue a := (Run_eq cfg 123 h_impl_SameValue a).trans (by kernel_rfl)
/-- loop.example/g00964/impl.sameDirs$1 -/
noncomputable def E_impl_sameDirs_1 (a : List DC) : Out :=
    Out.andThen (if ((a.getD 0 d0).ss == (a.getD 2 d0).ss) = true then
        (r_impl_SameArgs [DC.sl ((a.getD 1 d0).ll), DC.sl ((a.getD 3 d0).ll)]).bindR fun r1 =>
        .norm [DC.b ((r1.getD 0 d0).bb)]
      else
        .norm [DC.b false]) fun v2 =>
    .ret [DC.b ((v2.getD 0 d0).bb)]
theorem eq_impl_sameDirs_1 (a : List DC) : r_impl_sameDirs_1 a = E_impl_sameDirs_1 a := (Run_eq cfg 125 h_impl_sameDirs_1 a).trans (by kernel_rfl)
noncomputable def E_slices_EqualFunc_impl_Value__impl_SameValueL1 : List DC → Out := fun v1 =>
    if (decide ((v1.getD 3 d0).ii < (v1.getD 2 d0).ii)) = true then
      Out.andThenB (if 65 = 65 ∧ 0 ≤ (v1.getD 3 d0).ii ∧ (v1.getD 3 d0).ii < (((v1.getD 1 d0).ll).length : Int) then
          if 65 = 65 ∧ 0 ≤ (v1.getD 3 d0).ii ∧ (v1.getD 3 d0).ii < (((v1.getD 0 d0).ll).length : Int) then
            (r_impl_SameValue [DC.i (((((v1.getD 1 d0).ll).getD ((v1.getD 3 d0).ii).toNat []).getD 0 d0).ii), DC.s (((((v1.getD 1 d0).ll).getD ((v1.getD 3 d0).ii).toNat []).getD 1 d0).ss), DC.sl (((((v1.getD 1 d0).ll).getD ((v1.getD 3 d0).ii).toNat []).getD 2 d0).ll), DC.sl (((((v1.getD 1 d0).ll).getD ((v1.getD 3 d0).ii).toNat []).getD 3 d0).ll), DC.i (((((v1.getD 0 d0).ll).getD ((v1.getD 3 d0).ii).toNat []).getD 0 d0).ii), DC.s (((((v1.getD 0 d0).ll).getD ((v1.getD 3 d0).ii).toNat []).getD 1 d0).ss), DC.sl (((((v1.getD 0 d0).ll).getD ((v1.getD 3 d0).ii).toNat []).getD 2 d0).ll), DC.sl (((((v1.getD 0 d0).ll).getD ((v1.getD 3 d0).ii).toNat []).getD 3 d0).ll)]).bindR fun r2 =>
            if (!((r2.getD 0 d0).bb)) = true then
              .ret [DC.b false]
            else
              .norm [DC.sl ((v1.getD 0 d0).ll), DC.sl ((v1.getD 1 d0).ll), DC.i ((v1.getD 2 d0).ii), DC.i ((v1.getD 3 d0).ii)]
          else
            .fail
        else
          .fail) 1 fun v3 =>
      .norm [DC.sl ((v3.getD 0 d0).ll), DC.sl ((v3.getD 1 d0).ll), DC.i ((v3.getD 2 d0).ii), DC.i (IntKind.i64.wrap ((v3.getD 3 d0).ii + (1 : Int)))]
    else
      .ex 0 []
/-- slices.EqualFunc[[]loop.example/g00964/impl.Value,[]loop.example/g00964/impl.Value,loop.example/g00964/impl.Value,loop.example/g00964/impl.Value] -/
noncomputable def E_slices_EqualFunc_impl_Value__impl_SameValue (a : List DC) : Out :=
    if ((((a.getD 0 d0).ll).length : Int) != (((a.getD 1 d0).ll).length : Int)) = true then
      .ret [DC.b false]
    else
      Out.andThenB (Loop E_slices_EqualFunc_impl_Value__impl_SameValueL1 [DC.sl ((a.getD 1 d0).ll), DC.sl ((a.getD 0 d0).ll), DC.i (((a.getD 0 d0).ll).length : Int), DC.i (0 : Int)]) 0 fun v4 =>
      .ret [DC.b true]
theorem eq_slices_EqualFunc_impl_Value__impl_SameValue (a : List DC) : r_slices_EqualFunc_impl_Value__impl_SameValue a = E_slices_EqualFunc_impl_Value__impl_SameValue a := (Run_eq cfg 141 h_slices_EqualFunc_impl_Value__impl_SameValue a).trans (by kernel_rfl)
/-- loop.example/g00964/impl.SameArgs -/
noncomputable def E_impl_SameArgs (a : List DC) : Out :=
    (r_slices_EqualFunc_impl_Arg__impl_SameArgs_1 [DC.sl ((a.getD 0 d0).ll), DC.sl ((a.getD 1 d0).ll)]).bindR fun r1 =>
    .ret [DC.b ((r1.getD 0 d0).bb)]
theorem eq_impl_SameArgs (a : List DC) : r_impl_SameArgs a = E_impl_SameArgs a := (Run_eq cfg 126 h_impl_SameArgs a).trans (by kernel_rfl)
noncomputable def E_slices_EqualFunc_impl_Arg__impl_SameArgs_1L1 : List DC → Out := fun v1 =>
    if (decide ((v1.getD 3 d0).ii < (v1.getD 2 d0).ii)) = true then
      Out.andThenB (if 169 = 169 ∧ 0 ≤ (v1.getD 3 d0).ii ∧ (v1.getD 3 d0).ii < (((v1.getD 1 d0).ll).length : Int) then
          if 169 = 169 ∧ 0 ≤ (v1.getD 3 d0).ii ∧ (v1.getD 3 d0).ii < (((v1.getD 0 d0).ll).length : Int) then
            (r_impl_SameArgs_1 [DC.s (((((v1.getD 1 d0).ll).getD ((v1.getD 3 d0).ii).toNat []).getD 0 d0).ss), DC.i (((((v1.getD 1 d0).ll).getD ((v1.getD 3 d0).ii).toNat []).getD 1 d0).ii), DC.s (((((v1.getD 1 d0).ll).getD ((v1.getD 3 d0).ii).toNat []).getD 2 d0).ss), DC.sl (((((v1.getD 1 d0).ll).getD ((v1.getD 3 d0).ii).toNat []).getD 3 d0).ll), DC.sl (((((v1.getD 1 d0).ll).getD ((v1.getD 3 d0).ii).toNat []).getD 4 d0).ll), DC.s (((((v1.getD 0 d0).ll).getD ((v1.getD 3 d0).ii).toNat []).getD 0 d0).ss), DC.i (((((v1.getD 0 d0).ll).getD ((v1.getD 3 d0).ii).toNat []).getD 1 d0).ii), DC.s (((((v1.getD 0 d0).ll).getD ((v1.getD 3 d0).ii).toNat []).getD 2 d0).ss), DC.sl (((((v1.getD 0 d0).ll).getD ((v1.getD 3 d0).ii).toNat []).getD 3 d0).ll), DC.sl (((((v1.getD 0 d0).ll).getD ((v1.getD 3 d0).ii).toNat []).getD 4 d0).ll)]).bindR fun r2 =>
            if (!((r2.getD 0 d0).bb)) = true then
              .ret [DC.b false]
            else
              .norm [DC.sl ((v1.getD 0 d0).ll), DC.sl ((v1.getD 1 d0).ll), DC.i ((v1.getD 2 d0).ii), DC.i ((v1.getD 3 d0).ii)]
          else
            .fail
        else
          .fail) 1 fun v3 =>
      .norm [DC.sl ((v3.getD 0 d0).ll), DC.sl ((v3.getD 1 d0).ll), DC.i ((v3.getD 2 d0).ii), DC.i (IntKind.i64.wrap ((v3.getD 3 d0).ii + (1 : Int)))]
    else
      .ex 0 []
/-- slices.EqualFunc[[]loop.example/g00964/impl.Arg,[]loop.example/g00964/impl.Arg,loop.example/g00964/impl.Arg,loop.example/g00964/impl.Arg] -/
noncomputable def E_slices_EqualFunc_impl_Arg__impl_SameArgs_1 (a : List DC) : Out :=
    if ((((a.getD 0 d0).ll).length : Int) != (((a.getD 1 d0).ll).length : Int)) = true then
      .ret [DC.b false]
    else
      Out.andThenB (Loop E_slices_EqualFunc_impl_Arg__impl_SameArgs_1L1 [DC.sl ((a.getD 1 d0).ll), DC.sl ((a.getD 0 d0).ll), DC.i (((a.getD 0 d0).ll).length : Int), DC.i (0 : Int)]) 0 fun v4 =>
      .ret [DC.b true]
theorem eq_slices_EqualFunc_impl_Arg__impl_SameArgs_1 (a : List DC) : r_slices_EqualFunc_impl_Arg__impl_SameArgs_1 a = E_slices_EqualFunc_impl_Arg__impl_SameArgs_1 a := (Run_eq cfg 142 h_slices_EqualFunc_impl_Arg__impl_SameArgs_1 a).trans (by kernel_rfl)
/-- loop.example/g00964/impl.SameArgs$1 -/
noncomputable def E_impl_SameArgs_1 (a : List DC) : Out :=
    Out.andThen (if ((a.getD 0 d0).ss == (a.getD 5 d0).ss) = true then
        (r_impl_SameValue [DC.i ((a.getD 1 d0).ii), DC.s ((a.getD 2 d0).ss), DC.sl ((a.getD 3 d0).ll), DC.sl ((a.getD 4 d0).ll), DC.i ((a.getD 6 d0).ii), DC.s ((a.getD 7 d0).ss), DC.sl ((a.getD 8 d0).ll), DC.sl ((a.getD 9 d0).ll)]).bindR fun r1 =>
        .norm [DC.b ((r1.getD 0 d0).bb)]
      else
        .norm [DC.b false]) fun v2 =>
    .ret [DC.b ((v2.getD 0 d0).bb)]
theorem eq_impl_SameArgs_1 (a : List DC) : r_impl_SameArgs_1 a = E_impl_SameArgs_1 a := (Run_eq cfg 143 h_impl_SameArgs_1 a).trans (by kernel_rfl)
end Go.Proofs.YtciandfkncadgaaV
