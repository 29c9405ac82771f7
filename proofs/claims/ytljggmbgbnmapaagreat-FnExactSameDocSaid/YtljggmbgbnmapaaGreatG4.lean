/- What the functions do, and that they do (written by a program). -/
import Derived.Test.YtljggmbgbnmapaaGreatG0
namespace Go.Proofs.YtljggmbgbnmapaaGreatV
open Go
set_option linter.unusedVariables false
set_option maxRecDepth 100000
/-- loop.example/g00964/laws.szFieldDef -/
noncomputable def E_laws_szFieldDef (a : List DC) : Out :=
    if (decide ((IntKind.i64.wrap ((a.getD 6 d0).ii - (((a.getD 0 d0).ss).length : Int))) < (0 : Int))) = true then
      .ret [DC.i (-1 : Int)]
    else
      if (decide ((IntKind.i64.wrap ((IntKind.i64.wrap ((a.getD 6 d0).ii - (((a.getD 0 d0).ss).length : Int))) - (((a.getD 1 d0).ss).length : Int))) < (0 : Int))) = true then
        .ret [DC.i (-1 : Int)]
      else
        (r_laws_szInDefS [DC.sl ((a.getD 2 d0).ll), DC.i (IntKind.i64.wrap ((IntKind.i64.wrap ((a.getD 6 d0).ii - (((a.getD 0 d0).ss).length : Int))) - (((a.getD 1 d0).ss).length : Int)))]).bindR fun r1 =>
        if (decide ((r1.getD 0 d0).ii < (0 : Int))) = true then
          .ret [DC.i (-1 : Int)]
        else
          (r_laws_szType [DC.s ((a.getD 3 d0).ss), DC.s ((a.getD 4 d0).ss), DC.i ((r1.getD 0 d0).ii)]).bindR fun r2 =>
          if (decide ((r2.getD 0 d0).ii < (0 : Int))) = true then
            .ret [DC.i (-1 : Int)]
          else
            (r_laws_szDirS [DC.sl ((a.getD 5 d0).ll), DC.i ((r2.getD 0 d0).ii)]).bindR fun r3 =>
            if (decide ((r3.getD 0 d0).ii < (0 : Int))) = true then
              .ret [DC.i (-1 : Int)]
            else
              .ret [DC.i ((r3.getD 0 d0).ii)]
theorem eq_laws_szFieldDef (a : List DC) : r_laws_szFieldDef a = E_laws_szFieldDef a := (Run_eq cfg 81 h_laws_szFieldDef a).trans (by kernel_rfl)
/-- loop.example/g00964/laws.szInDef -/
noncomputable def E_laws_szInDef (a : List DC) : Out :=
    if (decide ((IntKind.i64.wrap ((a.getD 10 d0).ii - (((a.getD 0 d0).ss).length : Int))) < (0 : Int))) = true then
      .ret [DC.i (-1 : Int)]
    else
      if (decide ((IntKind.i64.wrap ((IntKind.i64.wrap ((a.getD 10 d0).ii - (((a.getD 0 d0).ss).length : Int))) - (((a.getD 1 d0).ss).length : Int))) < (0 : Int))) = true then
        .ret [DC.i (-1 : Int)]
      else
        (r_laws_szType [DC.s ((a.getD 2 d0).ss), DC.s ((a.getD 3 d0).ss), DC.i (IntKind.i64.wrap ((IntKind.i64.wrap ((a.getD 10 d0).ii - (((a.getD 0 d0).ss).length : Int))) - (((a.getD 1 d0).ss).length : Int)))]).bindR fun r1 =>
        if (decide ((r1.getD 0 d0).ii < (0 : Int))) = true then
          .ret [DC.i (-1 : Int)]
        else
          (r_laws_szValue [DC.i ((a.getD 5 d0).ii), DC.s ((a.getD 6 d0).ss), DC.sl ((a.getD 7 d0).ll), DC.sl ((a.getD 8 d0).ll), DC.i ((r1.getD 0 d0).ii)]).bindR fun r2 =>
          if (decide ((r2.getD 0 d0).ii < (0 : Int))) = true then
            .ret [DC.i (-1 : Int)]
          else
            (r_laws_szDirS [DC.sl ((a.getD 9 d0).ll), DC.i ((r2.getD 0 d0).ii)]).bindR fun r3 =>
            if (decide ((r3.getD 0 d0).ii < (0 : Int))) = true then
              .ret [DC.i (-1 : Int)]
            else
              .ret [DC.i ((r3.getD 0 d0).ii)]
theorem eq_laws_szInDef (a : List DC) : r_laws_szInDef a = E_laws_szInDef a := (Run_eq cfg 82 h_laws_szInDef a).trans (by kernel_rfl)
/-- loop.example/g00964/laws.szEnumDef -/
noncomputable def E_laws_szEnumDef (a : List DC) : Out :=
    if (decide ((IntKind.i64.wrap ((a.getD 3 d0).ii - (((a.getD 0 d0).ss).length : Int))) < (0 : Int))) = true then
      .ret [DC.i (-1 : Int)]
    else
      if (decide ((IntKind.i64.wrap ((IntKind.i64.wrap ((a.getD 3 d0).ii - (((a.getD 0 d0).ss).length : Int))) - (((a.getD 1 d0).ss).length : Int))) < (0 : Int))) = true then
        .ret [DC.i (-1 : Int)]
      else
        (r_laws_szDirS [DC.sl ((a.getD 2 d0).ll), DC.i (IntKind.i64.wrap ((IntKind.i64.wrap ((a.getD 3 d0).ii - (((a.getD 0 d0).ss).length : Int))) - (((a.getD 1 d0).ss).length : Int)))]).bindR fun r1 =>
        if (decide ((r1.getD 0 d0).ii < (0 : Int))) = true then
          .ret [DC.i (-1 : Int)]
        else
          .ret [DC.i ((r1.getD 0 d0).ii)]
theorem eq_laws_szEnumDef (a : List DC) : r_laws_szEnumDef a = E_laws_szEnumDef a := (Run_eq cfg 83 h_laws_szEnumDef a).trans (by kernel_rfl)
/-- loop.example/g00964/laws.szRoot -/
noncomputable def E_laws_szRoot (a : List DC) : Out :=
    if (decide ((IntKind.i64.wrap ((a.getD 2 d0).ii - (((a.getD 1 d0).ss).length : Int))) < (0 : Int))) = true then
      .ret [DC.i (-1 : Int)]
    else
      .ret [DC.i (IntKind.i64.wrap ((a.getD 2 d0).ii - (((a.getD 1 d0).ss).length : Int)))]
theorem eq_laws_szRoot (a : List DC) : r_laws_szRoot a = E_laws_szRoot a := (Run_eq cfg 84 h_laws_szRoot a).trans (by kernel_rfl)
/-- loop.example/g00964/laws.toVarDef -/
noncomputable def E_laws_toVarDef (a : List DC) : Out :=
    (r_laws_toType [DC.s ((a.getD 1 d0).ss), DC.s ((a.getD 2 d0).ss)]).bindR fun r1 =>
    (r_laws_toValue [DC.i ((a.getD 4 d0).ii), DC.s ((a.getD 5 d0).ss), DC.sl ((a.getD 6 d0).ll), DC.sl ((a.getD 7 d0).ll)]).bindR fun r2 =>
    (r_laws_toDirS [DC.sl ((a.getD 8 d0).ll)]).bindR fun r3 =>
    .ret [DC.s ((a.getD 0 d0).ss), DC.s ((r1.getD 0 d0).ss), DC.s ((r1.getD 1 d0).ss), DC.b ((a.getD 3 d0).bb), DC.i ((r2.getD 0 d0).ii), DC.s ((r2.getD 1 d0).ss), DC.sl ((r2.getD 2 d0).ll), DC.sl ((r2.getD 3 d0).ll), DC.sl ((r3.getD 0 d0).ll)]
theorem eq_laws_toVarDef (a : List DC) : r_laws_toVarDef a = E_laws_toVarDef a := (Run_eq cfg 85 h_laws_toVarDef a).trans (by kernel_rfl)
/-- loop.example/g00964/laws.toDir -/
noncomputable def E_laws_toDir (a : List DC) : Out :=
    (r_laws_toArgS [DC.sl ((a.getD 1 d0).ll)]).bindR fun r1 =>
    .ret [DC.s ((a.getD 0 d0).ss), DC.sl ((r1.getD 0 d0).ll)]
theorem eq_laws_toDir (a : List DC) : r_laws_toDir a = E_laws_toDir a := (Run_eq cfg 86 h_laws_toDir a).trans (by kernel_rfl)
/-- loop.example/g00964/laws.toSel -/
noncomputable def E_laws_toSel (a : List DC) : Out :=
    (r_laws_toArgS [DC.sl ((a.getD 4 d0).ll)]).bindR fun r1 =>
    (r_laws_toDirS [DC.sl ((a.getD 5 d0).ll)]).bindR fun r2 =>
    (r_laws_toSelS [DC.sl ((a.getD 6 d0).ll)]).bindR fun r3 =>
    .ret [DC.i ((a.getD 0 d0).ii), DC.s ((a.getD 1 d0).ss), DC.s ((a.getD 2 d0).ss), DC.s ((a.getD 3 d0).ss), DC.sl ((r1.getD 0 d0).ll), DC.sl ((r2.getD 0 d0).ll), DC.sl ((r3.getD 0 d0).ll)]
theorem eq_laws_toSel (a : List DC) : r_laws_toSel a = E_laws_toSel a := (Run_eq cfg 87 h_laws_toSel a).trans (by kernel_rfl)
/-- loop.example/g00964/laws.toFieldDef -/
noncomputable def E_laws_toFieldDef (a : List DC) : Out :=
    (r_laws_toInDefS [DC.sl ((a.getD 2 d0).ll)]).bindR fun r1 =>
    (r_laws_toType [DC.s ((a.getD 3 d0).ss), DC.s ((a.getD 4 d0).ss)]).bindR fun r2 =>
    (r_laws_toDirS [DC.sl ((a.getD 5 d0).ll)]).bindR fun r3 =>
    .ret [DC.s ((a.getD 0 d0).ss), DC.s ((a.getD 1 d0).ss), DC.sl ((r1.getD 0 d0).ll), DC.s ((r2.getD 0 d0).ss), DC.s ((r2.getD 1 d0).ss), DC.sl ((r3.getD 0 d0).ll)]
theorem eq_laws_toFieldDef (a : List DC) : r_laws_toFieldDef a = E_laws_toFieldDef a := (Run_eq cfg 88 h_laws_toFieldDef a).trans (by kernel_rfl)
/-- loop.example/g00964/laws.toInDef -/
noncomputable def E_laws_toInDef (a : List DC) : Out :=
    (r_laws_toType [DC.s ((a.getD 2 d0).ss), DC.s ((a.getD 3 d0).ss)]).bindR fun r1 =>
    (r_laws_toValue [DC.i ((a.getD 5 d0).ii), DC.s ((a.getD 6 d0).ss), DC.sl ((a.getD 7 d0).ll), DC.sl ((a.getD 8 d0).ll)]).bindR fun r2 =>
    (r_laws_toDirS [DC.sl ((a.getD 9 d0).ll)]).bindR fun r3 =>
    .ret [DC.s ((a.getD 0 d0).ss), DC.s ((a.getD 1 d0).ss), DC.s ((r1.getD 0 d0).ss), DC.s ((r1.getD 1 d0).ss), DC.b ((a.getD 4 d0).bb), DC.i ((r2.getD 0 d0).ii), DC.s ((r2.getD 1 d0).ss), DC.sl ((r2.getD 2 d0).ll), DC.sl ((r2.getD 3 d0).ll), DC.sl ((r3.getD 0 d0).ll)]
theorem eq_laws_toInDef (a : List DC) : r_laws_toInDef a = E_laws_toInDef a := (Run_eq cfg 89 h_laws_toInDef a).trans (by kernel_rfl)
/-- loop.example/g00964/laws.toEnumDef -/
noncomputable def E_laws_toEnumDef (a : List DC) : Out :=
    (r_laws_toDirS [DC.sl ((a.getD 2 d0).ll)]).bindR fun r1 =>
    .ret [DC.s ((a.getD 0 d0).ss), DC.s ((a.getD 1 d0).ss), DC.sl ((r1.getD 0 d0).ll)]
theorem eq_laws_toEnumDef (a : List DC) : r_laws_toEnumDef a = E_laws_toEnumDef a := (Run_eq cfg 90 h_laws_toEnumDef a).trans (by kernel_rfl)
/-- loop.example/g00964/laws.toRoot -/
noncomputable def E_laws_toRoot (a : List DC) : Out :=
    .ret [DC.i ((a.getD 0 d0).ii), DC.s ((a.getD 1 d0).ss)]
theorem eq_laws_toRoot (a : List DC) : r_laws_toRoot a = E_laws_toRoot a := (Run_eq cfg 91 h_laws_toRoot a).trans (by kernel_rfl)
/-- loop.example/g00964/impl.SameValue -/
noncomputable def E_impl_SameValue (a : List DC) : Out :=
    Out.andThen (if ((a.getD 0 d0).ii == (a.getD 4 d0).ii) = true then
        if ((a.getD 1 d0).ss == (a.getD 5 d0).ss) = true then
          (r_slices_Equal_string [DC.sl ((a.getD 3 d0).ll), DC.sl ((a.getD 7 d0).ll)]).bindR fun r1 =>
          if (r1.getD 0 d0).bb = true then
            (r_slices_EqualFunc_impl_Value__impl_SameValue [DC.sl ((a.getD 2 d0).ll), DC.sl ((a.getD 6 d0).ll)]).bindR fun r2 =>
            .norm [DC.b ((r2.getD 0 d0).bb)]
          else
            .norm [DC.b false]
        else
          .norm [DC.b false]
      else
        .norm [DC.b false]) fun v3 =>
    .ret [DC.b ((v3.getD 0 d0).bb)]
theorem eq_impl_SameValue (a : List DC) : r_impl_SameValue a = E_impl_SameValue a := (Run_eq cfg 36 h_impl_SameValue a).trans (by kernel_rfl)
/-- loop.example/g00964/impl.sameDirs$1 -/
noncomputable def E_impl_sameDirs_1 (a : List DC) : Out :=
    Out.andThen (if ((a.getD 0 d0).ss == (a.getD 2 d0).ss) = true then
        (r_impl_SameArgs [DC.sl ((a.getD 1 d0).ll), DC.sl ((a.getD 3 d0).ll)]).bindR fun r1 =>
        .norm [DC.b ((r1.getD 0 d0).bb)]
      else
        .norm [DC.b false]) fun v2 =>
    .ret [DC.b ((v2.getD 0 d0).bb)]
theorem eq_impl_sameDirs_1 (a : List DC) : r_impl_sameDirs_1 a = E_impl_sameDirs_1 a := (Run_eq cfg 38 h_impl_sameDirs_1 a).trans (by kernel_rfl)
/-- loop.example/g00964/impl.SameArgs -/
noncomputable def E_impl_SameArgs (a : List DC) : Out :=
    (r_slices_EqualFunc_impl_Arg__impl_SameArgs_1 [DC.sl ((a.getD 0 d0).ll), DC.sl ((a.getD 1 d0).ll)]).bindR fun r1 =>
    .ret [DC.b ((r1.getD 0 d0).bb)]
theorem eq_impl_SameArgs (a : List DC) : r_impl_SameArgs a = E_impl_SameArgs a := (Run_eq cfg 39 h_impl_SameArgs a).trans (by kernel_rfl)
/-- loop.example/g00964/impl.sameField -/
noncomputable def E_impl_sameField (a : List DC) : Out :=
    Out.andThen (if ((a.getD 0 d0).ss == (a.getD 6 d0).ss) = true then
        if ((a.getD 1 d0).ss == (a.getD 7 d0).ss) = true then
          (r_slices_EqualFunc_impl_InDef__impl_sameIn [DC.sl ((a.getD 2 d0).ll), DC.sl ((a.getD 8 d0).ll)]).bindR fun r1 =>
          if (r1.getD 0 d0).bb = true then
            if (((a.getD 3 d0).ss == (a.getD 9 d0).ss) && (((a.getD 4 d0).ss == (a.getD 10 d0).ss) && true)) = true then
              (r_impl_sameDirs [DC.sl ((a.getD 5 d0).ll), DC.sl ((a.getD 11 d0).ll)]).bindR fun r2 =>
              .norm [DC.b ((r2.getD 0 d0).bb)]
            else
              .norm [DC.b false]
          else
            .norm [DC.b false]
        else
          .norm [DC.b false]
      else
        .norm [DC.b false]) fun v3 =>
    .ret [DC.b ((v3.getD 0 d0).bb)]
theorem eq_impl_sameField (a : List DC) : r_impl_sameField a = E_impl_sameField a := (Run_eq cfg 42 h_impl_sameField a).trans (by kernel_rfl)
/-- loop.example/g00964/impl.sameIn -/
noncomputable def E_impl_sameIn (a : List DC) : Out :=
    Out.andThen (if ((a.getD 0 d0).ss == (a.getD 10 d0).ss) = true then
        if ((a.getD 1 d0).ss == (a.getD 11 d0).ss) = true then
          if (((a.getD 2 d0).ss == (a.getD 12 d0).ss) && (((a.getD 3 d0).ss == (a.getD 13 d0).ss) && true)) = true then
            if ((a.getD 4 d0).bb == (a.getD 14 d0).bb) = true then
              (r_impl_SameValue [DC.i ((a.getD 5 d0).ii), DC.s ((a.getD 6 d0).ss), DC.sl ((a.getD 7 d0).ll), DC.sl ((a.getD 8 d0).ll), DC.i ((a.getD 15 d0).ii), DC.s ((a.getD 16 d0).ss), DC.sl ((a.getD 17 d0).ll), DC.sl ((a.getD 18 d0).ll)]).bindR fun r1 =>
              if (r1.getD 0 d0).bb = true then
                (r_impl_sameDirs [DC.sl ((a.getD 9 d0).ll), DC.sl ((a.getD 19 d0).ll)]).bindR fun r2 =>
                .norm [DC.b ((r2.getD 0 d0).bb)]
              else
                .norm [DC.b false]
            else
              .norm [DC.b false]
          else
            .norm [DC.b false]
        else
          .norm [DC.b false]
      else
        .norm [DC.b false]) fun v3 =>
    .ret [DC.b ((v3.getD 0 d0).bb)]
theorem eq_impl_sameIn (a : List DC) : r_impl_sameIn a = E_impl_sameIn a := (Run_eq cfg 44 h_impl_sameIn a).trans (by kernel_rfl)
/-- loop.example/g00964/impl.sameEnum -/
noncomputable def E_impl_sameEnum (a : List DC) : Out :=
    Out.andThen (if ((a.getD 0 d0).ss == (a.getD 3 d0).ss) = true then
        if ((a.getD 1 d0).ss == (a.getD 4 d0).ss) = true then
          (r_impl_sameDirs [DC.sl ((a.getD 2 d0).ll), DC.sl ((a.getD 5 d0).ll)]).bindR fun r1 =>
          .norm [DC.b ((r1.getD 0 d0).bb)]
        else
          .norm [DC.b false]
      else
        .norm [DC.b false]) fun v2 =>
    .ret [DC.b ((v2.getD 0 d0).bb)]
theorem eq_impl_sameEnum (a : List DC) : r_impl_sameEnum a = E_impl_sameEnum a := (Run_eq cfg 46 h_impl_sameEnum a).trans (by kernel_rfl)
/-- loop.example/g00964/laws.eqVarDef -/
noncomputable def E_laws_eqVarDef (a : List DC) : Out :=
    if (!((a.getD 0 d0).ss == (a.getD 9 d0).ss)) = true then
      .ret [DC.b false]
    else
      (r_laws_eqType [DC.s ((a.getD 1 d0).ss), DC.s ((a.getD 2 d0).ss), DC.s ((a.getD 10 d0).ss), DC.s ((a.getD 11 d0).ss)]).bindR fun r1 =>
      if (!((r1.getD 0 d0).bb)) = true then
        .ret [DC.b false]
      else
        if (!((a.getD 3 d0).bb == (a.getD 12 d0).bb)) = true then
          .ret [DC.b false]
        else
          (r_laws_eqValue [DC.i ((a.getD 4 d0).ii), DC.s ((a.getD 5 d0).ss), DC.sl ((a.getD 6 d0).ll), DC.sl ((a.getD 7 d0).ll), DC.i ((a.getD 13 d0).ii), DC.s ((a.getD 14 d0).ss), DC.sl ((a.getD 15 d0).ll), DC.sl ((a.getD 16 d0).ll)]).bindR fun r2 =>
          if (!((r2.getD 0 d0).bb)) = true then
            .ret [DC.b false]
          else
            (r_laws_eqDirS [DC.sl ((a.getD 8 d0).ll), DC.sl ((a.getD 17 d0).ll)]).bindR fun r3 =>
            if (!((r3.getD 0 d0).bb)) = true then
              .ret [DC.b false]
            else
              .ret [DC.b true]
theorem eq_laws_eqVarDef (a : List DC) : r_laws_eqVarDef a = E_laws_eqVarDef a := (Run_eq cfg 92 h_laws_eqVarDef a).trans (by kernel_rfl)
/-- loop.example/g00964/laws.eqDir -/
noncomputable def E_laws_eqDir (a : List DC) : Out :=
    if (!((a.getD 0 d0).ss == (a.getD 2 d0).ss)) = true then
      .ret [DC.b false]
    else
      (r_laws_eqArgS [DC.sl ((a.getD 1 d0).ll), DC.sl ((a.getD 3 d0).ll)]).bindR fun r1 =>
      if (!((r1.getD 0 d0).bb)) = true then
        .ret [DC.b false]
      else
        .ret [DC.b true]
theorem eq_laws_eqDir (a : List DC) : r_laws_eqDir a = E_laws_eqDir a := (Run_eq cfg 93 h_laws_eqDir a).trans (by kernel_rfl)
/-- loop.example/g00964/laws.eqSel -/
noncomputable def E_laws_eqSel (a : List DC) : Out :=
    if ((a.getD 0 d0).ii != (a.getD 7 d0).ii) = true then
      .ret [DC.b false]
    else
      if (!((a.getD 1 d0).ss == (a.getD 8 d0).ss)) = true then
        .ret [DC.b false]
      else
        if (!((a.getD 2 d0).ss == (a.getD 9 d0).ss)) = true then
          .ret [DC.b false]
        else
          if (!((a.getD 3 d0).ss == (a.getD 10 d0).ss)) = true then
            .ret [DC.b false]
          else
            (r_laws_eqArgS [DC.sl ((a.getD 4 d0).ll), DC.sl ((a.getD 11 d0).ll)]).bindR fun r1 =>
            if (!((r1.getD 0 d0).bb)) = true then
              .ret [DC.b false]
            else
              (r_laws_eqDirS [DC.sl ((a.getD 5 d0).ll), DC.sl ((a.getD 12 d0).ll)]).bindR fun r2 =>
              if (!((r2.getD 0 d0).bb)) = true then
                .ret [DC.b false]
              else
                (r_laws_eqSelS [DC.sl ((a.getD 6 d0).ll), DC.sl ((a.getD 13 d0).ll)]).bindR fun r3 =>
                if (!((r3.getD 0 d0).bb)) = true then
                  .ret [DC.b false]
                else
                  .ret [DC.b true]
theorem eq_laws_eqSel (a : List DC) : r_laws_eqSel a = E_laws_eqSel a := (Run_eq cfg 94 h_laws_eqSel a).trans (by kernel_rfl)
/-- loop.example/g00964/laws.eqFieldDef -/
noncomputable def E_laws_eqFieldDef (a : List DC) : Out :=
    if (!((a.getD 0 d0).ss == (a.getD 6 d0).ss)) = true then
      .ret [DC.b false]
    else
      if (!((a.getD 1 d0).ss == (a.getD 7 d0).ss)) = true then
        .ret [DC.b false]
      else
        (r_laws_eqInDefS [DC.sl ((a.getD 2 d0).ll), DC.sl ((a.getD 8 d0).ll)]).bindR fun r1 =>
        if (!((r1.getD 0 d0).bb)) = true then
          .ret [DC.b false]
        else
          (r_laws_eqType [DC.s ((a.getD 3 d0).ss), DC.s ((a.getD 4 d0).ss), DC.s ((a.getD 9 d0).ss), DC.s ((a.getD 10 d0).ss)]).bindR fun r2 =>
          if (!((r2.getD 0 d0).bb)) = true then
            .ret [DC.b false]
          else
            (r_laws_eqDirS [DC.sl ((a.getD 5 d0).ll), DC.sl ((a.getD 11 d0).ll)]).bindR fun r3 =>
            if (!((r3.getD 0 d0).bb)) = true then
              .ret [DC.b false]
            else
              .ret [DC.b true]
theorem eq_laws_eqFieldDef (a : List DC) : r_laws_eqFieldDef a = E_laws_eqFieldDef a := (Run_eq cfg 95 h_laws_eqFieldDef a).trans (by kernel_rfl)
/-- loop.example/g00964/laws.eqInDef -/
noncomputable def E_laws_eqInDef (a : List DC) : Out :=
    if (!((a.getD 0 d0).ss == (a.getD 10 d0).ss)) = true then
      .ret [DC.b false]
    else
      if (!((a.getD 1 d0).ss == (a.getD 11 d0).ss)) = true then
        .ret [DC.b false]
      else
        (r_laws_eqType [DC.s ((a.getD 2 d0).ss), DC.s ((a.getD 3 d0).ss), DC.s ((a.getD 12 d0).ss), DC.s ((a.getD 13 d0).ss)]).bindR fun r1 =>
        if (!((r1.getD 0 d0).bb)) = true then
          .ret [DC.b false]
        else
          if (!((a.getD 4 d0).bb == (a.getD 14 d0).bb)) = true then
            .ret [DC.b false]
          else
            (r_laws_eqValue [DC.i ((a.getD 5 d0).ii), DC.s ((a.getD 6 d0).ss), DC.sl ((a.getD 7 d0).ll), DC.sl ((a.getD 8 d0).ll), DC.i ((a.getD 15 d0).ii), DC.s ((a.getD 16 d0).ss), DC.sl ((a.getD 17 d0).ll), DC.sl ((a.getD 18 d0).ll)]).bindR fun r2 =>
            if (!((r2.getD 0 d0).bb)) = true then
              .ret [DC.b false]
            else
              (r_laws_eqDirS [DC.sl ((a.getD 9 d0).ll), DC.sl ((a.getD 19 d0).ll)]).bindR fun r3 =>
              if (!((r3.getD 0 d0).bb)) = true then
                .ret [DC.b false]
              else
                .ret [DC.b true]
theorem eq_laws_eqInDef (a : List DC) : r_laws_eqInDef a = E_laws_eqInDef a := (Run_eq cfg 96 h_laws_eqInDef a).trans (by kernel_rfl)
/-- loop.example/g00964/laws.eqEnumDef -/
noncomputable def E_laws_eqEnumDef (a : List DC) : Out :=
    if (!((a.getD 0 d0).ss == (a.getD 3 d0).ss)) = true then
      .ret [DC.b false]
    else
      if (!((a.getD 1 d0).ss == (a.getD 4 d0).ss)) = true then
        .ret [DC.b false]
      else
        (r_laws_eqDirS [DC.sl ((a.getD 2 d0).ll), DC.sl ((a.getD 5 d0).ll)]).bindR fun r1 =>
        if (!((r1.getD 0 d0).bb)) = true then
          .ret [DC.b false]
        else
          .ret [DC.b true]
theorem eq_laws_eqEnumDef (a : List DC) : r_laws_eqEnumDef a = E_laws_eqEnumDef a := (Run_eq cfg 97 h_laws_eqEnumDef a).trans (by kernel_rfl)
/-- loop.example/g00964/laws.eqRoot -/
noncomputable def E_laws_eqRoot (a : List DC) : Out :=
    if ((a.getD 0 d0).ii != (a.getD 2 d0).ii) = true then
      .ret [DC.b false]
    else
      if (!((a.getD 1 d0).ss == (a.getD 3 d0).ss)) = true then
        .ret [DC.b false]
      else
        .ret [DC.b true]
theorem eq_laws_eqRoot (a : List DC) : r_laws_eqRoot a = E_laws_eqRoot a := (Run_eq cfg 98 h_laws_eqRoot a).trans (by kernel_rfl)
/-- loop.example/g00964/laws.szType -/
noncomputable def E_laws_szType (a : List DC) : Out :=
    if (decide ((IntKind.i64.wrap ((a.getD 2 d0).ii - (((a.getD 0 d0).ss).length : Int))) < (0 : Int))) = true then
      .ret [DC.i (-1 : Int)]
    else
      if (decide ((IntKind.i64.wrap ((IntKind.i64.wrap ((a.getD 2 d0).ii - (((a.getD 0 d0).ss).length : Int))) - (((a.getD 1 d0).ss).length : Int))) < (0 : Int))) = true then
        .ret [DC.i (-1 : Int)]
      else
        .ret [DC.i (IntKind.i64.wrap ((IntKind.i64.wrap ((a.getD 2 d0).ii - (((a.getD 0 d0).ss).length : Int))) - (((a.getD 1 d0).ss).length : Int)))]
theorem eq_laws_szType (a : List DC) : r_laws_szType a = E_laws_szType a := (Run_eq cfg 99 h_laws_szType a).trans (by kernel_rfl)
/-- loop.example/g00964/laws.szValue -/
noncomputable def E_laws_szValue (a : List DC) : Out :=
    if (decide ((IntKind.i64.wrap ((a.getD 4 d0).ii - (((a.getD 1 d0).ss).length : Int))) < (0 : Int))) = true then
      .ret [DC.i (-1 : Int)]
    else
      (r_laws_szValueS [DC.sl ((a.getD 2 d0).ll), DC.i (IntKind.i64.wrap ((a.getD 4 d0).ii - (((a.getD 1 d0).ss).length : Int)))]).bindR fun r1 =>
      if (decide ((r1.getD 0 d0).ii < (0 : Int))) = true then
        .ret [DC.i (-1 : Int)]
      else
        (r_laws_szStringS [DC.sl ((a.getD 3 d0).ll), DC.i ((r1.getD 0 d0).ii)]).bindR fun r2 =>
        if (decide ((r2.getD 0 d0).ii < (0 : Int))) = true then
          .ret [DC.i (-1 : Int)]
        else
          .ret [DC.i ((r2.getD 0 d0).ii)]
theorem eq_laws_szValue (a : List DC) : r_laws_szValue a = E_laws_szValue a := (Run_eq cfg 100 h_laws_szValue a).trans (by kernel_rfl)
noncomputable def E_laws_szArgSL1 : List DC → Out := fun v1 =>
    if (decide ((v1.getD 2 d0).ii < (((v1.getD 0 d0).ll).length : Int))) = true then
      Out.andThenB (if 185 = 185 ∧ 0 ≤ (v1.getD 2 d0).ii ∧ (v1.getD 2 d0).ii < (((v1.getD 0 d0).ll).length : Int) then
          (r_laws_szArg [DC.s (((((v1.getD 0 d0).ll).getD ((v1.getD 2 d0).ii).toNat []).getD 0 d0).ss), DC.i (((((v1.getD 0 d0).ll).getD ((v1.getD 2 d0).ii).toNat []).getD 1 d0).ii), DC.s (((((v1.getD 0 d0).ll).getD ((v1.getD 2 d0).ii).toNat []).getD 2 d0).ss), DC.sl (((((v1.getD 0 d0).ll).getD ((v1.getD 2 d0).ii).toNat []).getD 3 d0).ll), DC.sl (((((v1.getD 0 d0).ll).getD ((v1.getD 2 d0).ii).toNat []).getD 4 d0).ll), DC.i ((v1.getD 1 d0).ii)]).bindR fun r2 =>
          if (decide ((r2.getD 0 d0).ii < (0 : Int))) = true then
            .ret [DC.i (-1 : Int)]
          else
            .norm [DC.sl ((v1.getD 0 d0).ll), DC.i ((r2.getD 0 d0).ii), DC.i ((v1.getD 2 d0).ii)]
        else
          .fail) 1 fun v3 =>
      .norm [DC.sl ((v3.getD 0 d0).ll), DC.i ((v3.getD 1 d0).ii), DC.i (IntKind.i64.wrap ((v3.getD 2 d0).ii + (1 : Int)))]
    else
      .ex 0 [DC.i ((v1.getD 1 d0).ii)]
/-- loop.example/g00964/laws.szArgS -/
noncomputable def E_laws_szArgS (a : List DC) : Out :=
    if (decide ((IntKind.i64.wrap ((a.getD 1 d0).ii - (((a.getD 0 d0).ll).length : Int))) < (0 : Int))) = true then
      .ret [DC.i (-1 : Int)]
    else
      Out.andThenB (Loop E_laws_szArgSL1 [DC.sl ((a.getD 0 d0).ll), DC.i (IntKind.i64.wrap ((a.getD 1 d0).ii - (((a.getD 0 d0).ll).length : Int))), DC.i (0 : Int)]) 0 fun v4 =>
      .ret [DC.i ((v4.getD 0 d0).ii)]
theorem eq_laws_szArgS (a : List DC) : r_laws_szArgS a = E_laws_szArgS a := (Run_eq cfg 101 h_laws_szArgS a).trans (by kernel_rfl)
/-- loop.example/g00964/laws.toType -/
noncomputable def E_laws_toType (a : List DC) : Out :=
    .ret [DC.s ((a.getD 0 d0).ss), DC.s ((a.getD 1 d0).ss)]
theorem eq_laws_toType (a : List DC) : r_laws_toType a = E_laws_toType a := (Run_eq cfg 102 h_laws_toType a).trans (by kernel_rfl)
/-- loop.example/g00964/laws.toValue -/
noncomputable def E_laws_toValue (a : List DC) : Out :=
    (r_laws_toValueS [DC.sl ((a.getD 2 d0).ll)]).bindR fun r1 =>
    (r_laws_toStringS [DC.sl ((a.getD 3 d0).ll)]).bindR fun r2 =>
    .ret [DC.i ((a.getD 0 d0).ii), DC.s ((a.getD 1 d0).ss), DC.sl ((r1.getD 0 d0).ll), DC.sl ((r2.getD 0 d0).ll)]
theorem eq_laws_toValue (a : List DC) : r_laws_toValue a = E_laws_toValue a := (Run_eq cfg 103 h_laws_toValue a).trans (by kernel_rfl)
noncomputable def E_laws_toArgSL1 : List DC → Out := fun v1 =>
    if (decide ((v1.getD 2 d0).ii < (((v1.getD 0 d0).ll).length : Int))) = true then
      Out.andThenB (if 185 = 185 ∧ 0 ≤ (v1.getD 2 d0).ii ∧ (v1.getD 2 d0).ii < (((v1.getD 0 d0).ll).length : Int) then
          (r_laws_toArg [DC.s (((((v1.getD 0 d0).ll).getD ((v1.getD 2 d0).ii).toNat []).getD 0 d0).ss), DC.i (((((v1.getD 0 d0).ll).getD ((v1.getD 2 d0).ii).toNat []).getD 1 d0).ii), DC.s (((((v1.getD 0 d0).ll).getD ((v1.getD 2 d0).ii).toNat []).getD 2 d0).ss), DC.sl (((((v1.getD 0 d0).ll).getD ((v1.getD 2 d0).ii).toNat []).getD 3 d0).ll), DC.sl (((((v1.getD 0 d0).ll).getD ((v1.getD 2 d0).ii).toNat []).getD 4 d0).ll)]).bindR fun r2 =>
          if 103 = 103 ∧ 0 ≤ (v1.getD 2 d0).ii ∧ (v1.getD 2 d0).ii < (((v1.getD 1 d0).ll).length : Int) then
            .norm [DC.sl ((v1.getD 0 d0).ll), DC.sl (((v1.getD 1 d0).ll).set (((v1.getD 2 d0).ii).toNat) (setRunD (((v1.getD 1 d0).ll).getD (((v1.getD 2 d0).ii).toNat) []) 0 [DC.s ((r2.getD 0 d0).ss), DC.i ((r2.getD 1 d0).ii), DC.s ((r2.getD 2 d0).ss), DC.sl ((r2.getD 3 d0).ll), DC.sl ((r2.getD 4 d0).ll)])), DC.i ((v1.getD 2 d0).ii)]
          else
            .fail
        else
          .fail) 1 fun v3 =>
      .norm [DC.sl ((v3.getD 0 d0).ll), DC.sl ((v3.getD 1 d0).ll), DC.i (IntKind.i64.wrap ((v3.getD 2 d0).ii + (1 : Int)))]
    else
      .ex 0 [DC.sl ((v1.getD 1 d0).ll)]
/-- loop.example/g00964/laws.toArgS -/
noncomputable def E_laws_toArgS (a : List DC) : Out :=
    if 0 ≤ (((a.getD 0 d0).ll).length : Int) ∧ (((a.getD 0 d0).ll).length : Int) < (LIM : Int) ∧ (((a.getD 0 d0).ll).length : Int) = (((a.getD 0 d0).ll).length : Int) ∧ 88 ≤ 1024 ∧ 0 < 5 then
      Out.andThenB (Loop E_laws_toArgSL1 [DC.sl ((a.getD 0 d0).ll), DC.sl (List.replicate (((a.getD 0 d0).ll).length : Int).toNat [DC.s [], DC.i 0, DC.s [], DC.sl [], DC.sl []]), DC.i (0 : Int)]) 0 fun v4 =>
      .ret [DC.sl ((v4.getD 0 d0).ll)]
    else
      .fail
theorem eq_laws_toArgS (a : List DC) : r_laws_toArgS a = E_laws_toArgS a := (Run_eq cfg 104 h_laws_toArgS a).trans (by kernel_rfl)
noncomputable def E_slices_EqualFunc_impl_Value__impl_SameValueL1 : List DC → Out := fun v1 =>
    if (decide ((v1.getD 3 d0).ii < (v1.getD 2 d0).ii)) = true then
      Out.andThenB (if 77 = 77 ∧ 0 ≤ (v1.getD 3 d0).ii ∧ (v1.getD 3 d0).ii < (((v1.getD 1 d0).ll).length : Int) then
          if 77 = 77 ∧ 0 ≤ (v1.getD 3 d0).ii ∧ (v1.getD 3 d0).ii < (((v1.getD 0 d0).ll).length : Int) then
            (r_impl_SameValue [DC.i (((((v1.getD 1 d0).ll).getD ((v1.getD 3 d0).ii).toNat []).getD 0 d0).ii), DC.s (((((v1.getD 1 d0).ll).getD ((v1.getD 3 d0).ii).toNat []).getD 1 d0).ss), DC.sl (((((v1.getD 1 d0).ll).getD ((v1.getD 3 d0).ii).toNat []).getD 2 d0).ll), DC.sl (((((v1.getD 1 d0).ll).getD ((v1.getD 3 d0).ii).toNat []).getD 3 d0).ll), DC.i (((((v1.getD 0 d0).ll).getD ((v1.getD 3 d0).ii).toNat []).getD 0 d0).ii), DC.s (((((v1.getD 0 d0).ll).getD ((v1.getD 3 d0).ii).toNat []).getD 1 d0).ss), DC.sl (((((v1.getD 0 d0).ll).getD ((v1.getD 3 d0).ii).toNat []).getD 2 d0).ll), DC.sl (((((v1.getD 0 d0).ll).getD ((v1.getD 3 d0).ii).toNat []).getD 3 d0).ll)]).bindR fun r2 =>
            if (!((r2.getD 0 d0).bb)) = true then
              .ret [DC.b false]
            else
              .norm [DC.sl ((v1.getD 0 d0).ll), DC.sl ((v1.getD 1 d0).ll), DC.i ((v1.getD 2 d0).ii), DC.i ((v1.getD 3 d0).ii)]
          else
            .fail
        else
          .fail) 1 fun v3 =>
      .norm [DC.sl ((v3.getD 0 d0).ll), DC.sl ((v3.getD 1 d0).ll), DC.i ((v3.getD 2 d0).ii), DC.i (IntKind.i64.wrap ((v3.getD 3 d0).ii + (1 : Int)))]
    else
      .ex 0 []
/-- slices.EqualFunc[[]loop.example/g00964/impl.Value,[]loop.example/g00964/impl.Value,loop.example/g00964/impl.Value,loop.example/g00964/impl.Value] -/
noncomputable def E_slices_EqualFunc_impl_Value__impl_SameValue (a : List DC) : Out :=
    if ((((a.getD 0 d0).ll).length : Int) != (((a.getD 1 d0).ll).length : Int)) = true then
      .ret [DC.b false]
    else
      Out.andThenB (Loop E_slices_EqualFunc_impl_Value__impl_SameValueL1 [DC.sl ((a.getD 1 d0).ll), DC.sl ((a.getD 0 d0).ll), DC.i (((a.getD 0 d0).ll).length : Int), DC.i (0 : Int)]) 0 fun v4 =>
      .ret [DC.b true]
theorem eq_slices_EqualFunc_impl_Value__impl_SameValue (a : List DC) : r_slices_EqualFunc_impl_Value__impl_SameValue a = E_slices_EqualFunc_impl_Value__impl_SameValue a := (Run_eq cfg 67 h_slices_EqualFunc_impl_Value__impl_SameValue a).trans (by kernel_rfl)
noncomputable def E_slices_EqualFunc_impl_Arg__impl_SameArgs_1L1 : List DC → Out := fun v1 =>
    if (decide ((v1.getD 3 d0).ii < (v1.getD 2 d0).ii)) = true then
      Out.andThenB (if 103 = 103 ∧ 0 ≤ (v1.getD 3 d0).ii ∧ (v1.getD 3 d0).ii < (((v1.getD 1 d0).ll).length : Int) then
          if 103 = 103 ∧ 0 ≤ (v1.getD 3 d0).ii ∧ (v1.getD 3 d0).ii < (((v1.getD 0 d0).ll).length : Int) then
            (r_impl_SameArgs_1 [DC.s (((((v1.getD 1 d0).ll).getD ((v1.getD 3 d0).ii).toNat []).getD 0 d0).ss), DC.i (((((v1.getD 1 d0).ll).getD ((v1.getD 3 d0).ii).toNat []).getD 1 d0).ii), DC.s (((((v1.getD 1 d0).ll).getD ((v1.getD 3 d0).ii).toNat []).getD 2 d0).ss), DC.sl (((((v1.getD 1 d0).ll).getD ((v1.getD 3 d0).ii).toNat []).getD 3 d0).ll), DC.sl (((((v1.getD 1 d0).ll).getD ((v1.getD 3 d0).ii).toNat []).getD 4 d0).ll), DC.s (((((v1.getD 0 d0).ll).getD ((v1.getD 3 d0).ii).toNat []).getD 0 d0).ss), DC.i (((((v1.getD 0 d0).ll).getD ((v1.getD 3 d0).ii).toNat []).getD 1 d0).ii), DC.s (((((v1.getD 0 d0).ll).getD ((v1.getD 3 d0).ii).toNat []).getD 2 d0).ss), DC.sl (((((v1.getD 0 d0).ll).getD ((v1.getD 3 d0).ii).toNat []).getD 3 d0).ll), DC.sl (((((v1.getD 0 d0).ll).getD ((v1.getD 3 d0).ii).toNat []).getD 4 d0).ll)]).bindR fun r2 =>
            if (!((r2.getD 0 d0).bb)) = true then
              .ret [DC.b false]
            else
              .norm [DC.sl ((v1.getD 0 d0).ll), DC.sl ((v1.getD 1 d0).ll), DC.i ((v1.getD 2 d0).ii), DC.i ((v1.getD 3 d0).ii)]
          else
            .fail
        else
          .fail) 1 fun v3 =>
      .norm [DC.sl ((v3.getD 0 d0).ll), DC.sl ((v3.getD 1 d0).ll), DC.i ((v3.getD 2 d0).ii), DC.i (IntKind.i64.wrap ((v3.getD 3 d0).ii + (1 : Int)))]
    else
      .ex 0 []
/-- slices.EqualFunc[[]loop.example/g00964/impl.Arg,[]loop.example/g00964/impl.Arg,loop.example/g00964/impl.Arg,loop.example/g00964/impl.Arg] -/
noncomputable def E_slices_EqualFunc_impl_Arg__impl_SameArgs_1 (a : List DC) : Out :=
    if ((((a.getD 0 d0).ll).length : Int) != (((a.getD 1 d0).ll).length : Int)) = true then
      .ret [DC.b false]
    else
      Out.andThenB (Loop E_slices_EqualFunc_impl_Arg__impl_SameArgs_1L1 [DC.sl ((a.getD 1 d0).ll), DC.sl ((a.getD 0 d0).ll), DC.i (((a.getD 0 d0).ll).length : Int), DC.i (0 : Int)]) 0 fun v4 =>
      .ret [DC.b true]
theorem eq_slices_EqualFunc_impl_Arg__impl_SameArgs_1 (a : List DC) : r_slices_EqualFunc_impl_Arg__impl_SameArgs_1 a = E_slices_EqualFunc_impl_Arg__impl_SameArgs_1 a := (Run_eq cfg 68 h_slices_EqualFunc_impl_Arg__impl_SameArgs_1 a).trans (by kernel_rfl)
/-- loop.example/g00964/laws.eqType -/
noncomputable def E_laws_eqType (a : List DC) : Out :=
    if (!((a.getD 0 d0).ss == (a.getD 2 d0).ss)) = true then
      .ret [DC.b false]
    else
      if (!((a.getD 1 d0).ss == (a.getD 3 d0).ss)) = true then
        .ret [DC.b false]
      else
        .ret [DC.b true]
theorem eq_laws_eqType (a : List DC) : r_laws_eqType a = E_laws_eqType a := (Run_eq cfg 105 h_laws_eqType a).trans (by kernel_rfl)
/-- loop.example/g00964/laws.eqValue -/
noncomputable def E_laws_eqValue (a : List DC) : Out :=
    if ((a.getD 0 d0).ii != (a.getD 4 d0).ii) = true then
      .ret [DC.b false]
    else
      if (!((a.getD 1 d0).ss == (a.getD 5 d0).ss)) = true then
        .ret [DC.b false]
      else
        (r_laws_eqValueS [DC.sl ((a.getD 2 d0).ll), DC.sl ((a.getD 6 d0).ll)]).bindR fun r1 =>
        if (!((r1.getD 0 d0).bb)) = true then
          .ret [DC.b false]
        else
          (r_laws_eqStringS [DC.sl ((a.getD 3 d0).ll), DC.sl ((a.getD 7 d0).ll)]).bindR fun r2 =>
          if (!((r2.getD 0 d0).bb)) = true then
            .ret [DC.b false]
          else
            .ret [DC.b true]
theorem eq_laws_eqValue (a : List DC) : r_laws_eqValue a = E_laws_eqValue a := (Run_eq cfg 106 h_laws_eqValue a).trans (by kernel_rfl)
noncomputable def E_laws_eqArgSL1 : List DC → Out := fun v1 =>
    if (decide ((v1.getD 2 d0).ii < (((v1.getD 0 d0).ll).length : Int))) = true then
      Out.andThenB (if 103 = 103 ∧ 0 ≤ (v1.getD 2 d0).ii ∧ (v1.getD 2 d0).ii < (((v1.getD 0 d0).ll).length : Int) then
          if 103 = 103 ∧ 0 ≤ (v1.getD 2 d0).ii ∧ (v1.getD 2 d0).ii < (((v1.getD 1 d0).ll).length : Int) then
            (r_laws_eqArg [DC.s (((((v1.getD 0 d0).ll).getD ((v1.getD 2 d0).ii).toNat []).getD 0 d0).ss), DC.i (((((v1.getD 0 d0).ll).getD ((v1.getD 2 d0).ii).toNat []).getD 1 d0).ii), DC.s (((((v1.getD 0 d0).ll).getD ((v1.getD 2 d0).ii).toNat []).getD 2 d0).ss), DC.sl (((((v1.getD 0 d0).ll).getD ((v1.getD 2 d0).ii).toNat []).getD 3 d0).ll), DC.sl (((((v1.getD 0 d0).ll).getD ((v1.getD 2 d0).ii).toNat []).getD 4 d0).ll), DC.s (((((v1.getD 1 d0).ll).getD ((v1.getD 2 d0).ii).toNat []).getD 0 d0).ss), DC.i (((((v1.getD 1 d0).ll).getD ((v1.getD 2 d0).ii).toNat []).getD 1 d0).ii), DC.s (((((v1.getD 1 d0).ll).getD ((v1.getD 2 d0).ii).toNat []).getD 2 d0).ss), DC.sl (((((v1.getD 1 d0).ll).getD ((v1.getD 2 d0).ii).toNat []).getD 3 d0).ll), DC.sl (((((v1.getD 1 d0).ll).getD ((v1.getD 2 d0).ii).toNat []).getD 4 d0).ll)]).bindR fun r2 =>
            if (!((r2.getD 0 d0).bb)) = true then
              .ret [DC.b false]
            else
              .norm [DC.sl ((v1.getD 0 d0).ll), DC.sl ((v1.getD 1 d0).ll), DC.i ((v1.getD 2 d0).ii)]
          else
            .fail
        else
          .fail) 1 fun v3 =>
      .norm [DC.sl ((v3.getD 0 d0).ll), DC.sl ((v3.getD 1 d0).ll), DC.i (IntKind.i64.wrap ((v3.getD 2 d0).ii + (1 : Int)))]
    else
      .ex 0 []
/-- loop.example/g00964/laws.eqArgS -/
noncomputable def E_laws_eqArgS (a : List DC) : Out :=
    if ((((a.getD 0 d0).ll).length : Int) != (((a.getD 1 d0).ll).length : Int)) = true then
      .ret [DC.b false]
    else
      Out.andThenB (Loop E_laws_eqArgSL1 [DC.sl ((a.getD 0 d0).ll), DC.sl ((a.getD 1 d0).ll), DC.i (0 : Int)]) 0 fun v4 =>
      .ret [DC.b true]
theorem eq_laws_eqArgS (a : List DC) : r_laws_eqArgS a = E_laws_eqArgS a := (Run_eq cfg 107 h_laws_eqArgS a).trans (by kernel_rfl)
noncomputable def E_laws_szValueSL1 : List DC → Out := fun v1 =>
    if (decide ((v1.getD 2 d0).ii < (((v1.getD 0 d0).ll).length : Int))) = true then
      Out.andThenB (if 146 = 146 ∧ 0 ≤ (v1.getD 2 d0).ii ∧ (v1.getD 2 d0).ii < (((v1.getD 0 d0).ll).length : Int) then
          (r_laws_szValue [DC.i (((((v1.getD 0 d0).ll).getD ((v1.getD 2 d0).ii).toNat []).getD 0 d0).ii), DC.s (((((v1.getD 0 d0).ll).getD ((v1.getD 2 d0).ii).toNat []).getD 1 d0).ss), DC.sl (((((v1.getD 0 d0).ll).getD ((v1.getD 2 d0).ii).toNat []).getD 2 d0).ll), DC.sl (((((v1.getD 0 d0).ll).getD ((v1.getD 2 d0).ii).toNat []).getD 3 d0).ll), DC.i ((v1.getD 1 d0).ii)]).bindR fun r2 =>
          if (decide ((r2.getD 0 d0).ii < (0 : Int))) = true then
            .ret [DC.i (-1 : Int)]
          else
            .norm [DC.sl ((v1.getD 0 d0).ll), DC.i ((r2.getD 0 d0).ii), DC.i ((v1.getD 2 d0).ii)]
        else
          .fail) 1 fun v3 =>
      .norm [DC.sl ((v3.getD 0 d0).ll), DC.i ((v3.getD 1 d0).ii), DC.i (IntKind.i64.wrap ((v3.getD 2 d0).ii + (1 : Int)))]
    else
      .ex 0 [DC.i ((v1.getD 1 d0).ii)]
/-- loop.example/g00964/laws.szValueS -/
noncomputable def E_laws_szValueS (a : List DC) : Out :=
    if (decide ((IntKind.i64.wrap ((a.getD 1 d0).ii - (((a.getD 0 d0).ll).length : Int))) < (0 : Int))) = true then
      .ret [DC.i (-1 : Int)]
    else
      Out.andThenB (Loop E_laws_szValueSL1 [DC.sl ((a.getD 0 d0).ll), DC.i (IntKind.i64.wrap ((a.getD 1 d0).ii - (((a.getD 0 d0).ll).length : Int))), DC.i (0 : Int)]) 0 fun v4 =>
      .ret [DC.i ((v4.getD 0 d0).ii)]
theorem eq_laws_szValueS (a : List DC) : r_laws_szValueS a = E_laws_szValueS a := (Run_eq cfg 108 h_laws_szValueS a).trans (by kernel_rfl)
/-- loop.example/g00964/laws.szArg -/
noncomputable def E_laws_szArg (a : List DC) : Out :=
    if (decide ((IntKind.i64.wrap ((a.getD 5 d0).ii - (((a.getD 0 d0).ss).length : Int))) < (0 : Int))) = true then
      .ret [DC.i (-1 : Int)]
    else
      (r_laws_szValue [DC.i ((a.getD 1 d0).ii), DC.s ((a.getD 2 d0).ss), DC.sl ((a.getD 3 d0).ll), DC.sl ((a.getD 4 d0).ll), DC.i (IntKind.i64.wrap ((a.getD 5 d0).ii - (((a.getD 0 d0).ss).length : Int)))]).bindR fun r1 =>
      if (decide ((r1.getD 0 d0).ii < (0 : Int))) = true then
        .ret [DC.i (-1 : Int)]
      else
        .ret [DC.i ((r1.getD 0 d0).ii)]
theorem eq_laws_szArg (a : List DC) : r_laws_szArg a = E_laws_szArg a := (Run_eq cfg 109 h_laws_szArg a).trans (by kernel_rfl)
noncomputable def E_laws_toValueSL1 : List DC → Out := fun v1 =>
    if (decide ((v1.getD 2 d0).ii < (((v1.getD 0 d0).ll).length : Int))) = true then
      Out.andThenB (if 146 = 146 ∧ 0 ≤ (v1.getD 2 d0).ii ∧ (v1.getD 2 d0).ii < (((v1.getD 0 d0).ll).length : Int) then
          (r_laws_toValue [DC.i (((((v1.getD 0 d0).ll).getD ((v1.getD 2 d0).ii).toNat []).getD 0 d0).ii), DC.s (((((v1.getD 0 d0).ll).getD ((v1.getD 2 d0).ii).toNat []).getD 1 d0).ss), DC.sl (((((v1.getD 0 d0).ll).getD ((v1.getD 2 d0).ii).toNat []).getD 2 d0).ll), DC.sl (((((v1.getD 0 d0).ll).getD ((v1.getD 2 d0).ii).toNat []).getD 3 d0).ll)]).bindR fun r2 =>
          if 77 = 77 ∧ 0 ≤ (v1.getD 2 d0).ii ∧ (v1.getD 2 d0).ii < (((v1.getD 1 d0).ll).length : Int) then
            .norm [DC.sl ((v1.getD 0 d0).ll), DC.sl (((v1.getD 1 d0).ll).set (((v1.getD 2 d0).ii).toNat) (setRunD (((v1.getD 1 d0).ll).getD (((v1.getD 2 d0).ii).toNat) []) 0 [DC.i ((r2.getD 0 d0).ii), DC.s ((r2.getD 1 d0).ss), DC.sl ((r2.getD 2 d0).ll), DC.sl ((r2.getD 3 d0).ll)])), DC.i ((v1.getD 2 d0).ii)]
          else
            .fail
        else
          .fail) 1 fun v3 =>
      .norm [DC.sl ((v3.getD 0 d0).ll), DC.sl ((v3.getD 1 d0).ll), DC.i (IntKind.i64.wrap ((v3.getD 2 d0).ii + (1 : Int)))]
    else
      .ex 0 [DC.sl ((v1.getD 1 d0).ll)]
/-- loop.example/g00964/laws.toValueS -/
noncomputable def E_laws_toValueS (a : List DC) : Out :=
    if 0 ≤ (((a.getD 0 d0).ll).length : Int) ∧ (((a.getD 0 d0).ll).length : Int) < (LIM : Int) ∧ (((a.getD 0 d0).ll).length : Int) = (((a.getD 0 d0).ll).length : Int) ∧ 72 ≤ 1024 ∧ 0 < 4 then
      Out.andThenB (Loop E_laws_toValueSL1 [DC.sl ((a.getD 0 d0).ll), DC.sl (List.replicate (((a.getD 0 d0).ll).length : Int).toNat [DC.i 0, DC.s [], DC.sl [], DC.sl []]), DC.i (0 : Int)]) 0 fun v4 =>
      .ret [DC.sl ((v4.getD 0 d0).ll)]
    else
      .fail
theorem eq_laws_toValueS (a : List DC) : r_laws_toValueS a = E_laws_toValueS a := (Run_eq cfg 110 h_laws_toValueS a).trans (by kernel_rfl)
/-- loop.example/g00964/laws.toArg -/
noncomputable def E_laws_toArg (a : List DC) : Out :=
    (r_laws_toValue [DC.i ((a.getD 1 d0).ii), DC.s ((a.getD 2 d0).ss), DC.sl ((a.getD 3 d0).ll), DC.sl ((a.getD 4 d0).ll)]).bindR fun r1 =>
    .ret [DC.s ((a.getD 0 d0).ss), DC.i ((r1.getD 0 d0).ii), DC.s ((r1.getD 1 d0).ss), DC.sl ((r1.getD 2 d0).ll), DC.sl ((r1.getD 3 d0).ll)]
theorem eq_laws_toArg (a : List DC) : r_laws_toArg a = E_laws_toArg a := (Run_eq cfg 111 h_laws_toArg a).trans (by kernel_rfl)
/-- loop.example/g00964/impl.SameArgs$1 -/
noncomputable def E_impl_SameArgs_1 (a : List DC) : Out :=
    Out.andThen (if ((a.getD 0 d0).ss == (a.getD 5 d0).ss) = true then
        (r_impl_SameValue [DC.i ((a.getD 1 d0).ii), DC.s ((a.getD 2 d0).ss), DC.sl ((a.getD 3 d0).ll), DC.sl ((a.getD 4 d0).ll), DC.i ((a.getD 6 d0).ii), DC.s ((a.getD 7 d0).ss), DC.sl ((a.getD 8 d0).ll), DC.sl ((a.getD 9 d0).ll)]).bindR fun r1 =>
        .norm [DC.b ((r1.getD 0 d0).bb)]
      else
        .norm [DC.b false]) fun v2 =>
    .ret [DC.b ((v2.getD 0 d0).bb)]
theorem eq_impl_SameArgs_1 (a : List DC) : r_impl_SameArgs_1 a = E_impl_SameArgs_1 a := (Run_eq cfg 69 h_impl_SameArgs_1 a).trans (by kernel_rfl)
noncomputable def E_laws_eqValueSL1 : List DC → Out := fun v1 =>
    if (decide ((v1.getD 2 d0).ii < (((v1.getD 0 d0).ll).length : Int))) = true then
      Out.andThenB (if 77 = 77 ∧ 0 ≤ (v1.getD 2 d0).ii ∧ (v1.getD 2 d0).ii < (((v1.getD 0 d0).ll).length : Int) then
          if 77 = 77 ∧ 0 ≤ (v1.getD 2 d0).ii ∧ (v1.getD 2 d0).ii < (((v1.getD 1 d0).ll).length : Int) then
            (r_laws_eqValue [DC.i (((((v1.getD 0 d0).ll).getD ((v1.getD 2 d0).ii).toNat []).getD 0 d0).ii), DC.s (((((v1.getD 0 d0).ll).getD ((v1.getD 2 d0).ii).toNat []).getD 1 d0).ss), DC.sl (((((v1.getD 0 d0).ll).getD ((v1.getD 2 d0).ii).toNat []).getD 2 d0).ll), DC.sl (((((v1.getD 0 d0).ll).getD ((v1.getD 2 d0).ii).toNat []).getD 3 d0).ll), DC.i (((((v1.getD 1 d0).ll).getD ((v1.getD 2 d0).ii).toNat []).getD 0 d0).ii), DC.s (((((v1.getD 1 d0).ll).getD ((v1.getD 2 d0).ii).toNat []).getD 1 d0).ss), DC.sl (((((v1.getD 1 d0).ll).getD ((v1.getD 2 d0).ii).toNat []).getD 2 d0).ll), DC.sl (((((v1.getD 1 d0).ll).getD ((v1.getD 2 d0).ii).toNat []).getD 3 d0).ll)]).bindR fun r2 =>
            if (!((r2.getD 0 d0).bb)) = true then
              .ret [DC.b false]
            else
              .norm [DC.sl ((v1.getD 0 d0).ll), DC.sl ((v1.getD 1 d0).ll), DC.i ((v1.getD 2 d0).ii)]
          else
            .fail
        else
          .fail) 1 fun v3 =>
      .norm [DC.sl ((v3.getD 0 d0).ll), DC.sl ((v3.getD 1 d0).ll), DC.i (IntKind.i64.wrap ((v3.getD 2 d0).ii + (1 : Int)))]
    else
      .ex 0 []
/-- loop.example/g00964/laws.eqValueS -/
noncomputable def E_laws_eqValueS (a : List DC) : Out :=
    if ((((a.getD 0 d0).ll).length : Int) != (((a.getD 1 d0).ll).length : Int)) = true then
      .ret [DC.b false]
    else
      Out.andThenB (Loop E_laws_eqValueSL1 [DC.sl ((a.getD 0 d0).ll), DC.sl ((a.getD 1 d0).ll), DC.i (0 : Int)]) 0 fun v4 =>
      .ret [DC.b true]
theorem eq_laws_eqValueS (a : List DC) : r_laws_eqValueS a = E_laws_eqValueS a := (Run_eq cfg 112 h_laws_eqValueS a).trans (by kernel_rfl)
/-- loop.example/g00964/laws.eqArg -/
noncomputable def E_laws_eqArg (a : List DC) : Out :=
    if (!((a.getD 0 d0).ss == (a.getD 5 d0).ss)) = true then
      .ret [DC.b false]
    else
      (r_laws_eqValue [DC.i ((a.getD 1 d0).ii), DC.s ((a.getD 2 d0).ss), DC.sl ((a.getD 3 d0).ll), DC.sl ((a.getD 4 d0).ll), DC.i ((a.getD 6 d0).ii), DC.s ((a.getD 7 d0).ss), DC.sl ((a.getD 8 d0).ll), DC.sl ((a.getD 9 d0).ll)]).bindR fun r1 =>
      if (!((r1.getD 0 d0).bb)) = true then
        .ret [DC.b false]
      else
        .ret [DC.b true]
theorem eq_laws_eqArg (a : List DC) : r_laws_eqArg a = E_laws_eqArg a := (Run_eq cfg 113 h_laws_eqArg a).trans (by kernel_rfl)
end Go.Proofs.YtljggmbgbnmapaaGreatV
