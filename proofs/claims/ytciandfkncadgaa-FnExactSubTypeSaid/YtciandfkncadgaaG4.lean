/- What the functions do, and that they do (written by a program). -/
import Derived.Test.YtciandfkncadgaaG0
namespace Go.Proofs.YtciandfkncadgaaV
open Go
set_option linter.unusedVariables false
set_option maxRecDepth 100000
noncomputable def E_laws_eqValueSL1 : List DC → Out := fun v1 =>
    if (decide ((v1.getD 2 d0).ii < (((v1.getD 0 d0).ll).length : Int))) = true then
      Out.andThenB (if 65 = 65 ∧ 0 ≤ (v1.getD 2 d0).ii ∧ (v1.getD 2 d0).ii < (((v1.getD 0 d0).ll).length : Int) then
          if 65 = 65 ∧ 0 ≤ (v1.getD 2 d0).ii ∧ (v1.getD 2 d0).ii < (((v1.getD 1 d0).ll).length : Int) then
            (r_laws_eqValue [DC.i (((((v1.getD 0 d0).ll).getD ((v1.getD 2 d0).ii).toNat []).getD 0 d0).ii), DC.s (((((v1.getD 0 d0).ll).getD ((v1.getD 2 d0).ii).toNat []).getD 1 d0).ss), DC.sl (((((v1.getD 0 d0).ll).getD ((v1.getD 2 d0).ii).toNat []).getD 2 d0).ll), DC.sl (((((v1.getD 0 d0).ll).getD ((v1.getD 2 d0).ii).toNat []).getD 3 d0).ll), DC.i (((((v1.getD 1 d0).ll).getD ((v1.getD 2 d0).ii).toNat []).getD 0 d0).ii), DC.s (((((v1.getD 1 d0).ll).getD ((v1.getD 2 d0).ii).toNat []).getD 1 d0).ss), DC.sl (((((v1.getD 1 d0).ll).getD ((v1.getD 2 d0).ii).toNat []).getD 2 d0).ll), DC.sl (((((v1.getD 1 d0).ll).getD ((v1.getD 2 d0).ii).toNat []).getD 3 d0).ll)]).bindR fun r2 =>
            if (!((r2.getD 0 d0).bb)) = true then
              .ret [DC.b false]
            else
              .norm [DC.sl ((v1.getD 0 d0).ll), DC.sl ((v1.getD 1 d0).ll), DC.i ((v1.getD 2 d0).ii)]
          else
            .fail
        else
          .fail) 1 fun v3 =>
      .norm [DC.sl ((v3.getD 0 d0).ll), DC.sl ((v3.getD 1 d0).ll), DC.i (IntKind.i64.wrap ((v3.getD 2 d0).ii + (1 : Int)))]
    else
      .ex 0 []
/-- loop.example/g00964/laws.eqValueS -/
noncomputable def E_laws_eqValueS (a : List DC) : Out :=
    if ((((a.getD 0 d0).ll).length : Int) != (((a.getD 1 d0).ll).length : Int)) = true then
      .ret [DC.b false]
    else
      Out.andThenB (Loop E_laws_eqValueSL1 [DC.sl ((a.getD 0 d0).ll), DC.sl ((a.getD 1 d0).ll), DC.i (0 : Int)]) 0 fun v4 =>
      .ret [DC.b true]
theorem eq_laws_eqValueS (a : List DC) : r_laws_eqValueS a = E_laws_eqValueS a := (Run_eq cfg 111 h_laws_eqValueS a).trans (by kernel_rfl)
noncomputable def E_laws_eqStringSL1 : List DC → Out := fun v1 =>
    if (decide ((v1.getD 2 d0).ii < (((v1.getD 0 d0).ll).length : Int))) = true then
      Out.andThenB (if 9 = 9 ∧ 0 ≤ (v1.getD 2 d0).ii ∧ (v1.getD 2 d0).ii < (((v1.getD 0 d0).ll).length : Int) then
          if 9 = 9 ∧ 0 ≤ (v1.getD 2 d0).ii ∧ (v1.getD 2 d0).ii < (((v1.getD 1 d0).ll).length : Int) then
            if (!(((((v1.getD 0 d0).ll).getD ((v1.getD 2 d0).ii).toNat []).getD 0 d0).ss == ((((v1.getD 1 d0).ll).getD ((v1.getD 2 d0).ii).toNat []).getD 0 d0).ss)) = true then
              .ret [DC.b false]
            else
              .norm [DC.sl ((v1.getD 0 d0).ll), DC.sl ((v1.getD 1 d0).ll), DC.i ((v1.getD 2 d0).ii)]
          else
            .fail
        else
          .fail) 1 fun v2 =>
      .norm [DC.sl ((v2.getD 0 d0).ll), DC.sl ((v2.getD 1 d0).ll), DC.i (IntKind.i64.wrap ((v2.getD 2 d0).ii + (1 : Int)))]
    else
      .ex 0 []
/-- loop.example/g00964/laws.eqStringS -/
noncomputable def E_laws_eqStringS (a : List DC) : Out :=
    if ((((a.getD 0 d0).ll).length : Int) != (((a.getD 1 d0).ll).length : Int)) = true then
      .ret [DC.b false]
    else
      Out.andThenB (Loop E_laws_eqStringSL1 [DC.sl ((a.getD 0 d0).ll), DC.sl ((a.getD 1 d0).ll), DC.i (0 : Int)]) 0 fun v3 =>
      .ret [DC.b true]
theorem eq_laws_eqStringS (a : List DC) : r_laws_eqStringS a = E_laws_eqStringS a := (Run_eq cfg 112 h_laws_eqStringS a).trans (by kernel_rfl)
/-- loop.example/g00964/laws.eqDir -/
noncomputable def E_laws_eqDir (a : List DC) : Out :=
    if (!((a.getD 0 d0).ss == (a.getD 2 d0).ss)) = true then
      .ret [DC.b false]
    else
      (r_laws_eqArgS [DC.sl ((a.getD 1 d0).ll), DC.sl ((a.getD 3 d0).ll)]).bindR fun r1 =>
      if (!((r1.getD 0 d0).bb)) = true then
        .ret [DC.b false]
      else
        .ret [DC.b true]
theorem eq_laws_eqDir (a : List DC) : r_laws_eqDir a = E_laws_eqDir a := (Run_eq cfg 113 h_laws_eqDir a).trans (by kernel_rfl)
noncomputable def E_laws_szFieldDefSL1 : List DC → Out := fun v1 =>
    if (decide ((v1.getD 2 d0).ii < (((v1.getD 0 d0).ll).length : Int))) = true then
      Out.andThenB (if 159 = 159 ∧ 0 ≤ (v1.getD 2 d0).ii ∧ (v1.getD 2 d0).ii < (((v1.getD 0 d0).ll).length : Int) then
          (r_laws_szFieldDef [DC.s (((((v1.getD 0 d0).ll).getD ((v1.getD 2 d0).ii).toNat []).getD 0 d0).ss), DC.s (((((v1.getD 0 d0).ll).getD ((v1.getD 2 d0).ii).toNat []).getD 1 d0).ss), DC.sl (((((v1.getD 0 d0).ll).getD ((v1.getD 2 d0).ii).toNat []).getD 2 d0).ll), DC.s (((((v1.getD 0 d0).ll).getD ((v1.getD 2 d0).ii).toNat []).getD 3 d0).ss), DC.s (((((v1.getD 0 d0).ll).getD ((v1.getD 2 d0).ii).toNat []).getD 4 d0).ss), DC.sl (((((v1.getD 0 d0).ll).getD ((v1.getD 2 d0).ii).toNat []).getD 5 d0).ll), DC.i ((v1.getD 1 d0).ii)]).bindR fun r2 =>
          if (decide ((r2.getD 0 d0).ii < (0 : Int))) = true then
            .ret [DC.i (-1 : Int)]
          else
            .norm [DC.sl ((v1.getD 0 d0).ll), DC.i ((r2.getD 0 d0).ii), DC.i ((v1.getD 2 d0).ii)]
        else
          .fail) 1 fun v3 =>
      .norm [DC.sl ((v3.getD 0 d0).ll), DC.i ((v3.getD 1 d0).ii), DC.i (IntKind.i64.wrap ((v3.getD 2 d0).ii + (1 : Int)))]
    else
      .ex 0 [DC.i ((v1.getD 1 d0).ii)]
/-- loop.example/g00964/laws.szFieldDefS -/
noncomputable def E_laws_szFieldDefS (a : List DC) : Out :=
    if (decide ((IntKind.i64.wrap ((a.getD 1 d0).ii - (((a.getD 0 d0).ll).length : Int))) < (0 : Int))) = true then
      .ret [DC.i (-1 : Int)]
    else
      Out.andThenB (Loop E_laws_szFieldDefSL1 [DC.sl ((a.getD 0 d0).ll), DC.i (IntKind.i64.wrap ((a.getD 1 d0).ii - (((a.getD 0 d0).ll).length : Int))), DC.i (0 : Int)]) 0 fun v4 =>
      .ret [DC.i ((v4.getD 0 d0).ii)]
theorem eq_laws_szFieldDefS (a : List DC) : r_laws_szFieldDefS a = E_laws_szFieldDefS a := (Run_eq cfg 114 h_laws_szFieldDefS a).trans (by kernel_rfl)
noncomputable def E_laws_szEnumDefSL1 : List DC → Out := fun v1 =>
    if (decide ((v1.getD 2 d0).ii < (((v1.getD 0 d0).ll).length : Int))) = true then
      Out.andThenB (if 162 = 162 ∧ 0 ≤ (v1.getD 2 d0).ii ∧ (v1.getD 2 d0).ii < (((v1.getD 0 d0).ll).length : Int) then
          (r_laws_szEnumDef [DC.s (((((v1.getD 0 d0).ll).getD ((v1.getD 2 d0).ii).toNat []).getD 0 d0).ss), DC.s (((((v1.getD 0 d0).ll).getD ((v1.getD 2 d0).ii).toNat []).getD 1 d0).ss), DC.sl (((((v1.getD 0 d0).ll).getD ((v1.getD 2 d0).ii).toNat []).getD 2 d0).ll), DC.i ((v1.getD 1 d0).ii)]).bindR fun r2 =>
          if (decide ((r2.getD 0 d0).ii < (0 : Int))) = true then
            .ret [DC.i (-1 : Int)]
          else
            .norm [DC.sl ((v1.getD 0 d0).ll), DC.i ((r2.getD 0 d0).ii), DC.i ((v1.getD 2 d0).ii)]
        else
          .fail) 1 fun v3 =>
      .norm [DC.sl ((v3.getD 0 d0).ll), DC.i ((v3.getD 1 d0).ii), DC.i (IntKind.i64.wrap ((v3.getD 2 d0).ii + (1 : Int)))]
    else
      .ex 0 [DC.i ((v1.getD 1 d0).ii)]
/-- loop.example/g00964/laws.szEnumDefS -/
noncomputable def E_laws_szEnumDefS (a : List DC) : Out :=
    if (decide ((IntKind.i64.wrap ((a.getD 1 d0).ii - (((a.getD 0 d0).ll).length : Int))) < (0 : Int))) = true then
      .ret [DC.i (-1 : Int)]
    else
      Out.andThenB (Loop E_laws_szEnumDefSL1 [DC.sl ((a.getD 0 d0).ll), DC.i (IntKind.i64.wrap ((a.getD 1 d0).ii - (((a.getD 0 d0).ll).length : Int))), DC.i (0 : Int)]) 0 fun v4 =>
      .ret [DC.i ((v4.getD 0 d0).ii)]
theorem eq_laws_szEnumDefS (a : List DC) : r_laws_szEnumDefS a = E_laws_szEnumDefS a := (Run_eq cfg 115 h_laws_szEnumDefS a).trans (by kernel_rfl)
noncomputable def E_laws_toFieldDefSL1 : List DC → Out := fun v1 =>
    if (decide ((v1.getD 2 d0).ii < (((v1.getD 0 d0).ll).length : Int))) = true then
      Out.andThenB (if 159 = 159 ∧ 0 ≤ (v1.getD 2 d0).ii ∧ (v1.getD 2 d0).ii < (((v1.getD 0 d0).ll).length : Int) then
          (r_laws_toFieldDef [DC.s (((((v1.getD 0 d0).ll).getD ((v1.getD 2 d0).ii).toNat []).getD 0 d0).ss), DC.s (((((v1.getD 0 d0).ll).getD ((v1.getD 2 d0).ii).toNat []).getD 1 d0).ss), DC.sl (((((v1.getD 0 d0).ll).getD ((v1.getD 2 d0).ii).toNat []).getD 2 d0).ll), DC.s (((((v1.getD 0 d0).ll).getD ((v1.getD 2 d0).ii).toNat []).getD 3 d0).ss), DC.s (((((v1.getD 0 d0).ll).getD ((v1.getD 2 d0).ii).toNat []).getD 4 d0).ss), DC.sl (((((v1.getD 0 d0).ll).getD ((v1.getD 2 d0).ii).toNat []).getD 5 d0).ll)]).bindR fun r2 =>
          if 121 = 121 ∧ 0 ≤ (v1.getD 2 d0).ii ∧ (v1.getD 2 d0).ii < (((v1.getD 1 d0).ll).length : Int) then
            .norm [DC.sl ((v1.getD 0 d0).ll), DC.sl (((v1.getD 1 d0).ll).set (((v1.getD 2 d0).ii).toNat) (setRunD (((v1.getD 1 d0).ll).getD (((v1.getD 2 d0).ii).toNat) []) 0 [DC.s ((r2.getD 0 d0).ss), DC.s ((r2.getD 1 d0).ss), DC.sl ((r2.getD 2 d0).ll), DC.s ((r2.getD 3 d0).ss), DC.s ((r2.getD 4 d0).ss), DC.sl ((r2.getD 5 d0).ll)])), DC.i ((v1.getD 2 d0).ii)]
          else
            .fail
        else
          .fail) 1 fun v3 =>
      .norm [DC.sl ((v3.getD 0 d0).ll), DC.sl ((v3.getD 1 d0).ll), DC.i (IntKind.i64.wrap ((v3.getD 2 d0).ii + (1 : Int)))]
    else
      .ex 0 [DC.sl ((v1.getD 1 d0).ll)]
/-- loop.example/g00964/laws.toFieldDefS -/
noncomputable def E_laws_toFieldDefS (a : List DC) : Out :=
    if 0 ≤ (((a.getD 0 d0).ll).length : Int) ∧ (((a.getD 0 d0).ll).length : Int) < (LIM : Int) ∧ (((a.getD 0 d0).ll).length : Int) = (((a.getD 0 d0).ll).length : Int) ∧ 112 ≤ 1024 ∧ 0 < 6 then
      Out.andThenB (Loop E_laws_toFieldDefSL1 [DC.sl ((a.getD 0 d0).ll), DC.sl (List.replicate (((a.getD 0 d0).ll).length : Int).toNat [DC.s [], DC.s [], DC.sl [], DC.s [], DC.s [], DC.sl []]), DC.i (0 : Int)]) 0 fun v4 =>
      .ret [DC.sl ((v4.getD 0 d0).ll)]
    else
      .fail
theorem eq_laws_toFieldDefS (a : List DC) : r_laws_toFieldDefS a = E_laws_toFieldDefS a := (Run_eq cfg 116 h_laws_toFieldDefS a).trans (by kernel_rfl)
noncomputable def E_laws_toEnumDefSL1 : List DC → Out := fun v1 =>
    if (decide ((v1.getD 2 d0).ii < (((v1.getD 0 d0).ll).length : Int))) = true then
      Out.andThenB (if 162 = 162 ∧ 0 ≤ (v1.getD 2 d0).ii ∧ (v1.getD 2 d0).ii < (((v1.getD 0 d0).ll).length : Int) then
          (r_laws_toEnumDef [DC.s (((((v1.getD 0 d0).ll).getD ((v1.getD 2 d0).ii).toNat []).getD 0 d0).ss), DC.s (((((v1.getD 0 d0).ll).getD ((v1.getD 2 d0).ii).toNat []).getD 1 d0).ss), DC.sl (((((v1.getD 0 d0).ll).getD ((v1.getD 2 d0).ii).toNat []).getD 2 d0).ll)]).bindR fun r2 =>
          if 126 = 126 ∧ 0 ≤ (v1.getD 2 d0).ii ∧ (v1.getD 2 d0).ii < (((v1.getD 1 d0).ll).length : Int) then
            .norm [DC.sl ((v1.getD 0 d0).ll), DC.sl (((v1.getD 1 d0).ll).set (((v1.getD 2 d0).ii).toNat) (setRunD (((v1.getD 1 d0).ll).getD (((v1.getD 2 d0).ii).toNat) []) 0 [DC.s ((r2.getD 0 d0).ss), DC.s ((r2.getD 1 d0).ss), DC.sl ((r2.getD 2 d0).ll)])), DC.i ((v1.getD 2 d0).ii)]
          else
            .fail
        else
          .fail) 1 fun v3 =>
      .norm [DC.sl ((v3.getD 0 d0).ll), DC.sl ((v3.getD 1 d0).ll), DC.i (IntKind.i64.wrap ((v3.getD 2 d0).ii + (1 : Int)))]
    else
      .ex 0 [DC.sl ((v1.getD 1 d0).ll)]
/-- loop.example/g00964/laws.toEnumDefS -/
noncomputable def E_laws_toEnumDefS (a : List DC) : Out :=
    if 0 ≤ (((a.getD 0 d0).ll).length : Int) ∧ (((a.getD 0 d0).ll).length : Int) < (LIM : Int) ∧ (((a.getD 0 d0).ll).length : Int) = (((a.getD 0 d0).ll).length : Int) ∧ 56 ≤ 1024 ∧ 0 < 3 then
      Out.andThenB (Loop E_laws_toEnumDefSL1 [DC.sl ((a.getD 0 d0).ll), DC.sl (List.replicate (((a.getD 0 d0).ll).length : Int).toNat [DC.s [], DC.s [], DC.sl []]), DC.i (0 : Int)]) 0 fun v4 =>
      .ret [DC.sl ((v4.getD 0 d0).ll)]
    else
      .fail
theorem eq_laws_toEnumDefS (a : List DC) : r_laws_toEnumDefS a = E_laws_toEnumDefS a := (Run_eq cfg 117 h_laws_toEnumDefS a).trans (by kernel_rfl)
noncomputable def E_laws_eqFieldDefSL1 : List DC → Out := fun v1 =>
    if (decide ((v1.getD 2 d0).ii < (((v1.getD 0 d0).ll).length : Int))) = true then
      Out.andThenB (if 121 = 121 ∧ 0 ≤ (v1.getD 2 d0).ii ∧ (v1.getD 2 d0).ii < (((v1.getD 0 d0).ll).length : Int) then
          if 121 = 121 ∧ 0 ≤ (v1.getD 2 d0).ii ∧ (v1.getD 2 d0).ii < (((v1.getD 1 d0).ll).length : Int) then
            (r_laws_eqFieldDef [DC.s (((((v1.getD 0 d0).ll).getD ((v1.getD 2 d0).ii).toNat []).getD 0 d0).ss), DC.s (((((v1.getD 0 d0).ll).getD ((v1.getD 2 d0).ii).toNat []).getD 1 d0).ss), DC.sl (((((v1.getD 0 d0).ll).getD ((v1.getD 2 d0).ii).toNat []).getD 2 d0).ll), DC.s (((((v1.getD 0 d0).ll).getD ((v1.getD 2 d0).ii).toNat []).getD 3 d0).ss), DC.s (((((v1.getD 0 d0).ll).getD ((v1.getD 2 d0).ii).toNat []).getD 4 d0).ss), DC.sl (((((v1.getD 0 d0).ll).getD ((v1.getD 2 d0).ii).toNat []).getD 5 d0).ll), DC.s (((((v1.getD 1 d0).ll).getD ((v1.getD 2 d0).ii).toNat []).getD 0 d0).ss), DC.s (((((v1.getD 1 d0).ll).getD ((v1.getD 2 d0).ii).toNat []).getD 1 d0).ss), DC.sl (((((v1.getD 1 d0).ll).getD ((v1.getD 2 d0).ii).toNat []).getD 2 d0).ll), DC.s (((((v1.getD 1 d0).ll).getD ((v1.getD 2 d0).ii).toNat []).getD 3 d0).ss), DC.s (((((v1.getD 1 d0).ll).getD ((v1.getD 2 d0).ii).toNat []).getD 4 d0).ss), DC.sl (((((v1.getD 1 d0).ll).getD ((v1.getD 2 d0).ii).toNat []).getD 5 d0).ll)]).bindR fun r2 =>
            if (!((r2.getD 0 d0).bb)) = true then
              .ret [DC.b false]
            else
              .norm [DC.sl ((v1.getD 0 d0).ll), DC.sl ((v1.getD 1 d0).ll), DC.i ((v1.getD 2 d0).ii)]
          else
            .fail
        else
          .fail) 1 fun v3 =>
      .norm [DC.sl ((v3.getD 0 d0).ll), DC.sl ((v3.getD 1 d0).ll), DC.i (IntKind.i64.wrap ((v3.getD 2 d0).ii + (1 : Int)))]
    else
      .ex 0 []
/-- loop.example/g00964/laws.eqFieldDefS -/
noncomputable def E_laws_eqFieldDefS (a : List DC) : Out :=
    if ((((a.getD 0 d0).ll).length : Int) != (((a.getD 1 d0).ll).length : Int)) = true then
      .ret [DC.b false]
    else
      Out.andThenB (Loop E_laws_eqFieldDefSL1 [DC.sl ((a.getD 0 d0).ll), DC.sl ((a.getD 1 d0).ll), DC.i (0 : Int)]) 0 fun v4 =>
      .ret [DC.b true]
theorem eq_laws_eqFieldDefS (a : List DC) : r_laws_eqFieldDefS a = E_laws_eqFieldDefS a := (Run_eq cfg 118 h_laws_eqFieldDefS a).trans (by kernel_rfl)
noncomputable def E_laws_eqEnumDefSL1 : List DC → Out := fun v1 =>
    if (decide ((v1.getD 2 d0).ii < (((v1.getD 0 d0).ll).length : Int))) = true then
      Out.andThenB (if 126 = 126 ∧ 0 ≤ (v1.getD 2 d0).ii ∧ (v1.getD 2 d0).ii < (((v1.getD 0 d0).ll).length : Int) then
          if 126 = 126 ∧ 0 ≤ (v1.getD 2 d0).ii ∧ (v1.getD 2 d0).ii < (((v1.getD 1 d0).ll).length : Int) then
            (r_laws_eqEnumDef [DC.s (((((v1.getD 0 d0).ll).getD ((v1.getD 2 d0).ii).toNat []).getD 0 d0).ss), DC.s (((((v1.getD 0 d0).ll).getD ((v1.getD 2 d0).ii).toNat []).getD 1 d0).ss), DC.sl (((((v1.getD 0 d0).ll).getD ((v1.getD 2 d0).ii).toNat []).getD 2 d0).ll), DC.s (((((v1.getD 1 d0).ll).getD ((v1.getD 2 d0).ii).toNat []).getD 0 d0).ss), DC.s (((((v1.getD 1 d0).ll).getD ((v1.getD 2 d0).ii).toNat []).getD 1 d0).ss), DC.sl (((((v1.getD 1 d0).ll).getD ((v1.getD 2 d0).ii).toNat []).getD 2 d0).ll)]).bindR fun r2 =>
            if (!((r2.getD 0 d0).bb)) = true then
              .ret [DC.b false]
            else
              .norm [DC.sl ((v1.getD 0 d0).ll), DC.sl ((v1.getD 1 d0).ll), DC.i ((v1.getD 2 d0).ii)]
          else
            .fail
        else
          .fail) 1 fun v3 =>
      .norm [DC.sl ((v3.getD 0 d0).ll), DC.sl ((v3.getD 1 d0).ll), DC.i (IntKind.i64.wrap ((v3.getD 2 d0).ii + (1 : Int)))]
    else
      .ex 0 []
/-- loop.example/g00964/laws.eqEnumDefS -/
noncomputable def E_laws_eqEnumDefS (a : List DC) : Out :=
    if ((((a.getD 0 d0).ll).length : Int) != (((a.getD 1 d0).ll).length : Int)) = true then
      .ret [DC.b false]
    else
      Out.andThenB (Loop E_laws_eqEnumDefSL1 [DC.sl ((a.getD 0 d0).ll), DC.sl ((a.getD 1 d0).ll), DC.i (0 : Int)]) 0 fun v4 =>
      .ret [DC.b true]
theorem eq_laws_eqEnumDefS (a : List DC) : r_laws_eqEnumDefS a = E_laws_eqEnumDefS a := (Run_eq cfg 119 h_laws_eqEnumDefS a).trans (by kernel_rfl)
/-- loop.example/g00964/impl.named$1 -/
noncomputable def E_impl_named_1 (a : List DC) : Out :=
    .ret [DC.b ((a.getD 3 d0).ss == (a.getD 11 d0).ss), DC.s ((a.getD 11 d0).ss)]
theorem eq_impl_named_1 (a : List DC) : r_impl_named_1 a = E_impl_named_1 a := (Run_eq cfg 89 h_impl_named_1 a).trans (by kernel_rfl)
/-- internal/stringslite.CutSuffix -/
noncomputable def E_internal_stringslite_CutSuffix (a : List DC) : Out :=
    (r_internal_stringslite_HasSuffix [DC.s ((a.getD 0 d0).ss), DC.s ((a.getD 1 d0).ss)]).bindR fun r1 =>
    if (!((r1.getD 0 d0).bb)) = true then
      .ret [DC.s ((a.getD 0 d0).ss), DC.b false]
    else
      if 0 ≤ (IntKind.i64.wrap ((((a.getD 0 d0).ss).length : Int) - (((a.getD 1 d0).ss).length : Int))) ∧ (IntKind.i64.wrap ((((a.getD 0 d0).ss).length : Int) - (((a.getD 1 d0).ss).length : Int))) ≤ (((a.getD 0 d0).ss).length : Int) then
        .ret [DC.s (((a.getD 0 d0).ss).take (IntKind.i64.wrap ((((a.getD 0 d0).ss).length : Int) - (((a.getD 1 d0).ss).length : Int))).toNat), DC.b true]
      else
        .fail
theorem eq_internal_stringslite_CutSuffix (a : List DC) : r_internal_stringslite_CutSuffix a = E_internal_stringslite_CutSuffix a := (Run_eq cfg 120 h_internal_stringslite_CutSuffix a).trans (by kernel_rfl)
noncomputable def E_spec_l14SameInL1 : List DC → Out := fun v1 =>
    if (decide ((v1.getD 2 d0).ii < (((v1.getD 0 d0).ll).length : Int))) = true then
      Out.andThenB (Out.andThen (if 68 = 68 ∧ 0 ≤ (v1.getD 2 d0).ii ∧ (v1.getD 2 d0).ii < (((v1.getD 0 d0).ll).length : Int) then
            if 68 = 68 ∧ 0 ≤ (v1.getD 2 d0).ii ∧ (v1.getD 2 d0).ii < (((v1.getD 1 d0).ll).length : Int) then
              if (!(((((v1.getD 0 d0).ll).getD ((v1.getD 2 d0).ii).toNat []).getD 0 d0).ss == ((((v1.getD 1 d0).ll).getD ((v1.getD 2 d0).ii).toNat []).getD 0 d0).ss)) = true then
                .norm [DC.sl ((v1.getD 0 d0).ll), DC.sl ((v1.getD 1 d0).ll), DC.i ((v1.getD 2 d0).ii), DC.b true]
              else
                if 68 = 68 ∧ 0 ≤ (v1.getD 2 d0).ii ∧ (v1.getD 2 d0).ii < (((v1.getD 0 d0).ll).length : Int) then
                  if 68 = 68 ∧ 0 ≤ (v1.getD 2 d0).ii ∧ (v1.getD 2 d0).ii < (((v1.getD 1 d0).ll).length : Int) then
                    if (!(((((v1.getD 0 d0).ll).getD ((v1.getD 2 d0).ii).toNat []).getD 1 d0).ss == ((((v1.getD 1 d0).ll).getD ((v1.getD 2 d0).ii).toNat []).getD 1 d0).ss)) = true then
                      .norm [DC.sl ((v1.getD 0 d0).ll), DC.sl ((v1.getD 1 d0).ll), DC.i ((v1.getD 2 d0).ii), DC.b true]
                    else
                      if 68 = 68 ∧ 0 ≤ (v1.getD 2 d0).ii ∧ (v1.getD 2 d0).ii < (((v1.getD 0 d0).ll).length : Int) then
                        if 68 = 68 ∧ 0 ≤ (v1.getD 2 d0).ii ∧ (v1.getD 2 d0).ii < (((v1.getD 1 d0).ll).length : Int) then
                          if (!((((((v1.getD 0 d0).ll).getD ((v1.getD 2 d0).ii).toNat []).getD 2 d0).ss == ((((v1.getD 1 d0).ll).getD ((v1.getD 2 d0).ii).toNat []).getD 2 d0).ss) && ((((((v1.getD 0 d0).ll).getD ((v1.getD 2 d0).ii).toNat []).getD 3 d0).ss == ((((v1.getD 1 d0).ll).getD ((v1.getD 2 d0).ii).toNat []).getD 3 d0).ss) && true))) = true then
                            .norm [DC.sl ((v1.getD 0 d0).ll), DC.sl ((v1.getD 1 d0).ll), DC.i ((v1.getD 2 d0).ii), DC.b true]
                          else
                            if 68 = 68 ∧ 0 ≤ (v1.getD 2 d0).ii ∧ (v1.getD 2 d0).ii < (((v1.getD 0 d0).ll).length : Int) then
                              if 68 = 68 ∧ 0 ≤ (v1.getD 2 d0).ii ∧ (v1.getD 2 d0).ii < (((v1.getD 1 d0).ll).length : Int) then
                                if (!(((((v1.getD 0 d0).ll).getD ((v1.getD 2 d0).ii).toNat []).getD 4 d0).bb == ((((v1.getD 1 d0).ll).getD ((v1.getD 2 d0).ii).toNat []).getD 4 d0).bb)) = true then
                                  .norm [DC.sl ((v1.getD 0 d0).ll), DC.sl ((v1.getD 1 d0).ll), DC.i ((v1.getD 2 d0).ii), DC.b true]
                                else
                                  if 68 = 68 ∧ 0 ≤ (v1.getD 2 d0).ii ∧ (v1.getD 2 d0).ii < (((v1.getD 0 d0).ll).length : Int) then
                                    if 68 = 68 ∧ 0 ≤ (v1.getD 2 d0).ii ∧ (v1.getD 2 d0).ii < (((v1.getD 1 d0).ll).length : Int) then
                                      (r_spec_SameValue [DC.i (((((v1.getD 0 d0).ll).getD ((v1.getD 2 d0).ii).toNat []).getD 5 d0).ii), DC.s (((((v1.getD 0 d0).ll).getD ((v1.getD 2 d0).ii).toNat []).getD 6 d0).ss), DC.sl (((((v1.getD 0 d0).ll).getD ((v1.getD 2 d0).ii).toNat []).getD 7 d0).ll), DC.sl (((((v1.getD 0 d0).ll).getD ((v1.getD 2 d0).ii).toNat []).getD 8 d0).ll), DC.i (((((v1.getD 1 d0).ll).getD ((v1.getD 2 d0).ii).toNat []).getD 5 d0).ii), DC.s (((((v1.getD 1 d0).ll).getD ((v1.getD 2 d0).ii).toNat []).getD 6 d0).ss), DC.sl (((((v1.getD 1 d0).ll).getD ((v1.getD 2 d0).ii).toNat []).getD 7 d0).ll), DC.sl (((((v1.getD 1 d0).ll).getD ((v1.getD 2 d0).ii).toNat []).getD 8 d0).ll)]).bindR fun r2 =>
                                      if (!((r2.getD 0 d0).bb)) = true then
                                        .norm [DC.sl ((v1.getD 0 d0).ll), DC.sl ((v1.getD 1 d0).ll), DC.i ((v1.getD 2 d0).ii), DC.b true]
                                      else
                                        if 68 = 68 ∧ 0 ≤ (v1.getD 2 d0).ii ∧ (v1.getD 2 d0).ii < (((v1.getD 0 d0).ll).length : Int) then
                                          if 68 = 68 ∧ 0 ≤ (v1.getD 2 d0).ii ∧ (v1.getD 2 d0).ii < (((v1.getD 1 d0).ll).length : Int) then
                                            (r_spec_l10SameDirs [DC.sl (((((v1.getD 0 d0).ll).getD ((v1.getD 2 d0).ii).toNat []).getD 9 d0).ll), DC.sl (((((v1.getD 1 d0).ll).getD ((v1.getD 2 d0).ii).toNat []).getD 9 d0).ll)]).bindR fun r3 =>
                                            .norm [DC.sl ((v1.getD 0 d0).ll), DC.sl ((v1.getD 1 d0).ll), DC.i ((v1.getD 2 d0).ii), DC.b (!((r3.getD 0 d0).bb))]
                                          else
                                            .fail
                                        else
                                          .fail
                                    else
                                      .fail
                                  else
                                    .fail
                              else
                                .fail
                            else
                              .fail
                        else
                          .fail
                      else
                        .fail
                  else
                    .fail
                else
                  .fail
            else
              .fail
          else
            .fail) fun v4 =>
        if (v4.getD 3 d0).bb = true then
          .ret [DC.b false]
        else
          .norm [DC.sl ((v4.getD 0 d0).ll), DC.sl ((v4.getD 1 d0).ll), DC.i ((v4.getD 2 d0).ii)]) 1 fun v5 =>
      .norm [DC.sl ((v5.getD 0 d0).ll), DC.sl ((v5.getD 1 d0).ll), DC.i (IntKind.i64.wrap ((v5.getD 2 d0).ii + (1 : Int)))]
    else
      .ex 0 []
/-- loop.example/g00964/spec.l14SameIn -/
noncomputable def E_spec_l14SameIn (a : List DC) : Out :=
    if ((((a.getD 0 d0).ll).length : Int) != (((a.getD 1 d0).ll).length : Int)) = true then
      .ret [DC.b false]
    else
      Out.andThenB (Loop E_spec_l14SameInL1 [DC.sl ((a.getD 0 d0).ll), DC.sl ((a.getD 1 d0).ll), DC.i (0 : Int)]) 0 fun v6 =>
      .ret [DC.b true]
theorem eq_spec_l14SameIn (a : List DC) : r_spec_l14SameIn a = E_spec_l14SameIn a := (Run_eq cfg 121 h_spec_l14SameIn a).trans (by kernel_rfl)
noncomputable def E_spec_l10SameDirsL1 : List DC → Out := fun v1 =>
    Out.andThen (if (decide ((v1.getD 2 d0).ii < (((v1.getD 0 d0).ll).length : Int))) = true then
        .norm [DC.sl ((v1.getD 0 d0).ll), DC.sl ((v1.getD 1 d0).ll), DC.i ((v1.getD 2 d0).ii), DC.b (decide ((v1.getD 2 d0).ii < (((v1.getD 1 d0).ll).length : Int)))]
      else
        .norm [DC.sl ((v1.getD 0 d0).ll), DC.sl ((v1.getD 1 d0).ll), DC.i ((v1.getD 2 d0).ii), DC.b false]) fun v2 =>
    if (v2.getD 3 d0).bb = true then
      Out.andThenB (Out.andThen (if 140 = 140 ∧ 0 ≤ (v2.getD 2 d0).ii ∧ (v2.getD 2 d0).ii < (((v2.getD 0 d0).ll).length : Int) then
            if 140 = 140 ∧ 0 ≤ (v2.getD 2 d0).ii ∧ (v2.getD 2 d0).ii < (((v2.getD 1 d0).ll).length : Int) then
              if (!(((((v2.getD 0 d0).ll).getD ((v2.getD 2 d0).ii).toNat []).getD 0 d0).ss == ((((v2.getD 1 d0).ll).getD ((v2.getD 2 d0).ii).toNat []).getD 0 d0).ss)) = true then
                .norm [DC.sl ((v2.getD 0 d0).ll), DC.sl ((v2.getD 1 d0).ll), DC.i ((v2.getD 2 d0).ii), DC.b true]
              else
                if 140 = 140 ∧ 0 ≤ (v2.getD 2 d0).ii ∧ (v2.getD 2 d0).ii < (((v2.getD 0 d0).ll).length : Int) then
                  if 140 = 140 ∧ 0 ≤ (v2.getD 2 d0).ii ∧ (v2.getD 2 d0).ii < (((v2.getD 1 d0).ll).length : Int) then
                    (r_spec_SameArgs [DC.sl (((((v2.getD 0 d0).ll).getD ((v2.getD 2 d0).ii).toNat []).getD 1 d0).ll), DC.sl (((((v2.getD 1 d0).ll).getD ((v2.getD 2 d0).ii).toNat []).getD 1 d0).ll)]).bindR fun r3 =>
                    .norm [DC.sl ((v2.getD 0 d0).ll), DC.sl ((v2.getD 1 d0).ll), DC.i ((v2.getD 2 d0).ii), DC.b (!((r3.getD 0 d0).bb))]
                  else
                    .fail
                else
                  .fail
            else
              .fail
          else
            .fail) fun v4 =>
        if (v4.getD 3 d0).bb = true then
          .ret [DC.b false]
        else
          .norm [DC.sl ((v4.getD 0 d0).ll), DC.sl ((v4.getD 1 d0).ll), DC.i ((v4.getD 2 d0).ii)]) 1 fun v5 =>
      .norm [DC.sl ((v5.getD 0 d0).ll), DC.sl ((v5.getD 1 d0).ll), DC.i (IntKind.i64.wrap ((v5.getD 2 d0).ii + (1 : Int)))]
    else
      .ex 0 [DC.sl ((v2.getD 0 d0).ll), DC.sl ((v2.getD 1 d0).ll)]
/-- loop.example/g00964/spec.l10SameDirs -/
noncomputable def E_spec_l10SameDirs (a : List DC) : Out :=
    Out.andThenB (Loop E_spec_l10SameDirsL1 [DC.sl ((a.getD 0 d0).ll), DC.sl ((a.getD 1 d0).ll), DC.i (0 : Int)]) 0 fun v6 =>
    .ret [DC.b ((((v6.getD 0 d0).ll).length : Int) == (((v6.getD 1 d0).ll).length : Int))]
theorem eq_spec_l10SameDirs (a : List DC) : r_spec_l10SameDirs a = E_spec_l10SameDirs a := (Run_eq cfg 122 h_spec_l10SameDirs a).trans (by kernel_rfl)
noncomputable def E_slices_Equal_stringL1 : List DC → Out := fun v1 =>
    if (decide ((v1.getD 3 d0).ii < (v1.getD 2 d0).ii)) = true then
      Out.andThenB (if 9 = 9 ∧ 0 ≤ (v1.getD 3 d0).ii ∧ (v1.getD 3 d0).ii < (((v1.getD 0 d0).ll).length : Int) then
          if 9 = 9 ∧ 0 ≤ (v1.getD 3 d0).ii ∧ (v1.getD 3 d0).ii < (((v1.getD 1 d0).ll).length : Int) then
            if (!(((((v1.getD 0 d0).ll).getD ((v1.getD 3 d0).ii).toNat []).getD 0 d0).ss == ((((v1.getD 1 d0).ll).getD ((v1.getD 3 d0).ii).toNat []).getD 0 d0).ss)) = true then
              .ret [DC.b false]
            else
              .norm [DC.sl ((v1.getD 0 d0).ll), DC.sl ((v1.getD 1 d0).ll), DC.i ((v1.getD 2 d0).ii), DC.i ((v1.getD 3 d0).ii)]
          else
            .fail
        else
          .fail) 1 fun v2 =>
      .norm [DC.sl ((v2.getD 0 d0).ll), DC.sl ((v2.getD 1 d0).ll), DC.i ((v2.getD 2 d0).ii), DC.i (IntKind.i64.wrap ((v2.getD 3 d0).ii + (1 : Int)))]
    else
      .ex 0 []
/-- slices.Equal[[]string,string] -/
noncomputable def E_slices_Equal_string (a : List DC) : Out :=
    if ((((a.getD 0 d0).ll).length : Int) != (((a.getD 1 d0).ll).length : Int)) = true then
      .ret [DC.b false]
    else
      Out.andThenB (Loop E_slices_Equal_stringL1 [DC.sl ((a.getD 0 d0).ll), DC.sl ((a.getD 1 d0).ll), DC.i (((a.getD 0 d0).ll).length : Int), DC.i (0 : Int)]) 0 fun v3 =>
      .ret [DC.b true]
theorem eq_slices_Equal_string (a : List DC) : r_slices_Equal_string a = E_slices_Equal_string a := (Run_eq cfg 93 h_slices_Equal_string a).trans (by kernel_rfl)
noncomputable def E_slices_EqualFunc_impl_FieldDef__impl_sameFieldL1 : List DC → Out := fun v1 =>
    if (decide ((v1.getD 3 d0).ii < (v1.getD 2 d0).ii)) = true then
      Out.andThenB (if 121 = 121 ∧ 0 ≤ (v1.getD 3 d0).ii ∧ (v1.getD 3 d0).ii < (((v1.getD 1 d0).ll).length : Int) then
          if 121 = 121 ∧ 0 ≤ (v1.getD 3 d0).ii ∧ (v1.getD 3 d0).ii < (((v1.getD 0 d0).ll).length : Int) then
            (r_impl_sameField [DC.s (((((v1.getD 1 d0).ll).getD ((v1.getD 3 d0).ii).toNat []).getD 0 d0).ss), DC.s (((((v1.getD 1 d0).ll).getD ((v1.getD 3 d0).ii).toNat []).getD 1 d0).ss), DC.sl (((((v1.getD 1 d0).ll).getD ((v1.getD 3 d0).ii).toNat []).getD 2 d0).ll), DC.s (((((v1.getD 1 d0).ll).getD ((v1.getD 3 d0).ii).toNat []).getD 3 d0).ss), DC.s (((((v1.getD 1 d0).ll).getD ((v1.getD 3 d0).ii).toNat []).getD 4 d0).ss), DC.sl (((((v1.getD 1 d0).ll).getD ((v1.getD 3 d0).ii).toNat []).getD 5 d0).ll), DC.s (((((v1.getD 0 d0).ll).getD ((v1.getD 3 d0).ii).toNat []).getD 0 d0).ss), DC.s (((((v1.getD 0 d0).ll).getD ((v1.getD 3 d0).ii).toNat []).getD 1 d0).ss), DC.sl (((((v1.getD 0 d0).ll).getD ((v1.getD 3 d0).ii).toNat []).getD 2 d0).ll), DC.s (((((v1.getD 0 d0).ll).getD ((v1.getD 3 d0).ii).toNat []).getD 3 d0).ss), DC.s (((((v1.getD 0 d0).ll).getD ((v1.getD 3 d0).ii).toNat []).getD 4 d0).ss), DC.sl (((((v1.getD 0 d0).ll).getD ((v1.getD 3 d0).ii).toNat []).getD 5 d0).ll)]).bindR fun r2 =>
            if (!((r2.getD 0 d0).bb)) = true then
              .ret [DC.b false]
            else
              .norm [DC.sl ((v1.getD 0 d0).ll), DC.sl ((v1.getD 1 d0).ll), DC.i ((v1.getD 2 d0).ii), DC.i ((v1.getD 3 d0).ii)]
          else
            .fail
        else
          .fail) 1 fun v3 =>
      .norm [DC.sl ((v3.getD 0 d0).ll), DC.sl ((v3.getD 1 d0).ll), DC.i ((v3.getD 2 d0).ii), DC.i (IntKind.i64.wrap ((v3.getD 3 d0).ii + (1 : Int)))]
    else
      .ex 0 []
/-- slices.EqualFunc[[]loop.example/g00964/impl.FieldDef,[]loop.example/g00964/impl.FieldDef,loop.example/g00964/impl.FieldDef,loop.example/g00964/impl.FieldDef] -/
noncomputable def E_slices_EqualFunc_impl_FieldDef__impl_sameField (a : List DC) : Out :=
    if ((((a.getD 0 d0).ll).length : Int) != (((a.getD 1 d0).ll).length : Int)) = true then
      .ret [DC.b false]
    else
      Out.andThenB (Loop E_slices_EqualFunc_impl_FieldDef__impl_sameFieldL1 [DC.sl ((a.getD 1 d0).ll), DC.sl ((a.getD 0 d0).ll), DC.i (((a.getD 0 d0).ll).length : Int), DC.i (0 : Int)]) 0 fun v4 =>
      .ret [DC.b true]
theorem eq_slices_EqualFunc_impl_FieldDef__impl_sameField (a : List DC) : r_slices_EqualFunc_impl_FieldDef__impl_sameField a = E_slices_EqualFunc_impl_FieldDef__impl_sameField a := (Run_eq cfg 94 h_slices_EqualFunc_impl_FieldDef__impl_sameField a).trans (by kernel_rfl)
noncomputable def E_slices_EqualFunc_impl_InDef__impl_sameInL1 : List DC → Out := fun v1 =>
    if (decide ((v1.getD 3 d0).ii < (v1.getD 2 d0).ii)) = true then
      Out.andThenB (if 68 = 68 ∧ 0 ≤ (v1.getD 3 d0).ii ∧ (v1.getD 3 d0).ii < (((v1.getD 1 d0).ll).length : Int) then
          if 68 = 68 ∧ 0 ≤ (v1.getD 3 d0).ii ∧ (v1.getD 3 d0).ii < (((v1.getD 0 d0).ll).length : Int) then
            (r_impl_sameIn [DC.s (((((v1.getD 1 d0).ll).getD ((v1.getD 3 d0).ii).toNat []).getD 0 d0).ss), DC.s (((((v1.getD 1 d0).ll).getD ((v1.getD 3 d0).ii).toNat []).getD 1 d0).ss), DC.s (((((v1.getD 1 d0).ll).getD ((v1.getD 3 d0).ii).toNat []).getD 2 d0).ss), DC.s (((((v1.getD 1 d0).ll).getD ((v1.getD 3 d0).ii).toNat []).getD 3 d0).ss), DC.b (((((v1.getD 1 d0).ll).getD ((v1.getD 3 d0).ii).toNat []).getD 4 d0).bb), DC.i (((((v1.getD 1 d0).ll).getD ((v1.getD 3 d0).ii).toNat []).getD 5 d0).ii), DC.s (((((v1.getD 1 d0).ll).getD ((v1.getD 3 d0).ii).toNat []).getD 6 d0).ss), DC.sl (((((v1.getD 1 d0).ll).getD ((v1.getD 3 d0).ii).toNat []).getD 7 d0).ll), DC.sl (((((v1.getD 1 d0).ll).getD ((v1.getD 3 d0).ii).toNat []).getD 8 d0).ll), DC.sl (((((v1.getD 1 d0).ll).getD ((v1.getD 3 d0).ii).toNat []).getD 9 d0).ll), DC.s (((((v1.getD 0 d0).ll).getD ((v1.getD 3 d0).ii).toNat []).getD 0 d0).ss), DC.s (((((v1.getD 0 d0).ll).getD ((v1.getD 3 d0).ii).toNat []).getD 1 d0).ss), DC.s (((((v1.getD 0 d0).ll).getD ((v1.getD 3 d0).ii).toNat []).getD 2 d0).ss), DC.s (((((v1.getD 0 d0).ll).getD ((v1.getD 3 d0).ii).toNat []).getD 3 d0).ss), DC.b (((((v1.getD 0 d0).ll).getD ((v1.getD 3 d0).ii).toNat []).getD 4 d0).bb), DC.i (((((v1.getD 0 d0).ll).getD ((v1.getD 3 d0).ii).toNat []).getD 5 d0).ii), DC.s (((((v1.getD 0 d0).ll).getD ((v1.getD 3 d0).ii).toNat []).getD 6 d0).ss), DC.sl (((((v1.getD 0 d0).ll).getD ((v1.getD 3 d0).ii).toNat []).getD 7 d0).ll), DC.sl (((((v1.getD 0 d0).ll).getD ((v1.getD 3 d0).ii).toNat []).getD 8 d0).ll), DC.sl (((((v1.getD 0 d0).ll).getD ((v1.getD 3 d0).ii).toNat []).getD 9 d0).ll)]).bindR fun r2 =>
            if (!((r2.getD 0 d0).bb)) = true then
              .ret [DC.b false]
            else
              .norm [DC.sl ((v1.getD 0 d0).ll), DC.sl ((v1.getD 1 d0).ll), DC.i ((v1.getD 2 d0).ii), DC.i ((v1.getD 3 d0).ii)]
          else
            .fail
        else
          .fail) 1 fun v3 =>
      .norm [DC.sl ((v3.getD 0 d0).ll), DC.sl ((v3.getD 1 d0).ll), DC.i ((v3.getD 2 d0).ii), DC.i (IntKind.i64.wrap ((v3.getD 3 d0).ii + (1 : Int)))]
    else
      .ex 0 []
/-- slices.EqualFunc[[]loop.example/g00964/impl.InDef,[]loop.example/g00964/impl.InDef,loop.example/g00964/impl.InDef,loop.example/g00964/impl.InDef] -/
noncomputable def E_slices_EqualFunc_impl_InDef__impl_sameIn (a : List DC) : Out :=
    if ((((a.getD 0 d0).ll).length : Int) != (((a.getD 1 d0).ll).length : Int)) = true then
      .ret [DC.b false]
    else
      Out.andThenB (Loop E_slices_EqualFunc_impl_InDef__impl_sameInL1 [DC.sl ((a.getD 1 d0).ll), DC.sl ((a.getD 0 d0).ll), DC.i (((a.getD 0 d0).ll).length : Int), DC.i (0 : Int)]) 0 fun v4 =>
      .ret [DC.b true]
theorem eq_slices_EqualFunc_impl_InDef__impl_sameIn (a : List DC) : r_slices_EqualFunc_impl_InDef__impl_sameIn a = E_slices_EqualFunc_impl_InDef__impl_sameIn a := (Run_eq cfg 96 h_slices_EqualFunc_impl_InDef__impl_sameIn a).trans (by kernel_rfl)
noncomputable def E_slices_EqualFunc_impl_EnumDef__impl_sameEnumL1 : List DC → Out := fun v1 =>
    if (decide ((v1.getD 3 d0).ii < (v1.getD 2 d0).ii)) = true then
      Out.andThenB (if 126 = 126 ∧ 0 ≤ (v1.getD 3 d0).ii ∧ (v1.getD 3 d0).ii < (((v1.getD 1 d0).ll).length : Int) then
          if 126 = 126 ∧ 0 ≤ (v1.getD 3 d0).ii ∧ (v1.getD 3 d0).ii < (((v1.getD 0 d0).ll).length : Int) then
            (r_impl_sameEnum [DC.s (((((v1.getD 1 d0).ll).getD ((v1.getD 3 d0).ii).toNat []).getD 0 d0).ss), DC.s (((((v1.getD 1 d0).ll).getD ((v1.getD 3 d0).ii).toNat []).getD 1 d0).ss), DC.sl (((((v1.getD 1 d0).ll).getD ((v1.getD 3 d0).ii).toNat []).getD 2 d0).ll), DC.s (((((v1.getD 0 d0).ll).getD ((v1.getD 3 d0).ii).toNat []).getD 0 d0).ss), DC.s (((((v1.getD 0 d0).ll).getD ((v1.getD 3 d0).ii).toNat []).getD 1 d0).ss), DC.sl (((((v1.getD 0 d0).ll).getD ((v1.getD 3 d0).ii).toNat []).getD 2 d0).ll)]).bindR fun r2 =>
            if (!((r2.getD 0 d0).bb)) = true then
              .ret [DC.b false]
            else
              .norm [DC.sl ((v1.getD 0 d0).ll), DC.sl ((v1.getD 1 d0).ll), DC.i ((v1.getD 2 d0).ii), DC.i ((v1.getD 3 d0).ii)]
          else
            .fail
        else
          .fail) 1 fun v3 =>
      .norm [DC.sl ((v3.getD 0 d0).ll), DC.sl ((v3.getD 1 d0).ll), DC.i ((v3.getD 2 d0).ii), DC.i (IntKind.i64.wrap ((v3.getD 3 d0).ii + (1 : Int)))]
    else
      .ex 0 []
/-- slices.EqualFunc[[]loop.example/g00964/impl.EnumDef,[]loop.example/g00964/impl.EnumDef,loop.example/g00964/impl.EnumDef,loop.example/g00964/impl.EnumDef] -/
noncomputable def E_slices_EqualFunc_impl_EnumDef__impl_sameEnum (a : List DC) : Out :=
    if ((((a.getD 0 d0).ll).length : Int) != (((a.getD 1 d0).ll).length : Int)) = true then
      .ret [DC.b false]
    else
      Out.andThenB (Loop E_slices_EqualFunc_impl_EnumDef__impl_sameEnumL1 [DC.sl ((a.getD 1 d0).ll), DC.sl ((a.getD 0 d0).ll), DC.i (((a.getD 0 d0).ll).length : Int), DC.i (0 : Int)]) 0 fun v4 =>
      .ret [DC.b true]
theorem eq_slices_EqualFunc_impl_EnumDef__impl_sameEnum (a : List DC) : r_slices_EqualFunc_impl_EnumDef__impl_sameEnum a = E_slices_EqualFunc_impl_EnumDef__impl_sameEnum a := (Run_eq cfg 98 h_slices_EqualFunc_impl_EnumDef__impl_sameEnum a).trans (by kernel_rfl)
/-- loop.example/g00964/impl.sameDirs -/
noncomputable def E_impl_sameDirs (a : List DC) : Out :=
    (r_slices_EqualFunc_impl_Dir__impl_sameDirs_1 [DC.sl ((a.getD 0 d0).ll), DC.sl ((a.getD 1 d0).ll)]).bindR fun r1 =>
    .ret [DC.b ((r1.getD 0 d0).bb)]
theorem eq_impl_sameDirs (a : List DC) : r_impl_sameDirs a = E_impl_sameDirs a := (Run_eq cfg 100 h_impl_sameDirs a).trans (by kernel_rfl)
noncomputable def E_laws_szArgSL1 : List DC → Out := fun v1 =>
    if (decide ((v1.getD 2 d0).ii < (((v1.getD 0 d0).ll).length : Int))) = true then
      Out.andThenB (if 185 = 185 ∧ 0 ≤ (v1.getD 2 d0).ii ∧ (v1.getD 2 d0).ii < (((v1.getD 0 d0).ll).length : Int) then
          (r_laws_szArg [DC.s (((((v1.getD 0 d0).ll).getD ((v1.getD 2 d0).ii).toNat []).getD 0 d0).ss), DC.i (((((v1.getD 0 d0).ll).getD ((v1.getD 2 d0).ii).toNat []).getD 1 d0).ii), DC.s (((((v1.getD 0 d0).ll).getD ((v1.getD 2 d0).ii).toNat []).getD 2 d0).ss), DC.sl (((((v1.getD 0 d0).ll).getD ((v1.getD 2 d0).ii).toNat []).getD 3 d0).ll), DC.sl (((((v1.getD 0 d0).ll).getD ((v1.getD 2 d0).ii).toNat []).getD 4 d0).ll), DC.i ((v1.getD 1 d0).ii)]).bindR fun r2 =>
          if (decide ((r2.getD 0 d0).ii < (0 : Int))) = true then
            .ret [DC.i (-1 : Int)]
          else
            .norm [DC.sl ((v1.getD 0 d0).ll), DC.i ((r2.getD 0 d0).ii), DC.i ((v1.getD 2 d0).ii)]
        else
          .fail) 1 fun v3 =>
      .norm [DC.sl ((v3.getD 0 d0).ll), DC.i ((v3.getD 1 d0).ii), DC.i (IntKind.i64.wrap ((v3.getD 2 d0).ii + (1 : Int)))]
    else
      .ex 0 [DC.i ((v1.getD 1 d0).ii)]
/-- loop.example/g00964/laws.szArgS -/
noncomputable def E_laws_szArgS (a : List DC) : Out :=
    if (decide ((IntKind.i64.wrap ((a.getD 1 d0).ii - (((a.getD 0 d0).ll).length : Int))) < (0 : Int))) = true then
      .ret [DC.i (-1 : Int)]
    else
      Out.andThenB (Loop E_laws_szArgSL1 [DC.sl ((a.getD 0 d0).ll), DC.i (IntKind.i64.wrap ((a.getD 1 d0).ii - (((a.getD 0 d0).ll).length : Int))), DC.i (0 : Int)]) 0 fun v4 =>
      .ret [DC.i ((v4.getD 0 d0).ii)]
theorem eq_laws_szArgS (a : List DC) : r_laws_szArgS a = E_laws_szArgS a := (Run_eq cfg 129 h_laws_szArgS a).trans (by kernel_rfl)
noncomputable def E_laws_toArgSL1 : List DC → Out := fun v1 =>
    if (decide ((v1.getD 2 d0).ii < (((v1.getD 0 d0).ll).length : Int))) = true then
      Out.andThenB (if 185 = 185 ∧ 0 ≤ (v1.getD 2 d0).ii ∧ (v1.getD 2 d0).ii < (((v1.getD 0 d0).ll).length : Int) then
          (r_laws_toArg [DC.s (((((v1.getD 0 d0).ll).getD ((v1.getD 2 d0).ii).toNat []).getD 0 d0).ss), DC.i (((((v1.getD 0 d0).ll).getD ((v1.getD 2 d0).ii).toNat []).getD 1 d0).ii), DC.s (((((v1.getD 0 d0).ll).getD ((v1.getD 2 d0).ii).toNat []).getD 2 d0).ss), DC.sl (((((v1.getD 0 d0).ll).getD ((v1.getD 2 d0).ii).toNat []).getD 3 d0).ll), DC.sl (((((v1.getD 0 d0).ll).getD ((v1.getD 2 d0).ii).toNat []).getD 4 d0).ll)]).bindR fun r2 =>
          if 169 = 169 ∧ 0 ≤ (v1.getD 2 d0).ii ∧ (v1.getD 2 d0).ii < (((v1.getD 1 d0).ll).length : Int) then
            .norm [DC.sl ((v1.getD 0 d0).ll), DC.sl (((v1.getD 1 d0).ll).set (((v1.getD 2 d0).ii).toNat) (setRunD (((v1.getD 1 d0).ll).getD (((v1.getD 2 d0).ii).toNat) []) 0 [DC.s ((r2.getD 0 d0).ss), DC.i ((r2.getD 1 d0).ii), DC.s ((r2.getD 2 d0).ss), DC.sl ((r2.getD 3 d0).ll), DC.sl ((r2.getD 4 d0).ll)])), DC.i ((v1.getD 2 d0).ii)]
          else
            .fail
        else
          .fail) 1 fun v3 =>
      .norm [DC.sl ((v3.getD 0 d0).ll), DC.sl ((v3.getD 1 d0).ll), DC.i (IntKind.i64.wrap ((v3.getD 2 d0).ii + (1 : Int)))]
    else
      .ex 0 [DC.sl ((v1.getD 1 d0).ll)]
/-- loop.example/g00964/laws.toArgS -/
noncomputable def E_laws_toArgS (a : List DC) : Out :=
    if 0 ≤ (((a.getD 0 d0).ll).length : Int) ∧ (((a.getD 0 d0).ll).length : Int) < (LIM : Int) ∧ (((a.getD 0 d0).ll).length : Int) = (((a.getD 0 d0).ll).length : Int) ∧ 88 ≤ 1024 ∧ 0 < 5 then
      Out.andThenB (Loop E_laws_toArgSL1 [DC.sl ((a.getD 0 d0).ll), DC.sl (List.replicate (((a.getD 0 d0).ll).length : Int).toNat [DC.s [], DC.i 0, DC.s [], DC.sl [], DC.sl []]), DC.i (0 : Int)]) 0 fun v4 =>
      .ret [DC.sl ((v4.getD 0 d0).ll)]
    else
      .fail
theorem eq_laws_toArgS (a : List DC) : r_laws_toArgS a = E_laws_toArgS a := (Run_eq cfg 130 h_laws_toArgS a).trans (by kernel_rfl)
noncomputable def E_laws_eqArgSL1 : List DC → Out := fun v1 =>
    if (decide ((v1.getD 2 d0).ii < (((v1.getD 0 d0).ll).length : Int))) = true then
      Out.andThenB (if 169 = 169 ∧ 0 ≤ (v1.getD 2 d0).ii ∧ (v1.getD 2 d0).ii < (((v1.getD 0 d0).ll).length : Int) then
          if 169 = 169 ∧ 0 ≤ (v1.getD 2 d0).ii ∧ (v1.getD 2 d0).ii < (((v1.getD 1 d0).ll).length : Int) then
            (r_laws_eqArg [DC.s (((((v1.getD 0 d0).ll).getD ((v1.getD 2 d0).ii).toNat []).getD 0 d0).ss), DC.i (((((v1.getD 0 d0).ll).getD ((v1.getD 2 d0).ii).toNat []).getD 1 d0).ii), DC.s (((((v1.getD 0 d0).ll).getD ((v1.getD 2 d0).ii).toNat []).getD 2 d0).ss), DC.sl (((((v1.getD 0 d0).ll).getD ((v1.getD 2 d0).ii).toNat []).getD 3 d0).ll), DC.sl (((((v1.getD 0 d0).ll).getD ((v1.getD 2 d0).ii).toNat []).getD 4 d0).ll), DC.s (((((v1.getD 1 d0).ll).getD ((v1.getD 2 d0).ii).toNat []).getD 0 d0).ss), DC.i (((((v1.getD 1 d0).ll).getD ((v1.getD 2 d0).ii).toNat []).getD 1 d0).ii), DC.s (((((v1.getD 1 d0).ll).getD ((v1.getD 2 d0).ii).toNat []).getD 2 d0).ss), DC.sl (((((v1.getD 1 d0).ll).getD ((v1.getD 2 d0).ii).toNat []).getD 3 d0).ll), DC.sl (((((v1.getD 1 d0).ll).getD ((v1.getD 2 d0).ii).toNat []).getD 4 d0).ll)]).bindR fun r2 =>
            if (!((r2.getD 0 d0).bb)) = true then
              .ret [DC.b false]
            else
              .norm [DC.sl ((v1.getD 0 d0).ll), DC.sl ((v1.getD 1 d0).ll), DC.i ((v1.getD 2 d0).ii)]
          else
            .fail
        else
          .fail) 1 fun v3 =>
      .norm [DC.sl ((v3.getD 0 d0).ll), DC.sl ((v3.getD 1 d0).ll), DC.i (IntKind.i64.wrap ((v3.getD 2 d0).ii + (1 : Int)))]
    else
      .ex 0 []
/-- loop.example/g00964/laws.eqArgS -/
noncomputable def E_laws_eqArgS (a : List DC) : Out :=
    if ((((a.getD 0 d0).ll).length : Int) != (((a.getD 1 d0).ll).length : Int)) = true then
      .ret [DC.b false]
    else
      Out.andThenB (Loop E_laws_eqArgSL1 [DC.sl ((a.getD 0 d0).ll), DC.sl ((a.getD 1 d0).ll), DC.i (0 : Int)]) 0 fun v4 =>
      .ret [DC.b true]
theorem eq_laws_eqArgS (a : List DC) : r_laws_eqArgS a = E_laws_eqArgS a := (Run_eq cfg 131 h_laws_eqArgS a).trans (by kernel_rfl)
/-- loop.example/g00964/laws.szFieldDef -/
noncomputable def E_laws_szFieldDef (a : List DC) : Out :=
    if (decide ((IntKind.i64.wrap ((a.getD 6 d0).ii - (((a.getD 0 d0).ss).length : Int))) < (0 : Int))) = true then
      .ret [DC.i (-1 : Int)]
    else
      if (decide ((IntKind.i64.wrap ((IntKind.i64.wrap ((a.getD 6 d0).ii - (((a.getD 0 d0).ss).length : Int))) - (((a.getD 1 d0).ss).length : Int))) < (0 : Int))) = true then
        .ret [DC.i (-1 : Int)]
      else
        (r_laws_szInDefS [DC.sl ((a.getD 2 d0).ll), DC.i (IntKind.i64.wrap ((IntKind.i64.wrap ((a.getD 6 d0).ii - (((a.getD 0 d0).ss).length : Int))) - (((a.getD 1 d0).ss).length : Int)))]).bindR fun r1 =>
        if (decide ((r1.getD 0 d0).ii < (0 : Int))) = true then
          .ret [DC.i (-1 : Int)]
        else
          (r_laws_szType [DC.s ((a.getD 3 d0).ss), DC.s ((a.getD 4 d0).ss), DC.i ((r1.getD 0 d0).ii)]).bindR fun r2 =>
          if (decide ((r2.getD 0 d0).ii < (0 : Int))) = true then
            .ret [DC.i (-1 : Int)]
          else
            (r_laws_szDirS [DC.sl ((a.getD 5 d0).ll), DC.i ((r2.getD 0 d0).ii)]).bindR fun r3 =>
            if (decide ((r3.getD 0 d0).ii < (0 : Int))) = true then
              .ret [DC.i (-1 : Int)]
            else
              .ret [DC.i ((r3.getD 0 d0).ii)]
theorem eq_laws_szFieldDef (a : List DC) : r_laws_szFieldDef a = E_laws_szFieldDef a := (Run_eq cfg 132 h_laws_szFieldDef a).trans (by kernel_rfl)
/-- loop.example/g00964/laws.szEnumDef -/
noncomputable def E_laws_szEnumDef (a : List DC) : Out :=
    if (decide ((IntKind.i64.wrap ((a.getD 3 d0).ii - (((a.getD 0 d0).ss).length : Int))) < (0 : Int))) = true then
      .ret [DC.i (-1 : Int)]
    else
      if (decide ((IntKind.i64.wrap ((IntKind.i64.wrap ((a.getD 3 d0).ii - (((a.getD 0 d0).ss).length : Int))) - (((a.getD 1 d0).ss).length : Int))) < (0 : Int))) = true then
        .ret [DC.i (-1 : Int)]
      else
        (r_laws_szDirS [DC.sl ((a.getD 2 d0).ll), DC.i (IntKind.i64.wrap ((IntKind.i64.wrap ((a.getD 3 d0).ii - (((a.getD 0 d0).ss).length : Int))) - (((a.getD 1 d0).ss).length : Int)))]).bindR fun r1 =>
        if (decide ((r1.getD 0 d0).ii < (0 : Int))) = true then
          .ret [DC.i (-1 : Int)]
        else
          .ret [DC.i ((r1.getD 0 d0).ii)]
theorem eq_laws_szEnumDef (a : List DC) : r_laws_szEnumDef a = E_laws_szEnumDef a := (Run_eq cfg 133 h_laws_szEnumDef a).trans (by kernel_rfl)
/-- loop.example/g00964/laws.toFieldDef -/
noncomputable def E_laws_toFieldDef (a : List DC) : Out :=
    (r_laws_toInDefS [DC.sl ((a.getD 2 d0).ll)]).bindR fun r1 =>
    (r_laws_toType [DC.s ((a.getD 3 d0).ss), DC.s ((a.getD 4 d0).ss)]).bindR fun r2 =>
    (r_laws_toDirS [DC.sl ((a.getD 5 d0).ll)]).bindR fun r3 =>
    .ret [DC.s ((a.getD 0 d0).ss), DC.s ((a.getD 1 d0).ss), DC.sl ((r1.getD 0 d0).ll), DC.s ((r2.getD 0 d0).ss), DC.s ((r2.getD 1 d0).ss), DC.sl ((r3.getD 0 d0).ll)]
theorem eq_laws_toFieldDef (a : List DC) : r_laws_toFieldDef a = E_laws_toFieldDef a := (Run_eq cfg 134 h_laws_toFieldDef a).trans (by kernel_rfl)
/-- loop.example/g00964/laws.toEnumDef -/
noncomputable def E_laws_toEnumDef (a : List DC) : Out :=
    (r_laws_toDirS [DC.sl ((a.getD 2 d0).ll)]).bindR fun r1 =>
    .ret [DC.s ((a.getD 0 d0).ss), DC.s ((a.getD 1 d0).ss), DC.sl ((r1.getD 0 d0).ll)]
theorem eq_laws_toEnumDef (a : List DC) : r_laws_toEnumDef a = E_laws_toEnumDef a := (Run_eq cfg 135 h_laws_toEnumDef a).trans (by kernel_rfl)
/-- loop.example/g00964/laws.eqFieldDef -/
noncomputable def E_laws_eqFieldDef (a : List DC) : Out :=
    if (!((a.getD 0 d0).ss == (a.getD 6 d0).ss)) = true then
      .ret [DC.b false]
    else
      if (!((a.getD 1 d0).ss == (a.getD 7 d0).ss)) = true then
        .ret [DC.b false]
      else
        (r_laws_eqInDefS [DC.sl ((a.getD 2 d0).ll), DC.sl ((a.getD 8 d0).ll)]).bindR fun r1 =>
        if (!((r1.getD 0 d0).bb)) = true then
          .ret [DC.b false]
        else
          (r_laws_eqType [DC.s ((a.getD 3 d0).ss), DC.s ((a.getD 4 d0).ss), DC.s ((a.getD 9 d0).ss), DC.s ((a.getD 10 d0).ss)]).bindR fun r2 =>
          if (!((r2.getD 0 d0).bb)) = true then
            .ret [DC.b false]
          else
            (r_laws_eqDirS [DC.sl ((a.getD 5 d0).ll), DC.sl ((a.getD 11 d0).ll)]).bindR fun r3 =>
            if (!((r3.getD 0 d0).bb)) = true then
              .ret [DC.b false]
            else
              .ret [DC.b true]
theorem eq_laws_eqFieldDef (a : List DC) : r_laws_eqFieldDef a = E_laws_eqFieldDef a := (Run_eq cfg 136 h_laws_eqFieldDef a).trans (by kernel_rfl)
/-- loop.example/g00964/laws.eqEnumDef -/
noncomputable def E_laws_eqEnumDef (a : List DC) : Out :=
    if (!((a.getD 0 d0).ss == (a.getD 3 d0).ss)) = true then
      .ret [DC.b false]
    else
      if (!((a.getD 1 d0).ss == (a.getD 4 d0).ss)) = true then
        .ret [DC.b false]
      else
        (r_laws_eqDirS [DC.sl ((a.getD 2 d0).ll), DC.sl ((a.getD 5 d0).ll)]).bindR fun r1 =>
        if (!((r1.getD 0 d0).bb)) = true then
          .ret [DC.b false]
        else
          .ret [DC.b true]
theorem eq_laws_eqEnumDef (a : List DC) : r_laws_eqEnumDef a = E_laws_eqEnumDef a := (Run_eq cfg 137 h_laws_eqEnumDef a).trans (by kernel_rfl)
/-- internal/stringslite.HasSuffix -/
noncomputable def E_internal_stringslite_HasSuffix (a : List DC) : Out :=
    Out.andThen (if (decide ((((a.getD 0 d0).ss).length : Int) ≥ (((a.getD 1 d0).ss).length : Int))) = true then
        if 0 ≤ (IntKind.i64.wrap ((((a.getD 0 d0).ss).length : Int) - (((a.getD 1 d0).ss).length : Int))) ∧ (IntKind.i64.wrap ((((a.getD 0 d0).ss).length : Int) - (((a.getD 1 d0).ss).length : Int))) ≤ (((a.getD 0 d0).ss).length : Int) then
          .norm [DC.b ((((a.getD 0 d0).ss).drop (IntKind.i64.wrap ((((a.getD 0 d0).ss).length : Int) - (((a.getD 1 d0).ss).length : Int))).toNat) == (a.getD 1 d0).ss)]
        else
          .fail
      else
        .norm [DC.b false]) fun v1 =>
    .ret [DC.b ((v1.getD 0 d0).bb)]
theorem eq_internal_stringslite_HasSuffix (a : List DC) : r_internal_stringslite_HasSuffix a = E_internal_stringslite_HasSuffix a := (Run_eq cfg 138 h_internal_stringslite_HasSuffix a).trans (by kernel_rfl)
noncomputable def E_spec_SameValueL1 : List DC → Out := fun v2 =>
    if (decide ((v2.getD 0 d0).ii < (((v2.getD 4 d0).ll).length : Int))) = true then
      Out.andThenB (if 9 = 9 ∧ 0 ≤ (v2.getD 0 d0).ii ∧ (v2.getD 0 d0).ii < (((v2.getD 4 d0).ll).length : Int) then
          if 9 = 9 ∧ 0 ≤ (v2.getD 0 d0).ii ∧ (v2.getD 0 d0).ii < (((v2.getD 8 d0).ll).length : Int) then
            if (!(((((v2.getD 4 d0).ll).getD ((v2.getD 0 d0).ii).toNat []).getD 0 d0).ss == ((((v2.getD 8 d0).ll).getD ((v2.getD 0 d0).ii).toNat []).getD 0 d0).ss)) = true then
              .ret [DC.b false]
            else
              .norm [DC.i ((v2.getD 0 d0).ii), DC.i ((v2.getD 1 d0).ii), DC.s ((v2.getD 2 d0).ss), DC.sl ((v2.getD 3 d0).ll), DC.sl ((v2.getD 4 d0).ll), DC.i ((v2.getD 5 d0).ii), DC.s ((v2.getD 6 d0).ss), DC.sl ((v2.getD 7 d0).ll), DC.sl ((v2.getD 8 d0).ll)]
          else
            .fail
        else
          .fail) 1 fun v3 =>
      .norm [DC.i (IntKind.i64.wrap ((v3.getD 0 d0).ii + (1 : Int))), DC.i ((v3.getD 1 d0).ii), DC.s ((v3.getD 2 d0).ss), DC.sl ((v3.getD 3 d0).ll), DC.sl ((v3.getD 4 d0).ll), DC.i ((v3.getD 5 d0).ii), DC.s ((v3.getD 6 d0).ss), DC.sl ((v3.getD 7 d0).ll), DC.sl ((v3.getD 8 d0).ll)]
    else
      .ex 0 [DC.i ((v2.getD 1 d0).ii), DC.s ((v2.getD 2 d0).ss), DC.sl ((v2.getD 3 d0).ll), DC.sl ((v2.getD 4 d0).ll), DC.i ((v2.getD 5 d0).ii), DC.s ((v2.getD 6 d0).ss), DC.sl ((v2.getD 7 d0).ll), DC.sl ((v2.getD 8 d0).ll)]
noncomputable def E_spec_SameValueL2 : List DC → Out := fun v5 =>
    if (decide ((v5.getD 0 d0).ii < (((v5.getD 3 d0).ll).length : Int))) = true then
      Out.andThenB (if 65 = 65 ∧ 0 ≤ (v5.getD 0 d0).ii ∧ (v5.getD 0 d0).ii < (((v5.getD 3 d0).ll).length : Int) then
          if 65 = 65 ∧ 0 ≤ (v5.getD 0 d0).ii ∧ (v5.getD 0 d0).ii < (((v5.getD 7 d0).ll).length : Int) then
            (r_spec_SameValue [DC.i (((((v5.getD 3 d0).ll).getD ((v5.getD 0 d0).ii).toNat []).getD 0 d0).ii), DC.s (((((v5.getD 3 d0).ll).getD ((v5.getD 0 d0).ii).toNat []).getD 1 d0).ss), DC.sl (((((v5.getD 3 d0).ll).getD ((v5.getD 0 d0).ii).toNat []).getD 2 d0).ll), DC.sl (((((v5.getD 3 d0).ll).getD ((v5.getD 0 d0).ii).toNat []).getD 3 d0).ll), DC.i (((((v5.getD 7 d0).ll).getD ((v5.getD 0 d0).ii).toNat []).getD 0 d0).ii), DC.s (((((v5.getD 7 d0).ll).getD ((v5.getD 0 d0).ii).toNat []).getD 1 d0).ss), DC.sl (((((v5.getD 7 d0).ll).getD ((v5.getD 0 d0).ii).toNat []).getD 2 d0).ll), DC.sl (((((v5.getD 7 d0).ll).getD ((v5.getD 0 d0).ii).toNat []).getD 3 d0).ll)]).bindR fun r6 =>
            if (!((r6.getD 0 d0).bb)) = true then
              .ret [DC.b false]
            else
              .norm [DC.i ((v5.getD 0 d0).ii), DC.i ((v5.getD 1 d0).ii), DC.s ((v5.getD 2 d0).ss), DC.sl ((v5.getD 3 d0).ll), DC.sl ((v5.getD 4 d0).ll), DC.i ((v5.getD 5 d0).ii), DC.s ((v5.getD 6 d0).ss), DC.sl ((v5.getD 7 d0).ll), DC.sl ((v5.getD 8 d0).ll)]
          else
            .fail
        else
          .fail) 3 fun v7 =>
      .norm [DC.i (IntKind.i64.wrap ((v7.getD 0 d0).ii + (1 : Int))), DC.i ((v7.getD 1 d0).ii), DC.s ((v7.getD 2 d0).ss), DC.sl ((v7.getD 3 d0).ll), DC.sl ((v7.getD 4 d0).ll), DC.i ((v7.getD 5 d0).ii), DC.s ((v7.getD 6 d0).ss), DC.sl ((v7.getD 7 d0).ll), DC.sl ((v7.getD 8 d0).ll)]
    else
      .ex 2 []
/-- loop.example/g00964/spec.SameValue -/
noncomputable def E_spec_SameValue (a : List DC) : Out :=
    Out.andThen (if ((a.getD 0 d0).ii != (a.getD 4 d0).ii) = true then
        .norm [DC.b true, DC.i ((a.getD 0 d0).ii), DC.s ((a.getD 1 d0).ss), DC.sl ((a.getD 2 d0).ll), DC.sl ((a.getD 3 d0).ll), DC.i ((a.getD 4 d0).ii), DC.s ((a.getD 5 d0).ss), DC.sl ((a.getD 6 d0).ll), DC.sl ((a.getD 7 d0).ll)]
      else
        if (!((a.getD 1 d0).ss == (a.getD 5 d0).ss)) = true then
          .norm [DC.b true, DC.i ((a.getD 0 d0).ii), DC.s ((a.getD 1 d0).ss), DC.sl ((a.getD 2 d0).ll), DC.sl ((a.getD 3 d0).ll), DC.i ((a.getD 4 d0).ii), DC.s ((a.getD 5 d0).ss), DC.sl ((a.getD 6 d0).ll), DC.sl ((a.getD 7 d0).ll)]
        else
          if ((((a.getD 2 d0).ll).length : Int) != (((a.getD 6 d0).ll).length : Int)) = true then
            .norm [DC.b true, DC.i ((a.getD 0 d0).ii), DC.s ((a.getD 1 d0).ss), DC.sl ((a.getD 2 d0).ll), DC.sl ((a.getD 3 d0).ll), DC.i ((a.getD 4 d0).ii), DC.s ((a.getD 5 d0).ss), DC.sl ((a.getD 6 d0).ll), DC.sl ((a.getD 7 d0).ll)]
          else
            .norm [DC.b ((((a.getD 3 d0).ll).length : Int) != (((a.getD 7 d0).ll).length : Int)), DC.i ((a.getD 0 d0).ii), DC.s ((a.getD 1 d0).ss), DC.sl ((a.getD 2 d0).ll), DC.sl ((a.getD 3 d0).ll), DC.i ((a.getD 4 d0).ii), DC.s ((a.getD 5 d0).ss), DC.sl ((a.getD 6 d0).ll), DC.sl ((a.getD 7 d0).ll)]) fun v1 =>
    if (v1.getD 0 d0).bb = true then
      .ret [DC.b false]
    else
      Out.andThenB (Loop E_spec_SameValueL1 [DC.i (0 : Int), DC.i ((v1.getD 1 d0).ii), DC.s ((v1.getD 2 d0).ss), DC.sl ((v1.getD 3 d0).ll), DC.sl ((v1.getD 4 d0).ll), DC.i ((v1.getD 5 d0).ii), DC.s ((v1.getD 6 d0).ss), DC.sl ((v1.getD 7 d0).ll), DC.sl ((v1.getD 8 d0).ll)]) 0 fun v4 =>
      Out.andThenB (Loop E_spec_SameValueL2 [DC.i (0 : Int), DC.i ((v4.getD 0 d0).ii), DC.s ((v4.getD 1 d0).ss), DC.sl ((v4.getD 2 d0).ll), DC.sl ((v4.getD 3 d0).ll), DC.i ((v4.getD 4 d0).ii), DC.s ((v4.getD 5 d0).ss), DC.sl ((v4.getD 6 d0).ll), DC.sl ((v4.getD 7 d0).ll)]) 2 fun v8 =>
      .ret [DC.b true]
theorem eq_spec_SameValue (a : List DC) : r_spec_SameValue a = E_spec_SameValue a := (Run_eq cfg 139 h_spec_SameValue a).trans (by kernel_rfl)
noncomputable def E_spec_SameArgsL1 : List DC → Out := fun v1 =>
    Out.andThen (if (decide ((v1.getD 2 d0).ii < (((v1.getD 0 d0).ll).length : Int))) = true then
        .norm [DC.sl ((v1.getD 0 d0).ll), DC.sl ((v1.getD 1 d0).ll), DC.i ((v1.getD 2 d0).ii), DC.b (decide ((v1.getD 2 d0).ii < (((v1.getD 1 d0).ll).length : Int)))]
      else
        .norm [DC.sl ((v1.getD 0 d0).ll), DC.sl ((v1.getD 1 d0).ll), DC.i ((v1.getD 2 d0).ii), DC.b false]) fun v2 =>
    if (v2.getD 3 d0).bb = true then
      Out.andThenB (Out.andThen (if 169 = 169 ∧ 0 ≤ (v2.getD 2 d0).ii ∧ (v2.getD 2 d0).ii < (((v2.getD 0 d0).ll).length : Int) then
            if 169 = 169 ∧ 0 ≤ (v2.getD 2 d0).ii ∧ (v2.getD 2 d0).ii < (((v2.getD 1 d0).ll).length : Int) then
              if (!(((((v2.getD 0 d0).ll).getD ((v2.getD 2 d0).ii).toNat []).getD 0 d0).ss == ((((v2.getD 1 d0).ll).getD ((v2.getD 2 d0).ii).toNat []).getD 0 d0).ss)) = true then
                .norm [DC.sl ((v2.getD 0 d0).ll), DC.sl ((v2.getD 1 d0).ll), DC.i ((v2.getD 2 d0).ii), DC.b true]
              else
                if 169 = 169 ∧ 0 ≤ (v2.getD 2 d0).ii ∧ (v2.getD 2 d0).ii < (((v2.getD 0 d0).ll).length : Int) then
                  if 169 = 169 ∧ 0 ≤ (v2.getD 2 d0).ii ∧ (v2.getD 2 d0).ii < (((v2.getD 1 d0).ll).length : Int) then
                    (r_spec_SameValue [DC.i (((((v2.getD 0 d0).ll).getD ((v2.getD 2 d0).ii).toNat []).getD 1 d0).ii), DC.s (((((v2.getD 0 d0).ll).getD ((v2.getD 2 d0).ii).toNat []).getD 2 d0).ss), DC.sl (((((v2.getD 0 d0).ll).getD ((v2.getD 2 d0).ii).toNat []).getD 3 d0).ll), DC.sl (((((v2.getD 0 d0).ll).getD ((v2.getD 2 d0).ii).toNat []).getD 4 d0).ll), DC.i (((((v2.getD 1 d0).ll).getD ((v2.getD 2 d0).ii).toNat []).getD 1 d0).ii), DC.s (((((v2.getD 1 d0).ll).getD ((v2.getD 2 d0).ii).toNat []).getD 2 d0).ss), DC.sl (((((v2.getD 1 d0).ll).getD ((v2.getD 2 d0).ii).toNat []).getD 3 d0).ll), DC.sl (((((v2.getD 1 d0).ll).getD ((v2.getD 2 d0).ii).toNat []).getD 4 d0).ll)]).bindR fun r3 =>
                    .norm [DC.sl ((v2.getD 0 d0).ll), DC.sl ((v2.getD 1 d0).ll), DC.i ((v2.getD 2 d0).ii), DC.b (!((r3.getD 0 d0).bb))]
                  else
                    .fail
                else
                  .fail
            else
              .fail
          else
            .fail) fun v4 =>
        if (v4.getD 3 d0).bb = true then
          .ret [DC.b false]
        else
          .norm [DC.sl ((v4.getD 0 d0).ll), DC.sl ((v4.getD 1 d0).ll), DC.i ((v4.getD 2 d0).ii)]) 1 fun v5 =>
      .norm [DC.sl ((v5.getD 0 d0).ll), DC.sl ((v5.getD 1 d0).ll), DC.i (IntKind.i64.wrap ((v5.getD 2 d0).ii + (1 : Int)))]
    else
      .ex 0 [DC.sl ((v2.getD 0 d0).ll), DC.sl ((v2.getD 1 d0).ll)]
/-- loop.example/g00964/spec.SameArgs -/
noncomputable def E_spec_SameArgs (a : List DC) : Out :=
    Out.andThenB (Loop E_spec_SameArgsL1 [DC.sl ((a.getD 0 d0).ll), DC.sl ((a.getD 1 d0).ll), DC.i (0 : Int)]) 0 fun v6 =>
    .ret [DC.b ((((v6.getD 0 d0).ll).length : Int) == (((v6.getD 1 d0).ll).length : Int))]
theorem eq_spec_SameArgs (a : List DC) : r_spec_SameArgs a = E_spec_SameArgs a := (Run_eq cfg 140 h_spec_SameArgs a).trans (by kernel_rfl)
/-- loop.example/g00964/impl.sameField -/
noncomputable def E_impl_sameField (a : List DC) : Out :=
    Out.andThen (if ((a.getD 0 d0).ss == (a.getD 6 d0).ss) = true then
        if ((a.getD 1 d0).ss == (a.getD 7 d0).ss) = true then
          (r_slices_EqualFunc_impl_InDef__impl_sameIn [DC.sl ((a.getD 2 d0).ll), DC.sl ((a.getD 8 d0).ll)]).bindR fun r1 =>
          if (r1.getD 0 d0).bb = true then
            if (((a.getD 3 d0).ss == (a.getD 9 d0).ss) && (((a.getD 4 d0).ss == (a.getD 10 d0).ss) && true)) = true then
              (r_impl_sameDirs [DC.sl ((a.getD 5 d0).ll), DC.sl ((a.getD 11 d0).ll)]).bindR fun r2 =>
              .norm [DC.b ((r2.getD 0 d0).bb)]
            else
              .norm [DC.b false]
          else
            .norm [DC.b false]
        else
          .norm [DC.b false]
      else
        .norm [DC.b false]) fun v3 =>
    .ret [DC.b ((v3.getD 0 d0).bb)]
theorem eq_impl_sameField (a : List DC) : r_impl_sameField a = E_impl_sameField a := (Run_eq cfg 95 h_impl_sameField a).trans (by kernel_rfl)
/-- loop.example/g00964/impl.sameIn -/
noncomputable def E_impl_sameIn (a : List DC) : Out :=
    Out.andThen (if ((a.getD 0 d0).ss == (a.getD 10 d0).ss) = true then
        if ((a.getD 1 d0).ss == (a.getD 11 d0).ss) = true then
          if (((a.getD 2 d0).ss == (a.getD 12 d0).ss) && (((a.getD 3 d0).ss == (a.getD 13 d0).ss) && true)) = true then
            if ((a.getD 4 d0).bb == (a.getD 14 d0).bb) = true then
              (r_impl_SameValue [DC.i ((a.getD 5 d0).ii), DC.s ((a.getD 6 d0).ss), DC.sl ((a.getD 7 d0).ll), DC.sl ((a.getD 8 d0).ll), DC.i ((a.getD 15 d0).ii), DC.s ((a.getD 16 d0).ss), DC.sl ((a.getD 17 d0).ll), DC.sl ((a.getD 18 d0).ll)]).bindR fun r1 =>
              if (r1.getD 0 d0).bb = true then
                (r_impl_sameDirs [DC.sl ((a.getD 9 d0).ll), DC.sl ((a.getD 19 d0).ll)]).bindR fun r2 =>
                .norm [DC.b ((r2.getD 0 d0).bb)]
              else
                .norm [DC.b false]
            else
              .norm [DC.b false]
          else
            .norm [DC.b false]
        else
          .norm [DC.b false]
      else
        .norm [DC.b false]) fun v3 =>
    .ret [DC.b ((v3.getD 0 d0).bb)]
theorem eq_impl_sameIn (a : List DC) : r_impl_sameIn a = E_impl_sameIn a := (Run_eq cfg 97 h_impl_sameIn a).trans (by kernel_rfl)
/-- loop.example/g00964/impl.sameEnum -/
noncomputable def E_impl_sameEnum (a : List DC) : Out :=
    Out.andThen (if ((a.getD 0 d0).ss == (a.getD 3 d0).ss) = true then
        if ((a.getD 1 d0).ss == (a.getD 4 d0).ss) = true then
          (r_impl_sameDirs [DC.sl ((a.getD 2 d0).ll), DC.sl ((a.getD 5 d0).ll)]).bindR fun r1 =>
          .norm [DC.b ((r1.getD 0 d0).bb)]
        else
          .norm [DC.b false]
      else
        .norm [DC.b false]) fun v2 =>
    .ret [DC.b ((v2.getD 0 d0).bb)]
theorem eq_impl_sameEnum (a : List DC) : r_impl_sameEnum a = E_impl_sameEnum a := (Run_eq cfg 99 h_impl_sameEnum a).trans (by kernel_rfl)
end Go.Proofs.YtciandfkncadgaaV
