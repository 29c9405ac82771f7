/- What the functions do, and that they do (written by a program). -/
import Derived.Test.YtciandfkncadgaaG0
namespace Go.Proofs.YtciandfkncadgaaV
open Go
set_option linter.unusedVariables false
set_option maxRecDepth 100000
/-- loop.example/g00964/laws.szType -/
noncomputable def E_laws_szType (a : List DC) : Out :=
    if (decide ((IntKind.i64.wrap ((a.getD 2 d0).ii - (((a.getD 0 d0).ss).length : Int))) < (0 : Int))) = true then
      .ret [DC.i (-1 : Int)]
    else
      if (decide ((IntKind.i64.wrap ((IntKind.i64.wrap ((a.getD 2 d0).ii - (((a.getD 0 d0).ss).length : Int))) - (((a.getD 1 d0).ss).length : Int))) < (0 : Int))) = true then
        .ret [DC.i (-1 : Int)]
      else
        .ret [DC.i (IntKind.i64.wrap ((IntKind.i64.wrap ((a.getD 2 d0).ii - (((a.getD 0 d0).ss).length : Int))) - (((a.getD 1 d0).ss).length : Int)))]
theorem eq_laws_szType (a : List DC) : r_laws_szType a = E_laws_szType a := (Run_eq cfg 39 h_laws_szType a).trans (by kernel_rfl)
/-- loop.example/g00964/laws.toType -/
noncomputable def E_laws_toType (a : List DC) : Out :=
    .ret [DC.s ((a.getD 0 d0).ss), DC.s ((a.getD 1 d0).ss)]
theorem eq_laws_toType (a : List DC) : r_laws_toType a = E_laws_toType a := (Run_eq cfg 41 h_laws_toType a).trans (by kernel_rfl)
noncomputable def E_spec_SubTypeL1 : List DC → Out := fun v1 =>
    Out.andThenB (Out.andThenB (Out.andThen (if (decide ((((v1.getD 6 d0).ss).length : Int) > (0 : Int))) = true then
            if 0 ≤ (IntKind.i64.wrap ((((v1.getD 6 d0).ss).length : Int) - (1 : Int))) ∧ (IntKind.i64.wrap ((((v1.getD 6 d0).ss).length : Int) - (1 : Int))) < (((v1.getD 6 d0).ss).length : Int) then
              .norm [DC.i (((v1.getD 4 d0).ss).length : Int), DC.i (((v1.getD 6 d0).ss).length : Int), DC.b (((((v1.getD 6 d0).ss).getD (IntKind.i64.wrap ((((v1.getD 6 d0).ss).length : Int) - (1 : Int))).toNat 0).toNat : Int) == (33 : Int)), DC.sl ((v1.getD 0 d0).ll), DC.sl ((v1.getD 1 d0).ll), DC.sl ((v1.getD 2 d0).ll), DC.s ((v1.getD 3 d0).ss), DC.s ((v1.getD 4 d0).ss), DC.s ((v1.getD 5 d0).ss), DC.s ((v1.getD 6 d0).ss)]
            else
              .fail
          else
            .norm [DC.i (((v1.getD 4 d0).ss).length : Int), DC.i (((v1.getD 6 d0).ss).length : Int), DC.b false, DC.sl ((v1.getD 0 d0).ll), DC.sl ((v1.getD 1 d0).ll), DC.sl ((v1.getD 2 d0).ll), DC.s ((v1.getD 3 d0).ss), DC.s ((v1.getD 4 d0).ss), DC.s ((v1.getD 5 d0).ss), DC.s ((v1.getD 6 d0).ss)]) fun v2 =>
        Out.andThen (if (v2.getD 2 d0).bb = true then
            Out.andThen (if ((v2.getD 0 d0).ii == (0 : Int)) = true then
                .norm [DC.i ((v2.getD 0 d0).ii), DC.i ((v2.getD 1 d0).ii), DC.b true, DC.sl ((v2.getD 3 d0).ll), DC.sl ((v2.getD 4 d0).ll), DC.sl ((v2.getD 5 d0).ll), DC.s ((v2.getD 6 d0).ss), DC.s ((v2.getD 7 d0).ss), DC.s ((v2.getD 8 d0).ss), DC.s ((v2.getD 9 d0).ss)]
              else
                if 0 ≤ (IntKind.i64.wrap ((v2.getD 0 d0).ii - (1 : Int))) ∧ (IntKind.i64.wrap ((v2.getD 0 d0).ii - (1 : Int))) < (((v2.getD 7 d0).ss).length : Int) then
                  .norm [DC.i ((v2.getD 0 d0).ii), DC.i ((v2.getD 1 d0).ii), DC.b (((((v2.getD 7 d0).ss).getD (IntKind.i64.wrap ((v2.getD 0 d0).ii - (1 : Int))).toNat 0).toNat : Int) != (33 : Int)), DC.sl ((v2.getD 3 d0).ll), DC.sl ((v2.getD 4 d0).ll), DC.sl ((v2.getD 5 d0).ll), DC.s ((v2.getD 6 d0).ss), DC.s ((v2.getD 7 d0).ss), DC.s ((v2.getD 8 d0).ss), DC.s ((v2.getD 9 d0).ss)]
                else
                  .fail) fun v3 =>
            if (v3.getD 2 d0).bb = true then
              .ret [DC.b false]
            else
              if 0 ≤ (IntKind.i64.wrap ((v3.getD 0 d0).ii - (1 : Int))) ∧ (IntKind.i64.wrap ((v3.getD 0 d0).ii - (1 : Int))) ≤ (((v3.getD 7 d0).ss).length : Int) then
                if 0 ≤ (IntKind.i64.wrap ((v3.getD 1 d0).ii - (1 : Int))) ∧ (IntKind.i64.wrap ((v3.getD 1 d0).ii - (1 : Int))) ≤ (((v3.getD 9 d0).ss).length : Int) then
                  .norm [DC.sl ((v3.getD 3 d0).ll), DC.sl ((v3.getD 4 d0).ll), DC.sl ((v3.getD 5 d0).ll), DC.s ((v3.getD 6 d0).ss), DC.s (((v3.getD 7 d0).ss).take (IntKind.i64.wrap ((v3.getD 0 d0).ii - (1 : Int))).toNat), DC.s ((v3.getD 8 d0).ss), DC.s (((v3.getD 9 d0).ss).take (IntKind.i64.wrap ((v3.getD 1 d0).ii - (1 : Int))).toNat)]
                else
                  .fail
              else
                .fail
          else
            Out.andThen (if (decide ((v2.getD 0 d0).ii > (0 : Int))) = true then
                if 0 ≤ (IntKind.i64.wrap ((v2.getD 0 d0).ii - (1 : Int))) ∧ (IntKind.i64.wrap ((v2.getD 0 d0).ii - (1 : Int))) < (((v2.getD 7 d0).ss).length : Int) then
                  .norm [DC.i ((v2.getD 0 d0).ii), DC.i ((v2.getD 1 d0).ii), DC.b (((((v2.getD 7 d0).ss).getD (IntKind.i64.wrap ((v2.getD 0 d0).ii - (1 : Int))).toNat 0).toNat : Int) == (33 : Int)), DC.sl ((v2.getD 3 d0).ll), DC.sl ((v2.getD 4 d0).ll), DC.sl ((v2.getD 5 d0).ll), DC.s ((v2.getD 6 d0).ss), DC.s ((v2.getD 7 d0).ss), DC.s ((v2.getD 8 d0).ss), DC.s ((v2.getD 9 d0).ss)]
                else
                  .fail
              else
                .norm [DC.i ((v2.getD 0 d0).ii), DC.i ((v2.getD 1 d0).ii), DC.b false, DC.sl ((v2.getD 3 d0).ll), DC.sl ((v2.getD 4 d0).ll), DC.sl ((v2.getD 5 d0).ll), DC.s ((v2.getD 6 d0).ss), DC.s ((v2.getD 7 d0).ss), DC.s ((v2.getD 8 d0).ss), DC.s ((v2.getD 9 d0).ss)]) fun v4 =>
            Out.andThen (if (v4.getD 2 d0).bb = true then
                if 0 ≤ (IntKind.i64.wrap ((v4.getD 0 d0).ii - (1 : Int))) ∧ (IntKind.i64.wrap ((v4.getD 0 d0).ii - (1 : Int))) ≤ (((v4.getD 7 d0).ss).length : Int) then
                  .norm [DC.sl ((v4.getD 3 d0).ll), DC.sl ((v4.getD 4 d0).ll), DC.sl ((v4.getD 5 d0).ll), DC.s ((v4.getD 6 d0).ss), DC.s (((v4.getD 7 d0).ss).take (IntKind.i64.wrap ((v4.getD 0 d0).ii - (1 : Int))).toNat), DC.s ((v4.getD 8 d0).ss), DC.s ((v4.getD 9 d0).ss)]
                else
                  .fail
              else
                Out.andThen (if (decide ((v4.getD 0 d0).ii > (0 : Int))) = true then
                    if (decide ((v4.getD 1 d0).ii > (0 : Int))) = true then
                      if 0 ≤ (IntKind.i64.wrap ((v4.getD 0 d0).ii - (1 : Int))) ∧ (IntKind.i64.wrap ((v4.getD 0 d0).ii - (1 : Int))) < (((v4.getD 7 d0).ss).length : Int) then
                        if (((((v4.getD 7 d0).ss).getD (IntKind.i64.wrap ((v4.getD 0 d0).ii - (1 : Int))).toNat 0).toNat : Int) == (93 : Int)) = true then
                          if 0 ≤ (IntKind.i64.wrap ((v4.getD 1 d0).ii - (1 : Int))) ∧ (IntKind.i64.wrap ((v4.getD 1 d0).ii - (1 : Int))) < (((v4.getD 9 d0).ss).length : Int) then
                            .norm [DC.i ((v4.getD 0 d0).ii), DC.i ((v4.getD 1 d0).ii), DC.b (((((v4.getD 9 d0).ss).getD (IntKind.i64.wrap ((v4.getD 1 d0).ii - (1 : Int))).toNat 0).toNat : Int) == (93 : Int)), DC.sl ((v4.getD 3 d0).ll), DC.sl ((v4.getD 4 d0).ll), DC.sl ((v4.getD 5 d0).ll), DC.s ((v4.getD 6 d0).ss), DC.s ((v4.getD 7 d0).ss), DC.s ((v4.getD 8 d0).ss), DC.s ((v4.getD 9 d0).ss)]
                          else
                            .fail
                        else
                          .norm [DC.i ((v4.getD 0 d0).ii), DC.i ((v4.getD 1 d0).ii), DC.b false, DC.sl ((v4.getD 3 d0).ll), DC.sl ((v4.getD 4 d0).ll), DC.sl ((v4.getD 5 d0).ll), DC.s ((v4.getD 6 d0).ss), DC.s ((v4.getD 7 d0).ss), DC.s ((v4.getD 8 d0).ss), DC.s ((v4.getD 9 d0).ss)]
                      else
                        .fail
                    else
                      .norm [DC.i ((v4.getD 0 d0).ii), DC.i ((v4.getD 1 d0).ii), DC.b false, DC.sl ((v4.getD 3 d0).ll), DC.sl ((v4.getD 4 d0).ll), DC.sl ((v4.getD 5 d0).ll), DC.s ((v4.getD 6 d0).ss), DC.s ((v4.getD 7 d0).ss), DC.s ((v4.getD 8 d0).ss), DC.s ((v4.getD 9 d0).ss)]
                  else
                    .norm [DC.i ((v4.getD 0 d0).ii), DC.i ((v4.getD 1 d0).ii), DC.b false, DC.sl ((v4.getD 3 d0).ll), DC.sl ((v4.getD 4 d0).ll), DC.sl ((v4.getD 5 d0).ll), DC.s ((v4.getD 6 d0).ss), DC.s ((v4.getD 7 d0).ss), DC.s ((v4.getD 8 d0).ss), DC.s ((v4.getD 9 d0).ss)]) fun v5 =>
                if (v5.getD 2 d0).bb = true then
                  if 0 ≤ (IntKind.i64.wrap ((v5.getD 0 d0).ii - (1 : Int))) ∧ (IntKind.i64.wrap ((v5.getD 0 d0).ii - (1 : Int))) ≤ (((v5.getD 7 d0).ss).length : Int) then
                    if 0 ≤ (IntKind.i64.wrap ((v5.getD 1 d0).ii - (1 : Int))) ∧ (IntKind.i64.wrap ((v5.getD 1 d0).ii - (1 : Int))) ≤ (((v5.getD 9 d0).ss).length : Int) then
                      .norm [DC.sl ((v5.getD 3 d0).ll), DC.sl ((v5.getD 4 d0).ll), DC.sl ((v5.getD 5 d0).ll), DC.s ((v5.getD 6 d0).ss), DC.s (((v5.getD 7 d0).ss).take (IntKind.i64.wrap ((v5.getD 0 d0).ii - (1 : Int))).toNat), DC.s ((v5.getD 8 d0).ss), DC.s (((v5.getD 9 d0).ss).take (IntKind.i64.wrap ((v5.getD 1 d0).ii - (1 : Int))).toNat)]
                    else
                      .fail
                  else
                    .fail
                else
                  Out.andThen (if ((v5.getD 0 d0).ii == (0 : Int)) = true then
                      if ((v5.getD 1 d0).ii == (0 : Int)) = true then
                        (r_spec_l18Below [DC.sl ((v5.getD 3 d0).ll), DC.sl ((v5.getD 4 d0).ll), DC.sl ((v5.getD 5 d0).ll), DC.s ((v5.getD 6 d0).ss), DC.s ((v5.getD 8 d0).ss)]).bindR fun r6 =>
                        .norm [DC.b ((r6.getD 0 d0).bb)]
                      else
                        .norm [DC.b false]
                    else
                      .norm [DC.b false]) fun v7 =>
                  .ret [DC.b ((v7.getD 0 d0).bb)]) fun v8 =>
            .norm [DC.sl ((v8.getD 0 d0).ll), DC.sl ((v8.getD 1 d0).ll), DC.sl ((v8.getD 2 d0).ll), DC.s ((v8.getD 3 d0).ss), DC.s ((v8.getD 4 d0).ss), DC.s ((v8.getD 5 d0).ss), DC.s ((v8.getD 6 d0).ss)]) fun v9 =>
        .norm [DC.sl ((v9.getD 0 d0).ll), DC.sl ((v9.getD 1 d0).ll), DC.sl ((v9.getD 2 d0).ll), DC.s ((v9.getD 3 d0).ss), DC.s ((v9.getD 4 d0).ss), DC.s ((v9.getD 5 d0).ss), DC.s ((v9.getD 6 d0).ss)]) 2 fun v10 =>
      .norm [DC.sl ((v10.getD 0 d0).ll), DC.sl ((v10.getD 1 d0).ll), DC.sl ((v10.getD 2 d0).ll), DC.s ((v10.getD 3 d0).ss), DC.s ((v10.getD 4 d0).ss), DC.s ((v10.getD 5 d0).ss), DC.s ((v10.getD 6 d0).ss)]) 1 fun v11 =>
    .norm [DC.sl ((v11.getD 0 d0).ll), DC.sl ((v11.getD 1 d0).ll), DC.sl ((v11.getD 2 d0).ll), DC.s ((v11.getD 3 d0).ss), DC.s ((v11.getD 4 d0).ss), DC.s ((v11.getD 5 d0).ss), DC.s ((v11.getD 6 d0).ss)]
/-- loop.example/g00964/spec.SubType -/
noncomputable def E_spec_SubType (a : List DC) : Out :=
    Out.andThenB (Loop E_spec_SubTypeL1 [DC.sl ((a.getD 0 d0).ll), DC.sl ((a.getD 1 d0).ll), DC.sl ((a.getD 2 d0).ll), DC.s ((a.getD 3 d0).ss), DC.s ((a.getD 4 d0).ss), DC.s ((a.getD 5 d0).ss), DC.s ((a.getD 6 d0).ss)]) 0 fun v12 =>
    .fail
theorem eq_spec_SubType (a : List DC) : r_spec_SubType a = E_spec_SubType a := (Run_eq cfg 40 h_spec_SubType a).trans (by kernel_rfl)
/-- loop.example/g00964/impl.SubType -/
noncomputable def E_impl_SubType (a : List DC) : Out :=
    (r_impl_unwrapped [DC.s ((a.getD 3 d0).ss), DC.s ((a.getD 4 d0).ss), DC.s ([33] : List UInt8)]).bindR fun r1 =>
    (r_impl_unwrapped [DC.s ((a.getD 5 d0).ss), DC.s ((a.getD 6 d0).ss), DC.s ([33] : List UInt8)]).bindR fun r2 =>
    Out.andThenB (if (r2.getD 2 d0).bb = true then
        Out.andThen (if (r1.getD 2 d0).bb = true then
            (r_impl_SubType [DC.sl ((a.getD 0 d0).ll), DC.sl ((a.getD 1 d0).ll), DC.sl ((a.getD 2 d0).ll), DC.s ((r1.getD 0 d0).ss), DC.s ((r1.getD 1 d0).ss), DC.s ((r2.getD 0 d0).ss), DC.s ((r2.getD 1 d0).ss)]).bindR fun r3 =>
            .norm [DC.b ((r3.getD 0 d0).bb)]
          else
            .norm [DC.b false]) fun v4 =>
        .ret [DC.b ((v4.getD 0 d0).bb)]
      else
        if (r1.getD 2 d0).bb = true then
          (r_impl_SubType [DC.sl ((a.getD 0 d0).ll), DC.sl ((a.getD 1 d0).ll), DC.sl ((a.getD 2 d0).ll), DC.s ((r1.getD 0 d0).ss), DC.s ((r1.getD 1 d0).ss), DC.s ((a.getD 5 d0).ss), DC.s ((a.getD 6 d0).ss)]).bindR fun r5 =>
          .ret [DC.b ((r5.getD 0 d0).bb)]
        else
          .norm [DC.sl ((a.getD 0 d0).ll), DC.sl ((a.getD 1 d0).ll), DC.sl ((a.getD 2 d0).ll), DC.s ((a.getD 3 d0).ss), DC.s ((a.getD 4 d0).ss), DC.s ((a.getD 5 d0).ss), DC.s ((a.getD 6 d0).ss), DC.s ((r1.getD 0 d0).ss), DC.s ((r1.getD 1 d0).ss), DC.s ((r2.getD 0 d0).ss), DC.s ((r2.getD 1 d0).ss)]) 0 fun v6 =>
    (r_impl_unwrapped [DC.s ((v6.getD 3 d0).ss), DC.s ((v6.getD 4 d0).ss), DC.s ([93] : List UInt8)]).bindR fun r7 =>
    (r_impl_unwrapped [DC.s ((v6.getD 5 d0).ss), DC.s ((v6.getD 6 d0).ss), DC.s ([93] : List UInt8)]).bindR fun r8 =>
    Out.andThen (if (r7.getD 2 d0).bb = true then
        .norm [DC.b ((r8.getD 2 d0).bb), DC.sl ((v6.getD 0 d0).ll), DC.sl ((v6.getD 1 d0).ll), DC.sl ((v6.getD 2 d0).ll), DC.s ((v6.getD 3 d0).ss), DC.s ((v6.getD 4 d0).ss), DC.s ((v6.getD 5 d0).ss), DC.s ((v6.getD 6 d0).ss), DC.s ((r7.getD 0 d0).ss), DC.s ((r7.getD 1 d0).ss), DC.s ((r8.getD 0 d0).ss), DC.s ((r8.getD 1 d0).ss)]
      else
        .norm [DC.b false, DC.sl ((v6.getD 0 d0).ll), DC.sl ((v6.getD 1 d0).ll), DC.sl ((v6.getD 2 d0).ll), DC.s ((v6.getD 3 d0).ss), DC.s ((v6.getD 4 d0).ss), DC.s ((v6.getD 5 d0).ss), DC.s ((v6.getD 6 d0).ss), DC.s ((r7.getD 0 d0).ss), DC.s ((r7.getD 1 d0).ss), DC.s ((r8.getD 0 d0).ss), DC.s ((r8.getD 1 d0).ss)]) fun v9 =>
    if (v9.getD 0 d0).bb = true then
      (r_impl_SubType [DC.sl ((v9.getD 1 d0).ll), DC.sl ((v9.getD 2 d0).ll), DC.sl ((v9.getD 3 d0).ll), DC.s ((v9.getD 8 d0).ss), DC.s ((v9.getD 9 d0).ss), DC.s ((v9.getD 10 d0).ss), DC.s ((v9.getD 11 d0).ss)]).bindR fun r10 =>
      .ret [DC.b ((r10.getD 0 d0).bb)]
    else
      Out.andThen (if ((v9.getD 5 d0).ss == ([] : List UInt8)) = true then
          if ((v9.getD 7 d0).ss == ([] : List UInt8)) = true then
            (r_impl_subName [DC.sl ((v9.getD 1 d0).ll), DC.sl ((v9.getD 2 d0).ll), DC.sl ((v9.getD 3 d0).ll), DC.s ((v9.getD 4 d0).ss), DC.s ((v9.getD 6 d0).ss)]).bindR fun r11 =>
            .norm [DC.b ((r11.getD 0 d0).bb)]
          else
            .norm [DC.b false]
        else
          .norm [DC.b false]) fun v12 =>
      .ret [DC.b ((v12.getD 0 d0).bb)]
theorem eq_impl_SubType (a : List DC) : r_impl_SubType a = E_impl_SubType a := (Run_eq cfg 42 h_impl_SubType a).trans (by kernel_rfl)
noncomputable def E_spec_SameSchemaL1 : List DC → Out := fun v4 =>
    if (decide ((v4.getD 0 d0).ii < (((v4.getD 3 d0).ll).length : Int))) = true then
      Out.andThenB (if 76 = 76 ∧ 0 ≤ (v4.getD 0 d0).ii ∧ (v4.getD 0 d0).ii < (((v4.getD 3 d0).ll).length : Int) then
          if 76 = 76 ∧ 0 ≤ (v4.getD 0 d0).ii ∧ (v4.getD 0 d0).ii < (((v4.getD 6 d0).ll).length : Int) then
            if (!((((((v4.getD 3 d0).ll).getD ((v4.getD 0 d0).ii).toNat []).getD 0 d0).ii == ((((v4.getD 6 d0).ll).getD ((v4.getD 0 d0).ii).toNat []).getD 0 d0).ii) && ((((((v4.getD 3 d0).ll).getD ((v4.getD 0 d0).ii).toNat []).getD 1 d0).ss == ((((v4.getD 6 d0).ll).getD ((v4.getD 0 d0).ii).toNat []).getD 1 d0).ss) && true))) = true then
              .ret [DC.b false]
            else
              .norm [DC.i ((v4.getD 0 d0).ii), DC.sl ((v4.getD 1 d0).ll), DC.sl ((v4.getD 2 d0).ll), DC.sl ((v4.getD 3 d0).ll), DC.sl ((v4.getD 4 d0).ll), DC.sl ((v4.getD 5 d0).ll), DC.sl ((v4.getD 6 d0).ll)]
          else
            .fail
        else
          .fail) 1 fun v5 =>
      .norm [DC.i (IntKind.i64.wrap ((v5.getD 0 d0).ii + (1 : Int))), DC.sl ((v5.getD 1 d0).ll), DC.sl ((v5.getD 2 d0).ll), DC.sl ((v5.getD 3 d0).ll), DC.sl ((v5.getD 4 d0).ll), DC.sl ((v5.getD 5 d0).ll), DC.sl ((v5.getD 6 d0).ll)]
    else
      .ex 0 []
/-- loop.example/g00964/spec.SameSchema -/
noncomputable def E_spec_SameSchema (a : List DC) : Out :=
    Out.andThen (if ((((a.getD 2 d0).ll).length : Int) != (((a.getD 5 d0).ll).length : Int)) = true then
        .norm [DC.b true, DC.sl ((a.getD 0 d0).ll), DC.sl ((a.getD 1 d0).ll), DC.sl ((a.getD 2 d0).ll), DC.sl ((a.getD 3 d0).ll), DC.sl ((a.getD 4 d0).ll), DC.sl ((a.getD 5 d0).ll)]
      else
        (r_spec_l21Same [DC.sl ((a.getD 0 d0).ll), DC.sl ((a.getD 3 d0).ll)]).bindR fun r1 =>
        if (!((r1.getD 0 d0).bb)) = true then
          .norm [DC.b true, DC.sl ((a.getD 0 d0).ll), DC.sl ((a.getD 1 d0).ll), DC.sl ((a.getD 2 d0).ll), DC.sl ((a.getD 3 d0).ll), DC.sl ((a.getD 4 d0).ll), DC.sl ((a.getD 5 d0).ll)]
        else
          (r_spec_l21Same [DC.sl ((a.getD 1 d0).ll), DC.sl ((a.getD 4 d0).ll)]).bindR fun r2 =>
          .norm [DC.b (!((r2.getD 0 d0).bb)), DC.sl ((a.getD 0 d0).ll), DC.sl ((a.getD 1 d0).ll), DC.sl ((a.getD 2 d0).ll), DC.sl ((a.getD 3 d0).ll), DC.sl ((a.getD 4 d0).ll), DC.sl ((a.getD 5 d0).ll)]) fun v3 =>
    if (v3.getD 0 d0).bb = true then
      .ret [DC.b false]
    else
      Out.andThenB (Loop E_spec_SameSchemaL1 [DC.i (0 : Int), DC.sl ((v3.getD 1 d0).ll), DC.sl ((v3.getD 2 d0).ll), DC.sl ((v3.getD 3 d0).ll), DC.sl ((v3.getD 4 d0).ll), DC.sl ((v3.getD 5 d0).ll), DC.sl ((v3.getD 6 d0).ll)]) 0 fun v6 =>
      .ret [DC.b true]
theorem eq_spec_SameSchema (a : List DC) : r_spec_SameSchema a = E_spec_SameSchema a := (Run_eq cfg 43 h_spec_SameSchema a).trans (by kernel_rfl)
/-- loop.example/g00964/impl.SameSchema -/
noncomputable def E_impl_SameSchema (a : List DC) : Out :=
    Out.andThen ((r_slices_EqualFunc_impl_Def__impl_sameDef [DC.sl ((a.getD 0 d0).ll), DC.sl ((a.getD 3 d0).ll)]).bindR fun r1 =>
      if (r1.getD 0 d0).bb = true then
        (r_slices_EqualFunc_impl_Def__impl_sameDef [DC.sl ((a.getD 1 d0).ll), DC.sl ((a.getD 4 d0).ll)]).bindR fun r2 =>
        if (r2.getD 0 d0).bb = true then
          (r_slices_Equal_impl_Root [DC.sl ((a.getD 2 d0).ll), DC.sl ((a.getD 5 d0).ll)]).bindR fun r3 =>
          .norm [DC.b ((r3.getD 0 d0).bb)]
        else
          .norm [DC.b false]
      else
        .norm [DC.b false]) fun v4 =>
    .ret [DC.b ((v4.getD 0 d0).bb)]
theorem eq_impl_SameSchema (a : List DC) : r_impl_SameSchema a = E_impl_SameSchema a := (Run_eq cfg 44 h_impl_SameSchema a).trans (by kernel_rfl)
/-- loop.example/g00964/laws.szInDef -/
noncomputable def E_laws_szInDef (a : List DC) : Out :=
    if (decide ((IntKind.i64.wrap ((a.getD 10 d0).ii - (((a.getD 0 d0).ss).length : Int))) < (0 : Int))) = true then
      .ret [DC.i (-1 : Int)]
    else
      if (decide ((IntKind.i64.wrap ((IntKind.i64.wrap ((a.getD 10 d0).ii - (((a.getD 0 d0).ss).length : Int))) - (((a.getD 1 d0).ss).length : Int))) < (0 : Int))) = true then
        .ret [DC.i (-1 : Int)]
      else
        (r_laws_szType [DC.s ((a.getD 2 d0).ss), DC.s ((a.getD 3 d0).ss), DC.i (IntKind.i64.wrap ((IntKind.i64.wrap ((a.getD 10 d0).ii - (((a.getD 0 d0).ss).length : Int))) - (((a.getD 1 d0).ss).length : Int)))]).bindR fun r1 =>
        if (decide ((r1.getD 0 d0).ii < (0 : Int))) = true then
          .ret [DC.i (-1 : Int)]
        else
          (r_laws_szValue [DC.i ((a.getD 5 d0).ii), DC.s ((a.getD 6 d0).ss), DC.sl ((a.getD 7 d0).ll), DC.sl ((a.getD 8 d0).ll), DC.i ((r1.getD 0 d0).ii)]).bindR fun r2 =>
          if (decide ((r2.getD 0 d0).ii < (0 : Int))) = true then
            .ret [DC.i (-1 : Int)]
          else
            (r_laws_szDirS [DC.sl ((a.getD 9 d0).ll), DC.i ((r2.getD 0 d0).ii)]).bindR fun r3 =>
            if (decide ((r3.getD 0 d0).ii < (0 : Int))) = true then
              .ret [DC.i (-1 : Int)]
            else
              .ret [DC.i ((r3.getD 0 d0).ii)]
theorem eq_laws_szInDef (a : List DC) : r_laws_szInDef a = E_laws_szInDef a := (Run_eq cfg 47 h_laws_szInDef a).trans (by kernel_rfl)
/-- loop.example/g00964/laws.toInDef -/
noncomputable def E_laws_toInDef (a : List DC) : Out :=
    (r_laws_toType [DC.s ((a.getD 2 d0).ss), DC.s ((a.getD 3 d0).ss)]).bindR fun r1 =>
    (r_laws_toValue [DC.i ((a.getD 5 d0).ii), DC.s ((a.getD 6 d0).ss), DC.sl ((a.getD 7 d0).ll), DC.sl ((a.getD 8 d0).ll)]).bindR fun r2 =>
    (r_laws_toDirS [DC.sl ((a.getD 9 d0).ll)]).bindR fun r3 =>
    .ret [DC.s ((a.getD 0 d0).ss), DC.s ((a.getD 1 d0).ss), DC.s ((r1.getD 0 d0).ss), DC.s ((r1.getD 1 d0).ss), DC.b ((a.getD 4 d0).bb), DC.i ((r2.getD 0 d0).ii), DC.s ((r2.getD 1 d0).ss), DC.sl ((r2.getD 2 d0).ll), DC.sl ((r2.getD 3 d0).ll), DC.sl ((r3.getD 0 d0).ll)]
theorem eq_laws_toInDef (a : List DC) : r_laws_toInDef a = E_laws_toInDef a := (Run_eq cfg 48 h_laws_toInDef a).trans (by kernel_rfl)
noncomputable def E_slices_IndexFunc_impl_InDef__impl_InAt_1L1 : List DC → Out := fun v1 =>
    if (decide ((v1.getD 2 d0).ii < (v1.getD 1 d0).ii)) = true then
      Out.andThenB (if 68 = 68 ∧ 0 ≤ (v1.getD 2 d0).ii ∧ (v1.getD 2 d0).ii < (((v1.getD 0 d0).ll).length : Int) then
          (r_impl_InAt_1 [DC.s (((((v1.getD 0 d0).ll).getD ((v1.getD 2 d0).ii).toNat []).getD 0 d0).ss), DC.s (((((v1.getD 0 d0).ll).getD ((v1.getD 2 d0).ii).toNat []).getD 1 d0).ss), DC.s (((((v1.getD 0 d0).ll).getD ((v1.getD 2 d0).ii).toNat []).getD 2 d0).ss), DC.s (((((v1.getD 0 d0).ll).getD ((v1.getD 2 d0).ii).toNat []).getD 3 d0).ss), DC.b (((((v1.getD 0 d0).ll).getD ((v1.getD 2 d0).ii).toNat []).getD 4 d0).bb), DC.i (((((v1.getD 0 d0).ll).getD ((v1.getD 2 d0).ii).toNat []).getD 5 d0).ii), DC.s (((((v1.getD 0 d0).ll).getD ((v1.getD 2 d0).ii).toNat []).getD 6 d0).ss), DC.sl (((((v1.getD 0 d0).ll).getD ((v1.getD 2 d0).ii).toNat []).getD 7 d0).ll), DC.sl (((((v1.getD 0 d0).ll).getD ((v1.getD 2 d0).ii).toNat []).getD 8 d0).ll), DC.sl (((((v1.getD 0 d0).ll).getD ((v1.getD 2 d0).ii).toNat []).getD 9 d0).ll), DC.s ((v1.getD 3 d0).ss)]).bindR fun r2 =>
          if (r2.getD 0 d0).bb = true then
            .ret [DC.i ((v1.getD 2 d0).ii), DC.s ((r2.getD 1 d0).ss)]
          else
            .norm [DC.sl ((v1.getD 0 d0).ll), DC.i ((v1.getD 1 d0).ii), DC.i ((v1.getD 2 d0).ii), DC.s ((r2.getD 1 d0).ss)]
        else
          .fail) 1 fun v3 =>
      .norm [DC.sl ((v3.getD 0 d0).ll), DC.i ((v3.getD 1 d0).ii), DC.i (IntKind.i64.wrap ((v3.getD 2 d0).ii + (1 : Int))), DC.s ((v3.getD 3 d0).ss)]
    else
      .ex 0 [DC.s ((v1.getD 3 d0).ss)]
/-- slices.IndexFunc[[]loop.example/g00964/impl.InDef,loop.example/g00964/impl.InDef] -/
noncomputable def E_slices_IndexFunc_impl_InDef__impl_InAt_1 (a : List DC) : Out :=
    Out.andThenB (Loop E_slices_IndexFunc_impl_InDef__impl_InAt_1L1 [DC.sl ((a.getD 0 d0).ll), DC.i (((a.getD 0 d0).ll).length : Int), DC.i (0 : Int), DC.s ((a.getD 1 d0).ss)]) 0 fun v4 =>
    .ret [DC.i (-1 : Int), DC.s ((v4.getD 0 d0).ss)]
theorem eq_slices_IndexFunc_impl_InDef__impl_InAt_1 (a : List DC) : r_slices_IndexFunc_impl_InDef__impl_InAt_1 a = E_slices_IndexFunc_impl_InDef__impl_InAt_1 a := (Run_eq cfg 49 h_slices_IndexFunc_impl_InDef__impl_InAt_1 a).trans (by kernel_rfl)
/-- loop.example/g00964/laws.eqInDef -/
noncomputable def E_laws_eqInDef (a : List DC) : Out :=
    if (!((a.getD 0 d0).ss == (a.getD 10 d0).ss)) = true then
      .ret [DC.b false]
    else
      if (!((a.getD 1 d0).ss == (a.getD 11 d0).ss)) = true then
        .ret [DC.b false]
      else
        (r_laws_eqType [DC.s ((a.getD 2 d0).ss), DC.s ((a.getD 3 d0).ss), DC.s ((a.getD 12 d0).ss), DC.s ((a.getD 13 d0).ss)]).bindR fun r1 =>
        if (!((r1.getD 0 d0).bb)) = true then
          .ret [DC.b false]
        else
          if (!((a.getD 4 d0).bb == (a.getD 14 d0).bb)) = true then
            .ret [DC.b false]
          else
            (r_laws_eqValue [DC.i ((a.getD 5 d0).ii), DC.s ((a.getD 6 d0).ss), DC.sl ((a.getD 7 d0).ll), DC.sl ((a.getD 8 d0).ll), DC.i ((a.getD 15 d0).ii), DC.s ((a.getD 16 d0).ss), DC.sl ((a.getD 17 d0).ll), DC.sl ((a.getD 18 d0).ll)]).bindR fun r2 =>
            if (!((r2.getD 0 d0).bb)) = true then
              .ret [DC.b false]
            else
              (r_laws_eqDirS [DC.sl ((a.getD 9 d0).ll), DC.sl ((a.getD 19 d0).ll)]).bindR fun r3 =>
              if (!((r3.getD 0 d0).bb)) = true then
                .ret [DC.b false]
              else
                .ret [DC.b true]
theorem eq_laws_eqInDef (a : List DC) : r_laws_eqInDef a = E_laws_eqInDef a := (Run_eq cfg 51 h_laws_eqInDef a).trans (by kernel_rfl)
noncomputable def E_laws_szDefSL1 : List DC → Out := fun v1 =>
    if (decide ((v1.getD 2 d0).ii < (((v1.getD 0 d0).ll).length : Int))) = true then
      Out.andThenB (if 107 = 107 ∧ 0 ≤ (v1.getD 2 d0).ii ∧ (v1.getD 2 d0).ii < (((v1.getD 0 d0).ll).length : Int) then
          (r_laws_szDef [DC.i (((((v1.getD 0 d0).ll).getD ((v1.getD 2 d0).ii).toNat []).getD 0 d0).ii), DC.b (((((v1.getD 0 d0).ll).getD ((v1.getD 2 d0).ii).toNat []).getD 1 d0).bb), DC.s (((((v1.getD 0 d0).ll).getD ((v1.getD 2 d0).ii).toNat []).getD 2 d0).ss), DC.s (((((v1.getD 0 d0).ll).getD ((v1.getD 2 d0).ii).toNat []).getD 3 d0).ss), DC.sl (((((v1.getD 0 d0).ll).getD ((v1.getD 2 d0).ii).toNat []).getD 4 d0).ll), DC.sl (((((v1.getD 0 d0).ll).getD ((v1.getD 2 d0).ii).toNat []).getD 5 d0).ll), DC.sl (((((v1.getD 0 d0).ll).getD ((v1.getD 2 d0).ii).toNat []).getD 6 d0).ll), DC.sl (((((v1.getD 0 d0).ll).getD ((v1.getD 2 d0).ii).toNat []).getD 7 d0).ll), DC.sl (((((v1.getD 0 d0).ll).getD ((v1.getD 2 d0).ii).toNat []).getD 8 d0).ll), DC.b (((((v1.getD 0 d0).ll).getD ((v1.getD 2 d0).ii).toNat []).getD 9 d0).bb), DC.sl (((((v1.getD 0 d0).ll).getD ((v1.getD 2 d0).ii).toNat []).getD 10 d0).ll), DC.i ((v1.getD 1 d0).ii)]).bindR fun r2 =>
          if (decide ((r2.getD 0 d0).ii < (0 : Int))) = true then
            .ret [DC.i (-1 : Int)]
          else
            .norm [DC.sl ((v1.getD 0 d0).ll), DC.i ((r2.getD 0 d0).ii), DC.i ((v1.getD 2 d0).ii)]
        else
          .fail) 1 fun v3 =>
      .norm [DC.sl ((v3.getD 0 d0).ll), DC.i ((v3.getD 1 d0).ii), DC.i (IntKind.i64.wrap ((v3.getD 2 d0).ii + (1 : Int)))]
    else
      .ex 0 [DC.i ((v1.getD 1 d0).ii)]
/-- loop.example/g00964/laws.szDefS -/
noncomputable def E_laws_szDefS (a : List DC) : Out :=
    if (decide ((IntKind.i64.wrap ((a.getD 1 d0).ii - (((a.getD 0 d0).ll).length : Int))) < (0 : Int))) = true then
      .ret [DC.i (-1 : Int)]
    else
      Out.andThenB (Loop E_laws_szDefSL1 [DC.sl ((a.getD 0 d0).ll), DC.i (IntKind.i64.wrap ((a.getD 1 d0).ii - (((a.getD 0 d0).ll).length : Int))), DC.i (0 : Int)]) 0 fun v4 =>
      .ret [DC.i ((v4.getD 0 d0).ii)]
theorem eq_laws_szDefS (a : List DC) : r_laws_szDefS a = E_laws_szDefS a := (Run_eq cfg 52 h_laws_szDefS a).trans (by kernel_rfl)
noncomputable def E_laws_szRootSL1 : List DC → Out := fun v1 =>
    if (decide ((v1.getD 2 d0).ii < (((v1.getD 0 d0).ll).length : Int))) = true then
      Out.andThenB (if 109 = 109 ∧ 0 ≤ (v1.getD 2 d0).ii ∧ (v1.getD 2 d0).ii < (((v1.getD 0 d0).ll).length : Int) then
          (r_laws_szRoot [DC.i (((((v1.getD 0 d0).ll).getD ((v1.getD 2 d0).ii).toNat []).getD 0 d0).ii), DC.s (((((v1.getD 0 d0).ll).getD ((v1.getD 2 d0).ii).toNat []).getD 1 d0).ss), DC.i ((v1.getD 1 d0).ii)]).bindR fun r2 =>
          if (decide ((r2.getD 0 d0).ii < (0 : Int))) = true then
            .ret [DC.i (-1 : Int)]
          else
            .norm [DC.sl ((v1.getD 0 d0).ll), DC.i ((r2.getD 0 d0).ii), DC.i ((v1.getD 2 d0).ii)]
        else
          .fail) 1 fun v3 =>
      .norm [DC.sl ((v3.getD 0 d0).ll), DC.i ((v3.getD 1 d0).ii), DC.i (IntKind.i64.wrap ((v3.getD 2 d0).ii + (1 : Int)))]
    else
      .ex 0 [DC.i ((v1.getD 1 d0).ii)]
/-- loop.example/g00964/laws.szRootS -/
noncomputable def E_laws_szRootS (a : List DC) : Out :=
    if (decide ((IntKind.i64.wrap ((a.getD 1 d0).ii - (((a.getD 0 d0).ll).length : Int))) < (0 : Int))) = true then
      .ret [DC.i (-1 : Int)]
    else
      Out.andThenB (Loop E_laws_szRootSL1 [DC.sl ((a.getD 0 d0).ll), DC.i (IntKind.i64.wrap ((a.getD 1 d0).ii - (((a.getD 0 d0).ll).length : Int))), DC.i (0 : Int)]) 0 fun v4 =>
      .ret [DC.i ((v4.getD 0 d0).ii)]
theorem eq_laws_szRootS (a : List DC) : r_laws_szRootS a = E_laws_szRootS a := (Run_eq cfg 53 h_laws_szRootS a).trans (by kernel_rfl)
noncomputable def E_laws_toDefSL1 : List DC → Out := fun v1 =>
    if (decide ((v1.getD 2 d0).ii < (((v1.getD 0 d0).ll).length : Int))) = true then
      Out.andThenB (if 107 = 107 ∧ 0 ≤ (v1.getD 2 d0).ii ∧ (v1.getD 2 d0).ii < (((v1.getD 0 d0).ll).length : Int) then
          (r_laws_toDef [DC.i (((((v1.getD 0 d0).ll).getD ((v1.getD 2 d0).ii).toNat []).getD 0 d0).ii), DC.b (((((v1.getD 0 d0).ll).getD ((v1.getD 2 d0).ii).toNat []).getD 1 d0).bb), DC.s (((((v1.getD 0 d0).ll).getD ((v1.getD 2 d0).ii).toNat []).getD 2 d0).ss), DC.s (((((v1.getD 0 d0).ll).getD ((v1.getD 2 d0).ii).toNat []).getD 3 d0).ss), DC.sl (((((v1.getD 0 d0).ll).getD ((v1.getD 2 d0).ii).toNat []).getD 4 d0).ll), DC.sl (((((v1.getD 0 d0).ll).getD ((v1.getD 2 d0).ii).toNat []).getD 5 d0).ll), DC.sl (((((v1.getD 0 d0).ll).getD ((v1.getD 2 d0).ii).toNat []).getD 6 d0).ll), DC.sl (((((v1.getD 0 d0).ll).getD ((v1.getD 2 d0).ii).toNat []).getD 7 d0).ll), DC.sl (((((v1.getD 0 d0).ll).getD ((v1.getD 2 d0).ii).toNat []).getD 8 d0).ll), DC.b (((((v1.getD 0 d0).ll).getD ((v1.getD 2 d0).ii).toNat []).getD 9 d0).bb), DC.sl (((((v1.getD 0 d0).ll).getD ((v1.getD 2 d0).ii).toNat []).getD 10 d0).ll)]).bindR fun r2 =>
          if 84 = 84 ∧ 0 ≤ (v1.getD 2 d0).ii ∧ (v1.getD 2 d0).ii < (((v1.getD 1 d0).ll).length : Int) then
            .norm [DC.sl ((v1.getD 0 d0).ll), DC.sl (((v1.getD 1 d0).ll).set (((v1.getD 2 d0).ii).toNat) (setRunD (((v1.getD 1 d0).ll).getD (((v1.getD 2 d0).ii).toNat) []) 0 [DC.i ((r2.getD 0 d0).ii), DC.b ((r2.getD 1 d0).bb), DC.s ((r2.getD 2 d0).ss), DC.s ((r2.getD 3 d0).ss), DC.sl ((r2.getD 4 d0).ll), DC.sl ((r2.getD 5 d0).ll), DC.sl ((r2.getD 6 d0).ll), DC.sl ((r2.getD 7 d0).ll), DC.sl ((r2.getD 8 d0).ll), DC.b ((r2.getD 9 d0).bb), DC.sl ((r2.getD 10 d0).ll)])), DC.i ((v1.getD 2 d0).ii)]
          else
            .fail
        else
          .fail) 1 fun v3 =>
      .norm [DC.sl ((v3.getD 0 d0).ll), DC.sl ((v3.getD 1 d0).ll), DC.i (IntKind.i64.wrap ((v3.getD 2 d0).ii + (1 : Int)))]
    else
      .ex 0 [DC.sl ((v1.getD 1 d0).ll)]
/-- loop.example/g00964/laws.toDefS -/
noncomputable def E_laws_toDefS (a : List DC) : Out :=
    if 0 ≤ (((a.getD 0 d0).ll).length : Int) ∧ (((a.getD 0 d0).ll).length : Int) < (LIM : Int) ∧ (((a.getD 0 d0).ll).length : Int) = (((a.getD 0 d0).ll).length : Int) ∧ 200 ≤ 1024 ∧ 0 < 11 then
      Out.andThenB (Loop E_laws_toDefSL1 [DC.sl ((a.getD 0 d0).ll), DC.sl (List.replicate (((a.getD 0 d0).ll).length : Int).toNat [DC.i 0, DC.b false, DC.s [], DC.s [], DC.sl [], DC.sl [], DC.sl [], DC.sl [], DC.sl [], DC.b false, DC.sl []]), DC.i (0 : Int)]) 0 fun v4 =>
      .ret [DC.sl ((v4.getD 0 d0).ll)]
    else
      .fail
theorem eq_laws_toDefS (a : List DC) : r_laws_toDefS a = E_laws_toDefS a := (Run_eq cfg 54 h_laws_toDefS a).trans (by kernel_rfl)
noncomputable def E_laws_toRootSL1 : List DC → Out := fun v1 =>
    if (decide ((v1.getD 2 d0).ii < (((v1.getD 0 d0).ll).length : Int))) = true then
      Out.andThenB (if 109 = 109 ∧ 0 ≤ (v1.getD 2 d0).ii ∧ (v1.getD 2 d0).ii < (((v1.getD 0 d0).ll).length : Int) then
          (r_laws_toRoot [DC.i (((((v1.getD 0 d0).ll).getD ((v1.getD 2 d0).ii).toNat []).getD 0 d0).ii), DC.s (((((v1.getD 0 d0).ll).getD ((v1.getD 2 d0).ii).toNat []).getD 1 d0).ss)]).bindR fun r2 =>
          if 76 = 76 ∧ 0 ≤ (v1.getD 2 d0).ii ∧ (v1.getD 2 d0).ii < (((v1.getD 1 d0).ll).length : Int) then
            .norm [DC.sl ((v1.getD 0 d0).ll), DC.sl (((v1.getD 1 d0).ll).set (((v1.getD 2 d0).ii).toNat) (setRunD (((v1.getD 1 d0).ll).getD (((v1.getD 2 d0).ii).toNat) []) 0 [DC.i ((r2.getD 0 d0).ii), DC.s ((r2.getD 1 d0).ss)])), DC.i ((v1.getD 2 d0).ii)]
          else
            .fail
        else
          .fail) 1 fun v3 =>
      .norm [DC.sl ((v3.getD 0 d0).ll), DC.sl ((v3.getD 1 d0).ll), DC.i (IntKind.i64.wrap ((v3.getD 2 d0).ii + (1 : Int)))]
    else
      .ex 0 [DC.sl ((v1.getD 1 d0).ll)]
/-- loop.example/g00964/laws.toRootS -/
noncomputable def E_laws_toRootS (a : List DC) : Out :=
    if 0 ≤ (((a.getD 0 d0).ll).length : Int) ∧ (((a.getD 0 d0).ll).length : Int) < (LIM : Int) ∧ (((a.getD 0 d0).ll).length : Int) = (((a.getD 0 d0).ll).length : Int) ∧ 24 ≤ 1024 ∧ 0 < 2 then
      Out.andThenB (Loop E_laws_toRootSL1 [DC.sl ((a.getD 0 d0).ll), DC.sl (List.replicate (((a.getD 0 d0).ll).length : Int).toNat [DC.i 0, DC.s []]), DC.i (0 : Int)]) 0 fun v4 =>
      .ret [DC.sl ((v4.getD 0 d0).ll)]
    else
      .fail
theorem eq_laws_toRootS (a : List DC) : r_laws_toRootS a = E_laws_toRootS a := (Run_eq cfg 55 h_laws_toRootS a).trans (by kernel_rfl)
noncomputable def E_laws_eqDefSL1 : List DC → Out := fun v1 =>
    if (decide ((v1.getD 2 d0).ii < (((v1.getD 0 d0).ll).length : Int))) = true then
      Out.andThenB (if 84 = 84 ∧ 0 ≤ (v1.getD 2 d0).ii ∧ (v1.getD 2 d0).ii < (((v1.getD 0 d0).ll).length : Int) then
          if 84 = 84 ∧ 0 ≤ (v1.getD 2 d0).ii ∧ (v1.getD 2 d0).ii < (((v1.getD 1 d0).ll).length : Int) then
            (r_laws_eqDef [DC.i (((((v1.getD 0 d0).ll).getD ((v1.getD 2 d0).ii).toNat []).getD 0 d0).ii), DC.b (((((v1.getD 0 d0).ll).getD ((v1.getD 2 d0).ii).toNat []).getD 1 d0).bb), DC.s (((((v1.getD 0 d0).ll).getD ((v1.getD 2 d0).ii).toNat []).getD 2 d0).ss), DC.s (((((v1.getD 0 d0).ll).getD ((v1.getD 2 d0).ii).toNat []).getD 3 d0).ss), DC.sl (((((v1.getD 0 d0).ll).getD ((v1.getD 2 d0).ii).toNat []).getD 4 d0).ll), DC.sl (((((v1.getD 0 d0).ll).getD ((v1.getD 2 d0).ii).toNat []).getD 5 d0).ll), DC.sl (((((v1.getD 0 d0).ll).getD ((v1.getD 2 d0).ii).toNat []).getD 6 d0).ll), DC.sl (((((v1.getD 0 d0).ll).getD ((v1.getD 2 d0).ii).toNat []).getD 7 d0).ll), DC.sl (((((v1.getD 0 d0).ll).getD ((v1.getD 2 d0).ii).toNat []).getD 8 d0).ll), DC.b (((((v1.getD 0 d0).ll).getD ((v1.getD 2 d0).ii).toNat []).getD 9 d0).bb), DC.sl (((((v1.getD 0 d0).ll).getD ((v1.getD 2 d0).ii).toNat []).getD 10 d0).ll), DC.i (((((v1.getD 1 d0).ll).getD ((v1.getD 2 d0).ii).toNat []).getD 0 d0).ii), DC.b (((((v1.getD 1 d0).ll).getD ((v1.getD 2 d0).ii).toNat []).getD 1 d0).bb), DC.s (((((v1.getD 1 d0).ll).getD ((v1.getD 2 d0).ii).toNat []).getD 2 d0).ss), DC.s (((((v1.getD 1 d0).ll).getD ((v1.getD 2 d0).ii).toNat []).getD 3 d0).ss), DC.sl (((((v1.getD 1 d0).ll).getD ((v1.getD 2 d0).ii).toNat []).getD 4 d0).ll), DC.sl (((((v1.getD 1 d0).ll).getD ((v1.getD 2 d0).ii).toNat []).getD 5 d0).ll), DC.sl (((((v1.getD 1 d0).ll).getD ((v1.getD 2 d0).ii).toNat []).getD 6 d0).ll), DC.sl (((((v1.getD 1 d0).ll).getD ((v1.getD 2 d0).ii).toNat []).getD 7 d0).ll), DC.sl (((((v1.getD 1 d0).ll).getD ((v1.getD 2 d0).ii).toNat []).getD 8 d0).ll), DC.b (((((v1.getD 1 d0).ll).getD ((v1.getD 2 d0).ii).toNat []).getD 9 d0).bb), DC.sl (((((v1.getD 1 d0).ll).getD ((v1.getD 2 d0).ii).toNat []).getD 10 d0).ll)]).bindR fun r2 =>
            if (!((r2.getD 0 d0).bb)) = true then
              .ret [DC.b false]
            else
              .norm [DC.sl ((v1.getD 0 d0).ll), DC.sl ((v1.getD 1 d0).ll), DC.i ((v1.getD 2 d0).ii)]
          else
            .fail
        else
          .fail) 1 fun v3 =>
      .norm [DC.sl ((v3.getD 0 d0).ll), DC.sl ((v3.getD 1 d0).ll), DC.i (IntKind.i64.wrap ((v3.getD 2 d0).ii + (1 : Int)))]
    else
      .ex 0 []
/-- loop.example/g00964/laws.eqDefS -/
noncomputable def E_laws_eqDefS (a : List DC) : Out :=
    if ((((a.getD 0 d0).ll).length : Int) != (((a.getD 1 d0).ll).length : Int)) = true then
      .ret [DC.b false]
    else
      Out.andThenB (Loop E_laws_eqDefSL1 [DC.sl ((a.getD 0 d0).ll), DC.sl ((a.getD 1 d0).ll), DC.i (0 : Int)]) 0 fun v4 =>
      .ret [DC.b true]
theorem eq_laws_eqDefS (a : List DC) : r_laws_eqDefS a = E_laws_eqDefS a := (Run_eq cfg 56 h_laws_eqDefS a).trans (by kernel_rfl)
noncomputable def E_laws_eqRootSL1 : List DC → Out := fun v1 =>
    if (decide ((v1.getD 2 d0).ii < (((v1.getD 0 d0).ll).length : Int))) = true then
      Out.andThenB (if 76 = 76 ∧ 0 ≤ (v1.getD 2 d0).ii ∧ (v1.getD 2 d0).ii < (((v1.getD 0 d0).ll).length : Int) then
          if 76 = 76 ∧ 0 ≤ (v1.getD 2 d0).ii ∧ (v1.getD 2 d0).ii < (((v1.getD 1 d0).ll).length : Int) then
            (r_laws_eqRoot [DC.i (((((v1.getD 0 d0).ll).getD ((v1.getD 2 d0).ii).toNat []).getD 0 d0).ii), DC.s (((((v1.getD 0 d0).ll).getD ((v1.getD 2 d0).ii).toNat []).getD 1 d0).ss), DC.i (((((v1.getD 1 d0).ll).getD ((v1.getD 2 d0).ii).toNat []).getD 0 d0).ii), DC.s (((((v1.getD 1 d0).ll).getD ((v1.getD 2 d0).ii).toNat []).getD 1 d0).ss)]).bindR fun r2 =>
            if (!((r2.getD 0 d0).bb)) = true then
              .ret [DC.b false]
            else
              .norm [DC.sl ((v1.getD 0 d0).ll), DC.sl ((v1.getD 1 d0).ll), DC.i ((v1.getD 2 d0).ii)]
          else
            .fail
        else
          .fail) 1 fun v3 =>
      .norm [DC.sl ((v3.getD 0 d0).ll), DC.sl ((v3.getD 1 d0).ll), DC.i (IntKind.i64.wrap ((v3.getD 2 d0).ii + (1 : Int)))]
    else
      .ex 0 []
/-- loop.example/g00964/laws.eqRootS -/
noncomputable def E_laws_eqRootS (a : List DC) : Out :=
    if ((((a.getD 0 d0).ll).length : Int) != (((a.getD 1 d0).ll).length : Int)) = true then
      .ret [DC.b false]
    else
      Out.andThenB (Loop E_laws_eqRootSL1 [DC.sl ((a.getD 0 d0).ll), DC.sl ((a.getD 1 d0).ll), DC.i (0 : Int)]) 0 fun v4 =>
      .ret [DC.b true]
theorem eq_laws_eqRootS (a : List DC) : r_laws_eqRootS a = E_laws_eqRootS a := (Run_eq cfg 57 h_laws_eqRootS a).trans (by kernel_rfl)
/-- loop.example/g00964/impl.named -/
noncomputable def E_impl_named (a : List DC) : Out :=
    if (decide ((((a.getD 0 d0).ll).length : Int) > (60 : Int))) = true then
      .ret [DC.i (-1 : Int)]
    else
      (r_slices_IndexFunc_impl_Def__impl_named_1 [DC.sl ((a.getD 0 d0).ll), DC.s ((a.getD 1 d0).ss)]).bindR fun r1 =>
      .ret [DC.i ((r1.getD 0 d0).ii)]
theorem eq_impl_named (a : List DC) : r_impl_named a = E_impl_named a := (Run_eq cfg 58 h_impl_named a).trans (by kernel_rfl)
/-- loop.example/g00964/spec.BuiltIn -/
noncomputable def E_spec_BuiltIn (a : List DC) : Out :=
    Out.andThen (if ((a.getD 0 d0).ss == ([73, 110, 116] : List UInt8)) = true then
        .norm [DC.b true]
      else
        if ((a.getD 0 d0).ss == ([70, 108, 111, 97, 116] : List UInt8)) = true then
          .norm [DC.b true]
        else
          if ((a.getD 0 d0).ss == ([83, 116, 114, 105, 110, 103] : List UInt8)) = true then
            .norm [DC.b true]
          else
            if ((a.getD 0 d0).ss == ([66, 111, 111, 108, 101, 97, 110] : List UInt8)) = true then
              .norm [DC.b true]
            else
              .norm [DC.b ((a.getD 0 d0).ss == ([73, 68] : List UInt8))]) fun v1 =>
    .ret [DC.b ((v1.getD 0 d0).bb)]
theorem eq_spec_BuiltIn (a : List DC) : r_spec_BuiltIn a = E_spec_BuiltIn a := (Run_eq cfg 59 h_spec_BuiltIn a).trans (by kernel_rfl)
/-- loop.example/g00964/impl.typeDef -/
noncomputable def E_impl_typeDef (a : List DC) : Out :=
    (r_impl_TypeAt [DC.sl ((a.getD 0 d0).ll), DC.sl ((a.getD 1 d0).ll), DC.sl ((a.getD 2 d0).ll), DC.s ((a.getD 3 d0).ss)]).bindR fun r1 =>
    if (decide ((r1.getD 0 d0).ii < (0 : Int))) = true then
      .ret [DC.i (0 : Int), DC.b false, DC.s [], DC.s [], DC.sl [], DC.sl [], DC.sl [], DC.sl [], DC.sl [], DC.b false, DC.sl [], DC.b false]
    else
      if 84 = 84 ∧ 0 ≤ (r1.getD 0 d0).ii ∧ (r1.getD 0 d0).ii < (((a.getD 0 d0).ll).length : Int) then
        .ret [DC.i (((((a.getD 0 d0).ll).getD ((r1.getD 0 d0).ii).toNat []).getD 0 d0).ii), DC.b (((((a.getD 0 d0).ll).getD ((r1.getD 0 d0).ii).toNat []).getD 1 d0).bb), DC.s (((((a.getD 0 d0).ll).getD ((r1.getD 0 d0).ii).toNat []).getD 2 d0).ss), DC.s (((((a.getD 0 d0).ll).getD ((r1.getD 0 d0).ii).toNat []).getD 3 d0).ss), DC.sl (((((a.getD 0 d0).ll).getD ((r1.getD 0 d0).ii).toNat []).getD 4 d0).ll), DC.sl (((((a.getD 0 d0).ll).getD ((r1.getD 0 d0).ii).toNat []).getD 5 d0).ll), DC.sl (((((a.getD 0 d0).ll).getD ((r1.getD 0 d0).ii).toNat []).getD 6 d0).ll), DC.sl (((((a.getD 0 d0).ll).getD ((r1.getD 0 d0).ii).toNat []).getD 7 d0).ll), DC.sl (((((a.getD 0 d0).ll).getD ((r1.getD 0 d0).ii).toNat []).getD 8 d0).ll), DC.b (((((a.getD 0 d0).ll).getD ((r1.getD 0 d0).ii).toNat []).getD 9 d0).bb), DC.sl (((((a.getD 0 d0).ll).getD ((r1.getD 0 d0).ii).toNat []).getD 10 d0).ll), DC.b true]
      else
        .fail
theorem eq_impl_typeDef (a : List DC) : r_impl_typeDef a = E_impl_typeDef a := (Run_eq cfg 60 h_impl_typeDef a).trans (by kernel_rfl)
/-- loop.example/g00964/impl.BuiltIn -/
noncomputable def E_impl_BuiltIn (a : List DC) : Out :=
    Out.andThenB (Out.andThen (if ((a.getD 0 d0).ss == ([73, 110, 116] : List UInt8)) = true then
          .norm [DC.b ((a.getD 0 d0).ss == ([73, 110, 116] : List UInt8))]
        else
          Out.andThen (if ((a.getD 0 d0).ss == ([70, 108, 111, 97, 116] : List UInt8)) = true then
              .norm [DC.b ((a.getD 0 d0).ss == ([70, 108, 111, 97, 116] : List UInt8))]
            else
              Out.andThen (if ((a.getD 0 d0).ss == ([83, 116, 114, 105, 110, 103] : List UInt8)) = true then
                  .norm [DC.b ((a.getD 0 d0).ss == ([83, 116, 114, 105, 110, 103] : List UInt8))]
                else
                  Out.andThen (if ((a.getD 0 d0).ss == ([66, 111, 111, 108, 101, 97, 110] : List UInt8)) = true then
                      .norm [DC.b ((a.getD 0 d0).ss == ([66, 111, 111, 108, 101, 97, 110] : List UInt8))]
                    else
                      .norm [DC.b ((a.getD 0 d0).ss == ([73, 68] : List UInt8))]) fun v1 =>
                  .norm [DC.b ((v1.getD 0 d0).bb)]) fun v2 =>
              .norm [DC.b ((v2.getD 0 d0).bb)]) fun v3 =>
          .norm [DC.b ((v3.getD 0 d0).bb)]) fun v4 =>
      if (v4.getD 0 d0).bb = true then
        .ret [DC.b true]
      else
        .norm []) 0 fun v5 =>
    .ret [DC.b false]
theorem eq_impl_BuiltIn (a : List DC) : r_impl_BuiltIn a = E_impl_BuiltIn a := (Run_eq cfg 61 h_impl_BuiltIn a).trans (by kernel_rfl)
noncomputable def E_spec_l18HasL1 : List DC → Out := fun v1 =>
    if (decide ((v1.getD 2 d0).ii < (((v1.getD 0 d0).ll).length : Int))) = true then
      Out.andThenB (if 9 = 9 ∧ 0 ≤ (v1.getD 2 d0).ii ∧ (v1.getD 2 d0).ii < (((v1.getD 0 d0).ll).length : Int) then
          if (((((v1.getD 0 d0).ll).getD ((v1.getD 2 d0).ii).toNat []).getD 0 d0).ss == (v1.getD 1 d0).ss) = true then
            .ret [DC.b true]
          else
            .norm [DC.sl ((v1.getD 0 d0).ll), DC.s ((v1.getD 1 d0).ss), DC.i ((v1.getD 2 d0).ii)]
        else
          .fail) 1 fun v2 =>
      .norm [DC.sl ((v2.getD 0 d0).ll), DC.s ((v2.getD 1 d0).ss), DC.i (IntKind.i64.wrap ((v2.getD 2 d0).ii + (1 : Int)))]
    else
      .ex 0 []
/-- loop.example/g00964/spec.l18Has -/
noncomputable def E_spec_l18Has (a : List DC) : Out :=
    Out.andThenB (Loop E_spec_l18HasL1 [DC.sl ((a.getD 0 d0).ll), DC.s ((a.getD 1 d0).ss), DC.i (0 : Int)]) 0 fun v3 =>
    .ret [DC.b false]
theorem eq_spec_l18Has (a : List DC) : r_spec_l18Has a = E_spec_l18Has a := (Run_eq cfg 62 h_spec_l18Has a).trans (by kernel_rfl)
/-- slices.Contains[[]string,string] -/
noncomputable def E_slices_Contains_string (a : List DC) : Out :=
    (r_slices_Index_string [DC.sl ((a.getD 0 d0).ll), DC.s ((a.getD 1 d0).ss)]).bindR fun r1 =>
    .ret [DC.b (decide ((r1.getD 0 d0).ii ≥ (0 : Int)))]
theorem eq_slices_Contains_string (a : List DC) : r_slices_Contains_string a = E_slices_Contains_string a := (Run_eq cfg 63 h_slices_Contains_string a).trans (by kernel_rfl)
/-- loop.example/g00964/spec.l18Below -/
noncomputable def E_spec_l18Below (a : List DC) : Out :=
    if ((a.getD 3 d0).ss == (a.getD 4 d0).ss) = true then
      .ret [DC.b true]
    else
      (r_spec_TypeAt [DC.sl ((a.getD 0 d0).ll), DC.sl ((a.getD 1 d0).ll), DC.sl ((a.getD 2 d0).ll), DC.s ((a.getD 3 d0).ss)]).bindR fun r1 =>
      (r_spec_TypeAt [DC.sl ((a.getD 0 d0).ll), DC.sl ((a.getD 1 d0).ll), DC.sl ((a.getD 2 d0).ll), DC.s ((a.getD 4 d0).ss)]).bindR fun r2 =>
      Out.andThen (if (decide ((r1.getD 0 d0).ii < (0 : Int))) = true then
          .norm [DC.s ((a.getD 3 d0).ss), DC.s ((a.getD 4 d0).ss), DC.i ((r1.getD 0 d0).ii), DC.i ((r2.getD 0 d0).ii), DC.b true, DC.sl ((a.getD 0 d0).ll), DC.sl ((a.getD 1 d0).ll), DC.sl ((a.getD 2 d0).ll)]
        else
          .norm [DC.s ((a.getD 3 d0).ss), DC.s ((a.getD 4 d0).ss), DC.i ((r1.getD 0 d0).ii), DC.i ((r2.getD 0 d0).ii), DC.b (decide ((r2.getD 0 d0).ii < (0 : Int))), DC.sl ((a.getD 0 d0).ll), DC.sl ((a.getD 1 d0).ll), DC.sl ((a.getD 2 d0).ll)]) fun v3 =>
      if (v3.getD 4 d0).bb = true then
        .ret [DC.b false]
      else
        if 84 = 84 ∧ 0 ≤ (v3.getD 2 d0).ii ∧ (v3.getD 2 d0).ii < (((v3.getD 5 d0).ll).length : Int) then
          if 84 = 84 ∧ 0 ≤ (v3.getD 3 d0).ii ∧ (v3.getD 3 d0).ii < (((v3.getD 5 d0).ll).length : Int) then
            Out.andThen (if (((((v3.getD 5 d0).ll).getD ((v3.getD 3 d0).ii).toNat []).getD 0 d0).ii == (3 : Int)) = true then
                if (((((v3.getD 5 d0).ll).getD ((v3.getD 2 d0).ii).toNat []).getD 0 d0).ii == (2 : Int)) = true then
                  .norm [DC.s ((v3.getD 0 d0).ss), DC.s ((v3.getD 1 d0).ss), DC.b true, DC.i (((((v3.getD 5 d0).ll).getD ((v3.getD 2 d0).ii).toNat []).getD 0 d0).ii), DC.b (((((v3.getD 5 d0).ll).getD ((v3.getD 2 d0).ii).toNat []).getD 1 d0).bb), DC.s (((((v3.getD 5 d0).ll).getD ((v3.getD 2 d0).ii).toNat []).getD 2 d0).ss), DC.s (((((v3.getD 5 d0).ll).getD ((v3.getD 2 d0).ii).toNat []).getD 3 d0).ss), DC.sl (((((v3.getD 5 d0).ll).getD ((v3.getD 2 d0).ii).toNat []).getD 4 d0).ll), DC.sl (((((v3.getD 5 d0).ll).getD ((v3.getD 2 d0).ii).toNat []).getD 5 d0).ll), DC.sl (((((v3.getD 5 d0).ll).getD ((v3.getD 2 d0).ii).toNat []).getD 6 d0).ll), DC.sl (((((v3.getD 5 d0).ll).getD ((v3.getD 2 d0).ii).toNat []).getD 7 d0).ll), DC.sl (((((v3.getD 5 d0).ll).getD ((v3.getD 2 d0).ii).toNat []).getD 8 d0).ll), DC.b (((((v3.getD 5 d0).ll).getD ((v3.getD 2 d0).ii).toNat []).getD 9 d0).bb), DC.sl (((((v3.getD 5 d0).ll).getD ((v3.getD 2 d0).ii).toNat []).getD 10 d0).ll), DC.i (((((v3.getD 5 d0).ll).getD ((v3.getD 3 d0).ii).toNat []).getD 0 d0).ii), DC.b (((((v3.getD 5 d0).ll).getD ((v3.getD 3 d0).ii).toNat []).getD 1 d0).bb), DC.s (((((v3.getD 5 d0).ll).getD ((v3.getD 3 d0).ii).toNat []).getD 2 d0).ss), DC.s (((((v3.getD 5 d0).ll).getD ((v3.getD 3 d0).ii).toNat []).getD 3 d0).ss), DC.sl (((((v3.getD 5 d0).ll).getD ((v3.getD 3 d0).ii).toNat []).getD 4 d0).ll), DC.sl (((((v3.getD 5 d0).ll).getD ((v3.getD 3 d0).ii).toNat []).getD 5 d0).ll), DC.sl (((((v3.getD 5 d0).ll).getD ((v3.getD 3 d0).ii).toNat []).getD 6 d0).ll), DC.sl (((((v3.getD 5 d0).ll).getD ((v3.getD 3 d0).ii).toNat []).getD 7 d0).ll), DC.sl (((((v3.getD 5 d0).ll).getD ((v3.getD 3 d0).ii).toNat []).getD 8 d0).ll), DC.b (((((v3.getD 5 d0).ll).getD ((v3.getD 3 d0).ii).toNat []).getD 9 d0).bb), DC.sl (((((v3.getD 5 d0).ll).getD ((v3.getD 3 d0).ii).toNat []).getD 10 d0).ll)]
                else
                  .norm [DC.s ((v3.getD 0 d0).ss), DC.s ((v3.getD 1 d0).ss), DC.b (((((v3.getD 5 d0).ll).getD ((v3.getD 2 d0).ii).toNat []).getD 0 d0).ii == (3 : Int)), DC.i (((((v3.getD 5 d0).ll).getD ((v3.getD 2 d0).ii).toNat []).getD 0 d0).ii), DC.b (((((v3.getD 5 d0).ll).getD ((v3.getD 2 d0).ii).toNat []).getD 1 d0).bb), DC.s (((((v3.getD 5 d0).ll).getD ((v3.getD 2 d0).ii).toNat []).getD 2 d0).ss), DC.s (((((v3.getD 5 d0).ll).getD ((v3.getD 2 d0).ii).toNat []).getD 3 d0).ss), DC.sl (((((v3.getD 5 d0).ll).getD ((v3.getD 2 d0).ii).toNat []).getD 4 d0).ll), DC.sl (((((v3.getD 5 d0).ll).getD ((v3.getD 2 d0).ii).toNat []).getD 5 d0).ll), DC.sl (((((v3.getD 5 d0).ll).getD ((v3.getD 2 d0).ii).toNat []).getD 6 d0).ll), DC.sl (((((v3.getD 5 d0).ll).getD ((v3.getD 2 d0).ii).toNat []).getD 7 d0).ll), DC.sl (((((v3.getD 5 d0).ll).getD ((v3.getD 2 d0).ii).toNat []).getD 8 d0).ll), DC.b (((((v3.getD 5 d0).ll).getD ((v3.getD 2 d0).ii).toNat []).getD 9 d0).bb), DC.sl (((((v3.getD 5 d0).ll).getD ((v3.getD 2 d0).ii).toNat []).getD 10 d0).ll), DC.i (((((v3.getD 5 d0).ll).getD ((v3.getD 3 d0).ii).toNat []).getD 0 d0).ii), DC.b (((((v3.getD 5 d0).ll).getD ((v3.getD 3 d0).ii).toNat []).getD 1 d0).bb), DC.s (((((v3.getD 5 d0).ll).getD ((v3.getD 3 d0).ii).toNat []).getD 2 d0).ss), DC.s (((((v3.getD 5 d0).ll).getD ((v3.getD 3 d0).ii).toNat []).getD 3 d0).ss), DC.sl (((((v3.getD 5 d0).ll).getD ((v3.getD 3 d0).ii).toNat []).getD 4 d0).ll), DC.sl (((((v3.getD 5 d0).ll).getD ((v3.getD 3 d0).ii).toNat []).getD 5 d0).ll), DC.sl (((((v3.getD 5 d0).ll).getD ((v3.getD 3 d0).ii).toNat []).getD 6 d0).ll), DC.sl (((((v3.getD 5 d0).ll).getD ((v3.getD 3 d0).ii).toNat []).getD 7 d0).ll), DC.sl (((((v3.getD 5 d0).ll).getD ((v3.getD 3 d0).ii).toNat []).getD 8 d0).ll), DC.b (((((v3.getD 5 d0).ll).getD ((v3.getD 3 d0).ii).toNat []).getD 9 d0).bb), DC.sl (((((v3.getD 5 d0).ll).getD ((v3.getD 3 d0).ii).toNat []).getD 10 d0).ll)]
              else
                .norm [DC.s ((v3.getD 0 d0).ss), DC.s ((v3.getD 1 d0).ss), DC.b false, DC.i (((((v3.getD 5 d0).ll).getD ((v3.getD 2 d0).ii).toNat []).getD 0 d0).ii), DC.b (((((v3.getD 5 d0).ll).getD ((v3.getD 2 d0).ii).toNat []).getD 1 d0).bb), DC.s (((((v3.getD 5 d0).ll).getD ((v3.getD 2 d0).ii).toNat []).getD 2 d0).ss), DC.s (((((v3.getD 5 d0).ll).getD ((v3.getD 2 d0).ii).toNat []).getD 3 d0).ss), DC.sl (((((v3.getD 5 d0).ll).getD ((v3.getD 2 d0).ii).toNat []).getD 4 d0).ll), DC.sl (((((v3.getD 5 d0).ll).getD ((v3.getD 2 d0).ii).toNat []).getD 5 d0).ll), DC.sl (((((v3.getD 5 d0).ll).getD ((v3.getD 2 d0).ii).toNat []).getD 6 d0).ll), DC.sl (((((v3.getD 5 d0).ll).getD ((v3.getD 2 d0).ii).toNat []).getD 7 d0).ll), DC.sl (((((v3.getD 5 d0).ll).getD ((v3.getD 2 d0).ii).toNat []).getD 8 d0).ll), DC.b (((((v3.getD 5 d0).ll).getD ((v3.getD 2 d0).ii).toNat []).getD 9 d0).bb), DC.sl (((((v3.getD 5 d0).ll).getD ((v3.getD 2 d0).ii).toNat []).getD 10 d0).ll), DC.i (((((v3.getD 5 d0).ll).getD ((v3.getD 3 d0).ii).toNat []).getD 0 d0).ii), DC.b (((((v3.getD 5 d0).ll).getD ((v3.getD 3 d0).ii).toNat []).getD 1 d0).bb), DC.s (((((v3.getD 5 d0).ll).getD ((v3.getD 3 d0).ii).toNat []).getD 2 d0).ss), DC.s (((((v3.getD 5 d0).ll).getD ((v3.getD 3 d0).ii).toNat []).getD 3 d0).ss), DC.sl (((((v3.getD 5 d0).ll).getD ((v3.getD 3 d0).ii).toNat []).getD 4 d0).ll), DC.sl (((((v3.getD 5 d0).ll).getD ((v3.getD 3 d0).ii).toNat []).getD 5 d0).ll), DC.sl (((((v3.getD 5 d0).ll).getD ((v3.getD 3 d0).ii).toNat []).getD 6 d0).ll), DC.sl (((((v3.getD 5 d0).ll).getD ((v3.getD 3 d0).ii).toNat []).getD 7 d0).ll), DC.sl (((((v3.getD 5 d0).ll).getD ((v3.getD 3 d0).ii).toNat []).getD 8 d0).ll), DC.b (((((v3.getD 5 d0).ll).getD ((v3.getD 3 d0).ii).toNat []).getD 9 d0).bb), DC.sl (((((v3.getD 5 d0).ll).getD ((v3.getD 3 d0).ii).toNat []).getD 10 d0).ll)]) fun v4 =>
            if (v4.getD 2 d0).bb = true then
              (r_spec_l18Has [DC.sl ((v4.getD 7 d0).ll), DC.s ((v4.getD 1 d0).ss)]).bindR fun r5 =>
              .ret [DC.b ((r5.getD 0 d0).bb)]
            else
              Out.andThen (if ((v4.getD 14 d0).ii == (4 : Int)) = true then
                  if ((v4.getD 3 d0).ii == (2 : Int)) = true then
                    (r_spec_l18Has [DC.sl ((v4.getD 18 d0).ll), DC.s ((v4.getD 0 d0).ss)]).bindR fun r6 =>
                    .norm [DC.b ((r6.getD 0 d0).bb)]
                  else
                    .norm [DC.b false]
                else
                  .norm [DC.b false]) fun v7 =>
              .ret [DC.b ((v7.getD 0 d0).bb)]
          else
            .fail
        else
          .fail
theorem eq_spec_l18Below (a : List DC) : r_spec_l18Below a = E_spec_l18Below a := (Run_eq cfg 64 h_spec_l18Below a).trans (by kernel_rfl)
/-- loop.example/g00964/impl.unwrapped -/
noncomputable def E_impl_unwrapped (a : List DC) : Out :=
    (r_strings_CutSuffix [DC.s ((a.getD 1 d0).ss), DC.s ((a.getD 2 d0).ss)]).bindR fun r1 =>
    .ret [DC.s ((a.getD 0 d0).ss), DC.s ((r1.getD 0 d0).ss), DC.b ((r1.getD 1 d0).bb)]
theorem eq_impl_unwrapped (a : List DC) : r_impl_unwrapped a = E_impl_unwrapped a := (Run_eq cfg 65 h_impl_unwrapped a).trans (by kernel_rfl)
/-- loop.example/g00964/impl.subName -/
noncomputable def E_impl_subName (a : List DC) : Out :=
    (r_impl_typeDef [DC.sl ((a.getD 0 d0).ll), DC.sl ((a.getD 1 d0).ll), DC.sl ((a.getD 2 d0).ll), DC.s ((a.getD 3 d0).ss)]).bindR fun r1 =>
    (r_impl_typeDef [DC.sl ((a.getD 0 d0).ll), DC.sl ((a.getD 1 d0).ll), DC.sl ((a.getD 2 d0).ll), DC.s ((a.getD 4 d0).ss)]).bindR fun r2 =>
    Out.andThenB (if ((a.getD 3 d0).ss == (a.getD 4 d0).ss) = true then
        .ret [DC.b true]
      else
        if ((r2.getD 0 d0).ii == (3 : Int)) = true then
          Out.andThen (if ((r1.getD 0 d0).ii == (2 : Int)) = true then
              (r_slices_Contains_string [DC.sl ((r1.getD 4 d0).ll), DC.s ((a.getD 4 d0).ss)]).bindR fun r3 =>
              .norm [DC.b ((r3.getD 0 d0).bb)]
            else
              if ((r1.getD 0 d0).ii == (3 : Int)) = true then
                (r_slices_Contains_string [DC.sl ((r1.getD 4 d0).ll), DC.s ((a.getD 4 d0).ss)]).bindR fun r4 =>
                .norm [DC.b ((r4.getD 0 d0).bb)]
              else
                .norm [DC.b false]) fun v5 =>
          .ret [DC.b ((v5.getD 0 d0).bb)]
        else
          if ((r2.getD 0 d0).ii == (4 : Int)) = true then
            Out.andThen (if ((r1.getD 0 d0).ii == (2 : Int)) = true then
                (r_slices_Contains_string [DC.sl ((r2.getD 4 d0).ll), DC.s ((a.getD 3 d0).ss)]).bindR fun r6 =>
                .norm [DC.b ((r6.getD 0 d0).bb)]
              else
                .norm [DC.b false]) fun v7 =>
            .ret [DC.b ((v7.getD 0 d0).bb)]
          else
            .norm []) 0 fun v8 =>
    .ret [DC.b false]
theorem eq_impl_subName (a : List DC) : r_impl_subName a = E_impl_subName a := (Run_eq cfg 66 h_impl_subName a).trans (by kernel_rfl)
noncomputable def E_spec_l21SameL1 : List DC → Out := fun v1 =>
    if (decide ((v1.getD 2 d0).ii < (((v1.getD 0 d0).ll).length : Int))) = true then
      Out.andThenB (if 84 = 84 ∧ 0 ≤ (v1.getD 2 d0).ii ∧ (v1.getD 2 d0).ii < (((v1.getD 0 d0).ll).length : Int) then
          if 84 = 84 ∧ 0 ≤ (v1.getD 2 d0).ii ∧ (v1.getD 2 d0).ii < (((v1.getD 1 d0).ll).length : Int) then
            (r_spec_l14SameDef [DC.i (((((v1.getD 0 d0).ll).getD ((v1.getD 2 d0).ii).toNat []).getD 0 d0).ii), DC.b (((((v1.getD 0 d0).ll).getD ((v1.getD 2 d0).ii).toNat []).getD 1 d0).bb), DC.s (((((v1.getD 0 d0).ll).getD ((v1.getD 2 d0).ii).toNat []).getD 2 d0).ss), DC.s (((((v1.getD 0 d0).ll).getD ((v1.getD 2 d0).ii).toNat []).getD 3 d0).ss), DC.sl (((((v1.getD 0 d0).ll).getD ((v1.getD 2 d0).ii).toNat []).getD 4 d0).ll), DC.sl (((((v1.getD 0 d0).ll).getD ((v1.getD 2 d0).ii).toNat []).getD 5 d0).ll), DC.sl (((((v1.getD 0 d0).ll).getD ((v1.getD 2 d0).ii).toNat []).getD 6 d0).ll), DC.sl (((((v1.getD 0 d0).ll).getD ((v1.getD 2 d0).ii).toNat []).getD 7 d0).ll), DC.sl (((((v1.getD 0 d0).ll).getD ((v1.getD 2 d0).ii).toNat []).getD 8 d0).ll), DC.b (((((v1.getD 0 d0).ll).getD ((v1.getD 2 d0).ii).toNat []).getD 9 d0).bb), DC.sl (((((v1.getD 0 d0).ll).getD ((v1.getD 2 d0).ii).toNat []).getD 10 d0).ll), DC.i (((((v1.getD 1 d0).ll).getD ((v1.getD 2 d0).ii).toNat []).getD 0 d0).ii), DC.b (((((v1.getD 1 d0).ll).getD ((v1.getD 2 d0).ii).toNat []).getD 1 d0).bb), DC.s (((((v1.getD 1 d0).ll).getD ((v1.getD 2 d0).ii).toNat []).getD 2 d0).ss), DC.s (((((v1.getD 1 d0).ll).getD ((v1.getD 2 d0).ii).toNat []).getD 3 d0).ss), DC.sl (((((v1.getD 1 d0).ll).getD ((v1.getD 2 d0).ii).toNat []).getD 4 d0).ll), DC.sl (((((v1.getD 1 d0).ll).getD ((v1.getD 2 d0).ii).toNat []).getD 5 d0).ll), DC.sl (((((v1.getD 1 d0).ll).getD ((v1.getD 2 d0).ii).toNat []).getD 6 d0).ll), DC.sl (((((v1.getD 1 d0).ll).getD ((v1.getD 2 d0).ii).toNat []).getD 7 d0).ll), DC.sl (((((v1.getD 1 d0).ll).getD ((v1.getD 2 d0).ii).toNat []).getD 8 d0).ll), DC.b (((((v1.getD 1 d0).ll).getD ((v1.getD 2 d0).ii).toNat []).getD 9 d0).bb), DC.sl (((((v1.getD 1 d0).ll).getD ((v1.getD 2 d0).ii).toNat []).getD 10 d0).ll)]).bindR fun r2 =>
            if (!((r2.getD 0 d0).bb)) = true then
              .ret [DC.b false]
            else
              .norm [DC.sl ((v1.getD 0 d0).ll), DC.sl ((v1.getD 1 d0).ll), DC.i ((v1.getD 2 d0).ii)]
          else
            .fail
        else
          .fail) 1 fun v3 =>
      .norm [DC.sl ((v3.getD 0 d0).ll), DC.sl ((v3.getD 1 d0).ll), DC.i (IntKind.i64.wrap ((v3.getD 2 d0).ii + (1 : Int)))]
    else
      .ex 0 []
/-- loop.example/g00964/spec.l21Same -/
noncomputable def E_spec_l21Same (a : List DC) : Out :=
    if ((((a.getD 0 d0).ll).length : Int) != (((a.getD 1 d0).ll).length : Int)) = true then
      .ret [DC.b false]
    else
      Out.andThenB (Loop E_spec_l21SameL1 [DC.sl ((a.getD 0 d0).ll), DC.sl ((a.getD 1 d0).ll), DC.i (0 : Int)]) 0 fun v4 =>
      .ret [DC.b true]
theorem eq_spec_l21Same (a : List DC) : r_spec_l21Same a = E_spec_l21Same a := (Run_eq cfg 67 h_spec_l21Same a).trans (by kernel_rfl)
noncomputable def E_slices_EqualFunc_impl_Def__impl_sameDefL1 : List DC → Out := fun v1 =>
    if (decide ((v1.getD 3 d0).ii < (v1.getD 2 d0).ii)) = true then
      Out.andThenB (if 84 = 84 ∧ 0 ≤ (v1.getD 3 d0).ii ∧ (v1.getD 3 d0).ii < (((v1.getD 1 d0).ll).length : Int) then
          if 84 = 84 ∧ 0 ≤ (v1.getD 3 d0).ii ∧ (v1.getD 3 d0).ii < (((v1.getD 0 d0).ll).length : Int) then
            (r_impl_sameDef [DC.i (((((v1.getD 1 d0).ll).getD ((v1.getD 3 d0).ii).toNat []).getD 0 d0).ii), DC.b (((((v1.getD 1 d0).ll).getD ((v1.getD 3 d0).ii).toNat []).getD 1 d0).bb), DC.s (((((v1.getD 1 d0).ll).getD ((v1.getD 3 d0).ii).toNat []).getD 2 d0).ss), DC.s (((((v1.getD 1 d0).ll).getD ((v1.getD 3 d0).ii).toNat []).getD 3 d0).ss), DC.sl (((((v1.getD 1 d0).ll).getD ((v1.getD 3 d0).ii).toNat []).getD 4 d0).ll), DC.sl (((((v1.getD 1 d0).ll).getD ((v1.getD 3 d0).ii).toNat []).getD 5 d0).ll), DC.sl (((((v1.getD 1 d0).ll).getD ((v1.getD 3 d0).ii).toNat []).getD 6 d0).ll), DC.sl (((((v1.getD 1 d0).ll).getD ((v1.getD 3 d0).ii).toNat []).getD 7 d0).ll), DC.sl (((((v1.getD 1 d0).ll).getD ((v1.getD 3 d0).ii).toNat []).getD 8 d0).ll), DC.b (((((v1.getD 1 d0).ll).getD ((v1.getD 3 d0).ii).toNat []).getD 9 d0).bb), DC.sl (((((v1.getD 1 d0).ll).getD ((v1.getD 3 d0).ii).toNat []).getD 10 d0).ll), DC.i (((((v1.getD 0 d0).ll).getD ((v1.getD 3 d0).ii).toNat []).getD 0 d0).ii), DC.b (((((v1.getD 0 d0).ll).getD ((v1.getD 3 d0).ii).toNat []).getD 1 d0).bb), DC.s (((((v1.getD 0 d0).ll).getD ((v1.getD 3 d0).ii).toNat []).getD 2 d0).ss), DC.s (((((v1.getD 0 d0).ll).getD ((v1.getD 3 d0).ii).toNat []).getD 3 d0).ss), DC.sl (((((v1.getD 0 d0).ll).getD ((v1.getD 3 d0).ii).toNat []).getD 4 d0).ll), DC.sl (((((v1.getD 0 d0).ll).getD ((v1.getD 3 d0).ii).toNat []).getD 5 d0).ll), DC.sl (((((v1.getD 0 d0).ll).getD ((v1.getD 3 d0).ii).toNat []).getD 6 d0).ll), DC.sl (((((v1.getD 0 d0).ll).getD ((v1.getD 3 d0).ii).toNat []).getD 7 d0).ll), DC.sl (((((v1.getD 0 d0).ll).getD ((v1.getD 3 d0).ii).toNat []).getD 8 d0).ll), DC.b (((((v1.getD 0 d0).ll).getD ((v1.getD 3 d0).ii).toNat []).getD 9 d0).bb), DC.sl (((((v1.getD 0 d0).ll).getD ((v1.getD 3 d0).ii).toNat []).getD 10 d0).ll)]).bindR fun r2 =>
            if (!((r2.getD 0 d0).bb)) = true then
              .ret [DC.b false]
            else
              .norm [DC.sl ((v1.getD 0 d0).ll), DC.sl ((v1.getD 1 d0).ll), DC.i ((v1.getD 2 d0).ii), DC.i ((v1.getD 3 d0).ii)]
          else
            .fail
        else
          .fail) 1 fun v3 =>
      .norm [DC.sl ((v3.getD 0 d0).ll), DC.sl ((v3.getD 1 d0).ll), DC.i ((v3.getD 2 d0).ii), DC.i (IntKind.i64.wrap ((v3.getD 3 d0).ii + (1 : Int)))]
    else
      .ex 0 []
/-- slices.EqualFunc[[]loop.example/g00964/impl.Def,[]loop.example/g00964/impl.Def,loop.example/g00964/impl.Def,loop.example/g00964/impl.Def] -/
noncomputable def E_slices_EqualFunc_impl_Def__impl_sameDef (a : List DC) : Out :=
    if ((((a.getD 0 d0).ll).length : Int) != (((a.getD 1 d0).ll).length : Int)) = true then
      .ret [DC.b false]
    else
      Out.andThenB (Loop E_slices_EqualFunc_impl_Def__impl_sameDefL1 [DC.sl ((a.getD 1 d0).ll), DC.sl ((a.getD 0 d0).ll), DC.i (((a.getD 0 d0).ll).length : Int), DC.i (0 : Int)]) 0 fun v4 =>
      .ret [DC.b true]
theorem eq_slices_EqualFunc_impl_Def__impl_sameDef (a : List DC) : r_slices_EqualFunc_impl_Def__impl_sameDef a = E_slices_EqualFunc_impl_Def__impl_sameDef a := (Run_eq cfg 68 h_slices_EqualFunc_impl_Def__impl_sameDef a).trans (by kernel_rfl)
end Go.Proofs.YtciandfkncadgaaV
