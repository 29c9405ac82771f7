import Derived.Test.YtjojjfebgfhcmaaGreatDoorMT6
import Derived.Test.YtjojjfebgfhcmaaGreatDoorMT5
/- What the functions do, and that they do (written by a program). -/
namespace Go.Proofs.QV
open Go
set_option linter.unusedVariables false
set_option maxRecDepth 100000
noncomputable def E_laws_toDirSL1 : List DC → Out := fun v1 =>
 if (decide ((gi v1 2) < ((gl v1 0).length : Int))) = true then
 Out.andThenB (if 106 = 106 ∧ 0 ≤ (gi v1 2) ∧ (gi v1 2) < ((gl v1 0).length : Int) then
 (r_laws_toDir [.s ((((gl v1 0).getD (gi v1 2).toNat []).getD 0 d0).ss), .sl ((((gl v1 0).getD (gi v1 2).toNat []).getD 1 d0).ll)]).bindR fun r2 =>
 if 114 = 114 ∧ 0 ≤ (gi v1 2) ∧ (gi v1 2) < ((gl v1 1).length : Int) then
 .norm [.sl (gl v1 0), .sl ((gl v1 1).set ((gi v1 2).toNat) (setRunD ((gl v1 1).getD ((gi v1 2).toNat) []) 0 [DC.s (gs r2 0), DC.sl (gl r2 1)])), .i (gi v1 2)]
 else
 .fail
 else
 .fail) 1 fun v3 =>
 .norm [.sl (gl v3 0), .sl (gl v3 1), .i (IntKind.i64.wrap ((gi v3 2) + (1 : Int)))]
 else
 .ex 0 [.sl (gl v1 1)]
noncomputable def E_laws_toDirS (a : List DC) : Out :=
 if 0 ≤ ((gl a 0).length : Int) ∧ ((gl a 0).length : Int) < (LIM : Int) ∧ ((gl a 0).length : Int) = ((gl a 0).length : Int) ∧ 40 ≤ 1024 ∧ 0 < 2 then
 Out.andThenB (Loop E_laws_toDirSL1 [.sl (gl a 0), .sl (List.replicate ((gl a 0).length : Int).toNat [DC.s [], DC.sl []]), .i (0 : Int)]) 0 fun v4 =>
 .ret [.sl (gl v4 0)]
 else
 .fail
theorem eq_laws_toDirS a : r_laws_toDirS a = E_laws_toDirS a := (Run_eq cfg 30 _ a).trans (by kernel_rfl)
noncomputable def E_spec_DefOkL1 : List DC → Out := fun v17 =>
 if (decide ((gi v17 0) < ((gl v17 5).length : Int))) = true then
 Out.andThenB (if 9 = 9 ∧ 0 ≤ (gi v17 0) ∧ (gi v17 0) < ((gl v17 5).length : Int) then
 (r_spec_NameOk [.s ((((gl v17 5).getD (gi v17 0).toNat []).getD 0 d0).ss)]).bindR fun r18 =>
 if (!(gb r18 0)) = true then
 .ret [.b false]
 else
 .norm [.i (gi v17 0), .i (gi v17 1), .b (gb v17 2), .s (gs v17 3), .s (gs v17 4), .sl (gl v17 5), .sl (gl v17 6), .sl (gl v17 7), .sl (gl v17 8), .sl (gl v17 9), .b (gb v17 10), .sl (gl v17 11)]
 else
 .fail) 1 fun v19 =>
 .norm [.i (IntKind.i64.wrap ((gi v19 0) + (1 : Int))), .i (gi v19 1), .b (gb v19 2), .s (gs v19 3), .s (gs v19 4), .sl (gl v19 5), .sl (gl v19 6), .sl (gl v19 7), .sl (gl v19 8), .sl (gl v19 9), .b (gb v19 10), .sl (gl v19 11)]
 else
 .ex 0 [.i (gi v17 1), .b (gb v17 2), .s (gs v17 3), .s (gs v17 4), .sl (gl v17 5), .sl (gl v17 6), .sl (gl v17 7), .sl (gl v17 8), .sl (gl v17 9), .b (gb v17 10), .sl (gl v17 11)]
noncomputable def E_spec_DefOkL2 : List DC → Out := fun v21 =>
 if (decide ((gi v21 0) < ((gl v21 6).length : Int))) = true then
 Out.andThenB (if 59 = 59 ∧ 0 ≤ (gi v21 0) ∧ (gi v21 0) < ((gl v21 6).length : Int) then
 (r_spec_l13Field [.s ((((gl v21 6).getD (gi v21 0).toNat []).getD 0 d0).ss), .s ((((gl v21 6).getD (gi v21 0).toNat []).getD 1 d0).ss), .sl ((((gl v21 6).getD (gi v21 0).toNat []).getD 2 d0).ll), .s ((((gl v21 6).getD (gi v21 0).toNat []).getD 3 d0).ss), .s ((((gl v21 6).getD (gi v21 0).toNat []).getD 4 d0).ss), .sl ((((gl v21 6).getD (gi v21 0).toNat []).getD 5 d0).ll)]).bindR fun r22 =>
 if (!(gb r22 0)) = true then
 .ret [.b false]
 else
 .norm [.i (gi v21 0), .i (gi v21 1), .b (gb v21 2), .s (gs v21 3), .s (gs v21 4), .sl (gl v21 5), .sl (gl v21 6), .sl (gl v21 7), .sl (gl v21 8), .sl (gl v21 9), .b (gb v21 10), .sl (gl v21 11)]
 else
 .fail) 3 fun v23 =>
 .norm [.i (IntKind.i64.wrap ((gi v23 0) + (1 : Int))), .i (gi v23 1), .b (gb v23 2), .s (gs v23 3), .s (gs v23 4), .sl (gl v23 5), .sl (gl v23 6), .sl (gl v23 7), .sl (gl v23 8), .sl (gl v23 9), .b (gb v23 10), .sl (gl v23 11)]
 else
 .ex 2 [.i (gi v21 1), .b (gb v21 2), .s (gs v21 3), .s (gs v21 4), .sl (gl v21 5), .sl (gl v21 6), .sl (gl v21 7), .sl (gl v21 8), .sl (gl v21 9), .b (gb v21 10), .sl (gl v21 11)]
noncomputable def E_spec_DefOkL3 : List DC → Out := fun v25 =>
 if (decide ((gi v25 0) < ((gl v25 8).length : Int))) = true then
 Out.andThenB (if 62 = 62 ∧ 0 ≤ (gi v25 0) ∧ (gi v25 0) < ((gl v25 8).length : Int) then
 Out.andThen ((r_spec_NameOk [.s ((((gl v25 8).getD (gi v25 0).toNat []).getD 0 d0).ss)]).bindR fun r26 =>
 if (!(gb r26 0)) = true then
 .norm [.i (gi v25 0), .b true, .i (gi v25 1), .b (gb v25 2), .s (gs v25 3), .s (gs v25 4), .sl (gl v25 5), .sl (gl v25 6), .sl (gl v25 7), .sl (gl v25 8), .sl (gl v25 9), .b (gb v25 10), .sl (gl v25 11)]
 else
 (r_spec_Word [.s ((((gl v25 8).getD (gi v25 0).toNat []).getD 0 d0).ss)]).bindR fun r27 =>
 if (gb r27 0) = true then
 .norm [.i (gi v25 0), .b true, .i (gi v25 1), .b (gb v25 2), .s (gs v25 3), .s (gs v25 4), .sl (gl v25 5), .sl (gl v25 6), .sl (gl v25 7), .sl (gl v25 8), .sl (gl v25 9), .b (gb v25 10), .sl (gl v25 11)]
 else
 (r_spec_l13Desc [.s ((((gl v25 8).getD (gi v25 0).toNat []).getD 1 d0).ss)]).bindR fun r28 =>
 if (!(gb r28 0)) = true then
 .norm [.i (gi v25 0), .b true, .i (gi v25 1), .b (gb v25 2), .s (gs v25 3), .s (gs v25 4), .sl (gl v25 5), .sl (gl v25 6), .sl (gl v25 7), .sl (gl v25 8), .sl (gl v25 9), .b (gb v25 10), .sl (gl v25 11)]
 else
 (r_spec_l12Consts [.sl ((((gl v25 8).getD (gi v25 0).toNat []).getD 2 d0).ll)]).bindR fun r29 =>
 .norm [.i (gi v25 0), .b (!(gb r29 0)), .i (gi v25 1), .b (gb v25 2), .s (gs v25 3), .s (gs v25 4), .sl (gl v25 5), .sl (gl v25 6), .sl (gl v25 7), .sl (gl v25 8), .sl (gl v25 9), .b (gb v25 10), .sl (gl v25 11)]) fun v30 =>
 if (gb v30 1) = true then
 .ret [.b false]
 else
 .norm [.i (gi v30 0), .i (gi v30 2), .b (gb v30 3), .s (gs v30 4), .s (gs v30 5), .sl (gl v30 6), .sl (gl v30 7), .sl (gl v30 8), .sl (gl v30 9), .sl (gl v30 10), .b (gb v30 11), .sl (gl v30 12)]
 else
 .fail) 5 fun v31 =>
 .norm [.i (IntKind.i64.wrap ((gi v31 0) + (1 : Int))), .i (gi v31 1), .b (gb v31 2), .s (gs v31 3), .s (gs v31 4), .sl (gl v31 5), .sl (gl v31 6), .sl (gl v31 7), .sl (gl v31 8), .sl (gl v31 9), .b (gb v31 10), .sl (gl v31 11)]
 else
 .ex 4 [.i (gi v25 1), .b (gb v25 2), .s (gs v25 3), .s (gs v25 4), .sl (gl v25 5), .sl (gl v25 6), .sl (gl v25 7), .sl (gl v25 8), .sl (gl v25 9), .b (gb v25 10), .sl (gl v25 11)]
noncomputable def E_spec_DefOkL4 : List DC → Out := fun v33 =>
 if (decide ((gi v33 0) < ((gl v33 9).length : Int))) = true then
 Out.andThenB (Out.andThen (if 64 = 64 ∧ 0 ≤ (gi v33 0) ∧ (gi v33 0) < ((gl v33 9).length : Int) then
 (r_spec_OpWord [.i ((((gl v33 9).getD (gi v33 0).toNat []).getD 0 d0).ii)]).bindR fun r34 =>
 if ((gs r34 0) == ([] : List UInt8)) = true then
 .norm [.i (gi v33 0), .b true, .i (gi v33 1), .b (gb v33 2), .s (gs v33 3), .s (gs v33 4), .sl (gl v33 5), .sl (gl v33 6), .sl (gl v33 7), .sl (gl v33 8), .sl (gl v33 9), .b (gb v33 10), .sl (gl v33 11)]
 else
 if 64 = 64 ∧ 0 ≤ (gi v33 0) ∧ (gi v33 0) < ((gl v33 9).length : Int) then
 (r_spec_NameOk [.s ((((gl v33 9).getD (gi v33 0).toNat []).getD 1 d0).ss)]).bindR fun r35 =>
 .norm [.i (gi v33 0), .b (!(gb r35 0)), .i (gi v33 1), .b (gb v33 2), .s (gs v33 3), .s (gs v33 4), .sl (gl v33 5), .sl (gl v33 6), .sl (gl v33 7), .sl (gl v33 8), .sl (gl v33 9), .b (gb v33 10), .sl (gl v33 11)]
 else
 .fail
 else
 .fail) fun v36 =>
 if (gb v36 1) = true then
 .ret [.b false]
 else
 .norm [.i (gi v36 0), .i (gi v36 2), .b (gb v36 3), .s (gs v36 4), .s (gs v36 5), .sl (gl v36 6), .sl (gl v36 7), .sl (gl v36 8), .sl (gl v36 9), .sl (gl v36 10), .b (gb v36 11), .sl (gl v36 12)]) 7 fun v37 =>
 .norm [.i (IntKind.i64.wrap ((gi v37 0) + (1 : Int))), .i (gi v37 1), .b (gb v37 2), .s (gs v37 3), .s (gs v37 4), .sl (gl v37 5), .sl (gl v37 6), .sl (gl v37 7), .sl (gl v37 8), .sl (gl v37 9), .b (gb v37 10), .sl (gl v37 11)]
 else
 .ex 6 []
noncomputable def E_spec_DefOk (a : List DC) : Out :=
 Out.andThen ((r_spec_l01In [.i (gi a 0), .i (1 : Int), .i (8 : Int)]).bindR fun r1 =>
 if (!(gb r1 0)) = true then
 .norm [.b true, .i (gi a 0), .b (gb a 1), .s (gs a 2), .s (gs a 3), .sl (gl a 4), .sl (gl a 5), .sl (gl a 6), .sl (gl a 7), .sl (gl a 8), .b (gb a 9), .sl (gl a 10)]
 else
 (r_spec_l13Desc [.s (gs a 2)]).bindR fun r2 =>
 if (!(gb r2 0)) = true then
 .norm [.b true, .i (gi a 0), .b (gb a 1), .s (gs a 2), .s (gs a 3), .sl (gl a 4), .sl (gl a 5), .sl (gl a 6), .sl (gl a 7), .sl (gl a 8), .b (gb a 9), .sl (gl a 10)]
 else
 if (gb a 1) = true then
 if (!((gs a 2) == ([] : List UInt8))) = true then
 .norm [.b true, .i (gi a 0), .b (gb a 1), .s (gs a 2), .s (gs a 3), .sl (gl a 4), .sl (gl a 5), .sl (gl a 6), .sl (gl a 7), .sl (gl a 8), .b (gb a 9), .sl (gl a 10)]
 else
 (r_spec_l13Has [.i (gi a 0), .b (gb a 1), .s (gs a 2), .s (gs a 3), .sl (gl a 4), .sl (gl a 5), .sl (gl a 6), .sl (gl a 7), .sl (gl a 8), .b (gb a 9), .sl (gl a 10)]).bindR fun r3 =>
 if (!(gb r3 0)) = true then
 .norm [.b true, .i (gi a 0), .b (gb a 1), .s (gs a 2), .s (gs a 3), .sl (gl a 4), .sl (gl a 5), .sl (gl a 6), .sl (gl a 7), .sl (gl a 8), .b (gb a 9), .sl (gl a 10)]
 else
 (r_spec_l13May [.i (gi a 0), .b (gb a 1), .s (gs a 2), .s (gs a 3), .sl (gl a 4), .sl (gl a 5), .sl (gl a 6), .sl (gl a 7), .sl (gl a 8), .b (gb a 9), .sl (gl a 10)]).bindR fun r4 =>
 if (!(gb r4 0)) = true then
 .norm [.b true, .i (gi a 0), .b (gb a 1), .s (gs a 2), .s (gs a 3), .sl (gl a 4), .sl (gl a 5), .sl (gl a 6), .sl (gl a 7), .sl (gl a 8), .b (gb a 9), .sl (gl a 10)]
 else
 if ((gi a 0) != (8 : Int)) = true then
 (r_spec_NameOk [.s (gs a 3)]).bindR fun r5 =>
 if (!(gb r5 0)) = true then
 .norm [.b true, .i (gi a 0), .b (gb a 1), .s (gs a 2), .s (gs a 3), .sl (gl a 4), .sl (gl a 5), .sl (gl a 6), .sl (gl a 7), .sl (gl a 8), .b (gb a 9), .sl (gl a 10)]
 else
 (r_spec_l13Ins [.sl (gl a 6)]).bindR fun r6 =>
 if (!(gb r6 0)) = true then
 .norm [.b true, .i (gi a 0), .b (gb a 1), .s (gs a 2), .s (gs a 3), .sl (gl a 4), .sl (gl a 5), .sl (gl a 6), .sl (gl a 7), .sl (gl a 8), .b (gb a 9), .sl (gl a 10)]
 else
 (r_spec_l12Consts [.sl (gl a 10)]).bindR fun r7 =>
 .norm [.b (!(gb r7 0)), .i (gi a 0), .b (gb a 1), .s (gs a 2), .s (gs a 3), .sl (gl a 4), .sl (gl a 5), .sl (gl a 6), .sl (gl a 7), .sl (gl a 8), .b (gb a 9), .sl (gl a 10)]
 else
 (r_spec_l13Ins [.sl (gl a 6)]).bindR fun r8 =>
 if (!(gb r8 0)) = true then
 .norm [.b true, .i (gi a 0), .b (gb a 1), .s (gs a 2), .s (gs a 3), .sl (gl a 4), .sl (gl a 5), .sl (gl a 6), .sl (gl a 7), .sl (gl a 8), .b (gb a 9), .sl (gl a 10)]
 else
 (r_spec_l12Consts [.sl (gl a 10)]).bindR fun r9 =>
 .norm [.b (!(gb r9 0)), .i (gi a 0), .b (gb a 1), .s (gs a 2), .s (gs a 3), .sl (gl a 4), .sl (gl a 5), .sl (gl a 6), .sl (gl a 7), .sl (gl a 8), .b (gb a 9), .sl (gl a 10)]
 else
 (r_spec_l13May [.i (gi a 0), .b (gb a 1), .s (gs a 2), .s (gs a 3), .sl (gl a 4), .sl (gl a 5), .sl (gl a 6), .sl (gl a 7), .sl (gl a 8), .b (gb a 9), .sl (gl a 10)]).bindR fun r10 =>
 if (!(gb r10 0)) = true then
 .norm [.b true, .i (gi a 0), .b (gb a 1), .s (gs a 2), .s (gs a 3), .sl (gl a 4), .sl (gl a 5), .sl (gl a 6), .sl (gl a 7), .sl (gl a 8), .b (gb a 9), .sl (gl a 10)]
 else
 if ((gi a 0) != (8 : Int)) = true then
 (r_spec_NameOk [.s (gs a 3)]).bindR fun r11 =>
 if (!(gb r11 0)) = true then
 .norm [.b true, .i (gi a 0), .b (gb a 1), .s (gs a 2), .s (gs a 3), .sl (gl a 4), .sl (gl a 5), .sl (gl a 6), .sl (gl a 7), .sl (gl a 8), .b (gb a 9), .sl (gl a 10)]
 else
 (r_spec_l13Ins [.sl (gl a 6)]).bindR fun r12 =>
 if (!(gb r12 0)) = true then
 .norm [.b true, .i (gi a 0), .b (gb a 1), .s (gs a 2), .s (gs a 3), .sl (gl a 4), .sl (gl a 5), .sl (gl a 6), .sl (gl a 7), .sl (gl a 8), .b (gb a 9), .sl (gl a 10)]
 else
 (r_spec_l12Consts [.sl (gl a 10)]).bindR fun r13 =>
 .norm [.b (!(gb r13 0)), .i (gi a 0), .b (gb a 1), .s (gs a 2), .s (gs a 3), .sl (gl a 4), .sl (gl a 5), .sl (gl a 6), .sl (gl a 7), .sl (gl a 8), .b (gb a 9), .sl (gl a 10)]
 else
 (r_spec_l13Ins [.sl (gl a 6)]).bindR fun r14 =>
 if (!(gb r14 0)) = true then
 .norm [.b true, .i (gi a 0), .b (gb a 1), .s (gs a 2), .s (gs a 3), .sl (gl a 4), .sl (gl a 5), .sl (gl a 6), .sl (gl a 7), .sl (gl a 8), .b (gb a 9), .sl (gl a 10)]
 else
 (r_spec_l12Consts [.sl (gl a 10)]).bindR fun r15 =>
 .norm [.b (!(gb r15 0)), .i (gi a 0), .b (gb a 1), .s (gs a 2), .s (gs a 3), .sl (gl a 4), .sl (gl a 5), .sl (gl a 6), .sl (gl a 7), .sl (gl a 8), .b (gb a 9), .sl (gl a 10)]) fun v16 =>
 if (gb v16 0) = true then
 .ret [.b false]
 else
 Out.andThenB (Loop E_spec_DefOkL1 [.i (0 : Int), .i (gi v16 1), .b (gb v16 2), .s (gs v16 3), .s (gs v16 4), .sl (gl v16 5), .sl (gl v16 6), .sl (gl v16 7), .sl (gl v16 8), .sl (gl v16 9), .b (gb v16 10), .sl (gl v16 11)]) 0 fun v20 =>
 Out.andThenB (Loop E_spec_DefOkL2 [.i (0 : Int), .i (gi v20 0), .b (gb v20 1), .s (gs v20 2), .s (gs v20 3), .sl (gl v20 4), .sl (gl v20 5), .sl (gl v20 6), .sl (gl v20 7), .sl (gl v20 8), .b (gb v20 9), .sl (gl v20 10)]) 2 fun v24 =>
 Out.andThenB (Loop E_spec_DefOkL3 [.i (0 : Int), .i (gi v24 0), .b (gb v24 1), .s (gs v24 2), .s (gs v24 3), .sl (gl v24 4), .sl (gl v24 5), .sl (gl v24 6), .sl (gl v24 7), .sl (gl v24 8), .b (gb v24 9), .sl (gl v24 10)]) 4 fun v32 =>
 Out.andThenB (Loop E_spec_DefOkL4 [.i (0 : Int), .i (gi v32 0), .b (gb v32 1), .s (gs v32 2), .s (gs v32 3), .sl (gl v32 4), .sl (gl v32 5), .sl (gl v32 6), .sl (gl v32 7), .sl (gl v32 8), .b (gb v32 9), .sl (gl v32 10)]) 6 fun v38 =>
 .ret [.b true]
theorem eq_spec_DefOk a : r_spec_DefOk a = E_spec_DefOk a := (Run_eq cfg 15 _ a).trans (by kernel_rfl)
noncomputable def E_spec_EscapedL1 : List DC → Out := fun v3 =>
 if (decide ((gi v3 2) < ((gs v3 0).length : Int))) = true then
 Out.andThenB (if 0 ≤ (gi v3 2) ∧ (gi v3 2) < ((gs v3 0).length : Int) then
 Out.andThenB (Out.andThen (if ((((gs v3 0).getD (gi v3 2).toNat 0).toNat : Int) == (34 : Int)) = true then
 .norm [.s (gs v3 0), .s (gs v3 1), .i (gi v3 2), .i (((gs v3 0).getD (gi v3 2).toNat 0).toNat : Int), .b true]
 else
 .norm [.s (gs v3 0), .s (gs v3 1), .i (gi v3 2), .i (((gs v3 0).getD (gi v3 2).toNat 0).toNat : Int), .b ((((gs v3 0).getD (gi v3 2).toNat 0).toNat : Int) == (92 : Int))]) fun v4 =>
 Out.andThen (if (gb v4 4) = true then
 if (gs v4 1).length + ([92] : List UInt8).length < LIM then
 if 0 ≤ (gi v4 2) ∧ (gi v4 2) ≤ (IntKind.i64.wrap ((gi v4 2) + (1 : Int))) ∧ (IntKind.i64.wrap ((gi v4 2) + (1 : Int))) ≤ ((gs v4 0).length : Int) then
 if ((gs v4 1) ++ ([92] : List UInt8)).length + (((gs v4 0).take (IntKind.i64.wrap ((gi v4 2) + (1 : Int))).toNat).drop (gi v4 2).toNat).length < LIM then
 .norm [.s (gs v4 0), .s (((gs v4 1) ++ ([92] : List UInt8)) ++ (((gs v4 0).take (IntKind.i64.wrap ((gi v4 2) + (1 : Int))).toNat).drop (gi v4 2).toNat)), .i (gi v4 2)]
 else
 .fail
 else
 .fail
 else
 .fail
 else
 Out.andThen (if ((gi v4 3) == (8 : Int)) = true then
 if (gs v4 1).length + ([92, 98] : List UInt8).length < LIM then
 .norm [.s (gs v4 0), .s ((gs v4 1) ++ ([92, 98] : List UInt8)), .i (gi v4 2)]
 else
 .fail
 else
 Out.andThen (if ((gi v4 3) == (9 : Int)) = true then
 if (gs v4 1).length + ([92, 116] : List UInt8).length < LIM then
 .norm [.s (gs v4 0), .s ((gs v4 1) ++ ([92, 116] : List UInt8)), .i (gi v4 2)]
 else
 .fail
 else
 Out.andThen (if ((gi v4 3) == (10 : Int)) = true then
 if (gs v4 1).length + ([92, 110] : List UInt8).length < LIM then
 .norm [.s (gs v4 0), .s ((gs v4 1) ++ ([92, 110] : List UInt8)), .i (gi v4 2)]
 else
 .fail
 else
 Out.andThen (if ((gi v4 3) == (12 : Int)) = true then
 if (gs v4 1).length + ([92, 102] : List UInt8).length < LIM then
 .norm [.s (gs v4 0), .s ((gs v4 1) ++ ([92, 102] : List UInt8)), .i (gi v4 2)]
 else
 .fail
 else
 Out.andThen (if ((gi v4 3) == (13 : Int)) = true then
 if (gs v4 1).length + ([92, 114] : List UInt8).length < LIM then
 .norm [.s (gs v4 0), .s ((gs v4 1) ++ ([92, 114] : List UInt8)), .i (gi v4 2)]
 else
 .fail
 else
 Out.andThen (if (decide ((gi v4 3) < (32 : Int))) = true then
 .norm [.s (gs v4 0), .s (gs v4 1), .i (gi v4 2), .i (gi v4 3), .b true]
 else
 .norm [.s (gs v4 0), .s (gs v4 1), .i (gi v4 2), .i (gi v4 3), .b ((gi v4 3) == (127 : Int))]) fun v5 =>
 Out.andThen (if (gb v5 4) = true then
 if (gs v5 1).length + ([92, 117] : List UInt8).length < LIM then
 (r_spec_l04Hex4 [.i (IntKind.i64.wrap (gi v5 3))]).bindR fun r6 =>
 if ((gs v5 1) ++ ([92, 117] : List UInt8)).length + (gs r6 0).length < LIM then
 .norm [.s (gs v5 0), .s (((gs v5 1) ++ ([92, 117] : List UInt8)) ++ (gs r6 0)), .i (gi v5 2)]
 else
 .fail
 else
 .fail
 else
 if 0 ≤ (gi v5 2) ∧ (gi v5 2) ≤ (IntKind.i64.wrap ((gi v5 2) + (1 : Int))) ∧ (IntKind.i64.wrap ((gi v5 2) + (1 : Int))) ≤ ((gs v5 0).length : Int) then
 if (gs v5 1).length + (((gs v5 0).take (IntKind.i64.wrap ((gi v5 2) + (1 : Int))).toNat).drop (gi v5 2).toNat).length < LIM then
 .norm [.s (gs v5 0), .s ((gs v5 1) ++ (((gs v5 0).take (IntKind.i64.wrap ((gi v5 2) + (1 : Int))).toNat).drop (gi v5 2).toNat)), .i (gi v5 2)]
 else
 .fail
 else
 .fail) fun v7 =>
 .norm [.s (gs v7 0), .s (gs v7 1), .i (gi v7 2)]) fun v8 =>
 .norm [.s (gs v8 0), .s (gs v8 1), .i (gi v8 2)]) fun v9 =>
 .norm [.s (gs v9 0), .s (gs v9 1), .i (gi v9 2)]) fun v10 =>
 .norm [.s (gs v10 0), .s (gs v10 1), .i (gi v10 2)]) fun v11 =>
 .norm [.s (gs v11 0), .s (gs v11 1), .i (gi v11 2)]) fun v12 =>
 .norm [.s (gs v12 0), .s (gs v12 1), .i (gi v12 2)]) fun v13 =>
 .norm [.s (gs v13 0), .s (gs v13 1), .i (gi v13 2)]) 2 fun v14 =>
 .norm [.s (gs v14 0), .s (gs v14 1), .i (gi v14 2)]
 else
 .fail) 1 fun v15 =>
 .norm [.s (gs v15 0), .s (gs v15 1), .i (IntKind.i64.wrap ((gi v15 2) + (1 : Int)))]
 else
 .ex 0 [.s (gs v3 1)]
noncomputable def E_spec_Escaped (a : List DC) : Out :=
 Out.andThen ((r_spec_TextOk [.s (gs a 0)]).bindR fun r1 =>
 if (!(gb r1 0)) = true then
 .norm [.s (gs a 0), .b true]
 else
 .norm [.s (gs a 0), .b (decide (((gs a 0).length : Int) > (200 : Int)))]) fun v2 =>
 if (gb v2 1) = true then
 .ret [.s ([] : List UInt8)]
 else
 Out.andThenB (Loop E_spec_EscapedL1 [.s (gs v2 0), .s ([34] : List UInt8), .i (0 : Int)]) 0 fun v16 =>
 if (gs v16 0).length + ([34] : List UInt8).length < LIM then
 .ret [.s ((gs v16 0) ++ ([34] : List UInt8))]
 else
 .fail
theorem eq_spec_Escaped a : r_spec_Escaped a = E_spec_Escaped a := (Run_eq cfg 16 _ a).trans (by kernel_rfl)
noncomputable def E_spec_l13Word (a : List DC) : Out :=
 if 9 = 9 ∧ 0 ≤ (gi a 0) ∧ (gi a 0) < ([[DC.s ([] : List UInt8)], [DC.s ([115, 99, 97, 108, 97, 114] : List UInt8)], [DC.s ([116, 121, 112, 101] : List UInt8)], [DC.s ([105, 110, 116, 101, 114, 102, 97, 99, 101] : List UInt8)], [DC.s ([117, 110, 105, 111, 110] : List UInt8)], [DC.s ([101, 110, 117, 109] : List UInt8)], [DC.s ([105, 110, 112, 117, 116] : List UInt8)], [DC.s ([100, 105, 114, 101, 99, 116, 105, 118, 101] : List UInt8)], [DC.s ([115, 99, 104, 101, 109, 97] : List UInt8)]].length : Int) then
 .ret [.s ((([[DC.s ([] : List UInt8)], [DC.s ([115, 99, 97, 108, 97, 114] : List UInt8)], [DC.s ([116, 121, 112, 101] : List UInt8)], [DC.s ([105, 110, 116, 101, 114, 102, 97, 99, 101] : List UInt8)], [DC.s ([117, 110, 105, 111, 110] : List UInt8)], [DC.s ([101, 110, 117, 109] : List UInt8)], [DC.s ([105, 110, 112, 117, 116] : List UInt8)], [DC.s ([100, 105, 114, 101, 99, 116, 105, 118, 101] : List UInt8)], [DC.s ([115, 99, 104, 101, 109, 97] : List UInt8)]].getD (gi a 0).toNat []).getD 0 d0).ss)]
 else
 .fail
theorem eq_spec_l13Word a : r_spec_l13Word a = E_spec_l13Word a := (Run_eq cfg 17 _ a).trans (by kernel_rfl)
noncomputable def E_spec_l13SayInsL1 : List DC → Out := fun v1 =>
 if (decide ((gi v1 2) < ((gl v1 1).length : Int))) = true then
 Out.andThenB (Out.andThen (if ((gi v1 2) == (0 : Int)) = true then
 if (gl v1 0).length + [[DC.i (40 : Int)]].length < LIM then
 .norm [.sl ((gl v1 0) ++ [[DC.i (40 : Int)]]), .sl (gl v1 1), .i (gi v1 2)]
 else
 .fail
 else
 if (gl v1 0).length + [[DC.i (44 : Int)], [DC.i (32 : Int)]].length < LIM then
 .norm [.sl ((gl v1 0) ++ [[DC.i (44 : Int)], [DC.i (32 : Int)]]), .sl (gl v1 1), .i (gi v1 2)]
 else
 .fail) fun v2 =>
 if 70 = 70 ∧ 0 ≤ (gi v2 2) ∧ (gi v2 2) < ((gl v2 1).length : Int) then
 (r_spec_l13SayIn [.sl (gl v2 0), .s ((((gl v2 1).getD (gi v2 2).toNat []).getD 0 d0).ss), .s ((((gl v2 1).getD (gi v2 2).toNat []).getD 1 d0).ss), .s ((((gl v2 1).getD (gi v2 2).toNat []).getD 2 d0).ss), .s ((((gl v2 1).getD (gi v2 2).toNat []).getD 3 d0).ss), .b ((((gl v2 1).getD (gi v2 2).toNat []).getD 4 d0).bb), .i ((((gl v2 1).getD (gi v2 2).toNat []).getD 5 d0).ii), .s ((((gl v2 1).getD (gi v2 2).toNat []).getD 6 d0).ss), .sl ((((gl v2 1).getD (gi v2 2).toNat []).getD 7 d0).ll), .sl ((((gl v2 1).getD (gi v2 2).toNat []).getD 8 d0).ll), .sl ((((gl v2 1).getD (gi v2 2).toNat []).getD 9 d0).ll)]).bindR fun r3 =>
 .norm [.sl (gl r3 0), .sl (gl v2 1), .i (gi v2 2)]
 else
 .fail) 1 fun v4 =>
 .norm [.sl (gl v4 0), .sl (gl v4 1), .i (IntKind.i64.wrap ((gi v4 2) + (1 : Int)))]
 else
 .ex 0 [.sl (gl v1 0), .sl (gl v1 1)]
noncomputable def E_spec_l13SayIns (a : List DC) : Out :=
 Out.andThenB (Loop E_spec_l13SayInsL1 [.sl (gl a 0), .sl (gl a 1), .i (0 : Int)]) 0 fun v5 =>
 Out.andThen (if (decide (((gl v5 1).length : Int) > (0 : Int))) = true then
 if (gl v5 0).length + [[DC.i (41 : Int)]].length < LIM then
 .norm [.sl ((gl v5 0) ++ [[DC.i (41 : Int)]])]
 else
 .fail
 else
 .norm [.sl (gl v5 0)]) fun v6 =>
 .ret [.sl (gl v6 0)]
theorem eq_spec_l13SayIns a : r_spec_l13SayIns a = E_spec_l13SayIns a := (Run_eq cfg 18 _ a).trans (by kernel_rfl)
noncomputable def E_spec_l13NamesL1 : List DC → Out := fun v1 =>
 if (decide ((gi v1 3) < ((gl v1 1).length : Int))) = true then
 Out.andThenB (Out.andThen (if (decide ((gi v1 3) > (0 : Int))) = true then
 if (gl v1 0).length + (bytesRow (gs v1 2)).length < LIM then
 .norm [.sl ((gl v1 0) ++ (bytesRow (gs v1 2))), .sl (gl v1 1), .s (gs v1 2), .i (gi v1 3)]
 else
 .fail
 else
 .norm [.sl (gl v1 0), .sl (gl v1 1), .s (gs v1 2), .i (gi v1 3)]) fun v2 =>
 if 9 = 9 ∧ 0 ≤ (gi v2 3) ∧ (gi v2 3) < ((gl v2 1).length : Int) then
 if (gl v2 0).length + (bytesRow ((((gl v2 1).getD (gi v2 3).toNat []).getD 0 d0).ss)).length < LIM then
 .norm [.sl ((gl v2 0) ++ (bytesRow ((((gl v2 1).getD (gi v2 3).toNat []).getD 0 d0).ss))), .sl (gl v2 1), .s (gs v2 2), .i (gi v2 3)]
 else
 .fail
 else
 .fail) 1 fun v3 =>
 .norm [.sl (gl v3 0), .sl (gl v3 1), .s (gs v3 2), .i (IntKind.i64.wrap ((gi v3 3) + (1 : Int)))]
 else
 .ex 0 [.sl (gl v1 0)]
noncomputable def E_spec_l13Names (a : List DC) : Out :=
 Out.andThenB (Loop E_spec_l13NamesL1 [.sl (gl a 0), .sl (gl a 1), .s (gs a 2), .i (0 : Int)]) 0 fun v4 =>
 .ret [.sl (gl v4 0)]
theorem eq_spec_l13Names a : r_spec_l13Names a = E_spec_l13Names a := (Run_eq cfg 19 _ a).trans (by kernel_rfl)
noncomputable def E_spec_l10SayDirsL1 : List DC → Out := fun v1 =>
 if (decide ((gi v1 2) < ((gl v1 1).length : Int))) = true then
 Out.andThenB (if (gl v1 0).length + [[DC.i (32 : Int)], [DC.i (64 : Int)]].length < LIM then
 if 114 = 114 ∧ 0 ≤ (gi v1 2) ∧ (gi v1 2) < ((gl v1 1).length : Int) then
 if ((gl v1 0) ++ [[DC.i (32 : Int)], [DC.i (64 : Int)]]).length + (bytesRow ((((gl v1 1).getD (gi v1 2).toNat []).getD 0 d0).ss)).length < LIM then
 if 114 = 114 ∧ 0 ≤ (gi v1 2) ∧ (gi v1 2) < ((gl v1 1).length : Int) then
 (r_spec_l10Say [.sl (((gl v1 0) ++ [[DC.i (32 : Int)], [DC.i (64 : Int)]]) ++ (bytesRow ((((gl v1 1).getD (gi v1 2).toNat []).getD 0 d0).ss))), .sl ((((gl v1 1).getD (gi v1 2).toNat []).getD 1 d0).ll)]).bindR fun r2 =>
 .norm [.sl (gl r2 0), .sl (gl v1 1), .i (gi v1 2)]
 else
 .fail
 else
 .fail
 else
 .fail
 else
 .fail) 1 fun v3 =>
 .norm [.sl (gl v3 0), .sl (gl v3 1), .i (IntKind.i64.wrap ((gi v3 2) + (1 : Int)))]
 else
 .ex 0 [.sl (gl v1 0)]
noncomputable def E_spec_l10SayDirs (a : List DC) : Out :=
 Out.andThenB (Loop E_spec_l10SayDirsL1 [.sl (gl a 0), .sl (gl a 1), .i (0 : Int)]) 0 fun v4 =>
 .ret [.sl (gl v4 0)]
theorem eq_spec_l10SayDirs a : r_spec_l10SayDirs a = E_spec_l10SayDirs a := (Run_eq cfg 20 _ a).trans (by kernel_rfl)
noncomputable def E_spec_l13SayField (a : List DC) : Out :=
 (r_spec_l13SayDesc [.sl (gl a 0), .s (gs a 2)]).bindR fun r1 =>
 if (gl r1 0).length + (bytesRow (gs a 1)).length < LIM then
 (r_spec_l13SayIns [.sl ((gl r1 0) ++ (bytesRow (gs a 1))), .sl (gl a 3)]).bindR fun r2 =>
 if (gl r2 0).length + [[DC.i (58 : Int)], [DC.i (32 : Int)]].length < LIM then
 (r_spec_TypeText [.s (gs a 4), .s (gs a 5)]).bindR fun r3 =>
 if ((gl r2 0) ++ [[DC.i (58 : Int)], [DC.i (32 : Int)]]).length + (bytesRow (gs r3 0)).length < LIM then
 (r_spec_l10SayDirs [.sl (((gl r2 0) ++ [[DC.i (58 : Int)], [DC.i (32 : Int)]]) ++ (bytesRow (gs r3 0))), .sl (gl a 6)]).bindR fun r4 =>
 if (gl r4 0).length + [[DC.i (10 : Int)]].length < LIM then
 .ret [.sl ((gl r4 0) ++ [[DC.i (10 : Int)]])]
 else
 .fail
 else
 .fail
 else
 .fail
 else
 .fail
theorem eq_spec_l13SayField a : r_spec_l13SayField a = E_spec_l13SayField a := (Run_eq cfg 21 _ a).trans (by kernel_rfl)
noncomputable def E_spec_l13SayDesc (a : List DC) : Out :=
 Out.andThen (if (!((gs a 1) == ([] : List UInt8))) = true then
 if (gl a 0).length + [[DC.i (32 : Int)], [DC.i (32 : Int)]].length < LIM then
 (r_spec_Escaped [.s (gs a 1)]).bindR fun r1 =>
 if ((gl a 0) ++ [[DC.i (32 : Int)], [DC.i (32 : Int)]]).length + (bytesRow (gs r1 0)).length < LIM then
 if (((gl a 0) ++ [[DC.i (32 : Int)], [DC.i (32 : Int)]]) ++ (bytesRow (gs r1 0))).length + [[DC.i (10 : Int)]].length < LIM then
 .norm [.sl ((((gl a 0) ++ [[DC.i (32 : Int)], [DC.i (32 : Int)]]) ++ (bytesRow (gs r1 0))) ++ [[DC.i (10 : Int)]])]
 else
 .fail
 else
 .fail
 else
 .fail
 else
 .norm [.sl (gl a 0)]) fun v2 =>
 if (gl v2 0).length + [[DC.i (32 : Int)], [DC.i (32 : Int)]].length < LIM then
 .ret [.sl ((gl v2 0) ++ [[DC.i (32 : Int)], [DC.i (32 : Int)]])]
 else
 .fail
theorem eq_spec_l13SayDesc a : r_spec_l13SayDesc a = E_spec_l13SayDesc a := (Run_eq cfg 22 _ a).trans (by kernel_rfl)
noncomputable def E_spec_OpWord (a : List DC) : Out :=
 Out.andThenB (if ((gi a 0) == (1 : Int)) = true then
 .ret [.s ([113, 117, 101, 114, 121] : List UInt8)]
 else
 if ((gi a 0) == (2 : Int)) = true then
 .ret [.s ([109, 117, 116, 97, 116, 105, 111, 110] : List UInt8)]
 else
 if ((gi a 0) == (3 : Int)) = true then
 .ret [.s ([115, 117, 98, 115, 99, 114, 105, 112, 116, 105, 111, 110] : List UInt8)]
 else
 .norm []) 0 fun v1 =>
 .ret [.s ([] : List UInt8)]
theorem eq_spec_OpWord a : r_spec_OpWord a = E_spec_OpWord a := (Run_eq cfg 23 _ a).trans (by kernel_rfl)
noncomputable def E_spec_l13SayIn (a : List DC) : Out :=
 Out.andThen (if (!((gs a 2) == ([] : List UInt8))) = true then
 (r_spec_Escaped [.s (gs a 2)]).bindR fun r1 =>
 if (gl a 0).length + (bytesRow (gs r1 0)).length < LIM then
 if ((gl a 0) ++ (bytesRow (gs r1 0))).length + [[DC.i (32 : Int)]].length < LIM then
 .norm [.sl (((gl a 0) ++ (bytesRow (gs r1 0))) ++ [[DC.i (32 : Int)]]), .s (gs a 1), .s (gs a 2), .s (gs a 3), .s (gs a 4), .b (gb a 5), .i (gi a 6), .s (gs a 7), .sl (gl a 8), .sl (gl a 9), .sl (gl a 10)]
 else
 .fail
 else
 .fail
 else
 .norm [.sl (gl a 0), .s (gs a 1), .s (gs a 2), .s (gs a 3), .s (gs a 4), .b (gb a 5), .i (gi a 6), .s (gs a 7), .sl (gl a 8), .sl (gl a 9), .sl (gl a 10)]) fun v2 =>
 if (gl v2 0).length + (bytesRow (gs v2 1)).length < LIM then
 if ((gl v2 0) ++ (bytesRow (gs v2 1))).length + [[DC.i (58 : Int)], [DC.i (32 : Int)]].length < LIM then
 (r_spec_TypeText [.s (gs v2 3), .s (gs v2 4)]).bindR fun r3 =>
 if (((gl v2 0) ++ (bytesRow (gs v2 1))) ++ [[DC.i (58 : Int)], [DC.i (32 : Int)]]).length + (bytesRow (gs r3 0)).length < LIM then
 Out.andThen (if (gb v2 5) = true then
 if ((((gl v2 0) ++ (bytesRow (gs v2 1))) ++ [[DC.i (58 : Int)], [DC.i (32 : Int)]]) ++ (bytesRow (gs r3 0))).length + (bytesRow ([32, 61, 32] : List UInt8)).length < LIM then
 (r_spec_l07Say [.sl (((((gl v2 0) ++ (bytesRow (gs v2 1))) ++ [[DC.i (58 : Int)], [DC.i (32 : Int)]]) ++ (bytesRow (gs r3 0))) ++ (bytesRow ([32, 61, 32] : List UInt8))), .i (gi v2 6), .s (gs v2 7), .sl (gl v2 8), .sl (gl v2 9)]).bindR fun r4 =>
 .norm [.sl (gl r4 0), .s (gs v2 1), .s (gs v2 2), .s (gs v2 3), .s (gs v2 4), .b (gb v2 5), .i (gi v2 6), .s (gs v2 7), .sl (gl v2 8), .sl (gl v2 9), .sl (gl v2 10)]
 else
 .fail
 else
 .norm [.sl ((((gl v2 0) ++ (bytesRow (gs v2 1))) ++ [[DC.i (58 : Int)], [DC.i (32 : Int)]]) ++ (bytesRow (gs r3 0))), .s (gs v2 1), .s (gs v2 2), .s (gs v2 3), .s (gs v2 4), .b (gb v2 5), .i (gi v2 6), .s (gs v2 7), .sl (gl v2 8), .sl (gl v2 9), .sl (gl v2 10)]) fun v5 =>
 (r_spec_l10SayDirs [.sl (gl v5 0), .sl (gl v5 10)]).bindR fun r6 =>
 .ret [.sl (gl r6 0)]
 else
 .fail
 else
 .fail
 else
 .fail
theorem eq_spec_l13SayIn a : r_spec_l13SayIn a = E_spec_l13SayIn a := (Run_eq cfg 24 _ a).trans (by kernel_rfl)
noncomputable def E_impl_DefOk (a : List DC) : Out :=
 Out.andThen ((r_impl_in [.i (gi a 0), .i (1 : Int), .i (8 : Int)]).bindR fun r1 =>
 if (!(gb r1 0)) = true then
 .norm [.b true, .i (gi a 0), .b (gb a 1), .s (gs a 2), .s (gs a 3), .sl (gl a 4), .sl (gl a 5), .sl (gl a 6), .sl (gl a 7), .sl (gl a 8), .b (gb a 9), .sl (gl a 10)]
 else
 (r_impl_descOk [.s (gs a 2)]).bindR fun r2 =>
 if (!(gb r2 0)) = true then
 .norm [.b true, .i (gi a 0), .b (gb a 1), .s (gs a 2), .s (gs a 3), .sl (gl a 4), .sl (gl a 5), .sl (gl a 6), .sl (gl a 7), .sl (gl a 8), .b (gb a 9), .sl (gl a 10)]
 else
 if (gb a 1) = true then
 if (!((gs a 2) == ([] : List UInt8))) = true then
 .norm [.b true, .i (gi a 0), .b (gb a 1), .s (gs a 2), .s (gs a 3), .sl (gl a 4), .sl (gl a 5), .sl (gl a 6), .sl (gl a 7), .sl (gl a 8), .b (gb a 9), .sl (gl a 10)]
 else
 (r_impl_something [.i (gi a 0), .b (gb a 1), .s (gs a 2), .s (gs a 3), .sl (gl a 4), .sl (gl a 5), .sl (gl a 6), .sl (gl a 7), .sl (gl a 8), .b (gb a 9), .sl (gl a 10)]).bindR fun r3 =>
 if (!(gb r3 0)) = true then
 .norm [.b true, .i (gi a 0), .b (gb a 1), .s (gs a 2), .s (gs a 3), .sl (gl a 4), .sl (gl a 5), .sl (gl a 6), .sl (gl a 7), .sl (gl a 8), .b (gb a 9), .sl (gl a 10)]
 else
 (r_impl_partsOk [.i (gi a 0), .b (gb a 1), .s (gs a 2), .s (gs a 3), .sl (gl a 4), .sl (gl a 5), .sl (gl a 6), .sl (gl a 7), .sl (gl a 8), .b (gb a 9), .sl (gl a 10)]).bindR fun r4 =>
 if (!(gb r4 0)) = true then
 .norm [.b true, .i (gi a 0), .b (gb a 1), .s (gs a 2), .s (gs a 3), .sl (gl a 4), .sl (gl a 5), .sl (gl a 6), .sl (gl a 7), .sl (gl a 8), .b (gb a 9), .sl (gl a 10)]
 else
 (r_impl_belongs [.i (gi a 0), .b (gb a 1), .s (gs a 2), .s (gs a 3), .sl (gl a 4), .sl (gl a 5), .sl (gl a 6), .sl (gl a 7), .sl (gl a 8), .b (gb a 9), .sl (gl a 10)]).bindR fun r5 =>
 .norm [.b (!(gb r5 0)), .i (gi a 0), .b (gb a 1), .s (gs a 2), .s (gs a 3), .sl (gl a 4), .sl (gl a 5), .sl (gl a 6), .sl (gl a 7), .sl (gl a 8), .b (gb a 9), .sl (gl a 10)]
 else
 (r_impl_partsOk [.i (gi a 0), .b (gb a 1), .s (gs a 2), .s (gs a 3), .sl (gl a 4), .sl (gl a 5), .sl (gl a 6), .sl (gl a 7), .sl (gl a 8), .b (gb a 9), .sl (gl a 10)]).bindR fun r6 =>
 if (!(gb r6 0)) = true then
 .norm [.b true, .i (gi a 0), .b (gb a 1), .s (gs a 2), .s (gs a 3), .sl (gl a 4), .sl (gl a 5), .sl (gl a 6), .sl (gl a 7), .sl (gl a 8), .b (gb a 9), .sl (gl a 10)]
 else
 (r_impl_belongs [.i (gi a 0), .b (gb a 1), .s (gs a 2), .s (gs a 3), .sl (gl a 4), .sl (gl a 5), .sl (gl a 6), .sl (gl a 7), .sl (gl a 8), .b (gb a 9), .sl (gl a 10)]).bindR fun r7 =>
 .norm [.b (!(gb r7 0)), .i (gi a 0), .b (gb a 1), .s (gs a 2), .s (gs a 3), .sl (gl a 4), .sl (gl a 5), .sl (gl a 6), .sl (gl a 7), .sl (gl a 8), .b (gb a 9), .sl (gl a 10)]) fun v8 =>
 if (gb v8 0) = true then
 .ret [.b false]
 else
 Out.andThenB (if ((gi v8 1) == (7 : Int)) = true then
 Out.andThen ((r_impl_NameOk [.s (gs v8 4)]).bindR fun r9 =>
 if (gb r9 0) = true then
 if (!(gb v8 2)) = true then
 if (decide (((gl v8 5).length : Int) > (0 : Int))) = true then
 (r_slices_ContainsFunc_string__impl_DefOk_1 [.sl (gl v8 5)]).bindR fun r10 =>
 .norm [.b (!(gb r10 0))]
 else
 .norm [.b false]
 else
 .norm [.b false]
 else
 .norm [.b false]) fun v11 =>
 .ret [.b (gb v11 0)]
 else
 if ((gi v8 1) == (8 : Int)) = true then
 Out.andThen (if ((gs v8 4) == ([] : List UInt8)) = true then
 if (gb v8 2) = true then
 .norm [.b true]
 else
 .norm [.b (decide (((gl v8 9).length : Int) > (0 : Int)))]
 else
 .norm [.b false]) fun v12 =>
 .ret [.b (gb v12 0)]
 else
 .norm [.i (gi v8 1), .b (gb v8 2), .s (gs v8 3), .s (gs v8 4), .sl (gl v8 5), .sl (gl v8 6), .sl (gl v8 7), .sl (gl v8 8), .sl (gl v8 9), .b (gb v8 10), .sl (gl v8 11)]) 0 fun v13 =>
 (r_impl_NameOk [.s (gs v13 3)]).bindR fun r14 =>
 .ret [.b (gb r14 0)]
theorem eq_impl_DefOk a : r_impl_DefOk a = E_impl_DefOk a := (Run_eq cfg 31 _ a).trans (by kernel_rfl)
noncomputable def E_impl_descLine (a : List DC) : Out :=
 if ((gs a 1) == ([] : List UInt8)) = true then
 .ret [.s ([] : List UInt8)]
 else
 (r_impl_Escaped [.s (gs a 1)]).bindR fun r1 =>
 if (gs a 0).length + (gs r1 0).length < LIM then
 if ((gs a 0) ++ (gs r1 0)).length + ([10] : List UInt8).length < LIM then
 .ret [.s (((gs a 0) ++ (gs r1 0)) ++ ([10] : List UInt8))]
 else
 .fail
 else
 .fail
theorem eq_impl_descLine a : r_impl_descLine a = E_impl_descLine a := (Run_eq cfg 32 _ a).trans (by kernel_rfl)
noncomputable def E_impl_defWords (a : List DC) : Out :=
 .ret [.sl [[DC.s ([] : List UInt8)], [DC.s ([115, 99, 97, 108, 97, 114] : List UInt8)], [DC.s ([116, 121, 112, 101] : List UInt8)], [DC.s ([105, 110, 116, 101, 114, 102, 97, 99, 101] : List UInt8)], [DC.s ([117, 110, 105, 111, 110] : List UInt8)], [DC.s ([101, 110, 117, 109] : List UInt8)], [DC.s ([105, 110, 112, 117, 116] : List UInt8)], [DC.s ([100, 105, 114, 101, 99, 116, 105, 118, 101] : List UInt8)], [DC.s ([115, 99, 104, 101, 109, 97] : List UInt8)]]]
theorem eq_impl_defWords a : r_impl_defWords a = E_impl_defWords a := (Run_eq cfg 33 _ a).trans (by kernel_rfl)
noncomputable def E_impl_insTextL1 : List DC → Out := fun v1 =>
 if (decide ((gi v1 3) < (gi v1 2))) = true then
 Out.andThenB (if 70 = 70 ∧ 0 ≤ (gi v1 3) ∧ (gi v1 3) < ((gl v1 1).length : Int) then
 (r_impl_InText [.s ((((gl v1 1).getD (gi v1 3).toNat []).getD 0 d0).ss), .s ((((gl v1 1).getD (gi v1 3).toNat []).getD 1 d0).ss), .s ((((gl v1 1).getD (gi v1 3).toNat []).getD 2 d0).ss), .s ((((gl v1 1).getD (gi v1 3).toNat []).getD 3 d0).ss), .b ((((gl v1 1).getD (gi v1 3).toNat []).getD 4 d0).bb), .i ((((gl v1 1).getD (gi v1 3).toNat []).getD 5 d0).ii), .s ((((gl v1 1).getD (gi v1 3).toNat []).getD 6 d0).ss), .sl ((((gl v1 1).getD (gi v1 3).toNat []).getD 7 d0).ll), .sl ((((gl v1 1).getD (gi v1 3).toNat []).getD 8 d0).ll), .sl ((((gl v1 1).getD (gi v1 3).toNat []).getD 9 d0).ll)]).bindR fun r2 =>
 if (gl v1 0).length + [[DC.s (gs r2 0)]].length < LIM then
 .norm [.sl ((gl v1 0) ++ [[DC.s (gs r2 0)]]), .sl (gl v1 1), .i (gi v1 2), .i (gi v1 3)]
 else
 .fail
 else
 .fail) 1 fun v3 =>
 .norm [.sl (gl v3 0), .sl (gl v3 1), .i (gi v3 2), .i (IntKind.i64.wrap ((gi v3 3) + (1 : Int)))]
 else
 .ex 0 [.sl (gl v1 0)]
noncomputable def E_impl_insText (a : List DC) : Out :=
 if (((gl a 0).length : Int) == (0 : Int)) = true then
 .ret [.s ([] : List UInt8)]
 else
 Out.andThenB (Loop E_impl_insTextL1 [.sl [], .sl (gl a 0), .i ((gl a 0).length : Int), .i (0 : Int)]) 0 fun v4 =>
 (r_strings_Join [.sl (gl v4 0), .s ([44, 32] : List UInt8)]).bindR fun r5 =>
 if ([40] : List UInt8).length + (gs r5 0).length < LIM then
 if (([40] : List UInt8) ++ (gs r5 0)).length + ([41] : List UInt8).length < LIM then
 .ret [.s ((([40] : List UInt8) ++ (gs r5 0)) ++ ([41] : List UInt8))]
 else
 .fail
 else
 .fail
theorem eq_impl_insText a : r_impl_insText a = E_impl_insText a := (Run_eq cfg 34 _ a).trans (by kernel_rfl)
noncomputable def E_strings_Join (a : List DC) : Out := match primW 9 qJoin h_strings_Join a with | some r => .ret r | none => .fail
theorem eq_strings_Join a : r_strings_Join a = E_strings_Join a := (Run_eq cfg 35 h_strings_Join a).trans (by kernel_rfl)
noncomputable def E_impl_DirsTextL1 : List DC → Out := fun v2 =>
 if (decide ((gi v2 3) < (gi v2 2))) = true then
 Out.andThenB (if 114 = 114 ∧ 0 ≤ (gi v2 3) ∧ (gi v2 3) < ((gl v2 1).length : Int) then
 if ([32, 64] : List UInt8).length + ((((gl v2 1).getD (gi v2 3).toNat []).getD 0 d0).ss).length < LIM then
 (r_impl_ArgsText [.sl ((((gl v2 1).getD (gi v2 3).toNat []).getD 1 d0).ll)]).bindR fun r3 =>
 if (([32, 64] : List UInt8) ++ ((((gl v2 1).getD (gi v2 3).toNat []).getD 0 d0).ss)).length + (gs r3 0).length < LIM then
 if (gs v2 0).length + ((([32, 64] : List UInt8) ++ ((((gl v2 1).getD (gi v2 3).toNat []).getD 0 d0).ss)) ++ (gs r3 0)).length < LIM then
 .norm [.s ((gs v2 0) ++ ((([32, 64] : List UInt8) ++ ((((gl v2 1).getD (gi v2 3).toNat []).getD 0 d0).ss)) ++ (gs r3 0))), .sl (gl v2 1), .i (gi v2 2), .i (gi v2 3)]
 else
 .fail
 else
 .fail
 else
 .fail
 else
 .fail) 1 fun v4 =>
 .norm [.s (gs v4 0), .sl (gl v4 1), .i (gi v4 2), .i (IntKind.i64.wrap ((gi v4 3) + (1 : Int)))]
 else
 .ex 0 [.s (gs v2 0)]
noncomputable def E_impl_DirsText (a : List DC) : Out :=
 (r_impl_DirsOk [.sl (gl a 0)]).bindR fun r1 =>
 if (!(gb r1 0)) = true then
 .ret [.s ([] : List UInt8)]
 else
 Out.andThenB (Loop E_impl_DirsTextL1 [.s ([] : List UInt8), .sl (gl a 0), .i ((gl a 0).length : Int), .i (0 : Int)]) 0 fun v5 =>
 .ret [.s (gs v5 0)]
theorem eq_impl_DirsText a : r_impl_DirsText a = E_impl_DirsText a := (Run_eq cfg 36 _ a).trans (by kernel_rfl)
noncomputable def E_impl_blockLinesL1 : List DC → Out := fun v1 =>
 if (decide ((gi v1 3) < (gi v1 2))) = true then
 Out.andThenB (if 59 = 59 ∧ 0 ≤ (gi v1 3) ∧ (gi v1 3) < ((gl v1 1).length : Int) then
 (r_impl_FieldText [.s ((((gl v1 1).getD (gi v1 3).toNat []).getD 0 d0).ss), .s ((((gl v1 1).getD (gi v1 3).toNat []).getD 1 d0).ss), .sl ((((gl v1 1).getD (gi v1 3).toNat []).getD 2 d0).ll), .s ((((gl v1 1).getD (gi v1 3).toNat []).getD 3 d0).ss), .s ((((gl v1 1).getD (gi v1 3).toNat []).getD 4 d0).ss), .sl ((((gl v1 1).getD (gi v1 3).toNat []).getD 5 d0).ll)]).bindR fun r2 =>
 if (gs v1 0).length + (gs r2 0).length < LIM then
 .norm [.s ((gs v1 0) ++ (gs r2 0)), .sl (gl v1 1), .i (gi v1 2), .i (gi v1 3), .i (gi v1 4), .b (gb v1 5), .s (gs v1 6), .s (gs v1 7), .sl (gl v1 8), .sl (gl v1 9), .sl (gl v1 10), .sl (gl v1 11), .sl (gl v1 12), .b (gb v1 13), .sl (gl v1 14)]
 else
 .fail
 else
 .fail) 1 fun v3 =>
 .norm [.s (gs v3 0), .sl (gl v3 1), .i (gi v3 2), .i (IntKind.i64.wrap ((gi v3 3) + (1 : Int))), .i (gi v3 4), .b (gb v3 5), .s (gs v3 6), .s (gs v3 7), .sl (gl v3 8), .sl (gl v3 9), .sl (gl v3 10), .sl (gl v3 11), .sl (gl v3 12), .b (gb v3 13), .sl (gl v3 14)]
 else
 .ex 0 [.s (gs v1 0), .i (gi v1 4), .b (gb v1 5), .s (gs v1 6), .s (gs v1 7), .sl (gl v1 8), .sl (gl v1 9), .sl (gl v1 10), .sl (gl v1 11), .sl (gl v1 12), .b (gb v1 13), .sl (gl v1 14)]
noncomputable def E_impl_blockLinesL2 : List DC → Out := fun v5 =>
 if (decide ((gi v5 3) < (gi v5 2))) = true then
 Out.andThenB (if 62 = 62 ∧ 0 ≤ (gi v5 3) ∧ (gi v5 3) < ((gl v5 1).length : Int) then
 (r_impl_descLine [.s ([32, 32] : List UInt8), .s ((((gl v5 1).getD (gi v5 3).toNat []).getD 1 d0).ss)]).bindR fun r6 =>
 if (gs r6 0).length + ([32, 32] : List UInt8).length < LIM then
 if ((gs r6 0) ++ ([32, 32] : List UInt8)).length + ((((gl v5 1).getD (gi v5 3).toNat []).getD 0 d0).ss).length < LIM then
 (r_impl_DirsText [.sl ((((gl v5 1).getD (gi v5 3).toNat []).getD 2 d0).ll)]).bindR fun r7 =>
 if (((gs r6 0) ++ ([32, 32] : List UInt8)) ++ ((((gl v5 1).getD (gi v5 3).toNat []).getD 0 d0).ss)).length + (gs r7 0).length < LIM then
 if ((((gs r6 0) ++ ([32, 32] : List UInt8)) ++ ((((gl v5 1).getD (gi v5 3).toNat []).getD 0 d0).ss)) ++ (gs r7 0)).length + ([10] : List UInt8).length < LIM then
 if (gs v5 0).length + (((((gs r6 0) ++ ([32, 32] : List UInt8)) ++ ((((gl v5 1).getD (gi v5 3).toNat []).getD 0 d0).ss)) ++ (gs r7 0)) ++ ([10] : List UInt8)).length < LIM then
 .norm [.s ((gs v5 0) ++ (((((gs r6 0) ++ ([32, 32] : List UInt8)) ++ ((((gl v5 1).getD (gi v5 3).toNat []).getD 0 d0).ss)) ++ (gs r7 0)) ++ ([10] : List UInt8))), .sl (gl v5 1), .i (gi v5 2), .i (gi v5 3), .i (gi v5 4), .b (gb v5 5), .s (gs v5 6), .s (gs v5 7), .sl (gl v5 8), .sl (gl v5 9), .sl (gl v5 10), .sl (gl v5 11), .sl (gl v5 12), .b (gb v5 13), .sl (gl v5 14)]
 else
 .fail
 else
 .fail
 else
 .fail
 else
 .fail
 else
 .fail
 else
 .fail) 3 fun v8 =>
 .norm [.s (gs v8 0), .sl (gl v8 1), .i (gi v8 2), .i (IntKind.i64.wrap ((gi v8 3) + (1 : Int))), .i (gi v8 4), .b (gb v8 5), .s (gs v8 6), .s (gs v8 7), .sl (gl v8 8), .sl (gl v8 9), .sl (gl v8 10), .sl (gl v8 11), .sl (gl v8 12), .b (gb v8 13), .sl (gl v8 14)]
 else
 .ex 2 [.s (gs v5 0), .i (gi v5 4), .b (gb v5 5), .s (gs v5 6), .s (gs v5 7), .sl (gl v5 8), .sl (gl v5 9), .sl (gl v5 10), .sl (gl v5 11), .sl (gl v5 12), .b (gb v5 13), .sl (gl v5 14)]
noncomputable def E_impl_blockLinesL3 : List DC → Out := fun v10 =>
 if (decide ((gi v10 3) < (gi v10 2))) = true then
 Out.andThenB (if 64 = 64 ∧ 0 ≤ (gi v10 3) ∧ (gi v10 3) < ((gl v10 1).length : Int) then
 (r_impl_OpWord [.i ((((gl v10 1).getD (gi v10 3).toNat []).getD 0 d0).ii)]).bindR fun r11 =>
 if ([32, 32] : List UInt8).length + (gs r11 0).length < LIM then
 if (([32, 32] : List UInt8) ++ (gs r11 0)).length + ([58, 32] : List UInt8).length < LIM then
 if ((([32, 32] : List UInt8) ++ (gs r11 0)) ++ ([58, 32] : List UInt8)).length + ((((gl v10 1).getD (gi v10 3).toNat []).getD 1 d0).ss).length < LIM then
 if (((([32, 32] : List UInt8) ++ (gs r11 0)) ++ ([58, 32] : List UInt8)) ++ ((((gl v10 1).getD (gi v10 3).toNat []).getD 1 d0).ss)).length + ([10] : List UInt8).length < LIM then
 if (gs v10 0).length + ((((([32, 32] : List UInt8) ++ (gs r11 0)) ++ ([58, 32] : List UInt8)) ++ ((((gl v10 1).getD (gi v10 3).toNat []).getD 1 d0).ss)) ++ ([10] : List UInt8)).length < LIM then
 .norm [.s ((gs v10 0) ++ ((((([32, 32] : List UInt8) ++ (gs r11 0)) ++ ([58, 32] : List UInt8)) ++ ((((gl v10 1).getD (gi v10 3).toNat []).getD 1 d0).ss)) ++ ([10] : List UInt8))), .sl (gl v10 1), .i (gi v10 2), .i (gi v10 3), .i (gi v10 4), .b (gb v10 5), .s (gs v10 6), .s (gs v10 7), .sl (gl v10 8), .sl (gl v10 9), .sl (gl v10 10), .sl (gl v10 11), .sl (gl v10 12), .b (gb v10 13), .sl (gl v10 14)]
 else
 .fail
 else
 .fail
 else
 .fail
 else
 .fail
 else
 .fail
 else
 .fail) 5 fun v12 =>
 .norm [.s (gs v12 0), .sl (gl v12 1), .i (gi v12 2), .i (IntKind.i64.wrap ((gi v12 3) + (1 : Int))), .i (gi v12 4), .b (gb v12 5), .s (gs v12 6), .s (gs v12 7), .sl (gl v12 8), .sl (gl v12 9), .sl (gl v12 10), .sl (gl v12 11), .sl (gl v12 12), .b (gb v12 13), .sl (gl v12 14)]
 else
 .ex 4 [.s (gs v10 0), .i (gi v10 4), .b (gb v10 5), .s (gs v10 6), .s (gs v10 7), .sl (gl v10 8), .sl (gl v10 9), .sl (gl v10 10), .sl (gl v10 11), .sl (gl v10 12), .b (gb v10 13), .sl (gl v10 14)]
noncomputable def E_impl_blockLinesL4 : List DC → Out := fun v14 =>
 if (decide ((gi v14 3) < (gi v14 2))) = true then
 Out.andThenB (if 70 = 70 ∧ 0 ≤ (gi v14 3) ∧ (gi v14 3) < ((gl v14 1).length : Int) then
 (r_impl_InText [.s ((((gl v14 1).getD (gi v14 3).toNat []).getD 0 d0).ss), .s ((((gl v14 1).getD (gi v14 3).toNat []).getD 1 d0).ss), .s ((((gl v14 1).getD (gi v14 3).toNat []).getD 2 d0).ss), .s ((((gl v14 1).getD (gi v14 3).toNat []).getD 3 d0).ss), .b ((((gl v14 1).getD (gi v14 3).toNat []).getD 4 d0).bb), .i ((((gl v14 1).getD (gi v14 3).toNat []).getD 5 d0).ii), .s ((((gl v14 1).getD (gi v14 3).toNat []).getD 6 d0).ss), .sl ((((gl v14 1).getD (gi v14 3).toNat []).getD 7 d0).ll), .sl ((((gl v14 1).getD (gi v14 3).toNat []).getD 8 d0).ll), .sl ((((gl v14 1).getD (gi v14 3).toNat []).getD 9 d0).ll)]).bindR fun r15 =>
 if ([32, 32] : List UInt8).length + (gs r15 0).length < LIM then
 if (([32, 32] : List UInt8) ++ (gs r15 0)).length + ([10] : List UInt8).length < LIM then
 if (gs v14 0).length + ((([32, 32] : List UInt8) ++ (gs r15 0)) ++ ([10] : List UInt8)).length < LIM then
 .norm [.s ((gs v14 0) ++ ((([32, 32] : List UInt8) ++ (gs r15 0)) ++ ([10] : List UInt8))), .sl (gl v14 1), .i (gi v14 2), .i (gi v14 3)]
 else
 .fail
 else
 .fail
 else
 .fail
 else
 .fail) 7 fun v16 =>
 .norm [.s (gs v16 0), .sl (gl v16 1), .i (gi v16 2), .i (IntKind.i64.wrap ((gi v16 3) + (1 : Int)))]
 else
 .ex 6 [.s (gs v14 0)]
noncomputable def E_impl_blockLines (a : List DC) : Out :=
 Out.andThenB (Loop E_impl_blockLinesL1 [.s ([] : List UInt8), .sl (gl a 5), .i ((gl a 5).length : Int), .i (0 : Int), .i (gi a 0), .b (gb a 1), .s (gs a 2), .s (gs a 3), .sl (gl a 4), .sl (gl a 5), .sl (gl a 6), .sl (gl a 7), .sl (gl a 8), .b (gb a 9), .sl (gl a 10)]) 0 fun v4 =>
 Out.andThenB (Loop E_impl_blockLinesL2 [.s (gs v4 0), .sl (gl v4 8), .i ((gl v4 8).length : Int), .i (0 : Int), .i (gi v4 1), .b (gb v4 2), .s (gs v4 3), .s (gs v4 4), .sl (gl v4 5), .sl (gl v4 6), .sl (gl v4 7), .sl (gl v4 8), .sl (gl v4 9), .b (gb v4 10), .sl (gl v4 11)]) 2 fun v9 =>
 Out.andThenB (Loop E_impl_blockLinesL3 [.s (gs v9 0), .sl (gl v9 9), .i ((gl v9 9).length : Int), .i (0 : Int), .i (gi v9 1), .b (gb v9 2), .s (gs v9 3), .s (gs v9 4), .sl (gl v9 5), .sl (gl v9 6), .sl (gl v9 7), .sl (gl v9 8), .sl (gl v9 9), .b (gb v9 10), .sl (gl v9 11)]) 4 fun v13 =>
 Out.andThen (if ((gi v13 1) == (6 : Int)) = true then
 Out.andThenB (Loop E_impl_blockLinesL4 [.s (gs v13 0), .sl (gl v13 7), .i ((gl v13 7).length : Int), .i (0 : Int)]) 6 fun v17 =>
 .norm [.s (gs v17 0)]
 else
 .norm [.s (gs v13 0)]) fun v18 =>
 .ret [.s (gs v18 0)]
theorem eq_impl_blockLines a : r_impl_blockLines a = E_impl_blockLines a := (Run_eq cfg 37 _ a).trans (by kernel_rfl)
noncomputable def E_laws_eqStringSL1 : List DC → Out := fun v1 =>
 if (decide ((gi v1 2) < ((gl v1 0).length : Int))) = true then
 Out.andThenB (if 9 = 9 ∧ 0 ≤ (gi v1 2) ∧ (gi v1 2) < ((gl v1 0).length : Int) then
 if 9 = 9 ∧ 0 ≤ (gi v1 2) ∧ (gi v1 2) < ((gl v1 1).length : Int) then
 if (!((((gl v1 0).getD (gi v1 2).toNat []).getD 0 d0).ss == (((gl v1 1).getD (gi v1 2).toNat []).getD 0 d0).ss)) = true then
 .ret [.b false]
 else
 .norm [.sl (gl v1 0), .sl (gl v1 1), .i (gi v1 2)]
 else
 .fail
 else
 .fail) 1 fun v2 =>
 .norm [.sl (gl v2 0), .sl (gl v2 1), .i (IntKind.i64.wrap ((gi v2 2) + (1 : Int)))]
 else
 .ex 0 []
noncomputable def E_laws_eqStringS (a : List DC) : Out :=
 if (((gl a 0).length : Int) != ((gl a 1).length : Int)) = true then
 .ret [.b false]
 else
 Out.andThenB (Loop E_laws_eqStringSL1 [.sl (gl a 0), .sl (gl a 1), .i (0 : Int)]) 0 fun v3 =>
 .ret [.b true]
theorem eq_laws_eqStringS a : r_laws_eqStringS a = E_laws_eqStringS a := (Run_eq cfg 38 _ a).trans (by kernel_rfl)
noncomputable def E_laws_eqFieldDefSL1 : List DC → Out := fun v1 =>
 if (decide ((gi v1 2) < ((gl v1 0).length : Int))) = true then
 Out.andThenB (if 59 = 59 ∧ 0 ≤ (gi v1 2) ∧ (gi v1 2) < ((gl v1 0).length : Int) then
 if 59 = 59 ∧ 0 ≤ (gi v1 2) ∧ (gi v1 2) < ((gl v1 1).length : Int) then
 (r_laws_eqFieldDef [.s ((((gl v1 0).getD (gi v1 2).toNat []).getD 0 d0).ss), .s ((((gl v1 0).getD (gi v1 2).toNat []).getD 1 d0).ss), .sl ((((gl v1 0).getD (gi v1 2).toNat []).getD 2 d0).ll), .s ((((gl v1 0).getD (gi v1 2).toNat []).getD 3 d0).ss), .s ((((gl v1 0).getD (gi v1 2).toNat []).getD 4 d0).ss), .sl ((((gl v1 0).getD (gi v1 2).toNat []).getD 5 d0).ll), .s ((((gl v1 1).getD (gi v1 2).toNat []).getD 0 d0).ss), .s ((((gl v1 1).getD (gi v1 2).toNat []).getD 1 d0).ss), .sl ((((gl v1 1).getD (gi v1 2).toNat []).getD 2 d0).ll), .s ((((gl v1 1).getD (gi v1 2).toNat []).getD 3 d0).ss), .s ((((gl v1 1).getD (gi v1 2).toNat []).getD 4 d0).ss), .sl ((((gl v1 1).getD (gi v1 2).toNat []).getD 5 d0).ll)]).bindR fun r2 =>
 if (!(gb r2 0)) = true then
 .ret [.b false]
 else
 .norm [.sl (gl v1 0), .sl (gl v1 1), .i (gi v1 2)]
 else
 .fail
 else
 .fail) 1 fun v3 =>
 .norm [.sl (gl v3 0), .sl (gl v3 1), .i (IntKind.i64.wrap ((gi v3 2) + (1 : Int)))]
 else
 .ex 0 []
noncomputable def E_laws_eqFieldDefS (a : List DC) : Out :=
 if (((gl a 0).length : Int) != ((gl a 1).length : Int)) = true then
 .ret [.b false]
 else
 Out.andThenB (Loop E_laws_eqFieldDefSL1 [.sl (gl a 0), .sl (gl a 1), .i (0 : Int)]) 0 fun v4 =>
 .ret [.b true]
theorem eq_laws_eqFieldDefS a : r_laws_eqFieldDefS a = E_laws_eqFieldDefS a := (Run_eq cfg 39 _ a).trans (by kernel_rfl)
noncomputable def E_laws_eqInDefSL1 : List DC → Out := fun v1 =>
 if (decide ((gi v1 2) < ((gl v1 0).length : Int))) = true then
 Out.andThenB (if 70 = 70 ∧ 0 ≤ (gi v1 2) ∧ (gi v1 2) < ((gl v1 0).length : Int) then
 if 70 = 70 ∧ 0 ≤ (gi v1 2) ∧ (gi v1 2) < ((gl v1 1).length : Int) then
 (r_laws_eqInDef [.s ((((gl v1 0).getD (gi v1 2).toNat []).getD 0 d0).ss), .s ((((gl v1 0).getD (gi v1 2).toNat []).getD 1 d0).ss), .s ((((gl v1 0).getD (gi v1 2).toNat []).getD 2 d0).ss), .s ((((gl v1 0).getD (gi v1 2).toNat []).getD 3 d0).ss), .b ((((gl v1 0).getD (gi v1 2).toNat []).getD 4 d0).bb), .i ((((gl v1 0).getD (gi v1 2).toNat []).getD 5 d0).ii), .s ((((gl v1 0).getD (gi v1 2).toNat []).getD 6 d0).ss), .sl ((((gl v1 0).getD (gi v1 2).toNat []).getD 7 d0).ll), .sl ((((gl v1 0).getD (gi v1 2).toNat []).getD 8 d0).ll), .sl ((((gl v1 0).getD (gi v1 2).toNat []).getD 9 d0).ll), .s ((((gl v1 1).getD (gi v1 2).toNat []).getD 0 d0).ss), .s ((((gl v1 1).getD (gi v1 2).toNat []).getD 1 d0).ss), .s ((((gl v1 1).getD (gi v1 2).toNat []).getD 2 d0).ss), .s ((((gl v1 1).getD (gi v1 2).toNat []).getD 3 d0).ss), .b ((((gl v1 1).getD (gi v1 2).toNat []).getD 4 d0).bb), .i ((((gl v1 1).getD (gi v1 2).toNat []).getD 5 d0).ii), .s ((((gl v1 1).getD (gi v1 2).toNat []).getD 6 d0).ss), .sl ((((gl v1 1).getD (gi v1 2).toNat []).getD 7 d0).ll), .sl ((((gl v1 1).getD (gi v1 2).toNat []).getD 8 d0).ll), .sl ((((gl v1 1).getD (gi v1 2).toNat []).getD 9 d0).ll)]).bindR fun r2 =>
 if (!(gb r2 0)) = true then
 .ret [.b false]
 else
 .norm [.sl (gl v1 0), .sl (gl v1 1), .i (gi v1 2)]
 else
 .fail
 else
 .fail) 1 fun v3 =>
 .norm [.sl (gl v3 0), .sl (gl v3 1), .i (IntKind.i64.wrap ((gi v3 2) + (1 : Int)))]
 else
 .ex 0 []
noncomputable def E_laws_eqInDefS (a : List DC) : Out :=
 if (((gl a 0).length : Int) != ((gl a 1).length : Int)) = true then
 .ret [.b false]
 else
 Out.andThenB (Loop E_laws_eqInDefSL1 [.sl (gl a 0), .sl (gl a 1), .i (0 : Int)]) 0 fun v4 =>
 .ret [.b true]
theorem eq_laws_eqInDefS a : r_laws_eqInDefS a = E_laws_eqInDefS a := (Run_eq cfg 40 _ a).trans (by kernel_rfl)
noncomputable def E_laws_eqEnumDefSL1 : List DC → Out := fun v1 =>
 if (decide ((gi v1 2) < ((gl v1 0).length : Int))) = true then
 Out.andThenB (if 62 = 62 ∧ 0 ≤ (gi v1 2) ∧ (gi v1 2) < ((gl v1 0).length : Int) then
 if 62 = 62 ∧ 0 ≤ (gi v1 2) ∧ (gi v1 2) < ((gl v1 1).length : Int) then
 (r_laws_eqEnumDef [.s ((((gl v1 0).getD (gi v1 2).toNat []).getD 0 d0).ss), .s ((((gl v1 0).getD (gi v1 2).toNat []).getD 1 d0).ss), .sl ((((gl v1 0).getD (gi v1 2).toNat []).getD 2 d0).ll), .s ((((gl v1 1).getD (gi v1 2).toNat []).getD 0 d0).ss), .s ((((gl v1 1).getD (gi v1 2).toNat []).getD 1 d0).ss), .sl ((((gl v1 1).getD (gi v1 2).toNat []).getD 2 d0).ll)]).bindR fun r2 =>
 if (!(gb r2 0)) = true then
 .ret [.b false]
 else
 .norm [.sl (gl v1 0), .sl (gl v1 1), .i (gi v1 2)]
 else
 .fail
 else
 .fail) 1 fun v3 =>
 .norm [.sl (gl v3 0), .sl (gl v3 1), .i (IntKind.i64.wrap ((gi v3 2) + (1 : Int)))]
 else
 .ex 0 []
noncomputable def E_laws_eqEnumDefS (a : List DC) : Out :=
 if (((gl a 0).length : Int) != ((gl a 1).length : Int)) = true then
 .ret [.b false]
 else
 Out.andThenB (Loop E_laws_eqEnumDefSL1 [.sl (gl a 0), .sl (gl a 1), .i (0 : Int)]) 0 fun v4 =>
 .ret [.b true]
theorem eq_laws_eqEnumDefS a : r_laws_eqEnumDefS a = E_laws_eqEnumDefS a := (Run_eq cfg 41 _ a).trans (by kernel_rfl)
noncomputable def E_laws_eqRootSL1 : List DC → Out := fun v1 =>
 if (decide ((gi v1 2) < ((gl v1 0).length : Int))) = true then
 Out.andThenB (if 64 = 64 ∧ 0 ≤ (gi v1 2) ∧ (gi v1 2) < ((gl v1 0).length : Int) then
 if 64 = 64 ∧ 0 ≤ (gi v1 2) ∧ (gi v1 2) < ((gl v1 1).length : Int) then
 (r_laws_eqRoot [.i ((((gl v1 0).getD (gi v1 2).toNat []).getD 0 d0).ii), .s ((((gl v1 0).getD (gi v1 2).toNat []).getD 1 d0).ss), .i ((((gl v1 1).getD (gi v1 2).toNat []).getD 0 d0).ii), .s ((((gl v1 1).getD (gi v1 2).toNat []).getD 1 d0).ss)]).bindR fun r2 =>
 if (!(gb r2 0)) = true then
 .ret [.b false]
 else
 .norm [.sl (gl v1 0), .sl (gl v1 1), .i (gi v1 2)]
 else
 .fail
 else
 .fail) 1 fun v3 =>
 .norm [.sl (gl v3 0), .sl (gl v3 1), .i (IntKind.i64.wrap ((gi v3 2) + (1 : Int)))]
 else
 .ex 0 []
noncomputable def E_laws_eqRootS (a : List DC) : Out :=
 if (((gl a 0).length : Int) != ((gl a 1).length : Int)) = true then
 .ret [.b false]
 else
 Out.andThenB (Loop E_laws_eqRootSL1 [.sl (gl a 0), .sl (gl a 1), .i (0 : Int)]) 0 fun v4 =>
 .ret [.b true]
theorem eq_laws_eqRootS a : r_laws_eqRootS a = E_laws_eqRootS a := (Run_eq cfg 42 _ a).trans (by kernel_rfl)
noncomputable def E_laws_eqDirSL1 : List DC → Out := fun v1 =>
 if (decide ((gi v1 2) < ((gl v1 0).length : Int))) = true then
 Out.andThenB (if 114 = 114 ∧ 0 ≤ (gi v1 2) ∧ (gi v1 2) < ((gl v1 0).length : Int) then
 if 114 = 114 ∧ 0 ≤ (gi v1 2) ∧ (gi v1 2) < ((gl v1 1).length : Int) then
 (r_laws_eqDir [.s ((((gl v1 0).getD (gi v1 2).toNat []).getD 0 d0).ss), .sl ((((gl v1 0).getD (gi v1 2).toNat []).getD 1 d0).ll), .s ((((gl v1 1).getD (gi v1 2).toNat []).getD 0 d0).ss), .sl ((((gl v1 1).getD (gi v1 2).toNat []).getD 1 d0).ll)]).bindR fun r2 =>
 if (!(gb r2 0)) = true then
 .ret [.b false]
 else
 .norm [.sl (gl v1 0), .sl (gl v1 1), .i (gi v1 2)]
 else
 .fail
 else
 .fail) 1 fun v3 =>
 .norm [.sl (gl v3 0), .sl (gl v3 1), .i (IntKind.i64.wrap ((gi v3 2) + (1 : Int)))]
 else
 .ex 0 []
noncomputable def E_laws_eqDirS (a : List DC) : Out :=
 if (((gl a 0).length : Int) != ((gl a 1).length : Int)) = true then
 .ret [.b false]
 else
 Out.andThenB (Loop E_laws_eqDirSL1 [.sl (gl a 0), .sl (gl a 1), .i (0 : Int)]) 0 fun v4 =>
 .ret [.b true]
theorem eq_laws_eqDirS a : r_laws_eqDirS a = E_laws_eqDirS a := (Run_eq cfg 43 _ a).trans (by kernel_rfl)
noncomputable def E_laws_szFieldDef (a : List DC) : Out :=
 if (decide ((IntKind.i64.wrap ((gi a 6) - ((gs a 0).length : Int))) < (0 : Int))) = true then
 .ret [.i (-1 : Int)]
 else
 if (decide ((IntKind.i64.wrap ((IntKind.i64.wrap ((gi a 6) - ((gs a 0).length : Int))) - ((gs a 1).length : Int))) < (0 : Int))) = true then
 .ret [.i (-1 : Int)]
 else
 (r_laws_szInDefS [.sl (gl a 2), .i (IntKind.i64.wrap ((IntKind.i64.wrap ((gi a 6) - ((gs a 0).length : Int))) - ((gs a 1).length : Int)))]).bindR fun r1 =>
 if (decide ((gi r1 0) < (0 : Int))) = true then
 .ret [.i (-1 : Int)]
 else
 (r_laws_szType [.s (gs a 3), .s (gs a 4), .i (gi r1 0)]).bindR fun r2 =>
 if (decide ((gi r2 0) < (0 : Int))) = true then
 .ret [.i (-1 : Int)]
 else
 (r_laws_szDirS [.sl (gl a 5), .i (gi r2 0)]).bindR fun r3 =>
 if (decide ((gi r3 0) < (0 : Int))) = true then
 .ret [.i (-1 : Int)]
 else
 .ret [.i (gi r3 0)]
theorem eq_laws_szFieldDef a : r_laws_szFieldDef a = E_laws_szFieldDef a := (Run_eq cfg 44 _ a).trans (by kernel_rfl)
noncomputable def E_laws_szInDef (a : List DC) : Out :=
 if (decide ((IntKind.i64.wrap ((gi a 10) - ((gs a 0).length : Int))) < (0 : Int))) = true then
 .ret [.i (-1 : Int)]
 else
 if (decide ((IntKind.i64.wrap ((IntKind.i64.wrap ((gi a 10) - ((gs a 0).length : Int))) - ((gs a 1).length : Int))) < (0 : Int))) = true then
 .ret [.i (-1 : Int)]
 else
 (r_laws_szType [.s (gs a 2), .s (gs a 3), .i (IntKind.i64.wrap ((IntKind.i64.wrap ((gi a 10) - ((gs a 0).length : Int))) - ((gs a 1).length : Int)))]).bindR fun r1 =>
 if (decide ((gi r1 0) < (0 : Int))) = true then
 .ret [.i (-1 : Int)]
 else
 (r_laws_szValue [.i (gi a 5), .s (gs a 6), .sl (gl a 7), .sl (gl a 8), .i (gi r1 0)]).bindR fun r2 =>
 if (decide ((gi r2 0) < (0 : Int))) = true then
 .ret [.i (-1 : Int)]
 else
 (r_laws_szDirS [.sl (gl a 9), .i (gi r2 0)]).bindR fun r3 =>
 if (decide ((gi r3 0) < (0 : Int))) = true then
 .ret [.i (-1 : Int)]
 else
 .ret [.i (gi r3 0)]
theorem eq_laws_szInDef a : r_laws_szInDef a = E_laws_szInDef a := (Run_eq cfg 45 _ a).trans (by kernel_rfl)
noncomputable def E_laws_szEnumDef (a : List DC) : Out :=
 if (decide ((IntKind.i64.wrap ((gi a 3) - ((gs a 0).length : Int))) < (0 : Int))) = true then
 .ret [.i (-1 : Int)]
 else
 if (decide ((IntKind.i64.wrap ((IntKind.i64.wrap ((gi a 3) - ((gs a 0).length : Int))) - ((gs a 1).length : Int))) < (0 : Int))) = true then
 .ret [.i (-1 : Int)]
 else
 (r_laws_szDirS [.sl (gl a 2), .i (IntKind.i64.wrap ((IntKind.i64.wrap ((gi a 3) - ((gs a 0).length : Int))) - ((gs a 1).length : Int)))]).bindR fun r1 =>
 if (decide ((gi r1 0) < (0 : Int))) = true then
 .ret [.i (-1 : Int)]
 else
 .ret [.i (gi r1 0)]
theorem eq_laws_szEnumDef a : r_laws_szEnumDef a = E_laws_szEnumDef a := (Run_eq cfg 46 _ a).trans (by kernel_rfl)
noncomputable def E_laws_szRoot (a : List DC) : Out :=
 if (decide ((IntKind.i64.wrap ((gi a 2) - ((gs a 1).length : Int))) < (0 : Int))) = true then
 .ret [.i (-1 : Int)]
 else
 .ret [.i (IntKind.i64.wrap ((gi a 2) - ((gs a 1).length : Int)))]
theorem eq_laws_szRoot a : r_laws_szRoot a = E_laws_szRoot a := (Run_eq cfg 47 _ a).trans (by kernel_rfl)
noncomputable def E_laws_szDir (a : List DC) : Out :=
 if (decide ((IntKind.i64.wrap ((gi a 2) - ((gs a 0).length : Int))) < (0 : Int))) = true then
 .ret [.i (-1 : Int)]
 else
 (r_laws_szArgS [.sl (gl a 1), .i (IntKind.i64.wrap ((gi a 2) - ((gs a 0).length : Int)))]).bindR fun r1 =>
 if (decide ((gi r1 0) < (0 : Int))) = true then
 .ret [.i (-1 : Int)]
 else
 .ret [.i (gi r1 0)]
theorem eq_laws_szDir a : r_laws_szDir a = E_laws_szDir a := (Run_eq cfg 48 _ a).trans (by kernel_rfl)
noncomputable def E_laws_toFieldDef (a : List DC) : Out :=
 (r_laws_toInDefS [.sl (gl a 2)]).bindR fun r1 =>
 (r_laws_toType [.s (gs a 3), .s (gs a 4)]).bindR fun r2 =>
 (r_laws_toDirS [.sl (gl a 5)]).bindR fun r3 =>
 .ret [.s (gs a 0), .s (gs a 1), .sl (gl r1 0), .s (gs r2 0), .s (gs r2 1), .sl (gl r3 0)]
theorem eq_laws_toFieldDef a : r_laws_toFieldDef a = E_laws_toFieldDef a := (Run_eq cfg 63 _ a).trans (by kernel_rfl)
noncomputable def E_laws_toInDef (a : List DC) : Out :=
 (r_laws_toType [.s (gs a 2), .s (gs a 3)]).bindR fun r1 =>
 (r_laws_toValue [.i (gi a 5), .s (gs a 6), .sl (gl a 7), .sl (gl a 8)]).bindR fun r2 =>
 (r_laws_toDirS [.sl (gl a 9)]).bindR fun r3 =>
 .ret [.s (gs a 0), .s (gs a 1), .s (gs r1 0), .s (gs r1 1), .b (gb a 4), .i (gi r2 0), .s (gs r2 1), .sl (gl r2 2), .sl (gl r2 3), .sl (gl r3 0)]
theorem eq_laws_toInDef a : r_laws_toInDef a = E_laws_toInDef a := (Run_eq cfg 64 _ a).trans (by kernel_rfl)
noncomputable def E_laws_toEnumDef (a : List DC) : Out :=
 (r_laws_toDirS [.sl (gl a 2)]).bindR fun r1 =>
 .ret [.s (gs a 0), .s (gs a 1), .sl (gl r1 0)]
theorem eq_laws_toEnumDef a : r_laws_toEnumDef a = E_laws_toEnumDef a := (Run_eq cfg 65 _ a).trans (by kernel_rfl)
noncomputable def E_laws_toRoot (a : List DC) : Out :=
 .ret [.i (gi a 0), .s (gs a 1)]
theorem eq_laws_toRoot a : r_laws_toRoot a = E_laws_toRoot a := (Run_eq cfg 66 _ a).trans (by kernel_rfl)
noncomputable def E_laws_toDir (a : List DC) : Out :=
 (r_laws_toArgS [.sl (gl a 1)]).bindR fun r1 =>
 .ret [.s (gs a 0), .sl (gl r1 0)]
theorem eq_laws_toDir a : r_laws_toDir a = E_laws_toDir a := (Run_eq cfg 67 _ a).trans (by kernel_rfl)
noncomputable def E_spec_l01In (a : List DC) : Out :=
 Out.andThen (if (decide ((gi a 0) ≥ (gi a 1))) = true then
 .norm [.b (decide ((gi a 0) ≤ (gi a 2)))]
 else
 .norm [.b false]) fun v1 =>
 .ret [.b (gb v1 0)]
theorem eq_spec_l01In a : r_spec_l01In a = E_spec_l01In a := (Run_eq cfg 49 _ a).trans (by kernel_rfl)
noncomputable def E_spec_l13Desc (a : List DC) : Out :=
 Out.andThen (if ((gs a 0) == ([] : List UInt8)) = true then
 .norm [.b true]
 else
 (r_spec_Escaped [.s (gs a 0)]).bindR fun r1 =>
 .norm [.b (!((gs r1 0) == ([] : List UInt8)))]) fun v2 =>
 .ret [.b (gb v2 0)]
theorem eq_spec_l13Desc a : r_spec_l13Desc a = E_spec_l13Desc a := (Run_eq cfg 50 _ a).trans (by kernel_rfl)
noncomputable def E_spec_l13Has (a : List DC) : Out :=
 .ret [.b (decide ((IntKind.i64.wrap ((IntKind.i64.wrap ((IntKind.i64.wrap ((IntKind.i64.wrap ((IntKind.i64.wrap (((gl a 4).length : Int) + ((gl a 5).length : Int))) + ((gl a 6).length : Int))) + ((gl a 7).length : Int))) + ((gl a 8).length : Int))) + ((gl a 10).length : Int))) > (0 : Int)))]
theorem eq_spec_l13Has a : r_spec_l13Has a = E_spec_l13Has a := (Run_eq cfg 51 _ a).trans (by kernel_rfl)
noncomputable def E_spec_l13MayL1 : List DC → Out := fun v8 =>
 if (decide ((gi v8 0) < ((gl v8 5).length : Int))) = true then
 Out.andThenB (if 9 = 9 ∧ 0 ≤ (gi v8 0) ∧ (gi v8 0) < ((gl v8 5).length : Int) then
 (r_spec_PlaceOk [.s ((((gl v8 5).getD (gi v8 0).toNat []).getD 0 d0).ss)]).bindR fun r9 =>
 if (!(gb r9 0)) = true then
 .ret [.b false]
 else
 .norm [.i (gi v8 0), .i (gi v8 1), .b (gb v8 2), .s (gs v8 3), .s (gs v8 4), .sl (gl v8 5), .sl (gl v8 6), .sl (gl v8 7), .sl (gl v8 8), .sl (gl v8 9), .b (gb v8 10), .sl (gl v8 11)]
 else
 .fail) 1 fun v10 =>
 .norm [.i (IntKind.i64.wrap ((gi v10 0) + (1 : Int))), .i (gi v10 1), .b (gb v10 2), .s (gs v10 3), .s (gs v10 4), .sl (gl v10 5), .sl (gl v10 6), .sl (gl v10 7), .sl (gl v10 8), .sl (gl v10 9), .b (gb v10 10), .sl (gl v10 11)]
 else
 .ex 0 [.i (gi v8 1), .b (gb v8 2), .s (gs v8 3), .s (gs v8 4), .sl (gl v8 5), .sl (gl v8 6), .sl (gl v8 7), .sl (gl v8 8), .sl (gl v8 9), .b (gb v8 10), .sl (gl v8 11)]
noncomputable def E_spec_l13May (a : List DC) : Out :=
 Out.andThen (if ((gi a 0) == (2 : Int)) = true then
 .norm [.i (gi a 0), .b true, .i (gi a 0), .b (gb a 1), .s (gs a 2), .s (gs a 3), .sl (gl a 4), .sl (gl a 5), .sl (gl a 6), .sl (gl a 7), .sl (gl a 8), .b (gb a 9), .sl (gl a 10)]
 else
 .norm [.i (gi a 0), .b ((gi a 0) == (3 : Int)), .i (gi a 0), .b (gb a 1), .s (gs a 2), .s (gs a 3), .sl (gl a 4), .sl (gl a 5), .sl (gl a 6), .sl (gl a 7), .sl (gl a 8), .b (gb a 9), .sl (gl a 10)]) fun v1 =>
 Out.andThen (if (!(gb v1 1)) = true then
 .norm [.i (gi v1 0), .b (gb v1 1), .b (decide (((gl v1 7).length : Int) > (0 : Int))), .i (gi v1 2), .b (gb v1 3), .s (gs v1 4), .s (gs v1 5), .sl (gl v1 6), .sl (gl v1 7), .sl (gl v1 8), .sl (gl v1 9), .sl (gl v1 10), .b (gb v1 11), .sl (gl v1 12)]
 else
 .norm [.i (gi v1 0), .b (gb v1 1), .b false, .i (gi v1 2), .b (gb v1 3), .s (gs v1 4), .s (gs v1 5), .sl (gl v1 6), .sl (gl v1 7), .sl (gl v1 8), .sl (gl v1 9), .sl (gl v1 10), .b (gb v1 11), .sl (gl v1 12)]) fun v2 =>
 Out.andThen (if (gb v2 2) = true then
 .norm [.i (gi v2 0), .b true, .i (gi v2 3), .b (gb v2 4), .s (gs v2 5), .s (gs v2 6), .sl (gl v2 7), .sl (gl v2 8), .sl (gl v2 9), .sl (gl v2 10), .sl (gl v2 11), .b (gb v2 12), .sl (gl v2 13)]
 else
 if (!(gb v2 1)) = true then
 if ((gi v2 0) != (4 : Int)) = true then
 if ((gi v2 0) != (7 : Int)) = true then
 .norm [.i (gi v2 0), .b (decide (((gl v2 7).length : Int) > (0 : Int))), .i (gi v2 3), .b (gb v2 4), .s (gs v2 5), .s (gs v2 6), .sl (gl v2 7), .sl (gl v2 8), .sl (gl v2 9), .sl (gl v2 10), .sl (gl v2 11), .b (gb v2 12), .sl (gl v2 13)]
 else
 .norm [.i (gi v2 0), .b false, .i (gi v2 3), .b (gb v2 4), .s (gs v2 5), .s (gs v2 6), .sl (gl v2 7), .sl (gl v2 8), .sl (gl v2 9), .sl (gl v2 10), .sl (gl v2 11), .b (gb v2 12), .sl (gl v2 13)]
 else
 .norm [.i (gi v2 0), .b false, .i (gi v2 3), .b (gb v2 4), .s (gs v2 5), .s (gs v2 6), .sl (gl v2 7), .sl (gl v2 8), .sl (gl v2 9), .sl (gl v2 10), .sl (gl v2 11), .b (gb v2 12), .sl (gl v2 13)]
 else
 .norm [.i (gi v2 0), .b false, .i (gi v2 3), .b (gb v2 4), .s (gs v2 5), .s (gs v2 6), .sl (gl v2 7), .sl (gl v2 8), .sl (gl v2 9), .sl (gl v2 10), .sl (gl v2 11), .b (gb v2 12), .sl (gl v2 13)]) fun v3 =>
 Out.andThen (if (gb v3 1) = true then
 .norm [.i (gi v3 0), .b true, .i (gi v3 2), .b (gb v3 3), .s (gs v3 4), .s (gs v3 5), .sl (gl v3 6), .sl (gl v3 7), .sl (gl v3 8), .sl (gl v3 9), .sl (gl v3 10), .b (gb v3 11), .sl (gl v3 12)]
 else
 if ((gi v3 0) != (6 : Int)) = true then
 if ((gi v3 0) != (7 : Int)) = true then
 .norm [.i (gi v3 0), .b (decide (((gl v3 8).length : Int) > (0 : Int))), .i (gi v3 2), .b (gb v3 3), .s (gs v3 4), .s (gs v3 5), .sl (gl v3 6), .sl (gl v3 7), .sl (gl v3 8), .sl (gl v3 9), .sl (gl v3 10), .b (gb v3 11), .sl (gl v3 12)]
 else
 .norm [.i (gi v3 0), .b false, .i (gi v3 2), .b (gb v3 3), .s (gs v3 4), .s (gs v3 5), .sl (gl v3 6), .sl (gl v3 7), .sl (gl v3 8), .sl (gl v3 9), .sl (gl v3 10), .b (gb v3 11), .sl (gl v3 12)]
 else
 .norm [.i (gi v3 0), .b false, .i (gi v3 2), .b (gb v3 3), .s (gs v3 4), .s (gs v3 5), .sl (gl v3 6), .sl (gl v3 7), .sl (gl v3 8), .sl (gl v3 9), .sl (gl v3 10), .b (gb v3 11), .sl (gl v3 12)]) fun v4 =>
 Out.andThen (if (gb v4 1) = true then
 .norm [.i (gi v4 0), .b true, .i (gi v4 2), .b (gb v4 3), .s (gs v4 4), .s (gs v4 5), .sl (gl v4 6), .sl (gl v4 7), .sl (gl v4 8), .sl (gl v4 9), .sl (gl v4 10), .b (gb v4 11), .sl (gl v4 12)]
 else
 if ((gi v4 0) != (5 : Int)) = true then
 .norm [.i (gi v4 0), .b (decide (((gl v4 9).length : Int) > (0 : Int))), .i (gi v4 2), .b (gb v4 3), .s (gs v4 4), .s (gs v4 5), .sl (gl v4 6), .sl (gl v4 7), .sl (gl v4 8), .sl (gl v4 9), .sl (gl v4 10), .b (gb v4 11), .sl (gl v4 12)]
 else
 .norm [.i (gi v4 0), .b false, .i (gi v4 2), .b (gb v4 3), .s (gs v4 4), .s (gs v4 5), .sl (gl v4 6), .sl (gl v4 7), .sl (gl v4 8), .sl (gl v4 9), .sl (gl v4 10), .b (gb v4 11), .sl (gl v4 12)]) fun v5 =>
 Out.andThen (if (gb v5 1) = true then
 .norm [.i (gi v5 0), .b true, .i (gi v5 2), .b (gb v5 3), .s (gs v5 4), .s (gs v5 5), .sl (gl v5 6), .sl (gl v5 7), .sl (gl v5 8), .sl (gl v5 9), .sl (gl v5 10), .b (gb v5 11), .sl (gl v5 12)]
 else
 if ((gi v5 0) != (8 : Int)) = true then
 .norm [.i (gi v5 0), .b (decide (((gl v5 10).length : Int) > (0 : Int))), .i (gi v5 2), .b (gb v5 3), .s (gs v5 4), .s (gs v5 5), .sl (gl v5 6), .sl (gl v5 7), .sl (gl v5 8), .sl (gl v5 9), .sl (gl v5 10), .b (gb v5 11), .sl (gl v5 12)]
 else
 .norm [.i (gi v5 0), .b false, .i (gi v5 2), .b (gb v5 3), .s (gs v5 4), .s (gs v5 5), .sl (gl v5 6), .sl (gl v5 7), .sl (gl v5 8), .sl (gl v5 9), .sl (gl v5 10), .b (gb v5 11), .sl (gl v5 12)]) fun v6 =>
 Out.andThen (if (gb v6 1) = true then
 .norm [.i (gi v6 0), .b true, .i (gi v6 2), .b (gb v6 3), .s (gs v6 4), .s (gs v6 5), .sl (gl v6 6), .sl (gl v6 7), .sl (gl v6 8), .sl (gl v6 9), .sl (gl v6 10), .b (gb v6 11), .sl (gl v6 12)]
 else
 if ((gi v6 0) != (7 : Int)) = true then
 .norm [.i (gi v6 0), .b (gb v6 11), .i (gi v6 2), .b (gb v6 3), .s (gs v6 4), .s (gs v6 5), .sl (gl v6 6), .sl (gl v6 7), .sl (gl v6 8), .sl (gl v6 9), .sl (gl v6 10), .b (gb v6 11), .sl (gl v6 12)]
 else
 .norm [.i (gi v6 0), .b false, .i (gi v6 2), .b (gb v6 3), .s (gs v6 4), .s (gs v6 5), .sl (gl v6 6), .sl (gl v6 7), .sl (gl v6 8), .sl (gl v6 9), .sl (gl v6 10), .b (gb v6 11), .sl (gl v6 12)]) fun v7 =>
 if (gb v7 1) = true then
 .ret [.b false]
 else
 if ((gi v7 0) == (7 : Int)) = true then
 Out.andThenB (Loop E_spec_l13MayL1 [.i (0 : Int), .i (gi v7 2), .b (gb v7 3), .s (gs v7 4), .s (gs v7 5), .sl (gl v7 6), .sl (gl v7 7), .sl (gl v7 8), .sl (gl v7 9), .sl (gl v7 10), .b (gb v7 11), .sl (gl v7 12)]) 0 fun v11 =>
 Out.andThen (if (decide (((gl v11 4).length : Int) > (0 : Int))) = true then
 if (!(gb v11 1)) = true then
 .norm [.b (((gl v11 10).length : Int) == (0 : Int))]
 else
 .norm [.b false]
 else
 .norm [.b false]) fun v12 =>
 .ret [.b (gb v12 0)]
 else
 Out.andThen (if ((gi v7 0) != (8 : Int)) = true then
 .norm [.b true]
 else
 if ((gs v7 5) == ([] : List UInt8)) = true then
 if (gb v7 3) = true then
 .norm [.b true]
 else
 .norm [.b (decide (((gl v7 10).length : Int) > (0 : Int)))]
 else
 .norm [.b false]) fun v13 =>
 .ret [.b (gb v13 0)]
theorem eq_spec_l13May a : r_spec_l13May a = E_spec_l13May a := (Run_eq cfg 52 _ a).trans (by kernel_rfl)
noncomputable def E_spec_NameOkL1 : List DC → Out := fun v3 =>
 if (decide ((gi v3 1) < ((gs v3 0).length : Int))) = true then
 Out.andThenB (Out.andThen (if 0 ≤ (gi v3 1) ∧ (gi v3 1) < ((gs v3 0).length : Int) then
 (r_spec_l03Letter [.i (((gs v3 0).getD (gi v3 1).toNat 0).toNat : Int)]).bindR fun r4 =>
 if (!(gb r4 0)) = true then
 if 0 ≤ (gi v3 1) ∧ (gi v3 1) < ((gs v3 0).length : Int) then
 (r_spec_l03Figure [.i (((gs v3 0).getD (gi v3 1).toNat 0).toNat : Int)]).bindR fun r5 =>
 .norm [.s (gs v3 0), .i (gi v3 1), .b (!(gb r5 0))]
 else
 .fail
 else
 .norm [.s (gs v3 0), .i (gi v3 1), .b false]
 else
 .fail) fun v6 =>
 if (gb v6 2) = true then
 .ret [.b false]
 else
 .norm [.s (gs v6 0), .i (gi v6 1)]) 1 fun v7 =>
 .norm [.s (gs v7 0), .i (IntKind.i64.wrap ((gi v7 1) + (1 : Int)))]
 else
 .ex 0 []
noncomputable def E_spec_NameOk (a : List DC) : Out :=
 Out.andThen (if (((gs a 0).length : Int) == (0 : Int)) = true then
 .norm [.s (gs a 0), .b true]
 else
 if (decide (((gs a 0).length : Int) > (30 : Int))) = true then
 .norm [.s (gs a 0), .b true]
 else
 if 0 ≤ (0 : Int) ∧ (0 : Int) < ((gs a 0).length : Int) then
 (r_spec_l03Figure [.i (((gs a 0).getD (0 : Int).toNat 0).toNat : Int)]).bindR fun r1 =>
 .norm [.s (gs a 0), .b (gb r1 0)]
 else
 .fail) fun v2 =>
 if (gb v2 1) = true then
 .ret [.b false]
 else
 Out.andThenB (Loop E_spec_NameOkL1 [.s (gs v2 0), .i (0 : Int)]) 0 fun v8 =>
 .ret [.b true]
theorem eq_spec_NameOk a : r_spec_NameOk a = E_spec_NameOk a := (Run_eq cfg 53 _ a).trans (by kernel_rfl)
noncomputable def E_spec_l13InsL1 : List DC → Out := fun v1 =>
 if (decide ((gi v1 1) < ((gl v1 0).length : Int))) = true then
 Out.andThenB (if 70 = 70 ∧ 0 ≤ (gi v1 1) ∧ (gi v1 1) < ((gl v1 0).length : Int) then
 (r_spec_l13In [.s ((((gl v1 0).getD (gi v1 1).toNat []).getD 0 d0).ss), .s ((((gl v1 0).getD (gi v1 1).toNat []).getD 1 d0).ss), .s ((((gl v1 0).getD (gi v1 1).toNat []).getD 2 d0).ss), .s ((((gl v1 0).getD (gi v1 1).toNat []).getD 3 d0).ss), .b ((((gl v1 0).getD (gi v1 1).toNat []).getD 4 d0).bb), .i ((((gl v1 0).getD (gi v1 1).toNat []).getD 5 d0).ii), .s ((((gl v1 0).getD (gi v1 1).toNat []).getD 6 d0).ss), .sl ((((gl v1 0).getD (gi v1 1).toNat []).getD 7 d0).ll), .sl ((((gl v1 0).getD (gi v1 1).toNat []).getD 8 d0).ll), .sl ((((gl v1 0).getD (gi v1 1).toNat []).getD 9 d0).ll)]).bindR fun r2 =>
 if (!(gb r2 0)) = true then
 .ret [.b false]
 else
 .norm [.sl (gl v1 0), .i (gi v1 1)]
 else
 .fail) 1 fun v3 =>
 .norm [.sl (gl v3 0), .i (IntKind.i64.wrap ((gi v3 1) + (1 : Int)))]
 else
 .ex 0 []
noncomputable def E_spec_l13Ins (a : List DC) : Out :=
 Out.andThenB (Loop E_spec_l13InsL1 [.sl (gl a 0), .i (0 : Int)]) 0 fun v4 =>
 .ret [.b true]
theorem eq_spec_l13Ins a : r_spec_l13Ins a = E_spec_l13Ins a := (Run_eq cfg 54 _ a).trans (by kernel_rfl)
noncomputable def E_spec_l12ConstsL1 : List DC → Out := fun v2 =>
 if 114 = 114 ∧ 0 ≤ (gi v2 1) ∧ (gi v2 1) < ((gl v2 0).length : Int) then
 if (decide ((gi v2 2) < (((((gl v2 0).getD (gi v2 1).toNat []).getD 1 d0).ll).length : Int))) = true then
 Out.andThenB (if 114 = 114 ∧ 0 ≤ (gi v2 1) ∧ (gi v2 1) < ((gl v2 0).length : Int) then
 if 148 = 148 ∧ 0 ≤ (gi v2 2) ∧ (gi v2 2) < (((((gl v2 0).getD (gi v2 1).toNat []).getD 1 d0).ll).length : Int) then
 (r_spec_IsConst [.i (((((((gl v2 0).getD (gi v2 1).toNat []).getD 1 d0).ll).getD (gi v2 2).toNat []).getD 1 d0).ii), .s (((((((gl v2 0).getD (gi v2 1).toNat []).getD 1 d0).ll).getD (gi v2 2).toNat []).getD 2 d0).ss), .sl (((((((gl v2 0).getD (gi v2 1).toNat []).getD 1 d0).ll).getD (gi v2 2).toNat []).getD 3 d0).ll), .sl (((((((gl v2 0).getD (gi v2 1).toNat []).getD 1 d0).ll).getD (gi v2 2).toNat []).getD 4 d0).ll)]).bindR fun r3 =>
 if (!(gb r3 0)) = true then
 .ret [.b false]
 else
 .norm [.sl (gl v2 0), .i (gi v2 1), .i (gi v2 2)]
 else
 .fail
 else
 .fail) 3 fun v4 =>
 .norm [.sl (gl v4 0), .i (gi v4 1), .i (IntKind.i64.wrap ((gi v4 2) + (1 : Int)))]
 else
 .ex 2 [.sl (gl v2 0), .i (gi v2 1)]
 else
 .fail
noncomputable def E_spec_l12ConstsL2 : List DC → Out := fun v1 =>
 if (decide ((gi v1 1) < ((gl v1 0).length : Int))) = true then
 Out.andThenB (Out.andThenB (Loop E_spec_l12ConstsL1 [.sl (gl v1 0), .i (gi v1 1), .i (0 : Int)]) 2 fun v5 =>
 .norm [.sl (gl v5 0), .i (gi v5 1)]) 1 fun v6 =>
 .norm [.sl (gl v6 0), .i (IntKind.i64.wrap ((gi v6 1) + (1 : Int)))]
 else
 .ex 0 [.sl (gl v1 0)]
noncomputable def E_spec_l12Consts (a : List DC) : Out :=
 Out.andThenB (Loop E_spec_l12ConstsL2 [.sl (gl a 0), .i (0 : Int)]) 0 fun v7 =>
 (r_spec_DirsOk [.sl (gl v7 0)]).bindR fun r8 =>
 .ret [.b (gb r8 0)]
theorem eq_spec_l12Consts a : r_spec_l12Consts a = E_spec_l12Consts a := (Run_eq cfg 55 _ a).trans (by kernel_rfl)
noncomputable def E_spec_l13Field (a : List DC) : Out :=
 Out.andThen ((r_spec_NameOk [.s (gs a 0)]).bindR fun r1 =>
 if (gb r1 0) = true then
 (r_spec_l13Desc [.s (gs a 1)]).bindR fun r2 =>
 if (gb r2 0) = true then
 (r_spec_TypeOk [.s (gs a 3), .s (gs a 4)]).bindR fun r3 =>
 if (gb r3 0) = true then
 (r_spec_l13Ins [.sl (gl a 2)]).bindR fun r4 =>
 if (gb r4 0) = true then
 (r_spec_l12Consts [.sl (gl a 5)]).bindR fun r5 =>
 .norm [.b (gb r5 0)]
 else
 .norm [.b false]
 else
 .norm [.b false]
 else
 .norm [.b false]
 else
 .norm [.b false]) fun v6 =>
 .ret [.b (gb v6 0)]
theorem eq_spec_l13Field a : r_spec_l13Field a = E_spec_l13Field a := (Run_eq cfg 56 _ a).trans (by kernel_rfl)
noncomputable def E_spec_Word (a : List DC) : Out :=
 Out.andThen (if ((gs a 0) == ([116, 114, 117, 101] : List UInt8)) = true then
 .norm [.b true]
 else
 if ((gs a 0) == ([102, 97, 108, 115, 101] : List UInt8)) = true then
 .norm [.b true]
 else
 .norm [.b ((gs a 0) == ([110, 117, 108, 108] : List UInt8))]) fun v1 =>
 .ret [.b (gb v1 0)]
theorem eq_spec_Word a : r_spec_Word a = E_spec_Word a := (Run_eq cfg 57 _ a).trans (by kernel_rfl)
noncomputable def E_spec_TextOkL1 : List DC → Out := fun v1 =>
 if (decide ((gi v1 1) < ((gs v1 0).length : Int))) = true then
 Out.andThenB ((r_spec_RuneAt [.s (gs v1 0), .i (gi v1 1)]).bindR fun r2 =>
 if (decide ((gi r2 0) < (0 : Int))) = true then
 .ret [.b false]
 else
 .norm [.s (gs v1 0), .i (IntKind.i64.wrap ((gi v1 1) + (gi r2 1)))]) 1 fun v3 =>
 .norm [.s (gs v3 0), .i (gi v3 1)]
 else
 .ex 0 []
noncomputable def E_spec_TextOk (a : List DC) : Out :=
 Out.andThenB (Loop E_spec_TextOkL1 [.s (gs a 0), .i (0 : Int)]) 0 fun v4 =>
 .ret [.b true]
theorem eq_spec_TextOk a : r_spec_TextOk a = E_spec_TextOk a := (Run_eq cfg 58 _ a).trans (by kernel_rfl)
noncomputable def E_spec_l04Hex4 (a : List DC) : Out :=
 if (4096 : Int) = 0 then
 .fail
 else
 if (16 : Int) = 0 then
 .fail
 else
 if 0 ≤ ((IntKind.i64.wrap ((gi a 0).tdiv (4096 : Int))).tmod (16 : Int)) ∧ ((IntKind.i64.wrap ((gi a 0).tdiv (4096 : Int))).tmod (16 : Int)) < (([48, 49, 50, 51, 52, 53, 54, 55, 56, 57, 97, 98, 99, 100, 101, 102] : List UInt8).length : Int) then
 if (256 : Int) = 0 then
 .fail
 else
 if (16 : Int) = 0 then
 .fail
 else
 if 0 ≤ ((IntKind.i64.wrap ((gi a 0).tdiv (256 : Int))).tmod (16 : Int)) ∧ ((IntKind.i64.wrap ((gi a 0).tdiv (256 : Int))).tmod (16 : Int)) < (([48, 49, 50, 51, 52, 53, 54, 55, 56, 57, 97, 98, 99, 100, 101, 102] : List UInt8).length : Int) then
 if (16 : Int) = 0 then
 .fail
 else
 if (16 : Int) = 0 then
 .fail
 else
 if 0 ≤ ((IntKind.i64.wrap ((gi a 0).tdiv (16 : Int))).tmod (16 : Int)) ∧ ((IntKind.i64.wrap ((gi a 0).tdiv (16 : Int))).tmod (16 : Int)) < (([48, 49, 50, 51, 52, 53, 54, 55, 56, 57, 97, 98, 99, 100, 101, 102] : List UInt8).length : Int) then
 if (16 : Int) = 0 then
 .fail
 else
 if 0 ≤ ((gi a 0).tmod (16 : Int)) ∧ ((gi a 0).tmod (16 : Int)) < (([48, 49, 50, 51, 52, 53, 54, 55, 56, 57, 97, 98, 99, 100, 101, 102] : List UInt8).length : Int) then
 .ret [.s (rowBytes [[DC.i ((([48, 49, 50, 51, 52, 53, 54, 55, 56, 57, 97, 98, 99, 100, 101, 102] : List UInt8).getD ((IntKind.i64.wrap ((gi a 0).tdiv (4096 : Int))).tmod (16 : Int)).toNat 0).toNat : Int)], [DC.i ((([48, 49, 50, 51, 52, 53, 54, 55, 56, 57, 97, 98, 99, 100, 101, 102] : List UInt8).getD ((IntKind.i64.wrap ((gi a 0).tdiv (256 : Int))).tmod (16 : Int)).toNat 0).toNat : Int)], [DC.i ((([48, 49, 50, 51, 52, 53, 54, 55, 56, 57, 97, 98, 99, 100, 101, 102] : List UInt8).getD ((IntKind.i64.wrap ((gi a 0).tdiv (16 : Int))).tmod (16 : Int)).toNat 0).toNat : Int)], [DC.i ((([48, 49, 50, 51, 52, 53, 54, 55, 56, 57, 97, 98, 99, 100, 101, 102] : List UInt8).getD ((gi a 0).tmod (16 : Int)).toNat 0).toNat : Int)]])]
 else
 .fail
 else
 .fail
 else
 .fail
 else
 .fail
theorem eq_spec_l04Hex4 a : r_spec_l04Hex4 a = E_spec_l04Hex4 a := (Run_eq cfg 59 _ a).trans (by kernel_rfl)
noncomputable def E_spec_l10SayL1 : List DC → Out := fun v1 =>
 if (decide ((gi v1 2) < ((gl v1 1).length : Int))) = true then
 Out.andThenB (Out.andThen (if ((gi v1 2) == (0 : Int)) = true then
 if (gl v1 0).length + [[DC.i (40 : Int)]].length < LIM then
 .norm [.sl ((gl v1 0) ++ [[DC.i (40 : Int)]]), .sl (gl v1 1), .i (gi v1 2)]
 else
 .fail
 else
 if (gl v1 0).length + [[DC.i (44 : Int)], [DC.i (32 : Int)]].length < LIM then
 .norm [.sl ((gl v1 0) ++ [[DC.i (44 : Int)], [DC.i (32 : Int)]]), .sl (gl v1 1), .i (gi v1 2)]
 else
 .fail) fun v2 =>
 if 148 = 148 ∧ 0 ≤ (gi v2 2) ∧ (gi v2 2) < ((gl v2 1).length : Int) then
 if (gl v2 0).length + (bytesRow ((((gl v2 1).getD (gi v2 2).toNat []).getD 0 d0).ss)).length < LIM then
 if ((gl v2 0) ++ (bytesRow ((((gl v2 1).getD (gi v2 2).toNat []).getD 0 d0).ss))).length + [[DC.i (58 : Int)], [DC.i (32 : Int)]].length < LIM then
 if 148 = 148 ∧ 0 ≤ (gi v2 2) ∧ (gi v2 2) < ((gl v2 1).length : Int) then
 (r_spec_l07Say [.sl (((gl v2 0) ++ (bytesRow ((((gl v2 1).getD (gi v2 2).toNat []).getD 0 d0).ss))) ++ [[DC.i (58 : Int)], [DC.i (32 : Int)]]), .i ((((gl v2 1).getD (gi v2 2).toNat []).getD 1 d0).ii), .s ((((gl v2 1).getD (gi v2 2).toNat []).getD 2 d0).ss), .sl ((((gl v2 1).getD (gi v2 2).toNat []).getD 3 d0).ll), .sl ((((gl v2 1).getD (gi v2 2).toNat []).getD 4 d0).ll)]).bindR fun r3 =>
 .norm [.sl (gl r3 0), .sl (gl v2 1), .i (gi v2 2)]
 else
 .fail
 else
 .fail
 else
 .fail
 else
 .fail) 1 fun v4 =>
 .norm [.sl (gl v4 0), .sl (gl v4 1), .i (IntKind.i64.wrap ((gi v4 2) + (1 : Int)))]
 else
 .ex 0 [.sl (gl v1 0), .sl (gl v1 1)]
noncomputable def E_spec_l10Say (a : List DC) : Out :=
 Out.andThenB (Loop E_spec_l10SayL1 [.sl (gl a 0), .sl (gl a 1), .i (0 : Int)]) 0 fun v5 =>
 Out.andThen (if (decide (((gl v5 1).length : Int) > (0 : Int))) = true then
 if (gl v5 0).length + [[DC.i (41 : Int)]].length < LIM then
 .norm [.sl ((gl v5 0) ++ [[DC.i (41 : Int)]])]
 else
 .fail
 else
 .norm [.sl (gl v5 0)]) fun v6 =>
 .ret [.sl (gl v6 0)]
theorem eq_spec_l10Say a : r_spec_l10Say a = E_spec_l10Say a := (Run_eq cfg 60 _ a).trans (by kernel_rfl)
noncomputable def E_spec_TypeTextL1 : List DC → Out := fun v2 =>
 if (decide ((gi v2 1) < ((gs v2 3).length : Int))) = true then
 Out.andThenB (if 0 ≤ (gi v2 1) ∧ (gi v2 1) < ((gs v2 3).length : Int) then
 Out.andThen (if ((((gs v2 3).getD (gi v2 1).toNat 0).toNat : Int) == (33 : Int)) = true then
 if (gs v2 0).length + ([33] : List UInt8).length < LIM then
 .norm [.s ((gs v2 0) ++ ([33] : List UInt8)), .i (gi v2 1), .s (gs v2 2), .s (gs v2 3)]
 else
 .fail
 else
 if ([91] : List UInt8).length + (gs v2 0).length < LIM then
 if (([91] : List UInt8) ++ (gs v2 0)).length + ([93] : List UInt8).length < LIM then
 .norm [.s ((([91] : List UInt8) ++ (gs v2 0)) ++ ([93] : List UInt8)), .i (gi v2 1), .s (gs v2 2), .s (gs v2 3)]
 else
 .fail
 else
 .fail) fun v3 =>
 .norm [.s (gs v3 0), .i (gi v3 1), .s (gs v3 2), .s (gs v3 3)]
 else
 .fail) 1 fun v4 =>
 .norm [.s (gs v4 0), .i (IntKind.i64.wrap ((gi v4 1) + (1 : Int))), .s (gs v4 2), .s (gs v4 3)]
 else
 .ex 0 [.s (gs v2 0)]
noncomputable def E_spec_TypeText (a : List DC) : Out :=
 (r_spec_TypeOk [.s (gs a 0), .s (gs a 1)]).bindR fun r1 =>
 if (!(gb r1 0)) = true then
 .ret [.s ([] : List UInt8)]
 else
 Out.andThenB (Loop E_spec_TypeTextL1 [.s (gs a 0), .i (0 : Int), .s (gs a 0), .s (gs a 1)]) 0 fun v5 =>
 .ret [.s (gs v5 0)]
theorem eq_spec_TypeText a : r_spec_TypeText a = E_spec_TypeText a := (Run_eq cfg 61 _ a).trans (by kernel_rfl)
noncomputable def E_spec_l07SayL1 : List DC → Out := fun v4 =>
 if (decide ((gi v4 2) < ((gl v4 5).length : Int))) = true then
 Out.andThenB (Out.andThen (if (decide ((gi v4 2) > (0 : Int))) = true then
 if (gl v4 0).length + [[DC.i (44 : Int)], [DC.i (32 : Int)]].length < LIM then
 .norm [.sl ((gl v4 0) ++ [[DC.i (44 : Int)], [DC.i (32 : Int)]]), .i (gi v4 1), .i (gi v4 2), .i (gi v4 3), .s (gs v4 4), .sl (gl v4 5), .sl (gl v4 6)]
 else
 .fail
 else
 .norm [.sl (gl v4 0), .i (gi v4 1), .i (gi v4 2), .i (gi v4 3), .s (gs v4 4), .sl (gl v4 5), .sl (gl v4 6)]) fun v5 =>
 Out.andThen (if ((gi v5 3) == (8 : Int)) = true then
 if 9 = 9 ∧ 0 ≤ (gi v5 2) ∧ (gi v5 2) < ((gl v5 6).length : Int) then
 if (gl v5 0).length + (bytesRow ((((gl v5 6).getD (gi v5 2).toNat []).getD 0 d0).ss)).length < LIM then
 if ((gl v5 0) ++ (bytesRow ((((gl v5 6).getD (gi v5 2).toNat []).getD 0 d0).ss))).length + [[DC.i (58 : Int)], [DC.i (32 : Int)]].length < LIM then
 .norm [.sl (((gl v5 0) ++ (bytesRow ((((gl v5 6).getD (gi v5 2).toNat []).getD 0 d0).ss))) ++ [[DC.i (58 : Int)], [DC.i (32 : Int)]]), .i (gi v5 1), .i (gi v5 2), .i (gi v5 3), .s (gs v5 4), .sl (gl v5 5), .sl (gl v5 6)]
 else
 .fail
 else
 .fail
 else
 .fail
 else
 .norm [.sl (gl v5 0), .i (gi v5 1), .i (gi v5 2), .i (gi v5 3), .s (gs v5 4), .sl (gl v5 5), .sl (gl v5 6)]) fun v6 =>
 if 68 = 68 ∧ 0 ≤ (gi v6 2) ∧ (gi v6 2) < ((gl v6 5).length : Int) then
 (r_spec_l07Say [.sl (gl v6 0), .i ((((gl v6 5).getD (gi v6 2).toNat []).getD 0 d0).ii), .s ((((gl v6 5).getD (gi v6 2).toNat []).getD 1 d0).ss), .sl ((((gl v6 5).getD (gi v6 2).toNat []).getD 2 d0).ll), .sl ((((gl v6 5).getD (gi v6 2).toNat []).getD 3 d0).ll)]).bindR fun r7 =>
 .norm [.sl (gl r7 0), .i (gi v6 1), .i (gi v6 2), .i (gi v6 3), .s (gs v6 4), .sl (gl v6 5), .sl (gl v6 6)]
 else
 .fail) 2 fun v8 =>
 .norm [.sl (gl v8 0), .i (gi v8 1), .i (IntKind.i64.wrap ((gi v8 2) + (1 : Int))), .i (gi v8 3), .s (gs v8 4), .sl (gl v8 5), .sl (gl v8 6)]
 else
 .ex 1 [.sl (gl v4 0), .i (gi v4 1)]
noncomputable def E_spec_l07Say (a : List DC) : Out :=
 Out.andThenB (if ((gi a 1) == (1 : Int)) = true then
 if (gl a 0).length + [[DC.i (36 : Int)]].length < LIM then
 if ((gl a 0) ++ [[DC.i (36 : Int)]]).length + (bytesRow (gs a 2)).length < LIM then
 .ret [.sl (((gl a 0) ++ [[DC.i (36 : Int)]]) ++ (bytesRow (gs a 2)))]
 else
 .fail
 else
 .fail
 else
 if ((gi a 1) == (4 : Int)) = true then
 (r_spec_Escaped [.s (gs a 2)]).bindR fun r1 =>
 if (gl a 0).length + (bytesRow (gs r1 0)).length < LIM then
 .ret [.sl ((gl a 0) ++ (bytesRow (gs r1 0)))]
 else
 .fail
 else
 Out.andThen (if ((gi a 1) == (7 : Int)) = true then
 .norm [.sl (gl a 0), .b ((gi a 1) == (7 : Int)), .i (gi a 1), .s (gs a 2), .sl (gl a 3), .sl (gl a 4)]
 else
 .norm [.sl (gl a 0), .b ((gi a 1) == (8 : Int)), .i (gi a 1), .s (gs a 2), .sl (gl a 3), .sl (gl a 4)]) fun v2 =>
 if (gb v2 1) = true then
 Out.andThen (if ((gi v2 2) == (8 : Int)) = true then
 .norm [.sl (gl v2 0), .i (123 : Int), .i (125 : Int), .i (gi v2 2), .s (gs v2 3), .sl (gl v2 4), .sl (gl v2 5)]
 else
 .norm [.sl (gl v2 0), .i (91 : Int), .i (93 : Int), .i (gi v2 2), .s (gs v2 3), .sl (gl v2 4), .sl (gl v2 5)]) fun v3 =>
 if (gl v3 0).length + [[DC.i (gi v3 1)]].length < LIM then
 Out.andThenB (Loop E_spec_l07SayL1 [.sl ((gl v3 0) ++ [[DC.i (gi v3 1)]]), .i (gi v3 2), .i (0 : Int), .i (gi v3 3), .s (gs v3 4), .sl (gl v3 5), .sl (gl v3 6)]) 1 fun v9 =>
 if (gl v9 0).length + [[DC.i (gi v9 1)]].length < LIM then
 .ret [.sl ((gl v9 0) ++ [[DC.i (gi v9 1)]])]
 else
 .fail
 else
 .fail
 else
 .norm [.sl (gl v2 0), .i (gi v2 2), .s (gs v2 3), .sl (gl v2 4), .sl (gl v2 5)]) 0 fun v10 =>
 if (gl v10 0).length + (bytesRow (gs v10 2)).length < LIM then
 .ret [.sl ((gl v10 0) ++ (bytesRow (gs v10 2)))]
 else
 .fail
theorem eq_spec_l07Say a : r_spec_l07Say a = E_spec_l07Say a := (Run_eq cfg 62 _ a).trans (by kernel_rfl)
noncomputable def E_impl_in (a : List DC) : Out :=
 Out.andThen (if (decide ((gi a 0) ≥ (gi a 1))) = true then
 .norm [.b (decide ((gi a 0) ≤ (gi a 2)))]
 else
 .norm [.b false]) fun v1 =>
 .ret [.b (gb v1 0)]
theorem eq_impl_in a : r_impl_in a = E_impl_in a := (Run_eq cfg 68 _ a).trans (by kernel_rfl)
noncomputable def E_impl_descOk (a : List DC) : Out :=
 Out.andThen (if ((gs a 0) == ([] : List UInt8)) = true then
 .norm [.b true]
 else
 (r_impl_Escaped [.s (gs a 0)]).bindR fun r1 =>
 .norm [.b (!((gs r1 0) == ([] : List UInt8)))]) fun v2 =>
 .ret [.b (gb v2 0)]
theorem eq_impl_descOk a : r_impl_descOk a = E_impl_descOk a := (Run_eq cfg 69 _ a).trans (by kernel_rfl)
noncomputable def E_impl_something (a : List DC) : Out :=
 .ret [.b (decide ((IntKind.i64.wrap ((IntKind.i64.wrap ((IntKind.i64.wrap ((IntKind.i64.wrap ((IntKind.i64.wrap (((gl a 4).length : Int) + ((gl a 5).length : Int))) + ((gl a 6).length : Int))) + ((gl a 7).length : Int))) + ((gl a 8).length : Int))) + ((gl a 10).length : Int))) > (0 : Int)))]
theorem eq_impl_something a : r_impl_something a = E_impl_something a := (Run_eq cfg 70 _ a).trans (by kernel_rfl)
noncomputable def E_impl_partsOk (a : List DC) : Out :=
 Out.andThen ((r_slices_ContainsFunc_impl_FieldDef__impl_partsOk_1 [.sl (gl a 5)]).bindR fun r1 =>
 if (!(gb r1 0)) = true then
 (r_impl_insOk [.sl (gl a 6)]).bindR fun r2 =>
 if (gb r2 0) = true then
 (r_slices_ContainsFunc_impl_EnumDef__impl_partsOk_2 [.sl (gl a 7)]).bindR fun r3 =>
 if (!(gb r3 0)) = true then
 (r_slices_ContainsFunc_impl_Root__impl_partsOk_3 [.sl (gl a 8)]).bindR fun r4 =>
 if (!(gb r4 0)) = true then
 (r_slices_ContainsFunc_string__impl_partsOk_4 [.sl (gl a 4)]).bindR fun r5 =>
 if (!(gb r5 0)) = true then
 (r_impl_constDirs [.sl (gl a 10)]).bindR fun r6 =>
 .norm [.b (gb r6 0)]
 else
 .norm [.b false]
 else
 .norm [.b false]
 else
 .norm [.b false]
 else
 .norm [.b false]
 else
 .norm [.b false]) fun v7 =>
 .ret [.b (gb v7 0)]
theorem eq_impl_partsOk a : r_impl_partsOk a = E_impl_partsOk a := (Run_eq cfg 71 _ a).trans (by kernel_rfl)
noncomputable def E_impl_belongs (a : List DC) : Out :=
 Out.andThen (if ((gi a 0) == (2 : Int)) = true then
 .norm [.i (gi a 0), .b true, .i (gi a 0), .b (gb a 1), .s (gs a 2), .s (gs a 3), .sl (gl a 4), .sl (gl a 5), .sl (gl a 6), .sl (gl a 7), .sl (gl a 8), .b (gb a 9), .sl (gl a 10)]
 else
 .norm [.i (gi a 0), .b ((gi a 0) == (3 : Int)), .i (gi a 0), .b (gb a 1), .s (gs a 2), .s (gs a 3), .sl (gl a 4), .sl (gl a 5), .sl (gl a 6), .sl (gl a 7), .sl (gl a 8), .b (gb a 9), .sl (gl a 10)]) fun v1 =>
 Out.andThen (if (decide (((gl v1 7).length : Int) > (0 : Int))) = true then
 if (!(gb v1 1)) = true then
 .norm [.i (gi v1 0), .b true, .i (gi v1 2), .b (gb v1 3), .s (gs v1 4), .s (gs v1 5), .sl (gl v1 6), .sl (gl v1 7), .sl (gl v1 8), .sl (gl v1 9), .sl (gl v1 10), .b (gb v1 11), .sl (gl v1 12)]
 else
 if (decide (((gl v1 6).length : Int) > (0 : Int))) = true then
 if (!(gb v1 1)) = true then
 if ((gi v1 0) != (4 : Int)) = true then
 .norm [.i (gi v1 0), .b ((gi v1 0) != (7 : Int)), .i (gi v1 2), .b (gb v1 3), .s (gs v1 4), .s (gs v1 5), .sl (gl v1 6), .sl (gl v1 7), .sl (gl v1 8), .sl (gl v1 9), .sl (gl v1 10), .b (gb v1 11), .sl (gl v1 12)]
 else
 .norm [.i (gi v1 0), .b false, .i (gi v1 2), .b (gb v1 3), .s (gs v1 4), .s (gs v1 5), .sl (gl v1 6), .sl (gl v1 7), .sl (gl v1 8), .sl (gl v1 9), .sl (gl v1 10), .b (gb v1 11), .sl (gl v1 12)]
 else
 .norm [.i (gi v1 0), .b false, .i (gi v1 2), .b (gb v1 3), .s (gs v1 4), .s (gs v1 5), .sl (gl v1 6), .sl (gl v1 7), .sl (gl v1 8), .sl (gl v1 9), .sl (gl v1 10), .b (gb v1 11), .sl (gl v1 12)]
 else
 .norm [.i (gi v1 0), .b false, .i (gi v1 2), .b (gb v1 3), .s (gs v1 4), .s (gs v1 5), .sl (gl v1 6), .sl (gl v1 7), .sl (gl v1 8), .sl (gl v1 9), .sl (gl v1 10), .b (gb v1 11), .sl (gl v1 12)]
 else
 if (decide (((gl v1 6).length : Int) > (0 : Int))) = true then
 if (!(gb v1 1)) = true then
 if ((gi v1 0) != (4 : Int)) = true then
 .norm [.i (gi v1 0), .b ((gi v1 0) != (7 : Int)), .i (gi v1 2), .b (gb v1 3), .s (gs v1 4), .s (gs v1 5), .sl (gl v1 6), .sl (gl v1 7), .sl (gl v1 8), .sl (gl v1 9), .sl (gl v1 10), .b (gb v1 11), .sl (gl v1 12)]
 else
 .norm [.i (gi v1 0), .b false, .i (gi v1 2), .b (gb v1 3), .s (gs v1 4), .s (gs v1 5), .sl (gl v1 6), .sl (gl v1 7), .sl (gl v1 8), .sl (gl v1 9), .sl (gl v1 10), .b (gb v1 11), .sl (gl v1 12)]
 else
 .norm [.i (gi v1 0), .b false, .i (gi v1 2), .b (gb v1 3), .s (gs v1 4), .s (gs v1 5), .sl (gl v1 6), .sl (gl v1 7), .sl (gl v1 8), .sl (gl v1 9), .sl (gl v1 10), .b (gb v1 11), .sl (gl v1 12)]
 else
 .norm [.i (gi v1 0), .b false, .i (gi v1 2), .b (gb v1 3), .s (gs v1 4), .s (gs v1 5), .sl (gl v1 6), .sl (gl v1 7), .sl (gl v1 8), .sl (gl v1 9), .sl (gl v1 10), .b (gb v1 11), .sl (gl v1 12)]) fun v2 =>
 if (gb v2 1) = true then
 .ret [.b false]
 else
 Out.andThen (if (decide (((gl v2 8).length : Int) > (0 : Int))) = true then
 if ((gi v2 0) != (6 : Int)) = true then
 if ((gi v2 0) != (7 : Int)) = true then
 .norm [.i (gi v2 0), .b true, .i (gi v2 2), .b (gb v2 3), .s (gs v2 4), .s (gs v2 5), .sl (gl v2 6), .sl (gl v2 7), .sl (gl v2 8), .sl (gl v2 9), .sl (gl v2 10), .b (gb v2 11), .sl (gl v2 12)]
 else
 if (decide (((gl v2 9).length : Int) > (0 : Int))) = true then
 .norm [.i (gi v2 0), .b ((gi v2 0) != (5 : Int)), .i (gi v2 2), .b (gb v2 3), .s (gs v2 4), .s (gs v2 5), .sl (gl v2 6), .sl (gl v2 7), .sl (gl v2 8), .sl (gl v2 9), .sl (gl v2 10), .b (gb v2 11), .sl (gl v2 12)]
 else
 .norm [.i (gi v2 0), .b false, .i (gi v2 2), .b (gb v2 3), .s (gs v2 4), .s (gs v2 5), .sl (gl v2 6), .sl (gl v2 7), .sl (gl v2 8), .sl (gl v2 9), .sl (gl v2 10), .b (gb v2 11), .sl (gl v2 12)]
 else
 if (decide (((gl v2 9).length : Int) > (0 : Int))) = true then
 .norm [.i (gi v2 0), .b ((gi v2 0) != (5 : Int)), .i (gi v2 2), .b (gb v2 3), .s (gs v2 4), .s (gs v2 5), .sl (gl v2 6), .sl (gl v2 7), .sl (gl v2 8), .sl (gl v2 9), .sl (gl v2 10), .b (gb v2 11), .sl (gl v2 12)]
 else
 .norm [.i (gi v2 0), .b false, .i (gi v2 2), .b (gb v2 3), .s (gs v2 4), .s (gs v2 5), .sl (gl v2 6), .sl (gl v2 7), .sl (gl v2 8), .sl (gl v2 9), .sl (gl v2 10), .b (gb v2 11), .sl (gl v2 12)]
 else
 if (decide (((gl v2 9).length : Int) > (0 : Int))) = true then
 .norm [.i (gi v2 0), .b ((gi v2 0) != (5 : Int)), .i (gi v2 2), .b (gb v2 3), .s (gs v2 4), .s (gs v2 5), .sl (gl v2 6), .sl (gl v2 7), .sl (gl v2 8), .sl (gl v2 9), .sl (gl v2 10), .b (gb v2 11), .sl (gl v2 12)]
 else
 .norm [.i (gi v2 0), .b false, .i (gi v2 2), .b (gb v2 3), .s (gs v2 4), .s (gs v2 5), .sl (gl v2 6), .sl (gl v2 7), .sl (gl v2 8), .sl (gl v2 9), .sl (gl v2 10), .b (gb v2 11), .sl (gl v2 12)]) fun v3 =>
 if (gb v3 1) = true then
 .ret [.b false]
 else
 Out.andThen (if (((gl v3 10).length : Int) == (0 : Int)) = true then
 if (((gl v3 12).length : Int) == (0 : Int)) = true then
 if (!(gb v3 11)) = true then
 .norm [.b true]
 else
 .norm [.b ((gi v3 0) == (7 : Int))]
 else
 if ((gi v3 0) != (7 : Int)) = true then
 if (!(gb v3 11)) = true then
 .norm [.b true]
 else
 .norm [.b ((gi v3 0) == (7 : Int))]
 else
 .norm [.b false]
 else
 if ((gi v3 0) == (8 : Int)) = true then
 if (((gl v3 12).length : Int) == (0 : Int)) = true then
 if (!(gb v3 11)) = true then
 .norm [.b true]
 else
 .norm [.b ((gi v3 0) == (7 : Int))]
 else
 if ((gi v3 0) != (7 : Int)) = true then
 if (!(gb v3 11)) = true then
 .norm [.b true]
 else
 .norm [.b ((gi v3 0) == (7 : Int))]
 else
 .norm [.b false]
 else
 .norm [.b false]) fun v4 =>
 .ret [.b (gb v4 0)]
theorem eq_impl_belongs a : r_impl_belongs a = E_impl_belongs a := (Run_eq cfg 72 _ a).trans (by kernel_rfl)
noncomputable def E_impl_NameOkL1 : List DC → Out := fun v4 =>
 if (decide ((gi v4 2) < (gi v4 1))) = true then
 Out.andThenB (if 0 ≤ (gi v4 2) ∧ (gi v4 2) < ((gs v4 0).length : Int) then
 (r_impl_inName [.i (((gs v4 0).getD (gi v4 2).toNat 0).toNat : Int)]).bindR fun r5 =>
 if (!(gb r5 0)) = true then
 .ret [.b false]
 else
 .norm [.s (gs v4 0), .i (gi v4 1), .i (gi v4 2)]
 else
 .fail) 1 fun v6 =>
 .norm [.s (gs v6 0), .i (gi v6 1), .i (IntKind.i64.wrap ((gi v6 2) + (1 : Int)))]
 else
 .ex 0 []
noncomputable def E_impl_NameOk (a : List DC) : Out :=
 Out.andThen ((r_impl_in [.i ((gs a 0).length : Int), .i (1 : Int), .i (30 : Int)]).bindR fun r1 =>
 if (!(gb r1 0)) = true then
 .norm [.s (gs a 0), .b true]
 else
 if 0 ≤ (0 : Int) ∧ (0 : Int) < ((gs a 0).length : Int) then
 (r_impl_isFigure [.i (((gs a 0).getD (0 : Int).toNat 0).toNat : Int)]).bindR fun r2 =>
 .norm [.s (gs a 0), .b (gb r2 0)]
 else
 .fail) fun v3 =>
 if (gb v3 1) = true then
 .ret [.b false]
 else
 Out.andThenB (Loop E_impl_NameOkL1 [.s (gs v3 0), .i ((gs v3 0).length : Int), .i (0 : Int)]) 0 fun v7 =>
 .ret [.b true]
theorem eq_impl_NameOk a : r_impl_NameOk a = E_impl_NameOk a := (Run_eq cfg 73 _ a).trans (by kernel_rfl)
noncomputable def E_slices_ContainsFunc_string__impl_DefOk_1 (a : List DC) : Out :=
 (r_slices_IndexFunc_string__impl_DefOk_1 [.sl (gl a 0)]).bindR fun r1 =>
 .ret [.b (decide ((gi r1 0) ≥ (0 : Int)))]
theorem eq_slices_ContainsFunc_string__impl_DefOk_1 a : r_slices_ContainsFunc_string__impl_DefOk_1 a = E_slices_ContainsFunc_string__impl_DefOk_1 a := (Run_eq cfg 74 _ a).trans (by kernel_rfl)
noncomputable def E_impl_EscapedL1 : List DC → Out := fun v3 =>
 if (decide ((gi v3 3) < (gi v3 2))) = true then
 Out.andThenB (if 0 ≤ (gi v3 3) ∧ (gi v3 3) < ((gs v3 0).length : Int) then
 (r_strings_IndexByte [.s ([34, 92, 8, 9, 10, 12, 13] : List UInt8), .i (((gs v3 0).getD (gi v3 3).toNat 0).toNat : Int)]).bindR fun r4 =>
 Out.andThenB (Out.andThen (if (decide ((gi r4 0) ≥ (0 : Int))) = true then
 if 0 ≤ (gi r4 0) ∧ (gi r4 0) < (([34, 92, 98, 116, 110, 102, 114] : List UInt8).length : Int) then
 if (gl v3 1).length + [[DC.i (92 : Int)], [DC.i ((([34, 92, 98, 116, 110, 102, 114] : List UInt8).getD (gi r4 0).toNat 0).toNat : Int)]].length < LIM then
 .norm [.s (gs v3 0), .sl ((gl v3 1) ++ [[DC.i (92 : Int)], [DC.i ((([34, 92, 98, 116, 110, 102, 114] : List UInt8).getD (gi r4 0).toNat 0).toNat : Int)]]), .i (gi v3 2), .i (gi v3 3)]
 else
 .fail
 else
 .fail
 else
 Out.andThen (if (decide ((((gs v3 0).getD (gi v3 3).toNat 0).toNat : Int) < (32 : Int))) = true then
 .norm [.s (gs v3 0), .sl (gl v3 1), .i (((gs v3 0).getD (gi v3 3).toNat 0).toNat : Int), .i (gi v3 2), .i (gi v3 3), .b true]
 else
 .norm [.s (gs v3 0), .sl (gl v3 1), .i (((gs v3 0).getD (gi v3 3).toNat 0).toNat : Int), .i (gi v3 2), .i (gi v3 3), .b ((((gs v3 0).getD (gi v3 3).toNat 0).toNat : Int) == (127 : Int))]) fun v5 =>
 Out.andThen (if (gb v5 5) = true then
 if (4 : Int) < 0 then
 .fail
 else
 if 0 ≤ ((gi v5 2).fdiv (2 ^ (min (4 : Int).toNat (IntKind.u8.bits)))) ∧ ((gi v5 2).fdiv (2 ^ (min (4 : Int).toNat (IntKind.u8.bits)))) < (([48, 49, 50, 51, 52, 53, 54, 55, 56, 57, 97, 98, 99, 100, 101, 102] : List UInt8).length : Int) then
 if 0 ≤ (IntKind.u8.wrap (BitVec.ofInt (IntKind.u8.bits) (gi v5 2) &&& BitVec.ofInt (IntKind.u8.bits) (15 : Int)).toNat) ∧ (IntKind.u8.wrap (BitVec.ofInt (IntKind.u8.bits) (gi v5 2) &&& BitVec.ofInt (IntKind.u8.bits) (15 : Int)).toNat) < (([48, 49, 50, 51, 52, 53, 54, 55, 56, 57, 97, 98, 99, 100, 101, 102] : List UInt8).length : Int) then
 if (gl v5 1).length + [[DC.i (92 : Int)], [DC.i (117 : Int)], [DC.i (48 : Int)], [DC.i (48 : Int)], [DC.i ((([48, 49, 50, 51, 52, 53, 54, 55, 56, 57, 97, 98, 99, 100, 101, 102] : List UInt8).getD ((gi v5 2).fdiv (2 ^ (min (4 : Int).toNat (IntKind.u8.bits)))).toNat 0).toNat : Int)], [DC.i ((([48, 49, 50, 51, 52, 53, 54, 55, 56, 57, 97, 98, 99, 100, 101, 102] : List UInt8).getD (IntKind.u8.wrap (BitVec.ofInt (IntKind.u8.bits) (gi v5 2) &&& BitVec.ofInt (IntKind.u8.bits) (15 : Int)).toNat).toNat 0).toNat : Int)]].length < LIM then
 .norm [.s (gs v5 0), .sl ((gl v5 1) ++ [[DC.i (92 : Int)], [DC.i (117 : Int)], [DC.i (48 : Int)], [DC.i (48 : Int)], [DC.i ((([48, 49, 50, 51, 52, 53, 54, 55, 56, 57, 97, 98, 99, 100, 101, 102] : List UInt8).getD ((gi v5 2).fdiv (2 ^ (min (4 : Int).toNat (IntKind.u8.bits)))).toNat 0).toNat : Int)], [DC.i ((([48, 49, 50, 51, 52, 53, 54, 55, 56, 57, 97, 98, 99, 100, 101, 102] : List UInt8).getD (IntKind.u8.wrap (BitVec.ofInt (IntKind.u8.bits) (gi v5 2) &&& BitVec.ofInt (IntKind.u8.bits) (15 : Int)).toNat).toNat 0).toNat : Int)]]), .i (gi v5 3), .i (gi v5 4)]
 else
 .fail
 else
 .fail
 else
 .fail
 else
 if (gl v5 1).length + [[DC.i (gi v5 2)]].length < LIM then
 .norm [.s (gs v5 0), .sl ((gl v5 1) ++ [[DC.i (gi v5 2)]]), .i (gi v5 3), .i (gi v5 4)]
 else
 .fail) fun v6 =>
 .norm [.s (gs v6 0), .sl (gl v6 1), .i (gi v6 2), .i (gi v6 3)]) fun v7 =>
 .norm [.s (gs v7 0), .sl (gl v7 1), .i (gi v7 2), .i (gi v7 3)]) 2 fun v8 =>
 .norm [.s (gs v8 0), .sl (gl v8 1), .i (gi v8 2), .i (gi v8 3)]
 else
 .fail) 1 fun v9 =>
 .norm [.s (gs v9 0), .sl (gl v9 1), .i (gi v9 2), .i (IntKind.i64.wrap ((gi v9 3) + (1 : Int)))]
 else
 .ex 0 [.sl (gl v3 1)]
noncomputable def E_impl_Escaped (a : List DC) : Out :=
 Out.andThen ((r_impl_TextOk [.s (gs a 0)]).bindR fun r1 =>
 if (!(gb r1 0)) = true then
 .norm [.s (gs a 0), .b true]
 else
 .norm [.s (gs a 0), .b (decide (((gs a 0).length : Int) > (200 : Int)))]) fun v2 =>
 if (gb v2 1) = true then
 .ret [.s ([] : List UInt8)]
 else
 Out.andThenB (Loop E_impl_EscapedL1 [.s (gs v2 0), .sl [[DC.i (34 : Int)]], .i ((gs v2 0).length : Int), .i (0 : Int)]) 0 fun v10 =>
 if (gl v10 0).length + [[DC.i (34 : Int)]].length < LIM then
 .ret [.s (rowBytes ((gl v10 0) ++ [[DC.i (34 : Int)]]))]
 else
 .fail
theorem eq_impl_Escaped a : r_impl_Escaped a = E_impl_Escaped a := (Run_eq cfg 77 _ a).trans (by kernel_rfl)
noncomputable def E_impl_InText (a : List DC) : Out :=
 (r_impl_inOk [.s (gs a 0), .s (gs a 1), .s (gs a 2), .s (gs a 3), .b (gb a 4), .i (gi a 5), .s (gs a 6), .sl (gl a 7), .sl (gl a 8), .sl (gl a 9)]).bindR fun r1 =>
 if (!(gb r1 0)) = true then
 .ret [.s ([] : List UInt8)]
 else
 Out.andThen (if (!((gs a 1) == ([] : List UInt8))) = true then
 (r_impl_Escaped [.s (gs a 1)]).bindR fun r2 =>
 if (gs r2 0).length + ([32] : List UInt8).length < LIM then
 .norm [.s ((gs r2 0) ++ ([32] : List UInt8)), .s (gs a 0), .s (gs a 1), .s (gs a 2), .s (gs a 3), .b (gb a 4), .i (gi a 5), .s (gs a 6), .sl (gl a 7), .sl (gl a 8), .sl (gl a 9)]
 else
 .fail
 else
 .norm [.s ([] : List UInt8), .s (gs a 0), .s (gs a 1), .s (gs a 2), .s (gs a 3), .b (gb a 4), .i (gi a 5), .s (gs a 6), .sl (gl a 7), .sl (gl a 8), .sl (gl a 9)]) fun v3 =>
 if (gs v3 0).length + (gs v3 1).length < LIM then
 if ((gs v3 0) ++ (gs v3 1)).length + ([58, 32] : List UInt8).length < LIM then
 (r_impl_TypeText [.s (gs v3 3), .s (gs v3 4)]).bindR fun r4 =>
 if (((gs v3 0) ++ (gs v3 1)) ++ ([58, 32] : List UInt8)).length + (gs r4 0).length < LIM then
 (r_impl_defaultText [.b (gb v3 5), .i (gi v3 6), .s (gs v3 7), .sl (gl v3 8), .sl (gl v3 9)]).bindR fun r5 =>
 if ((((gs v3 0) ++ (gs v3 1)) ++ ([58, 32] : List UInt8)) ++ (gs r4 0)).length + (gs r5 0).length < LIM then
 (r_impl_DirsText [.sl (gl v3 10)]).bindR fun r6 =>
 if (((((gs v3 0) ++ (gs v3 1)) ++ ([58, 32] : List UInt8)) ++ (gs r4 0)) ++ (gs r5 0)).length + (gs r6 0).length < LIM then
 .ret [.s ((((((gs v3 0) ++ (gs v3 1)) ++ ([58, 32] : List UInt8)) ++ (gs r4 0)) ++ (gs r5 0)) ++ (gs r6 0))]
 else
 .fail
 else
 .fail
 else
 .fail
 else
 .fail
 else
 .fail
theorem eq_impl_InText a : r_impl_InText a = E_impl_InText a := (Run_eq cfg 78 _ a).trans (by kernel_rfl)
noncomputable def E_impl_DirsOk (a : List DC) : Out :=
 (r_slices_ContainsFunc_impl_Dir__impl_DirsOk_1 [.sl (gl a 0)]).bindR fun r1 =>
 .ret [.b (!(gb r1 0))]
theorem eq_impl_DirsOk a : r_impl_DirsOk a = E_impl_DirsOk a := (Run_eq cfg 82 _ a).trans (by kernel_rfl)
noncomputable def E_impl_ArgsTextL1 : List DC → Out := fun v3 =>
 if (decide ((gi v3 3) < (gi v3 2))) = true then
 Out.andThenB (if 148 = 148 ∧ 0 ≤ (gi v3 3) ∧ (gi v3 3) < ((gl v3 1).length : Int) then
 if ((((gl v3 1).getD (gi v3 3).toNat []).getD 0 d0).ss).length + ([58, 32] : List UInt8).length < LIM then
 (r_impl_printValue [.i ((((gl v3 1).getD (gi v3 3).toNat []).getD 1 d0).ii), .s ((((gl v3 1).getD (gi v3 3).toNat []).getD 2 d0).ss), .sl ((((gl v3 1).getD (gi v3 3).toNat []).getD 3 d0).ll), .sl ((((gl v3 1).getD (gi v3 3).toNat []).getD 4 d0).ll)]).bindR fun r4 =>
 if (((((gl v3 1).getD (gi v3 3).toNat []).getD 0 d0).ss) ++ ([58, 32] : List UInt8)).length + (gs r4 0).length < LIM then
 if (gl v3 0).length + [[DC.s ((((((gl v3 1).getD (gi v3 3).toNat []).getD 0 d0).ss) ++ ([58, 32] : List UInt8)) ++ (gs r4 0))]].length < LIM then
 .norm [.sl ((gl v3 0) ++ [[DC.s ((((((gl v3 1).getD (gi v3 3).toNat []).getD 0 d0).ss) ++ ([58, 32] : List UInt8)) ++ (gs r4 0))]]), .sl (gl v3 1), .i (gi v3 2), .i (gi v3 3)]
 else
 .fail
 else
 .fail
 else
 .fail
 else
 .fail) 1 fun v5 =>
 .norm [.sl (gl v5 0), .sl (gl v5 1), .i (gi v5 2), .i (IntKind.i64.wrap ((gi v5 3) + (1 : Int)))]
 else
 .ex 0 [.sl (gl v3 0)]
noncomputable def E_impl_ArgsText (a : List DC) : Out :=
 Out.andThen (if (((gl a 0).length : Int) == (0 : Int)) = true then
 .norm [.sl (gl a 0), .b true]
 else
 (r_impl_ArgsOk [.sl (gl a 0)]).bindR fun r1 =>
 .norm [.sl (gl a 0), .b (!(gb r1 0))]) fun v2 =>
 if (gb v2 1) = true then
 .ret [.s ([] : List UInt8)]
 else
 Out.andThenB (Loop E_impl_ArgsTextL1 [.sl [], .sl (gl v2 0), .i ((gl v2 0).length : Int), .i (0 : Int)]) 0 fun v6 =>
 (r_strings_Join [.sl (gl v6 0), .s ([44, 32] : List UInt8)]).bindR fun r7 =>
 if ([40] : List UInt8).length + (gs r7 0).length < LIM then
 if (([40] : List UInt8) ++ (gs r7 0)).length + ([41] : List UInt8).length < LIM then
 .ret [.s ((([40] : List UInt8) ++ (gs r7 0)) ++ ([41] : List UInt8))]
 else
 .fail
 else
 .fail
theorem eq_impl_ArgsText a : r_impl_ArgsText a = E_impl_ArgsText a := (Run_eq cfg 83 _ a).trans (by kernel_rfl)
noncomputable def E_impl_FieldText (a : List DC) : Out :=
 (r_impl_fieldOk [.s (gs a 0), .s (gs a 1), .sl (gl a 2), .s (gs a 3), .s (gs a 4), .sl (gl a 5)]).bindR fun r1 =>
 if (!(gb r1 0)) = true then
 .ret [.s ([] : List UInt8)]
 else
 (r_impl_descLine [.s ([32, 32] : List UInt8), .s (gs a 1)]).bindR fun r2 =>
 if (gs r2 0).length + ([32, 32] : List UInt8).length < LIM then
 if ((gs r2 0) ++ ([32, 32] : List UInt8)).length + (gs a 0).length < LIM then
 (r_impl_insText [.sl (gl a 2)]).bindR fun r3 =>
 if (((gs r2 0) ++ ([32, 32] : List UInt8)) ++ (gs a 0)).length + (gs r3 0).length < LIM then
 if ((((gs r2 0) ++ ([32, 32] : List UInt8)) ++ (gs a 0)) ++ (gs r3 0)).length + ([58, 32] : List UInt8).length < LIM then
 (r_impl_TypeText [.s (gs a 3), .s (gs a 4)]).bindR fun r4 =>
 if (((((gs r2 0) ++ ([32, 32] : List UInt8)) ++ (gs a 0)) ++ (gs r3 0)) ++ ([58, 32] : List UInt8)).length + (gs r4 0).length < LIM then
 (r_impl_DirsText [.sl (gl a 5)]).bindR fun r5 =>
 if ((((((gs r2 0) ++ ([32, 32] : List UInt8)) ++ (gs a 0)) ++ (gs r3 0)) ++ ([58, 32] : List UInt8)) ++ (gs r4 0)).length + (gs r5 0).length < LIM then
 if (((((((gs r2 0) ++ ([32, 32] : List UInt8)) ++ (gs a 0)) ++ (gs r3 0)) ++ ([58, 32] : List UInt8)) ++ (gs r4 0)) ++ (gs r5 0)).length + ([10] : List UInt8).length < LIM then
 .ret [.s ((((((((gs r2 0) ++ ([32, 32] : List UInt8)) ++ (gs a 0)) ++ (gs r3 0)) ++ ([58, 32] : List UInt8)) ++ (gs r4 0)) ++ (gs r5 0)) ++ ([10] : List UInt8))]
 else
 .fail
 else
 .fail
 else
 .fail
 else
 .fail
 else
 .fail
 else
 .fail
 else
 .fail
theorem eq_impl_FieldText a : r_impl_FieldText a = E_impl_FieldText a := (Run_eq cfg 84 _ a).trans (by kernel_rfl)
noncomputable def E_impl_OpWord (a : List DC) : Out :=
 (r_impl_in [.i (gi a 0), .i (1 : Int), .i (IntKind.i64.wrap (([[DC.s ([] : List UInt8)], [DC.s ([113, 117, 101, 114, 121] : List UInt8)], [DC.s ([109, 117, 116, 97, 116, 105, 111, 110] : List UInt8)], [DC.s ([115, 117, 98, 115, 99, 114, 105, 112, 116, 105, 111, 110] : List UInt8)]].length : Int) - (1 : Int)))]).bindR fun r1 =>
 if (!(gb r1 0)) = true then
 .ret [.s ([] : List UInt8)]
 else
 if 9 = 9 ∧ 0 ≤ (gi a 0) ∧ (gi a 0) < ([[DC.s ([] : List UInt8)], [DC.s ([113, 117, 101, 114, 121] : List UInt8)], [DC.s ([109, 117, 116, 97, 116, 105, 111, 110] : List UInt8)], [DC.s ([115, 117, 98, 115, 99, 114, 105, 112, 116, 105, 111, 110] : List UInt8)]].length : Int) then
 .ret [.s ((([[DC.s ([] : List UInt8)], [DC.s ([113, 117, 101, 114, 121] : List UInt8)], [DC.s ([109, 117, 116, 97, 116, 105, 111, 110] : List UInt8)], [DC.s ([115, 117, 98, 115, 99, 114, 105, 112, 116, 105, 111, 110] : List UInt8)]].getD (gi a 0).toNat []).getD 0 d0).ss)]
 else
 .fail
theorem eq_impl_OpWord a : r_impl_OpWord a = E_impl_OpWord a := (Run_eq cfg 85 _ a).trans (by kernel_rfl)
noncomputable def E_laws_eqFieldDef (a : List DC) : Out :=
 if (!((gs a 0) == (gs a 6))) = true then
 .ret [.b false]
 else
 if (!((gs a 1) == (gs a 7))) = true then
 .ret [.b false]
 else
 (r_laws_eqInDefS [.sl (gl a 2), .sl (gl a 8)]).bindR fun r1 =>
 if (!(gb r1 0)) = true then
 .ret [.b false]
 else
 (r_laws_eqType [.s (gs a 3), .s (gs a 4), .s (gs a 9), .s (gs a 10)]).bindR fun r2 =>
 if (!(gb r2 0)) = true then
 .ret [.b false]
 else
 (r_laws_eqDirS [.sl (gl a 5), .sl (gl a 11)]).bindR fun r3 =>
 if (!(gb r3 0)) = true then
 .ret [.b false]
 else
 .ret [.b true]
theorem eq_laws_eqFieldDef a : r_laws_eqFieldDef a = E_laws_eqFieldDef a := (Run_eq cfg 86 _ a).trans (by kernel_rfl)
noncomputable def E_laws_eqInDef (a : List DC) : Out :=
 if (!((gs a 0) == (gs a 10))) = true then
 .ret [.b false]
 else
 if (!((gs a 1) == (gs a 11))) = true then
 .ret [.b false]
 else
 (r_laws_eqType [.s (gs a 2), .s (gs a 3), .s (gs a 12), .s (gs a 13)]).bindR fun r1 =>
 if (!(gb r1 0)) = true then
 .ret [.b false]
 else
 if (!((gb a 4) == (gb a 14))) = true then
 .ret [.b false]
 else
 (r_laws_eqValue [.i (gi a 5), .s (gs a 6), .sl (gl a 7), .sl (gl a 8), .i (gi a 15), .s (gs a 16), .sl (gl a 17), .sl (gl a 18)]).bindR fun r2 =>
 if (!(gb r2 0)) = true then
 .ret [.b false]
 else
 (r_laws_eqDirS [.sl (gl a 9), .sl (gl a 19)]).bindR fun r3 =>
 if (!(gb r3 0)) = true then
 .ret [.b false]
 else
 .ret [.b true]
theorem eq_laws_eqInDef a : r_laws_eqInDef a = E_laws_eqInDef a := (Run_eq cfg 87 _ a).trans (by kernel_rfl)
noncomputable def E_laws_eqEnumDef (a : List DC) : Out :=
 if (!((gs a 0) == (gs a 3))) = true then
 .ret [.b false]
 else
 if (!((gs a 1) == (gs a 4))) = true then
 .ret [.b false]
 else
 (r_laws_eqDirS [.sl (gl a 2), .sl (gl a 5)]).bindR fun r1 =>
 if (!(gb r1 0)) = true then
 .ret [.b false]
 else
 .ret [.b true]
theorem eq_laws_eqEnumDef a : r_laws_eqEnumDef a = E_laws_eqEnumDef a := (Run_eq cfg 88 _ a).trans (by kernel_rfl)
noncomputable def E_laws_eqRoot (a : List DC) : Out :=
 if ((gi a 0) != (gi a 2)) = true then
 .ret [.b false]
 else
 if (!((gs a 1) == (gs a 3))) = true then
 .ret [.b false]
 else
 .ret [.b true]
theorem eq_laws_eqRoot a : r_laws_eqRoot a = E_laws_eqRoot a := (Run_eq cfg 89 _ a).trans (by kernel_rfl)
noncomputable def E_laws_eqDir (a : List DC) : Out :=
 if (!((gs a 0) == (gs a 2))) = true then
 .ret [.b false]
 else
 (r_laws_eqArgS [.sl (gl a 1), .sl (gl a 3)]).bindR fun r1 =>
 if (!(gb r1 0)) = true then
 .ret [.b false]
 else
 .ret [.b true]
theorem eq_laws_eqDir a : r_laws_eqDir a = E_laws_eqDir a := (Run_eq cfg 90 _ a).trans (by kernel_rfl)
noncomputable def E_laws_szType (a : List DC) : Out :=
 if (decide ((IntKind.i64.wrap ((gi a 2) - ((gs a 0).length : Int))) < (0 : Int))) = true then
 .ret [.i (-1 : Int)]
 else
 if (decide ((IntKind.i64.wrap ((IntKind.i64.wrap ((gi a 2) - ((gs a 0).length : Int))) - ((gs a 1).length : Int))) < (0 : Int))) = true then
 .ret [.i (-1 : Int)]
 else
 .ret [.i (IntKind.i64.wrap ((IntKind.i64.wrap ((gi a 2) - ((gs a 0).length : Int))) - ((gs a 1).length : Int)))]
theorem eq_laws_szType a : r_laws_szType a = E_laws_szType a := (Run_eq cfg 91 _ a).trans (by kernel_rfl)
noncomputable def E_laws_szValue (a : List DC) : Out :=
 if (decide ((IntKind.i64.wrap ((gi a 4) - ((gs a 1).length : Int))) < (0 : Int))) = true then
 .ret [.i (-1 : Int)]
 else
 (r_laws_szValueS [.sl (gl a 2), .i (IntKind.i64.wrap ((gi a 4) - ((gs a 1).length : Int)))]).bindR fun r1 =>
 if (decide ((gi r1 0) < (0 : Int))) = true then
 .ret [.i (-1 : Int)]
 else
 (r_laws_szStringS [.sl (gl a 3), .i (gi r1 0)]).bindR fun r2 =>
 if (decide ((gi r2 0) < (0 : Int))) = true then
 .ret [.i (-1 : Int)]
 else
 .ret [.i (gi r2 0)]
theorem eq_laws_szValue a : r_laws_szValue a = E_laws_szValue a := (Run_eq cfg 92 _ a).trans (by kernel_rfl)
noncomputable def E_laws_szArgSL1 : List DC → Out := fun v1 =>
 if (decide ((gi v1 2) < ((gl v1 0).length : Int))) = true then
 Out.andThenB (if 175 = 175 ∧ 0 ≤ (gi v1 2) ∧ (gi v1 2) < ((gl v1 0).length : Int) then
 (r_laws_szArg [.s ((((gl v1 0).getD (gi v1 2).toNat []).getD 0 d0).ss), .i ((((gl v1 0).getD (gi v1 2).toNat []).getD 1 d0).ii), .s ((((gl v1 0).getD (gi v1 2).toNat []).getD 2 d0).ss), .sl ((((gl v1 0).getD (gi v1 2).toNat []).getD 3 d0).ll), .sl ((((gl v1 0).getD (gi v1 2).toNat []).getD 4 d0).ll), .i (gi v1 1)]).bindR fun r2 =>
 if (decide ((gi r2 0) < (0 : Int))) = true then
 .ret [.i (-1 : Int)]
 else
 .norm [.sl (gl v1 0), .i (gi r2 0), .i (gi v1 2)]
 else
 .fail) 1 fun v3 =>
 .norm [.sl (gl v3 0), .i (gi v3 1), .i (IntKind.i64.wrap ((gi v3 2) + (1 : Int)))]
 else
 .ex 0 [.i (gi v1 1)]
noncomputable def E_laws_szArgS (a : List DC) : Out :=
 if (decide ((IntKind.i64.wrap ((gi a 1) - ((gl a 0).length : Int))) < (0 : Int))) = true then
 .ret [.i (-1 : Int)]
 else
 Out.andThenB (Loop E_laws_szArgSL1 [.sl (gl a 0), .i (IntKind.i64.wrap ((gi a 1) - ((gl a 0).length : Int))), .i (0 : Int)]) 0 fun v4 =>
 .ret [.i (gi v4 0)]
theorem eq_laws_szArgS a : r_laws_szArgS a = E_laws_szArgS a := (Run_eq cfg 93 _ a).trans (by kernel_rfl)
noncomputable def E_laws_toType (a : List DC) : Out :=
 .ret [.s (gs a 0), .s (gs a 1)]
theorem eq_laws_toType a : r_laws_toType a = E_laws_toType a := (Run_eq cfg 102 _ a).trans (by kernel_rfl)
noncomputable def E_laws_toValue (a : List DC) : Out :=
 (r_laws_toValueS [.sl (gl a 2)]).bindR fun r1 =>
 (r_laws_toStringS [.sl (gl a 3)]).bindR fun r2 =>
 .ret [.i (gi a 0), .s (gs a 1), .sl (gl r1 0), .sl (gl r2 0)]
theorem eq_laws_toValue a : r_laws_toValue a = E_laws_toValue a := (Run_eq cfg 103 _ a).trans (by kernel_rfl)
noncomputable def E_laws_toArgSL1 : List DC → Out := fun v1 =>
 if (decide ((gi v1 2) < ((gl v1 0).length : Int))) = true then
 Out.andThenB (if 175 = 175 ∧ 0 ≤ (gi v1 2) ∧ (gi v1 2) < ((gl v1 0).length : Int) then
 (r_laws_toArg [.s ((((gl v1 0).getD (gi v1 2).toNat []).getD 0 d0).ss), .i ((((gl v1 0).getD (gi v1 2).toNat []).getD 1 d0).ii), .s ((((gl v1 0).getD (gi v1 2).toNat []).getD 2 d0).ss), .sl ((((gl v1 0).getD (gi v1 2).toNat []).getD 3 d0).ll), .sl ((((gl v1 0).getD (gi v1 2).toNat []).getD 4 d0).ll)]).bindR fun r2 =>
 if 148 = 148 ∧ 0 ≤ (gi v1 2) ∧ (gi v1 2) < ((gl v1 1).length : Int) then
 .norm [.sl (gl v1 0), .sl ((gl v1 1).set ((gi v1 2).toNat) (setRunD ((gl v1 1).getD ((gi v1 2).toNat) []) 0 [DC.s (gs r2 0), DC.i (gi r2 1), DC.s (gs r2 2), DC.sl (gl r2 3), DC.sl (gl r2 4)])), .i (gi v1 2)]
 else
 .fail
 else
 .fail) 1 fun v3 =>
 .norm [.sl (gl v3 0), .sl (gl v3 1), .i (IntKind.i64.wrap ((gi v3 2) + (1 : Int)))]
 else
 .ex 0 [.sl (gl v1 1)]
noncomputable def E_laws_toArgS (a : List DC) : Out :=
 if 0 ≤ ((gl a 0).length : Int) ∧ ((gl a 0).length : Int) < (LIM : Int) ∧ ((gl a 0).length : Int) = ((gl a 0).length : Int) ∧ 88 ≤ 1024 ∧ 0 < 5 then
 Out.andThenB (Loop E_laws_toArgSL1 [.sl (gl a 0), .sl (List.replicate ((gl a 0).length : Int).toNat [DC.s [], DC.i 0, DC.s [], DC.sl [], DC.sl []]), .i (0 : Int)]) 0 fun v4 =>
 .ret [.sl (gl v4 0)]
 else
 .fail
theorem eq_laws_toArgS a : r_laws_toArgS a = E_laws_toArgS a := (Run_eq cfg 104 _ a).trans (by kernel_rfl)
noncomputable def E_spec_PlaceOk (a : List DC) : Out :=
 Out.andThenB (Out.andThen (if ((gs a 0) == ([81, 85, 69, 82, 89] : List UInt8)) = true then
 .norm [.b ((gs a 0) == ([81, 85, 69, 82, 89] : List UInt8))]
 else
 Out.andThen (if ((gs a 0) == ([77, 85, 84, 65, 84, 73, 79, 78] : List UInt8)) = true then
 .norm [.b ((gs a 0) == ([77, 85, 84, 65, 84, 73, 79, 78] : List UInt8))]
 else
 Out.andThen (if ((gs a 0) == ([83, 85, 66, 83, 67, 82, 73, 80, 84, 73, 79, 78] : List UInt8)) = true then
 .norm [.b ((gs a 0) == ([83, 85, 66, 83, 67, 82, 73, 80, 84, 73, 79, 78] : List UInt8))]
 else
 Out.andThen (if ((gs a 0) == ([70, 73, 69, 76, 68] : List UInt8)) = true then
 .norm [.b ((gs a 0) == ([70, 73, 69, 76, 68] : List UInt8))]
 else
 Out.andThen (if ((gs a 0) == ([70, 82, 65, 71, 77, 69, 78, 84, 95, 68, 69, 70, 73, 78, 73, 84, 73, 79, 78] : List UInt8)) = true then
 .norm [.b ((gs a 0) == ([70, 82, 65, 71, 77, 69, 78, 84, 95, 68, 69, 70, 73, 78, 73, 84, 73, 79, 78] : List UInt8))]
 else
 Out.andThen (if ((gs a 0) == ([70, 82, 65, 71, 77, 69, 78, 84, 95, 83, 80, 82, 69, 65, 68] : List UInt8)) = true then
 .norm [.b ((gs a 0) == ([70, 82, 65, 71, 77, 69, 78, 84, 95, 83, 80, 82, 69, 65, 68] : List UInt8))]
 else
 Out.andThen (if ((gs a 0) == ([73, 78, 76, 73, 78, 69, 95, 70, 82, 65, 71, 77, 69, 78, 84] : List UInt8)) = true then
 .norm [.b ((gs a 0) == ([73, 78, 76, 73, 78, 69, 95, 70, 82, 65, 71, 77, 69, 78, 84] : List UInt8))]
 else
 Out.andThen (if ((gs a 0) == ([86, 65, 82, 73, 65, 66, 76, 69, 95, 68, 69, 70, 73, 78, 73, 84, 73, 79, 78] : List UInt8)) = true then
 .norm [.b ((gs a 0) == ([86, 65, 82, 73, 65, 66, 76, 69, 95, 68, 69, 70, 73, 78, 73, 84, 73, 79, 78] : List UInt8))]
 else
 Out.andThen (if ((gs a 0) == ([83, 67, 72, 69, 77, 65] : List UInt8)) = true then
 .norm [.b ((gs a 0) == ([83, 67, 72, 69, 77, 65] : List UInt8))]
 else
 Out.andThen (if ((gs a 0) == ([83, 67, 65, 76, 65, 82] : List UInt8)) = true then
 .norm [.b ((gs a 0) == ([83, 67, 65, 76, 65, 82] : List UInt8))]
 else
 Out.andThen (if ((gs a 0) == ([79, 66, 74, 69, 67, 84] : List UInt8)) = true then
 .norm [.b ((gs a 0) == ([79, 66, 74, 69, 67, 84] : List UInt8))]
 else
 Out.andThen (if ((gs a 0) == ([70, 73, 69, 76, 68, 95, 68, 69, 70, 73, 78, 73, 84, 73, 79, 78] : List UInt8)) = true then
 .norm [.b ((gs a 0) == ([70, 73, 69, 76, 68, 95, 68, 69, 70, 73, 78, 73, 84, 73, 79, 78] : List UInt8))]
 else
 Out.andThen (if ((gs a 0) == ([65, 82, 71, 85, 77, 69, 78, 84, 95, 68, 69, 70, 73, 78, 73, 84, 73, 79, 78] : List UInt8)) = true then
 .norm [.b ((gs a 0) == ([65, 82, 71, 85, 77, 69, 78, 84, 95, 68, 69, 70, 73, 78, 73, 84, 73, 79, 78] : List UInt8))]
 else
 Out.andThen (if ((gs a 0) == ([73, 78, 84, 69, 82, 70, 65, 67, 69] : List UInt8)) = true then
 .norm [.b ((gs a 0) == ([73, 78, 84, 69, 82, 70, 65, 67, 69] : List UInt8))]
 else
 Out.andThen (if ((gs a 0) == ([85, 78, 73, 79, 78] : List UInt8)) = true then
 .norm [.b ((gs a 0) == ([85, 78, 73, 79, 78] : List UInt8))]
 else
 Out.andThen (if ((gs a 0) == ([69, 78, 85, 77] : List UInt8)) = true then
 .norm [.b ((gs a 0) == ([69, 78, 85, 77] : List UInt8))]
 else
 Out.andThen (if ((gs a 0) == ([69, 78, 85, 77, 95, 86, 65, 76, 85, 69] : List UInt8)) = true then
 .norm [.b ((gs a 0) == ([69, 78, 85, 77, 95, 86, 65, 76, 85, 69] : List UInt8))]
 else
 Out.andThen (if ((gs a 0) == ([73, 78, 80, 85, 84, 95, 79, 66, 74, 69, 67, 84] : List UInt8)) = true then
 .norm [.b ((gs a 0) == ([73, 78, 80, 85, 84, 95, 79, 66, 74, 69, 67, 84] : List UInt8))]
 else
 .norm [.b ((gs a 0) == ([73, 78, 80, 85, 84, 95, 70, 73, 69, 76, 68, 95, 68, 69, 70, 73, 78, 73, 84, 73, 79, 78] : List UInt8))]) fun v1 =>
 .norm [.b (gb v1 0)]) fun v2 =>
 .norm [.b (gb v2 0)]) fun v3 =>
 .norm [.b (gb v3 0)]) fun v4 =>
 .norm [.b (gb v4 0)]) fun v5 =>
 .norm [.b (gb v5 0)]) fun v6 =>
 .norm [.b (gb v6 0)]) fun v7 =>
 .norm [.b (gb v7 0)]) fun v8 =>
 .norm [.b (gb v8 0)]) fun v9 =>
 .norm [.b (gb v9 0)]) fun v10 =>
 .norm [.b (gb v10 0)]) fun v11 =>
 .norm [.b (gb v11 0)]) fun v12 =>
 .norm [.b (gb v12 0)]) fun v13 =>
 .norm [.b (gb v13 0)]) fun v14 =>
 .norm [.b (gb v14 0)]) fun v15 =>
 .norm [.b (gb v15 0)]) fun v16 =>
 .norm [.b (gb v16 0)]) fun v17 =>
 .norm [.b (gb v17 0)]) fun v18 =>
 if (gb v18 0) = true then
 .ret [.b true]
 else
 .norm []) 0 fun v19 =>
 .ret [.b false]
theorem eq_spec_PlaceOk a : r_spec_PlaceOk a = E_spec_PlaceOk a := (Run_eq cfg 94 _ a).trans (by kernel_rfl)
noncomputable def E_spec_l03Figure (a : List DC) : Out :=
 Out.andThen (if (decide ((gi a 0) ≥ (48 : Int))) = true then
 .norm [.b (decide ((gi a 0) ≤ (57 : Int)))]
 else
 .norm [.b false]) fun v1 =>
 .ret [.b (gb v1 0)]
theorem eq_spec_l03Figure a : r_spec_l03Figure a = E_spec_l03Figure a := (Run_eq cfg 95 _ a).trans (by kernel_rfl)
noncomputable def E_spec_l03Letter (a : List DC) : Out :=
 Out.andThen (if (decide ((gi a 0) ≥ (97 : Int))) = true then
 if (decide ((gi a 0) ≤ (122 : Int))) = true then
 .norm [.b true]
 else
 if (decide ((gi a 0) ≥ (65 : Int))) = true then
 if (decide ((gi a 0) ≤ (90 : Int))) = true then
 .norm [.b true]
 else
 .norm [.b ((gi a 0) == (95 : Int))]
 else
 .norm [.b ((gi a 0) == (95 : Int))]
 else
 if (decide ((gi a 0) ≥ (65 : Int))) = true then
 if (decide ((gi a 0) ≤ (90 : Int))) = true then
 .norm [.b true]
 else
 .norm [.b ((gi a 0) == (95 : Int))]
 else
 .norm [.b ((gi a 0) == (95 : Int))]) fun v1 =>
 .ret [.b (gb v1 0)]
theorem eq_spec_l03Letter a : r_spec_l03Letter a = E_spec_l03Letter a := (Run_eq cfg 96 _ a).trans (by kernel_rfl)
noncomputable def E_spec_l13In (a : List DC) : Out :=
 Out.andThen ((r_spec_NameOk [.s (gs a 0)]).bindR fun r1 =>
 if (gb r1 0) = true then
 (r_spec_l13Desc [.s (gs a 1)]).bindR fun r2 =>
 if (gb r2 0) = true then
 (r_spec_TypeOk [.s (gs a 2), .s (gs a 3)]).bindR fun r3 =>
 if (gb r3 0) = true then
 (r_spec_l12Default [.b (gb a 4), .i (gi a 5), .s (gs a 6), .sl (gl a 7), .sl (gl a 8)]).bindR fun r4 =>
 if (gb r4 0) = true then
 (r_spec_l12Consts [.sl (gl a 9)]).bindR fun r5 =>
 .norm [.b (gb r5 0)]
 else
 .norm [.b false]
 else
 .norm [.b false]
 else
 .norm [.b false]
 else
 .norm [.b false]) fun v6 =>
 .ret [.b (gb v6 0)]
theorem eq_spec_l13In a : r_spec_l13In a = E_spec_l13In a := (Run_eq cfg 97 _ a).trans (by kernel_rfl)
noncomputable def E_spec_IsConst (a : List DC) : Out :=
 (r_spec_l07Const [.i (gi a 0), .s (gs a 1), .sl (gl a 2), .sl (gl a 3)]).bindR fun r1 =>
 .ret [.b (gb r1 0)]
theorem eq_spec_IsConst a : r_spec_IsConst a = E_spec_IsConst a := (Run_eq cfg 98 _ a).trans (by kernel_rfl)
noncomputable def E_spec_DirsOkL1 : List DC → Out := fun v1 =>
 if (decide ((gi v1 1) < ((gl v1 0).length : Int))) = true then
 Out.andThenB (Out.andThen (if 114 = 114 ∧ 0 ≤ (gi v1 1) ∧ (gi v1 1) < ((gl v1 0).length : Int) then
 (r_spec_NameOk [.s ((((gl v1 0).getD (gi v1 1).toNat []).getD 0 d0).ss)]).bindR fun r2 =>
 if (!(gb r2 0)) = true then
 .norm [.sl (gl v1 0), .i (gi v1 1), .b true]
 else
 if 114 = 114 ∧ 0 ≤ (gi v1 1) ∧ (gi v1 1) < ((gl v1 0).length : Int) then
 (r_spec_ArgsOk [.sl ((((gl v1 0).getD (gi v1 1).toNat []).getD 1 d0).ll)]).bindR fun r3 =>
 .norm [.sl (gl v1 0), .i (gi v1 1), .b (!(gb r3 0))]
 else
 .fail
 else
 .fail) fun v4 =>
 if (gb v4 2) = true then
 .ret [.b false]
 else
 .norm [.sl (gl v4 0), .i (gi v4 1)]) 1 fun v5 =>
 .norm [.sl (gl v5 0), .i (IntKind.i64.wrap ((gi v5 1) + (1 : Int)))]
 else
 .ex 0 []
noncomputable def E_spec_DirsOk (a : List DC) : Out :=
 Out.andThenB (Loop E_spec_DirsOkL1 [.sl (gl a 0), .i (0 : Int)]) 0 fun v6 =>
 .ret [.b true]
theorem eq_spec_DirsOk a : r_spec_DirsOk a = E_spec_DirsOk a := (Run_eq cfg 99 _ a).trans (by kernel_rfl)
noncomputable def E_spec_TypeOkL1 : List DC → Out := fun v3 =>
 if (decide ((gi v3 0) < ((gs v3 2).length : Int))) = true then
 Out.andThenB (Out.andThen (if 0 ≤ (gi v3 0) ∧ (gi v3 0) < ((gs v3 2).length : Int) then
 if ((((gs v3 2).getD (gi v3 0).toNat 0).toNat : Int) != (33 : Int)) = true then
 if 0 ≤ (gi v3 0) ∧ (gi v3 0) < ((gs v3 2).length : Int) then
 if ((((gs v3 2).getD (gi v3 0).toNat 0).toNat : Int) != (93 : Int)) = true then
 .norm [.i (gi v3 0), .b true, .s (gs v3 1), .s (gs v3 2)]
 else
 if (decide ((gi v3 0) > (0 : Int))) = true then
 if 0 ≤ (gi v3 0) ∧ (gi v3 0) < ((gs v3 2).length : Int) then
 if ((((gs v3 2).getD (gi v3 0).toNat 0).toNat : Int) == (33 : Int)) = true then
 if 0 ≤ (IntKind.i64.wrap ((gi v3 0) - (1 : Int))) ∧ (IntKind.i64.wrap ((gi v3 0) - (1 : Int))) < ((gs v3 2).length : Int) then
 .norm [.i (gi v3 0), .b ((((gs v3 2).getD (IntKind.i64.wrap ((gi v3 0) - (1 : Int))).toNat 0).toNat : Int) == (33 : Int)), .s (gs v3 1), .s (gs v3 2)]
 else
 .fail
 else
 .norm [.i (gi v3 0), .b false, .s (gs v3 1), .s (gs v3 2)]
 else
 .fail
 else
 .norm [.i (gi v3 0), .b false, .s (gs v3 1), .s (gs v3 2)]
 else
 .fail
 else
 if (decide ((gi v3 0) > (0 : Int))) = true then
 if 0 ≤ (gi v3 0) ∧ (gi v3 0) < ((gs v3 2).length : Int) then
 if ((((gs v3 2).getD (gi v3 0).toNat 0).toNat : Int) == (33 : Int)) = true then
 if 0 ≤ (IntKind.i64.wrap ((gi v3 0) - (1 : Int))) ∧ (IntKind.i64.wrap ((gi v3 0) - (1 : Int))) < ((gs v3 2).length : Int) then
 .norm [.i (gi v3 0), .b ((((gs v3 2).getD (IntKind.i64.wrap ((gi v3 0) - (1 : Int))).toNat 0).toNat : Int) == (33 : Int)), .s (gs v3 1), .s (gs v3 2)]
 else
 .fail
 else
 .norm [.i (gi v3 0), .b false, .s (gs v3 1), .s (gs v3 2)]
 else
 .fail
 else
 .norm [.i (gi v3 0), .b false, .s (gs v3 1), .s (gs v3 2)]
 else
 .fail) fun v4 =>
 if (gb v4 1) = true then
 .ret [.b false]
 else
 .norm [.i (gi v4 0), .s (gs v4 2), .s (gs v4 3)]) 1 fun v5 =>
 .norm [.i (IntKind.i64.wrap ((gi v5 0) + (1 : Int))), .s (gs v5 1), .s (gs v5 2)]
 else
 .ex 0 []
noncomputable def E_spec_TypeOk (a : List DC) : Out :=
 Out.andThen ((r_spec_NameOk [.s (gs a 0)]).bindR fun r1 =>
 if (!(gb r1 0)) = true then
 .norm [.b true, .s (gs a 0), .s (gs a 1)]
 else
 .norm [.b (decide (((gs a 1).length : Int) > (8 : Int))), .s (gs a 0), .s (gs a 1)]) fun v2 =>
 if (gb v2 0) = true then
 .ret [.b false]
 else
 Out.andThenB (Loop E_spec_TypeOkL1 [.i (0 : Int), .s (gs v2 1), .s (gs v2 2)]) 0 fun v6 =>
 .ret [.b true]
theorem eq_spec_TypeOk a : r_spec_TypeOk a = E_spec_TypeOk a := (Run_eq cfg 100 _ a).trans (by kernel_rfl)
noncomputable def E_spec_RuneAtL1 : List DC → Out := fun v8 =>
 if (decide ((gi v8 4) < (gi v8 2))) = true then
 Out.andThenB (if 0 ≤ (IntKind.i64.wrap ((gi v8 1) + (gi v8 4))) ∧ (IntKind.i64.wrap ((gi v8 1) + (gi v8 4))) < ((gs v8 0).length : Int) then
 Out.andThen (if (decide ((IntKind.i64.wrap (((gs v8 0).getD (IntKind.i64.wrap ((gi v8 1) + (gi v8 4))).toNat 0).toNat : Int)) < (128 : Int))) = true then
 .norm [.s (gs v8 0), .i (gi v8 1), .i (gi v8 2), .i (gi v8 3), .i (gi v8 4), .i (IntKind.i64.wrap (((gs v8 0).getD (IntKind.i64.wrap ((gi v8 1) + (gi v8 4))).toNat 0).toNat : Int)), .b true]
 else
 .norm [.s (gs v8 0), .i (gi v8 1), .i (gi v8 2), .i (gi v8 3), .i (gi v8 4), .i (IntKind.i64.wrap (((gs v8 0).getD (IntKind.i64.wrap ((gi v8 1) + (gi v8 4))).toNat 0).toNat : Int)), .b (decide ((IntKind.i64.wrap (((gs v8 0).getD (IntKind.i64.wrap ((gi v8 1) + (gi v8 4))).toNat 0).toNat : Int)) > (191 : Int)))]) fun v9 =>
 if (gb v9 6) = true then
 .ret [.i (-1 : Int), .i (0 : Int)]
 else
 .norm [.s (gs v9 0), .i (gi v9 1), .i (gi v9 2), .i (IntKind.i64.wrap ((IntKind.i64.wrap ((IntKind.i64.wrap ((gi v9 3) * (64 : Int))) + (gi v9 5))) - (128 : Int))), .i (gi v9 4)]
 else
 .fail) 2 fun v10 =>
 .norm [.s (gs v10 0), .i (gi v10 1), .i (gi v10 2), .i (gi v10 3), .i (IntKind.i64.wrap ((gi v10 4) + (1 : Int)))]
 else
 .ex 1 [.i (gi v8 2), .i (gi v8 3)]
noncomputable def E_spec_RuneAt (a : List DC) : Out :=
 Out.andThen (if (decide ((gi a 1) < (0 : Int))) = true then
 .norm [.s (gs a 0), .i (gi a 1), .b true]
 else
 .norm [.s (gs a 0), .i (gi a 1), .b (decide ((gi a 1) ≥ ((gs a 0).length : Int)))]) fun v1 =>
 if (gb v1 2) = true then
 .ret [.i (-1 : Int), .i (0 : Int)]
 else
 if 0 ≤ (gi v1 1) ∧ (gi v1 1) < ((gs v1 0).length : Int) then
 Out.andThenB (if (decide ((IntKind.i64.wrap (((gs v1 0).getD (gi v1 1).toNat 0).toNat : Int)) < (128 : Int))) = true then
 .ret [.i (IntKind.i64.wrap (((gs v1 0).getD (gi v1 1).toNat 0).toNat : Int)), .i (1 : Int)]
 else
 Out.andThen (if (decide ((IntKind.i64.wrap (((gs v1 0).getD (gi v1 1).toNat 0).toNat : Int)) ≥ (194 : Int))) = true then
 .norm [.s (gs v1 0), .i (gi v1 1), .i (IntKind.i64.wrap (((gs v1 0).getD (gi v1 1).toNat 0).toNat : Int)), .b (decide ((IntKind.i64.wrap (((gs v1 0).getD (gi v1 1).toNat 0).toNat : Int)) < (224 : Int)))]
 else
 .norm [.s (gs v1 0), .i (gi v1 1), .i (IntKind.i64.wrap (((gs v1 0).getD (gi v1 1).toNat 0).toNat : Int)), .b false]) fun v2 =>
 Out.andThen (if (gb v2 3) = true then
 .norm [.s (gs v2 0), .i (gi v2 1), .i (2 : Int), .i (IntKind.i64.wrap ((gi v2 2) - (192 : Int)))]
 else
 Out.andThen (if (decide ((gi v2 2) ≥ (224 : Int))) = true then
 .norm [.s (gs v2 0), .i (gi v2 1), .i (gi v2 2), .b (decide ((gi v2 2) < (240 : Int)))]
 else
 .norm [.s (gs v2 0), .i (gi v2 1), .i (gi v2 2), .b false]) fun v3 =>
 Out.andThen (if (gb v3 3) = true then
 .norm [.s (gs v3 0), .i (gi v3 1), .i (3 : Int), .i (IntKind.i64.wrap ((gi v3 2) - (224 : Int)))]
 else
 Out.andThen (if (decide ((gi v3 2) ≥ (240 : Int))) = true then
 .norm [.s (gs v3 0), .i (gi v3 1), .i (gi v3 2), .b (decide ((gi v3 2) < (245 : Int)))]
 else
 .norm [.s (gs v3 0), .i (gi v3 1), .i (gi v3 2), .b false]) fun v4 =>
 if (gb v4 3) = true then
 .norm [.s (gs v4 0), .i (gi v4 1), .i (4 : Int), .i (IntKind.i64.wrap ((gi v4 2) - (240 : Int)))]
 else
 .ret [.i (-1 : Int), .i (0 : Int)]) fun v5 =>
 .norm [.s (gs v5 0), .i (gi v5 1), .i (gi v5 2), .i (gi v5 3)]) fun v6 =>
 .norm [.s (gs v6 0), .i (gi v6 1), .i (gi v6 2), .i (gi v6 3)]) 0 fun v7 =>
 if (decide ((IntKind.i64.wrap ((gi v7 1) + (gi v7 2))) > ((gs v7 0).length : Int))) = true then
 .ret [.i (-1 : Int), .i (0 : Int)]
 else
 Out.andThenB (Loop E_spec_RuneAtL1 [.s (gs v7 0), .i (gi v7 1), .i (gi v7 2), .i (gi v7 3), .i (1 : Int)]) 1 fun v11 =>
 (r_spec_RuneText [.i (gi v11 1)]).bindR fun r12 =>
 if (((gs r12 0).length : Int) != (gi v11 0)) = true then
 .ret [.i (-1 : Int), .i (0 : Int)]
 else
 .ret [.i (gi v11 1), .i (gi v11 0)]
 else
 .fail
theorem eq_spec_RuneAt a : r_spec_RuneAt a = E_spec_RuneAt a := (Run_eq cfg 101 _ a).trans (by kernel_rfl)
noncomputable def E_slices_ContainsFunc_impl_FieldDef__impl_partsOk_1 (a : List DC) : Out :=
 (r_slices_IndexFunc_impl_FieldDef__impl_partsOk_1 [.sl (gl a 0)]).bindR fun r1 =>
 .ret [.b (decide ((gi r1 0) ≥ (0 : Int)))]
theorem eq_slices_ContainsFunc_impl_FieldDef__impl_partsOk_1 a : r_slices_ContainsFunc_impl_FieldDef__impl_partsOk_1 a = E_slices_ContainsFunc_impl_FieldDef__impl_partsOk_1 a := (Run_eq cfg 105 _ a).trans (by kernel_rfl)
noncomputable def E_impl_insOk (a : List DC) : Out :=
 (r_slices_ContainsFunc_impl_InDef__impl_insOk_1 [.sl (gl a 0)]).bindR fun r1 =>
 .ret [.b (!(gb r1 0))]
theorem eq_impl_insOk a : r_impl_insOk a = E_impl_insOk a := (Run_eq cfg 108 _ a).trans (by kernel_rfl)
noncomputable def E_slices_ContainsFunc_impl_EnumDef__impl_partsOk_2 (a : List DC) : Out :=
 (r_slices_IndexFunc_impl_EnumDef__impl_partsOk_2 [.sl (gl a 0)]).bindR fun r1 =>
 .ret [.b (decide ((gi r1 0) ≥ (0 : Int)))]
theorem eq_slices_ContainsFunc_impl_EnumDef__impl_partsOk_2 a : r_slices_ContainsFunc_impl_EnumDef__impl_partsOk_2 a = E_slices_ContainsFunc_impl_EnumDef__impl_partsOk_2 a := (Run_eq cfg 109 _ a).trans (by kernel_rfl)
noncomputable def E_slices_ContainsFunc_impl_Root__impl_partsOk_3 (a : List DC) : Out :=
 (r_slices_IndexFunc_impl_Root__impl_partsOk_3 [.sl (gl a 0)]).bindR fun r1 =>
 .ret [.b (decide ((gi r1 0) ≥ (0 : Int)))]
theorem eq_slices_ContainsFunc_impl_Root__impl_partsOk_3 a : r_slices_ContainsFunc_impl_Root__impl_partsOk_3 a = E_slices_ContainsFunc_impl_Root__impl_partsOk_3 a := (Run_eq cfg 112 _ a).trans (by kernel_rfl)
noncomputable def E_slices_ContainsFunc_string__impl_partsOk_4 (a : List DC) : Out :=
 (r_slices_IndexFunc_string__impl_partsOk_4 [.sl (gl a 0)]).bindR fun r1 =>
 .ret [.b (decide ((gi r1 0) ≥ (0 : Int)))]
theorem eq_slices_ContainsFunc_string__impl_partsOk_4 a : r_slices_ContainsFunc_string__impl_partsOk_4 a = E_slices_ContainsFunc_string__impl_partsOk_4 a := (Run_eq cfg 74 _ a).trans (by kernel_rfl)
noncomputable def E_impl_constDirs (a : List DC) : Out :=
 Out.andThen ((r_impl_DirsOk [.sl (gl a 0)]).bindR fun r1 =>
 if (gb r1 0) = true then
 (r_slices_ContainsFunc_impl_Dir__impl_constDirs_1 [.sl (gl a 0)]).bindR fun r2 =>
 .norm [.b (!(gb r2 0))]
 else
 .norm [.b false]) fun v3 =>
 .ret [.b (gb v3 0)]
theorem eq_impl_constDirs a : r_impl_constDirs a = E_impl_constDirs a := (Run_eq cfg 116 _ a).trans (by kernel_rfl)
noncomputable def E_impl_isFigure (a : List DC) : Out :=
 Out.andThen (if (decide ((gi a 0) ≥ (48 : Int))) = true then
 .norm [.b (decide ((gi a 0) ≤ (57 : Int)))]
 else
 .norm [.b false]) fun v1 =>
 .ret [.b (gb v1 0)]
theorem eq_impl_isFigure a : r_impl_isFigure a = E_impl_isFigure a := (Run_eq cfg 117 _ a).trans (by kernel_rfl)
noncomputable def E_impl_inName (a : List DC) : Out :=
 Out.andThen ((r_impl_isLetter [.i (gi a 0)]).bindR fun r1 =>
 if (gb r1 0) = true then
 .norm [.b true]
 else
 (r_impl_isFigure [.i (gi a 0)]).bindR fun r2 =>
 if (gb r2 0) = true then
 .norm [.b true]
 else
 .norm [.b ((gi a 0) == (95 : Int))]) fun v3 =>
 .ret [.b (gb v3 0)]
theorem eq_impl_inName a : r_impl_inName a = E_impl_inName a := (Run_eq cfg 118 _ a).trans (by kernel_rfl)
noncomputable def E_slices_IndexFunc_string__impl_DefOk_1L1 : List DC → Out := fun v1 =>
 if (decide ((gi v1 2) < (gi v1 1))) = true then
 Out.andThenB (if 9 = 9 ∧ 0 ≤ (gi v1 2) ∧ (gi v1 2) < ((gl v1 0).length : Int) then
 (r_impl_DefOk_1 [.s ((((gl v1 0).getD (gi v1 2).toNat []).getD 0 d0).ss)]).bindR fun r2 =>
 if (gb r2 0) = true then
 .ret [.i (gi v1 2)]
 else
 .norm [.sl (gl v1 0), .i (gi v1 1), .i (gi v1 2)]
 else
 .fail) 1 fun v3 =>
 .norm [.sl (gl v3 0), .i (gi v3 1), .i (IntKind.i64.wrap ((gi v3 2) + (1 : Int)))]
 else
 .ex 0 []
noncomputable def E_slices_IndexFunc_string__impl_DefOk_1 (a : List DC) : Out :=
 Out.andThenB (Loop E_slices_IndexFunc_string__impl_DefOk_1L1 [.sl (gl a 0), .i ((gl a 0).length : Int), .i (0 : Int)]) 0 fun v4 =>
 .ret [.i (-1 : Int)]
theorem eq_slices_IndexFunc_string__impl_DefOk_1 a : r_slices_IndexFunc_string__impl_DefOk_1 a = E_slices_IndexFunc_string__impl_DefOk_1 a := (Run_eq cfg 119 _ a).trans (by kernel_rfl)
noncomputable def E_impl_TextOk (a : List DC) : Out :=
 (r_unicode_utf8_ValidString [.s (gs a 0)]).bindR fun r1 =>
 .ret [.b (gb r1 0)]
theorem eq_impl_TextOk a : r_impl_TextOk a = E_impl_TextOk a := (Run_eq cfg 120 _ a).trans (by kernel_rfl)
noncomputable def E_strings_IndexByte (a : List DC) : Out :=
 (r_internal_stringslite_IndexByte [.s (gs a 0), .i (gi a 1)]).bindR fun r1 =>
 .ret [.i (gi r1 0)]
theorem eq_strings_IndexByte a : r_strings_IndexByte a = E_strings_IndexByte a := (Run_eq cfg 121 _ a).trans (by kernel_rfl)
noncomputable def E_impl_inOk (a : List DC) : Out :=
 Out.andThen ((r_impl_NameOk [.s (gs a 0)]).bindR fun r1 =>
 if (gb r1 0) = true then
 (r_impl_descOk [.s (gs a 1)]).bindR fun r2 =>
 if (gb r2 0) = true then
 (r_impl_TypeOk [.s (gs a 2), .s (gs a 3)]).bindR fun r3 =>
 if (gb r3 0) = true then
 (r_impl_defaultOk [.b (gb a 4), .i (gi a 5), .s (gs a 6), .sl (gl a 7), .sl (gl a 8)]).bindR fun r4 =>
 if (gb r4 0) = true then
 (r_impl_constDirs [.sl (gl a 9)]).bindR fun r5 =>
 .norm [.b (gb r5 0)]
 else
 .norm [.b false]
 else
 .norm [.b false]
 else
 .norm [.b false]
 else
 .norm [.b false]) fun v6 =>
 .ret [.b (gb v6 0)]
theorem eq_impl_inOk a : r_impl_inOk a = E_impl_inOk a := (Run_eq cfg 122 _ a).trans (by kernel_rfl)
noncomputable def E_impl_TypeTextL1 : List DC → Out := fun v2 =>
 if (decide ((gi v2 2) < (gi v2 1))) = true then
 Out.andThenB (if 0 ≤ (gi v2 2) ∧ (gi v2 2) < ((gs v2 4).length : Int) then
 Out.andThen (if ((((gs v2 4).getD (gi v2 2).toNat 0).toNat : Int) == (33 : Int)) = true then
 if (gs v2 0).length + ([33] : List UInt8).length < LIM then
 .norm [.s ((gs v2 0) ++ ([33] : List UInt8)), .i (gi v2 1), .i (gi v2 2), .s (gs v2 3), .s (gs v2 4)]
 else
 .fail
 else
 if ([91] : List UInt8).length + (gs v2 0).length < LIM then
 if (([91] : List UInt8) ++ (gs v2 0)).length + ([93] : List UInt8).length < LIM then
 .norm [.s ((([91] : List UInt8) ++ (gs v2 0)) ++ ([93] : List UInt8)), .i (gi v2 1), .i (gi v2 2), .s (gs v2 3), .s (gs v2 4)]
 else
 .fail
 else
 .fail) fun v3 =>
 .norm [.s (gs v3 0), .i (gi v3 1), .i (gi v3 2), .s (gs v3 3), .s (gs v3 4)]
 else
 .fail) 1 fun v4 =>
 .norm [.s (gs v4 0), .i (gi v4 1), .i (IntKind.i64.wrap ((gi v4 2) + (1 : Int))), .s (gs v4 3), .s (gs v4 4)]
 else
 .ex 0 [.s (gs v2 0)]
noncomputable def E_impl_TypeText (a : List DC) : Out :=
 (r_impl_TypeOk [.s (gs a 0), .s (gs a 1)]).bindR fun r1 =>
 if (!(gb r1 0)) = true then
 .ret [.s ([] : List UInt8)]
 else
 Out.andThenB (Loop E_impl_TypeTextL1 [.s (gs a 0), .i ((gs a 1).length : Int), .i (0 : Int), .s (gs a 0), .s (gs a 1)]) 0 fun v5 =>
 .ret [.s (gs v5 0)]
theorem eq_impl_TypeText a : r_impl_TypeText a = E_impl_TypeText a := (Run_eq cfg 123 _ a).trans (by kernel_rfl)
noncomputable def E_impl_defaultText (a : List DC) : Out :=
 if (!(gb a 0)) = true then
 .ret [.s ([] : List UInt8)]
 else
 (r_impl_ValueText [.i (gi a 1), .s (gs a 2), .sl (gl a 3), .sl (gl a 4)]).bindR fun r1 =>
 if ([32, 61, 32] : List UInt8).length + (gs r1 0).length < LIM then
 .ret [.s (([32, 61, 32] : List UInt8) ++ (gs r1 0))]
 else
 .fail
theorem eq_impl_defaultText a : r_impl_defaultText a = E_impl_defaultText a := (Run_eq cfg 124 _ a).trans (by kernel_rfl)
noncomputable def E_slices_ContainsFunc_impl_Dir__impl_DirsOk_1 (a : List DC) : Out :=
 (r_slices_IndexFunc_impl_Dir__impl_DirsOk_1 [.sl (gl a 0)]).bindR fun r1 =>
 .ret [.b (decide ((gi r1 0) ≥ (0 : Int)))]
theorem eq_slices_ContainsFunc_impl_Dir__impl_DirsOk_1 a : r_slices_ContainsFunc_impl_Dir__impl_DirsOk_1 a = E_slices_ContainsFunc_impl_Dir__impl_DirsOk_1 a := (Run_eq cfg 127 _ a).trans (by kernel_rfl)
noncomputable def E_impl_ArgsOk (a : List DC) : Out :=
 (r_slices_ContainsFunc_impl_Arg__impl_ArgsOk_1 [.sl (gl a 0)]).bindR fun r1 =>
 .ret [.b (!(gb r1 0))]
theorem eq_impl_ArgsOk a : r_impl_ArgsOk a = E_impl_ArgsOk a := (Run_eq cfg 129 _ a).trans (by kernel_rfl)
noncomputable def E_impl_printValueL1 : List DC → Out := fun v1 =>
 if (decide ((gi v1 3) < (gi v1 2))) = true then
 Out.andThenB (if 68 = 68 ∧ 0 ≤ (gi v1 3) ∧ (gi v1 3) < ((gl v1 1).length : Int) then
 (r_impl_printValue [.i ((((gl v1 1).getD (gi v1 3).toNat []).getD 0 d0).ii), .s ((((gl v1 1).getD (gi v1 3).toNat []).getD 1 d0).ss), .sl ((((gl v1 1).getD (gi v1 3).toNat []).getD 2 d0).ll), .sl ((((gl v1 1).getD (gi v1 3).toNat []).getD 3 d0).ll)]).bindR fun r2 =>
 Out.andThen (if ((gi v1 4) == (8 : Int)) = true then
 if 9 = 9 ∧ 0 ≤ (gi v1 3) ∧ (gi v1 3) < ((gl v1 7).length : Int) then
 if ((((gl v1 7).getD (gi v1 3).toNat []).getD 0 d0).ss).length + ([58, 32] : List UInt8).length < LIM then
 if (((((gl v1 7).getD (gi v1 3).toNat []).getD 0 d0).ss) ++ ([58, 32] : List UInt8)).length + (gs r2 0).length < LIM then
 .norm [.sl (gl v1 0), .s ((((((gl v1 7).getD (gi v1 3).toNat []).getD 0 d0).ss) ++ ([58, 32] : List UInt8)) ++ (gs r2 0)), .sl (gl v1 1), .i (gi v1 2), .i (gi v1 3), .i (gi v1 4), .s (gs v1 5), .sl (gl v1 6), .sl (gl v1 7)]
 else
 .fail
 else
 .fail
 else
 .fail
 else
 .norm [.sl (gl v1 0), .s (gs r2 0), .sl (gl v1 1), .i (gi v1 2), .i (gi v1 3), .i (gi v1 4), .s (gs v1 5), .sl (gl v1 6), .sl (gl v1 7)]) fun v3 =>
 if (gl v3 0).length + [[DC.s (gs v3 1)]].length < LIM then
 .norm [.sl ((gl v3 0) ++ [[DC.s (gs v3 1)]]), .sl (gl v3 2), .i (gi v3 3), .i (gi v3 4), .i (gi v3 5), .s (gs v3 6), .sl (gl v3 7), .sl (gl v3 8)]
 else
 .fail
 else
 .fail) 1 fun v4 =>
 .norm [.sl (gl v4 0), .sl (gl v4 1), .i (gi v4 2), .i (IntKind.i64.wrap ((gi v4 3) + (1 : Int))), .i (gi v4 4), .s (gs v4 5), .sl (gl v4 6), .sl (gl v4 7)]
 else
 .ex 0 [.sl (gl v1 0), .i (gi v1 4), .s (gs v1 5), .sl (gl v1 6), .sl (gl v1 7)]
noncomputable def E_impl_printValue (a : List DC) : Out :=
 Out.andThenB (Loop E_impl_printValueL1 [.sl [], .sl (gl a 2), .i ((gl a 2).length : Int), .i (0 : Int), .i (gi a 0), .s (gs a 1), .sl (gl a 2), .sl (gl a 3)]) 0 fun v5 =>
 (r_strings_Join [.sl (gl v5 0), .s ([44, 32] : List UInt8)]).bindR fun r6 =>
 Out.andThenB (if ((gi v5 1) == (1 : Int)) = true then
 if ([36] : List UInt8).length + (gs v5 2).length < LIM then
 .ret [.s (([36] : List UInt8) ++ (gs v5 2))]
 else
 .fail
 else
 if ((gi v5 1) == (4 : Int)) = true then
 (r_impl_Escaped [.s (gs v5 2)]).bindR fun r7 =>
 .ret [.s (gs r7 0)]
 else
 if ((gi v5 1) == (7 : Int)) = true then
 if ([91] : List UInt8).length + (gs r6 0).length < LIM then
 if (([91] : List UInt8) ++ (gs r6 0)).length + ([93] : List UInt8).length < LIM then
 .ret [.s ((([91] : List UInt8) ++ (gs r6 0)) ++ ([93] : List UInt8))]
 else
 .fail
 else
 .fail
 else
 if ((gi v5 1) == (8 : Int)) = true then
 if ([123] : List UInt8).length + (gs r6 0).length < LIM then
 if (([123] : List UInt8) ++ (gs r6 0)).length + ([125] : List UInt8).length < LIM then
 .ret [.s ((([123] : List UInt8) ++ (gs r6 0)) ++ ([125] : List UInt8))]
 else
 .fail
 else
 .fail
 else
 .norm [.i (gi v5 1), .s (gs v5 2), .sl (gl v5 3), .sl (gl v5 4)]) 2 fun v8 =>
 .ret [.s (gs v8 1)]
theorem eq_impl_printValue a : r_impl_printValue a = E_impl_printValue a := (Run_eq cfg 130 _ a).trans (by kernel_rfl)
noncomputable def E_impl_fieldOk (a : List DC) : Out :=
 Out.andThen ((r_impl_NameOk [.s (gs a 0)]).bindR fun r1 =>
 if (gb r1 0) = true then
 (r_impl_descOk [.s (gs a 1)]).bindR fun r2 =>
 if (gb r2 0) = true then
 (r_impl_insOk [.sl (gl a 2)]).bindR fun r3 =>
 if (gb r3 0) = true then
 (r_impl_TypeOk [.s (gs a 3), .s (gs a 4)]).bindR fun r4 =>
 if (gb r4 0) = true then
 (r_impl_constDirs [.sl (gl a 5)]).bindR fun r5 =>
 .norm [.b (gb r5 0)]
 else
 .norm [.b false]
 else
 .norm [.b false]
 else
 .norm [.b false]
 else
 .norm [.b false]) fun v6 =>
 .ret [.b (gb v6 0)]
theorem eq_impl_fieldOk a : r_impl_fieldOk a = E_impl_fieldOk a := (Run_eq cfg 107 _ a).trans (by kernel_rfl)
noncomputable def E_laws_eqType (a : List DC) : Out :=
 if (!((gs a 0) == (gs a 2))) = true then
 .ret [.b false]
 else
 if (!((gs a 1) == (gs a 3))) = true then
 .ret [.b false]
 else
 .ret [.b true]
theorem eq_laws_eqType a : r_laws_eqType a = E_laws_eqType a := (Run_eq cfg 131 _ a).trans (by kernel_rfl)
noncomputable def E_laws_eqValue (a : List DC) : Out :=
 if ((gi a 0) != (gi a 4)) = true then
 .ret [.b false]
 else
 if (!((gs a 1) == (gs a 5))) = true then
 .ret [.b false]
 else
 (r_laws_eqValueS [.sl (gl a 2), .sl (gl a 6)]).bindR fun r1 =>
 if (!(gb r1 0)) = true then
 .ret [.b false]
 else
 (r_laws_eqStringS [.sl (gl a 3), .sl (gl a 7)]).bindR fun r2 =>
 if (!(gb r2 0)) = true then
 .ret [.b false]
 else
 .ret [.b true]
theorem eq_laws_eqValue a : r_laws_eqValue a = E_laws_eqValue a := (Run_eq cfg 132 _ a).trans (by kernel_rfl)
noncomputable def E_laws_eqArgSL1 : List DC → Out := fun v1 =>
 if (decide ((gi v1 2) < ((gl v1 0).length : Int))) = true then
 Out.andThenB (if 148 = 148 ∧ 0 ≤ (gi v1 2) ∧ (gi v1 2) < ((gl v1 0).length : Int) then
 if 148 = 148 ∧ 0 ≤ (gi v1 2) ∧ (gi v1 2) < ((gl v1 1).length : Int) then
 (r_laws_eqArg [.s ((((gl v1 0).getD (gi v1 2).toNat []).getD 0 d0).ss), .i ((((gl v1 0).getD (gi v1 2).toNat []).getD 1 d0).ii), .s ((((gl v1 0).getD (gi v1 2).toNat []).getD 2 d0).ss), .sl ((((gl v1 0).getD (gi v1 2).toNat []).getD 3 d0).ll), .sl ((((gl v1 0).getD (gi v1 2).toNat []).getD 4 d0).ll), .s ((((gl v1 1).getD (gi v1 2).toNat []).getD 0 d0).ss), .i ((((gl v1 1).getD (gi v1 2).toNat []).getD 1 d0).ii), .s ((((gl v1 1).getD (gi v1 2).toNat []).getD 2 d0).ss), .sl ((((gl v1 1).getD (gi v1 2).toNat []).getD 3 d0).ll), .sl ((((gl v1 1).getD (gi v1 2).toNat []).getD 4 d0).ll)]).bindR fun r2 =>
 if (!(gb r2 0)) = true then
 .ret [.b false]
 else
 .norm [.sl (gl v1 0), .sl (gl v1 1), .i (gi v1 2)]
 else
 .fail
 else
 .fail) 1 fun v3 =>
 .norm [.sl (gl v3 0), .sl (gl v3 1), .i (IntKind.i64.wrap ((gi v3 2) + (1 : Int)))]
 else
 .ex 0 []
noncomputable def E_laws_eqArgS (a : List DC) : Out :=
 if (((gl a 0).length : Int) != ((gl a 1).length : Int)) = true then
 .ret [.b false]
 else
 Out.andThenB (Loop E_laws_eqArgSL1 [.sl (gl a 0), .sl (gl a 1), .i (0 : Int)]) 0 fun v4 =>
 .ret [.b true]
theorem eq_laws_eqArgS a : r_laws_eqArgS a = E_laws_eqArgS a := (Run_eq cfg 133 _ a).trans (by kernel_rfl)
noncomputable def E_laws_szValueSL1 : List DC → Out := fun v1 =>
 if (decide ((gi v1 2) < ((gl v1 0).length : Int))) = true then
 Out.andThenB (if 95 = 95 ∧ 0 ≤ (gi v1 2) ∧ (gi v1 2) < ((gl v1 0).length : Int) then
 (r_laws_szValue [.i ((((gl v1 0).getD (gi v1 2).toNat []).getD 0 d0).ii), .s ((((gl v1 0).getD (gi v1 2).toNat []).getD 1 d0).ss), .sl ((((gl v1 0).getD (gi v1 2).toNat []).getD 2 d0).ll), .sl ((((gl v1 0).getD (gi v1 2).toNat []).getD 3 d0).ll), .i (gi v1 1)]).bindR fun r2 =>
 if (decide ((gi r2 0) < (0 : Int))) = true then
 .ret [.i (-1 : Int)]
 else
 .norm [.sl (gl v1 0), .i (gi r2 0), .i (gi v1 2)]
 else
 .fail) 1 fun v3 =>
 .norm [.sl (gl v3 0), .i (gi v3 1), .i (IntKind.i64.wrap ((gi v3 2) + (1 : Int)))]
 else
 .ex 0 [.i (gi v1 1)]
noncomputable def E_laws_szValueS (a : List DC) : Out :=
 if (decide ((IntKind.i64.wrap ((gi a 1) - ((gl a 0).length : Int))) < (0 : Int))) = true then
 .ret [.i (-1 : Int)]
 else
 Out.andThenB (Loop E_laws_szValueSL1 [.sl (gl a 0), .i (IntKind.i64.wrap ((gi a 1) - ((gl a 0).length : Int))), .i (0 : Int)]) 0 fun v4 =>
 .ret [.i (gi v4 0)]
theorem eq_laws_szValueS a : r_laws_szValueS a = E_laws_szValueS a := (Run_eq cfg 134 _ a).trans (by kernel_rfl)
noncomputable def E_laws_szArg (a : List DC) : Out :=
 if (decide ((IntKind.i64.wrap ((gi a 5) - ((gs a 0).length : Int))) < (0 : Int))) = true then
 .ret [.i (-1 : Int)]
 else
 (r_laws_szValue [.i (gi a 1), .s (gs a 2), .sl (gl a 3), .sl (gl a 4), .i (IntKind.i64.wrap ((gi a 5) - ((gs a 0).length : Int)))]).bindR fun r1 =>
 if (decide ((gi r1 0) < (0 : Int))) = true then
 .ret [.i (-1 : Int)]
 else
 .ret [.i (gi r1 0)]
theorem eq_laws_szArg a : r_laws_szArg a = E_laws_szArg a := (Run_eq cfg 135 _ a).trans (by kernel_rfl)
noncomputable def E_laws_toValueSL1 : List DC → Out := fun v1 =>
 if (decide ((gi v1 2) < ((gl v1 0).length : Int))) = true then
 Out.andThenB (if 95 = 95 ∧ 0 ≤ (gi v1 2) ∧ (gi v1 2) < ((gl v1 0).length : Int) then
 (r_laws_toValue [.i ((((gl v1 0).getD (gi v1 2).toNat []).getD 0 d0).ii), .s ((((gl v1 0).getD (gi v1 2).toNat []).getD 1 d0).ss), .sl ((((gl v1 0).getD (gi v1 2).toNat []).getD 2 d0).ll), .sl ((((gl v1 0).getD (gi v1 2).toNat []).getD 3 d0).ll)]).bindR fun r2 =>
 if 68 = 68 ∧ 0 ≤ (gi v1 2) ∧ (gi v1 2) < ((gl v1 1).length : Int) then
 .norm [.sl (gl v1 0), .sl ((gl v1 1).set ((gi v1 2).toNat) (setRunD ((gl v1 1).getD ((gi v1 2).toNat) []) 0 [DC.i (gi r2 0), DC.s (gs r2 1), DC.sl (gl r2 2), DC.sl (gl r2 3)])), .i (gi v1 2)]
 else
 .fail
 else
 .fail) 1 fun v3 =>
 .norm [.sl (gl v3 0), .sl (gl v3 1), .i (IntKind.i64.wrap ((gi v3 2) + (1 : Int)))]
 else
 .ex 0 [.sl (gl v1 1)]
noncomputable def E_laws_toValueS (a : List DC) : Out :=
 if 0 ≤ ((gl a 0).length : Int) ∧ ((gl a 0).length : Int) < (LIM : Int) ∧ ((gl a 0).length : Int) = ((gl a 0).length : Int) ∧ 72 ≤ 1024 ∧ 0 < 4 then
 Out.andThenB (Loop E_laws_toValueSL1 [.sl (gl a 0), .sl (List.replicate ((gl a 0).length : Int).toNat [DC.i 0, DC.s [], DC.sl [], DC.sl []]), .i (0 : Int)]) 0 fun v4 =>
 .ret [.sl (gl v4 0)]
 else
 .fail
theorem eq_laws_toValueS a : r_laws_toValueS a = E_laws_toValueS a := (Run_eq cfg 140 _ a).trans (by kernel_rfl)
noncomputable def E_laws_toArg (a : List DC) : Out :=
 (r_laws_toValue [.i (gi a 1), .s (gs a 2), .sl (gl a 3), .sl (gl a 4)]).bindR fun r1 =>
 .ret [.s (gs a 0), .i (gi r1 0), .s (gs r1 1), .sl (gl r1 2), .sl (gl r1 3)]
theorem eq_laws_toArg a : r_laws_toArg a = E_laws_toArg a := (Run_eq cfg 141 _ a).trans (by kernel_rfl)
noncomputable def E_spec_l12Default (a : List DC) : Out :=
 if (gb a 0) = true then
 Out.andThen ((r_spec_ValueOk [.i (gi a 1), .s (gs a 2), .sl (gl a 3), .sl (gl a 4)]).bindR fun r1 =>
 if (gb r1 0) = true then
 (r_spec_IsConst [.i (gi a 1), .s (gs a 2), .sl (gl a 3), .sl (gl a 4)]).bindR fun r2 =>
 .norm [.b (gb r2 0)]
 else
 .norm [.b false]) fun v3 =>
 .ret [.b (gb v3 0)]
 else
 (r_spec_SameValue [.i (gi a 1), .s (gs a 2), .sl (gl a 3), .sl (gl a 4), .i (0 : Int), .s [], .sl [], .sl []]).bindR fun r4 =>
 .ret [.b (gb r4 0)]
theorem eq_spec_l12Default a : r_spec_l12Default a = E_spec_l12Default a := (Run_eq cfg 136 _ a).trans (by kernel_rfl)
noncomputable def E_spec_l07ConstL1 : List DC → Out := fun v1 =>
 if (decide ((gi v1 0) < ((gl v1 3).length : Int))) = true then
 Out.andThenB (if 68 = 68 ∧ 0 ≤ (gi v1 0) ∧ (gi v1 0) < ((gl v1 3).length : Int) then
 (r_spec_l07Const [.i ((((gl v1 3).getD (gi v1 0).toNat []).getD 0 d0).ii), .s ((((gl v1 3).getD (gi v1 0).toNat []).getD 1 d0).ss), .sl ((((gl v1 3).getD (gi v1 0).toNat []).getD 2 d0).ll), .sl ((((gl v1 3).getD (gi v1 0).toNat []).getD 3 d0).ll)]).bindR fun r2 =>
 if (!(gb r2 0)) = true then
 .ret [.b false]
 else
 .norm [.i (gi v1 0), .i (gi v1 1), .s (gs v1 2), .sl (gl v1 3), .sl (gl v1 4)]
 else
 .fail) 1 fun v3 =>
 .norm [.i (IntKind.i64.wrap ((gi v3 0) + (1 : Int))), .i (gi v3 1), .s (gs v3 2), .sl (gl v3 3), .sl (gl v3 4)]
 else
 .ex 0 [.i (gi v1 1), .s (gs v1 2), .sl (gl v1 3), .sl (gl v1 4)]
noncomputable def E_spec_l07Const (a : List DC) : Out :=
 Out.andThenB (Loop E_spec_l07ConstL1 [.i (0 : Int), .i (gi a 0), .s (gs a 1), .sl (gl a 2), .sl (gl a 3)]) 0 fun v4 =>
 .ret [.b ((gi v4 0) != (1 : Int))]
theorem eq_spec_l07Const a : r_spec_l07Const a = E_spec_l07Const a := (Run_eq cfg 137 _ a).trans (by kernel_rfl)
noncomputable def E_spec_ArgsOkL1 : List DC → Out := fun v1 =>
 if (decide ((gi v1 1) < ((gl v1 0).length : Int))) = true then
 Out.andThenB (Out.andThen (if 148 = 148 ∧ 0 ≤ (gi v1 1) ∧ (gi v1 1) < ((gl v1 0).length : Int) then
 (r_spec_NameOk [.s ((((gl v1 0).getD (gi v1 1).toNat []).getD 0 d0).ss)]).bindR fun r2 =>
 if (!(gb r2 0)) = true then
 .norm [.sl (gl v1 0), .i (gi v1 1), .b true]
 else
 if 148 = 148 ∧ 0 ≤ (gi v1 1) ∧ (gi v1 1) < ((gl v1 0).length : Int) then
 (r_spec_ValueOk [.i ((((gl v1 0).getD (gi v1 1).toNat []).getD 1 d0).ii), .s ((((gl v1 0).getD (gi v1 1).toNat []).getD 2 d0).ss), .sl ((((gl v1 0).getD (gi v1 1).toNat []).getD 3 d0).ll), .sl ((((gl v1 0).getD (gi v1 1).toNat []).getD 4 d0).ll)]).bindR fun r3 =>
 .norm [.sl (gl v1 0), .i (gi v1 1), .b (!(gb r3 0))]
 else
 .fail
 else
 .fail) fun v4 =>
 if (gb v4 2) = true then
 .ret [.b false]
 else
 .norm [.sl (gl v4 0), .i (gi v4 1)]) 1 fun v5 =>
 .norm [.sl (gl v5 0), .i (IntKind.i64.wrap ((gi v5 1) + (1 : Int)))]
 else
 .ex 0 []
noncomputable def E_spec_ArgsOk (a : List DC) : Out :=
 Out.andThenB (Loop E_spec_ArgsOkL1 [.sl (gl a 0), .i (0 : Int)]) 0 fun v6 =>
 .ret [.b true]
theorem eq_spec_ArgsOk a : r_spec_ArgsOk a = E_spec_ArgsOk a := (Run_eq cfg 138 _ a).trans (by kernel_rfl)
noncomputable def E_spec_RuneText (a : List DC) : Out :=
 (r_spec_l02Scalar [.i (gi a 0)]).bindR fun r1 =>
 if (!(gb r1 0)) = true then
 .ret [.s ([] : List UInt8)]
 else
 Out.andThenB (if (decide ((gi a 0) < (128 : Int))) = true then
 .ret [.s (rowBytes [[DC.i (IntKind.u8.wrap (gi a 0))]])]
 else
 if (decide ((gi a 0) < (2048 : Int))) = true then
 if (64 : Int) = 0 then
 .fail
 else
 if (64 : Int) = 0 then
 .fail
 else
 .ret [.s (rowBytes [[DC.i (IntKind.u8.wrap (IntKind.i64.wrap ((192 : Int) + (IntKind.i64.wrap ((gi a 0).tdiv (64 : Int))))))], [DC.i (IntKind.u8.wrap (IntKind.i64.wrap ((128 : Int) + ((gi a 0).tmod (64 : Int)))))]])]
 else
 if (decide ((gi a 0) < (65536 : Int))) = true then
 if (4096 : Int) = 0 then
 .fail
 else
 if (64 : Int) = 0 then
 .fail
 else
 if (64 : Int) = 0 then
 .fail
 else
 if (64 : Int) = 0 then
 .fail
 else
 .ret [.s (rowBytes [[DC.i (IntKind.u8.wrap (IntKind.i64.wrap ((224 : Int) + (IntKind.i64.wrap ((gi a 0).tdiv (4096 : Int))))))], [DC.i (IntKind.u8.wrap (IntKind.i64.wrap ((128 : Int) + ((IntKind.i64.wrap ((gi a 0).tdiv (64 : Int))).tmod (64 : Int)))))], [DC.i (IntKind.u8.wrap (IntKind.i64.wrap ((128 : Int) + ((gi a 0).tmod (64 : Int)))))]])]
 else
 .norm [.i (gi a 0)]) 0 fun v2 =>
 if (262144 : Int) = 0 then
 .fail
 else
 if (4096 : Int) = 0 then
 .fail
 else
 if (64 : Int) = 0 then
 .fail
 else
 if (64 : Int) = 0 then
 .fail
 else
 if (64 : Int) = 0 then
 .fail
 else
 if (64 : Int) = 0 then
 .fail
 else
 .ret [.s (rowBytes [[DC.i (IntKind.u8.wrap (IntKind.i64.wrap ((240 : Int) + (IntKind.i64.wrap ((gi v2 0).tdiv (262144 : Int))))))], [DC.i (IntKind.u8.wrap (IntKind.i64.wrap ((128 : Int) + ((IntKind.i64.wrap ((gi v2 0).tdiv (4096 : Int))).tmod (64 : Int)))))], [DC.i (IntKind.u8.wrap (IntKind.i64.wrap ((128 : Int) + ((IntKind.i64.wrap ((gi v2 0).tdiv (64 : Int))).tmod (64 : Int)))))], [DC.i (IntKind.u8.wrap (IntKind.i64.wrap ((128 : Int) + ((gi v2 0).tmod (64 : Int)))))]])]
theorem eq_spec_RuneText a : r_spec_RuneText a = E_spec_RuneText a := (Run_eq cfg 139 _ a).trans (by kernel_rfl)
noncomputable def E_slices_IndexFunc_impl_FieldDef__impl_partsOk_1L1 : List DC → Out := fun v1 =>
 if (decide ((gi v1 2) < (gi v1 1))) = true then
 Out.andThenB (if 59 = 59 ∧ 0 ≤ (gi v1 2) ∧ (gi v1 2) < ((gl v1 0).length : Int) then
 (r_impl_partsOk_1 [.s ((((gl v1 0).getD (gi v1 2).toNat []).getD 0 d0).ss), .s ((((gl v1 0).getD (gi v1 2).toNat []).getD 1 d0).ss), .sl ((((gl v1 0).getD (gi v1 2).toNat []).getD 2 d0).ll), .s ((((gl v1 0).getD (gi v1 2).toNat []).getD 3 d0).ss), .s ((((gl v1 0).getD (gi v1 2).toNat []).getD 4 d0).ss), .sl ((((gl v1 0).getD (gi v1 2).toNat []).getD 5 d0).ll)]).bindR fun r2 =>
 if (gb r2 0) = true then
 .ret [.i (gi v1 2)]
 else
 .norm [.sl (gl v1 0), .i (gi v1 1), .i (gi v1 2)]
 else
 .fail) 1 fun v3 =>
 .norm [.sl (gl v3 0), .i (gi v3 1), .i (IntKind.i64.wrap ((gi v3 2) + (1 : Int)))]
 else
 .ex 0 []
noncomputable def E_slices_IndexFunc_impl_FieldDef__impl_partsOk_1 (a : List DC) : Out :=
 Out.andThenB (Loop E_slices_IndexFunc_impl_FieldDef__impl_partsOk_1L1 [.sl (gl a 0), .i ((gl a 0).length : Int), .i (0 : Int)]) 0 fun v4 =>
 .ret [.i (-1 : Int)]
theorem eq_slices_IndexFunc_impl_FieldDef__impl_partsOk_1 a : r_slices_IndexFunc_impl_FieldDef__impl_partsOk_1 a = E_slices_IndexFunc_impl_FieldDef__impl_partsOk_1 a := (Run_eq cfg 142 _ a).trans (by kernel_rfl)
noncomputable def E_slices_ContainsFunc_impl_InDef__impl_insOk_1 (a : List DC) : Out :=
 (r_slices_IndexFunc_impl_InDef__impl_insOk_1 [.sl (gl a 0)]).bindR fun r1 =>
 .ret [.b (decide ((gi r1 0) ≥ (0 : Int)))]
theorem eq_slices_ContainsFunc_impl_InDef__impl_insOk_1 a : r_slices_ContainsFunc_impl_InDef__impl_insOk_1 a = E_slices_ContainsFunc_impl_InDef__impl_insOk_1 a := (Run_eq cfg 144 _ a).trans (by kernel_rfl)
noncomputable def E_slices_IndexFunc_impl_EnumDef__impl_partsOk_2L1 : List DC → Out := fun v1 =>
 if (decide ((gi v1 2) < (gi v1 1))) = true then
 Out.andThenB (if 62 = 62 ∧ 0 ≤ (gi v1 2) ∧ (gi v1 2) < ((gl v1 0).length : Int) then
 (r_impl_partsOk_2 [.s ((((gl v1 0).getD (gi v1 2).toNat []).getD 0 d0).ss), .s ((((gl v1 0).getD (gi v1 2).toNat []).getD 1 d0).ss), .sl ((((gl v1 0).getD (gi v1 2).toNat []).getD 2 d0).ll)]).bindR fun r2 =>
 if (gb r2 0) = true then
 .ret [.i (gi v1 2)]
 else
 .norm [.sl (gl v1 0), .i (gi v1 1), .i (gi v1 2)]
 else
 .fail) 1 fun v3 =>
 .norm [.sl (gl v3 0), .i (gi v3 1), .i (IntKind.i64.wrap ((gi v3 2) + (1 : Int)))]
 else
 .ex 0 []
noncomputable def E_slices_IndexFunc_impl_EnumDef__impl_partsOk_2 (a : List DC) : Out :=
 Out.andThenB (Loop E_slices_IndexFunc_impl_EnumDef__impl_partsOk_2L1 [.sl (gl a 0), .i ((gl a 0).length : Int), .i (0 : Int)]) 0 fun v4 =>
 .ret [.i (-1 : Int)]
theorem eq_slices_IndexFunc_impl_EnumDef__impl_partsOk_2 a : r_slices_IndexFunc_impl_EnumDef__impl_partsOk_2 a = E_slices_IndexFunc_impl_EnumDef__impl_partsOk_2 a := (Run_eq cfg 146 _ a).trans (by kernel_rfl)
noncomputable def E_slices_IndexFunc_impl_Root__impl_partsOk_3L1 : List DC → Out := fun v1 =>
 if (decide ((gi v1 2) < (gi v1 1))) = true then
 Out.andThenB (if 64 = 64 ∧ 0 ≤ (gi v1 2) ∧ (gi v1 2) < ((gl v1 0).length : Int) then
 (r_impl_partsOk_3 [.i ((((gl v1 0).getD (gi v1 2).toNat []).getD 0 d0).ii), .s ((((gl v1 0).getD (gi v1 2).toNat []).getD 1 d0).ss)]).bindR fun r2 =>
 if (gb r2 0) = true then
 .ret [.i (gi v1 2)]
 else
 .norm [.sl (gl v1 0), .i (gi v1 1), .i (gi v1 2)]
 else
 .fail) 1 fun v3 =>
 .norm [.sl (gl v3 0), .i (gi v3 1), .i (IntKind.i64.wrap ((gi v3 2) + (1 : Int)))]
 else
 .ex 0 []
noncomputable def E_slices_IndexFunc_impl_Root__impl_partsOk_3 (a : List DC) : Out :=
 Out.andThenB (Loop E_slices_IndexFunc_impl_Root__impl_partsOk_3L1 [.sl (gl a 0), .i ((gl a 0).length : Int), .i (0 : Int)]) 0 fun v4 =>
 .ret [.i (-1 : Int)]
theorem eq_slices_IndexFunc_impl_Root__impl_partsOk_3 a : r_slices_IndexFunc_impl_Root__impl_partsOk_3 a = E_slices_IndexFunc_impl_Root__impl_partsOk_3 a := (Run_eq cfg 148 _ a).trans (by kernel_rfl)
noncomputable def E_slices_IndexFunc_string__impl_partsOk_4L1 : List DC → Out := fun v1 =>
 if (decide ((gi v1 2) < (gi v1 1))) = true then
 Out.andThenB (if 9 = 9 ∧ 0 ≤ (gi v1 2) ∧ (gi v1 2) < ((gl v1 0).length : Int) then
 (r_impl_partsOk_4 [.s ((((gl v1 0).getD (gi v1 2).toNat []).getD 0 d0).ss)]).bindR fun r2 =>
 if (gb r2 0) = true then
 .ret [.i (gi v1 2)]
 else
 .norm [.sl (gl v1 0), .i (gi v1 1), .i (gi v1 2)]
 else
 .fail) 1 fun v3 =>
 .norm [.sl (gl v3 0), .i (gi v3 1), .i (IntKind.i64.wrap ((gi v3 2) + (1 : Int)))]
 else
 .ex 0 []
noncomputable def E_slices_IndexFunc_string__impl_partsOk_4 (a : List DC) : Out :=
 Out.andThenB (Loop E_slices_IndexFunc_string__impl_partsOk_4L1 [.sl (gl a 0), .i ((gl a 0).length : Int), .i (0 : Int)]) 0 fun v4 =>
 .ret [.i (-1 : Int)]
theorem eq_slices_IndexFunc_string__impl_partsOk_4 a : r_slices_IndexFunc_string__impl_partsOk_4 a = E_slices_IndexFunc_string__impl_partsOk_4 a := (Run_eq cfg 119 _ a).trans (by kernel_rfl)
noncomputable def E_slices_ContainsFunc_impl_Dir__impl_constDirs_1 (a : List DC) : Out :=
 (r_slices_IndexFunc_impl_Dir__impl_constDirs_1 [.sl (gl a 0)]).bindR fun r1 =>
 .ret [.b (decide ((gi r1 0) ≥ (0 : Int)))]
theorem eq_slices_ContainsFunc_impl_Dir__impl_constDirs_1 a : r_slices_ContainsFunc_impl_Dir__impl_constDirs_1 a = E_slices_ContainsFunc_impl_Dir__impl_constDirs_1 a := (Run_eq cfg 127 _ a).trans (by kernel_rfl)
noncomputable def E_impl_isLetter (a : List DC) : Out :=
 Out.andThen (if (decide ((gi a 0) ≥ (97 : Int))) = true then
 if (decide ((gi a 0) ≤ (122 : Int))) = true then
 .norm [.b true]
 else
 if (decide ((gi a 0) ≥ (65 : Int))) = true then
 .norm [.b (decide ((gi a 0) ≤ (90 : Int)))]
 else
 .norm [.b false]
 else
 if (decide ((gi a 0) ≥ (65 : Int))) = true then
 .norm [.b (decide ((gi a 0) ≤ (90 : Int)))]
 else
 .norm [.b false]) fun v1 =>
 .ret [.b (gb v1 0)]
theorem eq_impl_isLetter a : r_impl_isLetter a = E_impl_isLetter a := (Run_eq cfg 153 _ a).trans (by kernel_rfl)
noncomputable def E_impl_DefOk_1 (a : List DC) : Out :=
 (r_impl_PlaceOk [.s (gs a 0)]).bindR fun r1 =>
 .ret [.b (!(gb r1 0))]
theorem eq_impl_DefOk_1 a : r_impl_DefOk_1 a = E_impl_DefOk_1 a := (Run_eq cfg 75 _ a).trans (by kernel_rfl)
noncomputable def E_unicode_utf8_ValidString (a : List DC) : Out := match primH [.s] [.b] qValidString h_unicode_utf8_ValidString a with | some r => .ret r | none => .fail
theorem eq_unicode_utf8_ValidString a : r_unicode_utf8_ValidString a = E_unicode_utf8_ValidString a := (Run_eq cfg 154 h_unicode_utf8_ValidString a).trans (by kernel_rfl)
noncomputable def E_internal_stringslite_IndexByte (a : List DC) : Out := match primH [.s, .i .u8] [.i .i64] qIndexByte h_internal_stringslite_IndexByte a with | some r => .ret r | none => .fail
theorem eq_internal_stringslite_IndexByte a : r_internal_stringslite_IndexByte a = E_internal_stringslite_IndexByte a := (Run_eq cfg 155 h_internal_stringslite_IndexByte a).trans (by kernel_rfl)
noncomputable def E_impl_TypeOk (a : List DC) : Out :=
 Out.andThen ((r_impl_NameOk [.s (gs a 0)]).bindR fun r1 =>
 if (gb r1 0) = true then
 if (decide (((gs a 1).length : Int) ≤ (8 : Int))) = true then
 (r_strings_Trim [.s (gs a 1), .s ([93, 33] : List UInt8)]).bindR fun r2 =>
 if ((gs r2 0) == ([] : List UInt8)) = true then
 (r_strings_Contains [.s (gs a 1), .s ([33, 33] : List UInt8)]).bindR fun r3 =>
 .norm [.b (!(gb r3 0))]
 else
 .norm [.b false]
 else
 .norm [.b false]
 else
 .norm [.b false]) fun v4 =>
 .ret [.b (gb v4 0)]
theorem eq_impl_TypeOk a : r_impl_TypeOk a = E_impl_TypeOk a := (Run_eq cfg 143 _ a).trans (by kernel_rfl)
noncomputable def E_impl_defaultOk (a : List DC) : Out :=
 if (!(gb a 0)) = true then
 (r_impl_emptyValue [.i (gi a 1), .s (gs a 2), .sl (gl a 3), .sl (gl a 4)]).bindR fun r1 =>
 .ret [.b (gb r1 0)]
 else
 Out.andThen ((r_impl_ValueOk [.i (gi a 1), .s (gs a 2), .sl (gl a 3), .sl (gl a 4)]).bindR fun r2 =>
 if (gb r2 0) = true then
 (r_impl_IsConst [.i (gi a 1), .s (gs a 2), .sl (gl a 3), .sl (gl a 4)]).bindR fun r3 =>
 .norm [.b (gb r3 0)]
 else
 .norm [.b false]) fun v4 =>
 .ret [.b (gb v4 0)]
theorem eq_impl_defaultOk a : r_impl_defaultOk a = E_impl_defaultOk a := (Run_eq cfg 156 _ a).trans (by kernel_rfl)
noncomputable def E_impl_ValueText (a : List DC) : Out :=
 (r_impl_ValueOk [.i (gi a 0), .s (gs a 1), .sl (gl a 2), .sl (gl a 3)]).bindR fun r1 =>
 if (!(gb r1 0)) = true then
 .ret [.s ([] : List UInt8)]
 else
 (r_impl_printValue [.i (gi a 0), .s (gs a 1), .sl (gl a 2), .sl (gl a 3)]).bindR fun r2 =>
 .ret [.s (gs r2 0)]
theorem eq_impl_ValueText a : r_impl_ValueText a = E_impl_ValueText a := (Run_eq cfg 157 _ a).trans (by kernel_rfl)
noncomputable def E_slices_IndexFunc_impl_Dir__impl_DirsOk_1L1 : List DC → Out := fun v1 =>
 if (decide ((gi v1 2) < (gi v1 1))) = true then
 Out.andThenB (if 114 = 114 ∧ 0 ≤ (gi v1 2) ∧ (gi v1 2) < ((gl v1 0).length : Int) then
 (r_impl_DirsOk_1 [.s ((((gl v1 0).getD (gi v1 2).toNat []).getD 0 d0).ss), .sl ((((gl v1 0).getD (gi v1 2).toNat []).getD 1 d0).ll)]).bindR fun r2 =>
 if (gb r2 0) = true then
 .ret [.i (gi v1 2)]
 else
 .norm [.sl (gl v1 0), .i (gi v1 1), .i (gi v1 2)]
 else
 .fail) 1 fun v3 =>
 .norm [.sl (gl v3 0), .i (gi v3 1), .i (IntKind.i64.wrap ((gi v3 2) + (1 : Int)))]
 else
 .ex 0 []
noncomputable def E_slices_IndexFunc_impl_Dir__impl_DirsOk_1 (a : List DC) : Out :=
 Out.andThenB (Loop E_slices_IndexFunc_impl_Dir__impl_DirsOk_1L1 [.sl (gl a 0), .i ((gl a 0).length : Int), .i (0 : Int)]) 0 fun v4 =>
 .ret [.i (-1 : Int)]
theorem eq_slices_IndexFunc_impl_Dir__impl_DirsOk_1 a : r_slices_IndexFunc_impl_Dir__impl_DirsOk_1 a = E_slices_IndexFunc_impl_Dir__impl_DirsOk_1 a := (Run_eq cfg 160 _ a).trans (by kernel_rfl)
noncomputable def E_slices_ContainsFunc_impl_Arg__impl_ArgsOk_1 (a : List DC) : Out :=
 (r_slices_IndexFunc_impl_Arg__impl_ArgsOk_1 [.sl (gl a 0)]).bindR fun r1 =>
 .ret [.b (decide ((gi r1 0) ≥ (0 : Int)))]
theorem eq_slices_ContainsFunc_impl_Arg__impl_ArgsOk_1 a : r_slices_ContainsFunc_impl_Arg__impl_ArgsOk_1 a = E_slices_ContainsFunc_impl_Arg__impl_ArgsOk_1 a := (Run_eq cfg 150 _ a).trans (by kernel_rfl)
noncomputable def E_laws_eqValueSL1 : List DC → Out := fun v1 =>
 if (decide ((gi v1 2) < ((gl v1 0).length : Int))) = true then
 Out.andThenB (if 68 = 68 ∧ 0 ≤ (gi v1 2) ∧ (gi v1 2) < ((gl v1 0).length : Int) then
 if 68 = 68 ∧ 0 ≤ (gi v1 2) ∧ (gi v1 2) < ((gl v1 1).length : Int) then
 (r_laws_eqValue [.i ((((gl v1 0).getD (gi v1 2).toNat []).getD 0 d0).ii), .s ((((gl v1 0).getD (gi v1 2).toNat []).getD 1 d0).ss), .sl ((((gl v1 0).getD (gi v1 2).toNat []).getD 2 d0).ll), .sl ((((gl v1 0).getD (gi v1 2).toNat []).getD 3 d0).ll), .i ((((gl v1 1).getD (gi v1 2).toNat []).getD 0 d0).ii), .s ((((gl v1 1).getD (gi v1 2).toNat []).getD 1 d0).ss), .sl ((((gl v1 1).getD (gi v1 2).toNat []).getD 2 d0).ll), .sl ((((gl v1 1).getD (gi v1 2).toNat []).getD 3 d0).ll)]).bindR fun r2 =>
 if (!(gb r2 0)) = true then
 .ret [.b false]
 else
 .norm [.sl (gl v1 0), .sl (gl v1 1), .i (gi v1 2)]
 else
 .fail
 else
 .fail) 1 fun v3 =>
 .norm [.sl (gl v3 0), .sl (gl v3 1), .i (IntKind.i64.wrap ((gi v3 2) + (1 : Int)))]
 else
 .ex 0 []
noncomputable def E_laws_eqValueS (a : List DC) : Out :=
 if (((gl a 0).length : Int) != ((gl a 1).length : Int)) = true then
 .ret [.b false]
 else
 Out.andThenB (Loop E_laws_eqValueSL1 [.sl (gl a 0), .sl (gl a 1), .i (0 : Int)]) 0 fun v4 =>
 .ret [.b true]
theorem eq_laws_eqValueS a : r_laws_eqValueS a = E_laws_eqValueS a := (Run_eq cfg 163 _ a).trans (by kernel_rfl)
noncomputable def E_laws_eqArg (a : List DC) : Out :=
 if (!((gs a 0) == (gs a 5))) = true then
 .ret [.b false]
 else
 (r_laws_eqValue [.i (gi a 1), .s (gs a 2), .sl (gl a 3), .sl (gl a 4), .i (gi a 6), .s (gs a 7), .sl (gl a 8), .sl (gl a 9)]).bindR fun r1 =>
 if (!(gb r1 0)) = true then
 .ret [.b false]
 else
 .ret [.b true]
theorem eq_laws_eqArg a : r_laws_eqArg a = E_laws_eqArg a := (Run_eq cfg 164 _ a).trans (by kernel_rfl)
noncomputable def E_spec_ValueOk (a : List DC) : Out :=
 (r_spec_l07Right [.i (gi a 0), .s (gs a 1), .sl (gl a 2), .sl (gl a 3), .i (10 : Int)]).bindR fun r1 =>
 .ret [.b (gb r1 0)]
theorem eq_spec_ValueOk a : r_spec_ValueOk a = E_spec_ValueOk a := (Run_eq cfg 165 _ a).trans (by kernel_rfl)
noncomputable def E_spec_SameValueL1 : List DC → Out := fun v2 =>
 if (decide ((gi v2 0) < ((gl v2 4).length : Int))) = true then
 Out.andThenB (if 9 = 9 ∧ 0 ≤ (gi v2 0) ∧ (gi v2 0) < ((gl v2 4).length : Int) then
 if 9 = 9 ∧ 0 ≤ (gi v2 0) ∧ (gi v2 0) < ((gl v2 8).length : Int) then
 if (!((((gl v2 4).getD (gi v2 0).toNat []).getD 0 d0).ss == (((gl v2 8).getD (gi v2 0).toNat []).getD 0 d0).ss)) = true then
 .ret [.b false]
 else
 .norm [.i (gi v2 0), .i (gi v2 1), .s (gs v2 2), .sl (gl v2 3), .sl (gl v2 4), .i (gi v2 5), .s (gs v2 6), .sl (gl v2 7), .sl (gl v2 8)]
 else
 .fail
 else
 .fail) 1 fun v3 =>
 .norm [.i (IntKind.i64.wrap ((gi v3 0) + (1 : Int))), .i (gi v3 1), .s (gs v3 2), .sl (gl v3 3), .sl (gl v3 4), .i (gi v3 5), .s (gs v3 6), .sl (gl v3 7), .sl (gl v3 8)]
 else
 .ex 0 [.i (gi v2 1), .s (gs v2 2), .sl (gl v2 3), .sl (gl v2 4), .i (gi v2 5), .s (gs v2 6), .sl (gl v2 7), .sl (gl v2 8)]
noncomputable def E_spec_SameValueL2 : List DC → Out := fun v5 =>
 if (decide ((gi v5 0) < ((gl v5 3).length : Int))) = true then
 Out.andThenB (if 68 = 68 ∧ 0 ≤ (gi v5 0) ∧ (gi v5 0) < ((gl v5 3).length : Int) then
 if 68 = 68 ∧ 0 ≤ (gi v5 0) ∧ (gi v5 0) < ((gl v5 7).length : Int) then
 (r_spec_SameValue [.i ((((gl v5 3).getD (gi v5 0).toNat []).getD 0 d0).ii), .s ((((gl v5 3).getD (gi v5 0).toNat []).getD 1 d0).ss), .sl ((((gl v5 3).getD (gi v5 0).toNat []).getD 2 d0).ll), .sl ((((gl v5 3).getD (gi v5 0).toNat []).getD 3 d0).ll), .i ((((gl v5 7).getD (gi v5 0).toNat []).getD 0 d0).ii), .s ((((gl v5 7).getD (gi v5 0).toNat []).getD 1 d0).ss), .sl ((((gl v5 7).getD (gi v5 0).toNat []).getD 2 d0).ll), .sl ((((gl v5 7).getD (gi v5 0).toNat []).getD 3 d0).ll)]).bindR fun r6 =>
 if (!(gb r6 0)) = true then
 .ret [.b false]
 else
 .norm [.i (gi v5 0), .i (gi v5 1), .s (gs v5 2), .sl (gl v5 3), .sl (gl v5 4), .i (gi v5 5), .s (gs v5 6), .sl (gl v5 7), .sl (gl v5 8)]
 else
 .fail
 else
 .fail) 3 fun v7 =>
 .norm [.i (IntKind.i64.wrap ((gi v7 0) + (1 : Int))), .i (gi v7 1), .s (gs v7 2), .sl (gl v7 3), .sl (gl v7 4), .i (gi v7 5), .s (gs v7 6), .sl (gl v7 7), .sl (gl v7 8)]
 else
 .ex 2 []
noncomputable def E_spec_SameValue (a : List DC) : Out :=
 Out.andThen (if ((gi a 0) != (gi a 4)) = true then
 .norm [.b true, .i (gi a 0), .s (gs a 1), .sl (gl a 2), .sl (gl a 3), .i (gi a 4), .s (gs a 5), .sl (gl a 6), .sl (gl a 7)]
 else
 if (!((gs a 1) == (gs a 5))) = true then
 .norm [.b true, .i (gi a 0), .s (gs a 1), .sl (gl a 2), .sl (gl a 3), .i (gi a 4), .s (gs a 5), .sl (gl a 6), .sl (gl a 7)]
 else
 if (((gl a 2).length : Int) != ((gl a 6).length : Int)) = true then
 .norm [.b true, .i (gi a 0), .s (gs a 1), .sl (gl a 2), .sl (gl a 3), .i (gi a 4), .s (gs a 5), .sl (gl a 6), .sl (gl a 7)]
 else
 .norm [.b (((gl a 3).length : Int) != ((gl a 7).length : Int)), .i (gi a 0), .s (gs a 1), .sl (gl a 2), .sl (gl a 3), .i (gi a 4), .s (gs a 5), .sl (gl a 6), .sl (gl a 7)]) fun v1 =>
 if (gb v1 0) = true then
 .ret [.b false]
 else
 Out.andThenB (Loop E_spec_SameValueL1 [.i (0 : Int), .i (gi v1 1), .s (gs v1 2), .sl (gl v1 3), .sl (gl v1 4), .i (gi v1 5), .s (gs v1 6), .sl (gl v1 7), .sl (gl v1 8)]) 0 fun v4 =>
 Out.andThenB (Loop E_spec_SameValueL2 [.i (0 : Int), .i (gi v4 0), .s (gs v4 1), .sl (gl v4 2), .sl (gl v4 3), .i (gi v4 4), .s (gs v4 5), .sl (gl v4 6), .sl (gl v4 7)]) 2 fun v8 =>
 .ret [.b true]
theorem eq_spec_SameValue a : r_spec_SameValue a = E_spec_SameValue a := (Run_eq cfg 166 _ a).trans (by kernel_rfl)
noncomputable def E_spec_l02Scalar (a : List DC) : Out :=
 Out.andThen ((r_spec_l01In [.i (gi a 0), .i (0 : Int), .i (1114111 : Int)]).bindR fun r1 =>
 if (gb r1 0) = true then
 (r_spec_l01In [.i (gi a 0), .i (55296 : Int), .i (57343 : Int)]).bindR fun r2 =>
 .norm [.b (!(gb r2 0))]
 else
 .norm [.b false]) fun v3 =>
 .ret [.b (gb v3 0)]
theorem eq_spec_l02Scalar a : r_spec_l02Scalar a = E_spec_l02Scalar a := (Run_eq cfg 167 _ a).trans (by kernel_rfl)
noncomputable def E_impl_partsOk_1 (a : List DC) : Out :=
 (r_impl_fieldOk [.s (gs a 0), .s (gs a 1), .sl (gl a 2), .s (gs a 3), .s (gs a 4), .sl (gl a 5)]).bindR fun r1 =>
 .ret [.b (!(gb r1 0))]
theorem eq_impl_partsOk_1 a : r_impl_partsOk_1 a = E_impl_partsOk_1 a := (Run_eq cfg 106 _ a).trans (by kernel_rfl)
noncomputable def E_slices_IndexFunc_impl_InDef__impl_insOk_1L1 : List DC → Out := fun v1 =>
 if (decide ((gi v1 2) < (gi v1 1))) = true then
 Out.andThenB (if 70 = 70 ∧ 0 ≤ (gi v1 2) ∧ (gi v1 2) < ((gl v1 0).length : Int) then
 (r_impl_insOk_1 [.s ((((gl v1 0).getD (gi v1 2).toNat []).getD 0 d0).ss), .s ((((gl v1 0).getD (gi v1 2).toNat []).getD 1 d0).ss), .s ((((gl v1 0).getD (gi v1 2).toNat []).getD 2 d0).ss), .s ((((gl v1 0).getD (gi v1 2).toNat []).getD 3 d0).ss), .b ((((gl v1 0).getD (gi v1 2).toNat []).getD 4 d0).bb), .i ((((gl v1 0).getD (gi v1 2).toNat []).getD 5 d0).ii), .s ((((gl v1 0).getD (gi v1 2).toNat []).getD 6 d0).ss), .sl ((((gl v1 0).getD (gi v1 2).toNat []).getD 7 d0).ll), .sl ((((gl v1 0).getD (gi v1 2).toNat []).getD 8 d0).ll), .sl ((((gl v1 0).getD (gi v1 2).toNat []).getD 9 d0).ll)]).bindR fun r2 =>
 if (gb r2 0) = true then
 .ret [.i (gi v1 2)]
 else
 .norm [.sl (gl v1 0), .i (gi v1 1), .i (gi v1 2)]
 else
 .fail) 1 fun v3 =>
 .norm [.sl (gl v3 0), .i (gi v3 1), .i (IntKind.i64.wrap ((gi v3 2) + (1 : Int)))]
 else
 .ex 0 []
noncomputable def E_slices_IndexFunc_impl_InDef__impl_insOk_1 (a : List DC) : Out :=
 Out.andThenB (Loop E_slices_IndexFunc_impl_InDef__impl_insOk_1L1 [.sl (gl a 0), .i ((gl a 0).length : Int), .i (0 : Int)]) 0 fun v4 =>
 .ret [.i (-1 : Int)]
theorem eq_slices_IndexFunc_impl_InDef__impl_insOk_1 a : r_slices_IndexFunc_impl_InDef__impl_insOk_1 a = E_slices_IndexFunc_impl_InDef__impl_insOk_1 a := (Run_eq cfg 170 _ a).trans (by kernel_rfl)
noncomputable def E_impl_partsOk_2 (a : List DC) : Out :=
 (r_impl_enumOk [.s (gs a 0), .s (gs a 1), .sl (gl a 2)]).bindR fun r1 =>
 .ret [.b (!(gb r1 0))]
theorem eq_impl_partsOk_2 a : r_impl_partsOk_2 a = E_impl_partsOk_2 a := (Run_eq cfg 110 _ a).trans (by kernel_rfl)
noncomputable def E_impl_partsOk_3 (a : List DC) : Out :=
 (r_impl_rootOk [.i (gi a 0), .s (gs a 1)]).bindR fun r1 =>
 .ret [.b (!(gb r1 0))]
theorem eq_impl_partsOk_3 a : r_impl_partsOk_3 a = E_impl_partsOk_3 a := (Run_eq cfg 113 _ a).trans (by kernel_rfl)
noncomputable def E_impl_partsOk_4 (a : List DC) : Out :=
 (r_impl_NameOk [.s (gs a 0)]).bindR fun r1 =>
 .ret [.b (!(gb r1 0))]
theorem eq_impl_partsOk_4 a : r_impl_partsOk_4 a = E_impl_partsOk_4 a := (Run_eq cfg 115 _ a).trans (by kernel_rfl)
noncomputable def E_slices_IndexFunc_impl_Dir__impl_constDirs_1L1 : List DC → Out := fun v1 =>
 if (decide ((gi v1 2) < (gi v1 1))) = true then
 Out.andThenB (if 114 = 114 ∧ 0 ≤ (gi v1 2) ∧ (gi v1 2) < ((gl v1 0).length : Int) then
 (r_impl_constDirs_1 [.s ((((gl v1 0).getD (gi v1 2).toNat []).getD 0 d0).ss), .sl ((((gl v1 0).getD (gi v1 2).toNat []).getD 1 d0).ll)]).bindR fun r2 =>
 if (gb r2 0) = true then
 .ret [.i (gi v1 2)]
 else
 .norm [.sl (gl v1 0), .i (gi v1 1), .i (gi v1 2)]
 else
 .fail) 1 fun v3 =>
 .norm [.sl (gl v3 0), .i (gi v3 1), .i (IntKind.i64.wrap ((gi v3 2) + (1 : Int)))]
 else
 .ex 0 []
noncomputable def E_slices_IndexFunc_impl_Dir__impl_constDirs_1 (a : List DC) : Out :=
 Out.andThenB (Loop E_slices_IndexFunc_impl_Dir__impl_constDirs_1L1 [.sl (gl a 0), .i ((gl a 0).length : Int), .i (0 : Int)]) 0 fun v4 =>
 .ret [.i (-1 : Int)]
theorem eq_slices_IndexFunc_impl_Dir__impl_constDirs_1 a : r_slices_IndexFunc_impl_Dir__impl_constDirs_1 a = E_slices_IndexFunc_impl_Dir__impl_constDirs_1 a := (Run_eq cfg 160 _ a).trans (by kernel_rfl)
noncomputable def E_impl_PlaceOk (a : List DC) : Out :=
 Out.andThenB (Out.andThen (if ((gs a 0) == ([81, 85, 69, 82, 89] : List UInt8)) = true then
 .norm [.b ((gs a 0) == ([81, 85, 69, 82, 89] : List UInt8))]
 else
 Out.andThen (if ((gs a 0) == ([77, 85, 84, 65, 84, 73, 79, 78] : List UInt8)) = true then
 .norm [.b ((gs a 0) == ([77, 85, 84, 65, 84, 73, 79, 78] : List UInt8))]
 else
 Out.andThen (if ((gs a 0) == ([83, 85, 66, 83, 67, 82, 73, 80, 84, 73, 79, 78] : List UInt8)) = true then
 .norm [.b ((gs a 0) == ([83, 85, 66, 83, 67, 82, 73, 80, 84, 73, 79, 78] : List UInt8))]
 else
 Out.andThen (if ((gs a 0) == ([70, 73, 69, 76, 68] : List UInt8)) = true then
 .norm [.b ((gs a 0) == ([70, 73, 69, 76, 68] : List UInt8))]
 else
 Out.andThen (if ((gs a 0) == ([70, 82, 65, 71, 77, 69, 78, 84, 95, 68, 69, 70, 73, 78, 73, 84, 73, 79, 78] : List UInt8)) = true then
 .norm [.b ((gs a 0) == ([70, 82, 65, 71, 77, 69, 78, 84, 95, 68, 69, 70, 73, 78, 73, 84, 73, 79, 78] : List UInt8))]
 else
 Out.andThen (if ((gs a 0) == ([70, 82, 65, 71, 77, 69, 78, 84, 95, 83, 80, 82, 69, 65, 68] : List UInt8)) = true then
 .norm [.b ((gs a 0) == ([70, 82, 65, 71, 77, 69, 78, 84, 95, 83, 80, 82, 69, 65, 68] : List UInt8))]
 else
 Out.andThen (if ((gs a 0) == ([73, 78, 76, 73, 78, 69, 95, 70, 82, 65, 71, 77, 69, 78, 84] : List UInt8)) = true then
 .norm [.b ((gs a 0) == ([73, 78, 76, 73, 78, 69, 95, 70, 82, 65, 71, 77, 69, 78, 84] : List UInt8))]
 else
 Out.andThen (if ((gs a 0) == ([86, 65, 82, 73, 65, 66, 76, 69, 95, 68, 69, 70, 73, 78, 73, 84, 73, 79, 78] : List UInt8)) = true then
 .norm [.b ((gs a 0) == ([86, 65, 82, 73, 65, 66, 76, 69, 95, 68, 69, 70, 73, 78, 73, 84, 73, 79, 78] : List UInt8))]
 else
 Out.andThen (if ((gs a 0) == ([83, 67, 72, 69, 77, 65] : List UInt8)) = true then
 .norm [.b ((gs a 0) == ([83, 67, 72, 69, 77, 65] : List UInt8))]
 else
 Out.andThen (if ((gs a 0) == ([83, 67, 65, 76, 65, 82] : List UInt8)) = true then
 .norm [.b ((gs a 0) == ([83, 67, 65, 76, 65, 82] : List UInt8))]
 else
 Out.andThen (if ((gs a 0) == ([79, 66, 74, 69, 67, 84] : List UInt8)) = true then
 .norm [.b ((gs a 0) == ([79, 66, 74, 69, 67, 84] : List UInt8))]
 else
 Out.andThen (if ((gs a 0) == ([70, 73, 69, 76, 68, 95, 68, 69, 70, 73, 78, 73, 84, 73, 79, 78] : List UInt8)) = true then
 .norm [.b ((gs a 0) == ([70, 73, 69, 76, 68, 95, 68, 69, 70, 73, 78, 73, 84, 73, 79, 78] : List UInt8))]
 else
 Out.andThen (if ((gs a 0) == ([65, 82, 71, 85, 77, 69, 78, 84, 95, 68, 69, 70, 73, 78, 73, 84, 73, 79, 78] : List UInt8)) = true then
 .norm [.b ((gs a 0) == ([65, 82, 71, 85, 77, 69, 78, 84, 95, 68, 69, 70, 73, 78, 73, 84, 73, 79, 78] : List UInt8))]
 else
 Out.andThen (if ((gs a 0) == ([73, 78, 84, 69, 82, 70, 65, 67, 69] : List UInt8)) = true then
 .norm [.b ((gs a 0) == ([73, 78, 84, 69, 82, 70, 65, 67, 69] : List UInt8))]
 else
 Out.andThen (if ((gs a 0) == ([85, 78, 73, 79, 78] : List UInt8)) = true then
 .norm [.b ((gs a 0) == ([85, 78, 73, 79, 78] : List UInt8))]
 else
 Out.andThen (if ((gs a 0) == ([69, 78, 85, 77] : List UInt8)) = true then
 .norm [.b ((gs a 0) == ([69, 78, 85, 77] : List UInt8))]
 else
 Out.andThen (if ((gs a 0) == ([69, 78, 85, 77, 95, 86, 65, 76, 85, 69] : List UInt8)) = true then
 .norm [.b ((gs a 0) == ([69, 78, 85, 77, 95, 86, 65, 76, 85, 69] : List UInt8))]
 else
 Out.andThen (if ((gs a 0) == ([73, 78, 80, 85, 84, 95, 79, 66, 74, 69, 67, 84] : List UInt8)) = true then
 .norm [.b ((gs a 0) == ([73, 78, 80, 85, 84, 95, 79, 66, 74, 69, 67, 84] : List UInt8))]
 else
 .norm [.b ((gs a 0) == ([73, 78, 80, 85, 84, 95, 70, 73, 69, 76, 68, 95, 68, 69, 70, 73, 78, 73, 84, 73, 79, 78] : List UInt8))]) fun v1 =>
 .norm [.b (gb v1 0)]) fun v2 =>
 .norm [.b (gb v2 0)]) fun v3 =>
 .norm [.b (gb v3 0)]) fun v4 =>
 .norm [.b (gb v4 0)]) fun v5 =>
 .norm [.b (gb v5 0)]) fun v6 =>
 .norm [.b (gb v6 0)]) fun v7 =>
 .norm [.b (gb v7 0)]) fun v8 =>
 .norm [.b (gb v8 0)]) fun v9 =>
 .norm [.b (gb v9 0)]) fun v10 =>
 .norm [.b (gb v10 0)]) fun v11 =>
 .norm [.b (gb v11 0)]) fun v12 =>
 .norm [.b (gb v12 0)]) fun v13 =>
 .norm [.b (gb v13 0)]) fun v14 =>
 .norm [.b (gb v14 0)]) fun v15 =>
 .norm [.b (gb v15 0)]) fun v16 =>
 .norm [.b (gb v16 0)]) fun v17 =>
 .norm [.b (gb v17 0)]) fun v18 =>
 if (gb v18 0) = true then
 .ret [.b true]
 else
 .norm []) 0 fun v19 =>
 .ret [.b false]
theorem eq_impl_PlaceOk a : r_impl_PlaceOk a = E_impl_PlaceOk a := (Run_eq cfg 76 _ a).trans (by kernel_rfl)
noncomputable def E_strings_Trim (a : List DC) : Out := match primH [.s, .s] [.s] qTrim h_strings_Trim a with | some r => .ret r | none => .fail
theorem eq_strings_Trim a : r_strings_Trim a = E_strings_Trim a := (Run_eq cfg 168 h_strings_Trim a).trans (by kernel_rfl)
noncomputable def E_strings_Contains (a : List DC) : Out := match primH [.s, .s] [.b] qContains h_strings_Contains a with | some r => .ret r | none => .fail
theorem eq_strings_Contains a : r_strings_Contains a = E_strings_Contains a := (Run_eq cfg 169 h_strings_Contains a).trans (by kernel_rfl)
noncomputable def E_impl_emptyValue (a : List DC) : Out :=
 Out.andThen (if ((gi a 0) == (0 : Int)) = true then
 if ((gs a 1) == ([] : List UInt8)) = true then
 (r_impl_plain [.i (gi a 0), .s (gs a 1), .sl (gl a 2), .sl (gl a 3)]).bindR fun r1 =>
 .norm [.b (gb r1 0)]
 else
 .norm [.b false]
 else
 .norm [.b false]) fun v2 =>
 .ret [.b (gb v2 0)]
theorem eq_impl_emptyValue a : r_impl_emptyValue a = E_impl_emptyValue a := (Run_eq cfg 176 _ a).trans (by kernel_rfl)
noncomputable def E_impl_ValueOk (a : List DC) : Out :=
 (r_impl_valueOk [.i (gi a 0), .s (gs a 1), .sl (gl a 2), .sl (gl a 3), .i (10 : Int)]).bindR fun r1 =>
 .ret [.b (gb r1 0)]
theorem eq_impl_ValueOk a : r_impl_ValueOk a = E_impl_ValueOk a := (Run_eq cfg 162 _ a).trans (by kernel_rfl)
noncomputable def E_impl_IsConst (a : List DC) : Out :=
 Out.andThen (if ((gi a 0) != (1 : Int)) = true then
 (r_slices_ContainsFunc_impl_Value__impl_IsConst_1 [.sl (gl a 2)]).bindR fun r1 =>
 .norm [.b (!(gb r1 0))]
 else
 .norm [.b false]) fun v2 =>
 .ret [.b (gb v2 0)]
theorem eq_impl_IsConst a : r_impl_IsConst a = E_impl_IsConst a := (Run_eq cfg 152 _ a).trans (by kernel_rfl)
noncomputable def E_impl_DirsOk_1 (a : List DC) : Out :=
 Out.andThen ((r_impl_NameOk [.s (gs a 0)]).bindR fun r1 =>
 if (!(gb r1 0)) = true then
 .norm [.b true]
 else
 (r_impl_ArgsOk [.sl (gl a 1)]).bindR fun r2 =>
 .norm [.b (!(gb r2 0))]) fun v3 =>
 .ret [.b (gb v3 0)]
theorem eq_impl_DirsOk_1 a : r_impl_DirsOk_1 a = E_impl_DirsOk_1 a := (Run_eq cfg 128 _ a).trans (by kernel_rfl)
noncomputable def E_slices_IndexFunc_impl_Arg__impl_ArgsOk_1L1 : List DC → Out := fun v1 =>
 if (decide ((gi v1 2) < (gi v1 1))) = true then
 Out.andThenB (if 148 = 148 ∧ 0 ≤ (gi v1 2) ∧ (gi v1 2) < ((gl v1 0).length : Int) then
 (r_impl_ArgsOk_1 [.s ((((gl v1 0).getD (gi v1 2).toNat []).getD 0 d0).ss), .i ((((gl v1 0).getD (gi v1 2).toNat []).getD 1 d0).ii), .s ((((gl v1 0).getD (gi v1 2).toNat []).getD 2 d0).ss), .sl ((((gl v1 0).getD (gi v1 2).toNat []).getD 3 d0).ll), .sl ((((gl v1 0).getD (gi v1 2).toNat []).getD 4 d0).ll)]).bindR fun r2 =>
 if (gb r2 0) = true then
 .ret [.i (gi v1 2)]
 else
 .norm [.sl (gl v1 0), .i (gi v1 1), .i (gi v1 2)]
 else
 .fail) 1 fun v3 =>
 .norm [.sl (gl v3 0), .i (gi v3 1), .i (IntKind.i64.wrap ((gi v3 2) + (1 : Int)))]
 else
 .ex 0 []
noncomputable def E_slices_IndexFunc_impl_Arg__impl_ArgsOk_1 (a : List DC) : Out :=
 Out.andThenB (Loop E_slices_IndexFunc_impl_Arg__impl_ArgsOk_1L1 [.sl (gl a 0), .i ((gl a 0).length : Int), .i (0 : Int)]) 0 fun v4 =>
 .ret [.i (-1 : Int)]
theorem eq_slices_IndexFunc_impl_Arg__impl_ArgsOk_1 a : r_slices_IndexFunc_impl_Arg__impl_ArgsOk_1 a = E_slices_IndexFunc_impl_Arg__impl_ArgsOk_1 a := (Run_eq cfg 171 _ a).trans (by kernel_rfl)
noncomputable def E_spec_l07RightL1 : List DC → Out := fun v4 =>
 if (decide ((gi v4 1) < ((gl v4 4).length : Int))) = true then
 Out.andThenB (Out.andThen (if ((gi v4 2) == (8 : Int)) = true then
 if 9 = 9 ∧ 0 ≤ (gi v4 1) ∧ (gi v4 1) < ((gl v4 5).length : Int) then
 (r_spec_NameOk [.s ((((gl v4 5).getD (gi v4 1).toNat []).getD 0 d0).ss)]).bindR fun r5 =>
 if (!(gb r5 0)) = true then
 .norm [.i (gi v4 0), .i (gi v4 1), .b true, .i (gi v4 2), .s (gs v4 3), .sl (gl v4 4), .sl (gl v4 5)]
 else
 if 68 = 68 ∧ 0 ≤ (gi v4 1) ∧ (gi v4 1) < ((gl v4 4).length : Int) then
 (r_spec_l07Right [.i ((((gl v4 4).getD (gi v4 1).toNat []).getD 0 d0).ii), .s ((((gl v4 4).getD (gi v4 1).toNat []).getD 1 d0).ss), .sl ((((gl v4 4).getD (gi v4 1).toNat []).getD 2 d0).ll), .sl ((((gl v4 4).getD (gi v4 1).toNat []).getD 3 d0).ll), .i (IntKind.i64.wrap ((gi v4 0) - (1 : Int)))]).bindR fun r6 =>
 .norm [.i (gi v4 0), .i (gi v4 1), .b (!(gb r6 0)), .i (gi v4 2), .s (gs v4 3), .sl (gl v4 4), .sl (gl v4 5)]
 else
 .fail
 else
 .fail
 else
 if 68 = 68 ∧ 0 ≤ (gi v4 1) ∧ (gi v4 1) < ((gl v4 4).length : Int) then
 (r_spec_l07Right [.i ((((gl v4 4).getD (gi v4 1).toNat []).getD 0 d0).ii), .s ((((gl v4 4).getD (gi v4 1).toNat []).getD 1 d0).ss), .sl ((((gl v4 4).getD (gi v4 1).toNat []).getD 2 d0).ll), .sl ((((gl v4 4).getD (gi v4 1).toNat []).getD 3 d0).ll), .i (IntKind.i64.wrap ((gi v4 0) - (1 : Int)))]).bindR fun r7 =>
 .norm [.i (gi v4 0), .i (gi v4 1), .b (!(gb r7 0)), .i (gi v4 2), .s (gs v4 3), .sl (gl v4 4), .sl (gl v4 5)]
 else
 .fail) fun v8 =>
 if (gb v8 2) = true then
 .ret [.b false]
 else
 .norm [.i (gi v8 0), .i (gi v8 1), .i (gi v8 3), .s (gs v8 4), .sl (gl v8 5), .sl (gl v8 6)]) 1 fun v9 =>
 .norm [.i (gi v9 0), .i (IntKind.i64.wrap ((gi v9 1) + (1 : Int))), .i (gi v9 2), .s (gs v9 3), .sl (gl v9 4), .sl (gl v9 5)]
 else
 .ex 0 []
noncomputable def E_spec_l07Right (a : List DC) : Out :=
 (r_spec_l07One [.i (gi a 0), .s (gs a 1), .sl (gl a 2), .sl (gl a 3)]).bindR fun r1 =>
 if (!(gb r1 0)) = true then
 .ret [.b false]
 else
 Out.andThen (if ((gi a 0) == (7 : Int)) = true then
 .norm [.i (gi a 4), .b true, .i (gi a 0), .s (gs a 1), .sl (gl a 2), .sl (gl a 3)]
 else
 .norm [.i (gi a 4), .b ((gi a 0) == (8 : Int)), .i (gi a 0), .s (gs a 1), .sl (gl a 2), .sl (gl a 3)]) fun v2 =>
 Out.andThen (if (!(gb v2 1)) = true then
 if (decide (((gl v2 4).length : Int) > (0 : Int))) = true then
 .norm [.i (gi v2 0), .b true, .i (gi v2 2), .s (gs v2 3), .sl (gl v2 4), .sl (gl v2 5)]
 else
 if ((gi v2 2) != (8 : Int)) = true then
 if (decide (((gl v2 5).length : Int) > (0 : Int))) = true then
 .norm [.i (gi v2 0), .b true, .i (gi v2 2), .s (gs v2 3), .sl (gl v2 4), .sl (gl v2 5)]
 else
 if ((gi v2 2) == (8 : Int)) = true then
 if (((gl v2 5).length : Int) != ((gl v2 4).length : Int)) = true then
 .norm [.i (gi v2 0), .b true, .i (gi v2 2), .s (gs v2 3), .sl (gl v2 4), .sl (gl v2 5)]
 else
 if (gb v2 1) = true then
 .norm [.i (gi v2 0), .b ((gi v2 0) == (0 : Int)), .i (gi v2 2), .s (gs v2 3), .sl (gl v2 4), .sl (gl v2 5)]
 else
 .norm [.i (gi v2 0), .b false, .i (gi v2 2), .s (gs v2 3), .sl (gl v2 4), .sl (gl v2 5)]
 else
 if (gb v2 1) = true then
 .norm [.i (gi v2 0), .b ((gi v2 0) == (0 : Int)), .i (gi v2 2), .s (gs v2 3), .sl (gl v2 4), .sl (gl v2 5)]
 else
 .norm [.i (gi v2 0), .b false, .i (gi v2 2), .s (gs v2 3), .sl (gl v2 4), .sl (gl v2 5)]
 else
 if ((gi v2 2) == (8 : Int)) = true then
 if (((gl v2 5).length : Int) != ((gl v2 4).length : Int)) = true then
 .norm [.i (gi v2 0), .b true, .i (gi v2 2), .s (gs v2 3), .sl (gl v2 4), .sl (gl v2 5)]
 else
 if (gb v2 1) = true then
 .norm [.i (gi v2 0), .b ((gi v2 0) == (0 : Int)), .i (gi v2 2), .s (gs v2 3), .sl (gl v2 4), .sl (gl v2 5)]
 else
 .norm [.i (gi v2 0), .b false, .i (gi v2 2), .s (gs v2 3), .sl (gl v2 4), .sl (gl v2 5)]
 else
 if (gb v2 1) = true then
 .norm [.i (gi v2 0), .b ((gi v2 0) == (0 : Int)), .i (gi v2 2), .s (gs v2 3), .sl (gl v2 4), .sl (gl v2 5)]
 else
 .norm [.i (gi v2 0), .b false, .i (gi v2 2), .s (gs v2 3), .sl (gl v2 4), .sl (gl v2 5)]
 else
 if ((gi v2 2) != (8 : Int)) = true then
 if (decide (((gl v2 5).length : Int) > (0 : Int))) = true then
 .norm [.i (gi v2 0), .b true, .i (gi v2 2), .s (gs v2 3), .sl (gl v2 4), .sl (gl v2 5)]
 else
 if ((gi v2 2) == (8 : Int)) = true then
 if (((gl v2 5).length : Int) != ((gl v2 4).length : Int)) = true then
 .norm [.i (gi v2 0), .b true, .i (gi v2 2), .s (gs v2 3), .sl (gl v2 4), .sl (gl v2 5)]
 else
 if (gb v2 1) = true then
 .norm [.i (gi v2 0), .b ((gi v2 0) == (0 : Int)), .i (gi v2 2), .s (gs v2 3), .sl (gl v2 4), .sl (gl v2 5)]
 else
 .norm [.i (gi v2 0), .b false, .i (gi v2 2), .s (gs v2 3), .sl (gl v2 4), .sl (gl v2 5)]
 else
 if (gb v2 1) = true then
 .norm [.i (gi v2 0), .b ((gi v2 0) == (0 : Int)), .i (gi v2 2), .s (gs v2 3), .sl (gl v2 4), .sl (gl v2 5)]
 else
 .norm [.i (gi v2 0), .b false, .i (gi v2 2), .s (gs v2 3), .sl (gl v2 4), .sl (gl v2 5)]
 else
 if ((gi v2 2) == (8 : Int)) = true then
 if (((gl v2 5).length : Int) != ((gl v2 4).length : Int)) = true then
 .norm [.i (gi v2 0), .b true, .i (gi v2 2), .s (gs v2 3), .sl (gl v2 4), .sl (gl v2 5)]
 else
 if (gb v2 1) = true then
 .norm [.i (gi v2 0), .b ((gi v2 0) == (0 : Int)), .i (gi v2 2), .s (gs v2 3), .sl (gl v2 4), .sl (gl v2 5)]
 else
 .norm [.i (gi v2 0), .b false, .i (gi v2 2), .s (gs v2 3), .sl (gl v2 4), .sl (gl v2 5)]
 else
 if (gb v2 1) = true then
 .norm [.i (gi v2 0), .b ((gi v2 0) == (0 : Int)), .i (gi v2 2), .s (gs v2 3), .sl (gl v2 4), .sl (gl v2 5)]
 else
 .norm [.i (gi v2 0), .b false, .i (gi v2 2), .s (gs v2 3), .sl (gl v2 4), .sl (gl v2 5)]) fun v3 =>
 if (gb v3 1) = true then
 .ret [.b false]
 else
 Out.andThenB (Loop E_spec_l07RightL1 [.i (gi v3 0), .i (0 : Int), .i (gi v3 2), .s (gs v3 3), .sl (gl v3 4), .sl (gl v3 5)]) 0 fun v10 =>
 .ret [.b true]
theorem eq_spec_l07Right a : r_spec_l07Right a = E_spec_l07Right a := (Run_eq cfg 178 _ a).trans (by kernel_rfl)
noncomputable def E_impl_insOk_1 (a : List DC) : Out :=
 (r_impl_inOk [.s (gs a 0), .s (gs a 1), .s (gs a 2), .s (gs a 3), .b (gb a 4), .i (gi a 5), .s (gs a 6), .sl (gl a 7), .sl (gl a 8), .sl (gl a 9)]).bindR fun r1 =>
 .ret [.b (!(gb r1 0))]
theorem eq_impl_insOk_1 a : r_impl_insOk_1 a = E_impl_insOk_1 a := (Run_eq cfg 145 _ a).trans (by kernel_rfl)
noncomputable def E_impl_enumOk (a : List DC) : Out :=
 Out.andThen ((r_impl_NameOk [.s (gs a 0)]).bindR fun r1 =>
 if (gb r1 0) = true then
 (r_impl_Word [.s (gs a 0)]).bindR fun r2 =>
 if (!(gb r2 0)) = true then
 (r_impl_descOk [.s (gs a 1)]).bindR fun r3 =>
 if (gb r3 0) = true then
 (r_impl_constDirs [.sl (gl a 2)]).bindR fun r4 =>
 .norm [.b (gb r4 0)]
 else
 .norm [.b false]
 else
 .norm [.b false]
 else
 .norm [.b false]) fun v5 =>
 .ret [.b (gb v5 0)]
theorem eq_impl_enumOk a : r_impl_enumOk a = E_impl_enumOk a := (Run_eq cfg 111 _ a).trans (by kernel_rfl)
noncomputable def E_impl_rootOk (a : List DC) : Out :=
 Out.andThen ((r_impl_OpWord [.i (gi a 0)]).bindR fun r1 =>
 if (!((gs r1 0) == ([] : List UInt8))) = true then
 (r_impl_NameOk [.s (gs a 1)]).bindR fun r2 =>
 .norm [.b (gb r2 0)]
 else
 .norm [.b false]) fun v3 =>
 .ret [.b (gb v3 0)]
theorem eq_impl_rootOk a : r_impl_rootOk a = E_impl_rootOk a := (Run_eq cfg 114 _ a).trans (by kernel_rfl)
noncomputable def E_impl_constDirs_1 (a : List DC) : Out :=
 (r_slices_ContainsFunc_impl_Arg__impl_constDirs_1_1 [.sl (gl a 1)]).bindR fun r1 =>
 .ret [.b (gb r1 0)]
theorem eq_impl_constDirs_1 a : r_impl_constDirs_1 a = E_impl_constDirs_1 a := (Run_eq cfg 149 _ a).trans (by kernel_rfl)
noncomputable def E_impl_plain (a : List DC) : Out :=
 Out.andThen (if (((gl a 2).length : Int) == (0 : Int)) = true then
 .norm [.b (((gl a 3).length : Int) == (0 : Int))]
 else
 .norm [.b false]) fun v1 =>
 .ret [.b (gb v1 0)]
theorem eq_impl_plain a : r_impl_plain a = E_impl_plain a := (Run_eq cfg 188 _ a).trans (by kernel_rfl)
noncomputable def E_impl_valueOk (a : List DC) : Out :=
 Out.andThenB (if ((gi a 0) == (1 : Int)) = true then
 Out.andThen ((r_impl_plain [.i (gi a 0), .s (gs a 1), .sl (gl a 2), .sl (gl a 3)]).bindR fun r1 =>
 if (gb r1 0) = true then
 (r_impl_NameOk [.s (gs a 1)]).bindR fun r2 =>
 .norm [.b (gb r2 0)]
 else
 .norm [.b false]) fun v3 =>
 .ret [.b (gb v3 0)]
 else
 if ((gi a 0) == (2 : Int)) = true then
 Out.andThen ((r_impl_plain [.i (gi a 0), .s (gs a 1), .sl (gl a 2), .sl (gl a 3)]).bindR fun r4 =>
 if (gb r4 0) = true then
 (r_impl_IntOk [.s (gs a 1)]).bindR fun r5 =>
 .norm [.b (gb r5 0)]
 else
 .norm [.b false]) fun v6 =>
 .ret [.b (gb v6 0)]
 else
 if ((gi a 0) == (3 : Int)) = true then
 Out.andThen ((r_impl_plain [.i (gi a 0), .s (gs a 1), .sl (gl a 2), .sl (gl a 3)]).bindR fun r7 =>
 if (gb r7 0) = true then
 (r_impl_FloatOk [.s (gs a 1)]).bindR fun r8 =>
 .norm [.b (gb r8 0)]
 else
 .norm [.b false]) fun v9 =>
 .ret [.b (gb v9 0)]
 else
 if ((gi a 0) == (4 : Int)) = true then
 Out.andThen ((r_impl_plain [.i (gi a 0), .s (gs a 1), .sl (gl a 2), .sl (gl a 3)]).bindR fun r10 =>
 if (gb r10 0) = true then
 (r_impl_Escaped [.s (gs a 1)]).bindR fun r11 =>
 .norm [.b (!((gs r11 0) == ([] : List UInt8)))]
 else
 .norm [.b false]) fun v12 =>
 .ret [.b (gb v12 0)]
 else
 if ((gi a 0) == (5 : Int)) = true then
 Out.andThen ((r_impl_plain [.i (gi a 0), .s (gs a 1), .sl (gl a 2), .sl (gl a 3)]).bindR fun r13 =>
 if (gb r13 0) = true then
 (r_impl_Word [.s (gs a 1)]).bindR fun r14 =>
 .norm [.b (gb r14 0)]
 else
 .norm [.b false]) fun v15 =>
 .ret [.b (gb v15 0)]
 else
 if ((gi a 0) == (6 : Int)) = true then
 Out.andThen ((r_impl_plain [.i (gi a 0), .s (gs a 1), .sl (gl a 2), .sl (gl a 3)]).bindR fun r16 =>
 if (gb r16 0) = true then
 (r_impl_NameOk [.s (gs a 1)]).bindR fun r17 =>
 if (gb r17 0) = true then
 (r_impl_Word [.s (gs a 1)]).bindR fun r18 =>
 .norm [.b (!(gb r18 0))]
 else
 .norm [.b false]
 else
 .norm [.b false]) fun v19 =>
 .ret [.b (gb v19 0)]
 else
 Out.andThen (if ((gi a 0) == (7 : Int)) = true then
 if (((gl a 3).length : Int) != (0 : Int)) = true then
 .ret [.b false]
 else
 .norm [.i (gi a 0), .s (gs a 1), .sl (gl a 2), .sl (gl a 3), .i (gi a 4)]
 else
 if ((gi a 0) == (8 : Int)) = true then
 Out.andThen (if (((gl a 3).length : Int) != ((gl a 2).length : Int)) = true then
 .norm [.b true, .i (gi a 0), .s (gs a 1), .sl (gl a 2), .sl (gl a 3), .i (gi a 4)]
 else
 (r_slices_ContainsFunc_string__impl_valueOk_1 [.sl (gl a 3)]).bindR fun r20 =>
 .norm [.b (gb r20 0), .i (gi a 0), .s (gs a 1), .sl (gl a 2), .sl (gl a 3), .i (gi a 4)]) fun v21 =>
 if (gb v21 0) = true then
 .ret [.b false]
 else
 .norm [.i (gi v21 1), .s (gs v21 2), .sl (gl v21 3), .sl (gl v21 4), .i (gi v21 5)]
 else
 .ret [.b false]) fun v22 =>
 .norm [.i (gi v22 0), .s (gs v22 1), .sl (gl v22 2), .sl (gl v22 3), .i (gi v22 4)]) 0 fun v23 =>
 Out.andThen (if (decide ((gi v23 4) > (0 : Int))) = true then
 if ((gs v23 1) == ([] : List UInt8)) = true then
 (r_slices_ContainsFunc_impl_Value__impl_valueOk_2 [.sl (gl v23 2), .i (gi v23 4)]).bindR fun r24 =>
 .norm [.b (!(gb r24 0))]
 else
 .norm [.b false]
 else
 .norm [.b false]) fun v25 =>
 .ret [.b (gb v25 0)]
theorem eq_impl_valueOk a : r_impl_valueOk a = E_impl_valueOk a := (Run_eq cfg 177 _ a).trans (by kernel_rfl)
noncomputable def E_slices_ContainsFunc_impl_Value__impl_IsConst_1 (a : List DC) : Out :=
 (r_slices_IndexFunc_impl_Value__impl_IsConst_1 [.sl (gl a 0)]).bindR fun r1 =>
 .ret [.b (decide ((gi r1 0) ≥ (0 : Int)))]
theorem eq_slices_ContainsFunc_impl_Value__impl_IsConst_1 a : r_slices_ContainsFunc_impl_Value__impl_IsConst_1 a = E_slices_ContainsFunc_impl_Value__impl_IsConst_1 a := (Run_eq cfg 172 _ a).trans (by kernel_rfl)
noncomputable def E_impl_ArgsOk_1 (a : List DC) : Out :=
 Out.andThen ((r_impl_NameOk [.s (gs a 0)]).bindR fun r1 =>
 if (!(gb r1 0)) = true then
 .norm [.b true]
 else
 (r_impl_ValueOk [.i (gi a 1), .s (gs a 2), .sl (gl a 3), .sl (gl a 4)]).bindR fun r2 =>
 .norm [.b (!(gb r2 0))]) fun v3 =>
 .ret [.b (gb v3 0)]
theorem eq_impl_ArgsOk_1 a : r_impl_ArgsOk_1 a = E_impl_ArgsOk_1 a := (Run_eq cfg 161 _ a).trans (by kernel_rfl)
noncomputable def E_spec_l07One (a : List DC) : Out :=
 Out.andThenB (if ((gi a 0) == (1 : Int)) = true then
 (r_spec_NameOk [.s (gs a 1)]).bindR fun r1 =>
 .ret [.b (gb r1 0)]
 else
 if ((gi a 0) == (2 : Int)) = true then
 (r_spec_IntOk [.s (gs a 1)]).bindR fun r2 =>
 .ret [.b (gb r2 0)]
 else
 if ((gi a 0) == (3 : Int)) = true then
 (r_spec_FloatOk [.s (gs a 1)]).bindR fun r3 =>
 .ret [.b (gb r3 0)]
 else
 if ((gi a 0) == (4 : Int)) = true then
 (r_spec_Escaped [.s (gs a 1)]).bindR fun r4 =>
 .ret [.b (!((gs r4 0) == ([] : List UInt8)))]
 else
 if ((gi a 0) == (5 : Int)) = true then
 (r_spec_Word [.s (gs a 1)]).bindR fun r5 =>
 .ret [.b (gb r5 0)]
 else
 if ((gi a 0) == (6 : Int)) = true then
 Out.andThen ((r_spec_NameOk [.s (gs a 1)]).bindR fun r6 =>
 if (gb r6 0) = true then
 (r_spec_Word [.s (gs a 1)]).bindR fun r7 =>
 .norm [.b (!(gb r7 0))]
 else
 .norm [.b false]) fun v8 =>
 .ret [.b (gb v8 0)]
 else
 Out.andThen (if ((gi a 0) == (7 : Int)) = true then
 .norm [.b ((gi a 0) == (7 : Int)), .i (gi a 0), .s (gs a 1), .sl (gl a 2), .sl (gl a 3)]
 else
 .norm [.b ((gi a 0) == (8 : Int)), .i (gi a 0), .s (gs a 1), .sl (gl a 2), .sl (gl a 3)]) fun v9 =>
 if (gb v9 0) = true then
 .ret [.b ((gs v9 2) == ([] : List UInt8))]
 else
 .norm []) 0 fun v10 =>
 .ret [.b false]
theorem eq_spec_l07One a : r_spec_l07One a = E_spec_l07One a := (Run_eq cfg 193 _ a).trans (by kernel_rfl)
noncomputable def E_impl_Word (a : List DC) : Out :=
 Out.andThen (if ((gs a 0) == ([116, 114, 117, 101] : List UInt8)) = true then
 .norm [.b true]
 else
 if ((gs a 0) == ([102, 97, 108, 115, 101] : List UInt8)) = true then
 .norm [.b true]
 else
 .norm [.b ((gs a 0) == ([110, 117, 108, 108] : List UInt8))]) fun v1 =>
 .ret [.b (gb v1 0)]
theorem eq_impl_Word a : r_impl_Word a = E_impl_Word a := (Run_eq cfg 147 _ a).trans (by kernel_rfl)
noncomputable def E_slices_ContainsFunc_impl_Arg__impl_constDirs_1_1 (a : List DC) : Out :=
 (r_slices_IndexFunc_impl_Arg__impl_constDirs_1_1 [.sl (gl a 0)]).bindR fun r1 =>
 .ret [.b (decide ((gi r1 0) ≥ (0 : Int)))]
theorem eq_slices_ContainsFunc_impl_Arg__impl_constDirs_1_1 a : r_slices_ContainsFunc_impl_Arg__impl_constDirs_1_1 a = E_slices_ContainsFunc_impl_Arg__impl_constDirs_1_1 a := (Run_eq cfg 150 _ a).trans (by kernel_rfl)
noncomputable def E_impl_IntOk (a : List DC) : Out :=
 (r_strings_TrimPrefix [.s (gs a 0), .s ([45] : List UInt8)]).bindR fun r1 =>
 Out.andThen (if (decide (((gs a 0).length : Int) ≤ (40 : Int))) = true then
 (r_impl_figures [.s (gs r1 0)]).bindR fun r2 =>
 if (gb r2 0) = true then
 if ((gs r1 0) == ([48] : List UInt8)) = true then
 .norm [.b true]
 else
 if 0 ≤ (0 : Int) ∧ (0 : Int) < ((gs r1 0).length : Int) then
 .norm [.b ((((gs r1 0).getD (0 : Int).toNat 0).toNat : Int) != (48 : Int))]
 else
 .fail
 else
 .norm [.b false]
 else
 .norm [.b false]) fun v3 =>
 .ret [.b (gb v3 0)]
theorem eq_impl_IntOk a : r_impl_IntOk a = E_impl_IntOk a := (Run_eq cfg 189 _ a).trans (by kernel_rfl)
noncomputable def E_impl_FloatOk (a : List DC) : Out :=
 if (decide (((gs a 0).length : Int) > (40 : Int))) = true then
 .ret [.b false]
 else
 (r_strings_IndexAny [.s (gs a 0), .s ([101, 69] : List UInt8)]).bindR fun r1 =>
 Out.andThen (if (decide ((gi r1 0) ≥ (0 : Int))) = true then
 if 0 ≤ (gi r1 0) ∧ (gi r1 0) ≤ ((gs a 0).length : Int) then
 if 0 ≤ (IntKind.i64.wrap ((gi r1 0) + (1 : Int))) ∧ (IntKind.i64.wrap ((gi r1 0) + (1 : Int))) ≤ ((gs a 0).length : Int) then
 Out.andThen (if (!(((gs a 0).drop (IntKind.i64.wrap ((gi r1 0) + (1 : Int))).toNat) == ([] : List UInt8))) = true then
 if 0 ≤ (0 : Int) ∧ (0 : Int) < (((gs a 0).drop (IntKind.i64.wrap ((gi r1 0) + (1 : Int))).toNat).length : Int) then
 if (((((gs a 0).drop (IntKind.i64.wrap ((gi r1 0) + (1 : Int))).toNat).getD (0 : Int).toNat 0).toNat : Int) == (43 : Int)) = true then
 .norm [.s ((gs a 0).take (gi r1 0).toNat), .s ((gs a 0).drop (IntKind.i64.wrap ((gi r1 0) + (1 : Int))).toNat), .i (gi r1 0), .b true]
 else
 if 0 ≤ (0 : Int) ∧ (0 : Int) < (((gs a 0).drop (IntKind.i64.wrap ((gi r1 0) + (1 : Int))).toNat).length : Int) then
 .norm [.s ((gs a 0).take (gi r1 0).toNat), .s ((gs a 0).drop (IntKind.i64.wrap ((gi r1 0) + (1 : Int))).toNat), .i (gi r1 0), .b (((((gs a 0).drop (IntKind.i64.wrap ((gi r1 0) + (1 : Int))).toNat).getD (0 : Int).toNat 0).toNat : Int) == (45 : Int))]
 else
 .fail
 else
 .fail
 else
 .norm [.s ((gs a 0).take (gi r1 0).toNat), .s ((gs a 0).drop (IntKind.i64.wrap ((gi r1 0) + (1 : Int))).toNat), .i (gi r1 0), .b false]) fun v2 =>
 Out.andThen (if (gb v2 3) = true then
 if 0 ≤ (1 : Int) ∧ (1 : Int) ≤ ((gs v2 1).length : Int) then
 .norm [.s (gs v2 0), .s ((gs v2 1).drop (1 : Int).toNat), .i (gi v2 2)]
 else
 .fail
 else
 .norm [.s (gs v2 0), .s (gs v2 1), .i (gi v2 2)]) fun v3 =>
 (r_impl_figures [.s (gs v3 1)]).bindR fun r4 =>
 if (!(gb r4 0)) = true then
 .ret [.b false]
 else
 .norm [.s (gs v3 0), .i (gi v3 2)]
 else
 .fail
 else
 .fail
 else
 .norm [.s (gs a 0), .i (gi r1 0)]) fun v5 =>
 (r_strings_Cut [.s (gs v5 0), .s ([46] : List UInt8)]).bindR fun r6 =>
 Out.andThen ((r_impl_IntOk [.s (gs r6 0)]).bindR fun r7 =>
 if (gb r7 0) = true then
 if (gb r6 2) = true then
 if (!(gb r6 2)) = true then
 .norm [.b true]
 else
 (r_impl_figures [.s (gs r6 1)]).bindR fun r8 =>
 .norm [.b (gb r8 0)]
 else
 if (decide ((gi v5 1) ≥ (0 : Int))) = true then
 if (!(gb r6 2)) = true then
 .norm [.b true]
 else
 (r_impl_figures [.s (gs r6 1)]).bindR fun r9 =>
 .norm [.b (gb r9 0)]
 else
 .norm [.b false]
 else
 .norm [.b false]) fun v10 =>
 .ret [.b (gb v10 0)]
theorem eq_impl_FloatOk a : r_impl_FloatOk a = E_impl_FloatOk a := (Run_eq cfg 190 _ a).trans (by kernel_rfl)
noncomputable def E_slices_ContainsFunc_string__impl_valueOk_1 (a : List DC) : Out :=
 (r_slices_IndexFunc_string__impl_valueOk_1 [.sl (gl a 0)]).bindR fun r1 =>
 .ret [.b (decide ((gi r1 0) ≥ (0 : Int)))]
theorem eq_slices_ContainsFunc_string__impl_valueOk_1 a : r_slices_ContainsFunc_string__impl_valueOk_1 a = E_slices_ContainsFunc_string__impl_valueOk_1 a := (Run_eq cfg 74 _ a).trans (by kernel_rfl)
noncomputable def E_slices_ContainsFunc_impl_Value__impl_valueOk_2 (a : List DC) : Out :=
 (r_slices_IndexFunc_impl_Value__impl_valueOk_2 [.sl (gl a 0), .i (gi a 1)]).bindR fun r1 =>
 .ret [.b (decide ((gi r1 0) ≥ (0 : Int))), .i (gi r1 1)]
theorem eq_slices_ContainsFunc_impl_Value__impl_valueOk_2 a : r_slices_ContainsFunc_impl_Value__impl_valueOk_2 a = E_slices_ContainsFunc_impl_Value__impl_valueOk_2 a := (Run_eq cfg 172 _ a).trans (by kernel_rfl)
noncomputable def E_slices_IndexFunc_impl_Value__impl_IsConst_1L1 : List DC → Out := fun v1 =>
 if (decide ((gi v1 2) < (gi v1 1))) = true then
 Out.andThenB (if 68 = 68 ∧ 0 ≤ (gi v1 2) ∧ (gi v1 2) < ((gl v1 0).length : Int) then
 (r_impl_IsConst_1 [.i ((((gl v1 0).getD (gi v1 2).toNat []).getD 0 d0).ii), .s ((((gl v1 0).getD (gi v1 2).toNat []).getD 1 d0).ss), .sl ((((gl v1 0).getD (gi v1 2).toNat []).getD 2 d0).ll), .sl ((((gl v1 0).getD (gi v1 2).toNat []).getD 3 d0).ll)]).bindR fun r2 =>
 if (gb r2 0) = true then
 .ret [.i (gi v1 2)]
 else
 .norm [.sl (gl v1 0), .i (gi v1 1), .i (gi v1 2)]
 else
 .fail) 1 fun v3 =>
 .norm [.sl (gl v3 0), .i (gi v3 1), .i (IntKind.i64.wrap ((gi v3 2) + (1 : Int)))]
 else
 .ex 0 []
noncomputable def E_slices_IndexFunc_impl_Value__impl_IsConst_1 (a : List DC) : Out :=
 Out.andThenB (Loop E_slices_IndexFunc_impl_Value__impl_IsConst_1L1 [.sl (gl a 0), .i ((gl a 0).length : Int), .i (0 : Int)]) 0 fun v4 =>
 .ret [.i (-1 : Int)]
theorem eq_slices_IndexFunc_impl_Value__impl_IsConst_1 a : r_slices_IndexFunc_impl_Value__impl_IsConst_1 a = E_slices_IndexFunc_impl_Value__impl_IsConst_1 a := (Run_eq cfg 187 _ a).trans (by kernel_rfl)
noncomputable def E_spec_IntOk (a : List DC) : Out :=
 Out.andThen (if (decide (((gs a 0).length : Int) ≤ (40 : Int))) = true then
 if (decide (((gs a 0).length : Int) > (0 : Int))) = true then
 (r_spec_l03Int [.s (gs a 0)]).bindR fun r1 =>
 .norm [.b ((gi r1 0) == ((gs a 0).length : Int))]
 else
 .norm [.b false]
 else
 .norm [.b false]) fun v2 =>
 .ret [.b (gb v2 0)]
theorem eq_spec_IntOk a : r_spec_IntOk a = E_spec_IntOk a := (Run_eq cfg 203 _ a).trans (by kernel_rfl)
noncomputable def E_spec_FloatOk (a : List DC) : Out :=
 (r_spec_l03Int [.s (gs a 0)]).bindR fun r1 =>
 Out.andThen (if (decide (((gs a 0).length : Int) > (40 : Int))) = true then
 .norm [.s (gs a 0), .i (gi r1 0), .b true]
 else
 if ((gi r1 0) == (0 : Int)) = true then
 .norm [.s (gs a 0), .i (gi r1 0), .b true]
 else
 .norm [.s (gs a 0), .i (gi r1 0), .b ((gi r1 0) == ((gs a 0).length : Int))]) fun v2 =>
 if (gb v2 2) = true then
 .ret [.b false]
 else
 if 0 ≤ (gi v2 1) ∧ (gi v2 1) < ((gs v2 0).length : Int) then
 Out.andThen (if ((((gs v2 0).getD (gi v2 1).toNat 0).toNat : Int) == (46 : Int)) = true then
 (r_spec_l03Run [.s (gs v2 0), .i (IntKind.i64.wrap ((gi v2 1) + (1 : Int)))]).bindR fun r3 =>
 if ((gi r3 0) == (IntKind.i64.wrap ((gi v2 1) + (1 : Int)))) = true then
 .ret [.b false]
 else
 .norm [.s (gs v2 0), .i (gi r3 0)]
 else
 .norm [.s (gs v2 0), .i (gi v2 1)]) fun v4 =>
 Out.andThen (if (decide ((gi v4 1) < ((gs v4 0).length : Int))) = true then
 if 0 ≤ (gi v4 1) ∧ (gi v4 1) < ((gs v4 0).length : Int) then
 if ((((gs v4 0).getD (gi v4 1).toNat 0).toNat : Int) == (101 : Int)) = true then
 .norm [.s (gs v4 0), .i (gi v4 1), .b true]
 else
 if 0 ≤ (gi v4 1) ∧ (gi v4 1) < ((gs v4 0).length : Int) then
 .norm [.s (gs v4 0), .i (gi v4 1), .b ((((gs v4 0).getD (gi v4 1).toNat 0).toNat : Int) == (69 : Int))]
 else
 .fail
 else
 .fail
 else
 .norm [.s (gs v4 0), .i (gi v4 1), .b false]) fun v5 =>
 Out.andThen (if (gb v5 2) = true then
 Out.andThen (if (decide ((IntKind.i64.wrap ((gi v5 1) + (1 : Int))) < ((gs v5 0).length : Int))) = true then
 if 0 ≤ (IntKind.i64.wrap ((gi v5 1) + (1 : Int))) ∧ (IntKind.i64.wrap ((gi v5 1) + (1 : Int))) < ((gs v5 0).length : Int) then
 if ((((gs v5 0).getD (IntKind.i64.wrap ((gi v5 1) + (1 : Int))).toNat 0).toNat : Int) == (43 : Int)) = true then
 .norm [.s (gs v5 0), .i (IntKind.i64.wrap ((gi v5 1) + (1 : Int))), .b true]
 else
 if 0 ≤ (IntKind.i64.wrap ((gi v5 1) + (1 : Int))) ∧ (IntKind.i64.wrap ((gi v5 1) + (1 : Int))) < ((gs v5 0).length : Int) then
 .norm [.s (gs v5 0), .i (IntKind.i64.wrap ((gi v5 1) + (1 : Int))), .b ((((gs v5 0).getD (IntKind.i64.wrap ((gi v5 1) + (1 : Int))).toNat 0).toNat : Int) == (45 : Int))]
 else
 .fail
 else
 .fail
 else
 .norm [.s (gs v5 0), .i (IntKind.i64.wrap ((gi v5 1) + (1 : Int))), .b false]) fun v6 =>
 Out.andThen (if (gb v6 2) = true then
 .norm [.s (gs v6 0), .i (IntKind.i64.wrap ((gi v6 1) + (1 : Int)))]
 else
 .norm [.s (gs v6 0), .i (gi v6 1)]) fun v7 =>
 (r_spec_l03Run [.s (gs v7 0), .i (gi v7 1)]).bindR fun r8 =>
 if ((gi r8 0) == (gi v7 1)) = true then
 .ret [.b false]
 else
 .norm [.s (gs v7 0), .i (gi r8 0)]
 else
 .norm [.s (gs v5 0), .i (gi v5 1)]) fun v9 =>
 .ret [.b ((gi v9 1) == ((gs v9 0).length : Int))]
 else
 .fail
theorem eq_spec_FloatOk a : r_spec_FloatOk a = E_spec_FloatOk a := (Run_eq cfg 204 _ a).trans (by kernel_rfl)
noncomputable def E_slices_IndexFunc_impl_Arg__impl_constDirs_1_1L1 : List DC → Out := fun v1 =>
 if (decide ((gi v1 2) < (gi v1 1))) = true then
 Out.andThenB (if 148 = 148 ∧ 0 ≤ (gi v1 2) ∧ (gi v1 2) < ((gl v1 0).length : Int) then
 (r_impl_constDirs_1_1 [.s ((((gl v1 0).getD (gi v1 2).toNat []).getD 0 d0).ss), .i ((((gl v1 0).getD (gi v1 2).toNat []).getD 1 d0).ii), .s ((((gl v1 0).getD (gi v1 2).toNat []).getD 2 d0).ss), .sl ((((gl v1 0).getD (gi v1 2).toNat []).getD 3 d0).ll), .sl ((((gl v1 0).getD (gi v1 2).toNat []).getD 4 d0).ll)]).bindR fun r2 =>
 if (gb r2 0) = true then
 .ret [.i (gi v1 2)]
 else
 .norm [.sl (gl v1 0), .i (gi v1 1), .i (gi v1 2)]
 else
 .fail) 1 fun v3 =>
 .norm [.sl (gl v3 0), .i (gi v3 1), .i (IntKind.i64.wrap ((gi v3 2) + (1 : Int)))]
 else
 .ex 0 []
noncomputable def E_slices_IndexFunc_impl_Arg__impl_constDirs_1_1 (a : List DC) : Out :=
 Out.andThenB (Loop E_slices_IndexFunc_impl_Arg__impl_constDirs_1_1L1 [.sl (gl a 0), .i ((gl a 0).length : Int), .i (0 : Int)]) 0 fun v4 =>
 .ret [.i (-1 : Int)]
theorem eq_slices_IndexFunc_impl_Arg__impl_constDirs_1_1 a : r_slices_IndexFunc_impl_Arg__impl_constDirs_1_1 a = E_slices_IndexFunc_impl_Arg__impl_constDirs_1_1 a := (Run_eq cfg 171 _ a).trans (by kernel_rfl)
noncomputable def E_strings_TrimPrefix (a : List DC) : Out :=
 (r_internal_stringslite_TrimPrefix [.s (gs a 0), .s (gs a 1)]).bindR fun r1 =>
 .ret [.s (gs r1 0)]
theorem eq_strings_TrimPrefix a : r_strings_TrimPrefix a = E_strings_TrimPrefix a := (Run_eq cfg 199 _ a).trans (by kernel_rfl)
noncomputable def E_impl_figuresL1 : List DC → Out := fun v1 =>
 if (decide ((gi v1 2) < (gi v1 1))) = true then
 Out.andThenB (if 0 ≤ (gi v1 2) ∧ (gi v1 2) < ((gs v1 0).length : Int) then
 (r_impl_isFigure [.i (((gs v1 0).getD (gi v1 2).toNat 0).toNat : Int)]).bindR fun r2 =>
 if (!(gb r2 0)) = true then
 .ret [.b false]
 else
 .norm [.s (gs v1 0), .i (gi v1 1), .i (gi v1 2)]
 else
 .fail) 1 fun v3 =>
 .norm [.s (gs v3 0), .i (gi v3 1), .i (IntKind.i64.wrap ((gi v3 2) + (1 : Int)))]
 else
 .ex 0 [.s (gs v1 0)]
noncomputable def E_impl_figures (a : List DC) : Out :=
 Out.andThenB (Loop E_impl_figuresL1 [.s (gs a 0), .i ((gs a 0).length : Int), .i (0 : Int)]) 0 fun v4 =>
 .ret [.b (!((gs v4 0) == ([] : List UInt8)))]
theorem eq_impl_figures a : r_impl_figures a = E_impl_figures a := (Run_eq cfg 200 _ a).trans (by kernel_rfl)
noncomputable def E_strings_IndexAny (a : List DC) : Out := match primH [.s, .s] [.i .i64] qIndexAny h_strings_IndexAny a with | some r => .ret r | none => .fail
theorem eq_strings_IndexAny a : r_strings_IndexAny a = E_strings_IndexAny a := (Run_eq cfg 201 h_strings_IndexAny a).trans (by kernel_rfl)
noncomputable def E_strings_Cut (a : List DC) : Out :=
 (r_internal_stringslite_Cut [.s (gs a 0), .s (gs a 1)]).bindR fun r1 =>
 .ret [.s (gs r1 0), .s (gs r1 1), .b (gb r1 2)]
theorem eq_strings_Cut a : r_strings_Cut a = E_strings_Cut a := (Run_eq cfg 202 _ a).trans (by kernel_rfl)
noncomputable def E_slices_IndexFunc_string__impl_valueOk_1L1 : List DC → Out := fun v1 =>
 if (decide ((gi v1 2) < (gi v1 1))) = true then
 Out.andThenB (if 9 = 9 ∧ 0 ≤ (gi v1 2) ∧ (gi v1 2) < ((gl v1 0).length : Int) then
 (r_impl_valueOk_1 [.s ((((gl v1 0).getD (gi v1 2).toNat []).getD 0 d0).ss)]).bindR fun r2 =>
 if (gb r2 0) = true then
 .ret [.i (gi v1 2)]
 else
 .norm [.sl (gl v1 0), .i (gi v1 1), .i (gi v1 2)]
 else
 .fail) 1 fun v3 =>
 .norm [.sl (gl v3 0), .i (gi v3 1), .i (IntKind.i64.wrap ((gi v3 2) + (1 : Int)))]
 else
 .ex 0 []
noncomputable def E_slices_IndexFunc_string__impl_valueOk_1 (a : List DC) : Out :=
 Out.andThenB (Loop E_slices_IndexFunc_string__impl_valueOk_1L1 [.sl (gl a 0), .i ((gl a 0).length : Int), .i (0 : Int)]) 0 fun v4 =>
 .ret [.i (-1 : Int)]
theorem eq_slices_IndexFunc_string__impl_valueOk_1 a : r_slices_IndexFunc_string__impl_valueOk_1 a = E_slices_IndexFunc_string__impl_valueOk_1 a := (Run_eq cfg 119 _ a).trans (by kernel_rfl)
noncomputable def E_slices_IndexFunc_impl_Value__impl_valueOk_2L1 : List DC → Out := fun v1 =>
 if (decide ((gi v1 2) < (gi v1 1))) = true then
 Out.andThenB (if 68 = 68 ∧ 0 ≤ (gi v1 2) ∧ (gi v1 2) < ((gl v1 0).length : Int) then
 (r_impl_valueOk_2 [.i ((((gl v1 0).getD (gi v1 2).toNat []).getD 0 d0).ii), .s ((((gl v1 0).getD (gi v1 2).toNat []).getD 1 d0).ss), .sl ((((gl v1 0).getD (gi v1 2).toNat []).getD 2 d0).ll), .sl ((((gl v1 0).getD (gi v1 2).toNat []).getD 3 d0).ll), .i (gi v1 3)]).bindR fun r2 =>
 if (gb r2 0) = true then
 .ret [.i (gi v1 2), .i (gi r2 1)]
 else
 .norm [.sl (gl v1 0), .i (gi v1 1), .i (gi v1 2), .i (gi r2 1)]
 else
 .fail) 1 fun v3 =>
 .norm [.sl (gl v3 0), .i (gi v3 1), .i (IntKind.i64.wrap ((gi v3 2) + (1 : Int))), .i (gi v3 3)]
 else
 .ex 0 [.i (gi v1 3)]
noncomputable def E_slices_IndexFunc_impl_Value__impl_valueOk_2 (a : List DC) : Out :=
 Out.andThenB (Loop E_slices_IndexFunc_impl_Value__impl_valueOk_2L1 [.sl (gl a 0), .i ((gl a 0).length : Int), .i (0 : Int), .i (gi a 1)]) 0 fun v4 =>
 .ret [.i (-1 : Int), .i (gi v4 0)]
theorem eq_slices_IndexFunc_impl_Value__impl_valueOk_2 a : r_slices_IndexFunc_impl_Value__impl_valueOk_2 a = E_slices_IndexFunc_impl_Value__impl_valueOk_2 a := (Run_eq cfg 187 _ a).trans (by kernel_rfl)
noncomputable def E_impl_IsConst_1 (a : List DC) : Out :=
 (r_impl_IsConst [.i (gi a 0), .s (gs a 1), .sl (gl a 2), .sl (gl a 3)]).bindR fun r1 =>
 .ret [.b (!(gb r1 0))]
theorem eq_impl_IsConst_1 a : r_impl_IsConst_1 a = E_impl_IsConst_1 a := (Run_eq cfg 173 _ a).trans (by kernel_rfl)
noncomputable def E_spec_l03Int (a : List DC) : Out :=
 Out.andThen (if (decide (((gs a 0).length : Int) > (0 : Int))) = true then
 if 0 ≤ (0 : Int) ∧ (0 : Int) < ((gs a 0).length : Int) then
 .norm [.s (gs a 0), .i (0 : Int), .b ((((gs a 0).getD (0 : Int).toNat 0).toNat : Int) == (45 : Int))]
 else
 .fail
 else
 .norm [.s (gs a 0), .i (0 : Int), .b false]) fun v1 =>
 Out.andThen (if (gb v1 2) = true then
 .norm [.s (gs v1 0), .i (1 : Int)]
 else
 .norm [.s (gs v1 0), .i (gi v1 1)]) fun v2 =>
 (r_spec_l03Run [.s (gs v2 0), .i (gi v2 1)]).bindR fun r3 =>
 Out.andThen (if ((gi r3 0) == (gi v2 1)) = true then
 .norm [.i (gi r3 0), .b true]
 else
 if 0 ≤ (gi v2 1) ∧ (gi v2 1) < ((gs v2 0).length : Int) then
 if ((((gs v2 0).getD (gi v2 1).toNat 0).toNat : Int) == (48 : Int)) = true then
 .norm [.i (gi r3 0), .b (decide ((gi r3 0) > (IntKind.i64.wrap ((gi v2 1) + (1 : Int)))))]
 else
 .norm [.i (gi r3 0), .b false]
 else
 .fail) fun v4 =>
 if (gb v4 1) = true then
 .ret [.i (0 : Int)]
 else
 .ret [.i (gi v4 0)]
theorem eq_spec_l03Int a : r_spec_l03Int a = E_spec_l03Int a := (Run_eq cfg 214 _ a).trans (by kernel_rfl)
noncomputable def E_spec_l03RunL1 : List DC → Out := fun v1 =>
 Out.andThen (if (decide ((gi v1 1) < ((gs v1 0).length : Int))) = true then
 if 0 ≤ (gi v1 1) ∧ (gi v1 1) < ((gs v1 0).length : Int) then
 (r_spec_l03Figure [.i (((gs v1 0).getD (gi v1 1).toNat 0).toNat : Int)]).bindR fun r2 =>
 .norm [.s (gs v1 0), .i (gi v1 1), .b (gb r2 0)]
 else
 .fail
 else
 .norm [.s (gs v1 0), .i (gi v1 1), .b false]) fun v3 =>
 if (gb v3 2) = true then
 Out.andThenB (.norm [.s (gs v3 0), .i (IntKind.i64.wrap ((gi v3 1) + (1 : Int)))]) 1 fun v4 =>
 .norm [.s (gs v4 0), .i (gi v4 1)]
 else
 .ex 0 [.i (gi v3 1)]
noncomputable def E_spec_l03Run (a : List DC) : Out :=
 Out.andThenB (Loop E_spec_l03RunL1 [.s (gs a 0), .i (gi a 1)]) 0 fun v5 =>
 .ret [.i (gi v5 0)]
theorem eq_spec_l03Run a : r_spec_l03Run a = E_spec_l03Run a := (Run_eq cfg 215 _ a).trans (by kernel_rfl)
noncomputable def E_impl_constDirs_1_1 (a : List DC) : Out :=
 (r_impl_IsConst [.i (gi a 1), .s (gs a 2), .sl (gl a 3), .sl (gl a 4)]).bindR fun r1 =>
 .ret [.b (!(gb r1 0))]
theorem eq_impl_constDirs_1_1 a : r_impl_constDirs_1_1 a = E_impl_constDirs_1_1 a := (Run_eq cfg 151 _ a).trans (by kernel_rfl)
noncomputable def E_internal_stringslite_TrimPrefix (a : List DC) : Out :=
 (r_internal_stringslite_HasPrefix [.s (gs a 0), .s (gs a 1)]).bindR fun r1 =>
 if (gb r1 0) = true then
 if 0 ≤ ((gs a 1).length : Int) ∧ ((gs a 1).length : Int) ≤ ((gs a 0).length : Int) then
 .ret [.s ((gs a 0).drop ((gs a 1).length : Int).toNat)]
 else
 .fail
 else
 .ret [.s (gs a 0)]
theorem eq_internal_stringslite_TrimPrefix a : r_internal_stringslite_TrimPrefix a = E_internal_stringslite_TrimPrefix a := (Run_eq cfg 211 _ a).trans (by kernel_rfl)
noncomputable def E_internal_stringslite_Cut (a : List DC) : Out := match primH [.s, .s] [.s, .s, .b] qCut h_internal_stringslite_Cut a with | some r => .ret r | none => .fail
theorem eq_internal_stringslite_Cut a : r_internal_stringslite_Cut a = E_internal_stringslite_Cut a := (Run_eq cfg 213 h_internal_stringslite_Cut a).trans (by kernel_rfl)
noncomputable def E_impl_valueOk_1 (a : List DC) : Out :=
 (r_impl_NameOk [.s (gs a 0)]).bindR fun r1 =>
 .ret [.b (!(gb r1 0))]
theorem eq_impl_valueOk_1 a : r_impl_valueOk_1 a = E_impl_valueOk_1 a := (Run_eq cfg 191 _ a).trans (by kernel_rfl)
noncomputable def E_impl_valueOk_2 (a : List DC) : Out :=
 (r_impl_valueOk [.i (gi a 0), .s (gs a 1), .sl (gl a 2), .sl (gl a 3), .i (IntKind.i64.wrap ((gi a 4) - (1 : Int)))]).bindR fun r1 =>
 .ret [.b (!(gb r1 0)), .i (gi a 4)]
theorem eq_impl_valueOk_2 a : r_impl_valueOk_2 a = E_impl_valueOk_2 a := (Run_eq cfg 192 _ a).trans (by kernel_rfl)
noncomputable def E_internal_stringslite_HasPrefix (a : List DC) : Out :=
 Out.andThen (if (decide (((gs a 0).length : Int) ≥ ((gs a 1).length : Int))) = true then
 if 0 ≤ ((gs a 1).length : Int) ∧ ((gs a 1).length : Int) ≤ ((gs a 0).length : Int) then
 .norm [.b (((gs a 0).take ((gs a 1).length : Int).toNat) == (gs a 1))]
 else
 .fail
 else
 .norm [.b false]) fun v1 =>
 .ret [.b (gb v1 0)]
theorem eq_internal_stringslite_HasPrefix a : r_internal_stringslite_HasPrefix a = E_internal_stringslite_HasPrefix a := (Run_eq cfg 218 _ a).trans (by kernel_rfl)
end Go.Proofs.QV

