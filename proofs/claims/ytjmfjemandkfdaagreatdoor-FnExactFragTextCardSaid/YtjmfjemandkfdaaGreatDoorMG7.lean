import Derived.Test.YtjmfjemandkfdaaGreatDoorMG6
import Derived.Test.YtjmfjemandkfdaaGreatDoorMG5
/- What the functions do, and that they do (written by a program). -/
namespace Go.Proofs.QV
open Go
set_option linter.unusedVariables false
set_option maxRecDepth 100000
noncomputable def E_spec_l07RightL1 : List DC → Out := fun v4 =>
 if (decide ((v4.getD 1 d0).ii < (((v4.getD 4 d0).ll).length : Int))) = true then
 Out.andThenB (Out.andThen (if ((v4.getD 2 d0).ii == (8 : Int)) = true then
 if 9 = 9 ∧ 0 ≤ (v4.getD 1 d0).ii ∧ (v4.getD 1 d0).ii < (((v4.getD 5 d0).ll).length : Int) then
 (r_spec_NameOk [.s (((((v4.getD 5 d0).ll).getD ((v4.getD 1 d0).ii).toNat []).getD 0 d0).ss)]).bindR fun r5 =>
 if (!((r5.getD 0 d0).bb)) = true then
 .norm [.i ((v4.getD 0 d0).ii), .i ((v4.getD 1 d0).ii), .b true, .i ((v4.getD 2 d0).ii), .s ((v4.getD 3 d0).ss), .sl ((v4.getD 4 d0).ll), .sl ((v4.getD 5 d0).ll)]
 else
 if 78 = 78 ∧ 0 ≤ (v4.getD 1 d0).ii ∧ (v4.getD 1 d0).ii < (((v4.getD 4 d0).ll).length : Int) then
 (r_spec_l07Right [.i (((((v4.getD 4 d0).ll).getD ((v4.getD 1 d0).ii).toNat []).getD 0 d0).ii), .s (((((v4.getD 4 d0).ll).getD ((v4.getD 1 d0).ii).toNat []).getD 1 d0).ss), .sl (((((v4.getD 4 d0).ll).getD ((v4.getD 1 d0).ii).toNat []).getD 2 d0).ll), .sl (((((v4.getD 4 d0).ll).getD ((v4.getD 1 d0).ii).toNat []).getD 3 d0).ll), .i (IntKind.i64.wrap ((v4.getD 0 d0).ii - (1 : Int)))]).bindR fun r6 =>
 .norm [.i ((v4.getD 0 d0).ii), .i ((v4.getD 1 d0).ii), .b (!((r6.getD 0 d0).bb)), .i ((v4.getD 2 d0).ii), .s ((v4.getD 3 d0).ss), .sl ((v4.getD 4 d0).ll), .sl ((v4.getD 5 d0).ll)]
 else
 .fail
 else
 .fail
 else
 if 78 = 78 ∧ 0 ≤ (v4.getD 1 d0).ii ∧ (v4.getD 1 d0).ii < (((v4.getD 4 d0).ll).length : Int) then
 (r_spec_l07Right [.i (((((v4.getD 4 d0).ll).getD ((v4.getD 1 d0).ii).toNat []).getD 0 d0).ii), .s (((((v4.getD 4 d0).ll).getD ((v4.getD 1 d0).ii).toNat []).getD 1 d0).ss), .sl (((((v4.getD 4 d0).ll).getD ((v4.getD 1 d0).ii).toNat []).getD 2 d0).ll), .sl (((((v4.getD 4 d0).ll).getD ((v4.getD 1 d0).ii).toNat []).getD 3 d0).ll), .i (IntKind.i64.wrap ((v4.getD 0 d0).ii - (1 : Int)))]).bindR fun r7 =>
 .norm [.i ((v4.getD 0 d0).ii), .i ((v4.getD 1 d0).ii), .b (!((r7.getD 0 d0).bb)), .i ((v4.getD 2 d0).ii), .s ((v4.getD 3 d0).ss), .sl ((v4.getD 4 d0).ll), .sl ((v4.getD 5 d0).ll)]
 else
 .fail) fun v8 =>
 if (v8.getD 2 d0).bb = true then
 .ret [.b false]
 else
 .norm [.i ((v8.getD 0 d0).ii), .i ((v8.getD 1 d0).ii), .i ((v8.getD 3 d0).ii), .s ((v8.getD 4 d0).ss), .sl ((v8.getD 5 d0).ll), .sl ((v8.getD 6 d0).ll)]) 1 fun v9 =>
 .norm [.i ((v9.getD 0 d0).ii), .i (IntKind.i64.wrap ((v9.getD 1 d0).ii + (1 : Int))), .i ((v9.getD 2 d0).ii), .s ((v9.getD 3 d0).ss), .sl ((v9.getD 4 d0).ll), .sl ((v9.getD 5 d0).ll)]
 else
 .ex 0 []
noncomputable def E_spec_l07Right (a : List DC) : Out :=
 (r_spec_l07One [.i ((a.getD 0 d0).ii), .s ((a.getD 1 d0).ss), .sl ((a.getD 2 d0).ll), .sl ((a.getD 3 d0).ll)]).bindR fun r1 =>
 if (!((r1.getD 0 d0).bb)) = true then
 .ret [.b false]
 else
 Out.andThen (if ((a.getD 0 d0).ii == (7 : Int)) = true then
 .norm [.i ((a.getD 4 d0).ii), .b true, .i ((a.getD 0 d0).ii), .s ((a.getD 1 d0).ss), .sl ((a.getD 2 d0).ll), .sl ((a.getD 3 d0).ll)]
 else
 .norm [.i ((a.getD 4 d0).ii), .b ((a.getD 0 d0).ii == (8 : Int)), .i ((a.getD 0 d0).ii), .s ((a.getD 1 d0).ss), .sl ((a.getD 2 d0).ll), .sl ((a.getD 3 d0).ll)]) fun v2 =>
 Out.andThen (if (!((v2.getD 1 d0).bb)) = true then
 if (decide ((((v2.getD 4 d0).ll).length : Int) > (0 : Int))) = true then
 .norm [.i ((v2.getD 0 d0).ii), .b true, .i ((v2.getD 2 d0).ii), .s ((v2.getD 3 d0).ss), .sl ((v2.getD 4 d0).ll), .sl ((v2.getD 5 d0).ll)]
 else
 if ((v2.getD 2 d0).ii != (8 : Int)) = true then
 if (decide ((((v2.getD 5 d0).ll).length : Int) > (0 : Int))) = true then
 .norm [.i ((v2.getD 0 d0).ii), .b true, .i ((v2.getD 2 d0).ii), .s ((v2.getD 3 d0).ss), .sl ((v2.getD 4 d0).ll), .sl ((v2.getD 5 d0).ll)]
 else
 if ((v2.getD 2 d0).ii == (8 : Int)) = true then
 if ((((v2.getD 5 d0).ll).length : Int) != (((v2.getD 4 d0).ll).length : Int)) = true then
 .norm [.i ((v2.getD 0 d0).ii), .b true, .i ((v2.getD 2 d0).ii), .s ((v2.getD 3 d0).ss), .sl ((v2.getD 4 d0).ll), .sl ((v2.getD 5 d0).ll)]
 else
 if (v2.getD 1 d0).bb = true then
 .norm [.i ((v2.getD 0 d0).ii), .b ((v2.getD 0 d0).ii == (0 : Int)), .i ((v2.getD 2 d0).ii), .s ((v2.getD 3 d0).ss), .sl ((v2.getD 4 d0).ll), .sl ((v2.getD 5 d0).ll)]
 else
 .norm [.i ((v2.getD 0 d0).ii), .b false, .i ((v2.getD 2 d0).ii), .s ((v2.getD 3 d0).ss), .sl ((v2.getD 4 d0).ll), .sl ((v2.getD 5 d0).ll)]
 else
 if (v2.getD 1 d0).bb = true then
 .norm [.i ((v2.getD 0 d0).ii), .b ((v2.getD 0 d0).ii == (0 : Int)), .i ((v2.getD 2 d0).ii), .s ((v2.getD 3 d0).ss), .sl ((v2.getD 4 d0).ll), .sl ((v2.getD 5 d0).ll)]
 else
 .norm [.i ((v2.getD 0 d0).ii), .b false, .i ((v2.getD 2 d0).ii), .s ((v2.getD 3 d0).ss), .sl ((v2.getD 4 d0).ll), .sl ((v2.getD 5 d0).ll)]
 else
 if ((v2.getD 2 d0).ii == (8 : Int)) = true then
 if ((((v2.getD 5 d0).ll).length : Int) != (((v2.getD 4 d0).ll).length : Int)) = true then
 .norm [.i ((v2.getD 0 d0).ii), .b true, .i ((v2.getD 2 d0).ii), .s ((v2.getD 3 d0).ss), .sl ((v2.getD 4 d0).ll), .sl ((v2.getD 5 d0).ll)]
 else
 if (v2.getD 1 d0).bb = true then
 .norm [.i ((v2.getD 0 d0).ii), .b ((v2.getD 0 d0).ii == (0 : Int)), .i ((v2.getD 2 d0).ii), .s ((v2.getD 3 d0).ss), .sl ((v2.getD 4 d0).ll), .sl ((v2.getD 5 d0).ll)]
 else
 .norm [.i ((v2.getD 0 d0).ii), .b false, .i ((v2.getD 2 d0).ii), .s ((v2.getD 3 d0).ss), .sl ((v2.getD 4 d0).ll), .sl ((v2.getD 5 d0).ll)]
 else
 if (v2.getD 1 d0).bb = true then
 .norm [.i ((v2.getD 0 d0).ii), .b ((v2.getD 0 d0).ii == (0 : Int)), .i ((v2.getD 2 d0).ii), .s ((v2.getD 3 d0).ss), .sl ((v2.getD 4 d0).ll), .sl ((v2.getD 5 d0).ll)]
 else
 .norm [.i ((v2.getD 0 d0).ii), .b false, .i ((v2.getD 2 d0).ii), .s ((v2.getD 3 d0).ss), .sl ((v2.getD 4 d0).ll), .sl ((v2.getD 5 d0).ll)]
 else
 if ((v2.getD 2 d0).ii != (8 : Int)) = true then
 if (decide ((((v2.getD 5 d0).ll).length : Int) > (0 : Int))) = true then
 .norm [.i ((v2.getD 0 d0).ii), .b true, .i ((v2.getD 2 d0).ii), .s ((v2.getD 3 d0).ss), .sl ((v2.getD 4 d0).ll), .sl ((v2.getD 5 d0).ll)]
 else
 if ((v2.getD 2 d0).ii == (8 : Int)) = true then
 if ((((v2.getD 5 d0).ll).length : Int) != (((v2.getD 4 d0).ll).length : Int)) = true then
 .norm [.i ((v2.getD 0 d0).ii), .b true, .i ((v2.getD 2 d0).ii), .s ((v2.getD 3 d0).ss), .sl ((v2.getD 4 d0).ll), .sl ((v2.getD 5 d0).ll)]
 else
 if (v2.getD 1 d0).bb = true then
 .norm [.i ((v2.getD 0 d0).ii), .b ((v2.getD 0 d0).ii == (0 : Int)), .i ((v2.getD 2 d0).ii), .s ((v2.getD 3 d0).ss), .sl ((v2.getD 4 d0).ll), .sl ((v2.getD 5 d0).ll)]
 else
 .norm [.i ((v2.getD 0 d0).ii), .b false, .i ((v2.getD 2 d0).ii), .s ((v2.getD 3 d0).ss), .sl ((v2.getD 4 d0).ll), .sl ((v2.getD 5 d0).ll)]
 else
 if (v2.getD 1 d0).bb = true then
 .norm [.i ((v2.getD 0 d0).ii), .b ((v2.getD 0 d0).ii == (0 : Int)), .i ((v2.getD 2 d0).ii), .s ((v2.getD 3 d0).ss), .sl ((v2.getD 4 d0).ll), .sl ((v2.getD 5 d0).ll)]
 else
 .norm [.i ((v2.getD 0 d0).ii), .b false, .i ((v2.getD 2 d0).ii), .s ((v2.getD 3 d0).ss), .sl ((v2.getD 4 d0).ll), .sl ((v2.getD 5 d0).ll)]
 else
 if ((v2.getD 2 d0).ii == (8 : Int)) = true then
 if ((((v2.getD 5 d0).ll).length : Int) != (((v2.getD 4 d0).ll).length : Int)) = true then
 .norm [.i ((v2.getD 0 d0).ii), .b true, .i ((v2.getD 2 d0).ii), .s ((v2.getD 3 d0).ss), .sl ((v2.getD 4 d0).ll), .sl ((v2.getD 5 d0).ll)]
 else
 if (v2.getD 1 d0).bb = true then
 .norm [.i ((v2.getD 0 d0).ii), .b ((v2.getD 0 d0).ii == (0 : Int)), .i ((v2.getD 2 d0).ii), .s ((v2.getD 3 d0).ss), .sl ((v2.getD 4 d0).ll), .sl ((v2.getD 5 d0).ll)]
 else
 .norm [.i ((v2.getD 0 d0).ii), .b false, .i ((v2.getD 2 d0).ii), .s ((v2.getD 3 d0).ss), .sl ((v2.getD 4 d0).ll), .sl ((v2.getD 5 d0).ll)]
 else
 if (v2.getD 1 d0).bb = true then
 .norm [.i ((v2.getD 0 d0).ii), .b ((v2.getD 0 d0).ii == (0 : Int)), .i ((v2.getD 2 d0).ii), .s ((v2.getD 3 d0).ss), .sl ((v2.getD 4 d0).ll), .sl ((v2.getD 5 d0).ll)]
 else
 .norm [.i ((v2.getD 0 d0).ii), .b false, .i ((v2.getD 2 d0).ii), .s ((v2.getD 3 d0).ss), .sl ((v2.getD 4 d0).ll), .sl ((v2.getD 5 d0).ll)]) fun v3 =>
 if (v3.getD 1 d0).bb = true then
 .ret [.b false]
 else
 Out.andThenB (Loop E_spec_l07RightL1 [.i ((v3.getD 0 d0).ii), .i (0 : Int), .i ((v3.getD 2 d0).ii), .s ((v3.getD 3 d0).ss), .sl ((v3.getD 4 d0).ll), .sl ((v3.getD 5 d0).ll)]) 0 fun v10 =>
 .ret [.b true]
theorem eq_spec_l07Right a : r_spec_l07Right a = E_spec_l07Right a := (Run_eq cfg 79 _ a).trans (by kernel_rfl)
noncomputable def E_spec_TextOkL1 : List DC → Out := fun v1 =>
 if (decide ((v1.getD 1 d0).ii < (((v1.getD 0 d0).ss).length : Int))) = true then
 Out.andThenB ((r_spec_RuneAt [.s ((v1.getD 0 d0).ss), .i ((v1.getD 1 d0).ii)]).bindR fun r2 =>
 if (decide ((r2.getD 0 d0).ii < (0 : Int))) = true then
 .ret [.b false]
 else
 .norm [.s ((v1.getD 0 d0).ss), .i (IntKind.i64.wrap ((v1.getD 1 d0).ii + (r2.getD 1 d0).ii))]) 1 fun v3 =>
 .norm [.s ((v3.getD 0 d0).ss), .i ((v3.getD 1 d0).ii)]
 else
 .ex 0 []
noncomputable def E_spec_TextOk (a : List DC) : Out :=
 Out.andThenB (Loop E_spec_TextOkL1 [.s ((a.getD 0 d0).ss), .i (0 : Int)]) 0 fun v4 =>
 .ret [.b true]
theorem eq_spec_TextOk a : r_spec_TextOk a = E_spec_TextOk a := (Run_eq cfg 80 _ a).trans (by kernel_rfl)
noncomputable def E_spec_l04Hex4 (a : List DC) : Out :=
 if (4096 : Int) = 0 then
 .fail
 else
 if (16 : Int) = 0 then
 .fail
 else
 if 0 ≤ ((IntKind.i64.wrap (((a.getD 0 d0).ii).tdiv (4096 : Int))).tmod (16 : Int)) ∧ ((IntKind.i64.wrap (((a.getD 0 d0).ii).tdiv (4096 : Int))).tmod (16 : Int)) < (([48, 49, 50, 51, 52, 53, 54, 55, 56, 57, 97, 98, 99, 100, 101, 102] : List UInt8).length : Int) then
 if (256 : Int) = 0 then
 .fail
 else
 if (16 : Int) = 0 then
 .fail
 else
 if 0 ≤ ((IntKind.i64.wrap (((a.getD 0 d0).ii).tdiv (256 : Int))).tmod (16 : Int)) ∧ ((IntKind.i64.wrap (((a.getD 0 d0).ii).tdiv (256 : Int))).tmod (16 : Int)) < (([48, 49, 50, 51, 52, 53, 54, 55, 56, 57, 97, 98, 99, 100, 101, 102] : List UInt8).length : Int) then
 if (16 : Int) = 0 then
 .fail
 else
 if (16 : Int) = 0 then
 .fail
 else
 if 0 ≤ ((IntKind.i64.wrap (((a.getD 0 d0).ii).tdiv (16 : Int))).tmod (16 : Int)) ∧ ((IntKind.i64.wrap (((a.getD 0 d0).ii).tdiv (16 : Int))).tmod (16 : Int)) < (([48, 49, 50, 51, 52, 53, 54, 55, 56, 57, 97, 98, 99, 100, 101, 102] : List UInt8).length : Int) then
 if (16 : Int) = 0 then
 .fail
 else
 if 0 ≤ (((a.getD 0 d0).ii).tmod (16 : Int)) ∧ (((a.getD 0 d0).ii).tmod (16 : Int)) < (([48, 49, 50, 51, 52, 53, 54, 55, 56, 57, 97, 98, 99, 100, 101, 102] : List UInt8).length : Int) then
 .ret [.s (rowBytes [[DC.i ((([48, 49, 50, 51, 52, 53, 54, 55, 56, 57, 97, 98, 99, 100, 101, 102] : List UInt8).getD ((IntKind.i64.wrap (((a.getD 0 d0).ii).tdiv (4096 : Int))).tmod (16 : Int)).toNat 0).toNat : Int)], [DC.i ((([48, 49, 50, 51, 52, 53, 54, 55, 56, 57, 97, 98, 99, 100, 101, 102] : List UInt8).getD ((IntKind.i64.wrap (((a.getD 0 d0).ii).tdiv (256 : Int))).tmod (16 : Int)).toNat 0).toNat : Int)], [DC.i ((([48, 49, 50, 51, 52, 53, 54, 55, 56, 57, 97, 98, 99, 100, 101, 102] : List UInt8).getD ((IntKind.i64.wrap (((a.getD 0 d0).ii).tdiv (16 : Int))).tmod (16 : Int)).toNat 0).toNat : Int)], [DC.i ((([48, 49, 50, 51, 52, 53, 54, 55, 56, 57, 97, 98, 99, 100, 101, 102] : List UInt8).getD (((a.getD 0 d0).ii).tmod (16 : Int)).toNat 0).toNat : Int)]])]
 else
 .fail
 else
 .fail
 else
 .fail
 else
 .fail
theorem eq_spec_l04Hex4 a : r_spec_l04Hex4 a = E_spec_l04Hex4 a := (Run_eq cfg 81 _ a).trans (by kernel_rfl)
noncomputable def E_impl_DirsOk_1 (a : List DC) : Out :=
 Out.andThen ((r_impl_NameOk [.s ((a.getD 0 d0).ss)]).bindR fun r1 =>
 if (!((r1.getD 0 d0).bb)) = true then
 .norm [.b true]
 else
 (r_impl_ArgsOk [.sl ((a.getD 1 d0).ll)]).bindR fun r2 =>
 .norm [.b (!((r2.getD 0 d0).bb))]) fun v3 =>
 .ret [.b ((v3.getD 0 d0).bb)]
theorem eq_impl_DirsOk_1 a : r_impl_DirsOk_1 a = E_impl_DirsOk_1 a := (Run_eq cfg 50 _ a).trans (by kernel_rfl)
noncomputable def E_slices_IndexFunc_impl_Arg__impl_ArgsOk_1L1 : List DC → Out := fun v1 =>
 if (decide ((v1.getD 2 d0).ii < (v1.getD 1 d0).ii)) = true then
 Out.andThenB (if 80 = 80 ∧ 0 ≤ (v1.getD 2 d0).ii ∧ (v1.getD 2 d0).ii < (((v1.getD 0 d0).ll).length : Int) then
 (r_impl_ArgsOk_1 [.s (((((v1.getD 0 d0).ll).getD ((v1.getD 2 d0).ii).toNat []).getD 0 d0).ss), .i (((((v1.getD 0 d0).ll).getD ((v1.getD 2 d0).ii).toNat []).getD 1 d0).ii), .s (((((v1.getD 0 d0).ll).getD ((v1.getD 2 d0).ii).toNat []).getD 2 d0).ss), .sl (((((v1.getD 0 d0).ll).getD ((v1.getD 2 d0).ii).toNat []).getD 3 d0).ll), .sl (((((v1.getD 0 d0).ll).getD ((v1.getD 2 d0).ii).toNat []).getD 4 d0).ll)]).bindR fun r2 =>
 if (r2.getD 0 d0).bb = true then
 .ret [.i ((v1.getD 2 d0).ii)]
 else
 .norm [.sl ((v1.getD 0 d0).ll), .i ((v1.getD 1 d0).ii), .i ((v1.getD 2 d0).ii)]
 else
 .fail) 1 fun v3 =>
 .norm [.sl ((v3.getD 0 d0).ll), .i ((v3.getD 1 d0).ii), .i (IntKind.i64.wrap ((v3.getD 2 d0).ii + (1 : Int)))]
 else
 .ex 0 []
noncomputable def E_slices_IndexFunc_impl_Arg__impl_ArgsOk_1 (a : List DC) : Out :=
 Out.andThenB (Loop E_slices_IndexFunc_impl_Arg__impl_ArgsOk_1L1 [.sl ((a.getD 0 d0).ll), .i (((a.getD 0 d0).ll).length : Int), .i (0 : Int)]) 0 fun v4 =>
 .ret [.i (-1 : Int)]
theorem eq_slices_IndexFunc_impl_Arg__impl_ArgsOk_1 a : r_slices_IndexFunc_impl_Arg__impl_ArgsOk_1 a = E_slices_IndexFunc_impl_Arg__impl_ArgsOk_1 a := (Run_eq cfg 83 _ a).trans (by kernel_rfl)
noncomputable def E_impl_TextOk (a : List DC) : Out :=
 (r_unicode_utf8_ValidString [.s ((a.getD 0 d0).ss)]).bindR fun r1 =>
 .ret [.b ((r1.getD 0 d0).bb)]
theorem eq_impl_TextOk a : r_impl_TextOk a = E_impl_TextOk a := (Run_eq cfg 85 _ a).trans (by kernel_rfl)
noncomputable def E_strings_IndexByte (a : List DC) : Out :=
 (r_internal_stringslite_IndexByte [.s ((a.getD 0 d0).ss), .i ((a.getD 1 d0).ii)]).bindR fun r1 =>
 .ret [.i ((r1.getD 0 d0).ii)]
theorem eq_strings_IndexByte a : r_strings_IndexByte a = E_strings_IndexByte a := (Run_eq cfg 86 _ a).trans (by kernel_rfl)
noncomputable def E_impl_SelsText_1 (a : List DC) : Out :=
 (r_impl_SelOk [.i ((a.getD 0 d0).ii), .s ((a.getD 1 d0).ss), .s ((a.getD 2 d0).ss), .s ((a.getD 3 d0).ss), .sl ((a.getD 4 d0).ll), .sl ((a.getD 5 d0).ll), .sl ((a.getD 6 d0).ll)]).bindR fun r1 =>
 .ret [.b (!((r1.getD 0 d0).bb))]
theorem eq_impl_SelsText_1 a : r_impl_SelsText_1 a = E_impl_SelsText_1 a := (Run_eq cfg 56 _ a).trans (by kernel_rfl)
noncomputable def E_laws_eqValue (a : List DC) : Out :=
 if ((a.getD 0 d0).ii != (a.getD 4 d0).ii) = true then
 .ret [.b false]
 else
 if (!((a.getD 1 d0).ss == (a.getD 5 d0).ss)) = true then
 .ret [.b false]
 else
 (r_laws_eqValueS [.sl ((a.getD 2 d0).ll), .sl ((a.getD 6 d0).ll)]).bindR fun r1 =>
 if (!((r1.getD 0 d0).bb)) = true then
 .ret [.b false]
 else
 (r_laws_eqStringS [.sl ((a.getD 3 d0).ll), .sl ((a.getD 7 d0).ll)]).bindR fun r2 =>
 if (!((r2.getD 0 d0).bb)) = true then
 .ret [.b false]
 else
 .ret [.b true]
theorem eq_laws_eqValue a : r_laws_eqValue a = E_laws_eqValue a := (Run_eq cfg 92 _ a).trans (by kernel_rfl)
noncomputable def E_laws_szValueSL1 : List DC → Out := fun v1 =>
 if (decide ((v1.getD 2 d0).ii < (((v1.getD 0 d0).ll).length : Int))) = true then
 Out.andThenB (if 97 = 97 ∧ 0 ≤ (v1.getD 2 d0).ii ∧ (v1.getD 2 d0).ii < (((v1.getD 0 d0).ll).length : Int) then
 (r_laws_szValue [.i (((((v1.getD 0 d0).ll).getD ((v1.getD 2 d0).ii).toNat []).getD 0 d0).ii), .s (((((v1.getD 0 d0).ll).getD ((v1.getD 2 d0).ii).toNat []).getD 1 d0).ss), .sl (((((v1.getD 0 d0).ll).getD ((v1.getD 2 d0).ii).toNat []).getD 2 d0).ll), .sl (((((v1.getD 0 d0).ll).getD ((v1.getD 2 d0).ii).toNat []).getD 3 d0).ll), .i ((v1.getD 1 d0).ii)]).bindR fun r2 =>
 if (decide ((r2.getD 0 d0).ii < (0 : Int))) = true then
 .ret [.i (-1 : Int)]
 else
 .norm [.sl ((v1.getD 0 d0).ll), .i ((r2.getD 0 d0).ii), .i ((v1.getD 2 d0).ii)]
 else
 .fail) 1 fun v3 =>
 .norm [.sl ((v3.getD 0 d0).ll), .i ((v3.getD 1 d0).ii), .i (IntKind.i64.wrap ((v3.getD 2 d0).ii + (1 : Int)))]
 else
 .ex 0 [.i ((v1.getD 1 d0).ii)]
noncomputable def E_laws_szValueS (a : List DC) : Out :=
 if (decide ((IntKind.i64.wrap ((a.getD 1 d0).ii - (((a.getD 0 d0).ll).length : Int))) < (0 : Int))) = true then
 .ret [.i (-1 : Int)]
 else
 Out.andThenB (Loop E_laws_szValueSL1 [.sl ((a.getD 0 d0).ll), .i (IntKind.i64.wrap ((a.getD 1 d0).ii - (((a.getD 0 d0).ll).length : Int))), .i (0 : Int)]) 0 fun v4 =>
 .ret [.i ((v4.getD 0 d0).ii)]
theorem eq_laws_szValueS a : r_laws_szValueS a = E_laws_szValueS a := (Run_eq cfg 93 _ a).trans (by kernel_rfl)
noncomputable def E_laws_szStringSL1 : List DC → Out := fun v1 =>
 if (decide ((v1.getD 2 d0).ii < (((v1.getD 0 d0).ll).length : Int))) = true then
 Out.andThenB (if 9 = 9 ∧ 0 ≤ (v1.getD 2 d0).ii ∧ (v1.getD 2 d0).ii < (((v1.getD 0 d0).ll).length : Int) then
 if (decide ((IntKind.i64.wrap ((v1.getD 1 d0).ii - ((((((v1.getD 0 d0).ll).getD ((v1.getD 2 d0).ii).toNat []).getD 0 d0).ss).length : Int))) < (0 : Int))) = true then
 .ret [.i (-1 : Int)]
 else
 .norm [.sl ((v1.getD 0 d0).ll), .i (IntKind.i64.wrap ((v1.getD 1 d0).ii - ((((((v1.getD 0 d0).ll).getD ((v1.getD 2 d0).ii).toNat []).getD 0 d0).ss).length : Int))), .i ((v1.getD 2 d0).ii)]
 else
 .fail) 1 fun v2 =>
 .norm [.sl ((v2.getD 0 d0).ll), .i ((v2.getD 1 d0).ii), .i (IntKind.i64.wrap ((v2.getD 2 d0).ii + (1 : Int)))]
 else
 .ex 0 [.i ((v1.getD 1 d0).ii)]
noncomputable def E_laws_szStringS (a : List DC) : Out :=
 if (decide ((IntKind.i64.wrap ((a.getD 1 d0).ii - (((a.getD 0 d0).ll).length : Int))) < (0 : Int))) = true then
 .ret [.i (-1 : Int)]
 else
 Out.andThenB (Loop E_laws_szStringSL1 [.sl ((a.getD 0 d0).ll), .i (IntKind.i64.wrap ((a.getD 1 d0).ii - (((a.getD 0 d0).ll).length : Int))), .i (0 : Int)]) 0 fun v3 =>
 .ret [.i ((v3.getD 0 d0).ii)]
theorem eq_laws_szStringS a : r_laws_szStringS a = E_laws_szStringS a := (Run_eq cfg 94 _ a).trans (by kernel_rfl)
noncomputable def E_laws_toValueSL1 : List DC → Out := fun v1 =>
 if (decide ((v1.getD 2 d0).ii < (((v1.getD 0 d0).ll).length : Int))) = true then
 Out.andThenB (if 97 = 97 ∧ 0 ≤ (v1.getD 2 d0).ii ∧ (v1.getD 2 d0).ii < (((v1.getD 0 d0).ll).length : Int) then
 (r_laws_toValue [.i (((((v1.getD 0 d0).ll).getD ((v1.getD 2 d0).ii).toNat []).getD 0 d0).ii), .s (((((v1.getD 0 d0).ll).getD ((v1.getD 2 d0).ii).toNat []).getD 1 d0).ss), .sl (((((v1.getD 0 d0).ll).getD ((v1.getD 2 d0).ii).toNat []).getD 2 d0).ll), .sl (((((v1.getD 0 d0).ll).getD ((v1.getD 2 d0).ii).toNat []).getD 3 d0).ll)]).bindR fun r2 =>
 if 78 = 78 ∧ 0 ≤ (v1.getD 2 d0).ii ∧ (v1.getD 2 d0).ii < (((v1.getD 1 d0).ll).length : Int) then
 .norm [.sl ((v1.getD 0 d0).ll), .sl (((v1.getD 1 d0).ll).set (((v1.getD 2 d0).ii).toNat) (setRunD (((v1.getD 1 d0).ll).getD (((v1.getD 2 d0).ii).toNat) []) 0 [DC.i ((r2.getD 0 d0).ii), DC.s ((r2.getD 1 d0).ss), DC.sl ((r2.getD 2 d0).ll), DC.sl ((r2.getD 3 d0).ll)])), .i ((v1.getD 2 d0).ii)]
 else
 .fail
 else
 .fail) 1 fun v3 =>
 .norm [.sl ((v3.getD 0 d0).ll), .sl ((v3.getD 1 d0).ll), .i (IntKind.i64.wrap ((v3.getD 2 d0).ii + (1 : Int)))]
 else
 .ex 0 [.sl ((v1.getD 1 d0).ll)]
noncomputable def E_laws_toValueS (a : List DC) : Out :=
 if 0 ≤ (((a.getD 0 d0).ll).length : Int) ∧ (((a.getD 0 d0).ll).length : Int) < (LIM : Int) ∧ (((a.getD 0 d0).ll).length : Int) = (((a.getD 0 d0).ll).length : Int) ∧ 72 ≤ 1024 ∧ 0 < 4 then
 Out.andThenB (Loop E_laws_toValueSL1 [.sl ((a.getD 0 d0).ll), .sl (List.replicate (((a.getD 0 d0).ll).length : Int).toNat [DC.i 0, DC.s [], DC.sl [], DC.sl []]), .i (0 : Int)]) 0 fun v4 =>
 .ret [.sl ((v4.getD 0 d0).ll)]
 else
 .fail
theorem eq_laws_toValueS a : r_laws_toValueS a = E_laws_toValueS a := (Run_eq cfg 97 _ a).trans (by kernel_rfl)
noncomputable def E_laws_toStringSL1 : List DC → Out := fun v1 =>
 if (decide ((v1.getD 2 d0).ii < (((v1.getD 0 d0).ll).length : Int))) = true then
 Out.andThenB (if 9 = 9 ∧ 0 ≤ (v1.getD 2 d0).ii ∧ (v1.getD 2 d0).ii < (((v1.getD 0 d0).ll).length : Int) then
 if 9 = 9 ∧ 0 ≤ (v1.getD 2 d0).ii ∧ (v1.getD 2 d0).ii < (((v1.getD 1 d0).ll).length : Int) then
 .norm [.sl ((v1.getD 0 d0).ll), .sl (((v1.getD 1 d0).ll).set (((v1.getD 2 d0).ii).toNat) (setRunD (((v1.getD 1 d0).ll).getD (((v1.getD 2 d0).ii).toNat) []) 0 [DC.s (((((v1.getD 0 d0).ll).getD ((v1.getD 2 d0).ii).toNat []).getD 0 d0).ss)])), .i ((v1.getD 2 d0).ii)]
 else
 .fail
 else
 .fail) 1 fun v2 =>
 .norm [.sl ((v2.getD 0 d0).ll), .sl ((v2.getD 1 d0).ll), .i (IntKind.i64.wrap ((v2.getD 2 d0).ii + (1 : Int)))]
 else
 .ex 0 [.sl ((v1.getD 1 d0).ll)]
noncomputable def E_laws_toStringS (a : List DC) : Out :=
 if 0 ≤ (((a.getD 0 d0).ll).length : Int) ∧ (((a.getD 0 d0).ll).length : Int) < (LIM : Int) ∧ (((a.getD 0 d0).ll).length : Int) = (((a.getD 0 d0).ll).length : Int) ∧ 16 ≤ 1024 ∧ 0 < 1 then
 Out.andThenB (Loop E_laws_toStringSL1 [.sl ((a.getD 0 d0).ll), .sl (List.replicate (((a.getD 0 d0).ll).length : Int).toNat [DC.s []]), .i (0 : Int)]) 0 fun v3 =>
 .ret [.sl ((v3.getD 0 d0).ll)]
 else
 .fail
theorem eq_laws_toStringS a : r_laws_toStringS a = E_laws_toStringS a := (Run_eq cfg 98 _ a).trans (by kernel_rfl)
noncomputable def E_spec_l07One (a : List DC) : Out :=
 Out.andThenB (if ((a.getD 0 d0).ii == (1 : Int)) = true then
 (r_spec_NameOk [.s ((a.getD 1 d0).ss)]).bindR fun r1 =>
 .ret [.b ((r1.getD 0 d0).bb)]
 else
 if ((a.getD 0 d0).ii == (2 : Int)) = true then
 (r_spec_IntOk [.s ((a.getD 1 d0).ss)]).bindR fun r2 =>
 .ret [.b ((r2.getD 0 d0).bb)]
 else
 if ((a.getD 0 d0).ii == (3 : Int)) = true then
 (r_spec_FloatOk [.s ((a.getD 1 d0).ss)]).bindR fun r3 =>
 .ret [.b ((r3.getD 0 d0).bb)]
 else
 if ((a.getD 0 d0).ii == (4 : Int)) = true then
 (r_spec_Escaped [.s ((a.getD 1 d0).ss)]).bindR fun r4 =>
 .ret [.b (!((r4.getD 0 d0).ss == ([] : List UInt8)))]
 else
 if ((a.getD 0 d0).ii == (5 : Int)) = true then
 (r_spec_Word [.s ((a.getD 1 d0).ss)]).bindR fun r5 =>
 .ret [.b ((r5.getD 0 d0).bb)]
 else
 if ((a.getD 0 d0).ii == (6 : Int)) = true then
 Out.andThen ((r_spec_NameOk [.s ((a.getD 1 d0).ss)]).bindR fun r6 =>
 if (r6.getD 0 d0).bb = true then
 (r_spec_Word [.s ((a.getD 1 d0).ss)]).bindR fun r7 =>
 .norm [.b (!((r7.getD 0 d0).bb))]
 else
 .norm [.b false]) fun v8 =>
 .ret [.b ((v8.getD 0 d0).bb)]
 else
 Out.andThen (if ((a.getD 0 d0).ii == (7 : Int)) = true then
 .norm [.b ((a.getD 0 d0).ii == (7 : Int)), .i ((a.getD 0 d0).ii), .s ((a.getD 1 d0).ss), .sl ((a.getD 2 d0).ll), .sl ((a.getD 3 d0).ll)]
 else
 .norm [.b ((a.getD 0 d0).ii == (8 : Int)), .i ((a.getD 0 d0).ii), .s ((a.getD 1 d0).ss), .sl ((a.getD 2 d0).ll), .sl ((a.getD 3 d0).ll)]) fun v9 =>
 if (v9.getD 0 d0).bb = true then
 .ret [.b ((v9.getD 2 d0).ss == ([] : List UInt8))]
 else
 .norm []) 0 fun v10 =>
 .ret [.b false]
theorem eq_spec_l07One a : r_spec_l07One a = E_spec_l07One a := (Run_eq cfg 95 _ a).trans (by kernel_rfl)
noncomputable def E_spec_RuneAtL1 : List DC → Out := fun v8 =>
 if (decide ((v8.getD 4 d0).ii < (v8.getD 2 d0).ii)) = true then
 Out.andThenB (if 0 ≤ (IntKind.i64.wrap ((v8.getD 1 d0).ii + (v8.getD 4 d0).ii)) ∧ (IntKind.i64.wrap ((v8.getD 1 d0).ii + (v8.getD 4 d0).ii)) < (((v8.getD 0 d0).ss).length : Int) then
 Out.andThen (if (decide ((IntKind.i64.wrap ((((v8.getD 0 d0).ss).getD (IntKind.i64.wrap ((v8.getD 1 d0).ii + (v8.getD 4 d0).ii)).toNat 0).toNat : Int)) < (128 : Int))) = true then
 .norm [.s ((v8.getD 0 d0).ss), .i ((v8.getD 1 d0).ii), .i ((v8.getD 2 d0).ii), .i ((v8.getD 3 d0).ii), .i ((v8.getD 4 d0).ii), .i (IntKind.i64.wrap ((((v8.getD 0 d0).ss).getD (IntKind.i64.wrap ((v8.getD 1 d0).ii + (v8.getD 4 d0).ii)).toNat 0).toNat : Int)), .b true]
 else
 .norm [.s ((v8.getD 0 d0).ss), .i ((v8.getD 1 d0).ii), .i ((v8.getD 2 d0).ii), .i ((v8.getD 3 d0).ii), .i ((v8.getD 4 d0).ii), .i (IntKind.i64.wrap ((((v8.getD 0 d0).ss).getD (IntKind.i64.wrap ((v8.getD 1 d0).ii + (v8.getD 4 d0).ii)).toNat 0).toNat : Int)), .b (decide ((IntKind.i64.wrap ((((v8.getD 0 d0).ss).getD (IntKind.i64.wrap ((v8.getD 1 d0).ii + (v8.getD 4 d0).ii)).toNat 0).toNat : Int)) > (191 : Int)))]) fun v9 =>
 if (v9.getD 6 d0).bb = true then
 .ret [.i (-1 : Int), .i (0 : Int)]
 else
 .norm [.s ((v9.getD 0 d0).ss), .i ((v9.getD 1 d0).ii), .i ((v9.getD 2 d0).ii), .i (IntKind.i64.wrap ((IntKind.i64.wrap ((IntKind.i64.wrap ((v9.getD 3 d0).ii * (64 : Int))) + (v9.getD 5 d0).ii)) - (128 : Int))), .i ((v9.getD 4 d0).ii)]
 else
 .fail) 2 fun v10 =>
 .norm [.s ((v10.getD 0 d0).ss), .i ((v10.getD 1 d0).ii), .i ((v10.getD 2 d0).ii), .i ((v10.getD 3 d0).ii), .i (IntKind.i64.wrap ((v10.getD 4 d0).ii + (1 : Int)))]
 else
 .ex 1 [.i ((v8.getD 2 d0).ii), .i ((v8.getD 3 d0).ii)]
noncomputable def E_spec_RuneAt (a : List DC) : Out :=
 Out.andThen (if (decide ((a.getD 1 d0).ii < (0 : Int))) = true then
 .norm [.s ((a.getD 0 d0).ss), .i ((a.getD 1 d0).ii), .b true]
 else
 .norm [.s ((a.getD 0 d0).ss), .i ((a.getD 1 d0).ii), .b (decide ((a.getD 1 d0).ii ≥ (((a.getD 0 d0).ss).length : Int)))]) fun v1 =>
 if (v1.getD 2 d0).bb = true then
 .ret [.i (-1 : Int), .i (0 : Int)]
 else
 if 0 ≤ (v1.getD 1 d0).ii ∧ (v1.getD 1 d0).ii < (((v1.getD 0 d0).ss).length : Int) then
 Out.andThenB (if (decide ((IntKind.i64.wrap ((((v1.getD 0 d0).ss).getD ((v1.getD 1 d0).ii).toNat 0).toNat : Int)) < (128 : Int))) = true then
 .ret [.i (IntKind.i64.wrap ((((v1.getD 0 d0).ss).getD ((v1.getD 1 d0).ii).toNat 0).toNat : Int)), .i (1 : Int)]
 else
 Out.andThen (if (decide ((IntKind.i64.wrap ((((v1.getD 0 d0).ss).getD ((v1.getD 1 d0).ii).toNat 0).toNat : Int)) ≥ (194 : Int))) = true then
 .norm [.s ((v1.getD 0 d0).ss), .i ((v1.getD 1 d0).ii), .i (IntKind.i64.wrap ((((v1.getD 0 d0).ss).getD ((v1.getD 1 d0).ii).toNat 0).toNat : Int)), .b (decide ((IntKind.i64.wrap ((((v1.getD 0 d0).ss).getD ((v1.getD 1 d0).ii).toNat 0).toNat : Int)) < (224 : Int)))]
 else
 .norm [.s ((v1.getD 0 d0).ss), .i ((v1.getD 1 d0).ii), .i (IntKind.i64.wrap ((((v1.getD 0 d0).ss).getD ((v1.getD 1 d0).ii).toNat 0).toNat : Int)), .b false]) fun v2 =>
 Out.andThen (if (v2.getD 3 d0).bb = true then
 .norm [.s ((v2.getD 0 d0).ss), .i ((v2.getD 1 d0).ii), .i (2 : Int), .i (IntKind.i64.wrap ((v2.getD 2 d0).ii - (192 : Int)))]
 else
 Out.andThen (if (decide ((v2.getD 2 d0).ii ≥ (224 : Int))) = true then
 .norm [.s ((v2.getD 0 d0).ss), .i ((v2.getD 1 d0).ii), .i ((v2.getD 2 d0).ii), .b (decide ((v2.getD 2 d0).ii < (240 : Int)))]
 else
 .norm [.s ((v2.getD 0 d0).ss), .i ((v2.getD 1 d0).ii), .i ((v2.getD 2 d0).ii), .b false]) fun v3 =>
 Out.andThen (if (v3.getD 3 d0).bb = true then
 .norm [.s ((v3.getD 0 d0).ss), .i ((v3.getD 1 d0).ii), .i (3 : Int), .i (IntKind.i64.wrap ((v3.getD 2 d0).ii - (224 : Int)))]
 else
 Out.andThen (if (decide ((v3.getD 2 d0).ii ≥ (240 : Int))) = true then
 .norm [.s ((v3.getD 0 d0).ss), .i ((v3.getD 1 d0).ii), .i ((v3.getD 2 d0).ii), .b (decide ((v3.getD 2 d0).ii < (245 : Int)))]
 else
 .norm [.s ((v3.getD 0 d0).ss), .i ((v3.getD 1 d0).ii), .i ((v3.getD 2 d0).ii), .b false]) fun v4 =>
 if (v4.getD 3 d0).bb = true then
 .norm [.s ((v4.getD 0 d0).ss), .i ((v4.getD 1 d0).ii), .i (4 : Int), .i (IntKind.i64.wrap ((v4.getD 2 d0).ii - (240 : Int)))]
 else
 .ret [.i (-1 : Int), .i (0 : Int)]) fun v5 =>
 .norm [.s ((v5.getD 0 d0).ss), .i ((v5.getD 1 d0).ii), .i ((v5.getD 2 d0).ii), .i ((v5.getD 3 d0).ii)]) fun v6 =>
 .norm [.s ((v6.getD 0 d0).ss), .i ((v6.getD 1 d0).ii), .i ((v6.getD 2 d0).ii), .i ((v6.getD 3 d0).ii)]) 0 fun v7 =>
 if (decide ((IntKind.i64.wrap ((v7.getD 1 d0).ii + (v7.getD 2 d0).ii)) > (((v7.getD 0 d0).ss).length : Int))) = true then
 .ret [.i (-1 : Int), .i (0 : Int)]
 else
 Out.andThenB (Loop E_spec_RuneAtL1 [.s ((v7.getD 0 d0).ss), .i ((v7.getD 1 d0).ii), .i ((v7.getD 2 d0).ii), .i ((v7.getD 3 d0).ii), .i (1 : Int)]) 1 fun v11 =>
 (r_spec_RuneText [.i ((v11.getD 1 d0).ii)]).bindR fun r12 =>
 if ((((r12.getD 0 d0).ss).length : Int) != (v11.getD 0 d0).ii) = true then
 .ret [.i (-1 : Int), .i (0 : Int)]
 else
 .ret [.i ((v11.getD 1 d0).ii), .i ((v11.getD 0 d0).ii)]
 else
 .fail
theorem eq_spec_RuneAt a : r_spec_RuneAt a = E_spec_RuneAt a := (Run_eq cfg 96 _ a).trans (by kernel_rfl)
noncomputable def E_impl_ArgsOk_1 (a : List DC) : Out :=
 Out.andThen ((r_impl_NameOk [.s ((a.getD 0 d0).ss)]).bindR fun r1 =>
 if (!((r1.getD 0 d0).bb)) = true then
 .norm [.b true]
 else
 (r_impl_ValueOk [.i ((a.getD 1 d0).ii), .s ((a.getD 2 d0).ss), .sl ((a.getD 3 d0).ll), .sl ((a.getD 4 d0).ll)]).bindR fun r2 =>
 .norm [.b (!((r2.getD 0 d0).bb))]) fun v3 =>
 .ret [.b ((v3.getD 0 d0).bb)]
theorem eq_impl_ArgsOk_1 a : r_impl_ArgsOk_1 a = E_impl_ArgsOk_1 a := (Run_eq cfg 68 _ a).trans (by kernel_rfl)
noncomputable def E_unicode_utf8_ValidString (a : List DC) : Out := match primH [.s] [.b] qValidString h_unicode_utf8_ValidString a with | some r => .ret r | none => .fail
theorem eq_unicode_utf8_ValidString a : r_unicode_utf8_ValidString a = E_unicode_utf8_ValidString a := (Run_eq cfg 107 h_unicode_utf8_ValidString a).trans (by kernel_rfl)
noncomputable def E_internal_stringslite_IndexByte (a : List DC) : Out := match primH [.s, .i .u8] [.i .i64] qIndexByte h_internal_stringslite_IndexByte a with | some r => .ret r | none => .fail
theorem eq_internal_stringslite_IndexByte a : r_internal_stringslite_IndexByte a = E_internal_stringslite_IndexByte a := (Run_eq cfg 108 h_internal_stringslite_IndexByte a).trans (by kernel_rfl)
noncomputable def E_impl_SelOk (a : List DC) : Out :=
 (r_impl_bound_selOk [.i ((a.getD 0 d0).ii), .s ((a.getD 1 d0).ss), .s ((a.getD 2 d0).ss), .s ((a.getD 3 d0).ss), .sl ((a.getD 4 d0).ll), .sl ((a.getD 5 d0).ll), .sl ((a.getD 6 d0).ll), .i (10 : Int), .i (120 : Int)]).bindR fun r1 =>
 .ret [.b ((r1.getD 0 d0).bb)]
theorem eq_impl_SelOk a : r_impl_SelOk a = E_impl_SelOk a := (Run_eq cfg 57 _ a).trans (by kernel_rfl)
noncomputable def E_laws_eqValueSL1 : List DC → Out := fun v1 =>
 if (decide ((v1.getD 2 d0).ii < (((v1.getD 0 d0).ll).length : Int))) = true then
 Out.andThenB (if 78 = 78 ∧ 0 ≤ (v1.getD 2 d0).ii ∧ (v1.getD 2 d0).ii < (((v1.getD 0 d0).ll).length : Int) then
 if 78 = 78 ∧ 0 ≤ (v1.getD 2 d0).ii ∧ (v1.getD 2 d0).ii < (((v1.getD 1 d0).ll).length : Int) then
 (r_laws_eqValue [.i (((((v1.getD 0 d0).ll).getD ((v1.getD 2 d0).ii).toNat []).getD 0 d0).ii), .s (((((v1.getD 0 d0).ll).getD ((v1.getD 2 d0).ii).toNat []).getD 1 d0).ss), .sl (((((v1.getD 0 d0).ll).getD ((v1.getD 2 d0).ii).toNat []).getD 2 d0).ll), .sl (((((v1.getD 0 d0).ll).getD ((v1.getD 2 d0).ii).toNat []).getD 3 d0).ll), .i (((((v1.getD 1 d0).ll).getD ((v1.getD 2 d0).ii).toNat []).getD 0 d0).ii), .s (((((v1.getD 1 d0).ll).getD ((v1.getD 2 d0).ii).toNat []).getD 1 d0).ss), .sl (((((v1.getD 1 d0).ll).getD ((v1.getD 2 d0).ii).toNat []).getD 2 d0).ll), .sl (((((v1.getD 1 d0).ll).getD ((v1.getD 2 d0).ii).toNat []).getD 3 d0).ll)]).bindR fun r2 =>
 if (!((r2.getD 0 d0).bb)) = true then
 .ret [.b false]
 else
 .norm [.sl ((v1.getD 0 d0).ll), .sl ((v1.getD 1 d0).ll), .i ((v1.getD 2 d0).ii)]
 else
 .fail
 else
 .fail) 1 fun v3 =>
 .norm [.sl ((v3.getD 0 d0).ll), .sl ((v3.getD 1 d0).ll), .i (IntKind.i64.wrap ((v3.getD 2 d0).ii + (1 : Int)))]
 else
 .ex 0 []
noncomputable def E_laws_eqValueS (a : List DC) : Out :=
 if ((((a.getD 0 d0).ll).length : Int) != (((a.getD 1 d0).ll).length : Int)) = true then
 .ret [.b false]
 else
 Out.andThenB (Loop E_laws_eqValueSL1 [.sl ((a.getD 0 d0).ll), .sl ((a.getD 1 d0).ll), .i (0 : Int)]) 0 fun v4 =>
 .ret [.b true]
theorem eq_laws_eqValueS a : r_laws_eqValueS a = E_laws_eqValueS a := (Run_eq cfg 114 _ a).trans (by kernel_rfl)
noncomputable def E_laws_eqStringSL1 : List DC → Out := fun v1 =>
 if (decide ((v1.getD 2 d0).ii < (((v1.getD 0 d0).ll).length : Int))) = true then
 Out.andThenB (if 9 = 9 ∧ 0 ≤ (v1.getD 2 d0).ii ∧ (v1.getD 2 d0).ii < (((v1.getD 0 d0).ll).length : Int) then
 if 9 = 9 ∧ 0 ≤ (v1.getD 2 d0).ii ∧ (v1.getD 2 d0).ii < (((v1.getD 1 d0).ll).length : Int) then
 if (!(((((v1.getD 0 d0).ll).getD ((v1.getD 2 d0).ii).toNat []).getD 0 d0).ss == ((((v1.getD 1 d0).ll).getD ((v1.getD 2 d0).ii).toNat []).getD 0 d0).ss)) = true then
 .ret [.b false]
 else
 .norm [.sl ((v1.getD 0 d0).ll), .sl ((v1.getD 1 d0).ll), .i ((v1.getD 2 d0).ii)]
 else
 .fail
 else
 .fail) 1 fun v2 =>
 .norm [.sl ((v2.getD 0 d0).ll), .sl ((v2.getD 1 d0).ll), .i (IntKind.i64.wrap ((v2.getD 2 d0).ii + (1 : Int)))]
 else
 .ex 0 []
noncomputable def E_laws_eqStringS (a : List DC) : Out :=
 if ((((a.getD 0 d0).ll).length : Int) != (((a.getD 1 d0).ll).length : Int)) = true then
 .ret [.b false]
 else
 Out.andThenB (Loop E_laws_eqStringSL1 [.sl ((a.getD 0 d0).ll), .sl ((a.getD 1 d0).ll), .i (0 : Int)]) 0 fun v3 =>
 .ret [.b true]
theorem eq_laws_eqStringS a : r_laws_eqStringS a = E_laws_eqStringS a := (Run_eq cfg 115 _ a).trans (by kernel_rfl)
noncomputable def E_spec_IntOk (a : List DC) : Out :=
 Out.andThen (if (decide ((((a.getD 0 d0).ss).length : Int) ≤ (40 : Int))) = true then
 if (decide ((((a.getD 0 d0).ss).length : Int) > (0 : Int))) = true then
 (r_spec_l03Int [.s ((a.getD 0 d0).ss)]).bindR fun r1 =>
 .norm [.b ((r1.getD 0 d0).ii == (((a.getD 0 d0).ss).length : Int))]
 else
 .norm [.b false]
 else
 .norm [.b false]) fun v2 =>
 .ret [.b ((v2.getD 0 d0).bb)]
theorem eq_spec_IntOk a : r_spec_IntOk a = E_spec_IntOk a := (Run_eq cfg 116 _ a).trans (by kernel_rfl)
noncomputable def E_spec_FloatOk (a : List DC) : Out :=
 (r_spec_l03Int [.s ((a.getD 0 d0).ss)]).bindR fun r1 =>
 Out.andThen (if (decide ((((a.getD 0 d0).ss).length : Int) > (40 : Int))) = true then
 .norm [.s ((a.getD 0 d0).ss), .i ((r1.getD 0 d0).ii), .b true]
 else
 if ((r1.getD 0 d0).ii == (0 : Int)) = true then
 .norm [.s ((a.getD 0 d0).ss), .i ((r1.getD 0 d0).ii), .b true]
 else
 .norm [.s ((a.getD 0 d0).ss), .i ((r1.getD 0 d0).ii), .b ((r1.getD 0 d0).ii == (((a.getD 0 d0).ss).length : Int))]) fun v2 =>
 if (v2.getD 2 d0).bb = true then
 .ret [.b false]
 else
 if 0 ≤ (v2.getD 1 d0).ii ∧ (v2.getD 1 d0).ii < (((v2.getD 0 d0).ss).length : Int) then
 Out.andThen (if (((((v2.getD 0 d0).ss).getD ((v2.getD 1 d0).ii).toNat 0).toNat : Int) == (46 : Int)) = true then
 (r_spec_l03Run [.s ((v2.getD 0 d0).ss), .i (IntKind.i64.wrap ((v2.getD 1 d0).ii + (1 : Int)))]).bindR fun r3 =>
 if ((r3.getD 0 d0).ii == (IntKind.i64.wrap ((v2.getD 1 d0).ii + (1 : Int)))) = true then
 .ret [.b false]
 else
 .norm [.s ((v2.getD 0 d0).ss), .i ((r3.getD 0 d0).ii)]
 else
 .norm [.s ((v2.getD 0 d0).ss), .i ((v2.getD 1 d0).ii)]) fun v4 =>
 Out.andThen (if (decide ((v4.getD 1 d0).ii < (((v4.getD 0 d0).ss).length : Int))) = true then
 if 0 ≤ (v4.getD 1 d0).ii ∧ (v4.getD 1 d0).ii < (((v4.getD 0 d0).ss).length : Int) then
 if (((((v4.getD 0 d0).ss).getD ((v4.getD 1 d0).ii).toNat 0).toNat : Int) == (101 : Int)) = true then
 .norm [.s ((v4.getD 0 d0).ss), .i ((v4.getD 1 d0).ii), .b true]
 else
 if 0 ≤ (v4.getD 1 d0).ii ∧ (v4.getD 1 d0).ii < (((v4.getD 0 d0).ss).length : Int) then
 .norm [.s ((v4.getD 0 d0).ss), .i ((v4.getD 1 d0).ii), .b (((((v4.getD 0 d0).ss).getD ((v4.getD 1 d0).ii).toNat 0).toNat : Int) == (69 : Int))]
 else
 .fail
 else
 .fail
 else
 .norm [.s ((v4.getD 0 d0).ss), .i ((v4.getD 1 d0).ii), .b false]) fun v5 =>
 Out.andThen (if (v5.getD 2 d0).bb = true then
 Out.andThen (if (decide ((IntKind.i64.wrap ((v5.getD 1 d0).ii + (1 : Int))) < (((v5.getD 0 d0).ss).length : Int))) = true then
 if 0 ≤ (IntKind.i64.wrap ((v5.getD 1 d0).ii + (1 : Int))) ∧ (IntKind.i64.wrap ((v5.getD 1 d0).ii + (1 : Int))) < (((v5.getD 0 d0).ss).length : Int) then
 if (((((v5.getD 0 d0).ss).getD (IntKind.i64.wrap ((v5.getD 1 d0).ii + (1 : Int))).toNat 0).toNat : Int) == (43 : Int)) = true then
 .norm [.s ((v5.getD 0 d0).ss), .i (IntKind.i64.wrap ((v5.getD 1 d0).ii + (1 : Int))), .b true]
 else
 if 0 ≤ (IntKind.i64.wrap ((v5.getD 1 d0).ii + (1 : Int))) ∧ (IntKind.i64.wrap ((v5.getD 1 d0).ii + (1 : Int))) < (((v5.getD 0 d0).ss).length : Int) then
 .norm [.s ((v5.getD 0 d0).ss), .i (IntKind.i64.wrap ((v5.getD 1 d0).ii + (1 : Int))), .b (((((v5.getD 0 d0).ss).getD (IntKind.i64.wrap ((v5.getD 1 d0).ii + (1 : Int))).toNat 0).toNat : Int) == (45 : Int))]
 else
 .fail
 else
 .fail
 else
 .norm [.s ((v5.getD 0 d0).ss), .i (IntKind.i64.wrap ((v5.getD 1 d0).ii + (1 : Int))), .b false]) fun v6 =>
 Out.andThen (if (v6.getD 2 d0).bb = true then
 .norm [.s ((v6.getD 0 d0).ss), .i (IntKind.i64.wrap ((v6.getD 1 d0).ii + (1 : Int)))]
 else
 .norm [.s ((v6.getD 0 d0).ss), .i ((v6.getD 1 d0).ii)]) fun v7 =>
 (r_spec_l03Run [.s ((v7.getD 0 d0).ss), .i ((v7.getD 1 d0).ii)]).bindR fun r8 =>
 if ((r8.getD 0 d0).ii == (v7.getD 1 d0).ii) = true then
 .ret [.b false]
 else
 .norm [.s ((v7.getD 0 d0).ss), .i ((r8.getD 0 d0).ii)]
 else
 .norm [.s ((v5.getD 0 d0).ss), .i ((v5.getD 1 d0).ii)]) fun v9 =>
 .ret [.b ((v9.getD 1 d0).ii == (((v9.getD 0 d0).ss).length : Int))]
 else
 .fail
theorem eq_spec_FloatOk a : r_spec_FloatOk a = E_spec_FloatOk a := (Run_eq cfg 117 _ a).trans (by kernel_rfl)
noncomputable def E_spec_Word (a : List DC) : Out :=
 Out.andThen (if ((a.getD 0 d0).ss == ([116, 114, 117, 101] : List UInt8)) = true then
 .norm [.b true]
 else
 if ((a.getD 0 d0).ss == ([102, 97, 108, 115, 101] : List UInt8)) = true then
 .norm [.b true]
 else
 .norm [.b ((a.getD 0 d0).ss == ([110, 117, 108, 108] : List UInt8))]) fun v1 =>
 .ret [.b ((v1.getD 0 d0).bb)]
theorem eq_spec_Word a : r_spec_Word a = E_spec_Word a := (Run_eq cfg 118 _ a).trans (by kernel_rfl)
noncomputable def E_spec_RuneText (a : List DC) : Out :=
 (r_spec_l02Scalar [.i ((a.getD 0 d0).ii)]).bindR fun r1 =>
 if (!((r1.getD 0 d0).bb)) = true then
 .ret [.s ([] : List UInt8)]
 else
 Out.andThenB (if (decide ((a.getD 0 d0).ii < (128 : Int))) = true then
 .ret [.s (rowBytes [[DC.i (IntKind.u8.wrap ((a.getD 0 d0).ii))]])]
 else
 if (decide ((a.getD 0 d0).ii < (2048 : Int))) = true then
 if (64 : Int) = 0 then
 .fail
 else
 if (64 : Int) = 0 then
 .fail
 else
 .ret [.s (rowBytes [[DC.i (IntKind.u8.wrap (IntKind.i64.wrap ((192 : Int) + (IntKind.i64.wrap (((a.getD 0 d0).ii).tdiv (64 : Int))))))], [DC.i (IntKind.u8.wrap (IntKind.i64.wrap ((128 : Int) + (((a.getD 0 d0).ii).tmod (64 : Int)))))]])]
 else
 if (decide ((a.getD 0 d0).ii < (65536 : Int))) = true then
 if (4096 : Int) = 0 then
 .fail
 else
 if (64 : Int) = 0 then
 .fail
 else
 if (64 : Int) = 0 then
 .fail
 else
 if (64 : Int) = 0 then
 .fail
 else
 .ret [.s (rowBytes [[DC.i (IntKind.u8.wrap (IntKind.i64.wrap ((224 : Int) + (IntKind.i64.wrap (((a.getD 0 d0).ii).tdiv (4096 : Int))))))], [DC.i (IntKind.u8.wrap (IntKind.i64.wrap ((128 : Int) + ((IntKind.i64.wrap (((a.getD 0 d0).ii).tdiv (64 : Int))).tmod (64 : Int)))))], [DC.i (IntKind.u8.wrap (IntKind.i64.wrap ((128 : Int) + (((a.getD 0 d0).ii).tmod (64 : Int)))))]])]
 else
 .norm [.i ((a.getD 0 d0).ii)]) 0 fun v2 =>
 if (262144 : Int) = 0 then
 .fail
 else
 if (4096 : Int) = 0 then
 .fail
 else
 if (64 : Int) = 0 then
 .fail
 else
 if (64 : Int) = 0 then
 .fail
 else
 if (64 : Int) = 0 then
 .fail
 else
 if (64 : Int) = 0 then
 .fail
 else
 .ret [.s (rowBytes [[DC.i (IntKind.u8.wrap (IntKind.i64.wrap ((240 : Int) + (IntKind.i64.wrap (((v2.getD 0 d0).ii).tdiv (262144 : Int))))))], [DC.i (IntKind.u8.wrap (IntKind.i64.wrap ((128 : Int) + ((IntKind.i64.wrap (((v2.getD 0 d0).ii).tdiv (4096 : Int))).tmod (64 : Int)))))], [DC.i (IntKind.u8.wrap (IntKind.i64.wrap ((128 : Int) + ((IntKind.i64.wrap (((v2.getD 0 d0).ii).tdiv (64 : Int))).tmod (64 : Int)))))], [DC.i (IntKind.u8.wrap (IntKind.i64.wrap ((128 : Int) + (((v2.getD 0 d0).ii).tmod (64 : Int)))))]])]
theorem eq_spec_RuneText a : r_spec_RuneText a = E_spec_RuneText a := (Run_eq cfg 119 _ a).trans (by kernel_rfl)
noncomputable def E_impl_ValueOk (a : List DC) : Out :=
 (r_impl_valueOk [.i ((a.getD 0 d0).ii), .s ((a.getD 1 d0).ss), .sl ((a.getD 2 d0).ll), .sl ((a.getD 3 d0).ll), .i (10 : Int)]).bindR fun r1 =>
 .ret [.b ((r1.getD 0 d0).bb)]
theorem eq_impl_ValueOk a : r_impl_ValueOk a = E_impl_ValueOk a := (Run_eq cfg 69 _ a).trans (by kernel_rfl)
noncomputable def E_spec_l03Int (a : List DC) : Out :=
 Out.andThen (if (decide ((((a.getD 0 d0).ss).length : Int) > (0 : Int))) = true then
 if 0 ≤ (0 : Int) ∧ (0 : Int) < (((a.getD 0 d0).ss).length : Int) then
 .norm [.s ((a.getD 0 d0).ss), .i (0 : Int), .b (((((a.getD 0 d0).ss).getD (0 : Int).toNat 0).toNat : Int) == (45 : Int))]
 else
 .fail
 else
 .norm [.s ((a.getD 0 d0).ss), .i (0 : Int), .b false]) fun v1 =>
 Out.andThen (if (v1.getD 2 d0).bb = true then
 .norm [.s ((v1.getD 0 d0).ss), .i (1 : Int)]
 else
 .norm [.s ((v1.getD 0 d0).ss), .i ((v1.getD 1 d0).ii)]) fun v2 =>
 (r_spec_l03Run [.s ((v2.getD 0 d0).ss), .i ((v2.getD 1 d0).ii)]).bindR fun r3 =>
 Out.andThen (if ((r3.getD 0 d0).ii == (v2.getD 1 d0).ii) = true then
 .norm [.i ((r3.getD 0 d0).ii), .b true]
 else
 if 0 ≤ (v2.getD 1 d0).ii ∧ (v2.getD 1 d0).ii < (((v2.getD 0 d0).ss).length : Int) then
 if (((((v2.getD 0 d0).ss).getD ((v2.getD 1 d0).ii).toNat 0).toNat : Int) == (48 : Int)) = true then
 .norm [.i ((r3.getD 0 d0).ii), .b (decide ((r3.getD 0 d0).ii > (IntKind.i64.wrap ((v2.getD 1 d0).ii + (1 : Int)))))]
 else
 .norm [.i ((r3.getD 0 d0).ii), .b false]
 else
 .fail) fun v4 =>
 if (v4.getD 1 d0).bb = true then
 .ret [.i (0 : Int)]
 else
 .ret [.i ((v4.getD 0 d0).ii)]
theorem eq_spec_l03Int a : r_spec_l03Int a = E_spec_l03Int a := (Run_eq cfg 128 _ a).trans (by kernel_rfl)
noncomputable def E_spec_l03RunL1 : List DC → Out := fun v1 =>
 Out.andThen (if (decide ((v1.getD 1 d0).ii < (((v1.getD 0 d0).ss).length : Int))) = true then
 if 0 ≤ (v1.getD 1 d0).ii ∧ (v1.getD 1 d0).ii < (((v1.getD 0 d0).ss).length : Int) then
 (r_spec_l03Figure [.i ((((v1.getD 0 d0).ss).getD ((v1.getD 1 d0).ii).toNat 0).toNat : Int)]).bindR fun r2 =>
 .norm [.s ((v1.getD 0 d0).ss), .i ((v1.getD 1 d0).ii), .b ((r2.getD 0 d0).bb)]
 else
 .fail
 else
 .norm [.s ((v1.getD 0 d0).ss), .i ((v1.getD 1 d0).ii), .b false]) fun v3 =>
 if (v3.getD 2 d0).bb = true then
 Out.andThenB (.norm [.s ((v3.getD 0 d0).ss), .i (IntKind.i64.wrap ((v3.getD 1 d0).ii + (1 : Int)))]) 1 fun v4 =>
 .norm [.s ((v4.getD 0 d0).ss), .i ((v4.getD 1 d0).ii)]
 else
 .ex 0 [.i ((v3.getD 1 d0).ii)]
noncomputable def E_spec_l03Run (a : List DC) : Out :=
 Out.andThenB (Loop E_spec_l03RunL1 [.s ((a.getD 0 d0).ss), .i ((a.getD 1 d0).ii)]) 0 fun v5 =>
 .ret [.i ((v5.getD 0 d0).ii)]
theorem eq_spec_l03Run a : r_spec_l03Run a = E_spec_l03Run a := (Run_eq cfg 129 _ a).trans (by kernel_rfl)
noncomputable def E_spec_l02Scalar (a : List DC) : Out :=
 Out.andThen ((r_spec_l01In [.i ((a.getD 0 d0).ii), .i (0 : Int), .i (1114111 : Int)]).bindR fun r1 =>
 if (r1.getD 0 d0).bb = true then
 (r_spec_l01In [.i ((a.getD 0 d0).ii), .i (55296 : Int), .i (57343 : Int)]).bindR fun r2 =>
 .norm [.b (!((r2.getD 0 d0).bb))]
 else
 .norm [.b false]) fun v3 =>
 .ret [.b ((v3.getD 0 d0).bb)]
theorem eq_spec_l02Scalar a : r_spec_l02Scalar a = E_spec_l02Scalar a := (Run_eq cfg 130 _ a).trans (by kernel_rfl)
noncomputable def E_impl_valueOk (a : List DC) : Out :=
 Out.andThenB (if ((a.getD 0 d0).ii == (1 : Int)) = true then
 Out.andThen ((r_impl_plain [.i ((a.getD 0 d0).ii), .s ((a.getD 1 d0).ss), .sl ((a.getD 2 d0).ll), .sl ((a.getD 3 d0).ll)]).bindR fun r1 =>
 if (r1.getD 0 d0).bb = true then
 (r_impl_NameOk [.s ((a.getD 1 d0).ss)]).bindR fun r2 =>
 .norm [.b ((r2.getD 0 d0).bb)]
 else
 .norm [.b false]) fun v3 =>
 .ret [.b ((v3.getD 0 d0).bb)]
 else
 if ((a.getD 0 d0).ii == (2 : Int)) = true then
 Out.andThen ((r_impl_plain [.i ((a.getD 0 d0).ii), .s ((a.getD 1 d0).ss), .sl ((a.getD 2 d0).ll), .sl ((a.getD 3 d0).ll)]).bindR fun r4 =>
 if (r4.getD 0 d0).bb = true then
 (r_impl_IntOk [.s ((a.getD 1 d0).ss)]).bindR fun r5 =>
 .norm [.b ((r5.getD 0 d0).bb)]
 else
 .norm [.b false]) fun v6 =>
 .ret [.b ((v6.getD 0 d0).bb)]
 else
 if ((a.getD 0 d0).ii == (3 : Int)) = true then
 Out.andThen ((r_impl_plain [.i ((a.getD 0 d0).ii), .s ((a.getD 1 d0).ss), .sl ((a.getD 2 d0).ll), .sl ((a.getD 3 d0).ll)]).bindR fun r7 =>
 if (r7.getD 0 d0).bb = true then
 (r_impl_FloatOk [.s ((a.getD 1 d0).ss)]).bindR fun r8 =>
 .norm [.b ((r8.getD 0 d0).bb)]
 else
 .norm [.b false]) fun v9 =>
 .ret [.b ((v9.getD 0 d0).bb)]
 else
 if ((a.getD 0 d0).ii == (4 : Int)) = true then
 Out.andThen ((r_impl_plain [.i ((a.getD 0 d0).ii), .s ((a.getD 1 d0).ss), .sl ((a.getD 2 d0).ll), .sl ((a.getD 3 d0).ll)]).bindR fun r10 =>
 if (r10.getD 0 d0).bb = true then
 (r_impl_Escaped [.s ((a.getD 1 d0).ss)]).bindR fun r11 =>
 .norm [.b (!((r11.getD 0 d0).ss == ([] : List UInt8)))]
 else
 .norm [.b false]) fun v12 =>
 .ret [.b ((v12.getD 0 d0).bb)]
 else
 if ((a.getD 0 d0).ii == (5 : Int)) = true then
 Out.andThen ((r_impl_plain [.i ((a.getD 0 d0).ii), .s ((a.getD 1 d0).ss), .sl ((a.getD 2 d0).ll), .sl ((a.getD 3 d0).ll)]).bindR fun r13 =>
 if (r13.getD 0 d0).bb = true then
 (r_impl_Word [.s ((a.getD 1 d0).ss)]).bindR fun r14 =>
 .norm [.b ((r14.getD 0 d0).bb)]
 else
 .norm [.b false]) fun v15 =>
 .ret [.b ((v15.getD 0 d0).bb)]
 else
 if ((a.getD 0 d0).ii == (6 : Int)) = true then
 Out.andThen ((r_impl_plain [.i ((a.getD 0 d0).ii), .s ((a.getD 1 d0).ss), .sl ((a.getD 2 d0).ll), .sl ((a.getD 3 d0).ll)]).bindR fun r16 =>
 if (r16.getD 0 d0).bb = true then
 (r_impl_NameOk [.s ((a.getD 1 d0).ss)]).bindR fun r17 =>
 if (r17.getD 0 d0).bb = true then
 (r_impl_Word [.s ((a.getD 1 d0).ss)]).bindR fun r18 =>
 .norm [.b (!((r18.getD 0 d0).bb))]
 else
 .norm [.b false]
 else
 .norm [.b false]) fun v19 =>
 .ret [.b ((v19.getD 0 d0).bb)]
 else
 Out.andThen (if ((a.getD 0 d0).ii == (7 : Int)) = true then
 if ((((a.getD 3 d0).ll).length : Int) != (0 : Int)) = true then
 .ret [.b false]
 else
 .norm [.i ((a.getD 0 d0).ii), .s ((a.getD 1 d0).ss), .sl ((a.getD 2 d0).ll), .sl ((a.getD 3 d0).ll), .i ((a.getD 4 d0).ii)]
 else
 if ((a.getD 0 d0).ii == (8 : Int)) = true then
 Out.andThen (if ((((a.getD 3 d0).ll).length : Int) != (((a.getD 2 d0).ll).length : Int)) = true then
 .norm [.b true, .i ((a.getD 0 d0).ii), .s ((a.getD 1 d0).ss), .sl ((a.getD 2 d0).ll), .sl ((a.getD 3 d0).ll), .i ((a.getD 4 d0).ii)]
 else
 (r_slices_ContainsFunc_string__impl_valueOk_1 [.sl ((a.getD 3 d0).ll)]).bindR fun r20 =>
 .norm [.b ((r20.getD 0 d0).bb), .i ((a.getD 0 d0).ii), .s ((a.getD 1 d0).ss), .sl ((a.getD 2 d0).ll), .sl ((a.getD 3 d0).ll), .i ((a.getD 4 d0).ii)]) fun v21 =>
 if (v21.getD 0 d0).bb = true then
 .ret [.b false]
 else
 .norm [.i ((v21.getD 1 d0).ii), .s ((v21.getD 2 d0).ss), .sl ((v21.getD 3 d0).ll), .sl ((v21.getD 4 d0).ll), .i ((v21.getD 5 d0).ii)]
 else
 .ret [.b false]) fun v22 =>
 .norm [.i ((v22.getD 0 d0).ii), .s ((v22.getD 1 d0).ss), .sl ((v22.getD 2 d0).ll), .sl ((v22.getD 3 d0).ll), .i ((v22.getD 4 d0).ii)]) 0 fun v23 =>
 Out.andThen (if (decide ((v23.getD 4 d0).ii > (0 : Int))) = true then
 if ((v23.getD 1 d0).ss == ([] : List UInt8)) = true then
 (r_slices_ContainsFunc_impl_Value__impl_valueOk_2 [.sl ((v23.getD 2 d0).ll), .i ((v23.getD 4 d0).ii)]).bindR fun r24 =>
 .norm [.b (!((r24.getD 0 d0).bb))]
 else
 .norm [.b false]
 else
 .norm [.b false]) fun v25 =>
 .ret [.b ((v25.getD 0 d0).bb)]
theorem eq_impl_valueOk a : r_impl_valueOk a = E_impl_valueOk a := (Run_eq cfg 84 _ a).trans (by kernel_rfl)
noncomputable def E_spec_l01In (a : List DC) : Out :=
 Out.andThen (if (decide ((a.getD 0 d0).ii ≥ (a.getD 1 d0).ii)) = true then
 .norm [.b (decide ((a.getD 0 d0).ii ≤ (a.getD 2 d0).ii))]
 else
 .norm [.b false]) fun v1 =>
 .ret [.b ((v1.getD 0 d0).bb)]
theorem eq_spec_l01In a : r_spec_l01In a = E_spec_l01In a := (Run_eq cfg 137 _ a).trans (by kernel_rfl)
noncomputable def E_impl_plain (a : List DC) : Out :=
 Out.andThen (if ((((a.getD 2 d0).ll).length : Int) == (0 : Int)) = true then
 .norm [.b ((((a.getD 3 d0).ll).length : Int) == (0 : Int))]
 else
 .norm [.b false]) fun v1 =>
 .ret [.b ((v1.getD 0 d0).bb)]
theorem eq_impl_plain a : r_impl_plain a = E_impl_plain a := (Run_eq cfg 99 _ a).trans (by kernel_rfl)
noncomputable def E_impl_IntOk (a : List DC) : Out :=
 (r_strings_TrimPrefix [.s ((a.getD 0 d0).ss), .s ([45] : List UInt8)]).bindR fun r1 =>
 Out.andThen (if (decide ((((a.getD 0 d0).ss).length : Int) ≤ (40 : Int))) = true then
 (r_impl_figures [.s ((r1.getD 0 d0).ss)]).bindR fun r2 =>
 if (r2.getD 0 d0).bb = true then
 if ((r1.getD 0 d0).ss == ([48] : List UInt8)) = true then
 .norm [.b true]
 else
 if 0 ≤ (0 : Int) ∧ (0 : Int) < (((r1.getD 0 d0).ss).length : Int) then
 .norm [.b (((((r1.getD 0 d0).ss).getD (0 : Int).toNat 0).toNat : Int) != (48 : Int))]
 else
 .fail
 else
 .norm [.b false]
 else
 .norm [.b false]) fun v3 =>
 .ret [.b ((v3.getD 0 d0).bb)]
theorem eq_impl_IntOk a : r_impl_IntOk a = E_impl_IntOk a := (Run_eq cfg 100 _ a).trans (by kernel_rfl)
noncomputable def E_impl_FloatOk (a : List DC) : Out :=
 if (decide ((((a.getD 0 d0).ss).length : Int) > (40 : Int))) = true then
 .ret [.b false]
 else
 (r_strings_IndexAny [.s ((a.getD 0 d0).ss), .s ([101, 69] : List UInt8)]).bindR fun r1 =>
 Out.andThen (if (decide ((r1.getD 0 d0).ii ≥ (0 : Int))) = true then
 if 0 ≤ (r1.getD 0 d0).ii ∧ (r1.getD 0 d0).ii ≤ (((a.getD 0 d0).ss).length : Int) then
 if 0 ≤ (IntKind.i64.wrap ((r1.getD 0 d0).ii + (1 : Int))) ∧ (IntKind.i64.wrap ((r1.getD 0 d0).ii + (1 : Int))) ≤ (((a.getD 0 d0).ss).length : Int) then
 Out.andThen (if (!((((a.getD 0 d0).ss).drop (IntKind.i64.wrap ((r1.getD 0 d0).ii + (1 : Int))).toNat) == ([] : List UInt8))) = true then
 if 0 ≤ (0 : Int) ∧ (0 : Int) < ((((a.getD 0 d0).ss).drop (IntKind.i64.wrap ((r1.getD 0 d0).ii + (1 : Int))).toNat).length : Int) then
 if ((((((a.getD 0 d0).ss).drop (IntKind.i64.wrap ((r1.getD 0 d0).ii + (1 : Int))).toNat).getD (0 : Int).toNat 0).toNat : Int) == (43 : Int)) = true then
 .norm [.s (((a.getD 0 d0).ss).take ((r1.getD 0 d0).ii).toNat), .s (((a.getD 0 d0).ss).drop (IntKind.i64.wrap ((r1.getD 0 d0).ii + (1 : Int))).toNat), .i ((r1.getD 0 d0).ii), .b true]
 else
 if 0 ≤ (0 : Int) ∧ (0 : Int) < ((((a.getD 0 d0).ss).drop (IntKind.i64.wrap ((r1.getD 0 d0).ii + (1 : Int))).toNat).length : Int) then
 .norm [.s (((a.getD 0 d0).ss).take ((r1.getD 0 d0).ii).toNat), .s (((a.getD 0 d0).ss).drop (IntKind.i64.wrap ((r1.getD 0 d0).ii + (1 : Int))).toNat), .i ((r1.getD 0 d0).ii), .b ((((((a.getD 0 d0).ss).drop (IntKind.i64.wrap ((r1.getD 0 d0).ii + (1 : Int))).toNat).getD (0 : Int).toNat 0).toNat : Int) == (45 : Int))]
 else
 .fail
 else
 .fail
 else
 .norm [.s (((a.getD 0 d0).ss).take ((r1.getD 0 d0).ii).toNat), .s (((a.getD 0 d0).ss).drop (IntKind.i64.wrap ((r1.getD 0 d0).ii + (1 : Int))).toNat), .i ((r1.getD 0 d0).ii), .b false]) fun v2 =>
 Out.andThen (if (v2.getD 3 d0).bb = true then
 if 0 ≤ (1 : Int) ∧ (1 : Int) ≤ (((v2.getD 1 d0).ss).length : Int) then
 .norm [.s ((v2.getD 0 d0).ss), .s (((v2.getD 1 d0).ss).drop (1 : Int).toNat), .i ((v2.getD 2 d0).ii)]
 else
 .fail
 else
 .norm [.s ((v2.getD 0 d0).ss), .s ((v2.getD 1 d0).ss), .i ((v2.getD 2 d0).ii)]) fun v3 =>
 (r_impl_figures [.s ((v3.getD 1 d0).ss)]).bindR fun r4 =>
 if (!((r4.getD 0 d0).bb)) = true then
 .ret [.b false]
 else
 .norm [.s ((v3.getD 0 d0).ss), .i ((v3.getD 2 d0).ii)]
 else
 .fail
 else
 .fail
 else
 .norm [.s ((a.getD 0 d0).ss), .i ((r1.getD 0 d0).ii)]) fun v5 =>
 (r_strings_Cut [.s ((v5.getD 0 d0).ss), .s ([46] : List UInt8)]).bindR fun r6 =>
 Out.andThen ((r_impl_IntOk [.s ((r6.getD 0 d0).ss)]).bindR fun r7 =>
 if (r7.getD 0 d0).bb = true then
 if (r6.getD 2 d0).bb = true then
 if (!((r6.getD 2 d0).bb)) = true then
 .norm [.b true]
 else
 (r_impl_figures [.s ((r6.getD 1 d0).ss)]).bindR fun r8 =>
 .norm [.b ((r8.getD 0 d0).bb)]
 else
 if (decide ((v5.getD 1 d0).ii ≥ (0 : Int))) = true then
 if (!((r6.getD 2 d0).bb)) = true then
 .norm [.b true]
 else
 (r_impl_figures [.s ((r6.getD 1 d0).ss)]).bindR fun r9 =>
 .norm [.b ((r9.getD 0 d0).bb)]
 else
 .norm [.b false]
 else
 .norm [.b false]) fun v10 =>
 .ret [.b ((v10.getD 0 d0).bb)]
theorem eq_impl_FloatOk a : r_impl_FloatOk a = E_impl_FloatOk a := (Run_eq cfg 101 _ a).trans (by kernel_rfl)
noncomputable def E_impl_Word (a : List DC) : Out :=
 Out.andThen (if ((a.getD 0 d0).ss == ([116, 114, 117, 101] : List UInt8)) = true then
 .norm [.b true]
 else
 if ((a.getD 0 d0).ss == ([102, 97, 108, 115, 101] : List UInt8)) = true then
 .norm [.b true]
 else
 .norm [.b ((a.getD 0 d0).ss == ([110, 117, 108, 108] : List UInt8))]) fun v1 =>
 .ret [.b ((v1.getD 0 d0).bb)]
theorem eq_impl_Word a : r_impl_Word a = E_impl_Word a := (Run_eq cfg 102 _ a).trans (by kernel_rfl)
noncomputable def E_slices_ContainsFunc_string__impl_valueOk_1 (a : List DC) : Out :=
 (r_slices_IndexFunc_string__impl_valueOk_1 [.sl ((a.getD 0 d0).ll)]).bindR fun r1 =>
 .ret [.b (decide ((r1.getD 0 d0).ii ≥ (0 : Int)))]
theorem eq_slices_ContainsFunc_string__impl_valueOk_1 a : r_slices_ContainsFunc_string__impl_valueOk_1 a = E_slices_ContainsFunc_string__impl_valueOk_1 a := (Run_eq cfg 103 _ a).trans (by kernel_rfl)
noncomputable def E_slices_ContainsFunc_impl_Value__impl_valueOk_2 (a : List DC) : Out :=
 (r_slices_IndexFunc_impl_Value__impl_valueOk_2 [.sl ((a.getD 0 d0).ll), .i ((a.getD 1 d0).ii)]).bindR fun r1 =>
 .ret [.b (decide ((r1.getD 0 d0).ii ≥ (0 : Int))), .i ((r1.getD 1 d0).ii)]
theorem eq_slices_ContainsFunc_impl_Value__impl_valueOk_2 a : r_slices_ContainsFunc_impl_Value__impl_valueOk_2 a = E_slices_ContainsFunc_impl_Value__impl_valueOk_2 a := (Run_eq cfg 105 _ a).trans (by kernel_rfl)
noncomputable def E_strings_TrimPrefix (a : List DC) : Out :=
 (r_internal_stringslite_TrimPrefix [.s ((a.getD 0 d0).ss), .s ((a.getD 1 d0).ss)]).bindR fun r1 =>
 .ret [.s ((r1.getD 0 d0).ss)]
theorem eq_strings_TrimPrefix a : r_strings_TrimPrefix a = E_strings_TrimPrefix a := (Run_eq cfg 120 _ a).trans (by kernel_rfl)
noncomputable def E_impl_figuresL1 : List DC → Out := fun v1 =>
 if (decide ((v1.getD 2 d0).ii < (v1.getD 1 d0).ii)) = true then
 Out.andThenB (if 0 ≤ (v1.getD 2 d0).ii ∧ (v1.getD 2 d0).ii < (((v1.getD 0 d0).ss).length : Int) then
 (r_impl_isFigure [.i ((((v1.getD 0 d0).ss).getD ((v1.getD 2 d0).ii).toNat 0).toNat : Int)]).bindR fun r2 =>
 if (!((r2.getD 0 d0).bb)) = true then
 .ret [.b false]
 else
 .norm [.s ((v1.getD 0 d0).ss), .i ((v1.getD 1 d0).ii), .i ((v1.getD 2 d0).ii)]
 else
 .fail) 1 fun v3 =>
 .norm [.s ((v3.getD 0 d0).ss), .i ((v3.getD 1 d0).ii), .i (IntKind.i64.wrap ((v3.getD 2 d0).ii + (1 : Int)))]
 else
 .ex 0 [.s ((v1.getD 0 d0).ss)]
noncomputable def E_impl_figures (a : List DC) : Out :=
 Out.andThenB (Loop E_impl_figuresL1 [.s ((a.getD 0 d0).ss), .i (((a.getD 0 d0).ss).length : Int), .i (0 : Int)]) 0 fun v4 =>
 .ret [.b (!((v4.getD 0 d0).ss == ([] : List UInt8)))]
theorem eq_impl_figures a : r_impl_figures a = E_impl_figures a := (Run_eq cfg 121 _ a).trans (by kernel_rfl)
noncomputable def E_strings_IndexAny (a : List DC) : Out := match primH [.s, .s] [.i .i64] qIndexAny h_strings_IndexAny a with | some r => .ret r | none => .fail
theorem eq_strings_IndexAny a : r_strings_IndexAny a = E_strings_IndexAny a := (Run_eq cfg 122 h_strings_IndexAny a).trans (by kernel_rfl)
noncomputable def E_strings_Cut (a : List DC) : Out :=
 (r_internal_stringslite_Cut [.s ((a.getD 0 d0).ss), .s ((a.getD 1 d0).ss)]).bindR fun r1 =>
 .ret [.s ((r1.getD 0 d0).ss), .s ((r1.getD 1 d0).ss), .b ((r1.getD 2 d0).bb)]
theorem eq_strings_Cut a : r_strings_Cut a = E_strings_Cut a := (Run_eq cfg 123 _ a).trans (by kernel_rfl)
noncomputable def E_slices_IndexFunc_string__impl_valueOk_1L1 : List DC → Out := fun v1 =>
 if (decide ((v1.getD 2 d0).ii < (v1.getD 1 d0).ii)) = true then
 Out.andThenB (if 9 = 9 ∧ 0 ≤ (v1.getD 2 d0).ii ∧ (v1.getD 2 d0).ii < (((v1.getD 0 d0).ll).length : Int) then
 (r_impl_valueOk_1 [.s (((((v1.getD 0 d0).ll).getD ((v1.getD 2 d0).ii).toNat []).getD 0 d0).ss)]).bindR fun r2 =>
 if (r2.getD 0 d0).bb = true then
 .ret [.i ((v1.getD 2 d0).ii)]
 else
 .norm [.sl ((v1.getD 0 d0).ll), .i ((v1.getD 1 d0).ii), .i ((v1.getD 2 d0).ii)]
 else
 .fail) 1 fun v3 =>
 .norm [.sl ((v3.getD 0 d0).ll), .i ((v3.getD 1 d0).ii), .i (IntKind.i64.wrap ((v3.getD 2 d0).ii + (1 : Int)))]
 else
 .ex 0 []
noncomputable def E_slices_IndexFunc_string__impl_valueOk_1 (a : List DC) : Out :=
 Out.andThenB (Loop E_slices_IndexFunc_string__impl_valueOk_1L1 [.sl ((a.getD 0 d0).ll), .i (((a.getD 0 d0).ll).length : Int), .i (0 : Int)]) 0 fun v4 =>
 .ret [.i (-1 : Int)]
theorem eq_slices_IndexFunc_string__impl_valueOk_1 a : r_slices_IndexFunc_string__impl_valueOk_1 a = E_slices_IndexFunc_string__impl_valueOk_1 a := (Run_eq cfg 124 _ a).trans (by kernel_rfl)
noncomputable def E_slices_IndexFunc_impl_Value__impl_valueOk_2L1 : List DC → Out := fun v1 =>
 if (decide ((v1.getD 2 d0).ii < (v1.getD 1 d0).ii)) = true then
 Out.andThenB (if 78 = 78 ∧ 0 ≤ (v1.getD 2 d0).ii ∧ (v1.getD 2 d0).ii < (((v1.getD 0 d0).ll).length : Int) then
 (r_impl_valueOk_2 [.i (((((v1.getD 0 d0).ll).getD ((v1.getD 2 d0).ii).toNat []).getD 0 d0).ii), .s (((((v1.getD 0 d0).ll).getD ((v1.getD 2 d0).ii).toNat []).getD 1 d0).ss), .sl (((((v1.getD 0 d0).ll).getD ((v1.getD 2 d0).ii).toNat []).getD 2 d0).ll), .sl (((((v1.getD 0 d0).ll).getD ((v1.getD 2 d0).ii).toNat []).getD 3 d0).ll), .i ((v1.getD 3 d0).ii)]).bindR fun r2 =>
 if (r2.getD 0 d0).bb = true then
 .ret [.i ((v1.getD 2 d0).ii), .i ((r2.getD 1 d0).ii)]
 else
 .norm [.sl ((v1.getD 0 d0).ll), .i ((v1.getD 1 d0).ii), .i ((v1.getD 2 d0).ii), .i ((r2.getD 1 d0).ii)]
 else
 .fail) 1 fun v3 =>
 .norm [.sl ((v3.getD 0 d0).ll), .i ((v3.getD 1 d0).ii), .i (IntKind.i64.wrap ((v3.getD 2 d0).ii + (1 : Int))), .i ((v3.getD 3 d0).ii)]
 else
 .ex 0 [.i ((v1.getD 3 d0).ii)]
noncomputable def E_slices_IndexFunc_impl_Value__impl_valueOk_2 (a : List DC) : Out :=
 Out.andThenB (Loop E_slices_IndexFunc_impl_Value__impl_valueOk_2L1 [.sl ((a.getD 0 d0).ll), .i (((a.getD 0 d0).ll).length : Int), .i (0 : Int), .i ((a.getD 1 d0).ii)]) 0 fun v4 =>
 .ret [.i (-1 : Int), .i ((v4.getD 0 d0).ii)]
theorem eq_slices_IndexFunc_impl_Value__impl_valueOk_2 a : r_slices_IndexFunc_impl_Value__impl_valueOk_2 a = E_slices_IndexFunc_impl_Value__impl_valueOk_2 a := (Run_eq cfg 125 _ a).trans (by kernel_rfl)
noncomputable def E_internal_stringslite_TrimPrefix (a : List DC) : Out :=
 (r_internal_stringslite_HasPrefix [.s ((a.getD 0 d0).ss), .s ((a.getD 1 d0).ss)]).bindR fun r1 =>
 if (r1.getD 0 d0).bb = true then
 if 0 ≤ (((a.getD 1 d0).ss).length : Int) ∧ (((a.getD 1 d0).ss).length : Int) ≤ (((a.getD 0 d0).ss).length : Int) then
 .ret [.s (((a.getD 0 d0).ss).drop (((a.getD 1 d0).ss).length : Int).toNat)]
 else
 .fail
 else
 .ret [.s ((a.getD 0 d0).ss)]
theorem eq_internal_stringslite_TrimPrefix a : r_internal_stringslite_TrimPrefix a = E_internal_stringslite_TrimPrefix a := (Run_eq cfg 131 _ a).trans (by kernel_rfl)
noncomputable def E_internal_stringslite_Cut (a : List DC) : Out := match primH [.s, .s] [.s, .s, .b] qCut h_internal_stringslite_Cut a with | some r => .ret r | none => .fail
theorem eq_internal_stringslite_Cut a : r_internal_stringslite_Cut a = E_internal_stringslite_Cut a := (Run_eq cfg 136 h_internal_stringslite_Cut a).trans (by kernel_rfl)
noncomputable def E_impl_valueOk_1 (a : List DC) : Out :=
 (r_impl_NameOk [.s ((a.getD 0 d0).ss)]).bindR fun r1 =>
 .ret [.b (!((r1.getD 0 d0).bb))]
theorem eq_impl_valueOk_1 a : r_impl_valueOk_1 a = E_impl_valueOk_1 a := (Run_eq cfg 104 _ a).trans (by kernel_rfl)
noncomputable def E_impl_valueOk_2 (a : List DC) : Out :=
 (r_impl_valueOk [.i ((a.getD 0 d0).ii), .s ((a.getD 1 d0).ss), .sl ((a.getD 2 d0).ll), .sl ((a.getD 3 d0).ll), .i (IntKind.i64.wrap ((a.getD 4 d0).ii - (1 : Int)))]).bindR fun r1 =>
 .ret [.b (!((r1.getD 0 d0).bb)), .i ((a.getD 4 d0).ii)]
theorem eq_impl_valueOk_2 a : r_impl_valueOk_2 a = E_impl_valueOk_2 a := (Run_eq cfg 106 _ a).trans (by kernel_rfl)
noncomputable def E_internal_stringslite_HasPrefix (a : List DC) : Out :=
 Out.andThen (if (decide ((((a.getD 0 d0).ss).length : Int) ≥ (((a.getD 1 d0).ss).length : Int))) = true then
 if 0 ≤ (((a.getD 1 d0).ss).length : Int) ∧ (((a.getD 1 d0).ss).length : Int) ≤ (((a.getD 0 d0).ss).length : Int) then
 .norm [.b ((((a.getD 0 d0).ss).take (((a.getD 1 d0).ss).length : Int).toNat) == (a.getD 1 d0).ss)]
 else
 .fail
 else
 .norm [.b false]) fun v1 =>
 .ret [.b ((v1.getD 0 d0).bb)]
theorem eq_internal_stringslite_HasPrefix a : r_internal_stringslite_HasPrefix a = E_internal_stringslite_HasPrefix a := (Run_eq cfg 113 _ a).trans (by kernel_rfl)
set_option linter.unusedSimpArgs false
theorem u8_eq (x : UInt8) (n : Nat) (hn : n < 256) : ((x.toNat : Int) == (n : Int)) = (x == UInt8.ofNat n) := by
  rw [Bool.eq_iff_iff, beq_iff_eq, beq_iff_eq, ← UInt8.toNat_inj]
  simp only [UInt8.toNat_ofNat', Nat.mod_eq_of_lt hn]
  omega
def isFig (b : UInt8) : Bool := decide (48 ≤ b.toNat) && decide (b.toNat ≤ 57)
def tw (l : List UInt8) : Nat := (l.takeWhile isFig).length
theorem tw_le (l : List UInt8) : tw l ≤ l.length := by
  have := (List.takeWhile_prefix isFig (l := l)).length_le
  exact this
theorem spec_l03Figure (b : UInt8) : r_spec_l03Figure [.i (b.toNat : Int)] = .ret [.b (isFig b)] := by
  rw [eq_spec_l03Figure]
  simp only [E_spec_l03Figure, List.getD_cons_zero, List.getD_cons_succ, DC.bb_b, DC.ii_i, isFig]
  by_cases h : 48 ≤ b.toNat
  · have h1 : (b.toNat : Int) ≥ 48 := by omega
    simp [h, h1]
    omega
  · have h1 : ¬ (b.toNat : Int) ≥ 48 := by omega
    simp [h, h1]
theorem impl_isFigure (b : UInt8) : r_impl_isFigure [.i (b.toNat : Int)] = .ret [.b (isFig b)] := by
  rw [eq_impl_isFigure]
  simp only [E_impl_isFigure, List.getD_cons_zero, List.getD_cons_succ, DC.bb_b, DC.ii_i, isFig]
  by_cases h : 48 ≤ b.toNat
  · have h1 : (b.toNat : Int) ≥ 48 := by omega
    simp [h, h1]
    omega
  · have h1 : ¬ (b.toNat : Int) ≥ 48 := by omega
    simp [h, h1]
theorem goF_run (f : UInt8 → Bool) : ∀ (l : List UInt8) (i : Nat), goF (fun x => !f x) (fun i _ => .ex 0 [.i (i : Int)]) (.ex 0 [.i ((i + l.length : Nat) : Int)]) i l = .ex 0 [.i ((i + (l.takeWhile f).length : Nat) : Int)]
  | [], i => rfl
  | x :: l, i => by
    rw [goF]
    cases h : f x with
    | false => simp [h]
    | true =>
      have := goF_run f l (i + 1)
      simp only [List.length_cons, List.takeWhile_cons, h, if_true, Bool.not_true, Bool.false_eq_true, if_false]
      rw [show i + (l.length + 1) = i + 1 + l.length by omega, this]
      congr 4
      omega
theorem spec_l03Run (s : List UInt8) (i : Nat) (hi : i ≤ s.length) (hs : s.length ≤ 1048576) : r_spec_l03Run [.s s, .i (i : Int)] = .ret [.i ((i + tw (s.drop i) : Nat) : Int)] := by
  rw [eq_spec_l03Run]
  simp only [E_spec_l03Run, List.getD_cons_zero, List.getD_cons_succ, DC.bb_b, DC.ii_i, DC.ss_s]
  have := Loop_find (l := s) (st := fun i => [.s s, .i (i : Int)]) (p := fun x => !isFig x) (stop := fun i _ => .ex 0 [.i (i : Int)]) (fin := .ex 0 [.i (s.length : Int)]) (F := E_spec_l03RunL1) (fun i hi => ?step) (fun _ _ => Out.esc_ex _ _) ?fin (Out.esc_ex _ _) (s.length - i) i (by omega)
  · have e : ((s.length : Nat) : Int) = ((i + (s.drop i).length : Nat) : Int) := by rw [List.length_drop]; omega
    rw [e, goF_run isFig (s.drop i) i] at this
    rw [this]
    rfl
  case step =>
    have hg : s.getD i 0 = s[i] := by rw [List.getD_eq_getElem?_getD, List.getElem?_eq_getElem hi]; rfl
    simp only [E_spec_l03RunL1, List.getD_cons_zero, List.getD_cons_succ, DC.bb_b, DC.ii_i, DC.ss_s, Int.toNat_natCast, hg, spec_l03Figure]
    cases hf : isFig s[i] <;> simp [hi, hf, wrap_succ hi (show s.length ≤ 9223372036854775807 by omega)]
  case fin => simp [E_spec_l03RunL1]
def sgn (s : List UInt8) : Nat := if s.head? = some 45 then 1 else 0
theorem sgn_le (s : List UInt8) : sgn s ≤ s.length := by
  unfold sgn
  split
  · rename_i h
    cases s with
    | nil => simp at h
    | cons _ _ => simp
  · omega
def intLen (s : List UInt8) : Nat := if tw (s.drop (sgn s)) = 0 then 0 else if s.getD (sgn s) 0 = 48 ∧ 1 < tw (s.drop (sgn s)) then 0 else sgn s + tw (s.drop (sgn s))
theorem spec_l03Int (s : List UInt8) (hs : s.length ≤ 1048576) : r_spec_l03Int [.s s] = .ret [.i (intLen s : Int)] := by
  rw [eq_spec_l03Int]
  cases s with
  | nil =>
    have hr : r_spec_l03Run [.s [], .i 0] = .ret [.i 0] := spec_l03Run [] 0 (by simp) (by simp)
    simp [E_spec_l03Int, hr, intLen, sgn, tw]
  | cons a l =>
    have hpos : decide (((a :: l).length : Int) > 0) = true := by simp
    have hpos' : 0 ≤ (0 : Int) ∧ (0 : Int) < ((a :: l).length : Int) := by simp
    have h0 : (a :: l).getD (0 : Int).toNat 0 = a := rfl
    by_cases h : a = 45
    · subst h
      have hsg : sgn (45 :: l) = 1 := rfl
      have hr : r_spec_l03Run [.s (45 :: l), .i 1] = .ret [.i ((1 + tw l : Nat) : Int)] := spec_l03Run (45 :: l) 1 (by simp) hs
      have h45 : (((45 : UInt8).toNat : Int) == 45) = true := rfl
      simp only [E_spec_l03Int, List.getD_cons_zero, List.getD_cons_succ, DC.bb_b, DC.ii_i, DC.ss_s, hpos, hpos', if_true, and_self, decide_true, h0, h45, Out.andThen_norm, hr, Out.bindR_ret]
      have hil : intLen (45 :: l) = if tw l = 0 then 0 else if l.getD 0 0 = 48 ∧ 1 < tw l then 0 else 1 + tw l := rfl
      have hle := tw_le l
      rw [hil]
      rcases Nat.eq_zero_or_pos (tw l) with ht | ht
      · simp [ht]
      · have hl : l ≠ [] := by
          intro e
          rw [e] at ht
          simp [tw] at ht
        have e1 : (((1 + tw l : Nat) : Int) == 1) = false := beq_eq_false_iff_ne.2 (by omega)
        have hlen : 0 < l.length := by omega
        have e2 : 0 ≤ (1 : Int) ∧ (1 : Int) < ((45 :: l).length : Int) := by rw [List.length_cons]; omega
        have e3 : (45 :: l).getD (1 : Int).toNat 0 = l.getD 0 0 := rfl
        have e4 := u8_eq (l.getD 0 0) 48 (by omega)
        have e4' : (((l.getD 0 0).toNat : Int) == 48) = (l.getD 0 0 == 48) := e4
        have e5 : IntKind.i64.wrap ((1 : Int) + 1) = 2 := by decide
        simp only [e1, e2, e3, e4', e5, Bool.false_eq_true, if_false, if_true, and_self, show ¬ tw l = 0 by omega]
        by_cases h48 : l.getD 0 0 = 48
        · have e6 : (l.getD 0 0 == 48) = true := beq_iff_eq.2 h48
          by_cases h1 : 1 < tw l
          · have e7 : decide (((1 + tw l : Nat) : Int) > 2) = true := decide_eq_true (by omega)
            simp only [e6, e7, h48, h1, beq_self_eq_true, if_true, Out.andThen_norm, List.getD_cons_zero, List.getD_cons_succ, DC.bb_b, DC.ii_i, and_self]
            rfl
          · have e7 : decide (((1 + tw l : Nat) : Int) > 2) = false := decide_eq_false (by omega)
            simp only [e6, e7, h48, h1, beq_self_eq_true, if_true, Out.andThen_norm, List.getD_cons_zero, List.getD_cons_succ, DC.bb_b, DC.ii_i, Bool.false_eq_true, if_false, and_false]
        · have e6 : (l.getD 0 0 == 48) = false := beq_eq_false_iff_ne.2 h48
          simp only [e6, h48, if_true, Out.andThen_norm, List.getD_cons_zero, List.getD_cons_succ, DC.bb_b, DC.ii_i, Bool.false_eq_true, if_false, false_and]
    · have hsg : sgn (a :: l) = 0 := by simp [sgn, h]
      have hr : r_spec_l03Run [.s (a :: l), .i 0] = .ret [.i ((tw (a :: l) : Nat) : Int)] := by
        have := spec_l03Run (a :: l) 0 (by simp) hs
        simpa using this
      have h45 : ((a.toNat : Int) == 45) = false := (u8_eq a 45 (by omega)).trans (beq_eq_false_iff_ne.2 h)
      simp only [E_spec_l03Int, List.getD_cons_zero, List.getD_cons_succ, DC.bb_b, DC.ii_i, DC.ss_s, hpos, hpos', if_true, and_self, decide_true, h0, h45, Out.andThen_norm, hr, Out.bindR_ret, Bool.false_eq_true, if_false]
      have hil : intLen (a :: l) = if tw (a :: l) = 0 then 0 else if a = 48 ∧ 1 < tw (a :: l) then 0 else tw (a :: l) := by
        unfold intLen
        rw [hsg]
        simp only [List.drop_zero, Nat.zero_add]
        rfl
      rw [hil]
      generalize tw (a :: l) = n
      rcases Nat.eq_zero_or_pos n with ht | ht
      · simp [ht]
      · have e1 : ((n : Int) == 0) = false := beq_eq_false_iff_ne.2 (by omega)
        have e4' : ((a.toNat : Int) == 48) = (a == 48) := u8_eq a 48 (by omega)
        have e5 : IntKind.i64.wrap ((0 : Int) + 1) = 1 := by decide
        simp only [e1, e4', e5, Bool.false_eq_true, if_false, if_true, show ¬ n = 0 by omega]
        by_cases h48 : a = 48
        · have e6 : (a == 48) = true := beq_iff_eq.2 h48
          by_cases h1 : 1 < n
          · have e7 : decide ((n : Int) > 1) = true := decide_eq_true (by omega)
            simp only [e6, e7, h48, h1, beq_self_eq_true, if_true, Out.andThen_norm, List.getD_cons_zero, List.getD_cons_succ, DC.bb_b, DC.ii_i, and_self]
            rfl
          · have e7 : decide ((n : Int) > 1) = false := decide_eq_false (by omega)
            simp only [e6, e7, h48, h1, beq_self_eq_true, if_true, Out.andThen_norm, List.getD_cons_zero, List.getD_cons_succ, DC.bb_b, DC.ii_i, Bool.false_eq_true, if_false, and_false]
        · have e6 : (a == 48) = false := beq_eq_false_iff_ne.2 h48
          simp only [e6, h48, if_true, Out.andThen_norm, List.getD_cons_zero, List.getD_cons_succ, DC.bb_b, DC.ii_i, Bool.false_eq_true, if_false, false_and]
def intOk (s : List UInt8) : Bool := decide (s.length ≤ 40) && (decide (0 < s.length) && (intLen s == s.length))
theorem spec_IntOk (s : List UInt8) (hs : s.length ≤ 1048576) : r_spec_IntOk [.s s] = .ret [.b (intOk s)] := by
  rw [eq_spec_IntOk]
  simp only [E_spec_IntOk, List.getD_cons_zero, List.getD_cons_succ, DC.bb_b, DC.ii_i, DC.ss_s, spec_l03Int s hs, Out.bindR_ret, intOk]
  by_cases h1 : s.length ≤ 40
  · have e1 : decide ((s.length : Int) ≤ 40) = true := decide_eq_true (by omega)
    by_cases h2 : 0 < s.length
    · have e2 : decide ((s.length : Int) > 0) = true := decide_eq_true (by omega)
      have e3 : ((intLen s : Int) == (s.length : Int)) = (intLen s == s.length) := by
        rw [Bool.eq_iff_iff, beq_iff_eq, beq_iff_eq]; omega
      simp only [e1, e2, e3, h1, h2, decide_true, Bool.true_and, if_true, Out.andThen_norm, List.getD_cons_zero, DC.bb_b]
    · have e2 : decide ((s.length : Int) > 0) = false := decide_eq_false (by omega)
      simp only [e1, e2, h1, h2, decide_true, decide_false, Bool.true_and, Bool.false_and, if_true, if_false, Bool.false_eq_true, Out.andThen_norm, List.getD_cons_zero, DC.bb_b]
  · have e1 : decide ((s.length : Int) ≤ 40) = false := decide_eq_false (by omega)
    simp only [e1, h1, decide_false, Bool.false_and, if_false, Bool.false_eq_true, Out.andThen_norm, List.getD_cons_zero, DC.bb_b]
def figs (l : List UInt8) : Bool := !(l == []) && l.all isFig
theorem impl_figures (s : List UInt8) (hs : s.length ≤ 1048576) : r_impl_figures [.s s] = .ret [.b (figs s)] := by
  rw [eq_impl_figures]
  simp only [E_impl_figures, List.getD_cons_zero, List.getD_cons_succ, DC.bb_b, DC.ii_i, DC.ss_s]
  rw [show (0 : Int) = ((0 : Nat) : Int) from rfl, Loop_find0 (l := s) (st := fun i => [.s s, .i (s.length : Int), .i (i : Int)]) (p := fun x => !isFig x) (stop := fun i _ => .ret [.b false]) (fin := .ex 0 [.s s]) (fun i hi => ?step) (fun _ _ => Out.esc_ret _) ?fin (Out.esc_ex _ _), goF_any]
  · unfold figs
    cases h : s.any fun x => !isFig x with
    | true =>
      have : s.all isFig = false := by
        rw [List.any_eq_true] at h
        obtain ⟨x, hx, h⟩ := h
        rw [List.all_eq_false]
        exact ⟨x, hx, by simpa using h⟩
      simp [this]
    | false =>
      have : s.all isFig = true := by
        rw [List.any_eq_false] at h
        rw [List.all_eq_true]
        intro x hx
        simpa using h x hx
      simp [this]
  case step =>
    have hg : s.getD i 0 = s[i] := by rw [List.getD_eq_getElem?_getD, List.getElem?_eq_getElem hi]; rfl
    simp only [E_impl_figuresL1, List.getD_cons_zero, List.getD_cons_succ, DC.bb_b, DC.ii_i, DC.ss_s, Int.toNat_natCast, hg, impl_isFigure]
    cases hf : isFig s[i] <;> simp [hi, hf, wrap_succ hi (show s.length ≤ 9223372036854775807 by omega)]
  case fin => simp [E_impl_figuresL1]
theorem takeWhile_all {f : UInt8 → Bool} : ∀ {l : List UInt8}, (l.takeWhile f).length = l.length ↔ l.all f = true
  | [] => by simp
  | x :: l => by
    have ih := takeWhile_all (f := f) (l := l)
    rw [List.takeWhile_cons, List.all_cons]
    cases f x <;> simp [ih]
theorem strings_TrimPrefix_sgn (s : List UInt8) : r_strings_TrimPrefix [.s s, .s [45]] = .ret [.s (s.drop (sgn s))] := by
  rw [eq_strings_TrimPrefix]
  simp only [E_strings_TrimPrefix, List.getD_cons_zero, List.getD_cons_succ, DC.ss_s]
  rw [eq_internal_stringslite_TrimPrefix]
  simp only [E_internal_stringslite_TrimPrefix, List.getD_cons_zero, List.getD_cons_succ, DC.ss_s]
  have h : r_internal_stringslite_HasPrefix [.s s, .s [45]] = .ret [.b (decide (sgn s = 1))] := by
    rw [eq_internal_stringslite_HasPrefix]
    simp only [E_internal_stringslite_HasPrefix, List.getD_cons_zero, List.getD_cons_succ, DC.ss_s]
    cases s with
    | nil => simp [sgn]
    | cons a l =>
      by_cases h : a = 45
      · subst h
        have hl : (1 : Int) ≤ (l.length : Int) + 1 := by omega
        simp [sgn, hl]
      · have hl : (1 : Int) ≤ (l.length : Int) + 1 := by omega
        simp [sgn, h, hl]
  rw [h]
  unfold sgn
  cases s with
  | nil => simp
  | cons a l =>
    by_cases h : a = 45
    · subst h
      have hl : (1 : Int) ≤ (l.length : Int) + 1 := by omega
      simp [hl]
    · simp [h]
theorem intOk_eq (s : List UInt8) : intOk s = (decide (s.length ≤ 40) && (figs (s.drop (sgn s)) && (s.drop (sgn s) == [48] || !((s.drop (sgn s)).getD 0 0 == 48)))) := by
  unfold intOk
  congr 1
  have hle := sgn_le s
  have hlen : (s.drop (sgn s)).length = s.length - sgn s := List.length_drop
  have hg : s.getD (sgn s) 0 = (s.drop (sgn s)).getD 0 0 := by simp [List.getD_eq_getElem?_getD, List.getElem?_drop]
  have hall := takeWhile_all (f := isFig) (l := s.drop (sgn s))
  unfold intLen tw figs
  rw [hg]
  generalize s.drop (sgn s) = d at *
  have htl := (List.takeWhile_prefix isFig (l := d)).length_le
  generalize (d.takeWhile isFig).length = n at *
  rw [Bool.eq_iff_iff]
  simp only [Bool.and_eq_true, Bool.or_eq_true, decide_eq_true_eq, beq_iff_eq, Bool.not_eq_true', beq_eq_false_iff_ne, ne_eq]
  rw [← hall]
  cases d with
  | nil =>
    have : n = 0 := by simpa using htl
    subst this
    simp
    omega
  | cons a l =>
    simp only [List.length_cons] at hlen htl hall
    by_cases h0 : n = 0
    · simp [h0]; omega
    · by_cases h48 : a = 48
      · subst h48
        cases l with
        | nil =>
          have h1 : ¬ 1 < n := by simp at htl; omega
          simp only [List.length_cons, List.length_nil] at *
          simp [h0, h1]
          omega
        | cons b l =>
          simp only [List.length_cons] at *
          by_cases h1 : 1 < n
          · simp [h0, h1]
            omega
          · simp [h0, h1]
            omega
      · simp [h0, h48]; omega
theorem impl_IntOk (s : List UInt8) (hs : s.length ≤ 1048576) : r_impl_IntOk [.s s] = .ret [.b (intOk s)] := by
  rw [eq_impl_IntOk, intOk_eq]
  have hd : (s.drop (sgn s)).length ≤ 1048576 := by rw [List.length_drop]; omega
  simp only [E_impl_IntOk, List.getD_cons_zero, List.getD_cons_succ, DC.bb_b, DC.ii_i, DC.ss_s, strings_TrimPrefix_sgn, Out.bindR_ret, impl_figures _ hd]
  generalize s.drop (sgn s) = d
  by_cases h1 : s.length ≤ 40
  · have e1 : decide ((s.length : Int) ≤ 40) = true := decide_eq_true (by omega)
    cases hf : figs d with
    | false => simp [e1, h1, hf]
    | true =>
      cases d with
      | nil => simp [figs] at hf
      | cons a l =>
        have e3 : ((a.toNat : Int) != 48) = !(a == 48) := congrArg (!·) (u8_eq a 48 (by omega))
        have e4 : 0 ≤ (0 : Int) ∧ (0 : Int) < ((a :: l).length : Int) := by simp
        have e5 : (a :: l).getD (0 : Int).toNat 0 = a := rfl
        have e6 : (a :: l).getD 0 0 = a := rfl
        cases hb : ((a :: l) == [48]) <;> simp only [e1, h1, hf, e4, e5, e6, hb, e3, decide_true, if_true, if_false, Bool.false_eq_true, and_self, Out.andThen_norm, List.getD_cons_zero, DC.bb_b, Bool.true_and, Bool.true_or, Bool.false_or]
  · have e1 : decide ((s.length : Int) ≤ 40) = false := decide_eq_false (by omega)
    simp [e1, h1]
def isE (b : UInt8) : Bool := b == 101 || b == 69
def sg2 (p : List UInt8) : Nat := if p.head? = some 43 ∨ p.head? = some 45 then 1 else 0
def expOk : List UInt8 → Bool
  | [] => true
  | c :: r => isE c && figs (r.drop (sg2 r))
def pointOk : List UInt8 → Bool
  | [] => true
  | c :: r => if c = 46 then !(tw r == 0) && expOk (r.dropWhile isFig) else expOk (c :: r)
def floatS (s : List UInt8) : Bool := decide (s.length ≤ 40) && (!(intLen s == 0) && (!(intLen s == s.length) && pointOk (s.drop (intLen s))))
theorem drop_tw (l : List UInt8) : l.drop (tw l) = l.dropWhile isFig := by
  unfold tw
  induction l with
  | nil => rfl
  | cons x l ih =>
    rw [List.takeWhile_cons, List.dropWhile_cons]
    cases isFig x <;> simp [ih]
theorem andThen_split {o : Out} {K : List DC → Out} {R : Out} (n : Nat) (st : Nat → List DC) (g : Nat → Out) (hK : ∀ i, i ≤ n → K (st i) = g i)
    (ho : (∃ i, i ≤ n ∧ o = .norm (st i) ∧ R = g i) ∨ ∃ v, o = .ret v ∧ R = .ret v) : o.andThen K = R := by
  rcases ho with ⟨i, h1, rfl, rfl⟩ | ⟨v, rfl, rfl⟩
  · exact hK i h1
  · rfl
theorem figs_tw (p : List UInt8) : figs p = (!(tw p == 0) && tw p == p.length) := by
  unfold figs
  have h := takeWhile_all (f := isFig) (l := p)
  have e : (tw p == p.length) = p.all isFig := by
    rw [Bool.eq_iff_iff, beq_iff_eq]; exact h
  rw [e]
  cases p with
  | nil => rfl
  | cons a l =>
    cases ha : (a :: l).all isFig with
    | false => simp
    | true =>
      have := h.2 ha
      have : tw (a :: l) = l.length + 1 := this
      simp [this]
theorem intLen_le (s : List UInt8) : intLen s ≤ s.length := by
  have h1 := sgn_le s
  have h2 := tw_le (s.drop (sgn s))
  rw [List.length_drop] at h2
  unfold intLen
  split
  · omega
  · split <;> omega
theorem drop_cons {s : List UInt8} {i : Nat} {c : UInt8} {r : List UInt8} (h : s.drop i = c :: r) : i < s.length ∧ s.getD i 0 = c ∧ s.drop (i + 1) = r := by
  have hl : i < s.length := by
    rcases Nat.lt_or_ge i s.length with h' | h'
    · exact h'
    · rw [List.drop_eq_nil_of_le h'] at h; cases h
  rw [List.drop_eq_getElem_cons hl] at h
  injection h with h1 h2
  exact ⟨hl, by rw [List.getD_eq_getElem?_getD, List.getElem?_eq_getElem hl]; exact h1, h2⟩
theorem spec_FloatOk (s : List UInt8) (hs : s.length ≤ 1048576) : r_spec_FloatOk [.s s] = .ret [.b (floatS s)] := by
  rw [eq_spec_FloatOk]
  simp only [E_spec_FloatOk, List.getD_cons_zero, List.getD_cons_succ, DC.bb_b, DC.ii_i, DC.ss_s, spec_l03Int s hs, Out.bindR_ret, floatS]
  have hle := intLen_le s
  generalize intLen s = n at *
  rcases Nat.lt_or_ge 40 s.length with h40 | h40
  · have h40' : ¬ s.length ≤ 40 := by omega
    have e1 : decide ((s.length : Int) > 40) = true := decide_eq_true (by omega)
    simp [e1, h40']
  have e1 : decide ((s.length : Int) > 40) = false := decide_eq_false (by omega)
  by_cases h0 : n = 0
  · subst h0; simp [e1, h40]
  by_cases hn : n = s.length
  · have e2 : ((n : Int) == 0) = false := beq_eq_false_iff_ne.2 (by omega)
    have e3 : ((n : Int) == (s.length : Int)) = true := beq_iff_eq.2 (by omega)
    have e4 : (n == s.length) = true := beq_iff_eq.2 hn
    simp only [e1, e2, e3, e4, Bool.false_eq_true, if_false, if_true, Out.andThen_norm, List.getD_cons_zero, List.getD_cons_succ, DC.bb_b, beq_self_eq_true, Bool.not_true, Bool.false_and, Bool.and_false]
  have e2 : ((n : Int) == 0) = false := beq_eq_false_iff_ne.2 (by omega)
  have e3 : ((n : Int) == (s.length : Int)) = false := beq_eq_false_iff_ne.2 (by omega)
  have e4 : 0 ≤ (n : Int) ∧ (n : Int) < (s.length : Int) := by omega
  have e5 : (n == 0) = false := beq_eq_false_iff_ne.2 h0
  have e6 : (n == s.length) = false := beq_eq_false_iff_ne.2 hn
  simp only [e1, e2, e3, e4, e5, e6, h40, Bool.false_eq_true, if_false, if_true, Out.andThen_norm, List.getD_cons_zero, List.getD_cons_succ, DC.bb_b, DC.ii_i, DC.ss_s, and_self, Int.toNat_natCast, decide_true, Bool.not_false, Bool.true_and]
  refine andThen_split s.length (fun i => [.s s, .i (i : Int)]) (fun i => .ret [.b (expOk (s.drop i))]) (fun i hi => ?hK) ?ho
  case ho =>
    cases hd : s.drop n with
    | nil => have := List.length_drop (l := s) (i := n); rw [hd] at this; simp at this; omega
    | cons c r =>
      obtain ⟨hl, hg, hr⟩ := drop_cons hd
      rw [hg, wrap_succ hl (by omega)]
      have hc : ((c.toNat : Int) == 46) = (c == 46) := u8_eq c 46 (by omega)
      rw [hc, pointOk]
      by_cases h46 : c = 46
      · subst h46
        rw [spec_l03Run s (n + 1) (by omega) hs, hr]
        simp only [Out.bindR_ret, List.getD_cons_zero, DC.ii_i, beq_self_eq_true, if_true]
        by_cases ht : tw r = 0
        · right
          exact ⟨[.b false], by simp only [ht, Nat.add_zero, beq_self_eq_true, if_true], by simp [ht]⟩
        · left
          have e : (((n + 1 + tw r : Nat) : Int) == ((n + 1 : Nat) : Int)) = false := beq_eq_false_iff_ne.2 (by omega)
          have hle2 := tw_le r
          have hrl : r.length = s.length - (n + 1) := by rw [← hr, List.length_drop]
          refine ⟨n + 1 + tw r, by omega, by rw [e]; rfl, ?_⟩
          rw [← List.drop_drop, hr, drop_tw]
          simp [ht]
      · have e : (c == 46) = false := beq_eq_false_iff_ne.2 h46
        left
        refine ⟨n, by omega, by rw [e]; rfl, ?_⟩
        rw [hd, if_neg h46]
  case hK =>
    have fin : ∀ (k : Nat) (p : List UInt8), k ≤ s.length → s.drop k = p → Out.andThen ((r_spec_l03Run [.s s, .i (k : Int)]).bindR fun r8 => if ((r8.getD 0 d0).ii == (k : Int)) = true then .ret [.b false] else .norm [.s s, .i ((r8.getD 0 d0).ii)])
        (fun v9 => .ret [.b ((v9.getD 1 d0).ii == (((v9.getD 0 d0).ss).length : Int))]) = .ret [.b (figs p)] := by
      intro k p hk hp
      rw [spec_l03Run s k hk hs, hp, figs_tw]
      have hpl : p.length = s.length - k := by rw [← hp, List.length_drop]
      simp only [Out.bindR_ret, List.getD_cons_zero, DC.ii_i]
      by_cases ht : tw p = 0
      · simp [ht]
      · have e : (((k + tw p : Nat) : Int) == (k : Int)) = false := beq_eq_false_iff_ne.2 (by omega)
        have e2 : (((k + tw p : Nat) : Int) == (s.length : Int)) = (tw p == p.length) := by
          rw [Bool.eq_iff_iff, beq_iff_eq, beq_iff_eq]; omega
        have e3 : (tw p == 0) = false := beq_eq_false_iff_ne.2 ht
        simp only [e, e2, e3, Bool.false_eq_true, if_false, Out.andThen_norm, List.getD_cons_zero, List.getD_cons_succ, DC.ii_i, DC.ss_s, Bool.not_false, Bool.true_and]
    cases hd : s.drop i with
    | nil =>
      have hge := List.drop_eq_nil_iff.1 hd
      have e1 : decide ((i : Int) < (s.length : Int)) = false := decide_eq_false (by omega)
      have e2 : ((i : Int) == (s.length : Int)) = true := beq_iff_eq.2 (by omega)
      simp only [List.getD_cons_zero, List.getD_cons_succ, DC.bb_b, DC.ii_i, DC.ss_s, e1, Bool.false_eq_true, if_false, Out.andThen_norm, e2, expOk]
    | cons c r =>
      obtain ⟨hl, hg, hr⟩ := drop_cons hd
      have e1 : decide ((i : Int) < (s.length : Int)) = true := decide_eq_true (by omega)
      have e2 : 0 ≤ (i : Int) ∧ (i : Int) < (s.length : Int) := by omega
      have c1 : ((c.toNat : Int) == 101) = (c == 101) := u8_eq c 101 (by omega)
      have c2 : ((c.toNat : Int) == 69) = (c == 69) := u8_eq c 69 (by omega)
      have w1 := wrap_succ hl (show s.length ≤ 9223372036854775807 by omega)
      have first : ∀ K : List DC → Out, Out.andThen (if (c == 101) = true then .norm [.s s, .i (i : Int), .b true] else .norm [.s s, .i (i : Int), .b (c == 69)]) K = K [.s s, .i (i : Int), .b (isE c)] := by
        intro K
        unfold isE
        cases hc : (c == 101) <;> simp
      simp only [List.getD_cons_zero, List.getD_cons_succ, DC.bb_b, DC.ii_i, DC.ss_s, e1, e2, if_true, and_self, decide_true, Int.toNat_natCast, hg, c1, c2, first, expOk]
      cases hE : isE c with
      | false =>
        have e3 : ((i : Int) == (s.length : Int)) = false := beq_eq_false_iff_ne.2 (by omega)
        simp only [Bool.false_eq_true, if_false, Out.andThen_norm, List.getD_cons_zero, List.getD_cons_succ, DC.bb_b, DC.ii_i, DC.ss_s, e3, Bool.false_and]
      | true =>
        simp only [if_true, w1, Bool.true_and]
        cases r with
        | nil =>
          have hge := List.drop_eq_nil_iff.1 hr
          have e3 : decide (((i + 1 : Nat) : Int) < (s.length : Int)) = false := decide_eq_false (by omega)
          have := fin (i + 1) [] (by omega) hr
          simp only [e3, Bool.false_eq_true, if_false, Out.andThen_norm, List.getD_cons_zero, List.getD_cons_succ, DC.bb_b, DC.ii_i, DC.ss_s]
          exact this
        | cons d q =>
          obtain ⟨hl2, hg2, hr2⟩ := drop_cons hr
          have e3 : decide (((i + 1 : Nat) : Int) < (s.length : Int)) = true := decide_eq_true (by omega)
          have e4 : 0 ≤ ((i + 1 : Nat) : Int) ∧ ((i + 1 : Nat) : Int) < (s.length : Int) := by omega
          have w2 := wrap_succ hl2 (show s.length ≤ 9223372036854775807 by omega)
          have d1 : ((d.toNat : Int) == 43) = (d == 43) := u8_eq d 43 (by omega)
          have d2 : ((d.toNat : Int) == 45) = (d == 45) := u8_eq d 45 (by omega)
          have second : ∀ K : List DC → Out, Out.andThen (if (d == 43) = true then .norm [.s s, .i ((i + 1 : Nat) : Int), .b true] else .norm [.s s, .i ((i + 1 : Nat) : Int), .b (d == 45)]) K = K [.s s, .i ((i + 1 : Nat) : Int), .b (d == 43 || d == 45)] := by
            intro K
            cases hc : (d == 43) <;> simp
          simp only [e3, e4, if_true, and_self, decide_true, Int.toNat_natCast, hg2, d1, d2, second, List.getD_cons_zero, List.getD_cons_succ, DC.bb_b, DC.ii_i, DC.ss_s, w2]
          cases hs2 : (d == 43 || d == 45) with
          | true =>
            have hsg : sg2 (d :: q) = 1 := by
              unfold sg2
              rw [Bool.or_eq_true, beq_iff_eq, beq_iff_eq] at hs2
              simp [hs2]
            have := fin (i + 1 + 1) q (by omega) hr2
            simp only [if_true, Out.andThen_norm, List.getD_cons_zero, List.getD_cons_succ, DC.bb_b, DC.ii_i, DC.ss_s, hsg, List.drop_succ_cons, List.drop_zero]
            exact this
          | false =>
            have hsg : sg2 (d :: q) = 0 := by
              unfold sg2
              rw [Bool.or_eq_false_iff, beq_eq_false_iff_ne, beq_eq_false_iff_ne] at hs2
              simp [hs2]
            have := fin (i + 1) (d :: q) (by omega) hr
            simp only [Bool.false_eq_true, if_false, Out.andThen_norm, List.getD_cons_zero, List.getD_cons_succ, DC.bb_b, DC.ii_i, DC.ss_s, hsg, List.drop_zero]
            exact this
def notE (b : UInt8) : Bool := !isE b
def notP (b : UInt8) : Bool := !(b == 46)
theorem indexAny_eE : ∀ s : List UInt8, Lib.indexAny s [101, 69] = if s.dropWhile notE = [] then -1 else ((s.takeWhile notE).length : Int)
  | [] => rfl
  | x :: l => by
    have ih := indexAny_eE l
    have hc : [101, 69].contains x = isE x := by
      unfold isE
      simp only [List.contains, List.elem]
      cases x == 101 <;> cases x == 69 <;> rfl
    rw [Lib.indexAny, hc, ih, List.dropWhile_cons, List.takeWhile_cons, show notE x = (!isE x) from rfl]
    cases isE x with
    | true => simp
    | false =>
      simp only [Bool.not_false, if_true, Bool.false_eq_true, if_false, List.length_cons]
      by_cases h : l.dropWhile notE = []
      · simp [h]
      · rw [if_neg h, if_neg h, beq_eq_false_iff_ne.2 (show ¬ ((l.takeWhile notE).length : Int) = -1 by omega)]
        simp only [Bool.false_eq_true, if_false]
        omega
theorem index_pt : ∀ s : List UInt8, Lib.index s [46] = if s.dropWhile notP = [] then -1 else ((s.takeWhile notP).length : Int)
  | [] => rfl
  | x :: l => by
    have ih := index_pt l
    have hc : [46].isPrefixOf (x :: l) = (x == 46) := by
      simp only [List.isPrefixOf, Bool.and_true]
      rw [Bool.eq_iff_iff, beq_iff_eq, beq_iff_eq]
      exact ⟨Eq.symm, Eq.symm⟩
    rw [Lib.index, hc, ih, List.dropWhile_cons, List.takeWhile_cons, show notP x = (!(x == 46)) from rfl]
    cases x == 46 with
    | true => simp
    | false =>
      simp only [Bool.not_false, if_true, Bool.false_eq_true, if_false, List.length_cons]
      by_cases h : l.dropWhile notP = []
      · simp [h]
      · rw [if_neg h, if_neg h, beq_eq_false_iff_ne.2 (show ¬ ((l.takeWhile notP).length : Int) = -1 by omega)]
        simp only [Bool.false_eq_true, if_false]
        omega
theorem take_tw (f : UInt8 → Bool) (s : List UInt8) : s.take (s.takeWhile f).length = s.takeWhile f := by
  induction s with
  | nil => rfl
  | cons x l ih =>
    rw [List.takeWhile_cons]
    cases f x <;> simp [ih]
theorem drop_dw (f : UInt8 → Bool) (s : List UInt8) : s.drop (s.takeWhile f).length = s.dropWhile f := by
  induction s with
  | nil => rfl
  | cons x l ih =>
    rw [List.takeWhile_cons, List.dropWhile_cons]
    cases f x <;> simp [ih]
theorem tw_all (f : UInt8 → Bool) : ∀ s : List UInt8, s.dropWhile f = [] → s.takeWhile f = s
  | [], _ => rfl
  | x :: l, h => by
    rw [List.dropWhile_cons] at h
    rw [List.takeWhile_cons]
    cases hf : f x with
    | true =>
      rw [hf] at h
      simp only [if_true] at h ⊢
      rw [tw_all f l h]
    | false => rw [hf] at h; simp at h
theorem cut_pt (s : List UInt8) : Lib.cut s [46] = (s.takeWhile notP, (s.dropWhile notP).drop 1, !(s.dropWhile notP == [])) := by
  unfold Lib.cut
  rw [index_pt]
  by_cases h : s.dropWhile notP = []
  · simp only [h, if_true]
    rw [if_neg (by omega), tw_all _ _ h]
    rfl
  · rw [if_neg h, if_pos (by omega)]
    have hne : (s.dropWhile notP == []) = false := beq_eq_false_iff_ne.2 h
    rw [hne, Int.toNat_natCast, take_tw, List.length_cons, List.length_nil, ← drop_dw, List.drop_drop]
    rfl
theorem strings_Cut_pt (s : List UInt8) (hs : s.length ≤ 1048576) : r_strings_Cut [.s s, .s [46]] = .ret [.s (s.takeWhile notP), .s ((s.dropWhile notP).drop 1), .b (!(s.dropWhile notP == []))] := by
  rw [eq_strings_Cut]
  simp only [E_strings_Cut, List.getD_cons_zero, List.getD_cons_succ, DC.ss_s]
  rw [eq_internal_stringslite_Cut]
  have : E_internal_stringslite_Cut [.s s, .s [46]] = .ret [.s (Lib.cut s [46]).1, .s (Lib.cut s [46]).2.1, .b (Lib.cut s [46]).2.2] := by
    unfold E_internal_stringslite_Cut primH
    have hh : hintLit [.s, .s] h_internal_stringslite_Cut = true := rfl
    have hq : qCut [.s s, .s [46]] = some [.s (Lib.cut s [46]).1, .s (Lib.cut s [46]).2.1, .b (Lib.cut s [46]).2.2] := by
      unfold qCut
      simp only
      rw [if_pos (by omega)]
    rw [hh, hq]
    rfl
  rw [this, cut_pt]
  rfl
theorem strings_IndexAny_eE (s : List UInt8) (hs : s.length ≤ 1048576) : r_strings_IndexAny [.s s, .s [101, 69]] = .ret [.i (if s.dropWhile notE = [] then -1 else ((s.takeWhile notE).length : Int))] := by
  rw [eq_strings_IndexAny]
  unfold E_strings_IndexAny primH
  have hh : hintLit [.s, .s] h_strings_IndexAny = true := rfl
  have hq : qIndexAny [.s s, .s [101, 69]] = some [.i (Lib.indexAny s [101, 69])] := by
    unfold qIndexAny
    simp only
    rw [if_pos ⟨by omega, trivial⟩]
  rw [hh, hq, indexAny_eE]
  rfl
def frontOk (f : List UInt8) (e : Bool) : Bool := intOk (f.takeWhile notP) && ((!(f.dropWhile notP == []) || e) && ((f.dropWhile notP == []) || figs ((f.dropWhile notP).drop 1)))
def floatI (s : List UInt8) : Bool := decide (s.length ≤ 40) && (if s.dropWhile notE = [] then frontOk s false else
  figs (((s.dropWhile notE).drop 1).drop (sg2 ((s.dropWhile notE).drop 1))) && frontOk (s.takeWhile notE) true)
theorem impl_FloatOk (s : List UInt8) (hs : s.length ≤ 1048576) : r_impl_FloatOk [.s s] = .ret [.b (floatI s)] := by
  rw [eq_impl_FloatOk]
  simp only [E_impl_FloatOk, List.getD_cons_zero, List.getD_cons_succ, DC.bb_b, DC.ii_i, DC.ss_s, floatI]
  rcases Nat.lt_or_ge 40 s.length with h40 | h40
  · have e1 : decide ((s.length : Int) > 40) = true := decide_eq_true (by omega)
    have e2 : decide (s.length ≤ 40) = false := decide_eq_false (by omega)
    simp only [e1, e2, if_true, Bool.false_and]
  have e1 : decide ((s.length : Int) > 40) = false := decide_eq_false (by omega)
  have e2 : decide (s.length ≤ 40) = true := decide_eq_true (by omega)
  simp only [e1, e2, Bool.false_eq_true, if_false, Bool.true_and, strings_IndexAny_eE s hs, Out.bindR_ret, List.getD_cons_zero, DC.ii_i]
  have front : ∀ (f : List UInt8) (k : Int) (e : Bool), f.length ≤ 1048576 → decide (k ≥ 0) = e → ∀ K : List DC → Out, K = (fun v5 => (r_strings_Cut [DC.s ((v5.getD 0 d0).ss), DC.s ([46] : List UInt8)]).bindR fun r6 =>
      Out.andThen ((r_impl_IntOk [DC.s ((r6.getD 0 d0).ss)]).bindR fun r7 =>
        if (r7.getD 0 d0).bb = true then
          if (r6.getD 2 d0).bb = true then
            if (!((r6.getD 2 d0).bb)) = true then
              .norm [DC.b true]
            else
              (r_impl_figures [DC.s ((r6.getD 1 d0).ss)]).bindR fun r8 =>
              .norm [DC.b ((r8.getD 0 d0).bb)]
          else
            if (decide ((v5.getD 1 d0).ii ≥ (0 : Int))) = true then
              if (!((r6.getD 2 d0).bb)) = true then
                .norm [DC.b true]
              else
                (r_impl_figures [DC.s ((r6.getD 1 d0).ss)]).bindR fun r9 =>
                .norm [DC.b ((r9.getD 0 d0).bb)]
            else
              .norm [DC.b false]
        else
          .norm [DC.b false]) fun v10 =>
      .ret [DC.b ((v10.getD 0 d0).bb)]) → K [.s f, .i k] = .ret [.b (frontOk f e)] := by
    intro f k e hf he K hK
    rw [hK]
    have h1 : (f.takeWhile notP).length ≤ 1048576 := Nat.le_trans (List.takeWhile_prefix notP).length_le hf
    have h2 : ((f.dropWhile notP).drop 1).length ≤ 1048576 := by
      have := (List.dropWhile_suffix notP (l := f)).length_le
      rw [List.length_drop]; omega
    simp only [List.getD_cons_zero, List.getD_cons_succ, DC.bb_b, DC.ii_i, DC.ss_s, strings_Cut_pt f hf, Out.bindR_ret, impl_IntOk _ h1, impl_figures _ h2, he, frontOk]
    cases intOk (f.takeWhile notP) <;> cases (f.dropWhile notP == []) <;> cases e <;> simp
  by_cases hE : s.dropWhile notE = []
  · have e3 : decide ((-1 : Int) ≥ 0) = false := by decide
    simp only [hE, if_true, e3, Bool.false_eq_true, if_false, Out.andThen_norm]
    exact front s (-1) false hs e3 _ rfl
  · have e3 : decide (((s.takeWhile notE).length : Int) ≥ 0) = true := decide_eq_true (by omega)
    have hlen : (s.takeWhile notE).length < s.length := by
      rcases Nat.lt_or_ge (s.takeWhile notE).length s.length with h | h
      · exact h
      · exact absurd (by rw [← drop_dw, List.drop_eq_nil_of_le h]) hE
    have e4 : 0 ≤ ((s.takeWhile notE).length : Int) ∧ ((s.takeWhile notE).length : Int) ≤ (s.length : Int) := by omega
    have w1 := wrap_succ hlen (show s.length ≤ 9223372036854775807 by omega)
    have e5 : 0 ≤ (((s.takeWhile notE).length + 1 : Nat) : Int) ∧ (((s.takeWhile notE).length + 1 : Nat) : Int) ≤ (s.length : Int) := by omega
    have hp : s.drop ((s.takeWhile notE).length + 1) = (s.dropWhile notE).drop 1 := by rw [← List.drop_drop, drop_dw]
    have hpl : ((s.dropWhile notE).drop 1).length ≤ 1048576 := by rw [← hp, List.length_drop]; omega
    have hf : (s.takeWhile notE).length ≤ 1048576 := by omega
    simp only [hE, if_false, e3, e4, w1, e5, if_true, and_self, Int.toNat_natCast, take_tw, hp]
    generalize (s.dropWhile notE).drop 1 = p at *
    have pw : ∀ (K : List DC → Out), Out.andThen (if (!(p == ([] : List UInt8))) = true then
                  if 0 ≤ (0 : Int) ∧ (0 : Int) < (p.length : Int) then
                    if (((p.getD (0 : Int).toNat 0).toNat : Int) == (43 : Int)) = true then
                      .norm [DC.s (s.takeWhile notE), DC.s p, DC.i ((s.takeWhile notE).length : Int), DC.b true]
                    else
                      if 0 ≤ (0 : Int) ∧ (0 : Int) < (p.length : Int) then
                        .norm [DC.s (s.takeWhile notE), DC.s p, DC.i ((s.takeWhile notE).length : Int), DC.b (((p.getD (0 : Int).toNat 0).toNat : Int) == (45 : Int))]
                      else
                        .fail
                  else
                    .fail
                else
                  .norm [DC.s (s.takeWhile notE), DC.s p, DC.i ((s.takeWhile notE).length : Int), DC.b false]) (fun v2 =>
              Out.andThen (if (v2.getD 3 d0).bb = true then
                  if 0 ≤ (1 : Int) ∧ (1 : Int) ≤ (((v2.getD 1 d0).ss).length : Int) then
                    .norm [DC.s ((v2.getD 0 d0).ss), DC.s (((v2.getD 1 d0).ss).drop (1 : Int).toNat), DC.i ((v2.getD 2 d0).ii)]
                  else
                    .fail
                else
                  .norm [DC.s ((v2.getD 0 d0).ss), DC.s ((v2.getD 1 d0).ss), DC.i ((v2.getD 2 d0).ii)]) K) = K [.s (s.takeWhile notE), .s (p.drop (sg2 p)), .i ((s.takeWhile notE).length : Int)] := by
      intro K
      cases p with
      | nil => simp [sg2]
      | cons d q =>
        have d1 : ((d.toNat : Int) == 43) = (d == 43) := u8_eq d 43 (by omega)
        have d2 : ((d.toNat : Int) == 45) = (d == 45) := u8_eq d 45 (by omega)
        have e6 : 0 ≤ (0 : Int) ∧ (0 : Int) < ((d :: q).length : Int) := by simp
        have e7 : 0 ≤ (1 : Int) ∧ (1 : Int) ≤ ((d :: q).length : Int) := by rw [List.length_cons]; omega
        have e8 : (d :: q).getD (0 : Int).toNat 0 = d := rfl
        have e9 : ((d :: q) == ([] : List UInt8)) = false := rfl
        simp only [e6, e8, e9, d1, d2, Bool.not_false, if_true, and_self]
        unfold sg2
        by_cases h1 : d = 43
        · subst h1
          simp only [beq_self_eq_true, if_true, Out.andThen_norm, List.getD_cons_zero, List.getD_cons_succ, DC.bb_b, DC.ii_i, DC.ss_s, e7, and_self]
          rfl
        · have b1 : (d == 43) = false := beq_eq_false_iff_ne.2 h1
          by_cases h2 : d = 45
          · subst h2
            simp only [b1, Bool.false_eq_true, if_false, beq_self_eq_true, if_true, Out.andThen_norm, List.getD_cons_zero, List.getD_cons_succ, DC.bb_b, DC.ii_i, DC.ss_s, e7, and_self]
            rfl
          · have b2 : (d == 45) = false := beq_eq_false_iff_ne.2 h2
            simp only [b1, b2, Bool.false_eq_true, if_false, Out.andThen_norm, List.getD_cons_zero, List.getD_cons_succ, DC.bb_b, DC.ii_i, DC.ss_s]
            simp [h1, h2]
    rw [pw]
    have hpl2 : (p.drop (sg2 p)).length ≤ 1048576 := by rw [List.length_drop]; omega
    simp only [List.getD_cons_zero, List.getD_cons_succ, DC.bb_b, DC.ii_i, DC.ss_s, impl_figures _ hpl2, Out.bindR_ret]
    cases figs (p.drop (sg2 p)) with
    | false => simp
    | true =>
      simp only [Bool.not_true, Bool.false_eq_true, if_false, Out.andThen_norm, Bool.true_and]
      exact front _ _ true hf e3 _ rfl
def NoFig (u : List UInt8) : Prop := ∀ c, u.head? = some c → isFig c = false
theorem tw_app (d u : List UInt8) (h : NoFig u) : tw (d ++ u) = tw d := by
  unfold tw
  induction d with
  | nil =>
    cases u with
    | nil => rfl
    | cons c u => rw [List.nil_append, List.takeWhile_cons, h c rfl]; rfl
  | cons x d ih =>
    rw [List.cons_append, List.takeWhile_cons, List.takeWhile_cons]
    cases isFig x <;> simp [ih]
theorem dw_app (d u : List UInt8) (h : NoFig u) : (d ++ u).dropWhile isFig = d.dropWhile isFig ++ u := by
  induction d with
  | nil =>
    cases u with
    | nil => rfl
    | cons c u => rw [List.nil_append, List.dropWhile_cons, h c rfl]; rfl
  | cons x d ih =>
    rw [List.cons_append, List.dropWhile_cons, List.dropWhile_cons]
    cases isFig x <;> simp [ih]
theorem intLen_app (w u : List UInt8) (h : NoFig u) (h45 : u.head? ≠ some 45) : intLen (w ++ u) = intLen w := by
  have hs : sgn (w ++ u) = sgn w := by
    cases w with
    | nil =>
      unfold sgn
      rw [List.nil_append, if_neg h45]
      rfl
    | cons a w => rfl
  have hg := sgn_le w
  unfold intLen
  rw [hs, List.drop_append_of_le_length hg, tw_app _ _ h]
  by_cases h0 : tw (w.drop (sgn w)) = 0
  · rw [if_pos h0, if_pos h0]
  · rw [if_neg h0, if_neg h0]
    have hl : sgn w < w.length := by
      rcases Nat.lt_or_ge (sgn w) w.length with h' | h'
      · exact h'
      · rw [List.drop_eq_nil_of_le h'] at h0
        exact absurd rfl h0
    have e : (w ++ u).getD (sgn w) 0 = w.getD (sgn w) 0 := by
      rw [List.getD_eq_getElem?_getD, List.getD_eq_getElem?_getD, List.getElem?_append_left hl]
    rw [e]
theorem dw_head (f : UInt8 → Bool) (l : List UInt8) (c : UInt8) (h : (l.dropWhile f).head? = some c) : f c = false := by
  induction l with
  | nil => simp at h
  | cons x l ih =>
    rw [List.dropWhile_cons] at h
    cases hx : f x with
    | true => rw [hx] at h; exact ih h
    | false =>
      rw [hx] at h
      simp at h
      rw [← h]; exact hx
theorem isE_nofig {c : UInt8} (h : isE c = true) : isFig c = false ∧ c ≠ 45 ∧ c ≠ 46 := by
  unfold isE at h
  rw [Bool.or_eq_true, beq_iff_eq, beq_iff_eq] at h
  rcases h with rfl | rfl <;> decide
theorem expOk_cons (c : UInt8) (r : List UInt8) (h : isE c = false) : expOk (c :: r) = false := by rw [expOk, h]; rfl
theorem float_eq (s : List UInt8) : floatS s = floatI s := by
  unfold floatS floatI
  rcases Nat.lt_or_ge 40 s.length with h40 | h40
  · have e : decide (s.length ≤ 40) = false := decide_eq_false (by omega)
    rw [e]; rfl
  congr 1
  have himpl : (if s.dropWhile notE = [] then frontOk s false else figs (((s.dropWhile notE).drop 1).drop (sg2 ((s.dropWhile notE).drop 1))) && frontOk (s.takeWhile notE) true) =
      (frontOk (s.takeWhile notE) (!(s.dropWhile notE == [])) && expOk (s.dropWhile notE)) := by
    cases hr : s.dropWhile notE with
    | nil =>
      rw [if_pos rfl, tw_all _ _ hr]
      simp [expOk]
    | cons c r =>
      have hc := dw_head notE s c (by rw [hr]; rfl)
      have hc' : isE c = true := by unfold notE at hc; simpa using hc
      rw [if_neg (by simp), expOk, hc', Bool.and_comm]
      simp
  rw [himpl]
  have hsplit : s = s.takeWhile notE ++ s.dropWhile notE := (List.takeWhile_append_dropWhile).symm
  have hfE : ∀ c ∈ s.takeWhile notE, isE c = false := fun c hc => by
    have := List.all_eq_true.1 (List.all_takeWhile (p := notE) (l := s)) c hc
    unfold notE at this
    simpa using this
  have hrest : ∀ c, (s.dropWhile notE).head? = some c → isE c = true := fun c hc => by
    have := dw_head notE s c hc
    unfold notE at this
    simpa using this
  generalize s.takeWhile notE = f at *
  generalize s.dropWhile notE = rest at *
  subst hsplit
  have hfs : f = f.takeWhile notP ++ f.dropWhile notP := (List.takeWhile_append_dropWhile).symm
  have hwP : ∀ c ∈ f.takeWhile notP, c ≠ 46 := fun c hc => by
    have := List.all_eq_true.1 (List.all_takeWhile (p := notP) (l := f)) c hc
    unfold notP at this
    simpa using this
  have ht : ∀ c, (f.dropWhile notP).head? = some c → c = 46 := fun c hc => by
    have := dw_head notP f c hc
    unfold notP at this
    simpa using this
  unfold frontOk
  generalize f.takeWhile notP = w at *
  generalize f.dropWhile notP = t at *
  subst hfs
  have hu : NoFig (t ++ rest) ∧ (t ++ rest).head? ≠ some 45 := by
    cases t with
    | nil =>
      refine ⟨fun c hc => (isE_nofig (hrest c hc)).1, fun hc => (isE_nofig (hrest 45 hc)).2.1 rfl⟩
    | cons a t =>
      have := ht a rfl
      subst this
      exact ⟨fun c hc => by simp at hc; subst hc; decide, by simp⟩
  rw [List.append_assoc, intLen_app w (t ++ rest) hu.1 hu.2]
  have hwl : w.length ≤ 40 := by simp only [List.length_append] at h40; omega
  have hn := intLen_le w
  have hio : intOk w = (decide (0 < w.length) && (intLen w == w.length)) := by unfold intOk; simp [hwl]
  rw [hio]
  generalize intLen w = n at *
  by_cases h0 : n = 0
  · subst h0
    cases w with
    | nil => simp
    | cons a w => simp
  have e0 : (n == 0) = false := beq_eq_false_iff_ne.2 h0
  by_cases hnw : n = w.length
  · subst hnw
    have hpos : decide (0 < w.length) = true := decide_eq_true (by omega)
    rw [e0, List.drop_left, hpos, beq_self_eq_true]
    have hlen : (w.length == (w ++ (t ++ rest)).length) = (t ++ rest == []) := by
      cases hh : t ++ rest with
      | nil => simp
      | cons a l => simp
    rw [hlen]
    cases t with
    | nil =>
      rw [List.nil_append]
      cases rest with
      | nil => rfl
      | cons c r =>
        have := (isE_nofig (hrest c rfl)).2.2
        simp [pointOk, this]
    | cons a fr =>
      have := ht a rfl
      subst this
      have hnr : NoFig rest := fun c hc => (isE_nofig (hrest c hc)).1
      have e1 : (46 :: fr ++ rest == ([] : List UInt8)) = false := rfl
      have e2 : ((46 :: fr : List UInt8) == []) = false := rfl
      rw [e1, e2]
      rw [List.cons_append, pointOk, if_pos rfl, tw_app _ _ hnr, dw_app _ _ hnr]
      simp only [Bool.not_false, Bool.true_and, Bool.true_or, Bool.false_or, List.drop_succ_cons, List.drop_zero]
      rw [figs_tw]
      by_cases ha : tw fr = fr.length
      · have hd : fr.dropWhile isFig = [] := by rw [← drop_tw, ha, List.drop_length]
        rw [hd, List.nil_append, beq_iff_eq.2 ha, Bool.and_true]
      · rw [beq_eq_false_iff_ne.2 ha, Bool.and_false, Bool.false_and]
        cases hd : fr.dropWhile isFig with
        | nil =>
          have := tw_all isFig fr hd
          exact absurd (congrArg List.length this) ha
        | cons x y =>
          have hx : x ∈ fr := (List.dropWhile_suffix isFig (l := fr)).subset (by rw [hd]; simp)
          rw [List.cons_append, expOk_cons x _ (hfE x (by simp [hx])), Bool.and_false]
  · have e1 : (n == w.length) = false := beq_eq_false_iff_ne.2 hnw
    have hlt : n < w.length := by omega
    rw [e1, List.drop_append_of_le_length hn, List.drop_eq_getElem_cons hlt, List.cons_append, pointOk]
    have hm : w[n] ∈ w := List.getElem_mem hlt
    rw [if_neg (hwP _ hm), expOk_cons _ _ (hfE _ (by simp [hm]))]
    simp
end Go.Proofs.QV
