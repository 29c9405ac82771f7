import Derived.Test.YthjfcobfjljkpaaGreatDoorMO6
import Derived.Test.YthjfcobfjljkpaaGreatDoorMO5
/- What the functions do, and that they do (written by a program). -/
namespace Go.Proofs.QV
open Go
set_option linter.unusedVariables false
set_option maxRecDepth 100000
noncomputable def E_laws_toValue (a : List DC) : Out :=
 (r_laws_toValueS [.sl ((a.getD 2 d0).ll)]).bindR fun r1 =>
 (r_laws_toStringS [.sl ((a.getD 3 d0).ll)]).bindR fun r2 =>
 .ret [.i ((a.getD 0 d0).ii), .s ((a.getD 1 d0).ss), .sl ((r1.getD 0 d0).ll), .sl ((r2.getD 0 d0).ll)]
theorem eq_laws_toValue a : r_laws_toValue a = E_laws_toValue a := (Run_eq cfg 50 _ a).trans (by kernel_rfl)
noncomputable def E_laws_toDirSL1 : List DC → Out := fun v1 =>
 if (decide ((v1.getD 2 d0).ii < (((v1.getD 0 d0).ll).length : Int))) = true then
 Out.andThenB (if 146 = 146 ∧ 0 ≤ (v1.getD 2 d0).ii ∧ (v1.getD 2 d0).ii < (((v1.getD 0 d0).ll).length : Int) then
 (r_laws_toDir [.s (((((v1.getD 0 d0).ll).getD ((v1.getD 2 d0).ii).toNat []).getD 0 d0).ss), .sl (((((v1.getD 0 d0).ll).getD ((v1.getD 2 d0).ii).toNat []).getD 1 d0).ll)]).bindR fun r2 =>
 if 155 = 155 ∧ 0 ≤ (v1.getD 2 d0).ii ∧ (v1.getD 2 d0).ii < (((v1.getD 1 d0).ll).length : Int) then
 .norm [.sl ((v1.getD 0 d0).ll), .sl (((v1.getD 1 d0).ll).set (((v1.getD 2 d0).ii).toNat) (setRunD (((v1.getD 1 d0).ll).getD (((v1.getD 2 d0).ii).toNat) []) 0 [DC.s ((r2.getD 0 d0).ss), DC.sl ((r2.getD 1 d0).ll)])), .i ((v1.getD 2 d0).ii)]
 else
 .fail
 else
 .fail) 1 fun v3 =>
 .norm [.sl ((v3.getD 0 d0).ll), .sl ((v3.getD 1 d0).ll), .i (IntKind.i64.wrap ((v3.getD 2 d0).ii + (1 : Int)))]
 else
 .ex 0 [.sl ((v1.getD 1 d0).ll)]
noncomputable def E_laws_toDirS (a : List DC) : Out :=
 if 0 ≤ (((a.getD 0 d0).ll).length : Int) ∧ (((a.getD 0 d0).ll).length : Int) < (LIM : Int) ∧ (((a.getD 0 d0).ll).length : Int) = (((a.getD 0 d0).ll).length : Int) ∧ 40 ≤ 1024 ∧ 0 < 2 then
 Out.andThenB (Loop E_laws_toDirSL1 [.sl ((a.getD 0 d0).ll), .sl (List.replicate (((a.getD 0 d0).ll).length : Int).toNat [DC.s [], DC.sl []]), .i (0 : Int)]) 0 fun v4 =>
 .ret [.sl ((v4.getD 0 d0).ll)]
 else
 .fail
theorem eq_laws_toDirS a : r_laws_toDirS a = E_laws_toDirS a := (Run_eq cfg 51 _ a).trans (by kernel_rfl)
noncomputable def E_impl_EscapedL1 : List DC → Out := fun v3 =>
 if (decide ((v3.getD 3 d0).ii < (v3.getD 2 d0).ii)) = true then
 Out.andThenB (if 0 ≤ (v3.getD 3 d0).ii ∧ (v3.getD 3 d0).ii < (((v3.getD 0 d0).ss).length : Int) then
 (r_strings_IndexByte [.s ([34, 92, 8, 9, 10, 12, 13] : List UInt8), .i ((((v3.getD 0 d0).ss).getD ((v3.getD 3 d0).ii).toNat 0).toNat : Int)]).bindR fun r4 =>
 Out.andThenB (Out.andThen (if (decide ((r4.getD 0 d0).ii ≥ (0 : Int))) = true then
 if 0 ≤ (r4.getD 0 d0).ii ∧ (r4.getD 0 d0).ii < (([34, 92, 98, 116, 110, 102, 114] : List UInt8).length : Int) then
 if ((v3.getD 1 d0).ll).length + [[DC.i (92 : Int)], [DC.i ((([34, 92, 98, 116, 110, 102, 114] : List UInt8).getD ((r4.getD 0 d0).ii).toNat 0).toNat : Int)]].length < LIM then
 .norm [.s ((v3.getD 0 d0).ss), .sl (((v3.getD 1 d0).ll) ++ [[DC.i (92 : Int)], [DC.i ((([34, 92, 98, 116, 110, 102, 114] : List UInt8).getD ((r4.getD 0 d0).ii).toNat 0).toNat : Int)]]), .i ((v3.getD 2 d0).ii), .i ((v3.getD 3 d0).ii)]
 else
 .fail
 else
 .fail
 else
 Out.andThen (if (decide (((((v3.getD 0 d0).ss).getD ((v3.getD 3 d0).ii).toNat 0).toNat : Int) < (32 : Int))) = true then
 .norm [.s ((v3.getD 0 d0).ss), .sl ((v3.getD 1 d0).ll), .i ((((v3.getD 0 d0).ss).getD ((v3.getD 3 d0).ii).toNat 0).toNat : Int), .i ((v3.getD 2 d0).ii), .i ((v3.getD 3 d0).ii), .b true]
 else
 .norm [.s ((v3.getD 0 d0).ss), .sl ((v3.getD 1 d0).ll), .i ((((v3.getD 0 d0).ss).getD ((v3.getD 3 d0).ii).toNat 0).toNat : Int), .i ((v3.getD 2 d0).ii), .i ((v3.getD 3 d0).ii), .b (((((v3.getD 0 d0).ss).getD ((v3.getD 3 d0).ii).toNat 0).toNat : Int) == (127 : Int))]) fun v5 =>
 Out.andThen (if (v5.getD 5 d0).bb = true then
 if (4 : Int) < 0 then
 .fail
 else
 if 0 ≤ (((v5.getD 2 d0).ii).fdiv (2 ^ (min (4 : Int).toNat (IntKind.u8.bits)))) ∧ (((v5.getD 2 d0).ii).fdiv (2 ^ (min (4 : Int).toNat (IntKind.u8.bits)))) < (([48, 49, 50, 51, 52, 53, 54, 55, 56, 57, 97, 98, 99, 100, 101, 102] : List UInt8).length : Int) then
 if 0 ≤ (IntKind.u8.wrap (BitVec.ofInt (IntKind.u8.bits) ((v5.getD 2 d0).ii) &&& BitVec.ofInt (IntKind.u8.bits) (15 : Int)).toNat) ∧ (IntKind.u8.wrap (BitVec.ofInt (IntKind.u8.bits) ((v5.getD 2 d0).ii) &&& BitVec.ofInt (IntKind.u8.bits) (15 : Int)).toNat) < (([48, 49, 50, 51, 52, 53, 54, 55, 56, 57, 97, 98, 99, 100, 101, 102] : List UInt8).length : Int) then
 if ((v5.getD 1 d0).ll).length + [[DC.i (92 : Int)], [DC.i (117 : Int)], [DC.i (48 : Int)], [DC.i (48 : Int)], [DC.i ((([48, 49, 50, 51, 52, 53, 54, 55, 56, 57, 97, 98, 99, 100, 101, 102] : List UInt8).getD (((v5.getD 2 d0).ii).fdiv (2 ^ (min (4 : Int).toNat (IntKind.u8.bits)))).toNat 0).toNat : Int)], [DC.i ((([48, 49, 50, 51, 52, 53, 54, 55, 56, 57, 97, 98, 99, 100, 101, 102] : List UInt8).getD (IntKind.u8.wrap (BitVec.ofInt (IntKind.u8.bits) ((v5.getD 2 d0).ii) &&& BitVec.ofInt (IntKind.u8.bits) (15 : Int)).toNat).toNat 0).toNat : Int)]].length < LIM then
 .norm [.s ((v5.getD 0 d0).ss), .sl (((v5.getD 1 d0).ll) ++ [[DC.i (92 : Int)], [DC.i (117 : Int)], [DC.i (48 : Int)], [DC.i (48 : Int)], [DC.i ((([48, 49, 50, 51, 52, 53, 54, 55, 56, 57, 97, 98, 99, 100, 101, 102] : List UInt8).getD (((v5.getD 2 d0).ii).fdiv (2 ^ (min (4 : Int).toNat (IntKind.u8.bits)))).toNat 0).toNat : Int)], [DC.i ((([48, 49, 50, 51, 52, 53, 54, 55, 56, 57, 97, 98, 99, 100, 101, 102] : List UInt8).getD (IntKind.u8.wrap (BitVec.ofInt (IntKind.u8.bits) ((v5.getD 2 d0).ii) &&& BitVec.ofInt (IntKind.u8.bits) (15 : Int)).toNat).toNat 0).toNat : Int)]]), .i ((v5.getD 3 d0).ii), .i ((v5.getD 4 d0).ii)]
 else
 .fail
 else
 .fail
 else
 .fail
 else
 if ((v5.getD 1 d0).ll).length + [[DC.i ((v5.getD 2 d0).ii)]].length < LIM then
 .norm [.s ((v5.getD 0 d0).ss), .sl (((v5.getD 1 d0).ll) ++ [[DC.i ((v5.getD 2 d0).ii)]]), .i ((v5.getD 3 d0).ii), .i ((v5.getD 4 d0).ii)]
 else
 .fail) fun v6 =>
 .norm [.s ((v6.getD 0 d0).ss), .sl ((v6.getD 1 d0).ll), .i ((v6.getD 2 d0).ii), .i ((v6.getD 3 d0).ii)]) fun v7 =>
 .norm [.s ((v7.getD 0 d0).ss), .sl ((v7.getD 1 d0).ll), .i ((v7.getD 2 d0).ii), .i ((v7.getD 3 d0).ii)]) 2 fun v8 =>
 .norm [.s ((v8.getD 0 d0).ss), .sl ((v8.getD 1 d0).ll), .i ((v8.getD 2 d0).ii), .i ((v8.getD 3 d0).ii)]
 else
 .fail) 1 fun v9 =>
 .norm [.s ((v9.getD 0 d0).ss), .sl ((v9.getD 1 d0).ll), .i ((v9.getD 2 d0).ii), .i (IntKind.i64.wrap ((v9.getD 3 d0).ii + (1 : Int)))]
 else
 .ex 0 [.sl ((v3.getD 1 d0).ll)]
noncomputable def E_impl_Escaped (a : List DC) : Out :=
 Out.andThen ((r_impl_TextOk [.s ((a.getD 0 d0).ss)]).bindR fun r1 =>
 if (!((r1.getD 0 d0).bb)) = true then
 .norm [.s ((a.getD 0 d0).ss), .b true]
 else
 .norm [.s ((a.getD 0 d0).ss), .b (decide ((((a.getD 0 d0).ss).length : Int) > (200 : Int)))]) fun v2 =>
 if (v2.getD 1 d0).bb = true then
 .ret [.s ([] : List UInt8)]
 else
 Out.andThenB (Loop E_impl_EscapedL1 [.s ((v2.getD 0 d0).ss), .sl [[DC.i (34 : Int)]], .i (((v2.getD 0 d0).ss).length : Int), .i (0 : Int)]) 0 fun v10 =>
 if ((v10.getD 0 d0).ll).length + [[DC.i (34 : Int)]].length < LIM then
 .ret [.s (rowBytes (((v10.getD 0 d0).ll) ++ [[DC.i (34 : Int)]]))]
 else
 .fail
theorem eq_impl_Escaped a : r_impl_Escaped a = E_impl_Escaped a := (Run_eq cfg 53 _ a).trans (by kernel_rfl)
noncomputable def E_impl_TypeTextL1 : List DC → Out := fun v2 =>
 if (decide ((v2.getD 2 d0).ii < (v2.getD 1 d0).ii)) = true then
 Out.andThenB (if 0 ≤ (v2.getD 2 d0).ii ∧ (v2.getD 2 d0).ii < (((v2.getD 4 d0).ss).length : Int) then
 Out.andThen (if (((((v2.getD 4 d0).ss).getD ((v2.getD 2 d0).ii).toNat 0).toNat : Int) == (33 : Int)) = true then
 if ((v2.getD 0 d0).ss).length + ([33] : List UInt8).length < LIM then
 .norm [.s (((v2.getD 0 d0).ss) ++ ([33] : List UInt8)), .i ((v2.getD 1 d0).ii), .i ((v2.getD 2 d0).ii), .s ((v2.getD 3 d0).ss), .s ((v2.getD 4 d0).ss)]
 else
 .fail
 else
 if ([91] : List UInt8).length + ((v2.getD 0 d0).ss).length < LIM then
 if (([91] : List UInt8) ++ ((v2.getD 0 d0).ss)).length + ([93] : List UInt8).length < LIM then
 .norm [.s ((([91] : List UInt8) ++ ((v2.getD 0 d0).ss)) ++ ([93] : List UInt8)), .i ((v2.getD 1 d0).ii), .i ((v2.getD 2 d0).ii), .s ((v2.getD 3 d0).ss), .s ((v2.getD 4 d0).ss)]
 else
 .fail
 else
 .fail) fun v3 =>
 .norm [.s ((v3.getD 0 d0).ss), .i ((v3.getD 1 d0).ii), .i ((v3.getD 2 d0).ii), .s ((v3.getD 3 d0).ss), .s ((v3.getD 4 d0).ss)]
 else
 .fail) 1 fun v4 =>
 .norm [.s ((v4.getD 0 d0).ss), .i ((v4.getD 1 d0).ii), .i (IntKind.i64.wrap ((v4.getD 2 d0).ii + (1 : Int))), .s ((v4.getD 3 d0).ss), .s ((v4.getD 4 d0).ss)]
 else
 .ex 0 [.s ((v2.getD 0 d0).ss)]
noncomputable def E_impl_TypeText (a : List DC) : Out :=
 (r_impl_TypeOk [.s ((a.getD 0 d0).ss), .s ((a.getD 1 d0).ss)]).bindR fun r1 =>
 if (!((r1.getD 0 d0).bb)) = true then
 .ret [.s ([] : List UInt8)]
 else
 Out.andThenB (Loop E_impl_TypeTextL1 [.s ((a.getD 0 d0).ss), .i (((a.getD 1 d0).ss).length : Int), .i (0 : Int), .s ((a.getD 0 d0).ss), .s ((a.getD 1 d0).ss)]) 0 fun v5 =>
 .ret [.s ((v5.getD 0 d0).ss)]
theorem eq_impl_TypeText a : r_impl_TypeText a = E_impl_TypeText a := (Run_eq cfg 54 _ a).trans (by kernel_rfl)
noncomputable def E_impl_defaultText (a : List DC) : Out :=
 if (!((a.getD 0 d0).bb)) = true then
 .ret [.s ([] : List UInt8)]
 else
 (r_impl_ValueText [.i ((a.getD 1 d0).ii), .s ((a.getD 2 d0).ss), .sl ((a.getD 3 d0).ll), .sl ((a.getD 4 d0).ll)]).bindR fun r1 =>
 if ([32, 61, 32] : List UInt8).length + ((r1.getD 0 d0).ss).length < LIM then
 .ret [.s (([32, 61, 32] : List UInt8) ++ ((r1.getD 0 d0).ss))]
 else
 .fail
theorem eq_impl_defaultText a : r_impl_defaultText a = E_impl_defaultText a := (Run_eq cfg 55 _ a).trans (by kernel_rfl)
noncomputable def E_impl_DirsTextL1 : List DC → Out := fun v2 =>
 if (decide ((v2.getD 3 d0).ii < (v2.getD 2 d0).ii)) = true then
 Out.andThenB (if 155 = 155 ∧ 0 ≤ (v2.getD 3 d0).ii ∧ (v2.getD 3 d0).ii < (((v2.getD 1 d0).ll).length : Int) then
 if ([32, 64] : List UInt8).length + (((((v2.getD 1 d0).ll).getD ((v2.getD 3 d0).ii).toNat []).getD 0 d0).ss).length < LIM then
 (r_impl_ArgsText [.sl (((((v2.getD 1 d0).ll).getD ((v2.getD 3 d0).ii).toNat []).getD 1 d0).ll)]).bindR fun r3 =>
 if (([32, 64] : List UInt8) ++ (((((v2.getD 1 d0).ll).getD ((v2.getD 3 d0).ii).toNat []).getD 0 d0).ss)).length + ((r3.getD 0 d0).ss).length < LIM then
 if ((v2.getD 0 d0).ss).length + ((([32, 64] : List UInt8) ++ (((((v2.getD 1 d0).ll).getD ((v2.getD 3 d0).ii).toNat []).getD 0 d0).ss)) ++ ((r3.getD 0 d0).ss)).length < LIM then
 .norm [.s (((v2.getD 0 d0).ss) ++ ((([32, 64] : List UInt8) ++ (((((v2.getD 1 d0).ll).getD ((v2.getD 3 d0).ii).toNat []).getD 0 d0).ss)) ++ ((r3.getD 0 d0).ss))), .sl ((v2.getD 1 d0).ll), .i ((v2.getD 2 d0).ii), .i ((v2.getD 3 d0).ii)]
 else
 .fail
 else
 .fail
 else
 .fail
 else
 .fail) 1 fun v4 =>
 .norm [.s ((v4.getD 0 d0).ss), .sl ((v4.getD 1 d0).ll), .i ((v4.getD 2 d0).ii), .i (IntKind.i64.wrap ((v4.getD 3 d0).ii + (1 : Int)))]
 else
 .ex 0 [.s ((v2.getD 0 d0).ss)]
noncomputable def E_impl_DirsText (a : List DC) : Out :=
 (r_impl_DirsOk [.sl ((a.getD 0 d0).ll)]).bindR fun r1 =>
 if (!((r1.getD 0 d0).bb)) = true then
 .ret [.s ([] : List UInt8)]
 else
 Out.andThenB (Loop E_impl_DirsTextL1 [.s ([] : List UInt8), .sl ((a.getD 0 d0).ll), .i (((a.getD 0 d0).ll).length : Int), .i (0 : Int)]) 0 fun v5 =>
 .ret [.s ((v5.getD 0 d0).ss)]
theorem eq_impl_DirsText a : r_impl_DirsText a = E_impl_DirsText a := (Run_eq cfg 56 _ a).trans (by kernel_rfl)
noncomputable def E_laws_eqType (a : List DC) : Out :=
 if (!((a.getD 0 d0).ss == (a.getD 2 d0).ss)) = true then
 .ret [.b false]
 else
 if (!((a.getD 1 d0).ss == (a.getD 3 d0).ss)) = true then
 .ret [.b false]
 else
 .ret [.b true]
theorem eq_laws_eqType a : r_laws_eqType a = E_laws_eqType a := (Run_eq cfg 57 _ a).trans (by kernel_rfl)
noncomputable def E_laws_eqValue (a : List DC) : Out :=
 if ((a.getD 0 d0).ii != (a.getD 4 d0).ii) = true then
 .ret [.b false]
 else
 if (!((a.getD 1 d0).ss == (a.getD 5 d0).ss)) = true then
 .ret [.b false]
 else
 (r_laws_eqValueS [.sl ((a.getD 2 d0).ll), .sl ((a.getD 6 d0).ll)]).bindR fun r1 =>
 if (!((r1.getD 0 d0).bb)) = true then
 .ret [.b false]
 else
 (r_laws_eqStringS [.sl ((a.getD 3 d0).ll), .sl ((a.getD 7 d0).ll)]).bindR fun r2 =>
 if (!((r2.getD 0 d0).bb)) = true then
 .ret [.b false]
 else
 .ret [.b true]
theorem eq_laws_eqValue a : r_laws_eqValue a = E_laws_eqValue a := (Run_eq cfg 58 _ a).trans (by kernel_rfl)
noncomputable def E_laws_eqDirSL1 : List DC → Out := fun v1 =>
 if (decide ((v1.getD 2 d0).ii < (((v1.getD 0 d0).ll).length : Int))) = true then
 Out.andThenB (if 155 = 155 ∧ 0 ≤ (v1.getD 2 d0).ii ∧ (v1.getD 2 d0).ii < (((v1.getD 0 d0).ll).length : Int) then
 if 155 = 155 ∧ 0 ≤ (v1.getD 2 d0).ii ∧ (v1.getD 2 d0).ii < (((v1.getD 1 d0).ll).length : Int) then
 (r_laws_eqDir [.s (((((v1.getD 0 d0).ll).getD ((v1.getD 2 d0).ii).toNat []).getD 0 d0).ss), .sl (((((v1.getD 0 d0).ll).getD ((v1.getD 2 d0).ii).toNat []).getD 1 d0).ll), .s (((((v1.getD 1 d0).ll).getD ((v1.getD 2 d0).ii).toNat []).getD 0 d0).ss), .sl (((((v1.getD 1 d0).ll).getD ((v1.getD 2 d0).ii).toNat []).getD 1 d0).ll)]).bindR fun r2 =>
 if (!((r2.getD 0 d0).bb)) = true then
 .ret [.b false]
 else
 .norm [.sl ((v1.getD 0 d0).ll), .sl ((v1.getD 1 d0).ll), .i ((v1.getD 2 d0).ii)]
 else
 .fail
 else
 .fail) 1 fun v3 =>
 .norm [.sl ((v3.getD 0 d0).ll), .sl ((v3.getD 1 d0).ll), .i (IntKind.i64.wrap ((v3.getD 2 d0).ii + (1 : Int)))]
 else
 .ex 0 []
noncomputable def E_laws_eqDirS (a : List DC) : Out :=
 if ((((a.getD 0 d0).ll).length : Int) != (((a.getD 1 d0).ll).length : Int)) = true then
 .ret [.b false]
 else
 Out.andThenB (Loop E_laws_eqDirSL1 [.sl ((a.getD 0 d0).ll), .sl ((a.getD 1 d0).ll), .i (0 : Int)]) 0 fun v4 =>
 .ret [.b true]
theorem eq_laws_eqDirS a : r_laws_eqDirS a = E_laws_eqDirS a := (Run_eq cfg 59 _ a).trans (by kernel_rfl)
noncomputable def E_laws_szVarDefSL1 : List DC → Out := fun v1 =>
 if (decide ((v1.getD 2 d0).ii < (((v1.getD 0 d0).ll).length : Int))) = true then
 Out.andThenB (if 170 = 170 ∧ 0 ≤ (v1.getD 2 d0).ii ∧ (v1.getD 2 d0).ii < (((v1.getD 0 d0).ll).length : Int) then
 (r_laws_szVarDef [.s (((((v1.getD 0 d0).ll).getD ((v1.getD 2 d0).ii).toNat []).getD 0 d0).ss), .s (((((v1.getD 0 d0).ll).getD ((v1.getD 2 d0).ii).toNat []).getD 1 d0).ss), .s (((((v1.getD 0 d0).ll).getD ((v1.getD 2 d0).ii).toNat []).getD 2 d0).ss), .b (((((v1.getD 0 d0).ll).getD ((v1.getD 2 d0).ii).toNat []).getD 3 d0).bb), .i (((((v1.getD 0 d0).ll).getD ((v1.getD 2 d0).ii).toNat []).getD 4 d0).ii), .s (((((v1.getD 0 d0).ll).getD ((v1.getD 2 d0).ii).toNat []).getD 5 d0).ss), .sl (((((v1.getD 0 d0).ll).getD ((v1.getD 2 d0).ii).toNat []).getD 6 d0).ll), .sl (((((v1.getD 0 d0).ll).getD ((v1.getD 2 d0).ii).toNat []).getD 7 d0).ll), .sl (((((v1.getD 0 d0).ll).getD ((v1.getD 2 d0).ii).toNat []).getD 8 d0).ll), .i ((v1.getD 1 d0).ii)]).bindR fun r2 =>
 if (decide ((r2.getD 0 d0).ii < (0 : Int))) = true then
 .ret [.i (-1 : Int)]
 else
 .norm [.sl ((v1.getD 0 d0).ll), .i ((r2.getD 0 d0).ii), .i ((v1.getD 2 d0).ii)]
 else
 .fail) 1 fun v3 =>
 .norm [.sl ((v3.getD 0 d0).ll), .i ((v3.getD 1 d0).ii), .i (IntKind.i64.wrap ((v3.getD 2 d0).ii + (1 : Int)))]
 else
 .ex 0 [.i ((v1.getD 1 d0).ii)]
noncomputable def E_laws_szVarDefS (a : List DC) : Out :=
 if (decide ((IntKind.i64.wrap ((a.getD 1 d0).ii - (((a.getD 0 d0).ll).length : Int))) < (0 : Int))) = true then
 .ret [.i (-1 : Int)]
 else
 Out.andThenB (Loop E_laws_szVarDefSL1 [.sl ((a.getD 0 d0).ll), .i (IntKind.i64.wrap ((a.getD 1 d0).ii - (((a.getD 0 d0).ll).length : Int))), .i (0 : Int)]) 0 fun v4 =>
 .ret [.i ((v4.getD 0 d0).ii)]
theorem eq_laws_szVarDefS a : r_laws_szVarDefS a = E_laws_szVarDefS a := (Run_eq cfg 73 _ a).trans (by kernel_rfl)
noncomputable def E_laws_toVarDefSL1 : List DC → Out := fun v1 =>
 if (decide ((v1.getD 2 d0).ii < (((v1.getD 0 d0).ll).length : Int))) = true then
 Out.andThenB (if 170 = 170 ∧ 0 ≤ (v1.getD 2 d0).ii ∧ (v1.getD 2 d0).ii < (((v1.getD 0 d0).ll).length : Int) then
 (r_laws_toVarDef [.s (((((v1.getD 0 d0).ll).getD ((v1.getD 2 d0).ii).toNat []).getD 0 d0).ss), .s (((((v1.getD 0 d0).ll).getD ((v1.getD 2 d0).ii).toNat []).getD 1 d0).ss), .s (((((v1.getD 0 d0).ll).getD ((v1.getD 2 d0).ii).toNat []).getD 2 d0).ss), .b (((((v1.getD 0 d0).ll).getD ((v1.getD 2 d0).ii).toNat []).getD 3 d0).bb), .i (((((v1.getD 0 d0).ll).getD ((v1.getD 2 d0).ii).toNat []).getD 4 d0).ii), .s (((((v1.getD 0 d0).ll).getD ((v1.getD 2 d0).ii).toNat []).getD 5 d0).ss), .sl (((((v1.getD 0 d0).ll).getD ((v1.getD 2 d0).ii).toNat []).getD 6 d0).ll), .sl (((((v1.getD 0 d0).ll).getD ((v1.getD 2 d0).ii).toNat []).getD 7 d0).ll), .sl (((((v1.getD 0 d0).ll).getD ((v1.getD 2 d0).ii).toNat []).getD 8 d0).ll)]).bindR fun r2 =>
 if 126 = 126 ∧ 0 ≤ (v1.getD 2 d0).ii ∧ (v1.getD 2 d0).ii < (((v1.getD 1 d0).ll).length : Int) then
 .norm [.sl ((v1.getD 0 d0).ll), .sl (((v1.getD 1 d0).ll).set (((v1.getD 2 d0).ii).toNat) (setRunD (((v1.getD 1 d0).ll).getD (((v1.getD 2 d0).ii).toNat) []) 0 [DC.s ((r2.getD 0 d0).ss), DC.s ((r2.getD 1 d0).ss), DC.s ((r2.getD 2 d0).ss), DC.b ((r2.getD 3 d0).bb), DC.i ((r2.getD 4 d0).ii), DC.s ((r2.getD 5 d0).ss), DC.sl ((r2.getD 6 d0).ll), DC.sl ((r2.getD 7 d0).ll), DC.sl ((r2.getD 8 d0).ll)])), .i ((v1.getD 2 d0).ii)]
 else
 .fail
 else
 .fail) 1 fun v3 =>
 .norm [.sl ((v3.getD 0 d0).ll), .sl ((v3.getD 1 d0).ll), .i (IntKind.i64.wrap ((v3.getD 2 d0).ii + (1 : Int)))]
 else
 .ex 0 [.sl ((v1.getD 1 d0).ll)]
noncomputable def E_laws_toVarDefS (a : List DC) : Out :=
 if 0 ≤ (((a.getD 0 d0).ll).length : Int) ∧ (((a.getD 0 d0).ll).length : Int) < (LIM : Int) ∧ (((a.getD 0 d0).ll).length : Int) = (((a.getD 0 d0).ll).length : Int) ∧ 152 ≤ 1024 ∧ 0 < 9 then
 Out.andThenB (Loop E_laws_toVarDefSL1 [.sl ((a.getD 0 d0).ll), .sl (List.replicate (((a.getD 0 d0).ll).length : Int).toNat [DC.s [], DC.s [], DC.s [], DC.b false, DC.i 0, DC.s [], DC.sl [], DC.sl [], DC.sl []]), .i (0 : Int)]) 0 fun v4 =>
 .ret [.sl ((v4.getD 0 d0).ll)]
 else
 .fail
theorem eq_laws_toVarDefS a : r_laws_toVarDefS a = E_laws_toVarDefS a := (Run_eq cfg 77 _ a).trans (by kernel_rfl)
noncomputable def E_spec_OpOkL1 : List DC → Out := fun v6 =>
 if (decide ((v6.getD 0 d0).ii < (((v6.getD 3 d0).ll).length : Int))) = true then
 Out.andThenB (if 126 = 126 ∧ 0 ≤ (v6.getD 0 d0).ii ∧ (v6.getD 0 d0).ii < (((v6.getD 3 d0).ll).length : Int) then
 (r_spec_VarDefOk [.s (((((v6.getD 3 d0).ll).getD ((v6.getD 0 d0).ii).toNat []).getD 0 d0).ss), .s (((((v6.getD 3 d0).ll).getD ((v6.getD 0 d0).ii).toNat []).getD 1 d0).ss), .s (((((v6.getD 3 d0).ll).getD ((v6.getD 0 d0).ii).toNat []).getD 2 d0).ss), .b (((((v6.getD 3 d0).ll).getD ((v6.getD 0 d0).ii).toNat []).getD 3 d0).bb), .i (((((v6.getD 3 d0).ll).getD ((v6.getD 0 d0).ii).toNat []).getD 4 d0).ii), .s (((((v6.getD 3 d0).ll).getD ((v6.getD 0 d0).ii).toNat []).getD 5 d0).ss), .sl (((((v6.getD 3 d0).ll).getD ((v6.getD 0 d0).ii).toNat []).getD 6 d0).ll), .sl (((((v6.getD 3 d0).ll).getD ((v6.getD 0 d0).ii).toNat []).getD 7 d0).ll), .sl (((((v6.getD 3 d0).ll).getD ((v6.getD 0 d0).ii).toNat []).getD 8 d0).ll)]).bindR fun r7 =>
 if (!((r7.getD 0 d0).bb)) = true then
 .ret [.b false]
 else
 .norm [.i ((v6.getD 0 d0).ii), .i ((v6.getD 1 d0).ii), .s ((v6.getD 2 d0).ss), .sl ((v6.getD 3 d0).ll), .sl ((v6.getD 4 d0).ll), .sl ((v6.getD 5 d0).ll)]
 else
 .fail) 1 fun v8 =>
 .norm [.i (IntKind.i64.wrap ((v8.getD 0 d0).ii + (1 : Int))), .i ((v8.getD 1 d0).ii), .s ((v8.getD 2 d0).ss), .sl ((v8.getD 3 d0).ll), .sl ((v8.getD 4 d0).ll), .sl ((v8.getD 5 d0).ll)]
 else
 .ex 0 [.i ((v6.getD 1 d0).ii), .s ((v6.getD 2 d0).ss), .sl ((v6.getD 3 d0).ll), .sl ((v6.getD 4 d0).ll), .sl ((v6.getD 5 d0).ll)]
noncomputable def E_spec_OpOk (a : List DC) : Out :=
 Out.andThen ((r_spec_OpWord [.i ((a.getD 0 d0).ii)]).bindR fun r1 =>
 if ((r1.getD 0 d0).ss == ([] : List UInt8)) = true then
 .norm [.b true, .i ((a.getD 0 d0).ii), .s ((a.getD 1 d0).ss), .sl ((a.getD 2 d0).ll), .sl ((a.getD 3 d0).ll), .sl ((a.getD 4 d0).ll)]
 else
 if (!((a.getD 1 d0).ss == ([] : List UInt8))) = true then
 (r_spec_NameOk [.s ((a.getD 1 d0).ss)]).bindR fun r2 =>
 if (!((r2.getD 0 d0).bb)) = true then
 .norm [.b true, .i ((a.getD 0 d0).ii), .s ((a.getD 1 d0).ss), .sl ((a.getD 2 d0).ll), .sl ((a.getD 3 d0).ll), .sl ((a.getD 4 d0).ll)]
 else
 (r_spec_DirsOk [.sl ((a.getD 3 d0).ll)]).bindR fun r3 =>
 if (!((r3.getD 0 d0).bb)) = true then
 .norm [.b true, .i ((a.getD 0 d0).ii), .s ((a.getD 1 d0).ss), .sl ((a.getD 2 d0).ll), .sl ((a.getD 3 d0).ll), .sl ((a.getD 4 d0).ll)]
 else
 .norm [.b ((((a.getD 4 d0).ll).length : Int) == (0 : Int)), .i ((a.getD 0 d0).ii), .s ((a.getD 1 d0).ss), .sl ((a.getD 2 d0).ll), .sl ((a.getD 3 d0).ll), .sl ((a.getD 4 d0).ll)]
 else
 (r_spec_DirsOk [.sl ((a.getD 3 d0).ll)]).bindR fun r4 =>
 if (!((r4.getD 0 d0).bb)) = true then
 .norm [.b true, .i ((a.getD 0 d0).ii), .s ((a.getD 1 d0).ss), .sl ((a.getD 2 d0).ll), .sl ((a.getD 3 d0).ll), .sl ((a.getD 4 d0).ll)]
 else
 .norm [.b ((((a.getD 4 d0).ll).length : Int) == (0 : Int)), .i ((a.getD 0 d0).ii), .s ((a.getD 1 d0).ss), .sl ((a.getD 2 d0).ll), .sl ((a.getD 3 d0).ll), .sl ((a.getD 4 d0).ll)]) fun v5 =>
 if (v5.getD 0 d0).bb = true then
 .ret [.b false]
 else
 Out.andThenB (Loop E_spec_OpOkL1 [.i (0 : Int), .i ((v5.getD 1 d0).ii), .s ((v5.getD 2 d0).ss), .sl ((v5.getD 3 d0).ll), .sl ((v5.getD 4 d0).ll), .sl ((v5.getD 5 d0).ll)]) 0 fun v9 =>
 (r_spec_l11Ok [.sl ((v9.getD 4 d0).ll)]).bindR fun r10 =>
 .ret [.b ((r10.getD 0 d0).bb)]
theorem eq_spec_OpOk a : r_spec_OpOk a = E_spec_OpOk a := (Run_eq cfg 74 _ a).trans (by kernel_rfl)
noncomputable def E_spec_OpWord (a : List DC) : Out :=
 Out.andThenB (if ((a.getD 0 d0).ii == (1 : Int)) = true then
 .ret [.s ([113, 117, 101, 114, 121] : List UInt8)]
 else
 if ((a.getD 0 d0).ii == (2 : Int)) = true then
 .ret [.s ([109, 117, 116, 97, 116, 105, 111, 110] : List UInt8)]
 else
 if ((a.getD 0 d0).ii == (3 : Int)) = true then
 .ret [.s ([115, 117, 98, 115, 99, 114, 105, 112, 116, 105, 111, 110] : List UInt8)]
 else
 .norm []) 0 fun v1 =>
 .ret [.s ([] : List UInt8)]
theorem eq_spec_OpWord a : r_spec_OpWord a = E_spec_OpWord a := (Run_eq cfg 75 _ a).trans (by kernel_rfl)
noncomputable def E_spec_l12SayVarsL1 : List DC → Out := fun v1 =>
 if (decide ((v1.getD 2 d0).ii < (((v1.getD 1 d0).ll).length : Int))) = true then
 Out.andThenB (Out.andThen (if ((v1.getD 2 d0).ii == (0 : Int)) = true then
 if ((v1.getD 0 d0).ll).length + [[DC.i (40 : Int)]].length < LIM then
 .norm [.sl (((v1.getD 0 d0).ll) ++ [[DC.i (40 : Int)]]), .sl ((v1.getD 1 d0).ll), .i ((v1.getD 2 d0).ii)]
 else
 .fail
 else
 if ((v1.getD 0 d0).ll).length + [[DC.i (44 : Int)], [DC.i (32 : Int)]].length < LIM then
 .norm [.sl (((v1.getD 0 d0).ll) ++ [[DC.i (44 : Int)], [DC.i (32 : Int)]]), .sl ((v1.getD 1 d0).ll), .i ((v1.getD 2 d0).ii)]
 else
 .fail) fun v2 =>
 if 126 = 126 ∧ 0 ≤ (v2.getD 2 d0).ii ∧ (v2.getD 2 d0).ii < (((v2.getD 1 d0).ll).length : Int) then
 if ((v2.getD 0 d0).ll).length + [[DC.i (36 : Int)]].length < LIM then
 if (((v2.getD 0 d0).ll) ++ [[DC.i (36 : Int)]]).length + (bytesRow (((((v2.getD 1 d0).ll).getD ((v2.getD 2 d0).ii).toNat []).getD 0 d0).ss)).length < LIM then
 if ((((v2.getD 0 d0).ll) ++ [[DC.i (36 : Int)]]) ++ (bytesRow (((((v2.getD 1 d0).ll).getD ((v2.getD 2 d0).ii).toNat []).getD 0 d0).ss))).length + [[DC.i (58 : Int)], [DC.i (32 : Int)]].length < LIM then
 (r_spec_TypeText [.s (((((v2.getD 1 d0).ll).getD ((v2.getD 2 d0).ii).toNat []).getD 1 d0).ss), .s (((((v2.getD 1 d0).ll).getD ((v2.getD 2 d0).ii).toNat []).getD 2 d0).ss)]).bindR fun r3 =>
 if (((((v2.getD 0 d0).ll) ++ [[DC.i (36 : Int)]]) ++ (bytesRow (((((v2.getD 1 d0).ll).getD ((v2.getD 2 d0).ii).toNat []).getD 0 d0).ss))) ++ [[DC.i (58 : Int)], [DC.i (32 : Int)]]).length + (bytesRow ((r3.getD 0 d0).ss)).length < LIM then
 Out.andThen (if ((((v2.getD 1 d0).ll).getD ((v2.getD 2 d0).ii).toNat []).getD 3 d0).bb = true then
 if ((((((v2.getD 0 d0).ll) ++ [[DC.i (36 : Int)]]) ++ (bytesRow (((((v2.getD 1 d0).ll).getD ((v2.getD 2 d0).ii).toNat []).getD 0 d0).ss))) ++ [[DC.i (58 : Int)], [DC.i (32 : Int)]]) ++ (bytesRow ((r3.getD 0 d0).ss))).length + (bytesRow ([32, 61, 32] : List UInt8)).length < LIM then
 (r_spec_l07Say [.sl (((((((v2.getD 0 d0).ll) ++ [[DC.i (36 : Int)]]) ++ (bytesRow (((((v2.getD 1 d0).ll).getD ((v2.getD 2 d0).ii).toNat []).getD 0 d0).ss))) ++ [[DC.i (58 : Int)], [DC.i (32 : Int)]]) ++ (bytesRow ((r3.getD 0 d0).ss))) ++ (bytesRow ([32, 61, 32] : List UInt8))), .i (((((v2.getD 1 d0).ll).getD ((v2.getD 2 d0).ii).toNat []).getD 4 d0).ii), .s (((((v2.getD 1 d0).ll).getD ((v2.getD 2 d0).ii).toNat []).getD 5 d0).ss), .sl (((((v2.getD 1 d0).ll).getD ((v2.getD 2 d0).ii).toNat []).getD 6 d0).ll), .sl (((((v2.getD 1 d0).ll).getD ((v2.getD 2 d0).ii).toNat []).getD 7 d0).ll)]).bindR fun r4 =>
 .norm [.sl ((r4.getD 0 d0).ll), .sl ((v2.getD 1 d0).ll), .i ((v2.getD 2 d0).ii), .s (((((v2.getD 1 d0).ll).getD ((v2.getD 2 d0).ii).toNat []).getD 0 d0).ss), .s (((((v2.getD 1 d0).ll).getD ((v2.getD 2 d0).ii).toNat []).getD 1 d0).ss), .s (((((v2.getD 1 d0).ll).getD ((v2.getD 2 d0).ii).toNat []).getD 2 d0).ss), .b (((((v2.getD 1 d0).ll).getD ((v2.getD 2 d0).ii).toNat []).getD 3 d0).bb), .i (((((v2.getD 1 d0).ll).getD ((v2.getD 2 d0).ii).toNat []).getD 4 d0).ii), .s (((((v2.getD 1 d0).ll).getD ((v2.getD 2 d0).ii).toNat []).getD 5 d0).ss), .sl (((((v2.getD 1 d0).ll).getD ((v2.getD 2 d0).ii).toNat []).getD 6 d0).ll), .sl (((((v2.getD 1 d0).ll).getD ((v2.getD 2 d0).ii).toNat []).getD 7 d0).ll), .sl (((((v2.getD 1 d0).ll).getD ((v2.getD 2 d0).ii).toNat []).getD 8 d0).ll)]
 else
 .fail
 else
 .norm [.sl ((((((v2.getD 0 d0).ll) ++ [[DC.i (36 : Int)]]) ++ (bytesRow (((((v2.getD 1 d0).ll).getD ((v2.getD 2 d0).ii).toNat []).getD 0 d0).ss))) ++ [[DC.i (58 : Int)], [DC.i (32 : Int)]]) ++ (bytesRow ((r3.getD 0 d0).ss))), .sl ((v2.getD 1 d0).ll), .i ((v2.getD 2 d0).ii), .s (((((v2.getD 1 d0).ll).getD ((v2.getD 2 d0).ii).toNat []).getD 0 d0).ss), .s (((((v2.getD 1 d0).ll).getD ((v2.getD 2 d0).ii).toNat []).getD 1 d0).ss), .s (((((v2.getD 1 d0).ll).getD ((v2.getD 2 d0).ii).toNat []).getD 2 d0).ss), .b (((((v2.getD 1 d0).ll).getD ((v2.getD 2 d0).ii).toNat []).getD 3 d0).bb), .i (((((v2.getD 1 d0).ll).getD ((v2.getD 2 d0).ii).toNat []).getD 4 d0).ii), .s (((((v2.getD 1 d0).ll).getD ((v2.getD 2 d0).ii).toNat []).getD 5 d0).ss), .sl (((((v2.getD 1 d0).ll).getD ((v2.getD 2 d0).ii).toNat []).getD 6 d0).ll), .sl (((((v2.getD 1 d0).ll).getD ((v2.getD 2 d0).ii).toNat []).getD 7 d0).ll), .sl (((((v2.getD 1 d0).ll).getD ((v2.getD 2 d0).ii).toNat []).getD 8 d0).ll)]) fun v5 =>
 (r_spec_l10SayDirs [.sl ((v5.getD 0 d0).ll), .sl ((v5.getD 11 d0).ll)]).bindR fun r6 =>
 .norm [.sl ((r6.getD 0 d0).ll), .sl ((v5.getD 1 d0).ll), .i ((v5.getD 2 d0).ii)]
 else
 .fail
 else
 .fail
 else
 .fail
 else
 .fail
 else
 .fail) 1 fun v7 =>
 .norm [.sl ((v7.getD 0 d0).ll), .sl ((v7.getD 1 d0).ll), .i (IntKind.i64.wrap ((v7.getD 2 d0).ii + (1 : Int)))]
 else
 .ex 0 [.sl ((v1.getD 0 d0).ll), .sl ((v1.getD 1 d0).ll)]
noncomputable def E_spec_l12SayVars (a : List DC) : Out :=
 Out.andThenB (Loop E_spec_l12SayVarsL1 [.sl ((a.getD 0 d0).ll), .sl ((a.getD 1 d0).ll), .i (0 : Int)]) 0 fun v8 =>
 Out.andThen (if (decide ((((v8.getD 1 d0).ll).length : Int) > (0 : Int))) = true then
 if ((v8.getD 0 d0).ll).length + [[DC.i (41 : Int)]].length < LIM then
 .norm [.sl (((v8.getD 0 d0).ll) ++ [[DC.i (41 : Int)]])]
 else
 .fail
 else
 .norm [.sl ((v8.getD 0 d0).ll)]) fun v9 =>
 .ret [.sl ((v9.getD 0 d0).ll)]
theorem eq_spec_l12SayVars a : r_spec_l12SayVars a = E_spec_l12SayVars a := (Run_eq cfg 76 _ a).trans (by kernel_rfl)
noncomputable def E_spec_l10SayDirsL1 : List DC → Out := fun v1 =>
 if (decide ((v1.getD 2 d0).ii < (((v1.getD 1 d0).ll).length : Int))) = true then
 Out.andThenB (if ((v1.getD 0 d0).ll).length + [[DC.i (32 : Int)], [DC.i (64 : Int)]].length < LIM then
 if 155 = 155 ∧ 0 ≤ (v1.getD 2 d0).ii ∧ (v1.getD 2 d0).ii < (((v1.getD 1 d0).ll).length : Int) then
 if (((v1.getD 0 d0).ll) ++ [[DC.i (32 : Int)], [DC.i (64 : Int)]]).length + (bytesRow (((((v1.getD 1 d0).ll).getD ((v1.getD 2 d0).ii).toNat []).getD 0 d0).ss)).length < LIM then
 if 155 = 155 ∧ 0 ≤ (v1.getD 2 d0).ii ∧ (v1.getD 2 d0).ii < (((v1.getD 1 d0).ll).length : Int) then
 (r_spec_l10Say [.sl ((((v1.getD 0 d0).ll) ++ [[DC.i (32 : Int)], [DC.i (64 : Int)]]) ++ (bytesRow (((((v1.getD 1 d0).ll).getD ((v1.getD 2 d0).ii).toNat []).getD 0 d0).ss))), .sl (((((v1.getD 1 d0).ll).getD ((v1.getD 2 d0).ii).toNat []).getD 1 d0).ll)]).bindR fun r2 =>
 .norm [.sl ((r2.getD 0 d0).ll), .sl ((v1.getD 1 d0).ll), .i ((v1.getD 2 d0).ii)]
 else
 .fail
 else
 .fail
 else
 .fail
 else
 .fail) 1 fun v3 =>
 .norm [.sl ((v3.getD 0 d0).ll), .sl ((v3.getD 1 d0).ll), .i (IntKind.i64.wrap ((v3.getD 2 d0).ii + (1 : Int)))]
 else
 .ex 0 [.sl ((v1.getD 0 d0).ll)]
noncomputable def E_spec_l10SayDirs (a : List DC) : Out :=
 Out.andThenB (Loop E_spec_l10SayDirsL1 [.sl ((a.getD 0 d0).ll), .sl ((a.getD 1 d0).ll), .i (0 : Int)]) 0 fun v4 =>
 .ret [.sl ((v4.getD 0 d0).ll)]
theorem eq_spec_l10SayDirs a : r_spec_l10SayDirs a = E_spec_l10SayDirs a := (Run_eq cfg 61 _ a).trans (by kernel_rfl)
noncomputable def E_spec_l11Block (a : List DC) : Out :=
 if ((a.getD 0 d0).ll).length + [[DC.i (32 : Int)], [DC.i (123 : Int)], [DC.i (10 : Int)]].length < LIM then
 (r_spec_l11Say [.sl (((a.getD 0 d0).ll) ++ [[DC.i (32 : Int)], [DC.i (123 : Int)], [DC.i (10 : Int)]]), .sl ((a.getD 1 d0).ll), .i (IntKind.i64.wrap ((a.getD 2 d0).ii + (1 : Int)))]).bindR fun r1 =>
 (r_spec_l11Blanks [.sl ((r1.getD 0 d0).ll), .i ((a.getD 2 d0).ii)]).bindR fun r2 =>
 if ((r2.getD 0 d0).ll).length + [[DC.i (125 : Int)]].length < LIM then
 .ret [.sl (((r2.getD 0 d0).ll) ++ [[DC.i (125 : Int)]])]
 else
 .fail
 else
 .fail
theorem eq_spec_l11Block a : r_spec_l11Block a = E_spec_l11Block a := (Run_eq cfg 62 _ a).trans (by kernel_rfl)
noncomputable def E_impl_OpOk (a : List DC) : Out :=
 Out.andThen ((r_impl_OpWord [.i ((a.getD 0 d0).ii)]).bindR fun r1 =>
 if (!((r1.getD 0 d0).ss == ([] : List UInt8))) = true then
 if ((a.getD 1 d0).ss == ([] : List UInt8)) = true then
 (r_slices_ContainsFunc_impl_VarDef__impl_OpOk_1 [.sl ((a.getD 2 d0).ll)]).bindR fun r2 =>
 if (!((r2.getD 0 d0).bb)) = true then
 (r_impl_DirsOk [.sl ((a.getD 3 d0).ll)]).bindR fun r3 =>
 if (r3.getD 0 d0).bb = true then
 (r_impl_selsOk [.sl ((a.getD 4 d0).ll)]).bindR fun r4 =>
 .norm [.b ((r4.getD 0 d0).bb)]
 else
 .norm [.b false]
 else
 .norm [.b false]
 else
 (r_impl_NameOk [.s ((a.getD 1 d0).ss)]).bindR fun r5 =>
 if (r5.getD 0 d0).bb = true then
 (r_slices_ContainsFunc_impl_VarDef__impl_OpOk_1 [.sl ((a.getD 2 d0).ll)]).bindR fun r6 =>
 if (!((r6.getD 0 d0).bb)) = true then
 (r_impl_DirsOk [.sl ((a.getD 3 d0).ll)]).bindR fun r7 =>
 if (r7.getD 0 d0).bb = true then
 (r_impl_selsOk [.sl ((a.getD 4 d0).ll)]).bindR fun r8 =>
 .norm [.b ((r8.getD 0 d0).bb)]
 else
 .norm [.b false]
 else
 .norm [.b false]
 else
 .norm [.b false]
 else
 .norm [.b false]) fun v9 =>
 .ret [.b ((v9.getD 0 d0).bb)]
theorem eq_impl_OpOk a : r_impl_OpOk a = E_impl_OpOk a := (Run_eq cfg 78 _ a).trans (by kernel_rfl)
noncomputable def E_impl_bodyText (a : List DC) : Out :=
 (r_impl_SelsText [.sl ((a.getD 0 d0).ll), .i (1 : Int)]).bindR fun r1 =>
 if ([123, 10] : List UInt8).length + ((r1.getD 0 d0).ss).length < LIM then
 if (([123, 10] : List UInt8) ++ ((r1.getD 0 d0).ss)).length + ([125, 10] : List UInt8).length < LIM then
 .ret [.s ((([123, 10] : List UInt8) ++ ((r1.getD 0 d0).ss)) ++ ([125, 10] : List UInt8))]
 else
 .fail
 else
 .fail
theorem eq_impl_bodyText a : r_impl_bodyText a = E_impl_bodyText a := (Run_eq cfg 64 _ a).trans (by kernel_rfl)
noncomputable def E_impl_OpWord (a : List DC) : Out :=
 (r_impl_in [.i ((a.getD 0 d0).ii), .i (1 : Int), .i (IntKind.i64.wrap (([[DC.s ([] : List UInt8)], [DC.s ([113, 117, 101, 114, 121] : List UInt8)], [DC.s ([109, 117, 116, 97, 116, 105, 111, 110] : List UInt8)], [DC.s ([115, 117, 98, 115, 99, 114, 105, 112, 116, 105, 111, 110] : List UInt8)]].length : Int) - (1 : Int)))]).bindR fun r1 =>
 if (!((r1.getD 0 d0).bb)) = true then
 .ret [.s ([] : List UInt8)]
 else
 if 9 = 9 ∧ 0 ≤ (a.getD 0 d0).ii ∧ (a.getD 0 d0).ii < ([[DC.s ([] : List UInt8)], [DC.s ([113, 117, 101, 114, 121] : List UInt8)], [DC.s ([109, 117, 116, 97, 116, 105, 111, 110] : List UInt8)], [DC.s ([115, 117, 98, 115, 99, 114, 105, 112, 116, 105, 111, 110] : List UInt8)]].length : Int) then
 .ret [.s ((([[DC.s ([] : List UInt8)], [DC.s ([113, 117, 101, 114, 121] : List UInt8)], [DC.s ([109, 117, 116, 97, 116, 105, 111, 110] : List UInt8)], [DC.s ([115, 117, 98, 115, 99, 114, 105, 112, 116, 105, 111, 110] : List UInt8)]].getD ((a.getD 0 d0).ii).toNat []).getD 0 d0).ss)]
 else
 .fail
theorem eq_impl_OpWord a : r_impl_OpWord a = E_impl_OpWord a := (Run_eq cfg 79 _ a).trans (by kernel_rfl)
noncomputable def E_strings_Join (a : List DC) : Out := match primW 9 qJoin h_strings_Join a with | some r => .ret r | none => .fail
theorem eq_strings_Join a : r_strings_Join a = E_strings_Join a := (Run_eq cfg 80 h_strings_Join a).trans (by kernel_rfl)
noncomputable def E_laws_eqVarDefSL1 : List DC → Out := fun v1 =>
 if (decide ((v1.getD 2 d0).ii < (((v1.getD 0 d0).ll).length : Int))) = true then
 Out.andThenB (if 126 = 126 ∧ 0 ≤ (v1.getD 2 d0).ii ∧ (v1.getD 2 d0).ii < (((v1.getD 0 d0).ll).length : Int) then
 if 126 = 126 ∧ 0 ≤ (v1.getD 2 d0).ii ∧ (v1.getD 2 d0).ii < (((v1.getD 1 d0).ll).length : Int) then
 (r_laws_eqVarDef [.s (((((v1.getD 0 d0).ll).getD ((v1.getD 2 d0).ii).toNat []).getD 0 d0).ss), .s (((((v1.getD 0 d0).ll).getD ((v1.getD 2 d0).ii).toNat []).getD 1 d0).ss), .s (((((v1.getD 0 d0).ll).getD ((v1.getD 2 d0).ii).toNat []).getD 2 d0).ss), .b (((((v1.getD 0 d0).ll).getD ((v1.getD 2 d0).ii).toNat []).getD 3 d0).bb), .i (((((v1.getD 0 d0).ll).getD ((v1.getD 2 d0).ii).toNat []).getD 4 d0).ii), .s (((((v1.getD 0 d0).ll).getD ((v1.getD 2 d0).ii).toNat []).getD 5 d0).ss), .sl (((((v1.getD 0 d0).ll).getD ((v1.getD 2 d0).ii).toNat []).getD 6 d0).ll), .sl (((((v1.getD 0 d0).ll).getD ((v1.getD 2 d0).ii).toNat []).getD 7 d0).ll), .sl (((((v1.getD 0 d0).ll).getD ((v1.getD 2 d0).ii).toNat []).getD 8 d0).ll), .s (((((v1.getD 1 d0).ll).getD ((v1.getD 2 d0).ii).toNat []).getD 0 d0).ss), .s (((((v1.getD 1 d0).ll).getD ((v1.getD 2 d0).ii).toNat []).getD 1 d0).ss), .s (((((v1.getD 1 d0).ll).getD ((v1.getD 2 d0).ii).toNat []).getD 2 d0).ss), .b (((((v1.getD 1 d0).ll).getD ((v1.getD 2 d0).ii).toNat []).getD 3 d0).bb), .i (((((v1.getD 1 d0).ll).getD ((v1.getD 2 d0).ii).toNat []).getD 4 d0).ii), .s (((((v1.getD 1 d0).ll).getD ((v1.getD 2 d0).ii).toNat []).getD 5 d0).ss), .sl (((((v1.getD 1 d0).ll).getD ((v1.getD 2 d0).ii).toNat []).getD 6 d0).ll), .sl (((((v1.getD 1 d0).ll).getD ((v1.getD 2 d0).ii).toNat []).getD 7 d0).ll), .sl (((((v1.getD 1 d0).ll).getD ((v1.getD 2 d0).ii).toNat []).getD 8 d0).ll)]).bindR fun r2 =>
 if (!((r2.getD 0 d0).bb)) = true then
 .ret [.b false]
 else
 .norm [.sl ((v1.getD 0 d0).ll), .sl ((v1.getD 1 d0).ll), .i ((v1.getD 2 d0).ii)]
 else
 .fail
 else
 .fail) 1 fun v3 =>
 .norm [.sl ((v3.getD 0 d0).ll), .sl ((v3.getD 1 d0).ll), .i (IntKind.i64.wrap ((v3.getD 2 d0).ii + (1 : Int)))]
 else
 .ex 0 []
noncomputable def E_laws_eqVarDefS (a : List DC) : Out :=
 if ((((a.getD 0 d0).ll).length : Int) != (((a.getD 1 d0).ll).length : Int)) = true then
 .ret [.b false]
 else
 Out.andThenB (Loop E_laws_eqVarDefSL1 [.sl ((a.getD 0 d0).ll), .sl ((a.getD 1 d0).ll), .i (0 : Int)]) 0 fun v4 =>
 .ret [.b true]
theorem eq_laws_eqVarDefS a : r_laws_eqVarDefS a = E_laws_eqVarDefS a := (Run_eq cfg 81 _ a).trans (by kernel_rfl)
noncomputable def E_laws_szArgSL1 : List DC → Out := fun v1 =>
 if (decide ((v1.getD 2 d0).ii < (((v1.getD 0 d0).ll).length : Int))) = true then
 Out.andThenB (if 186 = 186 ∧ 0 ≤ (v1.getD 2 d0).ii ∧ (v1.getD 2 d0).ii < (((v1.getD 0 d0).ll).length : Int) then
 (r_laws_szArg [.s (((((v1.getD 0 d0).ll).getD ((v1.getD 2 d0).ii).toNat []).getD 0 d0).ss), .i (((((v1.getD 0 d0).ll).getD ((v1.getD 2 d0).ii).toNat []).getD 1 d0).ii), .s (((((v1.getD 0 d0).ll).getD ((v1.getD 2 d0).ii).toNat []).getD 2 d0).ss), .sl (((((v1.getD 0 d0).ll).getD ((v1.getD 2 d0).ii).toNat []).getD 3 d0).ll), .sl (((((v1.getD 0 d0).ll).getD ((v1.getD 2 d0).ii).toNat []).getD 4 d0).ll), .i ((v1.getD 1 d0).ii)]).bindR fun r2 =>
 if (decide ((r2.getD 0 d0).ii < (0 : Int))) = true then
 .ret [.i (-1 : Int)]
 else
 .norm [.sl ((v1.getD 0 d0).ll), .i ((r2.getD 0 d0).ii), .i ((v1.getD 2 d0).ii)]
 else
 .fail) 1 fun v3 =>
 .norm [.sl ((v3.getD 0 d0).ll), .i ((v3.getD 1 d0).ii), .i (IntKind.i64.wrap ((v3.getD 2 d0).ii + (1 : Int)))]
 else
 .ex 0 [.i ((v1.getD 1 d0).ii)]
noncomputable def E_laws_szArgS (a : List DC) : Out :=
 if (decide ((IntKind.i64.wrap ((a.getD 1 d0).ii - (((a.getD 0 d0).ll).length : Int))) < (0 : Int))) = true then
 .ret [.i (-1 : Int)]
 else
 Out.andThenB (Loop E_laws_szArgSL1 [.sl ((a.getD 0 d0).ll), .i (IntKind.i64.wrap ((a.getD 1 d0).ii - (((a.getD 0 d0).ll).length : Int))), .i (0 : Int)]) 0 fun v4 =>
 .ret [.i ((v4.getD 0 d0).ii)]
theorem eq_laws_szArgS a : r_laws_szArgS a = E_laws_szArgS a := (Run_eq cfg 82 _ a).trans (by kernel_rfl)
noncomputable def E_laws_toArgSL1 : List DC → Out := fun v1 =>
 if (decide ((v1.getD 2 d0).ii < (((v1.getD 0 d0).ll).length : Int))) = true then
 Out.andThenB (if 186 = 186 ∧ 0 ≤ (v1.getD 2 d0).ii ∧ (v1.getD 2 d0).ii < (((v1.getD 0 d0).ll).length : Int) then
 (r_laws_toArg [.s (((((v1.getD 0 d0).ll).getD ((v1.getD 2 d0).ii).toNat []).getD 0 d0).ss), .i (((((v1.getD 0 d0).ll).getD ((v1.getD 2 d0).ii).toNat []).getD 1 d0).ii), .s (((((v1.getD 0 d0).ll).getD ((v1.getD 2 d0).ii).toNat []).getD 2 d0).ss), .sl (((((v1.getD 0 d0).ll).getD ((v1.getD 2 d0).ii).toNat []).getD 3 d0).ll), .sl (((((v1.getD 0 d0).ll).getD ((v1.getD 2 d0).ii).toNat []).getD 4 d0).ll)]).bindR fun r2 =>
 if 189 = 189 ∧ 0 ≤ (v1.getD 2 d0).ii ∧ (v1.getD 2 d0).ii < (((v1.getD 1 d0).ll).length : Int) then
 .norm [.sl ((v1.getD 0 d0).ll), .sl (((v1.getD 1 d0).ll).set (((v1.getD 2 d0).ii).toNat) (setRunD (((v1.getD 1 d0).ll).getD (((v1.getD 2 d0).ii).toNat) []) 0 [DC.s ((r2.getD 0 d0).ss), DC.i ((r2.getD 1 d0).ii), DC.s ((r2.getD 2 d0).ss), DC.sl ((r2.getD 3 d0).ll), DC.sl ((r2.getD 4 d0).ll)])), .i ((v1.getD 2 d0).ii)]
 else
 .fail
 else
 .fail) 1 fun v3 =>
 .norm [.sl ((v3.getD 0 d0).ll), .sl ((v3.getD 1 d0).ll), .i (IntKind.i64.wrap ((v3.getD 2 d0).ii + (1 : Int)))]
 else
 .ex 0 [.sl ((v1.getD 1 d0).ll)]
noncomputable def E_laws_toArgS (a : List DC) : Out :=
 if 0 ≤ (((a.getD 0 d0).ll).length : Int) ∧ (((a.getD 0 d0).ll).length : Int) < (LIM : Int) ∧ (((a.getD 0 d0).ll).length : Int) = (((a.getD 0 d0).ll).length : Int) ∧ 88 ≤ 1024 ∧ 0 < 5 then
 Out.andThenB (Loop E_laws_toArgSL1 [.sl ((a.getD 0 d0).ll), .sl (List.replicate (((a.getD 0 d0).ll).length : Int).toNat [DC.s [], DC.i 0, DC.s [], DC.sl [], DC.sl []]), .i (0 : Int)]) 0 fun v4 =>
 .ret [.sl ((v4.getD 0 d0).ll)]
 else
 .fail
theorem eq_laws_toArgS a : r_laws_toArgS a = E_laws_toArgS a := (Run_eq cfg 87 _ a).trans (by kernel_rfl)
noncomputable def E_spec_l11CountL1 : List DC → Out := fun v1 =>
 Out.andThen (if (decide ((v1.getD 1 d0).ii < (((v1.getD 8 d0).ll).length : Int))) = true then
 .norm [.i ((v1.getD 0 d0).ii), .i ((v1.getD 1 d0).ii), .b (decide ((v1.getD 0 d0).ii ≥ (0 : Int))), .i ((v1.getD 2 d0).ii), .s ((v1.getD 3 d0).ss), .s ((v1.getD 4 d0).ss), .s ((v1.getD 5 d0).ss), .sl ((v1.getD 6 d0).ll), .sl ((v1.getD 7 d0).ll), .sl ((v1.getD 8 d0).ll)]
 else
 .norm [.i ((v1.getD 0 d0).ii), .i ((v1.getD 1 d0).ii), .b false, .i ((v1.getD 2 d0).ii), .s ((v1.getD 3 d0).ss), .s ((v1.getD 4 d0).ss), .s ((v1.getD 5 d0).ss), .sl ((v1.getD 6 d0).ll), .sl ((v1.getD 7 d0).ll), .sl ((v1.getD 8 d0).ll)]) fun v2 =>
 if (v2.getD 2 d0).bb = true then
 Out.andThenB (if 89 = 89 ∧ 0 ≤ (v2.getD 1 d0).ii ∧ (v2.getD 1 d0).ii < (((v2.getD 9 d0).ll).length : Int) then
 (r_spec_l11Count [.i (((((v2.getD 9 d0).ll).getD ((v2.getD 1 d0).ii).toNat []).getD 0 d0).ii), .s (((((v2.getD 9 d0).ll).getD ((v2.getD 1 d0).ii).toNat []).getD 1 d0).ss), .s (((((v2.getD 9 d0).ll).getD ((v2.getD 1 d0).ii).toNat []).getD 2 d0).ss), .s (((((v2.getD 9 d0).ll).getD ((v2.getD 1 d0).ii).toNat []).getD 3 d0).ss), .sl (((((v2.getD 9 d0).ll).getD ((v2.getD 1 d0).ii).toNat []).getD 4 d0).ll), .sl (((((v2.getD 9 d0).ll).getD ((v2.getD 1 d0).ii).toNat []).getD 5 d0).ll), .sl (((((v2.getD 9 d0).ll).getD ((v2.getD 1 d0).ii).toNat []).getD 6 d0).ll), .i ((v2.getD 0 d0).ii)]).bindR fun r3 =>
 .norm [.i ((r3.getD 0 d0).ii), .i ((v2.getD 1 d0).ii), .i ((v2.getD 3 d0).ii), .s ((v2.getD 4 d0).ss), .s ((v2.getD 5 d0).ss), .s ((v2.getD 6 d0).ss), .sl ((v2.getD 7 d0).ll), .sl ((v2.getD 8 d0).ll), .sl ((v2.getD 9 d0).ll)]
 else
 .fail) 1 fun v4 =>
 .norm [.i ((v4.getD 0 d0).ii), .i (IntKind.i64.wrap ((v4.getD 1 d0).ii + (1 : Int))), .i ((v4.getD 2 d0).ii), .s ((v4.getD 3 d0).ss), .s ((v4.getD 4 d0).ss), .s ((v4.getD 5 d0).ss), .sl ((v4.getD 6 d0).ll), .sl ((v4.getD 7 d0).ll), .sl ((v4.getD 8 d0).ll)]
 else
 .ex 0 [.i ((v2.getD 0 d0).ii)]
noncomputable def E_spec_l11Count (a : List DC) : Out :=
 Out.andThenB (Loop E_spec_l11CountL1 [.i (IntKind.i64.wrap ((a.getD 7 d0).ii - (1 : Int))), .i (0 : Int), .i ((a.getD 0 d0).ii), .s ((a.getD 1 d0).ss), .s ((a.getD 2 d0).ss), .s ((a.getD 3 d0).ss), .sl ((a.getD 4 d0).ll), .sl ((a.getD 5 d0).ll), .sl ((a.getD 6 d0).ll)]) 0 fun v5 =>
 .ret [.i ((v5.getD 0 d0).ii)]
theorem eq_spec_l11Count a : r_spec_l11Count a = E_spec_l11Count a := (Run_eq cfg 83 _ a).trans (by kernel_rfl)
noncomputable def E_spec_l11RightL1 : List DC → Out := fun v5 =>
 if (decide ((v5.getD 1 d0).ii < (((v5.getD 8 d0).ll).length : Int))) = true then
 Out.andThenB (if 89 = 89 ∧ 0 ≤ (v5.getD 1 d0).ii ∧ (v5.getD 1 d0).ii < (((v5.getD 8 d0).ll).length : Int) then
 (r_spec_l11Right [.i (((((v5.getD 8 d0).ll).getD ((v5.getD 1 d0).ii).toNat []).getD 0 d0).ii), .s (((((v5.getD 8 d0).ll).getD ((v5.getD 1 d0).ii).toNat []).getD 1 d0).ss), .s (((((v5.getD 8 d0).ll).getD ((v5.getD 1 d0).ii).toNat []).getD 2 d0).ss), .s (((((v5.getD 8 d0).ll).getD ((v5.getD 1 d0).ii).toNat []).getD 3 d0).ss), .sl (((((v5.getD 8 d0).ll).getD ((v5.getD 1 d0).ii).toNat []).getD 4 d0).ll), .sl (((((v5.getD 8 d0).ll).getD ((v5.getD 1 d0).ii).toNat []).getD 5 d0).ll), .sl (((((v5.getD 8 d0).ll).getD ((v5.getD 1 d0).ii).toNat []).getD 6 d0).ll), .i (IntKind.i64.wrap ((v5.getD 0 d0).ii - (1 : Int)))]).bindR fun r6 =>
 if (!((r6.getD 0 d0).bb)) = true then
 .ret [.b false]
 else
 .norm [.i ((v5.getD 0 d0).ii), .i ((v5.getD 1 d0).ii), .i ((v5.getD 2 d0).ii), .s ((v5.getD 3 d0).ss), .s ((v5.getD 4 d0).ss), .s ((v5.getD 5 d0).ss), .sl ((v5.getD 6 d0).ll), .sl ((v5.getD 7 d0).ll), .sl ((v5.getD 8 d0).ll)]
 else
 .fail) 1 fun v7 =>
 .norm [.i ((v7.getD 0 d0).ii), .i (IntKind.i64.wrap ((v7.getD 1 d0).ii + (1 : Int))), .i ((v7.getD 2 d0).ii), .s ((v7.getD 3 d0).ss), .s ((v7.getD 4 d0).ss), .s ((v7.getD 5 d0).ss), .sl ((v7.getD 6 d0).ll), .sl ((v7.getD 7 d0).ll), .sl ((v7.getD 8 d0).ll)]
 else
 .ex 0 []
noncomputable def E_spec_l11Right (a : List DC) : Out :=
 Out.andThen (if ((a.getD 7 d0).ii == (0 : Int)) = true then
 .norm [.i ((a.getD 7 d0).ii), .b true, .i ((a.getD 0 d0).ii), .s ((a.getD 1 d0).ss), .s ((a.getD 2 d0).ss), .s ((a.getD 3 d0).ss), .sl ((a.getD 4 d0).ll), .sl ((a.getD 5 d0).ll), .sl ((a.getD 6 d0).ll)]
 else
 (r_spec_l11Names [.i ((a.getD 0 d0).ii), .s ((a.getD 1 d0).ss), .s ((a.getD 2 d0).ss), .s ((a.getD 3 d0).ss), .sl ((a.getD 4 d0).ll), .sl ((a.getD 5 d0).ll), .sl ((a.getD 6 d0).ll)]).bindR fun r1 =>
 if (!((r1.getD 0 d0).bb)) = true then
 .norm [.i ((a.getD 7 d0).ii), .b true, .i ((a.getD 0 d0).ii), .s ((a.getD 1 d0).ss), .s ((a.getD 2 d0).ss), .s ((a.getD 3 d0).ss), .sl ((a.getD 4 d0).ll), .sl ((a.getD 5 d0).ll), .sl ((a.getD 6 d0).ll)]
 else
 (r_spec_ArgsOk [.sl ((a.getD 4 d0).ll)]).bindR fun r2 =>
 if (!((r2.getD 0 d0).bb)) = true then
 .norm [.i ((a.getD 7 d0).ii), .b true, .i ((a.getD 0 d0).ii), .s ((a.getD 1 d0).ss), .s ((a.getD 2 d0).ss), .s ((a.getD 3 d0).ss), .sl ((a.getD 4 d0).ll), .sl ((a.getD 5 d0).ll), .sl ((a.getD 6 d0).ll)]
 else
 (r_spec_DirsOk [.sl ((a.getD 5 d0).ll)]).bindR fun r3 =>
 .norm [.i ((a.getD 7 d0).ii), .b (!((r3.getD 0 d0).bb)), .i ((a.getD 0 d0).ii), .s ((a.getD 1 d0).ss), .s ((a.getD 2 d0).ss), .s ((a.getD 3 d0).ss), .sl ((a.getD 4 d0).ll), .sl ((a.getD 5 d0).ll), .sl ((a.getD 6 d0).ll)]) fun v4 =>
 if (v4.getD 1 d0).bb = true then
 .ret [.b false]
 else
 Out.andThenB (Loop E_spec_l11RightL1 [.i ((v4.getD 0 d0).ii), .i (0 : Int), .i ((v4.getD 2 d0).ii), .s ((v4.getD 3 d0).ss), .s ((v4.getD 4 d0).ss), .s ((v4.getD 5 d0).ss), .sl ((v4.getD 6 d0).ll), .sl ((v4.getD 7 d0).ll), .sl ((v4.getD 8 d0).ll)]) 0 fun v8 =>
 .ret [.b true]
theorem eq_spec_l11Right a : r_spec_l11Right a = E_spec_l11Right a := (Run_eq cfg 84 _ a).trans (by kernel_rfl)
noncomputable def E_spec_l11BlanksL1 : List DC → Out := fun v1 =>
 if (decide ((v1.getD 2 d0).ii < (IntKind.i64.wrap ((2 : Int) * (v1.getD 1 d0).ii)))) = true then
 Out.andThenB (if ((v1.getD 0 d0).ll).length + [[DC.i (32 : Int)]].length < LIM then
 .norm [.sl (((v1.getD 0 d0).ll) ++ [[DC.i (32 : Int)]]), .i ((v1.getD 1 d0).ii), .i ((v1.getD 2 d0).ii)]
 else
 .fail) 1 fun v2 =>
 .norm [.sl ((v2.getD 0 d0).ll), .i ((v2.getD 1 d0).ii), .i (IntKind.i64.wrap ((v2.getD 2 d0).ii + (1 : Int)))]
 else
 .ex 0 [.sl ((v1.getD 0 d0).ll)]
noncomputable def E_spec_l11Blanks (a : List DC) : Out :=
 Out.andThenB (Loop E_spec_l11BlanksL1 [.sl ((a.getD 0 d0).ll), .i ((a.getD 1 d0).ii), .i (0 : Int)]) 0 fun v3 =>
 .ret [.sl ((v3.getD 0 d0).ll)]
theorem eq_spec_l11Blanks a : r_spec_l11Blanks a = E_spec_l11Blanks a := (Run_eq cfg 85 _ a).trans (by kernel_rfl)
noncomputable def E_spec_l10SayL1 : List DC → Out := fun v1 =>
 if (decide ((v1.getD 2 d0).ii < (((v1.getD 1 d0).ll).length : Int))) = true then
 Out.andThenB (Out.andThen (if ((v1.getD 2 d0).ii == (0 : Int)) = true then
 if ((v1.getD 0 d0).ll).length + [[DC.i (40 : Int)]].length < LIM then
 .norm [.sl (((v1.getD 0 d0).ll) ++ [[DC.i (40 : Int)]]), .sl ((v1.getD 1 d0).ll), .i ((v1.getD 2 d0).ii)]
 else
 .fail
 else
 if ((v1.getD 0 d0).ll).length + [[DC.i (44 : Int)], [DC.i (32 : Int)]].length < LIM then
 .norm [.sl (((v1.getD 0 d0).ll) ++ [[DC.i (44 : Int)], [DC.i (32 : Int)]]), .sl ((v1.getD 1 d0).ll), .i ((v1.getD 2 d0).ii)]
 else
 .fail) fun v2 =>
 if 189 = 189 ∧ 0 ≤ (v2.getD 2 d0).ii ∧ (v2.getD 2 d0).ii < (((v2.getD 1 d0).ll).length : Int) then
 if ((v2.getD 0 d0).ll).length + (bytesRow (((((v2.getD 1 d0).ll).getD ((v2.getD 2 d0).ii).toNat []).getD 0 d0).ss)).length < LIM then
 if (((v2.getD 0 d0).ll) ++ (bytesRow (((((v2.getD 1 d0).ll).getD ((v2.getD 2 d0).ii).toNat []).getD 0 d0).ss))).length + [[DC.i (58 : Int)], [DC.i (32 : Int)]].length < LIM then
 if 189 = 189 ∧ 0 ≤ (v2.getD 2 d0).ii ∧ (v2.getD 2 d0).ii < (((v2.getD 1 d0).ll).length : Int) then
 (r_spec_l07Say [.sl ((((v2.getD 0 d0).ll) ++ (bytesRow (((((v2.getD 1 d0).ll).getD ((v2.getD 2 d0).ii).toNat []).getD 0 d0).ss))) ++ [[DC.i (58 : Int)], [DC.i (32 : Int)]]), .i (((((v2.getD 1 d0).ll).getD ((v2.getD 2 d0).ii).toNat []).getD 1 d0).ii), .s (((((v2.getD 1 d0).ll).getD ((v2.getD 2 d0).ii).toNat []).getD 2 d0).ss), .sl (((((v2.getD 1 d0).ll).getD ((v2.getD 2 d0).ii).toNat []).getD 3 d0).ll), .sl (((((v2.getD 1 d0).ll).getD ((v2.getD 2 d0).ii).toNat []).getD 4 d0).ll)]).bindR fun r3 =>
 .norm [.sl ((r3.getD 0 d0).ll), .sl ((v2.getD 1 d0).ll), .i ((v2.getD 2 d0).ii)]
 else
 .fail
 else
 .fail
 else
 .fail
 else
 .fail) 1 fun v4 =>
 .norm [.sl ((v4.getD 0 d0).ll), .sl ((v4.getD 1 d0).ll), .i (IntKind.i64.wrap ((v4.getD 2 d0).ii + (1 : Int)))]
 else
 .ex 0 [.sl ((v1.getD 0 d0).ll), .sl ((v1.getD 1 d0).ll)]
noncomputable def E_spec_l10Say (a : List DC) : Out :=
 Out.andThenB (Loop E_spec_l10SayL1 [.sl ((a.getD 0 d0).ll), .sl ((a.getD 1 d0).ll), .i (0 : Int)]) 0 fun v5 =>
 Out.andThen (if (decide ((((v5.getD 1 d0).ll).length : Int) > (0 : Int))) = true then
 if ((v5.getD 0 d0).ll).length + [[DC.i (41 : Int)]].length < LIM then
 .norm [.sl (((v5.getD 0 d0).ll) ++ [[DC.i (41 : Int)]])]
 else
 .fail
 else
 .norm [.sl ((v5.getD 0 d0).ll)]) fun v6 =>
 .ret [.sl ((v6.getD 0 d0).ll)]
theorem eq_spec_l10Say a : r_spec_l10Say a = E_spec_l10Say a := (Run_eq cfg 86 _ a).trans (by kernel_rfl)
noncomputable def E_slices_IndexFunc_impl_Sel__impl_SelsText_1L1 : List DC → Out := fun v1 =>
 if (decide ((v1.getD 2 d0).ii < (v1.getD 1 d0).ii)) = true then
 Out.andThenB (if 89 = 89 ∧ 0 ≤ (v1.getD 2 d0).ii ∧ (v1.getD 2 d0).ii < (((v1.getD 0 d0).ll).length : Int) then
 (r_impl_SelsText_1 [.i (((((v1.getD 0 d0).ll).getD ((v1.getD 2 d0).ii).toNat []).getD 0 d0).ii), .s (((((v1.getD 0 d0).ll).getD ((v1.getD 2 d0).ii).toNat []).getD 1 d0).ss), .s (((((v1.getD 0 d0).ll).getD ((v1.getD 2 d0).ii).toNat []).getD 2 d0).ss), .s (((((v1.getD 0 d0).ll).getD ((v1.getD 2 d0).ii).toNat []).getD 3 d0).ss), .sl (((((v1.getD 0 d0).ll).getD ((v1.getD 2 d0).ii).toNat []).getD 4 d0).ll), .sl (((((v1.getD 0 d0).ll).getD ((v1.getD 2 d0).ii).toNat []).getD 5 d0).ll), .sl (((((v1.getD 0 d0).ll).getD ((v1.getD 2 d0).ii).toNat []).getD 6 d0).ll)]).bindR fun r2 =>
 if (r2.getD 0 d0).bb = true then
 .ret [.i ((v1.getD 2 d0).ii)]
 else
 .norm [.sl ((v1.getD 0 d0).ll), .i ((v1.getD 1 d0).ii), .i ((v1.getD 2 d0).ii)]
 else
 .fail) 1 fun v3 =>
 .norm [.sl ((v3.getD 0 d0).ll), .i ((v3.getD 1 d0).ii), .i (IntKind.i64.wrap ((v3.getD 2 d0).ii + (1 : Int)))]
 else
 .ex 0 []
noncomputable def E_slices_IndexFunc_impl_Sel__impl_SelsText_1 (a : List DC) : Out :=
 Out.andThenB (Loop E_slices_IndexFunc_impl_Sel__impl_SelsText_1L1 [.sl ((a.getD 0 d0).ll), .i (((a.getD 0 d0).ll).length : Int), .i (0 : Int)]) 0 fun v4 =>
 .ret [.i (-1 : Int)]
theorem eq_slices_IndexFunc_impl_Sel__impl_SelsText_1 a : r_slices_IndexFunc_impl_Sel__impl_SelsText_1 a = E_slices_IndexFunc_impl_Sel__impl_SelsText_1 a := (Run_eq cfg 88 _ a).trans (by kernel_rfl)
noncomputable def E_strings_Repeat (a : List DC) : Out := match primH [.s, .i .i64] [.s] qRepeat h_strings_Repeat a with | some r => .ret r | none => .fail
theorem eq_strings_Repeat a : r_strings_Repeat a = E_strings_Repeat a := (Run_eq cfg 90 h_strings_Repeat a).trans (by kernel_rfl)
noncomputable def E_impl_selHead (a : List DC) : Out :=
 Out.andThenB (if ((a.getD 0 d0).ii == (1 : Int)) = true then
 Out.andThen (if (!((a.getD 1 d0).ss == ([] : List UInt8))) = true then
 if ((a.getD 1 d0).ss).length + ([58, 32] : List UInt8).length < LIM then
 .norm [.s (((a.getD 1 d0).ss) ++ ([58, 32] : List UInt8)), .i ((a.getD 0 d0).ii), .s ((a.getD 1 d0).ss), .s ((a.getD 2 d0).ss), .s ((a.getD 3 d0).ss), .sl ((a.getD 4 d0).ll), .sl ((a.getD 5 d0).ll), .sl ((a.getD 6 d0).ll)]
 else
 .fail
 else
 .norm [.s ([] : List UInt8), .i ((a.getD 0 d0).ii), .s ((a.getD 1 d0).ss), .s ((a.getD 2 d0).ss), .s ((a.getD 3 d0).ss), .sl ((a.getD 4 d0).ll), .sl ((a.getD 5 d0).ll), .sl ((a.getD 6 d0).ll)]) fun v1 =>
 if ((v1.getD 0 d0).ss).length + ((v1.getD 3 d0).ss).length < LIM then
 (r_impl_ArgsText [.sl ((v1.getD 5 d0).ll)]).bindR fun r2 =>
 if (((v1.getD 0 d0).ss) ++ ((v1.getD 3 d0).ss)).length + ((r2.getD 0 d0).ss).length < LIM then
 (r_impl_DirsText [.sl ((v1.getD 6 d0).ll)]).bindR fun r3 =>
 if ((((v1.getD 0 d0).ss) ++ ((v1.getD 3 d0).ss)) ++ ((r2.getD 0 d0).ss)).length + ((r3.getD 0 d0).ss).length < LIM then
 .ret [.s (((((v1.getD 0 d0).ss) ++ ((v1.getD 3 d0).ss)) ++ ((r2.getD 0 d0).ss)) ++ ((r3.getD 0 d0).ss))]
 else
 .fail
 else
 .fail
 else
 .fail
 else
 if ((a.getD 0 d0).ii == (2 : Int)) = true then
 if ([46, 46, 46] : List UInt8).length + ((a.getD 2 d0).ss).length < LIM then
 (r_impl_DirsText [.sl ((a.getD 5 d0).ll)]).bindR fun r4 =>
 if (([46, 46, 46] : List UInt8) ++ ((a.getD 2 d0).ss)).length + ((r4.getD 0 d0).ss).length < LIM then
 .ret [.s ((([46, 46, 46] : List UInt8) ++ ((a.getD 2 d0).ss)) ++ ((r4.getD 0 d0).ss))]
 else
 .fail
 else
 .fail
 else
 .norm [.i ((a.getD 0 d0).ii), .s ((a.getD 1 d0).ss), .s ((a.getD 2 d0).ss), .s ((a.getD 3 d0).ss), .sl ((a.getD 4 d0).ll), .sl ((a.getD 5 d0).ll), .sl ((a.getD 6 d0).ll)]) 0 fun v5 =>
 Out.andThen (if (!((v5.getD 3 d0).ss == ([] : List UInt8))) = true then
 if ([32, 111, 110, 32] : List UInt8).length + ((v5.getD 3 d0).ss).length < LIM then
 .norm [.s (([32, 111, 110, 32] : List UInt8) ++ ((v5.getD 3 d0).ss)), .i ((v5.getD 0 d0).ii), .s ((v5.getD 1 d0).ss), .s ((v5.getD 2 d0).ss), .s ((v5.getD 3 d0).ss), .sl ((v5.getD 4 d0).ll), .sl ((v5.getD 5 d0).ll), .sl ((v5.getD 6 d0).ll)]
 else
 .fail
 else
 .norm [.s ([] : List UInt8), .i ((v5.getD 0 d0).ii), .s ((v5.getD 1 d0).ss), .s ((v5.getD 2 d0).ss), .s ((v5.getD 3 d0).ss), .sl ((v5.getD 4 d0).ll), .sl ((v5.getD 5 d0).ll), .sl ((v5.getD 6 d0).ll)]) fun v6 =>
 if ([46, 46, 46] : List UInt8).length + ((v6.getD 0 d0).ss).length < LIM then
 (r_impl_DirsText [.sl ((v6.getD 6 d0).ll)]).bindR fun r7 =>
 if (([46, 46, 46] : List UInt8) ++ ((v6.getD 0 d0).ss)).length + ((r7.getD 0 d0).ss).length < LIM then
 .ret [.s ((([46, 46, 46] : List UInt8) ++ ((v6.getD 0 d0).ss)) ++ ((r7.getD 0 d0).ss))]
 else
 .fail
 else
 .fail
theorem eq_impl_selHead a : r_impl_selHead a = E_impl_selHead a := (Run_eq cfg 91 _ a).trans (by kernel_rfl)
noncomputable def E_laws_eqArgSL1 : List DC → Out := fun v1 =>
 if (decide ((v1.getD 2 d0).ii < (((v1.getD 0 d0).ll).length : Int))) = true then
 Out.andThenB (if 189 = 189 ∧ 0 ≤ (v1.getD 2 d0).ii ∧ (v1.getD 2 d0).ii < (((v1.getD 0 d0).ll).length : Int) then
 if 189 = 189 ∧ 0 ≤ (v1.getD 2 d0).ii ∧ (v1.getD 2 d0).ii < (((v1.getD 1 d0).ll).length : Int) then
 (r_laws_eqArg [.s (((((v1.getD 0 d0).ll).getD ((v1.getD 2 d0).ii).toNat []).getD 0 d0).ss), .i (((((v1.getD 0 d0).ll).getD ((v1.getD 2 d0).ii).toNat []).getD 1 d0).ii), .s (((((v1.getD 0 d0).ll).getD ((v1.getD 2 d0).ii).toNat []).getD 2 d0).ss), .sl (((((v1.getD 0 d0).ll).getD ((v1.getD 2 d0).ii).toNat []).getD 3 d0).ll), .sl (((((v1.getD 0 d0).ll).getD ((v1.getD 2 d0).ii).toNat []).getD 4 d0).ll), .s (((((v1.getD 1 d0).ll).getD ((v1.getD 2 d0).ii).toNat []).getD 0 d0).ss), .i (((((v1.getD 1 d0).ll).getD ((v1.getD 2 d0).ii).toNat []).getD 1 d0).ii), .s (((((v1.getD 1 d0).ll).getD ((v1.getD 2 d0).ii).toNat []).getD 2 d0).ss), .sl (((((v1.getD 1 d0).ll).getD ((v1.getD 2 d0).ii).toNat []).getD 3 d0).ll), .sl (((((v1.getD 1 d0).ll).getD ((v1.getD 2 d0).ii).toNat []).getD 4 d0).ll)]).bindR fun r2 =>
 if (!((r2.getD 0 d0).bb)) = true then
 .ret [.b false]
 else
 .norm [.sl ((v1.getD 0 d0).ll), .sl ((v1.getD 1 d0).ll), .i ((v1.getD 2 d0).ii)]
 else
 .fail
 else
 .fail) 1 fun v3 =>
 .norm [.sl ((v3.getD 0 d0).ll), .sl ((v3.getD 1 d0).ll), .i (IntKind.i64.wrap ((v3.getD 2 d0).ii + (1 : Int)))]
 else
 .ex 0 []
noncomputable def E_laws_eqArgS (a : List DC) : Out :=
 if ((((a.getD 0 d0).ll).length : Int) != (((a.getD 1 d0).ll).length : Int)) = true then
 .ret [.b false]
 else
 Out.andThenB (Loop E_laws_eqArgSL1 [.sl ((a.getD 0 d0).ll), .sl ((a.getD 1 d0).ll), .i (0 : Int)]) 0 fun v4 =>
 .ret [.b true]
theorem eq_laws_eqArgS a : r_laws_eqArgS a = E_laws_eqArgS a := (Run_eq cfg 92 _ a).trans (by kernel_rfl)
noncomputable def E_laws_szValueSL1 : List DC → Out := fun v1 =>
 if (decide ((v1.getD 2 d0).ii < (((v1.getD 0 d0).ll).length : Int))) = true then
 Out.andThenB (if 34 = 34 ∧ 0 ≤ (v1.getD 2 d0).ii ∧ (v1.getD 2 d0).ii < (((v1.getD 0 d0).ll).length : Int) then
 (r_laws_szValue [.i (((((v1.getD 0 d0).ll).getD ((v1.getD 2 d0).ii).toNat []).getD 0 d0).ii), .s (((((v1.getD 0 d0).ll).getD ((v1.getD 2 d0).ii).toNat []).getD 1 d0).ss), .sl (((((v1.getD 0 d0).ll).getD ((v1.getD 2 d0).ii).toNat []).getD 2 d0).ll), .sl (((((v1.getD 0 d0).ll).getD ((v1.getD 2 d0).ii).toNat []).getD 3 d0).ll), .i ((v1.getD 1 d0).ii)]).bindR fun r2 =>
 if (decide ((r2.getD 0 d0).ii < (0 : Int))) = true then
 .ret [.i (-1 : Int)]
 else
 .norm [.sl ((v1.getD 0 d0).ll), .i ((r2.getD 0 d0).ii), .i ((v1.getD 2 d0).ii)]
 else
 .fail) 1 fun v3 =>
 .norm [.sl ((v3.getD 0 d0).ll), .i ((v3.getD 1 d0).ii), .i (IntKind.i64.wrap ((v3.getD 2 d0).ii + (1 : Int)))]
 else
 .ex 0 [.i ((v1.getD 1 d0).ii)]
noncomputable def E_laws_szValueS (a : List DC) : Out :=
 if (decide ((IntKind.i64.wrap ((a.getD 1 d0).ii - (((a.getD 0 d0).ll).length : Int))) < (0 : Int))) = true then
 .ret [.i (-1 : Int)]
 else
 Out.andThenB (Loop E_laws_szValueSL1 [.sl ((a.getD 0 d0).ll), .i (IntKind.i64.wrap ((a.getD 1 d0).ii - (((a.getD 0 d0).ll).length : Int))), .i (0 : Int)]) 0 fun v4 =>
 .ret [.i ((v4.getD 0 d0).ii)]
theorem eq_laws_szValueS a : r_laws_szValueS a = E_laws_szValueS a := (Run_eq cfg 93 _ a).trans (by kernel_rfl)
noncomputable def E_laws_szStringSL1 : List DC → Out := fun v1 =>
 if (decide ((v1.getD 2 d0).ii < (((v1.getD 0 d0).ll).length : Int))) = true then
 Out.andThenB (if 9 = 9 ∧ 0 ≤ (v1.getD 2 d0).ii ∧ (v1.getD 2 d0).ii < (((v1.getD 0 d0).ll).length : Int) then
 if (decide ((IntKind.i64.wrap ((v1.getD 1 d0).ii - ((((((v1.getD 0 d0).ll).getD ((v1.getD 2 d0).ii).toNat []).getD 0 d0).ss).length : Int))) < (0 : Int))) = true then
 .ret [.i (-1 : Int)]
 else
 .norm [.sl ((v1.getD 0 d0).ll), .i (IntKind.i64.wrap ((v1.getD 1 d0).ii - ((((((v1.getD 0 d0).ll).getD ((v1.getD 2 d0).ii).toNat []).getD 0 d0).ss).length : Int))), .i ((v1.getD 2 d0).ii)]
 else
 .fail) 1 fun v2 =>
 .norm [.sl ((v2.getD 0 d0).ll), .i ((v2.getD 1 d0).ii), .i (IntKind.i64.wrap ((v2.getD 2 d0).ii + (1 : Int)))]
 else
 .ex 0 [.i ((v1.getD 1 d0).ii)]
noncomputable def E_laws_szStringS (a : List DC) : Out :=
 if (decide ((IntKind.i64.wrap ((a.getD 1 d0).ii - (((a.getD 0 d0).ll).length : Int))) < (0 : Int))) = true then
 .ret [.i (-1 : Int)]
 else
 Out.andThenB (Loop E_laws_szStringSL1 [.sl ((a.getD 0 d0).ll), .i (IntKind.i64.wrap ((a.getD 1 d0).ii - (((a.getD 0 d0).ll).length : Int))), .i (0 : Int)]) 0 fun v3 =>
 .ret [.i ((v3.getD 0 d0).ii)]
theorem eq_laws_szStringS a : r_laws_szStringS a = E_laws_szStringS a := (Run_eq cfg 94 _ a).trans (by kernel_rfl)
noncomputable def E_laws_szDir (a : List DC) : Out :=
 if (decide ((IntKind.i64.wrap ((a.getD 2 d0).ii - (((a.getD 0 d0).ss).length : Int))) < (0 : Int))) = true then
 .ret [.i (-1 : Int)]
 else
 (r_laws_szArgS [.sl ((a.getD 1 d0).ll), .i (IntKind.i64.wrap ((a.getD 2 d0).ii - (((a.getD 0 d0).ss).length : Int)))]).bindR fun r1 =>
 if (decide ((r1.getD 0 d0).ii < (0 : Int))) = true then
 .ret [.i (-1 : Int)]
 else
 .ret [.i ((r1.getD 0 d0).ii)]
theorem eq_laws_szDir a : r_laws_szDir a = E_laws_szDir a := (Run_eq cfg 95 _ a).trans (by kernel_rfl)
noncomputable def E_laws_toValueSL1 : List DC → Out := fun v1 =>
 if (decide ((v1.getD 2 d0).ii < (((v1.getD 0 d0).ll).length : Int))) = true then
 Out.andThenB (if 34 = 34 ∧ 0 ≤ (v1.getD 2 d0).ii ∧ (v1.getD 2 d0).ii < (((v1.getD 0 d0).ll).length : Int) then
 (r_laws_toValue [.i (((((v1.getD 0 d0).ll).getD ((v1.getD 2 d0).ii).toNat []).getD 0 d0).ii), .s (((((v1.getD 0 d0).ll).getD ((v1.getD 2 d0).ii).toNat []).getD 1 d0).ss), .sl (((((v1.getD 0 d0).ll).getD ((v1.getD 2 d0).ii).toNat []).getD 2 d0).ll), .sl (((((v1.getD 0 d0).ll).getD ((v1.getD 2 d0).ii).toNat []).getD 3 d0).ll)]).bindR fun r2 =>
 if 43 = 43 ∧ 0 ≤ (v1.getD 2 d0).ii ∧ (v1.getD 2 d0).ii < (((v1.getD 1 d0).ll).length : Int) then
 .norm [.sl ((v1.getD 0 d0).ll), .sl (((v1.getD 1 d0).ll).set (((v1.getD 2 d0).ii).toNat) (setRunD (((v1.getD 1 d0).ll).getD (((v1.getD 2 d0).ii).toNat) []) 0 [DC.i ((r2.getD 0 d0).ii), DC.s ((r2.getD 1 d0).ss), DC.sl ((r2.getD 2 d0).ll), DC.sl ((r2.getD 3 d0).ll)])), .i ((v1.getD 2 d0).ii)]
 else
 .fail
 else
 .fail) 1 fun v3 =>
 .norm [.sl ((v3.getD 0 d0).ll), .sl ((v3.getD 1 d0).ll), .i (IntKind.i64.wrap ((v3.getD 2 d0).ii + (1 : Int)))]
 else
 .ex 0 [.sl ((v1.getD 1 d0).ll)]
noncomputable def E_laws_toValueS (a : List DC) : Out :=
 if 0 ≤ (((a.getD 0 d0).ll).length : Int) ∧ (((a.getD 0 d0).ll).length : Int) < (LIM : Int) ∧ (((a.getD 0 d0).ll).length : Int) = (((a.getD 0 d0).ll).length : Int) ∧ 72 ≤ 1024 ∧ 0 < 4 then
 Out.andThenB (Loop E_laws_toValueSL1 [.sl ((a.getD 0 d0).ll), .sl (List.replicate (((a.getD 0 d0).ll).length : Int).toNat [DC.i 0, DC.s [], DC.sl [], DC.sl []]), .i (0 : Int)]) 0 fun v4 =>
 .ret [.sl ((v4.getD 0 d0).ll)]
 else
 .fail
theorem eq_laws_toValueS a : r_laws_toValueS a = E_laws_toValueS a := (Run_eq cfg 104 _ a).trans (by kernel_rfl)
noncomputable def E_laws_toStringSL1 : List DC → Out := fun v1 =>
 if (decide ((v1.getD 2 d0).ii < (((v1.getD 0 d0).ll).length : Int))) = true then
 Out.andThenB (if 9 = 9 ∧ 0 ≤ (v1.getD 2 d0).ii ∧ (v1.getD 2 d0).ii < (((v1.getD 0 d0).ll).length : Int) then
 if 9 = 9 ∧ 0 ≤ (v1.getD 2 d0).ii ∧ (v1.getD 2 d0).ii < (((v1.getD 1 d0).ll).length : Int) then
 .norm [.sl ((v1.getD 0 d0).ll), .sl (((v1.getD 1 d0).ll).set (((v1.getD 2 d0).ii).toNat) (setRunD (((v1.getD 1 d0).ll).getD (((v1.getD 2 d0).ii).toNat) []) 0 [DC.s (((((v1.getD 0 d0).ll).getD ((v1.getD 2 d0).ii).toNat []).getD 0 d0).ss)])), .i ((v1.getD 2 d0).ii)]
 else
 .fail
 else
 .fail) 1 fun v2 =>
 .norm [.sl ((v2.getD 0 d0).ll), .sl ((v2.getD 1 d0).ll), .i (IntKind.i64.wrap ((v2.getD 2 d0).ii + (1 : Int)))]
 else
 .ex 0 [.sl ((v1.getD 1 d0).ll)]
noncomputable def E_laws_toStringS (a : List DC) : Out :=
 if 0 ≤ (((a.getD 0 d0).ll).length : Int) ∧ (((a.getD 0 d0).ll).length : Int) < (LIM : Int) ∧ (((a.getD 0 d0).ll).length : Int) = (((a.getD 0 d0).ll).length : Int) ∧ 16 ≤ 1024 ∧ 0 < 1 then
 Out.andThenB (Loop E_laws_toStringSL1 [.sl ((a.getD 0 d0).ll), .sl (List.replicate (((a.getD 0 d0).ll).length : Int).toNat [DC.s []]), .i (0 : Int)]) 0 fun v3 =>
 .ret [.sl ((v3.getD 0 d0).ll)]
 else
 .fail
theorem eq_laws_toStringS a : r_laws_toStringS a = E_laws_toStringS a := (Run_eq cfg 105 _ a).trans (by kernel_rfl)
noncomputable def E_laws_toDir (a : List DC) : Out :=
 (r_laws_toArgS [.sl ((a.getD 1 d0).ll)]).bindR fun r1 =>
 .ret [.s ((a.getD 0 d0).ss), .sl ((r1.getD 0 d0).ll)]
theorem eq_laws_toDir a : r_laws_toDir a = E_laws_toDir a := (Run_eq cfg 106 _ a).trans (by kernel_rfl)
noncomputable def E_spec_NameOkL1 : List DC → Out := fun v3 =>
 if (decide ((v3.getD 1 d0).ii < (((v3.getD 0 d0).ss).length : Int))) = true then
 Out.andThenB (Out.andThen (if 0 ≤ (v3.getD 1 d0).ii ∧ (v3.getD 1 d0).ii < (((v3.getD 0 d0).ss).length : Int) then
 (r_spec_l03Letter [.i ((((v3.getD 0 d0).ss).getD ((v3.getD 1 d0).ii).toNat 0).toNat : Int)]).bindR fun r4 =>
 if (!((r4.getD 0 d0).bb)) = true then
 if 0 ≤ (v3.getD 1 d0).ii ∧ (v3.getD 1 d0).ii < (((v3.getD 0 d0).ss).length : Int) then
 (r_spec_l03Figure [.i ((((v3.getD 0 d0).ss).getD ((v3.getD 1 d0).ii).toNat 0).toNat : Int)]).bindR fun r5 =>
 .norm [.s ((v3.getD 0 d0).ss), .i ((v3.getD 1 d0).ii), .b (!((r5.getD 0 d0).bb))]
 else
 .fail
 else
 .norm [.s ((v3.getD 0 d0).ss), .i ((v3.getD 1 d0).ii), .b false]
 else
 .fail) fun v6 =>
 if (v6.getD 2 d0).bb = true then
 .ret [.b false]
 else
 .norm [.s ((v6.getD 0 d0).ss), .i ((v6.getD 1 d0).ii)]) 1 fun v7 =>
 .norm [.s ((v7.getD 0 d0).ss), .i (IntKind.i64.wrap ((v7.getD 1 d0).ii + (1 : Int)))]
 else
 .ex 0 []
noncomputable def E_spec_NameOk (a : List DC) : Out :=
 Out.andThen (if ((((a.getD 0 d0).ss).length : Int) == (0 : Int)) = true then
 .norm [.s ((a.getD 0 d0).ss), .b true]
 else
 if (decide ((((a.getD 0 d0).ss).length : Int) > (30 : Int))) = true then
 .norm [.s ((a.getD 0 d0).ss), .b true]
 else
 if 0 ≤ (0 : Int) ∧ (0 : Int) < (((a.getD 0 d0).ss).length : Int) then
 (r_spec_l03Figure [.i ((((a.getD 0 d0).ss).getD (0 : Int).toNat 0).toNat : Int)]).bindR fun r1 =>
 .norm [.s ((a.getD 0 d0).ss), .b ((r1.getD 0 d0).bb)]
 else
 .fail) fun v2 =>
 if (v2.getD 1 d0).bb = true then
 .ret [.b false]
 else
 Out.andThenB (Loop E_spec_NameOkL1 [.s ((v2.getD 0 d0).ss), .i (0 : Int)]) 0 fun v8 =>
 .ret [.b true]
theorem eq_spec_NameOk a : r_spec_NameOk a = E_spec_NameOk a := (Run_eq cfg 96 _ a).trans (by kernel_rfl)
noncomputable def E_spec_TypeOkL1 : List DC → Out := fun v3 =>
 if (decide ((v3.getD 0 d0).ii < (((v3.getD 2 d0).ss).length : Int))) = true then
 Out.andThenB (Out.andThen (if 0 ≤ (v3.getD 0 d0).ii ∧ (v3.getD 0 d0).ii < (((v3.getD 2 d0).ss).length : Int) then
 if (((((v3.getD 2 d0).ss).getD ((v3.getD 0 d0).ii).toNat 0).toNat : Int) != (33 : Int)) = true then
 if 0 ≤ (v3.getD 0 d0).ii ∧ (v3.getD 0 d0).ii < (((v3.getD 2 d0).ss).length : Int) then
 if (((((v3.getD 2 d0).ss).getD ((v3.getD 0 d0).ii).toNat 0).toNat : Int) != (93 : Int)) = true then
 .norm [.i ((v3.getD 0 d0).ii), .b true, .s ((v3.getD 1 d0).ss), .s ((v3.getD 2 d0).ss)]
 else
 if (decide ((v3.getD 0 d0).ii > (0 : Int))) = true then
 if 0 ≤ (v3.getD 0 d0).ii ∧ (v3.getD 0 d0).ii < (((v3.getD 2 d0).ss).length : Int) then
 if (((((v3.getD 2 d0).ss).getD ((v3.getD 0 d0).ii).toNat 0).toNat : Int) == (33 : Int)) = true then
 if 0 ≤ (IntKind.i64.wrap ((v3.getD 0 d0).ii - (1 : Int))) ∧ (IntKind.i64.wrap ((v3.getD 0 d0).ii - (1 : Int))) < (((v3.getD 2 d0).ss).length : Int) then
 .norm [.i ((v3.getD 0 d0).ii), .b (((((v3.getD 2 d0).ss).getD (IntKind.i64.wrap ((v3.getD 0 d0).ii - (1 : Int))).toNat 0).toNat : Int) == (33 : Int)), .s ((v3.getD 1 d0).ss), .s ((v3.getD 2 d0).ss)]
 else
 .fail
 else
 .norm [.i ((v3.getD 0 d0).ii), .b false, .s ((v3.getD 1 d0).ss), .s ((v3.getD 2 d0).ss)]
 else
 .fail
 else
 .norm [.i ((v3.getD 0 d0).ii), .b false, .s ((v3.getD 1 d0).ss), .s ((v3.getD 2 d0).ss)]
 else
 .fail
 else
 if (decide ((v3.getD 0 d0).ii > (0 : Int))) = true then
 if 0 ≤ (v3.getD 0 d0).ii ∧ (v3.getD 0 d0).ii < (((v3.getD 2 d0).ss).length : Int) then
 if (((((v3.getD 2 d0).ss).getD ((v3.getD 0 d0).ii).toNat 0).toNat : Int) == (33 : Int)) = true then
 if 0 ≤ (IntKind.i64.wrap ((v3.getD 0 d0).ii - (1 : Int))) ∧ (IntKind.i64.wrap ((v3.getD 0 d0).ii - (1 : Int))) < (((v3.getD 2 d0).ss).length : Int) then
 .norm [.i ((v3.getD 0 d0).ii), .b (((((v3.getD 2 d0).ss).getD (IntKind.i64.wrap ((v3.getD 0 d0).ii - (1 : Int))).toNat 0).toNat : Int) == (33 : Int)), .s ((v3.getD 1 d0).ss), .s ((v3.getD 2 d0).ss)]
 else
 .fail
 else
 .norm [.i ((v3.getD 0 d0).ii), .b false, .s ((v3.getD 1 d0).ss), .s ((v3.getD 2 d0).ss)]
 else
 .fail
 else
 .norm [.i ((v3.getD 0 d0).ii), .b false, .s ((v3.getD 1 d0).ss), .s ((v3.getD 2 d0).ss)]
 else
 .fail) fun v4 =>
 if (v4.getD 1 d0).bb = true then
 .ret [.b false]
 else
 .norm [.i ((v4.getD 0 d0).ii), .s ((v4.getD 2 d0).ss), .s ((v4.getD 3 d0).ss)]) 1 fun v5 =>
 .norm [.i (IntKind.i64.wrap ((v5.getD 0 d0).ii + (1 : Int))), .s ((v5.getD 1 d0).ss), .s ((v5.getD 2 d0).ss)]
 else
 .ex 0 []
noncomputable def E_spec_TypeOk (a : List DC) : Out :=
 Out.andThen ((r_spec_NameOk [.s ((a.getD 0 d0).ss)]).bindR fun r1 =>
 if (!((r1.getD 0 d0).bb)) = true then
 .norm [.b true, .s ((a.getD 0 d0).ss), .s ((a.getD 1 d0).ss)]
 else
 .norm [.b (decide ((((a.getD 1 d0).ss).length : Int) > (8 : Int))), .s ((a.getD 0 d0).ss), .s ((a.getD 1 d0).ss)]) fun v2 =>
 if (v2.getD 0 d0).bb = true then
 .ret [.b false]
 else
 Out.andThenB (Loop E_spec_TypeOkL1 [.i (0 : Int), .s ((v2.getD 1 d0).ss), .s ((v2.getD 2 d0).ss)]) 0 fun v6 =>
 .ret [.b true]
theorem eq_spec_TypeOk a : r_spec_TypeOk a = E_spec_TypeOk a := (Run_eq cfg 98 _ a).trans (by kernel_rfl)
noncomputable def E_spec_l12Default (a : List DC) : Out :=
 if (a.getD 0 d0).bb = true then
 Out.andThen ((r_spec_ValueOk [.i ((a.getD 1 d0).ii), .s ((a.getD 2 d0).ss), .sl ((a.getD 3 d0).ll), .sl ((a.getD 4 d0).ll)]).bindR fun r1 =>
 if (r1.getD 0 d0).bb = true then
 (r_spec_IsConst [.i ((a.getD 1 d0).ii), .s ((a.getD 2 d0).ss), .sl ((a.getD 3 d0).ll), .sl ((a.getD 4 d0).ll)]).bindR fun r2 =>
 .norm [.b ((r2.getD 0 d0).bb)]
 else
 .norm [.b false]) fun v3 =>
 .ret [.b ((v3.getD 0 d0).bb)]
 else
 (r_spec_SameValue [.i ((a.getD 1 d0).ii), .s ((a.getD 2 d0).ss), .sl ((a.getD 3 d0).ll), .sl ((a.getD 4 d0).ll), .i (0 : Int), .s [], .sl [], .sl []]).bindR fun r4 =>
 .ret [.b ((r4.getD 0 d0).bb)]
theorem eq_spec_l12Default a : r_spec_l12Default a = E_spec_l12Default a := (Run_eq cfg 99 _ a).trans (by kernel_rfl)
noncomputable def E_spec_l12ConstsL1 : List DC → Out := fun v2 =>
 if 155 = 155 ∧ 0 ≤ (v2.getD 1 d0).ii ∧ (v2.getD 1 d0).ii < (((v2.getD 0 d0).ll).length : Int) then
 if (decide ((v2.getD 2 d0).ii < ((((((v2.getD 0 d0).ll).getD ((v2.getD 1 d0).ii).toNat []).getD 1 d0).ll).length : Int))) = true then
 Out.andThenB (if 155 = 155 ∧ 0 ≤ (v2.getD 1 d0).ii ∧ (v2.getD 1 d0).ii < (((v2.getD 0 d0).ll).length : Int) then
 if 189 = 189 ∧ 0 ≤ (v2.getD 2 d0).ii ∧ (v2.getD 2 d0).ii < ((((((v2.getD 0 d0).ll).getD ((v2.getD 1 d0).ii).toNat []).getD 1 d0).ll).length : Int) then
 (r_spec_IsConst [.i ((((((((v2.getD 0 d0).ll).getD ((v2.getD 1 d0).ii).toNat []).getD 1 d0).ll).getD ((v2.getD 2 d0).ii).toNat []).getD 1 d0).ii), .s ((((((((v2.getD 0 d0).ll).getD ((v2.getD 1 d0).ii).toNat []).getD 1 d0).ll).getD ((v2.getD 2 d0).ii).toNat []).getD 2 d0).ss), .sl ((((((((v2.getD 0 d0).ll).getD ((v2.getD 1 d0).ii).toNat []).getD 1 d0).ll).getD ((v2.getD 2 d0).ii).toNat []).getD 3 d0).ll), .sl ((((((((v2.getD 0 d0).ll).getD ((v2.getD 1 d0).ii).toNat []).getD 1 d0).ll).getD ((v2.getD 2 d0).ii).toNat []).getD 4 d0).ll)]).bindR fun r3 =>
 if (!((r3.getD 0 d0).bb)) = true then
 .ret [.b false]
 else
 .norm [.sl ((v2.getD 0 d0).ll), .i ((v2.getD 1 d0).ii), .i ((v2.getD 2 d0).ii)]
 else
 .fail
 else
 .fail) 3 fun v4 =>
 .norm [.sl ((v4.getD 0 d0).ll), .i ((v4.getD 1 d0).ii), .i (IntKind.i64.wrap ((v4.getD 2 d0).ii + (1 : Int)))]
 else
 .ex 2 [.sl ((v2.getD 0 d0).ll), .i ((v2.getD 1 d0).ii)]
 else
 .fail
noncomputable def E_spec_l12ConstsL2 : List DC → Out := fun v1 =>
 if (decide ((v1.getD 1 d0).ii < (((v1.getD 0 d0).ll).length : Int))) = true then
 Out.andThenB (Out.andThenB (Loop E_spec_l12ConstsL1 [.sl ((v1.getD 0 d0).ll), .i ((v1.getD 1 d0).ii), .i (0 : Int)]) 2 fun v5 =>
 .norm [.sl ((v5.getD 0 d0).ll), .i ((v5.getD 1 d0).ii)]) 1 fun v6 =>
 .norm [.sl ((v6.getD 0 d0).ll), .i (IntKind.i64.wrap ((v6.getD 1 d0).ii + (1 : Int)))]
 else
 .ex 0 [.sl ((v1.getD 0 d0).ll)]
noncomputable def E_spec_l12Consts (a : List DC) : Out :=
 Out.andThenB (Loop E_spec_l12ConstsL2 [.sl ((a.getD 0 d0).ll), .i (0 : Int)]) 0 fun v7 =>
 (r_spec_DirsOk [.sl ((v7.getD 0 d0).ll)]).bindR fun r8 =>
 .ret [.b ((r8.getD 0 d0).bb)]
theorem eq_spec_l12Consts a : r_spec_l12Consts a = E_spec_l12Consts a := (Run_eq cfg 100 _ a).trans (by kernel_rfl)
noncomputable def E_spec_EscapedL1 : List DC → Out := fun v3 =>
 if (decide ((v3.getD 2 d0).ii < (((v3.getD 0 d0).ss).length : Int))) = true then
 Out.andThenB (if 0 ≤ (v3.getD 2 d0).ii ∧ (v3.getD 2 d0).ii < (((v3.getD 0 d0).ss).length : Int) then
 Out.andThenB (Out.andThen (if (((((v3.getD 0 d0).ss).getD ((v3.getD 2 d0).ii).toNat 0).toNat : Int) == (34 : Int)) = true then
 .norm [.s ((v3.getD 0 d0).ss), .s ((v3.getD 1 d0).ss), .i ((v3.getD 2 d0).ii), .i ((((v3.getD 0 d0).ss).getD ((v3.getD 2 d0).ii).toNat 0).toNat : Int), .b true]
 else
 .norm [.s ((v3.getD 0 d0).ss), .s ((v3.getD 1 d0).ss), .i ((v3.getD 2 d0).ii), .i ((((v3.getD 0 d0).ss).getD ((v3.getD 2 d0).ii).toNat 0).toNat : Int), .b (((((v3.getD 0 d0).ss).getD ((v3.getD 2 d0).ii).toNat 0).toNat : Int) == (92 : Int))]) fun v4 =>
 Out.andThen (if (v4.getD 4 d0).bb = true then
 if ((v4.getD 1 d0).ss).length + ([92] : List UInt8).length < LIM then
 if 0 ≤ (v4.getD 2 d0).ii ∧ (v4.getD 2 d0).ii ≤ (IntKind.i64.wrap ((v4.getD 2 d0).ii + (1 : Int))) ∧ (IntKind.i64.wrap ((v4.getD 2 d0).ii + (1 : Int))) ≤ (((v4.getD 0 d0).ss).length : Int) then
 if (((v4.getD 1 d0).ss) ++ ([92] : List UInt8)).length + ((((v4.getD 0 d0).ss).take (IntKind.i64.wrap ((v4.getD 2 d0).ii + (1 : Int))).toNat).drop ((v4.getD 2 d0).ii).toNat).length < LIM then
 .norm [.s ((v4.getD 0 d0).ss), .s ((((v4.getD 1 d0).ss) ++ ([92] : List UInt8)) ++ ((((v4.getD 0 d0).ss).take (IntKind.i64.wrap ((v4.getD 2 d0).ii + (1 : Int))).toNat).drop ((v4.getD 2 d0).ii).toNat)), .i ((v4.getD 2 d0).ii)]
 else
 .fail
 else
 .fail
 else
 .fail
 else
 Out.andThen (if ((v4.getD 3 d0).ii == (8 : Int)) = true then
 if ((v4.getD 1 d0).ss).length + ([92, 98] : List UInt8).length < LIM then
 .norm [.s ((v4.getD 0 d0).ss), .s (((v4.getD 1 d0).ss) ++ ([92, 98] : List UInt8)), .i ((v4.getD 2 d0).ii)]
 else
 .fail
 else
 Out.andThen (if ((v4.getD 3 d0).ii == (9 : Int)) = true then
 if ((v4.getD 1 d0).ss).length + ([92, 116] : List UInt8).length < LIM then
 .norm [.s ((v4.getD 0 d0).ss), .s (((v4.getD 1 d0).ss) ++ ([92, 116] : List UInt8)), .i ((v4.getD 2 d0).ii)]
 else
 .fail
 else
 Out.andThen (if ((v4.getD 3 d0).ii == (10 : Int)) = true then
 if ((v4.getD 1 d0).ss).length + ([92, 110] : List UInt8).length < LIM then
 .norm [.s ((v4.getD 0 d0).ss), .s (((v4.getD 1 d0).ss) ++ ([92, 110] : List UInt8)), .i ((v4.getD 2 d0).ii)]
 else
 .fail
 else
 Out.andThen (if ((v4.getD 3 d0).ii == (12 : Int)) = true then
 if ((v4.getD 1 d0).ss).length + ([92, 102] : List UInt8).length < LIM then
 .norm [.s ((v4.getD 0 d0).ss), .s (((v4.getD 1 d0).ss) ++ ([92, 102] : List UInt8)), .i ((v4.getD 2 d0).ii)]
 else
 .fail
 else
 Out.andThen (if ((v4.getD 3 d0).ii == (13 : Int)) = true then
 if ((v4.getD 1 d0).ss).length + ([92, 114] : List UInt8).length < LIM then
 .norm [.s ((v4.getD 0 d0).ss), .s (((v4.getD 1 d0).ss) ++ ([92, 114] : List UInt8)), .i ((v4.getD 2 d0).ii)]
 else
 .fail
 else
 Out.andThen (if (decide ((v4.getD 3 d0).ii < (32 : Int))) = true then
 .norm [.s ((v4.getD 0 d0).ss), .s ((v4.getD 1 d0).ss), .i ((v4.getD 2 d0).ii), .i ((v4.getD 3 d0).ii), .b true]
 else
 .norm [.s ((v4.getD 0 d0).ss), .s ((v4.getD 1 d0).ss), .i ((v4.getD 2 d0).ii), .i ((v4.getD 3 d0).ii), .b ((v4.getD 3 d0).ii == (127 : Int))]) fun v5 =>
 Out.andThen (if (v5.getD 4 d0).bb = true then
 if ((v5.getD 1 d0).ss).length + ([92, 117] : List UInt8).length < LIM then
 (r_spec_l04Hex4 [.i (IntKind.i64.wrap ((v5.getD 3 d0).ii))]).bindR fun r6 =>
 if (((v5.getD 1 d0).ss) ++ ([92, 117] : List UInt8)).length + ((r6.getD 0 d0).ss).length < LIM then
 .norm [.s ((v5.getD 0 d0).ss), .s ((((v5.getD 1 d0).ss) ++ ([92, 117] : List UInt8)) ++ ((r6.getD 0 d0).ss)), .i ((v5.getD 2 d0).ii)]
 else
 .fail
 else
 .fail
 else
 if 0 ≤ (v5.getD 2 d0).ii ∧ (v5.getD 2 d0).ii ≤ (IntKind.i64.wrap ((v5.getD 2 d0).ii + (1 : Int))) ∧ (IntKind.i64.wrap ((v5.getD 2 d0).ii + (1 : Int))) ≤ (((v5.getD 0 d0).ss).length : Int) then
 if ((v5.getD 1 d0).ss).length + ((((v5.getD 0 d0).ss).take (IntKind.i64.wrap ((v5.getD 2 d0).ii + (1 : Int))).toNat).drop ((v5.getD 2 d0).ii).toNat).length < LIM then
 .norm [.s ((v5.getD 0 d0).ss), .s (((v5.getD 1 d0).ss) ++ ((((v5.getD 0 d0).ss).take (IntKind.i64.wrap ((v5.getD 2 d0).ii + (1 : Int))).toNat).drop ((v5.getD 2 d0).ii).toNat)), .i ((v5.getD 2 d0).ii)]
 else
 .fail
 else
 .fail) fun v7 =>
 .norm [.s ((v7.getD 0 d0).ss), .s ((v7.getD 1 d0).ss), .i ((v7.getD 2 d0).ii)]) fun v8 =>
 .norm [.s ((v8.getD 0 d0).ss), .s ((v8.getD 1 d0).ss), .i ((v8.getD 2 d0).ii)]) fun v9 =>
 .norm [.s ((v9.getD 0 d0).ss), .s ((v9.getD 1 d0).ss), .i ((v9.getD 2 d0).ii)]) fun v10 =>
 .norm [.s ((v10.getD 0 d0).ss), .s ((v10.getD 1 d0).ss), .i ((v10.getD 2 d0).ii)]) fun v11 =>
 .norm [.s ((v11.getD 0 d0).ss), .s ((v11.getD 1 d0).ss), .i ((v11.getD 2 d0).ii)]) fun v12 =>
 .norm [.s ((v12.getD 0 d0).ss), .s ((v12.getD 1 d0).ss), .i ((v12.getD 2 d0).ii)]) fun v13 =>
 .norm [.s ((v13.getD 0 d0).ss), .s ((v13.getD 1 d0).ss), .i ((v13.getD 2 d0).ii)]) 2 fun v14 =>
 .norm [.s ((v14.getD 0 d0).ss), .s ((v14.getD 1 d0).ss), .i ((v14.getD 2 d0).ii)]
 else
 .fail) 1 fun v15 =>
 .norm [.s ((v15.getD 0 d0).ss), .s ((v15.getD 1 d0).ss), .i (IntKind.i64.wrap ((v15.getD 2 d0).ii + (1 : Int)))]
 else
 .ex 0 [.s ((v3.getD 1 d0).ss)]
noncomputable def E_spec_Escaped (a : List DC) : Out :=
 Out.andThen ((r_spec_TextOk [.s ((a.getD 0 d0).ss)]).bindR fun r1 =>
 if (!((r1.getD 0 d0).bb)) = true then
 .norm [.s ((a.getD 0 d0).ss), .b true]
 else
 .norm [.s ((a.getD 0 d0).ss), .b (decide ((((a.getD 0 d0).ss).length : Int) > (200 : Int)))]) fun v2 =>
 if (v2.getD 1 d0).bb = true then
 .ret [.s ([] : List UInt8)]
 else
 Out.andThenB (Loop E_spec_EscapedL1 [.s ((v2.getD 0 d0).ss), .s ([34] : List UInt8), .i (0 : Int)]) 0 fun v16 =>
 if ((v16.getD 0 d0).ss).length + ([34] : List UInt8).length < LIM then
 .ret [.s (((v16.getD 0 d0).ss) ++ ([34] : List UInt8))]
 else
 .fail
theorem eq_spec_Escaped a : r_spec_Escaped a = E_spec_Escaped a := (Run_eq cfg 101 _ a).trans (by kernel_rfl)
noncomputable def E_spec_TypeTextL1 : List DC → Out := fun v2 =>
 if (decide ((v2.getD 1 d0).ii < (((v2.getD 3 d0).ss).length : Int))) = true then
 Out.andThenB (if 0 ≤ (v2.getD 1 d0).ii ∧ (v2.getD 1 d0).ii < (((v2.getD 3 d0).ss).length : Int) then
 Out.andThen (if (((((v2.getD 3 d0).ss).getD ((v2.getD 1 d0).ii).toNat 0).toNat : Int) == (33 : Int)) = true then
 if ((v2.getD 0 d0).ss).length + ([33] : List UInt8).length < LIM then
 .norm [.s (((v2.getD 0 d0).ss) ++ ([33] : List UInt8)), .i ((v2.getD 1 d0).ii), .s ((v2.getD 2 d0).ss), .s ((v2.getD 3 d0).ss)]
 else
 .fail
 else
 if ([91] : List UInt8).length + ((v2.getD 0 d0).ss).length < LIM then
 if (([91] : List UInt8) ++ ((v2.getD 0 d0).ss)).length + ([93] : List UInt8).length < LIM then
 .norm [.s ((([91] : List UInt8) ++ ((v2.getD 0 d0).ss)) ++ ([93] : List UInt8)), .i ((v2.getD 1 d0).ii), .s ((v2.getD 2 d0).ss), .s ((v2.getD 3 d0).ss)]
 else
 .fail
 else
 .fail) fun v3 =>
 .norm [.s ((v3.getD 0 d0).ss), .i ((v3.getD 1 d0).ii), .s ((v3.getD 2 d0).ss), .s ((v3.getD 3 d0).ss)]
 else
 .fail) 1 fun v4 =>
 .norm [.s ((v4.getD 0 d0).ss), .i (IntKind.i64.wrap ((v4.getD 1 d0).ii + (1 : Int))), .s ((v4.getD 2 d0).ss), .s ((v4.getD 3 d0).ss)]
 else
 .ex 0 [.s ((v2.getD 0 d0).ss)]
noncomputable def E_spec_TypeText (a : List DC) : Out :=
 (r_spec_TypeOk [.s ((a.getD 0 d0).ss), .s ((a.getD 1 d0).ss)]).bindR fun r1 =>
 if (!((r1.getD 0 d0).bb)) = true then
 .ret [.s ([] : List UInt8)]
 else
 Out.andThenB (Loop E_spec_TypeTextL1 [.s ((a.getD 0 d0).ss), .i (0 : Int), .s ((a.getD 0 d0).ss), .s ((a.getD 1 d0).ss)]) 0 fun v5 =>
 .ret [.s ((v5.getD 0 d0).ss)]
theorem eq_spec_TypeText a : r_spec_TypeText a = E_spec_TypeText a := (Run_eq cfg 102 _ a).trans (by kernel_rfl)
noncomputable def E_spec_l07SayL1 : List DC → Out := fun v4 =>
 if (decide ((v4.getD 2 d0).ii < (((v4.getD 5 d0).ll).length : Int))) = true then
 Out.andThenB (Out.andThen (if (decide ((v4.getD 2 d0).ii > (0 : Int))) = true then
 if ((v4.getD 0 d0).ll).length + [[DC.i (44 : Int)], [DC.i (32 : Int)]].length < LIM then
 .norm [.sl (((v4.getD 0 d0).ll) ++ [[DC.i (44 : Int)], [DC.i (32 : Int)]]), .i ((v4.getD 1 d0).ii), .i ((v4.getD 2 d0).ii), .i ((v4.getD 3 d0).ii), .s ((v4.getD 4 d0).ss), .sl ((v4.getD 5 d0).ll), .sl ((v4.getD 6 d0).ll)]
 else
 .fail
 else
 .norm [.sl ((v4.getD 0 d0).ll), .i ((v4.getD 1 d0).ii), .i ((v4.getD 2 d0).ii), .i ((v4.getD 3 d0).ii), .s ((v4.getD 4 d0).ss), .sl ((v4.getD 5 d0).ll), .sl ((v4.getD 6 d0).ll)]) fun v5 =>
 Out.andThen (if ((v5.getD 3 d0).ii == (8 : Int)) = true then
 if 9 = 9 ∧ 0 ≤ (v5.getD 2 d0).ii ∧ (v5.getD 2 d0).ii < (((v5.getD 6 d0).ll).length : Int) then
 if ((v5.getD 0 d0).ll).length + (bytesRow (((((v5.getD 6 d0).ll).getD ((v5.getD 2 d0).ii).toNat []).getD 0 d0).ss)).length < LIM then
 if (((v5.getD 0 d0).ll) ++ (bytesRow (((((v5.getD 6 d0).ll).getD ((v5.getD 2 d0).ii).toNat []).getD 0 d0).ss))).length + [[DC.i (58 : Int)], [DC.i (32 : Int)]].length < LIM then
 .norm [.sl ((((v5.getD 0 d0).ll) ++ (bytesRow (((((v5.getD 6 d0).ll).getD ((v5.getD 2 d0).ii).toNat []).getD 0 d0).ss))) ++ [[DC.i (58 : Int)], [DC.i (32 : Int)]]), .i ((v5.getD 1 d0).ii), .i ((v5.getD 2 d0).ii), .i ((v5.getD 3 d0).ii), .s ((v5.getD 4 d0).ss), .sl ((v5.getD 5 d0).ll), .sl ((v5.getD 6 d0).ll)]
 else
 .fail
 else
 .fail
 else
 .fail
 else
 .norm [.sl ((v5.getD 0 d0).ll), .i ((v5.getD 1 d0).ii), .i ((v5.getD 2 d0).ii), .i ((v5.getD 3 d0).ii), .s ((v5.getD 4 d0).ss), .sl ((v5.getD 5 d0).ll), .sl ((v5.getD 6 d0).ll)]) fun v6 =>
 if 43 = 43 ∧ 0 ≤ (v6.getD 2 d0).ii ∧ (v6.getD 2 d0).ii < (((v6.getD 5 d0).ll).length : Int) then
 (r_spec_l07Say [.sl ((v6.getD 0 d0).ll), .i (((((v6.getD 5 d0).ll).getD ((v6.getD 2 d0).ii).toNat []).getD 0 d0).ii), .s (((((v6.getD 5 d0).ll).getD ((v6.getD 2 d0).ii).toNat []).getD 1 d0).ss), .sl (((((v6.getD 5 d0).ll).getD ((v6.getD 2 d0).ii).toNat []).getD 2 d0).ll), .sl (((((v6.getD 5 d0).ll).getD ((v6.getD 2 d0).ii).toNat []).getD 3 d0).ll)]).bindR fun r7 =>
 .norm [.sl ((r7.getD 0 d0).ll), .i ((v6.getD 1 d0).ii), .i ((v6.getD 2 d0).ii), .i ((v6.getD 3 d0).ii), .s ((v6.getD 4 d0).ss), .sl ((v6.getD 5 d0).ll), .sl ((v6.getD 6 d0).ll)]
 else
 .fail) 2 fun v8 =>
 .norm [.sl ((v8.getD 0 d0).ll), .i ((v8.getD 1 d0).ii), .i (IntKind.i64.wrap ((v8.getD 2 d0).ii + (1 : Int))), .i ((v8.getD 3 d0).ii), .s ((v8.getD 4 d0).ss), .sl ((v8.getD 5 d0).ll), .sl ((v8.getD 6 d0).ll)]
 else
 .ex 1 [.sl ((v4.getD 0 d0).ll), .i ((v4.getD 1 d0).ii)]
noncomputable def E_spec_l07Say (a : List DC) : Out :=
 Out.andThenB (if ((a.getD 1 d0).ii == (1 : Int)) = true then
 if ((a.getD 0 d0).ll).length + [[DC.i (36 : Int)]].length < LIM then
 if (((a.getD 0 d0).ll) ++ [[DC.i (36 : Int)]]).length + (bytesRow ((a.getD 2 d0).ss)).length < LIM then
 .ret [.sl ((((a.getD 0 d0).ll) ++ [[DC.i (36 : Int)]]) ++ (bytesRow ((a.getD 2 d0).ss)))]
 else
 .fail
 else
 .fail
 else
 if ((a.getD 1 d0).ii == (4 : Int)) = true then
 (r_spec_Escaped [.s ((a.getD 2 d0).ss)]).bindR fun r1 =>
 if ((a.getD 0 d0).ll).length + (bytesRow ((r1.getD 0 d0).ss)).length < LIM then
 .ret [.sl (((a.getD 0 d0).ll) ++ (bytesRow ((r1.getD 0 d0).ss)))]
 else
 .fail
 else
 Out.andThen (if ((a.getD 1 d0).ii == (7 : Int)) = true then
 .norm [.sl ((a.getD 0 d0).ll), .b ((a.getD 1 d0).ii == (7 : Int)), .i ((a.getD 1 d0).ii), .s ((a.getD 2 d0).ss), .sl ((a.getD 3 d0).ll), .sl ((a.getD 4 d0).ll)]
 else
 .norm [.sl ((a.getD 0 d0).ll), .b ((a.getD 1 d0).ii == (8 : Int)), .i ((a.getD 1 d0).ii), .s ((a.getD 2 d0).ss), .sl ((a.getD 3 d0).ll), .sl ((a.getD 4 d0).ll)]) fun v2 =>
 if (v2.getD 1 d0).bb = true then
 Out.andThen (if ((v2.getD 2 d0).ii == (8 : Int)) = true then
 .norm [.sl ((v2.getD 0 d0).ll), .i (123 : Int), .i (125 : Int), .i ((v2.getD 2 d0).ii), .s ((v2.getD 3 d0).ss), .sl ((v2.getD 4 d0).ll), .sl ((v2.getD 5 d0).ll)]
 else
 .norm [.sl ((v2.getD 0 d0).ll), .i (91 : Int), .i (93 : Int), .i ((v2.getD 2 d0).ii), .s ((v2.getD 3 d0).ss), .sl ((v2.getD 4 d0).ll), .sl ((v2.getD 5 d0).ll)]) fun v3 =>
 if ((v3.getD 0 d0).ll).length + [[DC.i ((v3.getD 1 d0).ii)]].length < LIM then
 Out.andThenB (Loop E_spec_l07SayL1 [.sl (((v3.getD 0 d0).ll) ++ [[DC.i ((v3.getD 1 d0).ii)]]), .i ((v3.getD 2 d0).ii), .i (0 : Int), .i ((v3.getD 3 d0).ii), .s ((v3.getD 4 d0).ss), .sl ((v3.getD 5 d0).ll), .sl ((v3.getD 6 d0).ll)]) 1 fun v9 =>
 if ((v9.getD 0 d0).ll).length + [[DC.i ((v9.getD 1 d0).ii)]].length < LIM then
 .ret [.sl (((v9.getD 0 d0).ll) ++ [[DC.i ((v9.getD 1 d0).ii)]])]
 else
 .fail
 else
 .fail
 else
 .norm [.sl ((v2.getD 0 d0).ll), .i ((v2.getD 2 d0).ii), .s ((v2.getD 3 d0).ss), .sl ((v2.getD 4 d0).ll), .sl ((v2.getD 5 d0).ll)]) 0 fun v10 =>
 if ((v10.getD 0 d0).ll).length + (bytesRow ((v10.getD 2 d0).ss)).length < LIM then
 .ret [.sl (((v10.getD 0 d0).ll) ++ (bytesRow ((v10.getD 2 d0).ss)))]
 else
 .fail
theorem eq_spec_l07Say a : r_spec_l07Say a = E_spec_l07Say a := (Run_eq cfg 103 _ a).trans (by kernel_rfl)
noncomputable def E_impl_NameOkL1 : List DC → Out := fun v4 =>
 if (decide ((v4.getD 2 d0).ii < (v4.getD 1 d0).ii)) = true then
 Out.andThenB (if 0 ≤ (v4.getD 2 d0).ii ∧ (v4.getD 2 d0).ii < (((v4.getD 0 d0).ss).length : Int) then
 (r_impl_inName [.i ((((v4.getD 0 d0).ss).getD ((v4.getD 2 d0).ii).toNat 0).toNat : Int)]).bindR fun r5 =>
 if (!((r5.getD 0 d0).bb)) = true then
 .ret [.b false]
 else
 .norm [.s ((v4.getD 0 d0).ss), .i ((v4.getD 1 d0).ii), .i ((v4.getD 2 d0).ii)]
 else
 .fail) 1 fun v6 =>
 .norm [.s ((v6.getD 0 d0).ss), .i ((v6.getD 1 d0).ii), .i (IntKind.i64.wrap ((v6.getD 2 d0).ii + (1 : Int)))]
 else
 .ex 0 []
noncomputable def E_impl_NameOk (a : List DC) : Out :=
 Out.andThen ((r_impl_in [.i (((a.getD 0 d0).ss).length : Int), .i (1 : Int), .i (30 : Int)]).bindR fun r1 =>
 if (!((r1.getD 0 d0).bb)) = true then
 .norm [.s ((a.getD 0 d0).ss), .b true]
 else
 if 0 ≤ (0 : Int) ∧ (0 : Int) < (((a.getD 0 d0).ss).length : Int) then
 (r_impl_isFigure [.i ((((a.getD 0 d0).ss).getD (0 : Int).toNat 0).toNat : Int)]).bindR fun r2 =>
 .norm [.s ((a.getD 0 d0).ss), .b ((r2.getD 0 d0).bb)]
 else
 .fail) fun v3 =>
 if (v3.getD 1 d0).bb = true then
 .ret [.b false]
 else
 Out.andThenB (Loop E_impl_NameOkL1 [.s ((v3.getD 0 d0).ss), .i (((v3.getD 0 d0).ss).length : Int), .i (0 : Int)]) 0 fun v7 =>
 .ret [.b true]
theorem eq_impl_NameOk a : r_impl_NameOk a = E_impl_NameOk a := (Run_eq cfg 107 _ a).trans (by kernel_rfl)
noncomputable def E_impl_TypeOk (a : List DC) : Out :=
 Out.andThen ((r_impl_NameOk [.s ((a.getD 0 d0).ss)]).bindR fun r1 =>
 if (r1.getD 0 d0).bb = true then
 if (decide ((((a.getD 1 d0).ss).length : Int) ≤ (8 : Int))) = true then
 (r_strings_Trim [.s ((a.getD 1 d0).ss), .s ([93, 33] : List UInt8)]).bindR fun r2 =>
 if ((r2.getD 0 d0).ss == ([] : List UInt8)) = true then
 (r_strings_Contains [.s ((a.getD 1 d0).ss), .s ([33, 33] : List UInt8)]).bindR fun r3 =>
 .norm [.b (!((r3.getD 0 d0).bb))]
 else
 .norm [.b false]
 else
 .norm [.b false]
 else
 .norm [.b false]) fun v4 =>
 .ret [.b ((v4.getD 0 d0).bb)]
theorem eq_impl_TypeOk a : r_impl_TypeOk a = E_impl_TypeOk a := (Run_eq cfg 109 _ a).trans (by kernel_rfl)
noncomputable def E_impl_defaultOk (a : List DC) : Out :=
 if (!((a.getD 0 d0).bb)) = true then
 (r_impl_emptyValue [.i ((a.getD 1 d0).ii), .s ((a.getD 2 d0).ss), .sl ((a.getD 3 d0).ll), .sl ((a.getD 4 d0).ll)]).bindR fun r1 =>
 .ret [.b ((r1.getD 0 d0).bb)]
 else
 Out.andThen ((r_impl_ValueOk [.i ((a.getD 1 d0).ii), .s ((a.getD 2 d0).ss), .sl ((a.getD 3 d0).ll), .sl ((a.getD 4 d0).ll)]).bindR fun r2 =>
 if (r2.getD 0 d0).bb = true then
 (r_impl_IsConst [.i ((a.getD 1 d0).ii), .s ((a.getD 2 d0).ss), .sl ((a.getD 3 d0).ll), .sl ((a.getD 4 d0).ll)]).bindR fun r3 =>
 .norm [.b ((r3.getD 0 d0).bb)]
 else
 .norm [.b false]) fun v4 =>
 .ret [.b ((v4.getD 0 d0).bb)]
theorem eq_impl_defaultOk a : r_impl_defaultOk a = E_impl_defaultOk a := (Run_eq cfg 110 _ a).trans (by kernel_rfl)
noncomputable def E_impl_constDirs (a : List DC) : Out :=
 Out.andThen ((r_impl_DirsOk [.sl ((a.getD 0 d0).ll)]).bindR fun r1 =>
 if (r1.getD 0 d0).bb = true then
 (r_slices_ContainsFunc_impl_Dir__impl_constDirs_1 [.sl ((a.getD 0 d0).ll)]).bindR fun r2 =>
 .norm [.b (!((r2.getD 0 d0).bb))]
 else
 .norm [.b false]) fun v3 =>
 .ret [.b ((v3.getD 0 d0).bb)]
theorem eq_impl_constDirs a : r_impl_constDirs a = E_impl_constDirs a := (Run_eq cfg 111 _ a).trans (by kernel_rfl)
noncomputable def E_impl_TextOk (a : List DC) : Out :=
 (r_unicode_utf8_ValidString [.s ((a.getD 0 d0).ss)]).bindR fun r1 =>
 .ret [.b ((r1.getD 0 d0).bb)]
theorem eq_impl_TextOk a : r_impl_TextOk a = E_impl_TextOk a := (Run_eq cfg 112 _ a).trans (by kernel_rfl)
noncomputable def E_strings_IndexByte (a : List DC) : Out :=
 (r_internal_stringslite_IndexByte [.s ((a.getD 0 d0).ss), .i ((a.getD 1 d0).ii)]).bindR fun r1 =>
 .ret [.i ((r1.getD 0 d0).ii)]
theorem eq_strings_IndexByte a : r_strings_IndexByte a = E_strings_IndexByte a := (Run_eq cfg 113 _ a).trans (by kernel_rfl)
noncomputable def E_impl_ValueText (a : List DC) : Out :=
 (r_impl_ValueOk [.i ((a.getD 0 d0).ii), .s ((a.getD 1 d0).ss), .sl ((a.getD 2 d0).ll), .sl ((a.getD 3 d0).ll)]).bindR fun r1 =>
 if (!((r1.getD 0 d0).bb)) = true then
 .ret [.s ([] : List UInt8)]
 else
 (r_impl_printValue [.i ((a.getD 0 d0).ii), .s ((a.getD 1 d0).ss), .sl ((a.getD 2 d0).ll), .sl ((a.getD 3 d0).ll)]).bindR fun r2 =>
 .ret [.s ((r2.getD 0 d0).ss)]
theorem eq_impl_ValueText a : r_impl_ValueText a = E_impl_ValueText a := (Run_eq cfg 114 _ a).trans (by kernel_rfl)
noncomputable def E_impl_DirsOk (a : List DC) : Out :=
 (r_slices_ContainsFunc_impl_Dir__impl_DirsOk_1 [.sl ((a.getD 0 d0).ll)]).bindR fun r1 =>
 .ret [.b (!((r1.getD 0 d0).bb))]
theorem eq_impl_DirsOk a : r_impl_DirsOk a = E_impl_DirsOk a := (Run_eq cfg 115 _ a).trans (by kernel_rfl)
noncomputable def E_impl_ArgsTextL1 : List DC → Out := fun v3 =>
 if (decide ((v3.getD 3 d0).ii < (v3.getD 2 d0).ii)) = true then
 Out.andThenB (if 189 = 189 ∧ 0 ≤ (v3.getD 3 d0).ii ∧ (v3.getD 3 d0).ii < (((v3.getD 1 d0).ll).length : Int) then
 if (((((v3.getD 1 d0).ll).getD ((v3.getD 3 d0).ii).toNat []).getD 0 d0).ss).length + ([58, 32] : List UInt8).length < LIM then
 (r_impl_printValue [.i (((((v3.getD 1 d0).ll).getD ((v3.getD 3 d0).ii).toNat []).getD 1 d0).ii), .s (((((v3.getD 1 d0).ll).getD ((v3.getD 3 d0).ii).toNat []).getD 2 d0).ss), .sl (((((v3.getD 1 d0).ll).getD ((v3.getD 3 d0).ii).toNat []).getD 3 d0).ll), .sl (((((v3.getD 1 d0).ll).getD ((v3.getD 3 d0).ii).toNat []).getD 4 d0).ll)]).bindR fun r4 =>
 if ((((((v3.getD 1 d0).ll).getD ((v3.getD 3 d0).ii).toNat []).getD 0 d0).ss) ++ ([58, 32] : List UInt8)).length + ((r4.getD 0 d0).ss).length < LIM then
 if ((v3.getD 0 d0).ll).length + [[DC.s (((((((v3.getD 1 d0).ll).getD ((v3.getD 3 d0).ii).toNat []).getD 0 d0).ss) ++ ([58, 32] : List UInt8)) ++ ((r4.getD 0 d0).ss))]].length < LIM then
 .norm [.sl (((v3.getD 0 d0).ll) ++ [[DC.s (((((((v3.getD 1 d0).ll).getD ((v3.getD 3 d0).ii).toNat []).getD 0 d0).ss) ++ ([58, 32] : List UInt8)) ++ ((r4.getD 0 d0).ss))]]), .sl ((v3.getD 1 d0).ll), .i ((v3.getD 2 d0).ii), .i ((v3.getD 3 d0).ii)]
 else
 .fail
 else
 .fail
 else
 .fail
 else
 .fail) 1 fun v5 =>
 .norm [.sl ((v5.getD 0 d0).ll), .sl ((v5.getD 1 d0).ll), .i ((v5.getD 2 d0).ii), .i (IntKind.i64.wrap ((v5.getD 3 d0).ii + (1 : Int)))]
 else
 .ex 0 [.sl ((v3.getD 0 d0).ll)]
noncomputable def E_impl_ArgsText (a : List DC) : Out :=
 Out.andThen (if ((((a.getD 0 d0).ll).length : Int) == (0 : Int)) = true then
 .norm [.sl ((a.getD 0 d0).ll), .b true]
 else
 (r_impl_ArgsOk [.sl ((a.getD 0 d0).ll)]).bindR fun r1 =>
 .norm [.sl ((a.getD 0 d0).ll), .b (!((r1.getD 0 d0).bb))]) fun v2 =>
 if (v2.getD 1 d0).bb = true then
 .ret [.s ([] : List UInt8)]
 else
 Out.andThenB (Loop E_impl_ArgsTextL1 [.sl [], .sl ((v2.getD 0 d0).ll), .i (((v2.getD 0 d0).ll).length : Int), .i (0 : Int)]) 0 fun v6 =>
 (r_strings_Join [.sl ((v6.getD 0 d0).ll), .s ([44, 32] : List UInt8)]).bindR fun r7 =>
 if ([40] : List UInt8).length + ((r7.getD 0 d0).ss).length < LIM then
 if (([40] : List UInt8) ++ ((r7.getD 0 d0).ss)).length + ([41] : List UInt8).length < LIM then
 .ret [.s ((([40] : List UInt8) ++ ((r7.getD 0 d0).ss)) ++ ([41] : List UInt8))]
 else
 .fail
 else
 .fail
theorem eq_impl_ArgsText a : r_impl_ArgsText a = E_impl_ArgsText a := (Run_eq cfg 116 _ a).trans (by kernel_rfl)
noncomputable def E_laws_eqValueSL1 : List DC → Out := fun v1 =>
 if (decide ((v1.getD 2 d0).ii < (((v1.getD 0 d0).ll).length : Int))) = true then
 Out.andThenB (if 43 = 43 ∧ 0 ≤ (v1.getD 2 d0).ii ∧ (v1.getD 2 d0).ii < (((v1.getD 0 d0).ll).length : Int) then
 if 43 = 43 ∧ 0 ≤ (v1.getD 2 d0).ii ∧ (v1.getD 2 d0).ii < (((v1.getD 1 d0).ll).length : Int) then
 (r_laws_eqValue [.i (((((v1.getD 0 d0).ll).getD ((v1.getD 2 d0).ii).toNat []).getD 0 d0).ii), .s (((((v1.getD 0 d0).ll).getD ((v1.getD 2 d0).ii).toNat []).getD 1 d0).ss), .sl (((((v1.getD 0 d0).ll).getD ((v1.getD 2 d0).ii).toNat []).getD 2 d0).ll), .sl (((((v1.getD 0 d0).ll).getD ((v1.getD 2 d0).ii).toNat []).getD 3 d0).ll), .i (((((v1.getD 1 d0).ll).getD ((v1.getD 2 d0).ii).toNat []).getD 0 d0).ii), .s (((((v1.getD 1 d0).ll).getD ((v1.getD 2 d0).ii).toNat []).getD 1 d0).ss), .sl (((((v1.getD 1 d0).ll).getD ((v1.getD 2 d0).ii).toNat []).getD 2 d0).ll), .sl (((((v1.getD 1 d0).ll).getD ((v1.getD 2 d0).ii).toNat []).getD 3 d0).ll)]).bindR fun r2 =>
 if (!((r2.getD 0 d0).bb)) = true then
 .ret [.b false]
 else
 .norm [.sl ((v1.getD 0 d0).ll), .sl ((v1.getD 1 d0).ll), .i ((v1.getD 2 d0).ii)]
 else
 .fail
 else
 .fail) 1 fun v3 =>
 .norm [.sl ((v3.getD 0 d0).ll), .sl ((v3.getD 1 d0).ll), .i (IntKind.i64.wrap ((v3.getD 2 d0).ii + (1 : Int)))]
 else
 .ex 0 []
noncomputable def E_laws_eqValueS (a : List DC) : Out :=
 if ((((a.getD 0 d0).ll).length : Int) != (((a.getD 1 d0).ll).length : Int)) = true then
 .ret [.b false]
 else
 Out.andThenB (Loop E_laws_eqValueSL1 [.sl ((a.getD 0 d0).ll), .sl ((a.getD 1 d0).ll), .i (0 : Int)]) 0 fun v4 =>
 .ret [.b true]
theorem eq_laws_eqValueS a : r_laws_eqValueS a = E_laws_eqValueS a := (Run_eq cfg 117 _ a).trans (by kernel_rfl)
noncomputable def E_laws_eqStringSL1 : List DC → Out := fun v1 =>
 if (decide ((v1.getD 2 d0).ii < (((v1.getD 0 d0).ll).length : Int))) = true then
 Out.andThenB (if 9 = 9 ∧ 0 ≤ (v1.getD 2 d0).ii ∧ (v1.getD 2 d0).ii < (((v1.getD 0 d0).ll).length : Int) then
 if 9 = 9 ∧ 0 ≤ (v1.getD 2 d0).ii ∧ (v1.getD 2 d0).ii < (((v1.getD 1 d0).ll).length : Int) then
 if (!(((((v1.getD 0 d0).ll).getD ((v1.getD 2 d0).ii).toNat []).getD 0 d0).ss == ((((v1.getD 1 d0).ll).getD ((v1.getD 2 d0).ii).toNat []).getD 0 d0).ss)) = true then
 .ret [.b false]
 else
 .norm [.sl ((v1.getD 0 d0).ll), .sl ((v1.getD 1 d0).ll), .i ((v1.getD 2 d0).ii)]
 else
 .fail
 else
 .fail) 1 fun v2 =>
 .norm [.sl ((v2.getD 0 d0).ll), .sl ((v2.getD 1 d0).ll), .i (IntKind.i64.wrap ((v2.getD 2 d0).ii + (1 : Int)))]
 else
 .ex 0 []
noncomputable def E_laws_eqStringS (a : List DC) : Out :=
 if ((((a.getD 0 d0).ll).length : Int) != (((a.getD 1 d0).ll).length : Int)) = true then
 .ret [.b false]
 else
 Out.andThenB (Loop E_laws_eqStringSL1 [.sl ((a.getD 0 d0).ll), .sl ((a.getD 1 d0).ll), .i (0 : Int)]) 0 fun v3 =>
 .ret [.b true]
theorem eq_laws_eqStringS a : r_laws_eqStringS a = E_laws_eqStringS a := (Run_eq cfg 118 _ a).trans (by kernel_rfl)
noncomputable def E_laws_eqDir (a : List DC) : Out :=
 if (!((a.getD 0 d0).ss == (a.getD 2 d0).ss)) = true then
 .ret [.b false]
 else
 (r_laws_eqArgS [.sl ((a.getD 1 d0).ll), .sl ((a.getD 3 d0).ll)]).bindR fun r1 =>
 if (!((r1.getD 0 d0).bb)) = true then
 .ret [.b false]
 else
 .ret [.b true]
theorem eq_laws_eqDir a : r_laws_eqDir a = E_laws_eqDir a := (Run_eq cfg 119 _ a).trans (by kernel_rfl)
noncomputable def E_laws_szVarDef (a : List DC) : Out :=
 if (decide ((IntKind.i64.wrap ((a.getD 9 d0).ii - (((a.getD 0 d0).ss).length : Int))) < (0 : Int))) = true then
 .ret [.i (-1 : Int)]
 else
 (r_laws_szType [.s ((a.getD 1 d0).ss), .s ((a.getD 2 d0).ss), .i (IntKind.i64.wrap ((a.getD 9 d0).ii - (((a.getD 0 d0).ss).length : Int)))]).bindR fun r1 =>
 if (decide ((r1.getD 0 d0).ii < (0 : Int))) = true then
 .ret [.i (-1 : Int)]
 else
 (r_laws_szValue [.i ((a.getD 4 d0).ii), .s ((a.getD 5 d0).ss), .sl ((a.getD 6 d0).ll), .sl ((a.getD 7 d0).ll), .i ((r1.getD 0 d0).ii)]).bindR fun r2 =>
 if (decide ((r2.getD 0 d0).ii < (0 : Int))) = true then
 .ret [.i (-1 : Int)]
 else
 (r_laws_szDirS [.sl ((a.getD 8 d0).ll), .i ((r2.getD 0 d0).ii)]).bindR fun r3 =>
 if (decide ((r3.getD 0 d0).ii < (0 : Int))) = true then
 .ret [.i (-1 : Int)]
 else
 .ret [.i ((r3.getD 0 d0).ii)]
theorem eq_laws_szVarDef a : r_laws_szVarDef a = E_laws_szVarDef a := (Run_eq cfg 127 _ a).trans (by kernel_rfl)
noncomputable def E_laws_toVarDef (a : List DC) : Out :=
 (r_laws_toType [.s ((a.getD 1 d0).ss), .s ((a.getD 2 d0).ss)]).bindR fun r1 =>
 (r_laws_toValue [.i ((a.getD 4 d0).ii), .s ((a.getD 5 d0).ss), .sl ((a.getD 6 d0).ll), .sl ((a.getD 7 d0).ll)]).bindR fun r2 =>
 (r_laws_toDirS [.sl ((a.getD 8 d0).ll)]).bindR fun r3 =>
 .ret [.s ((a.getD 0 d0).ss), .s ((r1.getD 0 d0).ss), .s ((r1.getD 1 d0).ss), .b ((a.getD 3 d0).bb), .i ((r2.getD 0 d0).ii), .s ((r2.getD 1 d0).ss), .sl ((r2.getD 2 d0).ll), .sl ((r2.getD 3 d0).ll), .sl ((r3.getD 0 d0).ll)]
theorem eq_laws_toVarDef a : r_laws_toVarDef a = E_laws_toVarDef a := (Run_eq cfg 129 _ a).trans (by kernel_rfl)
noncomputable def E_spec_DirsOkL1 : List DC → Out := fun v1 =>
 if (decide ((v1.getD 1 d0).ii < (((v1.getD 0 d0).ll).length : Int))) = true then
 Out.andThenB (Out.andThen (if 155 = 155 ∧ 0 ≤ (v1.getD 1 d0).ii ∧ (v1.getD 1 d0).ii < (((v1.getD 0 d0).ll).length : Int) then
 (r_spec_NameOk [.s (((((v1.getD 0 d0).ll).getD ((v1.getD 1 d0).ii).toNat []).getD 0 d0).ss)]).bindR fun r2 =>
 if (!((r2.getD 0 d0).bb)) = true then
 .norm [.sl ((v1.getD 0 d0).ll), .i ((v1.getD 1 d0).ii), .b true]
 else
 if 155 = 155 ∧ 0 ≤ (v1.getD 1 d0).ii ∧ (v1.getD 1 d0).ii < (((v1.getD 0 d0).ll).length : Int) then
 (r_spec_ArgsOk [.sl (((((v1.getD 0 d0).ll).getD ((v1.getD 1 d0).ii).toNat []).getD 1 d0).ll)]).bindR fun r3 =>
 .norm [.sl ((v1.getD 0 d0).ll), .i ((v1.getD 1 d0).ii), .b (!((r3.getD 0 d0).bb))]
 else
 .fail
 else
 .fail) fun v4 =>
 if (v4.getD 2 d0).bb = true then
 .ret [.b false]
 else
 .norm [.sl ((v4.getD 0 d0).ll), .i ((v4.getD 1 d0).ii)]) 1 fun v5 =>
 .norm [.sl ((v5.getD 0 d0).ll), .i (IntKind.i64.wrap ((v5.getD 1 d0).ii + (1 : Int)))]
 else
 .ex 0 []
noncomputable def E_spec_DirsOk (a : List DC) : Out :=
 Out.andThenB (Loop E_spec_DirsOkL1 [.sl ((a.getD 0 d0).ll), .i (0 : Int)]) 0 fun v6 =>
 .ret [.b true]
theorem eq_spec_DirsOk a : r_spec_DirsOk a = E_spec_DirsOk a := (Run_eq cfg 120 _ a).trans (by kernel_rfl)
noncomputable def E_spec_VarDefOk (a : List DC) : Out :=
 Out.andThen ((r_spec_NameOk [.s ((a.getD 0 d0).ss)]).bindR fun r1 =>
 if (r1.getD 0 d0).bb = true then
 (r_spec_TypeOk [.s ((a.getD 1 d0).ss), .s ((a.getD 2 d0).ss)]).bindR fun r2 =>
 if (r2.getD 0 d0).bb = true then
 (r_spec_l12Default [.b ((a.getD 3 d0).bb), .i ((a.getD 4 d0).ii), .s ((a.getD 5 d0).ss), .sl ((a.getD 6 d0).ll), .sl ((a.getD 7 d0).ll)]).bindR fun r3 =>
 if (r3.getD 0 d0).bb = true then
 (r_spec_l12Consts [.sl ((a.getD 8 d0).ll)]).bindR fun r4 =>
 .norm [.b ((r4.getD 0 d0).bb)]
 else
 .norm [.b false]
 else
 .norm [.b false]
 else
 .norm [.b false]) fun v5 =>
 .ret [.b ((v5.getD 0 d0).bb)]
theorem eq_spec_VarDefOk a : r_spec_VarDefOk a = E_spec_VarDefOk a := (Run_eq cfg 128 _ a).trans (by kernel_rfl)
noncomputable def E_spec_l11OkL1 : List DC → Out := fun v1 =>
 Out.andThen (if (decide ((v1.getD 2 d0).ii < (((v1.getD 0 d0).ll).length : Int))) = true then
 .norm [.sl ((v1.getD 0 d0).ll), .i ((v1.getD 1 d0).ii), .i ((v1.getD 2 d0).ii), .b (decide ((v1.getD 1 d0).ii ≥ (0 : Int)))]
 else
 .norm [.sl ((v1.getD 0 d0).ll), .i ((v1.getD 1 d0).ii), .i ((v1.getD 2 d0).ii), .b false]) fun v2 =>
 if (v2.getD 3 d0).bb = true then
 Out.andThenB (if 89 = 89 ∧ 0 ≤ (v2.getD 2 d0).ii ∧ (v2.getD 2 d0).ii < (((v2.getD 0 d0).ll).length : Int) then
 (r_spec_l11Count [.i (((((v2.getD 0 d0).ll).getD ((v2.getD 2 d0).ii).toNat []).getD 0 d0).ii), .s (((((v2.getD 0 d0).ll).getD ((v2.getD 2 d0).ii).toNat []).getD 1 d0).ss), .s (((((v2.getD 0 d0).ll).getD ((v2.getD 2 d0).ii).toNat []).getD 2 d0).ss), .s (((((v2.getD 0 d0).ll).getD ((v2.getD 2 d0).ii).toNat []).getD 3 d0).ss), .sl (((((v2.getD 0 d0).ll).getD ((v2.getD 2 d0).ii).toNat []).getD 4 d0).ll), .sl (((((v2.getD 0 d0).ll).getD ((v2.getD 2 d0).ii).toNat []).getD 5 d0).ll), .sl (((((v2.getD 0 d0).ll).getD ((v2.getD 2 d0).ii).toNat []).getD 6 d0).ll), .i ((v2.getD 1 d0).ii)]).bindR fun r3 =>
 .norm [.sl ((v2.getD 0 d0).ll), .i ((r3.getD 0 d0).ii), .i ((v2.getD 2 d0).ii)]
 else
 .fail) 1 fun v4 =>
 .norm [.sl ((v4.getD 0 d0).ll), .i ((v4.getD 1 d0).ii), .i (IntKind.i64.wrap ((v4.getD 2 d0).ii + (1 : Int)))]
 else
 .ex 0 [.sl ((v2.getD 0 d0).ll), .i ((v2.getD 1 d0).ii)]
noncomputable def E_spec_l11OkL2 : List DC → Out := fun v6 =>
 Out.andThen (if (decide ((v6.getD 2 d0).ii < (((v6.getD 0 d0).ll).length : Int))) = true then
 .norm [.sl ((v6.getD 0 d0).ll), .i ((v6.getD 1 d0).ii), .i ((v6.getD 2 d0).ii), .b (decide ((v6.getD 1 d0).ii ≥ (0 : Int)))]
 else
 .norm [.sl ((v6.getD 0 d0).ll), .i ((v6.getD 1 d0).ii), .i ((v6.getD 2 d0).ii), .b false]) fun v7 =>
 if (v7.getD 3 d0).bb = true then
 Out.andThenB (if 89 = 89 ∧ 0 ≤ (v7.getD 2 d0).ii ∧ (v7.getD 2 d0).ii < (((v7.getD 0 d0).ll).length : Int) then
 (r_spec_l11Right [.i (((((v7.getD 0 d0).ll).getD ((v7.getD 2 d0).ii).toNat []).getD 0 d0).ii), .s (((((v7.getD 0 d0).ll).getD ((v7.getD 2 d0).ii).toNat []).getD 1 d0).ss), .s (((((v7.getD 0 d0).ll).getD ((v7.getD 2 d0).ii).toNat []).getD 2 d0).ss), .s (((((v7.getD 0 d0).ll).getD ((v7.getD 2 d0).ii).toNat []).getD 3 d0).ss), .sl (((((v7.getD 0 d0).ll).getD ((v7.getD 2 d0).ii).toNat []).getD 4 d0).ll), .sl (((((v7.getD 0 d0).ll).getD ((v7.getD 2 d0).ii).toNat []).getD 5 d0).ll), .sl (((((v7.getD 0 d0).ll).getD ((v7.getD 2 d0).ii).toNat []).getD 6 d0).ll), .i (10 : Int)]).bindR fun r8 =>
 if (!((r8.getD 0 d0).bb)) = true then
 .ret [.b false]
 else
 .norm [.sl ((v7.getD 0 d0).ll), .i ((v7.getD 1 d0).ii), .i ((v7.getD 2 d0).ii)]
 else
 .fail) 3 fun v9 =>
 .norm [.sl ((v9.getD 0 d0).ll), .i ((v9.getD 1 d0).ii), .i (IntKind.i64.wrap ((v9.getD 2 d0).ii + (1 : Int)))]
 else
 .ex 2 [.i ((v7.getD 1 d0).ii)]
noncomputable def E_spec_l11Ok (a : List DC) : Out :=
 Out.andThenB (Loop E_spec_l11OkL1 [.sl ((a.getD 0 d0).ll), .i (120 : Int), .i (0 : Int)]) 0 fun v5 =>
 Out.andThenB (Loop E_spec_l11OkL2 [.sl ((v5.getD 0 d0).ll), .i ((v5.getD 1 d0).ii), .i (0 : Int)]) 2 fun v10 =>
 .ret [.b (decide ((v10.getD 0 d0).ii ≥ (0 : Int)))]
theorem eq_spec_l11Ok a : r_spec_l11Ok a = E_spec_l11Ok a := (Run_eq cfg 121 _ a).trans (by kernel_rfl)
noncomputable def E_slices_ContainsFunc_impl_VarDef__impl_OpOk_1 (a : List DC) : Out :=
 (r_slices_IndexFunc_impl_VarDef__impl_OpOk_1 [.sl ((a.getD 0 d0).ll)]).bindR fun r1 =>
 .ret [.b (decide ((r1.getD 0 d0).ii ≥ (0 : Int)))]
theorem eq_slices_ContainsFunc_impl_VarDef__impl_OpOk_1 a : r_slices_ContainsFunc_impl_VarDef__impl_OpOk_1 a = E_slices_ContainsFunc_impl_VarDef__impl_OpOk_1 a := (Run_eq cfg 130 _ a).trans (by kernel_rfl)
noncomputable def E_impl_selsOkL1 : List DC → Out := fun v1 =>
 if (decide ((v1.getD 3 d0).ii < (v1.getD 2 d0).ii)) = true then
 Out.andThenB (if 89 = 89 ∧ 0 ≤ (v1.getD 3 d0).ii ∧ (v1.getD 3 d0).ii < (((v1.getD 1 d0).ll).length : Int) then
 (r_impl_bound_selOk [.i (((((v1.getD 1 d0).ll).getD ((v1.getD 3 d0).ii).toNat []).getD 0 d0).ii), .s (((((v1.getD 1 d0).ll).getD ((v1.getD 3 d0).ii).toNat []).getD 1 d0).ss), .s (((((v1.getD 1 d0).ll).getD ((v1.getD 3 d0).ii).toNat []).getD 2 d0).ss), .s (((((v1.getD 1 d0).ll).getD ((v1.getD 3 d0).ii).toNat []).getD 3 d0).ss), .sl (((((v1.getD 1 d0).ll).getD ((v1.getD 3 d0).ii).toNat []).getD 4 d0).ll), .sl (((((v1.getD 1 d0).ll).getD ((v1.getD 3 d0).ii).toNat []).getD 5 d0).ll), .sl (((((v1.getD 1 d0).ll).getD ((v1.getD 3 d0).ii).toNat []).getD 6 d0).ll), .i (10 : Int), .i ((v1.getD 4 d0).ii)]).bindR fun r2 =>
 if (!((r2.getD 0 d0).bb)) = true then
 .ret [.b false]
 else
 .norm [.sl ((v1.getD 0 d0).ll), .sl ((v1.getD 1 d0).ll), .i ((v1.getD 2 d0).ii), .i ((v1.getD 3 d0).ii), .i ((r2.getD 1 d0).ii)]
 else
 .fail) 1 fun v3 =>
 .norm [.sl ((v3.getD 0 d0).ll), .sl ((v3.getD 1 d0).ll), .i ((v3.getD 2 d0).ii), .i (IntKind.i64.wrap ((v3.getD 3 d0).ii + (1 : Int))), .i ((v3.getD 4 d0).ii)]
 else
 .ex 0 [.sl ((v1.getD 0 d0).ll)]
noncomputable def E_impl_selsOk (a : List DC) : Out :=
 Out.andThenB (Loop E_impl_selsOkL1 [.sl ((a.getD 0 d0).ll), .sl ((a.getD 0 d0).ll), .i (((a.getD 0 d0).ll).length : Int), .i (0 : Int), .i (120 : Int)]) 0 fun v4 =>
 .ret [.b (decide ((((v4.getD 0 d0).ll).length : Int) > (0 : Int)))]
theorem eq_impl_selsOk a : r_impl_selsOk a = E_impl_selsOk a := (Run_eq cfg 122 _ a).trans (by kernel_rfl)
noncomputable def E_laws_eqVarDef (a : List DC) : Out :=
 if (!((a.getD 0 d0).ss == (a.getD 9 d0).ss)) = true then
 .ret [.b false]
 else
 (r_laws_eqType [.s ((a.getD 1 d0).ss), .s ((a.getD 2 d0).ss), .s ((a.getD 10 d0).ss), .s ((a.getD 11 d0).ss)]).bindR fun r1 =>
 if (!((r1.getD 0 d0).bb)) = true then
 .ret [.b false]
 else
 if (!((a.getD 3 d0).bb == (a.getD 12 d0).bb)) = true then
 .ret [.b false]
 else
 (r_laws_eqValue [.i ((a.getD 4 d0).ii), .s ((a.getD 5 d0).ss), .sl ((a.getD 6 d0).ll), .sl ((a.getD 7 d0).ll), .i ((a.getD 13 d0).ii), .s ((a.getD 14 d0).ss), .sl ((a.getD 15 d0).ll), .sl ((a.getD 16 d0).ll)]).bindR fun r2 =>
 if (!((r2.getD 0 d0).bb)) = true then
 .ret [.b false]
 else
 (r_laws_eqDirS [.sl ((a.getD 8 d0).ll), .sl ((a.getD 17 d0).ll)]).bindR fun r3 =>
 if (!((r3.getD 0 d0).bb)) = true then
 .ret [.b false]
 else
 .ret [.b true]
theorem eq_laws_eqVarDef a : r_laws_eqVarDef a = E_laws_eqVarDef a := (Run_eq cfg 136 _ a).trans (by kernel_rfl)
noncomputable def E_laws_szArg (a : List DC) : Out :=
 if (decide ((IntKind.i64.wrap ((a.getD 5 d0).ii - (((a.getD 0 d0).ss).length : Int))) < (0 : Int))) = true then
 .ret [.i (-1 : Int)]
 else
 (r_laws_szValue [.i ((a.getD 1 d0).ii), .s ((a.getD 2 d0).ss), .sl ((a.getD 3 d0).ll), .sl ((a.getD 4 d0).ll), .i (IntKind.i64.wrap ((a.getD 5 d0).ii - (((a.getD 0 d0).ss).length : Int)))]).bindR fun r1 =>
 if (decide ((r1.getD 0 d0).ii < (0 : Int))) = true then
 .ret [.i (-1 : Int)]
 else
 .ret [.i ((r1.getD 0 d0).ii)]
theorem eq_laws_szArg a : r_laws_szArg a = E_laws_szArg a := (Run_eq cfg 137 _ a).trans (by kernel_rfl)
noncomputable def E_laws_toArg (a : List DC) : Out :=
 (r_laws_toValue [.i ((a.getD 1 d0).ii), .s ((a.getD 2 d0).ss), .sl ((a.getD 3 d0).ll), .sl ((a.getD 4 d0).ll)]).bindR fun r1 =>
 .ret [.s ((a.getD 0 d0).ss), .i ((r1.getD 0 d0).ii), .s ((r1.getD 1 d0).ss), .sl ((r1.getD 2 d0).ll), .sl ((r1.getD 3 d0).ll)]
theorem eq_laws_toArg a : r_laws_toArg a = E_laws_toArg a := (Run_eq cfg 140 _ a).trans (by kernel_rfl)
noncomputable def E_spec_l11Names (a : List DC) : Out :=
 Out.andThenB (if ((a.getD 0 d0).ii == (1 : Int)) = true then
 Out.andThen ((r_spec_NameOk [.s ((a.getD 2 d0).ss)]).bindR fun r1 =>
 if (r1.getD 0 d0).bb = true then
 if ((a.getD 1 d0).ss == ([] : List UInt8)) = true then
 .norm [.b ((a.getD 3 d0).ss == ([] : List UInt8))]
 else
 (r_spec_NameOk [.s ((a.getD 1 d0).ss)]).bindR fun r2 =>
 if (r2.getD 0 d0).bb = true then
 .norm [.b ((a.getD 3 d0).ss == ([] : List UInt8))]
 else
 .norm [.b false]
 else
 .norm [.b false]) fun v3 =>
 .ret [.b ((v3.getD 0 d0).bb)]
 else
 if ((a.getD 0 d0).ii == (2 : Int)) = true then
 Out.andThen ((r_spec_NameOk [.s ((a.getD 2 d0).ss)]).bindR fun r4 =>
 if (r4.getD 0 d0).bb = true then
 if (!((a.getD 2 d0).ss == ([111, 110] : List UInt8))) = true then
 if ((a.getD 1 d0).ss == ([] : List UInt8)) = true then
 if ((a.getD 3 d0).ss == ([] : List UInt8)) = true then
 if ((((a.getD 4 d0).ll).length : Int) == (0 : Int)) = true then
 .norm [.b ((((a.getD 6 d0).ll).length : Int) == (0 : Int))]
 else
 .norm [.b false]
 else
 .norm [.b false]
 else
 .norm [.b false]
 else
 .norm [.b false]
 else
 .norm [.b false]) fun v5 =>
 .ret [.b ((v5.getD 0 d0).bb)]
 else
 if ((a.getD 0 d0).ii == (3 : Int)) = true then
 Out.andThen (if ((a.getD 2 d0).ss == ([] : List UInt8)) = true then
 if ((a.getD 1 d0).ss == ([] : List UInt8)) = true then
 if ((a.getD 3 d0).ss == ([] : List UInt8)) = true then
 if ((((a.getD 4 d0).ll).length : Int) == (0 : Int)) = true then
 .norm [.b (decide ((((a.getD 6 d0).ll).length : Int) > (0 : Int)))]
 else
 .norm [.b false]
 else
 (r_spec_NameOk [.s ((a.getD 3 d0).ss)]).bindR fun r6 =>
 if (r6.getD 0 d0).bb = true then
 if ((((a.getD 4 d0).ll).length : Int) == (0 : Int)) = true then
 .norm [.b (decide ((((a.getD 6 d0).ll).length : Int) > (0 : Int)))]
 else
 .norm [.b false]
 else
 .norm [.b false]
 else
 .norm [.b false]
 else
 .norm [.b false]) fun v7 =>
 .ret [.b ((v7.getD 0 d0).bb)]
 else
 .norm []) 0 fun v8 =>
 .ret [.b false]
theorem eq_spec_l11Names a : r_spec_l11Names a = E_spec_l11Names a := (Run_eq cfg 138 _ a).trans (by kernel_rfl)
noncomputable def E_spec_ArgsOkL1 : List DC → Out := fun v1 =>
 if (decide ((v1.getD 1 d0).ii < (((v1.getD 0 d0).ll).length : Int))) = true then
 Out.andThenB (Out.andThen (if 189 = 189 ∧ 0 ≤ (v1.getD 1 d0).ii ∧ (v1.getD 1 d0).ii < (((v1.getD 0 d0).ll).length : Int) then
 (r_spec_NameOk [.s (((((v1.getD 0 d0).ll).getD ((v1.getD 1 d0).ii).toNat []).getD 0 d0).ss)]).bindR fun r2 =>
 if (!((r2.getD 0 d0).bb)) = true then
 .norm [.sl ((v1.getD 0 d0).ll), .i ((v1.getD 1 d0).ii), .b true]
 else
 if 189 = 189 ∧ 0 ≤ (v1.getD 1 d0).ii ∧ (v1.getD 1 d0).ii < (((v1.getD 0 d0).ll).length : Int) then
 (r_spec_ValueOk [.i (((((v1.getD 0 d0).ll).getD ((v1.getD 1 d0).ii).toNat []).getD 1 d0).ii), .s (((((v1.getD 0 d0).ll).getD ((v1.getD 1 d0).ii).toNat []).getD 2 d0).ss), .sl (((((v1.getD 0 d0).ll).getD ((v1.getD 1 d0).ii).toNat []).getD 3 d0).ll), .sl (((((v1.getD 0 d0).ll).getD ((v1.getD 1 d0).ii).toNat []).getD 4 d0).ll)]).bindR fun r3 =>
 .norm [.sl ((v1.getD 0 d0).ll), .i ((v1.getD 1 d0).ii), .b (!((r3.getD 0 d0).bb))]
 else
 .fail
 else
 .fail) fun v4 =>
 if (v4.getD 2 d0).bb = true then
 .ret [.b false]
 else
 .norm [.sl ((v4.getD 0 d0).ll), .i ((v4.getD 1 d0).ii)]) 1 fun v5 =>
 .norm [.sl ((v5.getD 0 d0).ll), .i (IntKind.i64.wrap ((v5.getD 1 d0).ii + (1 : Int)))]
 else
 .ex 0 []
noncomputable def E_spec_ArgsOk (a : List DC) : Out :=
 Out.andThenB (Loop E_spec_ArgsOkL1 [.sl ((a.getD 0 d0).ll), .i (0 : Int)]) 0 fun v6 =>
 .ret [.b true]
theorem eq_spec_ArgsOk a : r_spec_ArgsOk a = E_spec_ArgsOk a := (Run_eq cfg 139 _ a).trans (by kernel_rfl)
noncomputable def E_impl_SelsText_1 (a : List DC) : Out :=
 (r_impl_SelOk [.i ((a.getD 0 d0).ii), .s ((a.getD 1 d0).ss), .s ((a.getD 2 d0).ss), .s ((a.getD 3 d0).ss), .sl ((a.getD 4 d0).ll), .sl ((a.getD 5 d0).ll), .sl ((a.getD 6 d0).ll)]).bindR fun r1 =>
 .ret [.b (!((r1.getD 0 d0).bb))]
theorem eq_impl_SelsText_1 a : r_impl_SelsText_1 a = E_impl_SelsText_1 a := (Run_eq cfg 40 _ a).trans (by kernel_rfl)
noncomputable def E_laws_eqArg (a : List DC) : Out :=
 if (!((a.getD 0 d0).ss == (a.getD 5 d0).ss)) = true then
 .ret [.b false]
 else
 (r_laws_eqValue [.i ((a.getD 1 d0).ii), .s ((a.getD 2 d0).ss), .sl ((a.getD 3 d0).ll), .sl ((a.getD 4 d0).ll), .i ((a.getD 6 d0).ii), .s ((a.getD 7 d0).ss), .sl ((a.getD 8 d0).ll), .sl ((a.getD 9 d0).ll)]).bindR fun r1 =>
 if (!((r1.getD 0 d0).bb)) = true then
 .ret [.b false]
 else
 .ret [.b true]
theorem eq_laws_eqArg a : r_laws_eqArg a = E_laws_eqArg a := (Run_eq cfg 145 _ a).trans (by kernel_rfl)
noncomputable def E_spec_l03Figure (a : List DC) : Out :=
 Out.andThen (if (decide ((a.getD 0 d0).ii ≥ (48 : Int))) = true then
 .norm [.b (decide ((a.getD 0 d0).ii ≤ (57 : Int)))]
 else
 .norm [.b false]) fun v1 =>
 .ret [.b ((v1.getD 0 d0).bb)]
theorem eq_spec_l03Figure a : r_spec_l03Figure a = E_spec_l03Figure a := (Run_eq cfg 146 _ a).trans (by kernel_rfl)
noncomputable def E_spec_l03Letter (a : List DC) : Out :=
 Out.andThen (if (decide ((a.getD 0 d0).ii ≥ (97 : Int))) = true then
 if (decide ((a.getD 0 d0).ii ≤ (122 : Int))) = true then
 .norm [.b true]
 else
 if (decide ((a.getD 0 d0).ii ≥ (65 : Int))) = true then
 if (decide ((a.getD 0 d0).ii ≤ (90 : Int))) = true then
 .norm [.b true]
 else
 .norm [.b ((a.getD 0 d0).ii == (95 : Int))]
 else
 .norm [.b ((a.getD 0 d0).ii == (95 : Int))]
 else
 if (decide ((a.getD 0 d0).ii ≥ (65 : Int))) = true then
 if (decide ((a.getD 0 d0).ii ≤ (90 : Int))) = true then
 .norm [.b true]
 else
 .norm [.b ((a.getD 0 d0).ii == (95 : Int))]
 else
 .norm [.b ((a.getD 0 d0).ii == (95 : Int))]) fun v1 =>
 .ret [.b ((v1.getD 0 d0).bb)]
theorem eq_spec_l03Letter a : r_spec_l03Letter a = E_spec_l03Letter a := (Run_eq cfg 147 _ a).trans (by kernel_rfl)
noncomputable def E_spec_ValueOk (a : List DC) : Out :=
 (r_spec_l07Right [.i ((a.getD 0 d0).ii), .s ((a.getD 1 d0).ss), .sl ((a.getD 2 d0).ll), .sl ((a.getD 3 d0).ll), .i (10 : Int)]).bindR fun r1 =>
 .ret [.b ((r1.getD 0 d0).bb)]
theorem eq_spec_ValueOk a : r_spec_ValueOk a = E_spec_ValueOk a := (Run_eq cfg 148 _ a).trans (by kernel_rfl)
noncomputable def E_spec_IsConst (a : List DC) : Out :=
 (r_spec_l07Const [.i ((a.getD 0 d0).ii), .s ((a.getD 1 d0).ss), .sl ((a.getD 2 d0).ll), .sl ((a.getD 3 d0).ll)]).bindR fun r1 =>
 .ret [.b ((r1.getD 0 d0).bb)]
theorem eq_spec_IsConst a : r_spec_IsConst a = E_spec_IsConst a := (Run_eq cfg 149 _ a).trans (by kernel_rfl)
noncomputable def E_spec_SameValueL1 : List DC → Out := fun v2 =>
 if (decide ((v2.getD 0 d0).ii < (((v2.getD 4 d0).ll).length : Int))) = true then
 Out.andThenB (if 9 = 9 ∧ 0 ≤ (v2.getD 0 d0).ii ∧ (v2.getD 0 d0).ii < (((v2.getD 4 d0).ll).length : Int) then
 if 9 = 9 ∧ 0 ≤ (v2.getD 0 d0).ii ∧ (v2.getD 0 d0).ii < (((v2.getD 8 d0).ll).length : Int) then
 if (!(((((v2.getD 4 d0).ll).getD ((v2.getD 0 d0).ii).toNat []).getD 0 d0).ss == ((((v2.getD 8 d0).ll).getD ((v2.getD 0 d0).ii).toNat []).getD 0 d0).ss)) = true then
 .ret [.b false]
 else
 .norm [.i ((v2.getD 0 d0).ii), .i ((v2.getD 1 d0).ii), .s ((v2.getD 2 d0).ss), .sl ((v2.getD 3 d0).ll), .sl ((v2.getD 4 d0).ll), .i ((v2.getD 5 d0).ii), .s ((v2.getD 6 d0).ss), .sl ((v2.getD 7 d0).ll), .sl ((v2.getD 8 d0).ll)]
 else
 .fail
 else
 .fail) 1 fun v3 =>
 .norm [.i (IntKind.i64.wrap ((v3.getD 0 d0).ii + (1 : Int))), .i ((v3.getD 1 d0).ii), .s ((v3.getD 2 d0).ss), .sl ((v3.getD 3 d0).ll), .sl ((v3.getD 4 d0).ll), .i ((v3.getD 5 d0).ii), .s ((v3.getD 6 d0).ss), .sl ((v3.getD 7 d0).ll), .sl ((v3.getD 8 d0).ll)]
 else
 .ex 0 [.i ((v2.getD 1 d0).ii), .s ((v2.getD 2 d0).ss), .sl ((v2.getD 3 d0).ll), .sl ((v2.getD 4 d0).ll), .i ((v2.getD 5 d0).ii), .s ((v2.getD 6 d0).ss), .sl ((v2.getD 7 d0).ll), .sl ((v2.getD 8 d0).ll)]
noncomputable def E_spec_SameValueL2 : List DC → Out := fun v5 =>
 if (decide ((v5.getD 0 d0).ii < (((v5.getD 3 d0).ll).length : Int))) = true then
 Out.andThenB (if 43 = 43 ∧ 0 ≤ (v5.getD 0 d0).ii ∧ (v5.getD 0 d0).ii < (((v5.getD 3 d0).ll).length : Int) then
 if 43 = 43 ∧ 0 ≤ (v5.getD 0 d0).ii ∧ (v5.getD 0 d0).ii < (((v5.getD 7 d0).ll).length : Int) then
 (r_spec_SameValue [.i (((((v5.getD 3 d0).ll).getD ((v5.getD 0 d0).ii).toNat []).getD 0 d0).ii), .s (((((v5.getD 3 d0).ll).getD ((v5.getD 0 d0).ii).toNat []).getD 1 d0).ss), .sl (((((v5.getD 3 d0).ll).getD ((v5.getD 0 d0).ii).toNat []).getD 2 d0).ll), .sl (((((v5.getD 3 d0).ll).getD ((v5.getD 0 d0).ii).toNat []).getD 3 d0).ll), .i (((((v5.getD 7 d0).ll).getD ((v5.getD 0 d0).ii).toNat []).getD 0 d0).ii), .s (((((v5.getD 7 d0).ll).getD ((v5.getD 0 d0).ii).toNat []).getD 1 d0).ss), .sl (((((v5.getD 7 d0).ll).getD ((v5.getD 0 d0).ii).toNat []).getD 2 d0).ll), .sl (((((v5.getD 7 d0).ll).getD ((v5.getD 0 d0).ii).toNat []).getD 3 d0).ll)]).bindR fun r6 =>
 if (!((r6.getD 0 d0).bb)) = true then
 .ret [.b false]
 else
 .norm [.i ((v5.getD 0 d0).ii), .i ((v5.getD 1 d0).ii), .s ((v5.getD 2 d0).ss), .sl ((v5.getD 3 d0).ll), .sl ((v5.getD 4 d0).ll), .i ((v5.getD 5 d0).ii), .s ((v5.getD 6 d0).ss), .sl ((v5.getD 7 d0).ll), .sl ((v5.getD 8 d0).ll)]
 else
 .fail
 else
 .fail) 3 fun v7 =>
 .norm [.i (IntKind.i64.wrap ((v7.getD 0 d0).ii + (1 : Int))), .i ((v7.getD 1 d0).ii), .s ((v7.getD 2 d0).ss), .sl ((v7.getD 3 d0).ll), .sl ((v7.getD 4 d0).ll), .i ((v7.getD 5 d0).ii), .s ((v7.getD 6 d0).ss), .sl ((v7.getD 7 d0).ll), .sl ((v7.getD 8 d0).ll)]
 else
 .ex 2 []
noncomputable def E_spec_SameValue (a : List DC) : Out :=
 Out.andThen (if ((a.getD 0 d0).ii != (a.getD 4 d0).ii) = true then
 .norm [.b true, .i ((a.getD 0 d0).ii), .s ((a.getD 1 d0).ss), .sl ((a.getD 2 d0).ll), .sl ((a.getD 3 d0).ll), .i ((a.getD 4 d0).ii), .s ((a.getD 5 d0).ss), .sl ((a.getD 6 d0).ll), .sl ((a.getD 7 d0).ll)]
 else
 if (!((a.getD 1 d0).ss == (a.getD 5 d0).ss)) = true then
 .norm [.b true, .i ((a.getD 0 d0).ii), .s ((a.getD 1 d0).ss), .sl ((a.getD 2 d0).ll), .sl ((a.getD 3 d0).ll), .i ((a.getD 4 d0).ii), .s ((a.getD 5 d0).ss), .sl ((a.getD 6 d0).ll), .sl ((a.getD 7 d0).ll)]
 else
 if ((((a.getD 2 d0).ll).length : Int) != (((a.getD 6 d0).ll).length : Int)) = true then
 .norm [.b true, .i ((a.getD 0 d0).ii), .s ((a.getD 1 d0).ss), .sl ((a.getD 2 d0).ll), .sl ((a.getD 3 d0).ll), .i ((a.getD 4 d0).ii), .s ((a.getD 5 d0).ss), .sl ((a.getD 6 d0).ll), .sl ((a.getD 7 d0).ll)]
 else
 .norm [.b ((((a.getD 3 d0).ll).length : Int) != (((a.getD 7 d0).ll).length : Int)), .i ((a.getD 0 d0).ii), .s ((a.getD 1 d0).ss), .sl ((a.getD 2 d0).ll), .sl ((a.getD 3 d0).ll), .i ((a.getD 4 d0).ii), .s ((a.getD 5 d0).ss), .sl ((a.getD 6 d0).ll), .sl ((a.getD 7 d0).ll)]) fun v1 =>
 if (v1.getD 0 d0).bb = true then
 .ret [.b false]
 else
 Out.andThenB (Loop E_spec_SameValueL1 [.i (0 : Int), .i ((v1.getD 1 d0).ii), .s ((v1.getD 2 d0).ss), .sl ((v1.getD 3 d0).ll), .sl ((v1.getD 4 d0).ll), .i ((v1.getD 5 d0).ii), .s ((v1.getD 6 d0).ss), .sl ((v1.getD 7 d0).ll), .sl ((v1.getD 8 d0).ll)]) 0 fun v4 =>
 Out.andThenB (Loop E_spec_SameValueL2 [.i (0 : Int), .i ((v4.getD 0 d0).ii), .s ((v4.getD 1 d0).ss), .sl ((v4.getD 2 d0).ll), .sl ((v4.getD 3 d0).ll), .i ((v4.getD 4 d0).ii), .s ((v4.getD 5 d0).ss), .sl ((v4.getD 6 d0).ll), .sl ((v4.getD 7 d0).ll)]) 2 fun v8 =>
 .ret [.b true]
theorem eq_spec_SameValue a : r_spec_SameValue a = E_spec_SameValue a := (Run_eq cfg 150 _ a).trans (by kernel_rfl)
noncomputable def E_spec_TextOkL1 : List DC → Out := fun v1 =>
 if (decide ((v1.getD 1 d0).ii < (((v1.getD 0 d0).ss).length : Int))) = true then
 Out.andThenB ((r_spec_RuneAt [.s ((v1.getD 0 d0).ss), .i ((v1.getD 1 d0).ii)]).bindR fun r2 =>
 if (decide ((r2.getD 0 d0).ii < (0 : Int))) = true then
 .ret [.b false]
 else
 .norm [.s ((v1.getD 0 d0).ss), .i (IntKind.i64.wrap ((v1.getD 1 d0).ii + (r2.getD 1 d0).ii))]) 1 fun v3 =>
 .norm [.s ((v3.getD 0 d0).ss), .i ((v3.getD 1 d0).ii)]
 else
 .ex 0 []
noncomputable def E_spec_TextOk (a : List DC) : Out :=
 Out.andThenB (Loop E_spec_TextOkL1 [.s ((a.getD 0 d0).ss), .i (0 : Int)]) 0 fun v4 =>
 .ret [.b true]
theorem eq_spec_TextOk a : r_spec_TextOk a = E_spec_TextOk a := (Run_eq cfg 151 _ a).trans (by kernel_rfl)
noncomputable def E_spec_l04Hex4 (a : List DC) : Out :=
 if (4096 : Int) = 0 then
 .fail
 else
 if (16 : Int) = 0 then
 .fail
 else
 if 0 ≤ ((IntKind.i64.wrap (((a.getD 0 d0).ii).tdiv (4096 : Int))).tmod (16 : Int)) ∧ ((IntKind.i64.wrap (((a.getD 0 d0).ii).tdiv (4096 : Int))).tmod (16 : Int)) < (([48, 49, 50, 51, 52, 53, 54, 55, 56, 57, 97, 98, 99, 100, 101, 102] : List UInt8).length : Int) then
 if (256 : Int) = 0 then
 .fail
 else
 if (16 : Int) = 0 then
 .fail
 else
 if 0 ≤ ((IntKind.i64.wrap (((a.getD 0 d0).ii).tdiv (256 : Int))).tmod (16 : Int)) ∧ ((IntKind.i64.wrap (((a.getD 0 d0).ii).tdiv (256 : Int))).tmod (16 : Int)) < (([48, 49, 50, 51, 52, 53, 54, 55, 56, 57, 97, 98, 99, 100, 101, 102] : List UInt8).length : Int) then
 if (16 : Int) = 0 then
 .fail
 else
 if (16 : Int) = 0 then
 .fail
 else
 if 0 ≤ ((IntKind.i64.wrap (((a.getD 0 d0).ii).tdiv (16 : Int))).tmod (16 : Int)) ∧ ((IntKind.i64.wrap (((a.getD 0 d0).ii).tdiv (16 : Int))).tmod (16 : Int)) < (([48, 49, 50, 51, 52, 53, 54, 55, 56, 57, 97, 98, 99, 100, 101, 102] : List UInt8).length : Int) then
 if (16 : Int) = 0 then
 .fail
 else
 if 0 ≤ (((a.getD 0 d0).ii).tmod (16 : Int)) ∧ (((a.getD 0 d0).ii).tmod (16 : Int)) < (([48, 49, 50, 51, 52, 53, 54, 55, 56, 57, 97, 98, 99, 100, 101, 102] : List UInt8).length : Int) then
 .ret [.s (rowBytes [[DC.i ((([48, 49, 50, 51, 52, 53, 54, 55, 56, 57, 97, 98, 99, 100, 101, 102] : List UInt8).getD ((IntKind.i64.wrap (((a.getD 0 d0).ii).tdiv (4096 : Int))).tmod (16 : Int)).toNat 0).toNat : Int)], [DC.i ((([48, 49, 50, 51, 52, 53, 54, 55, 56, 57, 97, 98, 99, 100, 101, 102] : List UInt8).getD ((IntKind.i64.wrap (((a.getD 0 d0).ii).tdiv (256 : Int))).tmod (16 : Int)).toNat 0).toNat : Int)], [DC.i ((([48, 49, 50, 51, 52, 53, 54, 55, 56, 57, 97, 98, 99, 100, 101, 102] : List UInt8).getD ((IntKind.i64.wrap (((a.getD 0 d0).ii).tdiv (16 : Int))).tmod (16 : Int)).toNat 0).toNat : Int)], [DC.i ((([48, 49, 50, 51, 52, 53, 54, 55, 56, 57, 97, 98, 99, 100, 101, 102] : List UInt8).getD (((a.getD 0 d0).ii).tmod (16 : Int)).toNat 0).toNat : Int)]])]
 else
 .fail
 else
 .fail
 else
 .fail
 else
 .fail
theorem eq_spec_l04Hex4 a : r_spec_l04Hex4 a = E_spec_l04Hex4 a := (Run_eq cfg 152 _ a).trans (by kernel_rfl)
noncomputable def E_impl_isFigure (a : List DC) : Out :=
 Out.andThen (if (decide ((a.getD 0 d0).ii ≥ (48 : Int))) = true then
 .norm [.b (decide ((a.getD 0 d0).ii ≤ (57 : Int)))]
 else
 .norm [.b false]) fun v1 =>
 .ret [.b ((v1.getD 0 d0).bb)]
theorem eq_impl_isFigure a : r_impl_isFigure a = E_impl_isFigure a := (Run_eq cfg 153 _ a).trans (by kernel_rfl)
noncomputable def E_impl_inName (a : List DC) : Out :=
 Out.andThen ((r_impl_isLetter [.i ((a.getD 0 d0).ii)]).bindR fun r1 =>
 if (r1.getD 0 d0).bb = true then
 .norm [.b true]
 else
 (r_impl_isFigure [.i ((a.getD 0 d0).ii)]).bindR fun r2 =>
 if (r2.getD 0 d0).bb = true then
 .norm [.b true]
 else
 .norm [.b ((a.getD 0 d0).ii == (95 : Int))]) fun v3 =>
 .ret [.b ((v3.getD 0 d0).bb)]
theorem eq_impl_inName a : r_impl_inName a = E_impl_inName a := (Run_eq cfg 154 _ a).trans (by kernel_rfl)
noncomputable def E_strings_Trim (a : List DC) : Out := match primH [.s, .s] [.s] qTrim h_strings_Trim a with | some r => .ret r | none => .fail
theorem eq_strings_Trim a : r_strings_Trim a = E_strings_Trim a := (Run_eq cfg 155 h_strings_Trim a).trans (by kernel_rfl)
noncomputable def E_strings_Contains (a : List DC) : Out := match primH [.s, .s] [.b] qContains h_strings_Contains a with | some r => .ret r | none => .fail
theorem eq_strings_Contains a : r_strings_Contains a = E_strings_Contains a := (Run_eq cfg 156 h_strings_Contains a).trans (by kernel_rfl)
noncomputable def E_impl_emptyValue (a : List DC) : Out :=
 Out.andThen (if ((a.getD 0 d0).ii == (0 : Int)) = true then
 if ((a.getD 1 d0).ss == ([] : List UInt8)) = true then
 (r_impl_plain [.i ((a.getD 0 d0).ii), .s ((a.getD 1 d0).ss), .sl ((a.getD 2 d0).ll), .sl ((a.getD 3 d0).ll)]).bindR fun r1 =>
 .norm [.b ((r1.getD 0 d0).bb)]
 else
 .norm [.b false]
 else
 .norm [.b false]) fun v2 =>
 .ret [.b ((v2.getD 0 d0).bb)]
theorem eq_impl_emptyValue a : r_impl_emptyValue a = E_impl_emptyValue a := (Run_eq cfg 157 _ a).trans (by kernel_rfl)
noncomputable def E_impl_ValueOk (a : List DC) : Out :=
 (r_impl_valueOk [.i ((a.getD 0 d0).ii), .s ((a.getD 1 d0).ss), .sl ((a.getD 2 d0).ll), .sl ((a.getD 3 d0).ll), .i (10 : Int)]).bindR fun r1 =>
 .ret [.b ((r1.getD 0 d0).bb)]
theorem eq_impl_ValueOk a : r_impl_ValueOk a = E_impl_ValueOk a := (Run_eq cfg 158 _ a).trans (by kernel_rfl)
noncomputable def E_impl_IsConst (a : List DC) : Out :=
 Out.andThen (if ((a.getD 0 d0).ii != (1 : Int)) = true then
 (r_slices_ContainsFunc_impl_Value__impl_IsConst_1 [.sl ((a.getD 2 d0).ll)]).bindR fun r1 =>
 .norm [.b (!((r1.getD 0 d0).bb))]
 else
 .norm [.b false]) fun v2 =>
 .ret [.b ((v2.getD 0 d0).bb)]
theorem eq_impl_IsConst a : r_impl_IsConst a = E_impl_IsConst a := (Run_eq cfg 159 _ a).trans (by kernel_rfl)
noncomputable def E_slices_ContainsFunc_impl_Dir__impl_constDirs_1 (a : List DC) : Out :=
 (r_slices_IndexFunc_impl_Dir__impl_constDirs_1 [.sl ((a.getD 0 d0).ll)]).bindR fun r1 =>
 .ret [.b (decide ((r1.getD 0 d0).ii ≥ (0 : Int)))]
theorem eq_slices_ContainsFunc_impl_Dir__impl_constDirs_1 a : r_slices_ContainsFunc_impl_Dir__impl_constDirs_1 a = E_slices_ContainsFunc_impl_Dir__impl_constDirs_1 a := (Run_eq cfg 160 _ a).trans (by kernel_rfl)
noncomputable def E_unicode_utf8_ValidString (a : List DC) : Out := match primH [.s] [.b] qValidString h_unicode_utf8_ValidString a with | some r => .ret r | none => .fail
theorem eq_unicode_utf8_ValidString a : r_unicode_utf8_ValidString a = E_unicode_utf8_ValidString a := (Run_eq cfg 164 h_unicode_utf8_ValidString a).trans (by kernel_rfl)
noncomputable def E_internal_stringslite_IndexByte (a : List DC) : Out := match primH [.s, .i .u8] [.i .i64] qIndexByte h_internal_stringslite_IndexByte a with | some r => .ret r | none => .fail
theorem eq_internal_stringslite_IndexByte a : r_internal_stringslite_IndexByte a = E_internal_stringslite_IndexByte a := (Run_eq cfg 165 h_internal_stringslite_IndexByte a).trans (by kernel_rfl)
noncomputable def E_impl_printValueL1 : List DC → Out := fun v1 =>
 if (decide ((v1.getD 3 d0).ii < (v1.getD 2 d0).ii)) = true then
 Out.andThenB (if 43 = 43 ∧ 0 ≤ (v1.getD 3 d0).ii ∧ (v1.getD 3 d0).ii < (((v1.getD 1 d0).ll).length : Int) then
 (r_impl_printValue [.i (((((v1.getD 1 d0).ll).getD ((v1.getD 3 d0).ii).toNat []).getD 0 d0).ii), .s (((((v1.getD 1 d0).ll).getD ((v1.getD 3 d0).ii).toNat []).getD 1 d0).ss), .sl (((((v1.getD 1 d0).ll).getD ((v1.getD 3 d0).ii).toNat []).getD 2 d0).ll), .sl (((((v1.getD 1 d0).ll).getD ((v1.getD 3 d0).ii).toNat []).getD 3 d0).ll)]).bindR fun r2 =>
 Out.andThen (if ((v1.getD 4 d0).ii == (8 : Int)) = true then
 if 9 = 9 ∧ 0 ≤ (v1.getD 3 d0).ii ∧ (v1.getD 3 d0).ii < (((v1.getD 7 d0).ll).length : Int) then
 if (((((v1.getD 7 d0).ll).getD ((v1.getD 3 d0).ii).toNat []).getD 0 d0).ss).length + ([58, 32] : List UInt8).length < LIM then
 if ((((((v1.getD 7 d0).ll).getD ((v1.getD 3 d0).ii).toNat []).getD 0 d0).ss) ++ ([58, 32] : List UInt8)).length + ((r2.getD 0 d0).ss).length < LIM then
 .norm [.sl ((v1.getD 0 d0).ll), .s (((((((v1.getD 7 d0).ll).getD ((v1.getD 3 d0).ii).toNat []).getD 0 d0).ss) ++ ([58, 32] : List UInt8)) ++ ((r2.getD 0 d0).ss)), .sl ((v1.getD 1 d0).ll), .i ((v1.getD 2 d0).ii), .i ((v1.getD 3 d0).ii), .i ((v1.getD 4 d0).ii), .s ((v1.getD 5 d0).ss), .sl ((v1.getD 6 d0).ll), .sl ((v1.getD 7 d0).ll)]
 else
 .fail
 else
 .fail
 else
 .fail
 else
 .norm [.sl ((v1.getD 0 d0).ll), .s ((r2.getD 0 d0).ss), .sl ((v1.getD 1 d0).ll), .i ((v1.getD 2 d0).ii), .i ((v1.getD 3 d0).ii), .i ((v1.getD 4 d0).ii), .s ((v1.getD 5 d0).ss), .sl ((v1.getD 6 d0).ll), .sl ((v1.getD 7 d0).ll)]) fun v3 =>
 if ((v3.getD 0 d0).ll).length + [[DC.s ((v3.getD 1 d0).ss)]].length < LIM then
 .norm [.sl (((v3.getD 0 d0).ll) ++ [[DC.s ((v3.getD 1 d0).ss)]]), .sl ((v3.getD 2 d0).ll), .i ((v3.getD 3 d0).ii), .i ((v3.getD 4 d0).ii), .i ((v3.getD 5 d0).ii), .s ((v3.getD 6 d0).ss), .sl ((v3.getD 7 d0).ll), .sl ((v3.getD 8 d0).ll)]
 else
 .fail
 else
 .fail) 1 fun v4 =>
 .norm [.sl ((v4.getD 0 d0).ll), .sl ((v4.getD 1 d0).ll), .i ((v4.getD 2 d0).ii), .i (IntKind.i64.wrap ((v4.getD 3 d0).ii + (1 : Int))), .i ((v4.getD 4 d0).ii), .s ((v4.getD 5 d0).ss), .sl ((v4.getD 6 d0).ll), .sl ((v4.getD 7 d0).ll)]
 else
 .ex 0 [.sl ((v1.getD 0 d0).ll), .i ((v1.getD 4 d0).ii), .s ((v1.getD 5 d0).ss), .sl ((v1.getD 6 d0).ll), .sl ((v1.getD 7 d0).ll)]
noncomputable def E_impl_printValue (a : List DC) : Out :=
 Out.andThenB (Loop E_impl_printValueL1 [.sl [], .sl ((a.getD 2 d0).ll), .i (((a.getD 2 d0).ll).length : Int), .i (0 : Int), .i ((a.getD 0 d0).ii), .s ((a.getD 1 d0).ss), .sl ((a.getD 2 d0).ll), .sl ((a.getD 3 d0).ll)]) 0 fun v5 =>
 (r_strings_Join [.sl ((v5.getD 0 d0).ll), .s ([44, 32] : List UInt8)]).bindR fun r6 =>
 Out.andThenB (if ((v5.getD 1 d0).ii == (1 : Int)) = true then
 if ([36] : List UInt8).length + ((v5.getD 2 d0).ss).length < LIM then
 .ret [.s (([36] : List UInt8) ++ ((v5.getD 2 d0).ss))]
 else
 .fail
 else
 if ((v5.getD 1 d0).ii == (4 : Int)) = true then
 (r_impl_Escaped [.s ((v5.getD 2 d0).ss)]).bindR fun r7 =>
 .ret [.s ((r7.getD 0 d0).ss)]
 else
 if ((v5.getD 1 d0).ii == (7 : Int)) = true then
 if ([91] : List UInt8).length + ((r6.getD 0 d0).ss).length < LIM then
 if (([91] : List UInt8) ++ ((r6.getD 0 d0).ss)).length + ([93] : List UInt8).length < LIM then
 .ret [.s ((([91] : List UInt8) ++ ((r6.getD 0 d0).ss)) ++ ([93] : List UInt8))]
 else
 .fail
 else
 .fail
 else
 if ((v5.getD 1 d0).ii == (8 : Int)) = true then
 if ([123] : List UInt8).length + ((r6.getD 0 d0).ss).length < LIM then
 if (([123] : List UInt8) ++ ((r6.getD 0 d0).ss)).length + ([125] : List UInt8).length < LIM then
 .ret [.s ((([123] : List UInt8) ++ ((r6.getD 0 d0).ss)) ++ ([125] : List UInt8))]
 else
 .fail
 else
 .fail
 else
 .norm [.i ((v5.getD 1 d0).ii), .s ((v5.getD 2 d0).ss), .sl ((v5.getD 3 d0).ll), .sl ((v5.getD 4 d0).ll)]) 2 fun v8 =>
 .ret [.s ((v8.getD 1 d0).ss)]
theorem eq_impl_printValue a : r_impl_printValue a = E_impl_printValue a := (Run_eq cfg 166 _ a).trans (by kernel_rfl)
noncomputable def E_slices_ContainsFunc_impl_Dir__impl_DirsOk_1 (a : List DC) : Out :=
 (r_slices_IndexFunc_impl_Dir__impl_DirsOk_1 [.sl ((a.getD 0 d0).ll)]).bindR fun r1 =>
 .ret [.b (decide ((r1.getD 0 d0).ii ≥ (0 : Int)))]
theorem eq_slices_ContainsFunc_impl_Dir__impl_DirsOk_1 a : r_slices_ContainsFunc_impl_Dir__impl_DirsOk_1 a = E_slices_ContainsFunc_impl_Dir__impl_DirsOk_1 a := (Run_eq cfg 160 _ a).trans (by kernel_rfl)
noncomputable def E_impl_ArgsOk (a : List DC) : Out :=
 (r_slices_ContainsFunc_impl_Arg__impl_ArgsOk_1 [.sl ((a.getD 0 d0).ll)]).bindR fun r1 =>
 .ret [.b (!((r1.getD 0 d0).bb))]
theorem eq_impl_ArgsOk a : r_impl_ArgsOk a = E_impl_ArgsOk a := (Run_eq cfg 141 _ a).trans (by kernel_rfl)
noncomputable def E_slices_IndexFunc_impl_VarDef__impl_OpOk_1L1 : List DC → Out := fun v1 =>
 if (decide ((v1.getD 2 d0).ii < (v1.getD 1 d0).ii)) = true then
 Out.andThenB (if 126 = 126 ∧ 0 ≤ (v1.getD 2 d0).ii ∧ (v1.getD 2 d0).ii < (((v1.getD 0 d0).ll).length : Int) then
 (r_impl_OpOk_1 [.s (((((v1.getD 0 d0).ll).getD ((v1.getD 2 d0).ii).toNat []).getD 0 d0).ss), .s (((((v1.getD 0 d0).ll).getD ((v1.getD 2 d0).ii).toNat []).getD 1 d0).ss), .s (((((v1.getD 0 d0).ll).getD ((v1.getD 2 d0).ii).toNat []).getD 2 d0).ss), .b (((((v1.getD 0 d0).ll).getD ((v1.getD 2 d0).ii).toNat []).getD 3 d0).bb), .i (((((v1.getD 0 d0).ll).getD ((v1.getD 2 d0).ii).toNat []).getD 4 d0).ii), .s (((((v1.getD 0 d0).ll).getD ((v1.getD 2 d0).ii).toNat []).getD 5 d0).ss), .sl (((((v1.getD 0 d0).ll).getD ((v1.getD 2 d0).ii).toNat []).getD 6 d0).ll), .sl (((((v1.getD 0 d0).ll).getD ((v1.getD 2 d0).ii).toNat []).getD 7 d0).ll), .sl (((((v1.getD 0 d0).ll).getD ((v1.getD 2 d0).ii).toNat []).getD 8 d0).ll)]).bindR fun r2 =>
 if (r2.getD 0 d0).bb = true then
 .ret [.i ((v1.getD 2 d0).ii)]
 else
 .norm [.sl ((v1.getD 0 d0).ll), .i ((v1.getD 1 d0).ii), .i ((v1.getD 2 d0).ii)]
 else
 .fail) 1 fun v3 =>
 .norm [.sl ((v3.getD 0 d0).ll), .i ((v3.getD 1 d0).ii), .i (IntKind.i64.wrap ((v3.getD 2 d0).ii + (1 : Int)))]
 else
 .ex 0 []
noncomputable def E_slices_IndexFunc_impl_VarDef__impl_OpOk_1 (a : List DC) : Out :=
 Out.andThenB (Loop E_slices_IndexFunc_impl_VarDef__impl_OpOk_1L1 [.sl ((a.getD 0 d0).ll), .i (((a.getD 0 d0).ll).length : Int), .i (0 : Int)]) 0 fun v4 =>
 .ret [.i (-1 : Int)]
theorem eq_slices_IndexFunc_impl_VarDef__impl_OpOk_1 a : r_slices_IndexFunc_impl_VarDef__impl_OpOk_1 a = E_slices_IndexFunc_impl_VarDef__impl_OpOk_1 a := (Run_eq cfg 170 _ a).trans (by kernel_rfl)
noncomputable def E_impl_bound_selOkL1 : List DC → Out := fun v16 =>
 if (decide ((v16.getD 3 d0).ii < (v16.getD 2 d0).ii)) = true then
 Out.andThenB (if 89 = 89 ∧ 0 ≤ (v16.getD 3 d0).ii ∧ (v16.getD 3 d0).ii < (((v16.getD 1 d0).ll).length : Int) then
 (r_impl_bound_selOk [.i (((((v16.getD 1 d0).ll).getD ((v16.getD 3 d0).ii).toNat []).getD 0 d0).ii), .s (((((v16.getD 1 d0).ll).getD ((v16.getD 3 d0).ii).toNat []).getD 1 d0).ss), .s (((((v16.getD 1 d0).ll).getD ((v16.getD 3 d0).ii).toNat []).getD 2 d0).ss), .s (((((v16.getD 1 d0).ll).getD ((v16.getD 3 d0).ii).toNat []).getD 3 d0).ss), .sl (((((v16.getD 1 d0).ll).getD ((v16.getD 3 d0).ii).toNat []).getD 4 d0).ll), .sl (((((v16.getD 1 d0).ll).getD ((v16.getD 3 d0).ii).toNat []).getD 5 d0).ll), .sl (((((v16.getD 1 d0).ll).getD ((v16.getD 3 d0).ii).toNat []).getD 6 d0).ll), .i (IntKind.i64.wrap ((v16.getD 0 d0).ii - (1 : Int))), .i ((v16.getD 4 d0).ii)]).bindR fun r17 =>
 if (!((r17.getD 0 d0).bb)) = true then
 .ret [.b false, .i ((r17.getD 1 d0).ii)]
 else
 .norm [.i ((v16.getD 0 d0).ii), .sl ((v16.getD 1 d0).ll), .i ((v16.getD 2 d0).ii), .i ((v16.getD 3 d0).ii), .i ((r17.getD 1 d0).ii)]
 else
 .fail) 2 fun v18 =>
 .norm [.i ((v18.getD 0 d0).ii), .sl ((v18.getD 1 d0).ll), .i ((v18.getD 2 d0).ii), .i (IntKind.i64.wrap ((v18.getD 3 d0).ii + (1 : Int))), .i ((v18.getD 4 d0).ii)]
 else
 .ex 1 [.i ((v16.getD 4 d0).ii)]
noncomputable def E_impl_bound_selOk (a : List DC) : Out :=
 Out.andThen (if (decide ((IntKind.i64.wrap ((a.getD 8 d0).ii - (1 : Int))) < (0 : Int))) = true then
 .norm [.i ((a.getD 7 d0).ii), .b true, .i (IntKind.i64.wrap ((a.getD 8 d0).ii - (1 : Int))), .i ((a.getD 0 d0).ii), .s ((a.getD 1 d0).ss), .s ((a.getD 2 d0).ss), .s ((a.getD 3 d0).ss), .sl ((a.getD 4 d0).ll), .sl ((a.getD 5 d0).ll), .sl ((a.getD 6 d0).ll)]
 else
 if ((a.getD 7 d0).ii == (0 : Int)) = true then
 .norm [.i ((a.getD 7 d0).ii), .b true, .i (IntKind.i64.wrap ((a.getD 8 d0).ii - (1 : Int))), .i ((a.getD 0 d0).ii), .s ((a.getD 1 d0).ss), .s ((a.getD 2 d0).ss), .s ((a.getD 3 d0).ss), .sl ((a.getD 4 d0).ll), .sl ((a.getD 5 d0).ll), .sl ((a.getD 6 d0).ll)]
 else
 (r_impl_DirsOk [.sl ((a.getD 5 d0).ll)]).bindR fun r1 =>
 .norm [.i ((a.getD 7 d0).ii), .b (!((r1.getD 0 d0).bb)), .i (IntKind.i64.wrap ((a.getD 8 d0).ii - (1 : Int))), .i ((a.getD 0 d0).ii), .s ((a.getD 1 d0).ss), .s ((a.getD 2 d0).ss), .s ((a.getD 3 d0).ss), .sl ((a.getD 4 d0).ll), .sl ((a.getD 5 d0).ll), .sl ((a.getD 6 d0).ll)]) fun v2 =>
 if (v2.getD 1 d0).bb = true then
 .ret [.b false, .i ((v2.getD 2 d0).ii)]
 else
 Out.andThenB (Out.andThen (if ((v2.getD 3 d0).ii == (1 : Int)) = true then
 Out.andThen ((r_impl_NameOk [.s ((v2.getD 5 d0).ss)]).bindR fun r3 =>
 if (r3.getD 0 d0).bb = true then
 if ((v2.getD 4 d0).ss == ([] : List UInt8)) = true then
 if ((v2.getD 6 d0).ss == ([] : List UInt8)) = true then
 (r_impl_ArgsOk [.sl ((v2.getD 7 d0).ll)]).bindR fun r4 =>
 .norm [.i ((v2.getD 0 d0).ii), .b ((r4.getD 0 d0).bb), .i ((v2.getD 2 d0).ii), .i ((v2.getD 3 d0).ii), .s ((v2.getD 4 d0).ss), .s ((v2.getD 5 d0).ss), .s ((v2.getD 6 d0).ss), .sl ((v2.getD 7 d0).ll), .sl ((v2.getD 8 d0).ll), .sl ((v2.getD 9 d0).ll)]
 else
 .norm [.i ((v2.getD 0 d0).ii), .b false, .i ((v2.getD 2 d0).ii), .i ((v2.getD 3 d0).ii), .s ((v2.getD 4 d0).ss), .s ((v2.getD 5 d0).ss), .s ((v2.getD 6 d0).ss), .sl ((v2.getD 7 d0).ll), .sl ((v2.getD 8 d0).ll), .sl ((v2.getD 9 d0).ll)]
 else
 (r_impl_NameOk [.s ((v2.getD 4 d0).ss)]).bindR fun r5 =>
 if (r5.getD 0 d0).bb = true then
 if ((v2.getD 6 d0).ss == ([] : List UInt8)) = true then
 (r_impl_ArgsOk [.sl ((v2.getD 7 d0).ll)]).bindR fun r6 =>
 .norm [.i ((v2.getD 0 d0).ii), .b ((r6.getD 0 d0).bb), .i ((v2.getD 2 d0).ii), .i ((v2.getD 3 d0).ii), .s ((v2.getD 4 d0).ss), .s ((v2.getD 5 d0).ss), .s ((v2.getD 6 d0).ss), .sl ((v2.getD 7 d0).ll), .sl ((v2.getD 8 d0).ll), .sl ((v2.getD 9 d0).ll)]
 else
 .norm [.i ((v2.getD 0 d0).ii), .b false, .i ((v2.getD 2 d0).ii), .i ((v2.getD 3 d0).ii), .s ((v2.getD 4 d0).ss), .s ((v2.getD 5 d0).ss), .s ((v2.getD 6 d0).ss), .sl ((v2.getD 7 d0).ll), .sl ((v2.getD 8 d0).ll), .sl ((v2.getD 9 d0).ll)]
 else
 .norm [.i ((v2.getD 0 d0).ii), .b false, .i ((v2.getD 2 d0).ii), .i ((v2.getD 3 d0).ii), .s ((v2.getD 4 d0).ss), .s ((v2.getD 5 d0).ss), .s ((v2.getD 6 d0).ss), .sl ((v2.getD 7 d0).ll), .sl ((v2.getD 8 d0).ll), .sl ((v2.getD 9 d0).ll)]
 else
 .norm [.i ((v2.getD 0 d0).ii), .b false, .i ((v2.getD 2 d0).ii), .i ((v2.getD 3 d0).ii), .s ((v2.getD 4 d0).ss), .s ((v2.getD 5 d0).ss), .s ((v2.getD 6 d0).ss), .sl ((v2.getD 7 d0).ll), .sl ((v2.getD 8 d0).ll), .sl ((v2.getD 9 d0).ll)]) fun v7 =>
 .norm [.i ((v7.getD 0 d0).ii), .b ((v7.getD 1 d0).bb), .i ((v7.getD 2 d0).ii), .i ((v7.getD 3 d0).ii), .s ((v7.getD 4 d0).ss), .s ((v7.getD 5 d0).ss), .s ((v7.getD 6 d0).ss), .sl ((v7.getD 7 d0).ll), .sl ((v7.getD 8 d0).ll), .sl ((v7.getD 9 d0).ll)]
 else
 Out.andThen (if ((v2.getD 3 d0).ii == (2 : Int)) = true then
 Out.andThen ((r_impl_NameOk [.s ((v2.getD 5 d0).ss)]).bindR fun r8 =>
 if (r8.getD 0 d0).bb = true then
 if (!((v2.getD 5 d0).ss == ([111, 110] : List UInt8))) = true then
 if ((v2.getD 4 d0).ss == ([] : List UInt8)) = true then
 if ((v2.getD 6 d0).ss == ([] : List UInt8)) = true then
 if ((((v2.getD 7 d0).ll).length : Int) == (0 : Int)) = true then
 .norm [.i ((v2.getD 0 d0).ii), .b ((((v2.getD 9 d0).ll).length : Int) == (0 : Int)), .i ((v2.getD 2 d0).ii), .i ((v2.getD 3 d0).ii), .s ((v2.getD 4 d0).ss), .s ((v2.getD 5 d0).ss), .s ((v2.getD 6 d0).ss), .sl ((v2.getD 7 d0).ll), .sl ((v2.getD 8 d0).ll), .sl ((v2.getD 9 d0).ll)]
 else
 .norm [.i ((v2.getD 0 d0).ii), .b false, .i ((v2.getD 2 d0).ii), .i ((v2.getD 3 d0).ii), .s ((v2.getD 4 d0).ss), .s ((v2.getD 5 d0).ss), .s ((v2.getD 6 d0).ss), .sl ((v2.getD 7 d0).ll), .sl ((v2.getD 8 d0).ll), .sl ((v2.getD 9 d0).ll)]
 else
 .norm [.i ((v2.getD 0 d0).ii), .b false, .i ((v2.getD 2 d0).ii), .i ((v2.getD 3 d0).ii), .s ((v2.getD 4 d0).ss), .s ((v2.getD 5 d0).ss), .s ((v2.getD 6 d0).ss), .sl ((v2.getD 7 d0).ll), .sl ((v2.getD 8 d0).ll), .sl ((v2.getD 9 d0).ll)]
 else
 .norm [.i ((v2.getD 0 d0).ii), .b false, .i ((v2.getD 2 d0).ii), .i ((v2.getD 3 d0).ii), .s ((v2.getD 4 d0).ss), .s ((v2.getD 5 d0).ss), .s ((v2.getD 6 d0).ss), .sl ((v2.getD 7 d0).ll), .sl ((v2.getD 8 d0).ll), .sl ((v2.getD 9 d0).ll)]
 else
 .norm [.i ((v2.getD 0 d0).ii), .b false, .i ((v2.getD 2 d0).ii), .i ((v2.getD 3 d0).ii), .s ((v2.getD 4 d0).ss), .s ((v2.getD 5 d0).ss), .s ((v2.getD 6 d0).ss), .sl ((v2.getD 7 d0).ll), .sl ((v2.getD 8 d0).ll), .sl ((v2.getD 9 d0).ll)]
 else
 .norm [.i ((v2.getD 0 d0).ii), .b false, .i ((v2.getD 2 d0).ii), .i ((v2.getD 3 d0).ii), .s ((v2.getD 4 d0).ss), .s ((v2.getD 5 d0).ss), .s ((v2.getD 6 d0).ss), .sl ((v2.getD 7 d0).ll), .sl ((v2.getD 8 d0).ll), .sl ((v2.getD 9 d0).ll)]) fun v9 =>
 .norm [.i ((v9.getD 0 d0).ii), .b ((v9.getD 1 d0).bb), .i ((v9.getD 2 d0).ii), .i ((v9.getD 3 d0).ii), .s ((v9.getD 4 d0).ss), .s ((v9.getD 5 d0).ss), .s ((v9.getD 6 d0).ss), .sl ((v9.getD 7 d0).ll), .sl ((v9.getD 8 d0).ll), .sl ((v9.getD 9 d0).ll)]
 else
 Out.andThen (if ((v2.getD 3 d0).ii == (3 : Int)) = true then
 Out.andThen (if ((v2.getD 5 d0).ss == ([] : List UInt8)) = true then
 if ((v2.getD 4 d0).ss == ([] : List UInt8)) = true then
 if ((v2.getD 6 d0).ss == ([] : List UInt8)) = true then
 if ((((v2.getD 7 d0).ll).length : Int) == (0 : Int)) = true then
 .norm [.i ((v2.getD 0 d0).ii), .b (decide ((((v2.getD 9 d0).ll).length : Int) > (0 : Int))), .i ((v2.getD 2 d0).ii), .i ((v2.getD 3 d0).ii), .s ((v2.getD 4 d0).ss), .s ((v2.getD 5 d0).ss), .s ((v2.getD 6 d0).ss), .sl ((v2.getD 7 d0).ll), .sl ((v2.getD 8 d0).ll), .sl ((v2.getD 9 d0).ll)]
 else
 .norm [.i ((v2.getD 0 d0).ii), .b false, .i ((v2.getD 2 d0).ii), .i ((v2.getD 3 d0).ii), .s ((v2.getD 4 d0).ss), .s ((v2.getD 5 d0).ss), .s ((v2.getD 6 d0).ss), .sl ((v2.getD 7 d0).ll), .sl ((v2.getD 8 d0).ll), .sl ((v2.getD 9 d0).ll)]
 else
 (r_impl_NameOk [.s ((v2.getD 6 d0).ss)]).bindR fun r10 =>
 if (r10.getD 0 d0).bb = true then
 if ((((v2.getD 7 d0).ll).length : Int) == (0 : Int)) = true then
 .norm [.i ((v2.getD 0 d0).ii), .b (decide ((((v2.getD 9 d0).ll).length : Int) > (0 : Int))), .i ((v2.getD 2 d0).ii), .i ((v2.getD 3 d0).ii), .s ((v2.getD 4 d0).ss), .s ((v2.getD 5 d0).ss), .s ((v2.getD 6 d0).ss), .sl ((v2.getD 7 d0).ll), .sl ((v2.getD 8 d0).ll), .sl ((v2.getD 9 d0).ll)]
 else
 .norm [.i ((v2.getD 0 d0).ii), .b false, .i ((v2.getD 2 d0).ii), .i ((v2.getD 3 d0).ii), .s ((v2.getD 4 d0).ss), .s ((v2.getD 5 d0).ss), .s ((v2.getD 6 d0).ss), .sl ((v2.getD 7 d0).ll), .sl ((v2.getD 8 d0).ll), .sl ((v2.getD 9 d0).ll)]
 else
 .norm [.i ((v2.getD 0 d0).ii), .b false, .i ((v2.getD 2 d0).ii), .i ((v2.getD 3 d0).ii), .s ((v2.getD 4 d0).ss), .s ((v2.getD 5 d0).ss), .s ((v2.getD 6 d0).ss), .sl ((v2.getD 7 d0).ll), .sl ((v2.getD 8 d0).ll), .sl ((v2.getD 9 d0).ll)]
 else
 .norm [.i ((v2.getD 0 d0).ii), .b false, .i ((v2.getD 2 d0).ii), .i ((v2.getD 3 d0).ii), .s ((v2.getD 4 d0).ss), .s ((v2.getD 5 d0).ss), .s ((v2.getD 6 d0).ss), .sl ((v2.getD 7 d0).ll), .sl ((v2.getD 8 d0).ll), .sl ((v2.getD 9 d0).ll)]
 else
 .norm [.i ((v2.getD 0 d0).ii), .b false, .i ((v2.getD 2 d0).ii), .i ((v2.getD 3 d0).ii), .s ((v2.getD 4 d0).ss), .s ((v2.getD 5 d0).ss), .s ((v2.getD 6 d0).ss), .sl ((v2.getD 7 d0).ll), .sl ((v2.getD 8 d0).ll), .sl ((v2.getD 9 d0).ll)]) fun v11 =>
 .norm [.i ((v11.getD 0 d0).ii), .b ((v11.getD 1 d0).bb), .i ((v11.getD 2 d0).ii), .i ((v11.getD 3 d0).ii), .s ((v11.getD 4 d0).ss), .s ((v11.getD 5 d0).ss), .s ((v11.getD 6 d0).ss), .sl ((v11.getD 7 d0).ll), .sl ((v11.getD 8 d0).ll), .sl ((v11.getD 9 d0).ll)]
 else
 .norm [.i ((v2.getD 0 d0).ii), .b false, .i ((v2.getD 2 d0).ii), .i ((v2.getD 3 d0).ii), .s ((v2.getD 4 d0).ss), .s ((v2.getD 5 d0).ss), .s ((v2.getD 6 d0).ss), .sl ((v2.getD 7 d0).ll), .sl ((v2.getD 8 d0).ll), .sl ((v2.getD 9 d0).ll)]) fun v12 =>
 .norm [.i ((v12.getD 0 d0).ii), .b ((v12.getD 1 d0).bb), .i ((v12.getD 2 d0).ii), .i ((v12.getD 3 d0).ii), .s ((v12.getD 4 d0).ss), .s ((v12.getD 5 d0).ss), .s ((v12.getD 6 d0).ss), .sl ((v12.getD 7 d0).ll), .sl ((v12.getD 8 d0).ll), .sl ((v12.getD 9 d0).ll)]) fun v13 =>
 .norm [.i ((v13.getD 0 d0).ii), .b ((v13.getD 1 d0).bb), .i ((v13.getD 2 d0).ii), .i ((v13.getD 3 d0).ii), .s ((v13.getD 4 d0).ss), .s ((v13.getD 5 d0).ss), .s ((v13.getD 6 d0).ss), .sl ((v13.getD 7 d0).ll), .sl ((v13.getD 8 d0).ll), .sl ((v13.getD 9 d0).ll)]) fun v14 =>
 .norm [.i ((v14.getD 0 d0).ii), .b ((v14.getD 1 d0).bb), .i ((v14.getD 2 d0).ii), .i ((v14.getD 3 d0).ii), .s ((v14.getD 4 d0).ss), .s ((v14.getD 5 d0).ss), .s ((v14.getD 6 d0).ss), .sl ((v14.getD 7 d0).ll), .sl ((v14.getD 8 d0).ll), .sl ((v14.getD 9 d0).ll)]) 0 fun v15 =>
 if (!((v15.getD 1 d0).bb)) = true then
 .ret [.b false, .i ((v15.getD 2 d0).ii)]
 else
 Out.andThenB (Loop E_impl_bound_selOkL1 [.i ((v15.getD 0 d0).ii), .sl ((v15.getD 9 d0).ll), .i (((v15.getD 9 d0).ll).length : Int), .i (0 : Int), .i ((v15.getD 2 d0).ii)]) 1 fun v19 =>
 .ret [.b true, .i ((v19.getD 0 d0).ii)]
theorem eq_impl_bound_selOk a : r_impl_bound_selOk a = E_impl_bound_selOk a := (Run_eq cfg 89 _ a).trans (by kernel_rfl)
noncomputable def E_impl_SelOk (a : List DC) : Out :=
 (r_impl_bound_selOk [.i ((a.getD 0 d0).ii), .s ((a.getD 1 d0).ss), .s ((a.getD 2 d0).ss), .s ((a.getD 3 d0).ss), .sl ((a.getD 4 d0).ll), .sl ((a.getD 5 d0).ll), .sl ((a.getD 6 d0).ll), .i (10 : Int), .i (120 : Int)]).bindR fun r1 =>
 .ret [.b ((r1.getD 0 d0).bb)]
theorem eq_impl_SelOk a : r_impl_SelOk a = E_impl_SelOk a := (Run_eq cfg 41 _ a).trans (by kernel_rfl)
noncomputable def E_spec_l07RightL1 : List DC → Out := fun v4 =>
 if (decide ((v4.getD 1 d0).ii < (((v4.getD 4 d0).ll).length : Int))) = true then
 Out.andThenB (Out.andThen (if ((v4.getD 2 d0).ii == (8 : Int)) = true then
 if 9 = 9 ∧ 0 ≤ (v4.getD 1 d0).ii ∧ (v4.getD 1 d0).ii < (((v4.getD 5 d0).ll).length : Int) then
 (r_spec_NameOk [.s (((((v4.getD 5 d0).ll).getD ((v4.getD 1 d0).ii).toNat []).getD 0 d0).ss)]).bindR fun r5 =>
 if (!((r5.getD 0 d0).bb)) = true then
 .norm [.i ((v4.getD 0 d0).ii), .i ((v4.getD 1 d0).ii), .b true, .i ((v4.getD 2 d0).ii), .s ((v4.getD 3 d0).ss), .sl ((v4.getD 4 d0).ll), .sl ((v4.getD 5 d0).ll)]
 else
 if 43 = 43 ∧ 0 ≤ (v4.getD 1 d0).ii ∧ (v4.getD 1 d0).ii < (((v4.getD 4 d0).ll).length : Int) then
 (r_spec_l07Right [.i (((((v4.getD 4 d0).ll).getD ((v4.getD 1 d0).ii).toNat []).getD 0 d0).ii), .s (((((v4.getD 4 d0).ll).getD ((v4.getD 1 d0).ii).toNat []).getD 1 d0).ss), .sl (((((v4.getD 4 d0).ll).getD ((v4.getD 1 d0).ii).toNat []).getD 2 d0).ll), .sl (((((v4.getD 4 d0).ll).getD ((v4.getD 1 d0).ii).toNat []).getD 3 d0).ll), .i (IntKind.i64.wrap ((v4.getD 0 d0).ii - (1 : Int)))]).bindR fun r6 =>
 .norm [.i ((v4.getD 0 d0).ii), .i ((v4.getD 1 d0).ii), .b (!((r6.getD 0 d0).bb)), .i ((v4.getD 2 d0).ii), .s ((v4.getD 3 d0).ss), .sl ((v4.getD 4 d0).ll), .sl ((v4.getD 5 d0).ll)]
 else
 .fail
 else
 .fail
 else
 if 43 = 43 ∧ 0 ≤ (v4.getD 1 d0).ii ∧ (v4.getD 1 d0).ii < (((v4.getD 4 d0).ll).length : Int) then
 (r_spec_l07Right [.i (((((v4.getD 4 d0).ll).getD ((v4.getD 1 d0).ii).toNat []).getD 0 d0).ii), .s (((((v4.getD 4 d0).ll).getD ((v4.getD 1 d0).ii).toNat []).getD 1 d0).ss), .sl (((((v4.getD 4 d0).ll).getD ((v4.getD 1 d0).ii).toNat []).getD 2 d0).ll), .sl (((((v4.getD 4 d0).ll).getD ((v4.getD 1 d0).ii).toNat []).getD 3 d0).ll), .i (IntKind.i64.wrap ((v4.getD 0 d0).ii - (1 : Int)))]).bindR fun r7 =>
 .norm [.i ((v4.getD 0 d0).ii), .i ((v4.getD 1 d0).ii), .b (!((r7.getD 0 d0).bb)), .i ((v4.getD 2 d0).ii), .s ((v4.getD 3 d0).ss), .sl ((v4.getD 4 d0).ll), .sl ((v4.getD 5 d0).ll)]
 else
 .fail) fun v8 =>
 if (v8.getD 2 d0).bb = true then
 .ret [.b false]
 else
 .norm [.i ((v8.getD 0 d0).ii), .i ((v8.getD 1 d0).ii), .i ((v8.getD 3 d0).ii), .s ((v8.getD 4 d0).ss), .sl ((v8.getD 5 d0).ll), .sl ((v8.getD 6 d0).ll)]) 1 fun v9 =>
 .norm [.i ((v9.getD 0 d0).ii), .i (IntKind.i64.wrap ((v9.getD 1 d0).ii + (1 : Int))), .i ((v9.getD 2 d0).ii), .s ((v9.getD 3 d0).ss), .sl ((v9.getD 4 d0).ll), .sl ((v9.getD 5 d0).ll)]
 else
 .ex 0 []
noncomputable def E_spec_l07Right (a : List DC) : Out :=
 (r_spec_l07One [.i ((a.getD 0 d0).ii), .s ((a.getD 1 d0).ss), .sl ((a.getD 2 d0).ll), .sl ((a.getD 3 d0).ll)]).bindR fun r1 =>
 if (!((r1.getD 0 d0).bb)) = true then
 .ret [.b false]
 else
 Out.andThen (if ((a.getD 0 d0).ii == (7 : Int)) = true then
 .norm [.i ((a.getD 4 d0).ii), .b true, .i ((a.getD 0 d0).ii), .s ((a.getD 1 d0).ss), .sl ((a.getD 2 d0).ll), .sl ((a.getD 3 d0).ll)]
 else
 .norm [.i ((a.getD 4 d0).ii), .b ((a.getD 0 d0).ii == (8 : Int)), .i ((a.getD 0 d0).ii), .s ((a.getD 1 d0).ss), .sl ((a.getD 2 d0).ll), .sl ((a.getD 3 d0).ll)]) fun v2 =>
 Out.andThen (if (!((v2.getD 1 d0).bb)) = true then
 if (decide ((((v2.getD 4 d0).ll).length : Int) > (0 : Int))) = true then
 .norm [.i ((v2.getD 0 d0).ii), .b true, .i ((v2.getD 2 d0).ii), .s ((v2.getD 3 d0).ss), .sl ((v2.getD 4 d0).ll), .sl ((v2.getD 5 d0).ll)]
 else
 if ((v2.getD 2 d0).ii != (8 : Int)) = true then
 if (decide ((((v2.getD 5 d0).ll).length : Int) > (0 : Int))) = true then
 .norm [.i ((v2.getD 0 d0).ii), .b true, .i ((v2.getD 2 d0).ii), .s ((v2.getD 3 d0).ss), .sl ((v2.getD 4 d0).ll), .sl ((v2.getD 5 d0).ll)]
 else
 if ((v2.getD 2 d0).ii == (8 : Int)) = true then
 if ((((v2.getD 5 d0).ll).length : Int) != (((v2.getD 4 d0).ll).length : Int)) = true then
 .norm [.i ((v2.getD 0 d0).ii), .b true, .i ((v2.getD 2 d0).ii), .s ((v2.getD 3 d0).ss), .sl ((v2.getD 4 d0).ll), .sl ((v2.getD 5 d0).ll)]
 else
 if (v2.getD 1 d0).bb = true then
 .norm [.i ((v2.getD 0 d0).ii), .b ((v2.getD 0 d0).ii == (0 : Int)), .i ((v2.getD 2 d0).ii), .s ((v2.getD 3 d0).ss), .sl ((v2.getD 4 d0).ll), .sl ((v2.getD 5 d0).ll)]
 else
 .norm [.i ((v2.getD 0 d0).ii), .b false, .i ((v2.getD 2 d0).ii), .s ((v2.getD 3 d0).ss), .sl ((v2.getD 4 d0).ll), .sl ((v2.getD 5 d0).ll)]
 else
 if (v2.getD 1 d0).bb = true then
 .norm [.i ((v2.getD 0 d0).ii), .b ((v2.getD 0 d0).ii == (0 : Int)), .i ((v2.getD 2 d0).ii), .s ((v2.getD 3 d0).ss), .sl ((v2.getD 4 d0).ll), .sl ((v2.getD 5 d0).ll)]
 else
 .norm [.i ((v2.getD 0 d0).ii), .b false, .i ((v2.getD 2 d0).ii), .s ((v2.getD 3 d0).ss), .sl ((v2.getD 4 d0).ll), .sl ((v2.getD 5 d0).ll)]
 else
 if ((v2.getD 2 d0).ii == (8 : Int)) = true then
 if ((((v2.getD 5 d0).ll).length : Int) != (((v2.getD 4 d0).ll).length : Int)) = true then
 .norm [.i ((v2.getD 0 d0).ii), .b true, .i ((v2.getD 2 d0).ii), .s ((v2.getD 3 d0).ss), .sl ((v2.getD 4 d0).ll), .sl ((v2.getD 5 d0).ll)]
 else
 if (v2.getD 1 d0).bb = true then
 .norm [.i ((v2.getD 0 d0).ii), .b ((v2.getD 0 d0).ii == (0 : Int)), .i ((v2.getD 2 d0).ii), .s ((v2.getD 3 d0).ss), .sl ((v2.getD 4 d0).ll), .sl ((v2.getD 5 d0).ll)]
 else
 .norm [.i ((v2.getD 0 d0).ii), .b false, .i ((v2.getD 2 d0).ii), .s ((v2.getD 3 d0).ss), .sl ((v2.getD 4 d0).ll), .sl ((v2.getD 5 d0).ll)]
 else
 if (v2.getD 1 d0).bb = true then
 .norm [.i ((v2.getD 0 d0).ii), .b ((v2.getD 0 d0).ii == (0 : Int)), .i ((v2.getD 2 d0).ii), .s ((v2.getD 3 d0).ss), .sl ((v2.getD 4 d0).ll), .sl ((v2.getD 5 d0).ll)]
 else
 .norm [.i ((v2.getD 0 d0).ii), .b false, .i ((v2.getD 2 d0).ii), .s ((v2.getD 3 d0).ss), .sl ((v2.getD 4 d0).ll), .sl ((v2.getD 5 d0).ll)]
 else
 if ((v2.getD 2 d0).ii != (8 : Int)) = true then
 if (decide ((((v2.getD 5 d0).ll).length : Int) > (0 : Int))) = true then
 .norm [.i ((v2.getD 0 d0).ii), .b true, .i ((v2.getD 2 d0).ii), .s ((v2.getD 3 d0).ss), .sl ((v2.getD 4 d0).ll), .sl ((v2.getD 5 d0).ll)]
 else
 if ((v2.getD 2 d0).ii == (8 : Int)) = true then
 if ((((v2.getD 5 d0).ll).length : Int) != (((v2.getD 4 d0).ll).length : Int)) = true then
 .norm [.i ((v2.getD 0 d0).ii), .b true, .i ((v2.getD 2 d0).ii), .s ((v2.getD 3 d0).ss), .sl ((v2.getD 4 d0).ll), .sl ((v2.getD 5 d0).ll)]
 else
 if (v2.getD 1 d0).bb = true then
 .norm [.i ((v2.getD 0 d0).ii), .b ((v2.getD 0 d0).ii == (0 : Int)), .i ((v2.getD 2 d0).ii), .s ((v2.getD 3 d0).ss), .sl ((v2.getD 4 d0).ll), .sl ((v2.getD 5 d0).ll)]
 else
 .norm [.i ((v2.getD 0 d0).ii), .b false, .i ((v2.getD 2 d0).ii), .s ((v2.getD 3 d0).ss), .sl ((v2.getD 4 d0).ll), .sl ((v2.getD 5 d0).ll)]
 else
 if (v2.getD 1 d0).bb = true then
 .norm [.i ((v2.getD 0 d0).ii), .b ((v2.getD 0 d0).ii == (0 : Int)), .i ((v2.getD 2 d0).ii), .s ((v2.getD 3 d0).ss), .sl ((v2.getD 4 d0).ll), .sl ((v2.getD 5 d0).ll)]
 else
 .norm [.i ((v2.getD 0 d0).ii), .b false, .i ((v2.getD 2 d0).ii), .s ((v2.getD 3 d0).ss), .sl ((v2.getD 4 d0).ll), .sl ((v2.getD 5 d0).ll)]
 else
 if ((v2.getD 2 d0).ii == (8 : Int)) = true then
 if ((((v2.getD 5 d0).ll).length : Int) != (((v2.getD 4 d0).ll).length : Int)) = true then
 .norm [.i ((v2.getD 0 d0).ii), .b true, .i ((v2.getD 2 d0).ii), .s ((v2.getD 3 d0).ss), .sl ((v2.getD 4 d0).ll), .sl ((v2.getD 5 d0).ll)]
 else
 if (v2.getD 1 d0).bb = true then
 .norm [.i ((v2.getD 0 d0).ii), .b ((v2.getD 0 d0).ii == (0 : Int)), .i ((v2.getD 2 d0).ii), .s ((v2.getD 3 d0).ss), .sl ((v2.getD 4 d0).ll), .sl ((v2.getD 5 d0).ll)]
 else
 .norm [.i ((v2.getD 0 d0).ii), .b false, .i ((v2.getD 2 d0).ii), .s ((v2.getD 3 d0).ss), .sl ((v2.getD 4 d0).ll), .sl ((v2.getD 5 d0).ll)]
 else
 if (v2.getD 1 d0).bb = true then
 .norm [.i ((v2.getD 0 d0).ii), .b ((v2.getD 0 d0).ii == (0 : Int)), .i ((v2.getD 2 d0).ii), .s ((v2.getD 3 d0).ss), .sl ((v2.getD 4 d0).ll), .sl ((v2.getD 5 d0).ll)]
 else
 .norm [.i ((v2.getD 0 d0).ii), .b false, .i ((v2.getD 2 d0).ii), .s ((v2.getD 3 d0).ss), .sl ((v2.getD 4 d0).ll), .sl ((v2.getD 5 d0).ll)]) fun v3 =>
 if (v3.getD 1 d0).bb = true then
 .ret [.b false]
 else
 Out.andThenB (Loop E_spec_l07RightL1 [.i ((v3.getD 0 d0).ii), .i (0 : Int), .i ((v3.getD 2 d0).ii), .s ((v3.getD 3 d0).ss), .sl ((v3.getD 4 d0).ll), .sl ((v3.getD 5 d0).ll)]) 0 fun v10 =>
 .ret [.b true]
theorem eq_spec_l07Right a : r_spec_l07Right a = E_spec_l07Right a := (Run_eq cfg 177 _ a).trans (by kernel_rfl)
noncomputable def E_spec_l07ConstL1 : List DC → Out := fun v1 =>
 if (decide ((v1.getD 0 d0).ii < (((v1.getD 3 d0).ll).length : Int))) = true then
 Out.andThenB (if 43 = 43 ∧ 0 ≤ (v1.getD 0 d0).ii ∧ (v1.getD 0 d0).ii < (((v1.getD 3 d0).ll).length : Int) then
 (r_spec_l07Const [.i (((((v1.getD 3 d0).ll).getD ((v1.getD 0 d0).ii).toNat []).getD 0 d0).ii), .s (((((v1.getD 3 d0).ll).getD ((v1.getD 0 d0).ii).toNat []).getD 1 d0).ss), .sl (((((v1.getD 3 d0).ll).getD ((v1.getD 0 d0).ii).toNat []).getD 2 d0).ll), .sl (((((v1.getD 3 d0).ll).getD ((v1.getD 0 d0).ii).toNat []).getD 3 d0).ll)]).bindR fun r2 =>
 if (!((r2.getD 0 d0).bb)) = true then
 .ret [.b false]
 else
 .norm [.i ((v1.getD 0 d0).ii), .i ((v1.getD 1 d0).ii), .s ((v1.getD 2 d0).ss), .sl ((v1.getD 3 d0).ll), .sl ((v1.getD 4 d0).ll)]
 else
 .fail) 1 fun v3 =>
 .norm [.i (IntKind.i64.wrap ((v3.getD 0 d0).ii + (1 : Int))), .i ((v3.getD 1 d0).ii), .s ((v3.getD 2 d0).ss), .sl ((v3.getD 3 d0).ll), .sl ((v3.getD 4 d0).ll)]
 else
 .ex 0 [.i ((v1.getD 1 d0).ii), .s ((v1.getD 2 d0).ss), .sl ((v1.getD 3 d0).ll), .sl ((v1.getD 4 d0).ll)]
noncomputable def E_spec_l07Const (a : List DC) : Out :=
 Out.andThenB (Loop E_spec_l07ConstL1 [.i (0 : Int), .i ((a.getD 0 d0).ii), .s ((a.getD 1 d0).ss), .sl ((a.getD 2 d0).ll), .sl ((a.getD 3 d0).ll)]) 0 fun v4 =>
 .ret [.b ((v4.getD 0 d0).ii != (1 : Int))]
theorem eq_spec_l07Const a : r_spec_l07Const a = E_spec_l07Const a := (Run_eq cfg 178 _ a).trans (by kernel_rfl)
noncomputable def E_spec_RuneAtL1 : List DC → Out := fun v8 =>
 if (decide ((v8.getD 4 d0).ii < (v8.getD 2 d0).ii)) = true then
 Out.andThenB (if 0 ≤ (IntKind.i64.wrap ((v8.getD 1 d0).ii + (v8.getD 4 d0).ii)) ∧ (IntKind.i64.wrap ((v8.getD 1 d0).ii + (v8.getD 4 d0).ii)) < (((v8.getD 0 d0).ss).length : Int) then
 Out.andThen (if (decide ((IntKind.i64.wrap ((((v8.getD 0 d0).ss).getD (IntKind.i64.wrap ((v8.getD 1 d0).ii + (v8.getD 4 d0).ii)).toNat 0).toNat : Int)) < (128 : Int))) = true then
 .norm [.s ((v8.getD 0 d0).ss), .i ((v8.getD 1 d0).ii), .i ((v8.getD 2 d0).ii), .i ((v8.getD 3 d0).ii), .i ((v8.getD 4 d0).ii), .i (IntKind.i64.wrap ((((v8.getD 0 d0).ss).getD (IntKind.i64.wrap ((v8.getD 1 d0).ii + (v8.getD 4 d0).ii)).toNat 0).toNat : Int)), .b true]
 else
 .norm [.s ((v8.getD 0 d0).ss), .i ((v8.getD 1 d0).ii), .i ((v8.getD 2 d0).ii), .i ((v8.getD 3 d0).ii), .i ((v8.getD 4 d0).ii), .i (IntKind.i64.wrap ((((v8.getD 0 d0).ss).getD (IntKind.i64.wrap ((v8.getD 1 d0).ii + (v8.getD 4 d0).ii)).toNat 0).toNat : Int)), .b (decide ((IntKind.i64.wrap ((((v8.getD 0 d0).ss).getD (IntKind.i64.wrap ((v8.getD 1 d0).ii + (v8.getD 4 d0).ii)).toNat 0).toNat : Int)) > (191 : Int)))]) fun v9 =>
 if (v9.getD 6 d0).bb = true then
 .ret [.i (-1 : Int), .i (0 : Int)]
 else
 .norm [.s ((v9.getD 0 d0).ss), .i ((v9.getD 1 d0).ii), .i ((v9.getD 2 d0).ii), .i (IntKind.i64.wrap ((IntKind.i64.wrap ((IntKind.i64.wrap ((v9.getD 3 d0).ii * (64 : Int))) + (v9.getD 5 d0).ii)) - (128 : Int))), .i ((v9.getD 4 d0).ii)]
 else
 .fail) 2 fun v10 =>
 .norm [.s ((v10.getD 0 d0).ss), .i ((v10.getD 1 d0).ii), .i ((v10.getD 2 d0).ii), .i ((v10.getD 3 d0).ii), .i (IntKind.i64.wrap ((v10.getD 4 d0).ii + (1 : Int)))]
 else
 .ex 1 [.i ((v8.getD 2 d0).ii), .i ((v8.getD 3 d0).ii)]
noncomputable def E_spec_RuneAt (a : List DC) : Out :=
 Out.andThen (if (decide ((a.getD 1 d0).ii < (0 : Int))) = true then
 .norm [.s ((a.getD 0 d0).ss), .i ((a.getD 1 d0).ii), .b true]
 else
 .norm [.s ((a.getD 0 d0).ss), .i ((a.getD 1 d0).ii), .b (decide ((a.getD 1 d0).ii ≥ (((a.getD 0 d0).ss).length : Int)))]) fun v1 =>
 if (v1.getD 2 d0).bb = true then
 .ret [.i (-1 : Int), .i (0 : Int)]
 else
 if 0 ≤ (v1.getD 1 d0).ii ∧ (v1.getD 1 d0).ii < (((v1.getD 0 d0).ss).length : Int) then
 Out.andThenB (if (decide ((IntKind.i64.wrap ((((v1.getD 0 d0).ss).getD ((v1.getD 1 d0).ii).toNat 0).toNat : Int)) < (128 : Int))) = true then
 .ret [.i (IntKind.i64.wrap ((((v1.getD 0 d0).ss).getD ((v1.getD 1 d0).ii).toNat 0).toNat : Int)), .i (1 : Int)]
 else
 Out.andThen (if (decide ((IntKind.i64.wrap ((((v1.getD 0 d0).ss).getD ((v1.getD 1 d0).ii).toNat 0).toNat : Int)) ≥ (194 : Int))) = true then
 .norm [.s ((v1.getD 0 d0).ss), .i ((v1.getD 1 d0).ii), .i (IntKind.i64.wrap ((((v1.getD 0 d0).ss).getD ((v1.getD 1 d0).ii).toNat 0).toNat : Int)), .b (decide ((IntKind.i64.wrap ((((v1.getD 0 d0).ss).getD ((v1.getD 1 d0).ii).toNat 0).toNat : Int)) < (224 : Int)))]
 else
 .norm [.s ((v1.getD 0 d0).ss), .i ((v1.getD 1 d0).ii), .i (IntKind.i64.wrap ((((v1.getD 0 d0).ss).getD ((v1.getD 1 d0).ii).toNat 0).toNat : Int)), .b false]) fun v2 =>
 Out.andThen (if (v2.getD 3 d0).bb = true then
 .norm [.s ((v2.getD 0 d0).ss), .i ((v2.getD 1 d0).ii), .i (2 : Int), .i (IntKind.i64.wrap ((v2.getD 2 d0).ii - (192 : Int)))]
 else
 Out.andThen (if (decide ((v2.getD 2 d0).ii ≥ (224 : Int))) = true then
 .norm [.s ((v2.getD 0 d0).ss), .i ((v2.getD 1 d0).ii), .i ((v2.getD 2 d0).ii), .b (decide ((v2.getD 2 d0).ii < (240 : Int)))]
 else
 .norm [.s ((v2.getD 0 d0).ss), .i ((v2.getD 1 d0).ii), .i ((v2.getD 2 d0).ii), .b false]) fun v3 =>
 Out.andThen (if (v3.getD 3 d0).bb = true then
 .norm [.s ((v3.getD 0 d0).ss), .i ((v3.getD 1 d0).ii), .i (3 : Int), .i (IntKind.i64.wrap ((v3.getD 2 d0).ii - (224 : Int)))]
 else
 Out.andThen (if (decide ((v3.getD 2 d0).ii ≥ (240 : Int))) = true then
 .norm [.s ((v3.getD 0 d0).ss), .i ((v3.getD 1 d0).ii), .i ((v3.getD 2 d0).ii), .b (decide ((v3.getD 2 d0).ii < (245 : Int)))]
 else
 .norm [.s ((v3.getD 0 d0).ss), .i ((v3.getD 1 d0).ii), .i ((v3.getD 2 d0).ii), .b false]) fun v4 =>
 if (v4.getD 3 d0).bb = true then
 .norm [.s ((v4.getD 0 d0).ss), .i ((v4.getD 1 d0).ii), .i (4 : Int), .i (IntKind.i64.wrap ((v4.getD 2 d0).ii - (240 : Int)))]
 else
 .ret [.i (-1 : Int), .i (0 : Int)]) fun v5 =>
 .norm [.s ((v5.getD 0 d0).ss), .i ((v5.getD 1 d0).ii), .i ((v5.getD 2 d0).ii), .i ((v5.getD 3 d0).ii)]) fun v6 =>
 .norm [.s ((v6.getD 0 d0).ss), .i ((v6.getD 1 d0).ii), .i ((v6.getD 2 d0).ii), .i ((v6.getD 3 d0).ii)]) 0 fun v7 =>
 if (decide ((IntKind.i64.wrap ((v7.getD 1 d0).ii + (v7.getD 2 d0).ii)) > (((v7.getD 0 d0).ss).length : Int))) = true then
 .ret [.i (-1 : Int), .i (0 : Int)]
 else
 Out.andThenB (Loop E_spec_RuneAtL1 [.s ((v7.getD 0 d0).ss), .i ((v7.getD 1 d0).ii), .i ((v7.getD 2 d0).ii), .i ((v7.getD 3 d0).ii), .i (1 : Int)]) 1 fun v11 =>
 (r_spec_RuneText [.i ((v11.getD 1 d0).ii)]).bindR fun r12 =>
 if ((((r12.getD 0 d0).ss).length : Int) != (v11.getD 0 d0).ii) = true then
 .ret [.i (-1 : Int), .i (0 : Int)]
 else
 .ret [.i ((v11.getD 1 d0).ii), .i ((v11.getD 0 d0).ii)]
 else
 .fail
theorem eq_spec_RuneAt a : r_spec_RuneAt a = E_spec_RuneAt a := (Run_eq cfg 179 _ a).trans (by kernel_rfl)
noncomputable def E_impl_isLetter (a : List DC) : Out :=
 Out.andThen (if (decide ((a.getD 0 d0).ii ≥ (97 : Int))) = true then
 if (decide ((a.getD 0 d0).ii ≤ (122 : Int))) = true then
 .norm [.b true]
 else
 if (decide ((a.getD 0 d0).ii ≥ (65 : Int))) = true then
 .norm [.b (decide ((a.getD 0 d0).ii ≤ (90 : Int)))]
 else
 .norm [.b false]
 else
 if (decide ((a.getD 0 d0).ii ≥ (65 : Int))) = true then
 .norm [.b (decide ((a.getD 0 d0).ii ≤ (90 : Int)))]
 else
 .norm [.b false]) fun v1 =>
 .ret [.b ((v1.getD 0 d0).bb)]
theorem eq_impl_isLetter a : r_impl_isLetter a = E_impl_isLetter a := (Run_eq cfg 180 _ a).trans (by kernel_rfl)
noncomputable def E_impl_plain (a : List DC) : Out :=
 Out.andThen (if ((((a.getD 2 d0).ll).length : Int) == (0 : Int)) = true then
 .norm [.b ((((a.getD 3 d0).ll).length : Int) == (0 : Int))]
 else
 .norm [.b false]) fun v1 =>
 .ret [.b ((v1.getD 0 d0).bb)]
theorem eq_impl_plain a : r_impl_plain a = E_impl_plain a := (Run_eq cfg 189 _ a).trans (by kernel_rfl)
noncomputable def E_impl_valueOk (a : List DC) : Out :=
 Out.andThenB (if ((a.getD 0 d0).ii == (1 : Int)) = true then
 Out.andThen ((r_impl_plain [.i ((a.getD 0 d0).ii), .s ((a.getD 1 d0).ss), .sl ((a.getD 2 d0).ll), .sl ((a.getD 3 d0).ll)]).bindR fun r1 =>
 if (r1.getD 0 d0).bb = true then
 (r_impl_NameOk [.s ((a.getD 1 d0).ss)]).bindR fun r2 =>
 .norm [.b ((r2.getD 0 d0).bb)]
 else
 .norm [.b false]) fun v3 =>
 .ret [.b ((v3.getD 0 d0).bb)]
 else
 if ((a.getD 0 d0).ii == (2 : Int)) = true then
 Out.andThen ((r_impl_plain [.i ((a.getD 0 d0).ii), .s ((a.getD 1 d0).ss), .sl ((a.getD 2 d0).ll), .sl ((a.getD 3 d0).ll)]).bindR fun r4 =>
 if (r4.getD 0 d0).bb = true then
 (r_impl_IntOk [.s ((a.getD 1 d0).ss)]).bindR fun r5 =>
 .norm [.b ((r5.getD 0 d0).bb)]
 else
 .norm [.b false]) fun v6 =>
 .ret [.b ((v6.getD 0 d0).bb)]
 else
 if ((a.getD 0 d0).ii == (3 : Int)) = true then
 Out.andThen ((r_impl_plain [.i ((a.getD 0 d0).ii), .s ((a.getD 1 d0).ss), .sl ((a.getD 2 d0).ll), .sl ((a.getD 3 d0).ll)]).bindR fun r7 =>
 if (r7.getD 0 d0).bb = true then
 (r_impl_FloatOk [.s ((a.getD 1 d0).ss)]).bindR fun r8 =>
 .norm [.b ((r8.getD 0 d0).bb)]
 else
 .norm [.b false]) fun v9 =>
 .ret [.b ((v9.getD 0 d0).bb)]
 else
 if ((a.getD 0 d0).ii == (4 : Int)) = true then
 Out.andThen ((r_impl_plain [.i ((a.getD 0 d0).ii), .s ((a.getD 1 d0).ss), .sl ((a.getD 2 d0).ll), .sl ((a.getD 3 d0).ll)]).bindR fun r10 =>
 if (r10.getD 0 d0).bb = true then
 (r_impl_Escaped [.s ((a.getD 1 d0).ss)]).bindR fun r11 =>
 .norm [.b (!((r11.getD 0 d0).ss == ([] : List UInt8)))]
 else
 .norm [.b false]) fun v12 =>
 .ret [.b ((v12.getD 0 d0).bb)]
 else
 if ((a.getD 0 d0).ii == (5 : Int)) = true then
 Out.andThen ((r_impl_plain [.i ((a.getD 0 d0).ii), .s ((a.getD 1 d0).ss), .sl ((a.getD 2 d0).ll), .sl ((a.getD 3 d0).ll)]).bindR fun r13 =>
 if (r13.getD 0 d0).bb = true then
 (r_impl_Word [.s ((a.getD 1 d0).ss)]).bindR fun r14 =>
 .norm [.b ((r14.getD 0 d0).bb)]
 else
 .norm [.b false]) fun v15 =>
 .ret [.b ((v15.getD 0 d0).bb)]
 else
 if ((a.getD 0 d0).ii == (6 : Int)) = true then
 Out.andThen ((r_impl_plain [.i ((a.getD 0 d0).ii), .s ((a.getD 1 d0).ss), .sl ((a.getD 2 d0).ll), .sl ((a.getD 3 d0).ll)]).bindR fun r16 =>
 if (r16.getD 0 d0).bb = true then
 (r_impl_NameOk [.s ((a.getD 1 d0).ss)]).bindR fun r17 =>
 if (r17.getD 0 d0).bb = true then
 (r_impl_Word [.s ((a.getD 1 d0).ss)]).bindR fun r18 =>
 .norm [.b (!((r18.getD 0 d0).bb))]
 else
 .norm [.b false]
 else
 .norm [.b false]) fun v19 =>
 .ret [.b ((v19.getD 0 d0).bb)]
 else
 Out.andThen (if ((a.getD 0 d0).ii == (7 : Int)) = true then
 if ((((a.getD 3 d0).ll).length : Int) != (0 : Int)) = true then
 .ret [.b false]
 else
 .norm [.i ((a.getD 0 d0).ii), .s ((a.getD 1 d0).ss), .sl ((a.getD 2 d0).ll), .sl ((a.getD 3 d0).ll), .i ((a.getD 4 d0).ii)]
 else
 if ((a.getD 0 d0).ii == (8 : Int)) = true then
 Out.andThen (if ((((a.getD 3 d0).ll).length : Int) != (((a.getD 2 d0).ll).length : Int)) = true then
 .norm [.b true, .i ((a.getD 0 d0).ii), .s ((a.getD 1 d0).ss), .sl ((a.getD 2 d0).ll), .sl ((a.getD 3 d0).ll), .i ((a.getD 4 d0).ii)]
 else
 (r_slices_ContainsFunc_string__impl_valueOk_1 [.sl ((a.getD 3 d0).ll)]).bindR fun r20 =>
 .norm [.b ((r20.getD 0 d0).bb), .i ((a.getD 0 d0).ii), .s ((a.getD 1 d0).ss), .sl ((a.getD 2 d0).ll), .sl ((a.getD 3 d0).ll), .i ((a.getD 4 d0).ii)]) fun v21 =>
 if (v21.getD 0 d0).bb = true then
 .ret [.b false]
 else
 .norm [.i ((v21.getD 1 d0).ii), .s ((v21.getD 2 d0).ss), .sl ((v21.getD 3 d0).ll), .sl ((v21.getD 4 d0).ll), .i ((v21.getD 5 d0).ii)]
 else
 .ret [.b false]) fun v22 =>
 .norm [.i ((v22.getD 0 d0).ii), .s ((v22.getD 1 d0).ss), .sl ((v22.getD 2 d0).ll), .sl ((v22.getD 3 d0).ll), .i ((v22.getD 4 d0).ii)]) 0 fun v23 =>
 Out.andThen (if (decide ((v23.getD 4 d0).ii > (0 : Int))) = true then
 if ((v23.getD 1 d0).ss == ([] : List UInt8)) = true then
 (r_slices_ContainsFunc_impl_Value__impl_valueOk_2 [.sl ((v23.getD 2 d0).ll), .i ((v23.getD 4 d0).ii)]).bindR fun r24 =>
 .norm [.b (!((r24.getD 0 d0).bb))]
 else
 .norm [.b false]
 else
 .norm [.b false]) fun v25 =>
 .ret [.b ((v25.getD 0 d0).bb)]
theorem eq_impl_valueOk a : r_impl_valueOk a = E_impl_valueOk a := (Run_eq cfg 190 _ a).trans (by kernel_rfl)
noncomputable def E_slices_ContainsFunc_impl_Value__impl_IsConst_1 (a : List DC) : Out :=
 (r_slices_IndexFunc_impl_Value__impl_IsConst_1 [.sl ((a.getD 0 d0).ll)]).bindR fun r1 =>
 .ret [.b (decide ((r1.getD 0 d0).ii ≥ (0 : Int)))]
theorem eq_slices_ContainsFunc_impl_Value__impl_IsConst_1 a : r_slices_ContainsFunc_impl_Value__impl_IsConst_1 a = E_slices_ContainsFunc_impl_Value__impl_IsConst_1 a := (Run_eq cfg 191 _ a).trans (by kernel_rfl)
noncomputable def E_slices_IndexFunc_impl_Dir__impl_constDirs_1L1 : List DC → Out := fun v1 =>
 if (decide ((v1.getD 2 d0).ii < (v1.getD 1 d0).ii)) = true then
 Out.andThenB (if 155 = 155 ∧ 0 ≤ (v1.getD 2 d0).ii ∧ (v1.getD 2 d0).ii < (((v1.getD 0 d0).ll).length : Int) then
 (r_impl_constDirs_1 [.s (((((v1.getD 0 d0).ll).getD ((v1.getD 2 d0).ii).toNat []).getD 0 d0).ss), .sl (((((v1.getD 0 d0).ll).getD ((v1.getD 2 d0).ii).toNat []).getD 1 d0).ll)]).bindR fun r2 =>
 if (r2.getD 0 d0).bb = true then
 .ret [.i ((v1.getD 2 d0).ii)]
 else
 .norm [.sl ((v1.getD 0 d0).ll), .i ((v1.getD 1 d0).ii), .i ((v1.getD 2 d0).ii)]
 else
 .fail) 1 fun v3 =>
 .norm [.sl ((v3.getD 0 d0).ll), .i ((v3.getD 1 d0).ii), .i (IntKind.i64.wrap ((v3.getD 2 d0).ii + (1 : Int)))]
 else
 .ex 0 []
noncomputable def E_slices_IndexFunc_impl_Dir__impl_constDirs_1 (a : List DC) : Out :=
 Out.andThenB (Loop E_slices_IndexFunc_impl_Dir__impl_constDirs_1L1 [.sl ((a.getD 0 d0).ll), .i (((a.getD 0 d0).ll).length : Int), .i (0 : Int)]) 0 fun v4 =>
 .ret [.i (-1 : Int)]
theorem eq_slices_IndexFunc_impl_Dir__impl_constDirs_1 a : r_slices_IndexFunc_impl_Dir__impl_constDirs_1 a = E_slices_IndexFunc_impl_Dir__impl_constDirs_1 a := (Run_eq cfg 193 _ a).trans (by kernel_rfl)
noncomputable def E_slices_IndexFunc_impl_Dir__impl_DirsOk_1L1 : List DC → Out := fun v1 =>
 if (decide ((v1.getD 2 d0).ii < (v1.getD 1 d0).ii)) = true then
 Out.andThenB (if 155 = 155 ∧ 0 ≤ (v1.getD 2 d0).ii ∧ (v1.getD 2 d0).ii < (((v1.getD 0 d0).ll).length : Int) then
 (r_impl_DirsOk_1 [.s (((((v1.getD 0 d0).ll).getD ((v1.getD 2 d0).ii).toNat []).getD 0 d0).ss), .sl (((((v1.getD 0 d0).ll).getD ((v1.getD 2 d0).ii).toNat []).getD 1 d0).ll)]).bindR fun r2 =>
 if (r2.getD 0 d0).bb = true then
 .ret [.i ((v1.getD 2 d0).ii)]
 else
 .norm [.sl ((v1.getD 0 d0).ll), .i ((v1.getD 1 d0).ii), .i ((v1.getD 2 d0).ii)]
 else
 .fail) 1 fun v3 =>
 .norm [.sl ((v3.getD 0 d0).ll), .i ((v3.getD 1 d0).ii), .i (IntKind.i64.wrap ((v3.getD 2 d0).ii + (1 : Int)))]
 else
 .ex 0 []
noncomputable def E_slices_IndexFunc_impl_Dir__impl_DirsOk_1 (a : List DC) : Out :=
 Out.andThenB (Loop E_slices_IndexFunc_impl_Dir__impl_DirsOk_1L1 [.sl ((a.getD 0 d0).ll), .i (((a.getD 0 d0).ll).length : Int), .i (0 : Int)]) 0 fun v4 =>
 .ret [.i (-1 : Int)]
theorem eq_slices_IndexFunc_impl_Dir__impl_DirsOk_1 a : r_slices_IndexFunc_impl_Dir__impl_DirsOk_1 a = E_slices_IndexFunc_impl_Dir__impl_DirsOk_1 a := (Run_eq cfg 193 _ a).trans (by kernel_rfl)
noncomputable def E_slices_ContainsFunc_impl_Arg__impl_ArgsOk_1 (a : List DC) : Out :=
 (r_slices_IndexFunc_impl_Arg__impl_ArgsOk_1 [.sl ((a.getD 0 d0).ll)]).bindR fun r1 =>
 .ret [.b (decide ((r1.getD 0 d0).ii ≥ (0 : Int)))]
theorem eq_slices_ContainsFunc_impl_Arg__impl_ArgsOk_1 a : r_slices_ContainsFunc_impl_Arg__impl_ArgsOk_1 a = E_slices_ContainsFunc_impl_Arg__impl_ArgsOk_1 a := (Run_eq cfg 162 _ a).trans (by kernel_rfl)
noncomputable def E_impl_OpOk_1 (a : List DC) : Out :=
 (r_impl_VarDefOk [.s ((a.getD 0 d0).ss), .s ((a.getD 1 d0).ss), .s ((a.getD 2 d0).ss), .b ((a.getD 3 d0).bb), .i ((a.getD 4 d0).ii), .s ((a.getD 5 d0).ss), .sl ((a.getD 6 d0).ll), .sl ((a.getD 7 d0).ll), .sl ((a.getD 8 d0).ll)]).bindR fun r1 =>
 .ret [.b (!((r1.getD 0 d0).bb))]
theorem eq_impl_OpOk_1 a : r_impl_OpOk_1 a = E_impl_OpOk_1 a := (Run_eq cfg 131 _ a).trans (by kernel_rfl)
noncomputable def E_spec_l07One (a : List DC) : Out :=
 Out.andThenB (if ((a.getD 0 d0).ii == (1 : Int)) = true then
 (r_spec_NameOk [.s ((a.getD 1 d0).ss)]).bindR fun r1 =>
 .ret [.b ((r1.getD 0 d0).bb)]
 else
 if ((a.getD 0 d0).ii == (2 : Int)) = true then
 (r_spec_IntOk [.s ((a.getD 1 d0).ss)]).bindR fun r2 =>
 .ret [.b ((r2.getD 0 d0).bb)]
 else
 if ((a.getD 0 d0).ii == (3 : Int)) = true then
 (r_spec_FloatOk [.s ((a.getD 1 d0).ss)]).bindR fun r3 =>
 .ret [.b ((r3.getD 0 d0).bb)]
 else
 if ((a.getD 0 d0).ii == (4 : Int)) = true then
 (r_spec_Escaped [.s ((a.getD 1 d0).ss)]).bindR fun r4 =>
 .ret [.b (!((r4.getD 0 d0).ss == ([] : List UInt8)))]
 else
 if ((a.getD 0 d0).ii == (5 : Int)) = true then
 (r_spec_Word [.s ((a.getD 1 d0).ss)]).bindR fun r5 =>
 .ret [.b ((r5.getD 0 d0).bb)]
 else
 if ((a.getD 0 d0).ii == (6 : Int)) = true then
 Out.andThen ((r_spec_NameOk [.s ((a.getD 1 d0).ss)]).bindR fun r6 =>
 if (r6.getD 0 d0).bb = true then
 (r_spec_Word [.s ((a.getD 1 d0).ss)]).bindR fun r7 =>
 .norm [.b (!((r7.getD 0 d0).bb))]
 else
 .norm [.b false]) fun v8 =>
 .ret [.b ((v8.getD 0 d0).bb)]
 else
 Out.andThen (if ((a.getD 0 d0).ii == (7 : Int)) = true then
 .norm [.b ((a.getD 0 d0).ii == (7 : Int)), .i ((a.getD 0 d0).ii), .s ((a.getD 1 d0).ss), .sl ((a.getD 2 d0).ll), .sl ((a.getD 3 d0).ll)]
 else
 .norm [.b ((a.getD 0 d0).ii == (8 : Int)), .i ((a.getD 0 d0).ii), .s ((a.getD 1 d0).ss), .sl ((a.getD 2 d0).ll), .sl ((a.getD 3 d0).ll)]) fun v9 =>
 if (v9.getD 0 d0).bb = true then
 .ret [.b ((v9.getD 2 d0).ss == ([] : List UInt8))]
 else
 .norm []) 0 fun v10 =>
 .ret [.b false]
theorem eq_spec_l07One a : r_spec_l07One a = E_spec_l07One a := (Run_eq cfg 200 _ a).trans (by kernel_rfl)
noncomputable def E_spec_RuneText (a : List DC) : Out :=
 (r_spec_l02Scalar [.i ((a.getD 0 d0).ii)]).bindR fun r1 =>
 if (!((r1.getD 0 d0).bb)) = true then
 .ret [.s ([] : List UInt8)]
 else
 Out.andThenB (if (decide ((a.getD 0 d0).ii < (128 : Int))) = true then
 .ret [.s (rowBytes [[DC.i (IntKind.u8.wrap ((a.getD 0 d0).ii))]])]
 else
 if (decide ((a.getD 0 d0).ii < (2048 : Int))) = true then
 if (64 : Int) = 0 then
 .fail
 else
 if (64 : Int) = 0 then
 .fail
 else
 .ret [.s (rowBytes [[DC.i (IntKind.u8.wrap (IntKind.i64.wrap ((192 : Int) + (IntKind.i64.wrap (((a.getD 0 d0).ii).tdiv (64 : Int))))))], [DC.i (IntKind.u8.wrap (IntKind.i64.wrap ((128 : Int) + (((a.getD 0 d0).ii).tmod (64 : Int)))))]])]
 else
 if (decide ((a.getD 0 d0).ii < (65536 : Int))) = true then
 if (4096 : Int) = 0 then
 .fail
 else
 if (64 : Int) = 0 then
 .fail
 else
 if (64 : Int) = 0 then
 .fail
 else
 if (64 : Int) = 0 then
 .fail
 else
 .ret [.s (rowBytes [[DC.i (IntKind.u8.wrap (IntKind.i64.wrap ((224 : Int) + (IntKind.i64.wrap (((a.getD 0 d0).ii).tdiv (4096 : Int))))))], [DC.i (IntKind.u8.wrap (IntKind.i64.wrap ((128 : Int) + ((IntKind.i64.wrap (((a.getD 0 d0).ii).tdiv (64 : Int))).tmod (64 : Int)))))], [DC.i (IntKind.u8.wrap (IntKind.i64.wrap ((128 : Int) + (((a.getD 0 d0).ii).tmod (64 : Int)))))]])]
 else
 .norm [.i ((a.getD 0 d0).ii)]) 0 fun v2 =>
 if (262144 : Int) = 0 then
 .fail
 else
 if (4096 : Int) = 0 then
 .fail
 else
 if (64 : Int) = 0 then
 .fail
 else
 if (64 : Int) = 0 then
 .fail
 else
 if (64 : Int) = 0 then
 .fail
 else
 if (64 : Int) = 0 then
 .fail
 else
 .ret [.s (rowBytes [[DC.i (IntKind.u8.wrap (IntKind.i64.wrap ((240 : Int) + (IntKind.i64.wrap (((v2.getD 0 d0).ii).tdiv (262144 : Int))))))], [DC.i (IntKind.u8.wrap (IntKind.i64.wrap ((128 : Int) + ((IntKind.i64.wrap (((v2.getD 0 d0).ii).tdiv (4096 : Int))).tmod (64 : Int)))))], [DC.i (IntKind.u8.wrap (IntKind.i64.wrap ((128 : Int) + ((IntKind.i64.wrap (((v2.getD 0 d0).ii).tdiv (64 : Int))).tmod (64 : Int)))))], [DC.i (IntKind.u8.wrap (IntKind.i64.wrap ((128 : Int) + (((v2.getD 0 d0).ii).tmod (64 : Int)))))]])]
theorem eq_spec_RuneText a : r_spec_RuneText a = E_spec_RuneText a := (Run_eq cfg 201 _ a).trans (by kernel_rfl)
noncomputable def E_impl_IntOk (a : List DC) : Out :=
 (r_strings_TrimPrefix [.s ((a.getD 0 d0).ss), .s ([45] : List UInt8)]).bindR fun r1 =>
 Out.andThen (if (decide ((((a.getD 0 d0).ss).length : Int) ≤ (40 : Int))) = true then
 (r_impl_figures [.s ((r1.getD 0 d0).ss)]).bindR fun r2 =>
 if (r2.getD 0 d0).bb = true then
 if ((r1.getD 0 d0).ss == ([48] : List UInt8)) = true then
 .norm [.b true]
 else
 if 0 ≤ (0 : Int) ∧ (0 : Int) < (((r1.getD 0 d0).ss).length : Int) then
 .norm [.b (((((r1.getD 0 d0).ss).getD (0 : Int).toNat 0).toNat : Int) != (48 : Int))]
 else
 .fail
 else
 .norm [.b false]
 else
 .norm [.b false]) fun v3 =>
 .ret [.b ((v3.getD 0 d0).bb)]
theorem eq_impl_IntOk a : r_impl_IntOk a = E_impl_IntOk a := (Run_eq cfg 207 _ a).trans (by kernel_rfl)
noncomputable def E_impl_FloatOk (a : List DC) : Out :=
 if (decide ((((a.getD 0 d0).ss).length : Int) > (40 : Int))) = true then
 .ret [.b false]
 else
 (r_strings_IndexAny [.s ((a.getD 0 d0).ss), .s ([101, 69] : List UInt8)]).bindR fun r1 =>
 Out.andThen (if (decide ((r1.getD 0 d0).ii ≥ (0 : Int))) = true then
 if 0 ≤ (r1.getD 0 d0).ii ∧ (r1.getD 0 d0).ii ≤ (((a.getD 0 d0).ss).length : Int) then
 if 0 ≤ (IntKind.i64.wrap ((r1.getD 0 d0).ii + (1 : Int))) ∧ (IntKind.i64.wrap ((r1.getD 0 d0).ii + (1 : Int))) ≤ (((a.getD 0 d0).ss).length : Int) then
 Out.andThen (if (!((((a.getD 0 d0).ss).drop (IntKind.i64.wrap ((r1.getD 0 d0).ii + (1 : Int))).toNat) == ([] : List UInt8))) = true then
 if 0 ≤ (0 : Int) ∧ (0 : Int) < ((((a.getD 0 d0).ss).drop (IntKind.i64.wrap ((r1.getD 0 d0).ii + (1 : Int))).toNat).length : Int) then
 if ((((((a.getD 0 d0).ss).drop (IntKind.i64.wrap ((r1.getD 0 d0).ii + (1 : Int))).toNat).getD (0 : Int).toNat 0).toNat : Int) == (43 : Int)) = true then
 .norm [.s (((a.getD 0 d0).ss).take ((r1.getD 0 d0).ii).toNat), .s (((a.getD 0 d0).ss).drop (IntKind.i64.wrap ((r1.getD 0 d0).ii + (1 : Int))).toNat), .i ((r1.getD 0 d0).ii), .b true]
 else
 if 0 ≤ (0 : Int) ∧ (0 : Int) < ((((a.getD 0 d0).ss).drop (IntKind.i64.wrap ((r1.getD 0 d0).ii + (1 : Int))).toNat).length : Int) then
 .norm [.s (((a.getD 0 d0).ss).take ((r1.getD 0 d0).ii).toNat), .s (((a.getD 0 d0).ss).drop (IntKind.i64.wrap ((r1.getD 0 d0).ii + (1 : Int))).toNat), .i ((r1.getD 0 d0).ii), .b ((((((a.getD 0 d0).ss).drop (IntKind.i64.wrap ((r1.getD 0 d0).ii + (1 : Int))).toNat).getD (0 : Int).toNat 0).toNat : Int) == (45 : Int))]
 else
 .fail
 else
 .fail
 else
 .norm [.s (((a.getD 0 d0).ss).take ((r1.getD 0 d0).ii).toNat), .s (((a.getD 0 d0).ss).drop (IntKind.i64.wrap ((r1.getD 0 d0).ii + (1 : Int))).toNat), .i ((r1.getD 0 d0).ii), .b false]) fun v2 =>
 Out.andThen (if (v2.getD 3 d0).bb = true then
 if 0 ≤ (1 : Int) ∧ (1 : Int) ≤ (((v2.getD 1 d0).ss).length : Int) then
 .norm [.s ((v2.getD 0 d0).ss), .s (((v2.getD 1 d0).ss).drop (1 : Int).toNat), .i ((v2.getD 2 d0).ii)]
 else
 .fail
 else
 .norm [.s ((v2.getD 0 d0).ss), .s ((v2.getD 1 d0).ss), .i ((v2.getD 2 d0).ii)]) fun v3 =>
 (r_impl_figures [.s ((v3.getD 1 d0).ss)]).bindR fun r4 =>
 if (!((r4.getD 0 d0).bb)) = true then
 .ret [.b false]
 else
 .norm [.s ((v3.getD 0 d0).ss), .i ((v3.getD 2 d0).ii)]
 else
 .fail
 else
 .fail
 else
 .norm [.s ((a.getD 0 d0).ss), .i ((r1.getD 0 d0).ii)]) fun v5 =>
 (r_strings_Cut [.s ((v5.getD 0 d0).ss), .s ([46] : List UInt8)]).bindR fun r6 =>
 Out.andThen ((r_impl_IntOk [.s ((r6.getD 0 d0).ss)]).bindR fun r7 =>
 if (r7.getD 0 d0).bb = true then
 if (r6.getD 2 d0).bb = true then
 if (!((r6.getD 2 d0).bb)) = true then
 .norm [.b true]
 else
 (r_impl_figures [.s ((r6.getD 1 d0).ss)]).bindR fun r8 =>
 .norm [.b ((r8.getD 0 d0).bb)]
 else
 if (decide ((v5.getD 1 d0).ii ≥ (0 : Int))) = true then
 if (!((r6.getD 2 d0).bb)) = true then
 .norm [.b true]
 else
 (r_impl_figures [.s ((r6.getD 1 d0).ss)]).bindR fun r9 =>
 .norm [.b ((r9.getD 0 d0).bb)]
 else
 .norm [.b false]
 else
 .norm [.b false]) fun v10 =>
 .ret [.b ((v10.getD 0 d0).bb)]
theorem eq_impl_FloatOk a : r_impl_FloatOk a = E_impl_FloatOk a := (Run_eq cfg 208 _ a).trans (by kernel_rfl)
noncomputable def E_impl_Word (a : List DC) : Out :=
 Out.andThen (if ((a.getD 0 d0).ss == ([116, 114, 117, 101] : List UInt8)) = true then
 .norm [.b true]
 else
 if ((a.getD 0 d0).ss == ([102, 97, 108, 115, 101] : List UInt8)) = true then
 .norm [.b true]
 else
 .norm [.b ((a.getD 0 d0).ss == ([110, 117, 108, 108] : List UInt8))]) fun v1 =>
 .ret [.b ((v1.getD 0 d0).bb)]
theorem eq_impl_Word a : r_impl_Word a = E_impl_Word a := (Run_eq cfg 209 _ a).trans (by kernel_rfl)
noncomputable def E_slices_ContainsFunc_string__impl_valueOk_1 (a : List DC) : Out :=
 (r_slices_IndexFunc_string__impl_valueOk_1 [.sl ((a.getD 0 d0).ll)]).bindR fun r1 =>
 .ret [.b (decide ((r1.getD 0 d0).ii ≥ (0 : Int)))]
theorem eq_slices_ContainsFunc_string__impl_valueOk_1 a : r_slices_ContainsFunc_string__impl_valueOk_1 a = E_slices_ContainsFunc_string__impl_valueOk_1 a := (Run_eq cfg 210 _ a).trans (by kernel_rfl)
noncomputable def E_slices_ContainsFunc_impl_Value__impl_valueOk_2 (a : List DC) : Out :=
 (r_slices_IndexFunc_impl_Value__impl_valueOk_2 [.sl ((a.getD 0 d0).ll), .i ((a.getD 1 d0).ii)]).bindR fun r1 =>
 .ret [.b (decide ((r1.getD 0 d0).ii ≥ (0 : Int))), .i ((r1.getD 1 d0).ii)]
theorem eq_slices_ContainsFunc_impl_Value__impl_valueOk_2 a : r_slices_ContainsFunc_impl_Value__impl_valueOk_2 a = E_slices_ContainsFunc_impl_Value__impl_valueOk_2 a := (Run_eq cfg 191 _ a).trans (by kernel_rfl)
noncomputable def E_slices_IndexFunc_impl_Value__impl_IsConst_1L1 : List DC → Out := fun v1 =>
 if (decide ((v1.getD 2 d0).ii < (v1.getD 1 d0).ii)) = true then
 Out.andThenB (if 43 = 43 ∧ 0 ≤ (v1.getD 2 d0).ii ∧ (v1.getD 2 d0).ii < (((v1.getD 0 d0).ll).length : Int) then
 (r_impl_IsConst_1 [.i (((((v1.getD 0 d0).ll).getD ((v1.getD 2 d0).ii).toNat []).getD 0 d0).ii), .s (((((v1.getD 0 d0).ll).getD ((v1.getD 2 d0).ii).toNat []).getD 1 d0).ss), .sl (((((v1.getD 0 d0).ll).getD ((v1.getD 2 d0).ii).toNat []).getD 2 d0).ll), .sl (((((v1.getD 0 d0).ll).getD ((v1.getD 2 d0).ii).toNat []).getD 3 d0).ll)]).bindR fun r2 =>
 if (r2.getD 0 d0).bb = true then
 .ret [.i ((v1.getD 2 d0).ii)]
 else
 .norm [.sl ((v1.getD 0 d0).ll), .i ((v1.getD 1 d0).ii), .i ((v1.getD 2 d0).ii)]
 else
 .fail) 1 fun v3 =>
 .norm [.sl ((v3.getD 0 d0).ll), .i ((v3.getD 1 d0).ii), .i (IntKind.i64.wrap ((v3.getD 2 d0).ii + (1 : Int)))]
 else
 .ex 0 []
noncomputable def E_slices_IndexFunc_impl_Value__impl_IsConst_1 (a : List DC) : Out :=
 Out.andThenB (Loop E_slices_IndexFunc_impl_Value__impl_IsConst_1L1 [.sl ((a.getD 0 d0).ll), .i (((a.getD 0 d0).ll).length : Int), .i (0 : Int)]) 0 fun v4 =>
 .ret [.i (-1 : Int)]
theorem eq_slices_IndexFunc_impl_Value__impl_IsConst_1 a : r_slices_IndexFunc_impl_Value__impl_IsConst_1 a = E_slices_IndexFunc_impl_Value__impl_IsConst_1 a := (Run_eq cfg 213 _ a).trans (by kernel_rfl)
noncomputable def E_impl_constDirs_1 (a : List DC) : Out :=
 (r_slices_ContainsFunc_impl_Arg__impl_constDirs_1_1 [.sl ((a.getD 1 d0).ll)]).bindR fun r1 =>
 .ret [.b ((r1.getD 0 d0).bb)]
theorem eq_impl_constDirs_1 a : r_impl_constDirs_1 a = E_impl_constDirs_1 a := (Run_eq cfg 161 _ a).trans (by kernel_rfl)
noncomputable def E_impl_DirsOk_1 (a : List DC) : Out :=
 Out.andThen ((r_impl_NameOk [.s ((a.getD 0 d0).ss)]).bindR fun r1 =>
 if (!((r1.getD 0 d0).bb)) = true then
 .norm [.b true]
 else
 (r_impl_ArgsOk [.sl ((a.getD 1 d0).ll)]).bindR fun r2 =>
 .norm [.b (!((r2.getD 0 d0).bb))]) fun v3 =>
 .ret [.b ((v3.getD 0 d0).bb)]
theorem eq_impl_DirsOk_1 a : r_impl_DirsOk_1 a = E_impl_DirsOk_1 a := (Run_eq cfg 167 _ a).trans (by kernel_rfl)
noncomputable def E_slices_IndexFunc_impl_Arg__impl_ArgsOk_1L1 : List DC → Out := fun v1 =>
 if (decide ((v1.getD 2 d0).ii < (v1.getD 1 d0).ii)) = true then
 Out.andThenB (if 189 = 189 ∧ 0 ≤ (v1.getD 2 d0).ii ∧ (v1.getD 2 d0).ii < (((v1.getD 0 d0).ll).length : Int) then
 (r_impl_ArgsOk_1 [.s (((((v1.getD 0 d0).ll).getD ((v1.getD 2 d0).ii).toNat []).getD 0 d0).ss), .i (((((v1.getD 0 d0).ll).getD ((v1.getD 2 d0).ii).toNat []).getD 1 d0).ii), .s (((((v1.getD 0 d0).ll).getD ((v1.getD 2 d0).ii).toNat []).getD 2 d0).ss), .sl (((((v1.getD 0 d0).ll).getD ((v1.getD 2 d0).ii).toNat []).getD 3 d0).ll), .sl (((((v1.getD 0 d0).ll).getD ((v1.getD 2 d0).ii).toNat []).getD 4 d0).ll)]).bindR fun r2 =>
 if (r2.getD 0 d0).bb = true then
 .ret [.i ((v1.getD 2 d0).ii)]
 else
 .norm [.sl ((v1.getD 0 d0).ll), .i ((v1.getD 1 d0).ii), .i ((v1.getD 2 d0).ii)]
 else
 .fail) 1 fun v3 =>
 .norm [.sl ((v3.getD 0 d0).ll), .i ((v3.getD 1 d0).ii), .i (IntKind.i64.wrap ((v3.getD 2 d0).ii + (1 : Int)))]
 else
 .ex 0 []
noncomputable def E_slices_IndexFunc_impl_Arg__impl_ArgsOk_1 (a : List DC) : Out :=
 Out.andThenB (Loop E_slices_IndexFunc_impl_Arg__impl_ArgsOk_1L1 [.sl ((a.getD 0 d0).ll), .i (((a.getD 0 d0).ll).length : Int), .i (0 : Int)]) 0 fun v4 =>
 .ret [.i (-1 : Int)]
theorem eq_slices_IndexFunc_impl_Arg__impl_ArgsOk_1 a : r_slices_IndexFunc_impl_Arg__impl_ArgsOk_1 a = E_slices_IndexFunc_impl_Arg__impl_ArgsOk_1 a := (Run_eq cfg 194 _ a).trans (by kernel_rfl)
noncomputable def E_impl_VarDefOk (a : List DC) : Out :=
 Out.andThen ((r_impl_NameOk [.s ((a.getD 0 d0).ss)]).bindR fun r1 =>
 if (r1.getD 0 d0).bb = true then
 (r_impl_TypeOk [.s ((a.getD 1 d0).ss), .s ((a.getD 2 d0).ss)]).bindR fun r2 =>
 if (r2.getD 0 d0).bb = true then
 (r_impl_defaultOk [.b ((a.getD 3 d0).bb), .i ((a.getD 4 d0).ii), .s ((a.getD 5 d0).ss), .sl ((a.getD 6 d0).ll), .sl ((a.getD 7 d0).ll)]).bindR fun r3 =>
 if (r3.getD 0 d0).bb = true then
 (r_impl_constDirs [.sl ((a.getD 8 d0).ll)]).bindR fun r4 =>
 .norm [.b ((r4.getD 0 d0).bb)]
 else
 .norm [.b false]
 else
 .norm [.b false]
 else
 .norm [.b false]) fun v5 =>
 .ret [.b ((v5.getD 0 d0).bb)]
theorem eq_impl_VarDefOk a : r_impl_VarDefOk a = E_impl_VarDefOk a := (Run_eq cfg 132 _ a).trans (by kernel_rfl)
noncomputable def E_spec_IntOk (a : List DC) : Out :=
 Out.andThen (if (decide ((((a.getD 0 d0).ss).length : Int) ≤ (40 : Int))) = true then
 if (decide ((((a.getD 0 d0).ss).length : Int) > (0 : Int))) = true then
 (r_spec_l03Int [.s ((a.getD 0 d0).ss)]).bindR fun r1 =>
 .norm [.b ((r1.getD 0 d0).ii == (((a.getD 0 d0).ss).length : Int))]
 else
 .norm [.b false]
 else
 .norm [.b false]) fun v2 =>
 .ret [.b ((v2.getD 0 d0).bb)]
theorem eq_spec_IntOk a : r_spec_IntOk a = E_spec_IntOk a := (Run_eq cfg 214 _ a).trans (by kernel_rfl)
noncomputable def E_spec_FloatOk (a : List DC) : Out :=
 (r_spec_l03Int [.s ((a.getD 0 d0).ss)]).bindR fun r1 =>
 Out.andThen (if (decide ((((a.getD 0 d0).ss).length : Int) > (40 : Int))) = true then
 .norm [.s ((a.getD 0 d0).ss), .i ((r1.getD 0 d0).ii), .b true]
 else
 if ((r1.getD 0 d0).ii == (0 : Int)) = true then
 .norm [.s ((a.getD 0 d0).ss), .i ((r1.getD 0 d0).ii), .b true]
 else
 .norm [.s ((a.getD 0 d0).ss), .i ((r1.getD 0 d0).ii), .b ((r1.getD 0 d0).ii == (((a.getD 0 d0).ss).length : Int))]) fun v2 =>
 if (v2.getD 2 d0).bb = true then
 .ret [.b false]
 else
 if 0 ≤ (v2.getD 1 d0).ii ∧ (v2.getD 1 d0).ii < (((v2.getD 0 d0).ss).length : Int) then
 Out.andThen (if (((((v2.getD 0 d0).ss).getD ((v2.getD 1 d0).ii).toNat 0).toNat : Int) == (46 : Int)) = true then
 (r_spec_l03Run [.s ((v2.getD 0 d0).ss), .i (IntKind.i64.wrap ((v2.getD 1 d0).ii + (1 : Int)))]).bindR fun r3 =>
 if ((r3.getD 0 d0).ii == (IntKind.i64.wrap ((v2.getD 1 d0).ii + (1 : Int)))) = true then
 .ret [.b false]
 else
 .norm [.s ((v2.getD 0 d0).ss), .i ((r3.getD 0 d0).ii)]
 else
 .norm [.s ((v2.getD 0 d0).ss), .i ((v2.getD 1 d0).ii)]) fun v4 =>
 Out.andThen (if (decide ((v4.getD 1 d0).ii < (((v4.getD 0 d0).ss).length : Int))) = true then
 if 0 ≤ (v4.getD 1 d0).ii ∧ (v4.getD 1 d0).ii < (((v4.getD 0 d0).ss).length : Int) then
 if (((((v4.getD 0 d0).ss).getD ((v4.getD 1 d0).ii).toNat 0).toNat : Int) == (101 : Int)) = true then
 .norm [.s ((v4.getD 0 d0).ss), .i ((v4.getD 1 d0).ii), .b true]
 else
 if 0 ≤ (v4.getD 1 d0).ii ∧ (v4.getD 1 d0).ii < (((v4.getD 0 d0).ss).length : Int) then
 .norm [.s ((v4.getD 0 d0).ss), .i ((v4.getD 1 d0).ii), .b (((((v4.getD 0 d0).ss).getD ((v4.getD 1 d0).ii).toNat 0).toNat : Int) == (69 : Int))]
 else
 .fail
 else
 .fail
 else
 .norm [.s ((v4.getD 0 d0).ss), .i ((v4.getD 1 d0).ii), .b false]) fun v5 =>
 Out.andThen (if (v5.getD 2 d0).bb = true then
 Out.andThen (if (decide ((IntKind.i64.wrap ((v5.getD 1 d0).ii + (1 : Int))) < (((v5.getD 0 d0).ss).length : Int))) = true then
 if 0 ≤ (IntKind.i64.wrap ((v5.getD 1 d0).ii + (1 : Int))) ∧ (IntKind.i64.wrap ((v5.getD 1 d0).ii + (1 : Int))) < (((v5.getD 0 d0).ss).length : Int) then
 if (((((v5.getD 0 d0).ss).getD (IntKind.i64.wrap ((v5.getD 1 d0).ii + (1 : Int))).toNat 0).toNat : Int) == (43 : Int)) = true then
 .norm [.s ((v5.getD 0 d0).ss), .i (IntKind.i64.wrap ((v5.getD 1 d0).ii + (1 : Int))), .b true]
 else
 if 0 ≤ (IntKind.i64.wrap ((v5.getD 1 d0).ii + (1 : Int))) ∧ (IntKind.i64.wrap ((v5.getD 1 d0).ii + (1 : Int))) < (((v5.getD 0 d0).ss).length : Int) then
 .norm [.s ((v5.getD 0 d0).ss), .i (IntKind.i64.wrap ((v5.getD 1 d0).ii + (1 : Int))), .b (((((v5.getD 0 d0).ss).getD (IntKind.i64.wrap ((v5.getD 1 d0).ii + (1 : Int))).toNat 0).toNat : Int) == (45 : Int))]
 else
 .fail
 else
 .fail
 else
 .norm [.s ((v5.getD 0 d0).ss), .i (IntKind.i64.wrap ((v5.getD 1 d0).ii + (1 : Int))), .b false]) fun v6 =>
 Out.andThen (if (v6.getD 2 d0).bb = true then
 .norm [.s ((v6.getD 0 d0).ss), .i (IntKind.i64.wrap ((v6.getD 1 d0).ii + (1 : Int)))]
 else
 .norm [.s ((v6.getD 0 d0).ss), .i ((v6.getD 1 d0).ii)]) fun v7 =>
 (r_spec_l03Run [.s ((v7.getD 0 d0).ss), .i ((v7.getD 1 d0).ii)]).bindR fun r8 =>
 if ((r8.getD 0 d0).ii == (v7.getD 1 d0).ii) = true then
 .ret [.b false]
 else
 .norm [.s ((v7.getD 0 d0).ss), .i ((r8.getD 0 d0).ii)]
 else
 .norm [.s ((v5.getD 0 d0).ss), .i ((v5.getD 1 d0).ii)]) fun v9 =>
 .ret [.b ((v9.getD 1 d0).ii == (((v9.getD 0 d0).ss).length : Int))]
 else
 .fail
theorem eq_spec_FloatOk a : r_spec_FloatOk a = E_spec_FloatOk a := (Run_eq cfg 215 _ a).trans (by kernel_rfl)
noncomputable def E_spec_Word (a : List DC) : Out :=
 Out.andThen (if ((a.getD 0 d0).ss == ([116, 114, 117, 101] : List UInt8)) = true then
 .norm [.b true]
 else
 if ((a.getD 0 d0).ss == ([102, 97, 108, 115, 101] : List UInt8)) = true then
 .norm [.b true]
 else
 .norm [.b ((a.getD 0 d0).ss == ([110, 117, 108, 108] : List UInt8))]) fun v1 =>
 .ret [.b ((v1.getD 0 d0).bb)]
theorem eq_spec_Word a : r_spec_Word a = E_spec_Word a := (Run_eq cfg 216 _ a).trans (by kernel_rfl)
noncomputable def E_spec_l02Scalar (a : List DC) : Out :=
 Out.andThen ((r_spec_l01In [.i ((a.getD 0 d0).ii), .i (0 : Int), .i (1114111 : Int)]).bindR fun r1 =>
 if (r1.getD 0 d0).bb = true then
 (r_spec_l01In [.i ((a.getD 0 d0).ii), .i (55296 : Int), .i (57343 : Int)]).bindR fun r2 =>
 .norm [.b (!((r2.getD 0 d0).bb))]
 else
 .norm [.b false]) fun v3 =>
 .ret [.b ((v3.getD 0 d0).bb)]
theorem eq_spec_l02Scalar a : r_spec_l02Scalar a = E_spec_l02Scalar a := (Run_eq cfg 217 _ a).trans (by kernel_rfl)
noncomputable def E_strings_TrimPrefix (a : List DC) : Out :=
 (r_internal_stringslite_TrimPrefix [.s ((a.getD 0 d0).ss), .s ((a.getD 1 d0).ss)]).bindR fun r1 =>
 .ret [.s ((r1.getD 0 d0).ss)]
theorem eq_strings_TrimPrefix a : r_strings_TrimPrefix a = E_strings_TrimPrefix a := (Run_eq cfg 224 _ a).trans (by kernel_rfl)
noncomputable def E_impl_figuresL1 : List DC → Out := fun v1 =>
 if (decide ((v1.getD 2 d0).ii < (v1.getD 1 d0).ii)) = true then
 Out.andThenB (if 0 ≤ (v1.getD 2 d0).ii ∧ (v1.getD 2 d0).ii < (((v1.getD 0 d0).ss).length : Int) then
 (r_impl_isFigure [.i ((((v1.getD 0 d0).ss).getD ((v1.getD 2 d0).ii).toNat 0).toNat : Int)]).bindR fun r2 =>
 if (!((r2.getD 0 d0).bb)) = true then
 .ret [.b false]
 else
 .norm [.s ((v1.getD 0 d0).ss), .i ((v1.getD 1 d0).ii), .i ((v1.getD 2 d0).ii)]
 else
 .fail) 1 fun v3 =>
 .norm [.s ((v3.getD 0 d0).ss), .i ((v3.getD 1 d0).ii), .i (IntKind.i64.wrap ((v3.getD 2 d0).ii + (1 : Int)))]
 else
 .ex 0 [.s ((v1.getD 0 d0).ss)]
noncomputable def E_impl_figures (a : List DC) : Out :=
 Out.andThenB (Loop E_impl_figuresL1 [.s ((a.getD 0 d0).ss), .i (((a.getD 0 d0).ss).length : Int), .i (0 : Int)]) 0 fun v4 =>
 .ret [.b (!((v4.getD 0 d0).ss == ([] : List UInt8)))]
theorem eq_impl_figures a : r_impl_figures a = E_impl_figures a := (Run_eq cfg 225 _ a).trans (by kernel_rfl)
noncomputable def E_strings_IndexAny (a : List DC) : Out := match primH [.s, .s] [.i .i64] qIndexAny h_strings_IndexAny a with | some r => .ret r | none => .fail
theorem eq_strings_IndexAny a : r_strings_IndexAny a = E_strings_IndexAny a := (Run_eq cfg 226 h_strings_IndexAny a).trans (by kernel_rfl)
noncomputable def E_strings_Cut (a : List DC) : Out :=
 (r_internal_stringslite_Cut [.s ((a.getD 0 d0).ss), .s ((a.getD 1 d0).ss)]).bindR fun r1 =>
 .ret [.s ((r1.getD 0 d0).ss), .s ((r1.getD 1 d0).ss), .b ((r1.getD 2 d0).bb)]
theorem eq_strings_Cut a : r_strings_Cut a = E_strings_Cut a := (Run_eq cfg 227 _ a).trans (by kernel_rfl)
noncomputable def E_slices_IndexFunc_string__impl_valueOk_1L1 : List DC → Out := fun v1 =>
 if (decide ((v1.getD 2 d0).ii < (v1.getD 1 d0).ii)) = true then
 Out.andThenB (if 9 = 9 ∧ 0 ≤ (v1.getD 2 d0).ii ∧ (v1.getD 2 d0).ii < (((v1.getD 0 d0).ll).length : Int) then
 (r_impl_valueOk_1 [.s (((((v1.getD 0 d0).ll).getD ((v1.getD 2 d0).ii).toNat []).getD 0 d0).ss)]).bindR fun r2 =>
 if (r2.getD 0 d0).bb = true then
 .ret [.i ((v1.getD 2 d0).ii)]
 else
 .norm [.sl ((v1.getD 0 d0).ll), .i ((v1.getD 1 d0).ii), .i ((v1.getD 2 d0).ii)]
 else
 .fail) 1 fun v3 =>
 .norm [.sl ((v3.getD 0 d0).ll), .i ((v3.getD 1 d0).ii), .i (IntKind.i64.wrap ((v3.getD 2 d0).ii + (1 : Int)))]
 else
 .ex 0 []
noncomputable def E_slices_IndexFunc_string__impl_valueOk_1 (a : List DC) : Out :=
 Out.andThenB (Loop E_slices_IndexFunc_string__impl_valueOk_1L1 [.sl ((a.getD 0 d0).ll), .i (((a.getD 0 d0).ll).length : Int), .i (0 : Int)]) 0 fun v4 =>
 .ret [.i (-1 : Int)]
theorem eq_slices_IndexFunc_string__impl_valueOk_1 a : r_slices_IndexFunc_string__impl_valueOk_1 a = E_slices_IndexFunc_string__impl_valueOk_1 a := (Run_eq cfg 228 _ a).trans (by kernel_rfl)
noncomputable def E_slices_IndexFunc_impl_Value__impl_valueOk_2L1 : List DC → Out := fun v1 =>
 if (decide ((v1.getD 2 d0).ii < (v1.getD 1 d0).ii)) = true then
 Out.andThenB (if 43 = 43 ∧ 0 ≤ (v1.getD 2 d0).ii ∧ (v1.getD 2 d0).ii < (((v1.getD 0 d0).ll).length : Int) then
 (r_impl_valueOk_2 [.i (((((v1.getD 0 d0).ll).getD ((v1.getD 2 d0).ii).toNat []).getD 0 d0).ii), .s (((((v1.getD 0 d0).ll).getD ((v1.getD 2 d0).ii).toNat []).getD 1 d0).ss), .sl (((((v1.getD 0 d0).ll).getD ((v1.getD 2 d0).ii).toNat []).getD 2 d0).ll), .sl (((((v1.getD 0 d0).ll).getD ((v1.getD 2 d0).ii).toNat []).getD 3 d0).ll), .i ((v1.getD 3 d0).ii)]).bindR fun r2 =>
 if (r2.getD 0 d0).bb = true then
 .ret [.i ((v1.getD 2 d0).ii), .i ((r2.getD 1 d0).ii)]
 else
 .norm [.sl ((v1.getD 0 d0).ll), .i ((v1.getD 1 d0).ii), .i ((v1.getD 2 d0).ii), .i ((r2.getD 1 d0).ii)]
 else
 .fail) 1 fun v3 =>
 .norm [.sl ((v3.getD 0 d0).ll), .i ((v3.getD 1 d0).ii), .i (IntKind.i64.wrap ((v3.getD 2 d0).ii + (1 : Int))), .i ((v3.getD 3 d0).ii)]
 else
 .ex 0 [.i ((v1.getD 3 d0).ii)]
noncomputable def E_slices_IndexFunc_impl_Value__impl_valueOk_2 (a : List DC) : Out :=
 Out.andThenB (Loop E_slices_IndexFunc_impl_Value__impl_valueOk_2L1 [.sl ((a.getD 0 d0).ll), .i (((a.getD 0 d0).ll).length : Int), .i (0 : Int), .i ((a.getD 1 d0).ii)]) 0 fun v4 =>
 .ret [.i (-1 : Int), .i ((v4.getD 0 d0).ii)]
theorem eq_slices_IndexFunc_impl_Value__impl_valueOk_2 a : r_slices_IndexFunc_impl_Value__impl_valueOk_2 a = E_slices_IndexFunc_impl_Value__impl_valueOk_2 a := (Run_eq cfg 213 _ a).trans (by kernel_rfl)
noncomputable def E_impl_IsConst_1 (a : List DC) : Out :=
 (r_impl_IsConst [.i ((a.getD 0 d0).ii), .s ((a.getD 1 d0).ss), .sl ((a.getD 2 d0).ll), .sl ((a.getD 3 d0).ll)]).bindR fun r1 =>
 .ret [.b (!((r1.getD 0 d0).bb))]
theorem eq_impl_IsConst_1 a : r_impl_IsConst_1 a = E_impl_IsConst_1 a := (Run_eq cfg 192 _ a).trans (by kernel_rfl)
noncomputable def E_slices_ContainsFunc_impl_Arg__impl_constDirs_1_1 (a : List DC) : Out :=
 (r_slices_IndexFunc_impl_Arg__impl_constDirs_1_1 [.sl ((a.getD 0 d0).ll)]).bindR fun r1 =>
 .ret [.b (decide ((r1.getD 0 d0).ii ≥ (0 : Int)))]
theorem eq_slices_ContainsFunc_impl_Arg__impl_constDirs_1_1 a : r_slices_ContainsFunc_impl_Arg__impl_constDirs_1_1 a = E_slices_ContainsFunc_impl_Arg__impl_constDirs_1_1 a := (Run_eq cfg 162 _ a).trans (by kernel_rfl)
noncomputable def E_impl_ArgsOk_1 (a : List DC) : Out :=
 Out.andThen ((r_impl_NameOk [.s ((a.getD 0 d0).ss)]).bindR fun r1 =>
 if (!((r1.getD 0 d0).bb)) = true then
 .norm [.b true]
 else
 (r_impl_ValueOk [.i ((a.getD 1 d0).ii), .s ((a.getD 2 d0).ss), .sl ((a.getD 3 d0).ll), .sl ((a.getD 4 d0).ll)]).bindR fun r2 =>
 .norm [.b (!((r2.getD 0 d0).bb))]) fun v3 =>
 .ret [.b ((v3.getD 0 d0).bb)]
theorem eq_impl_ArgsOk_1 a : r_impl_ArgsOk_1 a = E_impl_ArgsOk_1 a := (Run_eq cfg 173 _ a).trans (by kernel_rfl)
noncomputable def E_spec_l03Int (a : List DC) : Out :=
 Out.andThen (if (decide ((((a.getD 0 d0).ss).length : Int) > (0 : Int))) = true then
 if 0 ≤ (0 : Int) ∧ (0 : Int) < (((a.getD 0 d0).ss).length : Int) then
 .norm [.s ((a.getD 0 d0).ss), .i (0 : Int), .b (((((a.getD 0 d0).ss).getD (0 : Int).toNat 0).toNat : Int) == (45 : Int))]
 else
 .fail
 else
 .norm [.s ((a.getD 0 d0).ss), .i (0 : Int), .b false]) fun v1 =>
 Out.andThen (if (v1.getD 2 d0).bb = true then
 .norm [.s ((v1.getD 0 d0).ss), .i (1 : Int)]
 else
 .norm [.s ((v1.getD 0 d0).ss), .i ((v1.getD 1 d0).ii)]) fun v2 =>
 (r_spec_l03Run [.s ((v2.getD 0 d0).ss), .i ((v2.getD 1 d0).ii)]).bindR fun r3 =>
 Out.andThen (if ((r3.getD 0 d0).ii == (v2.getD 1 d0).ii) = true then
 .norm [.i ((r3.getD 0 d0).ii), .b true]
 else
 if 0 ≤ (v2.getD 1 d0).ii ∧ (v2.getD 1 d0).ii < (((v2.getD 0 d0).ss).length : Int) then
 if (((((v2.getD 0 d0).ss).getD ((v2.getD 1 d0).ii).toNat 0).toNat : Int) == (48 : Int)) = true then
 .norm [.i ((r3.getD 0 d0).ii), .b (decide ((r3.getD 0 d0).ii > (IntKind.i64.wrap ((v2.getD 1 d0).ii + (1 : Int)))))]
 else
 .norm [.i ((r3.getD 0 d0).ii), .b false]
 else
 .fail) fun v4 =>
 if (v4.getD 1 d0).bb = true then
 .ret [.i (0 : Int)]
 else
 .ret [.i ((v4.getD 0 d0).ii)]
theorem eq_spec_l03Int a : r_spec_l03Int a = E_spec_l03Int a := (Run_eq cfg 229 _ a).trans (by kernel_rfl)
noncomputable def E_spec_l03RunL1 : List DC → Out := fun v1 =>
 Out.andThen (if (decide ((v1.getD 1 d0).ii < (((v1.getD 0 d0).ss).length : Int))) = true then
 if 0 ≤ (v1.getD 1 d0).ii ∧ (v1.getD 1 d0).ii < (((v1.getD 0 d0).ss).length : Int) then
 (r_spec_l03Figure [.i ((((v1.getD 0 d0).ss).getD ((v1.getD 1 d0).ii).toNat 0).toNat : Int)]).bindR fun r2 =>
 .norm [.s ((v1.getD 0 d0).ss), .i ((v1.getD 1 d0).ii), .b ((r2.getD 0 d0).bb)]
 else
 .fail
 else
 .norm [.s ((v1.getD 0 d0).ss), .i ((v1.getD 1 d0).ii), .b false]) fun v3 =>
 if (v3.getD 2 d0).bb = true then
 Out.andThenB (.norm [.s ((v3.getD 0 d0).ss), .i (IntKind.i64.wrap ((v3.getD 1 d0).ii + (1 : Int)))]) 1 fun v4 =>
 .norm [.s ((v4.getD 0 d0).ss), .i ((v4.getD 1 d0).ii)]
 else
 .ex 0 [.i ((v3.getD 1 d0).ii)]
noncomputable def E_spec_l03Run (a : List DC) : Out :=
 Out.andThenB (Loop E_spec_l03RunL1 [.s ((a.getD 0 d0).ss), .i ((a.getD 1 d0).ii)]) 0 fun v5 =>
 .ret [.i ((v5.getD 0 d0).ii)]
theorem eq_spec_l03Run a : r_spec_l03Run a = E_spec_l03Run a := (Run_eq cfg 230 _ a).trans (by kernel_rfl)
noncomputable def E_internal_stringslite_TrimPrefix (a : List DC) : Out :=
 (r_internal_stringslite_HasPrefix [.s ((a.getD 0 d0).ss), .s ((a.getD 1 d0).ss)]).bindR fun r1 =>
 if (r1.getD 0 d0).bb = true then
 if 0 ≤ (((a.getD 1 d0).ss).length : Int) ∧ (((a.getD 1 d0).ss).length : Int) ≤ (((a.getD 0 d0).ss).length : Int) then
 .ret [.s (((a.getD 0 d0).ss).drop (((a.getD 1 d0).ss).length : Int).toNat)]
 else
 .fail
 else
 .ret [.s ((a.getD 0 d0).ss)]
theorem eq_internal_stringslite_TrimPrefix a : r_internal_stringslite_TrimPrefix a = E_internal_stringslite_TrimPrefix a := (Run_eq cfg 233 _ a).trans (by kernel_rfl)
noncomputable def E_internal_stringslite_Cut (a : List DC) : Out := match primH [.s, .s] [.s, .s, .b] qCut h_internal_stringslite_Cut a with | some r => .ret r | none => .fail
theorem eq_internal_stringslite_Cut a : r_internal_stringslite_Cut a = E_internal_stringslite_Cut a := (Run_eq cfg 235 h_internal_stringslite_Cut a).trans (by kernel_rfl)
noncomputable def E_impl_valueOk_1 (a : List DC) : Out :=
 (r_impl_NameOk [.s ((a.getD 0 d0).ss)]).bindR fun r1 =>
 .ret [.b (!((r1.getD 0 d0).bb))]
theorem eq_impl_valueOk_1 a : r_impl_valueOk_1 a = E_impl_valueOk_1 a := (Run_eq cfg 211 _ a).trans (by kernel_rfl)
noncomputable def E_impl_valueOk_2 (a : List DC) : Out :=
 (r_impl_valueOk [.i ((a.getD 0 d0).ii), .s ((a.getD 1 d0).ss), .sl ((a.getD 2 d0).ll), .sl ((a.getD 3 d0).ll), .i (IntKind.i64.wrap ((a.getD 4 d0).ii - (1 : Int)))]).bindR fun r1 =>
 .ret [.b (!((r1.getD 0 d0).bb)), .i ((a.getD 4 d0).ii)]
theorem eq_impl_valueOk_2 a : r_impl_valueOk_2 a = E_impl_valueOk_2 a := (Run_eq cfg 212 _ a).trans (by kernel_rfl)
noncomputable def E_slices_IndexFunc_impl_Arg__impl_constDirs_1_1L1 : List DC → Out := fun v1 =>
 if (decide ((v1.getD 2 d0).ii < (v1.getD 1 d0).ii)) = true then
 Out.andThenB (if 189 = 189 ∧ 0 ≤ (v1.getD 2 d0).ii ∧ (v1.getD 2 d0).ii < (((v1.getD 0 d0).ll).length : Int) then
 (r_impl_constDirs_1_1 [.s (((((v1.getD 0 d0).ll).getD ((v1.getD 2 d0).ii).toNat []).getD 0 d0).ss), .i (((((v1.getD 0 d0).ll).getD ((v1.getD 2 d0).ii).toNat []).getD 1 d0).ii), .s (((((v1.getD 0 d0).ll).getD ((v1.getD 2 d0).ii).toNat []).getD 2 d0).ss), .sl (((((v1.getD 0 d0).ll).getD ((v1.getD 2 d0).ii).toNat []).getD 3 d0).ll), .sl (((((v1.getD 0 d0).ll).getD ((v1.getD 2 d0).ii).toNat []).getD 4 d0).ll)]).bindR fun r2 =>
 if (r2.getD 0 d0).bb = true then
 .ret [.i ((v1.getD 2 d0).ii)]
 else
 .norm [.sl ((v1.getD 0 d0).ll), .i ((v1.getD 1 d0).ii), .i ((v1.getD 2 d0).ii)]
 else
 .fail) 1 fun v3 =>
 .norm [.sl ((v3.getD 0 d0).ll), .i ((v3.getD 1 d0).ii), .i (IntKind.i64.wrap ((v3.getD 2 d0).ii + (1 : Int)))]
 else
 .ex 0 []
noncomputable def E_slices_IndexFunc_impl_Arg__impl_constDirs_1_1 (a : List DC) : Out :=
 Out.andThenB (Loop E_slices_IndexFunc_impl_Arg__impl_constDirs_1_1L1 [.sl ((a.getD 0 d0).ll), .i (((a.getD 0 d0).ll).length : Int), .i (0 : Int)]) 0 fun v4 =>
 .ret [.i (-1 : Int)]
theorem eq_slices_IndexFunc_impl_Arg__impl_constDirs_1_1 a : r_slices_IndexFunc_impl_Arg__impl_constDirs_1_1 a = E_slices_IndexFunc_impl_Arg__impl_constDirs_1_1 a := (Run_eq cfg 194 _ a).trans (by kernel_rfl)
noncomputable def E_internal_stringslite_HasPrefix (a : List DC) : Out :=
 Out.andThen (if (decide ((((a.getD 0 d0).ss).length : Int) ≥ (((a.getD 1 d0).ss).length : Int))) = true then
 if 0 ≤ (((a.getD 1 d0).ss).length : Int) ∧ (((a.getD 1 d0).ss).length : Int) ≤ (((a.getD 0 d0).ss).length : Int) then
 .norm [.b ((((a.getD 0 d0).ss).take (((a.getD 1 d0).ss).length : Int).toNat) == (a.getD 1 d0).ss)]
 else
 .fail
 else
 .norm [.b false]) fun v1 =>
 .ret [.b ((v1.getD 0 d0).bb)]
theorem eq_internal_stringslite_HasPrefix a : r_internal_stringslite_HasPrefix a = E_internal_stringslite_HasPrefix a := (Run_eq cfg 176 _ a).trans (by kernel_rfl)
noncomputable def E_impl_constDirs_1_1 (a : List DC) : Out :=
 (r_impl_IsConst [.i ((a.getD 1 d0).ii), .s ((a.getD 2 d0).ss), .sl ((a.getD 3 d0).ll), .sl ((a.getD 4 d0).ll)]).bindR fun r1 =>
 .ret [.b (!((r1.getD 0 d0).bb))]
theorem eq_impl_constDirs_1_1 a : r_impl_constDirs_1_1 a = E_impl_constDirs_1_1 a := (Run_eq cfg 163 _ a).trans (by kernel_rfl)
set_option linter.unusedSimpArgs false
theorem u8_eq (x : UInt8) (n : Nat) (hn : n < 256) : ((x.toNat : Int) == (n : Int)) = (x == UInt8.ofNat n) := by
  rw [Bool.eq_iff_iff, beq_iff_eq, beq_iff_eq, ← UInt8.toNat_inj]
  simp only [UInt8.toNat_ofNat', Nat.mod_eq_of_lt hn]
  omega
def isFig (b : UInt8) : Bool := decide (48 ≤ b.toNat) && decide (b.toNat ≤ 57)
def tw (l : List UInt8) : Nat := (l.takeWhile isFig).length
theorem tw_le (l : List UInt8) : tw l ≤ l.length := by
  have := (List.takeWhile_prefix isFig (l := l)).length_le
  exact this
theorem spec_l03Figure (b : UInt8) : r_spec_l03Figure [.i (b.toNat : Int)] = .ret [.b (isFig b)] := by
  rw [eq_spec_l03Figure]
  simp only [E_spec_l03Figure, List.getD_cons_zero, List.getD_cons_succ, DC.bb_b, DC.ii_i, isFig]
  by_cases h : 48 ≤ b.toNat
  · have h1 : (b.toNat : Int) ≥ 48 := by omega
    simp [h, h1]
    omega
  · have h1 : ¬ (b.toNat : Int) ≥ 48 := by omega
    simp [h, h1]
theorem impl_isFigure (b : UInt8) : r_impl_isFigure [.i (b.toNat : Int)] = .ret [.b (isFig b)] := by
  rw [eq_impl_isFigure]
  simp only [E_impl_isFigure, List.getD_cons_zero, List.getD_cons_succ, DC.bb_b, DC.ii_i, isFig]
  by_cases h : 48 ≤ b.toNat
  · have h1 : (b.toNat : Int) ≥ 48 := by omega
    simp [h, h1]
    omega
  · have h1 : ¬ (b.toNat : Int) ≥ 48 := by omega
    simp [h, h1]
theorem goF_run (f : UInt8 → Bool) : ∀ (l : List UInt8) (i : Nat), goF (fun x => !f x) (fun i _ => .ex 0 [.i (i : Int)]) (.ex 0 [.i ((i + l.length : Nat) : Int)]) i l = .ex 0 [.i ((i + (l.takeWhile f).length : Nat) : Int)]
  | [], i => rfl
  | x :: l, i => by
    rw [goF]
    cases h : f x with
    | false => simp [h]
    | true =>
      have := goF_run f l (i + 1)
      simp only [List.length_cons, List.takeWhile_cons, h, if_true, Bool.not_true, Bool.false_eq_true, if_false]
      rw [show i + (l.length + 1) = i + 1 + l.length by omega, this]
      congr 4
      omega
theorem spec_l03Run (s : List UInt8) (i : Nat) (hi : i ≤ s.length) (hs : s.length ≤ 1048576) : r_spec_l03Run [.s s, .i (i : Int)] = .ret [.i ((i + tw (s.drop i) : Nat) : Int)] := by
  rw [eq_spec_l03Run]
  simp only [E_spec_l03Run, List.getD_cons_zero, List.getD_cons_succ, DC.bb_b, DC.ii_i, DC.ss_s]
  have := Loop_find (l := s) (st := fun i => [.s s, .i (i : Int)]) (p := fun x => !isFig x) (stop := fun i _ => .ex 0 [.i (i : Int)]) (fin := .ex 0 [.i (s.length : Int)]) (F := E_spec_l03RunL1) (fun i hi => ?step) (fun _ _ => Out.esc_ex _ _) ?fin (Out.esc_ex _ _) (s.length - i) i (by omega)
  · have e : ((s.length : Nat) : Int) = ((i + (s.drop i).length : Nat) : Int) := by rw [List.length_drop]; omega
    rw [e, goF_run isFig (s.drop i) i] at this
    rw [this]
    rfl
  case step =>
    have hg : s.getD i 0 = s[i] := by rw [List.getD_eq_getElem?_getD, List.getElem?_eq_getElem hi]; rfl
    simp only [E_spec_l03RunL1, List.getD_cons_zero, List.getD_cons_succ, DC.bb_b, DC.ii_i, DC.ss_s, Int.toNat_natCast, hg, spec_l03Figure]
    cases hf : isFig s[i] <;> simp [hi, hf, wrap_succ hi (show s.length ≤ 9223372036854775807 by omega)]
  case fin => simp [E_spec_l03RunL1]
def sgn (s : List UInt8) : Nat := if s.head? = some 45 then 1 else 0
theorem sgn_le (s : List UInt8) : sgn s ≤ s.length := by
  unfold sgn
  split
  · rename_i h
    cases s with
    | nil => simp at h
    | cons _ _ => simp
  · omega
def intLen (s : List UInt8) : Nat := if tw (s.drop (sgn s)) = 0 then 0 else if s.getD (sgn s) 0 = 48 ∧ 1 < tw (s.drop (sgn s)) then 0 else sgn s + tw (s.drop (sgn s))
theorem spec_l03Int (s : List UInt8) (hs : s.length ≤ 1048576) : r_spec_l03Int [.s s] = .ret [.i (intLen s : Int)] := by
  rw [eq_spec_l03Int]
  cases s with
  | nil =>
    have hr : r_spec_l03Run [.s [], .i 0] = .ret [.i 0] := spec_l03Run [] 0 (by simp) (by simp)
    simp [E_spec_l03Int, hr, intLen, sgn, tw]
  | cons a l =>
    have hpos : decide (((a :: l).length : Int) > 0) = true := by simp
    have hpos' : 0 ≤ (0 : Int) ∧ (0 : Int) < ((a :: l).length : Int) := by simp
    have h0 : (a :: l).getD (0 : Int).toNat 0 = a := rfl
    by_cases h : a = 45
    · subst h
      have hsg : sgn (45 :: l) = 1 := rfl
      have hr : r_spec_l03Run [.s (45 :: l), .i 1] = .ret [.i ((1 + tw l : Nat) : Int)] := spec_l03Run (45 :: l) 1 (by simp) hs
      have h45 : (((45 : UInt8).toNat : Int) == 45) = true := rfl
      simp only [E_spec_l03Int, List.getD_cons_zero, List.getD_cons_succ, DC.bb_b, DC.ii_i, DC.ss_s, hpos, hpos', if_true, and_self, decide_true, h0, h45, Out.andThen_norm, hr, Out.bindR_ret]
      have hil : intLen (45 :: l) = if tw l = 0 then 0 else if l.getD 0 0 = 48 ∧ 1 < tw l then 0 else 1 + tw l := rfl
      have hle := tw_le l
      rw [hil]
      rcases Nat.eq_zero_or_pos (tw l) with ht | ht
      · simp [ht]
      · have hl : l ≠ [] := by
          intro e
          rw [e] at ht
          simp [tw] at ht
        have e1 : (((1 + tw l : Nat) : Int) == 1) = false := beq_eq_false_iff_ne.2 (by omega)
        have hlen : 0 < l.length := by omega
        have e2 : 0 ≤ (1 : Int) ∧ (1 : Int) < ((45 :: l).length : Int) := by rw [List.length_cons]; omega
        have e3 : (45 :: l).getD (1 : Int).toNat 0 = l.getD 0 0 := rfl
        have e4 := u8_eq (l.getD 0 0) 48 (by omega)
        have e4' : (((l.getD 0 0).toNat : Int) == 48) = (l.getD 0 0 == 48) := e4
        have e5 : IntKind.i64.wrap ((1 : Int) + 1) = 2 := by decide
        simp only [e1, e2, e3, e4', e5, Bool.false_eq_true, if_false, if_true, and_self, show ¬ tw l = 0 by omega]
        by_cases h48 : l.getD 0 0 = 48
        · have e6 : (l.getD 0 0 == 48) = true := beq_iff_eq.2 h48
          by_cases h1 : 1 < tw l
          · have e7 : decide (((1 + tw l : Nat) : Int) > 2) = true := decide_eq_true (by omega)
            simp only [e6, e7, h48, h1, beq_self_eq_true, if_true, Out.andThen_norm, List.getD_cons_zero, List.getD_cons_succ, DC.bb_b, DC.ii_i, and_self]
            rfl
          · have e7 : decide (((1 + tw l : Nat) : Int) > 2) = false := decide_eq_false (by omega)
            simp only [e6, e7, h48, h1, beq_self_eq_true, if_true, Out.andThen_norm, List.getD_cons_zero, List.getD_cons_succ, DC.bb_b, DC.ii_i, Bool.false_eq_true, if_false, and_false]
        · have e6 : (l.getD 0 0 == 48) = false := beq_eq_false_iff_ne.2 h48
          simp only [e6, h48, if_true, Out.andThen_norm, List.getD_cons_zero, List.getD_cons_succ, DC.bb_b, DC.ii_i, Bool.false_eq_true, if_false, false_and]
    · have hsg : sgn (a :: l) = 0 := by simp [sgn, h]
      have hr : r_spec_l03Run [.s (a :: l), .i 0] = .ret [.i ((tw (a :: l) : Nat) : Int)] := by
        have := spec_l03Run (a :: l) 0 (by simp) hs
        simpa using this
      have h45 : ((a.toNat : Int) == 45) = false := (u8_eq a 45 (by omega)).trans (beq_eq_false_iff_ne.2 h)
      simp only [E_spec_l03Int, List.getD_cons_zero, List.getD_cons_succ, DC.bb_b, DC.ii_i, DC.ss_s, hpos, hpos', if_true, and_self, decide_true, h0, h45, Out.andThen_norm, hr, Out.bindR_ret, Bool.false_eq_true, if_false]
      have hil : intLen (a :: l) = if tw (a :: l) = 0 then 0 else if a = 48 ∧ 1 < tw (a :: l) then 0 else tw (a :: l) := by
        unfold intLen
        rw [hsg]
        simp only [List.drop_zero, Nat.zero_add]
        rfl
      rw [hil]
      generalize tw (a :: l) = n
      rcases Nat.eq_zero_or_pos n with ht | ht
      · simp [ht]
      · have e1 : ((n : Int) == 0) = false := beq_eq_false_iff_ne.2 (by omega)
        have e4' : ((a.toNat : Int) == 48) = (a == 48) := u8_eq a 48 (by omega)
        have e5 : IntKind.i64.wrap ((0 : Int) + 1) = 1 := by decide
        simp only [e1, e4', e5, Bool.false_eq_true, if_false, if_true, show ¬ n = 0 by omega]
        by_cases h48 : a = 48
        · have e6 : (a == 48) = true := beq_iff_eq.2 h48
          by_cases h1 : 1 < n
          · have e7 : decide ((n : Int) > 1) = true := decide_eq_true (by omega)
            simp only [e6, e7, h48, h1, beq_self_eq_true, if_true, Out.andThen_norm, List.getD_cons_zero, List.getD_cons_succ, DC.bb_b, DC.ii_i, and_self]
            rfl
          · have e7 : decide ((n : Int) > 1) = false := decide_eq_false (by omega)
            simp only [e6, e7, h48, h1, beq_self_eq_true, if_true, Out.andThen_norm, List.getD_cons_zero, List.getD_cons_succ, DC.bb_b, DC.ii_i, Bool.false_eq_true, if_false, and_false]
        · have e6 : (a == 48) = false := beq_eq_false_iff_ne.2 h48
          simp only [e6, h48, if_true, Out.andThen_norm, List.getD_cons_zero, List.getD_cons_succ, DC.bb_b, DC.ii_i, Bool.false_eq_true, if_false, false_and]
def intOk (s : List UInt8) : Bool := decide (s.length ≤ 40) && (decide (0 < s.length) && (intLen s == s.length))
theorem spec_IntOk (s : List UInt8) (hs : s.length ≤ 1048576) : r_spec_IntOk [.s s] = .ret [.b (intOk s)] := by
  rw [eq_spec_IntOk]
  simp only [E_spec_IntOk, List.getD_cons_zero, List.getD_cons_succ, DC.bb_b, DC.ii_i, DC.ss_s, spec_l03Int s hs, Out.bindR_ret, intOk]
  by_cases h1 : s.length ≤ 40
  · have e1 : decide ((s.length : Int) ≤ 40) = true := decide_eq_true (by omega)
    by_cases h2 : 0 < s.length
    · have e2 : decide ((s.length : Int) > 0) = true := decide_eq_true (by omega)
      have e3 : ((intLen s : Int) == (s.length : Int)) = (intLen s == s.length) := by
        rw [Bool.eq_iff_iff, beq_iff_eq, beq_iff_eq]; omega
      simp only [e1, e2, e3, h1, h2, decide_true, Bool.true_and, if_true, Out.andThen_norm, List.getD_cons_zero, DC.bb_b]
    · have e2 : decide ((s.length : Int) > 0) = false := decide_eq_false (by omega)
      simp only [e1, e2, h1, h2, decide_true, decide_false, Bool.true_and, Bool.false_and, if_true, if_false, Bool.false_eq_true, Out.andThen_norm, List.getD_cons_zero, DC.bb_b]
  · have e1 : decide ((s.length : Int) ≤ 40) = false := decide_eq_false (by omega)
    simp only [e1, h1, decide_false, Bool.false_and, if_false, Bool.false_eq_true, Out.andThen_norm, List.getD_cons_zero, DC.bb_b]
def figs (l : List UInt8) : Bool := !(l == []) && l.all isFig
theorem impl_figures (s : List UInt8) (hs : s.length ≤ 1048576) : r_impl_figures [.s s] = .ret [.b (figs s)] := by
  rw [eq_impl_figures]
  simp only [E_impl_figures, List.getD_cons_zero, List.getD_cons_succ, DC.bb_b, DC.ii_i, DC.ss_s]
  rw [show (0 : Int) = ((0 : Nat) : Int) from rfl, Loop_find0 (l := s) (st := fun i => [.s s, .i (s.length : Int), .i (i : Int)]) (p := fun x => !isFig x) (stop := fun i _ => .ret [.b false]) (fin := .ex 0 [.s s]) (fun i hi => ?step) (fun _ _ => Out.esc_ret _) ?fin (Out.esc_ex _ _), goF_any]
  · unfold figs
    cases h : s.any fun x => !isFig x with
    | true =>
      have : s.all isFig = false := by
        rw [List.any_eq_true] at h
        obtain ⟨x, hx, h⟩ := h
        rw [List.all_eq_false]
        exact ⟨x, hx, by simpa using h⟩
      simp [this]
    | false =>
      have : s.all isFig = true := by
        rw [List.any_eq_false] at h
        rw [List.all_eq_true]
        intro x hx
        simpa using h x hx
      simp [this]
  case step =>
    have hg : s.getD i 0 = s[i] := by rw [List.getD_eq_getElem?_getD, List.getElem?_eq_getElem hi]; rfl
    simp only [E_impl_figuresL1, List.getD_cons_zero, List.getD_cons_succ, DC.bb_b, DC.ii_i, DC.ss_s, Int.toNat_natCast, hg, impl_isFigure]
    cases hf : isFig s[i] <;> simp [hi, hf, wrap_succ hi (show s.length ≤ 9223372036854775807 by omega)]
  case fin => simp [E_impl_figuresL1]
theorem takeWhile_all {f : UInt8 → Bool} : ∀ {l : List UInt8}, (l.takeWhile f).length = l.length ↔ l.all f = true
  | [] => by simp
  | x :: l => by
    have ih := takeWhile_all (f := f) (l := l)
    rw [List.takeWhile_cons, List.all_cons]
    cases f x <;> simp [ih]
theorem strings_TrimPrefix_sgn (s : List UInt8) : r_strings_TrimPrefix [.s s, .s [45]] = .ret [.s (s.drop (sgn s))] := by
  rw [eq_strings_TrimPrefix]
  simp only [E_strings_TrimPrefix, List.getD_cons_zero, List.getD_cons_succ, DC.ss_s]
  rw [eq_internal_stringslite_TrimPrefix]
  simp only [E_internal_stringslite_TrimPrefix, List.getD_cons_zero, List.getD_cons_succ, DC.ss_s]
  have h : r_internal_stringslite_HasPrefix [.s s, .s [45]] = .ret [.b (decide (sgn s = 1))] := by
    rw [eq_internal_stringslite_HasPrefix]
    simp only [E_internal_stringslite_HasPrefix, List.getD_cons_zero, List.getD_cons_succ, DC.ss_s]
    cases s with
    | nil => simp [sgn]
    | cons a l =>
      by_cases h : a = 45
      · subst h
        have hl : (1 : Int) ≤ (l.length : Int) + 1 := by omega
        simp [sgn, hl]
      · have hl : (1 : Int) ≤ (l.length : Int) + 1 := by omega
        simp [sgn, h, hl]
  rw [h]
  unfold sgn
  cases s with
  | nil => simp
  | cons a l =>
    by_cases h : a = 45
    · subst h
      have hl : (1 : Int) ≤ (l.length : Int) + 1 := by omega
      simp [hl]
    · simp [h]
theorem intOk_eq (s : List UInt8) : intOk s = (decide (s.length ≤ 40) && (figs (s.drop (sgn s)) && (s.drop (sgn s) == [48] || !((s.drop (sgn s)).getD 0 0 == 48)))) := by
  unfold intOk
  congr 1
  have hle := sgn_le s
  have hlen : (s.drop (sgn s)).length = s.length - sgn s := List.length_drop
  have hg : s.getD (sgn s) 0 = (s.drop (sgn s)).getD 0 0 := by simp [List.getD_eq_getElem?_getD, List.getElem?_drop]
  have hall := takeWhile_all (f := isFig) (l := s.drop (sgn s))
  unfold intLen tw figs
  rw [hg]
  generalize s.drop (sgn s) = d at *
  have htl := (List.takeWhile_prefix isFig (l := d)).length_le
  generalize (d.takeWhile isFig).length = n at *
  rw [Bool.eq_iff_iff]
  simp only [Bool.and_eq_true, Bool.or_eq_true, decide_eq_true_eq, beq_iff_eq, Bool.not_eq_true', beq_eq_false_iff_ne, ne_eq]
  rw [← hall]
  cases d with
  | nil =>
    have : n = 0 := by simpa using htl
    subst this
    simp
    omega
  | cons a l =>
    simp only [List.length_cons] at hlen htl hall
    by_cases h0 : n = 0
    · simp [h0]; omega
    · by_cases h48 : a = 48
      · subst h48
        cases l with
        | nil =>
          have h1 : ¬ 1 < n := by simp at htl; omega
          simp only [List.length_cons, List.length_nil] at *
          simp [h0, h1]
          omega
        | cons b l =>
          simp only [List.length_cons] at *
          by_cases h1 : 1 < n
          · simp [h0, h1]
            omega
          · simp [h0, h1]
            omega
      · simp [h0, h48]; omega
theorem impl_IntOk (s : List UInt8) (hs : s.length ≤ 1048576) : r_impl_IntOk [.s s] = .ret [.b (intOk s)] := by
  rw [eq_impl_IntOk, intOk_eq]
  have hd : (s.drop (sgn s)).length ≤ 1048576 := by rw [List.length_drop]; omega
  simp only [E_impl_IntOk, List.getD_cons_zero, List.getD_cons_succ, DC.bb_b, DC.ii_i, DC.ss_s, strings_TrimPrefix_sgn, Out.bindR_ret, impl_figures _ hd]
  generalize s.drop (sgn s) = d
  by_cases h1 : s.length ≤ 40
  · have e1 : decide ((s.length : Int) ≤ 40) = true := decide_eq_true (by omega)
    cases hf : figs d with
    | false => simp [e1, h1, hf]
    | true =>
      cases d with
      | nil => simp [figs] at hf
      | cons a l =>
        have e3 : ((a.toNat : Int) != 48) = !(a == 48) := congrArg (!·) (u8_eq a 48 (by omega))
        have e4 : 0 ≤ (0 : Int) ∧ (0 : Int) < ((a :: l).length : Int) := by simp
        have e5 : (a :: l).getD (0 : Int).toNat 0 = a := rfl
        have e6 : (a :: l).getD 0 0 = a := rfl
        cases hb : ((a :: l) == [48]) <;> simp only [e1, h1, hf, e4, e5, e6, hb, e3, decide_true, if_true, if_false, Bool.false_eq_true, and_self, Out.andThen_norm, List.getD_cons_zero, DC.bb_b, Bool.true_and, Bool.true_or, Bool.false_or]
  · have e1 : decide ((s.length : Int) ≤ 40) = false := decide_eq_false (by omega)
    simp [e1, h1]
end Go.Proofs.QV
