import Derived.Test.YthbcjkppdjpihaaGreatDoorMA6
/- The functions of closed runs, in small steps (written by a program). -/
namespace Go.Proofs.QV
open Go
set_option linter.unusedVariables false
set_option maxRecDepth 100000
abbrev ou : KC := .one .u
abbrev ob : KC := .one .b
abbrev os : KC := .one .s
abbrev oi : KC := .one (.i .i64)
abbrev ol (e : Nat) : KC := .one (.sl e)
def uu (n : Nat) (l : List KC) : List KC := List.replicate n (.one .u) ++ l
def vv (n : Nat) (l : List KO) : List KO := List.replicate n .u ++ l
def C_spec_l08New (R : Nat → List DC → Out) (n : Nat) (a : List DC) : Out :=
 (R 52 [.s ((a.getD 0 d0).ss)]).bindR fun r1 =>
 .ret [.sl ((r1.getD 0 d0).ll), .i (0 : Int), .i (((a.getD 0 d0).ss).length : Int), .i ((r1.getD 1 d0).ii), .i ((r1.getD 2 d0).ii)]
def C_spec_TokensOfL1 (R : Nat → List DC → Out) (n : Nat) : List DC → Out := fun v1 =>
 if (decide ((v1.getD 2 d0).ii < (((v1.getD 0 d0).ss).length : Int))) = true then
 Out.andThenB ((R 53 [.s ((v1.getD 0 d0).ss), .i ((v1.getD 2 d0).ii)]).bindR fun r2 =>
 if (decide ((r2.getD 0 d0).ii < (0 : Int))) = true then
 .ret [.sl ((v1.getD 1 d0).ll), .i (2 : Int), .i ((v1.getD 2 d0).ii)]
 else
 .norm [.s ((v1.getD 0 d0).ss), .sl ((v1.getD 1 d0).ll), .i (IntKind.i64.wrap ((v1.getD 2 d0).ii + (r2.getD 1 d0).ii)), .i ((v1.getD 3 d0).ii), .i ((v1.getD 4 d0).ii)]) 1 fun v3 =>
 .norm [.s ((v3.getD 0 d0).ss), .sl ((v3.getD 1 d0).ll), .i ((v3.getD 2 d0).ii), .i ((v3.getD 3 d0).ii), .i ((v3.getD 4 d0).ii)]
 else
 .ex 0 [.s ((v1.getD 0 d0).ss), .sl ((v1.getD 1 d0).ll), .i ((v1.getD 3 d0).ii), .i ((v1.getD 4 d0).ii)]
def C_spec_TokensOfL2 (R : Nat → List DC → Out) (n : Nat) : List DC → Out := fun v6 =>
 if (decide ((v6.getD 3 d0).ii < (((v6.getD 0 d0).ss).length : Int))) = true then
 Out.andThenB ((R 55 [.s ((v6.getD 0 d0).ss), .i ((v6.getD 3 d0).ii)]).bindR fun r7 =>
 Out.andThen (if ((r7.getD 4 d0).ii == (0 : Int)) = true then
 .norm [.s ((v6.getD 0 d0).ss), .sl ((v6.getD 1 d0).ll), .sl ((v6.getD 2 d0).ll), .i ((v6.getD 3 d0).ii), .i ((r7.getD 3 d0).ii), .i ((r7.getD 4 d0).ii), .b ((((v6.getD 2 d0).ll).length : Int) == (2500 : Int)), .i ((v6.getD 4 d0).ii), .i ((v6.getD 5 d0).ii), .i ((r7.getD 0 d0).ii), .s ((r7.getD 1 d0).ss), .i ((r7.getD 2 d0).ii)]
 else
 .norm [.s ((v6.getD 0 d0).ss), .sl ((v6.getD 1 d0).ll), .sl ((v6.getD 2 d0).ll), .i ((v6.getD 3 d0).ii), .i ((r7.getD 3 d0).ii), .i ((r7.getD 4 d0).ii), .b false, .i ((v6.getD 4 d0).ii), .i ((v6.getD 5 d0).ii), .i ((r7.getD 0 d0).ii), .s ((r7.getD 1 d0).ss), .i ((r7.getD 2 d0).ii)]) fun v8 =>
 Out.andThen (if (v8.getD 6 d0).bb = true then
 .norm [.s ((v8.getD 0 d0).ss), .sl ((v8.getD 1 d0).ll), .sl ((v8.getD 2 d0).ll), .i ((v8.getD 3 d0).ii), .i ((v8.getD 4 d0).ii), .i (6 : Int), .i ((v8.getD 7 d0).ii), .i ((v8.getD 8 d0).ii), .i ((v8.getD 9 d0).ii), .s ((v8.getD 10 d0).ss), .i ((v8.getD 11 d0).ii)]
 else
 .norm [.s ((v8.getD 0 d0).ss), .sl ((v8.getD 1 d0).ll), .sl ((v8.getD 2 d0).ll), .i ((v8.getD 3 d0).ii), .i ((v8.getD 4 d0).ii), .i ((v8.getD 5 d0).ii), .i ((v8.getD 7 d0).ii), .i ((v8.getD 8 d0).ii), .i ((v8.getD 9 d0).ii), .s ((v8.getD 10 d0).ss), .i ((v8.getD 11 d0).ii)]) fun v9 =>
 if ((v9.getD 5 d0).ii != (0 : Int)) = true then
 .ret [.sl ((v9.getD 1 d0).ll), .i ((v9.getD 5 d0).ii), .i ((v9.getD 3 d0).ii)]
 else
 if ((v9.getD 2 d0).ll).length + [[DC.i ((v9.getD 8 d0).ii), DC.s ((v9.getD 9 d0).ss), DC.i ((v9.getD 10 d0).ii)]].length < LIM then
 .norm [.s ((v9.getD 0 d0).ss), .sl ((v9.getD 1 d0).ll), .sl (((v9.getD 2 d0).ll) ++ [[DC.i ((v9.getD 8 d0).ii), DC.s ((v9.getD 9 d0).ss), DC.i ((v9.getD 10 d0).ii)]]), .i ((v9.getD 4 d0).ii), .i ((v9.getD 6 d0).ii), .i ((v9.getD 7 d0).ii)]
 else
 .fail) 3 fun v10 =>
 (R 54 [.s ((v10.getD 0 d0).ss), .i ((v10.getD 3 d0).ii)]).bindR fun r11 =>
 .norm [.s ((v10.getD 0 d0).ss), .sl ((v10.getD 1 d0).ll), .sl ((v10.getD 2 d0).ll), .i ((r11.getD 0 d0).ii), .i ((v10.getD 4 d0).ii), .i ((v10.getD 5 d0).ii)]
 else
 .ex 2 [.sl ((v6.getD 2 d0).ll), .i ((v6.getD 4 d0).ii), .i ((v6.getD 5 d0).ii)]
def C_spec_TokensOf (R : Nat → List DC → Out) (n : Nat) (a : List DC) : Out :=
 if (decide ((((a.getD 0 d0).ss).length : Int) > (12000 : Int))) = true then
 .ret [.sl [], .i (1 : Int), .i (0 : Int)]
 else
 Out.andThenB (loopF (C_spec_TokensOfL1 R n) n [.s ((a.getD 0 d0).ss), .sl [], .i (0 : Int), .i (0 : Int), .i (0 : Int)]) 0 fun v4 =>
 (R 54 [.s ((v4.getD 0 d0).ss), .i (0 : Int)]).bindR fun r5 =>
 Out.andThenB (loopF (C_spec_TokensOfL2 R n) n [.s ((v4.getD 0 d0).ss), .sl ((v4.getD 1 d0).ll), .sl [], .i ((r5.getD 0 d0).ii), .i ((v4.getD 2 d0).ii), .i ((v4.getD 3 d0).ii)]) 2 fun v12 =>
 .ret [.sl ((v12.getD 0 d0).ll), .i (0 : Int), .i (0 : Int)]
def C_spec_RuneAtL1 (R : Nat → List DC → Out) (n : Nat) : List DC → Out := fun v8 =>
 if (decide ((v8.getD 4 d0).ii < (v8.getD 2 d0).ii)) = true then
 Out.andThenB (if 0 ≤ (IntKind.i64.wrap ((v8.getD 1 d0).ii + (v8.getD 4 d0).ii)) ∧ (IntKind.i64.wrap ((v8.getD 1 d0).ii + (v8.getD 4 d0).ii)) < (((v8.getD 0 d0).ss).length : Int) then
 Out.andThen (if (decide ((IntKind.i64.wrap ((((v8.getD 0 d0).ss).getD (IntKind.i64.wrap ((v8.getD 1 d0).ii + (v8.getD 4 d0).ii)).toNat 0).toNat : Int)) < (128 : Int))) = true then
 .norm [.s ((v8.getD 0 d0).ss), .i ((v8.getD 1 d0).ii), .i ((v8.getD 2 d0).ii), .i ((v8.getD 3 d0).ii), .i ((v8.getD 4 d0).ii), .i (IntKind.i64.wrap ((((v8.getD 0 d0).ss).getD (IntKind.i64.wrap ((v8.getD 1 d0).ii + (v8.getD 4 d0).ii)).toNat 0).toNat : Int)), .b true]
 else
 .norm [.s ((v8.getD 0 d0).ss), .i ((v8.getD 1 d0).ii), .i ((v8.getD 2 d0).ii), .i ((v8.getD 3 d0).ii), .i ((v8.getD 4 d0).ii), .i (IntKind.i64.wrap ((((v8.getD 0 d0).ss).getD (IntKind.i64.wrap ((v8.getD 1 d0).ii + (v8.getD 4 d0).ii)).toNat 0).toNat : Int)), .b (decide ((IntKind.i64.wrap ((((v8.getD 0 d0).ss).getD (IntKind.i64.wrap ((v8.getD 1 d0).ii + (v8.getD 4 d0).ii)).toNat 0).toNat : Int)) > (191 : Int)))]) fun v9 =>
 if (v9.getD 6 d0).bb = true then
 .ret [.i (-1 : Int), .i (0 : Int)]
 else
 .norm [.s ((v9.getD 0 d0).ss), .i ((v9.getD 1 d0).ii), .i ((v9.getD 2 d0).ii), .i (IntKind.i64.wrap ((IntKind.i64.wrap ((IntKind.i64.wrap ((v9.getD 3 d0).ii * (64 : Int))) + (v9.getD 5 d0).ii)) - (128 : Int))), .i ((v9.getD 4 d0).ii)]
 else
 .fail) 2 fun v10 =>
 .norm [.s ((v10.getD 0 d0).ss), .i ((v10.getD 1 d0).ii), .i ((v10.getD 2 d0).ii), .i ((v10.getD 3 d0).ii), .i (IntKind.i64.wrap ((v10.getD 4 d0).ii + (1 : Int)))]
 else
 .ex 1 [.i ((v8.getD 2 d0).ii), .i ((v8.getD 3 d0).ii)]
def C_spec_RuneAt (R : Nat → List DC → Out) (n : Nat) (a : List DC) : Out :=
 Out.andThen (if (decide ((a.getD 1 d0).ii < (0 : Int))) = true then
 .norm [.s ((a.getD 0 d0).ss), .i ((a.getD 1 d0).ii), .b true]
 else
 .norm [.s ((a.getD 0 d0).ss), .i ((a.getD 1 d0).ii), .b (decide ((a.getD 1 d0).ii ≥ (((a.getD 0 d0).ss).length : Int)))]) fun v1 =>
 if (v1.getD 2 d0).bb = true then
 .ret [.i (-1 : Int), .i (0 : Int)]
 else
 if 0 ≤ (v1.getD 1 d0).ii ∧ (v1.getD 1 d0).ii < (((v1.getD 0 d0).ss).length : Int) then
 Out.andThenB (if (decide ((IntKind.i64.wrap ((((v1.getD 0 d0).ss).getD ((v1.getD 1 d0).ii).toNat 0).toNat : Int)) < (128 : Int))) = true then
 .ret [.i (IntKind.i64.wrap ((((v1.getD 0 d0).ss).getD ((v1.getD 1 d0).ii).toNat 0).toNat : Int)), .i (1 : Int)]
 else
 Out.andThen (if (decide ((IntKind.i64.wrap ((((v1.getD 0 d0).ss).getD ((v1.getD 1 d0).ii).toNat 0).toNat : Int)) ≥ (194 : Int))) = true then
 .norm [.s ((v1.getD 0 d0).ss), .i ((v1.getD 1 d0).ii), .i (IntKind.i64.wrap ((((v1.getD 0 d0).ss).getD ((v1.getD 1 d0).ii).toNat 0).toNat : Int)), .b (decide ((IntKind.i64.wrap ((((v1.getD 0 d0).ss).getD ((v1.getD 1 d0).ii).toNat 0).toNat : Int)) < (224 : Int)))]
 else
 .norm [.s ((v1.getD 0 d0).ss), .i ((v1.getD 1 d0).ii), .i (IntKind.i64.wrap ((((v1.getD 0 d0).ss).getD ((v1.getD 1 d0).ii).toNat 0).toNat : Int)), .b false]) fun v2 =>
 Out.andThen (if (v2.getD 3 d0).bb = true then
 .norm [.s ((v2.getD 0 d0).ss), .i ((v2.getD 1 d0).ii), .i (2 : Int), .i (IntKind.i64.wrap ((v2.getD 2 d0).ii - (192 : Int)))]
 else
 Out.andThen (if (decide ((v2.getD 2 d0).ii ≥ (224 : Int))) = true then
 .norm [.s ((v2.getD 0 d0).ss), .i ((v2.getD 1 d0).ii), .i ((v2.getD 2 d0).ii), .b (decide ((v2.getD 2 d0).ii < (240 : Int)))]
 else
 .norm [.s ((v2.getD 0 d0).ss), .i ((v2.getD 1 d0).ii), .i ((v2.getD 2 d0).ii), .b false]) fun v3 =>
 Out.andThen (if (v3.getD 3 d0).bb = true then
 .norm [.s ((v3.getD 0 d0).ss), .i ((v3.getD 1 d0).ii), .i (3 : Int), .i (IntKind.i64.wrap ((v3.getD 2 d0).ii - (224 : Int)))]
 else
 Out.andThen (if (decide ((v3.getD 2 d0).ii ≥ (240 : Int))) = true then
 .norm [.s ((v3.getD 0 d0).ss), .i ((v3.getD 1 d0).ii), .i ((v3.getD 2 d0).ii), .b (decide ((v3.getD 2 d0).ii < (245 : Int)))]
 else
 .norm [.s ((v3.getD 0 d0).ss), .i ((v3.getD 1 d0).ii), .i ((v3.getD 2 d0).ii), .b false]) fun v4 =>
 if (v4.getD 3 d0).bb = true then
 .norm [.s ((v4.getD 0 d0).ss), .i ((v4.getD 1 d0).ii), .i (4 : Int), .i (IntKind.i64.wrap ((v4.getD 2 d0).ii - (240 : Int)))]
 else
 .ret [.i (-1 : Int), .i (0 : Int)]) fun v5 =>
 .norm [.s ((v5.getD 0 d0).ss), .i ((v5.getD 1 d0).ii), .i ((v5.getD 2 d0).ii), .i ((v5.getD 3 d0).ii)]) fun v6 =>
 .norm [.s ((v6.getD 0 d0).ss), .i ((v6.getD 1 d0).ii), .i ((v6.getD 2 d0).ii), .i ((v6.getD 3 d0).ii)]) 0 fun v7 =>
 if (decide ((IntKind.i64.wrap ((v7.getD 1 d0).ii + (v7.getD 2 d0).ii)) > (((v7.getD 0 d0).ss).length : Int))) = true then
 .ret [.i (-1 : Int), .i (0 : Int)]
 else
 Out.andThenB (loopF (C_spec_RuneAtL1 R n) n [.s ((v7.getD 0 d0).ss), .i ((v7.getD 1 d0).ii), .i ((v7.getD 2 d0).ii), .i ((v7.getD 3 d0).ii), .i (1 : Int)]) 1 fun v11 =>
 (R 56 [.i ((v11.getD 1 d0).ii)]).bindR fun r12 =>
 if ((((r12.getD 0 d0).ss).length : Int) != (v11.getD 0 d0).ii) = true then
 .ret [.i (-1 : Int), .i (0 : Int)]
 else
 .ret [.i ((v11.getD 1 d0).ii), .i ((v11.getD 0 d0).ii)]
 else
 .fail
def C_spec_l06One (R : Nat → List DC → Out) (n : Nat) (a : List DC) : Out :=
 Out.andThenB (if 0 ≤ (a.getD 1 d0).ii ∧ (a.getD 1 d0).ii < (((a.getD 0 d0).ss).length : Int) then
 (R 57 [.i ((((a.getD 0 d0).ss).getD ((a.getD 1 d0).ii).toNat 0).toNat : Int)]).bindR fun r1 =>
 if (r1.getD 0 d0).bb = true then
 (R 58 [.s ((a.getD 0 d0).ss), .i ((a.getD 1 d0).ii)]).bindR fun r2 =>
 if 0 ≤ (a.getD 1 d0).ii ∧ (a.getD 1 d0).ii ≤ (r2.getD 0 d0).ii ∧ (r2.getD 0 d0).ii ≤ (((a.getD 0 d0).ss).length : Int) then
 (R 59 [.s ((((a.getD 0 d0).ss).take ((r2.getD 0 d0).ii).toNat).drop ((a.getD 1 d0).ii).toNat)]).bindR fun r3 =>
 if (!((r3.getD 0 d0).bb)) = true then
 .ret [.i (2 : Int), .s ((((a.getD 0 d0).ss).take ((r2.getD 0 d0).ii).toNat).drop ((a.getD 1 d0).ii).toNat), .i ((a.getD 1 d0).ii), .i ((a.getD 1 d0).ii), .i (3 : Int)]
 else
 .ret [.i (2 : Int), .s ((((a.getD 0 d0).ss).take ((r2.getD 0 d0).ii).toNat).drop ((a.getD 1 d0).ii).toNat), .i ((a.getD 1 d0).ii), .i ((r2.getD 0 d0).ii), .i (0 : Int)]
 else
 .fail
 else
 Out.andThen (if 0 ≤ (a.getD 1 d0).ii ∧ (a.getD 1 d0).ii < (((a.getD 0 d0).ss).length : Int) then
 (R 60 [.i ((((a.getD 0 d0).ss).getD ((a.getD 1 d0).ii).toNat 0).toNat : Int)]).bindR fun r4 =>
 if (r4.getD 0 d0).bb = true then
 .norm [.s ((a.getD 0 d0).ss), .i ((a.getD 1 d0).ii), .b true, .i (0 : Int), .s [], .i (0 : Int), .i (0 : Int), .s [], .i ((a.getD 1 d0).ii)]
 else
 if 0 ≤ (a.getD 1 d0).ii ∧ (a.getD 1 d0).ii < (((a.getD 0 d0).ss).length : Int) then
 .norm [.s ((a.getD 0 d0).ss), .i ((a.getD 1 d0).ii), .b (((((a.getD 0 d0).ss).getD ((a.getD 1 d0).ii).toNat 0).toNat : Int) == (45 : Int)), .i (0 : Int), .s [], .i (0 : Int), .i (0 : Int), .s [], .i ((a.getD 1 d0).ii)]
 else
 .fail
 else
 .fail) fun v5 =>
 if (v5.getD 2 d0).bb = true then
 (R 61 [.s ((v5.getD 0 d0).ss), .i ((v5.getD 1 d0).ii)]).bindR fun r6 =>
 if 0 ≤ (v5.getD 1 d0).ii ∧ (v5.getD 1 d0).ii ≤ (r6.getD 0 d0).ii ∧ (r6.getD 0 d0).ii ≤ (((v5.getD 0 d0).ss).length : Int) then
 (R 62 [.s ((((v5.getD 0 d0).ss).take ((r6.getD 0 d0).ii).toNat).drop ((v5.getD 1 d0).ii).toNat)]).bindR fun r7 =>
 if (r7.getD 0 d0).bb = true then
 .ret [.i (3 : Int), .s ((((v5.getD 0 d0).ss).take ((r6.getD 0 d0).ii).toNat).drop ((v5.getD 1 d0).ii).toNat), .i ((v5.getD 8 d0).ii), .i ((r6.getD 0 d0).ii), .i (0 : Int)]
 else
 (R 63 [.s ((((v5.getD 0 d0).ss).take ((r6.getD 0 d0).ii).toNat).drop ((v5.getD 1 d0).ii).toNat)]).bindR fun r8 =>
 if (!((r8.getD 0 d0).bb)) = true then
 .ret [.i (4 : Int), .s ((((v5.getD 0 d0).ss).take ((r6.getD 0 d0).ii).toNat).drop ((v5.getD 1 d0).ii).toNat), .i ((v5.getD 8 d0).ii), .i ((v5.getD 1 d0).ii), .i (4 : Int)]
 else
 .ret [.i (4 : Int), .s ((((v5.getD 0 d0).ss).take ((r6.getD 0 d0).ii).toNat).drop ((v5.getD 1 d0).ii).toNat), .i ((v5.getD 8 d0).ii), .i ((r6.getD 0 d0).ii), .i (0 : Int)]
 else
 .fail
 else
 if 0 ≤ (v5.getD 1 d0).ii ∧ (v5.getD 1 d0).ii < (((v5.getD 0 d0).ss).length : Int) then
 if (((((v5.getD 0 d0).ss).getD ((v5.getD 1 d0).ii).toNat 0).toNat : Int) == (34 : Int)) = true then
 (R 64 [.s ((v5.getD 0 d0).ss), .i ((v5.getD 1 d0).ii)]).bindR fun r9 =>
 Out.andThen (if (r9.getD 0 d0).bb = true then
 (R 65 [.s ((v5.getD 0 d0).ss), .i ((v5.getD 1 d0).ii)]).bindR fun r10 =>
 Out.andThen (if (decide ((r10.getD 0 d0).ii ≥ (0 : Int))) = true then
 if 0 ≤ (v5.getD 1 d0).ii ∧ (v5.getD 1 d0).ii ≤ (r10.getD 0 d0).ii ∧ (r10.getD 0 d0).ii ≤ (((v5.getD 0 d0).ss).length : Int) then
 (R 66 [.s ((((v5.getD 0 d0).ss).take ((r10.getD 0 d0).ii).toNat).drop ((v5.getD 1 d0).ii).toNat)]).bindR fun r11 =>
 .norm [.i ((v5.getD 1 d0).ii), .b ((r11.getD 1 d0).bb), .i ((r10.getD 0 d0).ii), .i ((v5.getD 3 d0).ii), .s ((v5.getD 4 d0).ss), .i ((v5.getD 5 d0).ii), .i (5 : Int), .s ((r11.getD 0 d0).ss), .i ((v5.getD 8 d0).ii)]
 else
 .fail
 else
 .norm [.i ((v5.getD 1 d0).ii), .b false, .i ((r10.getD 0 d0).ii), .i ((v5.getD 3 d0).ii), .s ((v5.getD 4 d0).ss), .i ((v5.getD 5 d0).ii), .i (5 : Int), .s ((v5.getD 7 d0).ss), .i ((v5.getD 8 d0).ii)]) fun v12 =>
 .norm [.i ((v12.getD 0 d0).ii), .b ((v12.getD 1 d0).bb), .i ((v12.getD 2 d0).ii), .i ((v12.getD 3 d0).ii), .s ((v12.getD 4 d0).ss), .i ((v12.getD 5 d0).ii), .i ((v12.getD 6 d0).ii), .s ((v12.getD 7 d0).ss), .i ((v12.getD 8 d0).ii)]
 else
 (R 67 [.s ((v5.getD 0 d0).ss), .i ((v5.getD 1 d0).ii)]).bindR fun r13 =>
 Out.andThen (if (decide ((r13.getD 0 d0).ii ≥ (0 : Int))) = true then
 if 0 ≤ (v5.getD 1 d0).ii ∧ (v5.getD 1 d0).ii ≤ (r13.getD 0 d0).ii ∧ (r13.getD 0 d0).ii ≤ (((v5.getD 0 d0).ss).length : Int) then
 (R 68 [.s ((((v5.getD 0 d0).ss).take ((r13.getD 0 d0).ii).toNat).drop ((v5.getD 1 d0).ii).toNat)]).bindR fun r14 =>
 .norm [.i ((v5.getD 1 d0).ii), .b ((r14.getD 1 d0).bb), .i ((r13.getD 0 d0).ii), .i ((v5.getD 3 d0).ii), .s ((v5.getD 4 d0).ss), .i ((v5.getD 5 d0).ii), .i (5 : Int), .s ((r14.getD 0 d0).ss), .i ((v5.getD 8 d0).ii)]
 else
 .fail
 else
 .norm [.i ((v5.getD 1 d0).ii), .b false, .i ((r13.getD 0 d0).ii), .i ((v5.getD 3 d0).ii), .s ((v5.getD 4 d0).ss), .i ((v5.getD 5 d0).ii), .i (5 : Int), .s ((v5.getD 7 d0).ss), .i ((v5.getD 8 d0).ii)]) fun v15 =>
 .norm [.i ((v15.getD 0 d0).ii), .b ((v15.getD 1 d0).bb), .i ((v15.getD 2 d0).ii), .i ((v15.getD 3 d0).ii), .s ((v15.getD 4 d0).ss), .i ((v15.getD 5 d0).ii), .i ((v15.getD 6 d0).ii), .s ((v15.getD 7 d0).ss), .i ((v15.getD 8 d0).ii)]) fun v16 =>
 if (!((v16.getD 1 d0).bb)) = true then
 .ret [.i ((v16.getD 6 d0).ii), .s ((v16.getD 7 d0).ss), .i ((v16.getD 8 d0).ii), .i ((v16.getD 0 d0).ii), .i (5 : Int)]
 else
 .ret [.i ((v16.getD 6 d0).ii), .s ((v16.getD 7 d0).ss), .i ((v16.getD 8 d0).ii), .i ((v16.getD 2 d0).ii), .i (0 : Int)]
 else
 .norm [.s ((v5.getD 0 d0).ss), .i ((v5.getD 1 d0).ii), .i ((v5.getD 3 d0).ii), .s ((v5.getD 4 d0).ss), .i ((v5.getD 5 d0).ii), .i ((v5.getD 6 d0).ii), .s ((v5.getD 7 d0).ss), .i ((v5.getD 8 d0).ii)]
 else
 .fail
 else
 .fail) 0 fun v17 =>
 Out.andThen (if (decide ((IntKind.i64.wrap ((v17.getD 1 d0).ii + (3 : Int))) ≤ (((v17.getD 0 d0).ss).length : Int))) = true then
 if 0 ≤ (v17.getD 1 d0).ii ∧ (v17.getD 1 d0).ii ≤ (IntKind.i64.wrap ((v17.getD 1 d0).ii + (3 : Int))) ∧ (IntKind.i64.wrap ((v17.getD 1 d0).ii + (3 : Int))) ≤ (((v17.getD 0 d0).ss).length : Int) then
 .norm [.s ((v17.getD 0 d0).ss), .i ((v17.getD 1 d0).ii), .i (IntKind.i64.wrap ((v17.getD 1 d0).ii + (1 : Int))), .b (((((v17.getD 0 d0).ss).take (IntKind.i64.wrap ((v17.getD 1 d0).ii + (3 : Int))).toNat).drop ((v17.getD 1 d0).ii).toNat) == ([46, 46, 46] : List UInt8)), .i ((v17.getD 2 d0).ii), .s ((v17.getD 3 d0).ss), .i ((v17.getD 4 d0).ii), .i ((v17.getD 5 d0).ii), .s ((v17.getD 6 d0).ss), .i ((v17.getD 7 d0).ii)]
 else
 .fail
 else
 .norm [.s ((v17.getD 0 d0).ss), .i ((v17.getD 1 d0).ii), .i (IntKind.i64.wrap ((v17.getD 1 d0).ii + (1 : Int))), .b false, .i ((v17.getD 2 d0).ii), .s ((v17.getD 3 d0).ss), .i ((v17.getD 4 d0).ii), .i ((v17.getD 5 d0).ii), .s ((v17.getD 6 d0).ss), .i ((v17.getD 7 d0).ii)]) fun v18 =>
 Out.andThen (if (v18.getD 3 d0).bb = true then
 .norm [.s ((v18.getD 0 d0).ss), .i ((v18.getD 1 d0).ii), .i (IntKind.i64.wrap ((v18.getD 1 d0).ii + (3 : Int))), .i ((v18.getD 4 d0).ii), .s ((v18.getD 5 d0).ss), .i ((v18.getD 6 d0).ii), .i ((v18.getD 7 d0).ii), .s ((v18.getD 8 d0).ss), .i ((v18.getD 9 d0).ii)]
 else
 .norm [.s ((v18.getD 0 d0).ss), .i ((v18.getD 1 d0).ii), .i ((v18.getD 2 d0).ii), .i ((v18.getD 4 d0).ii), .s ((v18.getD 5 d0).ss), .i ((v18.getD 6 d0).ii), .i ((v18.getD 7 d0).ii), .s ((v18.getD 8 d0).ss), .i ((v18.getD 9 d0).ii)]) fun v19 =>
 if 0 ≤ (v19.getD 1 d0).ii ∧ (v19.getD 1 d0).ii ≤ (v19.getD 2 d0).ii ∧ (v19.getD 2 d0).ii ≤ (((v19.getD 0 d0).ss).length : Int) then
 (R 69 [.s ((((v19.getD 0 d0).ss).take ((v19.getD 2 d0).ii).toNat).drop ((v19.getD 1 d0).ii).toNat)]).bindR fun r20 =>
 if (!((r20.getD 0 d0).bb)) = true then
 .ret [.i (1 : Int), .s ((((v19.getD 0 d0).ss).take ((v19.getD 2 d0).ii).toNat).drop ((v19.getD 1 d0).ii).toNat), .i ((v19.getD 8 d0).ii), .i ((v19.getD 1 d0).ii), .i (3 : Int)]
 else
 .ret [.i (1 : Int), .s ((((v19.getD 0 d0).ss).take ((v19.getD 2 d0).ii).toNat).drop ((v19.getD 1 d0).ii).toNat), .i ((v19.getD 8 d0).ii), .i ((v19.getD 2 d0).ii), .i (0 : Int)]
 else
 .fail
def C_spec_l06PassL1 (R : Nat → List DC → Out) (n : Nat) : List DC → Out := fun v4 =>
 Out.andThen (if (decide ((v4.getD 1 d0).ii < (((v4.getD 0 d0).ss).length : Int))) = true then
 if 0 ≤ (v4.getD 1 d0).ii ∧ (v4.getD 1 d0).ii < (((v4.getD 0 d0).ss).length : Int) then
 if (((((v4.getD 0 d0).ss).getD ((v4.getD 1 d0).ii).toNat 0).toNat : Int) != (10 : Int)) = true then
 if 0 ≤ (v4.getD 1 d0).ii ∧ (v4.getD 1 d0).ii < (((v4.getD 0 d0).ss).length : Int) then
 .norm [.s ((v4.getD 0 d0).ss), .i ((v4.getD 1 d0).ii), .b (((((v4.getD 0 d0).ss).getD ((v4.getD 1 d0).ii).toNat 0).toNat : Int) != (13 : Int))]
 else
 .fail
 else
 .norm [.s ((v4.getD 0 d0).ss), .i ((v4.getD 1 d0).ii), .b false]
 else
 .fail
 else
 .norm [.s ((v4.getD 0 d0).ss), .i ((v4.getD 1 d0).ii), .b false]) fun v5 =>
 if (v5.getD 2 d0).bb = true then
 Out.andThenB (.norm [.s ((v5.getD 0 d0).ss), .i (IntKind.i64.wrap ((v5.getD 1 d0).ii + (1 : Int)))]) 4 fun v6 =>
 .norm [.s ((v6.getD 0 d0).ss), .i ((v6.getD 1 d0).ii)]
 else
 .ex 3 [.s ((v5.getD 0 d0).ss), .i ((v5.getD 1 d0).ii)]
def C_spec_l06PassL2 (R : Nat → List DC → Out) (n : Nat) : List DC → Out := fun v1 =>
 if (decide ((v1.getD 1 d0).ii < (((v1.getD 0 d0).ss).length : Int))) = true then
 Out.andThenB (Out.andThenB (Out.andThen (if 0 ≤ (v1.getD 1 d0).ii ∧ (v1.getD 1 d0).ii < (((v1.getD 0 d0).ss).length : Int) then
 if (((((v1.getD 0 d0).ss).getD ((v1.getD 1 d0).ii).toNat 0).toNat : Int) == (32 : Int)) = true then
 .norm [.s ((v1.getD 0 d0).ss), .i ((v1.getD 1 d0).ii), .b true]
 else
 if 0 ≤ (v1.getD 1 d0).ii ∧ (v1.getD 1 d0).ii < (((v1.getD 0 d0).ss).length : Int) then
 if (((((v1.getD 0 d0).ss).getD ((v1.getD 1 d0).ii).toNat 0).toNat : Int) == (9 : Int)) = true then
 .norm [.s ((v1.getD 0 d0).ss), .i ((v1.getD 1 d0).ii), .b true]
 else
 if 0 ≤ (v1.getD 1 d0).ii ∧ (v1.getD 1 d0).ii < (((v1.getD 0 d0).ss).length : Int) then
 if (((((v1.getD 0 d0).ss).getD ((v1.getD 1 d0).ii).toNat 0).toNat : Int) == (10 : Int)) = true then
 .norm [.s ((v1.getD 0 d0).ss), .i ((v1.getD 1 d0).ii), .b true]
 else
 if 0 ≤ (v1.getD 1 d0).ii ∧ (v1.getD 1 d0).ii < (((v1.getD 0 d0).ss).length : Int) then
 if (((((v1.getD 0 d0).ss).getD ((v1.getD 1 d0).ii).toNat 0).toNat : Int) == (13 : Int)) = true then
 .norm [.s ((v1.getD 0 d0).ss), .i ((v1.getD 1 d0).ii), .b true]
 else
 if 0 ≤ (v1.getD 1 d0).ii ∧ (v1.getD 1 d0).ii < (((v1.getD 0 d0).ss).length : Int) then
 .norm [.s ((v1.getD 0 d0).ss), .i ((v1.getD 1 d0).ii), .b (((((v1.getD 0 d0).ss).getD ((v1.getD 1 d0).ii).toNat 0).toNat : Int) == (44 : Int))]
 else
 .fail
 else
 .fail
 else
 .fail
 else
 .fail
 else
 .fail) fun v2 =>
 Out.andThen (if (v2.getD 2 d0).bb = true then
 .norm [.s ((v2.getD 0 d0).ss), .i (IntKind.i64.wrap ((v2.getD 1 d0).ii + (1 : Int)))]
 else
 Out.andThen (if ((v2.getD 1 d0).ii == (0 : Int)) = true then
 if (decide ((((v2.getD 0 d0).ss).length : Int) ≥ (3 : Int))) = true then
 if 0 ≤ (3 : Int) ∧ (3 : Int) ≤ (((v2.getD 0 d0).ss).length : Int) then
 .norm [.s ((v2.getD 0 d0).ss), .i ((v2.getD 1 d0).ii), .b ((((v2.getD 0 d0).ss).take (3 : Int).toNat) == ([239, 187, 191] : List UInt8))]
 else
 .fail
 else
 .norm [.s ((v2.getD 0 d0).ss), .i ((v2.getD 1 d0).ii), .b false]
 else
 .norm [.s ((v2.getD 0 d0).ss), .i ((v2.getD 1 d0).ii), .b false]) fun v3 =>
 Out.andThen (if (v3.getD 2 d0).bb = true then
 .norm [.s ((v3.getD 0 d0).ss), .i (3 : Int)]
 else
 if 0 ≤ (v3.getD 1 d0).ii ∧ (v3.getD 1 d0).ii < (((v3.getD 0 d0).ss).length : Int) then
 if (((((v3.getD 0 d0).ss).getD ((v3.getD 1 d0).ii).toNat 0).toNat : Int) == (35 : Int)) = true then
 Out.andThenB (loopF (C_spec_l06PassL1 R n) n [.s ((v3.getD 0 d0).ss), .i ((v3.getD 1 d0).ii)]) 3 fun v7 =>
 .norm [.s ((v7.getD 0 d0).ss), .i ((v7.getD 1 d0).ii)]
 else
 .ret [.i ((v3.getD 1 d0).ii)]
 else
 .fail) fun v8 =>
 .norm [.s ((v8.getD 0 d0).ss), .i ((v8.getD 1 d0).ii)]) fun v9 =>
 .norm [.s ((v9.getD 0 d0).ss), .i ((v9.getD 1 d0).ii)]) 2 fun v10 =>
 .norm [.s ((v10.getD 0 d0).ss), .i ((v10.getD 1 d0).ii)]) 1 fun v11 =>
 .norm [.s ((v11.getD 0 d0).ss), .i ((v11.getD 1 d0).ii)]
 else
 .ex 0 [.i ((v1.getD 1 d0).ii)]
def C_spec_l06Pass (R : Nat → List DC → Out) (n : Nat) (a : List DC) : Out :=
 Out.andThenB (loopF (C_spec_l06PassL2 R n) n [.s ((a.getD 0 d0).ss), .i ((a.getD 1 d0).ii)]) 0 fun v12 =>
 .ret [.i ((v12.getD 0 d0).ii)]
def C_spec_RuneText (R : Nat → List DC → Out) (n : Nat) (a : List DC) : Out :=
 (R 70 [.i ((a.getD 0 d0).ii)]).bindR fun r1 =>
 if (!((r1.getD 0 d0).bb)) = true then
 .ret [.s ([] : List UInt8)]
 else
 Out.andThenB (if (decide ((a.getD 0 d0).ii < (128 : Int))) = true then
 .ret [.s (rowBytes [[DC.i (IntKind.u8.wrap ((a.getD 0 d0).ii))]])]
 else
 if (decide ((a.getD 0 d0).ii < (2048 : Int))) = true then
 if (64 : Int) = 0 then
 .fail
 else
 if (64 : Int) = 0 then
 .fail
 else
 .ret [.s (rowBytes [[DC.i (IntKind.u8.wrap (IntKind.i64.wrap ((192 : Int) + (IntKind.i64.wrap (((a.getD 0 d0).ii).tdiv (64 : Int))))))], [DC.i (IntKind.u8.wrap (IntKind.i64.wrap ((128 : Int) + (((a.getD 0 d0).ii).tmod (64 : Int)))))]])]
 else
 if (decide ((a.getD 0 d0).ii < (65536 : Int))) = true then
 if (4096 : Int) = 0 then
 .fail
 else
 if (64 : Int) = 0 then
 .fail
 else
 if (64 : Int) = 0 then
 .fail
 else
 if (64 : Int) = 0 then
 .fail
 else
 .ret [.s (rowBytes [[DC.i (IntKind.u8.wrap (IntKind.i64.wrap ((224 : Int) + (IntKind.i64.wrap (((a.getD 0 d0).ii).tdiv (4096 : Int))))))], [DC.i (IntKind.u8.wrap (IntKind.i64.wrap ((128 : Int) + ((IntKind.i64.wrap (((a.getD 0 d0).ii).tdiv (64 : Int))).tmod (64 : Int)))))], [DC.i (IntKind.u8.wrap (IntKind.i64.wrap ((128 : Int) + (((a.getD 0 d0).ii).tmod (64 : Int)))))]])]
 else
 .norm [.i ((a.getD 0 d0).ii)]) 0 fun v2 =>
 if (262144 : Int) = 0 then
 .fail
 else
 if (4096 : Int) = 0 then
 .fail
 else
 if (64 : Int) = 0 then
 .fail
 else
 if (64 : Int) = 0 then
 .fail
 else
 if (64 : Int) = 0 then
 .fail
 else
 if (64 : Int) = 0 then
 .fail
 else
 .ret [.s (rowBytes [[DC.i (IntKind.u8.wrap (IntKind.i64.wrap ((240 : Int) + (IntKind.i64.wrap (((v2.getD 0 d0).ii).tdiv (262144 : Int))))))], [DC.i (IntKind.u8.wrap (IntKind.i64.wrap ((128 : Int) + ((IntKind.i64.wrap (((v2.getD 0 d0).ii).tdiv (4096 : Int))).tmod (64 : Int)))))], [DC.i (IntKind.u8.wrap (IntKind.i64.wrap ((128 : Int) + ((IntKind.i64.wrap (((v2.getD 0 d0).ii).tdiv (64 : Int))).tmod (64 : Int)))))], [DC.i (IntKind.u8.wrap (IntKind.i64.wrap ((128 : Int) + (((v2.getD 0 d0).ii).tmod (64 : Int)))))]])]
def C_spec_BlockEndL1 (R : Nat → List DC → Out) (n : Nat) : List DC → Out := fun v3 =>
 if (decide ((v3.getD 1 d0).ii < (((v3.getD 0 d0).ss).length : Int))) = true then
 Out.andThenB (Out.andThen (if 0 ≤ (v3.getD 1 d0).ii ∧ (v3.getD 1 d0).ii < (((v3.getD 0 d0).ss).length : Int) then
 if (((((v3.getD 0 d0).ss).getD ((v3.getD 1 d0).ii).toNat 0).toNat : Int) == (92 : Int)) = true then
 (R 64 [.s ((v3.getD 0 d0).ss), .i (IntKind.i64.wrap ((v3.getD 1 d0).ii + (1 : Int)))]).bindR fun r4 =>
 .norm [.s ((v3.getD 0 d0).ss), .i ((v3.getD 1 d0).ii), .b ((r4.getD 0 d0).bb)]
 else
 .norm [.s ((v3.getD 0 d0).ss), .i ((v3.getD 1 d0).ii), .b false]
 else
 .fail) fun v5 =>
 if (v5.getD 2 d0).bb = true then
 .ex 1 [.s ((v5.getD 0 d0).ss), .i (IntKind.i64.wrap ((v5.getD 1 d0).ii + (3 : Int)))]
 else
 (R 64 [.s ((v5.getD 0 d0).ss), .i ((v5.getD 1 d0).ii)]).bindR fun r6 =>
 if (r6.getD 0 d0).bb = true then
 .ret [.i (IntKind.i64.wrap ((v5.getD 1 d0).ii + (3 : Int)))]
 else
 .norm [.s ((v5.getD 0 d0).ss), .i ((v5.getD 1 d0).ii)]) 1 fun v7 =>
 .norm [.s ((v7.getD 0 d0).ss), .i (IntKind.i64.wrap ((v7.getD 1 d0).ii + (1 : Int)))]
 else
 .ex 0 []
def C_spec_BlockEnd (R : Nat → List DC → Out) (n : Nat) (a : List DC) : Out :=
 Out.andThen (if (decide ((a.getD 1 d0).ii < (0 : Int))) = true then
 .norm [.s ((a.getD 0 d0).ss), .i ((a.getD 1 d0).ii), .b true]
 else
 if (decide ((a.getD 1 d0).ii ≥ (((a.getD 0 d0).ss).length : Int))) = true then
 .norm [.s ((a.getD 0 d0).ss), .i ((a.getD 1 d0).ii), .b true]
 else
 (R 64 [.s ((a.getD 0 d0).ss), .i ((a.getD 1 d0).ii)]).bindR fun r1 =>
 .norm [.s ((a.getD 0 d0).ss), .i ((a.getD 1 d0).ii), .b (!((r1.getD 0 d0).bb))]) fun v2 =>
 if (v2.getD 2 d0).bb = true then
 .ret [.i (-1 : Int)]
 else
 Out.andThenB (loopF (C_spec_BlockEndL1 R n) n [.s ((v2.getD 0 d0).ss), .i (IntKind.i64.wrap ((v2.getD 1 d0).ii + (3 : Int)))]) 0 fun v8 =>
 .ret [.i (-1 : Int)]
def C_spec_BlockTextL1 (R : Nat → List DC → Out) (n : Nat) : List DC → Out := fun v4 =>
 if (decide ((v4.getD 2 d0).ii < (IntKind.i64.wrap ((((v4.getD 0 d0).ss).length : Int) - (3 : Int))))) = true then
 Out.andThenB (Out.andThen (if 0 ≤ (v4.getD 2 d0).ii ∧ (v4.getD 2 d0).ii < (((v4.getD 0 d0).ss).length : Int) then
 if (decide (((((v4.getD 0 d0).ss).getD ((v4.getD 2 d0).ii).toNat 0).toNat : Int) < (32 : Int))) = true then
 if 0 ≤ (v4.getD 2 d0).ii ∧ (v4.getD 2 d0).ii < (((v4.getD 0 d0).ss).length : Int) then
 if (((((v4.getD 0 d0).ss).getD ((v4.getD 2 d0).ii).toNat 0).toNat : Int) != (9 : Int)) = true then
 if 0 ≤ (v4.getD 2 d0).ii ∧ (v4.getD 2 d0).ii < (((v4.getD 0 d0).ss).length : Int) then
 if (((((v4.getD 0 d0).ss).getD ((v4.getD 2 d0).ii).toNat 0).toNat : Int) != (10 : Int)) = true then
 if 0 ≤ (v4.getD 2 d0).ii ∧ (v4.getD 2 d0).ii < (((v4.getD 0 d0).ss).length : Int) then
 .norm [.s ((v4.getD 0 d0).ss), .sl ((v4.getD 1 d0).ll), .i ((v4.getD 2 d0).ii), .b (((((v4.getD 0 d0).ss).getD ((v4.getD 2 d0).ii).toNat 0).toNat : Int) != (13 : Int))]
 else
 .fail
 else
 .norm [.s ((v4.getD 0 d0).ss), .sl ((v4.getD 1 d0).ll), .i ((v4.getD 2 d0).ii), .b false]
 else
 .fail
 else
 .norm [.s ((v4.getD 0 d0).ss), .sl ((v4.getD 1 d0).ll), .i ((v4.getD 2 d0).ii), .b false]
 else
 .fail
 else
 .norm [.s ((v4.getD 0 d0).ss), .sl ((v4.getD 1 d0).ll), .i ((v4.getD 2 d0).ii), .b false]
 else
 .fail) fun v5 =>
 if (v5.getD 3 d0).bb = true then
 .ret [.s ([] : List UInt8), .b false]
 else
 Out.andThen (if 0 ≤ (v5.getD 2 d0).ii ∧ (v5.getD 2 d0).ii < (((v5.getD 0 d0).ss).length : Int) then
 if (((((v5.getD 0 d0).ss).getD ((v5.getD 2 d0).ii).toNat 0).toNat : Int) == (92 : Int)) = true then
 (R 64 [.s ((v5.getD 0 d0).ss), .i (IntKind.i64.wrap ((v5.getD 2 d0).ii + (1 : Int)))]).bindR fun r6 =>
 .norm [.s ((v5.getD 0 d0).ss), .sl ((v5.getD 1 d0).ll), .i ((v5.getD 2 d0).ii), .b ((r6.getD 0 d0).bb)]
 else
 .norm [.s ((v5.getD 0 d0).ss), .sl ((v5.getD 1 d0).ll), .i ((v5.getD 2 d0).ii), .b false]
 else
 .fail) fun v7 =>
 if (v7.getD 3 d0).bb = true then
 .ex 1 [.s ((v7.getD 0 d0).ss), .sl ((v7.getD 1 d0).ll), .i ((v7.getD 2 d0).ii)]
 else
 if 0 ≤ (v7.getD 2 d0).ii ∧ (v7.getD 2 d0).ii < (((v7.getD 0 d0).ss).length : Int) then
 if ((v7.getD 1 d0).ll).length + [[DC.i ((((v7.getD 0 d0).ss).getD ((v7.getD 2 d0).ii).toNat 0).toNat : Int)]].length < LIM then
 .norm [.s ((v7.getD 0 d0).ss), .sl (((v7.getD 1 d0).ll) ++ [[DC.i ((((v7.getD 0 d0).ss).getD ((v7.getD 2 d0).ii).toNat 0).toNat : Int)]]), .i ((v7.getD 2 d0).ii)]
 else
 .fail
 else
 .fail) 1 fun v8 =>
 .norm [.s ((v8.getD 0 d0).ss), .sl ((v8.getD 1 d0).ll), .i (IntKind.i64.wrap ((v8.getD 2 d0).ii + (1 : Int)))]
 else
 .ex 0 [.sl ((v4.getD 1 d0).ll)]
def C_spec_BlockText (R : Nat → List DC → Out) (n : Nat) (a : List DC) : Out :=
 Out.andThen (if (decide ((((a.getD 0 d0).ss).length : Int) > (1000 : Int))) = true then
 .norm [.s ((a.getD 0 d0).ss), .b true]
 else
 (R 65 [.s ((a.getD 0 d0).ss), .i (0 : Int)]).bindR fun r1 =>
 if ((r1.getD 0 d0).ii != (((a.getD 0 d0).ss).length : Int)) = true then
 .norm [.s ((a.getD 0 d0).ss), .b true]
 else
 (R 71 [.s ((a.getD 0 d0).ss)]).bindR fun r2 =>
 .norm [.s ((a.getD 0 d0).ss), .b (!((r2.getD 0 d0).bb))]) fun v3 =>
 if (v3.getD 1 d0).bb = true then
 .ret [.s ([] : List UInt8), .b false]
 else
 Out.andThenB (loopF (C_spec_BlockTextL1 R n) n [.s ((v3.getD 0 d0).ss), .sl [], .i (3 : Int)]) 0 fun v9 =>
 (R 72 [.s (rowBytes ((v9.getD 0 d0).ll))]).bindR fun r10 =>
 if (decide ((((r10.getD 0 d0).ss).length : Int) > (200 : Int))) = true then
 .ret [.s ([] : List UInt8), .b false]
 else
 .ret [.s ((r10.getD 0 d0).ss), .b true]
def C_spec_FloatOk (R : Nat → List DC → Out) (n : Nat) (a : List DC) : Out :=
 (R 73 [.s ((a.getD 0 d0).ss)]).bindR fun r1 =>
 Out.andThen (if (decide ((((a.getD 0 d0).ss).length : Int) > (40 : Int))) = true then
 .norm [.s ((a.getD 0 d0).ss), .i ((r1.getD 0 d0).ii), .b true]
 else
 if ((r1.getD 0 d0).ii == (0 : Int)) = true then
 .norm [.s ((a.getD 0 d0).ss), .i ((r1.getD 0 d0).ii), .b true]
 else
 .norm [.s ((a.getD 0 d0).ss), .i ((r1.getD 0 d0).ii), .b ((r1.getD 0 d0).ii == (((a.getD 0 d0).ss).length : Int))]) fun v2 =>
 if (v2.getD 2 d0).bb = true then
 .ret [.b false]
 else
 if 0 ≤ (v2.getD 1 d0).ii ∧ (v2.getD 1 d0).ii < (((v2.getD 0 d0).ss).length : Int) then
 Out.andThen (if (((((v2.getD 0 d0).ss).getD ((v2.getD 1 d0).ii).toNat 0).toNat : Int) == (46 : Int)) = true then
 (R 74 [.s ((v2.getD 0 d0).ss), .i (IntKind.i64.wrap ((v2.getD 1 d0).ii + (1 : Int)))]).bindR fun r3 =>
 if ((r3.getD 0 d0).ii == (IntKind.i64.wrap ((v2.getD 1 d0).ii + (1 : Int)))) = true then
 .ret [.b false]
 else
 .norm [.s ((v2.getD 0 d0).ss), .i ((r3.getD 0 d0).ii)]
 else
 .norm [.s ((v2.getD 0 d0).ss), .i ((v2.getD 1 d0).ii)]) fun v4 =>
 Out.andThen (if (decide ((v4.getD 1 d0).ii < (((v4.getD 0 d0).ss).length : Int))) = true then
 if 0 ≤ (v4.getD 1 d0).ii ∧ (v4.getD 1 d0).ii < (((v4.getD 0 d0).ss).length : Int) then
 if (((((v4.getD 0 d0).ss).getD ((v4.getD 1 d0).ii).toNat 0).toNat : Int) == (101 : Int)) = true then
 .norm [.s ((v4.getD 0 d0).ss), .i ((v4.getD 1 d0).ii), .b true]
 else
 if 0 ≤ (v4.getD 1 d0).ii ∧ (v4.getD 1 d0).ii < (((v4.getD 0 d0).ss).length : Int) then
 .norm [.s ((v4.getD 0 d0).ss), .i ((v4.getD 1 d0).ii), .b (((((v4.getD 0 d0).ss).getD ((v4.getD 1 d0).ii).toNat 0).toNat : Int) == (69 : Int))]
 else
 .fail
 else
 .fail
 else
 .norm [.s ((v4.getD 0 d0).ss), .i ((v4.getD 1 d0).ii), .b false]) fun v5 =>
 Out.andThen (if (v5.getD 2 d0).bb = true then
 Out.andThen (if (decide ((IntKind.i64.wrap ((v5.getD 1 d0).ii + (1 : Int))) < (((v5.getD 0 d0).ss).length : Int))) = true then
 if 0 ≤ (IntKind.i64.wrap ((v5.getD 1 d0).ii + (1 : Int))) ∧ (IntKind.i64.wrap ((v5.getD 1 d0).ii + (1 : Int))) < (((v5.getD 0 d0).ss).length : Int) then
 if (((((v5.getD 0 d0).ss).getD (IntKind.i64.wrap ((v5.getD 1 d0).ii + (1 : Int))).toNat 0).toNat : Int) == (43 : Int)) = true then
 .norm [.s ((v5.getD 0 d0).ss), .i (IntKind.i64.wrap ((v5.getD 1 d0).ii + (1 : Int))), .b true]
 else
 if 0 ≤ (IntKind.i64.wrap ((v5.getD 1 d0).ii + (1 : Int))) ∧ (IntKind.i64.wrap ((v5.getD 1 d0).ii + (1 : Int))) < (((v5.getD 0 d0).ss).length : Int) then
 .norm [.s ((v5.getD 0 d0).ss), .i (IntKind.i64.wrap ((v5.getD 1 d0).ii + (1 : Int))), .b (((((v5.getD 0 d0).ss).getD (IntKind.i64.wrap ((v5.getD 1 d0).ii + (1 : Int))).toNat 0).toNat : Int) == (45 : Int))]
 else
 .fail
 else
 .fail
 else
 .norm [.s ((v5.getD 0 d0).ss), .i (IntKind.i64.wrap ((v5.getD 1 d0).ii + (1 : Int))), .b false]) fun v6 =>
 Out.andThen (if (v6.getD 2 d0).bb = true then
 .norm [.s ((v6.getD 0 d0).ss), .i (IntKind.i64.wrap ((v6.getD 1 d0).ii + (1 : Int)))]
 else
 .norm [.s ((v6.getD 0 d0).ss), .i ((v6.getD 1 d0).ii)]) fun v7 =>
 (R 74 [.s ((v7.getD 0 d0).ss), .i ((v7.getD 1 d0).ii)]).bindR fun r8 =>
 if ((r8.getD 0 d0).ii == (v7.getD 1 d0).ii) = true then
 .ret [.b false]
 else
 .norm [.s ((v7.getD 0 d0).ss), .i ((r8.getD 0 d0).ii)]
 else
 .norm [.s ((v5.getD 0 d0).ss), .i ((v5.getD 1 d0).ii)]) fun v9 =>
 .ret [.b ((v9.getD 1 d0).ii == (((v9.getD 0 d0).ss).length : Int))]
 else
 .fail
def C_spec_IntOk (R : Nat → List DC → Out) (n : Nat) (a : List DC) : Out :=
 Out.andThen (if (decide ((((a.getD 0 d0).ss).length : Int) ≤ (40 : Int))) = true then
 if (decide ((((a.getD 0 d0).ss).length : Int) > (0 : Int))) = true then
 (R 73 [.s ((a.getD 0 d0).ss)]).bindR fun r1 =>
 .norm [.b ((r1.getD 0 d0).ii == (((a.getD 0 d0).ss).length : Int))]
 else
 .norm [.b false]
 else
 .norm [.b false]) fun v2 =>
 .ret [.b ((v2.getD 0 d0).bb)]
def C_spec_NameOkL1 (R : Nat → List DC → Out) (n : Nat) : List DC → Out := fun v3 =>
 if (decide ((v3.getD 1 d0).ii < (((v3.getD 0 d0).ss).length : Int))) = true then
 Out.andThenB (Out.andThen (if 0 ≤ (v3.getD 1 d0).ii ∧ (v3.getD 1 d0).ii < (((v3.getD 0 d0).ss).length : Int) then
 (R 57 [.i ((((v3.getD 0 d0).ss).getD ((v3.getD 1 d0).ii).toNat 0).toNat : Int)]).bindR fun r4 =>
 if (!((r4.getD 0 d0).bb)) = true then
 if 0 ≤ (v3.getD 1 d0).ii ∧ (v3.getD 1 d0).ii < (((v3.getD 0 d0).ss).length : Int) then
 (R 60 [.i ((((v3.getD 0 d0).ss).getD ((v3.getD 1 d0).ii).toNat 0).toNat : Int)]).bindR fun r5 =>
 .norm [.s ((v3.getD 0 d0).ss), .i ((v3.getD 1 d0).ii), .b (!((r5.getD 0 d0).bb))]
 else
 .fail
 else
 .norm [.s ((v3.getD 0 d0).ss), .i ((v3.getD 1 d0).ii), .b false]
 else
 .fail) fun v6 =>
 if (v6.getD 2 d0).bb = true then
 .ret [.b false]
 else
 .norm [.s ((v6.getD 0 d0).ss), .i ((v6.getD 1 d0).ii)]) 1 fun v7 =>
 .norm [.s ((v7.getD 0 d0).ss), .i (IntKind.i64.wrap ((v7.getD 1 d0).ii + (1 : Int)))]
 else
 .ex 0 []
def C_spec_NameOk (R : Nat → List DC → Out) (n : Nat) (a : List DC) : Out :=
 Out.andThen (if ((((a.getD 0 d0).ss).length : Int) == (0 : Int)) = true then
 .norm [.s ((a.getD 0 d0).ss), .b true]
 else
 if (decide ((((a.getD 0 d0).ss).length : Int) > (30 : Int))) = true then
 .norm [.s ((a.getD 0 d0).ss), .b true]
 else
 if 0 ≤ (0 : Int) ∧ (0 : Int) < (((a.getD 0 d0).ss).length : Int) then
 (R 60 [.i ((((a.getD 0 d0).ss).getD (0 : Int).toNat 0).toNat : Int)]).bindR fun r1 =>
 .norm [.s ((a.getD 0 d0).ss), .b ((r1.getD 0 d0).bb)]
 else
 .fail) fun v2 =>
 if (v2.getD 1 d0).bb = true then
 .ret [.b false]
 else
 Out.andThenB (loopF (C_spec_NameOkL1 R n) n [.s ((v2.getD 0 d0).ss), .i (0 : Int)]) 0 fun v8 =>
 .ret [.b true]
def C_spec_SignOk (R : Nat → List DC → Out) (n : Nat) (a : List DC) : Out :=
 Out.andThenB (Out.andThen (if ((a.getD 0 d0).ss == ([33] : List UInt8)) = true then
 .norm [.b ((a.getD 0 d0).ss == ([33] : List UInt8))]
 else
 Out.andThen (if ((a.getD 0 d0).ss == ([36] : List UInt8)) = true then
 .norm [.b ((a.getD 0 d0).ss == ([36] : List UInt8))]
 else
 Out.andThen (if ((a.getD 0 d0).ss == ([38] : List UInt8)) = true then
 .norm [.b ((a.getD 0 d0).ss == ([38] : List UInt8))]
 else
 Out.andThen (if ((a.getD 0 d0).ss == ([40] : List UInt8)) = true then
 .norm [.b ((a.getD 0 d0).ss == ([40] : List UInt8))]
 else
 Out.andThen (if ((a.getD 0 d0).ss == ([41] : List UInt8)) = true then
 .norm [.b ((a.getD 0 d0).ss == ([41] : List UInt8))]
 else
 Out.andThen (if ((a.getD 0 d0).ss == ([46, 46, 46] : List UInt8)) = true then
 .norm [.b ((a.getD 0 d0).ss == ([46, 46, 46] : List UInt8))]
 else
 Out.andThen (if ((a.getD 0 d0).ss == ([58] : List UInt8)) = true then
 .norm [.b ((a.getD 0 d0).ss == ([58] : List UInt8))]
 else
 Out.andThen (if ((a.getD 0 d0).ss == ([61] : List UInt8)) = true then
 .norm [.b ((a.getD 0 d0).ss == ([61] : List UInt8))]
 else
 Out.andThen (if ((a.getD 0 d0).ss == ([64] : List UInt8)) = true then
 .norm [.b ((a.getD 0 d0).ss == ([64] : List UInt8))]
 else
 Out.andThen (if ((a.getD 0 d0).ss == ([91] : List UInt8)) = true then
 .norm [.b ((a.getD 0 d0).ss == ([91] : List UInt8))]
 else
 Out.andThen (if ((a.getD 0 d0).ss == ([93] : List UInt8)) = true then
 .norm [.b ((a.getD 0 d0).ss == ([93] : List UInt8))]
 else
 Out.andThen (if ((a.getD 0 d0).ss == ([123] : List UInt8)) = true then
 .norm [.b ((a.getD 0 d0).ss == ([123] : List UInt8))]
 else
 Out.andThen (if ((a.getD 0 d0).ss == ([124] : List UInt8)) = true then
 .norm [.b ((a.getD 0 d0).ss == ([124] : List UInt8))]
 else
 .norm [.b ((a.getD 0 d0).ss == ([125] : List UInt8))]) fun v1 =>
 .norm [.b ((v1.getD 0 d0).bb)]) fun v2 =>
 .norm [.b ((v2.getD 0 d0).bb)]) fun v3 =>
 .norm [.b ((v3.getD 0 d0).bb)]) fun v4 =>
 .norm [.b ((v4.getD 0 d0).bb)]) fun v5 =>
 .norm [.b ((v5.getD 0 d0).bb)]) fun v6 =>
 .norm [.b ((v6.getD 0 d0).bb)]) fun v7 =>
 .norm [.b ((v7.getD 0 d0).bb)]) fun v8 =>
 .norm [.b ((v8.getD 0 d0).bb)]) fun v9 =>
 .norm [.b ((v9.getD 0 d0).bb)]) fun v10 =>
 .norm [.b ((v10.getD 0 d0).bb)]) fun v11 =>
 .norm [.b ((v11.getD 0 d0).bb)]) fun v12 =>
 .norm [.b ((v12.getD 0 d0).bb)]) fun v13 =>
 if (v13.getD 0 d0).bb = true then
 .ret [.b true]
 else
 .norm []) 0 fun v14 =>
 .ret [.b false]
def C_spec_StringEndL1 (R : Nat → List DC → Out) (n : Nat) : List DC → Out := fun v2 =>
 if (decide ((v2.getD 1 d0).ii < (((v2.getD 0 d0).ss).length : Int))) = true then
 Out.andThenB (if 0 ≤ (v2.getD 1 d0).ii ∧ (v2.getD 1 d0).ii < (((v2.getD 0 d0).ss).length : Int) then
 Out.andThenB (if (((((v2.getD 0 d0).ss).getD ((v2.getD 1 d0).ii).toNat 0).toNat : Int) == (34 : Int)) = true then
 .ret [.i (IntKind.i64.wrap ((v2.getD 1 d0).ii + (1 : Int)))]
 else
 Out.andThen (if (((((v2.getD 0 d0).ss).getD ((v2.getD 1 d0).ii).toNat 0).toNat : Int) == (10 : Int)) = true then
 .norm [.s ((v2.getD 0 d0).ss), .i ((v2.getD 1 d0).ii), .i ((((v2.getD 0 d0).ss).getD ((v2.getD 1 d0).ii).toNat 0).toNat : Int), .b (((((v2.getD 0 d0).ss).getD ((v2.getD 1 d0).ii).toNat 0).toNat : Int) == (10 : Int))]
 else
 .norm [.s ((v2.getD 0 d0).ss), .i ((v2.getD 1 d0).ii), .i ((((v2.getD 0 d0).ss).getD ((v2.getD 1 d0).ii).toNat 0).toNat : Int), .b (((((v2.getD 0 d0).ss).getD ((v2.getD 1 d0).ii).toNat 0).toNat : Int) == (13 : Int))]) fun v3 =>
 if (v3.getD 3 d0).bb = true then
 .ret [.i (-1 : Int)]
 else
 Out.andThen (if ((v3.getD 2 d0).ii == (92 : Int)) = true then
 Out.andThen (if (decide ((IntKind.i64.wrap ((v3.getD 1 d0).ii + (1 : Int))) < (((v3.getD 0 d0).ss).length : Int))) = true then
 if 0 ≤ (IntKind.i64.wrap ((v3.getD 1 d0).ii + (1 : Int))) ∧ (IntKind.i64.wrap ((v3.getD 1 d0).ii + (1 : Int))) < (((v3.getD 0 d0).ss).length : Int) then
 if (((((v3.getD 0 d0).ss).getD (IntKind.i64.wrap ((v3.getD 1 d0).ii + (1 : Int))).toNat 0).toNat : Int) == (10 : Int)) = true then
 .norm [.s ((v3.getD 0 d0).ss), .i (IntKind.i64.wrap ((v3.getD 1 d0).ii + (1 : Int))), .b true]
 else
 if 0 ≤ (IntKind.i64.wrap ((v3.getD 1 d0).ii + (1 : Int))) ∧ (IntKind.i64.wrap ((v3.getD 1 d0).ii + (1 : Int))) < (((v3.getD 0 d0).ss).length : Int) then
 .norm [.s ((v3.getD 0 d0).ss), .i (IntKind.i64.wrap ((v3.getD 1 d0).ii + (1 : Int))), .b (((((v3.getD 0 d0).ss).getD (IntKind.i64.wrap ((v3.getD 1 d0).ii + (1 : Int))).toNat 0).toNat : Int) == (13 : Int))]
 else
 .fail
 else
 .fail
 else
 .norm [.s ((v3.getD 0 d0).ss), .i (IntKind.i64.wrap ((v3.getD 1 d0).ii + (1 : Int))), .b false]) fun v4 =>
 if (v4.getD 2 d0).bb = true then
 .ret [.i (-1 : Int)]
 else
 .norm [.s ((v4.getD 0 d0).ss), .i ((v4.getD 1 d0).ii)]
 else
 .norm [.s ((v3.getD 0 d0).ss), .i ((v3.getD 1 d0).ii)]) fun v5 =>
 .norm [.s ((v5.getD 0 d0).ss), .i ((v5.getD 1 d0).ii)]) 2 fun v6 =>
 .norm [.s ((v6.getD 0 d0).ss), .i ((v6.getD 1 d0).ii)]
 else
 .fail) 1 fun v7 =>
 .norm [.s ((v7.getD 0 d0).ss), .i (IntKind.i64.wrap ((v7.getD 1 d0).ii + (1 : Int)))]
 else
 .ex 0 []
def C_spec_StringEnd (R : Nat → List DC → Out) (n : Nat) (a : List DC) : Out :=
 Out.andThen (if (decide ((a.getD 1 d0).ii < (0 : Int))) = true then
 .norm [.s ((a.getD 0 d0).ss), .i ((a.getD 1 d0).ii), .b true]
 else
 if (decide ((a.getD 1 d0).ii ≥ (((a.getD 0 d0).ss).length : Int))) = true then
 .norm [.s ((a.getD 0 d0).ss), .i ((a.getD 1 d0).ii), .b true]
 else
 if 0 ≤ (a.getD 1 d0).ii ∧ (a.getD 1 d0).ii < (((a.getD 0 d0).ss).length : Int) then
 .norm [.s ((a.getD 0 d0).ss), .i ((a.getD 1 d0).ii), .b (((((a.getD 0 d0).ss).getD ((a.getD 1 d0).ii).toNat 0).toNat : Int) != (34 : Int))]
 else
 .fail) fun v1 =>
 if (v1.getD 2 d0).bb = true then
 .ret [.i (-1 : Int)]
 else
 Out.andThenB (loopF (C_spec_StringEndL1 R n) n [.s ((v1.getD 0 d0).ss), .i (IntKind.i64.wrap ((v1.getD 1 d0).ii + (1 : Int)))]) 0 fun v8 =>
 .ret [.i (-1 : Int)]
def C_spec_UnescapedL1 (R : Nat → List DC → Out) (n : Nat) : List DC → Out := fun v2 =>
 if (decide ((v2.getD 2 d0).ii < (((v2.getD 0 d0).ss).length : Int))) = true then
 Out.andThenB (if 0 ≤ (v2.getD 2 d0).ii ∧ (v2.getD 2 d0).ii < (((v2.getD 0 d0).ss).length : Int) then
 Out.andThen (if (((((v2.getD 0 d0).ss).getD ((v2.getD 2 d0).ii).toNat 0).toNat : Int) == (92 : Int)) = true then
 (R 75 [.s ((v2.getD 0 d0).ss), .i ((v2.getD 2 d0).ii)]).bindR fun r3 =>
 .norm [.s ((v2.getD 0 d0).ss), .sl ((v2.getD 1 d0).ll), .i ((r3.getD 0 d0).ii), .i ((r3.getD 1 d0).ii)]
 else
 (R 53 [.s ((v2.getD 0 d0).ss), .i ((v2.getD 2 d0).ii)]).bindR fun r4 =>
 Out.andThen (if ((r4.getD 0 d0).ii == (34 : Int)) = true then
 .norm [.s ((v2.getD 0 d0).ss), .sl ((v2.getD 1 d0).ll), .i ((r4.getD 0 d0).ii), .i (IntKind.i64.wrap ((v2.getD 2 d0).ii + (r4.getD 1 d0).ii)), .b true]
 else
 if (decide ((r4.getD 0 d0).ii < (32 : Int))) = true then
 .norm [.s ((v2.getD 0 d0).ss), .sl ((v2.getD 1 d0).ll), .i ((r4.getD 0 d0).ii), .i (IntKind.i64.wrap ((v2.getD 2 d0).ii + (r4.getD 1 d0).ii)), .b ((r4.getD 0 d0).ii != (9 : Int))]
 else
 .norm [.s ((v2.getD 0 d0).ss), .sl ((v2.getD 1 d0).ll), .i ((r4.getD 0 d0).ii), .i (IntKind.i64.wrap ((v2.getD 2 d0).ii + (r4.getD 1 d0).ii)), .b false]) fun v5 =>
 Out.andThen (if (v5.getD 4 d0).bb = true then
 .norm [.s ((v5.getD 0 d0).ss), .sl ((v5.getD 1 d0).ll), .i (-1 : Int), .i ((v5.getD 3 d0).ii)]
 else
 .norm [.s ((v5.getD 0 d0).ss), .sl ((v5.getD 1 d0).ll), .i ((v5.getD 2 d0).ii), .i ((v5.getD 3 d0).ii)]) fun v6 =>
 .norm [.s ((v6.getD 0 d0).ss), .sl ((v6.getD 1 d0).ll), .i ((v6.getD 2 d0).ii), .i ((v6.getD 3 d0).ii)]) fun v7 =>
 if (decide ((v7.getD 2 d0).ii < (0 : Int))) = true then
 .ret [.s ([] : List UInt8), .b false]
 else
 (R 56 [.i ((v7.getD 2 d0).ii)]).bindR fun r8 =>
 if ((v7.getD 1 d0).ll).length + (bytesRow ((r8.getD 0 d0).ss)).length < LIM then
 .norm [.s ((v7.getD 0 d0).ss), .sl (((v7.getD 1 d0).ll) ++ (bytesRow ((r8.getD 0 d0).ss))), .i ((v7.getD 3 d0).ii)]
 else
 .fail
 else
 .fail) 1 fun v9 =>
 .norm [.s ((v9.getD 0 d0).ss), .sl ((v9.getD 1 d0).ll), .i ((v9.getD 2 d0).ii)]
 else
 .ex 0 [.sl ((v2.getD 1 d0).ll)]
def C_spec_Unescaped (R : Nat → List DC → Out) (n : Nat) (a : List DC) : Out :=
 Out.andThen (if (decide ((((a.getD 0 d0).ss).length : Int) < (2 : Int))) = true then
 .norm [.s ((a.getD 0 d0).ss), .b true]
 else
 if (decide ((((a.getD 0 d0).ss).length : Int) > (1300 : Int))) = true then
 .norm [.s ((a.getD 0 d0).ss), .b true]
 else
 if 0 ≤ (0 : Int) ∧ (0 : Int) < (((a.getD 0 d0).ss).length : Int) then
 if (((((a.getD 0 d0).ss).getD (0 : Int).toNat 0).toNat : Int) != (34 : Int)) = true then
 .norm [.s ((a.getD 0 d0).ss), .b true]
 else
 if 0 ≤ (IntKind.i64.wrap ((((a.getD 0 d0).ss).length : Int) - (1 : Int))) ∧ (IntKind.i64.wrap ((((a.getD 0 d0).ss).length : Int) - (1 : Int))) < (((a.getD 0 d0).ss).length : Int) then
 .norm [.s ((a.getD 0 d0).ss), .b (((((a.getD 0 d0).ss).getD (IntKind.i64.wrap ((((a.getD 0 d0).ss).length : Int) - (1 : Int))).toNat 0).toNat : Int) != (34 : Int))]
 else
 .fail
 else
 .fail) fun v1 =>
 if (v1.getD 1 d0).bb = true then
 .ret [.s ([] : List UInt8), .b false]
 else
 if 0 ≤ (1 : Int) ∧ (1 : Int) ≤ (IntKind.i64.wrap ((((v1.getD 0 d0).ss).length : Int) - (1 : Int))) ∧ (IntKind.i64.wrap ((((v1.getD 0 d0).ss).length : Int) - (1 : Int))) ≤ (((v1.getD 0 d0).ss).length : Int) then
 Out.andThenB (loopF (C_spec_UnescapedL1 R n) n [.s ((((v1.getD 0 d0).ss).take (IntKind.i64.wrap ((((v1.getD 0 d0).ss).length : Int) - (1 : Int))).toNat).drop (1 : Int).toNat), .sl [], .i (0 : Int)]) 0 fun v10 =>
 if (decide ((((v10.getD 0 d0).ll).length : Int) > (200 : Int))) = true then
 .ret [.s ([] : List UInt8), .b false]
 else
 .ret [.s (rowBytes ((v10.getD 0 d0).ll)), .b true]
 else
 .fail
def C_spec_l03Figure (R : Nat → List DC → Out) (n : Nat) (a : List DC) : Out :=
 Out.andThen (if (decide ((a.getD 0 d0).ii ≥ (48 : Int))) = true then
 .norm [.b (decide ((a.getD 0 d0).ii ≤ (57 : Int)))]
 else
 .norm [.b false]) fun v1 =>
 .ret [.b ((v1.getD 0 d0).bb)]
def C_spec_l03Letter (R : Nat → List DC → Out) (n : Nat) (a : List DC) : Out :=
 Out.andThen (if (decide ((a.getD 0 d0).ii ≥ (97 : Int))) = true then
 if (decide ((a.getD 0 d0).ii ≤ (122 : Int))) = true then
 .norm [.b true]
 else
 if (decide ((a.getD 0 d0).ii ≥ (65 : Int))) = true then
 if (decide ((a.getD 0 d0).ii ≤ (90 : Int))) = true then
 .norm [.b true]
 else
 .norm [.b ((a.getD 0 d0).ii == (95 : Int))]
 else
 .norm [.b ((a.getD 0 d0).ii == (95 : Int))]
 else
 if (decide ((a.getD 0 d0).ii ≥ (65 : Int))) = true then
 if (decide ((a.getD 0 d0).ii ≤ (90 : Int))) = true then
 .norm [.b true]
 else
 .norm [.b ((a.getD 0 d0).ii == (95 : Int))]
 else
 .norm [.b ((a.getD 0 d0).ii == (95 : Int))]) fun v1 =>
 .ret [.b ((v1.getD 0 d0).bb)]
def C_spec_l05Three (R : Nat → List DC → Out) (n : Nat) (a : List DC) : Out :=
 Out.andThen (if (decide ((IntKind.i64.wrap ((a.getD 1 d0).ii + (3 : Int))) ≤ (((a.getD 0 d0).ss).length : Int))) = true then
 if 0 ≤ (a.getD 1 d0).ii ∧ (a.getD 1 d0).ii ≤ (IntKind.i64.wrap ((a.getD 1 d0).ii + (3 : Int))) ∧ (IntKind.i64.wrap ((a.getD 1 d0).ii + (3 : Int))) ≤ (((a.getD 0 d0).ss).length : Int) then
 .norm [.b (((((a.getD 0 d0).ss).take (IntKind.i64.wrap ((a.getD 1 d0).ii + (3 : Int))).toNat).drop ((a.getD 1 d0).ii).toNat) == ([34, 34, 34] : List UInt8))]
 else
 .fail
 else
 .norm [.b false]) fun v1 =>
 .ret [.b ((v1.getD 0 d0).bb)]
def C_spec_l06NameL1 (R : Nat → List DC → Out) (n : Nat) : List DC → Out := fun v1 =>
 Out.andThen (if (decide ((v1.getD 1 d0).ii < (((v1.getD 0 d0).ss).length : Int))) = true then
 if 0 ≤ (v1.getD 1 d0).ii ∧ (v1.getD 1 d0).ii < (((v1.getD 0 d0).ss).length : Int) then
 (R 57 [.i ((((v1.getD 0 d0).ss).getD ((v1.getD 1 d0).ii).toNat 0).toNat : Int)]).bindR fun r2 =>
 if (r2.getD 0 d0).bb = true then
 .norm [.s ((v1.getD 0 d0).ss), .i ((v1.getD 1 d0).ii), .b true]
 else
 if 0 ≤ (v1.getD 1 d0).ii ∧ (v1.getD 1 d0).ii < (((v1.getD 0 d0).ss).length : Int) then
 (R 60 [.i ((((v1.getD 0 d0).ss).getD ((v1.getD 1 d0).ii).toNat 0).toNat : Int)]).bindR fun r3 =>
 .norm [.s ((v1.getD 0 d0).ss), .i ((v1.getD 1 d0).ii), .b ((r3.getD 0 d0).bb)]
 else
 .fail
 else
 .fail
 else
 .norm [.s ((v1.getD 0 d0).ss), .i ((v1.getD 1 d0).ii), .b false]) fun v4 =>
 if (v4.getD 2 d0).bb = true then
 Out.andThenB (.norm [.s ((v4.getD 0 d0).ss), .i (IntKind.i64.wrap ((v4.getD 1 d0).ii + (1 : Int)))]) 1 fun v5 =>
 .norm [.s ((v5.getD 0 d0).ss), .i ((v5.getD 1 d0).ii)]
 else
 .ex 0 [.i ((v4.getD 1 d0).ii)]
def C_spec_l06Name (R : Nat → List DC → Out) (n : Nat) (a : List DC) : Out :=
 Out.andThenB (loopF (C_spec_l06NameL1 R n) n [.s ((a.getD 0 d0).ss), .i ((a.getD 1 d0).ii)]) 0 fun v6 =>
 .ret [.i ((v6.getD 0 d0).ii)]
def C_spec_l06NumberL1 (R : Nat → List DC → Out) (n : Nat) : List DC → Out := fun v1 =>
 Out.andThen (if (decide ((v1.getD 1 d0).ii < (((v1.getD 0 d0).ss).length : Int))) = true then
 if 0 ≤ (v1.getD 1 d0).ii ∧ (v1.getD 1 d0).ii < (((v1.getD 0 d0).ss).length : Int) then
 (R 57 [.i ((((v1.getD 0 d0).ss).getD ((v1.getD 1 d0).ii).toNat 0).toNat : Int)]).bindR fun r2 =>
 if (r2.getD 0 d0).bb = true then
 .norm [.s ((v1.getD 0 d0).ss), .i ((v1.getD 1 d0).ii), .b true]
 else
 if 0 ≤ (v1.getD 1 d0).ii ∧ (v1.getD 1 d0).ii < (((v1.getD 0 d0).ss).length : Int) then
 (R 60 [.i ((((v1.getD 0 d0).ss).getD ((v1.getD 1 d0).ii).toNat 0).toNat : Int)]).bindR fun r3 =>
 if (r3.getD 0 d0).bb = true then
 .norm [.s ((v1.getD 0 d0).ss), .i ((v1.getD 1 d0).ii), .b true]
 else
 if 0 ≤ (v1.getD 1 d0).ii ∧ (v1.getD 1 d0).ii < (((v1.getD 0 d0).ss).length : Int) then
 if (((((v1.getD 0 d0).ss).getD ((v1.getD 1 d0).ii).toNat 0).toNat : Int) == (46 : Int)) = true then
 .norm [.s ((v1.getD 0 d0).ss), .i ((v1.getD 1 d0).ii), .b true]
 else
 if 0 ≤ (v1.getD 1 d0).ii ∧ (v1.getD 1 d0).ii < (((v1.getD 0 d0).ss).length : Int) then
 if (((((v1.getD 0 d0).ss).getD ((v1.getD 1 d0).ii).toNat 0).toNat : Int) == (43 : Int)) = true then
 if 0 ≤ (IntKind.i64.wrap ((v1.getD 1 d0).ii - (1 : Int))) ∧ (IntKind.i64.wrap ((v1.getD 1 d0).ii - (1 : Int))) < (((v1.getD 0 d0).ss).length : Int) then
 if (((((v1.getD 0 d0).ss).getD (IntKind.i64.wrap ((v1.getD 1 d0).ii - (1 : Int))).toNat 0).toNat : Int) == (101 : Int)) = true then
 .norm [.s ((v1.getD 0 d0).ss), .i ((v1.getD 1 d0).ii), .b true]
 else
 if 0 ≤ (IntKind.i64.wrap ((v1.getD 1 d0).ii - (1 : Int))) ∧ (IntKind.i64.wrap ((v1.getD 1 d0).ii - (1 : Int))) < (((v1.getD 0 d0).ss).length : Int) then
 .norm [.s ((v1.getD 0 d0).ss), .i ((v1.getD 1 d0).ii), .b (((((v1.getD 0 d0).ss).getD (IntKind.i64.wrap ((v1.getD 1 d0).ii - (1 : Int))).toNat 0).toNat : Int) == (69 : Int))]
 else
 .fail
 else
 .fail
 else
 if 0 ≤ (v1.getD 1 d0).ii ∧ (v1.getD 1 d0).ii < (((v1.getD 0 d0).ss).length : Int) then
 if (((((v1.getD 0 d0).ss).getD ((v1.getD 1 d0).ii).toNat 0).toNat : Int) == (45 : Int)) = true then
 if 0 ≤ (IntKind.i64.wrap ((v1.getD 1 d0).ii - (1 : Int))) ∧ (IntKind.i64.wrap ((v1.getD 1 d0).ii - (1 : Int))) < (((v1.getD 0 d0).ss).length : Int) then
 if (((((v1.getD 0 d0).ss).getD (IntKind.i64.wrap ((v1.getD 1 d0).ii - (1 : Int))).toNat 0).toNat : Int) == (101 : Int)) = true then
 .norm [.s ((v1.getD 0 d0).ss), .i ((v1.getD 1 d0).ii), .b true]
 else
 if 0 ≤ (IntKind.i64.wrap ((v1.getD 1 d0).ii - (1 : Int))) ∧ (IntKind.i64.wrap ((v1.getD 1 d0).ii - (1 : Int))) < (((v1.getD 0 d0).ss).length : Int) then
 .norm [.s ((v1.getD 0 d0).ss), .i ((v1.getD 1 d0).ii), .b (((((v1.getD 0 d0).ss).getD (IntKind.i64.wrap ((v1.getD 1 d0).ii - (1 : Int))).toNat 0).toNat : Int) == (69 : Int))]
 else
 .fail
 else
 .fail
 else
 .norm [.s ((v1.getD 0 d0).ss), .i ((v1.getD 1 d0).ii), .b false]
 else
 .fail
 else
 .fail
 else
 .fail
 else
 .fail
 else
 .fail
 else
 .norm [.s ((v1.getD 0 d0).ss), .i ((v1.getD 1 d0).ii), .b false]) fun v4 =>
 if (v4.getD 2 d0).bb = true then
 Out.andThenB (.norm [.s ((v4.getD 0 d0).ss), .i (IntKind.i64.wrap ((v4.getD 1 d0).ii + (1 : Int)))]) 1 fun v5 =>
 .norm [.s ((v5.getD 0 d0).ss), .i ((v5.getD 1 d0).ii)]
 else
 .ex 0 [.i ((v4.getD 1 d0).ii)]
def C_spec_l06Number (R : Nat → List DC → Out) (n : Nat) (a : List DC) : Out :=
 Out.andThenB (loopF (C_spec_l06NumberL1 R n) n [.s ((a.getD 0 d0).ss), .i (IntKind.i64.wrap ((a.getD 1 d0).ii + (1 : Int)))]) 0 fun v6 =>
 .ret [.i ((v6.getD 0 d0).ii)]
def C_spec_l02Scalar (R : Nat → List DC → Out) (n : Nat) (a : List DC) : Out :=
 Out.andThen ((R 76 [.i ((a.getD 0 d0).ii), .i (0 : Int), .i (1114111 : Int)]).bindR fun r1 =>
 if (r1.getD 0 d0).bb = true then
 (R 76 [.i ((a.getD 0 d0).ii), .i (55296 : Int), .i (57343 : Int)]).bindR fun r2 =>
 .norm [.b (!((r2.getD 0 d0).bb))]
 else
 .norm [.b false]) fun v3 =>
 .ret [.b ((v3.getD 0 d0).bb)]
def C_spec_BlockValueL1 (R : Nat → List DC → Out) (n : Nat) : List DC → Out := fun v2 =>
 if (decide ((v2.getD 2 d0).ii < (((v2.getD 0 d0).ll).length : Int))) = true then
 Out.andThenB (if 9 = 9 ∧ 0 ≤ (v2.getD 2 d0).ii ∧ (v2.getD 2 d0).ii < (((v2.getD 0 d0).ll).length : Int) then
 (R 78 [.s (((((v2.getD 0 d0).ll).getD ((v2.getD 2 d0).ii).toNat []).getD 0 d0).ss)]).bindR fun r3 =>
 Out.andThen (if 9 = 9 ∧ 0 ≤ (v2.getD 2 d0).ii ∧ (v2.getD 2 d0).ii < (((v2.getD 0 d0).ll).length : Int) then
 if (decide ((r3.getD 0 d0).ii < ((((((v2.getD 0 d0).ll).getD ((v2.getD 2 d0).ii).toNat []).getD 0 d0).ss).length : Int))) = true then
 if (decide ((v2.getD 1 d0).ii < (0 : Int))) = true then
 .norm [.sl ((v2.getD 0 d0).ll), .i ((v2.getD 1 d0).ii), .i ((v2.getD 2 d0).ii), .i ((r3.getD 0 d0).ii), .b true]
 else
 .norm [.sl ((v2.getD 0 d0).ll), .i ((v2.getD 1 d0).ii), .i ((v2.getD 2 d0).ii), .i ((r3.getD 0 d0).ii), .b (decide ((r3.getD 0 d0).ii < (v2.getD 1 d0).ii))]
 else
 .norm [.sl ((v2.getD 0 d0).ll), .i ((v2.getD 1 d0).ii), .i ((v2.getD 2 d0).ii), .i ((r3.getD 0 d0).ii), .b false]
 else
 .fail) fun v4 =>
 Out.andThen (if (v4.getD 4 d0).bb = true then
 .norm [.sl ((v4.getD 0 d0).ll), .i ((v4.getD 3 d0).ii), .i ((v4.getD 2 d0).ii)]
 else
 .norm [.sl ((v4.getD 0 d0).ll), .i ((v4.getD 1 d0).ii), .i ((v4.getD 2 d0).ii)]) fun v5 =>
 .norm [.sl ((v5.getD 0 d0).ll), .i ((v5.getD 1 d0).ii), .i ((v5.getD 2 d0).ii)]
 else
 .fail) 1 fun v6 =>
 .norm [.sl ((v6.getD 0 d0).ll), .i ((v6.getD 1 d0).ii), .i (IntKind.i64.wrap ((v6.getD 2 d0).ii + (1 : Int)))]
 else
 .ex 0 [.sl ((v2.getD 0 d0).ll), .i ((v2.getD 1 d0).ii)]
def C_spec_BlockValueL2 (R : Nat → List DC → Out) (n : Nat) : List DC → Out := fun v8 =>
 if (decide ((v8.getD 2 d0).ii < (((v8.getD 0 d0).ll).length : Int))) = true then
 Out.andThenB (if 9 = 9 ∧ 0 ≤ (v8.getD 2 d0).ii ∧ (v8.getD 2 d0).ii < (((v8.getD 0 d0).ll).length : Int) then
 (R 78 [.s (((((v8.getD 0 d0).ll).getD ((v8.getD 2 d0).ii).toNat []).getD 0 d0).ss)]).bindR fun r9 =>
 Out.andThen (if (decide ((v8.getD 1 d0).ii ≥ (0 : Int))) = true then
 .norm [.sl ((v8.getD 0 d0).ll), .i ((v8.getD 1 d0).ii), .i ((v8.getD 2 d0).ii), .i ((r9.getD 0 d0).ii), .b (decide ((r9.getD 0 d0).ii > (v8.getD 1 d0).ii))]
 else
 .norm [.sl ((v8.getD 0 d0).ll), .i ((v8.getD 1 d0).ii), .i ((v8.getD 2 d0).ii), .i ((r9.getD 0 d0).ii), .b false]) fun v10 =>
 Out.andThen (if (v10.getD 4 d0).bb = true then
 .norm [.sl ((v10.getD 0 d0).ll), .i ((v10.getD 1 d0).ii), .i ((v10.getD 2 d0).ii), .i ((v10.getD 1 d0).ii)]
 else
 .norm [.sl ((v10.getD 0 d0).ll), .i ((v10.getD 1 d0).ii), .i ((v10.getD 2 d0).ii), .i ((v10.getD 3 d0).ii)]) fun v11 =>
 Out.andThen (if (decide ((v11.getD 1 d0).ii < (0 : Int))) = true then
 .norm [.sl ((v11.getD 0 d0).ll), .i ((v11.getD 1 d0).ii), .i ((v11.getD 2 d0).ii), .i (0 : Int)]
 else
 .norm [.sl ((v11.getD 0 d0).ll), .i ((v11.getD 1 d0).ii), .i ((v11.getD 2 d0).ii), .i ((v11.getD 3 d0).ii)]) fun v12 =>
 if 9 = 9 ∧ 0 ≤ (v12.getD 2 d0).ii ∧ (v12.getD 2 d0).ii < (((v12.getD 0 d0).ll).length : Int) then
 if 0 ≤ (v12.getD 3 d0).ii ∧ (v12.getD 3 d0).ii ≤ ((((((v12.getD 0 d0).ll).getD ((v12.getD 2 d0).ii).toNat []).getD 0 d0).ss).length : Int) then
 if 9 = 9 ∧ 0 ≤ (v12.getD 2 d0).ii ∧ (v12.getD 2 d0).ii < (((v12.getD 0 d0).ll).length : Int) then
 .norm [.sl (((v12.getD 0 d0).ll).set (((v12.getD 2 d0).ii).toNat) (setRunD (((v12.getD 0 d0).ll).getD (((v12.getD 2 d0).ii).toNat) []) 0 [DC.s ((((((v12.getD 0 d0).ll).getD ((v12.getD 2 d0).ii).toNat []).getD 0 d0).ss).drop ((v12.getD 3 d0).ii).toNat)])), .i ((v12.getD 1 d0).ii), .i ((v12.getD 2 d0).ii)]
 else
 .fail
 else
 .fail
 else
 .fail
 else
 .fail) 3 fun v13 =>
 .norm [.sl ((v13.getD 0 d0).ll), .i ((v13.getD 1 d0).ii), .i (IntKind.i64.wrap ((v13.getD 2 d0).ii + (1 : Int)))]
 else
 .ex 2 [.sl ((v8.getD 0 d0).ll)]
def C_spec_BlockValueL3 (R : Nat → List DC → Out) (n : Nat) : List DC → Out := fun v15 =>
 Out.andThen (if (decide ((v15.getD 1 d0).ii < (((v15.getD 0 d0).ll).length : Int))) = true then
 if 9 = 9 ∧ 0 ≤ (v15.getD 1 d0).ii ∧ (v15.getD 1 d0).ii < (((v15.getD 0 d0).ll).length : Int) then
 (R 78 [.s (((((v15.getD 0 d0).ll).getD ((v15.getD 1 d0).ii).toNat []).getD 0 d0).ss)]).bindR fun r16 =>
 if 9 = 9 ∧ 0 ≤ (v15.getD 1 d0).ii ∧ (v15.getD 1 d0).ii < (((v15.getD 0 d0).ll).length : Int) then
 .norm [.sl ((v15.getD 0 d0).ll), .i ((v15.getD 1 d0).ii), .b ((r16.getD 0 d0).ii == ((((((v15.getD 0 d0).ll).getD ((v15.getD 1 d0).ii).toNat []).getD 0 d0).ss).length : Int))]
 else
 .fail
 else
 .fail
 else
 .norm [.sl ((v15.getD 0 d0).ll), .i ((v15.getD 1 d0).ii), .b false]) fun v17 =>
 if (v17.getD 2 d0).bb = true then
 Out.andThenB (.norm [.sl ((v17.getD 0 d0).ll), .i (IntKind.i64.wrap ((v17.getD 1 d0).ii + (1 : Int)))]) 5 fun v18 =>
 .norm [.sl ((v18.getD 0 d0).ll), .i ((v18.getD 1 d0).ii)]
 else
 .ex 4 [.sl ((v17.getD 0 d0).ll), .i ((v17.getD 1 d0).ii)]
def C_spec_BlockValueL4 (R : Nat → List DC → Out) (n : Nat) : List DC → Out := fun v20 =>
 Out.andThen (if (decide ((v20.getD 2 d0).ii > (v20.getD 1 d0).ii)) = true then
 if 9 = 9 ∧ 0 ≤ (IntKind.i64.wrap ((v20.getD 2 d0).ii - (1 : Int))) ∧ (IntKind.i64.wrap ((v20.getD 2 d0).ii - (1 : Int))) < (((v20.getD 0 d0).ll).length : Int) then
 (R 78 [.s (((((v20.getD 0 d0).ll).getD (IntKind.i64.wrap ((v20.getD 2 d0).ii - (1 : Int))).toNat []).getD 0 d0).ss)]).bindR fun r21 =>
 if 9 = 9 ∧ 0 ≤ (IntKind.i64.wrap ((v20.getD 2 d0).ii - (1 : Int))) ∧ (IntKind.i64.wrap ((v20.getD 2 d0).ii - (1 : Int))) < (((v20.getD 0 d0).ll).length : Int) then
 .norm [.sl ((v20.getD 0 d0).ll), .i ((v20.getD 1 d0).ii), .i ((v20.getD 2 d0).ii), .b ((r21.getD 0 d0).ii == ((((((v20.getD 0 d0).ll).getD (IntKind.i64.wrap ((v20.getD 2 d0).ii - (1 : Int))).toNat []).getD 0 d0).ss).length : Int))]
 else
 .fail
 else
 .fail
 else
 .norm [.sl ((v20.getD 0 d0).ll), .i ((v20.getD 1 d0).ii), .i ((v20.getD 2 d0).ii), .b false]) fun v22 =>
 if (v22.getD 3 d0).bb = true then
 Out.andThenB (.norm [.sl ((v22.getD 0 d0).ll), .i ((v22.getD 1 d0).ii), .i (IntKind.i64.wrap ((v22.getD 2 d0).ii - (1 : Int)))]) 7 fun v23 =>
 .norm [.sl ((v23.getD 0 d0).ll), .i ((v23.getD 1 d0).ii), .i ((v23.getD 2 d0).ii)]
 else
 .ex 6 [.sl ((v22.getD 0 d0).ll), .i ((v22.getD 1 d0).ii), .i ((v22.getD 2 d0).ii)]
def C_spec_BlockValueL5 (R : Nat → List DC → Out) (n : Nat) : List DC → Out := fun v25 =>
 if (decide ((v25.getD 4 d0).ii < (v25.getD 2 d0).ii)) = true then
 Out.andThenB (Out.andThen (if (decide ((v25.getD 4 d0).ii > (v25.getD 1 d0).ii)) = true then
 if ((v25.getD 3 d0).ll).length + [[DC.i (10 : Int)]].length < LIM then
 .norm [.sl ((v25.getD 0 d0).ll), .i ((v25.getD 1 d0).ii), .i ((v25.getD 2 d0).ii), .sl (((v25.getD 3 d0).ll) ++ [[DC.i (10 : Int)]]), .i ((v25.getD 4 d0).ii)]
 else
 .fail
 else
 .norm [.sl ((v25.getD 0 d0).ll), .i ((v25.getD 1 d0).ii), .i ((v25.getD 2 d0).ii), .sl ((v25.getD 3 d0).ll), .i ((v25.getD 4 d0).ii)]) fun v26 =>
 if 9 = 9 ∧ 0 ≤ (v26.getD 4 d0).ii ∧ (v26.getD 4 d0).ii < (((v26.getD 0 d0).ll).length : Int) then
 if ((v26.getD 3 d0).ll).length + (bytesRow (((((v26.getD 0 d0).ll).getD ((v26.getD 4 d0).ii).toNat []).getD 0 d0).ss)).length < LIM then
 .norm [.sl ((v26.getD 0 d0).ll), .i ((v26.getD 1 d0).ii), .i ((v26.getD 2 d0).ii), .sl (((v26.getD 3 d0).ll) ++ (bytesRow (((((v26.getD 0 d0).ll).getD ((v26.getD 4 d0).ii).toNat []).getD 0 d0).ss))), .i ((v26.getD 4 d0).ii)]
 else
 .fail
 else
 .fail) 9 fun v27 =>
 .norm [.sl ((v27.getD 0 d0).ll), .i ((v27.getD 1 d0).ii), .i ((v27.getD 2 d0).ii), .sl ((v27.getD 3 d0).ll), .i (IntKind.i64.wrap ((v27.getD 4 d0).ii + (1 : Int)))]
 else
 .ex 8 [.sl ((v25.getD 3 d0).ll)]
def C_spec_BlockValue (R : Nat → List DC → Out) (n : Nat) (a : List DC) : Out :=
 (R 77 [.s ((a.getD 0 d0).ss)]).bindR fun r1 =>
 Out.andThenB (loopF (C_spec_BlockValueL1 R n) n [.sl ((r1.getD 0 d0).ll), .i (-1 : Int), .i (1 : Int)]) 0 fun v7 =>
 Out.andThenB (loopF (C_spec_BlockValueL2 R n) n [.sl ((v7.getD 0 d0).ll), .i ((v7.getD 1 d0).ii), .i (1 : Int)]) 2 fun v14 =>
 Out.andThenB (loopF (C_spec_BlockValueL3 R n) n [.sl ((v14.getD 0 d0).ll), .i (0 : Int)]) 4 fun v19 =>
 Out.andThenB (loopF (C_spec_BlockValueL4 R n) n [.sl ((v19.getD 0 d0).ll), .i ((v19.getD 1 d0).ii), .i (((v19.getD 0 d0).ll).length : Int)]) 6 fun v24 =>
 Out.andThenB (loopF (C_spec_BlockValueL5 R n) n [.sl ((v24.getD 0 d0).ll), .i ((v24.getD 1 d0).ii), .i ((v24.getD 2 d0).ii), .sl [], .i ((v24.getD 1 d0).ii)]) 8 fun v28 =>
 .ret [.s (rowBytes ((v28.getD 0 d0).ll))]
def C_spec_TextOkL1 (R : Nat → List DC → Out) (n : Nat) : List DC → Out := fun v1 =>
 if (decide ((v1.getD 1 d0).ii < (((v1.getD 0 d0).ss).length : Int))) = true then
 Out.andThenB ((R 53 [.s ((v1.getD 0 d0).ss), .i ((v1.getD 1 d0).ii)]).bindR fun r2 =>
 if (decide ((r2.getD 0 d0).ii < (0 : Int))) = true then
 .ret [.b false]
 else
 .norm [.s ((v1.getD 0 d0).ss), .i (IntKind.i64.wrap ((v1.getD 1 d0).ii + (r2.getD 1 d0).ii))]) 1 fun v3 =>
 .norm [.s ((v3.getD 0 d0).ss), .i ((v3.getD 1 d0).ii)]
 else
 .ex 0 []
def C_spec_TextOk (R : Nat → List DC → Out) (n : Nat) (a : List DC) : Out :=
 Out.andThenB (loopF (C_spec_TextOkL1 R n) n [.s ((a.getD 0 d0).ss), .i (0 : Int)]) 0 fun v4 =>
 .ret [.b true]
def C_spec_l03Int (R : Nat → List DC → Out) (n : Nat) (a : List DC) : Out :=
 Out.andThen (if (decide ((((a.getD 0 d0).ss).length : Int) > (0 : Int))) = true then
 if 0 ≤ (0 : Int) ∧ (0 : Int) < (((a.getD 0 d0).ss).length : Int) then
 .norm [.s ((a.getD 0 d0).ss), .i (0 : Int), .b (((((a.getD 0 d0).ss).getD (0 : Int).toNat 0).toNat : Int) == (45 : Int))]
 else
 .fail
 else
 .norm [.s ((a.getD 0 d0).ss), .i (0 : Int), .b false]) fun v1 =>
 Out.andThen (if (v1.getD 2 d0).bb = true then
 .norm [.s ((v1.getD 0 d0).ss), .i (1 : Int)]
 else
 .norm [.s ((v1.getD 0 d0).ss), .i ((v1.getD 1 d0).ii)]) fun v2 =>
 (R 74 [.s ((v2.getD 0 d0).ss), .i ((v2.getD 1 d0).ii)]).bindR fun r3 =>
 Out.andThen (if ((r3.getD 0 d0).ii == (v2.getD 1 d0).ii) = true then
 .norm [.i ((r3.getD 0 d0).ii), .b true]
 else
 if 0 ≤ (v2.getD 1 d0).ii ∧ (v2.getD 1 d0).ii < (((v2.getD 0 d0).ss).length : Int) then
 if (((((v2.getD 0 d0).ss).getD ((v2.getD 1 d0).ii).toNat 0).toNat : Int) == (48 : Int)) = true then
 .norm [.i ((r3.getD 0 d0).ii), .b (decide ((r3.getD 0 d0).ii > (IntKind.i64.wrap ((v2.getD 1 d0).ii + (1 : Int)))))]
 else
 .norm [.i ((r3.getD 0 d0).ii), .b false]
 else
 .fail) fun v4 =>
 if (v4.getD 1 d0).bb = true then
 .ret [.i (0 : Int)]
 else
 .ret [.i ((v4.getD 0 d0).ii)]
def C_spec_l03RunL1 (R : Nat → List DC → Out) (n : Nat) : List DC → Out := fun v1 =>
 Out.andThen (if (decide ((v1.getD 1 d0).ii < (((v1.getD 0 d0).ss).length : Int))) = true then
 if 0 ≤ (v1.getD 1 d0).ii ∧ (v1.getD 1 d0).ii < (((v1.getD 0 d0).ss).length : Int) then
 (R 60 [.i ((((v1.getD 0 d0).ss).getD ((v1.getD 1 d0).ii).toNat 0).toNat : Int)]).bindR fun r2 =>
 .norm [.s ((v1.getD 0 d0).ss), .i ((v1.getD 1 d0).ii), .b ((r2.getD 0 d0).bb)]
 else
 .fail
 else
 .norm [.s ((v1.getD 0 d0).ss), .i ((v1.getD 1 d0).ii), .b false]) fun v3 =>
 if (v3.getD 2 d0).bb = true then
 Out.andThenB (.norm [.s ((v3.getD 0 d0).ss), .i (IntKind.i64.wrap ((v3.getD 1 d0).ii + (1 : Int)))]) 1 fun v4 =>
 .norm [.s ((v4.getD 0 d0).ss), .i ((v4.getD 1 d0).ii)]
 else
 .ex 0 [.i ((v3.getD 1 d0).ii)]
def C_spec_l03Run (R : Nat → List DC → Out) (n : Nat) (a : List DC) : Out :=
 Out.andThenB (loopF (C_spec_l03RunL1 R n) n [.s ((a.getD 0 d0).ss), .i ((a.getD 1 d0).ii)]) 0 fun v5 =>
 .ret [.i ((v5.getD 0 d0).ii)]
def C_spec_l04RuneL1 (R : Nat → List DC → Out) (n : Nat) : List DC → Out := fun v5 =>
 Out.andThen (if (decide ((v5.getD 2 d0).ii < (((v5.getD 0 d0).ss).length : Int))) = true then
 if (decide ((v5.getD 2 d0).ii < (IntKind.i64.wrap ((v5.getD 1 d0).ii + (10 : Int))))) = true then
 if 0 ≤ (v5.getD 2 d0).ii ∧ (v5.getD 2 d0).ii < (((v5.getD 0 d0).ss).length : Int) then
 (R 79 [.i ((((v5.getD 0 d0).ss).getD ((v5.getD 2 d0).ii).toNat 0).toNat : Int)]).bindR fun r6 =>
 .norm [.s ((v5.getD 0 d0).ss), .i ((v5.getD 1 d0).ii), .i ((v5.getD 2 d0).ii), .b (decide ((r6.getD 0 d0).ii ≥ (0 : Int)))]
 else
 .fail
 else
 .norm [.s ((v5.getD 0 d0).ss), .i ((v5.getD 1 d0).ii), .i ((v5.getD 2 d0).ii), .b false]
 else
 .norm [.s ((v5.getD 0 d0).ss), .i ((v5.getD 1 d0).ii), .i ((v5.getD 2 d0).ii), .b false]) fun v7 =>
 if (v7.getD 3 d0).bb = true then
 Out.andThenB (.norm [.s ((v7.getD 0 d0).ss), .i ((v7.getD 1 d0).ii), .i (IntKind.i64.wrap ((v7.getD 2 d0).ii + (1 : Int)))]) 2 fun v8 =>
 .norm [.s ((v8.getD 0 d0).ss), .i ((v8.getD 1 d0).ii), .i ((v8.getD 2 d0).ii)]
 else
 .ex 1 [.s ((v7.getD 0 d0).ss), .i ((v7.getD 1 d0).ii), .i ((v7.getD 2 d0).ii)]
def C_spec_l04Rune (R : Nat → List DC → Out) (n : Nat) (a : List DC) : Out :=
 if (decide ((IntKind.i64.wrap ((a.getD 1 d0).ii + (1 : Int))) ≥ (((a.getD 0 d0).ss).length : Int))) = true then
 .ret [.i (-1 : Int), .i ((a.getD 1 d0).ii)]
 else
 if 0 ≤ (IntKind.i64.wrap ((a.getD 1 d0).ii + (1 : Int))) ∧ (IntKind.i64.wrap ((a.getD 1 d0).ii + (1 : Int))) < (((a.getD 0 d0).ss).length : Int) then
 Out.andThenB (Out.andThen (if (((((a.getD 0 d0).ss).getD (IntKind.i64.wrap ((a.getD 1 d0).ii + (1 : Int))).toNat 0).toNat : Int) == (34 : Int)) = true then
 .norm [.s ((a.getD 0 d0).ss), .i ((a.getD 1 d0).ii), .i ((((a.getD 0 d0).ss).getD (IntKind.i64.wrap ((a.getD 1 d0).ii + (1 : Int))).toNat 0).toNat : Int), .b (((((a.getD 0 d0).ss).getD (IntKind.i64.wrap ((a.getD 1 d0).ii + (1 : Int))).toNat 0).toNat : Int) == (34 : Int))]
 else
 Out.andThen (if (((((a.getD 0 d0).ss).getD (IntKind.i64.wrap ((a.getD 1 d0).ii + (1 : Int))).toNat 0).toNat : Int) == (92 : Int)) = true then
 .norm [.s ((a.getD 0 d0).ss), .i ((a.getD 1 d0).ii), .i ((((a.getD 0 d0).ss).getD (IntKind.i64.wrap ((a.getD 1 d0).ii + (1 : Int))).toNat 0).toNat : Int), .b (((((a.getD 0 d0).ss).getD (IntKind.i64.wrap ((a.getD 1 d0).ii + (1 : Int))).toNat 0).toNat : Int) == (92 : Int))]
 else
 .norm [.s ((a.getD 0 d0).ss), .i ((a.getD 1 d0).ii), .i ((((a.getD 0 d0).ss).getD (IntKind.i64.wrap ((a.getD 1 d0).ii + (1 : Int))).toNat 0).toNat : Int), .b (((((a.getD 0 d0).ss).getD (IntKind.i64.wrap ((a.getD 1 d0).ii + (1 : Int))).toNat 0).toNat : Int) == (47 : Int))]) fun v1 =>
 .norm [.s ((v1.getD 0 d0).ss), .i ((v1.getD 1 d0).ii), .i ((v1.getD 2 d0).ii), .b ((v1.getD 3 d0).bb)]) fun v2 =>
 if (v2.getD 3 d0).bb = true then
 if 0 ≤ (IntKind.i64.wrap ((v2.getD 1 d0).ii + (1 : Int))) ∧ (IntKind.i64.wrap ((v2.getD 1 d0).ii + (1 : Int))) < (((v2.getD 0 d0).ss).length : Int) then
 .ret [.i (IntKind.i64.wrap ((((v2.getD 0 d0).ss).getD (IntKind.i64.wrap ((v2.getD 1 d0).ii + (1 : Int))).toNat 0).toNat : Int)), .i (IntKind.i64.wrap ((v2.getD 1 d0).ii + (2 : Int)))]
 else
 .fail
 else
 if ((v2.getD 2 d0).ii == (98 : Int)) = true then
 .ret [.i (8 : Int), .i (IntKind.i64.wrap ((v2.getD 1 d0).ii + (2 : Int)))]
 else
 if ((v2.getD 2 d0).ii == (116 : Int)) = true then
 .ret [.i (9 : Int), .i (IntKind.i64.wrap ((v2.getD 1 d0).ii + (2 : Int)))]
 else
 if ((v2.getD 2 d0).ii == (110 : Int)) = true then
 .ret [.i (10 : Int), .i (IntKind.i64.wrap ((v2.getD 1 d0).ii + (2 : Int)))]
 else
 if ((v2.getD 2 d0).ii == (102 : Int)) = true then
 .ret [.i (12 : Int), .i (IntKind.i64.wrap ((v2.getD 1 d0).ii + (2 : Int)))]
 else
 if ((v2.getD 2 d0).ii == (114 : Int)) = true then
 .ret [.i (13 : Int), .i (IntKind.i64.wrap ((v2.getD 1 d0).ii + (2 : Int)))]
 else
 if ((v2.getD 2 d0).ii == (117 : Int)) = true then
 .norm [.s ((v2.getD 0 d0).ss), .i ((v2.getD 1 d0).ii)]
 else
 .ret [.i (-1 : Int), .i ((v2.getD 1 d0).ii)]) 0 fun v3 =>
 Out.andThen (if (decide ((IntKind.i64.wrap ((v3.getD 1 d0).ii + (2 : Int))) < (((v3.getD 0 d0).ss).length : Int))) = true then
 if 0 ≤ (IntKind.i64.wrap ((v3.getD 1 d0).ii + (2 : Int))) ∧ (IntKind.i64.wrap ((v3.getD 1 d0).ii + (2 : Int))) < (((v3.getD 0 d0).ss).length : Int) then
 .norm [.s ((v3.getD 0 d0).ss), .i ((v3.getD 1 d0).ii), .b (((((v3.getD 0 d0).ss).getD (IntKind.i64.wrap ((v3.getD 1 d0).ii + (2 : Int))).toNat 0).toNat : Int) == (123 : Int))]
 else
 .fail
 else
 .norm [.s ((v3.getD 0 d0).ss), .i ((v3.getD 1 d0).ii), .b false]) fun v4 =>
 if (v4.getD 2 d0).bb = true then
 Out.andThenB (loopF (C_spec_l04RuneL1 R n) n [.s ((v4.getD 0 d0).ss), .i ((v4.getD 1 d0).ii), .i (IntKind.i64.wrap ((v4.getD 1 d0).ii + (3 : Int)))]) 1 fun v9 =>
 (R 80 [.s ((v9.getD 0 d0).ss), .i (IntKind.i64.wrap ((v9.getD 1 d0).ii + (3 : Int))), .i ((v9.getD 2 d0).ii)]).bindR fun r10 =>
 Out.andThen (if ((v9.getD 2 d0).ii == (IntKind.i64.wrap ((v9.getD 1 d0).ii + (3 : Int)))) = true then
 .norm [.i ((v9.getD 1 d0).ii), .i ((v9.getD 2 d0).ii), .i ((r10.getD 0 d0).ii), .b true]
 else
 if (decide ((v9.getD 2 d0).ii > (IntKind.i64.wrap ((v9.getD 1 d0).ii + (9 : Int))))) = true then
 .norm [.i ((v9.getD 1 d0).ii), .i ((v9.getD 2 d0).ii), .i ((r10.getD 0 d0).ii), .b true]
 else
 if (decide ((v9.getD 2 d0).ii ≥ (((v9.getD 0 d0).ss).length : Int))) = true then
 .norm [.i ((v9.getD 1 d0).ii), .i ((v9.getD 2 d0).ii), .i ((r10.getD 0 d0).ii), .b true]
 else
 if 0 ≤ (v9.getD 2 d0).ii ∧ (v9.getD 2 d0).ii < (((v9.getD 0 d0).ss).length : Int) then
 if (((((v9.getD 0 d0).ss).getD ((v9.getD 2 d0).ii).toNat 0).toNat : Int) != (125 : Int)) = true then
 .norm [.i ((v9.getD 1 d0).ii), .i ((v9.getD 2 d0).ii), .i ((r10.getD 0 d0).ii), .b true]
 else
 (R 70 [.i ((r10.getD 0 d0).ii)]).bindR fun r11 =>
 .norm [.i ((v9.getD 1 d0).ii), .i ((v9.getD 2 d0).ii), .i ((r10.getD 0 d0).ii), .b (!((r11.getD 0 d0).bb))]
 else
 .fail) fun v12 =>
 if (v12.getD 3 d0).bb = true then
 .ret [.i (-1 : Int), .i ((v12.getD 0 d0).ii)]
 else
 .ret [.i ((v12.getD 2 d0).ii), .i (IntKind.i64.wrap ((v12.getD 1 d0).ii + (1 : Int)))]
 else
 (R 80 [.s ((v4.getD 0 d0).ss), .i (IntKind.i64.wrap ((v4.getD 1 d0).ii + (2 : Int))), .i (IntKind.i64.wrap ((v4.getD 1 d0).ii + (6 : Int)))]).bindR fun r13 =>
 if (decide ((r13.getD 0 d0).ii < (0 : Int))) = true then
 .ret [.i (-1 : Int), .i ((v4.getD 1 d0).ii)]
 else
 Out.andThen ((R 76 [.i ((r13.getD 0 d0).ii), .i (55296 : Int), .i (56319 : Int)]).bindR fun r14 =>
 if (r14.getD 0 d0).bb = true then
 if (decide ((IntKind.i64.wrap ((v4.getD 1 d0).ii + (7 : Int))) < (((v4.getD 0 d0).ss).length : Int))) = true then
 if 0 ≤ (IntKind.i64.wrap ((v4.getD 1 d0).ii + (6 : Int))) ∧ (IntKind.i64.wrap ((v4.getD 1 d0).ii + (6 : Int))) < (((v4.getD 0 d0).ss).length : Int) then
 if (((((v4.getD 0 d0).ss).getD (IntKind.i64.wrap ((v4.getD 1 d0).ii + (6 : Int))).toNat 0).toNat : Int) == (92 : Int)) = true then
 if 0 ≤ (IntKind.i64.wrap ((v4.getD 1 d0).ii + (7 : Int))) ∧ (IntKind.i64.wrap ((v4.getD 1 d0).ii + (7 : Int))) < (((v4.getD 0 d0).ss).length : Int) then
 .norm [.s ((v4.getD 0 d0).ss), .i ((v4.getD 1 d0).ii), .i ((r13.getD 0 d0).ii), .b (((((v4.getD 0 d0).ss).getD (IntKind.i64.wrap ((v4.getD 1 d0).ii + (7 : Int))).toNat 0).toNat : Int) == (117 : Int))]
 else
 .fail
 else
 .norm [.s ((v4.getD 0 d0).ss), .i ((v4.getD 1 d0).ii), .i ((r13.getD 0 d0).ii), .b false]
 else
 .fail
 else
 .norm [.s ((v4.getD 0 d0).ss), .i ((v4.getD 1 d0).ii), .i ((r13.getD 0 d0).ii), .b false]
 else
 .norm [.s ((v4.getD 0 d0).ss), .i ((v4.getD 1 d0).ii), .i ((r13.getD 0 d0).ii), .b false]) fun v15 =>
 if (v15.getD 3 d0).bb = true then
 (R 80 [.s ((v15.getD 0 d0).ss), .i (IntKind.i64.wrap ((v15.getD 1 d0).ii + (8 : Int))), .i (IntKind.i64.wrap ((v15.getD 1 d0).ii + (12 : Int)))]).bindR fun r16 =>
 (R 76 [.i ((r16.getD 0 d0).ii), .i (56320 : Int), .i (57343 : Int)]).bindR fun r17 =>
 if (!((r17.getD 0 d0).bb)) = true then
 .ret [.i (-1 : Int), .i ((v15.getD 1 d0).ii)]
 else
 .ret [.i (IntKind.i64.wrap ((IntKind.i64.wrap ((IntKind.i64.wrap ((65536 : Int) + (IntKind.i64.wrap ((1024 : Int) * (IntKind.i64.wrap ((v15.getD 2 d0).ii - (55296 : Int))))))) + (r16.getD 0 d0).ii)) - (56320 : Int))), .i (IntKind.i64.wrap ((v15.getD 1 d0).ii + (12 : Int)))]
 else
 (R 70 [.i ((v15.getD 2 d0).ii)]).bindR fun r18 =>
 if (!((r18.getD 0 d0).bb)) = true then
 .ret [.i (-1 : Int), .i ((v15.getD 1 d0).ii)]
 else
 .ret [.i ((v15.getD 2 d0).ii), .i (IntKind.i64.wrap ((v15.getD 1 d0).ii + (6 : Int)))]
 else
 .fail
def C_spec_l01In (R : Nat → List DC → Out) (n : Nat) (a : List DC) : Out :=
 Out.andThen (if (decide ((a.getD 0 d0).ii ≥ (a.getD 1 d0).ii)) = true then
 .norm [.b (decide ((a.getD 0 d0).ii ≤ (a.getD 2 d0).ii))]
 else
 .norm [.b false]) fun v1 =>
 .ret [.b ((v1.getD 0 d0).bb)]
def C_spec_IndentL1 (R : Nat → List DC → Out) (n : Nat) : List DC → Out := fun v1 =>
 Out.andThen (if (decide ((v1.getD 1 d0).ii < (((v1.getD 0 d0).ss).length : Int))) = true then
 if 0 ≤ (v1.getD 1 d0).ii ∧ (v1.getD 1 d0).ii < (((v1.getD 0 d0).ss).length : Int) then
 if (((((v1.getD 0 d0).ss).getD ((v1.getD 1 d0).ii).toNat 0).toNat : Int) == (32 : Int)) = true then
 .norm [.s ((v1.getD 0 d0).ss), .i ((v1.getD 1 d0).ii), .b true]
 else
 if 0 ≤ (v1.getD 1 d0).ii ∧ (v1.getD 1 d0).ii < (((v1.getD 0 d0).ss).length : Int) then
 .norm [.s ((v1.getD 0 d0).ss), .i ((v1.getD 1 d0).ii), .b (((((v1.getD 0 d0).ss).getD ((v1.getD 1 d0).ii).toNat 0).toNat : Int) == (9 : Int))]
 else
 .fail
 else
 .fail
 else
 .norm [.s ((v1.getD 0 d0).ss), .i ((v1.getD 1 d0).ii), .b false]) fun v2 =>
 if (v2.getD 2 d0).bb = true then
 Out.andThenB (.norm [.s ((v2.getD 0 d0).ss), .i (IntKind.i64.wrap ((v2.getD 1 d0).ii + (1 : Int)))]) 1 fun v3 =>
 .norm [.s ((v3.getD 0 d0).ss), .i ((v3.getD 1 d0).ii)]
 else
 .ex 0 [.i ((v2.getD 1 d0).ii)]
def C_spec_Indent (R : Nat → List DC → Out) (n : Nat) (a : List DC) : Out :=
 Out.andThenB (loopF (C_spec_IndentL1 R n) n [.s ((a.getD 0 d0).ss), .i (0 : Int)]) 0 fun v4 =>
 .ret [.i ((v4.getD 0 d0).ii)]
def C_spec_LinesInL1 (R : Nat → List DC → Out) (n : Nat) : List DC → Out := fun v1 =>
 if (decide ((v1.getD 3 d0).ii < (((v1.getD 0 d0).ss).length : Int))) = true then
 Out.andThenB (Out.andThen (if 0 ≤ (v1.getD 3 d0).ii ∧ (v1.getD 3 d0).ii < (((v1.getD 0 d0).ss).length : Int) then
 if (((((v1.getD 0 d0).ss).getD ((v1.getD 3 d0).ii).toNat 0).toNat : Int) == (13 : Int)) = true then
 .norm [.s ((v1.getD 0 d0).ss), .sl ((v1.getD 1 d0).ll), .i ((v1.getD 2 d0).ii), .i ((v1.getD 3 d0).ii), .b true]
 else
 if 0 ≤ (v1.getD 3 d0).ii ∧ (v1.getD 3 d0).ii < (((v1.getD 0 d0).ss).length : Int) then
 .norm [.s ((v1.getD 0 d0).ss), .sl ((v1.getD 1 d0).ll), .i ((v1.getD 2 d0).ii), .i ((v1.getD 3 d0).ii), .b (((((v1.getD 0 d0).ss).getD ((v1.getD 3 d0).ii).toNat 0).toNat : Int) == (10 : Int))]
 else
 .fail
 else
 .fail) fun v2 =>
 Out.andThen (if (v2.getD 4 d0).bb = true then
 if 0 ≤ (v2.getD 2 d0).ii ∧ (v2.getD 2 d0).ii ≤ (v2.getD 3 d0).ii ∧ (v2.getD 3 d0).ii ≤ (((v2.getD 0 d0).ss).length : Int) then
 if ((v2.getD 1 d0).ll).length + [[DC.s ((((v2.getD 0 d0).ss).take ((v2.getD 3 d0).ii).toNat).drop ((v2.getD 2 d0).ii).toNat)]].length < LIM then
 Out.andThen (if 0 ≤ (v2.getD 3 d0).ii ∧ (v2.getD 3 d0).ii < (((v2.getD 0 d0).ss).length : Int) then
 if (((((v2.getD 0 d0).ss).getD ((v2.getD 3 d0).ii).toNat 0).toNat : Int) == (13 : Int)) = true then
 if (decide ((IntKind.i64.wrap ((v2.getD 3 d0).ii + (1 : Int))) < (((v2.getD 0 d0).ss).length : Int))) = true then
 if 0 ≤ (IntKind.i64.wrap ((v2.getD 3 d0).ii + (1 : Int))) ∧ (IntKind.i64.wrap ((v2.getD 3 d0).ii + (1 : Int))) < (((v2.getD 0 d0).ss).length : Int) then
 .norm [.s ((v2.getD 0 d0).ss), .sl (((v2.getD 1 d0).ll) ++ [[DC.s ((((v2.getD 0 d0).ss).take ((v2.getD 3 d0).ii).toNat).drop ((v2.getD 2 d0).ii).toNat)]]), .i ((v2.getD 3 d0).ii), .b (((((v2.getD 0 d0).ss).getD (IntKind.i64.wrap ((v2.getD 3 d0).ii + (1 : Int))).toNat 0).toNat : Int) == (10 : Int))]
 else
 .fail
 else
 .norm [.s ((v2.getD 0 d0).ss), .sl (((v2.getD 1 d0).ll) ++ [[DC.s ((((v2.getD 0 d0).ss).take ((v2.getD 3 d0).ii).toNat).drop ((v2.getD 2 d0).ii).toNat)]]), .i ((v2.getD 3 d0).ii), .b false]
 else
 .norm [.s ((v2.getD 0 d0).ss), .sl (((v2.getD 1 d0).ll) ++ [[DC.s ((((v2.getD 0 d0).ss).take ((v2.getD 3 d0).ii).toNat).drop ((v2.getD 2 d0).ii).toNat)]]), .i ((v2.getD 3 d0).ii), .b false]
 else
 .fail) fun v3 =>
 Out.andThen (if (v3.getD 3 d0).bb = true then
 .norm [.s ((v3.getD 0 d0).ss), .sl ((v3.getD 1 d0).ll), .i (IntKind.i64.wrap ((v3.getD 2 d0).ii + (1 : Int)))]
 else
 .norm [.s ((v3.getD 0 d0).ss), .sl ((v3.getD 1 d0).ll), .i ((v3.getD 2 d0).ii)]) fun v4 =>
 .norm [.s ((v4.getD 0 d0).ss), .sl ((v4.getD 1 d0).ll), .i (IntKind.i64.wrap ((v4.getD 2 d0).ii + (1 : Int))), .i ((v4.getD 2 d0).ii)]
 else
 .fail
 else
 .fail
 else
 .norm [.s ((v2.getD 0 d0).ss), .sl ((v2.getD 1 d0).ll), .i ((v2.getD 2 d0).ii), .i ((v2.getD 3 d0).ii)]) fun v5 =>
 .norm [.s ((v5.getD 0 d0).ss), .sl ((v5.getD 1 d0).ll), .i ((v5.getD 2 d0).ii), .i ((v5.getD 3 d0).ii)]) 1 fun v6 =>
 .norm [.s ((v6.getD 0 d0).ss), .sl ((v6.getD 1 d0).ll), .i ((v6.getD 2 d0).ii), .i (IntKind.i64.wrap ((v6.getD 3 d0).ii + (1 : Int)))]
 else
 .ex 0 [.s ((v1.getD 0 d0).ss), .sl ((v1.getD 1 d0).ll), .i ((v1.getD 2 d0).ii)]
def C_spec_LinesIn (R : Nat → List DC → Out) (n : Nat) (a : List DC) : Out :=
 Out.andThenB (loopF (C_spec_LinesInL1 R n) n [.s ((a.getD 0 d0).ss), .sl [], .i (0 : Int), .i (0 : Int)]) 0 fun v7 =>
 if 0 ≤ (v7.getD 2 d0).ii ∧ (v7.getD 2 d0).ii ≤ (((v7.getD 0 d0).ss).length : Int) then
 if ((v7.getD 1 d0).ll).length + [[DC.s (((v7.getD 0 d0).ss).drop ((v7.getD 2 d0).ii).toNat)]].length < LIM then
 .ret [.sl (((v7.getD 1 d0).ll) ++ [[DC.s (((v7.getD 0 d0).ss).drop ((v7.getD 2 d0).ii).toNat)]])]
 else
 .fail
 else
 .fail
def C_spec_l04Digit (R : Nat → List DC → Out) (n : Nat) (a : List DC) : Out :=
 Out.andThenB (Out.andThen (if (decide ((a.getD 0 d0).ii ≥ (48 : Int))) = true then
 .norm [.i ((a.getD 0 d0).ii), .b (decide ((a.getD 0 d0).ii ≤ (57 : Int)))]
 else
 .norm [.i ((a.getD 0 d0).ii), .b false]) fun v1 =>
 if (v1.getD 1 d0).bb = true then
 .ret [.i (IntKind.i64.wrap ((IntKind.i64.wrap ((v1.getD 0 d0).ii)) - (48 : Int)))]
 else
 Out.andThen (if (decide ((v1.getD 0 d0).ii ≥ (97 : Int))) = true then
 .norm [.i ((v1.getD 0 d0).ii), .b (decide ((v1.getD 0 d0).ii ≤ (102 : Int)))]
 else
 .norm [.i ((v1.getD 0 d0).ii), .b false]) fun v2 =>
 if (v2.getD 1 d0).bb = true then
 .ret [.i (IntKind.i64.wrap ((IntKind.i64.wrap ((v2.getD 0 d0).ii)) - (87 : Int)))]
 else
 Out.andThen (if (decide ((v2.getD 0 d0).ii ≥ (65 : Int))) = true then
 .norm [.i ((v2.getD 0 d0).ii), .b (decide ((v2.getD 0 d0).ii ≤ (70 : Int)))]
 else
 .norm [.i ((v2.getD 0 d0).ii), .b false]) fun v3 =>
 if (v3.getD 1 d0).bb = true then
 .ret [.i (IntKind.i64.wrap ((IntKind.i64.wrap ((v3.getD 0 d0).ii)) - (55 : Int)))]
 else
 .norm []) 0 fun v4 =>
 .ret [.i (-1 : Int)]
def C_spec_l04NumL1 (R : Nat → List DC → Out) (n : Nat) : List DC → Out := fun v1 =>
 if (decide ((v1.getD 3 d0).ii < (v1.getD 1 d0).ii)) = true then
 Out.andThenB (Out.andThen (if (decide ((v1.getD 3 d0).ii ≥ (((v1.getD 0 d0).ss).length : Int))) = true then
 .norm [.s ((v1.getD 0 d0).ss), .i ((v1.getD 1 d0).ii), .i ((v1.getD 2 d0).ii), .i ((v1.getD 3 d0).ii), .b true]
 else
 if 0 ≤ (v1.getD 3 d0).ii ∧ (v1.getD 3 d0).ii < (((v1.getD 0 d0).ss).length : Int) then
 (R 79 [.i ((((v1.getD 0 d0).ss).getD ((v1.getD 3 d0).ii).toNat 0).toNat : Int)]).bindR fun r2 =>
 .norm [.s ((v1.getD 0 d0).ss), .i ((v1.getD 1 d0).ii), .i ((v1.getD 2 d0).ii), .i ((v1.getD 3 d0).ii), .b (decide ((r2.getD 0 d0).ii < (0 : Int)))]
 else
 .fail) fun v3 =>
 if (v3.getD 4 d0).bb = true then
 .ret [.i (-1 : Int)]
 else
 if 0 ≤ (v3.getD 3 d0).ii ∧ (v3.getD 3 d0).ii < (((v3.getD 0 d0).ss).length : Int) then
 (R 79 [.i ((((v3.getD 0 d0).ss).getD ((v3.getD 3 d0).ii).toNat 0).toNat : Int)]).bindR fun r4 =>
 .norm [.s ((v3.getD 0 d0).ss), .i ((v3.getD 1 d0).ii), .i (IntKind.i64.wrap ((IntKind.i64.wrap ((v3.getD 2 d0).ii * (16 : Int))) + (r4.getD 0 d0).ii)), .i ((v3.getD 3 d0).ii)]
 else
 .fail) 1 fun v5 =>
 .norm [.s ((v5.getD 0 d0).ss), .i ((v5.getD 1 d0).ii), .i ((v5.getD 2 d0).ii), .i (IntKind.i64.wrap ((v5.getD 3 d0).ii + (1 : Int)))]
 else
 .ex 0 [.i ((v1.getD 2 d0).ii)]
def C_spec_l04Num (R : Nat → List DC → Out) (n : Nat) (a : List DC) : Out :=
 Out.andThenB (loopF (C_spec_l04NumL1 R n) n [.s ((a.getD 0 d0).ss), .i ((a.getD 2 d0).ii), .i (0 : Int), .i ((a.getD 1 d0).ii)]) 0 fun v6 =>
 .ret [.i ((v6.getD 0 d0).ii)]
def evLb : List (Nat × Nat × Hint × Stp) := [(52, 83, ⟨os :: [], []⟩, C_spec_TokensOf), (53, 106, ⟨os :: oi :: [], []⟩, C_spec_RuneAt), (55, 108, ⟨os :: oi :: [], []⟩, C_spec_l06One), (54, 107, ⟨os :: oi :: [], []⟩, C_spec_l06Pass), (56, 74, ⟨oi :: [], []⟩, C_spec_RuneText), (65, 142, ⟨os :: oi :: [], []⟩, C_spec_BlockEnd), (66, 143, ⟨os :: [], []⟩, C_spec_BlockText), (63, 140, ⟨os :: [], []⟩, C_spec_FloatOk), (62, 67, ⟨os :: [], []⟩, C_spec_IntOk), (59, 138, ⟨os :: [], []⟩, C_spec_NameOk), (69, 146, ⟨os :: [], []⟩, C_spec_SignOk), (67, 144, ⟨os :: oi :: [], []⟩, C_spec_StringEnd), (68, 145, ⟨os :: [], []⟩, C_spec_Unescaped), (60, 133, ⟨.one (.i .u8) :: [], []⟩, C_spec_l03Figure), (57, 136, ⟨.one (.i .u8) :: [], []⟩, C_spec_l03Letter), (64, 141, ⟨os :: oi :: [], []⟩, C_spec_l05Three), (58, 137, ⟨os :: oi :: [], []⟩, C_spec_l06Name), (61, 139, ⟨os :: oi :: [], []⟩, C_spec_l06Number), (70, 93, ⟨oi :: [], []⟩, C_spec_l02Scalar), (72, 160, ⟨os :: [], []⟩, C_spec_BlockValue), (71, 159, ⟨os :: [], []⟩, C_spec_TextOk), (73, 81, ⟨os :: [], []⟩, C_spec_l03Int), (74, 101, ⟨os :: oi :: [], []⟩, C_spec_l03Run), (75, 161, ⟨os :: oi :: [], []⟩, C_spec_l04Rune), (76, 125, ⟨oi :: oi :: oi :: [], []⟩, C_spec_l01In), (78, 165, ⟨os :: [], []⟩, C_spec_Indent), (77, 164, ⟨os :: [], []⟩, C_spec_LinesIn), (79, 166, ⟨.one (.i .u8) :: [], []⟩, C_spec_l04Digit), (80, 167, ⟨os :: oi :: oi :: [], []⟩, C_spec_l04Num)]
def rb_spec_l08New (v : List DC) : Out := C_spec_l08New (evG evLb 5000) 5000 v
def C_spec_DrawLibrary (R : Nat → List DC → Out) (n : Nat) (a : List DC) : Out :=
 (R 0 []).bindR fun r1 =>
 .ret [.sl ((r1.getD 0 d0).ll), .sl ((r1.getD 1 d0).ll), .sl ((r1.getD 2 d0).ll)]
def C_spec_l17Schema (R : Nat → List DC → Out) (n : Nat) (a : List DC) : Out :=
 (R 1 []).bindR fun r1 =>
 (R 2 [.sl ((r1.getD 0 d0).ll)]).bindR fun r2 =>
 .ret [.sl ((r2.getD 0 d0).ll), .sl ((r2.getD 1 d0).ll), .sl ((r2.getD 2 d0).ll)]
def C_spec_SchemaOfL1 (R : Nat → List DC → Out) (n : Nat) : List DC → Out := fun v20 =>
 if 45 = 45 ∧ 0 ≤ (v20.getD 1 d0).ii ∧ (v20.getD 1 d0).ii < (((v20.getD 0 d0).ll).length : Int) then
 if (decide ((v20.getD 3 d0).ii < ((((((v20.getD 0 d0).ll).getD ((v20.getD 1 d0).ii).toNat []).getD 8 d0).ll).length : Int))) = true then
 Out.andThenB (if 45 = 45 ∧ 0 ≤ (v20.getD 1 d0).ii ∧ (v20.getD 1 d0).ii < (((v20.getD 0 d0).ll).length : Int) then
 if 88 = 88 ∧ 0 ≤ (v20.getD 3 d0).ii ∧ (v20.getD 3 d0).ii < ((((((v20.getD 0 d0).ll).getD ((v20.getD 1 d0).ii).toNat []).getD 8 d0).ll).length : Int) then
 Out.andThen (if ((((((((v20.getD 0 d0).ll).getD ((v20.getD 1 d0).ii).toNat []).getD 8 d0).ll).getD ((v20.getD 3 d0).ii).toNat []).getD 0 d0).ii == (v20.getD 2 d0).ii) = true then
 if 45 = 45 ∧ 0 ≤ (v20.getD 1 d0).ii ∧ (v20.getD 1 d0).ii < (((v20.getD 0 d0).ll).length : Int) then
 if 88 = 88 ∧ 0 ≤ (v20.getD 3 d0).ii ∧ (v20.getD 3 d0).ii < ((((((v20.getD 0 d0).ll).getD ((v20.getD 1 d0).ii).toNat []).getD 8 d0).ll).length : Int) then
 if ((v20.getD 6 d0).ll).length + [[DC.i ((((((((v20.getD 0 d0).ll).getD ((v20.getD 1 d0).ii).toNat []).getD 8 d0).ll).getD ((v20.getD 3 d0).ii).toNat []).getD 0 d0).ii), DC.s ((((((((v20.getD 0 d0).ll).getD ((v20.getD 1 d0).ii).toNat []).getD 8 d0).ll).getD ((v20.getD 3 d0).ii).toNat []).getD 1 d0).ss)]].length < LIM then
 .norm [.sl ((v20.getD 0 d0).ll), .i ((v20.getD 1 d0).ii), .i ((v20.getD 2 d0).ii), .i ((v20.getD 3 d0).ii), .sl ((v20.getD 4 d0).ll), .sl ((v20.getD 5 d0).ll), .sl (((v20.getD 6 d0).ll) ++ [[DC.i ((((((((v20.getD 0 d0).ll).getD ((v20.getD 1 d0).ii).toNat []).getD 8 d0).ll).getD ((v20.getD 3 d0).ii).toNat []).getD 0 d0).ii), DC.s ((((((((v20.getD 0 d0).ll).getD ((v20.getD 1 d0).ii).toNat []).getD 8 d0).ll).getD ((v20.getD 3 d0).ii).toNat []).getD 1 d0).ss)]])]
 else
 .fail
 else
 .fail
 else
 .fail
 else
 .norm [.sl ((v20.getD 0 d0).ll), .i ((v20.getD 1 d0).ii), .i ((v20.getD 2 d0).ii), .i ((v20.getD 3 d0).ii), .sl ((v20.getD 4 d0).ll), .sl ((v20.getD 5 d0).ll), .sl ((v20.getD 6 d0).ll)]) fun v21 =>
 .norm [.sl ((v21.getD 0 d0).ll), .i ((v21.getD 1 d0).ii), .i ((v21.getD 2 d0).ii), .i ((v21.getD 3 d0).ii), .sl ((v21.getD 4 d0).ll), .sl ((v21.getD 5 d0).ll), .sl ((v21.getD 6 d0).ll)]
 else
 .fail
 else
 .fail) 3 fun v22 =>
 .norm [.sl ((v22.getD 0 d0).ll), .i ((v22.getD 1 d0).ii), .i ((v22.getD 2 d0).ii), .i (IntKind.i64.wrap ((v22.getD 3 d0).ii + (1 : Int))), .sl ((v22.getD 4 d0).ll), .sl ((v22.getD 5 d0).ll), .sl ((v22.getD 6 d0).ll)]
 else
 .ex 2 [.sl ((v20.getD 0 d0).ll), .i ((v20.getD 1 d0).ii), .i ((v20.getD 2 d0).ii), .sl ((v20.getD 4 d0).ll), .sl ((v20.getD 5 d0).ll), .sl ((v20.getD 6 d0).ll)]
 else
 .fail
def C_spec_SchemaOfL2 (R : Nat → List DC → Out) (n : Nat) : List DC → Out := fun v16 =>
 if (decide ((v16.getD 2 d0).ii ≤ (3 : Int))) = true then
 Out.andThenB (if (decide ((v16.getD 1 d0).ii < (0 : Int))) = true then
 if 9 = 9 ∧ 0 ≤ (v16.getD 2 d0).ii ∧ (v16.getD 2 d0).ii < ([[DC.s ([] : List UInt8)], [DC.s ([81, 117, 101, 114, 121] : List UInt8)], [DC.s ([77, 117, 116, 97, 116, 105, 111, 110] : List UInt8)], [DC.s ([83, 117, 98, 115, 99, 114, 105, 112, 116, 105, 111, 110] : List UInt8)]].length : Int) then
 (R 5 [.sl ((v16.getD 3 d0).ll), .sl ((v16.getD 4 d0).ll), .sl ((v16.getD 5 d0).ll), .s ((([[DC.s ([] : List UInt8)], [DC.s ([81, 117, 101, 114, 121] : List UInt8)], [DC.s ([77, 117, 116, 97, 116, 105, 111, 110] : List UInt8)], [DC.s ([83, 117, 98, 115, 99, 114, 105, 112, 116, 105, 111, 110] : List UInt8)]].getD ((v16.getD 2 d0).ii).toNat []).getD 0 d0).ss)]).bindR fun r17 =>
 Out.andThen (if (decide ((r17.getD 0 d0).ii ≥ (0 : Int))) = true then
 if 45 = 45 ∧ 0 ≤ (r17.getD 0 d0).ii ∧ (r17.getD 0 d0).ii < (((v16.getD 3 d0).ll).length : Int) then
 .norm [.sl ((v16.getD 0 d0).ll), .i ((v16.getD 1 d0).ii), .i ((v16.getD 2 d0).ii), .s ((([[DC.s ([] : List UInt8)], [DC.s ([81, 117, 101, 114, 121] : List UInt8)], [DC.s ([77, 117, 116, 97, 116, 105, 111, 110] : List UInt8)], [DC.s ([83, 117, 98, 115, 99, 114, 105, 112, 116, 105, 111, 110] : List UInt8)]].getD ((v16.getD 2 d0).ii).toNat []).getD 0 d0).ss), .b (((((v16.getD 3 d0).ll).getD ((r17.getD 0 d0).ii).toNat []).getD 0 d0).ii == (2 : Int)), .sl ((v16.getD 3 d0).ll), .sl ((v16.getD 4 d0).ll), .sl ((v16.getD 5 d0).ll)]
 else
 .fail
 else
 .norm [.sl ((v16.getD 0 d0).ll), .i ((v16.getD 1 d0).ii), .i ((v16.getD 2 d0).ii), .s ((([[DC.s ([] : List UInt8)], [DC.s ([81, 117, 101, 114, 121] : List UInt8)], [DC.s ([77, 117, 116, 97, 116, 105, 111, 110] : List UInt8)], [DC.s ([83, 117, 98, 115, 99, 114, 105, 112, 116, 105, 111, 110] : List UInt8)]].getD ((v16.getD 2 d0).ii).toNat []).getD 0 d0).ss), .b false, .sl ((v16.getD 3 d0).ll), .sl ((v16.getD 4 d0).ll), .sl ((v16.getD 5 d0).ll)]) fun v18 =>
 Out.andThen (if (v18.getD 4 d0).bb = true then
 if ((v18.getD 7 d0).ll).length + [[DC.i ((v18.getD 2 d0).ii), DC.s ((v18.getD 3 d0).ss)]].length < LIM then
 .norm [.sl ((v18.getD 0 d0).ll), .i ((v18.getD 1 d0).ii), .i ((v18.getD 2 d0).ii), .sl ((v18.getD 5 d0).ll), .sl ((v18.getD 6 d0).ll), .sl (((v18.getD 7 d0).ll) ++ [[DC.i ((v18.getD 2 d0).ii), DC.s ((v18.getD 3 d0).ss)]])]
 else
 .fail
 else
 .norm [.sl ((v18.getD 0 d0).ll), .i ((v18.getD 1 d0).ii), .i ((v18.getD 2 d0).ii), .sl ((v18.getD 5 d0).ll), .sl ((v18.getD 6 d0).ll), .sl ((v18.getD 7 d0).ll)]) fun v19 =>
 .ex 1 [.sl ((v19.getD 0 d0).ll), .i ((v19.getD 1 d0).ii), .i ((v19.getD 2 d0).ii), .sl ((v19.getD 3 d0).ll), .sl ((v19.getD 4 d0).ll), .sl ((v19.getD 5 d0).ll)]
 else
 .fail
 else
 Out.andThenB (loopF (C_spec_SchemaOfL1 R n) n [.sl ((v16.getD 0 d0).ll), .i ((v16.getD 1 d0).ii), .i ((v16.getD 2 d0).ii), .i (0 : Int), .sl ((v16.getD 3 d0).ll), .sl ((v16.getD 4 d0).ll), .sl ((v16.getD 5 d0).ll)]) 2 fun v23 =>
 .norm [.sl ((v23.getD 0 d0).ll), .i ((v23.getD 1 d0).ii), .i ((v23.getD 2 d0).ii), .sl ((v23.getD 3 d0).ll), .sl ((v23.getD 4 d0).ll), .sl ((v23.getD 5 d0).ll)]) 1 fun v24 =>
 .norm [.sl ((v24.getD 0 d0).ll), .i ((v24.getD 1 d0).ii), .i (IntKind.i64.wrap ((v24.getD 2 d0).ii + (1 : Int))), .sl ((v24.getD 3 d0).ll), .sl ((v24.getD 4 d0).ll), .sl ((v24.getD 5 d0).ll)]
 else
 .ex 0 [.sl ((v16.getD 3 d0).ll), .sl ((v16.getD 4 d0).ll), .sl ((v16.getD 5 d0).ll)]
def C_spec_SchemaOf (R : Nat → List DC → Out) (n : Nat) (a : List DC) : Out :=
 (R 3 [.sl ((a.getD 0 d0).ll), .i (0 : Int)]).bindR fun r1 =>
 (R 3 [.sl ((a.getD 0 d0).ll), .i (1 : Int)]).bindR fun r2 =>
 (R 4 [.sl ((a.getD 0 d0).ll), .i (2 : Int), .s ([] : List UInt8)]).bindR fun r3 =>
 Out.andThenB (loopF (C_spec_SchemaOfL2 R n) n [.sl ((a.getD 0 d0).ll), .i ((r3.getD 0 d0).ii), .i (1 : Int), .sl ((r1.getD 0 d0).ll), .sl ((r2.getD 0 d0).ll), .sl []]) 0 fun v25 =>
 .ret [.sl ((v25.getD 0 d0).ll), .sl ((v25.getD 1 d0).ll), .sl ((v25.getD 2 d0).ll)]
def C_spec_l17DefsL1 (R : Nat → List DC → Out) (n : Nat) : List DC → Out := fun v2 =>
 if (decide ((v2.getD 2 d0).ii < (((v2.getD 0 d0).ll).length : Int))) = true then
 Out.andThenB (if 9 = 9 ∧ 0 ≤ (v2.getD 2 d0).ii ∧ (v2.getD 2 d0).ii < (((v2.getD 0 d0).ll).length : Int) then
 (R 7 [.s (((((v2.getD 0 d0).ll).getD ((v2.getD 2 d0).ii).toNat []).getD 0 d0).ss)]).bindR fun r3 =>
 if 104 = 104 ∧ 0 ≤ (0 : Int) ∧ (0 : Int) < (((r3.getD 0 d0).ll).length : Int) then
 if ((v2.getD 1 d0).ll).length + [[DC.i (((((r3.getD 0 d0).ll).getD (0 : Int).toNat []).getD 10 d0).ii), DC.b (((((r3.getD 0 d0).ll).getD (0 : Int).toNat []).getD 11 d0).bb), DC.s (((((r3.getD 0 d0).ll).getD (0 : Int).toNat []).getD 12 d0).ss), DC.s (((((r3.getD 0 d0).ll).getD (0 : Int).toNat []).getD 13 d0).ss), DC.sl (((((r3.getD 0 d0).ll).getD (0 : Int).toNat []).getD 14 d0).ll), DC.sl (((((r3.getD 0 d0).ll).getD (0 : Int).toNat []).getD 15 d0).ll), DC.sl (((((r3.getD 0 d0).ll).getD (0 : Int).toNat []).getD 16 d0).ll), DC.sl (((((r3.getD 0 d0).ll).getD (0 : Int).toNat []).getD 17 d0).ll), DC.sl (((((r3.getD 0 d0).ll).getD (0 : Int).toNat []).getD 18 d0).ll), DC.b (((((r3.getD 0 d0).ll).getD (0 : Int).toNat []).getD 19 d0).bb), DC.sl (((((r3.getD 0 d0).ll).getD (0 : Int).toNat []).getD 20 d0).ll)]].length < LIM then
 .norm [.sl ((v2.getD 0 d0).ll), .sl (((v2.getD 1 d0).ll) ++ [[DC.i (((((r3.getD 0 d0).ll).getD (0 : Int).toNat []).getD 10 d0).ii), DC.b (((((r3.getD 0 d0).ll).getD (0 : Int).toNat []).getD 11 d0).bb), DC.s (((((r3.getD 0 d0).ll).getD (0 : Int).toNat []).getD 12 d0).ss), DC.s (((((r3.getD 0 d0).ll).getD (0 : Int).toNat []).getD 13 d0).ss), DC.sl (((((r3.getD 0 d0).ll).getD (0 : Int).toNat []).getD 14 d0).ll), DC.sl (((((r3.getD 0 d0).ll).getD (0 : Int).toNat []).getD 15 d0).ll), DC.sl (((((r3.getD 0 d0).ll).getD (0 : Int).toNat []).getD 16 d0).ll), DC.sl (((((r3.getD 0 d0).ll).getD (0 : Int).toNat []).getD 17 d0).ll), DC.sl (((((r3.getD 0 d0).ll).getD (0 : Int).toNat []).getD 18 d0).ll), DC.b (((((r3.getD 0 d0).ll).getD (0 : Int).toNat []).getD 19 d0).bb), DC.sl (((((r3.getD 0 d0).ll).getD (0 : Int).toNat []).getD 20 d0).ll)]]), .i ((v2.getD 2 d0).ii)]
 else
 .fail
 else
 .fail
 else
 .fail) 1 fun v4 =>
 .norm [.sl ((v4.getD 0 d0).ll), .sl ((v4.getD 1 d0).ll), .i (IntKind.i64.wrap ((v4.getD 2 d0).ii + (1 : Int)))]
 else
 .ex 0 [.sl ((v2.getD 1 d0).ll)]
def C_spec_l17Defs (R : Nat → List DC → Out) (n : Nat) (a : List DC) : Out :=
 (R 6 []).bindR fun r1 =>
 Out.andThenB (loopF (C_spec_l17DefsL1 R n) n [.sl ((r1.getD 0 d0).ll), .sl [], .i (0 : Int)]) 0 fun v5 =>
 .ret [.sl ((v5.getD 0 d0).ll)]
def C_spec_TypeAtL1 (R : Nat → List DC → Out) (n : Nat) : List DC → Out := fun v1 =>
 Out.andThen (if (decide ((v1.getD 1 d0).ii < (((v1.getD 2 d0).ll).length : Int))) = true then
 .norm [.s ((v1.getD 0 d0).ss), .i ((v1.getD 1 d0).ii), .b (decide ((((v1.getD 2 d0).ll).length : Int) ≤ (60 : Int))), .sl ((v1.getD 2 d0).ll), .sl ((v1.getD 3 d0).ll), .sl ((v1.getD 4 d0).ll)]
 else
 .norm [.s ((v1.getD 0 d0).ss), .i ((v1.getD 1 d0).ii), .b false, .sl ((v1.getD 2 d0).ll), .sl ((v1.getD 3 d0).ll), .sl ((v1.getD 4 d0).ll)]) fun v2 =>
 if (v2.getD 2 d0).bb = true then
 Out.andThenB (if 45 = 45 ∧ 0 ≤ (v2.getD 1 d0).ii ∧ (v2.getD 1 d0).ii < (((v2.getD 3 d0).ll).length : Int) then
 if (((((v2.getD 3 d0).ll).getD ((v2.getD 1 d0).ii).toNat []).getD 3 d0).ss == (v2.getD 0 d0).ss) = true then
 .ret [.i ((v2.getD 1 d0).ii)]
 else
 .norm [.s ((v2.getD 0 d0).ss), .i ((v2.getD 1 d0).ii), .sl ((v2.getD 3 d0).ll), .sl ((v2.getD 4 d0).ll), .sl ((v2.getD 5 d0).ll)]
 else
 .fail) 1 fun v3 =>
 .norm [.s ((v3.getD 0 d0).ss), .i (IntKind.i64.wrap ((v3.getD 1 d0).ii + (1 : Int))), .sl ((v3.getD 2 d0).ll), .sl ((v3.getD 3 d0).ll), .sl ((v3.getD 4 d0).ll)]
 else
 .ex 0 []
def C_spec_TypeAt (R : Nat → List DC → Out) (n : Nat) (a : List DC) : Out :=
 Out.andThenB (loopF (C_spec_TypeAtL1 R n) n [.s ((a.getD 3 d0).ss), .i (0 : Int), .sl ((a.getD 0 d0).ll), .sl ((a.getD 1 d0).ll), .sl ((a.getD 2 d0).ll)]) 0 fun v4 =>
 .ret [.i (-1 : Int)]
def C_spec_l16AtL1 (R : Nat → List DC → Out) (n : Nat) : List DC → Out := fun v1 =>
 if (decide ((v1.getD 3 d0).ii < (((v1.getD 0 d0).ll).length : Int))) = true then
 Out.andThenB (Out.andThen (if 45 = 45 ∧ 0 ≤ (v1.getD 3 d0).ii ∧ (v1.getD 3 d0).ii < (((v1.getD 0 d0).ll).length : Int) then
 (R 8 [.i (((((v1.getD 0 d0).ll).getD ((v1.getD 3 d0).ii).toNat []).getD 0 d0).ii)]).bindR fun r2 =>
 if ((r2.getD 0 d0).ii == (v1.getD 1 d0).ii) = true then
 if ((v1.getD 1 d0).ii == (2 : Int)) = true then
 .norm [.sl ((v1.getD 0 d0).ll), .i ((v1.getD 1 d0).ii), .s ((v1.getD 2 d0).ss), .i ((v1.getD 3 d0).ii), .b true]
 else
 if 45 = 45 ∧ 0 ≤ (v1.getD 3 d0).ii ∧ (v1.getD 3 d0).ii < (((v1.getD 0 d0).ll).length : Int) then
 .norm [.sl ((v1.getD 0 d0).ll), .i ((v1.getD 1 d0).ii), .s ((v1.getD 2 d0).ss), .i ((v1.getD 3 d0).ii), .b (((((v1.getD 0 d0).ll).getD ((v1.getD 3 d0).ii).toNat []).getD 3 d0).ss == (v1.getD 2 d0).ss)]
 else
 .fail
 else
 .norm [.sl ((v1.getD 0 d0).ll), .i ((v1.getD 1 d0).ii), .s ((v1.getD 2 d0).ss), .i ((v1.getD 3 d0).ii), .b false]
 else
 .fail) fun v3 =>
 if (v3.getD 4 d0).bb = true then
 .ret [.i ((v3.getD 3 d0).ii)]
 else
 .norm [.sl ((v3.getD 0 d0).ll), .i ((v3.getD 1 d0).ii), .s ((v3.getD 2 d0).ss), .i ((v3.getD 3 d0).ii)]) 1 fun v4 =>
 .norm [.sl ((v4.getD 0 d0).ll), .i ((v4.getD 1 d0).ii), .s ((v4.getD 2 d0).ss), .i (IntKind.i64.wrap ((v4.getD 3 d0).ii + (1 : Int)))]
 else
 .ex 0 []
def C_spec_l16At (R : Nat → List DC → Out) (n : Nat) (a : List DC) : Out :=
 Out.andThenB (loopF (C_spec_l16AtL1 R n) n [.sl ((a.getD 0 d0).ll), .i ((a.getD 1 d0).ii), .s ((a.getD 2 d0).ss), .i (0 : Int)]) 0 fun v5 =>
 .ret [.i (-1 : Int)]
def C_spec_l17GroupL1 (R : Nat → List DC → Out) (n : Nat) : List DC → Out := fun v1 =>
 if (decide ((v1.getD 3 d0).ii < (((v1.getD 0 d0).ll).length : Int))) = true then
 Out.andThenB (if 45 = 45 ∧ 0 ≤ (v1.getD 3 d0).ii ∧ (v1.getD 3 d0).ii < (((v1.getD 0 d0).ll).length : Int) then
 (R 8 [.i (((((v1.getD 0 d0).ll).getD ((v1.getD 3 d0).ii).toNat []).getD 0 d0).ii)]).bindR fun r2 =>
 Out.andThen (if ((r2.getD 0 d0).ii == (v1.getD 1 d0).ii) = true then
 if 45 = 45 ∧ 0 ≤ (v1.getD 3 d0).ii ∧ (v1.getD 3 d0).ii < (((v1.getD 0 d0).ll).length : Int) then
 if ((v1.getD 2 d0).ll).length + [[DC.i (((((v1.getD 0 d0).ll).getD ((v1.getD 3 d0).ii).toNat []).getD 0 d0).ii), DC.b (((((v1.getD 0 d0).ll).getD ((v1.getD 3 d0).ii).toNat []).getD 1 d0).bb), DC.s (((((v1.getD 0 d0).ll).getD ((v1.getD 3 d0).ii).toNat []).getD 2 d0).ss), DC.s (((((v1.getD 0 d0).ll).getD ((v1.getD 3 d0).ii).toNat []).getD 3 d0).ss), DC.sl (((((v1.getD 0 d0).ll).getD ((v1.getD 3 d0).ii).toNat []).getD 4 d0).ll), DC.sl (((((v1.getD 0 d0).ll).getD ((v1.getD 3 d0).ii).toNat []).getD 5 d0).ll), DC.sl (((((v1.getD 0 d0).ll).getD ((v1.getD 3 d0).ii).toNat []).getD 6 d0).ll), DC.sl (((((v1.getD 0 d0).ll).getD ((v1.getD 3 d0).ii).toNat []).getD 7 d0).ll), DC.sl (((((v1.getD 0 d0).ll).getD ((v1.getD 3 d0).ii).toNat []).getD 8 d0).ll), DC.b (((((v1.getD 0 d0).ll).getD ((v1.getD 3 d0).ii).toNat []).getD 9 d0).bb), DC.sl (((((v1.getD 0 d0).ll).getD ((v1.getD 3 d0).ii).toNat []).getD 10 d0).ll)]].length < LIM then
 .norm [.sl ((v1.getD 0 d0).ll), .i ((v1.getD 1 d0).ii), .sl (((v1.getD 2 d0).ll) ++ [[DC.i (((((v1.getD 0 d0).ll).getD ((v1.getD 3 d0).ii).toNat []).getD 0 d0).ii), DC.b (((((v1.getD 0 d0).ll).getD ((v1.getD 3 d0).ii).toNat []).getD 1 d0).bb), DC.s (((((v1.getD 0 d0).ll).getD ((v1.getD 3 d0).ii).toNat []).getD 2 d0).ss), DC.s (((((v1.getD 0 d0).ll).getD ((v1.getD 3 d0).ii).toNat []).getD 3 d0).ss), DC.sl (((((v1.getD 0 d0).ll).getD ((v1.getD 3 d0).ii).toNat []).getD 4 d0).ll), DC.sl (((((v1.getD 0 d0).ll).getD ((v1.getD 3 d0).ii).toNat []).getD 5 d0).ll), DC.sl (((((v1.getD 0 d0).ll).getD ((v1.getD 3 d0).ii).toNat []).getD 6 d0).ll), DC.sl (((((v1.getD 0 d0).ll).getD ((v1.getD 3 d0).ii).toNat []).getD 7 d0).ll), DC.sl (((((v1.getD 0 d0).ll).getD ((v1.getD 3 d0).ii).toNat []).getD 8 d0).ll), DC.b (((((v1.getD 0 d0).ll).getD ((v1.getD 3 d0).ii).toNat []).getD 9 d0).bb), DC.sl (((((v1.getD 0 d0).ll).getD ((v1.getD 3 d0).ii).toNat []).getD 10 d0).ll)]]), .i ((v1.getD 3 d0).ii)]
 else
 .fail
 else
 .fail
 else
 .norm [.sl ((v1.getD 0 d0).ll), .i ((v1.getD 1 d0).ii), .sl ((v1.getD 2 d0).ll), .i ((v1.getD 3 d0).ii)]) fun v3 =>
 .norm [.sl ((v3.getD 0 d0).ll), .i ((v3.getD 1 d0).ii), .sl ((v3.getD 2 d0).ll), .i ((v3.getD 3 d0).ii)]
 else
 .fail) 1 fun v4 =>
 .norm [.sl ((v4.getD 0 d0).ll), .i ((v4.getD 1 d0).ii), .sl ((v4.getD 2 d0).ll), .i (IntKind.i64.wrap ((v4.getD 3 d0).ii + (1 : Int)))]
 else
 .ex 0 [.sl ((v1.getD 2 d0).ll)]
def C_spec_l17Group (R : Nat → List DC → Out) (n : Nat) (a : List DC) : Out :=
 Out.andThenB (loopF (C_spec_l17GroupL1 R n) n [.sl ((a.getD 0 d0).ll), .i ((a.getD 1 d0).ii), .sl [], .i (0 : Int)]) 0 fun v5 =>
 (R 9 [.sl ((v5.getD 0 d0).ll)]).bindR fun r6 =>
 .ret [.sl ((r6.getD 0 d0).ll)]
def C_spec_ParseL1 (R : Nat → List DC → Out) (n : Nat) : List DC → Out := fun v8 =>
 Out.andThen (if ((v8.getD 5 d0).ii == (0 : Int)) = true then
 if (decide ((v8.getD 3 d0).ii < (((v8.getD 2 d0).ll).length : Int))) = true then
 .norm [.b true, .i ((v8.getD 0 d0).ii), .i ((v8.getD 1 d0).ii), .sl ((v8.getD 2 d0).ll), .i ((v8.getD 3 d0).ii), .i ((v8.getD 4 d0).ii), .i ((v8.getD 5 d0).ii), .i ((v8.getD 6 d0).ii), .sl ((v8.getD 7 d0).ll)]
 else
 .norm [.b ((((v8.getD 7 d0).ll).length : Int) == (0 : Int)), .i ((v8.getD 0 d0).ii), .i ((v8.getD 1 d0).ii), .sl ((v8.getD 2 d0).ll), .i ((v8.getD 3 d0).ii), .i ((v8.getD 4 d0).ii), .i ((v8.getD 5 d0).ii), .i ((v8.getD 6 d0).ii), .sl ((v8.getD 7 d0).ll)]
 else
 .norm [.b false, .i ((v8.getD 0 d0).ii), .i ((v8.getD 1 d0).ii), .sl ((v8.getD 2 d0).ll), .i ((v8.getD 3 d0).ii), .i ((v8.getD 4 d0).ii), .i ((v8.getD 5 d0).ii), .i ((v8.getD 6 d0).ii), .sl ((v8.getD 7 d0).ll)]) fun v9 =>
 if (v9.getD 0 d0).bb = true then
 Out.andThenB (Out.andThen (if ((((v9.getD 8 d0).ll).length : Int) == (60 : Int)) = true then
 (R 10 [.sl ((v9.getD 3 d0).ll), .i ((v9.getD 4 d0).ii), .i ((v9.getD 5 d0).ii), .i ((v9.getD 6 d0).ii), .i ((v9.getD 7 d0).ii)]).bindR fun r10 =>
 .norm [.b ((r10.getD 0 d0).bb), .i ((v9.getD 1 d0).ii), .i ((v9.getD 2 d0).ii), .sl ((r10.getD 1 d0).ll), .i ((r10.getD 2 d0).ii), .i ((r10.getD 3 d0).ii), .i ((r10.getD 4 d0).ii), .i ((r10.getD 5 d0).ii), .sl ((v9.getD 8 d0).ll)]
 else
 .norm [.b false, .i ((v9.getD 1 d0).ii), .i ((v9.getD 2 d0).ii), .sl ((v9.getD 3 d0).ll), .i ((v9.getD 4 d0).ii), .i ((v9.getD 5 d0).ii), .i ((v9.getD 6 d0).ii), .i ((v9.getD 7 d0).ii), .sl ((v9.getD 8 d0).ll)]) fun v11 =>
 if (v11.getD 0 d0).bb = true then
 (R 11 [.i (6 : Int), .sl ((v11.getD 3 d0).ll), .i ((v11.getD 4 d0).ii), .i ((v11.getD 5 d0).ii), .i ((v11.getD 6 d0).ii), .i ((v11.getD 7 d0).ii)]).bindR fun r12 =>
 .ex 0 [.i ((v11.getD 1 d0).ii), .i ((v11.getD 2 d0).ii), .sl ((r12.getD 0 d0).ll), .i ((r12.getD 1 d0).ii), .i ((r12.getD 2 d0).ii), .i ((r12.getD 3 d0).ii), .i ((r12.getD 4 d0).ii), .sl ((v11.getD 8 d0).ll)]
 else
 (R 12 [.sl ((v11.getD 3 d0).ll), .i ((v11.getD 4 d0).ii), .i ((v11.getD 5 d0).ii), .i ((v11.getD 6 d0).ii), .i ((v11.getD 7 d0).ii)]).bindR fun r13 =>
 if ((v11.getD 8 d0).ll).length + [[DC.i ((r13.getD 0 d0).ii), DC.i ((r13.getD 1 d0).ii), DC.s ((r13.getD 2 d0).ss), DC.sl ((r13.getD 3 d0).ll), DC.sl ((r13.getD 4 d0).ll), DC.sl ((r13.getD 5 d0).ll), DC.s ((r13.getD 6 d0).ss), DC.s ((r13.getD 7 d0).ss), DC.sl ((r13.getD 8 d0).ll), DC.sl ((r13.getD 9 d0).ll), DC.i ((r13.getD 10 d0).ii), DC.b ((r13.getD 11 d0).bb), DC.s ((r13.getD 12 d0).ss), DC.s ((r13.getD 13 d0).ss), DC.sl ((r13.getD 14 d0).ll), DC.sl ((r13.getD 15 d0).ll), DC.sl ((r13.getD 16 d0).ll), DC.sl ((r13.getD 17 d0).ll), DC.sl ((r13.getD 18 d0).ll), DC.b ((r13.getD 19 d0).bb), DC.sl ((r13.getD 20 d0).ll)]].length < LIM then
 .norm [.i ((v11.getD 1 d0).ii), .i ((v11.getD 2 d0).ii), .sl ((r13.getD 21 d0).ll), .i ((r13.getD 22 d0).ii), .i ((r13.getD 23 d0).ii), .i ((r13.getD 24 d0).ii), .i ((r13.getD 25 d0).ii), .sl (((v11.getD 8 d0).ll) ++ [[DC.i ((r13.getD 0 d0).ii), DC.i ((r13.getD 1 d0).ii), DC.s ((r13.getD 2 d0).ss), DC.sl ((r13.getD 3 d0).ll), DC.sl ((r13.getD 4 d0).ll), DC.sl ((r13.getD 5 d0).ll), DC.s ((r13.getD 6 d0).ss), DC.s ((r13.getD 7 d0).ss), DC.sl ((r13.getD 8 d0).ll), DC.sl ((r13.getD 9 d0).ll), DC.i ((r13.getD 10 d0).ii), DC.b ((r13.getD 11 d0).bb), DC.s ((r13.getD 12 d0).ss), DC.s ((r13.getD 13 d0).ss), DC.sl ((r13.getD 14 d0).ll), DC.sl ((r13.getD 15 d0).ll), DC.sl ((r13.getD 16 d0).ll), DC.sl ((r13.getD 17 d0).ll), DC.sl ((r13.getD 18 d0).ll), DC.b ((r13.getD 19 d0).bb), DC.sl ((r13.getD 20 d0).ll)]])]
 else
 .fail) 1 fun v14 =>
 .norm [.i ((v14.getD 0 d0).ii), .i ((v14.getD 1 d0).ii), .sl ((v14.getD 2 d0).ll), .i ((v14.getD 3 d0).ii), .i ((v14.getD 4 d0).ii), .i ((v14.getD 5 d0).ii), .i ((v14.getD 6 d0).ii), .sl ((v14.getD 7 d0).ll)]
 else
 .ex 0 [.i ((v9.getD 1 d0).ii), .i ((v9.getD 2 d0).ii), .sl ((v9.getD 3 d0).ll), .i ((v9.getD 4 d0).ii), .i ((v9.getD 5 d0).ii), .i ((v9.getD 6 d0).ii), .i ((v9.getD 7 d0).ii), .sl ((v9.getD 8 d0).ll)]
def C_spec_Parse (R : Nat → List DC → Out) (n : Nat) (a : List DC) : Out :=
 if bsz (rb_spec_l08New [.s ((a.getD 0 d0).ss)]) < LIM then
 Out.andThenB (loopF (C_spec_ParseL1 R n) n [.i (0 : Int), .i (0 : Int), .sl (((retD (rb_spec_l08New [.s ((a.getD 0 d0).ss)])).getD 0 d0).ll), .i (((retD (rb_spec_l08New [.s ((a.getD 0 d0).ss)])).getD 1 d0).ii), .i (((retD (rb_spec_l08New [.s ((a.getD 0 d0).ss)])).getD 2 d0).ii), .i (((retD (rb_spec_l08New [.s ((a.getD 0 d0).ss)])).getD 3 d0).ii), .i (((retD (rb_spec_l08New [.s ((a.getD 0 d0).ss)])).getD 4 d0).ii), .sl []]) 0 fun v15 =>
 if ((v15.getD 5 d0).ii != (0 : Int)) = true then
 .ret [.sl [], .i ((v15.getD 5 d0).ii), .i ((v15.getD 6 d0).ii)]
 else
 .ret [.sl ((v15.getD 7 d0).ll), .i (0 : Int), .i (0 : Int)]
 else
 .fail
def C_spec_l17Pieces (R : Nat → List DC → Out) (n : Nat) (a : List DC) : Out :=
 .ret [.sl [[DC.s ([105, 110, 116, 101, 114, 102, 97, 99, 101, 32, 78, 111, 100, 101, 32, 123, 10, 32, 32, 105, 100, 58, 32, 73, 68, 33, 10, 125, 10] : List UInt8)], [DC.s ([105, 110, 116, 101, 114, 102, 97, 99, 101, 32, 78, 97, 109, 101, 100, 32, 105, 109, 112, 108, 101, 109, 101, 110, 116, 115, 32, 78, 111, 100, 101, 32, 123, 10, 32, 32, 105, 100, 58, 32, 73, 68, 33, 10, 32, 32, 110, 97, 109, 101, 58, 32, 83, 116, 114, 105, 110, 103, 10, 125, 10] : List UInt8)], [DC.s ([116, 121, 112, 101, 32, 85, 115, 101, 114, 32, 105, 109, 112, 108, 101, 109, 101, 110, 116, 115, 32, 78, 97, 109, 101, 100, 32, 38, 32, 78, 111, 100, 101, 32, 123, 10, 32, 32, 105, 100, 58, 32, 73, 68, 33, 10, 32, 32, 110, 97, 109, 101, 58, 32, 83, 116, 114, 105, 110, 103, 10, 32, 32, 112, 111, 115, 116, 115, 40, 102, 105, 114, 115, 116, 58, 32, 73, 110, 116, 32, 61, 32, 49, 48, 44, 32, 97, 102, 116, 101, 114, 58, 32, 73, 68, 41, 58, 32, 91, 80, 111, 115, 116, 33, 93, 33, 10, 32, 32, 99, 111, 108, 111, 114, 58, 32, 67, 111, 108, 111, 114, 32, 64, 100, 101, 112, 114, 101, 99, 97, 116, 101, 100, 10, 32, 32, 102, 114, 105, 101, 110, 100, 58, 32, 85, 115, 101, 114, 10, 125, 10] : List UInt8)], [DC.s ([116, 121, 112, 101, 32, 80, 111, 115, 116, 32, 105, 109, 112, 108, 101, 109, 101, 110, 116, 115, 32, 78, 111, 100, 101, 32, 123, 10, 32, 32, 105, 100, 58, 32, 73, 68, 33, 10, 32, 32, 116, 105, 116, 108, 101, 58, 32, 83, 116, 114, 105, 110, 103, 33, 10, 32, 32, 97, 117, 116, 104, 111, 114, 58, 32, 85, 115, 101, 114, 10, 32, 32, 97, 110, 121, 58, 32, 91, 65, 110, 121, 93, 10, 125, 10] : List UInt8)], [DC.s ([117, 110, 105, 111, 110, 32, 65, 110, 121, 32, 61, 32, 80, 111, 115, 116, 32, 124, 32, 85, 115, 101, 114, 10] : List UInt8)], [DC.s ([101, 110, 117, 109, 32, 67, 111, 108, 111, 114, 32, 123, 10, 32, 32, 66, 76, 85, 69, 10, 32, 32, 82, 69, 68, 10, 125, 10] : List UInt8)], [DC.s ([105, 110, 112, 117, 116, 32, 70, 105, 110, 100, 32, 123, 10, 32, 32, 116, 101, 120, 116, 58, 32, 83, 116, 114, 105, 110, 103, 33, 10, 32, 32, 115, 105, 122, 101, 58, 32, 73, 110, 116, 32, 61, 32, 53, 10, 32, 32, 99, 111, 108, 111, 114, 115, 58, 32, 91, 67, 111, 108, 111, 114, 33, 93, 10, 32, 32, 109, 111, 114, 101, 58, 32, 70, 105, 110, 100, 10, 125, 10] : List UInt8)], [DC.s ([115, 99, 97, 108, 97, 114, 32, 68, 97, 116, 101, 10] : List UInt8)], [DC.s ([100, 105, 114, 101, 99, 116, 105, 118, 101, 32, 64, 111, 110, 99, 101, 40, 107, 101, 121, 58, 32, 83, 116, 114, 105, 110, 103, 44, 32, 100, 101, 101, 112, 58, 32, 73, 110, 116, 33, 32, 61, 32, 49, 41, 32, 111, 110, 32, 70, 73, 69, 76, 68, 32, 124, 32, 81, 85, 69, 82, 89, 10] : List UInt8)], [DC.s ([100, 105, 114, 101, 99, 116, 105, 118, 101, 32, 64, 109, 97, 110, 121, 32, 114, 101, 112, 101, 97, 116, 97, 98, 108, 101, 32, 111, 110, 32, 70, 73, 69, 76, 68, 10] : List UInt8)], [DC.s ([116, 121, 112, 101, 32, 81, 117, 101, 114, 121, 32, 123, 10, 32, 32, 110, 111, 100, 101, 40, 105, 100, 58, 32, 73, 68, 33, 41, 58, 32, 78, 111, 100, 101, 10, 32, 32, 117, 115, 101, 114, 40, 105, 100, 58, 32, 73, 68, 41, 58, 32, 85, 115, 101, 114, 10, 32, 32, 102, 105, 110, 100, 40, 98, 121, 58, 32, 70, 105, 110, 100, 33, 44, 32, 111, 110, 58, 32, 68, 97, 116, 101, 41, 58, 32, 91, 65, 110, 121, 33, 93, 10, 32, 32, 99, 111, 108, 111, 114, 115, 58, 32, 91, 67, 111, 108, 111, 114, 93, 10, 32, 32, 110, 97, 109, 101, 100, 58, 32, 78, 97, 109, 101, 100, 10, 125, 10] : List UInt8)], [DC.s ([116, 121, 112, 101, 32, 77, 117, 116, 97, 116, 105, 111, 110, 32, 123, 10, 32, 32, 114, 101, 110, 97, 109, 101, 40, 105, 100, 58, 32, 73, 68, 33, 44, 32, 110, 97, 109, 101, 58, 32, 83, 116, 114, 105, 110, 103, 41, 58, 32, 85, 115, 101, 114, 10, 125, 10] : List UInt8)]]]
def C_spec_l16Group (R : Nat → List DC → Out) (n : Nat) (a : List DC) : Out :=
 Out.andThenB (if ((a.getD 0 d0).ii == (7 : Int)) = true then
 .ret [.i (1 : Int)]
 else
 if ((a.getD 0 d0).ii == (8 : Int)) = true then
 .ret [.i (2 : Int)]
 else
 .norm []) 0 fun v1 =>
 .ret [.i (0 : Int)]
def C_spec_SortDefsL1 (R : Nat → List DC → Out) (n : Nat) : List DC → Out := fun v1 =>
 if (decide ((v1.getD 2 d0).ii < (((v1.getD 0 d0).ll).length : Int))) = true then
 Out.andThenB (if 45 = 45 ∧ 0 ≤ (v1.getD 2 d0).ii ∧ (v1.getD 2 d0).ii < (((v1.getD 0 d0).ll).length : Int) then
 (R 13 [.i (((((v1.getD 0 d0).ll).getD ((v1.getD 2 d0).ii).toNat []).getD 0 d0).ii), .b (((((v1.getD 0 d0).ll).getD ((v1.getD 2 d0).ii).toNat []).getD 1 d0).bb), .s (((((v1.getD 0 d0).ll).getD ((v1.getD 2 d0).ii).toNat []).getD 2 d0).ss), .s (((((v1.getD 0 d0).ll).getD ((v1.getD 2 d0).ii).toNat []).getD 3 d0).ss), .sl (((((v1.getD 0 d0).ll).getD ((v1.getD 2 d0).ii).toNat []).getD 4 d0).ll), .sl (((((v1.getD 0 d0).ll).getD ((v1.getD 2 d0).ii).toNat []).getD 5 d0).ll), .sl (((((v1.getD 0 d0).ll).getD ((v1.getD 2 d0).ii).toNat []).getD 6 d0).ll), .sl (((((v1.getD 0 d0).ll).getD ((v1.getD 2 d0).ii).toNat []).getD 7 d0).ll), .sl (((((v1.getD 0 d0).ll).getD ((v1.getD 2 d0).ii).toNat []).getD 8 d0).ll), .b (((((v1.getD 0 d0).ll).getD ((v1.getD 2 d0).ii).toNat []).getD 9 d0).bb), .sl (((((v1.getD 0 d0).ll).getD ((v1.getD 2 d0).ii).toNat []).getD 10 d0).ll)]).bindR fun r2 =>
 if ((v1.getD 1 d0).ll).length + [[DC.i ((r2.getD 0 d0).ii), DC.b ((r2.getD 1 d0).bb), DC.s ((r2.getD 2 d0).ss), DC.s ((r2.getD 3 d0).ss), DC.sl ((r2.getD 4 d0).ll), DC.sl ((r2.getD 5 d0).ll), DC.sl ((r2.getD 6 d0).ll), DC.sl ((r2.getD 7 d0).ll), DC.sl ((r2.getD 8 d0).ll), DC.b ((r2.getD 9 d0).bb), DC.sl ((r2.getD 10 d0).ll)]].length < LIM then
 .norm [.sl ((v1.getD 0 d0).ll), .sl (((v1.getD 1 d0).ll) ++ [[DC.i ((r2.getD 0 d0).ii), DC.b ((r2.getD 1 d0).bb), DC.s ((r2.getD 2 d0).ss), DC.s ((r2.getD 3 d0).ss), DC.sl ((r2.getD 4 d0).ll), DC.sl ((r2.getD 5 d0).ll), DC.sl ((r2.getD 6 d0).ll), DC.sl ((r2.getD 7 d0).ll), DC.sl ((r2.getD 8 d0).ll), DC.b ((r2.getD 9 d0).bb), DC.sl ((r2.getD 10 d0).ll)]]), .i ((v1.getD 2 d0).ii)]
 else
 .fail
 else
 .fail) 1 fun v3 =>
 .norm [.sl ((v3.getD 0 d0).ll), .sl ((v3.getD 1 d0).ll), .i (IntKind.i64.wrap ((v3.getD 2 d0).ii + (1 : Int)))]
 else
 .ex 0 [.sl ((v1.getD 1 d0).ll)]
def C_spec_SortDefsL2 (R : Nat → List DC → Out) (n : Nat) : List DC → Out := fun v7 =>
 Out.andThen (if (decide ((v7.getD 3 d0).ii < (((v7.getD 0 d0).ll).length : Int))) = true then
 .norm [.sl ((v7.getD 0 d0).ll), .sl ((v7.getD 1 d0).ll), .sl ((v7.getD 2 d0).ll), .i ((v7.getD 3 d0).ii), .i ((v7.getD 4 d0).ii), .b true]
 else
 .norm [.sl ((v7.getD 0 d0).ll), .sl ((v7.getD 1 d0).ll), .sl ((v7.getD 2 d0).ll), .i ((v7.getD 3 d0).ii), .i ((v7.getD 4 d0).ii), .b (decide ((v7.getD 4 d0).ii < (((v7.getD 1 d0).ll).length : Int)))]) fun v8 =>
 if (v8.getD 5 d0).bb = true then
 Out.andThenB (Out.andThen (if (decide ((v8.getD 4 d0).ii ≥ (((v8.getD 1 d0).ll).length : Int))) = true then
 .norm [.sl ((v8.getD 0 d0).ll), .sl ((v8.getD 1 d0).ll), .sl ((v8.getD 2 d0).ll), .i ((v8.getD 3 d0).ii), .i ((v8.getD 4 d0).ii), .b true]
 else
 if (decide ((v8.getD 3 d0).ii < (((v8.getD 0 d0).ll).length : Int))) = true then
 if 45 = 45 ∧ 0 ≤ (v8.getD 3 d0).ii ∧ (v8.getD 3 d0).ii < (((v8.getD 0 d0).ll).length : Int) then
 if 45 = 45 ∧ 0 ≤ (v8.getD 4 d0).ii ∧ (v8.getD 4 d0).ii < (((v8.getD 1 d0).ll).length : Int) then
 .norm [.sl ((v8.getD 0 d0).ll), .sl ((v8.getD 1 d0).ll), .sl ((v8.getD 2 d0).ll), .i ((v8.getD 3 d0).ii), .i ((v8.getD 4 d0).ii), .b (Op.bytesLess (((((v8.getD 0 d0).ll).getD ((v8.getD 3 d0).ii).toNat []).getD 3 d0).ss) (((((v8.getD 1 d0).ll).getD ((v8.getD 4 d0).ii).toNat []).getD 3 d0).ss) || ((((v8.getD 0 d0).ll).getD ((v8.getD 3 d0).ii).toNat []).getD 3 d0).ss == ((((v8.getD 1 d0).ll).getD ((v8.getD 4 d0).ii).toNat []).getD 3 d0).ss)]
 else
 .fail
 else
 .fail
 else
 .norm [.sl ((v8.getD 0 d0).ll), .sl ((v8.getD 1 d0).ll), .sl ((v8.getD 2 d0).ll), .i ((v8.getD 3 d0).ii), .i ((v8.getD 4 d0).ii), .b false]) fun v9 =>
 Out.andThen (if (v9.getD 5 d0).bb = true then
 if 45 = 45 ∧ 0 ≤ (v9.getD 3 d0).ii ∧ (v9.getD 3 d0).ii < (((v9.getD 0 d0).ll).length : Int) then
 if ((v9.getD 2 d0).ll).length + [[DC.i (((((v9.getD 0 d0).ll).getD ((v9.getD 3 d0).ii).toNat []).getD 0 d0).ii), DC.b (((((v9.getD 0 d0).ll).getD ((v9.getD 3 d0).ii).toNat []).getD 1 d0).bb), DC.s (((((v9.getD 0 d0).ll).getD ((v9.getD 3 d0).ii).toNat []).getD 2 d0).ss), DC.s (((((v9.getD 0 d0).ll).getD ((v9.getD 3 d0).ii).toNat []).getD 3 d0).ss), DC.sl (((((v9.getD 0 d0).ll).getD ((v9.getD 3 d0).ii).toNat []).getD 4 d0).ll), DC.sl (((((v9.getD 0 d0).ll).getD ((v9.getD 3 d0).ii).toNat []).getD 5 d0).ll), DC.sl (((((v9.getD 0 d0).ll).getD ((v9.getD 3 d0).ii).toNat []).getD 6 d0).ll), DC.sl (((((v9.getD 0 d0).ll).getD ((v9.getD 3 d0).ii).toNat []).getD 7 d0).ll), DC.sl (((((v9.getD 0 d0).ll).getD ((v9.getD 3 d0).ii).toNat []).getD 8 d0).ll), DC.b (((((v9.getD 0 d0).ll).getD ((v9.getD 3 d0).ii).toNat []).getD 9 d0).bb), DC.sl (((((v9.getD 0 d0).ll).getD ((v9.getD 3 d0).ii).toNat []).getD 10 d0).ll)]].length < LIM then
 .norm [.sl ((v9.getD 0 d0).ll), .sl ((v9.getD 1 d0).ll), .sl (((v9.getD 2 d0).ll) ++ [[DC.i (((((v9.getD 0 d0).ll).getD ((v9.getD 3 d0).ii).toNat []).getD 0 d0).ii), DC.b (((((v9.getD 0 d0).ll).getD ((v9.getD 3 d0).ii).toNat []).getD 1 d0).bb), DC.s (((((v9.getD 0 d0).ll).getD ((v9.getD 3 d0).ii).toNat []).getD 2 d0).ss), DC.s (((((v9.getD 0 d0).ll).getD ((v9.getD 3 d0).ii).toNat []).getD 3 d0).ss), DC.sl (((((v9.getD 0 d0).ll).getD ((v9.getD 3 d0).ii).toNat []).getD 4 d0).ll), DC.sl (((((v9.getD 0 d0).ll).getD ((v9.getD 3 d0).ii).toNat []).getD 5 d0).ll), DC.sl (((((v9.getD 0 d0).ll).getD ((v9.getD 3 d0).ii).toNat []).getD 6 d0).ll), DC.sl (((((v9.getD 0 d0).ll).getD ((v9.getD 3 d0).ii).toNat []).getD 7 d0).ll), DC.sl (((((v9.getD 0 d0).ll).getD ((v9.getD 3 d0).ii).toNat []).getD 8 d0).ll), DC.b (((((v9.getD 0 d0).ll).getD ((v9.getD 3 d0).ii).toNat []).getD 9 d0).bb), DC.sl (((((v9.getD 0 d0).ll).getD ((v9.getD 3 d0).ii).toNat []).getD 10 d0).ll)]]), .i (IntKind.i64.wrap ((v9.getD 3 d0).ii + (1 : Int))), .i ((v9.getD 4 d0).ii)]
 else
 .fail
 else
 .fail
 else
 if 45 = 45 ∧ 0 ≤ (v9.getD 4 d0).ii ∧ (v9.getD 4 d0).ii < (((v9.getD 1 d0).ll).length : Int) then
 if ((v9.getD 2 d0).ll).length + [[DC.i (((((v9.getD 1 d0).ll).getD ((v9.getD 4 d0).ii).toNat []).getD 0 d0).ii), DC.b (((((v9.getD 1 d0).ll).getD ((v9.getD 4 d0).ii).toNat []).getD 1 d0).bb), DC.s (((((v9.getD 1 d0).ll).getD ((v9.getD 4 d0).ii).toNat []).getD 2 d0).ss), DC.s (((((v9.getD 1 d0).ll).getD ((v9.getD 4 d0).ii).toNat []).getD 3 d0).ss), DC.sl (((((v9.getD 1 d0).ll).getD ((v9.getD 4 d0).ii).toNat []).getD 4 d0).ll), DC.sl (((((v9.getD 1 d0).ll).getD ((v9.getD 4 d0).ii).toNat []).getD 5 d0).ll), DC.sl (((((v9.getD 1 d0).ll).getD ((v9.getD 4 d0).ii).toNat []).getD 6 d0).ll), DC.sl (((((v9.getD 1 d0).ll).getD ((v9.getD 4 d0).ii).toNat []).getD 7 d0).ll), DC.sl (((((v9.getD 1 d0).ll).getD ((v9.getD 4 d0).ii).toNat []).getD 8 d0).ll), DC.b (((((v9.getD 1 d0).ll).getD ((v9.getD 4 d0).ii).toNat []).getD 9 d0).bb), DC.sl (((((v9.getD 1 d0).ll).getD ((v9.getD 4 d0).ii).toNat []).getD 10 d0).ll)]].length < LIM then
 .norm [.sl ((v9.getD 0 d0).ll), .sl ((v9.getD 1 d0).ll), .sl (((v9.getD 2 d0).ll) ++ [[DC.i (((((v9.getD 1 d0).ll).getD ((v9.getD 4 d0).ii).toNat []).getD 0 d0).ii), DC.b (((((v9.getD 1 d0).ll).getD ((v9.getD 4 d0).ii).toNat []).getD 1 d0).bb), DC.s (((((v9.getD 1 d0).ll).getD ((v9.getD 4 d0).ii).toNat []).getD 2 d0).ss), DC.s (((((v9.getD 1 d0).ll).getD ((v9.getD 4 d0).ii).toNat []).getD 3 d0).ss), DC.sl (((((v9.getD 1 d0).ll).getD ((v9.getD 4 d0).ii).toNat []).getD 4 d0).ll), DC.sl (((((v9.getD 1 d0).ll).getD ((v9.getD 4 d0).ii).toNat []).getD 5 d0).ll), DC.sl (((((v9.getD 1 d0).ll).getD ((v9.getD 4 d0).ii).toNat []).getD 6 d0).ll), DC.sl (((((v9.getD 1 d0).ll).getD ((v9.getD 4 d0).ii).toNat []).getD 7 d0).ll), DC.sl (((((v9.getD 1 d0).ll).getD ((v9.getD 4 d0).ii).toNat []).getD 8 d0).ll), DC.b (((((v9.getD 1 d0).ll).getD ((v9.getD 4 d0).ii).toNat []).getD 9 d0).bb), DC.sl (((((v9.getD 1 d0).ll).getD ((v9.getD 4 d0).ii).toNat []).getD 10 d0).ll)]]), .i ((v9.getD 3 d0).ii), .i (IntKind.i64.wrap ((v9.getD 4 d0).ii + (1 : Int)))]
 else
 .fail
 else
 .fail) fun v10 =>
 .norm [.sl ((v10.getD 0 d0).ll), .sl ((v10.getD 1 d0).ll), .sl ((v10.getD 2 d0).ll), .i ((v10.getD 3 d0).ii), .i ((v10.getD 4 d0).ii)]) 3 fun v11 =>
 .norm [.sl ((v11.getD 0 d0).ll), .sl ((v11.getD 1 d0).ll), .sl ((v11.getD 2 d0).ll), .i ((v11.getD 3 d0).ii), .i ((v11.getD 4 d0).ii)]
 else
 .ex 2 [.sl ((v8.getD 2 d0).ll)]
def C_spec_SortDefs (R : Nat → List DC → Out) (n : Nat) (a : List DC) : Out :=
 if (decide ((((a.getD 0 d0).ll).length : Int) < (2 : Int))) = true then
 Out.andThenB (loopF (C_spec_SortDefsL1 R n) n [.sl ((a.getD 0 d0).ll), .sl [], .i (0 : Int)]) 0 fun v4 =>
 .ret [.sl ((v4.getD 0 d0).ll)]
 else
 if (2 : Int) = 0 then
 .fail
 else
 if 0 ≤ (IntKind.i64.wrap ((((a.getD 0 d0).ll).length : Int).tdiv (2 : Int))) ∧ (IntKind.i64.wrap ((((a.getD 0 d0).ll).length : Int).tdiv (2 : Int))) ≤ (((a.getD 0 d0).ll).length : Int) then
 (R 9 [.sl (((a.getD 0 d0).ll).take (IntKind.i64.wrap ((((a.getD 0 d0).ll).length : Int).tdiv (2 : Int))).toNat)]).bindR fun r5 =>
 if (2 : Int) = 0 then
 .fail
 else
 if 0 ≤ (IntKind.i64.wrap ((((a.getD 0 d0).ll).length : Int).tdiv (2 : Int))) ∧ (IntKind.i64.wrap ((((a.getD 0 d0).ll).length : Int).tdiv (2 : Int))) ≤ (((a.getD 0 d0).ll).length : Int) then
 (R 9 [.sl (((a.getD 0 d0).ll).drop (IntKind.i64.wrap ((((a.getD 0 d0).ll).length : Int).tdiv (2 : Int))).toNat)]).bindR fun r6 =>
 Out.andThenB (loopF (C_spec_SortDefsL2 R n) n [.sl ((r5.getD 0 d0).ll), .sl ((r6.getD 0 d0).ll), .sl [], .i (0 : Int), .i (0 : Int)]) 2 fun v12 =>
 .ret [.sl ((v12.getD 0 d0).ll)]
 else
 .fail
 else
 .fail
def C_spec_l08Bad (R : Nat → List DC → Out) (n : Nat) (a : List DC) : Out :=
 Out.andThen (if ((a.getD 4 d0).ii == (0 : Int)) = true then
 (R 14 [.sl ((a.getD 1 d0).ll), .i ((a.getD 2 d0).ii), .i ((a.getD 3 d0).ii), .i ((a.getD 4 d0).ii), .i ((a.getD 5 d0).ii)]).bindR fun r1 =>
 .norm [.sl ((r1.getD 1 d0).ll), .i ((r1.getD 2 d0).ii), .i ((r1.getD 3 d0).ii), .i ((a.getD 0 d0).ii), .i ((r1.getD 0 d0).ii)]
 else
 .norm [.sl ((a.getD 1 d0).ll), .i ((a.getD 2 d0).ii), .i ((a.getD 3 d0).ii), .i ((a.getD 4 d0).ii), .i ((a.getD 5 d0).ii)]) fun v2 =>
 .ret [.sl ((v2.getD 0 d0).ll), .i ((v2.getD 1 d0).ii), .i ((v2.getD 2 d0).ii), .i ((v2.getD 3 d0).ii), .i ((v2.getD 4 d0).ii)]
def C_spec_l14Item (R : Nat → List DC → Out) (n : Nat) (a : List DC) : Out :=
 (R 15 [.sl ((a.getD 0 d0).ll), .i ((a.getD 1 d0).ii), .i ((a.getD 2 d0).ii), .i ((a.getD 3 d0).ii), .i ((a.getD 4 d0).ii)]).bindR fun r1 =>
 if (decide ((r1.getD 0 d0).ii > (0 : Int))) = true then
 (R 16 [.i ((r1.getD 0 d0).ii), .sl ((r1.getD 1 d0).ll), .i ((r1.getD 2 d0).ii), .i ((r1.getD 3 d0).ii), .i ((r1.getD 4 d0).ii), .i ((r1.getD 5 d0).ii)]).bindR fun r2 =>
 .ret [.i (1 : Int), .i ((r2.getD 0 d0).ii), .s ((r2.getD 1 d0).ss), .sl ((r2.getD 2 d0).ll), .sl ((r2.getD 3 d0).ll), .sl ((r2.getD 4 d0).ll), .s [], .s [], .sl [], .sl [], .i (0 : Int), .b false, .s [], .s [], .sl [], .sl [], .sl [], .sl [], .sl [], .b false, .sl [], .sl ((r2.getD 5 d0).ll), .i ((r2.getD 6 d0).ii), .i ((r2.getD 7 d0).ii), .i ((r2.getD 8 d0).ii), .i ((r2.getD 9 d0).ii)]
 else
 (R 17 [.s ([102, 114, 97, 103, 109, 101, 110, 116] : List UInt8), .sl ((r1.getD 1 d0).ll), .i ((r1.getD 2 d0).ii), .i ((r1.getD 3 d0).ii), .i ((r1.getD 4 d0).ii), .i ((r1.getD 5 d0).ii)]).bindR fun r3 =>
 if (r3.getD 0 d0).bb = true then
 (R 18 [.sl ((r3.getD 1 d0).ll), .i ((r3.getD 2 d0).ii), .i ((r3.getD 3 d0).ii), .i ((r3.getD 4 d0).ii), .i ((r3.getD 5 d0).ii)]).bindR fun r4 =>
 .ret [.i (2 : Int), .i (0 : Int), .s [], .sl [], .sl [], .sl [], .s ((r4.getD 0 d0).ss), .s ((r4.getD 1 d0).ss), .sl ((r4.getD 2 d0).ll), .sl ((r4.getD 3 d0).ll), .i (0 : Int), .b false, .s [], .s [], .sl [], .sl [], .sl [], .sl [], .sl [], .b false, .sl [], .sl ((r4.getD 4 d0).ll), .i ((r4.getD 5 d0).ii), .i ((r4.getD 6 d0).ii), .i ((r4.getD 7 d0).ii), .i ((r4.getD 8 d0).ii)]
 else
 (R 19 [.sl ((r3.getD 1 d0).ll), .i ((r3.getD 2 d0).ii), .i ((r3.getD 3 d0).ii), .i ((r3.getD 4 d0).ii), .i ((r3.getD 5 d0).ii)]).bindR fun r5 =>
 Out.andThen (if (decide ((r5.getD 2 d0).ii > (r3.getD 2 d0).ii)) = true then
 (R 17 [.s ([101, 120, 116, 101, 110, 100] : List UInt8), .sl ((r5.getD 1 d0).ll), .i ((r5.getD 2 d0).ii), .i ((r5.getD 3 d0).ii), .i ((r5.getD 4 d0).ii), .i ((r5.getD 5 d0).ii)]).bindR fun r6 =>
 .norm [.s ((r5.getD 0 d0).ss), .b ((r6.getD 0 d0).bb), .sl ((r6.getD 1 d0).ll), .i ((r6.getD 2 d0).ii), .i ((r6.getD 3 d0).ii), .i ((r6.getD 4 d0).ii), .i ((r6.getD 5 d0).ii), .i (0 : Int), .i (0 : Int), .s [], .s [], .s [], .i (0 : Int), .b false, .s [], .s [], .b false, .i (0 : Int), .b false, .s [], .s [], .b false]
 else
 .norm [.s ((r5.getD 0 d0).ss), .b false, .sl ((r5.getD 1 d0).ll), .i ((r5.getD 2 d0).ii), .i ((r5.getD 3 d0).ii), .i ((r5.getD 4 d0).ii), .i ((r5.getD 5 d0).ii), .i (0 : Int), .i (0 : Int), .s [], .s [], .s [], .i (0 : Int), .b false, .s [], .s [], .b false, .i (0 : Int), .b false, .s [], .s [], .b false]) fun v7 =>
 Out.andThen (if (v7.getD 1 d0).bb = true then
 (R 11 [.i (7 : Int), .sl ((v7.getD 2 d0).ll), .i ((v7.getD 3 d0).ii), .i ((v7.getD 4 d0).ii), .i ((v7.getD 5 d0).ii), .i ((v7.getD 6 d0).ii)]).bindR fun r8 =>
 .norm [.sl ((r8.getD 0 d0).ll), .i ((r8.getD 1 d0).ii), .i ((r8.getD 2 d0).ii), .i ((r8.getD 3 d0).ii), .i ((r8.getD 4 d0).ii), .i ((v7.getD 7 d0).ii), .i ((v7.getD 8 d0).ii), .s ((v7.getD 9 d0).ss), .s ((v7.getD 10 d0).ss), .s ((v7.getD 11 d0).ss), .i ((v7.getD 12 d0).ii), .b ((v7.getD 13 d0).bb), .s ((v7.getD 14 d0).ss), .s ((v7.getD 15 d0).ss), .b ((v7.getD 16 d0).bb), .i ((v7.getD 17 d0).ii), .b ((v7.getD 18 d0).bb), .s ((v7.getD 19 d0).ss), .s ((v7.getD 20 d0).ss), .sl [], .sl [], .sl [], .sl [], .sl [], .b ((v7.getD 21 d0).bb), .sl []]
 else
 (R 20 [.s ((v7.getD 0 d0).ss), .sl ((v7.getD 2 d0).ll), .i ((v7.getD 3 d0).ii), .i ((v7.getD 4 d0).ii), .i ((v7.getD 5 d0).ii), .i ((v7.getD 6 d0).ii)]).bindR fun r9 =>
 .norm [.sl ((r9.getD 11 d0).ll), .i ((r9.getD 12 d0).ii), .i ((r9.getD 13 d0).ii), .i ((r9.getD 14 d0).ii), .i ((r9.getD 15 d0).ii), .i ((v7.getD 7 d0).ii), .i ((v7.getD 8 d0).ii), .s ((v7.getD 9 d0).ss), .s ((v7.getD 10 d0).ss), .s ((v7.getD 11 d0).ss), .i ((v7.getD 12 d0).ii), .b ((v7.getD 13 d0).bb), .s ((v7.getD 14 d0).ss), .s ((v7.getD 15 d0).ss), .b ((v7.getD 16 d0).bb), .i ((r9.getD 0 d0).ii), .b ((r9.getD 1 d0).bb), .s ((r9.getD 2 d0).ss), .s ((r9.getD 3 d0).ss), .sl ((r9.getD 4 d0).ll), .sl ((r9.getD 5 d0).ll), .sl ((r9.getD 6 d0).ll), .sl ((r9.getD 7 d0).ll), .sl ((r9.getD 8 d0).ll), .b ((r9.getD 9 d0).bb), .sl ((r9.getD 10 d0).ll)]) fun v10 =>
 .ret [.i (3 : Int), .i (0 : Int), .s [], .sl [], .sl [], .sl [], .s [], .s [], .sl [], .sl [], .i ((v10.getD 15 d0).ii), .b ((v10.getD 16 d0).bb), .s ((v10.getD 17 d0).ss), .s ((v10.getD 18 d0).ss), .sl ((v10.getD 19 d0).ll), .sl ((v10.getD 20 d0).ll), .sl ((v10.getD 21 d0).ll), .sl ((v10.getD 22 d0).ll), .sl ((v10.getD 23 d0).ll), .b ((v10.getD 24 d0).bb), .sl ((v10.getD 25 d0).ll), .sl ((v10.getD 0 d0).ll), .i ((v10.getD 1 d0).ii), .i ((v10.getD 2 d0).ii), .i ((v10.getD 3 d0).ii), .i ((v10.getD 4 d0).ii)]
def C_spec_l14Starts (R : Nat → List DC → Out) (n : Nat) (a : List DC) : Out :=
 Out.andThen ((R 15 [.sl ((a.getD 0 d0).ll), .i ((a.getD 1 d0).ii), .i ((a.getD 2 d0).ii), .i ((a.getD 3 d0).ii), .i ((a.getD 4 d0).ii)]).bindR fun r1 =>
 if (decide ((r1.getD 0 d0).ii > (0 : Int))) = true then
 .norm [.b true, .sl ((r1.getD 1 d0).ll), .i ((r1.getD 2 d0).ii), .i ((r1.getD 3 d0).ii), .i ((r1.getD 4 d0).ii), .i ((r1.getD 5 d0).ii)]
 else
 (R 17 [.s ([102, 114, 97, 103, 109, 101, 110, 116] : List UInt8), .sl ((r1.getD 1 d0).ll), .i ((r1.getD 2 d0).ii), .i ((r1.getD 3 d0).ii), .i ((r1.getD 4 d0).ii), .i ((r1.getD 5 d0).ii)]).bindR fun r2 =>
 if (r2.getD 0 d0).bb = true then
 .norm [.b true, .sl ((r2.getD 1 d0).ll), .i ((r2.getD 2 d0).ii), .i ((r2.getD 3 d0).ii), .i ((r2.getD 4 d0).ii), .i ((r2.getD 5 d0).ii)]
 else
 (R 21 [.i (5 : Int), .sl ((r2.getD 1 d0).ll), .i ((r2.getD 2 d0).ii), .i ((r2.getD 3 d0).ii), .i ((r2.getD 4 d0).ii), .i ((r2.getD 5 d0).ii)]).bindR fun r3 =>
 if (r3.getD 0 d0).bb = true then
 .norm [.b true, .sl ((r3.getD 1 d0).ll), .i ((r3.getD 2 d0).ii), .i ((r3.getD 3 d0).ii), .i ((r3.getD 4 d0).ii), .i ((r3.getD 5 d0).ii)]
 else
 (R 17 [.s ([101, 120, 116, 101, 110, 100] : List UInt8), .sl ((r3.getD 1 d0).ll), .i ((r3.getD 2 d0).ii), .i ((r3.getD 3 d0).ii), .i ((r3.getD 4 d0).ii), .i ((r3.getD 5 d0).ii)]).bindR fun r4 =>
 if (r4.getD 0 d0).bb = true then
 .norm [.b true, .sl ((r4.getD 1 d0).ll), .i ((r4.getD 2 d0).ii), .i ((r4.getD 3 d0).ii), .i ((r4.getD 4 d0).ii), .i ((r4.getD 5 d0).ii)]
 else
 (R 22 [.sl ((r4.getD 1 d0).ll), .i ((r4.getD 2 d0).ii), .i ((r4.getD 3 d0).ii), .i ((r4.getD 4 d0).ii), .i ((r4.getD 5 d0).ii)]).bindR fun r5 =>
 .norm [.b (decide ((r5.getD 0 d0).ii > (0 : Int))), .sl ((r5.getD 1 d0).ll), .i ((r5.getD 2 d0).ii), .i ((r5.getD 3 d0).ii), .i ((r5.getD 4 d0).ii), .i ((r5.getD 5 d0).ii)]) fun v6 =>
 .ret [.b ((v6.getD 0 d0).bb), .sl ((v6.getD 1 d0).ll), .i ((v6.getD 2 d0).ii), .i ((v6.getD 3 d0).ii), .i ((v6.getD 4 d0).ii), .i ((v6.getD 5 d0).ii)]
def C_spec_l13Copy (R : Nat → List DC → Out) (n : Nat) (a : List DC) : Out :=
 if ([] : List (List DC)).length + ((a.getD 4 d0).ll).length < LIM then
 (R 23 [.sl ((a.getD 5 d0).ll)]).bindR fun r1 =>
 (R 24 [.sl ((a.getD 6 d0).ll)]).bindR fun r2 =>
 (R 25 [.sl ((a.getD 7 d0).ll)]).bindR fun r3 =>
 if ([] : List (List DC)).length + ((a.getD 8 d0).ll).length < LIM then
 (R 26 [.sl ((a.getD 10 d0).ll)]).bindR fun r4 =>
 .ret [.i ((a.getD 0 d0).ii), .b ((a.getD 1 d0).bb), .s ((a.getD 2 d0).ss), .s ((a.getD 3 d0).ss), .sl (([] : List (List DC)) ++ ((a.getD 4 d0).ll)), .sl ((r1.getD 0 d0).ll), .sl ((r2.getD 0 d0).ll), .sl ((r3.getD 0 d0).ll), .sl (([] : List (List DC)) ++ ((a.getD 8 d0).ll)), .b ((a.getD 9 d0).bb), .sl ((r4.getD 0 d0).ll)]
 else
 .fail
 else
 .fail
def C_spec_l08At (R : Nat → List DC → Out) (n : Nat) (a : List DC) : Out :=
 if (decide ((a.getD 1 d0).ii < (((a.getD 0 d0).ll).length : Int))) = true then
 if 153 = 153 ∧ 0 ≤ (a.getD 1 d0).ii ∧ (a.getD 1 d0).ii < (((a.getD 0 d0).ll).length : Int) then
 .ret [.i (((((a.getD 0 d0).ll).getD ((a.getD 1 d0).ii).toNat []).getD 2 d0).ii), .sl ((a.getD 0 d0).ll), .i ((a.getD 1 d0).ii), .i ((a.getD 2 d0).ii), .i ((a.getD 3 d0).ii), .i ((a.getD 4 d0).ii)]
 else
 .fail
 else
 .ret [.i ((a.getD 2 d0).ii), .sl ((a.getD 0 d0).ll), .i ((a.getD 1 d0).ii), .i ((a.getD 2 d0).ii), .i ((a.getD 3 d0).ii), .i ((a.getD 4 d0).ii)]
def C_spec_l08Word (R : Nat → List DC → Out) (n : Nat) (a : List DC) : Out :=
 Out.andThen (if ((a.getD 4 d0).ii == (0 : Int)) = true then
 if (decide ((a.getD 2 d0).ii < (((a.getD 1 d0).ll).length : Int))) = true then
 if 153 = 153 ∧ 0 ≤ (a.getD 2 d0).ii ∧ (a.getD 2 d0).ii < (((a.getD 1 d0).ll).length : Int) then
 if (((((a.getD 1 d0).ll).getD ((a.getD 2 d0).ii).toNat []).getD 0 d0).ii == (2 : Int)) = true then
 if 153 = 153 ∧ 0 ≤ (a.getD 2 d0).ii ∧ (a.getD 2 d0).ii < (((a.getD 1 d0).ll).length : Int) then
 .norm [.b (((((a.getD 1 d0).ll).getD ((a.getD 2 d0).ii).toNat []).getD 1 d0).ss == (a.getD 0 d0).ss), .sl ((a.getD 1 d0).ll), .i ((a.getD 2 d0).ii), .i ((a.getD 3 d0).ii), .i ((a.getD 4 d0).ii), .i ((a.getD 5 d0).ii)]
 else
 .fail
 else
 .norm [.b false, .sl ((a.getD 1 d0).ll), .i ((a.getD 2 d0).ii), .i ((a.getD 3 d0).ii), .i ((a.getD 4 d0).ii), .i ((a.getD 5 d0).ii)]
 else
 .fail
 else
 .norm [.b false, .sl ((a.getD 1 d0).ll), .i ((a.getD 2 d0).ii), .i ((a.getD 3 d0).ii), .i ((a.getD 4 d0).ii), .i ((a.getD 5 d0).ii)]
 else
 .norm [.b false, .sl ((a.getD 1 d0).ll), .i ((a.getD 2 d0).ii), .i ((a.getD 3 d0).ii), .i ((a.getD 4 d0).ii), .i ((a.getD 5 d0).ii)]) fun v1 =>
 .ret [.b ((v1.getD 0 d0).bb), .sl ((v1.getD 1 d0).ll), .i ((v1.getD 2 d0).ii), .i ((v1.getD 3 d0).ii), .i ((v1.getD 4 d0).ii), .i ((v1.getD 5 d0).ii)]
def C_spec_l12ReadFrag (R : Nat → List DC → Out) (n : Nat) (a : List DC) : Out :=
 (R 17 [.s ([111, 110] : List UInt8), .sl ((a.getD 0 d0).ll), .i (IntKind.i64.wrap ((a.getD 1 d0).ii + (1 : Int))), .i ((a.getD 2 d0).ii), .i ((a.getD 3 d0).ii), .i ((a.getD 4 d0).ii)]).bindR fun r1 =>
 Out.andThen (if (r1.getD 0 d0).bb = true then
 (R 11 [.i (7 : Int), .sl ((r1.getD 1 d0).ll), .i ((r1.getD 2 d0).ii), .i ((r1.getD 3 d0).ii), .i ((r1.getD 4 d0).ii), .i ((r1.getD 5 d0).ii)]).bindR fun r2 =>
 .norm [.sl ((r2.getD 0 d0).ll), .i ((r2.getD 1 d0).ii), .i ((r2.getD 2 d0).ii), .i ((r2.getD 3 d0).ii), .i ((r2.getD 4 d0).ii), .s [], .s [], .s [], .s []]
 else
 .norm [.sl ((r1.getD 1 d0).ll), .i ((r1.getD 2 d0).ii), .i ((r1.getD 3 d0).ii), .i ((r1.getD 4 d0).ii), .i ((r1.getD 5 d0).ii), .s [], .s [], .s [], .s []]) fun v3 =>
 (R 27 [.sl ((v3.getD 0 d0).ll), .i ((v3.getD 1 d0).ii), .i ((v3.getD 2 d0).ii), .i ((v3.getD 3 d0).ii), .i ((v3.getD 4 d0).ii)]).bindR fun r4 =>
 (R 17 [.s ([111, 110] : List UInt8), .sl ((r4.getD 1 d0).ll), .i ((r4.getD 2 d0).ii), .i ((r4.getD 3 d0).ii), .i ((r4.getD 4 d0).ii), .i ((r4.getD 5 d0).ii)]).bindR fun r5 =>
 Out.andThen (if (!((r5.getD 0 d0).bb)) = true then
 (R 11 [.i (7 : Int), .sl ((r5.getD 1 d0).ll), .i ((r5.getD 2 d0).ii), .i ((r5.getD 3 d0).ii), .i ((r5.getD 4 d0).ii), .i ((r5.getD 5 d0).ii)]).bindR fun r6 =>
 .norm [.sl ((r6.getD 0 d0).ll), .i ((r6.getD 1 d0).ii), .i ((r6.getD 2 d0).ii), .i ((r6.getD 3 d0).ii), .i ((r6.getD 4 d0).ii), .s ((v3.getD 5 d0).ss), .s ((v3.getD 6 d0).ss), .s ((r4.getD 0 d0).ss), .s ((v3.getD 8 d0).ss)]
 else
 .norm [.sl ((r5.getD 1 d0).ll), .i ((r5.getD 2 d0).ii), .i ((r5.getD 3 d0).ii), .i ((r5.getD 4 d0).ii), .i ((r5.getD 5 d0).ii), .s ((v3.getD 5 d0).ss), .s ((v3.getD 6 d0).ss), .s ((r4.getD 0 d0).ss), .s ((v3.getD 8 d0).ss)]) fun v7 =>
 (R 27 [.sl ((v7.getD 0 d0).ll), .i (IntKind.i64.wrap ((v7.getD 1 d0).ii + (1 : Int))), .i ((v7.getD 2 d0).ii), .i ((v7.getD 3 d0).ii), .i ((v7.getD 4 d0).ii)]).bindR fun r8 =>
 (R 28 [.b false, .sl ((r8.getD 1 d0).ll), .i ((r8.getD 2 d0).ii), .i ((r8.getD 3 d0).ii), .i ((r8.getD 4 d0).ii), .i ((r8.getD 5 d0).ii)]).bindR fun r9 =>
 (R 29 [.i (10 : Int), .sl ((r9.getD 1 d0).ll), .i ((r9.getD 2 d0).ii), .i ((r9.getD 3 d0).ii), .i ((r9.getD 4 d0).ii), .i ((r9.getD 5 d0).ii), .i (120 : Int)]).bindR fun r10 =>
 .ret [.s ((v7.getD 7 d0).ss), .s ((r8.getD 0 d0).ss), .sl ((r9.getD 0 d0).ll), .sl ((r10.getD 0 d0).ll), .sl ((r10.getD 1 d0).ll), .i ((r10.getD 2 d0).ii), .i ((r10.getD 3 d0).ii), .i ((r10.getD 4 d0).ii), .i ((r10.getD 5 d0).ii)]
def C_spec_l12ReadOp (R : Nat → List DC → Out) (n : Nat) (a : List DC) : Out :=
 (R 30 [.s ([123] : List UInt8), .sl ((a.getD 1 d0).ll), .i ((a.getD 2 d0).ii), .i ((a.getD 3 d0).ii), .i ((a.getD 4 d0).ii), .i ((a.getD 5 d0).ii)]).bindR fun r1 =>
 Out.andThen (if (!((r1.getD 0 d0).bb)) = true then
 (R 21 [.i (2 : Int), .sl ((r1.getD 1 d0).ll), .i (IntKind.i64.wrap ((r1.getD 2 d0).ii + (1 : Int))), .i ((r1.getD 3 d0).ii), .i ((r1.getD 4 d0).ii), .i ((r1.getD 5 d0).ii)]).bindR fun r2 =>
 Out.andThen (if (r2.getD 0 d0).bb = true then
 (R 27 [.sl ((r2.getD 1 d0).ll), .i ((r2.getD 2 d0).ii), .i ((r2.getD 3 d0).ii), .i ((r2.getD 4 d0).ii), .i ((r2.getD 5 d0).ii)]).bindR fun r3 =>
 .norm [.sl ((r3.getD 1 d0).ll), .i ((r3.getD 2 d0).ii), .i ((r3.getD 3 d0).ii), .i ((r3.getD 4 d0).ii), .i ((r3.getD 5 d0).ii), .i (0 : Int), .s [], .i ((a.getD 0 d0).ii), .s ((r3.getD 0 d0).ss)]
 else
 .norm [.sl ((r2.getD 1 d0).ll), .i ((r2.getD 2 d0).ii), .i ((r2.getD 3 d0).ii), .i ((r2.getD 4 d0).ii), .i ((r2.getD 5 d0).ii), .i (0 : Int), .s [], .i ((a.getD 0 d0).ii), .s []]) fun v4 =>
 (R 31 [.sl ((v4.getD 0 d0).ll), .i ((v4.getD 1 d0).ii), .i ((v4.getD 2 d0).ii), .i ((v4.getD 3 d0).ii), .i ((v4.getD 4 d0).ii)]).bindR fun r5 =>
 (R 28 [.b false, .sl ((r5.getD 1 d0).ll), .i ((r5.getD 2 d0).ii), .i ((r5.getD 3 d0).ii), .i ((r5.getD 4 d0).ii), .i ((r5.getD 5 d0).ii)]).bindR fun r6 =>
 .norm [.sl ((r6.getD 1 d0).ll), .i ((r6.getD 2 d0).ii), .i ((r6.getD 3 d0).ii), .i ((r6.getD 4 d0).ii), .i ((r6.getD 5 d0).ii), .i ((v4.getD 5 d0).ii), .s ((v4.getD 6 d0).ss), .i ((v4.getD 7 d0).ii), .s ((v4.getD 8 d0).ss), .sl ((r5.getD 0 d0).ll), .sl ((r6.getD 0 d0).ll)]
 else
 .norm [.sl ((r1.getD 1 d0).ll), .i ((r1.getD 2 d0).ii), .i ((r1.getD 3 d0).ii), .i ((r1.getD 4 d0).ii), .i ((r1.getD 5 d0).ii), .i (0 : Int), .s [], .i ((a.getD 0 d0).ii), .s [], .sl [], .sl []]) fun v7 =>
 (R 29 [.i (10 : Int), .sl ((v7.getD 0 d0).ll), .i ((v7.getD 1 d0).ii), .i ((v7.getD 2 d0).ii), .i ((v7.getD 3 d0).ii), .i ((v7.getD 4 d0).ii), .i (120 : Int)]).bindR fun r8 =>
 .ret [.i ((v7.getD 7 d0).ii), .s ((v7.getD 8 d0).ss), .sl ((v7.getD 9 d0).ll), .sl ((v7.getD 10 d0).ll), .sl ((r8.getD 0 d0).ll), .sl ((r8.getD 1 d0).ll), .i ((r8.getD 2 d0).ii), .i ((r8.getD 3 d0).ii), .i ((r8.getD 4 d0).ii), .i ((r8.getD 5 d0).ii)]
def C_spec_l13Read (R : Nat → List DC → Out) (n : Nat) (a : List DC) : Out :=
 Out.andThen (if ((a.getD 0 d0).ss == ([] : List UInt8)) = true then
 (R 17 [.s ([101, 120, 116, 101, 110, 100] : List UInt8), .sl ((a.getD 1 d0).ll), .i ((a.getD 2 d0).ii), .i ((a.getD 3 d0).ii), .i ((a.getD 4 d0).ii), .i ((a.getD 5 d0).ii)]).bindR fun r1 =>
 .norm [.b ((r1.getD 0 d0).bb), .sl ((r1.getD 1 d0).ll), .i ((r1.getD 2 d0).ii), .i ((r1.getD 3 d0).ii), .i ((r1.getD 4 d0).ii), .i ((r1.getD 5 d0).ii), .i (0 : Int), .b false, .s [], .s [], .b false, .i (0 : Int), .b false, .s ((a.getD 0 d0).ss), .s [], .b false]
 else
 .norm [.b false, .sl ((a.getD 1 d0).ll), .i ((a.getD 2 d0).ii), .i ((a.getD 3 d0).ii), .i ((a.getD 4 d0).ii), .i ((a.getD 5 d0).ii), .i (0 : Int), .b false, .s [], .s [], .b false, .i (0 : Int), .b false, .s ((a.getD 0 d0).ss), .s [], .b false]) fun v2 =>
 Out.andThen (if (v2.getD 0 d0).bb = true then
 .norm [.sl ((v2.getD 1 d0).ll), .i (IntKind.i64.wrap ((v2.getD 2 d0).ii + (1 : Int))), .i ((v2.getD 3 d0).ii), .i ((v2.getD 4 d0).ii), .i ((v2.getD 5 d0).ii), .i ((v2.getD 6 d0).ii), .b ((v2.getD 7 d0).bb), .s ((v2.getD 8 d0).ss), .s ((v2.getD 9 d0).ss), .b ((v2.getD 10 d0).bb), .i ((v2.getD 11 d0).ii), .b true, .s ((v2.getD 13 d0).ss), .s ((v2.getD 14 d0).ss), .b ((v2.getD 15 d0).bb)]
 else
 .norm [.sl ((v2.getD 1 d0).ll), .i ((v2.getD 2 d0).ii), .i ((v2.getD 3 d0).ii), .i ((v2.getD 4 d0).ii), .i ((v2.getD 5 d0).ii), .i ((v2.getD 6 d0).ii), .b ((v2.getD 7 d0).bb), .s ((v2.getD 8 d0).ss), .s ((v2.getD 9 d0).ss), .b ((v2.getD 10 d0).bb), .i ((v2.getD 11 d0).ii), .b ((v2.getD 12 d0).bb), .s ((v2.getD 13 d0).ss), .s ((v2.getD 14 d0).ss), .b ((v2.getD 15 d0).bb)]) fun v3 =>
 (R 22 [.sl ((v3.getD 0 d0).ll), .i ((v3.getD 1 d0).ii), .i ((v3.getD 2 d0).ii), .i ((v3.getD 3 d0).ii), .i ((v3.getD 4 d0).ii)]).bindR fun r4 =>
 Out.andThen (if ((r4.getD 0 d0).ii == (0 : Int)) = true then
 .norm [.b true, .sl ((r4.getD 1 d0).ll), .i ((r4.getD 2 d0).ii), .i ((r4.getD 3 d0).ii), .i ((r4.getD 4 d0).ii), .i ((r4.getD 5 d0).ii), .i ((v3.getD 5 d0).ii), .b ((v3.getD 6 d0).bb), .s ((v3.getD 7 d0).ss), .s ((v3.getD 8 d0).ss), .b ((v3.getD 9 d0).bb), .i ((r4.getD 0 d0).ii), .b ((v3.getD 11 d0).bb), .s ((v3.getD 12 d0).ss), .s ((v3.getD 13 d0).ss), .b ((v3.getD 14 d0).bb)]
 else
 if (v3.getD 11 d0).bb = true then
 .norm [.b ((r4.getD 0 d0).ii == (7 : Int)), .sl ((r4.getD 1 d0).ll), .i ((r4.getD 2 d0).ii), .i ((r4.getD 3 d0).ii), .i ((r4.getD 4 d0).ii), .i ((r4.getD 5 d0).ii), .i ((v3.getD 5 d0).ii), .b ((v3.getD 6 d0).bb), .s ((v3.getD 7 d0).ss), .s ((v3.getD 8 d0).ss), .b ((v3.getD 9 d0).bb), .i ((r4.getD 0 d0).ii), .b ((v3.getD 11 d0).bb), .s ((v3.getD 12 d0).ss), .s ((v3.getD 13 d0).ss), .b ((v3.getD 14 d0).bb)]
 else
 .norm [.b false, .sl ((r4.getD 1 d0).ll), .i ((r4.getD 2 d0).ii), .i ((r4.getD 3 d0).ii), .i ((r4.getD 4 d0).ii), .i ((r4.getD 5 d0).ii), .i ((v3.getD 5 d0).ii), .b ((v3.getD 6 d0).bb), .s ((v3.getD 7 d0).ss), .s ((v3.getD 8 d0).ss), .b ((v3.getD 9 d0).bb), .i ((r4.getD 0 d0).ii), .b ((v3.getD 11 d0).bb), .s ((v3.getD 12 d0).ss), .s ((v3.getD 13 d0).ss), .b ((v3.getD 14 d0).bb)]) fun v5 =>
 if (v5.getD 0 d0).bb = true then
 (R 11 [.i (7 : Int), .sl ((v5.getD 1 d0).ll), .i ((v5.getD 2 d0).ii), .i ((v5.getD 3 d0).ii), .i ((v5.getD 4 d0).ii), .i ((v5.getD 5 d0).ii)]).bindR fun r6 =>
 .ret [.i ((v5.getD 11 d0).ii), .b ((v5.getD 12 d0).bb), .s ((v5.getD 13 d0).ss), .s ((v5.getD 14 d0).ss), .sl [], .sl [], .sl [], .sl [], .sl [], .b ((v5.getD 15 d0).bb), .sl [], .sl ((r6.getD 0 d0).ll), .i ((r6.getD 1 d0).ii), .i ((r6.getD 2 d0).ii), .i ((r6.getD 3 d0).ii), .i ((r6.getD 4 d0).ii)]
 else
 Out.andThen (if ((v5.getD 11 d0).ii == (7 : Int)) = true then
 (R 32 [.s ([64] : List UInt8), .sl ((v5.getD 1 d0).ll), .i (IntKind.i64.wrap ((v5.getD 2 d0).ii + (1 : Int))), .i ((v5.getD 3 d0).ii), .i ((v5.getD 4 d0).ii), .i ((v5.getD 5 d0).ii)]).bindR fun r7 =>
 .norm [.sl ((r7.getD 0 d0).ll), .i ((r7.getD 1 d0).ii), .i ((r7.getD 2 d0).ii), .i ((r7.getD 3 d0).ii), .i ((r7.getD 4 d0).ii), .i ((v5.getD 6 d0).ii), .b ((v5.getD 7 d0).bb), .s ((v5.getD 8 d0).ss), .s ((v5.getD 9 d0).ss), .b ((v5.getD 10 d0).bb), .i ((v5.getD 11 d0).ii), .b ((v5.getD 12 d0).bb), .s ((v5.getD 13 d0).ss), .s ((v5.getD 14 d0).ss), .b ((v5.getD 15 d0).bb)]
 else
 .norm [.sl ((v5.getD 1 d0).ll), .i (IntKind.i64.wrap ((v5.getD 2 d0).ii + (1 : Int))), .i ((v5.getD 3 d0).ii), .i ((v5.getD 4 d0).ii), .i ((v5.getD 5 d0).ii), .i ((v5.getD 6 d0).ii), .b ((v5.getD 7 d0).bb), .s ((v5.getD 8 d0).ss), .s ((v5.getD 9 d0).ss), .b ((v5.getD 10 d0).bb), .i ((v5.getD 11 d0).ii), .b ((v5.getD 12 d0).bb), .s ((v5.getD 13 d0).ss), .s ((v5.getD 14 d0).ss), .b ((v5.getD 15 d0).bb)]) fun v8 =>
 Out.andThen (if ((v8.getD 10 d0).ii != (8 : Int)) = true then
 (R 27 [.sl ((v8.getD 0 d0).ll), .i ((v8.getD 1 d0).ii), .i ((v8.getD 2 d0).ii), .i ((v8.getD 3 d0).ii), .i ((v8.getD 4 d0).ii)]).bindR fun r9 =>
 .norm [.sl ((r9.getD 1 d0).ll), .i ((r9.getD 2 d0).ii), .i ((r9.getD 3 d0).ii), .i ((r9.getD 4 d0).ii), .i ((r9.getD 5 d0).ii), .i ((v8.getD 5 d0).ii), .b ((v8.getD 6 d0).bb), .s ((v8.getD 7 d0).ss), .s ((v8.getD 8 d0).ss), .b ((v8.getD 9 d0).bb), .i ((v8.getD 10 d0).ii), .b ((v8.getD 11 d0).bb), .s ((v8.getD 12 d0).ss), .s ((r9.getD 0 d0).ss), .b ((v8.getD 14 d0).bb)]
 else
 .norm [.sl ((v8.getD 0 d0).ll), .i ((v8.getD 1 d0).ii), .i ((v8.getD 2 d0).ii), .i ((v8.getD 3 d0).ii), .i ((v8.getD 4 d0).ii), .i ((v8.getD 5 d0).ii), .b ((v8.getD 6 d0).bb), .s ((v8.getD 7 d0).ss), .s ((v8.getD 8 d0).ss), .b ((v8.getD 9 d0).bb), .i ((v8.getD 10 d0).ii), .b ((v8.getD 11 d0).bb), .s ((v8.getD 12 d0).ss), .s ((v8.getD 13 d0).ss), .b ((v8.getD 14 d0).bb)]) fun v10 =>
 if ((v10.getD 10 d0).ii == (7 : Int)) = true then
 (R 33 [.s ([40] : List UInt8), .s ([41] : List UInt8), .sl ((v10.getD 0 d0).ll), .i ((v10.getD 1 d0).ii), .i ((v10.getD 2 d0).ii), .i ((v10.getD 3 d0).ii), .i ((v10.getD 4 d0).ii)]).bindR fun r11 =>
 (R 17 [.s ([114, 101, 112, 101, 97, 116, 97, 98, 108, 101] : List UInt8), .sl ((r11.getD 1 d0).ll), .i ((r11.getD 2 d0).ii), .i ((r11.getD 3 d0).ii), .i ((r11.getD 4 d0).ii), .i ((r11.getD 5 d0).ii)]).bindR fun r12 =>
 Out.andThen (if (r12.getD 0 d0).bb = true then
 .norm [.sl ((r12.getD 1 d0).ll), .i (IntKind.i64.wrap ((r12.getD 2 d0).ii + (1 : Int))), .i ((r12.getD 3 d0).ii), .i ((r12.getD 4 d0).ii), .i ((r12.getD 5 d0).ii), .i ((v10.getD 5 d0).ii), .b ((v10.getD 6 d0).bb), .s ((v10.getD 7 d0).ss), .s ((v10.getD 8 d0).ss), .b ((v10.getD 9 d0).bb), .i ((v10.getD 10 d0).ii), .b ((v10.getD 11 d0).bb), .s ((v10.getD 12 d0).ss), .s ((v10.getD 13 d0).ss), .sl ((r11.getD 0 d0).ll), .b true]
 else
 .norm [.sl ((r12.getD 1 d0).ll), .i ((r12.getD 2 d0).ii), .i ((r12.getD 3 d0).ii), .i ((r12.getD 4 d0).ii), .i ((r12.getD 5 d0).ii), .i ((v10.getD 5 d0).ii), .b ((v10.getD 6 d0).bb), .s ((v10.getD 7 d0).ss), .s ((v10.getD 8 d0).ss), .b ((v10.getD 9 d0).bb), .i ((v10.getD 10 d0).ii), .b ((v10.getD 11 d0).bb), .s ((v10.getD 12 d0).ss), .s ((v10.getD 13 d0).ss), .sl ((r11.getD 0 d0).ll), .b ((v10.getD 14 d0).bb)]) fun v13 =>
 (R 17 [.s ([111, 110] : List UInt8), .sl ((v13.getD 0 d0).ll), .i ((v13.getD 1 d0).ii), .i ((v13.getD 2 d0).ii), .i ((v13.getD 3 d0).ii), .i ((v13.getD 4 d0).ii)]).bindR fun r14 =>
 Out.andThen (if (!((r14.getD 0 d0).bb)) = true then
 (R 11 [.i (7 : Int), .sl ((r14.getD 1 d0).ll), .i ((r14.getD 2 d0).ii), .i ((r14.getD 3 d0).ii), .i ((r14.getD 4 d0).ii), .i ((r14.getD 5 d0).ii)]).bindR fun r15 =>
 .norm [.sl ((r15.getD 0 d0).ll), .i ((r15.getD 1 d0).ii), .i ((r15.getD 2 d0).ii), .i ((r15.getD 3 d0).ii), .i ((r15.getD 4 d0).ii), .i ((v13.getD 5 d0).ii), .b ((v13.getD 6 d0).bb), .s ((v13.getD 7 d0).ss), .s ((v13.getD 8 d0).ss), .b ((v13.getD 9 d0).bb), .i ((v13.getD 10 d0).ii), .b ((v13.getD 11 d0).bb), .s ((v13.getD 12 d0).ss), .s ((v13.getD 13 d0).ss), .sl ((v13.getD 14 d0).ll), .b ((v13.getD 15 d0).bb)]
 else
 .norm [.sl ((r14.getD 1 d0).ll), .i ((r14.getD 2 d0).ii), .i ((r14.getD 3 d0).ii), .i ((r14.getD 4 d0).ii), .i ((r14.getD 5 d0).ii), .i ((v13.getD 5 d0).ii), .b ((v13.getD 6 d0).bb), .s ((v13.getD 7 d0).ss), .s ((v13.getD 8 d0).ss), .b ((v13.getD 9 d0).bb), .i ((v13.getD 10 d0).ii), .b ((v13.getD 11 d0).bb), .s ((v13.getD 12 d0).ss), .s ((v13.getD 13 d0).ss), .sl ((v13.getD 14 d0).ll), .b ((v13.getD 15 d0).bb)]) fun v16 =>
 (R 34 [.sl ((v16.getD 0 d0).ll), .i (IntKind.i64.wrap ((v16.getD 1 d0).ii + (1 : Int))), .i ((v16.getD 2 d0).ii), .i ((v16.getD 3 d0).ii), .i ((v16.getD 4 d0).ii)]).bindR fun r17 =>
 .ret [.i ((v16.getD 10 d0).ii), .b ((v16.getD 11 d0).bb), .s ((v16.getD 12 d0).ss), .s ((v16.getD 13 d0).ss), .sl ((r17.getD 0 d0).ll), .sl [], .sl ((v16.getD 14 d0).ll), .sl [], .sl [], .b ((v16.getD 15 d0).bb), .sl [], .sl ((r17.getD 1 d0).ll), .i ((r17.getD 2 d0).ii), .i ((r17.getD 3 d0).ii), .i ((r17.getD 4 d0).ii), .i ((r17.getD 5 d0).ii)]
 else
 Out.andThen (if ((v10.getD 10 d0).ii == (2 : Int)) = true then
 (R 17 [.s ([105, 109, 112, 108, 101, 109, 101, 110, 116, 115] : List UInt8), .sl ((v10.getD 0 d0).ll), .i ((v10.getD 1 d0).ii), .i ((v10.getD 2 d0).ii), .i ((v10.getD 3 d0).ii), .i ((v10.getD 4 d0).ii)]).bindR fun r18 =>
 .norm [.b ((r18.getD 0 d0).bb), .sl ((r18.getD 1 d0).ll), .i ((r18.getD 2 d0).ii), .i ((r18.getD 3 d0).ii), .i ((r18.getD 4 d0).ii), .i ((r18.getD 5 d0).ii), .i ((v10.getD 5 d0).ii), .b ((v10.getD 6 d0).bb), .s ((v10.getD 7 d0).ss), .s ((v10.getD 8 d0).ss), .b ((v10.getD 9 d0).bb), .i ((v10.getD 10 d0).ii), .b ((v10.getD 11 d0).bb), .s ((v10.getD 12 d0).ss), .s ((v10.getD 13 d0).ss), .b ((v10.getD 14 d0).bb)]
 else
 if ((v10.getD 10 d0).ii == (3 : Int)) = true then
 (R 17 [.s ([105, 109, 112, 108, 101, 109, 101, 110, 116, 115] : List UInt8), .sl ((v10.getD 0 d0).ll), .i ((v10.getD 1 d0).ii), .i ((v10.getD 2 d0).ii), .i ((v10.getD 3 d0).ii), .i ((v10.getD 4 d0).ii)]).bindR fun r19 =>
 .norm [.b ((r19.getD 0 d0).bb), .sl ((r19.getD 1 d0).ll), .i ((r19.getD 2 d0).ii), .i ((r19.getD 3 d0).ii), .i ((r19.getD 4 d0).ii), .i ((r19.getD 5 d0).ii), .i ((v10.getD 5 d0).ii), .b ((v10.getD 6 d0).bb), .s ((v10.getD 7 d0).ss), .s ((v10.getD 8 d0).ss), .b ((v10.getD 9 d0).bb), .i ((v10.getD 10 d0).ii), .b ((v10.getD 11 d0).bb), .s ((v10.getD 12 d0).ss), .s ((v10.getD 13 d0).ss), .b ((v10.getD 14 d0).bb)]
 else
 .norm [.b false, .sl ((v10.getD 0 d0).ll), .i ((v10.getD 1 d0).ii), .i ((v10.getD 2 d0).ii), .i ((v10.getD 3 d0).ii), .i ((v10.getD 4 d0).ii), .i ((v10.getD 5 d0).ii), .b ((v10.getD 6 d0).bb), .s ((v10.getD 7 d0).ss), .s ((v10.getD 8 d0).ss), .b ((v10.getD 9 d0).bb), .i ((v10.getD 10 d0).ii), .b ((v10.getD 11 d0).bb), .s ((v10.getD 12 d0).ss), .s ((v10.getD 13 d0).ss), .b ((v10.getD 14 d0).bb)]) fun v20 =>
 Out.andThen (if (v20.getD 0 d0).bb = true then
 (R 35 [.s ([38] : List UInt8), .sl ((v20.getD 1 d0).ll), .i (IntKind.i64.wrap ((v20.getD 2 d0).ii + (1 : Int))), .i ((v20.getD 3 d0).ii), .i ((v20.getD 4 d0).ii), .i ((v20.getD 5 d0).ii)]).bindR fun r21 =>
 .norm [.sl ((r21.getD 1 d0).ll), .i ((r21.getD 2 d0).ii), .i ((r21.getD 3 d0).ii), .i ((r21.getD 4 d0).ii), .i ((r21.getD 5 d0).ii), .i ((v20.getD 6 d0).ii), .b ((v20.getD 7 d0).bb), .s ((v20.getD 8 d0).ss), .s ((v20.getD 9 d0).ss), .b ((v20.getD 10 d0).bb), .i ((v20.getD 11 d0).ii), .b ((v20.getD 12 d0).bb), .s ((v20.getD 13 d0).ss), .s ((v20.getD 14 d0).ss), .sl ((r21.getD 0 d0).ll), .b ((v20.getD 15 d0).bb)]
 else
 .norm [.sl ((v20.getD 1 d0).ll), .i ((v20.getD 2 d0).ii), .i ((v20.getD 3 d0).ii), .i ((v20.getD 4 d0).ii), .i ((v20.getD 5 d0).ii), .i ((v20.getD 6 d0).ii), .b ((v20.getD 7 d0).bb), .s ((v20.getD 8 d0).ss), .s ((v20.getD 9 d0).ss), .b ((v20.getD 10 d0).bb), .i ((v20.getD 11 d0).ii), .b ((v20.getD 12 d0).bb), .s ((v20.getD 13 d0).ss), .s ((v20.getD 14 d0).ss), .sl [], .b ((v20.getD 15 d0).bb)]) fun v22 =>
 (R 28 [.b true, .sl ((v22.getD 0 d0).ll), .i ((v22.getD 1 d0).ii), .i ((v22.getD 2 d0).ii), .i ((v22.getD 3 d0).ii), .i ((v22.getD 4 d0).ii)]).bindR fun r23 =>
 Out.andThenB (Out.andThen (if ((v22.getD 10 d0).ii == (2 : Int)) = true then
 .norm [.i ((v22.getD 10 d0).ii), .b ((v22.getD 10 d0).ii == (2 : Int)), .sl ((r23.getD 1 d0).ll), .i ((r23.getD 2 d0).ii), .i ((r23.getD 3 d0).ii), .i ((r23.getD 4 d0).ii), .i ((r23.getD 5 d0).ii), .i ((v22.getD 5 d0).ii), .b ((v22.getD 6 d0).bb), .s ((v22.getD 7 d0).ss), .s ((v22.getD 8 d0).ss), .b ((v22.getD 9 d0).bb), .i ((v22.getD 10 d0).ii), .b ((v22.getD 11 d0).bb), .s ((v22.getD 12 d0).ss), .s ((v22.getD 13 d0).ss), .sl ((v22.getD 14 d0).ll), .b ((v22.getD 15 d0).bb), .sl ((r23.getD 0 d0).ll)]
 else
 .norm [.i ((v22.getD 10 d0).ii), .b ((v22.getD 10 d0).ii == (3 : Int)), .sl ((r23.getD 1 d0).ll), .i ((r23.getD 2 d0).ii), .i ((r23.getD 3 d0).ii), .i ((r23.getD 4 d0).ii), .i ((r23.getD 5 d0).ii), .i ((v22.getD 5 d0).ii), .b ((v22.getD 6 d0).bb), .s ((v22.getD 7 d0).ss), .s ((v22.getD 8 d0).ss), .b ((v22.getD 9 d0).bb), .i ((v22.getD 10 d0).ii), .b ((v22.getD 11 d0).bb), .s ((v22.getD 12 d0).ss), .s ((v22.getD 13 d0).ss), .sl ((v22.getD 14 d0).ll), .b ((v22.getD 15 d0).bb), .sl ((r23.getD 0 d0).ll)]) fun v24 =>
 Out.andThen (if (v24.getD 1 d0).bb = true then
 (R 36 [.sl ((v24.getD 2 d0).ll), .i ((v24.getD 3 d0).ii), .i ((v24.getD 4 d0).ii), .i ((v24.getD 5 d0).ii), .i ((v24.getD 6 d0).ii)]).bindR fun r25 =>
 .norm [.sl ((r25.getD 1 d0).ll), .i ((r25.getD 2 d0).ii), .i ((r25.getD 3 d0).ii), .i ((r25.getD 4 d0).ii), .i ((r25.getD 5 d0).ii), .i ((v24.getD 7 d0).ii), .b ((v24.getD 8 d0).bb), .s ((v24.getD 9 d0).ss), .s ((v24.getD 10 d0).ss), .b ((v24.getD 11 d0).bb), .i ((v24.getD 12 d0).ii), .b ((v24.getD 13 d0).bb), .s ((v24.getD 14 d0).ss), .s ((v24.getD 15 d0).ss), .sl ((v24.getD 16 d0).ll), .sl ((r25.getD 0 d0).ll), .sl [], .sl [], .sl [], .b ((v24.getD 17 d0).bb), .sl ((v24.getD 18 d0).ll)]
 else
 Out.andThen (if ((v24.getD 0 d0).ii == (4 : Int)) = true then
 (R 37 [.s ([61] : List UInt8), .sl ((v24.getD 2 d0).ll), .i ((v24.getD 3 d0).ii), .i ((v24.getD 4 d0).ii), .i ((v24.getD 5 d0).ii), .i ((v24.getD 6 d0).ii)]).bindR fun r26 =>
 Out.andThen (if (r26.getD 0 d0).bb = true then
 (R 35 [.s ([124] : List UInt8), .sl ((r26.getD 1 d0).ll), .i ((r26.getD 2 d0).ii), .i ((r26.getD 3 d0).ii), .i ((r26.getD 4 d0).ii), .i ((r26.getD 5 d0).ii)]).bindR fun r27 =>
 .norm [.sl ((r27.getD 1 d0).ll), .i ((r27.getD 2 d0).ii), .i ((r27.getD 3 d0).ii), .i ((r27.getD 4 d0).ii), .i ((r27.getD 5 d0).ii), .i ((v24.getD 7 d0).ii), .b ((v24.getD 8 d0).bb), .s ((v24.getD 9 d0).ss), .s ((v24.getD 10 d0).ss), .b ((v24.getD 11 d0).bb), .i ((v24.getD 12 d0).ii), .b ((v24.getD 13 d0).bb), .s ((v24.getD 14 d0).ss), .s ((v24.getD 15 d0).ss), .sl ((r27.getD 0 d0).ll), .b ((v24.getD 17 d0).bb), .sl ((v24.getD 18 d0).ll)]
 else
 .norm [.sl ((r26.getD 1 d0).ll), .i ((r26.getD 2 d0).ii), .i ((r26.getD 3 d0).ii), .i ((r26.getD 4 d0).ii), .i ((r26.getD 5 d0).ii), .i ((v24.getD 7 d0).ii), .b ((v24.getD 8 d0).bb), .s ((v24.getD 9 d0).ss), .s ((v24.getD 10 d0).ss), .b ((v24.getD 11 d0).bb), .i ((v24.getD 12 d0).ii), .b ((v24.getD 13 d0).bb), .s ((v24.getD 14 d0).ss), .s ((v24.getD 15 d0).ss), .sl ((v24.getD 16 d0).ll), .b ((v24.getD 17 d0).bb), .sl ((v24.getD 18 d0).ll)]) fun v28 =>
 .norm [.sl ((v28.getD 0 d0).ll), .i ((v28.getD 1 d0).ii), .i ((v28.getD 2 d0).ii), .i ((v28.getD 3 d0).ii), .i ((v28.getD 4 d0).ii), .i ((v28.getD 5 d0).ii), .b ((v28.getD 6 d0).bb), .s ((v28.getD 7 d0).ss), .s ((v28.getD 8 d0).ss), .b ((v28.getD 9 d0).bb), .i ((v28.getD 10 d0).ii), .b ((v28.getD 11 d0).bb), .s ((v28.getD 12 d0).ss), .s ((v28.getD 13 d0).ss), .sl ((v28.getD 14 d0).ll), .sl [], .sl [], .sl [], .b ((v28.getD 15 d0).bb), .sl ((v28.getD 16 d0).ll)]
 else
 Out.andThen (if ((v24.getD 0 d0).ii == (5 : Int)) = true then
 (R 38 [.sl ((v24.getD 2 d0).ll), .i ((v24.getD 3 d0).ii), .i ((v24.getD 4 d0).ii), .i ((v24.getD 5 d0).ii), .i ((v24.getD 6 d0).ii)]).bindR fun r29 =>
 .norm [.sl ((r29.getD 1 d0).ll), .i ((r29.getD 2 d0).ii), .i ((r29.getD 3 d0).ii), .i ((r29.getD 4 d0).ii), .i ((r29.getD 5 d0).ii), .i ((v24.getD 7 d0).ii), .b ((v24.getD 8 d0).bb), .s ((v24.getD 9 d0).ss), .s ((v24.getD 10 d0).ss), .b ((v24.getD 11 d0).bb), .i ((v24.getD 12 d0).ii), .b ((v24.getD 13 d0).bb), .s ((v24.getD 14 d0).ss), .s ((v24.getD 15 d0).ss), .sl ((v24.getD 16 d0).ll), .sl [], .sl ((r29.getD 0 d0).ll), .sl [], .b ((v24.getD 17 d0).bb), .sl ((v24.getD 18 d0).ll)]
 else
 Out.andThen (if ((v24.getD 0 d0).ii == (6 : Int)) = true then
 (R 33 [.s ([123] : List UInt8), .s ([125] : List UInt8), .sl ((v24.getD 2 d0).ll), .i ((v24.getD 3 d0).ii), .i ((v24.getD 4 d0).ii), .i ((v24.getD 5 d0).ii), .i ((v24.getD 6 d0).ii)]).bindR fun r30 =>
 .norm [.sl ((r30.getD 1 d0).ll), .i ((r30.getD 2 d0).ii), .i ((r30.getD 3 d0).ii), .i ((r30.getD 4 d0).ii), .i ((r30.getD 5 d0).ii), .i ((v24.getD 7 d0).ii), .b ((v24.getD 8 d0).bb), .s ((v24.getD 9 d0).ss), .s ((v24.getD 10 d0).ss), .b ((v24.getD 11 d0).bb), .i ((v24.getD 12 d0).ii), .b ((v24.getD 13 d0).bb), .s ((v24.getD 14 d0).ss), .s ((v24.getD 15 d0).ss), .sl ((v24.getD 16 d0).ll), .sl ((r30.getD 0 d0).ll), .sl [], .b ((v24.getD 17 d0).bb), .sl ((v24.getD 18 d0).ll)]
 else
 Out.andThen (if ((v24.getD 0 d0).ii == (8 : Int)) = true then
 Out.andThen (if (!((v24.getD 13 d0).bb)) = true then
 (R 30 [.s ([123] : List UInt8), .sl ((v24.getD 2 d0).ll), .i ((v24.getD 3 d0).ii), .i ((v24.getD 4 d0).ii), .i ((v24.getD 5 d0).ii), .i ((v24.getD 6 d0).ii)]).bindR fun r31 =>
 .norm [.b (!((r31.getD 0 d0).bb)), .sl ((r31.getD 1 d0).ll), .i ((r31.getD 2 d0).ii), .i ((r31.getD 3 d0).ii), .i ((r31.getD 4 d0).ii), .i ((r31.getD 5 d0).ii), .i ((v24.getD 7 d0).ii), .b ((v24.getD 8 d0).bb), .s ((v24.getD 9 d0).ss), .s ((v24.getD 10 d0).ss), .b ((v24.getD 11 d0).bb), .i ((v24.getD 12 d0).ii), .b ((v24.getD 13 d0).bb), .s ((v24.getD 14 d0).ss), .s ((v24.getD 15 d0).ss), .sl ((v24.getD 16 d0).ll), .b ((v24.getD 17 d0).bb), .sl ((v24.getD 18 d0).ll)]
 else
 .norm [.b false, .sl ((v24.getD 2 d0).ll), .i ((v24.getD 3 d0).ii), .i ((v24.getD 4 d0).ii), .i ((v24.getD 5 d0).ii), .i ((v24.getD 6 d0).ii), .i ((v24.getD 7 d0).ii), .b ((v24.getD 8 d0).bb), .s ((v24.getD 9 d0).ss), .s ((v24.getD 10 d0).ss), .b ((v24.getD 11 d0).bb), .i ((v24.getD 12 d0).ii), .b ((v24.getD 13 d0).bb), .s ((v24.getD 14 d0).ss), .s ((v24.getD 15 d0).ss), .sl ((v24.getD 16 d0).ll), .b ((v24.getD 17 d0).bb), .sl ((v24.getD 18 d0).ll)]) fun v32 =>
 Out.andThen (if (v32.getD 0 d0).bb = true then
 (R 11 [.i (7 : Int), .sl ((v32.getD 1 d0).ll), .i ((v32.getD 2 d0).ii), .i ((v32.getD 3 d0).ii), .i ((v32.getD 4 d0).ii), .i ((v32.getD 5 d0).ii)]).bindR fun r33 =>
 .norm [.sl ((r33.getD 0 d0).ll), .i ((r33.getD 1 d0).ii), .i ((r33.getD 2 d0).ii), .i ((r33.getD 3 d0).ii), .i ((r33.getD 4 d0).ii), .i ((v32.getD 6 d0).ii), .b ((v32.getD 7 d0).bb), .s ((v32.getD 8 d0).ss), .s ((v32.getD 9 d0).ss), .b ((v32.getD 10 d0).bb), .i ((v32.getD 11 d0).ii), .b ((v32.getD 12 d0).bb), .s ((v32.getD 13 d0).ss), .s ((v32.getD 14 d0).ss), .sl ((v32.getD 15 d0).ll), .b ((v32.getD 16 d0).bb), .sl ((v32.getD 17 d0).ll)]
 else
 .norm [.sl ((v32.getD 1 d0).ll), .i ((v32.getD 2 d0).ii), .i ((v32.getD 3 d0).ii), .i ((v32.getD 4 d0).ii), .i ((v32.getD 5 d0).ii), .i ((v32.getD 6 d0).ii), .b ((v32.getD 7 d0).bb), .s ((v32.getD 8 d0).ss), .s ((v32.getD 9 d0).ss), .b ((v32.getD 10 d0).bb), .i ((v32.getD 11 d0).ii), .b ((v32.getD 12 d0).bb), .s ((v32.getD 13 d0).ss), .s ((v32.getD 14 d0).ss), .sl ((v32.getD 15 d0).ll), .b ((v32.getD 16 d0).bb), .sl ((v32.getD 17 d0).ll)]) fun v34 =>
 (R 39 [.sl ((v34.getD 0 d0).ll), .i ((v34.getD 1 d0).ii), .i ((v34.getD 2 d0).ii), .i ((v34.getD 3 d0).ii), .i ((v34.getD 4 d0).ii)]).bindR fun r35 =>
 .norm [.sl ((r35.getD 1 d0).ll), .i ((r35.getD 2 d0).ii), .i ((r35.getD 3 d0).ii), .i ((r35.getD 4 d0).ii), .i ((r35.getD 5 d0).ii), .i ((v34.getD 5 d0).ii), .b ((v34.getD 6 d0).bb), .s ((v34.getD 7 d0).ss), .s ((v34.getD 8 d0).ss), .b ((v34.getD 9 d0).bb), .i ((v34.getD 10 d0).ii), .b ((v34.getD 11 d0).bb), .s ((v34.getD 12 d0).ss), .s ((v34.getD 13 d0).ss), .sl ((v34.getD 14 d0).ll), .sl ((r35.getD 0 d0).ll), .b ((v34.getD 15 d0).bb), .sl ((v34.getD 16 d0).ll)]
 else
 .norm [.sl ((v24.getD 2 d0).ll), .i ((v24.getD 3 d0).ii), .i ((v24.getD 4 d0).ii), .i ((v24.getD 5 d0).ii), .i ((v24.getD 6 d0).ii), .i ((v24.getD 7 d0).ii), .b ((v24.getD 8 d0).bb), .s ((v24.getD 9 d0).ss), .s ((v24.getD 10 d0).ss), .b ((v24.getD 11 d0).bb), .i ((v24.getD 12 d0).ii), .b ((v24.getD 13 d0).bb), .s ((v24.getD 14 d0).ss), .s ((v24.getD 15 d0).ss), .sl ((v24.getD 16 d0).ll), .sl [], .b ((v24.getD 17 d0).bb), .sl ((v24.getD 18 d0).ll)]) fun v36 =>
 .norm [.sl ((v36.getD 0 d0).ll), .i ((v36.getD 1 d0).ii), .i ((v36.getD 2 d0).ii), .i ((v36.getD 3 d0).ii), .i ((v36.getD 4 d0).ii), .i ((v36.getD 5 d0).ii), .b ((v36.getD 6 d0).bb), .s ((v36.getD 7 d0).ss), .s ((v36.getD 8 d0).ss), .b ((v36.getD 9 d0).bb), .i ((v36.getD 10 d0).ii), .b ((v36.getD 11 d0).bb), .s ((v36.getD 12 d0).ss), .s ((v36.getD 13 d0).ss), .sl ((v36.getD 14 d0).ll), .sl [], .sl ((v36.getD 15 d0).ll), .b ((v36.getD 16 d0).bb), .sl ((v36.getD 17 d0).ll)]) fun v37 =>
 .norm [.sl ((v37.getD 0 d0).ll), .i ((v37.getD 1 d0).ii), .i ((v37.getD 2 d0).ii), .i ((v37.getD 3 d0).ii), .i ((v37.getD 4 d0).ii), .i ((v37.getD 5 d0).ii), .b ((v37.getD 6 d0).bb), .s ((v37.getD 7 d0).ss), .s ((v37.getD 8 d0).ss), .b ((v37.getD 9 d0).bb), .i ((v37.getD 10 d0).ii), .b ((v37.getD 11 d0).bb), .s ((v37.getD 12 d0).ss), .s ((v37.getD 13 d0).ss), .sl ((v37.getD 14 d0).ll), .sl ((v37.getD 15 d0).ll), .sl [], .sl ((v37.getD 16 d0).ll), .b ((v37.getD 17 d0).bb), .sl ((v37.getD 18 d0).ll)]) fun v38 =>
 .norm [.sl ((v38.getD 0 d0).ll), .i ((v38.getD 1 d0).ii), .i ((v38.getD 2 d0).ii), .i ((v38.getD 3 d0).ii), .i ((v38.getD 4 d0).ii), .i ((v38.getD 5 d0).ii), .b ((v38.getD 6 d0).bb), .s ((v38.getD 7 d0).ss), .s ((v38.getD 8 d0).ss), .b ((v38.getD 9 d0).bb), .i ((v38.getD 10 d0).ii), .b ((v38.getD 11 d0).bb), .s ((v38.getD 12 d0).ss), .s ((v38.getD 13 d0).ss), .sl ((v38.getD 14 d0).ll), .sl ((v38.getD 15 d0).ll), .sl ((v38.getD 16 d0).ll), .sl ((v38.getD 17 d0).ll), .b ((v38.getD 18 d0).bb), .sl ((v38.getD 19 d0).ll)]) fun v39 =>
 .norm [.sl ((v39.getD 0 d0).ll), .i ((v39.getD 1 d0).ii), .i ((v39.getD 2 d0).ii), .i ((v39.getD 3 d0).ii), .i ((v39.getD 4 d0).ii), .i ((v39.getD 5 d0).ii), .b ((v39.getD 6 d0).bb), .s ((v39.getD 7 d0).ss), .s ((v39.getD 8 d0).ss), .b ((v39.getD 9 d0).bb), .i ((v39.getD 10 d0).ii), .b ((v39.getD 11 d0).bb), .s ((v39.getD 12 d0).ss), .s ((v39.getD 13 d0).ss), .sl ((v39.getD 14 d0).ll), .sl [], .sl ((v39.getD 15 d0).ll), .sl ((v39.getD 16 d0).ll), .sl ((v39.getD 17 d0).ll), .b ((v39.getD 18 d0).bb), .sl ((v39.getD 19 d0).ll)]) fun v40 =>
 .norm [.sl ((v40.getD 0 d0).ll), .i ((v40.getD 1 d0).ii), .i ((v40.getD 2 d0).ii), .i ((v40.getD 3 d0).ii), .i ((v40.getD 4 d0).ii), .i ((v40.getD 5 d0).ii), .b ((v40.getD 6 d0).bb), .s ((v40.getD 7 d0).ss), .s ((v40.getD 8 d0).ss), .b ((v40.getD 9 d0).bb), .i ((v40.getD 10 d0).ii), .b ((v40.getD 11 d0).bb), .s ((v40.getD 12 d0).ss), .s ((v40.getD 13 d0).ss), .sl ((v40.getD 14 d0).ll), .sl ((v40.getD 15 d0).ll), .sl ((v40.getD 16 d0).ll), .sl ((v40.getD 17 d0).ll), .sl ((v40.getD 18 d0).ll), .b ((v40.getD 19 d0).bb), .sl ((v40.getD 20 d0).ll)]) 0 fun v41 =>
 Out.andThen (if (v41.getD 11 d0).bb = true then
 (R 40 [.i ((v41.getD 10 d0).ii), .b ((v41.getD 11 d0).bb), .s ((v41.getD 12 d0).ss), .s ((v41.getD 13 d0).ss), .sl ((v41.getD 14 d0).ll), .sl ((v41.getD 15 d0).ll), .sl ((v41.getD 16 d0).ll), .sl ((v41.getD 17 d0).ll), .sl ((v41.getD 18 d0).ll), .b ((v41.getD 19 d0).bb), .sl ((v41.getD 20 d0).ll)]).bindR fun r42 =>
 .norm [.b (!((r42.getD 0 d0).bb)), .sl ((v41.getD 0 d0).ll), .i ((v41.getD 1 d0).ii), .i ((v41.getD 2 d0).ii), .i ((v41.getD 3 d0).ii), .i ((v41.getD 4 d0).ii), .i ((v41.getD 5 d0).ii), .b ((v41.getD 6 d0).bb), .s ((v41.getD 7 d0).ss), .s ((v41.getD 8 d0).ss), .b ((v41.getD 9 d0).bb), .i ((v41.getD 10 d0).ii), .b ((v41.getD 11 d0).bb), .s ((v41.getD 12 d0).ss), .s ((v41.getD 13 d0).ss), .sl ((v41.getD 14 d0).ll), .sl ((v41.getD 15 d0).ll), .sl ((v41.getD 16 d0).ll), .sl ((v41.getD 17 d0).ll), .sl ((v41.getD 18 d0).ll), .b ((v41.getD 19 d0).bb), .sl ((v41.getD 20 d0).ll)]
 else
 .norm [.b false, .sl ((v41.getD 0 d0).ll), .i ((v41.getD 1 d0).ii), .i ((v41.getD 2 d0).ii), .i ((v41.getD 3 d0).ii), .i ((v41.getD 4 d0).ii), .i ((v41.getD 5 d0).ii), .b ((v41.getD 6 d0).bb), .s ((v41.getD 7 d0).ss), .s ((v41.getD 8 d0).ss), .b ((v41.getD 9 d0).bb), .i ((v41.getD 10 d0).ii), .b ((v41.getD 11 d0).bb), .s ((v41.getD 12 d0).ss), .s ((v41.getD 13 d0).ss), .sl ((v41.getD 14 d0).ll), .sl ((v41.getD 15 d0).ll), .sl ((v41.getD 16 d0).ll), .sl ((v41.getD 17 d0).ll), .sl ((v41.getD 18 d0).ll), .b ((v41.getD 19 d0).bb), .sl ((v41.getD 20 d0).ll)]) fun v43 =>
 Out.andThen (if (v43.getD 0 d0).bb = true then
 (R 11 [.i (7 : Int), .sl ((v43.getD 1 d0).ll), .i ((v43.getD 2 d0).ii), .i ((v43.getD 3 d0).ii), .i ((v43.getD 4 d0).ii), .i ((v43.getD 5 d0).ii)]).bindR fun r44 =>
 .norm [.sl ((r44.getD 0 d0).ll), .i ((r44.getD 1 d0).ii), .i ((r44.getD 2 d0).ii), .i ((r44.getD 3 d0).ii), .i ((r44.getD 4 d0).ii), .i ((v43.getD 6 d0).ii), .b ((v43.getD 7 d0).bb), .s ((v43.getD 8 d0).ss), .s ((v43.getD 9 d0).ss), .b ((v43.getD 10 d0).bb), .i ((v43.getD 11 d0).ii), .b ((v43.getD 12 d0).bb), .s ((v43.getD 13 d0).ss), .s ((v43.getD 14 d0).ss), .sl ((v43.getD 15 d0).ll), .sl ((v43.getD 16 d0).ll), .sl ((v43.getD 17 d0).ll), .sl ((v43.getD 18 d0).ll), .sl ((v43.getD 19 d0).ll), .b ((v43.getD 20 d0).bb), .sl ((v43.getD 21 d0).ll)]
 else
 .norm [.sl ((v43.getD 1 d0).ll), .i ((v43.getD 2 d0).ii), .i ((v43.getD 3 d0).ii), .i ((v43.getD 4 d0).ii), .i ((v43.getD 5 d0).ii), .i ((v43.getD 6 d0).ii), .b ((v43.getD 7 d0).bb), .s ((v43.getD 8 d0).ss), .s ((v43.getD 9 d0).ss), .b ((v43.getD 10 d0).bb), .i ((v43.getD 11 d0).ii), .b ((v43.getD 12 d0).bb), .s ((v43.getD 13 d0).ss), .s ((v43.getD 14 d0).ss), .sl ((v43.getD 15 d0).ll), .sl ((v43.getD 16 d0).ll), .sl ((v43.getD 17 d0).ll), .sl ((v43.getD 18 d0).ll), .sl ((v43.getD 19 d0).ll), .b ((v43.getD 20 d0).bb), .sl ((v43.getD 21 d0).ll)]) fun v45 =>
 .ret [.i ((v45.getD 10 d0).ii), .b ((v45.getD 11 d0).bb), .s ((v45.getD 12 d0).ss), .s ((v45.getD 13 d0).ss), .sl ((v45.getD 14 d0).ll), .sl ((v45.getD 15 d0).ll), .sl ((v45.getD 16 d0).ll), .sl ((v45.getD 17 d0).ll), .sl ((v45.getD 18 d0).ll), .b ((v45.getD 19 d0).bb), .sl ((v45.getD 20 d0).ll), .sl ((v45.getD 0 d0).ll), .i ((v45.getD 1 d0).ii), .i ((v45.getD 2 d0).ii), .i ((v45.getD 3 d0).ii), .i ((v45.getD 4 d0).ii)]
def C_spec_l13ReadDesc (R : Nat → List DC → Out) (n : Nat) (a : List DC) : Out :=
 (R 21 [.i (5 : Int), .sl ((a.getD 0 d0).ll), .i ((a.getD 1 d0).ii), .i ((a.getD 2 d0).ii), .i ((a.getD 3 d0).ii), .i ((a.getD 4 d0).ii)]).bindR fun r1 =>
 if (!((r1.getD 0 d0).bb)) = true then
 .ret [.s ([] : List UInt8), .sl ((r1.getD 1 d0).ll), .i ((r1.getD 2 d0).ii), .i ((r1.getD 3 d0).ii), .i ((r1.getD 4 d0).ii), .i ((r1.getD 5 d0).ii)]
 else
 if 153 = 153 ∧ 0 ≤ (IntKind.i64.wrap ((IntKind.i64.wrap ((r1.getD 2 d0).ii + (1 : Int))) - (1 : Int))) ∧ (IntKind.i64.wrap ((IntKind.i64.wrap ((r1.getD 2 d0).ii + (1 : Int))) - (1 : Int))) < (((r1.getD 1 d0).ll).length : Int) then
 .ret [.s (((((r1.getD 1 d0).ll).getD (IntKind.i64.wrap ((IntKind.i64.wrap ((r1.getD 2 d0).ii + (1 : Int))) - (1 : Int))).toNat []).getD 1 d0).ss), .sl ((r1.getD 1 d0).ll), .i (IntKind.i64.wrap ((r1.getD 2 d0).ii + (1 : Int))), .i ((r1.getD 3 d0).ii), .i ((r1.getD 4 d0).ii), .i ((r1.getD 5 d0).ii)]
 else
 .fail
def C_spec_l14BeginsL1 (R : Nat → List DC → Out) (n : Nat) : List DC → Out := fun v2 =>
 if (decide ((v2.getD 0 d0).ii ≤ (3 : Int))) = true then
 Out.andThenB ((R 41 [.i ((v2.getD 0 d0).ii)]).bindR fun r3 =>
 (R 17 [.s ((r3.getD 0 d0).ss), .sl ((v2.getD 1 d0).ll), .i ((v2.getD 2 d0).ii), .i ((v2.getD 3 d0).ii), .i ((v2.getD 4 d0).ii), .i ((v2.getD 5 d0).ii)]).bindR fun r4 =>
 if (r4.getD 0 d0).bb = true then
 .ret [.i ((v2.getD 0 d0).ii), .sl ((r4.getD 1 d0).ll), .i ((r4.getD 2 d0).ii), .i ((r4.getD 3 d0).ii), .i ((r4.getD 4 d0).ii), .i ((r4.getD 5 d0).ii)]
 else
 .norm [.i ((v2.getD 0 d0).ii), .sl ((r4.getD 1 d0).ll), .i ((r4.getD 2 d0).ii), .i ((r4.getD 3 d0).ii), .i ((r4.getD 4 d0).ii), .i ((r4.getD 5 d0).ii)]) 1 fun v5 =>
 .norm [.i (IntKind.i64.wrap ((v5.getD 0 d0).ii + (1 : Int))), .sl ((v5.getD 1 d0).ll), .i ((v5.getD 2 d0).ii), .i ((v5.getD 3 d0).ii), .i ((v5.getD 4 d0).ii), .i ((v5.getD 5 d0).ii)]
 else
 .ex 0 [.sl ((v2.getD 1 d0).ll), .i ((v2.getD 2 d0).ii), .i ((v2.getD 3 d0).ii), .i ((v2.getD 4 d0).ii), .i ((v2.getD 5 d0).ii)]
def C_spec_l14Begins (R : Nat → List DC → Out) (n : Nat) (a : List DC) : Out :=
 (R 30 [.s ([123] : List UInt8), .sl ((a.getD 0 d0).ll), .i ((a.getD 1 d0).ii), .i ((a.getD 2 d0).ii), .i ((a.getD 3 d0).ii), .i ((a.getD 4 d0).ii)]).bindR fun r1 =>
 if (r1.getD 0 d0).bb = true then
 .ret [.i (1 : Int), .sl ((r1.getD 1 d0).ll), .i ((r1.getD 2 d0).ii), .i ((r1.getD 3 d0).ii), .i ((r1.getD 4 d0).ii), .i ((r1.getD 5 d0).ii)]
 else
 Out.andThenB (loopF (C_spec_l14BeginsL1 R n) n [.i (1 : Int), .sl ((r1.getD 1 d0).ll), .i ((r1.getD 2 d0).ii), .i ((r1.getD 3 d0).ii), .i ((r1.getD 4 d0).ii), .i ((r1.getD 5 d0).ii)]) 0 fun v6 =>
 .ret [.i (0 : Int), .sl ((v6.getD 0 d0).ll), .i ((v6.getD 1 d0).ii), .i ((v6.getD 2 d0).ii), .i ((v6.getD 3 d0).ii), .i ((v6.getD 4 d0).ii)]
def C_spec_l08Kind (R : Nat → List DC → Out) (n : Nat) (a : List DC) : Out :=
 Out.andThen (if ((a.getD 4 d0).ii == (0 : Int)) = true then
 if (decide ((a.getD 2 d0).ii < (((a.getD 1 d0).ll).length : Int))) = true then
 if 153 = 153 ∧ 0 ≤ (a.getD 2 d0).ii ∧ (a.getD 2 d0).ii < (((a.getD 1 d0).ll).length : Int) then
 .norm [.b (((((a.getD 1 d0).ll).getD ((a.getD 2 d0).ii).toNat []).getD 0 d0).ii == (a.getD 0 d0).ii), .sl ((a.getD 1 d0).ll), .i ((a.getD 2 d0).ii), .i ((a.getD 3 d0).ii), .i ((a.getD 4 d0).ii), .i ((a.getD 5 d0).ii)]
 else
 .fail
 else
 .norm [.b false, .sl ((a.getD 1 d0).ll), .i ((a.getD 2 d0).ii), .i ((a.getD 3 d0).ii), .i ((a.getD 4 d0).ii), .i ((a.getD 5 d0).ii)]
 else
 .norm [.b false, .sl ((a.getD 1 d0).ll), .i ((a.getD 2 d0).ii), .i ((a.getD 3 d0).ii), .i ((a.getD 4 d0).ii), .i ((a.getD 5 d0).ii)]) fun v1 =>
 .ret [.b ((v1.getD 0 d0).bb), .sl ((v1.getD 1 d0).ll), .i ((v1.getD 2 d0).ii), .i ((v1.getD 3 d0).ii), .i ((v1.getD 4 d0).ii), .i ((v1.getD 5 d0).ii)]
def C_spec_l13BeginsL1 (R : Nat → List DC → Out) (n : Nat) : List DC → Out := fun v1 =>
 if (decide ((v1.getD 0 d0).ii ≤ (8 : Int))) = true then
 Out.andThenB ((R 42 [.i ((v1.getD 0 d0).ii)]).bindR fun r2 =>
 (R 17 [.s ((r2.getD 0 d0).ss), .sl ((v1.getD 1 d0).ll), .i ((v1.getD 2 d0).ii), .i ((v1.getD 3 d0).ii), .i ((v1.getD 4 d0).ii), .i ((v1.getD 5 d0).ii)]).bindR fun r3 =>
 if (r3.getD 0 d0).bb = true then
 .ret [.i ((v1.getD 0 d0).ii), .sl ((r3.getD 1 d0).ll), .i ((r3.getD 2 d0).ii), .i ((r3.getD 3 d0).ii), .i ((r3.getD 4 d0).ii), .i ((r3.getD 5 d0).ii)]
 else
 .norm [.i ((v1.getD 0 d0).ii), .sl ((r3.getD 1 d0).ll), .i ((r3.getD 2 d0).ii), .i ((r3.getD 3 d0).ii), .i ((r3.getD 4 d0).ii), .i ((r3.getD 5 d0).ii)]) 1 fun v4 =>
 .norm [.i (IntKind.i64.wrap ((v4.getD 0 d0).ii + (1 : Int))), .sl ((v4.getD 1 d0).ll), .i ((v4.getD 2 d0).ii), .i ((v4.getD 3 d0).ii), .i ((v4.getD 4 d0).ii), .i ((v4.getD 5 d0).ii)]
 else
 .ex 0 [.sl ((v1.getD 1 d0).ll), .i ((v1.getD 2 d0).ii), .i ((v1.getD 3 d0).ii), .i ((v1.getD 4 d0).ii), .i ((v1.getD 5 d0).ii)]
def C_spec_l13Begins (R : Nat → List DC → Out) (n : Nat) (a : List DC) : Out :=
 Out.andThenB (loopF (C_spec_l13BeginsL1 R n) n [.i (1 : Int), .sl ((a.getD 0 d0).ll), .i ((a.getD 1 d0).ii), .i ((a.getD 2 d0).ii), .i ((a.getD 3 d0).ii), .i ((a.getD 4 d0).ii)]) 0 fun v5 =>
 .ret [.i (0 : Int), .sl ((v5.getD 0 d0).ll), .i ((v5.getD 1 d0).ii), .i ((v5.getD 2 d0).ii), .i ((v5.getD 3 d0).ii), .i ((v5.getD 4 d0).ii)]
def C_spec_l10DirsL1 (R : Nat → List DC → Out) (n : Nat) : List DC → Out := fun v1 =>
 if (decide ((v1.getD 2 d0).ii < (((v1.getD 0 d0).ll).length : Int))) = true then
 Out.andThenB (if 181 = 181 ∧ 0 ≤ (v1.getD 2 d0).ii ∧ (v1.getD 2 d0).ii < (((v1.getD 0 d0).ll).length : Int) then
 if 181 = 181 ∧ 0 ≤ (v1.getD 2 d0).ii ∧ (v1.getD 2 d0).ii < (((v1.getD 0 d0).ll).length : Int) then
 (R 43 [.sl (((((v1.getD 0 d0).ll).getD ((v1.getD 2 d0).ii).toNat []).getD 1 d0).ll)]).bindR fun r2 =>
 if ((v1.getD 1 d0).ll).length + [[DC.s (((((v1.getD 0 d0).ll).getD ((v1.getD 2 d0).ii).toNat []).getD 0 d0).ss), DC.sl ((r2.getD 0 d0).ll)]].length < LIM ∧ 43 = 43 then
 .norm [.sl ((v1.getD 0 d0).ll), .sl (((v1.getD 1 d0).ll) ++ [[DC.s (((((v1.getD 0 d0).ll).getD ((v1.getD 2 d0).ii).toNat []).getD 0 d0).ss), DC.sl ((r2.getD 0 d0).ll)]]), .i ((v1.getD 2 d0).ii)]
 else
 .fail
 else
 .fail
 else
 .fail) 1 fun v3 =>
 .norm [.sl ((v3.getD 0 d0).ll), .sl ((v3.getD 1 d0).ll), .i (IntKind.i64.wrap ((v3.getD 2 d0).ii + (1 : Int)))]
 else
 .ex 0 [.sl ((v1.getD 1 d0).ll)]
def C_spec_l10Dirs (R : Nat → List DC → Out) (n : Nat) (a : List DC) : Out :=
 Out.andThenB (loopF (C_spec_l10DirsL1 R n) n [.sl ((a.getD 0 d0).ll), .sl [], .i (0 : Int)]) 0 fun v4 =>
 .ret [.sl ((v4.getD 0 d0).ll)]
def C_spec_l13CopyFieldsL1 (R : Nat → List DC → Out) (n : Nat) : List DC → Out := fun v1 =>
 if (decide ((v1.getD 2 d0).ii < (((v1.getD 0 d0).ll).length : Int))) = true then
 Out.andThenB (if 177 = 177 ∧ 0 ≤ (v1.getD 2 d0).ii ∧ (v1.getD 2 d0).ii < (((v1.getD 0 d0).ll).length : Int) then
 (R 24 [.sl (((((v1.getD 0 d0).ll).getD ((v1.getD 2 d0).ii).toNat []).getD 2 d0).ll)]).bindR fun r2 =>
 (R 26 [.sl (((((v1.getD 0 d0).ll).getD ((v1.getD 2 d0).ii).toNat []).getD 5 d0).ll)]).bindR fun r3 =>
 if ((v1.getD 1 d0).ll).length + [[DC.s (((((v1.getD 0 d0).ll).getD ((v1.getD 2 d0).ii).toNat []).getD 0 d0).ss), DC.s (((((v1.getD 0 d0).ll).getD ((v1.getD 2 d0).ii).toNat []).getD 1 d0).ss), DC.sl ((r2.getD 0 d0).ll), DC.s (((((v1.getD 0 d0).ll).getD ((v1.getD 2 d0).ii).toNat []).getD 3 d0).ss), DC.s (((((v1.getD 0 d0).ll).getD ((v1.getD 2 d0).ii).toNat []).getD 4 d0).ss), DC.sl ((r3.getD 0 d0).ll)]].length < LIM ∧ 40 = 40 then
 .norm [.sl ((v1.getD 0 d0).ll), .sl (((v1.getD 1 d0).ll) ++ [[DC.s (((((v1.getD 0 d0).ll).getD ((v1.getD 2 d0).ii).toNat []).getD 0 d0).ss), DC.s (((((v1.getD 0 d0).ll).getD ((v1.getD 2 d0).ii).toNat []).getD 1 d0).ss), DC.sl ((r2.getD 0 d0).ll), DC.s (((((v1.getD 0 d0).ll).getD ((v1.getD 2 d0).ii).toNat []).getD 3 d0).ss), DC.s (((((v1.getD 0 d0).ll).getD ((v1.getD 2 d0).ii).toNat []).getD 4 d0).ss), DC.sl ((r3.getD 0 d0).ll)]]), .i ((v1.getD 2 d0).ii)]
 else
 .fail
 else
 .fail) 1 fun v4 =>
 .norm [.sl ((v4.getD 0 d0).ll), .sl ((v4.getD 1 d0).ll), .i (IntKind.i64.wrap ((v4.getD 2 d0).ii + (1 : Int)))]
 else
 .ex 0 [.sl ((v1.getD 1 d0).ll)]
def C_spec_l13CopyFields (R : Nat → List DC → Out) (n : Nat) (a : List DC) : Out :=
 Out.andThenB (loopF (C_spec_l13CopyFieldsL1 R n) n [.sl ((a.getD 0 d0).ll), .sl [], .i (0 : Int)]) 0 fun v5 =>
 .ret [.sl ((v5.getD 0 d0).ll)]
def C_spec_l13CopyInsL1 (R : Nat → List DC → Out) (n : Nat) : List DC → Out := fun v1 =>
 if (decide ((v1.getD 2 d0).ii < (((v1.getD 0 d0).ll).length : Int))) = true then
 Out.andThenB (if 65 = 65 ∧ 0 ≤ (v1.getD 2 d0).ii ∧ (v1.getD 2 d0).ii < (((v1.getD 0 d0).ll).length : Int) then
 (R 44 [.i (((((v1.getD 0 d0).ll).getD ((v1.getD 2 d0).ii).toNat []).getD 5 d0).ii), .s (((((v1.getD 0 d0).ll).getD ((v1.getD 2 d0).ii).toNat []).getD 6 d0).ss), .sl (((((v1.getD 0 d0).ll).getD ((v1.getD 2 d0).ii).toNat []).getD 7 d0).ll), .sl (((((v1.getD 0 d0).ll).getD ((v1.getD 2 d0).ii).toNat []).getD 8 d0).ll)]).bindR fun r2 =>
 (R 26 [.sl (((((v1.getD 0 d0).ll).getD ((v1.getD 2 d0).ii).toNat []).getD 9 d0).ll)]).bindR fun r3 =>
 if ((v1.getD 1 d0).ll).length + [[DC.s (((((v1.getD 0 d0).ll).getD ((v1.getD 2 d0).ii).toNat []).getD 0 d0).ss), DC.s (((((v1.getD 0 d0).ll).getD ((v1.getD 2 d0).ii).toNat []).getD 1 d0).ss), DC.s (((((v1.getD 0 d0).ll).getD ((v1.getD 2 d0).ii).toNat []).getD 2 d0).ss), DC.s (((((v1.getD 0 d0).ll).getD ((v1.getD 2 d0).ii).toNat []).getD 3 d0).ss), DC.b (((((v1.getD 0 d0).ll).getD ((v1.getD 2 d0).ii).toNat []).getD 4 d0).bb), DC.i ((r2.getD 0 d0).ii), DC.s ((r2.getD 1 d0).ss), DC.sl ((r2.getD 2 d0).ll), DC.sl ((r2.getD 3 d0).ll), DC.sl ((r3.getD 0 d0).ll)]].length < LIM ∧ 41 = 41 then
 .norm [.sl ((v1.getD 0 d0).ll), .sl (((v1.getD 1 d0).ll) ++ [[DC.s (((((v1.getD 0 d0).ll).getD ((v1.getD 2 d0).ii).toNat []).getD 0 d0).ss), DC.s (((((v1.getD 0 d0).ll).getD ((v1.getD 2 d0).ii).toNat []).getD 1 d0).ss), DC.s (((((v1.getD 0 d0).ll).getD ((v1.getD 2 d0).ii).toNat []).getD 2 d0).ss), DC.s (((((v1.getD 0 d0).ll).getD ((v1.getD 2 d0).ii).toNat []).getD 3 d0).ss), DC.b (((((v1.getD 0 d0).ll).getD ((v1.getD 2 d0).ii).toNat []).getD 4 d0).bb), DC.i ((r2.getD 0 d0).ii), DC.s ((r2.getD 1 d0).ss), DC.sl ((r2.getD 2 d0).ll), DC.sl ((r2.getD 3 d0).ll), DC.sl ((r3.getD 0 d0).ll)]]), .i ((v1.getD 2 d0).ii)]
 else
 .fail
 else
 .fail) 1 fun v4 =>
 .norm [.sl ((v4.getD 0 d0).ll), .sl ((v4.getD 1 d0).ll), .i (IntKind.i64.wrap ((v4.getD 2 d0).ii + (1 : Int)))]
 else
 .ex 0 [.sl ((v1.getD 1 d0).ll)]
def C_spec_l13CopyIns (R : Nat → List DC → Out) (n : Nat) (a : List DC) : Out :=
 Out.andThenB (loopF (C_spec_l13CopyInsL1 R n) n [.sl ((a.getD 0 d0).ll), .sl [], .i (0 : Int)]) 0 fun v5 =>
 .ret [.sl ((v5.getD 0 d0).ll)]
def C_spec_l13CopyValuesL1 (R : Nat → List DC → Out) (n : Nat) : List DC → Out := fun v1 =>
 if (decide ((v1.getD 2 d0).ii < (((v1.getD 0 d0).ll).length : Int))) = true then
 Out.andThenB (if 61 = 61 ∧ 0 ≤ (v1.getD 2 d0).ii ∧ (v1.getD 2 d0).ii < (((v1.getD 0 d0).ll).length : Int) then
 (R 26 [.sl (((((v1.getD 0 d0).ll).getD ((v1.getD 2 d0).ii).toNat []).getD 2 d0).ll)]).bindR fun r2 =>
 if ((v1.getD 1 d0).ll).length + [[DC.s (((((v1.getD 0 d0).ll).getD ((v1.getD 2 d0).ii).toNat []).getD 0 d0).ss), DC.s (((((v1.getD 0 d0).ll).getD ((v1.getD 2 d0).ii).toNat []).getD 1 d0).ss), DC.sl ((r2.getD 0 d0).ll)]].length < LIM ∧ 42 = 42 then
 .norm [.sl ((v1.getD 0 d0).ll), .sl (((v1.getD 1 d0).ll) ++ [[DC.s (((((v1.getD 0 d0).ll).getD ((v1.getD 2 d0).ii).toNat []).getD 0 d0).ss), DC.s (((((v1.getD 0 d0).ll).getD ((v1.getD 2 d0).ii).toNat []).getD 1 d0).ss), DC.sl ((r2.getD 0 d0).ll)]]), .i ((v1.getD 2 d0).ii)]
 else
 .fail
 else
 .fail) 1 fun v3 =>
 .norm [.sl ((v3.getD 0 d0).ll), .sl ((v3.getD 1 d0).ll), .i (IntKind.i64.wrap ((v3.getD 2 d0).ii + (1 : Int)))]
 else
 .ex 0 [.sl ((v1.getD 1 d0).ll)]
def C_spec_l13CopyValues (R : Nat → List DC → Out) (n : Nat) (a : List DC) : Out :=
 Out.andThenB (loopF (C_spec_l13CopyValuesL1 R n) n [.sl ((a.getD 0 d0).ll), .sl [], .i (0 : Int)]) 0 fun v4 =>
 .ret [.sl ((v4.getD 0 d0).ll)]
def C_spec_l08Name (R : Nat → List DC → Out) (n : Nat) (a : List DC) : Out :=
 (R 21 [.i (2 : Int), .sl ((a.getD 0 d0).ll), .i ((a.getD 1 d0).ii), .i ((a.getD 2 d0).ii), .i ((a.getD 3 d0).ii), .i ((a.getD 4 d0).ii)]).bindR fun r1 =>
 if (!((r1.getD 0 d0).bb)) = true then
 (R 11 [.i (7 : Int), .sl ((r1.getD 1 d0).ll), .i ((r1.getD 2 d0).ii), .i ((r1.getD 3 d0).ii), .i ((r1.getD 4 d0).ii), .i ((r1.getD 5 d0).ii)]).bindR fun r2 =>
 .ret [.s ([] : List UInt8), .sl ((r2.getD 0 d0).ll), .i ((r2.getD 1 d0).ii), .i ((r2.getD 2 d0).ii), .i ((r2.getD 3 d0).ii), .i ((r2.getD 4 d0).ii)]
 else
 if 153 = 153 ∧ 0 ≤ (IntKind.i64.wrap ((IntKind.i64.wrap ((r1.getD 2 d0).ii + (1 : Int))) - (1 : Int))) ∧ (IntKind.i64.wrap ((IntKind.i64.wrap ((r1.getD 2 d0).ii + (1 : Int))) - (1 : Int))) < (((r1.getD 1 d0).ll).length : Int) then
 .ret [.s (((((r1.getD 1 d0).ll).getD (IntKind.i64.wrap ((IntKind.i64.wrap ((r1.getD 2 d0).ii + (1 : Int))) - (1 : Int))).toNat []).getD 1 d0).ss), .sl ((r1.getD 1 d0).ll), .i (IntKind.i64.wrap ((r1.getD 2 d0).ii + (1 : Int))), .i ((r1.getD 3 d0).ii), .i ((r1.getD 4 d0).ii), .i ((r1.getD 5 d0).ii)]
 else
 .fail
def C_spec_l10ReadDirsL1 (R : Nat → List DC → Out) (n : Nat) : List DC → Out := fun v1 =>
 (R 37 [.s ([64] : List UInt8), .sl ((v1.getD 2 d0).ll), .i ((v1.getD 3 d0).ii), .i ((v1.getD 4 d0).ii), .i ((v1.getD 5 d0).ii), .i ((v1.getD 6 d0).ii)]).bindR fun r2 =>
 if (r2.getD 0 d0).bb = true then
 Out.andThenB ((R 27 [.sl ((r2.getD 1 d0).ll), .i ((r2.getD 2 d0).ii), .i ((r2.getD 3 d0).ii), .i ((r2.getD 4 d0).ii), .i ((r2.getD 5 d0).ii)]).bindR fun r3 =>
 (R 45 [.b ((v1.getD 0 d0).bb), .sl ((r3.getD 1 d0).ll), .i ((r3.getD 2 d0).ii), .i ((r3.getD 3 d0).ii), .i ((r3.getD 4 d0).ii), .i ((r3.getD 5 d0).ii)]).bindR fun r4 =>
 if ((v1.getD 1 d0).ll).length + [[DC.s ((r3.getD 0 d0).ss), DC.sl ((r4.getD 0 d0).ll)]].length < LIM then
 .norm [.b ((v1.getD 0 d0).bb), .sl (((v1.getD 1 d0).ll) ++ [[DC.s ((r3.getD 0 d0).ss), DC.sl ((r4.getD 0 d0).ll)]]), .sl ((r4.getD 1 d0).ll), .i ((r4.getD 2 d0).ii), .i ((r4.getD 3 d0).ii), .i ((r4.getD 4 d0).ii), .i ((r4.getD 5 d0).ii)]
 else
 .fail) 1 fun v5 =>
 .norm [.b ((v5.getD 0 d0).bb), .sl ((v5.getD 1 d0).ll), .sl ((v5.getD 2 d0).ll), .i ((v5.getD 3 d0).ii), .i ((v5.getD 4 d0).ii), .i ((v5.getD 5 d0).ii), .i ((v5.getD 6 d0).ii)]
 else
 .ex 0 [.sl ((v1.getD 1 d0).ll), .sl ((r2.getD 1 d0).ll), .i ((r2.getD 2 d0).ii), .i ((r2.getD 3 d0).ii), .i ((r2.getD 4 d0).ii), .i ((r2.getD 5 d0).ii)]
def C_spec_l10ReadDirs (R : Nat → List DC → Out) (n : Nat) (a : List DC) : Out :=
 Out.andThenB (loopF (C_spec_l10ReadDirsL1 R n) n [.b ((a.getD 0 d0).bb), .sl [], .sl ((a.getD 1 d0).ll), .i ((a.getD 2 d0).ii), .i ((a.getD 3 d0).ii), .i ((a.getD 4 d0).ii), .i ((a.getD 5 d0).ii)]) 0 fun v6 =>
 .ret [.sl ((v6.getD 0 d0).ll), .sl ((v6.getD 1 d0).ll), .i ((v6.getD 2 d0).ii), .i ((v6.getD 3 d0).ii), .i ((v6.getD 4 d0).ii), .i ((v6.getD 5 d0).ii)]
def C_spec_l11ReadL1 (R : Nat → List DC → Out) (n : Nat) : List DC → Out := fun v6 =>
 if ((v6.getD 5 d0).ii == (0 : Int)) = true then
 Out.andThenB (Out.andThen (if ((v6.getD 7 d0).ii == (0 : Int)) = true then
 (R 21 [.i (2 : Int), .sl ((v6.getD 2 d0).ll), .i ((v6.getD 3 d0).ii), .i ((v6.getD 4 d0).ii), .i ((v6.getD 5 d0).ii), .i ((v6.getD 6 d0).ii)]).bindR fun r7 =>
 if (r7.getD 0 d0).bb = true then
 .norm [.i ((v6.getD 0 d0).ii), .sl ((v6.getD 1 d0).ll), .b true, .sl ((r7.getD 1 d0).ll), .i ((r7.getD 2 d0).ii), .i ((r7.getD 3 d0).ii), .i ((r7.getD 4 d0).ii), .i ((r7.getD 5 d0).ii), .i ((v6.getD 7 d0).ii)]
 else
 (R 30 [.s ([46, 46, 46] : List UInt8), .sl ((r7.getD 1 d0).ll), .i ((r7.getD 2 d0).ii), .i ((r7.getD 3 d0).ii), .i ((r7.getD 4 d0).ii), .i ((r7.getD 5 d0).ii)]).bindR fun r8 =>
 .norm [.i ((v6.getD 0 d0).ii), .sl ((v6.getD 1 d0).ll), .b ((r8.getD 0 d0).bb), .sl ((r8.getD 1 d0).ll), .i ((r8.getD 2 d0).ii), .i ((r8.getD 3 d0).ii), .i ((r8.getD 4 d0).ii), .i ((r8.getD 5 d0).ii), .i ((v6.getD 7 d0).ii)]
 else
 .norm [.i ((v6.getD 0 d0).ii), .sl ((v6.getD 1 d0).ll), .b false, .sl ((v6.getD 2 d0).ll), .i ((v6.getD 3 d0).ii), .i ((v6.getD 4 d0).ii), .i ((v6.getD 5 d0).ii), .i ((v6.getD 6 d0).ii), .i ((v6.getD 7 d0).ii)]) fun v9 =>
 if (v9.getD 2 d0).bb = true then
 (R 11 [.i (6 : Int), .sl ((v9.getD 3 d0).ll), .i ((v9.getD 4 d0).ii), .i ((v9.getD 5 d0).ii), .i ((v9.getD 6 d0).ii), .i ((v9.getD 7 d0).ii)]).bindR fun r10 =>
 .ret [.sl ((v9.getD 1 d0).ll), .sl ((r10.getD 0 d0).ll), .i ((r10.getD 1 d0).ii), .i ((r10.getD 2 d0).ii), .i ((r10.getD 3 d0).ii), .i ((r10.getD 4 d0).ii), .i ((v9.getD 8 d0).ii)]
 else
 (R 37 [.s ([46, 46, 46] : List UInt8), .sl ((v9.getD 3 d0).ll), .i ((v9.getD 4 d0).ii), .i ((v9.getD 5 d0).ii), .i ((v9.getD 6 d0).ii), .i ((v9.getD 7 d0).ii)]).bindR fun r11 =>
 Out.andThen (if (r11.getD 0 d0).bb = true then
 (R 17 [.s ([111, 110] : List UInt8), .sl ((r11.getD 1 d0).ll), .i ((r11.getD 2 d0).ii), .i ((r11.getD 3 d0).ii), .i ((r11.getD 4 d0).ii), .i ((r11.getD 5 d0).ii)]).bindR fun r12 =>
 Out.andThen (if (r12.getD 0 d0).bb = true then
 (R 27 [.sl ((r12.getD 1 d0).ll), .i (IntKind.i64.wrap ((r12.getD 2 d0).ii + (1 : Int))), .i ((r12.getD 3 d0).ii), .i ((r12.getD 4 d0).ii), .i ((r12.getD 5 d0).ii)]).bindR fun r13 =>
 .norm [.i ((v9.getD 0 d0).ii), .sl ((v9.getD 1 d0).ll), .sl ((r13.getD 1 d0).ll), .i ((r13.getD 2 d0).ii), .i ((r13.getD 3 d0).ii), .i ((r13.getD 4 d0).ii), .i ((r13.getD 5 d0).ii), .i (IntKind.i64.wrap ((v9.getD 8 d0).ii - (1 : Int))), .i (3 : Int), .s [], .s [], .s ((r13.getD 0 d0).ss)]
 else
 (R 21 [.i (2 : Int), .sl ((r12.getD 1 d0).ll), .i ((r12.getD 2 d0).ii), .i ((r12.getD 3 d0).ii), .i ((r12.getD 4 d0).ii), .i ((r12.getD 5 d0).ii)]).bindR fun r14 =>
 Out.andThen (if (r14.getD 0 d0).bb = true then
 (R 27 [.sl ((r14.getD 1 d0).ll), .i ((r14.getD 2 d0).ii), .i ((r14.getD 3 d0).ii), .i ((r14.getD 4 d0).ii), .i ((r14.getD 5 d0).ii)]).bindR fun r15 =>
 .norm [.i ((v9.getD 0 d0).ii), .sl ((v9.getD 1 d0).ll), .sl ((r15.getD 1 d0).ll), .i ((r15.getD 2 d0).ii), .i ((r15.getD 3 d0).ii), .i ((r15.getD 4 d0).ii), .i ((r15.getD 5 d0).ii), .i (IntKind.i64.wrap ((v9.getD 8 d0).ii - (1 : Int))), .i (2 : Int), .s [], .s ((r15.getD 0 d0).ss), .s []]
 else
 .norm [.i ((v9.getD 0 d0).ii), .sl ((v9.getD 1 d0).ll), .sl ((r14.getD 1 d0).ll), .i ((r14.getD 2 d0).ii), .i ((r14.getD 3 d0).ii), .i ((r14.getD 4 d0).ii), .i ((r14.getD 5 d0).ii), .i (IntKind.i64.wrap ((v9.getD 8 d0).ii - (1 : Int))), .i (3 : Int), .s [], .s [], .s []]) fun v16 =>
 .norm [.i ((v16.getD 0 d0).ii), .sl ((v16.getD 1 d0).ll), .sl ((v16.getD 2 d0).ll), .i ((v16.getD 3 d0).ii), .i ((v16.getD 4 d0).ii), .i ((v16.getD 5 d0).ii), .i ((v16.getD 6 d0).ii), .i ((v16.getD 7 d0).ii), .i ((v16.getD 8 d0).ii), .s ((v16.getD 9 d0).ss), .s ((v16.getD 10 d0).ss), .s ((v16.getD 11 d0).ss)]) fun v17 =>
 .norm [.i ((v17.getD 0 d0).ii), .sl ((v17.getD 1 d0).ll), .sl ((v17.getD 2 d0).ll), .i ((v17.getD 3 d0).ii), .i ((v17.getD 4 d0).ii), .i ((v17.getD 5 d0).ii), .i ((v17.getD 6 d0).ii), .i ((v17.getD 7 d0).ii), .i ((v17.getD 8 d0).ii), .s ((v17.getD 9 d0).ss), .s ((v17.getD 10 d0).ss), .s ((v17.getD 11 d0).ss), .sl []]
 else
 (R 27 [.sl ((r11.getD 1 d0).ll), .i ((r11.getD 2 d0).ii), .i ((r11.getD 3 d0).ii), .i ((r11.getD 4 d0).ii), .i ((r11.getD 5 d0).ii)]).bindR fun r18 =>
 (R 37 [.s ([58] : List UInt8), .sl ((r18.getD 1 d0).ll), .i ((r18.getD 2 d0).ii), .i ((r18.getD 3 d0).ii), .i ((r18.getD 4 d0).ii), .i ((r18.getD 5 d0).ii)]).bindR fun r19 =>
 Out.andThen (if (r19.getD 0 d0).bb = true then
 (R 27 [.sl ((r19.getD 1 d0).ll), .i ((r19.getD 2 d0).ii), .i ((r19.getD 3 d0).ii), .i ((r19.getD 4 d0).ii), .i ((r19.getD 5 d0).ii)]).bindR fun r20 =>
 .norm [.i ((v9.getD 0 d0).ii), .sl ((v9.getD 1 d0).ll), .sl ((r20.getD 1 d0).ll), .i ((r20.getD 2 d0).ii), .i ((r20.getD 3 d0).ii), .i ((r20.getD 4 d0).ii), .i ((r20.getD 5 d0).ii), .i (IntKind.i64.wrap ((v9.getD 8 d0).ii - (1 : Int))), .i (1 : Int), .s ((r18.getD 0 d0).ss), .s ((r20.getD 0 d0).ss), .s []]
 else
 .norm [.i ((v9.getD 0 d0).ii), .sl ((v9.getD 1 d0).ll), .sl ((r19.getD 1 d0).ll), .i ((r19.getD 2 d0).ii), .i ((r19.getD 3 d0).ii), .i ((r19.getD 4 d0).ii), .i ((r19.getD 5 d0).ii), .i (IntKind.i64.wrap ((v9.getD 8 d0).ii - (1 : Int))), .i (1 : Int), .s [], .s ((r18.getD 0 d0).ss), .s []]) fun v21 =>
 (R 45 [.b false, .sl ((v21.getD 2 d0).ll), .i ((v21.getD 3 d0).ii), .i ((v21.getD 4 d0).ii), .i ((v21.getD 5 d0).ii), .i ((v21.getD 6 d0).ii)]).bindR fun r22 =>
 .norm [.i ((v21.getD 0 d0).ii), .sl ((v21.getD 1 d0).ll), .sl ((r22.getD 1 d0).ll), .i ((r22.getD 2 d0).ii), .i ((r22.getD 3 d0).ii), .i ((r22.getD 4 d0).ii), .i ((r22.getD 5 d0).ii), .i ((v21.getD 7 d0).ii), .i ((v21.getD 8 d0).ii), .s ((v21.getD 9 d0).ss), .s ((v21.getD 10 d0).ss), .s ((v21.getD 11 d0).ss), .sl ((r22.getD 0 d0).ll)]) fun v23 =>
 (R 28 [.b false, .sl ((v23.getD 2 d0).ll), .i ((v23.getD 3 d0).ii), .i ((v23.getD 4 d0).ii), .i ((v23.getD 5 d0).ii), .i ((v23.getD 6 d0).ii)]).bindR fun r24 =>
 Out.andThen (if ((v23.getD 8 d0).ii == (3 : Int)) = true then
 .norm [.i ((v23.getD 0 d0).ii), .sl ((v23.getD 1 d0).ll), .b true, .sl ((r24.getD 1 d0).ll), .i ((r24.getD 2 d0).ii), .i ((r24.getD 3 d0).ii), .i ((r24.getD 4 d0).ii), .i ((r24.getD 5 d0).ii), .i ((v23.getD 7 d0).ii), .i ((v23.getD 8 d0).ii), .s ((v23.getD 9 d0).ss), .s ((v23.getD 10 d0).ss), .s ((v23.getD 11 d0).ss), .sl ((v23.getD 12 d0).ll), .sl ((r24.getD 0 d0).ll)]
 else
 if ((v23.getD 8 d0).ii == (1 : Int)) = true then
 (R 30 [.s ([123] : List UInt8), .sl ((r24.getD 1 d0).ll), .i ((r24.getD 2 d0).ii), .i ((r24.getD 3 d0).ii), .i ((r24.getD 4 d0).ii), .i ((r24.getD 5 d0).ii)]).bindR fun r25 =>
 .norm [.i ((v23.getD 0 d0).ii), .sl ((v23.getD 1 d0).ll), .b ((r25.getD 0 d0).bb), .sl ((r25.getD 1 d0).ll), .i ((r25.getD 2 d0).ii), .i ((r25.getD 3 d0).ii), .i ((r25.getD 4 d0).ii), .i ((r25.getD 5 d0).ii), .i ((v23.getD 7 d0).ii), .i ((v23.getD 8 d0).ii), .s ((v23.getD 9 d0).ss), .s ((v23.getD 10 d0).ss), .s ((v23.getD 11 d0).ss), .sl ((v23.getD 12 d0).ll), .sl ((r24.getD 0 d0).ll)]
 else
 .norm [.i ((v23.getD 0 d0).ii), .sl ((v23.getD 1 d0).ll), .b false, .sl ((r24.getD 1 d0).ll), .i ((r24.getD 2 d0).ii), .i ((r24.getD 3 d0).ii), .i ((r24.getD 4 d0).ii), .i ((r24.getD 5 d0).ii), .i ((v23.getD 7 d0).ii), .i ((v23.getD 8 d0).ii), .s ((v23.getD 9 d0).ss), .s ((v23.getD 10 d0).ss), .s ((v23.getD 11 d0).ss), .sl ((v23.getD 12 d0).ll), .sl ((r24.getD 0 d0).ll)]) fun v26 =>
 Out.andThen (if (v26.getD 2 d0).bb = true then
 (R 29 [.i (IntKind.i64.wrap ((v26.getD 0 d0).ii - (1 : Int))), .sl ((v26.getD 3 d0).ll), .i ((v26.getD 4 d0).ii), .i ((v26.getD 5 d0).ii), .i ((v26.getD 6 d0).ii), .i ((v26.getD 7 d0).ii), .i ((v26.getD 8 d0).ii)]).bindR fun r27 =>
 .norm [.i ((v26.getD 0 d0).ii), .sl ((v26.getD 1 d0).ll), .sl ((r27.getD 1 d0).ll), .i ((r27.getD 2 d0).ii), .i ((r27.getD 3 d0).ii), .i ((r27.getD 4 d0).ii), .i ((r27.getD 5 d0).ii), .i ((r27.getD 6 d0).ii), .i ((v26.getD 9 d0).ii), .s ((v26.getD 10 d0).ss), .s ((v26.getD 11 d0).ss), .s ((v26.getD 12 d0).ss), .sl ((v26.getD 13 d0).ll), .sl ((v26.getD 14 d0).ll), .sl ((r27.getD 0 d0).ll)]
 else
 .norm [.i ((v26.getD 0 d0).ii), .sl ((v26.getD 1 d0).ll), .sl ((v26.getD 3 d0).ll), .i ((v26.getD 4 d0).ii), .i ((v26.getD 5 d0).ii), .i ((v26.getD 6 d0).ii), .i ((v26.getD 7 d0).ii), .i ((v26.getD 8 d0).ii), .i ((v26.getD 9 d0).ii), .s ((v26.getD 10 d0).ss), .s ((v26.getD 11 d0).ss), .s ((v26.getD 12 d0).ss), .sl ((v26.getD 13 d0).ll), .sl ((v26.getD 14 d0).ll), .sl []]) fun v28 =>
 if ((v28.getD 1 d0).ll).length + [[DC.i ((v28.getD 8 d0).ii), DC.s ((v28.getD 9 d0).ss), DC.s ((v28.getD 10 d0).ss), DC.s ((v28.getD 11 d0).ss), DC.sl ((v28.getD 12 d0).ll), DC.sl ((v28.getD 13 d0).ll), DC.sl ((v28.getD 14 d0).ll)]].length < LIM then
 (R 37 [.s ([125] : List UInt8), .sl ((v28.getD 2 d0).ll), .i ((v28.getD 3 d0).ii), .i ((v28.getD 4 d0).ii), .i ((v28.getD 5 d0).ii), .i ((v28.getD 6 d0).ii)]).bindR fun r29 =>
 if (r29.getD 0 d0).bb = true then
 .ex 0 [.sl (((v28.getD 1 d0).ll) ++ [[DC.i ((v28.getD 8 d0).ii), DC.s ((v28.getD 9 d0).ss), DC.s ((v28.getD 10 d0).ss), DC.s ((v28.getD 11 d0).ss), DC.sl ((v28.getD 12 d0).ll), DC.sl ((v28.getD 13 d0).ll), DC.sl ((v28.getD 14 d0).ll)]]), .sl ((r29.getD 1 d0).ll), .i ((r29.getD 2 d0).ii), .i ((r29.getD 3 d0).ii), .i ((r29.getD 4 d0).ii), .i ((r29.getD 5 d0).ii), .i ((v28.getD 7 d0).ii)]
 else
 .norm [.i ((v28.getD 0 d0).ii), .sl (((v28.getD 1 d0).ll) ++ [[DC.i ((v28.getD 8 d0).ii), DC.s ((v28.getD 9 d0).ss), DC.s ((v28.getD 10 d0).ss), DC.s ((v28.getD 11 d0).ss), DC.sl ((v28.getD 12 d0).ll), DC.sl ((v28.getD 13 d0).ll), DC.sl ((v28.getD 14 d0).ll)]]), .sl ((r29.getD 1 d0).ll), .i ((r29.getD 2 d0).ii), .i ((r29.getD 3 d0).ii), .i ((r29.getD 4 d0).ii), .i ((r29.getD 5 d0).ii), .i ((v28.getD 7 d0).ii)]
 else
 .fail) 1 fun v30 =>
 .norm [.i ((v30.getD 0 d0).ii), .sl ((v30.getD 1 d0).ll), .sl ((v30.getD 2 d0).ll), .i ((v30.getD 3 d0).ii), .i ((v30.getD 4 d0).ii), .i ((v30.getD 5 d0).ii), .i ((v30.getD 6 d0).ii), .i ((v30.getD 7 d0).ii)]
 else
 .ex 0 [.sl ((v6.getD 1 d0).ll), .sl ((v6.getD 2 d0).ll), .i ((v6.getD 3 d0).ii), .i ((v6.getD 4 d0).ii), .i ((v6.getD 5 d0).ii), .i ((v6.getD 6 d0).ii), .i ((v6.getD 7 d0).ii)]
def C_spec_l11Read (R : Nat → List DC → Out) (n : Nat) (a : List DC) : Out :=
 Out.andThen ((R 30 [.s ([123] : List UInt8), .sl ((a.getD 1 d0).ll), .i ((a.getD 2 d0).ii), .i ((a.getD 3 d0).ii), .i ((a.getD 4 d0).ii), .i ((a.getD 5 d0).ii)]).bindR fun r1 =>
 if (r1.getD 0 d0).bb = true then
 .norm [.i ((a.getD 0 d0).ii), .sl [], .b ((a.getD 0 d0).ii == (0 : Int)), .sl ((r1.getD 1 d0).ll), .i ((r1.getD 2 d0).ii), .i ((r1.getD 3 d0).ii), .i ((r1.getD 4 d0).ii), .i ((r1.getD 5 d0).ii), .i ((a.getD 6 d0).ii)]
 else
 .norm [.i ((a.getD 0 d0).ii), .sl [], .b false, .sl ((r1.getD 1 d0).ll), .i ((r1.getD 2 d0).ii), .i ((r1.getD 3 d0).ii), .i ((r1.getD 4 d0).ii), .i ((r1.getD 5 d0).ii), .i ((a.getD 6 d0).ii)]) fun v2 =>
 Out.andThen (if (v2.getD 2 d0).bb = true then
 (R 11 [.i (8 : Int), .sl ((v2.getD 3 d0).ll), .i ((v2.getD 4 d0).ii), .i ((v2.getD 5 d0).ii), .i ((v2.getD 6 d0).ii), .i ((v2.getD 7 d0).ii)]).bindR fun r3 =>
 .norm [.i ((v2.getD 0 d0).ii), .sl ((v2.getD 1 d0).ll), .sl ((r3.getD 0 d0).ll), .i ((r3.getD 1 d0).ii), .i ((r3.getD 2 d0).ii), .i ((r3.getD 3 d0).ii), .i ((r3.getD 4 d0).ii), .i ((v2.getD 8 d0).ii)]
 else
 .norm [.i ((v2.getD 0 d0).ii), .sl ((v2.getD 1 d0).ll), .sl ((v2.getD 3 d0).ll), .i ((v2.getD 4 d0).ii), .i ((v2.getD 5 d0).ii), .i ((v2.getD 6 d0).ii), .i ((v2.getD 7 d0).ii), .i ((v2.getD 8 d0).ii)]) fun v4 =>
 (R 32 [.s ([123] : List UInt8), .sl ((v4.getD 2 d0).ll), .i ((v4.getD 3 d0).ii), .i ((v4.getD 4 d0).ii), .i ((v4.getD 5 d0).ii), .i ((v4.getD 6 d0).ii)]).bindR fun r5 =>
 Out.andThenB (loopF (C_spec_l11ReadL1 R n) n [.i ((v4.getD 0 d0).ii), .sl ((v4.getD 1 d0).ll), .sl ((r5.getD 0 d0).ll), .i ((r5.getD 1 d0).ii), .i ((r5.getD 2 d0).ii), .i ((r5.getD 3 d0).ii), .i ((r5.getD 4 d0).ii), .i ((v4.getD 7 d0).ii)]) 0 fun v31 =>
 .ret [.sl ((v31.getD 0 d0).ll), .sl ((v31.getD 1 d0).ll), .i ((v31.getD 2 d0).ii), .i ((v31.getD 3 d0).ii), .i ((v31.getD 4 d0).ii), .i ((v31.getD 5 d0).ii), .i ((v31.getD 6 d0).ii)]
def C_spec_l08Is (R : Nat → List DC → Out) (n : Nat) (a : List DC) : Out :=
 Out.andThen (if ((a.getD 4 d0).ii == (0 : Int)) = true then
 if (decide ((a.getD 2 d0).ii < (((a.getD 1 d0).ll).length : Int))) = true then
 if 153 = 153 ∧ 0 ≤ (a.getD 2 d0).ii ∧ (a.getD 2 d0).ii < (((a.getD 1 d0).ll).length : Int) then
 if (((((a.getD 1 d0).ll).getD ((a.getD 2 d0).ii).toNat []).getD 0 d0).ii == (1 : Int)) = true then
 if 153 = 153 ∧ 0 ≤ (a.getD 2 d0).ii ∧ (a.getD 2 d0).ii < (((a.getD 1 d0).ll).length : Int) then
 .norm [.b (((((a.getD 1 d0).ll).getD ((a.getD 2 d0).ii).toNat []).getD 1 d0).ss == (a.getD 0 d0).ss), .sl ((a.getD 1 d0).ll), .i ((a.getD 2 d0).ii), .i ((a.getD 3 d0).ii), .i ((a.getD 4 d0).ii), .i ((a.getD 5 d0).ii)]
 else
 .fail
 else
 .norm [.b false, .sl ((a.getD 1 d0).ll), .i ((a.getD 2 d0).ii), .i ((a.getD 3 d0).ii), .i ((a.getD 4 d0).ii), .i ((a.getD 5 d0).ii)]
 else
 .fail
 else
 .norm [.b false, .sl ((a.getD 1 d0).ll), .i ((a.getD 2 d0).ii), .i ((a.getD 3 d0).ii), .i ((a.getD 4 d0).ii), .i ((a.getD 5 d0).ii)]
 else
 .norm [.b false, .sl ((a.getD 1 d0).ll), .i ((a.getD 2 d0).ii), .i ((a.getD 3 d0).ii), .i ((a.getD 4 d0).ii), .i ((a.getD 5 d0).ii)]) fun v1 =>
 .ret [.b ((v1.getD 0 d0).bb), .sl ((v1.getD 1 d0).ll), .i ((v1.getD 2 d0).ii), .i ((v1.getD 3 d0).ii), .i ((v1.getD 4 d0).ii), .i ((v1.getD 5 d0).ii)]
def C_spec_l12ReadVarsL1 (R : Nat → List DC → Out) (n : Nat) : List DC → Out := fun v2 =>
 if ((v2.getD 4 d0).ii == (0 : Int)) = true then
 Out.andThenB ((R 32 [.s ([36] : List UInt8), .sl ((v2.getD 1 d0).ll), .i ((v2.getD 2 d0).ii), .i ((v2.getD 3 d0).ii), .i ((v2.getD 4 d0).ii), .i ((v2.getD 5 d0).ii)]).bindR fun r3 =>
 (R 27 [.sl ((r3.getD 0 d0).ll), .i ((r3.getD 1 d0).ii), .i ((r3.getD 2 d0).ii), .i ((r3.getD 3 d0).ii), .i ((r3.getD 4 d0).ii)]).bindR fun r4 =>
 (R 32 [.s ([58] : List UInt8), .sl ((r4.getD 1 d0).ll), .i ((r4.getD 2 d0).ii), .i ((r4.getD 3 d0).ii), .i ((r4.getD 4 d0).ii), .i ((r4.getD 5 d0).ii)]).bindR fun r5 =>
 (R 46 [.sl ((r5.getD 0 d0).ll), .i ((r5.getD 1 d0).ii), .i ((r5.getD 2 d0).ii), .i ((r5.getD 3 d0).ii), .i ((r5.getD 4 d0).ii)]).bindR fun r6 =>
 (R 37 [.s ([61] : List UInt8), .sl ((r6.getD 2 d0).ll), .i ((r6.getD 3 d0).ii), .i ((r6.getD 4 d0).ii), .i ((r6.getD 5 d0).ii), .i ((r6.getD 6 d0).ii)]).bindR fun r7 =>
 Out.andThen (if (r7.getD 0 d0).bb = true then
 (R 47 [.b true, .i (10 : Int), .sl ((r7.getD 1 d0).ll), .i ((r7.getD 2 d0).ii), .i ((r7.getD 3 d0).ii), .i ((r7.getD 4 d0).ii), .i ((r7.getD 5 d0).ii)]).bindR fun r8 =>
 .norm [.sl ((v2.getD 0 d0).ll), .sl ((r8.getD 4 d0).ll), .i ((r8.getD 5 d0).ii), .i ((r8.getD 6 d0).ii), .i ((r8.getD 7 d0).ii), .i ((r8.getD 8 d0).ii), .s ((r4.getD 0 d0).ss), .s ((r6.getD 0 d0).ss), .s ((r6.getD 1 d0).ss), .b true, .i ((r8.getD 0 d0).ii), .s ((r8.getD 1 d0).ss), .sl ((r8.getD 2 d0).ll), .sl ((r8.getD 3 d0).ll)]
 else
 .norm [.sl ((v2.getD 0 d0).ll), .sl ((r7.getD 1 d0).ll), .i ((r7.getD 2 d0).ii), .i ((r7.getD 3 d0).ii), .i ((r7.getD 4 d0).ii), .i ((r7.getD 5 d0).ii), .s ((r4.getD 0 d0).ss), .s ((r6.getD 0 d0).ss), .s ((r6.getD 1 d0).ss), .b false, .i (0 : Int), .s [], .sl [], .sl []]) fun v9 =>
 (R 28 [.b true, .sl ((v9.getD 1 d0).ll), .i ((v9.getD 2 d0).ii), .i ((v9.getD 3 d0).ii), .i ((v9.getD 4 d0).ii), .i ((v9.getD 5 d0).ii)]).bindR fun r10 =>
 if ((v9.getD 0 d0).ll).length + [[DC.s ((v9.getD 6 d0).ss), DC.s ((v9.getD 7 d0).ss), DC.s ((v9.getD 8 d0).ss), DC.b ((v9.getD 9 d0).bb), DC.i ((v9.getD 10 d0).ii), DC.s ((v9.getD 11 d0).ss), DC.sl ((v9.getD 12 d0).ll), DC.sl ((v9.getD 13 d0).ll), DC.sl ((r10.getD 0 d0).ll)]].length < LIM then
 (R 37 [.s ([41] : List UInt8), .sl ((r10.getD 1 d0).ll), .i ((r10.getD 2 d0).ii), .i ((r10.getD 3 d0).ii), .i ((r10.getD 4 d0).ii), .i ((r10.getD 5 d0).ii)]).bindR fun r11 =>
 if (r11.getD 0 d0).bb = true then
 .ex 0 [.sl (((v9.getD 0 d0).ll) ++ [[DC.s ((v9.getD 6 d0).ss), DC.s ((v9.getD 7 d0).ss), DC.s ((v9.getD 8 d0).ss), DC.b ((v9.getD 9 d0).bb), DC.i ((v9.getD 10 d0).ii), DC.s ((v9.getD 11 d0).ss), DC.sl ((v9.getD 12 d0).ll), DC.sl ((v9.getD 13 d0).ll), DC.sl ((r10.getD 0 d0).ll)]]), .sl ((r11.getD 1 d0).ll), .i ((r11.getD 2 d0).ii), .i ((r11.getD 3 d0).ii), .i ((r11.getD 4 d0).ii), .i ((r11.getD 5 d0).ii)]
 else
 .norm [.sl (((v9.getD 0 d0).ll) ++ [[DC.s ((v9.getD 6 d0).ss), DC.s ((v9.getD 7 d0).ss), DC.s ((v9.getD 8 d0).ss), DC.b ((v9.getD 9 d0).bb), DC.i ((v9.getD 10 d0).ii), DC.s ((v9.getD 11 d0).ss), DC.sl ((v9.getD 12 d0).ll), DC.sl ((v9.getD 13 d0).ll), DC.sl ((r10.getD 0 d0).ll)]]), .sl ((r11.getD 1 d0).ll), .i ((r11.getD 2 d0).ii), .i ((r11.getD 3 d0).ii), .i ((r11.getD 4 d0).ii), .i ((r11.getD 5 d0).ii)]
 else
 .fail) 1 fun v12 =>
 .norm [.sl ((v12.getD 0 d0).ll), .sl ((v12.getD 1 d0).ll), .i ((v12.getD 2 d0).ii), .i ((v12.getD 3 d0).ii), .i ((v12.getD 4 d0).ii), .i ((v12.getD 5 d0).ii)]
 else
 .ex 0 [.sl ((v2.getD 0 d0).ll), .sl ((v2.getD 1 d0).ll), .i ((v2.getD 2 d0).ii), .i ((v2.getD 3 d0).ii), .i ((v2.getD 4 d0).ii), .i ((v2.getD 5 d0).ii)]
def C_spec_l12ReadVars (R : Nat → List DC → Out) (n : Nat) (a : List DC) : Out :=
 (R 37 [.s ([40] : List UInt8), .sl ((a.getD 0 d0).ll), .i ((a.getD 1 d0).ii), .i ((a.getD 2 d0).ii), .i ((a.getD 3 d0).ii), .i ((a.getD 4 d0).ii)]).bindR fun r1 =>
 if (!((r1.getD 0 d0).bb)) = true then
 .ret [.sl [], .sl ((r1.getD 1 d0).ll), .i ((r1.getD 2 d0).ii), .i ((r1.getD 3 d0).ii), .i ((r1.getD 4 d0).ii), .i ((r1.getD 5 d0).ii)]
 else
 Out.andThenB (loopF (C_spec_l12ReadVarsL1 R n) n [.sl [], .sl ((r1.getD 1 d0).ll), .i ((r1.getD 2 d0).ii), .i ((r1.getD 3 d0).ii), .i ((r1.getD 4 d0).ii), .i ((r1.getD 5 d0).ii)]) 0 fun v13 =>
 .ret [.sl ((v13.getD 0 d0).ll), .sl ((v13.getD 1 d0).ll), .i ((v13.getD 2 d0).ii), .i ((v13.getD 3 d0).ii), .i ((v13.getD 4 d0).ii), .i ((v13.getD 5 d0).ii)]
def C_spec_l08Opt (R : Nat → List DC → Out) (n : Nat) (a : List DC) : Out :=
 (R 30 [.s ((a.getD 0 d0).ss), .sl ((a.getD 1 d0).ll), .i ((a.getD 2 d0).ii), .i ((a.getD 3 d0).ii), .i ((a.getD 4 d0).ii), .i ((a.getD 5 d0).ii)]).bindR fun r1 =>
 if (!((r1.getD 0 d0).bb)) = true then
 .ret [.b false, .sl ((r1.getD 1 d0).ll), .i ((r1.getD 2 d0).ii), .i ((r1.getD 3 d0).ii), .i ((r1.getD 4 d0).ii), .i ((r1.getD 5 d0).ii)]
 else
 .ret [.b true, .sl ((r1.getD 1 d0).ll), .i (IntKind.i64.wrap ((r1.getD 2 d0).ii + (1 : Int))), .i ((r1.getD 3 d0).ii), .i ((r1.getD 4 d0).ii), .i ((r1.getD 5 d0).ii)]
def C_spec_l08Take (R : Nat → List DC → Out) (n : Nat) (a : List DC) : Out :=
 (R 30 [.s ((a.getD 0 d0).ss), .sl ((a.getD 1 d0).ll), .i ((a.getD 2 d0).ii), .i ((a.getD 3 d0).ii), .i ((a.getD 4 d0).ii), .i ((a.getD 5 d0).ii)]).bindR fun r1 =>
 if (!((r1.getD 0 d0).bb)) = true then
 (R 11 [.i (7 : Int), .sl ((r1.getD 1 d0).ll), .i ((r1.getD 2 d0).ii), .i ((r1.getD 3 d0).ii), .i ((r1.getD 4 d0).ii), .i ((r1.getD 5 d0).ii)]).bindR fun r2 =>
 .ret [.sl ((r2.getD 0 d0).ll), .i ((r2.getD 1 d0).ii), .i ((r2.getD 2 d0).ii), .i ((r2.getD 3 d0).ii), .i ((r2.getD 4 d0).ii)]
 else
 .ret [.sl ((r1.getD 1 d0).ll), .i (IntKind.i64.wrap ((r1.getD 2 d0).ii + (1 : Int))), .i ((r1.getD 3 d0).ii), .i ((r1.getD 4 d0).ii), .i ((r1.getD 5 d0).ii)]
def C_spec_l13Has (R : Nat → List DC → Out) (n : Nat) (a : List DC) : Out :=
 .ret [.b (decide ((IntKind.i64.wrap ((IntKind.i64.wrap ((IntKind.i64.wrap ((IntKind.i64.wrap ((IntKind.i64.wrap ((((a.getD 4 d0).ll).length : Int) + (((a.getD 5 d0).ll).length : Int))) + (((a.getD 6 d0).ll).length : Int))) + (((a.getD 7 d0).ll).length : Int))) + (((a.getD 8 d0).ll).length : Int))) + (((a.getD 10 d0).ll).length : Int))) > (0 : Int)))]
def C_spec_l13ReadFieldsL1 (R : Nat → List DC → Out) (n : Nat) : List DC → Out := fun v2 =>
 if ((v2.getD 4 d0).ii == (0 : Int)) = true then
 Out.andThenB ((R 19 [.sl ((v2.getD 1 d0).ll), .i ((v2.getD 2 d0).ii), .i ((v2.getD 3 d0).ii), .i ((v2.getD 4 d0).ii), .i ((v2.getD 5 d0).ii)]).bindR fun r3 =>
 (R 27 [.sl ((r3.getD 1 d0).ll), .i ((r3.getD 2 d0).ii), .i ((r3.getD 3 d0).ii), .i ((r3.getD 4 d0).ii), .i ((r3.getD 5 d0).ii)]).bindR fun r4 =>
 (R 33 [.s ([40] : List UInt8), .s ([41] : List UInt8), .sl ((r4.getD 1 d0).ll), .i ((r4.getD 2 d0).ii), .i ((r4.getD 3 d0).ii), .i ((r4.getD 4 d0).ii), .i ((r4.getD 5 d0).ii)]).bindR fun r5 =>
 (R 32 [.s ([58] : List UInt8), .sl ((r5.getD 1 d0).ll), .i ((r5.getD 2 d0).ii), .i ((r5.getD 3 d0).ii), .i ((r5.getD 4 d0).ii), .i ((r5.getD 5 d0).ii)]).bindR fun r6 =>
 (R 46 [.sl ((r6.getD 0 d0).ll), .i ((r6.getD 1 d0).ii), .i ((r6.getD 2 d0).ii), .i ((r6.getD 3 d0).ii), .i ((r6.getD 4 d0).ii)]).bindR fun r7 =>
 (R 28 [.b true, .sl ((r7.getD 2 d0).ll), .i ((r7.getD 3 d0).ii), .i ((r7.getD 4 d0).ii), .i ((r7.getD 5 d0).ii), .i ((r7.getD 6 d0).ii)]).bindR fun r8 =>
 if ((v2.getD 0 d0).ll).length + [[DC.s ((r4.getD 0 d0).ss), DC.s ((r3.getD 0 d0).ss), DC.sl ((r5.getD 0 d0).ll), DC.s ((r7.getD 0 d0).ss), DC.s ((r7.getD 1 d0).ss), DC.sl ((r8.getD 0 d0).ll)]].length < LIM then
 (R 37 [.s ([125] : List UInt8), .sl ((r8.getD 1 d0).ll), .i ((r8.getD 2 d0).ii), .i ((r8.getD 3 d0).ii), .i ((r8.getD 4 d0).ii), .i ((r8.getD 5 d0).ii)]).bindR fun r9 =>
 if (r9.getD 0 d0).bb = true then
 .ex 0 [.sl (((v2.getD 0 d0).ll) ++ [[DC.s ((r4.getD 0 d0).ss), DC.s ((r3.getD 0 d0).ss), DC.sl ((r5.getD 0 d0).ll), DC.s ((r7.getD 0 d0).ss), DC.s ((r7.getD 1 d0).ss), DC.sl ((r8.getD 0 d0).ll)]]), .sl ((r9.getD 1 d0).ll), .i ((r9.getD 2 d0).ii), .i ((r9.getD 3 d0).ii), .i ((r9.getD 4 d0).ii), .i ((r9.getD 5 d0).ii)]
 else
 .norm [.sl (((v2.getD 0 d0).ll) ++ [[DC.s ((r4.getD 0 d0).ss), DC.s ((r3.getD 0 d0).ss), DC.sl ((r5.getD 0 d0).ll), DC.s ((r7.getD 0 d0).ss), DC.s ((r7.getD 1 d0).ss), DC.sl ((r8.getD 0 d0).ll)]]), .sl ((r9.getD 1 d0).ll), .i ((r9.getD 2 d0).ii), .i ((r9.getD 3 d0).ii), .i ((r9.getD 4 d0).ii), .i ((r9.getD 5 d0).ii)]
 else
 .fail) 1 fun v10 =>
 .norm [.sl ((v10.getD 0 d0).ll), .sl ((v10.getD 1 d0).ll), .i ((v10.getD 2 d0).ii), .i ((v10.getD 3 d0).ii), .i ((v10.getD 4 d0).ii), .i ((v10.getD 5 d0).ii)]
 else
 .ex 0 [.sl ((v2.getD 0 d0).ll), .sl ((v2.getD 1 d0).ll), .i ((v2.getD 2 d0).ii), .i ((v2.getD 3 d0).ii), .i ((v2.getD 4 d0).ii), .i ((v2.getD 5 d0).ii)]
def C_spec_l13ReadFields (R : Nat → List DC → Out) (n : Nat) (a : List DC) : Out :=
 (R 37 [.s ([123] : List UInt8), .sl ((a.getD 0 d0).ll), .i ((a.getD 1 d0).ii), .i ((a.getD 2 d0).ii), .i ((a.getD 3 d0).ii), .i ((a.getD 4 d0).ii)]).bindR fun r1 =>
 if (!((r1.getD 0 d0).bb)) = true then
 .ret [.sl [], .sl ((r1.getD 1 d0).ll), .i ((r1.getD 2 d0).ii), .i ((r1.getD 3 d0).ii), .i ((r1.getD 4 d0).ii), .i ((r1.getD 5 d0).ii)]
 else
 Out.andThenB (loopF (C_spec_l13ReadFieldsL1 R n) n [.sl [], .sl ((r1.getD 1 d0).ll), .i ((r1.getD 2 d0).ii), .i ((r1.getD 3 d0).ii), .i ((r1.getD 4 d0).ii), .i ((r1.getD 5 d0).ii)]) 0 fun v11 =>
 .ret [.sl ((v11.getD 0 d0).ll), .sl ((v11.getD 1 d0).ll), .i ((v11.getD 2 d0).ii), .i ((v11.getD 3 d0).ii), .i ((v11.getD 4 d0).ii), .i ((v11.getD 5 d0).ii)]
def C_spec_l13ReadInsL1 (R : Nat → List DC → Out) (n : Nat) : List DC → Out := fun v2 =>
 if ((v2.getD 5 d0).ii == (0 : Int)) = true then
 Out.andThenB ((R 48 [.sl ((v2.getD 2 d0).ll), .i ((v2.getD 3 d0).ii), .i ((v2.getD 4 d0).ii), .i ((v2.getD 5 d0).ii), .i ((v2.getD 6 d0).ii)]).bindR fun r3 =>
 if ((v2.getD 1 d0).ll).length + [[DC.s ((r3.getD 0 d0).ss), DC.s ((r3.getD 1 d0).ss), DC.s ((r3.getD 2 d0).ss), DC.s ((r3.getD 3 d0).ss), DC.b ((r3.getD 4 d0).bb), DC.i ((r3.getD 5 d0).ii), DC.s ((r3.getD 6 d0).ss), DC.sl ((r3.getD 7 d0).ll), DC.sl ((r3.getD 8 d0).ll), DC.sl ((r3.getD 9 d0).ll)]].length < LIM then
 (R 37 [.s ((v2.getD 0 d0).ss), .sl ((r3.getD 10 d0).ll), .i ((r3.getD 11 d0).ii), .i ((r3.getD 12 d0).ii), .i ((r3.getD 13 d0).ii), .i ((r3.getD 14 d0).ii)]).bindR fun r4 =>
 if (r4.getD 0 d0).bb = true then
 .ex 0 [.sl (((v2.getD 1 d0).ll) ++ [[DC.s ((r3.getD 0 d0).ss), DC.s ((r3.getD 1 d0).ss), DC.s ((r3.getD 2 d0).ss), DC.s ((r3.getD 3 d0).ss), DC.b ((r3.getD 4 d0).bb), DC.i ((r3.getD 5 d0).ii), DC.s ((r3.getD 6 d0).ss), DC.sl ((r3.getD 7 d0).ll), DC.sl ((r3.getD 8 d0).ll), DC.sl ((r3.getD 9 d0).ll)]]), .sl ((r4.getD 1 d0).ll), .i ((r4.getD 2 d0).ii), .i ((r4.getD 3 d0).ii), .i ((r4.getD 4 d0).ii), .i ((r4.getD 5 d0).ii)]
 else
 .norm [.s ((v2.getD 0 d0).ss), .sl (((v2.getD 1 d0).ll) ++ [[DC.s ((r3.getD 0 d0).ss), DC.s ((r3.getD 1 d0).ss), DC.s ((r3.getD 2 d0).ss), DC.s ((r3.getD 3 d0).ss), DC.b ((r3.getD 4 d0).bb), DC.i ((r3.getD 5 d0).ii), DC.s ((r3.getD 6 d0).ss), DC.sl ((r3.getD 7 d0).ll), DC.sl ((r3.getD 8 d0).ll), DC.sl ((r3.getD 9 d0).ll)]]), .sl ((r4.getD 1 d0).ll), .i ((r4.getD 2 d0).ii), .i ((r4.getD 3 d0).ii), .i ((r4.getD 4 d0).ii), .i ((r4.getD 5 d0).ii)]
 else
 .fail) 1 fun v5 =>
 .norm [.s ((v5.getD 0 d0).ss), .sl ((v5.getD 1 d0).ll), .sl ((v5.getD 2 d0).ll), .i ((v5.getD 3 d0).ii), .i ((v5.getD 4 d0).ii), .i ((v5.getD 5 d0).ii), .i ((v5.getD 6 d0).ii)]
 else
 .ex 0 [.sl ((v2.getD 1 d0).ll), .sl ((v2.getD 2 d0).ll), .i ((v2.getD 3 d0).ii), .i ((v2.getD 4 d0).ii), .i ((v2.getD 5 d0).ii), .i ((v2.getD 6 d0).ii)]
def C_spec_l13ReadIns (R : Nat → List DC → Out) (n : Nat) (a : List DC) : Out :=
 (R 37 [.s ((a.getD 0 d0).ss), .sl ((a.getD 2 d0).ll), .i ((a.getD 3 d0).ii), .i ((a.getD 4 d0).ii), .i ((a.getD 5 d0).ii), .i ((a.getD 6 d0).ii)]).bindR fun r1 =>
 if (!((r1.getD 0 d0).bb)) = true then
 .ret [.sl [], .sl ((r1.getD 1 d0).ll), .i ((r1.getD 2 d0).ii), .i ((r1.getD 3 d0).ii), .i ((r1.getD 4 d0).ii), .i ((r1.getD 5 d0).ii)]
 else
 Out.andThenB (loopF (C_spec_l13ReadInsL1 R n) n [.s ((a.getD 1 d0).ss), .sl [], .sl ((r1.getD 1 d0).ll), .i ((r1.getD 2 d0).ii), .i ((r1.getD 3 d0).ii), .i ((r1.getD 4 d0).ii), .i ((r1.getD 5 d0).ii)]) 0 fun v6 =>
 .ret [.sl ((v6.getD 0 d0).ll), .sl ((v6.getD 1 d0).ll), .i ((v6.getD 2 d0).ii), .i ((v6.getD 3 d0).ii), .i ((v6.getD 4 d0).ii), .i ((v6.getD 5 d0).ii)]
def C_spec_l13ReadNamesL1 (R : Nat → List DC → Out) (n : Nat) : List DC → Out := fun v2 =>
 if ((v2.getD 5 d0).ii == (0 : Int)) = true then
 Out.andThenB ((R 27 [.sl ((v2.getD 2 d0).ll), .i ((v2.getD 3 d0).ii), .i ((v2.getD 4 d0).ii), .i ((v2.getD 5 d0).ii), .i ((v2.getD 6 d0).ii)]).bindR fun r3 =>
 if ((v2.getD 1 d0).ll).length + [[DC.s ((r3.getD 0 d0).ss)]].length < LIM then
 (R 37 [.s ((v2.getD 0 d0).ss), .sl ((r3.getD 1 d0).ll), .i ((r3.getD 2 d0).ii), .i ((r3.getD 3 d0).ii), .i ((r3.getD 4 d0).ii), .i ((r3.getD 5 d0).ii)]).bindR fun r4 =>
 if (!((r4.getD 0 d0).bb)) = true then
 .ex 0 [.sl (((v2.getD 1 d0).ll) ++ [[DC.s ((r3.getD 0 d0).ss)]]), .sl ((r4.getD 1 d0).ll), .i ((r4.getD 2 d0).ii), .i ((r4.getD 3 d0).ii), .i ((r4.getD 4 d0).ii), .i ((r4.getD 5 d0).ii)]
 else
 .norm [.s ((v2.getD 0 d0).ss), .sl (((v2.getD 1 d0).ll) ++ [[DC.s ((r3.getD 0 d0).ss)]]), .sl ((r4.getD 1 d0).ll), .i ((r4.getD 2 d0).ii), .i ((r4.getD 3 d0).ii), .i ((r4.getD 4 d0).ii), .i ((r4.getD 5 d0).ii)]
 else
 .fail) 1 fun v5 =>
 .norm [.s ((v5.getD 0 d0).ss), .sl ((v5.getD 1 d0).ll), .sl ((v5.getD 2 d0).ll), .i ((v5.getD 3 d0).ii), .i ((v5.getD 4 d0).ii), .i ((v5.getD 5 d0).ii), .i ((v5.getD 6 d0).ii)]
 else
 .ex 0 [.sl ((v2.getD 1 d0).ll), .sl ((v2.getD 2 d0).ll), .i ((v2.getD 3 d0).ii), .i ((v2.getD 4 d0).ii), .i ((v2.getD 5 d0).ii), .i ((v2.getD 6 d0).ii)]
def C_spec_l13ReadNames (R : Nat → List DC → Out) (n : Nat) (a : List DC) : Out :=
 (R 37 [.s ((a.getD 0 d0).ss), .sl ((a.getD 1 d0).ll), .i ((a.getD 2 d0).ii), .i ((a.getD 3 d0).ii), .i ((a.getD 4 d0).ii), .i ((a.getD 5 d0).ii)]).bindR fun r1 =>
 Out.andThenB (loopF (C_spec_l13ReadNamesL1 R n) n [.s ((a.getD 0 d0).ss), .sl [], .sl ((r1.getD 1 d0).ll), .i ((r1.getD 2 d0).ii), .i ((r1.getD 3 d0).ii), .i ((r1.getD 4 d0).ii), .i ((r1.getD 5 d0).ii)]) 0 fun v6 =>
 .ret [.sl ((v6.getD 0 d0).ll), .sl ((v6.getD 1 d0).ll), .i ((v6.getD 2 d0).ii), .i ((v6.getD 3 d0).ii), .i ((v6.getD 4 d0).ii), .i ((v6.getD 5 d0).ii)]
def C_spec_l13ReadPlacesL1 (R : Nat → List DC → Out) (n : Nat) : List DC → Out := fun v2 =>
 if ((v2.getD 4 d0).ii == (0 : Int)) = true then
 Out.andThenB (Out.andThen ((R 21 [.i (2 : Int), .sl ((v2.getD 1 d0).ll), .i ((v2.getD 2 d0).ii), .i ((v2.getD 3 d0).ii), .i ((v2.getD 4 d0).ii), .i ((v2.getD 5 d0).ii)]).bindR fun r3 =>
 if (!((r3.getD 0 d0).bb)) = true then
 .norm [.sl ((v2.getD 0 d0).ll), .b true, .sl ((r3.getD 1 d0).ll), .i ((r3.getD 2 d0).ii), .i ((r3.getD 3 d0).ii), .i ((r3.getD 4 d0).ii), .i ((r3.getD 5 d0).ii)]
 else
 if 153 = 153 ∧ 0 ≤ (r3.getD 2 d0).ii ∧ (r3.getD 2 d0).ii < (((r3.getD 1 d0).ll).length : Int) then
 (R 49 [.s (((((r3.getD 1 d0).ll).getD ((r3.getD 2 d0).ii).toNat []).getD 1 d0).ss)]).bindR fun r4 =>
 .norm [.sl ((v2.getD 0 d0).ll), .b (!((r4.getD 0 d0).bb)), .sl ((r3.getD 1 d0).ll), .i ((r3.getD 2 d0).ii), .i ((r3.getD 3 d0).ii), .i ((r3.getD 4 d0).ii), .i ((r3.getD 5 d0).ii)]
 else
 .fail) fun v5 =>
 Out.andThen (if (v5.getD 1 d0).bb = true then
 (R 11 [.i (7 : Int), .sl ((v5.getD 2 d0).ll), .i ((v5.getD 3 d0).ii), .i ((v5.getD 4 d0).ii), .i ((v5.getD 5 d0).ii), .i ((v5.getD 6 d0).ii)]).bindR fun r6 =>
 .norm [.sl ((v5.getD 0 d0).ll), .sl ((r6.getD 0 d0).ll), .i ((r6.getD 1 d0).ii), .i ((r6.getD 2 d0).ii), .i ((r6.getD 3 d0).ii), .i ((r6.getD 4 d0).ii)]
 else
 .norm [.sl ((v5.getD 0 d0).ll), .sl ((v5.getD 2 d0).ll), .i ((v5.getD 3 d0).ii), .i ((v5.getD 4 d0).ii), .i ((v5.getD 5 d0).ii), .i ((v5.getD 6 d0).ii)]) fun v7 =>
 (R 27 [.sl ((v7.getD 1 d0).ll), .i ((v7.getD 2 d0).ii), .i ((v7.getD 3 d0).ii), .i ((v7.getD 4 d0).ii), .i ((v7.getD 5 d0).ii)]).bindR fun r8 =>
 if ((v7.getD 0 d0).ll).length + [[DC.s ((r8.getD 0 d0).ss)]].length < LIM then
 (R 37 [.s ([124] : List UInt8), .sl ((r8.getD 1 d0).ll), .i ((r8.getD 2 d0).ii), .i ((r8.getD 3 d0).ii), .i ((r8.getD 4 d0).ii), .i ((r8.getD 5 d0).ii)]).bindR fun r9 =>
 if (!((r9.getD 0 d0).bb)) = true then
 .ex 0 [.sl (((v7.getD 0 d0).ll) ++ [[DC.s ((r8.getD 0 d0).ss)]]), .sl ((r9.getD 1 d0).ll), .i ((r9.getD 2 d0).ii), .i ((r9.getD 3 d0).ii), .i ((r9.getD 4 d0).ii), .i ((r9.getD 5 d0).ii)]
 else
 .norm [.sl (((v7.getD 0 d0).ll) ++ [[DC.s ((r8.getD 0 d0).ss)]]), .sl ((r9.getD 1 d0).ll), .i ((r9.getD 2 d0).ii), .i ((r9.getD 3 d0).ii), .i ((r9.getD 4 d0).ii), .i ((r9.getD 5 d0).ii)]
 else
 .fail) 1 fun v10 =>
 .norm [.sl ((v10.getD 0 d0).ll), .sl ((v10.getD 1 d0).ll), .i ((v10.getD 2 d0).ii), .i ((v10.getD 3 d0).ii), .i ((v10.getD 4 d0).ii), .i ((v10.getD 5 d0).ii)]
 else
 .ex 0 [.sl ((v2.getD 0 d0).ll), .sl ((v2.getD 1 d0).ll), .i ((v2.getD 2 d0).ii), .i ((v2.getD 3 d0).ii), .i ((v2.getD 4 d0).ii), .i ((v2.getD 5 d0).ii)]
def C_spec_l13ReadPlaces (R : Nat → List DC → Out) (n : Nat) (a : List DC) : Out :=
 (R 37 [.s ([124] : List UInt8), .sl ((a.getD 0 d0).ll), .i ((a.getD 1 d0).ii), .i ((a.getD 2 d0).ii), .i ((a.getD 3 d0).ii), .i ((a.getD 4 d0).ii)]).bindR fun r1 =>
 Out.andThenB (loopF (C_spec_l13ReadPlacesL1 R n) n [.sl [], .sl ((r1.getD 1 d0).ll), .i ((r1.getD 2 d0).ii), .i ((r1.getD 3 d0).ii), .i ((r1.getD 4 d0).ii), .i ((r1.getD 5 d0).ii)]) 0 fun v11 =>
 .ret [.sl ((v11.getD 0 d0).ll), .sl ((v11.getD 1 d0).ll), .i ((v11.getD 2 d0).ii), .i ((v11.getD 3 d0).ii), .i ((v11.getD 4 d0).ii), .i ((v11.getD 5 d0).ii)]
def C_spec_l13ReadRootsL1 (R : Nat → List DC → Out) (n : Nat) : List DC → Out := fun v3 =>
 if (decide ((v3.getD 1 d0).ii ≤ (3 : Int))) = true then
 Out.andThenB ((R 41 [.i ((v3.getD 1 d0).ii)]).bindR fun r4 =>
 (R 17 [.s ((r4.getD 0 d0).ss), .sl ((v3.getD 2 d0).ll), .i ((v3.getD 3 d0).ii), .i ((v3.getD 4 d0).ii), .i ((v3.getD 5 d0).ii), .i ((v3.getD 6 d0).ii)]).bindR fun r5 =>
 Out.andThen (if (r5.getD 0 d0).bb = true then
 .norm [.sl ((v3.getD 0 d0).ll), .i ((v3.getD 1 d0).ii), .sl ((r5.getD 1 d0).ll), .i ((r5.getD 2 d0).ii), .i ((r5.getD 3 d0).ii), .i ((r5.getD 4 d0).ii), .i ((r5.getD 5 d0).ii), .i ((v3.getD 1 d0).ii), .s ((v3.getD 8 d0).ss)]
 else
 .norm [.sl ((v3.getD 0 d0).ll), .i ((v3.getD 1 d0).ii), .sl ((r5.getD 1 d0).ll), .i ((r5.getD 2 d0).ii), .i ((r5.getD 3 d0).ii), .i ((r5.getD 4 d0).ii), .i ((r5.getD 5 d0).ii), .i ((v3.getD 7 d0).ii), .s ((v3.getD 8 d0).ss)]) fun v6 =>
 .norm [.sl ((v6.getD 0 d0).ll), .i ((v6.getD 1 d0).ii), .sl ((v6.getD 2 d0).ll), .i ((v6.getD 3 d0).ii), .i ((v6.getD 4 d0).ii), .i ((v6.getD 5 d0).ii), .i ((v6.getD 6 d0).ii), .i ((v6.getD 7 d0).ii), .s ((v6.getD 8 d0).ss)]) 3 fun v7 =>
 .norm [.sl ((v7.getD 0 d0).ll), .i (IntKind.i64.wrap ((v7.getD 1 d0).ii + (1 : Int))), .sl ((v7.getD 2 d0).ll), .i ((v7.getD 3 d0).ii), .i ((v7.getD 4 d0).ii), .i ((v7.getD 5 d0).ii), .i ((v7.getD 6 d0).ii), .i ((v7.getD 7 d0).ii), .s ((v7.getD 8 d0).ss)]
 else
 .ex 2 [.sl ((v3.getD 0 d0).ll), .sl ((v3.getD 2 d0).ll), .i ((v3.getD 3 d0).ii), .i ((v3.getD 4 d0).ii), .i ((v3.getD 5 d0).ii), .i ((v3.getD 6 d0).ii), .i ((v3.getD 7 d0).ii), .s ((v3.getD 8 d0).ss)]
def C_spec_l13ReadRootsL2 (R : Nat → List DC → Out) (n : Nat) : List DC → Out := fun v2 =>
 if ((v2.getD 4 d0).ii == (0 : Int)) = true then
 Out.andThenB (Out.andThenB (loopF (C_spec_l13ReadRootsL1 R n) n [.sl ((v2.getD 0 d0).ll), .i (1 : Int), .sl ((v2.getD 1 d0).ll), .i ((v2.getD 2 d0).ii), .i ((v2.getD 3 d0).ii), .i ((v2.getD 4 d0).ii), .i ((v2.getD 5 d0).ii), .i (0 : Int), .s []]) 2 fun v8 =>
 Out.andThen (if ((v8.getD 6 d0).ii == (0 : Int)) = true then
 (R 11 [.i (7 : Int), .sl ((v8.getD 1 d0).ll), .i ((v8.getD 2 d0).ii), .i ((v8.getD 3 d0).ii), .i ((v8.getD 4 d0).ii), .i ((v8.getD 5 d0).ii)]).bindR fun r9 =>
 .norm [.sl ((v8.getD 0 d0).ll), .sl ((r9.getD 0 d0).ll), .i ((r9.getD 1 d0).ii), .i ((r9.getD 2 d0).ii), .i ((r9.getD 3 d0).ii), .i ((r9.getD 4 d0).ii), .i ((v8.getD 6 d0).ii), .s ((v8.getD 7 d0).ss)]
 else
 .norm [.sl ((v8.getD 0 d0).ll), .sl ((v8.getD 1 d0).ll), .i ((v8.getD 2 d0).ii), .i ((v8.getD 3 d0).ii), .i ((v8.getD 4 d0).ii), .i ((v8.getD 5 d0).ii), .i ((v8.getD 6 d0).ii), .s ((v8.getD 7 d0).ss)]) fun v10 =>
 (R 27 [.sl ((v10.getD 1 d0).ll), .i ((v10.getD 2 d0).ii), .i ((v10.getD 3 d0).ii), .i ((v10.getD 4 d0).ii), .i ((v10.getD 5 d0).ii)]).bindR fun r11 =>
 (R 32 [.s ([58] : List UInt8), .sl ((r11.getD 1 d0).ll), .i ((r11.getD 2 d0).ii), .i ((r11.getD 3 d0).ii), .i ((r11.getD 4 d0).ii), .i ((r11.getD 5 d0).ii)]).bindR fun r12 =>
 (R 27 [.sl ((r12.getD 0 d0).ll), .i ((r12.getD 1 d0).ii), .i ((r12.getD 2 d0).ii), .i ((r12.getD 3 d0).ii), .i ((r12.getD 4 d0).ii)]).bindR fun r13 =>
 if ((v10.getD 0 d0).ll).length + [[DC.i ((v10.getD 6 d0).ii), DC.s ((r13.getD 0 d0).ss)]].length < LIM then
 (R 37 [.s ([125] : List UInt8), .sl ((r13.getD 1 d0).ll), .i ((r13.getD 2 d0).ii), .i ((r13.getD 3 d0).ii), .i ((r13.getD 4 d0).ii), .i ((r13.getD 5 d0).ii)]).bindR fun r14 =>
 if (r14.getD 0 d0).bb = true then
 .ex 0 [.sl (((v10.getD 0 d0).ll) ++ [[DC.i ((v10.getD 6 d0).ii), DC.s ((r13.getD 0 d0).ss)]]), .sl ((r14.getD 1 d0).ll), .i ((r14.getD 2 d0).ii), .i ((r14.getD 3 d0).ii), .i ((r14.getD 4 d0).ii), .i ((r14.getD 5 d0).ii)]
 else
 .norm [.sl (((v10.getD 0 d0).ll) ++ [[DC.i ((v10.getD 6 d0).ii), DC.s ((r13.getD 0 d0).ss)]]), .sl ((r14.getD 1 d0).ll), .i ((r14.getD 2 d0).ii), .i ((r14.getD 3 d0).ii), .i ((r14.getD 4 d0).ii), .i ((r14.getD 5 d0).ii)]
 else
 .fail) 1 fun v15 =>
 .norm [.sl ((v15.getD 0 d0).ll), .sl ((v15.getD 1 d0).ll), .i ((v15.getD 2 d0).ii), .i ((v15.getD 3 d0).ii), .i ((v15.getD 4 d0).ii), .i ((v15.getD 5 d0).ii)]
 else
 .ex 0 [.sl ((v2.getD 0 d0).ll), .sl ((v2.getD 1 d0).ll), .i ((v2.getD 2 d0).ii), .i ((v2.getD 3 d0).ii), .i ((v2.getD 4 d0).ii), .i ((v2.getD 5 d0).ii)]
def C_spec_l13ReadRoots (R : Nat → List DC → Out) (n : Nat) (a : List DC) : Out :=
 (R 37 [.s ([123] : List UInt8), .sl ((a.getD 0 d0).ll), .i ((a.getD 1 d0).ii), .i ((a.getD 2 d0).ii), .i ((a.getD 3 d0).ii), .i ((a.getD 4 d0).ii)]).bindR fun r1 =>
 if (!((r1.getD 0 d0).bb)) = true then
 .ret [.sl [], .sl ((r1.getD 1 d0).ll), .i ((r1.getD 2 d0).ii), .i ((r1.getD 3 d0).ii), .i ((r1.getD 4 d0).ii), .i ((r1.getD 5 d0).ii)]
 else
 Out.andThenB (loopF (C_spec_l13ReadRootsL2 R n) n [.sl [], .sl ((r1.getD 1 d0).ll), .i ((r1.getD 2 d0).ii), .i ((r1.getD 3 d0).ii), .i ((r1.getD 4 d0).ii), .i ((r1.getD 5 d0).ii)]) 0 fun v16 =>
 .ret [.sl ((v16.getD 0 d0).ll), .sl ((v16.getD 1 d0).ll), .i ((v16.getD 2 d0).ii), .i ((v16.getD 3 d0).ii), .i ((v16.getD 4 d0).ii), .i ((v16.getD 5 d0).ii)]
def C_spec_l13ReadValuesL1 (R : Nat → List DC → Out) (n : Nat) : List DC → Out := fun v2 =>
 if ((v2.getD 4 d0).ii == (0 : Int)) = true then
 Out.andThenB ((R 19 [.sl ((v2.getD 1 d0).ll), .i ((v2.getD 2 d0).ii), .i ((v2.getD 3 d0).ii), .i ((v2.getD 4 d0).ii), .i ((v2.getD 5 d0).ii)]).bindR fun r3 =>
 Out.andThen ((R 21 [.i (2 : Int), .sl ((r3.getD 1 d0).ll), .i ((r3.getD 2 d0).ii), .i ((r3.getD 3 d0).ii), .i ((r3.getD 4 d0).ii), .i ((r3.getD 5 d0).ii)]).bindR fun r4 =>
 if (r4.getD 0 d0).bb = true then
 if 153 = 153 ∧ 0 ≤ (r4.getD 2 d0).ii ∧ (r4.getD 2 d0).ii < (((r4.getD 1 d0).ll).length : Int) then
 (R 50 [.s (((((r4.getD 1 d0).ll).getD ((r4.getD 2 d0).ii).toNat []).getD 1 d0).ss)]).bindR fun r5 =>
 .norm [.sl ((v2.getD 0 d0).ll), .b ((r5.getD 0 d0).bb), .sl ((r4.getD 1 d0).ll), .i ((r4.getD 2 d0).ii), .i ((r4.getD 3 d0).ii), .i ((r4.getD 4 d0).ii), .i ((r4.getD 5 d0).ii), .s [], .s ((r3.getD 0 d0).ss)]
 else
 .fail
 else
 .norm [.sl ((v2.getD 0 d0).ll), .b false, .sl ((r4.getD 1 d0).ll), .i ((r4.getD 2 d0).ii), .i ((r4.getD 3 d0).ii), .i ((r4.getD 4 d0).ii), .i ((r4.getD 5 d0).ii), .s [], .s ((r3.getD 0 d0).ss)]) fun v6 =>
 Out.andThen (if (v6.getD 1 d0).bb = true then
 (R 11 [.i (7 : Int), .sl ((v6.getD 2 d0).ll), .i ((v6.getD 3 d0).ii), .i ((v6.getD 4 d0).ii), .i ((v6.getD 5 d0).ii), .i ((v6.getD 6 d0).ii)]).bindR fun r7 =>
 .norm [.sl ((v6.getD 0 d0).ll), .sl ((r7.getD 0 d0).ll), .i ((r7.getD 1 d0).ii), .i ((r7.getD 2 d0).ii), .i ((r7.getD 3 d0).ii), .i ((r7.getD 4 d0).ii), .s ((v6.getD 7 d0).ss), .s ((v6.getD 8 d0).ss)]
 else
 .norm [.sl ((v6.getD 0 d0).ll), .sl ((v6.getD 2 d0).ll), .i ((v6.getD 3 d0).ii), .i ((v6.getD 4 d0).ii), .i ((v6.getD 5 d0).ii), .i ((v6.getD 6 d0).ii), .s ((v6.getD 7 d0).ss), .s ((v6.getD 8 d0).ss)]) fun v8 =>
 (R 27 [.sl ((v8.getD 1 d0).ll), .i ((v8.getD 2 d0).ii), .i ((v8.getD 3 d0).ii), .i ((v8.getD 4 d0).ii), .i ((v8.getD 5 d0).ii)]).bindR fun r9 =>
 (R 28 [.b true, .sl ((r9.getD 1 d0).ll), .i ((r9.getD 2 d0).ii), .i ((r9.getD 3 d0).ii), .i ((r9.getD 4 d0).ii), .i ((r9.getD 5 d0).ii)]).bindR fun r10 =>
 if ((v8.getD 0 d0).ll).length + [[DC.s ((r9.getD 0 d0).ss), DC.s ((v8.getD 7 d0).ss), DC.sl ((r10.getD 0 d0).ll)]].length < LIM then
 (R 37 [.s ([125] : List UInt8), .sl ((r10.getD 1 d0).ll), .i ((r10.getD 2 d0).ii), .i ((r10.getD 3 d0).ii), .i ((r10.getD 4 d0).ii), .i ((r10.getD 5 d0).ii)]).bindR fun r11 =>
 if (r11.getD 0 d0).bb = true then
 .ex 0 [.sl (((v8.getD 0 d0).ll) ++ [[DC.s ((r9.getD 0 d0).ss), DC.s ((v8.getD 7 d0).ss), DC.sl ((r10.getD 0 d0).ll)]]), .sl ((r11.getD 1 d0).ll), .i ((r11.getD 2 d0).ii), .i ((r11.getD 3 d0).ii), .i ((r11.getD 4 d0).ii), .i ((r11.getD 5 d0).ii)]
 else
 .norm [.sl (((v8.getD 0 d0).ll) ++ [[DC.s ((r9.getD 0 d0).ss), DC.s ((v8.getD 7 d0).ss), DC.sl ((r10.getD 0 d0).ll)]]), .sl ((r11.getD 1 d0).ll), .i ((r11.getD 2 d0).ii), .i ((r11.getD 3 d0).ii), .i ((r11.getD 4 d0).ii), .i ((r11.getD 5 d0).ii)]
 else
 .fail) 1 fun v12 =>
 .norm [.sl ((v12.getD 0 d0).ll), .sl ((v12.getD 1 d0).ll), .i ((v12.getD 2 d0).ii), .i ((v12.getD 3 d0).ii), .i ((v12.getD 4 d0).ii), .i ((v12.getD 5 d0).ii)]
 else
 .ex 0 [.sl ((v2.getD 0 d0).ll), .sl ((v2.getD 1 d0).ll), .i ((v2.getD 2 d0).ii), .i ((v2.getD 3 d0).ii), .i ((v2.getD 4 d0).ii), .i ((v2.getD 5 d0).ii)]
def C_spec_l13ReadValues (R : Nat → List DC → Out) (n : Nat) (a : List DC) : Out :=
 (R 37 [.s ([123] : List UInt8), .sl ((a.getD 0 d0).ll), .i ((a.getD 1 d0).ii), .i ((a.getD 2 d0).ii), .i ((a.getD 3 d0).ii), .i ((a.getD 4 d0).ii)]).bindR fun r1 =>
 if (!((r1.getD 0 d0).bb)) = true then
 .ret [.sl [], .sl ((r1.getD 1 d0).ll), .i ((r1.getD 2 d0).ii), .i ((r1.getD 3 d0).ii), .i ((r1.getD 4 d0).ii), .i ((r1.getD 5 d0).ii)]
 else
 Out.andThenB (loopF (C_spec_l13ReadValuesL1 R n) n [.sl [], .sl ((r1.getD 1 d0).ll), .i ((r1.getD 2 d0).ii), .i ((r1.getD 3 d0).ii), .i ((r1.getD 4 d0).ii), .i ((r1.getD 5 d0).ii)]) 0 fun v13 =>
 .ret [.sl ((v13.getD 0 d0).ll), .sl ((v13.getD 1 d0).ll), .i ((v13.getD 2 d0).ii), .i ((v13.getD 3 d0).ii), .i ((v13.getD 4 d0).ii), .i ((v13.getD 5 d0).ii)]
def C_spec_OpWord (R : Nat → List DC → Out) (n : Nat) (a : List DC) : Out :=
 Out.andThenB (if ((a.getD 0 d0).ii == (1 : Int)) = true then
 .ret [.s ([113, 117, 101, 114, 121] : List UInt8)]
 else
 if ((a.getD 0 d0).ii == (2 : Int)) = true then
 .ret [.s ([109, 117, 116, 97, 116, 105, 111, 110] : List UInt8)]
 else
 if ((a.getD 0 d0).ii == (3 : Int)) = true then
 .ret [.s ([115, 117, 98, 115, 99, 114, 105, 112, 116, 105, 111, 110] : List UInt8)]
 else
 .norm []) 0 fun v1 =>
 .ret [.s ([] : List UInt8)]
def C_spec_l13Word (R : Nat → List DC → Out) (n : Nat) (a : List DC) : Out :=
 if 9 = 9 ∧ 0 ≤ (a.getD 0 d0).ii ∧ (a.getD 0 d0).ii < ([[DC.s ([] : List UInt8)], [DC.s ([115, 99, 97, 108, 97, 114] : List UInt8)], [DC.s ([116, 121, 112, 101] : List UInt8)], [DC.s ([105, 110, 116, 101, 114, 102, 97, 99, 101] : List UInt8)], [DC.s ([117, 110, 105, 111, 110] : List UInt8)], [DC.s ([101, 110, 117, 109] : List UInt8)], [DC.s ([105, 110, 112, 117, 116] : List UInt8)], [DC.s ([100, 105, 114, 101, 99, 116, 105, 118, 101] : List UInt8)], [DC.s ([115, 99, 104, 101, 109, 97] : List UInt8)]].length : Int) then
 .ret [.s ((([[DC.s ([] : List UInt8)], [DC.s ([115, 99, 97, 108, 97, 114] : List UInt8)], [DC.s ([116, 121, 112, 101] : List UInt8)], [DC.s ([105, 110, 116, 101, 114, 102, 97, 99, 101] : List UInt8)], [DC.s ([117, 110, 105, 111, 110] : List UInt8)], [DC.s ([101, 110, 117, 109] : List UInt8)], [DC.s ([105, 110, 112, 117, 116] : List UInt8)], [DC.s ([100, 105, 114, 101, 99, 116, 105, 118, 101] : List UInt8)], [DC.s ([115, 99, 104, 101, 109, 97] : List UInt8)]].getD ((a.getD 0 d0).ii).toNat []).getD 0 d0).ss)]
 else
 .fail
def C_spec_l10ArgsL1 (R : Nat → List DC → Out) (n : Nat) : List DC → Out := fun v1 =>
 if (decide ((v1.getD 2 d0).ii < (((v1.getD 0 d0).ll).length : Int))) = true then
 Out.andThenB (if 199 = 199 ∧ 0 ≤ (v1.getD 2 d0).ii ∧ (v1.getD 2 d0).ii < (((v1.getD 0 d0).ll).length : Int) then
 if 199 = 199 ∧ 0 ≤ (v1.getD 2 d0).ii ∧ (v1.getD 2 d0).ii < (((v1.getD 0 d0).ll).length : Int) then
 (R 44 [.i (((((v1.getD 0 d0).ll).getD ((v1.getD 2 d0).ii).toNat []).getD 1 d0).ii), .s (((((v1.getD 0 d0).ll).getD ((v1.getD 2 d0).ii).toNat []).getD 2 d0).ss), .sl (((((v1.getD 0 d0).ll).getD ((v1.getD 2 d0).ii).toNat []).getD 3 d0).ll), .sl (((((v1.getD 0 d0).ll).getD ((v1.getD 2 d0).ii).toNat []).getD 4 d0).ll)]).bindR fun r2 =>
 if ((v1.getD 1 d0).ll).length + [[DC.s (((((v1.getD 0 d0).ll).getD ((v1.getD 2 d0).ii).toNat []).getD 0 d0).ss), DC.i ((r2.getD 0 d0).ii), DC.s ((r2.getD 1 d0).ss), DC.sl ((r2.getD 2 d0).ll), DC.sl ((r2.getD 3 d0).ll)]].length < LIM ∧ 179 = 179 then
 .norm [.sl ((v1.getD 0 d0).ll), .sl (((v1.getD 1 d0).ll) ++ [[DC.s (((((v1.getD 0 d0).ll).getD ((v1.getD 2 d0).ii).toNat []).getD 0 d0).ss), DC.i ((r2.getD 0 d0).ii), DC.s ((r2.getD 1 d0).ss), DC.sl ((r2.getD 2 d0).ll), DC.sl ((r2.getD 3 d0).ll)]]), .i ((v1.getD 2 d0).ii)]
 else
 .fail
 else
 .fail
 else
 .fail) 1 fun v3 =>
 .norm [.sl ((v3.getD 0 d0).ll), .sl ((v3.getD 1 d0).ll), .i (IntKind.i64.wrap ((v3.getD 2 d0).ii + (1 : Int)))]
 else
 .ex 0 [.sl ((v1.getD 1 d0).ll)]
def C_spec_l10Args (R : Nat → List DC → Out) (n : Nat) (a : List DC) : Out :=
 Out.andThenB (loopF (C_spec_l10ArgsL1 R n) n [.sl ((a.getD 0 d0).ll), .sl [], .i (0 : Int)]) 0 fun v4 =>
 .ret [.sl ((v4.getD 0 d0).ll)]
def C_spec_l07CopyL1 (R : Nat → List DC → Out) (n : Nat) : List DC → Out := fun v4 =>
 if (decide ((v4.getD 0 d0).ii < (((v4.getD 3 d0).ll).length : Int))) = true then
 Out.andThenB (if 34 = 34 ∧ 0 ≤ (v4.getD 0 d0).ii ∧ (v4.getD 0 d0).ii < (((v4.getD 3 d0).ll).length : Int) then
 (R 44 [.i (((((v4.getD 3 d0).ll).getD ((v4.getD 0 d0).ii).toNat []).getD 0 d0).ii), .s (((((v4.getD 3 d0).ll).getD ((v4.getD 0 d0).ii).toNat []).getD 1 d0).ss), .sl (((((v4.getD 3 d0).ll).getD ((v4.getD 0 d0).ii).toNat []).getD 2 d0).ll), .sl (((((v4.getD 3 d0).ll).getD ((v4.getD 0 d0).ii).toNat []).getD 3 d0).ll)]).bindR fun r5 =>
 if ((v4.getD 9 d0).ll).length + [[DC.i ((r5.getD 0 d0).ii), DC.s ((r5.getD 1 d0).ss), DC.sl ((r5.getD 2 d0).ll), DC.sl ((r5.getD 3 d0).ll)]].length < LIM ∧ 31 = 31 then
 .norm [.i ((v4.getD 0 d0).ii), .i ((v4.getD 1 d0).ii), .s ((v4.getD 2 d0).ss), .sl ((v4.getD 3 d0).ll), .sl ((v4.getD 4 d0).ll), .i ((v4.getD 5 d0).ii), .s ((v4.getD 6 d0).ss), .i ((v4.getD 7 d0).ii), .s ((v4.getD 8 d0).ss), .sl (((v4.getD 9 d0).ll) ++ [[DC.i ((r5.getD 0 d0).ii), DC.s ((r5.getD 1 d0).ss), DC.sl ((r5.getD 2 d0).ll), DC.sl ((r5.getD 3 d0).ll)]]), .sl ((v4.getD 10 d0).ll)]
 else
 .fail
 else
 .fail) 1 fun v6 =>
 .norm [.i (IntKind.i64.wrap ((v6.getD 0 d0).ii + (1 : Int))), .i ((v6.getD 1 d0).ii), .s ((v6.getD 2 d0).ss), .sl ((v6.getD 3 d0).ll), .sl ((v6.getD 4 d0).ll), .i ((v6.getD 5 d0).ii), .s ((v6.getD 6 d0).ss), .i ((v6.getD 7 d0).ii), .s ((v6.getD 8 d0).ss), .sl ((v6.getD 9 d0).ll), .sl ((v6.getD 10 d0).ll)]
 else
 .ex 0 [.i ((v4.getD 5 d0).ii), .s ((v4.getD 6 d0).ss), .i ((v4.getD 7 d0).ii), .s ((v4.getD 8 d0).ss), .sl ((v4.getD 9 d0).ll), .sl ((v4.getD 10 d0).ll)]
def C_spec_l07Copy (R : Nat → List DC → Out) (n : Nat) (a : List DC) : Out :=
 if ([] : List (List DC)).length + ((a.getD 3 d0).ll).length < LIM then
 Out.andThenB (loopF (C_spec_l07CopyL1 R n) n [.i (0 : Int), .i ((a.getD 0 d0).ii), .s ((a.getD 1 d0).ss), .sl ((a.getD 2 d0).ll), .sl ((a.getD 3 d0).ll), .i (0 : Int), .s [], .i ((a.getD 0 d0).ii), .s ((a.getD 1 d0).ss), .sl [], .sl (([] : List (List DC)) ++ ((a.getD 3 d0).ll))]) 0 fun v7 =>
 .ret [.i ((v7.getD 2 d0).ii), .s ((v7.getD 3 d0).ss), .sl ((v7.getD 4 d0).ll), .sl ((v7.getD 5 d0).ll)]
 else
 .fail
def C_spec_l10ReadArgsL1 (R : Nat → List DC → Out) (n : Nat) : List DC → Out := fun v2 =>
 if ((v2.getD 5 d0).ii == (0 : Int)) = true then
 Out.andThenB ((R 27 [.sl ((v2.getD 2 d0).ll), .i ((v2.getD 3 d0).ii), .i ((v2.getD 4 d0).ii), .i ((v2.getD 5 d0).ii), .i ((v2.getD 6 d0).ii)]).bindR fun r3 =>
 (R 32 [.s ([58] : List UInt8), .sl ((r3.getD 1 d0).ll), .i ((r3.getD 2 d0).ii), .i ((r3.getD 3 d0).ii), .i ((r3.getD 4 d0).ii), .i ((r3.getD 5 d0).ii)]).bindR fun r4 =>
 (R 47 [.b ((v2.getD 0 d0).bb), .i (10 : Int), .sl ((r4.getD 0 d0).ll), .i ((r4.getD 1 d0).ii), .i ((r4.getD 2 d0).ii), .i ((r4.getD 3 d0).ii), .i ((r4.getD 4 d0).ii)]).bindR fun r5 =>
 if ((v2.getD 1 d0).ll).length + [[DC.s ((r3.getD 0 d0).ss), DC.i ((r5.getD 0 d0).ii), DC.s ((r5.getD 1 d0).ss), DC.sl ((r5.getD 2 d0).ll), DC.sl ((r5.getD 3 d0).ll)]].length < LIM then
 (R 37 [.s ([41] : List UInt8), .sl ((r5.getD 4 d0).ll), .i ((r5.getD 5 d0).ii), .i ((r5.getD 6 d0).ii), .i ((r5.getD 7 d0).ii), .i ((r5.getD 8 d0).ii)]).bindR fun r6 =>
 if (r6.getD 0 d0).bb = true then
 .ex 0 [.sl (((v2.getD 1 d0).ll) ++ [[DC.s ((r3.getD 0 d0).ss), DC.i ((r5.getD 0 d0).ii), DC.s ((r5.getD 1 d0).ss), DC.sl ((r5.getD 2 d0).ll), DC.sl ((r5.getD 3 d0).ll)]]), .sl ((r6.getD 1 d0).ll), .i ((r6.getD 2 d0).ii), .i ((r6.getD 3 d0).ii), .i ((r6.getD 4 d0).ii), .i ((r6.getD 5 d0).ii)]
 else
 .norm [.b ((v2.getD 0 d0).bb), .sl (((v2.getD 1 d0).ll) ++ [[DC.s ((r3.getD 0 d0).ss), DC.i ((r5.getD 0 d0).ii), DC.s ((r5.getD 1 d0).ss), DC.sl ((r5.getD 2 d0).ll), DC.sl ((r5.getD 3 d0).ll)]]), .sl ((r6.getD 1 d0).ll), .i ((r6.getD 2 d0).ii), .i ((r6.getD 3 d0).ii), .i ((r6.getD 4 d0).ii), .i ((r6.getD 5 d0).ii)]
 else
 .fail) 1 fun v7 =>
 .norm [.b ((v7.getD 0 d0).bb), .sl ((v7.getD 1 d0).ll), .sl ((v7.getD 2 d0).ll), .i ((v7.getD 3 d0).ii), .i ((v7.getD 4 d0).ii), .i ((v7.getD 5 d0).ii), .i ((v7.getD 6 d0).ii)]
 else
 .ex 0 [.sl ((v2.getD 1 d0).ll), .sl ((v2.getD 2 d0).ll), .i ((v2.getD 3 d0).ii), .i ((v2.getD 4 d0).ii), .i ((v2.getD 5 d0).ii), .i ((v2.getD 6 d0).ii)]
def C_spec_l10ReadArgs (R : Nat → List DC → Out) (n : Nat) (a : List DC) : Out :=
 (R 37 [.s ([40] : List UInt8), .sl ((a.getD 1 d0).ll), .i ((a.getD 2 d0).ii), .i ((a.getD 3 d0).ii), .i ((a.getD 4 d0).ii), .i ((a.getD 5 d0).ii)]).bindR fun r1 =>
 if (!((r1.getD 0 d0).bb)) = true then
 .ret [.sl [], .sl ((r1.getD 1 d0).ll), .i ((r1.getD 2 d0).ii), .i ((r1.getD 3 d0).ii), .i ((r1.getD 4 d0).ii), .i ((r1.getD 5 d0).ii)]
 else
 Out.andThenB (loopF (C_spec_l10ReadArgsL1 R n) n [.b ((a.getD 0 d0).bb), .sl [], .sl ((r1.getD 1 d0).ll), .i ((r1.getD 2 d0).ii), .i ((r1.getD 3 d0).ii), .i ((r1.getD 4 d0).ii), .i ((r1.getD 5 d0).ii)]) 0 fun v8 =>
 .ret [.sl ((v8.getD 0 d0).ll), .sl ((v8.getD 1 d0).ll), .i ((v8.getD 2 d0).ii), .i ((v8.getD 3 d0).ii), .i ((v8.getD 4 d0).ii), .i ((v8.getD 5 d0).ii)]
def C_spec_l08ValueL1 (R : Nat → List DC → Out) (n : Nat) : List DC → Out := fun v22 =>
 Out.andThen (if ((v22.getD 6 d0).ii == (0 : Int)) = true then
 (R 37 [.s ((v22.getD 2 d0).ss), .sl ((v22.getD 3 d0).ll), .i ((v22.getD 4 d0).ii), .i ((v22.getD 5 d0).ii), .i ((v22.getD 6 d0).ii), .i ((v22.getD 7 d0).ii)]).bindR fun r23 =>
 .norm [.b ((v22.getD 0 d0).bb), .i ((v22.getD 1 d0).ii), .s ((v22.getD 2 d0).ss), .b (!((r23.getD 0 d0).bb)), .sl ((r23.getD 1 d0).ll), .i ((r23.getD 2 d0).ii), .i ((r23.getD 3 d0).ii), .i ((r23.getD 4 d0).ii), .i ((r23.getD 5 d0).ii), .i ((v22.getD 8 d0).ii), .s ((v22.getD 9 d0).ss), .i ((v22.getD 10 d0).ii), .s ((v22.getD 11 d0).ss), .sl ((v22.getD 12 d0).ll), .sl ((v22.getD 13 d0).ll)]
 else
 .norm [.b ((v22.getD 0 d0).bb), .i ((v22.getD 1 d0).ii), .s ((v22.getD 2 d0).ss), .b false, .sl ((v22.getD 3 d0).ll), .i ((v22.getD 4 d0).ii), .i ((v22.getD 5 d0).ii), .i ((v22.getD 6 d0).ii), .i ((v22.getD 7 d0).ii), .i ((v22.getD 8 d0).ii), .s ((v22.getD 9 d0).ss), .i ((v22.getD 10 d0).ii), .s ((v22.getD 11 d0).ss), .sl ((v22.getD 12 d0).ll), .sl ((v22.getD 13 d0).ll)]) fun v24 =>
 if (v24.getD 3 d0).bb = true then
 Out.andThenB (Out.andThen (if ((v24.getD 11 d0).ii == (8 : Int)) = true then
 (R 27 [.sl ((v24.getD 4 d0).ll), .i ((v24.getD 5 d0).ii), .i ((v24.getD 6 d0).ii), .i ((v24.getD 7 d0).ii), .i ((v24.getD 8 d0).ii)]).bindR fun r25 =>
 if ((v24.getD 14 d0).ll).length + [[DC.s ((r25.getD 0 d0).ss)]].length < LIM then
 (R 32 [.s ([58] : List UInt8), .sl ((r25.getD 1 d0).ll), .i ((r25.getD 2 d0).ii), .i ((r25.getD 3 d0).ii), .i ((r25.getD 4 d0).ii), .i ((r25.getD 5 d0).ii)]).bindR fun r26 =>
 .norm [.b ((v24.getD 0 d0).bb), .i ((v24.getD 1 d0).ii), .s ((v24.getD 2 d0).ss), .sl ((r26.getD 0 d0).ll), .i ((r26.getD 1 d0).ii), .i ((r26.getD 2 d0).ii), .i ((r26.getD 3 d0).ii), .i ((r26.getD 4 d0).ii), .i ((v24.getD 9 d0).ii), .s ((v24.getD 10 d0).ss), .i ((v24.getD 11 d0).ii), .s ((v24.getD 12 d0).ss), .sl ((v24.getD 13 d0).ll), .sl (((v24.getD 14 d0).ll) ++ [[DC.s ((r25.getD 0 d0).ss)]])]
 else
 .fail
 else
 .norm [.b ((v24.getD 0 d0).bb), .i ((v24.getD 1 d0).ii), .s ((v24.getD 2 d0).ss), .sl ((v24.getD 4 d0).ll), .i ((v24.getD 5 d0).ii), .i ((v24.getD 6 d0).ii), .i ((v24.getD 7 d0).ii), .i ((v24.getD 8 d0).ii), .i ((v24.getD 9 d0).ii), .s ((v24.getD 10 d0).ss), .i ((v24.getD 11 d0).ii), .s ((v24.getD 12 d0).ss), .sl ((v24.getD 13 d0).ll), .sl ((v24.getD 14 d0).ll)]) fun v27 =>
 (R 47 [.b ((v27.getD 0 d0).bb), .i (IntKind.i64.wrap ((v27.getD 1 d0).ii - (1 : Int))), .sl ((v27.getD 3 d0).ll), .i ((v27.getD 4 d0).ii), .i ((v27.getD 5 d0).ii), .i ((v27.getD 6 d0).ii), .i ((v27.getD 7 d0).ii)]).bindR fun r28 =>
 if ((v27.getD 12 d0).ll).length + [[DC.i ((r28.getD 0 d0).ii), DC.s ((r28.getD 1 d0).ss), DC.sl ((r28.getD 2 d0).ll), DC.sl ((r28.getD 3 d0).ll)]].length < LIM then
 .norm [.b ((v27.getD 0 d0).bb), .i ((v27.getD 1 d0).ii), .s ((v27.getD 2 d0).ss), .sl ((r28.getD 4 d0).ll), .i ((r28.getD 5 d0).ii), .i ((r28.getD 6 d0).ii), .i ((r28.getD 7 d0).ii), .i ((r28.getD 8 d0).ii), .i ((v27.getD 8 d0).ii), .s ((v27.getD 9 d0).ss), .i ((v27.getD 10 d0).ii), .s ((v27.getD 11 d0).ss), .sl (((v27.getD 12 d0).ll) ++ [[DC.i ((r28.getD 0 d0).ii), DC.s ((r28.getD 1 d0).ss), DC.sl ((r28.getD 2 d0).ll), DC.sl ((r28.getD 3 d0).ll)]]), .sl ((v27.getD 13 d0).ll)]
 else
 .fail) 3 fun v29 =>
 .norm [.b ((v29.getD 0 d0).bb), .i ((v29.getD 1 d0).ii), .s ((v29.getD 2 d0).ss), .sl ((v29.getD 3 d0).ll), .i ((v29.getD 4 d0).ii), .i ((v29.getD 5 d0).ii), .i ((v29.getD 6 d0).ii), .i ((v29.getD 7 d0).ii), .i ((v29.getD 8 d0).ii), .s ((v29.getD 9 d0).ss), .i ((v29.getD 10 d0).ii), .s ((v29.getD 11 d0).ss), .sl ((v29.getD 12 d0).ll), .sl ((v29.getD 13 d0).ll)]
 else
 .ex 2 [.sl ((v24.getD 4 d0).ll), .i ((v24.getD 5 d0).ii), .i ((v24.getD 6 d0).ii), .i ((v24.getD 7 d0).ii), .i ((v24.getD 8 d0).ii), .i ((v24.getD 9 d0).ii), .s ((v24.getD 10 d0).ss), .i ((v24.getD 11 d0).ii), .s ((v24.getD 12 d0).ss), .sl ((v24.getD 13 d0).ll), .sl ((v24.getD 14 d0).ll)]
def C_spec_l08Value (R : Nat → List DC → Out) (n : Nat) (a : List DC) : Out :=
 if ((a.getD 5 d0).ii != (0 : Int)) = true then
 .ret [.i (0 : Int), .s [], .sl [], .sl [], .sl ((a.getD 2 d0).ll), .i ((a.getD 3 d0).ii), .i ((a.getD 4 d0).ii), .i ((a.getD 5 d0).ii), .i ((a.getD 6 d0).ii)]
 else
 if (decide ((a.getD 3 d0).ii ≥ (((a.getD 2 d0).ll).length : Int))) = true then
 (R 11 [.i (7 : Int), .sl ((a.getD 2 d0).ll), .i ((a.getD 3 d0).ii), .i ((a.getD 4 d0).ii), .i ((a.getD 5 d0).ii), .i ((a.getD 6 d0).ii)]).bindR fun r1 =>
 .ret [.i (0 : Int), .s [], .sl [], .sl [], .sl ((r1.getD 0 d0).ll), .i ((r1.getD 1 d0).ii), .i ((r1.getD 2 d0).ii), .i ((r1.getD 3 d0).ii), .i ((r1.getD 4 d0).ii)]
 else
 if 153 = 153 ∧ 0 ≤ (a.getD 3 d0).ii ∧ (a.getD 3 d0).ii < (((a.getD 2 d0).ll).length : Int) then
 Out.andThenB (Out.andThen (if (((((a.getD 2 d0).ll).getD ((a.getD 3 d0).ii).toNat []).getD 0 d0).ii == (3 : Int)) = true then
 .norm [.b ((a.getD 0 d0).bb), .i ((a.getD 1 d0).ii), .i (((((a.getD 2 d0).ll).getD ((a.getD 3 d0).ii).toNat []).getD 0 d0).ii), .b (((((a.getD 2 d0).ll).getD ((a.getD 3 d0).ii).toNat []).getD 0 d0).ii == (3 : Int)), .sl ((a.getD 2 d0).ll), .i ((a.getD 3 d0).ii), .i ((a.getD 4 d0).ii), .i ((a.getD 5 d0).ii), .i ((a.getD 6 d0).ii), .i (0 : Int), .s [], .i (0 : Int), .s [], .i (((((a.getD 2 d0).ll).getD ((a.getD 3 d0).ii).toNat []).getD 0 d0).ii), .s (((((a.getD 2 d0).ll).getD ((a.getD 3 d0).ii).toNat []).getD 1 d0).ss), .i (((((a.getD 2 d0).ll).getD ((a.getD 3 d0).ii).toNat []).getD 2 d0).ii)]
 else
 Out.andThen (if (((((a.getD 2 d0).ll).getD ((a.getD 3 d0).ii).toNat []).getD 0 d0).ii == (4 : Int)) = true then
 .norm [.b ((a.getD 0 d0).bb), .i ((a.getD 1 d0).ii), .i (((((a.getD 2 d0).ll).getD ((a.getD 3 d0).ii).toNat []).getD 0 d0).ii), .b (((((a.getD 2 d0).ll).getD ((a.getD 3 d0).ii).toNat []).getD 0 d0).ii == (4 : Int)), .sl ((a.getD 2 d0).ll), .i ((a.getD 3 d0).ii), .i ((a.getD 4 d0).ii), .i ((a.getD 5 d0).ii), .i ((a.getD 6 d0).ii), .i (0 : Int), .s [], .i (0 : Int), .s [], .i (((((a.getD 2 d0).ll).getD ((a.getD 3 d0).ii).toNat []).getD 0 d0).ii), .s (((((a.getD 2 d0).ll).getD ((a.getD 3 d0).ii).toNat []).getD 1 d0).ss), .i (((((a.getD 2 d0).ll).getD ((a.getD 3 d0).ii).toNat []).getD 2 d0).ii)]
 else
 .norm [.b ((a.getD 0 d0).bb), .i ((a.getD 1 d0).ii), .i (((((a.getD 2 d0).ll).getD ((a.getD 3 d0).ii).toNat []).getD 0 d0).ii), .b (((((a.getD 2 d0).ll).getD ((a.getD 3 d0).ii).toNat []).getD 0 d0).ii == (5 : Int)), .sl ((a.getD 2 d0).ll), .i ((a.getD 3 d0).ii), .i ((a.getD 4 d0).ii), .i ((a.getD 5 d0).ii), .i ((a.getD 6 d0).ii), .i (0 : Int), .s [], .i (0 : Int), .s [], .i (((((a.getD 2 d0).ll).getD ((a.getD 3 d0).ii).toNat []).getD 0 d0).ii), .s (((((a.getD 2 d0).ll).getD ((a.getD 3 d0).ii).toNat []).getD 1 d0).ss), .i (((((a.getD 2 d0).ll).getD ((a.getD 3 d0).ii).toNat []).getD 2 d0).ii)]) fun v2 =>
 .norm [.b ((v2.getD 0 d0).bb), .i ((v2.getD 1 d0).ii), .i ((v2.getD 2 d0).ii), .b ((v2.getD 3 d0).bb), .sl ((v2.getD 4 d0).ll), .i ((v2.getD 5 d0).ii), .i ((v2.getD 6 d0).ii), .i ((v2.getD 7 d0).ii), .i ((v2.getD 8 d0).ii), .i ((v2.getD 9 d0).ii), .s ((v2.getD 10 d0).ss), .i ((v2.getD 11 d0).ii), .s ((v2.getD 12 d0).ss), .i ((v2.getD 13 d0).ii), .s ((v2.getD 14 d0).ss), .i ((v2.getD 15 d0).ii)]) fun v3 =>
 if (v3.getD 3 d0).bb = true then
 Out.andThen (if ((v3.getD 13 d0).ii == (4 : Int)) = true then
 .norm [.sl ((v3.getD 4 d0).ll), .i (IntKind.i64.wrap ((v3.getD 5 d0).ii + (1 : Int))), .i ((v3.getD 6 d0).ii), .i ((v3.getD 7 d0).ii), .i ((v3.getD 8 d0).ii), .i ((v3.getD 9 d0).ii), .s ((v3.getD 10 d0).ss), .i (3 : Int), .s ((v3.getD 14 d0).ss), .i ((v3.getD 13 d0).ii), .s ((v3.getD 14 d0).ss), .i ((v3.getD 15 d0).ii)]
 else
 .norm [.sl ((v3.getD 4 d0).ll), .i (IntKind.i64.wrap ((v3.getD 5 d0).ii + (1 : Int))), .i ((v3.getD 6 d0).ii), .i ((v3.getD 7 d0).ii), .i ((v3.getD 8 d0).ii), .i ((v3.getD 9 d0).ii), .s ((v3.getD 10 d0).ss), .i (2 : Int), .s ((v3.getD 14 d0).ss), .i ((v3.getD 13 d0).ii), .s ((v3.getD 14 d0).ss), .i ((v3.getD 15 d0).ii)]) fun v4 =>
 Out.andThen (if ((v4.getD 9 d0).ii == (5 : Int)) = true then
 .norm [.sl ((v4.getD 0 d0).ll), .i ((v4.getD 1 d0).ii), .i ((v4.getD 2 d0).ii), .i ((v4.getD 3 d0).ii), .i ((v4.getD 4 d0).ii), .i ((v4.getD 5 d0).ii), .s ((v4.getD 6 d0).ss), .i (4 : Int), .s ((v4.getD 8 d0).ss)]
 else
 .norm [.sl ((v4.getD 0 d0).ll), .i ((v4.getD 1 d0).ii), .i ((v4.getD 2 d0).ii), .i ((v4.getD 3 d0).ii), .i ((v4.getD 4 d0).ii), .i ((v4.getD 5 d0).ii), .s ((v4.getD 6 d0).ss), .i ((v4.getD 7 d0).ii), .s ((v4.getD 8 d0).ss)]) fun v5 =>
 .ret [.i ((v5.getD 7 d0).ii), .s ((v5.getD 8 d0).ss), .sl [], .sl [], .sl ((v5.getD 0 d0).ll), .i ((v5.getD 1 d0).ii), .i ((v5.getD 2 d0).ii), .i ((v5.getD 3 d0).ii), .i ((v5.getD 4 d0).ii)]
 else
 if ((v3.getD 2 d0).ii == (2 : Int)) = true then
 (R 50 [.s ((v3.getD 14 d0).ss)]).bindR fun r6 =>
 Out.andThen (if (r6.getD 0 d0).bb = true then
 .norm [.sl ((v3.getD 4 d0).ll), .i (IntKind.i64.wrap ((v3.getD 5 d0).ii + (1 : Int))), .i ((v3.getD 6 d0).ii), .i ((v3.getD 7 d0).ii), .i ((v3.getD 8 d0).ii), .i ((v3.getD 9 d0).ii), .s ((v3.getD 10 d0).ss), .i (5 : Int), .s ((v3.getD 14 d0).ss)]
 else
 .norm [.sl ((v3.getD 4 d0).ll), .i (IntKind.i64.wrap ((v3.getD 5 d0).ii + (1 : Int))), .i ((v3.getD 6 d0).ii), .i ((v3.getD 7 d0).ii), .i ((v3.getD 8 d0).ii), .i ((v3.getD 9 d0).ii), .s ((v3.getD 10 d0).ss), .i (6 : Int), .s ((v3.getD 14 d0).ss)]) fun v7 =>
 .ret [.i ((v7.getD 7 d0).ii), .s ((v7.getD 8 d0).ss), .sl [], .sl [], .sl ((v7.getD 0 d0).ll), .i ((v7.getD 1 d0).ii), .i ((v7.getD 2 d0).ii), .i ((v7.getD 3 d0).ii), .i ((v7.getD 4 d0).ii)]
 else
 .norm [.b ((v3.getD 0 d0).bb), .i ((v3.getD 1 d0).ii), .sl ((v3.getD 4 d0).ll), .i ((v3.getD 5 d0).ii), .i ((v3.getD 6 d0).ii), .i ((v3.getD 7 d0).ii), .i ((v3.getD 8 d0).ii), .i ((v3.getD 9 d0).ii), .s ((v3.getD 10 d0).ss), .i ((v3.getD 11 d0).ii), .s ((v3.getD 12 d0).ss), .i ((v3.getD 13 d0).ii), .s ((v3.getD 14 d0).ss), .i ((v3.getD 15 d0).ii)]) 0 fun v8 =>
 Out.andThenB (Out.andThen (if ((v8.getD 12 d0).ss == ([36] : List UInt8)) = true then
 .norm [.b ((v8.getD 0 d0).bb), .i ((v8.getD 1 d0).ii), .b (!((v8.getD 0 d0).bb)), .sl ((v8.getD 2 d0).ll), .i ((v8.getD 3 d0).ii), .i ((v8.getD 4 d0).ii), .i ((v8.getD 5 d0).ii), .i ((v8.getD 6 d0).ii), .i ((v8.getD 7 d0).ii), .s ((v8.getD 8 d0).ss), .i ((v8.getD 9 d0).ii), .s ((v8.getD 10 d0).ss), .i ((v8.getD 11 d0).ii), .s ((v8.getD 12 d0).ss), .i ((v8.getD 13 d0).ii)]
 else
 .norm [.b ((v8.getD 0 d0).bb), .i ((v8.getD 1 d0).ii), .b false, .sl ((v8.getD 2 d0).ll), .i ((v8.getD 3 d0).ii), .i ((v8.getD 4 d0).ii), .i ((v8.getD 5 d0).ii), .i ((v8.getD 6 d0).ii), .i ((v8.getD 7 d0).ii), .s ((v8.getD 8 d0).ss), .i ((v8.getD 9 d0).ii), .s ((v8.getD 10 d0).ss), .i ((v8.getD 11 d0).ii), .s ((v8.getD 12 d0).ss), .i ((v8.getD 13 d0).ii)]) fun v9 =>
 if (v9.getD 2 d0).bb = true then
 (R 27 [.sl ((v9.getD 3 d0).ll), .i (IntKind.i64.wrap ((v9.getD 4 d0).ii + (1 : Int))), .i ((v9.getD 5 d0).ii), .i ((v9.getD 6 d0).ii), .i ((v9.getD 7 d0).ii)]).bindR fun r10 =>
 .ret [.i (1 : Int), .s ((r10.getD 0 d0).ss), .sl [], .sl [], .sl ((r10.getD 1 d0).ll), .i ((r10.getD 2 d0).ii), .i ((r10.getD 3 d0).ii), .i ((r10.getD 4 d0).ii), .i ((r10.getD 5 d0).ii)]
 else
 Out.andThen (if ((v9.getD 13 d0).ss == ([91] : List UInt8)) = true then
 .norm [.b ((v9.getD 0 d0).bb), .i ((v9.getD 1 d0).ii), .b true, .sl ((v9.getD 3 d0).ll), .i ((v9.getD 4 d0).ii), .i ((v9.getD 5 d0).ii), .i ((v9.getD 6 d0).ii), .i ((v9.getD 7 d0).ii), .i ((v9.getD 8 d0).ii), .s ((v9.getD 9 d0).ss), .i ((v9.getD 10 d0).ii), .s ((v9.getD 11 d0).ss), .i ((v9.getD 12 d0).ii), .s ((v9.getD 13 d0).ss), .i ((v9.getD 14 d0).ii)]
 else
 .norm [.b ((v9.getD 0 d0).bb), .i ((v9.getD 1 d0).ii), .b ((v9.getD 13 d0).ss == ([123] : List UInt8)), .sl ((v9.getD 3 d0).ll), .i ((v9.getD 4 d0).ii), .i ((v9.getD 5 d0).ii), .i ((v9.getD 6 d0).ii), .i ((v9.getD 7 d0).ii), .i ((v9.getD 8 d0).ii), .s ((v9.getD 9 d0).ss), .i ((v9.getD 10 d0).ii), .s ((v9.getD 11 d0).ss), .i ((v9.getD 12 d0).ii), .s ((v9.getD 13 d0).ss), .i ((v9.getD 14 d0).ii)]) fun v11 =>
 if (v11.getD 2 d0).bb = true then
 if ((v11.getD 1 d0).ii == (0 : Int)) = true then
 (R 11 [.i (8 : Int), .sl ((v11.getD 3 d0).ll), .i ((v11.getD 4 d0).ii), .i ((v11.getD 5 d0).ii), .i ((v11.getD 6 d0).ii), .i ((v11.getD 7 d0).ii)]).bindR fun r12 =>
 .ret [.i ((v11.getD 10 d0).ii), .s ((v11.getD 11 d0).ss), .sl [], .sl [], .sl ((r12.getD 0 d0).ll), .i ((r12.getD 1 d0).ii), .i ((r12.getD 2 d0).ii), .i ((r12.getD 3 d0).ii), .i ((r12.getD 4 d0).ii)]
 else
 Out.andThen (if ((v11.getD 13 d0).ss == ([123] : List UInt8)) = true then
 .norm [.b ((v11.getD 0 d0).bb), .i ((v11.getD 1 d0).ii), .s ([125] : List UInt8), .sl ((v11.getD 3 d0).ll), .i (IntKind.i64.wrap ((v11.getD 4 d0).ii + (1 : Int))), .i ((v11.getD 5 d0).ii), .i ((v11.getD 6 d0).ii), .i ((v11.getD 7 d0).ii), .i ((v11.getD 8 d0).ii), .s ((v11.getD 9 d0).ss), .i (8 : Int), .s ((v11.getD 11 d0).ss)]
 else
 .norm [.b ((v11.getD 0 d0).bb), .i ((v11.getD 1 d0).ii), .s ([93] : List UInt8), .sl ((v11.getD 3 d0).ll), .i (IntKind.i64.wrap ((v11.getD 4 d0).ii + (1 : Int))), .i ((v11.getD 5 d0).ii), .i ((v11.getD 6 d0).ii), .i ((v11.getD 7 d0).ii), .i ((v11.getD 8 d0).ii), .s ((v11.getD 9 d0).ss), .i (7 : Int), .s ((v11.getD 11 d0).ss)]) fun v13 =>
 Out.andThenB (loopF (C_spec_l08ValueL1 R n) n [.b ((v13.getD 0 d0).bb), .i ((v13.getD 1 d0).ii), .s ((v13.getD 2 d0).ss), .sl ((v13.getD 3 d0).ll), .i ((v13.getD 4 d0).ii), .i ((v13.getD 5 d0).ii), .i ((v13.getD 6 d0).ii), .i ((v13.getD 7 d0).ii), .i ((v13.getD 8 d0).ii), .s ((v13.getD 9 d0).ss), .i ((v13.getD 10 d0).ii), .s ((v13.getD 11 d0).ss), .sl [], .sl []]) 2 fun v30 =>
 .ret [.i ((v30.getD 7 d0).ii), .s ((v30.getD 8 d0).ss), .sl ((v30.getD 9 d0).ll), .sl ((v30.getD 10 d0).ll), .sl ((v30.getD 0 d0).ll), .i ((v30.getD 1 d0).ii), .i ((v30.getD 2 d0).ii), .i ((v30.getD 3 d0).ii), .i ((v30.getD 4 d0).ii)]
 else
 .norm [.sl ((v11.getD 3 d0).ll), .i ((v11.getD 4 d0).ii), .i ((v11.getD 5 d0).ii), .i ((v11.getD 6 d0).ii), .i ((v11.getD 7 d0).ii), .i ((v11.getD 8 d0).ii), .s ((v11.getD 9 d0).ss), .i ((v11.getD 10 d0).ii), .s ((v11.getD 11 d0).ss)]) 1 fun v31 =>
 (R 11 [.i (7 : Int), .sl ((v31.getD 0 d0).ll), .i ((v31.getD 1 d0).ii), .i ((v31.getD 2 d0).ii), .i ((v31.getD 3 d0).ii), .i ((v31.getD 4 d0).ii)]).bindR fun r32 =>
 .ret [.i ((v31.getD 7 d0).ii), .s ((v31.getD 8 d0).ss), .sl [], .sl [], .sl ((r32.getD 0 d0).ll), .i ((r32.getD 1 d0).ii), .i ((r32.getD 2 d0).ii), .i ((r32.getD 3 d0).ii), .i ((r32.getD 4 d0).ii)]
 else
 .fail
def C_spec_l09TypeL1 (R : Nat → List DC → Out) (n : Nat) : List DC → Out := fun v1 =>
 (R 30 [.s ([91] : List UInt8), .sl ((v1.getD 1 d0).ll), .i ((v1.getD 2 d0).ii), .i ((v1.getD 3 d0).ii), .i ((v1.getD 4 d0).ii), .i ((v1.getD 5 d0).ii)]).bindR fun r2 =>
 if (r2.getD 0 d0).bb = true then
 Out.andThenB (if ((v1.getD 0 d0).ii == (8 : Int)) = true then
 (R 11 [.i (8 : Int), .sl ((r2.getD 1 d0).ll), .i ((r2.getD 2 d0).ii), .i ((r2.getD 3 d0).ii), .i ((r2.getD 4 d0).ii), .i ((r2.getD 5 d0).ii)]).bindR fun r3 =>
 .ret [.s ((v1.getD 8 d0).ss), .s ((v1.getD 9 d0).ss), .sl ((r3.getD 0 d0).ll), .i ((r3.getD 1 d0).ii), .i ((r3.getD 2 d0).ii), .i ((r3.getD 3 d0).ii), .i ((r3.getD 4 d0).ii)]
 else
 .norm [.i (IntKind.i64.wrap ((v1.getD 0 d0).ii + (1 : Int))), .sl ((r2.getD 1 d0).ll), .i (IntKind.i64.wrap ((r2.getD 2 d0).ii + (1 : Int))), .i ((r2.getD 3 d0).ii), .i ((r2.getD 4 d0).ii), .i ((r2.getD 5 d0).ii), .s ((v1.getD 6 d0).ss), .s ((v1.getD 7 d0).ss), .s ((v1.getD 8 d0).ss), .s ((v1.getD 9 d0).ss)]) 1 fun v4 =>
 .norm [.i ((v4.getD 0 d0).ii), .sl ((v4.getD 1 d0).ll), .i ((v4.getD 2 d0).ii), .i ((v4.getD 3 d0).ii), .i ((v4.getD 4 d0).ii), .i ((v4.getD 5 d0).ii), .s ((v4.getD 6 d0).ss), .s ((v4.getD 7 d0).ss), .s ((v4.getD 8 d0).ss), .s ((v4.getD 9 d0).ss)]
 else
 .ex 0 [.i ((v1.getD 0 d0).ii), .sl ((r2.getD 1 d0).ll), .i ((r2.getD 2 d0).ii), .i ((r2.getD 3 d0).ii), .i ((r2.getD 4 d0).ii), .i ((r2.getD 5 d0).ii), .s ((v1.getD 6 d0).ss), .s ((v1.getD 7 d0).ss), .s ((v1.getD 8 d0).ss), .s ((v1.getD 9 d0).ss)]
def C_spec_l09TypeL2 (R : Nat → List DC → Out) (n : Nat) : List DC → Out := fun v7 =>
 if ((v7.getD 4 d0).ii == (0 : Int)) = true then
 Out.andThenB (Out.andThen ((R 30 [.s ([33] : List UInt8), .sl ((v7.getD 1 d0).ll), .i ((v7.getD 2 d0).ii), .i ((v7.getD 3 d0).ii), .i ((v7.getD 4 d0).ii), .i ((v7.getD 5 d0).ii)]).bindR fun r8 =>
 if (r8.getD 0 d0).bb = true then
 if ((v7.getD 9 d0).ss == ([] : List UInt8)) = true then
 .norm [.i ((v7.getD 0 d0).ii), .b true, .sl ((r8.getD 1 d0).ll), .i ((r8.getD 2 d0).ii), .i ((r8.getD 3 d0).ii), .i ((r8.getD 4 d0).ii), .i ((r8.getD 5 d0).ii), .s ((v7.getD 6 d0).ss), .s ((v7.getD 7 d0).ss), .s ((v7.getD 8 d0).ss), .s ((v7.getD 9 d0).ss)]
 else
 if 0 ≤ (IntKind.i64.wrap ((((v7.getD 9 d0).ss).length : Int) - (1 : Int))) ∧ (IntKind.i64.wrap ((((v7.getD 9 d0).ss).length : Int) - (1 : Int))) < (((v7.getD 9 d0).ss).length : Int) then
 .norm [.i ((v7.getD 0 d0).ii), .b (((((v7.getD 9 d0).ss).getD (IntKind.i64.wrap ((((v7.getD 9 d0).ss).length : Int) - (1 : Int))).toNat 0).toNat : Int) != (33 : Int)), .sl ((r8.getD 1 d0).ll), .i ((r8.getD 2 d0).ii), .i ((r8.getD 3 d0).ii), .i ((r8.getD 4 d0).ii), .i ((r8.getD 5 d0).ii), .s ((v7.getD 6 d0).ss), .s ((v7.getD 7 d0).ss), .s ((v7.getD 8 d0).ss), .s ((v7.getD 9 d0).ss)]
 else
 .fail
 else
 .norm [.i ((v7.getD 0 d0).ii), .b false, .sl ((r8.getD 1 d0).ll), .i ((r8.getD 2 d0).ii), .i ((r8.getD 3 d0).ii), .i ((r8.getD 4 d0).ii), .i ((r8.getD 5 d0).ii), .s ((v7.getD 6 d0).ss), .s ((v7.getD 7 d0).ss), .s ((v7.getD 8 d0).ss), .s ((v7.getD 9 d0).ss)]) fun v9 =>
 if (v9.getD 1 d0).bb = true then
 (R 51 [.s ((v9.getD 9 d0).ss), .s ((v9.getD 10 d0).ss), .s ([33] : List UInt8), .sl ((v9.getD 2 d0).ll), .i ((v9.getD 3 d0).ii), .i ((v9.getD 4 d0).ii), .i ((v9.getD 5 d0).ii), .i ((v9.getD 6 d0).ii)]).bindR fun r10 =>
 .ex 3 [.i ((v9.getD 0 d0).ii), .sl ((r10.getD 2 d0).ll), .i ((r10.getD 3 d0).ii), .i ((r10.getD 4 d0).ii), .i ((r10.getD 5 d0).ii), .i ((r10.getD 6 d0).ii), .s ((v9.getD 7 d0).ss), .s ((v9.getD 8 d0).ss), .s ((r10.getD 0 d0).ss), .s ((r10.getD 1 d0).ss)]
 else
 if ((v9.getD 0 d0).ii == (0 : Int)) = true then
 .ret [.s ((v9.getD 9 d0).ss), .s ((v9.getD 10 d0).ss), .sl ((v9.getD 2 d0).ll), .i ((v9.getD 3 d0).ii), .i ((v9.getD 4 d0).ii), .i ((v9.getD 5 d0).ii), .i ((v9.getD 6 d0).ii)]
 else
 (R 30 [.s ([93] : List UInt8), .sl ((v9.getD 2 d0).ll), .i ((v9.getD 3 d0).ii), .i ((v9.getD 4 d0).ii), .i ((v9.getD 5 d0).ii), .i ((v9.getD 6 d0).ii)]).bindR fun r11 =>
 if (!((r11.getD 0 d0).bb)) = true then
 (R 11 [.i (7 : Int), .sl ((r11.getD 1 d0).ll), .i ((r11.getD 2 d0).ii), .i ((r11.getD 3 d0).ii), .i ((r11.getD 4 d0).ii), .i ((r11.getD 5 d0).ii)]).bindR fun r12 =>
 .ret [.s ((v9.getD 9 d0).ss), .s ((v9.getD 10 d0).ss), .sl ((r12.getD 0 d0).ll), .i ((r12.getD 1 d0).ii), .i ((r12.getD 2 d0).ii), .i ((r12.getD 3 d0).ii), .i ((r12.getD 4 d0).ii)]
 else
 (R 51 [.s ((v9.getD 9 d0).ss), .s ((v9.getD 10 d0).ss), .s ([93] : List UInt8), .sl ((r11.getD 1 d0).ll), .i ((r11.getD 2 d0).ii), .i ((r11.getD 3 d0).ii), .i ((r11.getD 4 d0).ii), .i ((r11.getD 5 d0).ii)]).bindR fun r13 =>
 .norm [.i (IntKind.i64.wrap ((v9.getD 0 d0).ii - (1 : Int))), .sl ((r13.getD 2 d0).ll), .i ((r13.getD 3 d0).ii), .i ((r13.getD 4 d0).ii), .i ((r13.getD 5 d0).ii), .i ((r13.getD 6 d0).ii), .s ((v9.getD 7 d0).ss), .s ((v9.getD 8 d0).ss), .s ((r13.getD 0 d0).ss), .s ((r13.getD 1 d0).ss)]) 3 fun v14 =>
 .norm [.i ((v14.getD 0 d0).ii), .sl ((v14.getD 1 d0).ll), .i ((v14.getD 2 d0).ii), .i ((v14.getD 3 d0).ii), .i ((v14.getD 4 d0).ii), .i ((v14.getD 5 d0).ii), .s ((v14.getD 6 d0).ss), .s ((v14.getD 7 d0).ss), .s ((v14.getD 8 d0).ss), .s ((v14.getD 9 d0).ss)]
 else
 .ex 2 [.sl ((v7.getD 1 d0).ll), .i ((v7.getD 2 d0).ii), .i ((v7.getD 3 d0).ii), .i ((v7.getD 4 d0).ii), .i ((v7.getD 5 d0).ii), .s ((v7.getD 6 d0).ss), .s ((v7.getD 7 d0).ss), .s ((v7.getD 8 d0).ss), .s ((v7.getD 9 d0).ss)]
def C_spec_l09Type (R : Nat → List DC → Out) (n : Nat) (a : List DC) : Out :=
 Out.andThenB (loopF (C_spec_l09TypeL1 R n) n [.i (0 : Int), .sl ((a.getD 0 d0).ll), .i ((a.getD 1 d0).ii), .i ((a.getD 2 d0).ii), .i ((a.getD 3 d0).ii), .i ((a.getD 4 d0).ii), .s [], .s [], .s [], .s []]) 0 fun v5 =>
 (R 27 [.sl ((v5.getD 1 d0).ll), .i ((v5.getD 2 d0).ii), .i ((v5.getD 3 d0).ii), .i ((v5.getD 4 d0).ii), .i ((v5.getD 5 d0).ii)]).bindR fun r6 =>
 Out.andThenB (loopF (C_spec_l09TypeL2 R n) n [.i ((v5.getD 0 d0).ii), .sl ((r6.getD 1 d0).ll), .i ((r6.getD 2 d0).ii), .i ((r6.getD 3 d0).ii), .i ((r6.getD 4 d0).ii), .i ((r6.getD 5 d0).ii), .s ((v5.getD 6 d0).ss), .s ((v5.getD 7 d0).ss), .s ((r6.getD 0 d0).ss), .s ((v5.getD 9 d0).ss)]) 2 fun v15 =>
 .ret [.s ((v15.getD 7 d0).ss), .s ((v15.getD 8 d0).ss), .sl ((v15.getD 0 d0).ll), .i ((v15.getD 1 d0).ii), .i ((v15.getD 2 d0).ii), .i ((v15.getD 3 d0).ii), .i ((v15.getD 4 d0).ii)]
def C_spec_l13ReadIn (R : Nat → List DC → Out) (n : Nat) (a : List DC) : Out :=
 (R 19 [.sl ((a.getD 0 d0).ll), .i ((a.getD 1 d0).ii), .i ((a.getD 2 d0).ii), .i ((a.getD 3 d0).ii), .i ((a.getD 4 d0).ii)]).bindR fun r1 =>
 (R 27 [.sl ((r1.getD 1 d0).ll), .i ((r1.getD 2 d0).ii), .i ((r1.getD 3 d0).ii), .i ((r1.getD 4 d0).ii), .i ((r1.getD 5 d0).ii)]).bindR fun r2 =>
 (R 32 [.s ([58] : List UInt8), .sl ((r2.getD 1 d0).ll), .i ((r2.getD 2 d0).ii), .i ((r2.getD 3 d0).ii), .i ((r2.getD 4 d0).ii), .i ((r2.getD 5 d0).ii)]).bindR fun r3 =>
 (R 46 [.sl ((r3.getD 0 d0).ll), .i ((r3.getD 1 d0).ii), .i ((r3.getD 2 d0).ii), .i ((r3.getD 3 d0).ii), .i ((r3.getD 4 d0).ii)]).bindR fun r4 =>
 (R 37 [.s ([61] : List UInt8), .sl ((r4.getD 2 d0).ll), .i ((r4.getD 3 d0).ii), .i ((r4.getD 4 d0).ii), .i ((r4.getD 5 d0).ii), .i ((r4.getD 6 d0).ii)]).bindR fun r5 =>
 Out.andThen (if (r5.getD 0 d0).bb = true then
 (R 47 [.b true, .i (10 : Int), .sl ((r5.getD 1 d0).ll), .i ((r5.getD 2 d0).ii), .i ((r5.getD 3 d0).ii), .i ((r5.getD 4 d0).ii), .i ((r5.getD 5 d0).ii)]).bindR fun r6 =>
 .norm [.sl ((r6.getD 4 d0).ll), .i ((r6.getD 5 d0).ii), .i ((r6.getD 6 d0).ii), .i ((r6.getD 7 d0).ii), .i ((r6.getD 8 d0).ii), .s [], .s [], .s [], .s [], .b false, .i (0 : Int), .s [], .s ((r2.getD 0 d0).ss), .s ((r1.getD 0 d0).ss), .s ((r4.getD 0 d0).ss), .s ((r4.getD 1 d0).ss), .b true, .i ((r6.getD 0 d0).ii), .s ((r6.getD 1 d0).ss), .sl ((r6.getD 2 d0).ll), .sl ((r6.getD 3 d0).ll)]
 else
 .norm [.sl ((r5.getD 1 d0).ll), .i ((r5.getD 2 d0).ii), .i ((r5.getD 3 d0).ii), .i ((r5.getD 4 d0).ii), .i ((r5.getD 5 d0).ii), .s [], .s [], .s [], .s [], .b false, .i (0 : Int), .s [], .s ((r2.getD 0 d0).ss), .s ((r1.getD 0 d0).ss), .s ((r4.getD 0 d0).ss), .s ((r4.getD 1 d0).ss), .b false, .i (0 : Int), .s [], .sl [], .sl []]) fun v7 =>
 (R 28 [.b true, .sl ((v7.getD 0 d0).ll), .i ((v7.getD 1 d0).ii), .i ((v7.getD 2 d0).ii), .i ((v7.getD 3 d0).ii), .i ((v7.getD 4 d0).ii)]).bindR fun r8 =>
 .ret [.s ((v7.getD 12 d0).ss), .s ((v7.getD 13 d0).ss), .s ((v7.getD 14 d0).ss), .s ((v7.getD 15 d0).ss), .b ((v7.getD 16 d0).bb), .i ((v7.getD 17 d0).ii), .s ((v7.getD 18 d0).ss), .sl ((v7.getD 19 d0).ll), .sl ((v7.getD 20 d0).ll), .sl ((r8.getD 0 d0).ll), .sl ((r8.getD 1 d0).ll), .i ((r8.getD 2 d0).ii), .i ((r8.getD 3 d0).ii), .i ((r8.getD 4 d0).ii), .i ((r8.getD 5 d0).ii)]
def C_spec_PlaceOk (R : Nat → List DC → Out) (n : Nat) (a : List DC) : Out :=
 Out.andThenB (Out.andThen (if ((a.getD 0 d0).ss == ([81, 85, 69, 82, 89] : List UInt8)) = true then
 .norm [.b ((a.getD 0 d0).ss == ([81, 85, 69, 82, 89] : List UInt8))]
 else
 Out.andThen (if ((a.getD 0 d0).ss == ([77, 85, 84, 65, 84, 73, 79, 78] : List UInt8)) = true then
 .norm [.b ((a.getD 0 d0).ss == ([77, 85, 84, 65, 84, 73, 79, 78] : List UInt8))]
 else
 Out.andThen (if ((a.getD 0 d0).ss == ([83, 85, 66, 83, 67, 82, 73, 80, 84, 73, 79, 78] : List UInt8)) = true then
 .norm [.b ((a.getD 0 d0).ss == ([83, 85, 66, 83, 67, 82, 73, 80, 84, 73, 79, 78] : List UInt8))]
 else
 Out.andThen (if ((a.getD 0 d0).ss == ([70, 73, 69, 76, 68] : List UInt8)) = true then
 .norm [.b ((a.getD 0 d0).ss == ([70, 73, 69, 76, 68] : List UInt8))]
 else
 Out.andThen (if ((a.getD 0 d0).ss == ([70, 82, 65, 71, 77, 69, 78, 84, 95, 68, 69, 70, 73, 78, 73, 84, 73, 79, 78] : List UInt8)) = true then
 .norm [.b ((a.getD 0 d0).ss == ([70, 82, 65, 71, 77, 69, 78, 84, 95, 68, 69, 70, 73, 78, 73, 84, 73, 79, 78] : List UInt8))]
 else
 Out.andThen (if ((a.getD 0 d0).ss == ([70, 82, 65, 71, 77, 69, 78, 84, 95, 83, 80, 82, 69, 65, 68] : List UInt8)) = true then
 .norm [.b ((a.getD 0 d0).ss == ([70, 82, 65, 71, 77, 69, 78, 84, 95, 83, 80, 82, 69, 65, 68] : List UInt8))]
 else
 Out.andThen (if ((a.getD 0 d0).ss == ([73, 78, 76, 73, 78, 69, 95, 70, 82, 65, 71, 77, 69, 78, 84] : List UInt8)) = true then
 .norm [.b ((a.getD 0 d0).ss == ([73, 78, 76, 73, 78, 69, 95, 70, 82, 65, 71, 77, 69, 78, 84] : List UInt8))]
 else
 Out.andThen (if ((a.getD 0 d0).ss == ([86, 65, 82, 73, 65, 66, 76, 69, 95, 68, 69, 70, 73, 78, 73, 84, 73, 79, 78] : List UInt8)) = true then
 .norm [.b ((a.getD 0 d0).ss == ([86, 65, 82, 73, 65, 66, 76, 69, 95, 68, 69, 70, 73, 78, 73, 84, 73, 79, 78] : List UInt8))]
 else
 Out.andThen (if ((a.getD 0 d0).ss == ([83, 67, 72, 69, 77, 65] : List UInt8)) = true then
 .norm [.b ((a.getD 0 d0).ss == ([83, 67, 72, 69, 77, 65] : List UInt8))]
 else
 Out.andThen (if ((a.getD 0 d0).ss == ([83, 67, 65, 76, 65, 82] : List UInt8)) = true then
 .norm [.b ((a.getD 0 d0).ss == ([83, 67, 65, 76, 65, 82] : List UInt8))]
 else
 Out.andThen (if ((a.getD 0 d0).ss == ([79, 66, 74, 69, 67, 84] : List UInt8)) = true then
 .norm [.b ((a.getD 0 d0).ss == ([79, 66, 74, 69, 67, 84] : List UInt8))]
 else
 Out.andThen (if ((a.getD 0 d0).ss == ([70, 73, 69, 76, 68, 95, 68, 69, 70, 73, 78, 73, 84, 73, 79, 78] : List UInt8)) = true then
 .norm [.b ((a.getD 0 d0).ss == ([70, 73, 69, 76, 68, 95, 68, 69, 70, 73, 78, 73, 84, 73, 79, 78] : List UInt8))]
 else
 Out.andThen (if ((a.getD 0 d0).ss == ([65, 82, 71, 85, 77, 69, 78, 84, 95, 68, 69, 70, 73, 78, 73, 84, 73, 79, 78] : List UInt8)) = true then
 .norm [.b ((a.getD 0 d0).ss == ([65, 82, 71, 85, 77, 69, 78, 84, 95, 68, 69, 70, 73, 78, 73, 84, 73, 79, 78] : List UInt8))]
 else
 Out.andThen (if ((a.getD 0 d0).ss == ([73, 78, 84, 69, 82, 70, 65, 67, 69] : List UInt8)) = true then
 .norm [.b ((a.getD 0 d0).ss == ([73, 78, 84, 69, 82, 70, 65, 67, 69] : List UInt8))]
 else
 Out.andThen (if ((a.getD 0 d0).ss == ([85, 78, 73, 79, 78] : List UInt8)) = true then
 .norm [.b ((a.getD 0 d0).ss == ([85, 78, 73, 79, 78] : List UInt8))]
 else
 Out.andThen (if ((a.getD 0 d0).ss == ([69, 78, 85, 77] : List UInt8)) = true then
 .norm [.b ((a.getD 0 d0).ss == ([69, 78, 85, 77] : List UInt8))]
 else
 Out.andThen (if ((a.getD 0 d0).ss == ([69, 78, 85, 77, 95, 86, 65, 76, 85, 69] : List UInt8)) = true then
 .norm [.b ((a.getD 0 d0).ss == ([69, 78, 85, 77, 95, 86, 65, 76, 85, 69] : List UInt8))]
 else
 Out.andThen (if ((a.getD 0 d0).ss == ([73, 78, 80, 85, 84, 95, 79, 66, 74, 69, 67, 84] : List UInt8)) = true then
 .norm [.b ((a.getD 0 d0).ss == ([73, 78, 80, 85, 84, 95, 79, 66, 74, 69, 67, 84] : List UInt8))]
 else
 .norm [.b ((a.getD 0 d0).ss == ([73, 78, 80, 85, 84, 95, 70, 73, 69, 76, 68, 95, 68, 69, 70, 73, 78, 73, 84, 73, 79, 78] : List UInt8))]) fun v1 =>
 .norm [.b ((v1.getD 0 d0).bb)]) fun v2 =>
 .norm [.b ((v2.getD 0 d0).bb)]) fun v3 =>
 .norm [.b ((v3.getD 0 d0).bb)]) fun v4 =>
 .norm [.b ((v4.getD 0 d0).bb)]) fun v5 =>
 .norm [.b ((v5.getD 0 d0).bb)]) fun v6 =>
 .norm [.b ((v6.getD 0 d0).bb)]) fun v7 =>
 .norm [.b ((v7.getD 0 d0).bb)]) fun v8 =>
 .norm [.b ((v8.getD 0 d0).bb)]) fun v9 =>
 .norm [.b ((v9.getD 0 d0).bb)]) fun v10 =>
 .norm [.b ((v10.getD 0 d0).bb)]) fun v11 =>
 .norm [.b ((v11.getD 0 d0).bb)]) fun v12 =>
 .norm [.b ((v12.getD 0 d0).bb)]) fun v13 =>
 .norm [.b ((v13.getD 0 d0).bb)]) fun v14 =>
 .norm [.b ((v14.getD 0 d0).bb)]) fun v15 =>
 .norm [.b ((v15.getD 0 d0).bb)]) fun v16 =>
 .norm [.b ((v16.getD 0 d0).bb)]) fun v17 =>
 .norm [.b ((v17.getD 0 d0).bb)]) fun v18 =>
 if (v18.getD 0 d0).bb = true then
 .ret [.b true]
 else
 .norm []) 0 fun v19 =>
 .ret [.b false]
def C_spec_Word (R : Nat → List DC → Out) (n : Nat) (a : List DC) : Out :=
 Out.andThen (if ((a.getD 0 d0).ss == ([116, 114, 117, 101] : List UInt8)) = true then
 .norm [.b true]
 else
 if ((a.getD 0 d0).ss == ([102, 97, 108, 115, 101] : List UInt8)) = true then
 .norm [.b true]
 else
 .norm [.b ((a.getD 0 d0).ss == ([110, 117, 108, 108] : List UInt8))]) fun v1 =>
 .ret [.b ((v1.getD 0 d0).bb)]
def C_spec_l09Wrap (R : Nat → List DC → Out) (n : Nat) (a : List DC) : Out :=
 if (decide ((((a.getD 1 d0).ss).length : Int) ≥ (8 : Int))) = true then
 (R 11 [.i (8 : Int), .sl ((a.getD 3 d0).ll), .i ((a.getD 4 d0).ii), .i ((a.getD 5 d0).ii), .i ((a.getD 6 d0).ii), .i ((a.getD 7 d0).ii)]).bindR fun r1 =>
 .ret [.s ((a.getD 0 d0).ss), .s ((a.getD 1 d0).ss), .sl ((r1.getD 0 d0).ll), .i ((r1.getD 1 d0).ii), .i ((r1.getD 2 d0).ii), .i ((r1.getD 3 d0).ii), .i ((r1.getD 4 d0).ii)]
 else
 if ((a.getD 1 d0).ss).length + ((a.getD 2 d0).ss).length < LIM then
 .ret [.s ((a.getD 0 d0).ss), .s (((a.getD 1 d0).ss) ++ ((a.getD 2 d0).ss)), .sl ((a.getD 3 d0).ll), .i (IntKind.i64.wrap ((a.getD 4 d0).ii + (1 : Int))), .i ((a.getD 5 d0).ii), .i ((a.getD 6 d0).ii), .i ((a.getD 7 d0).ii)]
 else
 .fail
def evL : List (Nat × Nat × Hint × Stp) := [(81, 5, ⟨[], []⟩, C_spec_DrawLibrary), (0, 14, ⟨[], []⟩, C_spec_l17Schema), (2, 33, ⟨ol 45 :: [], []⟩, C_spec_SchemaOf), (1, 34, ⟨[], []⟩, C_spec_l17Defs), (5, 11, ⟨.agg [.sl 45, .sl 45, .sl 88] :: os :: [], []⟩, C_spec_TypeAt), (4, 53, ⟨ol 45 :: oi :: os :: [], []⟩, C_spec_l16At), (3, 52, ⟨ol 45 :: oi :: [], []⟩, C_spec_l17Group), (7, 55, ⟨os :: [], []⟩, C_spec_Parse), (6, 54, ⟨[], []⟩, C_spec_l17Pieces), (8, 68, ⟨oi :: [], []⟩, C_spec_l16Group), (9, 69, ⟨ol 45 :: [], []⟩, C_spec_SortDefs), (11, 72, ⟨.one (.ptr 0 0) :: oi :: [], .var 115 [.sl 153, .i .i64, .i .i64, .i .i64, .i .i64] :: []⟩, C_spec_l08Bad), (12, 73, ⟨.one (.ptr 0 0) :: [], .var 115 [.sl 153, .i .i64, .i .i64, .i .i64, .i .i64] :: []⟩, C_spec_l14Item), (10, 71, ⟨.one (.ptr 0 0) :: [], .var 115 [.sl 153, .i .i64, .i .i64, .i .i64, .i .i64] :: []⟩, C_spec_l14Starts), (13, 82, ⟨.agg [.i .i64, .b, .s, .s, .sl 9, .sl 177, .sl 65, .sl 61, .sl 88, .b, .sl 181] :: [], []⟩, C_spec_l13Copy), (14, 88, ⟨.one (.ptr 0 0) :: [], .var 115 [.sl 153, .i .i64, .i .i64, .i .i64, .i .i64] :: []⟩, C_spec_l08At), (17, 85, ⟨.one (.ptr 0 0) :: os :: [], .var 115 [.sl 153, .i .i64, .i .i64, .i .i64, .i .i64] :: []⟩, C_spec_l08Word), (18, 90, ⟨.one (.ptr 0 0) :: [], .var 115 [.sl 153, .i .i64, .i .i64, .i .i64, .i .i64] :: []⟩, C_spec_l12ReadFrag), (16, 89, ⟨.one (.ptr 0 0) :: oi :: [], .var 115 [.sl 153, .i .i64, .i .i64, .i .i64, .i .i64] :: []⟩, C_spec_l12ReadOp), (20, 92, ⟨.one (.ptr 0 0) :: os :: [], .var 115 [.sl 153, .i .i64, .i .i64, .i .i64, .i .i64] :: []⟩, C_spec_l13Read), (19, 91, ⟨.one (.ptr 0 0) :: [], .var 115 [.sl 153, .i .i64, .i .i64, .i .i64, .i .i64] :: []⟩, C_spec_l13ReadDesc), (15, 84, ⟨.one (.ptr 0 0) :: [], .var 115 [.sl 153, .i .i64, .i .i64, .i .i64, .i .i64] :: []⟩, C_spec_l14Begins), (21, 86, ⟨.one (.ptr 0 0) :: oi :: [], .var 115 [.sl 153, .i .i64, .i .i64, .i .i64, .i .i64] :: []⟩, C_spec_l08Kind), (22, 87, ⟨.one (.ptr 0 0) :: [], .var 115 [.sl 153, .i .i64, .i .i64, .i .i64, .i .i64] :: []⟩, C_spec_l13Begins), (26, 105, ⟨ol 181 :: [], []⟩, C_spec_l10Dirs), (23, 102, ⟨ol 177 :: [], []⟩, C_spec_l13CopyFields), (24, 103, ⟨ol 65 :: [], []⟩, C_spec_l13CopyIns), (25, 104, ⟨ol 61 :: [], []⟩, C_spec_l13CopyValues), (27, 112, ⟨.one (.ptr 0 0) :: [], .var 115 [.sl 153, .i .i64, .i .i64, .i .i64, .i .i64] :: []⟩, C_spec_l08Name), (28, 114, ⟨.one (.ptr 0 0) :: ob :: [], .var 115 [.sl 153, .i .i64, .i .i64, .i .i64, .i .i64] :: []⟩, C_spec_l10ReadDirs), (29, 115, ⟨.one (.ptr 0 0) :: oi :: .one (.ptr 1 0) :: [], .var 115 [.sl 153, .i .i64, .i .i64, .i .i64, .i .i64] :: .var 3 [.i .i64] :: []⟩, C_spec_l11Read), (30, 109, ⟨.one (.ptr 0 0) :: os :: [], .var 115 [.sl 153, .i .i64, .i .i64, .i .i64, .i .i64] :: []⟩, C_spec_l08Is), (31, 113, ⟨.one (.ptr 0 0) :: [], .var 115 [.sl 153, .i .i64, .i .i64, .i .i64, .i .i64] :: []⟩, C_spec_l12ReadVars), (37, 121, ⟨.one (.ptr 0 0) :: os :: [], .var 115 [.sl 153, .i .i64, .i .i64, .i .i64, .i .i64] :: []⟩, C_spec_l08Opt), (32, 116, ⟨.one (.ptr 0 0) :: os :: [], .var 115 [.sl 153, .i .i64, .i .i64, .i .i64, .i .i64] :: []⟩, C_spec_l08Take), (40, 124, ⟨.agg [.i .i64, .b, .s, .s, .sl 9, .sl 177, .sl 65, .sl 61, .sl 88, .b, .sl 181] :: [], []⟩, C_spec_l13Has), (36, 120, ⟨.one (.ptr 0 0) :: [], .var 115 [.sl 153, .i .i64, .i .i64, .i .i64, .i .i64] :: []⟩, C_spec_l13ReadFields), (33, 117, ⟨.one (.ptr 0 0) :: os :: os :: [], .var 115 [.sl 153, .i .i64, .i .i64, .i .i64, .i .i64] :: []⟩, C_spec_l13ReadIns), (35, 119, ⟨.one (.ptr 0 0) :: os :: [], .var 115 [.sl 153, .i .i64, .i .i64, .i .i64, .i .i64] :: []⟩, C_spec_l13ReadNames), (34, 118, ⟨.one (.ptr 0 0) :: [], .var 115 [.sl 153, .i .i64, .i .i64, .i .i64, .i .i64] :: []⟩, C_spec_l13ReadPlaces), (39, 123, ⟨.one (.ptr 0 0) :: [], .var 115 [.sl 153, .i .i64, .i .i64, .i .i64, .i .i64] :: []⟩, C_spec_l13ReadRoots), (38, 122, ⟨.one (.ptr 0 0) :: [], .var 115 [.sl 153, .i .i64, .i .i64, .i .i64, .i .i64] :: []⟩, C_spec_l13ReadValues), (41, 110, ⟨oi :: [], []⟩, C_spec_OpWord), (42, 111, ⟨oi :: [], []⟩, C_spec_l13Word), (43, 135, ⟨ol 199 :: [], []⟩, C_spec_l10Args), (44, 134, ⟨.agg [.i .i64, .s, .sl 34, .sl 9] :: [], []⟩, C_spec_l07Copy), (45, 149, ⟨.one (.ptr 0 0) :: ob :: [], .var 115 [.sl 153, .i .i64, .i .i64, .i .i64, .i .i64] :: []⟩, C_spec_l10ReadArgs), (47, 148, ⟨.one (.ptr 0 0) :: ob :: oi :: [], .var 115 [.sl 153, .i .i64, .i .i64, .i .i64, .i .i64] :: []⟩, C_spec_l08Value), (46, 147, ⟨.one (.ptr 0 0) :: [], .var 115 [.sl 153, .i .i64, .i .i64, .i .i64, .i .i64] :: []⟩, C_spec_l09Type), (48, 150, ⟨.one (.ptr 0 0) :: [], .var 115 [.sl 153, .i .i64, .i .i64, .i .i64, .i .i64] :: []⟩, C_spec_l13ReadIn), (49, 151, ⟨os :: [], []⟩, C_spec_PlaceOk), (50, 152, ⟨os :: [], []⟩, C_spec_Word), (51, 162, ⟨.one (.ptr 0 0) :: .agg [.s, .s] :: os :: [], .var 115 [.sl 153, .i .i64, .i .i64, .i .i64, .i .i64] :: []⟩, C_spec_l09Wrap)]
end Go.Proofs.QV
