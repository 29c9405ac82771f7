import Derived.Test.YtjmfjemandkfdacGreatDoorMZ6
import Derived.Test.YtjmfjemandkfdacGreatDoorMZ7
import Derived.Test.YtjmfjemandkfdacGreatDoorMZ5
/- What the functions do,and that they do (written by a program). -/
namespace Go.Proofs.QV
open Go
open Out renaming andThenB → ja, andThen → jb, esc_ex → jG, andThen_norm → j8
open _root_.List renaming length_cons → j4, length_nil → j6, nil_append → jy, cons_append → jN, append_assoc → jO, length_append → j3, getElem_mem → je
open _root_.Bool renaming not_true → jh, true_and → jC, false_and → jP, and_eq_true → jj, false_or → jW, and_false → jT, not_false → jn, and_true → jS
open _root_.Int renaming toNat_natCast → j7
open _root_.Nat renaming lt_or_ge → jA
set_option linter.unusedVariables false
set_option maxRecDepth 100000
noncomputable def Qt:List DC → Out:=fun v8 =>
 if (decide ((gi v8 0) < ((gl v8 5).length:Int)))=true then
 ja (if 9=9 ∧ 0 ≤ (gi v8 0) ∧ (gi v8 0) < ((gl v8 5).length:Int) then
 (Kg [.s ((((gl v8 5).getD (gi v8 0).toNat []).getD 0 d0).ss)]).bindR fun r9 =>
 if (!(gb r9 0))=true then
 .ret [.b false]
 else
 .norm [.i (gi v8 0),.i (gi v8 1),.b (gb v8 2),.s (gs v8 3),.s (gs v8 4),.sl (gl v8 5),.sl (gl v8 6),.sl (gl v8 7),.sl (gl v8 8),.sl (gl v8 9),.b (gb v8 10),.sl (gl v8 11)]
 else
 .fail) 1 fun v10 =>
 .norm [.i (IntKind.i64.wrap ((gi v10 0) + (1:Int))),.i (gi v10 1),.b (gb v10 2),.s (gs v10 3),.s (gs v10 4),.sl (gl v10 5),.sl (gl v10 6),.sl (gl v10 7),.sl (gl v10 8),.sl (gl v10 9),.b (gb v10 10),.sl (gl v10 11)]
 else
 .ex 0 [.i (gi v8 1),.b (gb v8 2),.s (gs v8 3),.s (gs v8 4),.sl (gl v8 5),.sl (gl v8 6),.sl (gl v8 7),.sl (gl v8 8),.sl (gl v8 9),.b (gb v8 10),.sl (gl v8 11)]
noncomputable def qV (a:List DC):Out :=
 jb (if ((gi a 0) == (2:Int))=true then
 .norm [.i (gi a 0),.b true,.i (gi a 0),.b (gb a 1),.s (gs a 2),.s (gs a 3),.sl (gl a 4),.sl (gl a 5),.sl (gl a 6),.sl (gl a 7),.sl (gl a 8),.b (gb a 9),.sl (gl a 10)]
 else
 .norm [.i (gi a 0),.b ((gi a 0) == (3:Int)),.i (gi a 0),.b (gb a 1),.s (gs a 2),.s (gs a 3),.sl (gl a 4),.sl (gl a 5),.sl (gl a 6),.sl (gl a 7),.sl (gl a 8),.b (gb a 9),.sl (gl a 10)]) fun v1 =>
 jb (if (!(gb v1 1))=true then
 .norm [.i (gi v1 0),.b (gb v1 1),.b (decide (((gl v1 7).length:Int) > (0:Int))),.i (gi v1 2),.b (gb v1 3),.s (gs v1 4),.s (gs v1 5),.sl (gl v1 6),.sl (gl v1 7),.sl (gl v1 8),.sl (gl v1 9),.sl (gl v1 10),.b (gb v1 11),.sl (gl v1 12)]
 else
 .norm [.i (gi v1 0),.b (gb v1 1),.b false,.i (gi v1 2),.b (gb v1 3),.s (gs v1 4),.s (gs v1 5),.sl (gl v1 6),.sl (gl v1 7),.sl (gl v1 8),.sl (gl v1 9),.sl (gl v1 10),.b (gb v1 11),.sl (gl v1 12)]) fun v2 =>
 jb (if (gb v2 2)=true then
 .norm [.i (gi v2 0),.b true,.i (gi v2 3),.b (gb v2 4),.s (gs v2 5),.s (gs v2 6),.sl (gl v2 7),.sl (gl v2 8),.sl (gl v2 9),.sl (gl v2 10),.sl (gl v2 11),.b (gb v2 12),.sl (gl v2 13)]
 else
 if (!(gb v2 1))=true then
 if ((gi v2 0) != (4:Int))=true then
 if ((gi v2 0) != (7:Int))=true then
 .norm [.i (gi v2 0),.b (decide (((gl v2 7).length:Int) > (0:Int))),.i (gi v2 3),.b (gb v2 4),.s (gs v2 5),.s (gs v2 6),.sl (gl v2 7),.sl (gl v2 8),.sl (gl v2 9),.sl (gl v2 10),.sl (gl v2 11),.b (gb v2 12),.sl (gl v2 13)]
 else
 .norm [.i (gi v2 0),.b false,.i (gi v2 3),.b (gb v2 4),.s (gs v2 5),.s (gs v2 6),.sl (gl v2 7),.sl (gl v2 8),.sl (gl v2 9),.sl (gl v2 10),.sl (gl v2 11),.b (gb v2 12),.sl (gl v2 13)]
 else
 .norm [.i (gi v2 0),.b false,.i (gi v2 3),.b (gb v2 4),.s (gs v2 5),.s (gs v2 6),.sl (gl v2 7),.sl (gl v2 8),.sl (gl v2 9),.sl (gl v2 10),.sl (gl v2 11),.b (gb v2 12),.sl (gl v2 13)]
 else
 .norm [.i (gi v2 0),.b false,.i (gi v2 3),.b (gb v2 4),.s (gs v2 5),.s (gs v2 6),.sl (gl v2 7),.sl (gl v2 8),.sl (gl v2 9),.sl (gl v2 10),.sl (gl v2 11),.b (gb v2 12),.sl (gl v2 13)]) fun v3 =>
 jb (if (gb v3 1)=true then
 .norm [.i (gi v3 0),.b true,.i (gi v3 2),.b (gb v3 3),.s (gs v3 4),.s (gs v3 5),.sl (gl v3 6),.sl (gl v3 7),.sl (gl v3 8),.sl (gl v3 9),.sl (gl v3 10),.b (gb v3 11),.sl (gl v3 12)]
 else
 if ((gi v3 0) != (6:Int))=true then
 if ((gi v3 0) != (7:Int))=true then
 .norm [.i (gi v3 0),.b (decide (((gl v3 8).length:Int) > (0:Int))),.i (gi v3 2),.b (gb v3 3),.s (gs v3 4),.s (gs v3 5),.sl (gl v3 6),.sl (gl v3 7),.sl (gl v3 8),.sl (gl v3 9),.sl (gl v3 10),.b (gb v3 11),.sl (gl v3 12)]
 else
 .norm [.i (gi v3 0),.b false,.i (gi v3 2),.b (gb v3 3),.s (gs v3 4),.s (gs v3 5),.sl (gl v3 6),.sl (gl v3 7),.sl (gl v3 8),.sl (gl v3 9),.sl (gl v3 10),.b (gb v3 11),.sl (gl v3 12)]
 else
 .norm [.i (gi v3 0),.b false,.i (gi v3 2),.b (gb v3 3),.s (gs v3 4),.s (gs v3 5),.sl (gl v3 6),.sl (gl v3 7),.sl (gl v3 8),.sl (gl v3 9),.sl (gl v3 10),.b (gb v3 11),.sl (gl v3 12)]) fun v4 =>
 jb (if (gb v4 1)=true then
 .norm [.i (gi v4 0),.b true,.i (gi v4 2),.b (gb v4 3),.s (gs v4 4),.s (gs v4 5),.sl (gl v4 6),.sl (gl v4 7),.sl (gl v4 8),.sl (gl v4 9),.sl (gl v4 10),.b (gb v4 11),.sl (gl v4 12)]
 else
 if ((gi v4 0) != (5:Int))=true then
 .norm [.i (gi v4 0),.b (decide (((gl v4 9).length:Int) > (0:Int))),.i (gi v4 2),.b (gb v4 3),.s (gs v4 4),.s (gs v4 5),.sl (gl v4 6),.sl (gl v4 7),.sl (gl v4 8),.sl (gl v4 9),.sl (gl v4 10),.b (gb v4 11),.sl (gl v4 12)]
 else
 .norm [.i (gi v4 0),.b false,.i (gi v4 2),.b (gb v4 3),.s (gs v4 4),.s (gs v4 5),.sl (gl v4 6),.sl (gl v4 7),.sl (gl v4 8),.sl (gl v4 9),.sl (gl v4 10),.b (gb v4 11),.sl (gl v4 12)]) fun v5 =>
 jb (if (gb v5 1)=true then
 .norm [.i (gi v5 0),.b true,.i (gi v5 2),.b (gb v5 3),.s (gs v5 4),.s (gs v5 5),.sl (gl v5 6),.sl (gl v5 7),.sl (gl v5 8),.sl (gl v5 9),.sl (gl v5 10),.b (gb v5 11),.sl (gl v5 12)]
 else
 if ((gi v5 0) != (8:Int))=true then
 .norm [.i (gi v5 0),.b (decide (((gl v5 10).length:Int) > (0:Int))),.i (gi v5 2),.b (gb v5 3),.s (gs v5 4),.s (gs v5 5),.sl (gl v5 6),.sl (gl v5 7),.sl (gl v5 8),.sl (gl v5 9),.sl (gl v5 10),.b (gb v5 11),.sl (gl v5 12)]
 else
 .norm [.i (gi v5 0),.b false,.i (gi v5 2),.b (gb v5 3),.s (gs v5 4),.s (gs v5 5),.sl (gl v5 6),.sl (gl v5 7),.sl (gl v5 8),.sl (gl v5 9),.sl (gl v5 10),.b (gb v5 11),.sl (gl v5 12)]) fun v6 =>
 jb (if (gb v6 1)=true then
 .norm [.i (gi v6 0),.b true,.i (gi v6 2),.b (gb v6 3),.s (gs v6 4),.s (gs v6 5),.sl (gl v6 6),.sl (gl v6 7),.sl (gl v6 8),.sl (gl v6 9),.sl (gl v6 10),.b (gb v6 11),.sl (gl v6 12)]
 else
 if ((gi v6 0) != (7:Int))=true then
 .norm [.i (gi v6 0),.b (gb v6 11),.i (gi v6 2),.b (gb v6 3),.s (gs v6 4),.s (gs v6 5),.sl (gl v6 6),.sl (gl v6 7),.sl (gl v6 8),.sl (gl v6 9),.sl (gl v6 10),.b (gb v6 11),.sl (gl v6 12)]
 else
 .norm [.i (gi v6 0),.b false,.i (gi v6 2),.b (gb v6 3),.s (gs v6 4),.s (gs v6 5),.sl (gl v6 6),.sl (gl v6 7),.sl (gl v6 8),.sl (gl v6 9),.sl (gl v6 10),.b (gb v6 11),.sl (gl v6 12)]) fun v7 =>
 if (gb v7 1)=true then
 .ret [.b false]
 else
 if ((gi v7 0) == (7:Int))=true then
 ja (jR Qt [.i (0:Int),.i (gi v7 2),.b (gb v7 3),.s (gs v7 4),.s (gs v7 5),.sl (gl v7 6),.sl (gl v7 7),.sl (gl v7 8),.sl (gl v7 9),.sl (gl v7 10),.b (gb v7 11),.sl (gl v7 12)]) 0 fun v11 =>
 jb (if (decide (((gl v11 4).length:Int) > (0:Int)))=true then
 if (!(gb v11 1))=true then
 .norm [.b (((gl v11 10).length:Int) == (0:Int))]
 else
 .norm [.b false]
 else
 .norm [.b false]) fun v12 =>
 .ret [.b (gb v12 0)]
 else
 jb (if ((gi v7 0) != (8:Int))=true then
 .norm [.b true]
 else
 if ((gs v7 5) == ([]:List UInt8))=true then
 if (gb v7 3)=true then
 .norm [.b true]
 else
 .norm [.b (decide (((gl v7 10).length:Int) > (0:Int)))]
 else
 .norm [.b false]) fun v13 =>
 .ret [.b (gb v13 0)]
theorem j9Z a:Xc a=qV a:=(jk ju 94 _ a).trans (by kernel_rfl)
noncomputable def Qu:List DC → Out:=fun v1 =>
 if (decide ((gi v1 1) < ((gl v1 0).length:Int)))=true then
 ja (if 104=104 ∧ 0 ≤ (gi v1 1) ∧ (gi v1 1) < ((gl v1 0).length:Int) then
 (j1a [.s ((((gl v1 0).getD (gi v1 1).toNat []).getD 0 d0).ss),.s ((((gl v1 0).getD (gi v1 1).toNat []).getD 1 d0).ss),.s ((((gl v1 0).getD (gi v1 1).toNat []).getD 2 d0).ss),.s ((((gl v1 0).getD (gi v1 1).toNat []).getD 3 d0).ss),.b ((((gl v1 0).getD (gi v1 1).toNat []).getD 4 d0).bb),.i ((((gl v1 0).getD (gi v1 1).toNat []).getD 5 d0).ii),.s ((((gl v1 0).getD (gi v1 1).toNat []).getD 6 d0).ss),.sl ((((gl v1 0).getD (gi v1 1).toNat []).getD 7 d0).ll),.sl ((((gl v1 0).getD (gi v1 1).toNat []).getD 8 d0).ll),.sl ((((gl v1 0).getD (gi v1 1).toNat []).getD 9 d0).ll)]).bindR fun r2 =>
 if (!(gb r2 0))=true then
 .ret [.b false]
 else
 .norm [.sl (gl v1 0),.i (gi v1 1)]
 else
 .fail) 1 fun v3 =>
 .norm [.sl (gl v3 0),.i (IntKind.i64.wrap ((gi v3 1) + (1:Int)))]
 else
 .ex 0 []
noncomputable def j3L (a:List DC):Out :=
 ja (jR Qu [.sl (gl a 0),.i (0:Int)]) 0 fun v4 =>
 .ret [.b true]
theorem ja0 a:zz a=j3L a:=(jk ju 95 _ a).trans (by kernel_rfl)
noncomputable def Jq:List DC → Out:=fun v2 =>
 if 166=166 ∧ 0 ≤ (gi v2 1) ∧ (gi v2 1) < ((gl v2 0).length:Int) then
 if (decide ((gi v2 2) < (((((gl v2 0).getD (gi v2 1).toNat []).getD 1 d0).ll).length:Int)))=true then
 ja (if 166=166 ∧ 0 ≤ (gi v2 1) ∧ (gi v2 1) < ((gl v2 0).length:Int) then
 if 211=211 ∧ 0 ≤ (gi v2 2) ∧ (gi v2 2) < (((((gl v2 0).getD (gi v2 1).toNat []).getD 1 d0).ll).length:Int) then
 (V7 [.i (((((((gl v2 0).getD (gi v2 1).toNat []).getD 1 d0).ll).getD (gi v2 2).toNat []).getD 1 d0).ii),.s (((((((gl v2 0).getD (gi v2 1).toNat []).getD 1 d0).ll).getD (gi v2 2).toNat []).getD 2 d0).ss),.sl (((((((gl v2 0).getD (gi v2 1).toNat []).getD 1 d0).ll).getD (gi v2 2).toNat []).getD 3 d0).ll),.sl (((((((gl v2 0).getD (gi v2 1).toNat []).getD 1 d0).ll).getD (gi v2 2).toNat []).getD 4 d0).ll)]).bindR fun r3 =>
 if (!(gb r3 0))=true then
 .ret [.b false]
 else
 .norm [.sl (gl v2 0),.i (gi v2 1),.i (gi v2 2)]
 else
 .fail
 else
 .fail) 3 fun v4 =>
 .norm [.sl (gl v4 0),.i (gi v4 1),.i (IntKind.i64.wrap ((gi v4 2) + (1:Int)))]
 else
 .ex 2 [.sl (gl v2 0),.i (gi v2 1)]
 else
 .fail
noncomputable def QH:List DC → Out:=fun v1 =>
 if (decide ((gi v1 1) < ((gl v1 0).length:Int)))=true then
 ja (ja (jR Jq [.sl (gl v1 0),.i (gi v1 1),.i (0:Int)]) 2 fun v5 =>
 .norm [.sl (gl v5 0),.i (gi v5 1)]) 1 fun v6 =>
 .norm [.sl (gl v6 0),.i (IntKind.i64.wrap ((gi v6 1) + (1:Int)))]
 else
 .ex 0 [.sl (gl v1 0)]
noncomputable def j0E (a:List DC):Out :=
 ja (jR QH [.sl (gl a 0),.i (0:Int)]) 0 fun v7 =>
 (zC [.sl (gl v7 0)]).bindR fun r8 =>
 .ret [.b (gb r8 0)]
theorem j5v a:pe a=j0E a:=(jk ju 96 _ a).trans (by kernel_rfl)
noncomputable def j1B (a:List DC):Out :=
 jb ((kg [.s (gs a 0)]).bindR fun r1 =>
 if (gb r1 0)=true then
 (zV [.s (gs a 1)]).bindR fun r2 =>
 if (gb r2 0)=true then
 (JI [.s (gs a 3),.s (gs a 4)]).bindR fun r3 =>
 if (gb r3 0)=true then
 (zz [.sl (gl a 2)]).bindR fun r4 =>
 if (gb r4 0)=true then
 (pe [.sl (gl a 5)]).bindR fun r5 =>
 .norm [.b (gb r5 0)]
 else
 .norm [.b false]
 else
 .norm [.b false]
 else
 .norm [.b false]
 else
 .norm [.b false]) fun v6 =>
 .ret [.b (gb v6 0)]
theorem j6P a:XJ a=j1B a:=(jk ju 97 _ a).trans (by kernel_rfl)
noncomputable def j89 (a:List DC):Out :=
 jb (if ((gs a 0) == ([116,114,117,101]:List UInt8))=true then
 .norm [.b true]
 else
 if ((gs a 0) == ([102,97,108,115,101]:List UInt8))=true then
 .norm [.b true]
 else
 .norm [.b ((gs a 0) == ([110,117,108,108]:List UInt8))]) fun v1 =>
 .ret [.b (gb v1 0)]
theorem jdz a:Xw a=j89 a:=(jk ju 98 _ a).trans (by kernel_rfl)
noncomputable def za:List DC → Out:=fun v1 =>
 if (decide ((gi v1 1) < ((gs v1 0).length:Int)))=true then
 ja ((ZX [.s (gs v1 0),.i (gi v1 1)]).bindR fun r2 =>
 if (decide ((gi r2 0) < (0:Int)))=true then
 .ret [.b false]
 else
 .norm [.s (gs v1 0),.i (IntKind.i64.wrap ((gi v1 1) + (gi r2 1)))]) 1 fun v3 =>
 .norm [.s (gs v3 0),.i (gi v3 1)]
 else
 .ex 0 []
noncomputable def j3R (a:List DC):Out :=
 ja (jR za [.s (gs a 0),.i (0:Int)]) 0 fun v4 =>
 .ret [.b true]
theorem ja9 a:ZW a=j3R a:=(jk ju 99 _ a).trans (by kernel_rfl)
noncomputable def j2H (a:List DC):Out :=
 if (4096:Int)=0 then
 .fail
 else
 if (16:Int)=0 then
 .fail
 else
 if 0 ≤ ((IntKind.i64.wrap ((gi a 0).tdiv (4096:Int))).tmod (16:Int)) ∧ ((IntKind.i64.wrap ((gi a 0).tdiv (4096:Int))).tmod (16:Int)) < (([48,49,50,51,52,53,54,55,56,57,97,98,99,100,101,102]:List UInt8).length:Int) then
 if (256:Int)=0 then
 .fail
 else
 if (16:Int)=0 then
 .fail
 else
 if 0 ≤ ((IntKind.i64.wrap ((gi a 0).tdiv (256:Int))).tmod (16:Int)) ∧ ((IntKind.i64.wrap ((gi a 0).tdiv (256:Int))).tmod (16:Int)) < (([48,49,50,51,52,53,54,55,56,57,97,98,99,100,101,102]:List UInt8).length:Int) then
 if (16:Int)=0 then
 .fail
 else
 if (16:Int)=0 then
 .fail
 else
 if 0 ≤ ((IntKind.i64.wrap ((gi a 0).tdiv (16:Int))).tmod (16:Int)) ∧ ((IntKind.i64.wrap ((gi a 0).tdiv (16:Int))).tmod (16:Int)) < (([48,49,50,51,52,53,54,55,56,57,97,98,99,100,101,102]:List UInt8).length:Int) then
 if (16:Int)=0 then
 .fail
 else
 if 0 ≤ ((gi a 0).tmod (16:Int)) ∧ ((gi a 0).tmod (16:Int)) < (([48,49,50,51,52,53,54,55,56,57,97,98,99,100,101,102]:List UInt8).length:Int) then
 .ret [.s (pL [[DC.i ((([48,49,50,51,52,53,54,55,56,57,97,98,99,100,101,102]:List UInt8).getD ((IntKind.i64.wrap ((gi a 0).tdiv (4096:Int))).tmod (16:Int)).toNat 0).toNat:Int)],[DC.i ((([48,49,50,51,52,53,54,55,56,57,97,98,99,100,101,102]:List UInt8).getD ((IntKind.i64.wrap ((gi a 0).tdiv (256:Int))).tmod (16:Int)).toNat 0).toNat:Int)],[DC.i ((([48,49,50,51,52,53,54,55,56,57,97,98,99,100,101,102]:List UInt8).getD ((IntKind.i64.wrap ((gi a 0).tdiv (16:Int))).tmod (16:Int)).toNat 0).toNat:Int)],[DC.i ((([48,49,50,51,52,53,54,55,56,57,97,98,99,100,101,102]:List UInt8).getD ((gi a 0).tmod (16:Int)).toNat 0).toNat:Int)]])]
 else
 .fail
 else
 .fail
 else
 .fail
 else
 .fail
theorem j8q a:YN a=j2H a:=(jk ju 100 _ a).trans (by kernel_rfl)
noncomputable def pQ (a:List DC):Out :=
 (qj [.sl (gl a 0)]).bindR fun r1 =>
 .ret [.b (decide ((gi r1 0) ≥ (0:Int)))]
theorem zj a:ku a=pQ a:=(jk ju 109 _ a).trans (by kernel_rfl)
noncomputable def j4s (a:List DC):Out :=
 (kM [.sl (gl a 0)]).bindR fun r1 =>
 .ret [.b (!(gb r1 0))]
theorem jaP a:yp a=j4s a:=(jk ju 112 _ a).trans (by kernel_rfl)
noncomputable def JF:List DC → Out:=fun v1 =>
 if (decide ((gi v1 3) < (gi v1 2)))=true then
 ja (if 162=162 ∧ 0 ≤ (gi v1 3) ∧ (gi v1 3) < ((gl v1 1).length:Int) then
 (po [.i ((((gl v1 1).getD (gi v1 3).toNat []).getD 0 d0).ii),.s ((((gl v1 1).getD (gi v1 3).toNat []).getD 1 d0).ss),.s ((((gl v1 1).getD (gi v1 3).toNat []).getD 2 d0).ss),.s ((((gl v1 1).getD (gi v1 3).toNat []).getD 3 d0).ss),.sl ((((gl v1 1).getD (gi v1 3).toNat []).getD 4 d0).ll),.sl ((((gl v1 1).getD (gi v1 3).toNat []).getD 5 d0).ll),.sl ((((gl v1 1).getD (gi v1 3).toNat []).getD 6 d0).ll),.i (10:Int),.i (gi v1 4)]).bindR fun r2 =>
 if (!(gb r2 0))=true then
 .ret [.b false]
 else
 .norm [.sl (gl v1 0),.sl (gl v1 1),.i (gi v1 2),.i (gi v1 3),.i (gi r2 1)]
 else
 .fail) 1 fun v3 =>
 .norm [.sl (gl v3 0),.sl (gl v3 1),.i (gi v3 2),.i (IntKind.i64.wrap ((gi v3 3) + (1:Int))),.i (gi v3 4)]
 else
 .ex 0 [.sl (gl v1 0)]
noncomputable def j4i (a:List DC):Out :=
 ja (jR JF [.sl (gl a 0),.sl (gl a 0),.i ((gl a 0).length:Int),.i (0:Int),.i (120:Int)]) 0 fun v4 =>
 .ret [.b (decide (((gl v4 0).length:Int) > (0:Int)))]
theorem jaC a:Qg a=j4i a:=(jk ju 113 _ a).trans (by kernel_rfl)
noncomputable def Qy:List DC → Out:=fun v4 =>
 if (decide ((gi v4 2) < (gi v4 1)))=true then
 ja (if 0 ≤ (gi v4 2) ∧ (gi v4 2) < ((gs v4 0).length:Int) then
 (j06 [.i (((gs v4 0).getD (gi v4 2).toNat 0).toNat:Int)]).bindR fun r5 =>
 if (!(gb r5 0))=true then
 .ret [.b false]
 else
 .norm [.s (gs v4 0),.i (gi v4 1),.i (gi v4 2)]
 else
 .fail) 1 fun v6 =>
 .norm [.s (gs v6 0),.i (gi v6 1),.i (IntKind.i64.wrap ((gi v6 2) + (1:Int)))]
 else
 .ex 0 []
noncomputable def j0l (a:List DC):Out :=
 jb ((YA [.i ((gs a 0).length:Int),.i (1:Int),.i (30:Int)]).bindR fun r1 =>
 if (!(gb r1 0))=true then
 .norm [.s (gs a 0),.b true]
 else
 if 0 ≤ (0:Int) ∧ (0:Int) < ((gs a 0).length:Int) then
 (Jz [.i (((gs a 0).getD (0:Int).toNat 0).toNat:Int)]).bindR fun r2 =>
 .norm [.s (gs a 0),.b (gb r2 0)]
 else
 .fail) fun v3 =>
 if (gb v3 1)=true then
 .ret [.b false]
 else
 ja (jR Qy [.s (gs v3 0),.i ((gs v3 0).length:Int),.i (0:Int)]) 0 fun v7 =>
 .ret [.b true]
theorem jaM a:ki a=j0l a:=(jk ju 108 _ a).trans (by kernel_rfl)
noncomputable def j1Z (a:List DC):Out :=
 jb ((YA [.i (gi a 1),.i (0:Int),.i (20:Int)]).bindR fun r1 =>
 if (!(gb r1 0))=true then
 .norm [.sl (gl a 0),.i (gi a 1),.b true]
 else
 (kC [.sl (gl a 0)]).bindR fun r2 =>
 .norm [.sl (gl a 0),.i (gi a 1),.b (gb r2 0)]) fun v3 =>
 if (gb v3 2)=true then
 .ret [.s ([]:List UInt8)]
 else
 (yW [.sl (gl v3 0),.i (gi v3 1)]).bindR fun r4 =>
 .ret [.s (gs r4 0)]
theorem j7f a:XU a=j1Z a:=(jk ju 114 _ a).trans (by kernel_rfl)
noncomputable def jcL (a:List DC):Out :=
 jb (if (decide ((gi a 0) ≥ (gi a 1)))=true then
 .norm [.b (decide ((gi a 0) ≤ (gi a 2)))]
 else
 .norm [.b false]) fun v1 =>
 .ret [.b (gb v1 0)]
theorem jgf a:YA a=jcL a:=(jk ju 115 _ a).trans (by kernel_rfl)
noncomputable def j4n (a:List DC):Out :=
 jb ((ki [.s (gs a 0)]).bindR fun r1 =>
 if (gb r1 0)=true then
 if (decide (((gs a 1).length:Int) ≤ (8:Int)))=true then
 (YL [.s (gs a 1),.s ([93,33]:List UInt8)]).bindR fun r2 =>
 if ((gs r2 0) == ([]:List UInt8))=true then
 (QC [.s (gs a 1),.s ([33,33]:List UInt8)]).bindR fun r3 =>
 .norm [.b (!(gb r3 0))]
 else
 .norm [.b false]
 else
 .norm [.b false]
 else
 .norm [.b false]) fun v4 =>
 .ret [.b (gb v4 0)]
theorem jaH a:JN a=j4n a:=(jk ju 116 _ a).trans (by kernel_rfl)
noncomputable def j12 (a:List DC):Out :=
 (Kj [.i (gi a 0),.s (gs a 1),.sl (gl a 2),.sl (gl a 3)]).bindR fun r1 =>
 if (!(gb r1 0))=true then
 .ret [.s ([]:List UInt8)]
 else
 (zd [.i (gi a 0),.s (gs a 1),.sl (gl a 2),.sl (gl a 3)]).bindR fun r2 =>
 .ret [.s (gs r2 0)]
theorem j5T a:VZ a=j12 a:=(jk ju 117 _ a).trans (by kernel_rfl)
noncomputable def K7:List DC → Out:=fun v3 =>
 if (decide ((gi v3 3) < (gi v3 2)))=true then
 ja (if 211=211 ∧ 0 ≤ (gi v3 3) ∧ (gi v3 3) < ((gl v3 1).length:Int) then
 if ((((gl v3 1).getD (gi v3 3).toNat []).getD 0 d0).ss).length + ([58,32]:List UInt8).length < jF then
 (zd [.i ((((gl v3 1).getD (gi v3 3).toNat []).getD 1 d0).ii),.s ((((gl v3 1).getD (gi v3 3).toNat []).getD 2 d0).ss),.sl ((((gl v3 1).getD (gi v3 3).toNat []).getD 3 d0).ll),.sl ((((gl v3 1).getD (gi v3 3).toNat []).getD 4 d0).ll)]).bindR fun r4 =>
 if (((((gl v3 1).getD (gi v3 3).toNat []).getD 0 d0).ss) ++ ([58,32]:List UInt8)).length + (gs r4 0).length < jF then
 if (gl v3 0).length + [[DC.s ((((((gl v3 1).getD (gi v3 3).toNat []).getD 0 d0).ss) ++ ([58,32]:List UInt8)) ++ (gs r4 0))]].length < jF then
 .norm [.sl ((gl v3 0) ++ [[DC.s ((((((gl v3 1).getD (gi v3 3).toNat []).getD 0 d0).ss) ++ ([58,32]:List UInt8)) ++ (gs r4 0))]]),.sl (gl v3 1),.i (gi v3 2),.i (gi v3 3)]
 else
 .fail
 else
 .fail
 else
 .fail
 else
 .fail) 1 fun v5 =>
 .norm [.sl (gl v5 0),.sl (gl v5 1),.i (gi v5 2),.i (IntKind.i64.wrap ((gi v5 3) + (1:Int)))]
 else
 .ex 0 [.sl (gl v3 0)]
noncomputable def Yc (a:List DC):Out :=
 jb (if (((gl a 0).length:Int) == (0:Int))=true then
 .norm [.sl (gl a 0),.b true]
 else
 (JO [.sl (gl a 0)]).bindR fun r1 =>
 .norm [.sl (gl a 0),.b (!(gb r1 0))]) fun v2 =>
 if (gb v2 1)=true then
 .ret [.s ([]:List UInt8)]
 else
 ja (jR K7 [.sl [],.sl (gl v2 0),.i ((gl v2 0).length:Int),.i (0:Int)]) 0 fun v6 =>
 (pn [.sl (gl v6 0),.s ([44,32]:List UInt8)]).bindR fun r7 =>
 if ([40]:List UInt8).length + (gs r7 0).length < jF then
 if (([40]:List UInt8) ++ (gs r7 0)).length + ([41]:List UInt8).length < jF then
 .ret [.s ((([40]:List UInt8) ++ (gs r7 0)) ++ ([41]:List UInt8))]
 else
 .fail
 else
 .fail
theorem j7k a:Qr a=Yc a:=(jk ju 118 _ a).trans (by kernel_rfl)
noncomputable def j4m (a:List DC):Out :=
 jb (if ((gs a 0) == ([]:List UInt8))=true then
 .norm [.b true]
 else
 (yC [.s (gs a 0)]).bindR fun r1 =>
 .norm [.b (!((gs r1 0) == ([]:List UInt8)))]) fun v2 =>
 .ret [.b (gb v2 0)]
theorem jaG a:JM a=j4m a:=(jk ju 122 _ a).trans (by kernel_rfl)
noncomputable def j0V (a:List DC):Out :=
 .ret [.b (decide ((IntKind.i64.wrap ((IntKind.i64.wrap ((IntKind.i64.wrap ((IntKind.i64.wrap ((IntKind.i64.wrap (((gl a 4).length:Int) + ((gl a 5).length:Int))) + ((gl a 6).length:Int))) + ((gl a 7).length:Int))) + ((gl a 8).length:Int))) + ((gl a 10).length:Int))) > (0:Int)))]
theorem j5M a:VY a=j0V a:=(jk ju 123 _ a).trans (by kernel_rfl)
noncomputable def j2V (a:List DC):Out :=
 jb ((kv [.sl (gl a 5)]).bindR fun r1 =>
 if (!(gb r1 0))=true then
 (Yq [.sl (gl a 6)]).bindR fun r2 =>
 if (gb r2 0)=true then
 (kw [.sl (gl a 7)]).bindR fun r3 =>
 if (!(gb r3 0))=true then
 (kD [.sl (gl a 8)]).bindR fun r4 =>
 if (!(gb r4 0))=true then
 (kW [.sl (gl a 4)]).bindR fun r5 =>
 if (!(gb r5 0))=true then
 (qM [.sl (gl a 10)]).bindR fun r6 =>
 .norm [.b (gb r6 0)]
 else
 .norm [.b false]
 else
 .norm [.b false]
 else
 .norm [.b false]
 else
 .norm [.b false]
 else
 .norm [.b false]) fun v7 =>
 .ret [.b (gb v7 0)]
theorem j8G a:Vf a=j2V a:=(jk ju 124 _ a).trans (by kernel_rfl)
noncomputable def qA (a:List DC):Out :=
 jb (if ((gi a 0) == (2:Int))=true then
 .norm [.i (gi a 0),.b true,.i (gi a 0),.b (gb a 1),.s (gs a 2),.s (gs a 3),.sl (gl a 4),.sl (gl a 5),.sl (gl a 6),.sl (gl a 7),.sl (gl a 8),.b (gb a 9),.sl (gl a 10)]
 else
 .norm [.i (gi a 0),.b ((gi a 0) == (3:Int)),.i (gi a 0),.b (gb a 1),.s (gs a 2),.s (gs a 3),.sl (gl a 4),.sl (gl a 5),.sl (gl a 6),.sl (gl a 7),.sl (gl a 8),.b (gb a 9),.sl (gl a 10)]) fun v1 =>
 jb (if (decide (((gl v1 7).length:Int) > (0:Int)))=true then
 if (!(gb v1 1))=true then
 .norm [.i (gi v1 0),.b true,.i (gi v1 2),.b (gb v1 3),.s (gs v1 4),.s (gs v1 5),.sl (gl v1 6),.sl (gl v1 7),.sl (gl v1 8),.sl (gl v1 9),.sl (gl v1 10),.b (gb v1 11),.sl (gl v1 12)]
 else
 if (decide (((gl v1 6).length:Int) > (0:Int)))=true then
 if (!(gb v1 1))=true then
 if ((gi v1 0) != (4:Int))=true then
 .norm [.i (gi v1 0),.b ((gi v1 0) != (7:Int)),.i (gi v1 2),.b (gb v1 3),.s (gs v1 4),.s (gs v1 5),.sl (gl v1 6),.sl (gl v1 7),.sl (gl v1 8),.sl (gl v1 9),.sl (gl v1 10),.b (gb v1 11),.sl (gl v1 12)]
 else
 .norm [.i (gi v1 0),.b false,.i (gi v1 2),.b (gb v1 3),.s (gs v1 4),.s (gs v1 5),.sl (gl v1 6),.sl (gl v1 7),.sl (gl v1 8),.sl (gl v1 9),.sl (gl v1 10),.b (gb v1 11),.sl (gl v1 12)]
 else
 .norm [.i (gi v1 0),.b false,.i (gi v1 2),.b (gb v1 3),.s (gs v1 4),.s (gs v1 5),.sl (gl v1 6),.sl (gl v1 7),.sl (gl v1 8),.sl (gl v1 9),.sl (gl v1 10),.b (gb v1 11),.sl (gl v1 12)]
 else
 .norm [.i (gi v1 0),.b false,.i (gi v1 2),.b (gb v1 3),.s (gs v1 4),.s (gs v1 5),.sl (gl v1 6),.sl (gl v1 7),.sl (gl v1 8),.sl (gl v1 9),.sl (gl v1 10),.b (gb v1 11),.sl (gl v1 12)]
 else
 if (decide (((gl v1 6).length:Int) > (0:Int)))=true then
 if (!(gb v1 1))=true then
 if ((gi v1 0) != (4:Int))=true then
 .norm [.i (gi v1 0),.b ((gi v1 0) != (7:Int)),.i (gi v1 2),.b (gb v1 3),.s (gs v1 4),.s (gs v1 5),.sl (gl v1 6),.sl (gl v1 7),.sl (gl v1 8),.sl (gl v1 9),.sl (gl v1 10),.b (gb v1 11),.sl (gl v1 12)]
 else
 .norm [.i (gi v1 0),.b false,.i (gi v1 2),.b (gb v1 3),.s (gs v1 4),.s (gs v1 5),.sl (gl v1 6),.sl (gl v1 7),.sl (gl v1 8),.sl (gl v1 9),.sl (gl v1 10),.b (gb v1 11),.sl (gl v1 12)]
 else
 .norm [.i (gi v1 0),.b false,.i (gi v1 2),.b (gb v1 3),.s (gs v1 4),.s (gs v1 5),.sl (gl v1 6),.sl (gl v1 7),.sl (gl v1 8),.sl (gl v1 9),.sl (gl v1 10),.b (gb v1 11),.sl (gl v1 12)]
 else
 .norm [.i (gi v1 0),.b false,.i (gi v1 2),.b (gb v1 3),.s (gs v1 4),.s (gs v1 5),.sl (gl v1 6),.sl (gl v1 7),.sl (gl v1 8),.sl (gl v1 9),.sl (gl v1 10),.b (gb v1 11),.sl (gl v1 12)]) fun v2 =>
 if (gb v2 1)=true then
 .ret [.b false]
 else
 jb (if (decide (((gl v2 8).length:Int) > (0:Int)))=true then
 if ((gi v2 0) != (6:Int))=true then
 if ((gi v2 0) != (7:Int))=true then
 .norm [.i (gi v2 0),.b true,.i (gi v2 2),.b (gb v2 3),.s (gs v2 4),.s (gs v2 5),.sl (gl v2 6),.sl (gl v2 7),.sl (gl v2 8),.sl (gl v2 9),.sl (gl v2 10),.b (gb v2 11),.sl (gl v2 12)]
 else
 if (decide (((gl v2 9).length:Int) > (0:Int)))=true then
 .norm [.i (gi v2 0),.b ((gi v2 0) != (5:Int)),.i (gi v2 2),.b (gb v2 3),.s (gs v2 4),.s (gs v2 5),.sl (gl v2 6),.sl (gl v2 7),.sl (gl v2 8),.sl (gl v2 9),.sl (gl v2 10),.b (gb v2 11),.sl (gl v2 12)]
 else
 .norm [.i (gi v2 0),.b false,.i (gi v2 2),.b (gb v2 3),.s (gs v2 4),.s (gs v2 5),.sl (gl v2 6),.sl (gl v2 7),.sl (gl v2 8),.sl (gl v2 9),.sl (gl v2 10),.b (gb v2 11),.sl (gl v2 12)]
 else
 if (decide (((gl v2 9).length:Int) > (0:Int)))=true then
 .norm [.i (gi v2 0),.b ((gi v2 0) != (5:Int)),.i (gi v2 2),.b (gb v2 3),.s (gs v2 4),.s (gs v2 5),.sl (gl v2 6),.sl (gl v2 7),.sl (gl v2 8),.sl (gl v2 9),.sl (gl v2 10),.b (gb v2 11),.sl (gl v2 12)]
 else
 .norm [.i (gi v2 0),.b false,.i (gi v2 2),.b (gb v2 3),.s (gs v2 4),.s (gs v2 5),.sl (gl v2 6),.sl (gl v2 7),.sl (gl v2 8),.sl (gl v2 9),.sl (gl v2 10),.b (gb v2 11),.sl (gl v2 12)]
 else
 if (decide (((gl v2 9).length:Int) > (0:Int)))=true then
 .norm [.i (gi v2 0),.b ((gi v2 0) != (5:Int)),.i (gi v2 2),.b (gb v2 3),.s (gs v2 4),.s (gs v2 5),.sl (gl v2 6),.sl (gl v2 7),.sl (gl v2 8),.sl (gl v2 9),.sl (gl v2 10),.b (gb v2 11),.sl (gl v2 12)]
 else
 .norm [.i (gi v2 0),.b false,.i (gi v2 2),.b (gb v2 3),.s (gs v2 4),.s (gs v2 5),.sl (gl v2 6),.sl (gl v2 7),.sl (gl v2 8),.sl (gl v2 9),.sl (gl v2 10),.b (gb v2 11),.sl (gl v2 12)]) fun v3 =>
 if (gb v3 1)=true then
 .ret [.b false]
 else
 jb (if (((gl v3 10).length:Int) == (0:Int))=true then
 if (((gl v3 12).length:Int) == (0:Int))=true then
 if (!(gb v3 11))=true then
 .norm [.b true]
 else
 .norm [.b ((gi v3 0) == (7:Int))]
 else
 if ((gi v3 0) != (7:Int))=true then
 if (!(gb v3 11))=true then
 .norm [.b true]
 else
 .norm [.b ((gi v3 0) == (7:Int))]
 else
 .norm [.b false]
 else
 if ((gi v3 0) == (8:Int))=true then
 if (((gl v3 12).length:Int) == (0:Int))=true then
 if (!(gb v3 11))=true then
 .norm [.b true]
 else
 .norm [.b ((gi v3 0) == (7:Int))]
 else
 if ((gi v3 0) != (7:Int))=true then
 if (!(gb v3 11))=true then
 .norm [.b true]
 else
 .norm [.b ((gi v3 0) == (7:Int))]
 else
 .norm [.b false]
 else
 .norm [.b false]) fun v4 =>
 .ret [.b (gb v4 0)]
theorem j8L a:Vl a=qA a:=(jk ju 125 _ a).trans (by kernel_rfl)
noncomputable def qx (a:List DC):Out :=
 (qP [.sl (gl a 0)]).bindR fun r1 =>
 .ret [.b (decide ((gi r1 0) ≥ (0:Int)))]
theorem Jb a:pc a=qx a:=(jk ju 126 _ a).trans (by kernel_rfl)
noncomputable def yw:List DC → Out:=fun v3 =>
 if (decide ((gi v3 3) < (gi v3 2)))=true then
 ja (if 0 ≤ (gi v3 3) ∧ (gi v3 3) < ((gs v3 0).length:Int) then
 (Q1 [.s ([34,92,8,9,10,12,13]:List UInt8),.i (((gs v3 0).getD (gi v3 3).toNat 0).toNat:Int)]).bindR fun r4 =>
 ja (jb (if (decide ((gi r4 0) ≥ (0:Int)))=true then
 if 0 ≤ (gi r4 0) ∧ (gi r4 0) < (([34,92,98,116,110,102,114]:List UInt8).length:Int) then
 if (gl v3 1).length + [[DC.i (92:Int)],[DC.i ((([34,92,98,116,110,102,114]:List UInt8).getD (gi r4 0).toNat 0).toNat:Int)]].length < jF then
 .norm [.s (gs v3 0),.sl ((gl v3 1) ++ [[DC.i (92:Int)],[DC.i ((([34,92,98,116,110,102,114]:List UInt8).getD (gi r4 0).toNat 0).toNat:Int)]]),.i (gi v3 2),.i (gi v3 3)]
 else
 .fail
 else
 .fail
 else
 jb (if (decide ((((gs v3 0).getD (gi v3 3).toNat 0).toNat:Int) < (32:Int)))=true then
 .norm [.s (gs v3 0),.sl (gl v3 1),.i (((gs v3 0).getD (gi v3 3).toNat 0).toNat:Int),.i (gi v3 2),.i (gi v3 3),.b true]
 else
 .norm [.s (gs v3 0),.sl (gl v3 1),.i (((gs v3 0).getD (gi v3 3).toNat 0).toNat:Int),.i (gi v3 2),.i (gi v3 3),.b ((((gs v3 0).getD (gi v3 3).toNat 0).toNat:Int) == (127:Int))]) fun v5 =>
 jb (if (gb v5 5)=true then
 if (4:Int) < 0 then
 .fail
 else
 if 0 ≤ ((gi v5 2).fdiv (2 ^ (min (4:Int).toNat (IntKind.u8.bits)))) ∧ ((gi v5 2).fdiv (2 ^ (min (4:Int).toNat (IntKind.u8.bits)))) < (([48,49,50,51,52,53,54,55,56,57,97,98,99,100,101,102]:List UInt8).length:Int) then
 if 0 ≤ (IntKind.u8.wrap (BitVec.ofInt (IntKind.u8.bits) (gi v5 2) &&& BitVec.ofInt (IntKind.u8.bits) (15:Int)).toNat) ∧ (IntKind.u8.wrap (BitVec.ofInt (IntKind.u8.bits) (gi v5 2) &&& BitVec.ofInt (IntKind.u8.bits) (15:Int)).toNat) < (([48,49,50,51,52,53,54,55,56,57,97,98,99,100,101,102]:List UInt8).length:Int) then
 if (gl v5 1).length + [[DC.i (92:Int)],[DC.i (117:Int)],[DC.i (48:Int)],[DC.i (48:Int)],[DC.i ((([48,49,50,51,52,53,54,55,56,57,97,98,99,100,101,102]:List UInt8).getD ((gi v5 2).fdiv (2 ^ (min (4:Int).toNat (IntKind.u8.bits)))).toNat 0).toNat:Int)],[DC.i ((([48,49,50,51,52,53,54,55,56,57,97,98,99,100,101,102]:List UInt8).getD (IntKind.u8.wrap (BitVec.ofInt (IntKind.u8.bits) (gi v5 2) &&& BitVec.ofInt (IntKind.u8.bits) (15:Int)).toNat).toNat 0).toNat:Int)]].length < jF then
 .norm [.s (gs v5 0),.sl ((gl v5 1) ++ [[DC.i (92:Int)],[DC.i (117:Int)],[DC.i (48:Int)],[DC.i (48:Int)],[DC.i ((([48,49,50,51,52,53,54,55,56,57,97,98,99,100,101,102]:List UInt8).getD ((gi v5 2).fdiv (2 ^ (min (4:Int).toNat (IntKind.u8.bits)))).toNat 0).toNat:Int)],[DC.i ((([48,49,50,51,52,53,54,55,56,57,97,98,99,100,101,102]:List UInt8).getD (IntKind.u8.wrap (BitVec.ofInt (IntKind.u8.bits) (gi v5 2) &&& BitVec.ofInt (IntKind.u8.bits) (15:Int)).toNat).toNat 0).toNat:Int)]]),.i (gi v5 3),.i (gi v5 4)]
 else
 .fail
 else
 .fail
 else
 .fail
 else
 if (gl v5 1).length + [[DC.i (gi v5 2)]].length < jF then
 .norm [.s (gs v5 0),.sl ((gl v5 1) ++ [[DC.i (gi v5 2)]]),.i (gi v5 3),.i (gi v5 4)]
 else
 .fail) fun v6 =>
 .norm [.s (gs v6 0),.sl (gl v6 1),.i (gi v6 2),.i (gi v6 3)]) fun v7 =>
 .norm [.s (gs v7 0),.sl (gl v7 1),.i (gi v7 2),.i (gi v7 3)]) 2 fun v8 =>
 .norm [.s (gs v8 0),.sl (gl v8 1),.i (gi v8 2),.i (gi v8 3)]
 else
 .fail) 1 fun v9 =>
 .norm [.s (gs v9 0),.sl (gl v9 1),.i (gi v9 2),.i (IntKind.i64.wrap ((gi v9 3) + (1:Int)))]
 else
 .ex 0 [.sl (gl v3 1)]
noncomputable def j32 (a:List DC):Out :=
 jb ((j08 [.s (gs a 0)]).bindR fun r1 =>
 if (!(gb r1 0))=true then
 .norm [.s (gs a 0),.b true]
 else
 .norm [.s (gs a 0),.b (decide (((gs a 0).length:Int) > (200:Int)))]) fun v2 =>
 if (gb v2 1)=true then
 .ret [.s ([]:List UInt8)]
 else
 ja (jR yw [.s (gs v2 0),.sl [[DC.i (34:Int)]],.i ((gs v2 0).length:Int),.i (0:Int)]) 0 fun v10 =>
 if (gl v10 0).length + [[DC.i (34:Int)]].length < jF then
 .ret [.s (pL ((gl v10 0) ++ [[DC.i (34:Int)]]))]
 else
 .fail
theorem j8Q a:yC a=j32 a:=(jk ju 129 _ a).trans (by kernel_rfl)
noncomputable def Xp (a:List DC):Out :=
 (Zr [.s (gs a 0),.s (gs a 1),.s (gs a 2),.s (gs a 3),.b (gb a 4),.i (gi a 5),.s (gs a 6),.sl (gl a 7),.sl (gl a 8),.sl (gl a 9)]).bindR fun r1 =>
 if (!(gb r1 0))=true then
 .ret [.s ([]:List UInt8)]
 else
 jb (if (!((gs a 1) == ([]:List UInt8)))=true then
 (yC [.s (gs a 1)]).bindR fun r2 =>
 if (gs r2 0).length + ([32]:List UInt8).length < jF then
 .norm [.s ((gs r2 0) ++ ([32]:List UInt8)),.s (gs a 0),.s (gs a 1),.s (gs a 2),.s (gs a 3),.b (gb a 4),.i (gi a 5),.s (gs a 6),.sl (gl a 7),.sl (gl a 8),.sl (gl a 9)]
 else
 .fail
 else
 .norm [.s ([]:List UInt8),.s (gs a 0),.s (gs a 1),.s (gs a 2),.s (gs a 3),.b (gb a 4),.i (gi a 5),.s (gs a 6),.sl (gl a 7),.sl (gl a 8),.sl (gl a 9)]) fun v3 =>
 if (gs v3 0).length + (gs v3 1).length < jF then
 if ((gs v3 0) ++ (gs v3 1)).length + ([58,32]:List UInt8).length < jF then
 (JA [.s (gs v3 3),.s (gs v3 4)]).bindR fun r4 =>
 if (((gs v3 0) ++ (gs v3 1)) ++ ([58,32]:List UInt8)).length + (gs r4 0).length < jF then
 (Jh [.b (gb v3 5),.i (gi v3 6),.s (gs v3 7),.sl (gl v3 8),.sl (gl v3 9)]).bindR fun r5 =>
 if ((((gs v3 0) ++ (gs v3 1)) ++ ([58,32]:List UInt8)) ++ (gs r4 0)).length + (gs r5 0).length < jF then
 (kT [.sl (gl v3 10)]).bindR fun r6 =>
 if (((((gs v3 0) ++ (gs v3 1)) ++ ([58,32]:List UInt8)) ++ (gs r4 0)) ++ (gs r5 0)).length + (gs r6 0).length < jF then
 .ret [.s ((((((gs v3 0) ++ (gs v3 1)) ++ ([58,32]:List UInt8)) ++ (gs r4 0)) ++ (gs r5 0)) ++ (gs r6 0))]
 else
 .fail
 else
 .fail
 else
 .fail
 else
 .fail
 else
 .fail
theorem jaN a:Xk a=Xp a:=(jk ju 130 _ a).trans (by kernel_rfl)
noncomputable def X9 (a:List DC):Out :=
 (Vi [.s (gs a 0),.s (gs a 1),.sl (gl a 2),.s (gs a 3),.s (gs a 4),.sl (gl a 5)]).bindR fun r1 =>
 if (!(gb r1 0))=true then
 .ret [.s ([]:List UInt8)]
 else
 (yX [.s ([32,32]:List UInt8),.s (gs a 1)]).bindR fun r2 =>
 if (gs r2 0).length + ([32,32]:List UInt8).length < jF then
 if ((gs r2 0) ++ ([32,32]:List UInt8)).length + (gs a 0).length < jF then
 (Vg [.sl (gl a 2)]).bindR fun r3 =>
 if (((gs r2 0) ++ ([32,32]:List UInt8)) ++ (gs a 0)).length + (gs r3 0).length < jF then
 if ((((gs r2 0) ++ ([32,32]:List UInt8)) ++ (gs a 0)) ++ (gs r3 0)).length + ([58,32]:List UInt8).length < jF then
 (JA [.s (gs a 3),.s (gs a 4)]).bindR fun r4 =>
 if (((((gs r2 0) ++ ([32,32]:List UInt8)) ++ (gs a 0)) ++ (gs r3 0)) ++ ([58,32]:List UInt8)).length + (gs r4 0).length < jF then
 (kT [.sl (gl a 5)]).bindR fun r5 =>
 if ((((((gs r2 0) ++ ([32,32]:List UInt8)) ++ (gs a 0)) ++ (gs r3 0)) ++ ([58,32]:List UInt8)) ++ (gs r4 0)).length + (gs r5 0).length < jF then
 if (((((((gs r2 0) ++ ([32,32]:List UInt8)) ++ (gs a 0)) ++ (gs r3 0)) ++ ([58,32]:List UInt8)) ++ (gs r4 0)) ++ (gs r5 0)).length + ([10]:List UInt8).length < jF then
 .ret [.s ((((((((gs r2 0) ++ ([32,32]:List UInt8)) ++ (gs a 0)) ++ (gs r3 0)) ++ ([58,32]:List UInt8)) ++ (gs r4 0)) ++ (gs r5 0)) ++ ([10]:List UInt8))]
 else
 .fail
 else
 .fail
 else
 .fail
 else
 .fail
 else
 .fail
 else
 .fail
 else
 .fail
theorem j5V a:X0 a=X9 a:=(jk ju 131 _ a).trans (by kernel_rfl)
noncomputable def j1R (a:List DC):Out :=
 if (!((gs a 0) == (gs a 9)))=true then
 .ret [.b false]
 else
 (Qe [.s (gs a 1),.s (gs a 2),.s (gs a 10),.s (gs a 11)]).bindR fun r1 =>
 if (!(gb r1 0))=true then
 .ret [.b false]
 else
 if (!((gb a 3) == (gb a 12)))=true then
 .ret [.b false]
 else
 (yB [.i (gi a 4),.s (gs a 5),.sl (gl a 6),.sl (gl a 7),.i (gi a 13),.s (gs a 14),.sl (gl a 15),.sl (gl a 16)]).bindR fun r2 =>
 if (!(gb r2 0))=true then
 .ret [.b false]
 else
 (pO [.sl (gl a 8),.sl (gl a 17)]).bindR fun r3 =>
 if (!(gb r3 0))=true then
 .ret [.b false]
 else
 .ret [.b true]
theorem j76 a:Qp a=j1R a:=(jk ju 132 _ a).trans (by kernel_rfl)
noncomputable def j6p (a:List DC):Out :=
 if (!((gs a 0) == (gs a 2)))=true then
 .ret [.b false]
 else
 (Qf [.sl (gl a 1),.sl (gl a 3)]).bindR fun r1 =>
 if (!(gb r1 0))=true then
 .ret [.b false]
 else
 .ret [.b true]
theorem jbL a:Yo a=j6p a:=(jk ju 133 _ a).trans (by kernel_rfl)
noncomputable def j6o (a:List DC):Out :=
 if ((gi a 0) != (gi a 7))=true then
 .ret [.b false]
 else
 if (!((gs a 1) == (gs a 8)))=true then
 .ret [.b false]
 else
 if (!((gs a 2) == (gs a 9)))=true then
 .ret [.b false]
 else
 if (!((gs a 3) == (gs a 10)))=true then
 .ret [.b false]
 else
 (Qf [.sl (gl a 4),.sl (gl a 11)]).bindR fun r1 =>
 if (!(gb r1 0))=true then
 .ret [.b false]
 else
 (pO [.sl (gl a 5),.sl (gl a 12)]).bindR fun r2 =>
 if (!(gb r2 0))=true then
 .ret [.b false]
 else
 (JL [.sl (gl a 6),.sl (gl a 13)]).bindR fun r3 =>
 if (!(gb r3 0))=true then
 .ret [.b false]
 else
 .ret [.b true]
theorem jbK a:Yn a=j6o a:=(jk ju 134 _ a).trans (by kernel_rfl)
noncomputable def ZI (a:List DC):Out :=
 if (!((gs a 0) == (gs a 6)))=true then
 .ret [.b false]
 else
 if (!((gs a 1) == (gs a 7)))=true then
 .ret [.b false]
 else
 (Jy [.sl (gl a 2),.sl (gl a 8)]).bindR fun r1 =>
 if (!(gb r1 0))=true then
 .ret [.b false]
 else
 (Qe [.s (gs a 3),.s (gs a 4),.s (gs a 9),.s (gs a 10)]).bindR fun r2 =>
 if (!(gb r2 0))=true then
 .ret [.b false]
 else
 (pO [.sl (gl a 5),.sl (gl a 11)]).bindR fun r3 =>
 if (!(gb r3 0))=true then
 .ret [.b false]
 else
 .ret [.b true]
theorem j4L a:K2 a=ZI a:=(jk ju 135 _ a).trans (by kernel_rfl)
noncomputable def j2U (a:List DC):Out :=
 if (!((gs a 0) == (gs a 10)))=true then
 .ret [.b false]
 else
 if (!((gs a 1) == (gs a 11)))=true then
 .ret [.b false]
 else
 (Qe [.s (gs a 2),.s (gs a 3),.s (gs a 12),.s (gs a 13)]).bindR fun r1 =>
 if (!(gb r1 0))=true then
 .ret [.b false]
 else
 if (!((gb a 4) == (gb a 14)))=true then
 .ret [.b false]
 else
 (yB [.i (gi a 5),.s (gs a 6),.sl (gl a 7),.sl (gl a 8),.i (gi a 15),.s (gs a 16),.sl (gl a 17),.sl (gl a 18)]).bindR fun r2 =>
 if (!(gb r2 0))=true then
 .ret [.b false]
 else
 (pO [.sl (gl a 9),.sl (gl a 19)]).bindR fun r3 =>
 if (!(gb r3 0))=true then
 .ret [.b false]
 else
 .ret [.b true]
theorem j8E a:Vd a=j2U a:=(jk ju 136 _ a).trans (by kernel_rfl)
noncomputable def j0S (a:List DC):Out :=
 if (!((gs a 0) == (gs a 3)))=true then
 .ret [.b false]
 else
 if (!((gs a 1) == (gs a 4)))=true then
 .ret [.b false]
 else
 (pO [.sl (gl a 2),.sl (gl a 5)]).bindR fun r1 =>
 if (!(gb r1 0))=true then
 .ret [.b false]
 else
 .ret [.b true]
theorem j5J a:KI a=j0S a:=(jk ju 137 _ a).trans (by kernel_rfl)
noncomputable def j4d (a:List DC):Out :=
 if ((gi a 0) != (gi a 2))=true then
 .ret [.b false]
 else
 if (!((gs a 1) == (gs a 3)))=true then
 .ret [.b false]
 else
 .ret [.b true]
theorem jax a:Xi a=j4d a:=(jk ju 138 _ a).trans (by kernel_rfl)
noncomputable def j44 (a:List DC):Out :=
 if (decide ((IntKind.i64.wrap ((gi a 2) - ((gs a 0).length:Int))) < (0:Int)))=true then
 .ret [.i (-1:Int)]
 else
 if (decide ((IntKind.i64.wrap ((IntKind.i64.wrap ((gi a 2) - ((gs a 0).length:Int))) - ((gs a 1).length:Int))) < (0:Int)))=true then
 .ret [.i (-1:Int)]
 else
 .ret [.i (IntKind.i64.wrap ((IntKind.i64.wrap ((gi a 2) - ((gs a 0).length:Int))) - ((gs a 1).length:Int)))]
theorem jao a:Qc a=j44 a:=(jk ju 139 _ a).trans (by kernel_rfl)
noncomputable def j2P (a:List DC):Out :=
 if (decide ((IntKind.i64.wrap ((gi a 4) - ((gs a 1).length:Int))) < (0:Int)))=true then
 .ret [.i (-1:Int)]
 else
 (XP [.sl (gl a 2),.i (IntKind.i64.wrap ((gi a 4) - ((gs a 1).length:Int)))]).bindR fun r1 =>
 if (decide ((gi r1 0) < (0:Int)))=true then
 .ret [.i (-1:Int)]
 else
 (KE [.sl (gl a 3),.i (gi r1 0)]).bindR fun r2 =>
 if (decide ((gi r2 0) < (0:Int)))=true then
 .ret [.i (-1:Int)]
 else
 .ret [.i (gi r2 0)]
theorem j8z a:yA a=j2P a:=(jk ju 140 _ a).trans (by kernel_rfl)
noncomputable def Y6:List DC → Out:=fun v1 =>
 if (decide ((gi v1 2) < ((gl v1 0).length:Int)))=true then
 ja (if 243=243 ∧ 0 ≤ (gi v1 2) ∧ (gi v1 2) < ((gl v1 0).length:Int) then
 (Ym [.s ((((gl v1 0).getD (gi v1 2).toNat []).getD 0 d0).ss),.i ((((gl v1 0).getD (gi v1 2).toNat []).getD 1 d0).ii),.s ((((gl v1 0).getD (gi v1 2).toNat []).getD 2 d0).ss),.sl ((((gl v1 0).getD (gi v1 2).toNat []).getD 3 d0).ll),.sl ((((gl v1 0).getD (gi v1 2).toNat []).getD 4 d0).ll),.i (gi v1 1)]).bindR fun r2 =>
 if (decide ((gi r2 0) < (0:Int)))=true then
 .ret [.i (-1:Int)]
 else
 .norm [.sl (gl v1 0),.i (gi r2 0),.i (gi v1 2)]
 else
 .fail) 1 fun v3 =>
 .norm [.sl (gl v3 0),.i (gi v3 1),.i (IntKind.i64.wrap ((gi v3 2) + (1:Int)))]
 else
 .ex 0 [.i (gi v1 1)]
noncomputable def j4a (a:List DC):Out :=
 if (decide ((IntKind.i64.wrap ((gi a 1) - ((gl a 0).length:Int))) < (0:Int)))=true then
 .ret [.i (-1:Int)]
 else
 ja (jR Y6 [.sl (gl a 0),.i (IntKind.i64.wrap ((gi a 1) - ((gl a 0).length:Int))),.i (0:Int)]) 0 fun v4 =>
 .ret [.i (gi v4 0)]
theorem jau a:Qd a=j4a a:=(jk ju 141 _ a).trans (by kernel_rfl)
noncomputable def j3X (a:List DC):Out :=
 .ret [.s (gs a 0),.s (gs a 1)]
theorem jah a:Q9 a=j3X a:=(jk ju 153 _ a).trans (by kernel_rfl)
noncomputable def j2M (a:List DC):Out :=
 (XO [.sl (gl a 2)]).bindR fun r1 =>
 (KA [.sl (gl a 3)]).bindR fun r2 =>
 .ret [.i (gi a 0),.s (gs a 1),.sl (gl r1 0),.sl (gl r2 0)]
theorem j8w a:yz a=j2M a:=(jk ju 154 _ a).trans (by kernel_rfl)
noncomputable def Y3:List DC → Out:=fun v1 =>
 if (decide ((gi v1 2) < ((gl v1 0).length:Int)))=true then
 ja (if 243=243 ∧ 0 ≤ (gi v1 2) ∧ (gi v1 2) < ((gl v1 0).length:Int) then
 (Yj [.s ((((gl v1 0).getD (gi v1 2).toNat []).getD 0 d0).ss),.i ((((gl v1 0).getD (gi v1 2).toNat []).getD 1 d0).ii),.s ((((gl v1 0).getD (gi v1 2).toNat []).getD 2 d0).ss),.sl ((((gl v1 0).getD (gi v1 2).toNat []).getD 3 d0).ll),.sl ((((gl v1 0).getD (gi v1 2).toNat []).getD 4 d0).ll)]).bindR fun r2 =>
 if 211=211 ∧ 0 ≤ (gi v1 2) ∧ (gi v1 2) < ((gl v1 1).length:Int) then
 .norm [.sl (gl v1 0),.sl ((gl v1 1).set ((gi v1 2).toNat) (pS ((gl v1 1).getD ((gi v1 2).toNat) []) 0 [DC.s (gs r2 0),DC.i (gi r2 1),DC.s (gs r2 2),DC.sl (gl r2 3),DC.sl (gl r2 4)])),.i (gi v1 2)]
 else
 .fail
 else
 .fail) 1 fun v3 =>
 .norm [.sl (gl v3 0),.sl (gl v3 1),.i (IntKind.i64.wrap ((gi v3 2) + (1:Int)))]
 else
 .ex 0 [.sl (gl v1 1)]
noncomputable def j43 (a:List DC):Out :=
 if 0 ≤ ((gl a 0).length:Int) ∧ ((gl a 0).length:Int) < (jF:Int) ∧ ((gl a 0).length:Int)=((gl a 0).length:Int) ∧ 88 ≤ 1024 ∧ 0 < 5 then
 ja (jR Y3 [.sl (gl a 0),.sl (List.replicate ((gl a 0).length:Int).toNat [DC.s [],DC.i 0,DC.s [],DC.sl [],DC.sl []]),.i (0:Int)]) 0 fun v4 =>
 .ret [.sl (gl v4 0)]
 else
 .fail
theorem jan a:Qb a=j43 a:=(jk ju 155 _ a).trans (by kernel_rfl)
noncomputable def j0H (a:List DC):Out :=
 jb (if (decide ((gi a 0) ≥ (48:Int)))=true then
 .norm [.b (decide ((gi a 0) ≤ (57:Int)))]
 else
 .norm [.b false]) fun v1 =>
 .ret [.b (gb v1 0)]
theorem j5y a:zW a=j0H a:=(jk ju 142 _ a).trans (by kernel_rfl)
noncomputable def j0G (a:List DC):Out :=
 jb (if (decide ((gi a 0) ≥ (97:Int)))=true then
 if (decide ((gi a 0) ≤ (122:Int)))=true then
 .norm [.b true]
 else
 if (decide ((gi a 0) ≥ (65:Int)))=true then
 if (decide ((gi a 0) ≤ (90:Int)))=true then
 .norm [.b true]
 else
 .norm [.b ((gi a 0) == (95:Int))]
 else
 .norm [.b ((gi a 0) == (95:Int))]
 else
 if (decide ((gi a 0) ≥ (65:Int)))=true then
 if (decide ((gi a 0) ≤ (90:Int)))=true then
 .norm [.b true]
 else
 .norm [.b ((gi a 0) == (95:Int))]
 else
 .norm [.b ((gi a 0) == (95:Int))]) fun v1 =>
 .ret [.b (gb v1 0)]
theorem j5x a:VU a=j0G a:=(jk ju 143 _ a).trans (by kernel_rfl)
noncomputable def Y0:List DC → Out:=fun v1 =>
 if (decide ((gi v1 1) < ((gl v1 0).length:Int)))=true then
 ja (jb (if 211=211 ∧ 0 ≤ (gi v1 1) ∧ (gi v1 1) < ((gl v1 0).length:Int) then
 (kg [.s ((((gl v1 0).getD (gi v1 1).toNat []).getD 0 d0).ss)]).bindR fun r2 =>
 if (!(gb r2 0))=true then
 .norm [.sl (gl v1 0),.i (gi v1 1),.b true]
 else
 if 211=211 ∧ 0 ≤ (gi v1 1) ∧ (gi v1 1) < ((gl v1 0).length:Int) then
 (V6 [.i ((((gl v1 0).getD (gi v1 1).toNat []).getD 1 d0).ii),.s ((((gl v1 0).getD (gi v1 1).toNat []).getD 2 d0).ss),.sl ((((gl v1 0).getD (gi v1 1).toNat []).getD 3 d0).ll),.sl ((((gl v1 0).getD (gi v1 1).toNat []).getD 4 d0).ll)]).bindR fun r3 =>
 .norm [.sl (gl v1 0),.i (gi v1 1),.b (!(gb r3 0))]
 else
 .fail
 else
 .fail) fun v4 =>
 if (gb v4 2)=true then
 .ret [.b false]
 else
 .norm [.sl (gl v4 0),.i (gi v4 1)]) 1 fun v5 =>
 .norm [.sl (gl v5 0),.i (IntKind.i64.wrap ((gi v5 1) + (1:Int)))]
 else
 .ex 0 []
noncomputable def j3W (a:List DC):Out :=
 ja (jR Y0 [.sl (gl a 0),.i (0:Int)]) 0 fun v6 =>
 .ret [.b true]
theorem jag a:Xf a=j3W a:=(jk ju 144 _ a).trans (by kernel_rfl)
noncomputable def Qw:List DC → Out:=fun v3 =>
 if (decide ((gi v3 0) < ((gs v3 2).length:Int)))=true then
 ja (jb (if 0 ≤ (gi v3 0) ∧ (gi v3 0) < ((gs v3 2).length:Int) then
 if ((((gs v3 2).getD (gi v3 0).toNat 0).toNat:Int) != (33:Int))=true then
 if 0 ≤ (gi v3 0) ∧ (gi v3 0) < ((gs v3 2).length:Int) then
 if ((((gs v3 2).getD (gi v3 0).toNat 0).toNat:Int) != (93:Int))=true then
 .norm [.i (gi v3 0),.b true,.s (gs v3 1),.s (gs v3 2)]
 else
 if (decide ((gi v3 0) > (0:Int)))=true then
 if 0 ≤ (gi v3 0) ∧ (gi v3 0) < ((gs v3 2).length:Int) then
 if ((((gs v3 2).getD (gi v3 0).toNat 0).toNat:Int) == (33:Int))=true then
 if 0 ≤ (IntKind.i64.wrap ((gi v3 0) - (1:Int))) ∧ (IntKind.i64.wrap ((gi v3 0) - (1:Int))) < ((gs v3 2).length:Int) then
 .norm [.i (gi v3 0),.b ((((gs v3 2).getD (IntKind.i64.wrap ((gi v3 0) - (1:Int))).toNat 0).toNat:Int) == (33:Int)),.s (gs v3 1),.s (gs v3 2)]
 else
 .fail
 else
 .norm [.i (gi v3 0),.b false,.s (gs v3 1),.s (gs v3 2)]
 else
 .fail
 else
 .norm [.i (gi v3 0),.b false,.s (gs v3 1),.s (gs v3 2)]
 else
 .fail
 else
 if (decide ((gi v3 0) > (0:Int)))=true then
 if 0 ≤ (gi v3 0) ∧ (gi v3 0) < ((gs v3 2).length:Int) then
 if ((((gs v3 2).getD (gi v3 0).toNat 0).toNat:Int) == (33:Int))=true then
 if 0 ≤ (IntKind.i64.wrap ((gi v3 0) - (1:Int))) ∧ (IntKind.i64.wrap ((gi v3 0) - (1:Int))) < ((gs v3 2).length:Int) then
 .norm [.i (gi v3 0),.b ((((gs v3 2).getD (IntKind.i64.wrap ((gi v3 0) - (1:Int))).toNat 0).toNat:Int) == (33:Int)),.s (gs v3 1),.s (gs v3 2)]
 else
 .fail
 else
 .norm [.i (gi v3 0),.b false,.s (gs v3 1),.s (gs v3 2)]
 else
 .fail
 else
 .norm [.i (gi v3 0),.b false,.s (gs v3 1),.s (gs v3 2)]
 else
 .fail) fun v4 =>
 if (gb v4 1)=true then
 .ret [.b false]
 else
 .norm [.i (gi v4 0),.s (gs v4 2),.s (gs v4 3)]) 1 fun v5 =>
 .norm [.i (IntKind.i64.wrap ((gi v5 0) + (1:Int))),.s (gs v5 1),.s (gs v5 2)]
 else
 .ex 0 []
noncomputable def j3Q (a:List DC):Out :=
 jb ((kg [.s (gs a 0)]).bindR fun r1 =>
 if (!(gb r1 0))=true then
 .norm [.b true,.s (gs a 0),.s (gs a 1)]
 else
 .norm [.b (decide (((gs a 1).length:Int) > (8:Int))),.s (gs a 0),.s (gs a 1)]) fun v2 =>
 if (gb v2 0)=true then
 .ret [.b false]
 else
 ja (jR Qw [.i (0:Int),.s (gs v2 1),.s (gs v2 2)]) 0 fun v6 =>
 .ret [.b true]
theorem ja8 a:JI a=j3Q a:=(jk ju 145 _ a).trans (by kernel_rfl)
noncomputable def ZC (a:List DC):Out :=
 if (gb a 0)=true then
 jb ((V6 [.i (gi a 1),.s (gs a 2),.sl (gl a 3),.sl (gl a 4)]).bindR fun r1 =>
 if (gb r1 0)=true then
 (V7 [.i (gi a 1),.s (gs a 2),.sl (gl a 3),.sl (gl a 4)]).bindR fun r2 =>
 .norm [.b (gb r2 0)]
 else
 .norm [.b false]) fun v3 =>
 .ret [.b (gb v3 0)]
 else
 (Ky [.i (gi a 1),.s (gs a 2),.sl (gl a 3),.sl (gl a 4),.i (0:Int),.s [],.sl [],.sl []]).bindR fun r4 =>
 .ret [.b (gb r4 0)]
theorem j4F a:JW a=ZC a:=(jk ju 146 _ a).trans (by kernel_rfl)
noncomputable def y7:List DC → Out:=fun v1 =>
 jb (if (decide ((gi v1 1) < ((gl v1 8).length:Int)))=true then
 .norm [.i (gi v1 0),.i (gi v1 1),.b (decide ((gi v1 0) ≥ (0:Int))),.i (gi v1 2),.s (gs v1 3),.s (gs v1 4),.s (gs v1 5),.sl (gl v1 6),.sl (gl v1 7),.sl (gl v1 8)]
 else
 .norm [.i (gi v1 0),.i (gi v1 1),.b false,.i (gi v1 2),.s (gs v1 3),.s (gs v1 4),.s (gs v1 5),.sl (gl v1 6),.sl (gl v1 7),.sl (gl v1 8)]) fun v2 =>
 if (gb v2 2)=true then
 ja (if 162=162 ∧ 0 ≤ (gi v2 1) ∧ (gi v2 1) < ((gl v2 9).length:Int) then
 (Ju [.i ((((gl v2 9).getD (gi v2 1).toNat []).getD 0 d0).ii),.s ((((gl v2 9).getD (gi v2 1).toNat []).getD 1 d0).ss),.s ((((gl v2 9).getD (gi v2 1).toNat []).getD 2 d0).ss),.s ((((gl v2 9).getD (gi v2 1).toNat []).getD 3 d0).ss),.sl ((((gl v2 9).getD (gi v2 1).toNat []).getD 4 d0).ll),.sl ((((gl v2 9).getD (gi v2 1).toNat []).getD 5 d0).ll),.sl ((((gl v2 9).getD (gi v2 1).toNat []).getD 6 d0).ll),.i (gi v2 0)]).bindR fun r3 =>
 .norm [.i (gi r3 0),.i (gi v2 1),.i (gi v2 3),.s (gs v2 4),.s (gs v2 5),.s (gs v2 6),.sl (gl v2 7),.sl (gl v2 8),.sl (gl v2 9)]
 else
 .fail) 1 fun v4 =>
 .norm [.i (gi v4 0),.i (IntKind.i64.wrap ((gi v4 1) + (1:Int))),.i (gi v4 2),.s (gs v4 3),.s (gs v4 4),.s (gs v4 5),.sl (gl v4 6),.sl (gl v4 7),.sl (gl v4 8)]
 else
 .ex 0 [.i (gi v2 0)]
noncomputable def j1E (a:List DC):Out :=
 ja (jR y7 [.i (IntKind.i64.wrap ((gi a 7) - (1:Int))),.i (0:Int),.i (gi a 0),.s (gs a 1),.s (gs a 2),.s (gs a 3),.sl (gl a 4),.sl (gl a 5),.sl (gl a 6)]) 0 fun v5 =>
 .ret [.i (gi v5 0)]
theorem j6S a:Ju a=j1E a:=(jk ju 147 _ a).trans (by kernel_rfl)
noncomputable def K5:List DC → Out:=fun v5 =>
 if (decide ((gi v5 1) < ((gl v5 8).length:Int)))=true then
 ja (if 162=162 ∧ 0 ≤ (gi v5 1) ∧ (gi v5 1) < ((gl v5 8).length:Int) then
 (qC [.i ((((gl v5 8).getD (gi v5 1).toNat []).getD 0 d0).ii),.s ((((gl v5 8).getD (gi v5 1).toNat []).getD 1 d0).ss),.s ((((gl v5 8).getD (gi v5 1).toNat []).getD 2 d0).ss),.s ((((gl v5 8).getD (gi v5 1).toNat []).getD 3 d0).ss),.sl ((((gl v5 8).getD (gi v5 1).toNat []).getD 4 d0).ll),.sl ((((gl v5 8).getD (gi v5 1).toNat []).getD 5 d0).ll),.sl ((((gl v5 8).getD (gi v5 1).toNat []).getD 6 d0).ll),.i (IntKind.i64.wrap ((gi v5 0) - (1:Int)))]).bindR fun r6 =>
 if (!(gb r6 0))=true then
 .ret [.b false]
 else
 .norm [.i (gi v5 0),.i (gi v5 1),.i (gi v5 2),.s (gs v5 3),.s (gs v5 4),.s (gs v5 5),.sl (gl v5 6),.sl (gl v5 7),.sl (gl v5 8)]
 else
 .fail) 1 fun v7 =>
 .norm [.i (gi v7 0),.i (IntKind.i64.wrap ((gi v7 1) + (1:Int))),.i (gi v7 2),.s (gs v7 3),.s (gs v7 4),.s (gs v7 5),.sl (gl v7 6),.sl (gl v7 7),.sl (gl v7 8)]
 else
 .ex 0 []
noncomputable def j1C (a:List DC):Out :=
 jb (if ((gi a 7) == (0:Int))=true then
 .norm [.i (gi a 7),.b true,.i (gi a 0),.s (gs a 1),.s (gs a 2),.s (gs a 3),.sl (gl a 4),.sl (gl a 5),.sl (gl a 6)]
 else
 (XK [.i (gi a 0),.s (gs a 1),.s (gs a 2),.s (gs a 3),.sl (gl a 4),.sl (gl a 5),.sl (gl a 6)]).bindR fun r1 =>
 if (!(gb r1 0))=true then
 .norm [.i (gi a 7),.b true,.i (gi a 0),.s (gs a 1),.s (gs a 2),.s (gs a 3),.sl (gl a 4),.sl (gl a 5),.sl (gl a 6)]
 else
 (Xf [.sl (gl a 4)]).bindR fun r2 =>
 if (!(gb r2 0))=true then
 .norm [.i (gi a 7),.b true,.i (gi a 0),.s (gs a 1),.s (gs a 2),.s (gs a 3),.sl (gl a 4),.sl (gl a 5),.sl (gl a 6)]
 else
 (zC [.sl (gl a 5)]).bindR fun r3 =>
 .norm [.i (gi a 7),.b (!(gb r3 0)),.i (gi a 0),.s (gs a 1),.s (gs a 2),.s (gs a 3),.sl (gl a 4),.sl (gl a 5),.sl (gl a 6)]) fun v4 =>
 if (gb v4 1)=true then
 .ret [.b false]
 else
 ja (jR K5 [.i (gi v4 0),.i (0:Int),.i (gi v4 2),.s (gs v4 3),.s (gs v4 4),.s (gs v4 5),.sl (gl v4 6),.sl (gl v4 7),.sl (gl v4 8)]) 0 fun v8 =>
 .ret [.b true]
theorem j6Q a:qC a=j1C a:=(jk ju 148 _ a).trans (by kernel_rfl)
noncomputable def jb6 (a:List DC):Out :=
 ja (jb (if ((gs a 0) == ([81,85,69,82,89]:List UInt8))=true then
 .norm [.b ((gs a 0) == ([81,85,69,82,89]:List UInt8))]
 else
 jb (if ((gs a 0) == ([77,85,84,65,84,73,79,78]:List UInt8))=true then
 .norm [.b ((gs a 0) == ([77,85,84,65,84,73,79,78]:List UInt8))]
 else
 jb (if ((gs a 0) == ([83,85,66,83,67,82,73,80,84,73,79,78]:List UInt8))=true then
 .norm [.b ((gs a 0) == ([83,85,66,83,67,82,73,80,84,73,79,78]:List UInt8))]
 else
 jb (if ((gs a 0) == ([70,73,69,76,68]:List UInt8))=true then
 .norm [.b ((gs a 0) == ([70,73,69,76,68]:List UInt8))]
 else
 jb (if ((gs a 0) == ([70,82,65,71,77,69,78,84,95,68,69,70,73,78,73,84,73,79,78]:List UInt8))=true then
 .norm [.b ((gs a 0) == ([70,82,65,71,77,69,78,84,95,68,69,70,73,78,73,84,73,79,78]:List UInt8))]
 else
 jb (if ((gs a 0) == ([70,82,65,71,77,69,78,84,95,83,80,82,69,65,68]:List UInt8))=true then
 .norm [.b ((gs a 0) == ([70,82,65,71,77,69,78,84,95,83,80,82,69,65,68]:List UInt8))]
 else
 jb (if ((gs a 0) == ([73,78,76,73,78,69,95,70,82,65,71,77,69,78,84]:List UInt8))=true then
 .norm [.b ((gs a 0) == ([73,78,76,73,78,69,95,70,82,65,71,77,69,78,84]:List UInt8))]
 else
 jb (if ((gs a 0) == ([86,65,82,73,65,66,76,69,95,68,69,70,73,78,73,84,73,79,78]:List UInt8))=true then
 .norm [.b ((gs a 0) == ([86,65,82,73,65,66,76,69,95,68,69,70,73,78,73,84,73,79,78]:List UInt8))]
 else
 jb (if ((gs a 0) == ([83,67,72,69,77,65]:List UInt8))=true then
 .norm [.b ((gs a 0) == ([83,67,72,69,77,65]:List UInt8))]
 else
 jb (if ((gs a 0) == ([83,67,65,76,65,82]:List UInt8))=true then
 .norm [.b ((gs a 0) == ([83,67,65,76,65,82]:List UInt8))]
 else
 jb (if ((gs a 0) == ([79,66,74,69,67,84]:List UInt8))=true then
 .norm [.b ((gs a 0) == ([79,66,74,69,67,84]:List UInt8))]
 else
 jb (if ((gs a 0) == ([70,73,69,76,68,95,68,69,70,73,78,73,84,73,79,78]:List UInt8))=true then
 .norm [.b ((gs a 0) == ([70,73,69,76,68,95,68,69,70,73,78,73,84,73,79,78]:List UInt8))]
 else
 jb (if ((gs a 0) == ([65,82,71,85,77,69,78,84,95,68,69,70,73,78,73,84,73,79,78]:List UInt8))=true then
 .norm [.b ((gs a 0) == ([65,82,71,85,77,69,78,84,95,68,69,70,73,78,73,84,73,79,78]:List UInt8))]
 else
 jb (if ((gs a 0) == ([73,78,84,69,82,70,65,67,69]:List UInt8))=true then
 .norm [.b ((gs a 0) == ([73,78,84,69,82,70,65,67,69]:List UInt8))]
 else
 jb (if ((gs a 0) == ([85,78,73,79,78]:List UInt8))=true then
 .norm [.b ((gs a 0) == ([85,78,73,79,78]:List UInt8))]
 else
 jb (if ((gs a 0) == ([69,78,85,77]:List UInt8))=true then
 .norm [.b ((gs a 0) == ([69,78,85,77]:List UInt8))]
 else
 jb (if ((gs a 0) == ([69,78,85,77,95,86,65,76,85,69]:List UInt8))=true then
 .norm [.b ((gs a 0) == ([69,78,85,77,95,86,65,76,85,69]:List UInt8))]
 else
 jb (if ((gs a 0) == ([73,78,80,85,84,95,79,66,74,69,67,84]:List UInt8))=true then
 .norm [.b ((gs a 0) == ([73,78,80,85,84,95,79,66,74,69,67,84]:List UInt8))]
 else
 .norm [.b ((gs a 0) == ([73,78,80,85,84,95,70,73,69,76,68,95,68,69,70,73,78,73,84,73,79,78]:List UInt8))]) fun v1 =>
 .norm [.b (gb v1 0)]) fun v2 =>
 .norm [.b (gb v2 0)]) fun v3 =>
 .norm [.b (gb v3 0)]) fun v4 =>
 .norm [.b (gb v4 0)]) fun v5 =>
 .norm [.b (gb v5 0)]) fun v6 =>
 .norm [.b (gb v6 0)]) fun v7 =>
 .norm [.b (gb v7 0)]) fun v8 =>
 .norm [.b (gb v8 0)]) fun v9 =>
 .norm [.b (gb v9 0)]) fun v10 =>
 .norm [.b (gb v10 0)]) fun v11 =>
 .norm [.b (gb v11 0)]) fun v12 =>
 .norm [.b (gb v12 0)]) fun v13 =>
 .norm [.b (gb v13 0)]) fun v14 =>
 .norm [.b (gb v14 0)]) fun v15 =>
 .norm [.b (gb v15 0)]) fun v16 =>
 .norm [.b (gb v16 0)]) fun v17 =>
 .norm [.b (gb v17 0)]) fun v18 =>
 if (gb v18 0)=true then
 .ret [.b true]
 else
 .norm []) 0 fun v19 =>
 .ret [.b false]
theorem j1z a:Kg a=jb6 a:=(jk ju 149 _ a).trans (by kernel_rfl)
noncomputable def j6c (a:List DC):Out :=
 jb ((kg [.s (gs a 0)]).bindR fun r1 =>
 if (gb r1 0)=true then
 (zV [.s (gs a 1)]).bindR fun r2 =>
 if (gb r2 0)=true then
 (JI [.s (gs a 2),.s (gs a 3)]).bindR fun r3 =>
 if (gb r3 0)=true then
 (JW [.b (gb a 4),.i (gi a 5),.s (gs a 6),.sl (gl a 7),.sl (gl a 8)]).bindR fun r4 =>
 if (gb r4 0)=true then
 (pe [.sl (gl a 9)]).bindR fun r5 =>
 .norm [.b (gb r5 0)]
 else
 .norm [.b false]
 else
 .norm [.b false]
 else
 .norm [.b false]
 else
 .norm [.b false]) fun v6 =>
 .ret [.b (gb v6 0)]
theorem jbx a:j1a a=j6c a:=(jk ju 150 _ a).trans (by kernel_rfl)
noncomputable def j2J (a:List DC):Out :=
 (Qm [.i (gi a 0),.s (gs a 1),.sl (gl a 2),.sl (gl a 3)]).bindR fun r1 =>
 .ret [.b (gb r1 0)]
theorem j8s a:V7 a=j2J a:=(jk ju 151 _ a).trans (by kernel_rfl)
noncomputable def yc:List DC → Out:=fun v8 =>
 if (decide ((gi v8 4) < (gi v8 2)))=true then
 ja (if 0 ≤ (IntKind.i64.wrap ((gi v8 1) + (gi v8 4))) ∧ (IntKind.i64.wrap ((gi v8 1) + (gi v8 4))) < ((gs v8 0).length:Int) then
 jb (if (decide ((IntKind.i64.wrap (((gs v8 0).getD (IntKind.i64.wrap ((gi v8 1) + (gi v8 4))).toNat 0).toNat:Int)) < (128:Int)))=true then
 .norm [.s (gs v8 0),.i (gi v8 1),.i (gi v8 2),.i (gi v8 3),.i (gi v8 4),.i (IntKind.i64.wrap (((gs v8 0).getD (IntKind.i64.wrap ((gi v8 1) + (gi v8 4))).toNat 0).toNat:Int)),.b true]
 else
 .norm [.s (gs v8 0),.i (gi v8 1),.i (gi v8 2),.i (gi v8 3),.i (gi v8 4),.i (IntKind.i64.wrap (((gs v8 0).getD (IntKind.i64.wrap ((gi v8 1) + (gi v8 4))).toNat 0).toNat:Int)),.b (decide ((IntKind.i64.wrap (((gs v8 0).getD (IntKind.i64.wrap ((gi v8 1) + (gi v8 4))).toNat 0).toNat:Int)) > (191:Int)))]) fun v9 =>
 if (gb v9 6)=true then
 .ret [.i (-1:Int),.i (0:Int)]
 else
 .norm [.s (gs v9 0),.i (gi v9 1),.i (gi v9 2),.i (IntKind.i64.wrap ((IntKind.i64.wrap ((IntKind.i64.wrap ((gi v9 3) * (64:Int))) + (gi v9 5))) - (128:Int))),.i (gi v9 4)]
 else
 .fail) 2 fun v10 =>
 .norm [.s (gs v10 0),.i (gi v10 1),.i (gi v10 2),.i (gi v10 3),.i (IntKind.i64.wrap ((gi v10 4) + (1:Int)))]
 else
 .ex 1 [.i (gi v8 2),.i (gi v8 3)]
noncomputable def j3S (a:List DC):Out :=
 jb (if (decide ((gi a 1) < (0:Int)))=true then
 .norm [.s (gs a 0),.i (gi a 1),.b true]
 else
 .norm [.s (gs a 0),.i (gi a 1),.b (decide ((gi a 1) ≥ ((gs a 0).length:Int)))]) fun v1 =>
 if (gb v1 2)=true then
 .ret [.i (-1:Int),.i (0:Int)]
 else
 if 0 ≤ (gi v1 1) ∧ (gi v1 1) < ((gs v1 0).length:Int) then
 ja (if (decide ((IntKind.i64.wrap (((gs v1 0).getD (gi v1 1).toNat 0).toNat:Int)) < (128:Int)))=true then
 .ret [.i (IntKind.i64.wrap (((gs v1 0).getD (gi v1 1).toNat 0).toNat:Int)),.i (1:Int)]
 else
 jb (if (decide ((IntKind.i64.wrap (((gs v1 0).getD (gi v1 1).toNat 0).toNat:Int)) ≥ (194:Int)))=true then
 .norm [.s (gs v1 0),.i (gi v1 1),.i (IntKind.i64.wrap (((gs v1 0).getD (gi v1 1).toNat 0).toNat:Int)),.b (decide ((IntKind.i64.wrap (((gs v1 0).getD (gi v1 1).toNat 0).toNat:Int)) < (224:Int)))]
 else
 .norm [.s (gs v1 0),.i (gi v1 1),.i (IntKind.i64.wrap (((gs v1 0).getD (gi v1 1).toNat 0).toNat:Int)),.b false]) fun v2 =>
 jb (if (gb v2 3)=true then
 .norm [.s (gs v2 0),.i (gi v2 1),.i (2:Int),.i (IntKind.i64.wrap ((gi v2 2) - (192:Int)))]
 else
 jb (if (decide ((gi v2 2) ≥ (224:Int)))=true then
 .norm [.s (gs v2 0),.i (gi v2 1),.i (gi v2 2),.b (decide ((gi v2 2) < (240:Int)))]
 else
 .norm [.s (gs v2 0),.i (gi v2 1),.i (gi v2 2),.b false]) fun v3 =>
 jb (if (gb v3 3)=true then
 .norm [.s (gs v3 0),.i (gi v3 1),.i (3:Int),.i (IntKind.i64.wrap ((gi v3 2) - (224:Int)))]
 else
 jb (if (decide ((gi v3 2) ≥ (240:Int)))=true then
 .norm [.s (gs v3 0),.i (gi v3 1),.i (gi v3 2),.b (decide ((gi v3 2) < (245:Int)))]
 else
 .norm [.s (gs v3 0),.i (gi v3 1),.i (gi v3 2),.b false]) fun v4 =>
 if (gb v4 3)=true then
 .norm [.s (gs v4 0),.i (gi v4 1),.i (4:Int),.i (IntKind.i64.wrap ((gi v4 2) - (240:Int)))]
 else
 .ret [.i (-1:Int),.i (0:Int)]) fun v5 =>
 .norm [.s (gs v5 0),.i (gi v5 1),.i (gi v5 2),.i (gi v5 3)]) fun v6 =>
 .norm [.s (gs v6 0),.i (gi v6 1),.i (gi v6 2),.i (gi v6 3)]) 0 fun v7 =>
 if (decide ((IntKind.i64.wrap ((gi v7 1) + (gi v7 2))) > ((gs v7 0).length:Int)))=true then
 .ret [.i (-1:Int),.i (0:Int)]
 else
 ja (jR yc [.s (gs v7 0),.i (gi v7 1),.i (gi v7 2),.i (gi v7 3),.i (1:Int)]) 1 fun v11 =>
 (yV [.i (gi v11 1)]).bindR fun r12 =>
 if (((gs r12 0).length:Int) != (gi v11 0))=true then
 .ret [.i (-1:Int),.i (0:Int)]
 else
 .ret [.i (gi v11 1),.i (gi v11 0)]
 else
 .fail
theorem jaa a:ZX a=j3S a:=(jk ju 152 _ a).trans (by kernel_rfl)
noncomputable def kO:List DC → Out:=fun v1 =>
 if (decide ((gi v1 2) < (gi v1 1)))=true then
 ja (if 115=115 ∧ 0 ≤ (gi v1 2) ∧ (gi v1 2) < ((gl v1 0).length:Int) then
 (Xj [.s ((((gl v1 0).getD (gi v1 2).toNat []).getD 0 d0).ss),.s ((((gl v1 0).getD (gi v1 2).toNat []).getD 1 d0).ss),.s ((((gl v1 0).getD (gi v1 2).toNat []).getD 2 d0).ss),.b ((((gl v1 0).getD (gi v1 2).toNat []).getD 3 d0).bb),.i ((((gl v1 0).getD (gi v1 2).toNat []).getD 4 d0).ii),.s ((((gl v1 0).getD (gi v1 2).toNat []).getD 5 d0).ss),.sl ((((gl v1 0).getD (gi v1 2).toNat []).getD 6 d0).ll),.sl ((((gl v1 0).getD (gi v1 2).toNat []).getD 7 d0).ll),.sl ((((gl v1 0).getD (gi v1 2).toNat []).getD 8 d0).ll)]).bindR fun r2 =>
 if (gb r2 0)=true then
 .ret [.i (gi v1 2)]
 else
 .norm [.sl (gl v1 0),.i (gi v1 1),.i (gi v1 2)]
 else
 .fail) 1 fun v3 =>
 .norm [.sl (gl v3 0),.i (gi v3 1),.i (IntKind.i64.wrap ((gi v3 2) + (1:Int)))]
 else
 .ex 0 []
noncomputable def qm (a:List DC):Out :=
 ja (jR kO [.sl (gl a 0),.i ((gl a 0).length:Int),.i (0:Int)]) 0 fun v4 =>
 .ret [.i (-1:Int)]
theorem zZ a:qj a=qm a:=(jk ju 158 _ a).trans (by kernel_rfl)
noncomputable def q9 (a:List DC):Out :=
 (qo [.sl (gl a 0)]).bindR fun r1 =>
 .ret [.b (decide ((gi r1 0) ≥ (0:Int)))]
theorem zH a:kM a=q9 a:=(jk ju 161 _ a).trans (by kernel_rfl)
noncomputable def px:List DC → Out:=fun v16 =>
 if (decide ((gi v16 3) < (gi v16 2)))=true then
 ja (if 162=162 ∧ 0 ≤ (gi v16 3) ∧ (gi v16 3) < ((gl v16 1).length:Int) then
 (po [.i ((((gl v16 1).getD (gi v16 3).toNat []).getD 0 d0).ii),.s ((((gl v16 1).getD (gi v16 3).toNat []).getD 1 d0).ss),.s ((((gl v16 1).getD (gi v16 3).toNat []).getD 2 d0).ss),.s ((((gl v16 1).getD (gi v16 3).toNat []).getD 3 d0).ss),.sl ((((gl v16 1).getD (gi v16 3).toNat []).getD 4 d0).ll),.sl ((((gl v16 1).getD (gi v16 3).toNat []).getD 5 d0).ll),.sl ((((gl v16 1).getD (gi v16 3).toNat []).getD 6 d0).ll),.i (IntKind.i64.wrap ((gi v16 0) - (1:Int))),.i (gi v16 4)]).bindR fun r17 =>
 if (!(gb r17 0))=true then
 .ret [.b false,.i (gi r17 1)]
 else
 .norm [.i (gi v16 0),.sl (gl v16 1),.i (gi v16 2),.i (gi v16 3),.i (gi r17 1)]
 else
 .fail) 2 fun v18 =>
 .norm [.i (gi v18 0),.sl (gl v18 1),.i (gi v18 2),.i (IntKind.i64.wrap ((gi v18 3) + (1:Int))),.i (gi v18 4)]
 else
 .ex 1 [.i (gi v16 4)]
noncomputable def Zf (a:List DC):Out :=
 jb (if (decide ((IntKind.i64.wrap ((gi a 8) - (1:Int))) < (0:Int)))=true then
 .norm [.i (gi a 7),.b true,.i (IntKind.i64.wrap ((gi a 8) - (1:Int))),.i (gi a 0),.s (gs a 1),.s (gs a 2),.s (gs a 3),.sl (gl a 4),.sl (gl a 5),.sl (gl a 6)]
 else
 if ((gi a 7) == (0:Int))=true then
 .norm [.i (gi a 7),.b true,.i (IntKind.i64.wrap ((gi a 8) - (1:Int))),.i (gi a 0),.s (gs a 1),.s (gs a 2),.s (gs a 3),.sl (gl a 4),.sl (gl a 5),.sl (gl a 6)]
 else
 (yp [.sl (gl a 5)]).bindR fun r1 =>
 .norm [.i (gi a 7),.b (!(gb r1 0)),.i (IntKind.i64.wrap ((gi a 8) - (1:Int))),.i (gi a 0),.s (gs a 1),.s (gs a 2),.s (gs a 3),.sl (gl a 4),.sl (gl a 5),.sl (gl a 6)]) fun v2 =>
 if (gb v2 1)=true then
 .ret [.b false,.i (gi v2 2)]
 else
 ja (jb (if ((gi v2 3) == (1:Int))=true then
 jb ((ki [.s (gs v2 5)]).bindR fun r3 =>
 if (gb r3 0)=true then
 if ((gs v2 4) == ([]:List UInt8))=true then
 if ((gs v2 6) == ([]:List UInt8))=true then
 (JO [.sl (gl v2 7)]).bindR fun r4 =>
 .norm [.i (gi v2 0),.b (gb r4 0),.i (gi v2 2),.i (gi v2 3),.s (gs v2 4),.s (gs v2 5),.s (gs v2 6),.sl (gl v2 7),.sl (gl v2 8),.sl (gl v2 9)]
 else
 .norm [.i (gi v2 0),.b false,.i (gi v2 2),.i (gi v2 3),.s (gs v2 4),.s (gs v2 5),.s (gs v2 6),.sl (gl v2 7),.sl (gl v2 8),.sl (gl v2 9)]
 else
 (ki [.s (gs v2 4)]).bindR fun r5 =>
 if (gb r5 0)=true then
 if ((gs v2 6) == ([]:List UInt8))=true then
 (JO [.sl (gl v2 7)]).bindR fun r6 =>
 .norm [.i (gi v2 0),.b (gb r6 0),.i (gi v2 2),.i (gi v2 3),.s (gs v2 4),.s (gs v2 5),.s (gs v2 6),.sl (gl v2 7),.sl (gl v2 8),.sl (gl v2 9)]
 else
 .norm [.i (gi v2 0),.b false,.i (gi v2 2),.i (gi v2 3),.s (gs v2 4),.s (gs v2 5),.s (gs v2 6),.sl (gl v2 7),.sl (gl v2 8),.sl (gl v2 9)]
 else
 .norm [.i (gi v2 0),.b false,.i (gi v2 2),.i (gi v2 3),.s (gs v2 4),.s (gs v2 5),.s (gs v2 6),.sl (gl v2 7),.sl (gl v2 8),.sl (gl v2 9)]
 else
 .norm [.i (gi v2 0),.b false,.i (gi v2 2),.i (gi v2 3),.s (gs v2 4),.s (gs v2 5),.s (gs v2 6),.sl (gl v2 7),.sl (gl v2 8),.sl (gl v2 9)]) fun v7 =>
 .norm [.i (gi v7 0),.b (gb v7 1),.i (gi v7 2),.i (gi v7 3),.s (gs v7 4),.s (gs v7 5),.s (gs v7 6),.sl (gl v7 7),.sl (gl v7 8),.sl (gl v7 9)]
 else
 jb (if ((gi v2 3) == (2:Int))=true then
 jb ((ki [.s (gs v2 5)]).bindR fun r8 =>
 if (gb r8 0)=true then
 if (!((gs v2 5) == ([111,110]:List UInt8)))=true then
 if ((gs v2 4) == ([]:List UInt8))=true then
 if ((gs v2 6) == ([]:List UInt8))=true then
 if (((gl v2 7).length:Int) == (0:Int))=true then
 .norm [.i (gi v2 0),.b (((gl v2 9).length:Int) == (0:Int)),.i (gi v2 2),.i (gi v2 3),.s (gs v2 4),.s (gs v2 5),.s (gs v2 6),.sl (gl v2 7),.sl (gl v2 8),.sl (gl v2 9)]
 else
 .norm [.i (gi v2 0),.b false,.i (gi v2 2),.i (gi v2 3),.s (gs v2 4),.s (gs v2 5),.s (gs v2 6),.sl (gl v2 7),.sl (gl v2 8),.sl (gl v2 9)]
 else
 .norm [.i (gi v2 0),.b false,.i (gi v2 2),.i (gi v2 3),.s (gs v2 4),.s (gs v2 5),.s (gs v2 6),.sl (gl v2 7),.sl (gl v2 8),.sl (gl v2 9)]
 else
 .norm [.i (gi v2 0),.b false,.i (gi v2 2),.i (gi v2 3),.s (gs v2 4),.s (gs v2 5),.s (gs v2 6),.sl (gl v2 7),.sl (gl v2 8),.sl (gl v2 9)]
 else
 .norm [.i (gi v2 0),.b false,.i (gi v2 2),.i (gi v2 3),.s (gs v2 4),.s (gs v2 5),.s (gs v2 6),.sl (gl v2 7),.sl (gl v2 8),.sl (gl v2 9)]
 else
 .norm [.i (gi v2 0),.b false,.i (gi v2 2),.i (gi v2 3),.s (gs v2 4),.s (gs v2 5),.s (gs v2 6),.sl (gl v2 7),.sl (gl v2 8),.sl (gl v2 9)]) fun v9 =>
 .norm [.i (gi v9 0),.b (gb v9 1),.i (gi v9 2),.i (gi v9 3),.s (gs v9 4),.s (gs v9 5),.s (gs v9 6),.sl (gl v9 7),.sl (gl v9 8),.sl (gl v9 9)]
 else
 jb (if ((gi v2 3) == (3:Int))=true then
 jb (if ((gs v2 5) == ([]:List UInt8))=true then
 if ((gs v2 4) == ([]:List UInt8))=true then
 if ((gs v2 6) == ([]:List UInt8))=true then
 if (((gl v2 7).length:Int) == (0:Int))=true then
 .norm [.i (gi v2 0),.b (decide (((gl v2 9).length:Int) > (0:Int))),.i (gi v2 2),.i (gi v2 3),.s (gs v2 4),.s (gs v2 5),.s (gs v2 6),.sl (gl v2 7),.sl (gl v2 8),.sl (gl v2 9)]
 else
 .norm [.i (gi v2 0),.b false,.i (gi v2 2),.i (gi v2 3),.s (gs v2 4),.s (gs v2 5),.s (gs v2 6),.sl (gl v2 7),.sl (gl v2 8),.sl (gl v2 9)]
 else
 (ki [.s (gs v2 6)]).bindR fun r10 =>
 if (gb r10 0)=true then
 if (((gl v2 7).length:Int) == (0:Int))=true then
 .norm [.i (gi v2 0),.b (decide (((gl v2 9).length:Int) > (0:Int))),.i (gi v2 2),.i (gi v2 3),.s (gs v2 4),.s (gs v2 5),.s (gs v2 6),.sl (gl v2 7),.sl (gl v2 8),.sl (gl v2 9)]
 else
 .norm [.i (gi v2 0),.b false,.i (gi v2 2),.i (gi v2 3),.s (gs v2 4),.s (gs v2 5),.s (gs v2 6),.sl (gl v2 7),.sl (gl v2 8),.sl (gl v2 9)]
 else
 .norm [.i (gi v2 0),.b false,.i (gi v2 2),.i (gi v2 3),.s (gs v2 4),.s (gs v2 5),.s (gs v2 6),.sl (gl v2 7),.sl (gl v2 8),.sl (gl v2 9)]
 else
 .norm [.i (gi v2 0),.b false,.i (gi v2 2),.i (gi v2 3),.s (gs v2 4),.s (gs v2 5),.s (gs v2 6),.sl (gl v2 7),.sl (gl v2 8),.sl (gl v2 9)]
 else
 .norm [.i (gi v2 0),.b false,.i (gi v2 2),.i (gi v2 3),.s (gs v2 4),.s (gs v2 5),.s (gs v2 6),.sl (gl v2 7),.sl (gl v2 8),.sl (gl v2 9)]) fun v11 =>
 .norm [.i (gi v11 0),.b (gb v11 1),.i (gi v11 2),.i (gi v11 3),.s (gs v11 4),.s (gs v11 5),.s (gs v11 6),.sl (gl v11 7),.sl (gl v11 8),.sl (gl v11 9)]
 else
 .norm [.i (gi v2 0),.b false,.i (gi v2 2),.i (gi v2 3),.s (gs v2 4),.s (gs v2 5),.s (gs v2 6),.sl (gl v2 7),.sl (gl v2 8),.sl (gl v2 9)]) fun v12 =>
 .norm [.i (gi v12 0),.b (gb v12 1),.i (gi v12 2),.i (gi v12 3),.s (gs v12 4),.s (gs v12 5),.s (gs v12 6),.sl (gl v12 7),.sl (gl v12 8),.sl (gl v12 9)]) fun v13 =>
 .norm [.i (gi v13 0),.b (gb v13 1),.i (gi v13 2),.i (gi v13 3),.s (gs v13 4),.s (gs v13 5),.s (gs v13 6),.sl (gl v13 7),.sl (gl v13 8),.sl (gl v13 9)]) fun v14 =>
 .norm [.i (gi v14 0),.b (gb v14 1),.i (gi v14 2),.i (gi v14 3),.s (gs v14 4),.s (gs v14 5),.s (gs v14 6),.sl (gl v14 7),.sl (gl v14 8),.sl (gl v14 9)]) 0 fun v15 =>
 if (!(gb v15 1))=true then
 .ret [.b false,.i (gi v15 2)]
 else
 ja (jR px [.i (gi v15 0),.sl (gl v15 9),.i ((gl v15 9).length:Int),.i (0:Int),.i (gi v15 2)]) 1 fun v19 =>
 .ret [.b true,.i (gi v19 0)]
theorem j3t a:po a=Zf a:=(jk ju 164 _ a).trans (by kernel_rfl)
noncomputable def j1W (a:List DC):Out :=
 jb (if (decide ((gi a 0) ≥ (48:Int)))=true then
 .norm [.b (decide ((gi a 0) ≤ (57:Int)))]
 else
 .norm [.b false]) fun v1 =>
 .ret [.b (gb v1 0)]
theorem j7b a:Jz a=j1W a:=(jk ju 156 _ a).trans (by kernel_rfl)
noncomputable def j4k (a:List DC):Out :=
 jb ((XR [.i (gi a 0)]).bindR fun r1 =>
 if (gb r1 0)=true then
 .norm [.b true]
 else
 (Jz [.i (gi a 0)]).bindR fun r2 =>
 if (gb r2 0)=true then
 .norm [.b true]
 else
 .norm [.b ((gi a 0) == (95:Int))]) fun v3 =>
 .ret [.b (gb v3 0)]
theorem jaE a:j06 a=j4k a:=(jk ju 157 _ a).trans (by kernel_rfl)
noncomputable def pJ (a:List DC):Out :=
 (qc [.sl (gl a 0)]).bindR fun r1 =>
 .ret [.b (decide ((gi r1 0) ≥ (0:Int)))]
theorem yS a:kC a=pJ a:=(jk ju 165 _ a).trans (by kernel_rfl)
noncomputable def zv:List DC → Out:=fun v2 =>
 if (decide ((gi v2 5) < (gi v2 4)))=true then
 ja (if 162=162 ∧ 0 ≤ (gi v2 5) ∧ (gi v2 5) < ((gl v2 3).length:Int) then
 (YQ [.i ((((gl v2 3).getD (gi v2 5).toNat []).getD 0 d0).ii),.s ((((gl v2 3).getD (gi v2 5).toNat []).getD 1 d0).ss),.s ((((gl v2 3).getD (gi v2 5).toNat []).getD 2 d0).ss),.s ((((gl v2 3).getD (gi v2 5).toNat []).getD 3 d0).ss),.sl ((((gl v2 3).getD (gi v2 5).toNat []).getD 4 d0).ll),.sl ((((gl v2 3).getD (gi v2 5).toNat []).getD 5 d0).ll),.sl ((((gl v2 3).getD (gi v2 5).toNat []).getD 6 d0).ll)]).bindR fun r3 =>
 if (gs v2 1).length + (gs r3 0).length < jF then
 if (gs v2 2).length + ((gs v2 1) ++ (gs r3 0)).length < jF then
 jb (if (decide ((((((gl v2 3).getD (gi v2 5).toNat []).getD 6 d0).ll).length:Int) > (0:Int)))=true then
 (yW [.sl ((((gl v2 3).getD (gi v2 5).toNat []).getD 6 d0).ll),.i (IntKind.i64.wrap ((gi v2 0) + (1:Int)))]).bindR fun r4 =>
 if ([32,123,10]:List UInt8).length + (gs r4 0).length < jF then
 if (([32,123,10]:List UInt8) ++ (gs r4 0)).length + (gs v2 1).length < jF then
 if ((([32,123,10]:List UInt8) ++ (gs r4 0)) ++ (gs v2 1)).length + ([125]:List UInt8).length < jF then
 if ((gs v2 2) ++ ((gs v2 1) ++ (gs r3 0))).length + (((([32,123,10]:List UInt8) ++ (gs r4 0)) ++ (gs v2 1)) ++ ([125]:List UInt8)).length < jF then
 .norm [.i (gi v2 0),.s (gs v2 1),.s (((gs v2 2) ++ ((gs v2 1) ++ (gs r3 0))) ++ (((([32,123,10]:List UInt8) ++ (gs r4 0)) ++ (gs v2 1)) ++ ([125]:List UInt8))),.sl (gl v2 3),.i (gi v2 4),.i (gi v2 5)]
 else
 .fail
 else
 .fail
 else
 .fail
 else
 .fail
 else
 .norm [.i (gi v2 0),.s (gs v2 1),.s ((gs v2 2) ++ ((gs v2 1) ++ (gs r3 0))),.sl (gl v2 3),.i (gi v2 4),.i (gi v2 5)]) fun v5 =>
 if (gs v5 2).length + ([10]:List UInt8).length < jF then
 .norm [.i (gi v5 0),.s (gs v5 1),.s ((gs v5 2) ++ ([10]:List UInt8)),.sl (gl v5 3),.i (gi v5 4),.i (gi v5 5)]
 else
 .fail
 else
 .fail
 else
 .fail
 else
 .fail) 1 fun v6 =>
 .norm [.i (gi v6 0),.s (gs v6 1),.s (gs v6 2),.sl (gl v6 3),.i (gi v6 4),.i (IntKind.i64.wrap ((gi v6 5) + (1:Int)))]
 else
 .ex 0 [.s (gs v2 2)]
noncomputable def j1U (a:List DC):Out :=
 (VT [.s ([32,32]:List UInt8),.i (gi a 1)]).bindR fun r1 =>
 ja (jR zv [.i (gi a 1),.s (gs r1 0),.s ([]:List UInt8),.sl (gl a 0),.i ((gl a 0).length:Int),.i (0:Int)]) 0 fun v7 =>
 .ret [.s (gs v7 0)]
theorem j79 a:yW a=j1U a:=(jk ju 168 _ a).trans (by kernel_rfl)
noncomputable def j2F (a:List DC):Out:=match KZ [.s,.s] [.s] jco Vt a with | some r=>.ret r | none=>.fail
theorem j8n a:YL a=j2F a:=(jk ju 169 Vt a).trans (by kernel_rfl)
noncomputable def Z7 (a:List DC):Out:=match KZ [.s,.s] [.b] YC Jn a with | some r=>.ret r | none=>.fail
theorem j3m a:QC a=Z7 a:=(jk ju 170 Jn a).trans (by kernel_rfl)
noncomputable def j2Z (a:List DC):Out :=
 (Ki [.i (gi a 0),.s (gs a 1),.sl (gl a 2),.sl (gl a 3),.i (10:Int)]).bindR fun r1 =>
 .ret [.b (gb r1 0)]
theorem j8M a:Kj a=j2Z a:=(jk ju 171 _ a).trans (by kernel_rfl)
noncomputable def kS:List DC → Out:=fun v1 =>
 if (decide ((gi v1 3) < (gi v1 2)))=true then
 ja (if 102=102 ∧ 0 ≤ (gi v1 3) ∧ (gi v1 3) < ((gl v1 1).length:Int) then
 (zd [.i ((((gl v1 1).getD (gi v1 3).toNat []).getD 0 d0).ii),.s ((((gl v1 1).getD (gi v1 3).toNat []).getD 1 d0).ss),.sl ((((gl v1 1).getD (gi v1 3).toNat []).getD 2 d0).ll),.sl ((((gl v1 1).getD (gi v1 3).toNat []).getD 3 d0).ll)]).bindR fun r2 =>
 jb (if ((gi v1 4) == (8:Int))=true then
 if 9=9 ∧ 0 ≤ (gi v1 3) ∧ (gi v1 3) < ((gl v1 7).length:Int) then
 if ((((gl v1 7).getD (gi v1 3).toNat []).getD 0 d0).ss).length + ([58,32]:List UInt8).length < jF then
 if (((((gl v1 7).getD (gi v1 3).toNat []).getD 0 d0).ss) ++ ([58,32]:List UInt8)).length + (gs r2 0).length < jF then
 .norm [.sl (gl v1 0),.s ((((((gl v1 7).getD (gi v1 3).toNat []).getD 0 d0).ss) ++ ([58,32]:List UInt8)) ++ (gs r2 0)),.sl (gl v1 1),.i (gi v1 2),.i (gi v1 3),.i (gi v1 4),.s (gs v1 5),.sl (gl v1 6),.sl (gl v1 7)]
 else
 .fail
 else
 .fail
 else
 .fail
 else
 .norm [.sl (gl v1 0),.s (gs r2 0),.sl (gl v1 1),.i (gi v1 2),.i (gi v1 3),.i (gi v1 4),.s (gs v1 5),.sl (gl v1 6),.sl (gl v1 7)]) fun v3 =>
 if (gl v3 0).length + [[DC.s (gs v3 1)]].length < jF then
 .norm [.sl ((gl v3 0) ++ [[DC.s (gs v3 1)]]),.sl (gl v3 2),.i (gi v3 3),.i (gi v3 4),.i (gi v3 5),.s (gs v3 6),.sl (gl v3 7),.sl (gl v3 8)]
 else
 .fail
 else
 .fail) 1 fun v4 =>
 .norm [.sl (gl v4 0),.sl (gl v4 1),.i (gi v4 2),.i (IntKind.i64.wrap ((gi v4 3) + (1:Int))),.i (gi v4 4),.s (gs v4 5),.sl (gl v4 6),.sl (gl v4 7)]
 else
 .ex 0 [.sl (gl v1 0),.i (gi v1 4),.s (gs v1 5),.sl (gl v1 6),.sl (gl v1 7)]
noncomputable def y8 (a:List DC):Out :=
 ja (jR kS [.sl [],.sl (gl a 2),.i ((gl a 2).length:Int),.i (0:Int),.i (gi a 0),.s (gs a 1),.sl (gl a 2),.sl (gl a 3)]) 0 fun v5 =>
 (pn [.sl (gl v5 0),.s ([44,32]:List UInt8)]).bindR fun r6 =>
 ja (if ((gi v5 1) == (1:Int))=true then
 if ([36]:List UInt8).length + (gs v5 2).length < jF then
 .ret [.s (([36]:List UInt8) ++ (gs v5 2))]
 else
 .fail
 else
 if ((gi v5 1) == (4:Int))=true then
 (yC [.s (gs v5 2)]).bindR fun r7 =>
 .ret [.s (gs r7 0)]
 else
 if ((gi v5 1) == (7:Int))=true then
 if ([91]:List UInt8).length + (gs r6 0).length < jF then
 if (([91]:List UInt8) ++ (gs r6 0)).length + ([93]:List UInt8).length < jF then
 .ret [.s ((([91]:List UInt8) ++ (gs r6 0)) ++ ([93]:List UInt8))]
 else
 .fail
 else
 .fail
 else
 if ((gi v5 1) == (8:Int))=true then
 if ([123]:List UInt8).length + (gs r6 0).length < jF then
 if (([123]:List UInt8) ++ (gs r6 0)).length + ([125]:List UInt8).length < jF then
 .ret [.s ((([123]:List UInt8) ++ (gs r6 0)) ++ ([125]:List UInt8))]
 else
 .fail
 else
 .fail
 else
 .norm [.i (gi v5 1),.s (gs v5 2),.sl (gl v5 3),.sl (gl v5 4)]) 2 fun v8 =>
 .ret [.s (gs v8 1)]
theorem j4N a:zd a=y8 a:=(jk ju 172 _ a).trans (by kernel_rfl)
noncomputable def j4t (a:List DC):Out :=
 (kN [.sl (gl a 0)]).bindR fun r1 =>
 .ret [.b (!(gb r1 0))]
theorem jaQ a:JO a=j4t a:=(jk ju 163 _ a).trans (by kernel_rfl)
noncomputable def pm (a:List DC):Out :=
 (pz [.sl (gl a 0)]).bindR fun r1 =>
 .ret [.b (decide ((gi r1 0) ≥ (0:Int)))]
theorem yl a:kv a=pm a:=(jk ju 175 _ a).trans (by kernel_rfl)
noncomputable def j6s (a:List DC):Out :=
 (kI [.sl (gl a 0)]).bindR fun r1 =>
 .ret [.b (!(gb r1 0))]
theorem jbO a:Yq a=j6s a:=(jk ju 178 _ a).trans (by kernel_rfl)
noncomputable def pq (a:List DC):Out :=
 (pF [.sl (gl a 0)]).bindR fun r1 =>
 .ret [.b (decide ((gi r1 0) ≥ (0:Int)))]
theorem yr a:kw a=pq a:=(jk ju 179 _ a).trans (by kernel_rfl)
noncomputable def pK (a:List DC):Out :=
 (qd [.sl (gl a 0)]).bindR fun r1 =>
 .ret [.b (decide ((gi r1 0) ≥ (0:Int)))]
theorem yT a:kD a=pK a:=(jk ju 182 _ a).trans (by kernel_rfl)
noncomputable def qi (a:List DC):Out :=
 (qE [.sl (gl a 0)]).bindR fun r1 =>
 .ret [.b (decide ((gi r1 0) ≥ (0:Int)))]
theorem zP a:kW a=qi a:=(jk ju 126 _ a).trans (by kernel_rfl)
noncomputable def j11 (a:List DC):Out :=
 jb ((yp [.sl (gl a 0)]).bindR fun r1 =>
 if (gb r1 0)=true then
 (kf [.sl (gl a 0)]).bindR fun r2 =>
 .norm [.b (!(gb r2 0))]
 else
 .norm [.b false]) fun v3 =>
 .ret [.b (gb v3 0)]
theorem j5S a:qM a=j11 a:=(jk ju 160 _ a).trans (by kernel_rfl)
noncomputable def pd:List DC → Out:=fun v1 =>
 if (decide ((gi v1 2) < (gi v1 1)))=true then
 ja (if 9=9 ∧ 0 ≤ (gi v1 2) ∧ (gi v1 2) < ((gl v1 0).length:Int) then
 (Vn [.s ((((gl v1 0).getD (gi v1 2).toNat []).getD 0 d0).ss)]).bindR fun r2 =>
 if (gb r2 0)=true then
 .ret [.i (gi v1 2)]
 else
 .norm [.sl (gl v1 0),.i (gi v1 1),.i (gi v1 2)]
 else
 .fail) 1 fun v3 =>
 .norm [.sl (gl v3 0),.i (gi v3 1),.i (IntKind.i64.wrap ((gi v3 2) + (1:Int)))]
 else
 .ex 0 []
noncomputable def qR (a:List DC):Out :=
 ja (jR pd [.sl (gl a 0),.i ((gl a 0).length:Int),.i (0:Int)]) 0 fun v4 =>
 .ret [.i (-1:Int)]
theorem JS a:qP a=qR a:=(jk ju 186 _ a).trans (by kernel_rfl)
noncomputable def j4o (a:List DC):Out :=
 (Ke [.s (gs a 0)]).bindR fun r1 =>
 .ret [.b (gb r1 0)]
theorem jaI a:j08 a=j4o a:=(jk ju 187 _ a).trans (by kernel_rfl)
noncomputable def Ye (a:List DC):Out :=
 (zc [.s (gs a 0),.i (gi a 1)]).bindR fun r1 =>
 .ret [.i (gi r1 0)]
theorem j2A a:Q1 a=Ye a:=(jk ju 188 _ a).trans (by kernel_rfl)
noncomputable def j8e (a:List DC):Out :=
 jb ((ki [.s (gs a 0)]).bindR fun r1 =>
 if (gb r1 0)=true then
 (JM [.s (gs a 1)]).bindR fun r2 =>
 if (gb r2 0)=true then
 (JN [.s (gs a 2),.s (gs a 3)]).bindR fun r3 =>
 if (gb r3 0)=true then
 (KN [.b (gb a 4),.i (gi a 5),.s (gs a 6),.sl (gl a 7),.sl (gl a 8)]).bindR fun r4 =>
 if (gb r4 0)=true then
 (qM [.sl (gl a 9)]).bindR fun r5 =>
 .norm [.b (gb r5 0)]
 else
 .norm [.b false]
 else
 .norm [.b false]
 else
 .norm [.b false]
 else
 .norm [.b false]) fun v6 =>
 .ret [.b (gb v6 0)]
theorem jdE a:Zr a=j8e a:=(jk ju 189 _ a).trans (by kernel_rfl)
noncomputable def j2Y (a:List DC):Out :=
 jb ((ki [.s (gs a 0)]).bindR fun r1 =>
 if (gb r1 0)=true then
 (JM [.s (gs a 1)]).bindR fun r2 =>
 if (gb r2 0)=true then
 (Yq [.sl (gl a 2)]).bindR fun r3 =>
 if (gb r3 0)=true then
 (JN [.s (gs a 3),.s (gs a 4)]).bindR fun r4 =>
 if (gb r4 0)=true then
 (qM [.sl (gl a 5)]).bindR fun r5 =>
 .norm [.b (gb r5 0)]
 else
 .norm [.b false]
 else
 .norm [.b false]
 else
 .norm [.b false]
 else
 .norm [.b false]) fun v6 =>
 .ret [.b (gb v6 0)]
theorem j8K a:Vi a=j2Y a:=(jk ju 177 _ a).trans (by kernel_rfl)
noncomputable def j4b (a:List DC):Out :=
 if (!((gs a 0) == (gs a 2)))=true then
 .ret [.b false]
 else
 if (!((gs a 1) == (gs a 3)))=true then
 .ret [.b false]
 else
 .ret [.b true]
theorem jav a:Qe a=j4b a:=(jk ju 190 _ a).trans (by kernel_rfl)
noncomputable def j2S (a:List DC):Out :=
 if ((gi a 0) != (gi a 4))=true then
 .ret [.b false]
 else
 if (!((gs a 1) == (gs a 5)))=true then
 .ret [.b false]
 else
 (XQ [.sl (gl a 2),.sl (gl a 6)]).bindR fun r1 =>
 if (!(gb r1 0))=true then
 .ret [.b false]
 else
 (KH [.sl (gl a 3),.sl (gl a 7)]).bindR fun r2 =>
 if (!(gb r2 0))=true then
 .ret [.b false]
 else
 .ret [.b true]
theorem j8C a:yB a=j2S a:=(jk ju 191 _ a).trans (by kernel_rfl)
noncomputable def Y9:List DC → Out:=fun v1 =>
 if (decide ((gi v1 2) < ((gl v1 0).length:Int)))=true then
 ja (if 211=211 ∧ 0 ≤ (gi v1 2) ∧ (gi v1 2) < ((gl v1 0).length:Int) then
 if 211=211 ∧ 0 ≤ (gi v1 2) ∧ (gi v1 2) < ((gl v1 1).length:Int) then
 (Yp [.s ((((gl v1 0).getD (gi v1 2).toNat []).getD 0 d0).ss),.i ((((gl v1 0).getD (gi v1 2).toNat []).getD 1 d0).ii),.s ((((gl v1 0).getD (gi v1 2).toNat []).getD 2 d0).ss),.sl ((((gl v1 0).getD (gi v1 2).toNat []).getD 3 d0).ll),.sl ((((gl v1 0).getD (gi v1 2).toNat []).getD 4 d0).ll),.s ((((gl v1 1).getD (gi v1 2).toNat []).getD 0 d0).ss),.i ((((gl v1 1).getD (gi v1 2).toNat []).getD 1 d0).ii),.s ((((gl v1 1).getD (gi v1 2).toNat []).getD 2 d0).ss),.sl ((((gl v1 1).getD (gi v1 2).toNat []).getD 3 d0).ll),.sl ((((gl v1 1).getD (gi v1 2).toNat []).getD 4 d0).ll)]).bindR fun r2 =>
 if (!(gb r2 0))=true then
 .ret [.b false]
 else
 .norm [.sl (gl v1 0),.sl (gl v1 1),.i (gi v1 2)]
 else
 .fail
 else
 .fail) 1 fun v3 =>
 .norm [.sl (gl v3 0),.sl (gl v3 1),.i (IntKind.i64.wrap ((gi v3 2) + (1:Int)))]
 else
 .ex 0 []
noncomputable def j4h (a:List DC):Out :=
 if (((gl a 0).length:Int) != ((gl a 1).length:Int))=true then
 .ret [.b false]
 else
 ja (jR Y9 [.sl (gl a 0),.sl (gl a 1),.i (0:Int)]) 0 fun v4 =>
 .ret [.b true]
theorem jaB a:Qf a=j4h a:=(jk ju 192 _ a).trans (by kernel_rfl)
noncomputable def VG:List DC → Out:=fun v1 =>
 if (decide ((gi v1 2) < ((gl v1 0).length:Int)))=true then
 ja (if 135=135 ∧ 0 ≤ (gi v1 2) ∧ (gi v1 2) < ((gl v1 0).length:Int) then
 (yA [.i ((((gl v1 0).getD (gi v1 2).toNat []).getD 0 d0).ii),.s ((((gl v1 0).getD (gi v1 2).toNat []).getD 1 d0).ss),.sl ((((gl v1 0).getD (gi v1 2).toNat []).getD 2 d0).ll),.sl ((((gl v1 0).getD (gi v1 2).toNat []).getD 3 d0).ll),.i (gi v1 1)]).bindR fun r2 =>
 if (decide ((gi r2 0) < (0:Int)))=true then
 .ret [.i (-1:Int)]
 else
 .norm [.sl (gl v1 0),.i (gi r2 0),.i (gi v1 2)]
 else
 .fail) 1 fun v3 =>
 .norm [.sl (gl v3 0),.i (gi v3 1),.i (IntKind.i64.wrap ((gi v3 2) + (1:Int)))]
 else
 .ex 0 [.i (gi v1 1)]
noncomputable def j1P (a:List DC):Out :=
 if (decide ((IntKind.i64.wrap ((gi a 1) - ((gl a 0).length:Int))) < (0:Int)))=true then
 .ret [.i (-1:Int)]
 else
 ja (jR VG [.sl (gl a 0),.i (IntKind.i64.wrap ((gi a 1) - ((gl a 0).length:Int))),.i (0:Int)]) 0 fun v4 =>
 .ret [.i (gi v4 0)]
theorem j74 a:XP a=j1P a:=(jk ju 193 _ a).trans (by kernel_rfl)
noncomputable def j6n (a:List DC):Out :=
 if (decide ((IntKind.i64.wrap ((gi a 5) - ((gs a 0).length:Int))) < (0:Int)))=true then
 .ret [.i (-1:Int)]
 else
 (yA [.i (gi a 1),.s (gs a 2),.sl (gl a 3),.sl (gl a 4),.i (IntKind.i64.wrap ((gi a 5) - ((gs a 0).length:Int)))]).bindR fun r1 =>
 if (decide ((gi r1 0) < (0:Int)))=true then
 .ret [.i (-1:Int)]
 else
 .ret [.i (gi r1 0)]
theorem jbJ a:Ym a=j6n a:=(jk ju 194 _ a).trans (by kernel_rfl)
noncomputable def VE:List DC → Out:=fun v1 =>
 if (decide ((gi v1 2) < ((gl v1 0).length:Int)))=true then
 ja (if 135=135 ∧ 0 ≤ (gi v1 2) ∧ (gi v1 2) < ((gl v1 0).length:Int) then
 (yz [.i ((((gl v1 0).getD (gi v1 2).toNat []).getD 0 d0).ii),.s ((((gl v1 0).getD (gi v1 2).toNat []).getD 1 d0).ss),.sl ((((gl v1 0).getD (gi v1 2).toNat []).getD 2 d0).ll),.sl ((((gl v1 0).getD (gi v1 2).toNat []).getD 3 d0).ll)]).bindR fun r2 =>
 if 102=102 ∧ 0 ≤ (gi v1 2) ∧ (gi v1 2) < ((gl v1 1).length:Int) then
 .norm [.sl (gl v1 0),.sl ((gl v1 1).set ((gi v1 2).toNat) (pS ((gl v1 1).getD ((gi v1 2).toNat) []) 0 [DC.i (gi r2 0),DC.s (gs r2 1),DC.sl (gl r2 2),DC.sl (gl r2 3)])),.i (gi v1 2)]
 else
 .fail
 else
 .fail) 1 fun v3 =>
 .norm [.sl (gl v3 0),.sl (gl v3 1),.i (IntKind.i64.wrap ((gi v3 2) + (1:Int)))]
 else
 .ex 0 [.sl (gl v1 1)]
noncomputable def j1M (a:List DC):Out :=
 if 0 ≤ ((gl a 0).length:Int) ∧ ((gl a 0).length:Int) < (jF:Int) ∧ ((gl a 0).length:Int)=((gl a 0).length:Int) ∧ 72 ≤ 1024 ∧ 0 < 4 then
 ja (jR VE [.sl (gl a 0),.sl (List.replicate ((gl a 0).length:Int).toNat [DC.i 0,DC.s [],DC.sl [],DC.sl []]),.i (0:Int)]) 0 fun v4 =>
 .ret [.sl (gl v4 0)]
 else
 .fail
theorem j71 a:XO a=j1M a:=(jk ju 200 _ a).trans (by kernel_rfl)
noncomputable def j6j (a:List DC):Out :=
 (yz [.i (gi a 1),.s (gs a 2),.sl (gl a 3),.sl (gl a 4)]).bindR fun r1 =>
 .ret [.s (gs a 0),.i (gi r1 0),.s (gs r1 1),.sl (gl r1 2),.sl (gl r1 3)]
theorem jbF a:Yj a=j6j a:=(jk ju 201 _ a).trans (by kernel_rfl)
noncomputable def j2I (a:List DC):Out :=
 (ya [.i (gi a 0),.s (gs a 1),.sl (gl a 2),.sl (gl a 3),.i (10:Int)]).bindR fun r1 =>
 .ret [.b (gb r1 0)]
theorem j8r a:V6 a=j2I a:=(jk ju 195 _ a).trans (by kernel_rfl)
noncomputable def QJ:List DC → Out:=fun v2 =>
 if (decide ((gi v2 0) < ((gl v2 4).length:Int)))=true then
 ja (if 9=9 ∧ 0 ≤ (gi v2 0) ∧ (gi v2 0) < ((gl v2 4).length:Int) then
 if 9=9 ∧ 0 ≤ (gi v2 0) ∧ (gi v2 0) < ((gl v2 8).length:Int) then
 if (!((((gl v2 4).getD (gi v2 0).toNat []).getD 0 d0).ss == (((gl v2 8).getD (gi v2 0).toNat []).getD 0 d0).ss))=true then
 .ret [.b false]
 else
 .norm [.i (gi v2 0),.i (gi v2 1),.s (gs v2 2),.sl (gl v2 3),.sl (gl v2 4),.i (gi v2 5),.s (gs v2 6),.sl (gl v2 7),.sl (gl v2 8)]
 else
 .fail
 else
 .fail) 1 fun v3 =>
 .norm [.i (IntKind.i64.wrap ((gi v3 0) + (1:Int))),.i (gi v3 1),.s (gs v3 2),.sl (gl v3 3),.sl (gl v3 4),.i (gi v3 5),.s (gs v3 6),.sl (gl v3 7),.sl (gl v3 8)]
 else
 .ex 0 [.i (gi v2 1),.s (gs v2 2),.sl (gl v2 3),.sl (gl v2 4),.i (gi v2 5),.s (gs v2 6),.sl (gl v2 7),.sl (gl v2 8)]
noncomputable def QI:List DC → Out:=fun v5 =>
 if (decide ((gi v5 0) < ((gl v5 3).length:Int)))=true then
 ja (if 102=102 ∧ 0 ≤ (gi v5 0) ∧ (gi v5 0) < ((gl v5 3).length:Int) then
 if 102=102 ∧ 0 ≤ (gi v5 0) ∧ (gi v5 0) < ((gl v5 7).length:Int) then
 (Ky [.i ((((gl v5 3).getD (gi v5 0).toNat []).getD 0 d0).ii),.s ((((gl v5 3).getD (gi v5 0).toNat []).getD 1 d0).ss),.sl ((((gl v5 3).getD (gi v5 0).toNat []).getD 2 d0).ll),.sl ((((gl v5 3).getD (gi v5 0).toNat []).getD 3 d0).ll),.i ((((gl v5 7).getD (gi v5 0).toNat []).getD 0 d0).ii),.s ((((gl v5 7).getD (gi v5 0).toNat []).getD 1 d0).ss),.sl ((((gl v5 7).getD (gi v5 0).toNat []).getD 2 d0).ll),.sl ((((gl v5 7).getD (gi v5 0).toNat []).getD 3 d0).ll)]).bindR fun r6 =>
 if (!(gb r6 0))=true then
 .ret [.b false]
 else
 .norm [.i (gi v5 0),.i (gi v5 1),.s (gs v5 2),.sl (gl v5 3),.sl (gl v5 4),.i (gi v5 5),.s (gs v5 6),.sl (gl v5 7),.sl (gl v5 8)]
 else
 .fail
 else
 .fail) 3 fun v7 =>
 .norm [.i (IntKind.i64.wrap ((gi v7 0) + (1:Int))),.i (gi v7 1),.s (gs v7 2),.sl (gl v7 3),.sl (gl v7 4),.i (gi v7 5),.s (gs v7 6),.sl (gl v7 7),.sl (gl v7 8)]
 else
 .ex 2 []
noncomputable def j0J (a:List DC):Out :=
 jb (if ((gi a 0) != (gi a 4))=true then
 .norm [.b true,.i (gi a 0),.s (gs a 1),.sl (gl a 2),.sl (gl a 3),.i (gi a 4),.s (gs a 5),.sl (gl a 6),.sl (gl a 7)]
 else
 if (!((gs a 1) == (gs a 5)))=true then
 .norm [.b true,.i (gi a 0),.s (gs a 1),.sl (gl a 2),.sl (gl a 3),.i (gi a 4),.s (gs a 5),.sl (gl a 6),.sl (gl a 7)]
 else
 if (((gl a 2).length:Int) != ((gl a 6).length:Int))=true then
 .norm [.b true,.i (gi a 0),.s (gs a 1),.sl (gl a 2),.sl (gl a 3),.i (gi a 4),.s (gs a 5),.sl (gl a 6),.sl (gl a 7)]
 else
 .norm [.b (((gl a 3).length:Int) != ((gl a 7).length:Int)),.i (gi a 0),.s (gs a 1),.sl (gl a 2),.sl (gl a 3),.i (gi a 4),.s (gs a 5),.sl (gl a 6),.sl (gl a 7)]) fun v1 =>
 if (gb v1 0)=true then
 .ret [.b false]
 else
 ja (jR QJ [.i (0:Int),.i (gi v1 1),.s (gs v1 2),.sl (gl v1 3),.sl (gl v1 4),.i (gi v1 5),.s (gs v1 6),.sl (gl v1 7),.sl (gl v1 8)]) 0 fun v4 =>
 ja (jR QI [.i (0:Int),.i (gi v4 0),.s (gs v4 1),.sl (gl v4 2),.sl (gl v4 3),.i (gi v4 4),.s (gs v4 5),.sl (gl v4 6),.sl (gl v4 7)]) 2 fun v8 =>
 .ret [.b true]
theorem j5A a:Ky a=j0J a:=(jk ju 196 _ a).trans (by kernel_rfl)
noncomputable def j1D (a:List DC):Out :=
 ja (if ((gi a 0) == (1:Int))=true then
 jb ((kg [.s (gs a 2)]).bindR fun r1 =>
 if (gb r1 0)=true then
 if ((gs a 1) == ([]:List UInt8))=true then
 .norm [.b ((gs a 3) == ([]:List UInt8))]
 else
 (kg [.s (gs a 1)]).bindR fun r2 =>
 if (gb r2 0)=true then
 .norm [.b ((gs a 3) == ([]:List UInt8))]
 else
 .norm [.b false]
 else
 .norm [.b false]) fun v3 =>
 .ret [.b (gb v3 0)]
 else
 if ((gi a 0) == (2:Int))=true then
 jb ((kg [.s (gs a 2)]).bindR fun r4 =>
 if (gb r4 0)=true then
 if (!((gs a 2) == ([111,110]:List UInt8)))=true then
 if ((gs a 1) == ([]:List UInt8))=true then
 if ((gs a 3) == ([]:List UInt8))=true then
 if (((gl a 4).length:Int) == (0:Int))=true then
 .norm [.b (((gl a 6).length:Int) == (0:Int))]
 else
 .norm [.b false]
 else
 .norm [.b false]
 else
 .norm [.b false]
 else
 .norm [.b false]
 else
 .norm [.b false]) fun v5 =>
 .ret [.b (gb v5 0)]
 else
 if ((gi a 0) == (3:Int))=true then
 jb (if ((gs a 2) == ([]:List UInt8))=true then
 if ((gs a 1) == ([]:List UInt8))=true then
 if ((gs a 3) == ([]:List UInt8))=true then
 if (((gl a 4).length:Int) == (0:Int))=true then
 .norm [.b (decide (((gl a 6).length:Int) > (0:Int)))]
 else
 .norm [.b false]
 else
 (kg [.s (gs a 3)]).bindR fun r6 =>
 if (gb r6 0)=true then
 if (((gl a 4).length:Int) == (0:Int))=true then
 .norm [.b (decide (((gl a 6).length:Int) > (0:Int)))]
 else
 .norm [.b false]
 else
 .norm [.b false]
 else
 .norm [.b false]
 else
 .norm [.b false]) fun v7 =>
 .ret [.b (gb v7 0)]
 else
 .norm []) 0 fun v8 =>
 .ret [.b false]
theorem j6R a:XK a=j1D a:=(jk ju 197 _ a).trans (by kernel_rfl)
noncomputable def Vy:List DC → Out:=fun v1 =>
 if (decide ((gi v1 0) < ((gl v1 3).length:Int)))=true then
 ja (if 102=102 ∧ 0 ≤ (gi v1 0) ∧ (gi v1 0) < ((gl v1 3).length:Int) then
 (Qm [.i ((((gl v1 3).getD (gi v1 0).toNat []).getD 0 d0).ii),.s ((((gl v1 3).getD (gi v1 0).toNat []).getD 1 d0).ss),.sl ((((gl v1 3).getD (gi v1 0).toNat []).getD 2 d0).ll),.sl ((((gl v1 3).getD (gi v1 0).toNat []).getD 3 d0).ll)]).bindR fun r2 =>
 if (!(gb r2 0))=true then
 .ret [.b false]
 else
 .norm [.i (gi v1 0),.i (gi v1 1),.s (gs v1 2),.sl (gl v1 3),.sl (gl v1 4)]
 else
 .fail) 1 fun v3 =>
 .norm [.i (IntKind.i64.wrap ((gi v3 0) + (1:Int))),.i (gi v3 1),.s (gs v3 2),.sl (gl v3 3),.sl (gl v3 4)]
 else
 .ex 0 [.i (gi v1 1),.s (gs v1 2),.sl (gl v1 3),.sl (gl v1 4)]
noncomputable def j1G (a:List DC):Out :=
 ja (jR Vy [.i (0:Int),.i (gi a 0),.s (gs a 1),.sl (gl a 2),.sl (gl a 3)]) 0 fun v4 =>
 .ret [.b ((gi v4 0) != (1:Int))]
theorem j6U a:Qm a=j1G a:=(jk ju 198 _ a).trans (by kernel_rfl)
noncomputable def j1J (a:List DC):Out :=
 (VV [.i (gi a 0)]).bindR fun r1 =>
 if (!(gb r1 0))=true then
 .ret [.s ([]:List UInt8)]
 else
 ja (if (decide ((gi a 0) < (128:Int)))=true then
 .ret [.s (pL [[DC.i (IntKind.u8.wrap (gi a 0))]])]
 else
 if (decide ((gi a 0) < (2048:Int)))=true then
 if (64:Int)=0 then
 .fail
 else
 if (64:Int)=0 then
 .fail
 else
 .ret [.s (pL [[DC.i (IntKind.u8.wrap (IntKind.i64.wrap ((192:Int) + (IntKind.i64.wrap ((gi a 0).tdiv (64:Int))))))],[DC.i (IntKind.u8.wrap (IntKind.i64.wrap ((128:Int) + ((gi a 0).tmod (64:Int)))))]])]
 else
 if (decide ((gi a 0) < (65536:Int)))=true then
 if (4096:Int)=0 then
 .fail
 else
 if (64:Int)=0 then
 .fail
 else
 if (64:Int)=0 then
 .fail
 else
 if (64:Int)=0 then
 .fail
 else
 .ret [.s (pL [[DC.i (IntKind.u8.wrap (IntKind.i64.wrap ((224:Int) + (IntKind.i64.wrap ((gi a 0).tdiv (4096:Int))))))],[DC.i (IntKind.u8.wrap (IntKind.i64.wrap ((128:Int) + ((IntKind.i64.wrap ((gi a 0).tdiv (64:Int))).tmod (64:Int)))))],[DC.i (IntKind.u8.wrap (IntKind.i64.wrap ((128:Int) + ((gi a 0).tmod (64:Int)))))]])]
 else
 .norm [.i (gi a 0)]) 0 fun v2 =>
 if (262144:Int)=0 then
 .fail
 else
 if (4096:Int)=0 then
 .fail
 else
 if (64:Int)=0 then
 .fail
 else
 if (64:Int)=0 then
 .fail
 else
 if (64:Int)=0 then
 .fail
 else
 if (64:Int)=0 then
 .fail
 else
 .ret [.s (pL [[DC.i (IntKind.u8.wrap (IntKind.i64.wrap ((240:Int) + (IntKind.i64.wrap ((gi v2 0).tdiv (262144:Int))))))],[DC.i (IntKind.u8.wrap (IntKind.i64.wrap ((128:Int) + ((IntKind.i64.wrap ((gi v2 0).tdiv (4096:Int))).tmod (64:Int)))))],[DC.i (IntKind.u8.wrap (IntKind.i64.wrap ((128:Int) + ((IntKind.i64.wrap ((gi v2 0).tdiv (64:Int))).tmod (64:Int)))))],[DC.i (IntKind.u8.wrap (IntKind.i64.wrap ((128:Int) + ((gi v2 0).tmod (64:Int)))))]])]
theorem j6X a:yV a=j1J a:=(jk ju 199 _ a).trans (by kernel_rfl)
noncomputable def j4q (a:List DC):Out :=
 (XT [.s (gs a 0),.s (gs a 1),.s (gs a 2),.b (gb a 3),.i (gi a 4),.s (gs a 5),.sl (gl a 6),.sl (gl a 7),.sl (gl a 8)]).bindR fun r1 =>
 .ret [.b (!(gb r1 0))]
theorem jaL a:Xj a=j4q a:=(jk ju 110 _ a).trans (by kernel_rfl)
noncomputable def kY:List DC → Out:=fun v1 =>
 if (decide ((gi v1 2) < (gi v1 1)))=true then
 ja (if 166=166 ∧ 0 ≤ (gi v1 2) ∧ (gi v1 2) < ((gl v1 0).length:Int) then
 (Qq [.s ((((gl v1 0).getD (gi v1 2).toNat []).getD 0 d0).ss),.sl ((((gl v1 0).getD (gi v1 2).toNat []).getD 1 d0).ll)]).bindR fun r2 =>
 if (gb r2 0)=true then
 .ret [.i (gi v1 2)]
 else
 .norm [.sl (gl v1 0),.i (gi v1 1),.i (gi v1 2)]
 else
 .fail) 1 fun v3 =>
 .norm [.sl (gl v3 0),.i (gi v3 1),.i (IntKind.i64.wrap ((gi v3 2) + (1:Int)))]
 else
 .ex 0 []
noncomputable def qv (a:List DC):Out :=
 ja (jR kY [.sl (gl a 0),.i ((gl a 0).length:Int),.i (0:Int)]) 0 fun v4 =>
 .ret [.i (-1:Int)]
theorem J9 a:qo a=qv a:=(jk ju 208 _ a).trans (by kernel_rfl)
noncomputable def j1V (a:List DC):Out :=
 jb (if (decide ((gi a 0) ≥ (97:Int)))=true then
 if (decide ((gi a 0) ≤ (122:Int)))=true then
 .norm [.b true]
 else
 if (decide ((gi a 0) ≥ (65:Int)))=true then
 .norm [.b (decide ((gi a 0) ≤ (90:Int)))]
 else
 .norm [.b false]
 else
 if (decide ((gi a 0) ≥ (65:Int)))=true then
 .norm [.b (decide ((gi a 0) ≤ (90:Int)))]
 else
 .norm [.b false]) fun v1 =>
 .ret [.b (gb v1 0)]
theorem j7a a:XR a=j1V a:=(jk ju 202 _ a).trans (by kernel_rfl)
noncomputable def kJ:List DC → Out:=fun v1 =>
 if (decide ((gi v1 2) < (gi v1 1)))=true then
 ja (if 162=162 ∧ 0 ≤ (gi v1 2) ∧ (gi v1 2) < ((gl v1 0).length:Int) then
 (K4 [.i ((((gl v1 0).getD (gi v1 2).toNat []).getD 0 d0).ii),.s ((((gl v1 0).getD (gi v1 2).toNat []).getD 1 d0).ss),.s ((((gl v1 0).getD (gi v1 2).toNat []).getD 2 d0).ss),.s ((((gl v1 0).getD (gi v1 2).toNat []).getD 3 d0).ss),.sl ((((gl v1 0).getD (gi v1 2).toNat []).getD 4 d0).ll),.sl ((((gl v1 0).getD (gi v1 2).toNat []).getD 5 d0).ll),.sl ((((gl v1 0).getD (gi v1 2).toNat []).getD 6 d0).ll)]).bindR fun r2 =>
 if (gb r2 0)=true then
 .ret [.i (gi v1 2)]
 else
 .norm [.sl (gl v1 0),.i (gi v1 1),.i (gi v1 2)]
 else
 .fail) 1 fun v3 =>
 .norm [.sl (gl v3 0),.i (gi v3 1),.i (IntKind.i64.wrap ((gi v3 2) + (1:Int)))]
 else
 .ex 0 []
noncomputable def qf (a:List DC):Out :=
 ja (jR kJ [.sl (gl a 0),.i ((gl a 0).length:Int),.i (0:Int)]) 0 fun v4 =>
 .ret [.i (-1:Int)]
theorem zM a:qc a=qf a:=(jk ju 210 _ a).trans (by kernel_rfl)
noncomputable def j0D (a:List DC):Out:=match KZ [.s,.i .i64] [.s] Yr zY a with | some r=>.ret r | none=>.fail
theorem j5t a:VT a=j0D a:=(jk ju 211 zY a).trans (by kernel_rfl)
noncomputable def J8 (a:List DC):Out :=
 ja (if ((gi a 0) == (1:Int))=true then
 jb (if (!((gs a 1) == ([]:List UInt8)))=true then
 if (gs a 1).length + ([58,32]:List UInt8).length < jF then
 .norm [.s ((gs a 1) ++ ([58,32]:List UInt8)),.i (gi a 0),.s (gs a 1),.s (gs a 2),.s (gs a 3),.sl (gl a 4),.sl (gl a 5),.sl (gl a 6)]
 else
 .fail
 else
 .norm [.s ([]:List UInt8),.i (gi a 0),.s (gs a 1),.s (gs a 2),.s (gs a 3),.sl (gl a 4),.sl (gl a 5),.sl (gl a 6)]) fun v1 =>
 if (gs v1 0).length + (gs v1 3).length < jF then
 (Qr [.sl (gl v1 5)]).bindR fun r2 =>
 if ((gs v1 0) ++ (gs v1 3)).length + (gs r2 0).length < jF then
 (kT [.sl (gl v1 6)]).bindR fun r3 =>
 if (((gs v1 0) ++ (gs v1 3)) ++ (gs r2 0)).length + (gs r3 0).length < jF then
 .ret [.s ((((gs v1 0) ++ (gs v1 3)) ++ (gs r2 0)) ++ (gs r3 0))]
 else
 .fail
 else
 .fail
 else
 .fail
 else
 if ((gi a 0) == (2:Int))=true then
 if ([46,46,46]:List UInt8).length + (gs a 2).length < jF then
 (kT [.sl (gl a 5)]).bindR fun r4 =>
 if (([46,46,46]:List UInt8) ++ (gs a 2)).length + (gs r4 0).length < jF then
 .ret [.s ((([46,46,46]:List UInt8) ++ (gs a 2)) ++ (gs r4 0))]
 else
 .fail
 else
 .fail
 else
 .norm [.i (gi a 0),.s (gs a 1),.s (gs a 2),.s (gs a 3),.sl (gl a 4),.sl (gl a 5),.sl (gl a 6)]) 0 fun v5 =>
 jb (if (!((gs v5 3) == ([]:List UInt8)))=true then
 if ([32,111,110,32]:List UInt8).length + (gs v5 3).length < jF then
 .norm [.s (([32,111,110,32]:List UInt8) ++ (gs v5 3)),.i (gi v5 0),.s (gs v5 1),.s (gs v5 2),.s (gs v5 3),.sl (gl v5 4),.sl (gl v5 5),.sl (gl v5 6)]
 else
 .fail
 else
 .norm [.s ([]:List UInt8),.i (gi v5 0),.s (gs v5 1),.s (gs v5 2),.s (gs v5 3),.sl (gl v5 4),.sl (gl v5 5),.sl (gl v5 6)]) fun v6 =>
 if ([46,46,46]:List UInt8).length + (gs v6 0).length < jF then
 (kT [.sl (gl v6 6)]).bindR fun r7 =>
 if (([46,46,46]:List UInt8) ++ (gs v6 0)).length + (gs r7 0).length < jF then
 .ret [.s ((([46,46,46]:List UInt8) ++ (gs v6 0)) ++ (gs r7 0))]
 else
 .fail
 else
 .fail
theorem j8F a:YQ a=J8 a:=(jk ju 212 _ a).trans (by kernel_rfl)
noncomputable def qz (a:List DC):Out :=
 ja (if ((gi a 0) == (1:Int))=true then
 jb ((qr [.i (gi a 0),.s (gs a 1),.sl (gl a 2),.sl (gl a 3)]).bindR fun r1 =>
 if (gb r1 0)=true then
 (ki [.s (gs a 1)]).bindR fun r2 =>
 .norm [.b (gb r2 0)]
 else
 .norm [.b false]) fun v3 =>
 .ret [.b (gb v3 0)]
 else
 if ((gi a 0) == (2:Int))=true then
 jb ((qr [.i (gi a 0),.s (gs a 1),.sl (gl a 2),.sl (gl a 3)]).bindR fun r4 =>
 if (gb r4 0)=true then
 (Vm [.s (gs a 1)]).bindR fun r5 =>
 .norm [.b (gb r5 0)]
 else
 .norm [.b false]) fun v6 =>
 .ret [.b (gb v6 0)]
 else
 if ((gi a 0) == (3:Int))=true then
 jb ((qr [.i (gi a 0),.s (gs a 1),.sl (gl a 2),.sl (gl a 3)]).bindR fun r7 =>
 if (gb r7 0)=true then
 (YS [.s (gs a 1)]).bindR fun r8 =>
 .norm [.b (gb r8 0)]
 else
 .norm [.b false]) fun v9 =>
 .ret [.b (gb v9 0)]
 else
 if ((gi a 0) == (4:Int))=true then
 jb ((qr [.i (gi a 0),.s (gs a 1),.sl (gl a 2),.sl (gl a 3)]).bindR fun r10 =>
 if (gb r10 0)=true then
 (yC [.s (gs a 1)]).bindR fun r11 =>
 .norm [.b (!((gs r11 0) == ([]:List UInt8)))]
 else
 .norm [.b false]) fun v12 =>
 .ret [.b (gb v12 0)]
 else
 if ((gi a 0) == (5:Int))=true then
 jb ((qr [.i (gi a 0),.s (gs a 1),.sl (gl a 2),.sl (gl a 3)]).bindR fun r13 =>
 if (gb r13 0)=true then
 (Xx [.s (gs a 1)]).bindR fun r14 =>
 .norm [.b (gb r14 0)]
 else
 .norm [.b false]) fun v15 =>
 .ret [.b (gb v15 0)]
 else
 if ((gi a 0) == (6:Int))=true then
 jb ((qr [.i (gi a 0),.s (gs a 1),.sl (gl a 2),.sl (gl a 3)]).bindR fun r16 =>
 if (gb r16 0)=true then
 (ki [.s (gs a 1)]).bindR fun r17 =>
 if (gb r17 0)=true then
 (Xx [.s (gs a 1)]).bindR fun r18 =>
 .norm [.b (!(gb r18 0))]
 else
 .norm [.b false]
 else
 .norm [.b false]) fun v19 =>
 .ret [.b (gb v19 0)]
 else
 jb (if ((gi a 0) == (7:Int))=true then
 if (((gl a 3).length:Int) != (0:Int))=true then
 .ret [.b false]
 else
 .norm [.i (gi a 0),.s (gs a 1),.sl (gl a 2),.sl (gl a 3),.i (gi a 4)]
 else
 if ((gi a 0) == (8:Int))=true then
 jb (if (((gl a 3).length:Int) != ((gl a 2).length:Int))=true then
 .norm [.b true,.i (gi a 0),.s (gs a 1),.sl (gl a 2),.sl (gl a 3),.i (gi a 4)]
 else
 (kV [.sl (gl a 3)]).bindR fun r20 =>
 .norm [.b (gb r20 0),.i (gi a 0),.s (gs a 1),.sl (gl a 2),.sl (gl a 3),.i (gi a 4)]) fun v21 =>
 if (gb v21 0)=true then
 .ret [.b false]
 else
 .norm [.i (gi v21 1),.s (gs v21 2),.sl (gl v21 3),.sl (gl v21 4),.i (gi v21 5)]
 else
 .ret [.b false]) fun v22 =>
 .norm [.i (gi v22 0),.s (gs v22 1),.sl (gl v22 2),.sl (gl v22 3),.i (gi v22 4)]) 0 fun v23 =>
 jb (if (decide ((gi v23 4) > (0:Int)))=true then
 if ((gs v23 1) == ([]:List UInt8))=true then
 (kA [.sl (gl v23 2),.i (gi v23 4)]).bindR fun r24 =>
 .norm [.b (!(gb r24 0))]
 else
 .norm [.b false]
 else
 .norm [.b false]) fun v25 =>
 .ret [.b (gb v25 0)]
theorem yZ a:Ki a=qz a:=(jk ju 221 _ a).trans (by kernel_rfl)
noncomputable def qa (a:List DC):Out :=
 (qp [.sl (gl a 0)]).bindR fun r1 =>
 .ret [.b (decide ((gi r1 0) ≥ (0:Int)))]
theorem zI a:kN a=qa a:=(jk ju 206 _ a).trans (by kernel_rfl)
noncomputable def kx:List DC → Out:=fun v1 =>
 if (decide ((gi v1 2) < (gi v1 1)))=true then
 ja (if 93=93 ∧ 0 ≤ (gi v1 2) ∧ (gi v1 2) < ((gl v1 0).length:Int) then
 (KM [.s ((((gl v1 0).getD (gi v1 2).toNat []).getD 0 d0).ss),.s ((((gl v1 0).getD (gi v1 2).toNat []).getD 1 d0).ss),.sl ((((gl v1 0).getD (gi v1 2).toNat []).getD 2 d0).ll),.s ((((gl v1 0).getD (gi v1 2).toNat []).getD 3 d0).ss),.s ((((gl v1 0).getD (gi v1 2).toNat []).getD 4 d0).ss),.sl ((((gl v1 0).getD (gi v1 2).toNat []).getD 5 d0).ll)]).bindR fun r2 =>
 if (gb r2 0)=true then
 .ret [.i (gi v1 2)]
 else
 .norm [.sl (gl v1 0),.i (gi v1 1),.i (gi v1 2)]
 else
 .fail) 1 fun v3 =>
 .norm [.sl (gl v3 0),.i (gi v3 1),.i (IntKind.i64.wrap ((gi v3 2) + (1:Int)))]
 else
 .ex 0 []
noncomputable def pA (a:List DC):Out :=
 ja (jR kx [.sl (gl a 0),.i ((gl a 0).length:Int),.i (0:Int)]) 0 fun v4 =>
 .ret [.i (-1:Int)]
theorem yI a:pz a=pA a:=(jk ju 224 _ a).trans (by kernel_rfl)
noncomputable def pR (a:List DC):Out :=
 (qk [.sl (gl a 0)]).bindR fun r1 =>
 .ret [.b (decide ((gi r1 0) ≥ (0:Int)))]
theorem zk a:kI a=pR a:=(jk ju 225 _ a).trans (by kernel_rfl)
noncomputable def ky:List DC → Out:=fun v1 =>
 if (decide ((gi v1 2) < (gi v1 1)))=true then
 ja (if 96=96 ∧ 0 ≤ (gi v1 2) ∧ (gi v1 2) < ((gl v1 0).length:Int) then
 (KL [.s ((((gl v1 0).getD (gi v1 2).toNat []).getD 0 d0).ss),.s ((((gl v1 0).getD (gi v1 2).toNat []).getD 1 d0).ss),.sl ((((gl v1 0).getD (gi v1 2).toNat []).getD 2 d0).ll)]).bindR fun r2 =>
 if (gb r2 0)=true then
 .ret [.i (gi v1 2)]
 else
 .norm [.sl (gl v1 0),.i (gi v1 1),.i (gi v1 2)]
 else
 .fail) 1 fun v3 =>
 .norm [.sl (gl v3 0),.i (gi v3 1),.i (IntKind.i64.wrap ((gi v3 2) + (1:Int)))]
 else
 .ex 0 []
noncomputable def pH (a:List DC):Out :=
 ja (jR ky [.sl (gl a 0),.i ((gl a 0).length:Int),.i (0:Int)]) 0 fun v4 =>
 .ret [.i (-1:Int)]
theorem yQ a:pF a=pH a:=(jk ju 227 _ a).trans (by kernel_rfl)
noncomputable def kK:List DC → Out:=fun v1 =>
 if (decide ((gi v1 2) < (gi v1 1)))=true then
 ja (if 98=98 ∧ 0 ≤ (gi v1 2) ∧ (gi v1 2) < ((gl v1 0).length:Int) then
 (KK [.i ((((gl v1 0).getD (gi v1 2).toNat []).getD 0 d0).ii),.s ((((gl v1 0).getD (gi v1 2).toNat []).getD 1 d0).ss)]).bindR fun r2 =>
 if (gb r2 0)=true then
 .ret [.i (gi v1 2)]
 else
 .norm [.sl (gl v1 0),.i (gi v1 1),.i (gi v1 2)]
 else
 .fail) 1 fun v3 =>
 .norm [.sl (gl v3 0),.i (gi v3 1),.i (IntKind.i64.wrap ((gi v3 2) + (1:Int)))]
 else
 .ex 0 []
noncomputable def qg (a:List DC):Out :=
 ja (jR kK [.sl (gl a 0),.i ((gl a 0).length:Int),.i (0:Int)]) 0 fun v4 =>
 .ret [.i (-1:Int)]
theorem zN a:qd a=qg a:=(jk ju 229 _ a).trans (by kernel_rfl)
noncomputable def pa:List DC → Out:=fun v1 =>
 if (decide ((gi v1 2) < (gi v1 1)))=true then
 ja (if 9=9 ∧ 0 ≤ (gi v1 2) ∧ (gi v1 2) < ((gl v1 0).length:Int) then
 (KJ [.s ((((gl v1 0).getD (gi v1 2).toNat []).getD 0 d0).ss)]).bindR fun r2 =>
 if (gb r2 0)=true then
 .ret [.i (gi v1 2)]
 else
 .norm [.sl (gl v1 0),.i (gi v1 1),.i (gi v1 2)]
 else
 .fail) 1 fun v3 =>
 .norm [.sl (gl v3 0),.i (gi v3 1),.i (IntKind.i64.wrap ((gi v3 2) + (1:Int)))]
 else
 .ex 0 []
noncomputable def qH (a:List DC):Out :=
 ja (jR pa [.sl (gl a 0),.i ((gl a 0).length:Int),.i (0:Int)]) 0 fun v4 =>
 .ret [.i (-1:Int)]
theorem Jp a:qE a=qH a:=(jk ju 186 _ a).trans (by kernel_rfl)
noncomputable def pD (a:List DC):Out :=
 (pX [.sl (gl a 0)]).bindR fun r1 =>
 .ret [.b (decide ((gi r1 0) ≥ (0:Int)))]
theorem yL a:kf a=pD a:=(jk ju 161 _ a).trans (by kernel_rfl)
noncomputable def j33 (a:List DC):Out :=
 (YR [.s (gs a 0)]).bindR fun r1 =>
 .ret [.b (!(gb r1 0))]
theorem j8S a:Vn a=j33 a:=(jk ju 127 _ a).trans (by kernel_rfl)
noncomputable def yE (a:List DC):Out:=match KZ [.s] [.b] KQ qs a with | some r=>.ret r | none=>.fail
theorem Yv a:Ke a=yE a:=(jk ju 230 qs a).trans (by kernel_rfl)
noncomputable def qy (a:List DC):Out:=match KZ [.s,.i .u8] [.i .i64] YU ph a with | some r=>.ret r | none=>.fail
theorem QX a:zc a=qy a:=(jk ju 231 ph a).trans (by kernel_rfl)
noncomputable def j10 (a:List DC):Out :=
 if (!(gb a 0))=true then
 (Vj [.i (gi a 1),.s (gs a 2),.sl (gl a 3),.sl (gl a 4)]).bindR fun r1 =>
 .ret [.b (gb r1 0)]
 else
 jb ((Kj [.i (gi a 1),.s (gs a 2),.sl (gl a 3),.sl (gl a 4)]).bindR fun r2 =>
 if (gb r2 0)=true then
 (Kk [.i (gi a 1),.s (gs a 2),.sl (gl a 3),.sl (gl a 4)]).bindR fun r3 =>
 .norm [.b (gb r3 0)]
 else
 .norm [.b false]) fun v4 =>
 .ret [.b (gb v4 0)]
theorem j5R a:KN a=j10 a:=(jk ju 159 _ a).trans (by kernel_rfl)
noncomputable def VI:List DC → Out:=fun v1 =>
 if (decide ((gi v1 2) < ((gl v1 0).length:Int)))=true then
 ja (if 102=102 ∧ 0 ≤ (gi v1 2) ∧ (gi v1 2) < ((gl v1 0).length:Int) then
 if 102=102 ∧ 0 ≤ (gi v1 2) ∧ (gi v1 2) < ((gl v1 1).length:Int) then
 (yB [.i ((((gl v1 0).getD (gi v1 2).toNat []).getD 0 d0).ii),.s ((((gl v1 0).getD (gi v1 2).toNat []).getD 1 d0).ss),.sl ((((gl v1 0).getD (gi v1 2).toNat []).getD 2 d0).ll),.sl ((((gl v1 0).getD (gi v1 2).toNat []).getD 3 d0).ll),.i ((((gl v1 1).getD (gi v1 2).toNat []).getD 0 d0).ii),.s ((((gl v1 1).getD (gi v1 2).toNat []).getD 1 d0).ss),.sl ((((gl v1 1).getD (gi v1 2).toNat []).getD 2 d0).ll),.sl ((((gl v1 1).getD (gi v1 2).toNat []).getD 3 d0).ll)]).bindR fun r2 =>
 if (!(gb r2 0))=true then
 .ret [.b false]
 else
 .norm [.sl (gl v1 0),.sl (gl v1 1),.i (gi v1 2)]
 else
 .fail
 else
 .fail) 1 fun v3 =>
 .norm [.sl (gl v3 0),.sl (gl v3 1),.i (IntKind.i64.wrap ((gi v3 2) + (1:Int)))]
 else
 .ex 0 []
noncomputable def j1S (a:List DC):Out :=
 if (((gl a 0).length:Int) != ((gl a 1).length:Int))=true then
 .ret [.b false]
 else
 ja (jR VI [.sl (gl a 0),.sl (gl a 1),.i (0:Int)]) 0 fun v4 =>
 .ret [.b true]
theorem j77 a:XQ a=j1S a:=(jk ju 232 _ a).trans (by kernel_rfl)
noncomputable def j6r (a:List DC):Out :=
 if (!((gs a 0) == (gs a 5)))=true then
 .ret [.b false]
 else
 (yB [.i (gi a 1),.s (gs a 2),.sl (gl a 3),.sl (gl a 4),.i (gi a 6),.s (gs a 7),.sl (gl a 8),.sl (gl a 9)]).bindR fun r1 =>
 if (!(gb r1 0))=true then
 .ret [.b false]
 else
 .ret [.b true]
theorem jbN a:Yp a=j6r a:=(jk ju 233 _ a).trans (by kernel_rfl)
noncomputable def pj:List DC → Out:=fun v4 =>
 if (decide ((gi v4 1) < ((gl v4 4).length:Int)))=true then
 ja (jb (if ((gi v4 2) == (8:Int))=true then
 if 9=9 ∧ 0 ≤ (gi v4 1) ∧ (gi v4 1) < ((gl v4 5).length:Int) then
 (kg [.s ((((gl v4 5).getD (gi v4 1).toNat []).getD 0 d0).ss)]).bindR fun r5 =>
 if (!(gb r5 0))=true then
 .norm [.i (gi v4 0),.i (gi v4 1),.b true,.i (gi v4 2),.s (gs v4 3),.sl (gl v4 4),.sl (gl v4 5)]
 else
 if 102=102 ∧ 0 ≤ (gi v4 1) ∧ (gi v4 1) < ((gl v4 4).length:Int) then
 (ya [.i ((((gl v4 4).getD (gi v4 1).toNat []).getD 0 d0).ii),.s ((((gl v4 4).getD (gi v4 1).toNat []).getD 1 d0).ss),.sl ((((gl v4 4).getD (gi v4 1).toNat []).getD 2 d0).ll),.sl ((((gl v4 4).getD (gi v4 1).toNat []).getD 3 d0).ll),.i (IntKind.i64.wrap ((gi v4 0) - (1:Int)))]).bindR fun r6 =>
 .norm [.i (gi v4 0),.i (gi v4 1),.b (!(gb r6 0)),.i (gi v4 2),.s (gs v4 3),.sl (gl v4 4),.sl (gl v4 5)]
 else
 .fail
 else
 .fail
 else
 if 102=102 ∧ 0 ≤ (gi v4 1) ∧ (gi v4 1) < ((gl v4 4).length:Int) then
 (ya [.i ((((gl v4 4).getD (gi v4 1).toNat []).getD 0 d0).ii),.s ((((gl v4 4).getD (gi v4 1).toNat []).getD 1 d0).ss),.sl ((((gl v4 4).getD (gi v4 1).toNat []).getD 2 d0).ll),.sl ((((gl v4 4).getD (gi v4 1).toNat []).getD 3 d0).ll),.i (IntKind.i64.wrap ((gi v4 0) - (1:Int)))]).bindR fun r7 =>
 .norm [.i (gi v4 0),.i (gi v4 1),.b (!(gb r7 0)),.i (gi v4 2),.s (gs v4 3),.sl (gl v4 4),.sl (gl v4 5)]
 else
 .fail) fun v8 =>
 if (gb v8 2)=true then
 .ret [.b false]
 else
 .norm [.i (gi v8 0),.i (gi v8 1),.i (gi v8 3),.s (gs v8 4),.sl (gl v8 5),.sl (gl v8 6)]) 1 fun v9 =>
 .norm [.i (gi v9 0),.i (IntKind.i64.wrap ((gi v9 1) + (1:Int))),.i (gi v9 2),.s (gs v9 3),.sl (gl v9 4),.sl (gl v9 5)]
 else
 .ex 0 []
noncomputable def km (a:List DC):Out :=
 (ZV [.i (gi a 0),.s (gs a 1),.sl (gl a 2),.sl (gl a 3)]).bindR fun r1 =>
 if (!(gb r1 0))=true then
 .ret [.b false]
 else
 jb (if ((gi a 0) == (7:Int))=true then
 .norm [.i (gi a 4),.b true,.i (gi a 0),.s (gs a 1),.sl (gl a 2),.sl (gl a 3)]
 else
 .norm [.i (gi a 4),.b ((gi a 0) == (8:Int)),.i (gi a 0),.s (gs a 1),.sl (gl a 2),.sl (gl a 3)]) fun v2 =>
 jb (if (!(gb v2 1))=true then
 if (decide (((gl v2 4).length:Int) > (0:Int)))=true then
 .norm [.i (gi v2 0),.b true,.i (gi v2 2),.s (gs v2 3),.sl (gl v2 4),.sl (gl v2 5)]
 else
 if ((gi v2 2) != (8:Int))=true then
 if (decide (((gl v2 5).length:Int) > (0:Int)))=true then
 .norm [.i (gi v2 0),.b true,.i (gi v2 2),.s (gs v2 3),.sl (gl v2 4),.sl (gl v2 5)]
 else
 if ((gi v2 2) == (8:Int))=true then
 if (((gl v2 5).length:Int) != ((gl v2 4).length:Int))=true then
 .norm [.i (gi v2 0),.b true,.i (gi v2 2),.s (gs v2 3),.sl (gl v2 4),.sl (gl v2 5)]
 else
 if (gb v2 1)=true then
 .norm [.i (gi v2 0),.b ((gi v2 0) == (0:Int)),.i (gi v2 2),.s (gs v2 3),.sl (gl v2 4),.sl (gl v2 5)]
 else
 .norm [.i (gi v2 0),.b false,.i (gi v2 2),.s (gs v2 3),.sl (gl v2 4),.sl (gl v2 5)]
 else
 if (gb v2 1)=true then
 .norm [.i (gi v2 0),.b ((gi v2 0) == (0:Int)),.i (gi v2 2),.s (gs v2 3),.sl (gl v2 4),.sl (gl v2 5)]
 else
 .norm [.i (gi v2 0),.b false,.i (gi v2 2),.s (gs v2 3),.sl (gl v2 4),.sl (gl v2 5)]
 else
 if ((gi v2 2) == (8:Int))=true then
 if (((gl v2 5).length:Int) != ((gl v2 4).length:Int))=true then
 .norm [.i (gi v2 0),.b true,.i (gi v2 2),.s (gs v2 3),.sl (gl v2 4),.sl (gl v2 5)]
 else
 if (gb v2 1)=true then
 .norm [.i (gi v2 0),.b ((gi v2 0) == (0:Int)),.i (gi v2 2),.s (gs v2 3),.sl (gl v2 4),.sl (gl v2 5)]
 else
 .norm [.i (gi v2 0),.b false,.i (gi v2 2),.s (gs v2 3),.sl (gl v2 4),.sl (gl v2 5)]
 else
 if (gb v2 1)=true then
 .norm [.i (gi v2 0),.b ((gi v2 0) == (0:Int)),.i (gi v2 2),.s (gs v2 3),.sl (gl v2 4),.sl (gl v2 5)]
 else
 .norm [.i (gi v2 0),.b false,.i (gi v2 2),.s (gs v2 3),.sl (gl v2 4),.sl (gl v2 5)]
 else
 if ((gi v2 2) != (8:Int))=true then
 if (decide (((gl v2 5).length:Int) > (0:Int)))=true then
 .norm [.i (gi v2 0),.b true,.i (gi v2 2),.s (gs v2 3),.sl (gl v2 4),.sl (gl v2 5)]
 else
 if ((gi v2 2) == (8:Int))=true then
 if (((gl v2 5).length:Int) != ((gl v2 4).length:Int))=true then
 .norm [.i (gi v2 0),.b true,.i (gi v2 2),.s (gs v2 3),.sl (gl v2 4),.sl (gl v2 5)]
 else
 if (gb v2 1)=true then
 .norm [.i (gi v2 0),.b ((gi v2 0) == (0:Int)),.i (gi v2 2),.s (gs v2 3),.sl (gl v2 4),.sl (gl v2 5)]
 else
 .norm [.i (gi v2 0),.b false,.i (gi v2 2),.s (gs v2 3),.sl (gl v2 4),.sl (gl v2 5)]
 else
 if (gb v2 1)=true then
 .norm [.i (gi v2 0),.b ((gi v2 0) == (0:Int)),.i (gi v2 2),.s (gs v2 3),.sl (gl v2 4),.sl (gl v2 5)]
 else
 .norm [.i (gi v2 0),.b false,.i (gi v2 2),.s (gs v2 3),.sl (gl v2 4),.sl (gl v2 5)]
 else
 if ((gi v2 2) == (8:Int))=true then
 if (((gl v2 5).length:Int) != ((gl v2 4).length:Int))=true then
 .norm [.i (gi v2 0),.b true,.i (gi v2 2),.s (gs v2 3),.sl (gl v2 4),.sl (gl v2 5)]
 else
 if (gb v2 1)=true then
 .norm [.i (gi v2 0),.b ((gi v2 0) == (0:Int)),.i (gi v2 2),.s (gs v2 3),.sl (gl v2 4),.sl (gl v2 5)]
 else
 .norm [.i (gi v2 0),.b false,.i (gi v2 2),.s (gs v2 3),.sl (gl v2 4),.sl (gl v2 5)]
 else
 if (gb v2 1)=true then
 .norm [.i (gi v2 0),.b ((gi v2 0) == (0:Int)),.i (gi v2 2),.s (gs v2 3),.sl (gl v2 4),.sl (gl v2 5)]
 else
 .norm [.i (gi v2 0),.b false,.i (gi v2 2),.s (gs v2 3),.sl (gl v2 4),.sl (gl v2 5)]) fun v3 =>
 if (gb v3 1)=true then
 .ret [.b false]
 else
 ja (jR pj [.i (gi v3 0),.i (0:Int),.i (gi v3 2),.s (gs v3 3),.sl (gl v3 4),.sl (gl v3 5)]) 0 fun v10 =>
 .ret [.b true]
theorem qN a:ya a=km a:=(jk ju 234 _ a).trans (by kernel_rfl)
noncomputable def j0I (a:List DC):Out :=
 jb ((V5 [.i (gi a 0),.i (0:Int),.i (1114111:Int)]).bindR fun r1 =>
 if (gb r1 0)=true then
 (V5 [.i (gi a 0),.i (55296:Int),.i (57343:Int)]).bindR fun r2 =>
 .norm [.b (!(gb r2 0))]
 else
 .norm [.b false]) fun v3 =>
 .ret [.b (gb v3 0)]
theorem j5z a:VV a=j0I a:=(jk ju 235 _ a).trans (by kernel_rfl)
noncomputable def j1X (a:List DC):Out :=
 jb ((ki [.s (gs a 0)]).bindR fun r1 =>
 if (gb r1 0)=true then
 (JN [.s (gs a 1),.s (gs a 2)]).bindR fun r2 =>
 if (gb r2 0)=true then
 (KN [.b (gb a 3),.i (gi a 4),.s (gs a 5),.sl (gl a 6),.sl (gl a 7)]).bindR fun r3 =>
 if (gb r3 0)=true then
 (qM [.sl (gl a 8)]).bindR fun r4 =>
 .norm [.b (gb r4 0)]
 else
 .norm [.b false]
 else
 .norm [.b false]
 else
 .norm [.b false]) fun v5 =>
 .ret [.b (gb v5 0)]
theorem j7d a:XT a=j1X a:=(jk ju 111 _ a).trans (by kernel_rfl)
noncomputable def j22 (a:List DC):Out :=
 jb ((ki [.s (gs a 0)]).bindR fun r1 =>
 if (!(gb r1 0))=true then
 .norm [.b true]
 else
 (JO [.sl (gl a 1)]).bindR fun r2 =>
 .norm [.b (!(gb r2 0))]) fun v3 =>
 .ret [.b (gb v3 0)]
theorem j7j a:Qq a=j22 a:=(jk ju 162 _ a).trans (by kernel_rfl)
noncomputable def ZM (a:List DC):Out :=
 (j1g [.i (gi a 0),.s (gs a 1),.s (gs a 2),.s (gs a 3),.sl (gl a 4),.sl (gl a 5),.sl (gl a 6)]).bindR fun r1 =>
 .ret [.b (!(gb r1 0))]
theorem j4Q a:K4 a=ZM a:=(jk ju 166 _ a).trans (by kernel_rfl)
noncomputable def j1u (a:List DC):Out :=
 jb (if (((gl a 2).length:Int) == (0:Int))=true then
 .norm [.b (((gl a 3).length:Int) == (0:Int))]
 else
 .norm [.b false]) fun v1 =>
 .ret [.b (gb v1 0)]
theorem j3I a:qr a=j1u a:=(jk ju 236 _ a).trans (by kernel_rfl)
noncomputable def j6u (a:List DC):Out :=
 (Kf [.s (gs a 0),.s ([45]:List UInt8)]).bindR fun r1 =>
 jb (if (decide (((gs a 0).length:Int) ≤ (40:Int)))=true then
 (qX [.s (gs r1 0)]).bindR fun r2 =>
 if (gb r2 0)=true then
 if ((gs r1 0) == ([48]:List UInt8))=true then
 .norm [.b true]
 else
 if 0 ≤ (0:Int) ∧ (0:Int) < ((gs r1 0).length:Int) then
 .norm [.b ((((gs r1 0).getD (0:Int).toNat 0).toNat:Int) != (48:Int))]
 else
 .fail
 else
 .norm [.b false]
 else
 .norm [.b false]) fun v3 =>
 .ret [.b (gb v3 0)]
theorem jbQ a:Vm a=j6u a:=(jk ju 248 _ a).trans (by kernel_rfl)
noncomputable def j31 (a:List DC):Out :=
 if (decide (((gs a 0).length:Int) > (40:Int)))=true then
 .ret [.b false]
 else
 (QB [.s (gs a 0),.s ([101,69]:List UInt8)]).bindR fun r1 =>
 jb (if (decide ((gi r1 0) ≥ (0:Int)))=true then
 if 0 ≤ (gi r1 0) ∧ (gi r1 0) ≤ ((gs a 0).length:Int) then
 if 0 ≤ (IntKind.i64.wrap ((gi r1 0) + (1:Int))) ∧ (IntKind.i64.wrap ((gi r1 0) + (1:Int))) ≤ ((gs a 0).length:Int) then
 jb (if (!(((gs a 0).drop (IntKind.i64.wrap ((gi r1 0) + (1:Int))).toNat) == ([]:List UInt8)))=true then
 if 0 ≤ (0:Int) ∧ (0:Int) < (((gs a 0).drop (IntKind.i64.wrap ((gi r1 0) + (1:Int))).toNat).length:Int) then
 if (((((gs a 0).drop (IntKind.i64.wrap ((gi r1 0) + (1:Int))).toNat).getD (0:Int).toNat 0).toNat:Int) == (43:Int))=true then
 .norm [.s ((gs a 0).take (gi r1 0).toNat),.s ((gs a 0).drop (IntKind.i64.wrap ((gi r1 0) + (1:Int))).toNat),.i (gi r1 0),.b true]
 else
 if 0 ≤ (0:Int) ∧ (0:Int) < (((gs a 0).drop (IntKind.i64.wrap ((gi r1 0) + (1:Int))).toNat).length:Int) then
 .norm [.s ((gs a 0).take (gi r1 0).toNat),.s ((gs a 0).drop (IntKind.i64.wrap ((gi r1 0) + (1:Int))).toNat),.i (gi r1 0),.b (((((gs a 0).drop (IntKind.i64.wrap ((gi r1 0) + (1:Int))).toNat).getD (0:Int).toNat 0).toNat:Int) == (45:Int))]
 else
 .fail
 else
 .fail
 else
 .norm [.s ((gs a 0).take (gi r1 0).toNat),.s ((gs a 0).drop (IntKind.i64.wrap ((gi r1 0) + (1:Int))).toNat),.i (gi r1 0),.b false]) fun v2 =>
 jb (if (gb v2 3)=true then
 if 0 ≤ (1:Int) ∧ (1:Int) ≤ ((gs v2 1).length:Int) then
 .norm [.s (gs v2 0),.s ((gs v2 1).drop (1:Int).toNat),.i (gi v2 2)]
 else
 .fail
 else
 .norm [.s (gs v2 0),.s (gs v2 1),.i (gi v2 2)]) fun v3 =>
 (qX [.s (gs v3 1)]).bindR fun r4 =>
 if (!(gb r4 0))=true then
 .ret [.b false]
 else
 .norm [.s (gs v3 0),.i (gi v3 2)]
 else
 .fail
 else
 .fail
 else
 .norm [.s (gs a 0),.i (gi r1 0)]) fun v5 =>
 (Xb [.s (gs v5 0),.s ([46]:List UInt8)]).bindR fun r6 =>
 jb ((Vm [.s (gs r6 0)]).bindR fun r7 =>
 if (gb r7 0)=true then
 if (gb r6 2)=true then
 if (!(gb r6 2))=true then
 .norm [.b true]
 else
 (qX [.s (gs r6 1)]).bindR fun r8 =>
 .norm [.b (gb r8 0)]
 else
 if (decide ((gi v5 1) ≥ (0:Int)))=true then
 if (!(gb r6 2))=true then
 .norm [.b true]
 else
 (qX [.s (gs r6 1)]).bindR fun r9 =>
 .norm [.b (gb r9 0)]
 else
 .norm [.b false]
 else
 .norm [.b false]) fun v10 =>
 .ret [.b (gb v10 0)]
theorem j8P a:YS a=j31 a:=(jk ju 249 _ a).trans (by kernel_rfl)
noncomputable def j8f (a:List DC):Out :=
 jb (if ((gs a 0) == ([116,114,117,101]:List UInt8))=true then
 .norm [.b true]
 else
 if ((gs a 0) == ([102,97,108,115,101]:List UInt8))=true then
 .norm [.b true]
 else
 .norm [.b ((gs a 0) == ([110,117,108,108]:List UInt8))]) fun v1 =>
 .ret [.b (gb v1 0)]
theorem jdF a:Xx a=j8f a:=(jk ju 228 _ a).trans (by kernel_rfl)
noncomputable def qh (a:List DC):Out :=
 (qD [.sl (gl a 0)]).bindR fun r1 =>
 .ret [.b (decide ((gi r1 0) ≥ (0:Int)))]
theorem zO a:kV a=qh a:=(jk ju 126 _ a).trans (by kernel_rfl)
noncomputable def pB (a:List DC):Out :=
 (pV [.sl (gl a 0),.i (gi a 1)]).bindR fun r1 =>
 .ret [.b (decide ((gi r1 0) ≥ (0:Int))),.i (gi r1 1)]
theorem yJ a:kA a=pB a:=(jk ju 237 _ a).trans (by kernel_rfl)
noncomputable def kZ:List DC → Out:=fun v1 =>
 if (decide ((gi v1 2) < (gi v1 1)))=true then
 ja (if 211=211 ∧ 0 ≤ (gi v1 2) ∧ (gi v1 2) < ((gl v1 0).length:Int) then
 (Qs [.s ((((gl v1 0).getD (gi v1 2).toNat []).getD 0 d0).ss),.i ((((gl v1 0).getD (gi v1 2).toNat []).getD 1 d0).ii),.s ((((gl v1 0).getD (gi v1 2).toNat []).getD 2 d0).ss),.sl ((((gl v1 0).getD (gi v1 2).toNat []).getD 3 d0).ll),.sl ((((gl v1 0).getD (gi v1 2).toNat []).getD 4 d0).ll)]).bindR fun r2 =>
 if (gb r2 0)=true then
 .ret [.i (gi v1 2)]
 else
 .norm [.sl (gl v1 0),.i (gi v1 1),.i (gi v1 2)]
 else
 .fail) 1 fun v3 =>
 .norm [.sl (gl v3 0),.i (gi v3 1),.i (IntKind.i64.wrap ((gi v3 2) + (1:Int)))]
 else
 .ex 0 []
noncomputable def qw (a:List DC):Out :=
 ja (jR kZ [.sl (gl a 0),.i ((gl a 0).length:Int),.i (0:Int)]) 0 fun v4 =>
 .ret [.i (-1:Int)]
theorem Ja a:qp a=qw a:=(jk ju 239 _ a).trans (by kernel_rfl)
noncomputable def j0Z (a:List DC):Out :=
 (Vi [.s (gs a 0),.s (gs a 1),.sl (gl a 2),.s (gs a 3),.s (gs a 4),.sl (gl a 5)]).bindR fun r1 =>
 .ret [.b (!(gb r1 0))]
theorem j5Q a:KM a=j0Z a:=(jk ju 176 _ a).trans (by kernel_rfl)
noncomputable def kP:List DC → Out:=fun v1 =>
 if (decide ((gi v1 2) < (gi v1 1)))=true then
 ja (if 104=104 ∧ 0 ≤ (gi v1 2) ∧ (gi v1 2) < ((gl v1 0).length:Int) then
 (Vh [.s ((((gl v1 0).getD (gi v1 2).toNat []).getD 0 d0).ss),.s ((((gl v1 0).getD (gi v1 2).toNat []).getD 1 d0).ss),.s ((((gl v1 0).getD (gi v1 2).toNat []).getD 2 d0).ss),.s ((((gl v1 0).getD (gi v1 2).toNat []).getD 3 d0).ss),.b ((((gl v1 0).getD (gi v1 2).toNat []).getD 4 d0).bb),.i ((((gl v1 0).getD (gi v1 2).toNat []).getD 5 d0).ii),.s ((((gl v1 0).getD (gi v1 2).toNat []).getD 6 d0).ss),.sl ((((gl v1 0).getD (gi v1 2).toNat []).getD 7 d0).ll),.sl ((((gl v1 0).getD (gi v1 2).toNat []).getD 8 d0).ll),.sl ((((gl v1 0).getD (gi v1 2).toNat []).getD 9 d0).ll)]).bindR fun r2 =>
 if (gb r2 0)=true then
 .ret [.i (gi v1 2)]
 else
 .norm [.sl (gl v1 0),.i (gi v1 1),.i (gi v1 2)]
 else
 .fail) 1 fun v3 =>
 .norm [.sl (gl v3 0),.i (gi v3 1),.i (IntKind.i64.wrap ((gi v3 2) + (1:Int)))]
 else
 .ex 0 []
noncomputable def qn (a:List DC):Out :=
 ja (jR kP [.sl (gl a 0),.i ((gl a 0).length:Int),.i (0:Int)]) 0 fun v4 =>
 .ret [.i (-1:Int)]
theorem J0 a:qk a=qn a:=(jk ju 252 _ a).trans (by kernel_rfl)
noncomputable def j0Y (a:List DC):Out :=
 (j07 [.s (gs a 0),.s (gs a 1),.sl (gl a 2)]).bindR fun r1 =>
 .ret [.b (!(gb r1 0))]
theorem j5P a:KL a=j0Y a:=(jk ju 180 _ a).trans (by kernel_rfl)
noncomputable def j0X (a:List DC):Out :=
 (j05 [.i (gi a 0),.s (gs a 1)]).bindR fun r1 =>
 .ret [.b (!(gb r1 0))]
theorem j5O a:KK a=j0X a:=(jk ju 183 _ a).trans (by kernel_rfl)
noncomputable def j0W (a:List DC):Out :=
 (ki [.s (gs a 0)]).bindR fun r1 =>
 .ret [.b (!(gb r1 0))]
theorem j5N a:KJ a=j0W a:=(jk ju 185 _ a).trans (by kernel_rfl)
noncomputable def kG:List DC → Out:=fun v1 =>
 if (decide ((gi v1 2) < (gi v1 1)))=true then
 ja (if 166=166 ∧ 0 ≤ (gi v1 2) ∧ (gi v1 2) < ((gl v1 0).length:Int) then
 (Ji [.s ((((gl v1 0).getD (gi v1 2).toNat []).getD 0 d0).ss),.sl ((((gl v1 0).getD (gi v1 2).toNat []).getD 1 d0).ll)]).bindR fun r2 =>
 if (gb r2 0)=true then
 .ret [.i (gi v1 2)]
 else
 .norm [.sl (gl v1 0),.i (gi v1 1),.i (gi v1 2)]
 else
 .fail) 1 fun v3 =>
 .norm [.sl (gl v3 0),.i (gi v3 1),.i (IntKind.i64.wrap ((gi v3 2) + (1:Int)))]
 else
 .ex 0 []
noncomputable def q8 (a:List DC):Out :=
 ja (jR kG [.sl (gl a 0),.i ((gl a 0).length:Int),.i (0:Int)]) 0 fun v4 =>
 .ret [.i (-1:Int)]
theorem zG a:pX a=q8 a:=(jk ju 208 _ a).trans (by kernel_rfl)
noncomputable def jb7 (a:List DC):Out :=
 ja (jb (if ((gs a 0) == ([81,85,69,82,89]:List UInt8))=true then
 .norm [.b ((gs a 0) == ([81,85,69,82,89]:List UInt8))]
 else
 jb (if ((gs a 0) == ([77,85,84,65,84,73,79,78]:List UInt8))=true then
 .norm [.b ((gs a 0) == ([77,85,84,65,84,73,79,78]:List UInt8))]
 else
 jb (if ((gs a 0) == ([83,85,66,83,67,82,73,80,84,73,79,78]:List UInt8))=true then
 .norm [.b ((gs a 0) == ([83,85,66,83,67,82,73,80,84,73,79,78]:List UInt8))]
 else
 jb (if ((gs a 0) == ([70,73,69,76,68]:List UInt8))=true then
 .norm [.b ((gs a 0) == ([70,73,69,76,68]:List UInt8))]
 else
 jb (if ((gs a 0) == ([70,82,65,71,77,69,78,84,95,68,69,70,73,78,73,84,73,79,78]:List UInt8))=true then
 .norm [.b ((gs a 0) == ([70,82,65,71,77,69,78,84,95,68,69,70,73,78,73,84,73,79,78]:List UInt8))]
 else
 jb (if ((gs a 0) == ([70,82,65,71,77,69,78,84,95,83,80,82,69,65,68]:List UInt8))=true then
 .norm [.b ((gs a 0) == ([70,82,65,71,77,69,78,84,95,83,80,82,69,65,68]:List UInt8))]
 else
 jb (if ((gs a 0) == ([73,78,76,73,78,69,95,70,82,65,71,77,69,78,84]:List UInt8))=true then
 .norm [.b ((gs a 0) == ([73,78,76,73,78,69,95,70,82,65,71,77,69,78,84]:List UInt8))]
 else
 jb (if ((gs a 0) == ([86,65,82,73,65,66,76,69,95,68,69,70,73,78,73,84,73,79,78]:List UInt8))=true then
 .norm [.b ((gs a 0) == ([86,65,82,73,65,66,76,69,95,68,69,70,73,78,73,84,73,79,78]:List UInt8))]
 else
 jb (if ((gs a 0) == ([83,67,72,69,77,65]:List UInt8))=true then
 .norm [.b ((gs a 0) == ([83,67,72,69,77,65]:List UInt8))]
 else
 jb (if ((gs a 0) == ([83,67,65,76,65,82]:List UInt8))=true then
 .norm [.b ((gs a 0) == ([83,67,65,76,65,82]:List UInt8))]
 else
 jb (if ((gs a 0) == ([79,66,74,69,67,84]:List UInt8))=true then
 .norm [.b ((gs a 0) == ([79,66,74,69,67,84]:List UInt8))]
 else
 jb (if ((gs a 0) == ([70,73,69,76,68,95,68,69,70,73,78,73,84,73,79,78]:List UInt8))=true then
 .norm [.b ((gs a 0) == ([70,73,69,76,68,95,68,69,70,73,78,73,84,73,79,78]:List UInt8))]
 else
 jb (if ((gs a 0) == ([65,82,71,85,77,69,78,84,95,68,69,70,73,78,73,84,73,79,78]:List UInt8))=true then
 .norm [.b ((gs a 0) == ([65,82,71,85,77,69,78,84,95,68,69,70,73,78,73,84,73,79,78]:List UInt8))]
 else
 jb (if ((gs a 0) == ([73,78,84,69,82,70,65,67,69]:List UInt8))=true then
 .norm [.b ((gs a 0) == ([73,78,84,69,82,70,65,67,69]:List UInt8))]
 else
 jb (if ((gs a 0) == ([85,78,73,79,78]:List UInt8))=true then
 .norm [.b ((gs a 0) == ([85,78,73,79,78]:List UInt8))]
 else
 jb (if ((gs a 0) == ([69,78,85,77]:List UInt8))=true then
 .norm [.b ((gs a 0) == ([69,78,85,77]:List UInt8))]
 else
 jb (if ((gs a 0) == ([69,78,85,77,95,86,65,76,85,69]:List UInt8))=true then
 .norm [.b ((gs a 0) == ([69,78,85,77,95,86,65,76,85,69]:List UInt8))]
 else
 jb (if ((gs a 0) == ([73,78,80,85,84,95,79,66,74,69,67,84]:List UInt8))=true then
 .norm [.b ((gs a 0) == ([73,78,80,85,84,95,79,66,74,69,67,84]:List UInt8))]
 else
 .norm [.b ((gs a 0) == ([73,78,80,85,84,95,70,73,69,76,68,95,68,69,70,73,78,73,84,73,79,78]:List UInt8))]) fun v1 =>
 .norm [.b (gb v1 0)]) fun v2 =>
 .norm [.b (gb v2 0)]) fun v3 =>
 .norm [.b (gb v3 0)]) fun v4 =>
 .norm [.b (gb v4 0)]) fun v5 =>
 .norm [.b (gb v5 0)]) fun v6 =>
 .norm [.b (gb v6 0)]) fun v7 =>
 .norm [.b (gb v7 0)]) fun v8 =>
 .norm [.b (gb v8 0)]) fun v9 =>
 .norm [.b (gb v9 0)]) fun v10 =>
 .norm [.b (gb v10 0)]) fun v11 =>
 .norm [.b (gb v11 0)]) fun v12 =>
 .norm [.b (gb v12 0)]) fun v13 =>
 .norm [.b (gb v13 0)]) fun v14 =>
 .norm [.b (gb v14 0)]) fun v15 =>
 .norm [.b (gb v15 0)]) fun v16 =>
 .norm [.b (gb v16 0)]) fun v17 =>
 .norm [.b (gb v17 0)]) fun v18 =>
 if (gb v18 0)=true then
 .ret [.b true]
 else
 .norm []) 0 fun v19 =>
 .ret [.b false]
theorem j8N a:YR a=jb7 a:=(jk ju 128 _ a).trans (by kernel_rfl)
noncomputable def ZK (a:List DC):Out :=
 jb (if ((gi a 0) == (0:Int))=true then
 if ((gs a 1) == ([]:List UInt8))=true then
 (qr [.i (gi a 0),.s (gs a 1),.sl (gl a 2),.sl (gl a 3)]).bindR fun r1 =>
 .norm [.b (gb r1 0)]
 else
 .norm [.b false]
 else
 .norm [.b false]) fun v2 =>
 .ret [.b (gb v2 0)]
theorem j4O a:Vj a=ZK a:=(jk ju 203 _ a).trans (by kernel_rfl)
noncomputable def j30 (a:List DC):Out :=
 jb (if ((gi a 0) != (1:Int))=true then
 (kr [.sl (gl a 2)]).bindR fun r1 =>
 .norm [.b (!(gb r1 0))]
 else
 .norm [.b false]) fun v2 =>
 .ret [.b (gb v2 0)]
theorem j8O a:Kk a=j30 a:=(jk ju 204 _ a).trans (by kernel_rfl)
noncomputable def j3O (a:List DC):Out :=
 ja (if ((gi a 0) == (1:Int))=true then
 (kg [.s (gs a 1)]).bindR fun r1 =>
 .ret [.b (gb r1 0)]
 else
 if ((gi a 0) == (2:Int))=true then
 (j1b [.s (gs a 1)]).bindR fun r2 =>
 .ret [.b (gb r2 0)]
 else
 if ((gi a 0) == (3:Int))=true then
 (YO [.s (gs a 1)]).bindR fun r3 =>
 .ret [.b (gb r3 0)]
 else
 if ((gi a 0) == (4:Int))=true then
 (qW [.s (gs a 1)]).bindR fun r4 =>
 .ret [.b (!((gs r4 0) == ([]:List UInt8)))]
 else
 if ((gi a 0) == (5:Int))=true then
 (Xw [.s (gs a 1)]).bindR fun r5 =>
 .ret [.b (gb r5 0)]
 else
 if ((gi a 0) == (6:Int))=true then
 jb ((kg [.s (gs a 1)]).bindR fun r6 =>
 if (gb r6 0)=true then
 (Xw [.s (gs a 1)]).bindR fun r7 =>
 .norm [.b (!(gb r7 0))]
 else
 .norm [.b false]) fun v8 =>
 .ret [.b (gb v8 0)]
 else
 jb (if ((gi a 0) == (7:Int))=true then
 .norm [.b ((gi a 0) == (7:Int)),.i (gi a 0),.s (gs a 1),.sl (gl a 2),.sl (gl a 3)]
 else
 .norm [.b ((gi a 0) == (8:Int)),.i (gi a 0),.s (gs a 1),.sl (gl a 2),.sl (gl a 3)]) fun v9 =>
 if (gb v9 0)=true then
 .ret [.b ((gs v9 2) == ([]:List UInt8))]
 else
 .norm []) 0 fun v10 =>
 .ret [.b false]
theorem ja5 a:ZV a=j3O a:=(jk ju 255 _ a).trans (by kernel_rfl)
noncomputable def j6t (a:List DC):Out :=
 (po [.i (gi a 0),.s (gs a 1),.s (gs a 2),.s (gs a 3),.sl (gl a 4),.sl (gl a 5),.sl (gl a 6),.i (10:Int),.i (120:Int)]).bindR fun r1 =>
 .ret [.b (gb r1 0)]
theorem jbP a:j1g a=j6t a:=(jk ju 167 _ a).trans (by kernel_rfl)
noncomputable def XH (a:List DC):Out :=
 (yM [.s (gs a 0),.s (gs a 1)]).bindR fun r1 =>
 .ret [.s (gs r1 0)]
theorem j24 a:Kf a=XH a:=(jk ju 266 _ a).trans (by kernel_rfl)
noncomputable def X8:List DC → Out:=fun v1 =>
 if (decide ((gi v1 2) < (gi v1 1)))=true then
 ja (if 0 ≤ (gi v1 2) ∧ (gi v1 2) < ((gs v1 0).length:Int) then
 (Jz [.i (((gs v1 0).getD (gi v1 2).toNat 0).toNat:Int)]).bindR fun r2 =>
 if (!(gb r2 0))=true then
 .ret [.b false]
 else
 .norm [.s (gs v1 0),.i (gi v1 1),.i (gi v1 2)]
 else
 .fail) 1 fun v3 =>
 .norm [.s (gs v3 0),.i (gi v3 1),.i (IntKind.i64.wrap ((gi v3 2) + (1:Int)))]
 else
 .ex 0 [.s (gs v1 0)]
noncomputable def j2X (a:List DC):Out :=
 ja (jR X8 [.s (gs a 0),.i ((gs a 0).length:Int),.i (0:Int)]) 0 fun v4 =>
 .ret [.b (!((gs v4 0) == ([]:List UInt8)))]
theorem j8J a:qX a=j2X a:=(jk ju 267 _ a).trans (by kernel_rfl)
noncomputable def Z6 (a:List DC):Out:=match KZ [.s,.s] [.i .i64] YB Jm a with | some r=>.ret r | none=>.fail
theorem j3l a:QB a=Z6 a:=(jk ju 268 Jm a).trans (by kernel_rfl)
noncomputable def j3K (a:List DC):Out :=
 (Kh [.s (gs a 0),.s (gs a 1)]).bindR fun r1 =>
 .ret [.s (gs r1 0),.s (gs r1 1),.b (gb r1 2)]
theorem j9Y a:Xb a=j3K a:=(jk ju 269 _ a).trans (by kernel_rfl)
noncomputable def p9:List DC → Out:=fun v1 =>
 if (decide ((gi v1 2) < (gi v1 1)))=true then
 ja (if 9=9 ∧ 0 ≤ (gi v1 2) ∧ (gi v1 2) < ((gl v1 0).length:Int) then
 (VX [.s ((((gl v1 0).getD (gi v1 2).toNat []).getD 0 d0).ss)]).bindR fun r2 =>
 if (gb r2 0)=true then
 .ret [.i (gi v1 2)]
 else
 .norm [.sl (gl v1 0),.i (gi v1 1),.i (gi v1 2)]
 else
 .fail) 1 fun v3 =>
 .norm [.sl (gl v3 0),.i (gi v3 1),.i (IntKind.i64.wrap ((gi v3 2) + (1:Int)))]
 else
 .ex 0 []
noncomputable def qG (a:List DC):Out :=
 ja (jR p9 [.sl (gl a 0),.i ((gl a 0).length:Int),.i (0:Int)]) 0 fun v4 =>
 .ret [.i (-1:Int)]
theorem Jo a:qD a=qG a:=(jk ju 186 _ a).trans (by kernel_rfl)
noncomputable def kE:List DC → Out:=fun v1 =>
 if (decide ((gi v1 2) < (gi v1 1)))=true then
 ja (if 102=102 ∧ 0 ≤ (gi v1 2) ∧ (gi v1 2) < ((gl v1 0).length:Int) then
 (VW [.i ((((gl v1 0).getD (gi v1 2).toNat []).getD 0 d0).ii),.s ((((gl v1 0).getD (gi v1 2).toNat []).getD 1 d0).ss),.sl ((((gl v1 0).getD (gi v1 2).toNat []).getD 2 d0).ll),.sl ((((gl v1 0).getD (gi v1 2).toNat []).getD 3 d0).ll),.i (gi v1 3)]).bindR fun r2 =>
 if (gb r2 0)=true then
 .ret [.i (gi v1 2),.i (gi r2 1)]
 else
 .norm [.sl (gl v1 0),.i (gi v1 1),.i (gi v1 2),.i (gi r2 1)]
 else
 .fail) 1 fun v3 =>
 .norm [.sl (gl v3 0),.i (gi v3 1),.i (IntKind.i64.wrap ((gi v3 2) + (1:Int))),.i (gi v3 3)]
 else
 .ex 0 [.i (gi v1 3)]
noncomputable def pY (a:List DC):Out :=
 ja (jR kE [.sl (gl a 0),.i ((gl a 0).length:Int),.i (0:Int),.i (gi a 1)]) 0 fun v4 =>
 .ret [.i (-1:Int),.i (gi v4 0)]
theorem zE a:pV a=pY a:=(jk ju 256 _ a).trans (by kernel_rfl)
noncomputable def j23 (a:List DC):Out :=
 jb ((ki [.s (gs a 0)]).bindR fun r1 =>
 if (!(gb r1 0))=true then
 .norm [.b true]
 else
 (Kj [.i (gi a 1),.s (gs a 2),.sl (gl a 3),.sl (gl a 4)]).bindR fun r2 =>
 .norm [.b (!(gb r2 0))]) fun v3 =>
 .ret [.b (gb v3 0)]
theorem j7l a:Qs a=j23 a:=(jk ju 209 _ a).trans (by kernel_rfl)
noncomputable def j2W (a:List DC):Out :=
 (Zr [.s (gs a 0),.s (gs a 1),.s (gs a 2),.s (gs a 3),.b (gb a 4),.i (gi a 5),.s (gs a 6),.sl (gl a 7),.sl (gl a 8),.sl (gl a 9)]).bindR fun r1 =>
 .ret [.b (!(gb r1 0))]
theorem j8I a:Vh a=j2W a:=(jk ju 226 _ a).trans (by kernel_rfl)
noncomputable def j4l (a:List DC):Out :=
 jb ((ki [.s (gs a 0)]).bindR fun r1 =>
 if (gb r1 0)=true then
 (Xx [.s (gs a 0)]).bindR fun r2 =>
 if (!(gb r2 0))=true then
 (JM [.s (gs a 1)]).bindR fun r3 =>
 if (gb r3 0)=true then
 (qM [.sl (gl a 2)]).bindR fun r4 =>
 .norm [.b (gb r4 0)]
 else
 .norm [.b false]
 else
 .norm [.b false]
 else
 .norm [.b false]) fun v5 =>
 .ret [.b (gb v5 0)]
theorem jaF a:j07 a=j4l a:=(jk ju 181 _ a).trans (by kernel_rfl)
noncomputable def j4j (a:List DC):Out :=
 jb ((zD [.i (gi a 0)]).bindR fun r1 =>
 if (!((gs r1 0) == ([]:List UInt8)))=true then
 (ki [.s (gs a 1)]).bindR fun r2 =>
 .norm [.b (gb r2 0)]
 else
 .norm [.b false]) fun v3 =>
 .ret [.b (gb v3 0)]
theorem jaD a:j05 a=j4j a:=(jk ju 184 _ a).trans (by kernel_rfl)
noncomputable def Ze (a:List DC):Out :=
 (ko [.sl (gl a 1)]).bindR fun r1 =>
 .ret [.b (gb r1 0)]
theorem j3s a:Ji a=Ze a:=(jk ju 205 _ a).trans (by kernel_rfl)
noncomputable def pC (a:List DC):Out :=
 (pW [.sl (gl a 0)]).bindR fun r1 =>
 .ret [.b (decide ((gi r1 0) ≥ (0:Int)))]
theorem yK a:kr a=pC a:=(jk ju 237 _ a).trans (by kernel_rfl)
noncomputable def j6f (a:List DC):Out :=
 jb (if (decide (((gs a 0).length:Int) ≤ (40:Int)))=true then
 if (decide (((gs a 0).length:Int) > (0:Int)))=true then
 (Xe [.s (gs a 0)]).bindR fun r1 =>
 .norm [.b ((gi r1 0) == ((gs a 0).length:Int))]
 else
 .norm [.b false]
 else
 .norm [.b false]) fun v2 =>
 .ret [.b (gb v2 0)]
theorem jbA a:j1b a=j6f a:=(jk ju 270 _ a).trans (by kernel_rfl)
noncomputable def j2K (a:List DC):Out :=
 (Xe [.s (gs a 0)]).bindR fun r1 =>
 jb (if (decide (((gs a 0).length:Int) > (40:Int)))=true then
 .norm [.s (gs a 0),.i (gi r1 0),.b true]
 else
 if ((gi r1 0) == (0:Int))=true then
 .norm [.s (gs a 0),.i (gi r1 0),.b true]
 else
 .norm [.s (gs a 0),.i (gi r1 0),.b ((gi r1 0) == ((gs a 0).length:Int))]) fun v2 =>
 if (gb v2 2)=true then
 .ret [.b false]
 else
 if 0 ≤ (gi v2 1) ∧ (gi v2 1) < ((gs v2 0).length:Int) then
 jb (if ((((gs v2 0).getD (gi v2 1).toNat 0).toNat:Int) == (46:Int))=true then
 (qS [.s (gs v2 0),.i (IntKind.i64.wrap ((gi v2 1) + (1:Int)))]).bindR fun r3 =>
 if ((gi r3 0) == (IntKind.i64.wrap ((gi v2 1) + (1:Int))))=true then
 .ret [.b false]
 else
 .norm [.s (gs v2 0),.i (gi r3 0)]
 else
 .norm [.s (gs v2 0),.i (gi v2 1)]) fun v4 =>
 jb (if (decide ((gi v4 1) < ((gs v4 0).length:Int)))=true then
 if 0 ≤ (gi v4 1) ∧ (gi v4 1) < ((gs v4 0).length:Int) then
 if ((((gs v4 0).getD (gi v4 1).toNat 0).toNat:Int) == (101:Int))=true then
 .norm [.s (gs v4 0),.i (gi v4 1),.b true]
 else
 if 0 ≤ (gi v4 1) ∧ (gi v4 1) < ((gs v4 0).length:Int) then
 .norm [.s (gs v4 0),.i (gi v4 1),.b ((((gs v4 0).getD (gi v4 1).toNat 0).toNat:Int) == (69:Int))]
 else
 .fail
 else
 .fail
 else
 .norm [.s (gs v4 0),.i (gi v4 1),.b false]) fun v5 =>
 jb (if (gb v5 2)=true then
 jb (if (decide ((IntKind.i64.wrap ((gi v5 1) + (1:Int))) < ((gs v5 0).length:Int)))=true then
 if 0 ≤ (IntKind.i64.wrap ((gi v5 1) + (1:Int))) ∧ (IntKind.i64.wrap ((gi v5 1) + (1:Int))) < ((gs v5 0).length:Int) then
 if ((((gs v5 0).getD (IntKind.i64.wrap ((gi v5 1) + (1:Int))).toNat 0).toNat:Int) == (43:Int))=true then
 .norm [.s (gs v5 0),.i (IntKind.i64.wrap ((gi v5 1) + (1:Int))),.b true]
 else
 if 0 ≤ (IntKind.i64.wrap ((gi v5 1) + (1:Int))) ∧ (IntKind.i64.wrap ((gi v5 1) + (1:Int))) < ((gs v5 0).length:Int) then
 .norm [.s (gs v5 0),.i (IntKind.i64.wrap ((gi v5 1) + (1:Int))),.b ((((gs v5 0).getD (IntKind.i64.wrap ((gi v5 1) + (1:Int))).toNat 0).toNat:Int) == (45:Int))]
 else
 .fail
 else
 .fail
 else
 .norm [.s (gs v5 0),.i (IntKind.i64.wrap ((gi v5 1) + (1:Int))),.b false]) fun v6 =>
 jb (if (gb v6 2)=true then
 .norm [.s (gs v6 0),.i (IntKind.i64.wrap ((gi v6 1) + (1:Int)))]
 else
 .norm [.s (gs v6 0),.i (gi v6 1)]) fun v7 =>
 (qS [.s (gs v7 0),.i (gi v7 1)]).bindR fun r8 =>
 if ((gi r8 0) == (gi v7 1))=true then
 .ret [.b false]
 else
 .norm [.s (gs v7 0),.i (gi r8 0)]
 else
 .norm [.s (gs v5 0),.i (gi v5 1)]) fun v9 =>
 .ret [.b ((gi v9 1) == ((gs v9 0).length:Int))]
 else
 .fail
theorem j8t a:YO a=j2K a:=(jk ju 271 _ a).trans (by kernel_rfl)
noncomputable def yP (a:List DC):Out :=
 (qq [.s (gs a 0),.s (gs a 1)]).bindR fun r1 =>
 if (gb r1 0)=true then
 if 0 ≤ ((gs a 1).length:Int) ∧ ((gs a 1).length:Int) ≤ ((gs a 0).length:Int) then
 .ret [.s ((gs a 0).drop ((gs a 1).length:Int).toNat)]
 else
 .fail
 else
 .ret [.s (gs a 0)]
theorem QF a:yM a=yP a:=(jk ju 274 _ a).trans (by kernel_rfl)
noncomputable def yG (a:List DC):Out:=match KZ [.s,.s] [.s,.s,.b] jhi qt a with | some r=>.ret r | none=>.fail
theorem Yw a:Kh a=yG a:=(jk ju 276 qt a).trans (by kernel_rfl)
noncomputable def j0U (a:List DC):Out :=
 (ki [.s (gs a 0)]).bindR fun r1 =>
 .ret [.b (!(gb r1 0))]
theorem j5L a:VX a=j0U a:=(jk ju 250 _ a).trans (by kernel_rfl)
noncomputable def j0T (a:List DC):Out :=
 (Ki [.i (gi a 0),.s (gs a 1),.sl (gl a 2),.sl (gl a 3),.i (IntKind.i64.wrap ((gi a 4) - (1:Int)))]).bindR fun r1 =>
 .ret [.b (!(gb r1 0)),.i (gi a 4)]
theorem j5K a:VW a=j0T a:=(jk ju 251 _ a).trans (by kernel_rfl)
noncomputable def pu (a:List DC):Out :=
 (pG [.sl (gl a 0)]).bindR fun r1 =>
 .ret [.b (decide ((gi r1 0) ≥ (0:Int)))]
theorem yu a:ko a=pu a:=(jk ju 206 _ a).trans (by kernel_rfl)
noncomputable def kF:List DC → Out:=fun v1 =>
 if (decide ((gi v1 2) < (gi v1 1)))=true then
 ja (if 102=102 ∧ 0 ≤ (gi v1 2) ∧ (gi v1 2) < ((gl v1 0).length:Int) then
 (KP [.i ((((gl v1 0).getD (gi v1 2).toNat []).getD 0 d0).ii),.s ((((gl v1 0).getD (gi v1 2).toNat []).getD 1 d0).ss),.sl ((((gl v1 0).getD (gi v1 2).toNat []).getD 2 d0).ll),.sl ((((gl v1 0).getD (gi v1 2).toNat []).getD 3 d0).ll)]).bindR fun r2 =>
 if (gb r2 0)=true then
 .ret [.i (gi v1 2)]
 else
 .norm [.sl (gl v1 0),.i (gi v1 1),.i (gi v1 2)]
 else
 .fail) 1 fun v3 =>
 .norm [.sl (gl v3 0),.i (gi v3 1),.i (IntKind.i64.wrap ((gi v3 2) + (1:Int)))]
 else
 .ex 0 []
noncomputable def pZ (a:List DC):Out :=
 ja (jR kF [.sl (gl a 0),.i ((gl a 0).length:Int),.i (0:Int)]) 0 fun v4 =>
 .ret [.i (-1:Int)]
theorem zF a:pW a=pZ a:=(jk ju 256 _ a).trans (by kernel_rfl)
noncomputable def Xn (a:List DC):Out :=
 jb (if (decide (((gs a 0).length:Int) > (0:Int)))=true then
 if 0 ≤ (0:Int) ∧ (0:Int) < ((gs a 0).length:Int) then
 .norm [.s (gs a 0),.i (0:Int),.b ((((gs a 0).getD (0:Int).toNat 0).toNat:Int) == (45:Int))]
 else
 .fail
 else
 .norm [.s (gs a 0),.i (0:Int),.b false]) fun v1 =>
 jb (if (gb v1 2)=true then
 .norm [.s (gs v1 0),.i (1:Int)]
 else
 .norm [.s (gs v1 0),.i (gi v1 1)]) fun v2 =>
 (qS [.s (gs v2 0),.i (gi v2 1)]).bindR fun r3 =>
 jb (if ((gi r3 0) == (gi v2 1))=true then
 .norm [.i (gi r3 0),.b true]
 else
 if 0 ≤ (gi v2 1) ∧ (gi v2 1) < ((gs v2 0).length:Int) then
 if ((((gs v2 0).getD (gi v2 1).toNat 0).toNat:Int) == (48:Int))=true then
 .norm [.i (gi r3 0),.b (decide ((gi r3 0) > (IntKind.i64.wrap ((gi v2 1) + (1:Int)))))]
 else
 .norm [.i (gi r3 0),.b false]
 else
 .fail) fun v4 =>
 if (gb v4 1)=true then
 .ret [.i (0:Int)]
 else
 .ret [.i (gi v4 0)]
theorem ja7 a:Xe a=Xn a:=(jk ju 277 _ a).trans (by kernel_rfl)
noncomputable def Qv:List DC → Out:=fun v1 =>
 jb (if (decide ((gi v1 1) < ((gs v1 0).length:Int)))=true then
 if 0 ≤ (gi v1 1) ∧ (gi v1 1) < ((gs v1 0).length:Int) then
 (zW [.i (((gs v1 0).getD (gi v1 1).toNat 0).toNat:Int)]).bindR fun r2 =>
 .norm [.s (gs v1 0),.i (gi v1 1),.b (gb r2 0)]
 else
 .fail
 else
 .norm [.s (gs v1 0),.i (gi v1 1),.b false]) fun v3 =>
 if (gb v3 2)=true then
 ja (.norm [.s (gs v3 0),.i (IntKind.i64.wrap ((gi v3 1) + (1:Int)))]) 1 fun v4 =>
 .norm [.s (gs v4 0),.i (gi v4 1)]
 else
 .ex 0 [.i (gi v3 1)]
noncomputable def j3P (a:List DC):Out :=
 ja (jR Qv [.s (gs a 0),.i (gi a 1)]) 0 fun v5 =>
 .ret [.i (gi v5 0)]
theorem ja6 a:qS a=j3P a:=(jk ju 278 _ a).trans (by kernel_rfl)
noncomputable def zu (a:List DC):Out :=
 jb (if (decide (((gs a 0).length:Int) ≥ ((gs a 1).length:Int)))=true then
 if 0 ≤ ((gs a 1).length:Int) ∧ ((gs a 1).length:Int) ≤ ((gs a 0).length:Int) then
 .norm [.b (((gs a 0).take ((gs a 1).length:Int).toNat) == (gs a 1))]
 else
 .fail
 else
 .norm [.b false]) fun v1 =>
 .ret [.b (gb v1 0)]
theorem QY a:qq a=zu a:=(jk ju 259 _ a).trans (by kernel_rfl)
noncomputable def kz:List DC → Out:=fun v1 =>
 if (decide ((gi v1 2) < (gi v1 1)))=true then
 ja (if 211=211 ∧ 0 ≤ (gi v1 2) ∧ (gi v1 2) < ((gl v1 0).length:Int) then
 (ze [.s ((((gl v1 0).getD (gi v1 2).toNat []).getD 0 d0).ss),.i ((((gl v1 0).getD (gi v1 2).toNat []).getD 1 d0).ii),.s ((((gl v1 0).getD (gi v1 2).toNat []).getD 2 d0).ss),.sl ((((gl v1 0).getD (gi v1 2).toNat []).getD 3 d0).ll),.sl ((((gl v1 0).getD (gi v1 2).toNat []).getD 4 d0).ll)]).bindR fun r2 =>
 if (gb r2 0)=true then
 .ret [.i (gi v1 2)]
 else
 .norm [.sl (gl v1 0),.i (gi v1 1),.i (gi v1 2)]
 else
 .fail) 1 fun v3 =>
 .norm [.sl (gl v3 0),.i (gi v3 1),.i (IntKind.i64.wrap ((gi v3 2) + (1:Int)))]
 else
 .ex 0 []
noncomputable def pI (a:List DC):Out :=
 ja (jR kz [.sl (gl a 0),.i ((gl a 0).length:Int),.i (0:Int)]) 0 fun v4 =>
 .ret [.i (-1:Int)]
theorem yR a:pG a=pI a:=(jk ju 239 _ a).trans (by kernel_rfl)
noncomputable def j13 (a:List DC):Out :=
 (Kk [.i (gi a 0),.s (gs a 1),.sl (gl a 2),.sl (gl a 3)]).bindR fun r1 =>
 .ret [.b (!(gb r1 0))]
theorem j5U a:KP a=j13 a:=(jk ju 238 _ a).trans (by kernel_rfl)
noncomputable def XI (a:List DC):Out :=
 (Kk [.i (gi a 1),.s (gs a 2),.sl (gl a 3),.sl (gl a 4)]).bindR fun r1 =>
 .ret [.b (!(gb r1 0))]
theorem j25 a:ze a=XI a:=(jk ju 207 _ a).trans (by kernel_rfl)
set_option linter.unusedSimpArgs false
theorem zK (x:UInt8) (n:Nat) (hn:n < 256):((x.toNat:Int) == (n:Int))=(x == UInt8.ofNat n):=by
 rw [Bool.eq_iff_iff,beq_iff_eq,beq_iff_eq,← UInt8.toNat_inj]
 simp only [UInt8.toNat_ofNat',Nat.mod_eq_of_lt hn]
 omega
def qQ (b:UInt8):Bool:=decide (48 ≤ b.toNat) && decide (b.toNat ≤ 57)
def tw (l:List UInt8):Nat:=(l.takeWhile qQ).length
theorem jhM (l:List UInt8):tw l ≤ l.length:=by
 have:=(List.takeWhile_prefix qQ (l:=l)).length_le
 exact this
theorem YI (b:UInt8):zW [.i (b.toNat:Int)] = .ret [.b (qQ b)]:=by
 rw [j5y]
 simp only [j0H,jr,jv,zb,zi,qQ]
 by_cases h:48 ≤ b.toNat
 ·have h1:(b.toNat:Int) ≥ 48:=by omega
  simp [h,h1]
  omega
 ·have h1:¬ (b.toNat:Int) ≥ 48:=by omega
  simp [h,h1]
theorem j0d (b:UInt8):Jz [.i (b.toNat:Int)] = .ret [.b (qQ b)]:=by
 rw [j7b]
 simp only [j1W,jr,jv,zb,zi,qQ]
 by_cases h:48 ≤ b.toNat
 ·have h1:(b.toNat:Int) ≥ 48:=by omega
  simp [h,h1]
  omega
 ·have h1:¬ (b.toNat:Int) ≥ 48:=by omega
  simp [h,h1]
theorem jgP (f:UInt8 → Bool):∀ (l:List UInt8) (i:Nat),goF (fun x=>!f x) (fun i _=>.ex 0 [.i (i:Int)]) (.ex 0 [.i ((i + l.length:Nat):Int)]) i l = .ex 0 [.i ((i + (l.takeWhile f).length:Nat):Int)]
 | [],i=>rfl
 | x :: l,i=>by
  rw [goF]
  cases h:f x with
  | false=>simp [h]
  | true =>
   have:=jgP f l (i + 1)
   simp only [j4,List.takeWhile_cons,h,if_true,jh,zf,if_false]
   rw [show i + (l.length + 1)=i + 1 + l.length by omega,this]
   congr 4
   omega
theorem Xu (s:List UInt8) (i:Nat) (hi:i ≤ s.length) (hs:s.length ≤ 1048576):qS [.s s,.i (i:Int)] = .ret [.i ((i + tw (s.drop i):Nat):Int)]:=by
 rw [ja6]
 simp only [j3P,jr,jv,zb,zi,zs]
 have:=j7w (l:=s) (st:=fun i=>[.s s,.i (i:Int)]) (p:=fun x=>!qQ x) (stop:=fun i _=>.ex 0 [.i (i:Int)]) (fin:=.ex 0 [.i (s.length:Int)]) (F:=Qv) (fun i hi=>?step) (fun _ _=>jG _ _) ?fin (jG _ _) (s.length - i) i (by omega)
 ·have e:((s.length:Nat):Int)=((i + (s.drop i).length:Nat):Int):=by rw [List.length_drop]; omega
  rw [e,jgP qQ (s.drop i) i] at this
  rw [this]
  rfl
 case step =>
  have hg:s.getD i 0=s[i]:=by rw [List.getD_eq_getElem?_getD,List.getElem?_eq_getElem hi]; rfl
  simp only [Qv,jr,jv,zb,zi,zs,j7,hg,YI]
  cases hf:qQ s[i] <;> simp [hi,hf,jp hi (show s.length ≤ 9223372036854775807 by omega)]
 case fin=>simp [Qv]
def sgn (s:List UInt8):Nat:=if s.head? = some 45 then 1 else 0
theorem jfN (s:List UInt8):sgn s ≤ s.length:=by
 unfold sgn
 split
 ·rename_i h
  cases s with
  | nil=>simp at h
  | cons _ _=>simp
 ·omega
def zX (s:List UInt8):Nat:=if tw (s.drop (sgn s))=0 then 0 else if s.getD (sgn s) 0=48 ∧ 1 < tw (s.drop (sgn s)) then 0 else sgn s + tw (s.drop (sgn s))
theorem j7G (s:List UInt8) (hs:s.length ≤ 1048576):Xe [.s s] = .ret [.i (zX s:Int)]:=by
 rw [ja7]
 cases s with
 | nil =>
  have hr:qS [.s [],.i 0] = .ret [.i 0]:=Xu [] 0 (by simp) (by simp)
  simp [Xn,hr,zX,sgn,tw]
 | cons a l =>
  have hpos:decide (((a :: l).length:Int) > 0)=true:=by simp
  have hpos':0 ≤ (0:Int) ∧ (0:Int) < ((a :: l).length:Int):=by simp
  have h0:(a :: l).getD (0:Int).toNat 0=a:=rfl
  by_cases h:a=45
  ·subst h
   have hsg:sgn (45 :: l)=1:=rfl
   have hr:qS [.s (45 :: l),.i 1] = .ret [.i ((1 + tw l:Nat):Int)]:=Xu (45 :: l) 1 (by simp) hs
   have h45:(((45:UInt8).toNat:Int) == 45)=true:=rfl
   simp only [Xn,jr,jv,zb,zi,zs,hpos,hpos',if_true,and_self,decide_true,h0,h45,j8,hr,zr]
   have hil:zX (45 :: l)=if tw l=0 then 0 else if l.getD 0 0=48 ∧ 1 < tw l then 0 else 1 + tw l:=rfl
   have hle:=jhM l
   rw [hil]
   rcases Nat.eq_zero_or_pos (tw l) with ht | ht
   ·simp [ht]
   ·have hl:l ≠ []:=by
     intro e
     rw [e] at ht
     simp [tw] at ht
    have e1:(((1 + tw l:Nat):Int) == 1)=false:=beq_eq_false_iff_ne.2 (by omega)
    have hlen:0 < l.length:=by omega
    have e2:0 ≤ (1:Int) ∧ (1:Int) < ((45 :: l).length:Int):=by rw [j4]; omega
    have e3:(45 :: l).getD (1:Int).toNat 0=l.getD 0 0:=rfl
    have e4:=zK (l.getD 0 0) 48 (by omega)
    have e4':(((l.getD 0 0).toNat:Int) == 48)=(l.getD 0 0 == 48):=e4
    have e5:IntKind.i64.wrap ((1:Int) + 1)=2:=by decide
    simp only [e1,e2,e3,e4',e5,zf,if_false,if_true,and_self,show ¬ tw l=0 by omega]
    by_cases h48:l.getD 0 0=48
    ·have e6:(l.getD 0 0 == 48)=true:=beq_iff_eq.2 h48
     by_cases h1:1 < tw l
     ·have e7:decide (((1 + tw l:Nat):Int) > 2)=true:=decide_eq_true (by omega)
      simp only [e6,e7,h48,h1,beq_self_eq_true,if_true,j8,jr,jv,zb,zi,and_self]
      rfl
     ·have e7:decide (((1 + tw l:Nat):Int) > 2)=false:=decide_eq_false (by omega)
      simp only [e6,e7,h48,h1,beq_self_eq_true,if_true,j8,jr,jv,zb,zi,zf,if_false,and_false]
    ·have e6:(l.getD 0 0 == 48)=false:=beq_eq_false_iff_ne.2 h48
     simp only [e6,h48,if_true,j8,jr,jv,zb,zi,zf,if_false,false_and]
  ·have hsg:sgn (a :: l)=0:=by simp [sgn,h]
   have hr:qS [.s (a :: l),.i 0] = .ret [.i ((tw (a :: l):Nat):Int)]:=by
    have:=Xu (a :: l) 0 (by simp) hs
    simpa using this
   have h45:((a.toNat:Int) == 45)=false:=(zK a 45 (by omega)).trans (beq_eq_false_iff_ne.2 h)
   simp only [Xn,jr,jv,zb,zi,zs,hpos,hpos',if_true,and_self,decide_true,h0,h45,j8,hr,zr,zf,if_false]
   have hil:zX (a :: l)=if tw (a :: l)=0 then 0 else if a=48 ∧ 1 < tw (a :: l) then 0 else tw (a :: l):=by
    unfold zX
    rw [hsg]
    simp only [List.drop_zero,Nat.zero_add]
    rfl
   rw [hil]
   generalize tw (a :: l)=n
   rcases Nat.eq_zero_or_pos n with ht | ht
   ·simp [ht]
   ·have e1:((n:Int) == 0)=false:=beq_eq_false_iff_ne.2 (by omega)
    have e4':((a.toNat:Int) == 48)=(a == 48):=zK a 48 (by omega)
    have e5:IntKind.i64.wrap ((0:Int) + 1)=1:=by decide
    simp only [e1,e4',e5,zf,if_false,if_true,show ¬ n=0 by omega]
    by_cases h48:a=48
    ·have e6:(a == 48)=true:=beq_iff_eq.2 h48
     by_cases h1:1 < n
     ·have e7:decide ((n:Int) > 1)=true:=decide_eq_true (by omega)
      simp only [e6,e7,h48,h1,beq_self_eq_true,if_true,j8,jr,jv,zb,zi,and_self]
      rfl
     ·have e7:decide ((n:Int) > 1)=false:=decide_eq_false (by omega)
      simp only [e6,e7,h48,h1,beq_self_eq_true,if_true,j8,jr,jv,zb,zi,zf,if_false,and_false]
    ·have e6:(a == 48)=false:=beq_eq_false_iff_ne.2 h48
     simp only [e6,h48,if_true,j8,jr,jv,zb,zi,zf,if_false,false_and]
def j3A (s:List UInt8):Bool:=decide (s.length ≤ 40) && (decide (0 < s.length) && (zX s == s.length))
theorem jfJ (s:List UInt8) (hs:s.length ≤ 1048576):j1b [.s s] = .ret [.b (j3A s)]:=by
 rw [jbA]
 simp only [j6f,jr,jv,zb,zi,zs,j7G s hs,zr,j3A]
 by_cases h1:s.length ≤ 40
 ·have e1:decide ((s.length:Int) ≤ 40)=true:=decide_eq_true (by omega)
  by_cases h2:0 < s.length
  ·have e2:decide ((s.length:Int) > 0)=true:=decide_eq_true (by omega)
   have e3:((zX s:Int) == (s.length:Int))=(zX s == s.length):=by
    rw [Bool.eq_iff_iff,beq_iff_eq,beq_iff_eq]; omega
   simp only [e1,e2,e3,h1,h2,decide_true,jC,if_true,j8,jr,zb]
  ·have e2:decide ((s.length:Int) > 0)=false:=decide_eq_false (by omega)
   simp only [e1,e2,h1,h2,decide_true,decide_false,jC,jP,if_true,if_false,zf,j8,jr,zb]
 ·have e1:decide ((s.length:Int) ≤ 40)=false:=decide_eq_false (by omega)
  simp only [e1,h1,decide_false,jP,if_false,zf,j8,jr,zb]
def j5s (l:List UInt8):Bool:=!(l == []) && l.all qQ
theorem j1q (s:List UInt8) (hs:s.length ≤ 1048576):qX [.s s] = .ret [.b (j5s s)]:=by
 rw [j8J]
 simp only [j2X,jr,jv,zb,zi,zs]
 rw [show (0:Int)=((0:Nat):Int) from rfl,kb (l:=s) (st:=fun i=>[.s s,.i (s.length:Int),.i (i:Int)]) (p:=fun x=>!qQ x) (stop:=fun i _=>.ret [.b false]) (fin:=.ex 0 [.s s]) (fun i hi=>?step) (fun _ _=>Out.esc_ret _) ?fin (jG _ _),qU]
 ·unfold j5s
  cases h:s.any fun x=>!qQ x with
  | true =>
   have:s.all qQ=false:=by
    rw [List.any_eq_true] at h
    obtain ⟨x,hx,h⟩:=h
    rw [List.all_eq_false]
    exact ⟨x,hx,by simpa using h⟩
   simp [this]
  | false =>
   have:s.all qQ=true:=by
    rw [List.any_eq_false] at h
    rw [List.all_eq_true]
    intro x hx
    simpa using h x hx
   simp [this]
 case step =>
  have hg:s.getD i 0=s[i]:=by rw [List.getD_eq_getElem?_getD,List.getElem?_eq_getElem hi]; rfl
  simp only [X8,jr,jv,zb,zi,zs,j7,hg,j0d]
  cases hf:qQ s[i] <;> simp [hi,hf,jp hi (show s.length ≤ 9223372036854775807 by omega)]
 case fin=>simp [X8]
theorem ZQ {f:UInt8 → Bool}:∀ {l:List UInt8},(l.takeWhile f).length=l.length ↔ l.all f=true
 | []=>by simp
 | x :: l=>by
  have ih:=ZQ (f:=f) (l:=l)
  rw [List.takeWhile_cons,List.all_cons]
  cases f x <;> simp [ih]
theorem j16 (s:List UInt8):Kf [.s s,.s [45]] = .ret [.s (s.drop (sgn s))]:=by
 rw [j24]
 simp only [XH,jr,jv,zs]
 rw [QF]
 simp only [yP,jr,jv,zs]
 have h:qq [.s s,.s [45]] = .ret [.b (decide (sgn s=1))]:=by
  rw [QY]
  simp only [zu,jr,jv,zs]
  cases s with
  | nil=>simp [sgn]
  | cons a l =>
   by_cases h:a=45
   ·subst h
    have hl:(1:Int) ≤ (l.length:Int) + 1:=by omega
    simp [sgn,hl]
   ·have hl:(1:Int) ≤ (l.length:Int) + 1:=by omega
    simp [sgn,h,hl]
 rw [h]
 unfold sgn
 cases s with
 | nil=>simp
 | cons a l =>
  by_cases h:a=45
  ·subst h
   have hl:(1:Int) ≤ (l.length:Int) + 1:=by omega
   simp [hl]
  ·simp [h]
theorem jiA (s:List UInt8):j3A s=(decide (s.length ≤ 40) && (j5s (s.drop (sgn s)) && (s.drop (sgn s) == [48] || !((s.drop (sgn s)).getD 0 0 == 48)))):=by
 unfold j3A
 congr 1
 have hle:=jfN s
 have hlen:(s.drop (sgn s)).length=s.length - sgn s:=List.length_drop
 have hg:s.getD (sgn s) 0=(s.drop (sgn s)).getD 0 0:=by simp [List.getD_eq_getElem?_getD,List.getElem?_drop]
 have hall:=ZQ (f:=qQ) (l:=s.drop (sgn s))
 unfold zX tw j5s
 rw [hg]
 generalize s.drop (sgn s)=d at *
 have htl:=(List.takeWhile_prefix qQ (l:=d)).length_le
 generalize (d.takeWhile qQ).length=n at *
 rw [Bool.eq_iff_iff]
 simp only [jj,Bool.or_eq_true,decide_eq_true_eq,beq_iff_eq,Bool.not_eq_true',beq_eq_false_iff_ne,ne_eq]
 rw [← hall]
 cases d with
 | nil =>
  have:n=0:=by simpa using htl
  subst this
  simp
  omega
 | cons a l =>
  simp only [j4] at hlen htl hall
  by_cases h0:n=0
  ·simp [h0]; omega
  ·by_cases h48:a=48
   ·subst h48
    cases l with
    | nil =>
     have h1:¬ 1 < n:=by simp at htl; omega
     simp only [j4,j6] at *
     simp [h0,h1]
     omega
    | cons b l =>
     simp only [j4] at *
     by_cases h1:1 < n
     ·simp [h0,h1]
      omega
     ·simp [h0,h1]
      omega
   ·simp [h0,h48]; omega
theorem j9R (s:List UInt8) (hs:s.length ≤ 1048576):Vm [.s s] = .ret [.b (j3A s)]:=by
 rw [jbQ,jiA]
 have hd:(s.drop (sgn s)).length ≤ 1048576:=by rw [List.length_drop]; omega
 simp only [j6u,jr,jv,zb,zi,zs,j16,zr,j1q _ hd]
 generalize s.drop (sgn s)=d
 by_cases h1:s.length ≤ 40
 ·have e1:decide ((s.length:Int) ≤ 40)=true:=decide_eq_true (by omega)
  cases hf:j5s d with
  | false=>simp [e1,h1,hf]
  | true =>
   cases d with
   | nil=>simp [j5s] at hf
   | cons a l =>
    have e3:((a.toNat:Int) != 48) = !(a == 48):=congrArg (!·) (zK a 48 (by omega))
    have e4:0 ≤ (0:Int) ∧ (0:Int) < ((a :: l).length:Int):=by simp
    have e5:(a :: l).getD (0:Int).toNat 0=a:=rfl
    have e6:(a :: l).getD 0 0=a:=rfl
    cases hb:((a :: l) == [48]) <;> simp only [e1,h1,hf,e4,e5,e6,hb,e3,decide_true,if_true,if_false,zf,and_self,j8,jr,zb,jC,Bool.true_or,jW]
 ·have e1:decide ((s.length:Int) ≤ 40)=false:=decide_eq_false (by omega)
  simp [e1,h1]
def isE (b:UInt8):Bool:=b == 101 || b == 69
def sg2 (p:List UInt8):Nat:=if p.head? = some 43 ∨ p.head? = some 45 then 1 else 0
def j3H:List UInt8 → Bool
 | []=>true
 | c :: r=>isE c && j5s (r.drop (sg2 r))
def j5c:List UInt8 → Bool
 | []=>true
 | c :: r=>if c=46 then !(tw r == 0) && j3H (r.dropWhile qQ) else j3H (c :: r)
def jdx (s:List UInt8):Bool:=decide (s.length ≤ 40) && (!(zX s == 0) && (!(zX s == s.length) && j5c (s.drop (zX s))))
theorem jgV (l:List UInt8):l.drop (tw l)=l.dropWhile qQ:=by
 unfold tw
 induction l with
 | nil=>rfl
 | cons x l ih =>
  rw [List.takeWhile_cons,List.dropWhile_cons]
  cases qQ x <;> simp [ih]
theorem jbW {o:Out} {K:List DC → Out} {R:Out} (n:Nat) (st:Nat → List DC) (g:Nat → Out) (hK:∀ i,i ≤ n → K (st i)=g i)
  (ho:(∃ i,i ≤ n ∧ o = .norm (st i) ∧ R=g i) ∨ ∃ v,o = .ret v ∧ R = .ret v):o.andThen K=R:=by
 rcases ho with ⟨i,h1,rfl,rfl⟩ | ⟨v,rfl,rfl⟩
 ·exact hK i h1
 ·rfl
theorem jgS (p:List UInt8):j5s p=(!(tw p == 0) && tw p == p.length):=by
 unfold j5s
 have h:=ZQ (f:=qQ) (l:=p)
 have e:(tw p == p.length)=p.all qQ:=by
  rw [Bool.eq_iff_iff,beq_iff_eq]; exact h
 rw [e]
 cases p with
 | nil=>rfl
 | cons a l =>
  cases ha:(a :: l).all qQ with
  | false=>simp
  | true =>
   have:=h.2 ha
   have:tw (a :: l)=l.length + 1:=this
   simp [this]
theorem jcx (s:List UInt8):zX s ≤ s.length:=by
 have h1:=jfN s
 have h2:=jhM (s.drop (sgn s))
 rw [List.length_drop] at h2
 unfold zX
 split
 ·omega
 ·split <;> omega
theorem j7n {s:List UInt8} {i:Nat} {c:UInt8} {r:List UInt8} (h:s.drop i=c :: r):i < s.length ∧ s.getD i 0=c ∧ s.drop (i + 1)=r:=by
 have hl:i < s.length:=by
  rcases jA i s.length with h' | h'
  ·exact h'
  ·rw [List.drop_eq_nil_of_le h'] at h; cases h
 rw [List.drop_eq_getElem_cons hl] at h
 injection h with h1 h2
 exact ⟨hl,by rw [List.getD_eq_getElem?_getD,List.getElem?_eq_getElem hl]; exact h1,h2⟩
theorem jd3 (s:List UInt8) (hs:s.length ≤ 1048576):YO [.s s] = .ret [.b (jdx s)]:=by
 rw [j8t]
 simp only [j2K,jr,jv,zb,zi,zs,j7G s hs,zr,jdx]
 have hle:=jcx s
 generalize zX s=n at *
 rcases jA 40 s.length with h40 | h40
 ·have h40':¬ s.length ≤ 40:=by omega
  have e1:decide ((s.length:Int) > 40)=true:=decide_eq_true (by omega)
  simp [e1,h40']
 have e1:decide ((s.length:Int) > 40)=false:=decide_eq_false (by omega)
 by_cases h0:n=0
 ·subst h0; simp [e1,h40]
 by_cases hn:n=s.length
 ·have e2:((n:Int) == 0)=false:=beq_eq_false_iff_ne.2 (by omega)
  have e3:((n:Int) == (s.length:Int))=true:=beq_iff_eq.2 (by omega)
  have e4:(n == s.length)=true:=beq_iff_eq.2 hn
  simp only [e1,e2,e3,e4,zf,if_false,if_true,j8,jr,jv,zb,beq_self_eq_true,jh,jP,jT]
 have e2:((n:Int) == 0)=false:=beq_eq_false_iff_ne.2 (by omega)
 have e3:((n:Int) == (s.length:Int))=false:=beq_eq_false_iff_ne.2 (by omega)
 have e4:0 ≤ (n:Int) ∧ (n:Int) < (s.length:Int):=by omega
 have e5:(n == 0)=false:=beq_eq_false_iff_ne.2 h0
 have e6:(n == s.length)=false:=beq_eq_false_iff_ne.2 hn
 simp only [e1,e2,e3,e4,e5,e6,h40,zf,if_false,if_true,j8,jr,jv,zb,zi,zs,and_self,j7,decide_true,jn,jC]
 refine jbW s.length (fun i=>[.s s,.i (i:Int)]) (fun i=>.ret [.b (j3H (s.drop i))]) (fun i hi=>?hK) ?ho
 case ho =>
  cases hd:s.drop n with
  | nil=>have:=List.length_drop (l:=s) (i:=n); rw [hd] at this; simp at this; omega
  | cons c r =>
   obtain ⟨hl,hg,hr⟩:=j7n hd
   rw [hg,jp hl (by omega)]
   have hc:((c.toNat:Int) == 46)=(c == 46):=zK c 46 (by omega)
   rw [hc,j5c]
   by_cases h46:c=46
   ·subst h46
    rw [Xu s (n + 1) (by omega) hs,hr]
    simp only [zr,jr,zi,beq_self_eq_true,if_true]
    by_cases ht:tw r=0
    ·right
     exact ⟨[.b false],by simp only [ht,Nat.add_zero,beq_self_eq_true,if_true],by simp [ht]⟩
    ·left
     have e:(((n + 1 + tw r:Nat):Int) == ((n + 1:Nat):Int))=false:=beq_eq_false_iff_ne.2 (by omega)
     have hle2:=jhM r
     have hrl:r.length=s.length - (n + 1):=by rw [← hr,List.length_drop]
     refine ⟨n + 1 + tw r,by omega,by rw [e]; rfl,?_⟩
     rw [← List.drop_drop,hr,jgV]
     simp [ht]
   ·have e:(c == 46)=false:=beq_eq_false_iff_ne.2 h46
    left
    refine ⟨n,by omega,by rw [e]; rfl,?_⟩
    rw [hd,if_neg h46]
 case hK =>
  have fin:∀ (k:Nat) (p:List UInt8),k ≤ s.length → s.drop k=p → jb ((qS [.s s,.i (k:Int)]).bindR fun r8=>if ((gi r8 0) == (k:Int))=true then .ret [.b false] else .norm [.s s,.i (gi r8 0)])
    (fun v9=>.ret [.b ((gi v9 1) == ((gs v9 0).length:Int))]) = .ret [.b (j5s p)]:=by
   intro k p hk hp
   rw [Xu s k hk hs,hp,jgS]
   have hpl:p.length=s.length - k:=by rw [← hp,List.length_drop]
   simp only [zr,jr,zi]
   by_cases ht:tw p=0
   ·simp [ht]
   ·have e:(((k + tw p:Nat):Int) == (k:Int))=false:=beq_eq_false_iff_ne.2 (by omega)
    have e2:(((k + tw p:Nat):Int) == (s.length:Int))=(tw p == p.length):=by
     rw [Bool.eq_iff_iff,beq_iff_eq,beq_iff_eq]; omega
    have e3:(tw p == 0)=false:=beq_eq_false_iff_ne.2 ht
    simp only [e,e2,e3,zf,if_false,j8,jr,jv,zi,zs,jn,jC]
  cases hd:s.drop i with
  | nil =>
   have hge:=List.drop_eq_nil_iff.1 hd
   have e1:decide ((i:Int) < (s.length:Int))=false:=decide_eq_false (by omega)
   have e2:((i:Int) == (s.length:Int))=true:=beq_iff_eq.2 (by omega)
   simp only [jr,jv,zb,zi,zs,e1,zf,if_false,j8,e2,j3H]
  | cons c r =>
   obtain ⟨hl,hg,hr⟩:=j7n hd
   have e1:decide ((i:Int) < (s.length:Int))=true:=decide_eq_true (by omega)
   have e2:0 ≤ (i:Int) ∧ (i:Int) < (s.length:Int):=by omega
   have c1:((c.toNat:Int) == 101)=(c == 101):=zK c 101 (by omega)
   have c2:((c.toNat:Int) == 69)=(c == 69):=zK c 69 (by omega)
   have w1:=jp hl (show s.length ≤ 9223372036854775807 by omega)
   have first:∀ K:List DC → Out,jb (if (c == 101)=true then .norm [.s s,.i (i:Int),.b true] else .norm [.s s,.i (i:Int),.b (c == 69)]) K=K [.s s,.i (i:Int),.b (isE c)]:=by
    intro K
    unfold isE
    cases hc:(c == 101) <;> simp
   simp only [jr,jv,zb,zi,zs,e1,e2,if_true,and_self,decide_true,j7,hg,c1,c2,first,j3H]
   cases hE:isE c with
   | false =>
    have e3:((i:Int) == (s.length:Int))=false:=beq_eq_false_iff_ne.2 (by omega)
    simp only [zf,if_false,j8,jr,jv,zb,zi,zs,e3,jP]
   | true =>
    simp only [if_true,w1,jC]
    cases r with
    | nil =>
     have hge:=List.drop_eq_nil_iff.1 hr
     have e3:decide (((i + 1:Nat):Int) < (s.length:Int))=false:=decide_eq_false (by omega)
     have:=fin (i + 1) [] (by omega) hr
     simp only [e3,zf,if_false,j8,jr,jv,zb,zi,zs]
     exact this
    | cons d q =>
     obtain ⟨hl2,hg2,hr2⟩:=j7n hr
     have e3:decide (((i + 1:Nat):Int) < (s.length:Int))=true:=decide_eq_true (by omega)
     have e4:0 ≤ ((i + 1:Nat):Int) ∧ ((i + 1:Nat):Int) < (s.length:Int):=by omega
     have w2:=jp hl2 (show s.length ≤ 9223372036854775807 by omega)
     have d1:((d.toNat:Int) == 43)=(d == 43):=zK d 43 (by omega)
     have d2:((d.toNat:Int) == 45)=(d == 45):=zK d 45 (by omega)
     have second:∀ K:List DC → Out,jb (if (d == 43)=true then .norm [.s s,.i ((i + 1:Nat):Int),.b true] else .norm [.s s,.i ((i + 1:Nat):Int),.b (d == 45)]) K=K [.s s,.i ((i + 1:Nat):Int),.b (d == 43 || d == 45)]:=by
      intro K
      cases hc:(d == 43) <;> simp
     simp only [e3,e4,if_true,and_self,decide_true,j7,hg2,d1,d2,second,jr,jv,zb,zi,zs,w2]
     cases hs2:(d == 43 || d == 45) with
     | true =>
      have hsg:sg2 (d :: q)=1:=by
       unfold sg2
       rw [Bool.or_eq_true,beq_iff_eq,beq_iff_eq] at hs2
       simp [hs2]
      have:=fin (i + 1 + 1) q (by omega) hr2
      simp only [if_true,j8,jr,jv,zb,zi,zs,hsg,List.drop_succ_cons,List.drop_zero]
      exact this
     | false =>
      have hsg:sg2 (d :: q)=0:=by
       unfold sg2
       rw [Bool.or_eq_false_iff,beq_eq_false_iff_ne,beq_eq_false_iff_ne] at hs2
       simp [hs2]
      have:=fin (i + 1) (d :: q) (by omega) hr
      simp only [zf,if_false,j8,jr,jv,zb,zi,zs,hsg,List.drop_zero]
      exact this
def qZ (b:UInt8):Bool:=!isE b
def Q2 (b:UInt8):Bool:=!(b == 46)
theorem j7Z:∀ s:List UInt8,Lib.indexAny s [101,69]=if s.dropWhile qZ=[] then -1 else ((s.takeWhile qZ).length:Int)
 | []=>rfl
 | x :: l=>by
  have ih:=j7Z l
  have hc:[101,69].contains x=isE x:=by
   unfold isE
   simp only [List.contains,List.elem]
   cases x == 101 <;> cases x == 69 <;> rfl
  rw [Lib.indexAny,hc,ih,List.dropWhile_cons,List.takeWhile_cons,show qZ x=(!isE x) from rfl]
  cases isE x with
  | true=>simp
  | false =>
   simp only [jn,if_true,zf,if_false,j4]
   by_cases h:l.dropWhile qZ=[]
   ·simp [h]
   ·rw [if_neg h,if_neg h,beq_eq_false_iff_ne.2 (show ¬ ((l.takeWhile qZ).length:Int) = -1 by omega)]
    simp only [zf,if_false]
    omega
theorem jeG:∀ s:List UInt8,Lib.index s [46]=if s.dropWhile Q2=[] then -1 else ((s.takeWhile Q2).length:Int)
 | []=>rfl
 | x :: l=>by
  have ih:=jeG l
  have hc:[46].isPrefixOf (x :: l)=(x == 46):=by
   simp only [List.isPrefixOf,jS]
   rw [Bool.eq_iff_iff,beq_iff_eq,beq_iff_eq]
   exact ⟨Eq.symm,Eq.symm⟩
  rw [Lib.index,hc,ih,List.dropWhile_cons,List.takeWhile_cons,show Q2 x=(!(x == 46)) from rfl]
  cases x == 46 with
  | true=>simp
  | false =>
   simp only [jn,if_true,zf,if_false,j4]
   by_cases h:l.dropWhile Q2=[]
   ·simp [h]
   ·rw [if_neg h,if_neg h,beq_eq_false_iff_ne.2 (show ¬ ((l.takeWhile Q2).length:Int) = -1 by omega)]
    simp only [zf,if_false]
    omega
theorem jgu (f:UInt8 → Bool) (s:List UInt8):s.take (s.takeWhile f).length=s.takeWhile f:=by
 induction s with
 | nil=>rfl
 | cons x l ih =>
  rw [List.takeWhile_cons]
  cases f x <;> simp [ih]
theorem jdM (f:UInt8 → Bool) (s:List UInt8):s.drop (s.takeWhile f).length=s.dropWhile f:=by
 induction s with
 | nil=>rfl
 | cons x l ih =>
  rw [List.takeWhile_cons,List.dropWhile_cons]
  cases f x <;> simp [ih]
theorem jcQ (f:UInt8 → Bool):∀ s:List UInt8,s.dropWhile f=[] → s.takeWhile f=s
 | [],_=>rfl
 | x :: l,h=>by
  rw [List.dropWhile_cons] at h
  rw [List.takeWhile_cons]
  cases hf:f x with
  | true =>
   rw [hf] at h
   simp only [if_true] at h ⊢
   rw [jcQ f l h]
  | false=>rw [hf] at h; simp at h
theorem jjX (s:List UInt8):Lib.cut s [46]=(s.takeWhile Q2,(s.dropWhile Q2).drop 1,!(s.dropWhile Q2 == [])):=by
 unfold Lib.cut
 rw [jeG]
 by_cases h:s.dropWhile Q2=[]
 ·simp only [h,if_true]
  rw [if_neg (by omega),jcQ _ _ h]
  rfl
 ·rw [if_neg h,if_pos (by omega)]
  have hne:(s.dropWhile Q2 == [])=false:=beq_eq_false_iff_ne.2 h
  rw [hne,j7,jgu,j4,j6,← jdM,List.drop_drop]
  rfl
theorem j9k (s:List UInt8) (hs:s.length ≤ 1048576):Xb [.s s,.s [46]] = .ret [.s (s.takeWhile Q2),.s ((s.dropWhile Q2).drop 1),.b (!(s.dropWhile Q2 == []))]:=by
 rw [j9Y]
 simp only [j3K,jr,jv,zs]
 rw [Yw]
 have:yG [.s s,.s [46]] = .ret [.s (Lib.cut s [46]).1,.s (Lib.cut s [46]).2.1,.b (Lib.cut s [46]).2.2]:=by
  unfold yG KZ
  have hh:Yt [.s,.s] qt=true:=rfl
  have hq:jhi [.s s,.s [46]]=some [.s (Lib.cut s [46]).1,.s (Lib.cut s [46]).2.1,.b (Lib.cut s [46]).2.2]:=by
   unfold jhi
   simp only
   rw [if_pos (by omega)]
  rw [hh,hq]
  rfl
 rw [this,jjX]
 rfl
theorem j3i (s:List UInt8) (hs:s.length ≤ 1048576):QB [.s s,.s [101,69]] = .ret [.i (if s.dropWhile qZ=[] then -1 else ((s.takeWhile qZ).length:Int))]:=by
 rw [j3l]
 unfold Z6 KZ
 have hh:Yt [.s,.s] Jm=true:=rfl
 have hq:YB [.s s,.s [101,69]]=some [.i (Lib.indexAny s [101,69])]:=by
  unfold YB
  simp only
  rw [if_pos ⟨by omega,trivial⟩]
 rw [hh,hq,j7Z]
 rfl
def Zx (f:List UInt8) (e:Bool):Bool:=j3A (f.takeWhile Q2) && ((!(f.dropWhile Q2 == []) || e) && ((f.dropWhile Q2 == []) || j5s ((f.dropWhile Q2).drop 1)))
def j9V (s:List UInt8):Bool:=decide (s.length ≤ 40) && (if s.dropWhile qZ=[] then Zx s false else
 j5s (((s.dropWhile qZ).drop 1).drop (sg2 ((s.dropWhile qZ).drop 1))) && Zx (s.takeWhile qZ) true)
theorem jdv (s:List UInt8) (hs:s.length ≤ 1048576):YS [.s s] = .ret [.b (j9V s)]:=by
 rw [j8P]
 simp only [j31,jr,jv,zb,zi,zs,j9V]
 rcases jA 40 s.length with h40 | h40
 ·have e1:decide ((s.length:Int) > 40)=true:=decide_eq_true (by omega)
  have e2:decide (s.length ≤ 40)=false:=decide_eq_false (by omega)
  simp only [e1,e2,if_true,jP]
 have e1:decide ((s.length:Int) > 40)=false:=decide_eq_false (by omega)
 have e2:decide (s.length ≤ 40)=true:=decide_eq_true (by omega)
 simp only [e1,e2,zf,if_false,jC,j3i s hs,zr,jr,zi]
 have front:∀ (f:List UInt8) (k:Int) (e:Bool),f.length ≤ 1048576 → decide (k ≥ 0)=e → ∀ K:List DC → Out,K=(fun v5=>(Xb [DC.s (gs v5 0),DC.s ([46]:List UInt8)]).bindR fun r6 =>
   jb ((Vm [DC.s (gs r6 0)]).bindR fun r7 =>
    if (gb r7 0)=true then
     if (gb r6 2)=true then
      if (!(gb r6 2))=true then
       .norm [DC.b true]
      else
       (qX [DC.s (gs r6 1)]).bindR fun r8 =>
       .norm [DC.b (gb r8 0)]
     else
      if (decide ((gi v5 1) ≥ (0:Int)))=true then
       if (!(gb r6 2))=true then
        .norm [DC.b true]
       else
        (qX [DC.s (gs r6 1)]).bindR fun r9 =>
        .norm [DC.b (gb r9 0)]
      else
       .norm [DC.b false]
    else
     .norm [DC.b false]) fun v10 =>
   .ret [DC.b (gb v10 0)]) → K [.s f,.i k] = .ret [.b (Zx f e)]:=by
  intro f k e hf he K hK
  rw [hK]
  have h1:(f.takeWhile Q2).length ≤ 1048576:=Nat.le_trans (List.takeWhile_prefix Q2).length_le hf
  have h2:((f.dropWhile Q2).drop 1).length ≤ 1048576:=by
   have:=(List.dropWhile_suffix Q2 (l:=f)).length_le
   rw [List.length_drop]; omega
  simp only [jr,jv,zb,zi,zs,j9k f hf,zr,j9R _ h1,j1q _ h2,he,Zx]
  cases j3A (f.takeWhile Q2) <;> cases (f.dropWhile Q2 == []) <;> cases e <;> simp
 by_cases hE:s.dropWhile qZ=[]
 ·have e3:decide ((-1:Int) ≥ 0)=false:=by decide
  simp only [hE,if_true,e3,zf,if_false,j8]
  exact front s (-1) false hs e3 _ rfl
 ·have e3:decide (((s.takeWhile qZ).length:Int) ≥ 0)=true:=decide_eq_true (by omega)
  have hlen:(s.takeWhile qZ).length < s.length:=by
   rcases jA (s.takeWhile qZ).length s.length with h | h
   ·exact h
   ·exact absurd (by rw [← jdM,List.drop_eq_nil_of_le h]) hE
  have e4:0 ≤ ((s.takeWhile qZ).length:Int) ∧ ((s.takeWhile qZ).length:Int) ≤ (s.length:Int):=by omega
  have w1:=jp hlen (show s.length ≤ 9223372036854775807 by omega)
  have e5:0 ≤ (((s.takeWhile qZ).length + 1:Nat):Int) ∧ (((s.takeWhile qZ).length + 1:Nat):Int) ≤ (s.length:Int):=by omega
  have hp:s.drop ((s.takeWhile qZ).length + 1)=(s.dropWhile qZ).drop 1:=by rw [← List.drop_drop,jdM]
  have hpl:((s.dropWhile qZ).drop 1).length ≤ 1048576:=by rw [← hp,List.length_drop]; omega
  have hf:(s.takeWhile qZ).length ≤ 1048576:=by omega
  simp only [hE,if_false,e3,e4,w1,e5,if_true,and_self,j7,jgu,hp]
  generalize (s.dropWhile qZ).drop 1=p at *
  have pw:∀ (K:List DC → Out),jb (if (!(p == ([]:List UInt8)))=true then
         if 0 ≤ (0:Int) ∧ (0:Int) < (p.length:Int) then
          if (((p.getD (0:Int).toNat 0).toNat:Int) == (43:Int))=true then
           .norm [DC.s (s.takeWhile qZ),DC.s p,DC.i ((s.takeWhile qZ).length:Int),DC.b true]
          else
           if 0 ≤ (0:Int) ∧ (0:Int) < (p.length:Int) then
            .norm [DC.s (s.takeWhile qZ),DC.s p,DC.i ((s.takeWhile qZ).length:Int),DC.b (((p.getD (0:Int).toNat 0).toNat:Int) == (45:Int))]
           else
            .fail
         else
          .fail
        else
         .norm [DC.s (s.takeWhile qZ),DC.s p,DC.i ((s.takeWhile qZ).length:Int),DC.b false]) (fun v2 =>
       jb (if (gb v2 3)=true then
         if 0 ≤ (1:Int) ∧ (1:Int) ≤ ((gs v2 1).length:Int) then
          .norm [DC.s (gs v2 0),DC.s ((gs v2 1).drop (1:Int).toNat),DC.i (gi v2 2)]
         else
          .fail
        else
         .norm [DC.s (gs v2 0),DC.s (gs v2 1),DC.i (gi v2 2)]) K)=K [.s (s.takeWhile qZ),.s (p.drop (sg2 p)),.i ((s.takeWhile qZ).length:Int)]:=by
   intro K
   cases p with
   | nil=>simp [sg2]
   | cons d q =>
    have d1:((d.toNat:Int) == 43)=(d == 43):=zK d 43 (by omega)
    have d2:((d.toNat:Int) == 45)=(d == 45):=zK d 45 (by omega)
    have e6:0 ≤ (0:Int) ∧ (0:Int) < ((d :: q).length:Int):=by simp
    have e7:0 ≤ (1:Int) ∧ (1:Int) ≤ ((d :: q).length:Int):=by rw [j4]; omega
    have e8:(d :: q).getD (0:Int).toNat 0=d:=rfl
    have e9:((d :: q) == ([]:List UInt8))=false:=rfl
    simp only [e6,e8,e9,d1,d2,jn,if_true,and_self]
    unfold sg2
    by_cases h1:d=43
    ·subst h1
     simp only [beq_self_eq_true,if_true,j8,jr,jv,zb,zi,zs,e7,and_self]
     rfl
    ·have b1:(d == 43)=false:=beq_eq_false_iff_ne.2 h1
     by_cases h2:d=45
     ·subst h2
      simp only [b1,zf,if_false,beq_self_eq_true,if_true,j8,jr,jv,zb,zi,zs,e7,and_self]
      rfl
     ·have b2:(d == 45)=false:=beq_eq_false_iff_ne.2 h2
      simp only [b1,b2,zf,if_false,j8,jr,jv,zb,zi,zs]
      simp [h1,h2]
  rw [pw]
  have hpl2:(p.drop (sg2 p)).length ≤ 1048576:=by rw [List.length_drop]; omega
  simp only [jr,jv,zb,zi,zs,j1q _ hpl2,zr]
  cases j5s (p.drop (sg2 p)) with
  | false=>simp
  | true =>
   simp only [jh,zf,if_false,j8,jC]
   exact front _ _ true hf e3 _ rfl
def jfe (u:List UInt8):Prop:=∀ c,u.head? = some c → qQ c=false
theorem jhN (d u:List UInt8) (h:jfe u):tw (d ++ u)=tw d:=by
 unfold tw
 induction d with
 | nil =>
  cases u with
  | nil=>rfl
  | cons c u=>rw [jy,List.takeWhile_cons,h c rfl]; rfl
 | cons x d ih =>
  rw [jN,List.takeWhile_cons,List.takeWhile_cons]
  cases qQ x <;> simp [ih]
theorem jjW (d u:List UInt8) (h:jfe u):(d ++ u).dropWhile qQ=d.dropWhile qQ ++ u:=by
 induction d with
 | nil =>
  cases u with
  | nil=>rfl
  | cons c u=>rw [jy,List.dropWhile_cons,h c rfl]; rfl
 | cons x d ih =>
  rw [jN,List.dropWhile_cons,List.dropWhile_cons]
  cases qQ x <;> simp [ih]
theorem jg4 (w u:List UInt8) (h:jfe u) (h45:u.head? ≠ some 45):zX (w ++ u)=zX w:=by
 have hs:sgn (w ++ u)=sgn w:=by
  cases w with
  | nil =>
   unfold sgn
   rw [jy,if_neg h45]
   rfl
  | cons a w=>rfl
 have hg:=jfN w
 unfold zX
 rw [hs,List.drop_append_of_le_length hg,jhN _ _ h]
 by_cases h0:tw (w.drop (sgn w))=0
 ·rw [if_pos h0,if_pos h0]
 ·rw [if_neg h0,if_neg h0]
  have hl:sgn w < w.length:=by
   rcases jA (sgn w) w.length with h' | h'
   ·exact h'
   ·rw [List.drop_eq_nil_of_le h'] at h0
    exact absurd rfl h0
  have e:(w ++ u).getD (sgn w) 0=w.getD (sgn w) 0:=by
   rw [List.getD_eq_getElem?_getD,List.getD_eq_getElem?_getD,List.getElem?_append_left hl]
  rw [e]
theorem j91 (f:UInt8 → Bool) (l:List UInt8) (c:UInt8) (h:(l.dropWhile f).head? = some c):f c=false:=by
 induction l with
 | nil=>simp at h
 | cons x l ih =>
  rw [List.dropWhile_cons] at h
  cases hx:f x with
  | true=>rw [hx] at h; exact ih h
  | false =>
   rw [hx] at h
   simp at h
   rw [← h]; exact hx
theorem j3c {c:UInt8} (h:isE c=true):qQ c=false ∧ c ≠ 45 ∧ c ≠ 46:=by
 unfold isE at h
 rw [Bool.or_eq_true,beq_iff_eq,beq_iff_eq] at h
 rcases h with rfl | rfl <;> decide
theorem j9X (c:UInt8) (r:List UInt8) (h:isE c=false):j3H (c :: r)=false:=by rw [j3H,h]; rfl
theorem jiH (s:List UInt8):jdx s=j9V s:=by
 unfold jdx j9V
 rcases jA 40 s.length with h40 | h40
 ·have e:decide (s.length ≤ 40)=false:=decide_eq_false (by omega)
  rw [e]; rfl
 congr 1
 have himpl:(if s.dropWhile qZ=[] then Zx s false else j5s (((s.dropWhile qZ).drop 1).drop (sg2 ((s.dropWhile qZ).drop 1))) && Zx (s.takeWhile qZ) true) =
   (Zx (s.takeWhile qZ) (!(s.dropWhile qZ == [])) && j3H (s.dropWhile qZ)):=by
  cases hr:s.dropWhile qZ with
  | nil =>
   rw [if_pos rfl,jcQ _ _ hr]
   simp [j3H]
  | cons c r =>
   have hc:=j91 qZ s c (by rw [hr]; rfl)
   have hc':isE c=true:=by unfold qZ at hc; simpa using hc
   rw [if_neg (by simp),j3H,hc',Bool.and_comm]
   simp
 rw [himpl]
 have hsplit:s=s.takeWhile qZ ++ s.dropWhile qZ:=(List.takeWhile_append_dropWhile).symm
 have hfE:∀ c ∈ s.takeWhile qZ,isE c=false:=fun c hc=>by
  have:=List.all_eq_true.1 (List.all_takeWhile (p:=qZ) (l:=s)) c hc
  unfold qZ at this
  simpa using this
 have hrest:∀ c,(s.dropWhile qZ).head? = some c → isE c=true:=fun c hc=>by
  have:=j91 qZ s c hc
  unfold qZ at this
  simpa using this
 generalize s.takeWhile qZ=f at *
 generalize s.dropWhile qZ=rest at *
 subst hsplit
 have hfs:f=f.takeWhile Q2 ++ f.dropWhile Q2:=(List.takeWhile_append_dropWhile).symm
 have hwP:∀ c ∈ f.takeWhile Q2,c ≠ 46:=fun c hc=>by
  have:=List.all_eq_true.1 (List.all_takeWhile (p:=Q2) (l:=f)) c hc
  unfold Q2 at this
  simpa using this
 have ht:∀ c,(f.dropWhile Q2).head? = some c → c=46:=fun c hc=>by
  have:=j91 Q2 f c hc
  unfold Q2 at this
  simpa using this
 unfold Zx
 generalize f.takeWhile Q2=w at *
 generalize f.dropWhile Q2=t at *
 subst hfs
 have hu:jfe (t ++ rest) ∧ (t ++ rest).head? ≠ some 45:=by
  cases t with
  | nil =>
   refine ⟨fun c hc=>(j3c (hrest c hc)).1,fun hc=>(j3c (hrest 45 hc)).2.1 rfl⟩
  | cons a t =>
   have:=ht a rfl
   subst this
   exact ⟨fun c hc=>by simp at hc; subst hc; decide,by simp⟩
 rw [jO,jg4 w (t ++ rest) hu.1 hu.2]
 have hwl:w.length ≤ 40:=by simp only [j3] at h40; omega
 have hn:=jcx w
 have hio:j3A w=(decide (0 < w.length) && (zX w == w.length)):=by unfold j3A; simp [hwl]
 rw [hio]
 generalize zX w=n at *
 by_cases h0:n=0
 ·subst h0
  cases w with
  | nil=>simp
  | cons a w=>simp
 have e0:(n == 0)=false:=beq_eq_false_iff_ne.2 h0
 by_cases hnw:n=w.length
 ·subst hnw
  have hpos:decide (0 < w.length)=true:=decide_eq_true (by omega)
  rw [e0,List.drop_left,hpos,beq_self_eq_true]
  have hlen:(w.length == (w ++ (t ++ rest)).length)=(t ++ rest == []):=by
   cases hh:t ++ rest with
   | nil=>simp
   | cons a l=>simp
  rw [hlen]
  cases t with
  | nil =>
   rw [jy]
   cases rest with
   | nil=>rfl
   | cons c r =>
    have:=(j3c (hrest c rfl)).2.2
    simp [j5c,this]
  | cons a fr =>
   have:=ht a rfl
   subst this
   have hnr:jfe rest:=fun c hc=>(j3c (hrest c hc)).1
   have e1:(46 :: fr ++ rest == ([]:List UInt8))=false:=rfl
   have e2:((46 :: fr:List UInt8) == [])=false:=rfl
   rw [e1,e2]
   rw [jN,j5c,if_pos rfl,jhN _ _ hnr,jjW _ _ hnr]
   simp only [jn,jC,Bool.true_or,jW,List.drop_succ_cons,List.drop_zero]
   rw [jgS]
   by_cases ha:tw fr=fr.length
   ·have hd:fr.dropWhile qQ=[]:=by rw [← jgV,ha,List.drop_length]
    rw [hd,jy,beq_iff_eq.2 ha,jS]
   ·rw [beq_eq_false_iff_ne.2 ha,jT,jP]
    cases hd:fr.dropWhile qQ with
    | nil =>
     have:=jcQ qQ fr hd
     exact absurd (congrArg List.length this) ha
    | cons x y =>
     have hx:x ∈ fr:=(List.dropWhile_suffix qQ (l:=fr)).subset (by rw [hd]; simp)
     rw [jN,j9X x _ (hfE x (by simp [hx])),jT]
 ·have e1:(n == w.length)=false:=beq_eq_false_iff_ne.2 hnw
  have hlt:n < w.length:=by omega
  rw [e1,List.drop_append_of_le_length hn,List.drop_eq_getElem_cons hlt,jN,j5c]
  have hm:w[n] ∈ w:=je hlt
  rw [if_neg (hwP _ hm),j9X _ _ (hfE _ (by simp [hm]))]
  simp
end Go.Proofs.QV
