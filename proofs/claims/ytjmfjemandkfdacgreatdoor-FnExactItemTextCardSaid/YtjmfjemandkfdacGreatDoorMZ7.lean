import Derived.Test.YtjmfjemandkfdacGreatDoorMZ6
/- What the functions do,and that they do (written by a program). -/
namespace Go.Proofs.QV
open Go
open Out renaming andThenB → ja, andThen → jb
set_option linter.unusedVariables false
set_option maxRecDepth 100000
noncomputable def VK (a:List DC):Out :=
 (j01 [.i (gi a 0),.i (gi a 1),.s (gs a 2),.sl (gl a 3),.sl (gl a 4),.sl (gl a 5),.s (gs a 6),.s (gs a 7),.sl (gl a 8),.sl (gl a 9),.i (gi a 10),.b (gb a 11),.s (gs a 12),.s (gs a 13),.sl (gl a 14),.sl (gl a 15),.sl (gl a 16),.sl (gl a 17),.sl (gl a 18),.b (gb a 19),.sl (gl a 20),.i (1048576:Int)]).bindR fun r1 =>
 if (decide ((gi r1 0) < (0:Int)))=true then
 .ret [.b true]
 else
 (Qa [.i (gi a 0),.i (gi a 1),.s (gs a 2),.sl (gl a 3),.sl (gl a 4),.sl (gl a 5),.s (gs a 6),.s (gs a 7),.sl (gl a 8),.sl (gl a 9),.i (gi a 10),.b (gb a 11),.s (gs a 12),.s (gs a 13),.sl (gl a 14),.sl (gl a 15),.sl (gl a 16),.sl (gl a 17),.sl (gl a 18),.b (gb a 19),.sl (gl a 20)]).bindR fun r2 =>
 (XM [.i (gi r2 0),.i (gi r2 1),.s (gs r2 2),.sl (gl r2 3),.sl (gl r2 4),.sl (gl r2 5),.s (gs r2 6),.s (gs r2 7),.sl (gl r2 8),.sl (gl r2 9),.i (gi r2 10),.b (gb r2 11),.s (gs r2 12),.s (gs r2 13),.sl (gl r2 14),.sl (gl r2 15),.sl (gl r2 16),.sl (gl r2 17),.sl (gl r2 18),.b (gb r2 19),.sl (gl r2 20)]).bindR fun r3 =>
 (Qa [.i (gi a 0),.i (gi a 1),.s (gs a 2),.sl (gl a 3),.sl (gl a 4),.sl (gl a 5),.s (gs a 6),.s (gs a 7),.sl (gl a 8),.sl (gl a 9),.i (gi a 10),.b (gb a 11),.s (gs a 12),.s (gs a 13),.sl (gl a 14),.sl (gl a 15),.sl (gl a 16),.sl (gl a 17),.sl (gl a 18),.b (gb a 19),.sl (gl a 20)]).bindR fun r4 =>
 (XV [.i (gi r4 0),.i (gi r4 1),.s (gs r4 2),.sl (gl r4 3),.sl (gl r4 4),.sl (gl r4 5),.s (gs r4 6),.s (gs r4 7),.sl (gl r4 8),.sl (gl r4 9),.i (gi r4 10),.b (gb r4 11),.s (gs r4 12),.s (gs r4 13),.sl (gl r4 14),.sl (gl r4 15),.sl (gl r4 16),.sl (gl r4 17),.sl (gl r4 18),.b (gb r4 19),.sl (gl r4 20)]).bindR fun r5 =>
 if (!((gs r5 0) == (gs r3 0)))=true then
 .ret [.b false]
 else
 (Qa [.i (gi a 0),.i (gi a 1),.s (gs a 2),.sl (gl a 3),.sl (gl a 4),.sl (gl a 5),.s (gs a 6),.s (gs a 7),.sl (gl a 8),.sl (gl a 9),.i (gi a 10),.b (gb a 11),.s (gs a 12),.s (gs a 13),.sl (gl a 14),.sl (gl a 15),.sl (gl a 16),.sl (gl a 17),.sl (gl a 18),.b (gb a 19),.sl (gl a 20)]).bindR fun r6 =>
 (j03 [.i (gi r4 0),.i (gi r4 1),.s (gs r4 2),.sl (gl r4 3),.sl (gl r4 4),.sl (gl r4 5),.s (gs r4 6),.s (gs r4 7),.sl (gl r4 8),.sl (gl r4 9),.i (gi r4 10),.b (gb r4 11),.s (gs r4 12),.s (gs r4 13),.sl (gl r4 14),.sl (gl r4 15),.sl (gl r4 16),.sl (gl r4 17),.sl (gl r4 18),.b (gb r4 19),.sl (gl r4 20),.i (gi r6 0),.i (gi r6 1),.s (gs r6 2),.sl (gl r6 3),.sl (gl r6 4),.sl (gl r6 5),.s (gs r6 6),.s (gs r6 7),.sl (gl r6 8),.sl (gl r6 9),.i (gi r6 10),.b (gb r6 11),.s (gs r6 12),.s (gs r6 13),.sl (gl r6 14),.sl (gl r6 15),.sl (gl r6 16),.sl (gl r6 17),.sl (gl r6 18),.b (gb r6 19),.sl (gl r6 20)]).bindR fun r7 =>
 if (!(gb r7 0))=true then
 .ret [.b false]
 else
 .ret [.b true]
theorem j0x a:Ve a=VK a:=(jk ju 3 _ a).trans (by kernel_rfl)
noncomputable def j47 (a:List DC):Out :=
 (j2n [.i (gi a 1),.s (gs a 2),.sl (gl a 3),.sl (gl a 4),.sl (gl a 5),.i (gi a 21)]).bindR fun r1 =>
 if (decide ((gi r1 0) < (0:Int)))=true then
 .ret [.i (-1:Int)]
 else
 (j02 [.s (gs a 6),.s (gs a 7),.sl (gl a 8),.sl (gl a 9),.i (gi r1 0)]).bindR fun r2 =>
 if (decide ((gi r2 0) < (0:Int)))=true then
 .ret [.i (-1:Int)]
 else
 (j1e [.i (gi a 10),.b (gb a 11),.s (gs a 12),.s (gs a 13),.sl (gl a 14),.sl (gl a 15),.sl (gl a 16),.sl (gl a 17),.sl (gl a 18),.b (gb a 19),.sl (gl a 20),.i (gi r2 0)]).bindR fun r3 =>
 if (decide ((gi r3 0) < (0:Int)))=true then
 .ret [.i (-1:Int)]
 else
 .ret [.i (gi r3 0)]
theorem jar a:j01 a=j47 a:=(jk ju 4 _ a).trans (by kernel_rfl)
noncomputable def j40 (a:List DC):Out :=
 (j2m [.i (gi a 1),.s (gs a 2),.sl (gl a 3),.sl (gl a 4),.sl (gl a 5)]).bindR fun r1 =>
 (j00 [.s (gs a 6),.s (gs a 7),.sl (gl a 8),.sl (gl a 9)]).bindR fun r2 =>
 (j1d [.i (gi a 10),.b (gb a 11),.s (gs a 12),.s (gs a 13),.sl (gl a 14),.sl (gl a 15),.sl (gl a 16),.sl (gl a 17),.sl (gl a 18),.b (gb a 19),.sl (gl a 20)]).bindR fun r3 =>
 .ret [.i (gi a 0),.i (gi r1 0),.s (gs r1 1),.sl (gl r1 2),.sl (gl r1 3),.sl (gl r1 4),.s (gs r2 0),.s (gs r2 1),.sl (gl r2 2),.sl (gl r2 3),.i (gi r3 0),.b (gb r3 1),.s (gs r3 2),.s (gs r3 3),.sl (gl r3 4),.sl (gl r3 5),.sl (gl r3 6),.sl (gl r3 7),.sl (gl r3 8),.b (gb r3 9),.sl (gl r3 10)]
theorem jak a:Qa a=j40 a:=(jk ju 6 _ a).trans (by kernel_rfl)
noncomputable def j1K (a:List DC):Out :=
 ja (if ((gi a 0) == (1:Int))=true then
 (ZY [.i (gi a 1),.s (gs a 2),.sl (gl a 3),.sl (gl a 4),.sl (gl a 5)]).bindR fun r1 =>
 .ret [.s (gs r1 0)]
 else
 if ((gi a 0) == (2:Int))=true then
 (XN [.s (gs a 6),.s (gs a 7),.sl (gl a 8),.sl (gl a 9)]).bindR fun r2 =>
 .ret [.s (gs r2 0)]
 else
 if ((gi a 0) == (3:Int))=true then
 (YP [.i (gi a 10),.b (gb a 11),.s (gs a 12),.s (gs a 13),.sl (gl a 14),.sl (gl a 15),.sl (gl a 16),.sl (gl a 17),.sl (gl a 18),.b (gb a 19),.sl (gl a 20)]).bindR fun r3 =>
 .ret [.s (gs r3 0)]
 else
 .norm []) 0 fun v4 =>
 .ret [.s ([]:List UInt8)]
theorem j6Y a:XM a=j1K a:=(jk ju 5 _ a).trans (by kernel_rfl)
noncomputable def j20 (a:List DC):Out :=
 ja (if ((gi a 0) == (1:Int))=true then
 (j09 [.i (gi a 1),.s (gs a 2),.sl (gl a 3),.sl (gl a 4),.sl (gl a 5)]).bindR fun r1 =>
 .ret [.s (gs r1 0)]
 else
 if ((gi a 0) == (2:Int))=true then
 (XW [.s (gs a 6),.s (gs a 7),.sl (gl a 8),.sl (gl a 9)]).bindR fun r2 =>
 .ret [.s (gs r2 0)]
 else
 if ((gi a 0) == (3:Int))=true then
 (YT [.i (gi a 10),.b (gb a 11),.s (gs a 12),.s (gs a 13),.sl (gl a 14),.sl (gl a 15),.sl (gl a 16),.sl (gl a 17),.sl (gl a 18),.b (gb a 19),.sl (gl a 20)]).bindR fun r3 =>
 .ret [.s (gs r3 0)]
 else
 .norm []) 0 fun v4 =>
 .ret [.s ([]:List UInt8)]
theorem j7g a:XV a=j20 a:=(jk ju 7 _ a).trans (by kernel_rfl)
noncomputable def j4e (a:List DC):Out :=
 if ((gi a 0) != (gi a 21))=true then
 .ret [.b false]
 else
 (j2o [.i (gi a 1),.s (gs a 2),.sl (gl a 3),.sl (gl a 4),.sl (gl a 5),.i (gi a 22),.s (gs a 23),.sl (gl a 24),.sl (gl a 25),.sl (gl a 26)]).bindR fun r1 =>
 if (!(gb r1 0))=true then
 .ret [.b false]
 else
 (j04 [.s (gs a 6),.s (gs a 7),.sl (gl a 8),.sl (gl a 9),.s (gs a 27),.s (gs a 28),.sl (gl a 29),.sl (gl a 30)]).bindR fun r2 =>
 if (!(gb r2 0))=true then
 .ret [.b false]
 else
 (j1f [.i (gi a 10),.b (gb a 11),.s (gs a 12),.s (gs a 13),.sl (gl a 14),.sl (gl a 15),.sl (gl a 16),.sl (gl a 17),.sl (gl a 18),.b (gb a 19),.sl (gl a 20),.i (gi a 31),.b (gb a 32),.s (gs a 33),.s (gs a 34),.sl (gl a 35),.sl (gl a 36),.sl (gl a 37),.sl (gl a 38),.sl (gl a 39),.b (gb a 40),.sl (gl a 41)]).bindR fun r3 =>
 if (!(gb r3 0))=true then
 .ret [.b false]
 else
 .ret [.b true]
theorem jay a:j03 a=j4e a:=(jk ju 8 _ a).trans (by kernel_rfl)
noncomputable def j8c (a:List DC):Out :=
 if (decide ((IntKind.i64.wrap ((gi a 5) - ((gs a 1).length:Int))) < (0:Int)))=true then
 .ret [.i (-1:Int)]
 else
 (KD [.sl (gl a 2),.i (IntKind.i64.wrap ((gi a 5) - ((gs a 1).length:Int)))]).bindR fun r1 =>
 if (decide ((gi r1 0) < (0:Int)))=true then
 .ret [.i (-1:Int)]
 else
 (pN [.sl (gl a 3),.i (gi r1 0)]).bindR fun r2 =>
 if (decide ((gi r2 0) < (0:Int)))=true then
 .ret [.i (-1:Int)]
 else
 (JK [.sl (gl a 4),.i (gi r2 0)]).bindR fun r3 =>
 if (decide ((gi r3 0) < (0:Int)))=true then
 .ret [.i (-1:Int)]
 else
 .ret [.i (gi r3 0)]
theorem jdC a:j2n a=j8c a:=(jk ju 9 _ a).trans (by kernel_rfl)
noncomputable def j48 (a:List DC):Out :=
 if (decide ((IntKind.i64.wrap ((gi a 4) - ((gs a 0).length:Int))) < (0:Int)))=true then
 .ret [.i (-1:Int)]
 else
 if (decide ((IntKind.i64.wrap ((IntKind.i64.wrap ((gi a 4) - ((gs a 0).length:Int))) - ((gs a 1).length:Int))) < (0:Int)))=true then
 .ret [.i (-1:Int)]
 else
 (pN [.sl (gl a 2),.i (IntKind.i64.wrap ((IntKind.i64.wrap ((gi a 4) - ((gs a 0).length:Int))) - ((gs a 1).length:Int)))]).bindR fun r1 =>
 if (decide ((gi r1 0) < (0:Int)))=true then
 .ret [.i (-1:Int)]
 else
 (JK [.sl (gl a 3),.i (gi r1 0)]).bindR fun r2 =>
 if (decide ((gi r2 0) < (0:Int)))=true then
 .ret [.i (-1:Int)]
 else
 .ret [.i (gi r2 0)]
theorem jas a:j02 a=j48 a:=(jk ju 10 _ a).trans (by kernel_rfl)
noncomputable def j6m (a:List DC):Out :=
 if (decide ((IntKind.i64.wrap ((gi a 11) - ((gs a 2).length:Int))) < (0:Int)))=true then
 .ret [.i (-1:Int)]
 else
 if (decide ((IntKind.i64.wrap ((IntKind.i64.wrap ((gi a 11) - ((gs a 2).length:Int))) - ((gs a 3).length:Int))) < (0:Int)))=true then
 .ret [.i (-1:Int)]
 else
 (KE [.sl (gl a 4),.i (IntKind.i64.wrap ((IntKind.i64.wrap ((gi a 11) - ((gs a 2).length:Int))) - ((gs a 3).length:Int)))]).bindR fun r1 =>
 if (decide ((gi r1 0) < (0:Int)))=true then
 .ret [.i (-1:Int)]
 else
 (Jf [.sl (gl a 5),.i (gi r1 0)]).bindR fun r2 =>
 if (decide ((gi r2 0) < (0:Int)))=true then
 .ret [.i (-1:Int)]
 else
 (Jx [.sl (gl a 6),.i (gi r2 0)]).bindR fun r3 =>
 if (decide ((gi r3 0) < (0:Int)))=true then
 .ret [.i (-1:Int)]
 else
 (K0 [.sl (gl a 7),.i (gi r3 0)]).bindR fun r4 =>
 if (decide ((gi r4 0) < (0:Int)))=true then
 .ret [.i (-1:Int)]
 else
 (Va [.sl (gl a 8),.i (gi r4 0)]).bindR fun r5 =>
 if (decide ((gi r5 0) < (0:Int)))=true then
 .ret [.i (-1:Int)]
 else
 (pN [.sl (gl a 10),.i (gi r5 0)]).bindR fun r6 =>
 if (decide ((gi r6 0) < (0:Int)))=true then
 .ret [.i (-1:Int)]
 else
 .ret [.i (gi r6 0)]
theorem jbI a:j1e a=j6m a:=(jk ju 11 _ a).trans (by kernel_rfl)
noncomputable def j8b (a:List DC):Out :=
 (Kz [.sl (gl a 2)]).bindR fun r1 =>
 (pM [.sl (gl a 3)]).bindR fun r2 =>
 (JJ [.sl (gl a 4)]).bindR fun r3 =>
 .ret [.i (gi a 0),.s (gs a 1),.sl (gl r1 0),.sl (gl r2 0),.sl (gl r3 0)]
theorem jdB a:j2m a=j8b a:=(jk ju 15 _ a).trans (by kernel_rfl)
noncomputable def j41 (a:List DC):Out :=
 (pM [.sl (gl a 2)]).bindR fun r1 =>
 (JJ [.sl (gl a 3)]).bindR fun r2 =>
 .ret [.s (gs a 0),.s (gs a 1),.sl (gl r1 0),.sl (gl r2 0)]
theorem jal a:j00 a=j41 a:=(jk ju 16 _ a).trans (by kernel_rfl)
noncomputable def j6i (a:List DC):Out :=
 (KA [.sl (gl a 4)]).bindR fun r1 =>
 (Je [.sl (gl a 5)]).bindR fun r2 =>
 (Jw [.sl (gl a 6)]).bindR fun r3 =>
 (JY [.sl (gl a 7)]).bindR fun r4 =>
 (V8 [.sl (gl a 8)]).bindR fun r5 =>
 (pM [.sl (gl a 10)]).bindR fun r6 =>
 .ret [.i (gi a 0),.b (gb a 1),.s (gs a 2),.s (gs a 3),.sl (gl r1 0),.sl (gl r2 0),.sl (gl r3 0),.sl (gl r4 0),.sl (gl r5 0),.b (gb a 9),.sl (gl r6 0)]
theorem jbE a:j1d a=j6i a:=(jk ju 17 _ a).trans (by kernel_rfl)
noncomputable def j0i (a:List DC):Out :=
 (j2l [.i (gi a 0),.s (gs a 1),.sl (gl a 2),.sl (gl a 3),.sl (gl a 4)]).bindR fun r1 =>
 if (!(gb r1 0))=true then
 .ret [.s ([]:List UInt8)]
 else
 jb (if ((gi a 0) == (1:Int))=true then
 if ((gs a 1) == ([]:List UInt8))=true then
 if (((gl a 2).length:Int) == (0:Int))=true then
 .norm [.sl [],.b (((gl a 3).length:Int) == (0:Int)),.i (gi a 0),.s (gs a 1),.sl (gl a 2),.sl (gl a 3),.sl (gl a 4)]
 else
 .norm [.sl [],.b false,.i (gi a 0),.s (gs a 1),.sl (gl a 2),.sl (gl a 3),.sl (gl a 4)]
 else
 .norm [.sl [],.b false,.i (gi a 0),.s (gs a 1),.sl (gl a 2),.sl (gl a 3),.sl (gl a 4)]
 else
 .norm [.sl [],.b false,.i (gi a 0),.s (gs a 1),.sl (gl a 2),.sl (gl a 3),.sl (gl a 4)]) fun v2 =>
 if (gb v2 1)=true then
 (yo [.sl (gl v2 0),.sl (gl v2 6),.i (1:Int)]).bindR fun r3 =>
 if ([123,10]:List UInt8).length + (pL (gl r3 0)).length < jF then
 if (([123,10]:List UInt8) ++ (pL (gl r3 0))).length + ([125,10]:List UInt8).length < jF then
 .ret [.s ((([123,10]:List UInt8) ++ (pL (gl r3 0))) ++ ([125,10]:List UInt8))]
 else
 .fail
 else
 .fail
 else
 (zB [.i (gi v2 2)]).bindR fun r4 =>
 if (gl v2 0).length + (jo (gs r4 0)).length < jF then
 jb (if (!((gs v2 3) == ([]:List UInt8)))=true then
 if ((gl v2 0) ++ (jo (gs r4 0))).length + [[DC.i (32:Int)]].length < jF then
 if (((gl v2 0) ++ (jo (gs r4 0))) ++ [[DC.i (32:Int)]]).length + (jo (gs v2 3)).length < jF then
 .norm [.sl ((((gl v2 0) ++ (jo (gs r4 0))) ++ [[DC.i (32:Int)]]) ++ (jo (gs v2 3))),.i (gi v2 2),.s (gs v2 3),.sl (gl v2 4),.sl (gl v2 5),.sl (gl v2 6)]
 else
 .fail
 else
 .fail
 else
 .norm [.sl ((gl v2 0) ++ (jo (gs r4 0))),.i (gi v2 2),.s (gs v2 3),.sl (gl v2 4),.sl (gl v2 5),.sl (gl v2 6)]) fun v5 =>
 (V4 [.sl (gl v5 0),.sl (gl v5 3)]).bindR fun r6 =>
 (p8 [.sl (gl r6 0),.sl (gl v5 4)]).bindR fun r7 =>
 (y9 [.sl (gl r7 0),.sl (gl v5 5),.i (0:Int)]).bindR fun r8 =>
 if (gl r8 0).length + [[DC.i (10:Int)]].length < jF then
 .ret [.s (pL ((gl r8 0) ++ [[DC.i (10:Int)]]))]
 else
 .fail
 else
 .fail
theorem jac a:ZY a=j0i a:=(jk ju 12 _ a).trans (by kernel_rfl)
noncomputable def XY (a:List DC):Out :=
 (ZZ [.s (gs a 0),.s (gs a 1),.sl (gl a 2),.sl (gl a 3)]).bindR fun r1 =>
 if (!(gb r1 0))=true then
 .ret [.s ([]:List UInt8)]
 else
 if ([102,114,97,103,109,101,110,116,32]:List UInt8).length + (gs a 0).length < jF then
 if (([102,114,97,103,109,101,110,116,32]:List UInt8) ++ (gs a 0)).length + ([32,111,110,32]:List UInt8).length < jF then
 if ((([102,114,97,103,109,101,110,116,32]:List UInt8) ++ (gs a 0)) ++ ([32,111,110,32]:List UInt8)).length + (gs a 1).length < jF then
 if (((([102,114,97,103,109,101,110,116,32]:List UInt8) ++ (gs a 0)) ++ ([32,111,110,32]:List UInt8)) ++ (gs a 1)).length < jF then
 (p8 [.sl (jo (((([102,114,97,103,109,101,110,116,32]:List UInt8) ++ (gs a 0)) ++ ([32,111,110,32]:List UInt8)) ++ (gs a 1))),.sl (gl a 2)]).bindR fun r2 =>
 (y9 [.sl (gl r2 0),.sl (gl a 3),.i (0:Int)]).bindR fun r3 =>
 if (gl r3 0).length + [[DC.i (10:Int)]].length < jF then
 .ret [.s (pL ((gl r3 0) ++ [[DC.i (10:Int)]]))]
 else
 .fail
 else
 .fail
 else
 .fail
 else
 .fail
 else
 .fail
theorem j6Z a:XN a=XY a:=(jk ju 13 _ a).trans (by kernel_rfl)
noncomputable def J7:List DC → Out:=fun v19 =>
 if (decide ((gi v19 2) < ((gl v19 8).length:Int)))=true then
 ja (if 93=93 ∧ 0 ≤ (gi v19 2) ∧ (gi v19 2) < ((gl v19 8).length:Int) then
 (QD [.sl (gl v19 1),.s ((((gl v19 8).getD (gi v19 2).toNat []).getD 0 d0).ss),.s ((((gl v19 8).getD (gi v19 2).toNat []).getD 1 d0).ss),.sl ((((gl v19 8).getD (gi v19 2).toNat []).getD 2 d0).ll),.s ((((gl v19 8).getD (gi v19 2).toNat []).getD 3 d0).ss),.s ((((gl v19 8).getD (gi v19 2).toNat []).getD 4 d0).ss),.sl ((((gl v19 8).getD (gi v19 2).toNat []).getD 5 d0).ll)]).bindR fun r20 =>
 .norm [.sl (gl v19 0),.sl (gl r20 0),.i (gi v19 2),.i (gi v19 3),.b (gb v19 4),.s (gs v19 5),.s (gs v19 6),.sl (gl v19 7),.sl (gl v19 8),.sl (gl v19 9),.sl (gl v19 10),.sl (gl v19 11),.b (gb v19 12),.sl (gl v19 13)]
 else
 .fail) 2 fun v21 =>
 .norm [.sl (gl v21 0),.sl (gl v21 1),.i (IntKind.i64.wrap ((gi v21 2) + (1:Int))),.i (gi v21 3),.b (gb v21 4),.s (gs v21 5),.s (gs v21 6),.sl (gl v21 7),.sl (gl v21 8),.sl (gl v21 9),.sl (gl v21 10),.sl (gl v21 11),.b (gb v21 12),.sl (gl v21 13)]
 else
 .ex 1 [.sl (gl v19 0),.sl (gl v19 1),.i (gi v19 3),.b (gb v19 4),.s (gs v19 5),.s (gs v19 6),.sl (gl v19 7),.sl (gl v19 8),.sl (gl v19 9),.sl (gl v19 10),.sl (gl v19 11),.b (gb v19 12),.sl (gl v19 13)]
noncomputable def J6:List DC → Out:=fun v23 =>
 if (decide ((gi v23 2) < ((gl v23 10).length:Int)))=true then
 ja (if 96=96 ∧ 0 ≤ (gi v23 2) ∧ (gi v23 2) < ((gl v23 10).length:Int) then
 (JV [.sl (gl v23 1),.s ((((gl v23 10).getD (gi v23 2).toNat []).getD 1 d0).ss)]).bindR fun r24 =>
 if 96=96 ∧ 0 ≤ (gi v23 2) ∧ (gi v23 2) < ((gl v23 10).length:Int) then
 if (gl r24 0).length + (jo ((((gl v23 10).getD (gi v23 2).toNat []).getD 0 d0).ss)).length < jF then
 if 96=96 ∧ 0 ≤ (gi v23 2) ∧ (gi v23 2) < ((gl v23 10).length:Int) then
 (p8 [.sl ((gl r24 0) ++ (jo ((((gl v23 10).getD (gi v23 2).toNat []).getD 0 d0).ss))),.sl ((((gl v23 10).getD (gi v23 2).toNat []).getD 2 d0).ll)]).bindR fun r25 =>
 if (gl r25 0).length + [[DC.i (10:Int)]].length < jF then
 .norm [.sl (gl v23 0),.sl ((gl r25 0) ++ [[DC.i (10:Int)]]),.i (gi v23 2),.i (gi v23 3),.b (gb v23 4),.s (gs v23 5),.s (gs v23 6),.sl (gl v23 7),.sl (gl v23 8),.sl (gl v23 9),.sl (gl v23 10),.sl (gl v23 11),.b (gb v23 12),.sl (gl v23 13)]
 else
 .fail
 else
 .fail
 else
 .fail
 else
 .fail
 else
 .fail) 4 fun v26 =>
 .norm [.sl (gl v26 0),.sl (gl v26 1),.i (IntKind.i64.wrap ((gi v26 2) + (1:Int))),.i (gi v26 3),.b (gb v26 4),.s (gs v26 5),.s (gs v26 6),.sl (gl v26 7),.sl (gl v26 8),.sl (gl v26 9),.sl (gl v26 10),.sl (gl v26 11),.b (gb v26 12),.sl (gl v26 13)]
 else
 .ex 3 [.sl (gl v23 0),.sl (gl v23 1),.i (gi v23 3),.b (gb v23 4),.s (gs v23 5),.s (gs v23 6),.sl (gl v23 7),.sl (gl v23 8),.sl (gl v23 9),.sl (gl v23 10),.sl (gl v23 11),.b (gb v23 12),.sl (gl v23 13)]
noncomputable def J5:List DC → Out:=fun v28 =>
 if (decide ((gi v28 2) < ((gl v28 11).length:Int)))=true then
 ja (if 98=98 ∧ 0 ≤ (gi v28 2) ∧ (gi v28 2) < ((gl v28 11).length:Int) then
 (zB [.i ((((gl v28 11).getD (gi v28 2).toNat []).getD 0 d0).ii)]).bindR fun r29 =>
 if ([32,32]:List UInt8).length + (gs r29 0).length < jF then
 if (([32,32]:List UInt8) ++ (gs r29 0)).length + ([58,32]:List UInt8).length < jF then
 if (gl v28 1).length + (jo ((([32,32]:List UInt8) ++ (gs r29 0)) ++ ([58,32]:List UInt8))).length < jF then
 if 98=98 ∧ 0 ≤ (gi v28 2) ∧ (gi v28 2) < ((gl v28 11).length:Int) then
 if ((gl v28 1) ++ (jo ((([32,32]:List UInt8) ++ (gs r29 0)) ++ ([58,32]:List UInt8)))).length + (jo ((((gl v28 11).getD (gi v28 2).toNat []).getD 1 d0).ss)).length < jF then
 if (((gl v28 1) ++ (jo ((([32,32]:List UInt8) ++ (gs r29 0)) ++ ([58,32]:List UInt8)))) ++ (jo ((((gl v28 11).getD (gi v28 2).toNat []).getD 1 d0).ss))).length + [[DC.i (10:Int)]].length < jF then
 .norm [.sl (gl v28 0),.sl ((((gl v28 1) ++ (jo ((([32,32]:List UInt8) ++ (gs r29 0)) ++ ([58,32]:List UInt8)))) ++ (jo ((((gl v28 11).getD (gi v28 2).toNat []).getD 1 d0).ss))) ++ [[DC.i (10:Int)]]),.i (gi v28 2),.i (gi v28 3),.b (gb v28 4),.s (gs v28 5),.s (gs v28 6),.sl (gl v28 7),.sl (gl v28 8),.sl (gl v28 9),.sl (gl v28 10),.sl (gl v28 11),.b (gb v28 12),.sl (gl v28 13)]
 else
 .fail
 else
 .fail
 else
 .fail
 else
 .fail
 else
 .fail
 else
 .fail
 else
 .fail) 6 fun v30 =>
 .norm [.sl (gl v30 0),.sl (gl v30 1),.i (IntKind.i64.wrap ((gi v30 2) + (1:Int))),.i (gi v30 3),.b (gb v30 4),.s (gs v30 5),.s (gs v30 6),.sl (gl v30 7),.sl (gl v30 8),.sl (gl v30 9),.sl (gl v30 10),.sl (gl v30 11),.b (gb v30 12),.sl (gl v30 13)]
 else
 .ex 5 [.sl (gl v28 0),.sl (gl v28 1),.i (gi v28 3),.b (gb v28 4),.s (gs v28 5),.s (gs v28 6),.sl (gl v28 7),.sl (gl v28 8),.sl (gl v28 9),.sl (gl v28 10),.sl (gl v28 11),.b (gb v28 12),.sl (gl v28 13)]
noncomputable def qO:List DC → Out:=fun v32 =>
 jb (if (decide ((gi v32 2) < ((gl v32 9).length:Int)))=true then
 .norm [.sl (gl v32 0),.sl (gl v32 1),.i (gi v32 2),.b ((gi v32 3) == (6:Int)),.i (gi v32 3),.b (gb v32 4),.s (gs v32 5),.s (gs v32 6),.sl (gl v32 7),.sl (gl v32 8),.sl (gl v32 9),.sl (gl v32 10),.sl (gl v32 11),.b (gb v32 12),.sl (gl v32 13)]
 else
 .norm [.sl (gl v32 0),.sl (gl v32 1),.i (gi v32 2),.b false,.i (gi v32 3),.b (gb v32 4),.s (gs v32 5),.s (gs v32 6),.sl (gl v32 7),.sl (gl v32 8),.sl (gl v32 9),.sl (gl v32 10),.sl (gl v32 11),.b (gb v32 12),.sl (gl v32 13)]) fun v33 =>
 if (gb v33 3)=true then
 ja (if (gl v33 1).length + [[DC.i (32:Int)],[DC.i (32:Int)]].length < jF then
 if 104=104 ∧ 0 ≤ (gi v33 2) ∧ (gi v33 2) < ((gl v33 10).length:Int) then
 (Ql [.sl ((gl v33 1) ++ [[DC.i (32:Int)],[DC.i (32:Int)]]),.s ((((gl v33 10).getD (gi v33 2).toNat []).getD 0 d0).ss),.s ((((gl v33 10).getD (gi v33 2).toNat []).getD 1 d0).ss),.s ((((gl v33 10).getD (gi v33 2).toNat []).getD 2 d0).ss),.s ((((gl v33 10).getD (gi v33 2).toNat []).getD 3 d0).ss),.b ((((gl v33 10).getD (gi v33 2).toNat []).getD 4 d0).bb),.i ((((gl v33 10).getD (gi v33 2).toNat []).getD 5 d0).ii),.s ((((gl v33 10).getD (gi v33 2).toNat []).getD 6 d0).ss),.sl ((((gl v33 10).getD (gi v33 2).toNat []).getD 7 d0).ll),.sl ((((gl v33 10).getD (gi v33 2).toNat []).getD 8 d0).ll),.sl ((((gl v33 10).getD (gi v33 2).toNat []).getD 9 d0).ll)]).bindR fun r34 =>
 if (gl r34 0).length + [[DC.i (10:Int)]].length < jF then
 .norm [.sl (gl v33 0),.sl ((gl r34 0) ++ [[DC.i (10:Int)]]),.i (gi v33 2),.i (gi v33 4),.b (gb v33 5),.s (gs v33 6),.s (gs v33 7),.sl (gl v33 8),.sl (gl v33 9),.sl (gl v33 10),.sl (gl v33 11),.sl (gl v33 12),.b (gb v33 13),.sl (gl v33 14)]
 else
 .fail
 else
 .fail
 else
 .fail) 8 fun v35 =>
 .norm [.sl (gl v35 0),.sl (gl v35 1),.i (IntKind.i64.wrap ((gi v35 2) + (1:Int))),.i (gi v35 3),.b (gb v35 4),.s (gs v35 5),.s (gs v35 6),.sl (gl v35 7),.sl (gl v35 8),.sl (gl v35 9),.sl (gl v35 10),.sl (gl v35 11),.b (gb v35 12),.sl (gl v35 13)]
 else
 .ex 7 [.sl (gl v33 0),.sl (gl v33 1)]
noncomputable def Z9 (a:List DC):Out :=
 (j1c [.i (gi a 0),.b (gb a 1),.s (gs a 2),.s (gs a 3),.sl (gl a 4),.sl (gl a 5),.sl (gl a 6),.sl (gl a 7),.sl (gl a 8),.b (gb a 9),.sl (gl a 10)]).bindR fun r1 =>
 if (!(gb r1 0))=true then
 .ret [.s ([]:List UInt8)]
 else
 jb (if (!((gs a 2) == ([]:List UInt8)))=true then
 (qW [.s (gs a 2)]).bindR fun r2 =>
 if ([]:List (List DC)).length + (jo (gs r2 0)).length < jF then
 if (([]:List (List DC)) ++ (jo (gs r2 0))).length + [[DC.i (10:Int)]].length < jF then
 .norm [.sl ((([]:List (List DC)) ++ (jo (gs r2 0))) ++ [[DC.i (10:Int)]]),.i (gi a 0),.b (gb a 1),.s (gs a 2),.s (gs a 3),.sl (gl a 4),.sl (gl a 5),.sl (gl a 6),.sl (gl a 7),.sl (gl a 8),.b (gb a 9),.sl (gl a 10)]
 else
 .fail
 else
 .fail
 else
 .norm [.sl [],.i (gi a 0),.b (gb a 1),.s (gs a 2),.s (gs a 3),.sl (gl a 4),.sl (gl a 5),.sl (gl a 6),.sl (gl a 7),.sl (gl a 8),.b (gb a 9),.sl (gl a 10)]) fun v3 =>
 jb (if (gb v3 2)=true then
 if (gl v3 0).length + (jo ([101,120,116,101,110,100,32]:List UInt8)).length < jF then
 .norm [.sl ((gl v3 0) ++ (jo ([101,120,116,101,110,100,32]:List UInt8))),.i (gi v3 1),.b (gb v3 2),.s (gs v3 3),.s (gs v3 4),.sl (gl v3 5),.sl (gl v3 6),.sl (gl v3 7),.sl (gl v3 8),.sl (gl v3 9),.b (gb v3 10),.sl (gl v3 11)]
 else
 .fail
 else
 .norm [.sl (gl v3 0),.i (gi v3 1),.b (gb v3 2),.s (gs v3 3),.s (gs v3 4),.sl (gl v3 5),.sl (gl v3 6),.sl (gl v3 7),.sl (gl v3 8),.sl (gl v3 9),.b (gb v3 10),.sl (gl v3 11)]) fun v4 =>
 (YM [.i (gi v4 1)]).bindR fun r5 =>
 if (gl v4 0).length + (jo (gs r5 0)).length < jF then
 ja (jb (if ((gi v4 1) == (8:Int))=true then
 .norm [.sl ((gl v4 0) ++ (jo (gs r5 0))),.i (gi v4 1),.b (gb v4 2),.s (gs v4 3),.s (gs v4 4),.sl (gl v4 5),.sl (gl v4 6),.sl (gl v4 7),.sl (gl v4 8),.sl (gl v4 9),.b (gb v4 10),.sl (gl v4 11)]
 else
 jb (if ((gi v4 1) == (7:Int))=true then
 if ((gl v4 0) ++ (jo (gs r5 0))).length + [[DC.i (32:Int)],[DC.i (64:Int)]].length < jF then
 if (((gl v4 0) ++ (jo (gs r5 0))) ++ [[DC.i (32:Int)],[DC.i (64:Int)]]).length + (jo (gs v4 4)).length < jF then
 (Kw [.sl ((((gl v4 0) ++ (jo (gs r5 0))) ++ [[DC.i (32:Int)],[DC.i (64:Int)]]) ++ (jo (gs v4 4))),.sl (gl v4 7)]).bindR fun r6 =>
 jb (if (gb v4 10)=true then
 if (gl r6 0).length + (jo ([32,114,101,112,101,97,116,97,98,108,101]:List UInt8)).length < jF then
 .norm [.sl ((gl r6 0) ++ (jo ([32,114,101,112,101,97,116,97,98,108,101]:List UInt8))),.i (gi v4 1),.b (gb v4 2),.s (gs v4 3),.s (gs v4 4),.sl (gl v4 5),.sl (gl v4 6),.sl (gl v4 7),.sl (gl v4 8),.sl (gl v4 9),.b (gb v4 10),.sl (gl v4 11)]
 else
 .fail
 else
 .norm [.sl (gl r6 0),.i (gi v4 1),.b (gb v4 2),.s (gs v4 3),.s (gs v4 4),.sl (gl v4 5),.sl (gl v4 6),.sl (gl v4 7),.sl (gl v4 8),.sl (gl v4 9),.b (gb v4 10),.sl (gl v4 11)]) fun v7 =>
 if (gl v7 0).length + (jo ([32,111,110,32]:List UInt8)).length < jF then
 (Jt [.sl ((gl v7 0) ++ (jo ([32,111,110,32]:List UInt8))),.sl (gl v7 5),.s ([32,124,32]:List UInt8)]).bindR fun r8 =>
 .norm [.sl (gl r8 0),.i (gi v7 1),.b (gb v7 2),.s (gs v7 3),.s (gs v7 4),.sl (gl v7 5),.sl (gl v7 6),.sl (gl v7 7),.sl (gl v7 8),.sl (gl v7 9),.b (gb v7 10),.sl (gl v7 11)]
 else
 .fail
 else
 .fail
 else
 .fail
 else
 if ((gl v4 0) ++ (jo (gs r5 0))).length + [[DC.i (32:Int)]].length < jF then
 if (((gl v4 0) ++ (jo (gs r5 0))) ++ [[DC.i (32:Int)]]).length + (jo (gs v4 4)).length < jF then
 .norm [.sl ((((gl v4 0) ++ (jo (gs r5 0))) ++ [[DC.i (32:Int)]]) ++ (jo (gs v4 4))),.i (gi v4 1),.b (gb v4 2),.s (gs v4 3),.s (gs v4 4),.sl (gl v4 5),.sl (gl v4 6),.sl (gl v4 7),.sl (gl v4 8),.sl (gl v4 9),.b (gb v4 10),.sl (gl v4 11)]
 else
 .fail
 else
 .fail) fun v9 =>
 .norm [.sl (gl v9 0),.i (gi v9 1),.b (gb v9 2),.s (gs v9 3),.s (gs v9 4),.sl (gl v9 5),.sl (gl v9 6),.sl (gl v9 7),.sl (gl v9 8),.sl (gl v9 9),.b (gb v9 10),.sl (gl v9 11)]) fun v10 =>
 .norm [.sl (gl v10 0),.i (gi v10 1),.b (gb v10 2),.s (gs v10 3),.s (gs v10 4),.sl (gl v10 5),.sl (gl v10 6),.sl (gl v10 7),.sl (gl v10 8),.sl (gl v10 9),.b (gb v10 10),.sl (gl v10 11)]) 0 fun v11 =>
 jb (if ((gi v11 1) == (2:Int))=true then
 .norm [.sl (gl v11 0),.b (decide (((gl v11 5).length:Int) > (0:Int))),.i (gi v11 1),.b (gb v11 2),.s (gs v11 3),.s (gs v11 4),.sl (gl v11 5),.sl (gl v11 6),.sl (gl v11 7),.sl (gl v11 8),.sl (gl v11 9),.b (gb v11 10),.sl (gl v11 11)]
 else
 if ((gi v11 1) == (3:Int))=true then
 .norm [.sl (gl v11 0),.b (decide (((gl v11 5).length:Int) > (0:Int))),.i (gi v11 1),.b (gb v11 2),.s (gs v11 3),.s (gs v11 4),.sl (gl v11 5),.sl (gl v11 6),.sl (gl v11 7),.sl (gl v11 8),.sl (gl v11 9),.b (gb v11 10),.sl (gl v11 11)]
 else
 .norm [.sl (gl v11 0),.b false,.i (gi v11 1),.b (gb v11 2),.s (gs v11 3),.s (gs v11 4),.sl (gl v11 5),.sl (gl v11 6),.sl (gl v11 7),.sl (gl v11 8),.sl (gl v11 9),.b (gb v11 10),.sl (gl v11 11)]) fun v12 =>
 jb (if (gb v12 1)=true then
 if (gl v12 0).length + (jo ([32,105,109,112,108,101,109,101,110,116,115,32]:List UInt8)).length < jF then
 (Jt [.sl ((gl v12 0) ++ (jo ([32,105,109,112,108,101,109,101,110,116,115,32]:List UInt8))),.sl (gl v12 6),.s ([32,38,32]:List UInt8)]).bindR fun r13 =>
 .norm [.sl (gl r13 0),.i (gi v12 2),.b (gb v12 3),.s (gs v12 4),.s (gs v12 5),.sl (gl v12 6),.sl (gl v12 7),.sl (gl v12 8),.sl (gl v12 9),.sl (gl v12 10),.b (gb v12 11),.sl (gl v12 12)]
 else
 .fail
 else
 .norm [.sl (gl v12 0),.i (gi v12 2),.b (gb v12 3),.s (gs v12 4),.s (gs v12 5),.sl (gl v12 6),.sl (gl v12 7),.sl (gl v12 8),.sl (gl v12 9),.sl (gl v12 10),.b (gb v12 11),.sl (gl v12 12)]) fun v14 =>
 (p8 [.sl (gl v14 0),.sl (gl v14 11)]).bindR fun r15 =>
 jb (if ((gi v14 1) == (4:Int))=true then
 .norm [.sl (gl r15 0),.b (decide (((gl v14 5).length:Int) > (0:Int))),.i (gi v14 1),.b (gb v14 2),.s (gs v14 3),.s (gs v14 4),.sl (gl v14 5),.sl (gl v14 6),.sl (gl v14 7),.sl (gl v14 8),.sl (gl v14 9),.b (gb v14 10),.sl (gl v14 11)]
 else
 .norm [.sl (gl r15 0),.b false,.i (gi v14 1),.b (gb v14 2),.s (gs v14 3),.s (gs v14 4),.sl (gl v14 5),.sl (gl v14 6),.sl (gl v14 7),.sl (gl v14 8),.sl (gl v14 9),.b (gb v14 10),.sl (gl v14 11)]) fun v16 =>
 jb (if (gb v16 1)=true then
 if (gl v16 0).length + (jo ([32,61,32]:List UInt8)).length < jF then
 (Jt [.sl ((gl v16 0) ++ (jo ([32,61,32]:List UInt8))),.sl (gl v16 6),.s ([32,124,32]:List UInt8)]).bindR fun r17 =>
 .norm [.sl (gl r17 0),.i (gi v16 2),.b (gb v16 3),.s (gs v16 4),.s (gs v16 5),.sl (gl v16 6),.sl (gl v16 7),.sl (gl v16 8),.sl (gl v16 9),.sl (gl v16 10),.b (gb v16 11),.sl (gl v16 12)]
 else
 .fail
 else
 .norm [.sl (gl v16 0),.i (gi v16 2),.b (gb v16 3),.s (gs v16 4),.s (gs v16 5),.sl (gl v16 6),.sl (gl v16 7),.sl (gl v16 8),.sl (gl v16 9),.sl (gl v16 10),.b (gb v16 11),.sl (gl v16 12)]) fun v18 =>
 ja (jR J7 [.sl (gl v18 0),.sl [],.i (0:Int),.i (gi v18 1),.b (gb v18 2),.s (gs v18 3),.s (gs v18 4),.sl (gl v18 5),.sl (gl v18 6),.sl (gl v18 7),.sl (gl v18 8),.sl (gl v18 9),.b (gb v18 10),.sl (gl v18 11)]) 1 fun v22 =>
 ja (jR J6 [.sl (gl v22 0),.sl (gl v22 1),.i (0:Int),.i (gi v22 2),.b (gb v22 3),.s (gs v22 4),.s (gs v22 5),.sl (gl v22 6),.sl (gl v22 7),.sl (gl v22 8),.sl (gl v22 9),.sl (gl v22 10),.b (gb v22 11),.sl (gl v22 12)]) 3 fun v27 =>
 ja (jR J5 [.sl (gl v27 0),.sl (gl v27 1),.i (0:Int),.i (gi v27 2),.b (gb v27 3),.s (gs v27 4),.s (gs v27 5),.sl (gl v27 6),.sl (gl v27 7),.sl (gl v27 8),.sl (gl v27 9),.sl (gl v27 10),.b (gb v27 11),.sl (gl v27 12)]) 5 fun v31 =>
 ja (jR qO [.sl (gl v31 0),.sl (gl v31 1),.i (0:Int),.i (gi v31 2),.b (gb v31 3),.s (gs v31 4),.s (gs v31 5),.sl (gl v31 6),.sl (gl v31 7),.sl (gl v31 8),.sl (gl v31 9),.sl (gl v31 10),.b (gb v31 11),.sl (gl v31 12)]) 7 fun v36 =>
 jb (if (decide (((gl v36 1).length:Int) > (0:Int)))=true then
 if (gl v36 0).length + (jo ([32,123,10]:List UInt8)).length < jF then
 if ((gl v36 0) ++ (jo ([32,123,10]:List UInt8))).length + (gl v36 1).length < jF then
 if (((gl v36 0) ++ (jo ([32,123,10]:List UInt8))) ++ (gl v36 1)).length + [[DC.i (125:Int)]].length < jF then
 .norm [.sl ((((gl v36 0) ++ (jo ([32,123,10]:List UInt8))) ++ (gl v36 1)) ++ [[DC.i (125:Int)]])]
 else
 .fail
 else
 .fail
 else
 .fail
 else
 .norm [.sl (gl v36 0)]) fun v37 =>
 if (gl v37 0).length + [[DC.i (10:Int)]].length < jF then
 .ret [.s (pL ((gl v37 0) ++ [[DC.i (10:Int)]]))]
 else
 .fail
 else
 .fail
theorem j8v a:YP a=Z9 a:=(jk ju 14 _ a).trans (by kernel_rfl)
noncomputable def JH:List DC → Out:=fun v6 =>
 if (decide ((gi v6 4) < (gi v6 3)))=true then
 ja (if 115=115 ∧ 0 ≤ (gi v6 4) ∧ (gi v6 4) < ((gl v6 2).length:Int) then
 if ([36]:List UInt8).length + ((((gl v6 2).getD (gi v6 4).toNat []).getD 0 d0).ss).length < jF then
 if (([36]:List UInt8) ++ ((((gl v6 2).getD (gi v6 4).toNat []).getD 0 d0).ss)).length + ([58,32]:List UInt8).length < jF then
 (JA [.s ((((gl v6 2).getD (gi v6 4).toNat []).getD 1 d0).ss),.s ((((gl v6 2).getD (gi v6 4).toNat []).getD 2 d0).ss)]).bindR fun r7 =>
 if ((([36]:List UInt8) ++ ((((gl v6 2).getD (gi v6 4).toNat []).getD 0 d0).ss)) ++ ([58,32]:List UInt8)).length + (gs r7 0).length < jF then
 (Jh [.b ((((gl v6 2).getD (gi v6 4).toNat []).getD 3 d0).bb),.i ((((gl v6 2).getD (gi v6 4).toNat []).getD 4 d0).ii),.s ((((gl v6 2).getD (gi v6 4).toNat []).getD 5 d0).ss),.sl ((((gl v6 2).getD (gi v6 4).toNat []).getD 6 d0).ll),.sl ((((gl v6 2).getD (gi v6 4).toNat []).getD 7 d0).ll)]).bindR fun r8 =>
 if (((([36]:List UInt8) ++ ((((gl v6 2).getD (gi v6 4).toNat []).getD 0 d0).ss)) ++ ([58,32]:List UInt8)) ++ (gs r7 0)).length + (gs r8 0).length < jF then
 (kT [.sl ((((gl v6 2).getD (gi v6 4).toNat []).getD 8 d0).ll)]).bindR fun r9 =>
 if ((((([36]:List UInt8) ++ ((((gl v6 2).getD (gi v6 4).toNat []).getD 0 d0).ss)) ++ ([58,32]:List UInt8)) ++ (gs r7 0)) ++ (gs r8 0)).length + (gs r9 0).length < jF then
 if (gl v6 1).length + [[DC.s (((((([36]:List UInt8) ++ ((((gl v6 2).getD (gi v6 4).toNat []).getD 0 d0).ss)) ++ ([58,32]:List UInt8)) ++ (gs r7 0)) ++ (gs r8 0)) ++ (gs r9 0))]].length < jF then
 .norm [.s (gs v6 0),.sl ((gl v6 1) ++ [[DC.s (((((([36]:List UInt8) ++ ((((gl v6 2).getD (gi v6 4).toNat []).getD 0 d0).ss)) ++ ([58,32]:List UInt8)) ++ (gs r7 0)) ++ (gs r8 0)) ++ (gs r9 0))]]),.sl (gl v6 2),.i (gi v6 3),.i (gi v6 4),.i (gi v6 5),.s (gs v6 6),.sl (gl v6 7),.sl (gl v6 8),.sl (gl v6 9)]
 else
 .fail
 else
 .fail
 else
 .fail
 else
 .fail
 else
 .fail
 else
 .fail
 else
 .fail) 1 fun v10 =>
 .norm [.s (gs v10 0),.sl (gl v10 1),.sl (gl v10 2),.i (gi v10 3),.i (IntKind.i64.wrap ((gi v10 4) + (1:Int))),.i (gi v10 5),.s (gs v10 6),.sl (gl v10 7),.sl (gl v10 8),.sl (gl v10 9)]
 else
 .ex 0 [.s (gs v6 0),.sl (gl v6 1),.i (gi v6 5),.s (gs v6 6),.sl (gl v6 7),.sl (gl v6 8),.sl (gl v6 9)]
noncomputable def j0k (a:List DC):Out :=
 (j2p [.i (gi a 0),.s (gs a 1),.sl (gl a 2),.sl (gl a 3),.sl (gl a 4)]).bindR fun r1 =>
 if (!(gb r1 0))=true then
 .ret [.s ([]:List UInt8)]
 else
 jb (if ((gi a 0) == (1:Int))=true then
 if ((gs a 1) == ([]:List UInt8))=true then
 if (((gl a 2).length:Int) == (0:Int))=true then
 .norm [.b (((gl a 3).length:Int) == (0:Int)),.i (gi a 0),.s (gs a 1),.sl (gl a 2),.sl (gl a 3),.sl (gl a 4)]
 else
 .norm [.b false,.i (gi a 0),.s (gs a 1),.sl (gl a 2),.sl (gl a 3),.sl (gl a 4)]
 else
 .norm [.b false,.i (gi a 0),.s (gs a 1),.sl (gl a 2),.sl (gl a 3),.sl (gl a 4)]
 else
 .norm [.b false,.i (gi a 0),.s (gs a 1),.sl (gl a 2),.sl (gl a 3),.sl (gl a 4)]) fun v2 =>
 if (gb v2 0)=true then
 (yY [.sl (gl v2 5)]).bindR fun r3 =>
 .ret [.s (gs r3 0)]
 else
 (zD [.i (gi v2 1)]).bindR fun r4 =>
 jb (if (!((gs v2 2) == ([]:List UInt8)))=true then
 if ([32]:List UInt8).length + (gs v2 2).length < jF then
 if (gs r4 0).length + (([32]:List UInt8) ++ (gs v2 2)).length < jF then
 .norm [.s ((gs r4 0) ++ (([32]:List UInt8) ++ (gs v2 2))),.i (gi v2 1),.s (gs v2 2),.sl (gl v2 3),.sl (gl v2 4),.sl (gl v2 5)]
 else
 .fail
 else
 .fail
 else
 .norm [.s (gs r4 0),.i (gi v2 1),.s (gs v2 2),.sl (gl v2 3),.sl (gl v2 4),.sl (gl v2 5)]) fun v5 =>
 ja (jR JH [.s (gs v5 0),.sl [],.sl (gl v5 3),.i ((gl v5 3).length:Int),.i (0:Int),.i (gi v5 1),.s (gs v5 2),.sl (gl v5 3),.sl (gl v5 4),.sl (gl v5 5)]) 0 fun v11 =>
 jb (if (decide (((gl v11 1).length:Int) > (0:Int)))=true then
 (pn [.sl (gl v11 1),.s ([44,32]:List UInt8)]).bindR fun r12 =>
 if ([40]:List UInt8).length + (gs r12 0).length < jF then
 if (([40]:List UInt8) ++ (gs r12 0)).length + ([41]:List UInt8).length < jF then
 if (gs v11 0).length + ((([40]:List UInt8) ++ (gs r12 0)) ++ ([41]:List UInt8)).length < jF then
 .norm [.s ((gs v11 0) ++ ((([40]:List UInt8) ++ (gs r12 0)) ++ ([41]:List UInt8))),.i (gi v11 2),.s (gs v11 3),.sl (gl v11 4),.sl (gl v11 5),.sl (gl v11 6)]
 else
 .fail
 else
 .fail
 else
 .fail
 else
 .norm [.s (gs v11 0),.i (gi v11 2),.s (gs v11 3),.sl (gl v11 4),.sl (gl v11 5),.sl (gl v11 6)]) fun v13 =>
 (kT [.sl (gl v13 4)]).bindR fun r14 =>
 if (gs v13 0).length + (gs r14 0).length < jF then
 if ((gs v13 0) ++ (gs r14 0)).length + ([32]:List UInt8).length < jF then
 (yY [.sl (gl v13 5)]).bindR fun r15 =>
 if (((gs v13 0) ++ (gs r14 0)) ++ ([32]:List UInt8)).length + (gs r15 0).length < jF then
 .ret [.s ((((gs v13 0) ++ (gs r14 0)) ++ ([32]:List UInt8)) ++ (gs r15 0))]
 else
 .fail
 else
 .fail
 else
 .fail
theorem jaK a:j09 a=j0k a:=(jk ju 18 _ a).trans (by kernel_rfl)
noncomputable def Yb (a:List DC):Out :=
 (j0a [.s (gs a 0),.s (gs a 1),.sl (gl a 2),.sl (gl a 3)]).bindR fun r1 =>
 if (!(gb r1 0))=true then
 .ret [.s ([]:List UInt8)]
 else
 if ([102,114,97,103,109,101,110,116,32]:List UInt8).length + (gs a 0).length < jF then
 if (([102,114,97,103,109,101,110,116,32]:List UInt8) ++ (gs a 0)).length + ([32,111,110,32]:List UInt8).length < jF then
 if ((([102,114,97,103,109,101,110,116,32]:List UInt8) ++ (gs a 0)) ++ ([32,111,110,32]:List UInt8)).length + (gs a 1).length < jF then
 (kT [.sl (gl a 2)]).bindR fun r2 =>
 if (((([102,114,97,103,109,101,110,116,32]:List UInt8) ++ (gs a 0)) ++ ([32,111,110,32]:List UInt8)) ++ (gs a 1)).length + (gs r2 0).length < jF then
 if ((((([102,114,97,103,109,101,110,116,32]:List UInt8) ++ (gs a 0)) ++ ([32,111,110,32]:List UInt8)) ++ (gs a 1)) ++ (gs r2 0)).length + ([32]:List UInt8).length < jF then
 (yY [.sl (gl a 3)]).bindR fun r3 =>
 if (((((([102,114,97,103,109,101,110,116,32]:List UInt8) ++ (gs a 0)) ++ ([32,111,110,32]:List UInt8)) ++ (gs a 1)) ++ (gs r2 0)) ++ ([32]:List UInt8)).length + (gs r3 0).length < jF then
 .ret [.s ((((((([102,114,97,103,109,101,110,116,32]:List UInt8) ++ (gs a 0)) ++ ([32,111,110,32]:List UInt8)) ++ (gs a 1)) ++ (gs r2 0)) ++ ([32]:List UInt8)) ++ (gs r3 0))]
 else
 .fail
 else
 .fail
 else
 .fail
 else
 .fail
 else
 .fail
 else
 .fail
theorem j7h a:XW a=Yb a:=(jk ju 19 _ a).trans (by kernel_rfl)
noncomputable def Zg (a:List DC):Out :=
 (j1h [.i (gi a 0),.b (gb a 1),.s (gs a 2),.s (gs a 3),.sl (gl a 4),.sl (gl a 5),.sl (gl a 6),.sl (gl a 7),.sl (gl a 8),.b (gb a 9),.sl (gl a 10)]).bindR fun r1 =>
 if (!(gb r1 0))=true then
 .ret [.s ([]:List UInt8)]
 else
 (yX [.s ([]:List UInt8),.s (gs a 2)]).bindR fun r2 =>
 jb (if (gb a 1)=true then
 if (gs r2 0).length + ([101,120,116,101,110,100,32]:List UInt8).length < jF then
 .norm [.s ((gs r2 0) ++ ([101,120,116,101,110,100,32]:List UInt8)),.i (gi a 0),.b (gb a 1),.s (gs a 2),.s (gs a 3),.sl (gl a 4),.sl (gl a 5),.sl (gl a 6),.sl (gl a 7),.sl (gl a 8),.b (gb a 9),.sl (gl a 10)]
 else
 .fail
 else
 .norm [.s (gs r2 0),.i (gi a 0),.b (gb a 1),.s (gs a 2),.s (gs a 3),.sl (gl a 4),.sl (gl a 5),.sl (gl a 6),.sl (gl a 7),.sl (gl a 8),.b (gb a 9),.sl (gl a 10)]) fun v3 =>
 (XS []).bindR fun r4 =>
 if 9=9 ∧ 0 ≤ (gi v3 1) ∧ (gi v3 1) < ((gl r4 0).length:Int) then
 if (gs v3 0).length + ((((gl r4 0).getD (gi v3 1).toNat []).getD 0 d0).ss).length < jF then
 ja (jb (if ((gi v3 1) == (7:Int))=true then
 if ([32,64]:List UInt8).length + (gs v3 4).length < jF then
 (Vg [.sl (gl v3 7)]).bindR fun r5 =>
 if (([32,64]:List UInt8) ++ (gs v3 4)).length + (gs r5 0).length < jF then
 if ((gs v3 0) ++ ((((gl r4 0).getD (gi v3 1).toNat []).getD 0 d0).ss)).length + ((([32,64]:List UInt8) ++ (gs v3 4)) ++ (gs r5 0)).length < jF then
 jb (if (gb v3 10)=true then
 if (((gs v3 0) ++ ((((gl r4 0).getD (gi v3 1).toNat []).getD 0 d0).ss)) ++ ((([32,64]:List UInt8) ++ (gs v3 4)) ++ (gs r5 0))).length + ([32,114,101,112,101,97,116,97,98,108,101]:List UInt8).length < jF then
 .norm [.s ((((gs v3 0) ++ ((((gl r4 0).getD (gi v3 1).toNat []).getD 0 d0).ss)) ++ ((([32,64]:List UInt8) ++ (gs v3 4)) ++ (gs r5 0))) ++ ([32,114,101,112,101,97,116,97,98,108,101]:List UInt8)),.i (gi v3 1),.b (gb v3 2),.s (gs v3 3),.s (gs v3 4),.sl (gl v3 5),.sl (gl v3 6),.sl (gl v3 7),.sl (gl v3 8),.sl (gl v3 9),.b (gb v3 10),.sl (gl v3 11)]
 else
 .fail
 else
 .norm [.s (((gs v3 0) ++ ((((gl r4 0).getD (gi v3 1).toNat []).getD 0 d0).ss)) ++ ((([32,64]:List UInt8) ++ (gs v3 4)) ++ (gs r5 0))),.i (gi v3 1),.b (gb v3 2),.s (gs v3 3),.s (gs v3 4),.sl (gl v3 5),.sl (gl v3 6),.sl (gl v3 7),.sl (gl v3 8),.sl (gl v3 9),.b (gb v3 10),.sl (gl v3 11)]) fun v6 =>
 (pn [.sl (gl v6 5),.s ([32,124,32]:List UInt8)]).bindR fun r7 =>
 if ([32,111,110,32]:List UInt8).length + (gs r7 0).length < jF then
 if (gs v6 0).length + (([32,111,110,32]:List UInt8) ++ (gs r7 0)).length < jF then
 .norm [.s ((gs v6 0) ++ (([32,111,110,32]:List UInt8) ++ (gs r7 0))),.i (gi v6 1),.b (gb v6 2),.s (gs v6 3),.s (gs v6 4),.sl (gl v6 5),.sl (gl v6 6),.sl (gl v6 7),.sl (gl v6 8),.sl (gl v6 9),.b (gb v6 10),.sl (gl v6 11)]
 else
 .fail
 else
 .fail
 else
 .fail
 else
 .fail
 else
 .fail
 else
 jb (if ((gi v3 1) == (8:Int))=true then
 .norm [.s ((gs v3 0) ++ ((((gl r4 0).getD (gi v3 1).toNat []).getD 0 d0).ss)),.i (gi v3 1),.b (gb v3 2),.s (gs v3 3),.s (gs v3 4),.sl (gl v3 5),.sl (gl v3 6),.sl (gl v3 7),.sl (gl v3 8),.sl (gl v3 9),.b (gb v3 10),.sl (gl v3 11)]
 else
 if ([32]:List UInt8).length + (gs v3 4).length < jF then
 if ((gs v3 0) ++ ((((gl r4 0).getD (gi v3 1).toNat []).getD 0 d0).ss)).length + (([32]:List UInt8) ++ (gs v3 4)).length < jF then
 .norm [.s (((gs v3 0) ++ ((((gl r4 0).getD (gi v3 1).toNat []).getD 0 d0).ss)) ++ (([32]:List UInt8) ++ (gs v3 4))),.i (gi v3 1),.b (gb v3 2),.s (gs v3 3),.s (gs v3 4),.sl (gl v3 5),.sl (gl v3 6),.sl (gl v3 7),.sl (gl v3 8),.sl (gl v3 9),.b (gb v3 10),.sl (gl v3 11)]
 else
 .fail
 else
 .fail) fun v8 =>
 .norm [.s (gs v8 0),.i (gi v8 1),.b (gb v8 2),.s (gs v8 3),.s (gs v8 4),.sl (gl v8 5),.sl (gl v8 6),.sl (gl v8 7),.sl (gl v8 8),.sl (gl v8 9),.b (gb v8 10),.sl (gl v8 11)]) fun v9 =>
 .norm [.s (gs v9 0),.i (gi v9 1),.b (gb v9 2),.s (gs v9 3),.s (gs v9 4),.sl (gl v9 5),.sl (gl v9 6),.sl (gl v9 7),.sl (gl v9 8),.sl (gl v9 9),.b (gb v9 10),.sl (gl v9 11)]) 0 fun v10 =>
 jb (if (decide (((gl v10 5).length:Int) > (0:Int)))=true then
 if ((gi v10 1) == (2:Int))=true then
 .norm [.s (gs v10 0),.b true,.i (gi v10 1),.b (gb v10 2),.s (gs v10 3),.s (gs v10 4),.sl (gl v10 5),.sl (gl v10 6),.sl (gl v10 7),.sl (gl v10 8),.sl (gl v10 9),.b (gb v10 10),.sl (gl v10 11)]
 else
 .norm [.s (gs v10 0),.b ((gi v10 1) == (3:Int)),.i (gi v10 1),.b (gb v10 2),.s (gs v10 3),.s (gs v10 4),.sl (gl v10 5),.sl (gl v10 6),.sl (gl v10 7),.sl (gl v10 8),.sl (gl v10 9),.b (gb v10 10),.sl (gl v10 11)]
 else
 .norm [.s (gs v10 0),.b false,.i (gi v10 1),.b (gb v10 2),.s (gs v10 3),.s (gs v10 4),.sl (gl v10 5),.sl (gl v10 6),.sl (gl v10 7),.sl (gl v10 8),.sl (gl v10 9),.b (gb v10 10),.sl (gl v10 11)]) fun v11 =>
 jb (if (gb v11 1)=true then
 (pn [.sl (gl v11 6),.s ([32,38,32]:List UInt8)]).bindR fun r12 =>
 if ([32,105,109,112,108,101,109,101,110,116,115,32]:List UInt8).length + (gs r12 0).length < jF then
 if (gs v11 0).length + (([32,105,109,112,108,101,109,101,110,116,115,32]:List UInt8) ++ (gs r12 0)).length < jF then
 .norm [.s ((gs v11 0) ++ (([32,105,109,112,108,101,109,101,110,116,115,32]:List UInt8) ++ (gs r12 0))),.i (gi v11 2),.b (gb v11 3),.s (gs v11 4),.s (gs v11 5),.sl (gl v11 6),.sl (gl v11 7),.sl (gl v11 8),.sl (gl v11 9),.sl (gl v11 10),.b (gb v11 11),.sl (gl v11 12)]
 else
 .fail
 else
 .fail
 else
 .norm [.s (gs v11 0),.i (gi v11 2),.b (gb v11 3),.s (gs v11 4),.s (gs v11 5),.sl (gl v11 6),.sl (gl v11 7),.sl (gl v11 8),.sl (gl v11 9),.sl (gl v11 10),.b (gb v11 11),.sl (gl v11 12)]) fun v13 =>
 (kT [.sl (gl v13 11)]).bindR fun r14 =>
 if (gs v13 0).length + (gs r14 0).length < jF then
 jb (if (decide (((gl v13 5).length:Int) > (0:Int)))=true then
 .norm [.s ((gs v13 0) ++ (gs r14 0)),.b ((gi v13 1) == (4:Int)),.i (gi v13 1),.b (gb v13 2),.s (gs v13 3),.s (gs v13 4),.sl (gl v13 5),.sl (gl v13 6),.sl (gl v13 7),.sl (gl v13 8),.sl (gl v13 9),.b (gb v13 10),.sl (gl v13 11)]
 else
 .norm [.s ((gs v13 0) ++ (gs r14 0)),.b false,.i (gi v13 1),.b (gb v13 2),.s (gs v13 3),.s (gs v13 4),.sl (gl v13 5),.sl (gl v13 6),.sl (gl v13 7),.sl (gl v13 8),.sl (gl v13 9),.b (gb v13 10),.sl (gl v13 11)]) fun v15 =>
 jb (if (gb v15 1)=true then
 (pn [.sl (gl v15 6),.s ([32,124,32]:List UInt8)]).bindR fun r16 =>
 if ([32,61,32]:List UInt8).length + (gs r16 0).length < jF then
 if (gs v15 0).length + (([32,61,32]:List UInt8) ++ (gs r16 0)).length < jF then
 .norm [.s ((gs v15 0) ++ (([32,61,32]:List UInt8) ++ (gs r16 0))),.i (gi v15 2),.b (gb v15 3),.s (gs v15 4),.s (gs v15 5),.sl (gl v15 6),.sl (gl v15 7),.sl (gl v15 8),.sl (gl v15 9),.sl (gl v15 10),.b (gb v15 11),.sl (gl v15 12)]
 else
 .fail
 else
 .fail
 else
 .norm [.s (gs v15 0),.i (gi v15 2),.b (gb v15 3),.s (gs v15 4),.s (gs v15 5),.sl (gl v15 6),.sl (gl v15 7),.sl (gl v15 8),.sl (gl v15 9),.sl (gl v15 10),.b (gb v15 11),.sl (gl v15 12)]) fun v17 =>
 (Vk [.i (gi v17 1),.b (gb v17 2),.s (gs v17 3),.s (gs v17 4),.sl (gl v17 5),.sl (gl v17 6),.sl (gl v17 7),.sl (gl v17 8),.sl (gl v17 9),.b (gb v17 10),.sl (gl v17 11)]).bindR fun r18 =>
 jb (if (!((gs r18 0) == ([]:List UInt8)))=true then
 if ([32,123,10]:List UInt8).length + (gs r18 0).length < jF then
 if (([32,123,10]:List UInt8) ++ (gs r18 0)).length + ([125]:List UInt8).length < jF then
 if (gs v17 0).length + ((([32,123,10]:List UInt8) ++ (gs r18 0)) ++ ([125]:List UInt8)).length < jF then
 .norm [.s ((gs v17 0) ++ ((([32,123,10]:List UInt8) ++ (gs r18 0)) ++ ([125]:List UInt8)))]
 else
 .fail
 else
 .fail
 else
 .fail
 else
 .norm [.s (gs v17 0)]) fun v19 =>
 if (gs v19 0).length + ([10]:List UInt8).length < jF then
 .ret [.s ((gs v19 0) ++ ([10]:List UInt8))]
 else
 .fail
 else
 .fail
 else
 .fail
 else
 .fail
theorem j8R a:YT a=Zg a:=(jk ju 20 _ a).trans (by kernel_rfl)
noncomputable def j8d (a:List DC):Out :=
 if ((gi a 0) != (gi a 5))=true then
 .ret [.b false]
 else
 if (!((gs a 1) == (gs a 6)))=true then
 .ret [.b false]
 else
 (KG [.sl (gl a 2),.sl (gl a 7)]).bindR fun r1 =>
 if (!(gb r1 0))=true then
 .ret [.b false]
 else
 (pO [.sl (gl a 3),.sl (gl a 8)]).bindR fun r2 =>
 if (!(gb r2 0))=true then
 .ret [.b false]
 else
 (JL [.sl (gl a 4),.sl (gl a 9)]).bindR fun r3 =>
 if (!(gb r3 0))=true then
 .ret [.b false]
 else
 .ret [.b true]
theorem jdD a:j2o a=j8d a:=(jk ju 21 _ a).trans (by kernel_rfl)
noncomputable def j4f (a:List DC):Out :=
 if (!((gs a 0) == (gs a 4)))=true then
 .ret [.b false]
 else
 if (!((gs a 1) == (gs a 5)))=true then
 .ret [.b false]
 else
 (pO [.sl (gl a 2),.sl (gl a 6)]).bindR fun r1 =>
 if (!(gb r1 0))=true then
 .ret [.b false]
 else
 (JL [.sl (gl a 3),.sl (gl a 7)]).bindR fun r2 =>
 if (!(gb r2 0))=true then
 .ret [.b false]
 else
 .ret [.b true]
theorem jaz a:j04 a=j4f a:=(jk ju 22 _ a).trans (by kernel_rfl)
noncomputable def j6q (a:List DC):Out :=
 if ((gi a 0) != (gi a 11))=true then
 .ret [.b false]
 else
 if (!((gb a 1) == (gb a 12)))=true then
 .ret [.b false]
 else
 if (!((gs a 2) == (gs a 13)))=true then
 .ret [.b false]
 else
 if (!((gs a 3) == (gs a 14)))=true then
 .ret [.b false]
 else
 (KH [.sl (gl a 4),.sl (gl a 15)]).bindR fun r1 =>
 if (!(gb r1 0))=true then
 .ret [.b false]
 else
 (Jg [.sl (gl a 5),.sl (gl a 16)]).bindR fun r2 =>
 if (!(gb r2 0))=true then
 .ret [.b false]
 else
 (Jy [.sl (gl a 6),.sl (gl a 17)]).bindR fun r3 =>
 if (!(gb r3 0))=true then
 .ret [.b false]
 else
 (K3 [.sl (gl a 7),.sl (gl a 18)]).bindR fun r4 =>
 if (!(gb r4 0))=true then
 .ret [.b false]
 else
 (Vc [.sl (gl a 8),.sl (gl a 19)]).bindR fun r5 =>
 if (!(gb r5 0))=true then
 .ret [.b false]
 else
 if (!((gb a 9) == (gb a 20)))=true then
 .ret [.b false]
 else
 (pO [.sl (gl a 10),.sl (gl a 21)]).bindR fun r6 =>
 if (!(gb r6 0))=true then
 .ret [.b false]
 else
 .ret [.b true]
theorem jbM a:j1f a=j6q a:=(jk ju 23 _ a).trans (by kernel_rfl)
noncomputable def QM:List DC → Out:=fun v1 =>
 if (decide ((gi v1 2) < ((gl v1 0).length:Int)))=true then
 ja (if 137=137 ∧ 0 ≤ (gi v1 2) ∧ (gi v1 2) < ((gl v1 0).length:Int) then
 (Qo [.s ((((gl v1 0).getD (gi v1 2).toNat []).getD 0 d0).ss),.s ((((gl v1 0).getD (gi v1 2).toNat []).getD 1 d0).ss),.s ((((gl v1 0).getD (gi v1 2).toNat []).getD 2 d0).ss),.b ((((gl v1 0).getD (gi v1 2).toNat []).getD 3 d0).bb),.i ((((gl v1 0).getD (gi v1 2).toNat []).getD 4 d0).ii),.s ((((gl v1 0).getD (gi v1 2).toNat []).getD 5 d0).ss),.sl ((((gl v1 0).getD (gi v1 2).toNat []).getD 6 d0).ll),.sl ((((gl v1 0).getD (gi v1 2).toNat []).getD 7 d0).ll),.sl ((((gl v1 0).getD (gi v1 2).toNat []).getD 8 d0).ll),.i (gi v1 1)]).bindR fun r2 =>
 if (decide ((gi r2 0) < (0:Int)))=true then
 .ret [.i (-1:Int)]
 else
 .norm [.sl (gl v1 0),.i (gi r2 0),.i (gi v1 2)]
 else
 .fail) 1 fun v3 =>
 .norm [.sl (gl v3 0),.i (gi v3 1),.i (IntKind.i64.wrap ((gi v3 2) + (1:Int)))]
 else
 .ex 0 [.i (gi v1 1)]
noncomputable def j0N (a:List DC):Out :=
 if (decide ((IntKind.i64.wrap ((gi a 1) - ((gl a 0).length:Int))) < (0:Int)))=true then
 .ret [.i (-1:Int)]
 else
 ja (jR QM [.sl (gl a 0),.i (IntKind.i64.wrap ((gi a 1) - ((gl a 0).length:Int))),.i (0:Int)]) 0 fun v4 =>
 .ret [.i (gi v4 0)]
theorem j5E a:KD a=j0N a:=(jk ju 24 _ a).trans (by kernel_rfl)
noncomputable def Y5:List DC → Out:=fun v1 =>
 if (decide ((gi v1 2) < ((gl v1 0).length:Int)))=true then
 ja (if 141=141 ∧ 0 ≤ (gi v1 2) ∧ (gi v1 2) < ((gl v1 0).length:Int) then
 (Yl [.s ((((gl v1 0).getD (gi v1 2).toNat []).getD 0 d0).ss),.sl ((((gl v1 0).getD (gi v1 2).toNat []).getD 1 d0).ll),.i (gi v1 1)]).bindR fun r2 =>
 if (decide ((gi r2 0) < (0:Int)))=true then
 .ret [.i (-1:Int)]
 else
 .norm [.sl (gl v1 0),.i (gi r2 0),.i (gi v1 2)]
 else
 .fail) 1 fun v3 =>
 .norm [.sl (gl v3 0),.i (gi v3 1),.i (IntKind.i64.wrap ((gi v3 2) + (1:Int)))]
 else
 .ex 0 [.i (gi v1 1)]
noncomputable def j49 (a:List DC):Out :=
 if (decide ((IntKind.i64.wrap ((gi a 1) - ((gl a 0).length:Int))) < (0:Int)))=true then
 .ret [.i (-1:Int)]
 else
 ja (jR Y5 [.sl (gl a 0),.i (IntKind.i64.wrap ((gi a 1) - ((gl a 0).length:Int))),.i (0:Int)]) 0 fun v4 =>
 .ret [.i (gi v4 0)]
theorem jat a:pN a=j49 a:=(jk ju 25 _ a).trans (by kernel_rfl)
noncomputable def Y4:List DC → Out:=fun v1 =>
 if (decide ((gi v1 2) < ((gl v1 0).length:Int)))=true then
 ja (if 144=144 ∧ 0 ≤ (gi v1 2) ∧ (gi v1 2) < ((gl v1 0).length:Int) then
 (Yk [.i ((((gl v1 0).getD (gi v1 2).toNat []).getD 0 d0).ii),.s ((((gl v1 0).getD (gi v1 2).toNat []).getD 1 d0).ss),.s ((((gl v1 0).getD (gi v1 2).toNat []).getD 2 d0).ss),.s ((((gl v1 0).getD (gi v1 2).toNat []).getD 3 d0).ss),.sl ((((gl v1 0).getD (gi v1 2).toNat []).getD 4 d0).ll),.sl ((((gl v1 0).getD (gi v1 2).toNat []).getD 5 d0).ll),.sl ((((gl v1 0).getD (gi v1 2).toNat []).getD 6 d0).ll),.i (gi v1 1)]).bindR fun r2 =>
 if (decide ((gi r2 0) < (0:Int)))=true then
 .ret [.i (-1:Int)]
 else
 .norm [.sl (gl v1 0),.i (gi r2 0),.i (gi v1 2)]
 else
 .fail) 1 fun v3 =>
 .norm [.sl (gl v3 0),.i (gi v3 1),.i (IntKind.i64.wrap ((gi v3 2) + (1:Int)))]
 else
 .ex 0 [.i (gi v1 1)]
noncomputable def j45 (a:List DC):Out :=
 if (decide ((IntKind.i64.wrap ((gi a 1) - ((gl a 0).length:Int))) < (0:Int)))=true then
 .ret [.i (-1:Int)]
 else
 ja (jR Y4 [.sl (gl a 0),.i (IntKind.i64.wrap ((gi a 1) - ((gl a 0).length:Int))),.i (0:Int)]) 0 fun v4 =>
 .ret [.i (gi v4 0)]
theorem jap a:JK a=j45 a:=(jk ju 26 _ a).trans (by kernel_rfl)
noncomputable def QN:List DC → Out:=fun v1 =>
 if (decide ((gi v1 2) < ((gl v1 0).length:Int)))=true then
 ja (if 9=9 ∧ 0 ≤ (gi v1 2) ∧ (gi v1 2) < ((gl v1 0).length:Int) then
 if (decide ((IntKind.i64.wrap ((gi v1 1) - (((((gl v1 0).getD (gi v1 2).toNat []).getD 0 d0).ss).length:Int))) < (0:Int)))=true then
 .ret [.i (-1:Int)]
 else
 .norm [.sl (gl v1 0),.i (IntKind.i64.wrap ((gi v1 1) - (((((gl v1 0).getD (gi v1 2).toNat []).getD 0 d0).ss).length:Int))),.i (gi v1 2)]
 else
 .fail) 1 fun v2 =>
 .norm [.sl (gl v2 0),.i (gi v2 1),.i (IntKind.i64.wrap ((gi v2 2) + (1:Int)))]
 else
 .ex 0 [.i (gi v1 1)]
noncomputable def j0O (a:List DC):Out :=
 if (decide ((IntKind.i64.wrap ((gi a 1) - ((gl a 0).length:Int))) < (0:Int)))=true then
 .ret [.i (-1:Int)]
 else
 ja (jR QN [.sl (gl a 0),.i (IntKind.i64.wrap ((gi a 1) - ((gl a 0).length:Int))),.i (0:Int)]) 0 fun v3 =>
 .ret [.i (gi v3 0)]
theorem j5F a:KE a=j0O a:=(jk ju 27 _ a).trans (by kernel_rfl)
noncomputable def Ks:List DC → Out:=fun v1 =>
 if (decide ((gi v1 2) < ((gl v1 0).length:Int)))=true then
 ja (if 147=147 ∧ 0 ≤ (gi v1 2) ∧ (gi v1 2) < ((gl v1 0).length:Int) then
 (JZ [.s ((((gl v1 0).getD (gi v1 2).toNat []).getD 0 d0).ss),.s ((((gl v1 0).getD (gi v1 2).toNat []).getD 1 d0).ss),.sl ((((gl v1 0).getD (gi v1 2).toNat []).getD 2 d0).ll),.s ((((gl v1 0).getD (gi v1 2).toNat []).getD 3 d0).ss),.s ((((gl v1 0).getD (gi v1 2).toNat []).getD 4 d0).ss),.sl ((((gl v1 0).getD (gi v1 2).toNat []).getD 5 d0).ll),.i (gi v1 1)]).bindR fun r2 =>
 if (decide ((gi r2 0) < (0:Int)))=true then
 .ret [.i (-1:Int)]
 else
 .norm [.sl (gl v1 0),.i (gi r2 0),.i (gi v1 2)]
 else
 .fail) 1 fun v3 =>
 .norm [.sl (gl v3 0),.i (gi v3 1),.i (IntKind.i64.wrap ((gi v3 2) + (1:Int)))]
 else
 .ex 0 [.i (gi v1 1)]
noncomputable def Zb (a:List DC):Out :=
 if (decide ((IntKind.i64.wrap ((gi a 1) - ((gl a 0).length:Int))) < (0:Int)))=true then
 .ret [.i (-1:Int)]
 else
 ja (jR Ks [.sl (gl a 0),.i (IntKind.i64.wrap ((gi a 1) - ((gl a 0).length:Int))),.i (0:Int)]) 0 fun v4 =>
 .ret [.i (gi v4 0)]
theorem j3p a:Jf a=Zb a:=(jk ju 28 _ a).trans (by kernel_rfl)
noncomputable def VH:List DC → Out:=fun v1 =>
 if (decide ((gi v1 2) < ((gl v1 0).length:Int)))=true then
 ja (if 150=150 ∧ 0 ≤ (gi v1 2) ∧ (gi v1 2) < ((gl v1 0).length:Int) then
 (Vb [.s ((((gl v1 0).getD (gi v1 2).toNat []).getD 0 d0).ss),.s ((((gl v1 0).getD (gi v1 2).toNat []).getD 1 d0).ss),.s ((((gl v1 0).getD (gi v1 2).toNat []).getD 2 d0).ss),.s ((((gl v1 0).getD (gi v1 2).toNat []).getD 3 d0).ss),.b ((((gl v1 0).getD (gi v1 2).toNat []).getD 4 d0).bb),.i ((((gl v1 0).getD (gi v1 2).toNat []).getD 5 d0).ii),.s ((((gl v1 0).getD (gi v1 2).toNat []).getD 6 d0).ss),.sl ((((gl v1 0).getD (gi v1 2).toNat []).getD 7 d0).ll),.sl ((((gl v1 0).getD (gi v1 2).toNat []).getD 8 d0).ll),.sl ((((gl v1 0).getD (gi v1 2).toNat []).getD 9 d0).ll),.i (gi v1 1)]).bindR fun r2 =>
 if (decide ((gi r2 0) < (0:Int)))=true then
 .ret [.i (-1:Int)]
 else
 .norm [.sl (gl v1 0),.i (gi r2 0),.i (gi v1 2)]
 else
 .fail) 1 fun v3 =>
 .norm [.sl (gl v3 0),.i (gi v3 1),.i (IntKind.i64.wrap ((gi v3 2) + (1:Int)))]
 else
 .ex 0 [.i (gi v1 1)]
noncomputable def j1Q (a:List DC):Out :=
 if (decide ((IntKind.i64.wrap ((gi a 1) - ((gl a 0).length:Int))) < (0:Int)))=true then
 .ret [.i (-1:Int)]
 else
 ja (jR VH [.sl (gl a 0),.i (IntKind.i64.wrap ((gi a 1) - ((gl a 0).length:Int))),.i (0:Int)]) 0 fun v4 =>
 .ret [.i (gi v4 0)]
theorem j75 a:Jx a=j1Q a:=(jk ju 29 _ a).trans (by kernel_rfl)
noncomputable def Q6:List DC → Out:=fun v1 =>
 if (decide ((gi v1 2) < ((gl v1 0).length:Int)))=true then
 ja (if 153=153 ∧ 0 ≤ (gi v1 2) ∧ (gi v1 2) < ((gl v1 0).length:Int) then
 (KF [.s ((((gl v1 0).getD (gi v1 2).toNat []).getD 0 d0).ss),.s ((((gl v1 0).getD (gi v1 2).toNat []).getD 1 d0).ss),.sl ((((gl v1 0).getD (gi v1 2).toNat []).getD 2 d0).ll),.i (gi v1 1)]).bindR fun r2 =>
 if (decide ((gi r2 0) < (0:Int)))=true then
 .ret [.i (-1:Int)]
 else
 .norm [.sl (gl v1 0),.i (gi r2 0),.i (gi v1 2)]
 else
 .fail) 1 fun v3 =>
 .norm [.sl (gl v3 0),.i (gi v3 1),.i (IntKind.i64.wrap ((gi v3 2) + (1:Int)))]
 else
 .ex 0 [.i (gi v1 1)]
noncomputable def ZH (a:List DC):Out :=
 if (decide ((IntKind.i64.wrap ((gi a 1) - ((gl a 0).length:Int))) < (0:Int)))=true then
 .ret [.i (-1:Int)]
 else
 ja (jR Q6 [.sl (gl a 0),.i (IntKind.i64.wrap ((gi a 1) - ((gl a 0).length:Int))),.i (0:Int)]) 0 fun v4 =>
 .ret [.i (gi v4 0)]
theorem j4K a:K0 a=ZH a:=(jk ju 30 _ a).trans (by kernel_rfl)
noncomputable def X6:List DC → Out:=fun v1 =>
 if (decide ((gi v1 2) < ((gl v1 0).length:Int)))=true then
 ja (if 155=155 ∧ 0 ≤ (gi v1 2) ∧ (gi v1 2) < ((gl v1 0).length:Int) then
 (Xh [.i ((((gl v1 0).getD (gi v1 2).toNat []).getD 0 d0).ii),.s ((((gl v1 0).getD (gi v1 2).toNat []).getD 1 d0).ss),.i (gi v1 1)]).bindR fun r2 =>
 if (decide ((gi r2 0) < (0:Int)))=true then
 .ret [.i (-1:Int)]
 else
 .norm [.sl (gl v1 0),.i (gi r2 0),.i (gi v1 2)]
 else
 .fail) 1 fun v3 =>
 .norm [.sl (gl v3 0),.i (gi v3 1),.i (IntKind.i64.wrap ((gi v3 2) + (1:Int)))]
 else
 .ex 0 [.i (gi v1 1)]
noncomputable def j2Q (a:List DC):Out :=
 if (decide ((IntKind.i64.wrap ((gi a 1) - ((gl a 0).length:Int))) < (0:Int)))=true then
 .ret [.i (-1:Int)]
 else
 ja (jR X6 [.sl (gl a 0),.i (IntKind.i64.wrap ((gi a 1) - ((gl a 0).length:Int))),.i (0:Int)]) 0 fun v4 =>
 .ret [.i (gi v4 0)]
theorem j8A a:Va a=j2Q a:=(jk ju 31 _ a).trans (by kernel_rfl)
noncomputable def QK:List DC → Out:=fun v1 =>
 if (decide ((gi v1 2) < ((gl v1 0).length:Int)))=true then
 ja (if 137=137 ∧ 0 ≤ (gi v1 2) ∧ (gi v1 2) < ((gl v1 0).length:Int) then
 (Qn [.s ((((gl v1 0).getD (gi v1 2).toNat []).getD 0 d0).ss),.s ((((gl v1 0).getD (gi v1 2).toNat []).getD 1 d0).ss),.s ((((gl v1 0).getD (gi v1 2).toNat []).getD 2 d0).ss),.b ((((gl v1 0).getD (gi v1 2).toNat []).getD 3 d0).bb),.i ((((gl v1 0).getD (gi v1 2).toNat []).getD 4 d0).ii),.s ((((gl v1 0).getD (gi v1 2).toNat []).getD 5 d0).ss),.sl ((((gl v1 0).getD (gi v1 2).toNat []).getD 6 d0).ll),.sl ((((gl v1 0).getD (gi v1 2).toNat []).getD 7 d0).ll),.sl ((((gl v1 0).getD (gi v1 2).toNat []).getD 8 d0).ll)]).bindR fun r2 =>
 if 115=115 ∧ 0 ≤ (gi v1 2) ∧ (gi v1 2) < ((gl v1 1).length:Int) then
 .norm [.sl (gl v1 0),.sl ((gl v1 1).set ((gi v1 2).toNat) (pS ((gl v1 1).getD ((gi v1 2).toNat) []) 0 [DC.s (gs r2 0),DC.s (gs r2 1),DC.s (gs r2 2),DC.b (gb r2 3),DC.i (gi r2 4),DC.s (gs r2 5),DC.sl (gl r2 6),DC.sl (gl r2 7),DC.sl (gl r2 8)])),.i (gi v1 2)]
 else
 .fail
 else
 .fail) 1 fun v3 =>
 .norm [.sl (gl v3 0),.sl (gl v3 1),.i (IntKind.i64.wrap ((gi v3 2) + (1:Int)))]
 else
 .ex 0 [.sl (gl v1 1)]
noncomputable def j0K (a:List DC):Out :=
 if 0 ≤ ((gl a 0).length:Int) ∧ ((gl a 0).length:Int) < (jF:Int) ∧ ((gl a 0).length:Int)=((gl a 0).length:Int) ∧ 152 ≤ 1024 ∧ 0 < 9 then
 ja (jR QK [.sl (gl a 0),.sl (List.replicate ((gl a 0).length:Int).toNat [DC.s [],DC.s [],DC.s [],DC.b false,DC.i 0,DC.s [],DC.sl [],DC.sl [],DC.sl []]),.i (0:Int)]) 0 fun v4 =>
 .ret [.sl (gl v4 0)]
 else
 .fail
theorem j5B a:Kz a=j0K a:=(jk ju 47 _ a).trans (by kernel_rfl)
noncomputable def Y2:List DC → Out:=fun v1 =>
 if (decide ((gi v1 2) < ((gl v1 0).length:Int)))=true then
 ja (if 141=141 ∧ 0 ≤ (gi v1 2) ∧ (gi v1 2) < ((gl v1 0).length:Int) then
 (Yi [.s ((((gl v1 0).getD (gi v1 2).toNat []).getD 0 d0).ss),.sl ((((gl v1 0).getD (gi v1 2).toNat []).getD 1 d0).ll)]).bindR fun r2 =>
 if 166=166 ∧ 0 ≤ (gi v1 2) ∧ (gi v1 2) < ((gl v1 1).length:Int) then
 .norm [.sl (gl v1 0),.sl ((gl v1 1).set ((gi v1 2).toNat) (pS ((gl v1 1).getD ((gi v1 2).toNat) []) 0 [DC.s (gs r2 0),DC.sl (gl r2 1)])),.i (gi v1 2)]
 else
 .fail
 else
 .fail) 1 fun v3 =>
 .norm [.sl (gl v3 0),.sl (gl v3 1),.i (IntKind.i64.wrap ((gi v3 2) + (1:Int)))]
 else
 .ex 0 [.sl (gl v1 1)]
noncomputable def j42 (a:List DC):Out :=
 if 0 ≤ ((gl a 0).length:Int) ∧ ((gl a 0).length:Int) < (jF:Int) ∧ ((gl a 0).length:Int)=((gl a 0).length:Int) ∧ 40 ≤ 1024 ∧ 0 < 2 then
 ja (jR Y2 [.sl (gl a 0),.sl (List.replicate ((gl a 0).length:Int).toNat [DC.s [],DC.sl []]),.i (0:Int)]) 0 fun v4 =>
 .ret [.sl (gl v4 0)]
 else
 .fail
theorem jam a:pM a=j42 a:=(jk ju 48 _ a).trans (by kernel_rfl)
noncomputable def Y1:List DC → Out:=fun v1 =>
 if (decide ((gi v1 2) < ((gl v1 0).length:Int)))=true then
 ja (if 144=144 ∧ 0 ≤ (gi v1 2) ∧ (gi v1 2) < ((gl v1 0).length:Int) then
 (Yh [.i ((((gl v1 0).getD (gi v1 2).toNat []).getD 0 d0).ii),.s ((((gl v1 0).getD (gi v1 2).toNat []).getD 1 d0).ss),.s ((((gl v1 0).getD (gi v1 2).toNat []).getD 2 d0).ss),.s ((((gl v1 0).getD (gi v1 2).toNat []).getD 3 d0).ss),.sl ((((gl v1 0).getD (gi v1 2).toNat []).getD 4 d0).ll),.sl ((((gl v1 0).getD (gi v1 2).toNat []).getD 5 d0).ll),.sl ((((gl v1 0).getD (gi v1 2).toNat []).getD 6 d0).ll)]).bindR fun r2 =>
 if 162=162 ∧ 0 ≤ (gi v1 2) ∧ (gi v1 2) < ((gl v1 1).length:Int) then
 .norm [.sl (gl v1 0),.sl ((gl v1 1).set ((gi v1 2).toNat) (pS ((gl v1 1).getD ((gi v1 2).toNat) []) 0 [DC.i (gi r2 0),DC.s (gs r2 1),DC.s (gs r2 2),DC.s (gs r2 3),DC.sl (gl r2 4),DC.sl (gl r2 5),DC.sl (gl r2 6)])),.i (gi v1 2)]
 else
 .fail
 else
 .fail) 1 fun v3 =>
 .norm [.sl (gl v3 0),.sl (gl v3 1),.i (IntKind.i64.wrap ((gi v3 2) + (1:Int)))]
 else
 .ex 0 [.sl (gl v1 1)]
noncomputable def j3Y (a:List DC):Out :=
 if 0 ≤ ((gl a 0).length:Int) ∧ ((gl a 0).length:Int) < (jF:Int) ∧ ((gl a 0).length:Int)=((gl a 0).length:Int) ∧ 128 ≤ 1024 ∧ 0 < 7 then
 ja (jR Y1 [.sl (gl a 0),.sl (List.replicate ((gl a 0).length:Int).toNat [DC.i 0,DC.s [],DC.s [],DC.s [],DC.sl [],DC.sl [],DC.sl []]),.i (0:Int)]) 0 fun v4 =>
 .ret [.sl (gl v4 0)]
 else
 .fail
theorem jai a:JJ a=j3Y a:=(jk ju 49 _ a).trans (by kernel_rfl)
noncomputable def QL:List DC → Out:=fun v1 =>
 if (decide ((gi v1 2) < ((gl v1 0).length:Int)))=true then
 ja (if 9=9 ∧ 0 ≤ (gi v1 2) ∧ (gi v1 2) < ((gl v1 0).length:Int) then
 if 9=9 ∧ 0 ≤ (gi v1 2) ∧ (gi v1 2) < ((gl v1 1).length:Int) then
 .norm [.sl (gl v1 0),.sl ((gl v1 1).set ((gi v1 2).toNat) (pS ((gl v1 1).getD ((gi v1 2).toNat) []) 0 [DC.s ((((gl v1 0).getD (gi v1 2).toNat []).getD 0 d0).ss)])),.i (gi v1 2)]
 else
 .fail
 else
 .fail) 1 fun v2 =>
 .norm [.sl (gl v2 0),.sl (gl v2 1),.i (IntKind.i64.wrap ((gi v2 2) + (1:Int)))]
 else
 .ex 0 [.sl (gl v1 1)]
noncomputable def j0L (a:List DC):Out :=
 if 0 ≤ ((gl a 0).length:Int) ∧ ((gl a 0).length:Int) < (jF:Int) ∧ ((gl a 0).length:Int)=((gl a 0).length:Int) ∧ 16 ≤ 1024 ∧ 0 < 1 then
 ja (jR QL [.sl (gl a 0),.sl (List.replicate ((gl a 0).length:Int).toNat [DC.s []]),.i (0:Int)]) 0 fun v3 =>
 .ret [.sl (gl v3 0)]
 else
 .fail
theorem j5C a:KA a=j0L a:=(jk ju 50 _ a).trans (by kernel_rfl)
noncomputable def Kr:List DC → Out:=fun v1 =>
 if (decide ((gi v1 2) < ((gl v1 0).length:Int)))=true then
 ja (if 147=147 ∧ 0 ≤ (gi v1 2) ∧ (gi v1 2) < ((gl v1 0).length:Int) then
 (JX [.s ((((gl v1 0).getD (gi v1 2).toNat []).getD 0 d0).ss),.s ((((gl v1 0).getD (gi v1 2).toNat []).getD 1 d0).ss),.sl ((((gl v1 0).getD (gi v1 2).toNat []).getD 2 d0).ll),.s ((((gl v1 0).getD (gi v1 2).toNat []).getD 3 d0).ss),.s ((((gl v1 0).getD (gi v1 2).toNat []).getD 4 d0).ss),.sl ((((gl v1 0).getD (gi v1 2).toNat []).getD 5 d0).ll)]).bindR fun r2 =>
 if 93=93 ∧ 0 ≤ (gi v1 2) ∧ (gi v1 2) < ((gl v1 1).length:Int) then
 .norm [.sl (gl v1 0),.sl ((gl v1 1).set ((gi v1 2).toNat) (pS ((gl v1 1).getD ((gi v1 2).toNat) []) 0 [DC.s (gs r2 0),DC.s (gs r2 1),DC.sl (gl r2 2),DC.s (gs r2 3),DC.s (gs r2 4),DC.sl (gl r2 5)])),.i (gi v1 2)]
 else
 .fail
 else
 .fail) 1 fun v3 =>
 .norm [.sl (gl v3 0),.sl (gl v3 1),.i (IntKind.i64.wrap ((gi v3 2) + (1:Int)))]
 else
 .ex 0 [.sl (gl v1 1)]
noncomputable def Za (a:List DC):Out :=
 if 0 ≤ ((gl a 0).length:Int) ∧ ((gl a 0).length:Int) < (jF:Int) ∧ ((gl a 0).length:Int)=((gl a 0).length:Int) ∧ 112 ≤ 1024 ∧ 0 < 6 then
 ja (jR Kr [.sl (gl a 0),.sl (List.replicate ((gl a 0).length:Int).toNat [DC.s [],DC.s [],DC.sl [],DC.s [],DC.s [],DC.sl []]),.i (0:Int)]) 0 fun v4 =>
 .ret [.sl (gl v4 0)]
 else
 .fail
theorem j3o a:Je a=Za a:=(jk ju 51 _ a).trans (by kernel_rfl)
noncomputable def VF:List DC → Out:=fun v1 =>
 if (decide ((gi v1 2) < ((gl v1 0).length:Int)))=true then
 ja (if 150=150 ∧ 0 ≤ (gi v1 2) ∧ (gi v1 2) < ((gl v1 0).length:Int) then
 (V9 [.s ((((gl v1 0).getD (gi v1 2).toNat []).getD 0 d0).ss),.s ((((gl v1 0).getD (gi v1 2).toNat []).getD 1 d0).ss),.s ((((gl v1 0).getD (gi v1 2).toNat []).getD 2 d0).ss),.s ((((gl v1 0).getD (gi v1 2).toNat []).getD 3 d0).ss),.b ((((gl v1 0).getD (gi v1 2).toNat []).getD 4 d0).bb),.i ((((gl v1 0).getD (gi v1 2).toNat []).getD 5 d0).ii),.s ((((gl v1 0).getD (gi v1 2).toNat []).getD 6 d0).ss),.sl ((((gl v1 0).getD (gi v1 2).toNat []).getD 7 d0).ll),.sl ((((gl v1 0).getD (gi v1 2).toNat []).getD 8 d0).ll),.sl ((((gl v1 0).getD (gi v1 2).toNat []).getD 9 d0).ll)]).bindR fun r2 =>
 if 104=104 ∧ 0 ≤ (gi v1 2) ∧ (gi v1 2) < ((gl v1 1).length:Int) then
 .norm [.sl (gl v1 0),.sl ((gl v1 1).set ((gi v1 2).toNat) (pS ((gl v1 1).getD ((gi v1 2).toNat) []) 0 [DC.s (gs r2 0),DC.s (gs r2 1),DC.s (gs r2 2),DC.s (gs r2 3),DC.b (gb r2 4),DC.i (gi r2 5),DC.s (gs r2 6),DC.sl (gl r2 7),DC.sl (gl r2 8),DC.sl (gl r2 9)])),.i (gi v1 2)]
 else
 .fail
 else
 .fail) 1 fun v3 =>
 .norm [.sl (gl v3 0),.sl (gl v3 1),.i (IntKind.i64.wrap ((gi v3 2) + (1:Int)))]
 else
 .ex 0 [.sl (gl v1 1)]
noncomputable def j1N (a:List DC):Out :=
 if 0 ≤ ((gl a 0).length:Int) ∧ ((gl a 0).length:Int) < (jF:Int) ∧ ((gl a 0).length:Int)=((gl a 0).length:Int) ∧ 168 ≤ 1024 ∧ 0 < 10 then
 ja (jR VF [.sl (gl a 0),.sl (List.replicate ((gl a 0).length:Int).toNat [DC.s [],DC.s [],DC.s [],DC.s [],DC.b false,DC.i 0,DC.s [],DC.sl [],DC.sl [],DC.sl []]),.i (0:Int)]) 0 fun v4 =>
 .ret [.sl (gl v4 0)]
 else
 .fail
theorem j72 a:Jw a=j1N a:=(jk ju 52 _ a).trans (by kernel_rfl)
noncomputable def Q5:List DC → Out:=fun v1 =>
 if (decide ((gi v1 2) < ((gl v1 0).length:Int)))=true then
 ja (if 153=153 ∧ 0 ≤ (gi v1 2) ∧ (gi v1 2) < ((gl v1 0).length:Int) then
 (KB [.s ((((gl v1 0).getD (gi v1 2).toNat []).getD 0 d0).ss),.s ((((gl v1 0).getD (gi v1 2).toNat []).getD 1 d0).ss),.sl ((((gl v1 0).getD (gi v1 2).toNat []).getD 2 d0).ll)]).bindR fun r2 =>
 if 96=96 ∧ 0 ≤ (gi v1 2) ∧ (gi v1 2) < ((gl v1 1).length:Int) then
 .norm [.sl (gl v1 0),.sl ((gl v1 1).set ((gi v1 2).toNat) (pS ((gl v1 1).getD ((gi v1 2).toNat) []) 0 [DC.s (gs r2 0),DC.s (gs r2 1),DC.sl (gl r2 2)])),.i (gi v1 2)]
 else
 .fail
 else
 .fail) 1 fun v3 =>
 .norm [.sl (gl v3 0),.sl (gl v3 1),.i (IntKind.i64.wrap ((gi v3 2) + (1:Int)))]
 else
 .ex 0 [.sl (gl v1 1)]
noncomputable def ZF (a:List DC):Out :=
 if 0 ≤ ((gl a 0).length:Int) ∧ ((gl a 0).length:Int) < (jF:Int) ∧ ((gl a 0).length:Int)=((gl a 0).length:Int) ∧ 56 ≤ 1024 ∧ 0 < 3 then
 ja (jR Q5 [.sl (gl a 0),.sl (List.replicate ((gl a 0).length:Int).toNat [DC.s [],DC.s [],DC.sl []]),.i (0:Int)]) 0 fun v4 =>
 .ret [.sl (gl v4 0)]
 else
 .fail
theorem j4I a:JY a=ZF a:=(jk ju 53 _ a).trans (by kernel_rfl)
noncomputable def X5:List DC → Out:=fun v1 =>
 if (decide ((gi v1 2) < ((gl v1 0).length:Int)))=true then
 ja (if 155=155 ∧ 0 ≤ (gi v1 2) ∧ (gi v1 2) < ((gl v1 0).length:Int) then
 (Xg [.i ((((gl v1 0).getD (gi v1 2).toNat []).getD 0 d0).ii),.s ((((gl v1 0).getD (gi v1 2).toNat []).getD 1 d0).ss)]).bindR fun r2 =>
 if 98=98 ∧ 0 ≤ (gi v1 2) ∧ (gi v1 2) < ((gl v1 1).length:Int) then
 .norm [.sl (gl v1 0),.sl ((gl v1 1).set ((gi v1 2).toNat) (pS ((gl v1 1).getD ((gi v1 2).toNat) []) 0 [DC.i (gi r2 0),DC.s (gs r2 1)])),.i (gi v1 2)]
 else
 .fail
 else
 .fail) 1 fun v3 =>
 .norm [.sl (gl v3 0),.sl (gl v3 1),.i (IntKind.i64.wrap ((gi v3 2) + (1:Int)))]
 else
 .ex 0 [.sl (gl v1 1)]
noncomputable def j2N (a:List DC):Out :=
 if 0 ≤ ((gl a 0).length:Int) ∧ ((gl a 0).length:Int) < (jF:Int) ∧ ((gl a 0).length:Int)=((gl a 0).length:Int) ∧ 24 ≤ 1024 ∧ 0 < 2 then
 ja (jR X5 [.sl (gl a 0),.sl (List.replicate ((gl a 0).length:Int).toNat [DC.i 0,DC.s []]),.i (0:Int)]) 0 fun v4 =>
 .ret [.sl (gl v4 0)]
 else
 .fail
theorem j8x a:V8 a=j2N a:=(jk ju 54 _ a).trans (by kernel_rfl)
noncomputable def Xo:List DC → Out:=fun v6 =>
 if (decide ((gi v6 0) < ((gl v6 3).length:Int)))=true then
 ja (if 115=115 ∧ 0 ≤ (gi v6 0) ∧ (gi v6 0) < ((gl v6 3).length:Int) then
 (XL [.s ((((gl v6 3).getD (gi v6 0).toNat []).getD 0 d0).ss),.s ((((gl v6 3).getD (gi v6 0).toNat []).getD 1 d0).ss),.s ((((gl v6 3).getD (gi v6 0).toNat []).getD 2 d0).ss),.b ((((gl v6 3).getD (gi v6 0).toNat []).getD 3 d0).bb),.i ((((gl v6 3).getD (gi v6 0).toNat []).getD 4 d0).ii),.s ((((gl v6 3).getD (gi v6 0).toNat []).getD 5 d0).ss),.sl ((((gl v6 3).getD (gi v6 0).toNat []).getD 6 d0).ll),.sl ((((gl v6 3).getD (gi v6 0).toNat []).getD 7 d0).ll),.sl ((((gl v6 3).getD (gi v6 0).toNat []).getD 8 d0).ll)]).bindR fun r7 =>
 if (!(gb r7 0))=true then
 .ret [.b false]
 else
 .norm [.i (gi v6 0),.i (gi v6 1),.s (gs v6 2),.sl (gl v6 3),.sl (gl v6 4),.sl (gl v6 5)]
 else
 .fail) 1 fun v8 =>
 .norm [.i (IntKind.i64.wrap ((gi v8 0) + (1:Int))),.i (gi v8 1),.s (gs v8 2),.sl (gl v8 3),.sl (gl v8 4),.sl (gl v8 5)]
 else
 .ex 0 [.i (gi v6 1),.s (gs v6 2),.sl (gl v6 3),.sl (gl v6 4),.sl (gl v6 5)]
noncomputable def j8a (a:List DC):Out :=
 jb ((zB [.i (gi a 0)]).bindR fun r1 =>
 if ((gs r1 0) == ([]:List UInt8))=true then
 .norm [.b true,.i (gi a 0),.s (gs a 1),.sl (gl a 2),.sl (gl a 3),.sl (gl a 4)]
 else
 if (!((gs a 1) == ([]:List UInt8)))=true then
 (kg [.s (gs a 1)]).bindR fun r2 =>
 if (!(gb r2 0))=true then
 .norm [.b true,.i (gi a 0),.s (gs a 1),.sl (gl a 2),.sl (gl a 3),.sl (gl a 4)]
 else
 (zC [.sl (gl a 3)]).bindR fun r3 =>
 if (!(gb r3 0))=true then
 .norm [.b true,.i (gi a 0),.s (gs a 1),.sl (gl a 2),.sl (gl a 3),.sl (gl a 4)]
 else
 .norm [.b (((gl a 4).length:Int) == (0:Int)),.i (gi a 0),.s (gs a 1),.sl (gl a 2),.sl (gl a 3),.sl (gl a 4)]
 else
 (zC [.sl (gl a 3)]).bindR fun r4 =>
 if (!(gb r4 0))=true then
 .norm [.b true,.i (gi a 0),.s (gs a 1),.sl (gl a 2),.sl (gl a 3),.sl (gl a 4)]
 else
 .norm [.b (((gl a 4).length:Int) == (0:Int)),.i (gi a 0),.s (gs a 1),.sl (gl a 2),.sl (gl a 3),.sl (gl a 4)]) fun v5 =>
 if (gb v5 0)=true then
 .ret [.b false]
 else
 ja (jR Xo [.i (0:Int),.i (gi v5 1),.s (gs v5 2),.sl (gl v5 3),.sl (gl v5 4),.sl (gl v5 5)]) 0 fun v9 =>
 (Yg [.sl (gl v9 4)]).bindR fun r10 =>
 .ret [.b (gb r10 0)]
theorem jdA a:j2l a=j8a a:=(jk ju 32 _ a).trans (by kernel_rfl)
noncomputable def kB:List DC → Out:=fun v1 =>
 if (decide ((gi v1 3) < ((gl v1 1).length:Int)))=true then
 ja (if 162=162 ∧ 0 ≤ (gi v1 3) ∧ (gi v1 3) < ((gl v1 1).length:Int) then
 (Kx [.sl (gl v1 0),.i (gi v1 2)]).bindR fun r2 =>
 ja (jb (if ((((gl v1 1).getD (gi v1 3).toNat []).getD 0 d0).ii == (1:Int))=true then
 jb (if (!((((gl v1 1).getD (gi v1 3).toNat []).getD 1 d0).ss == ([]:List UInt8)))=true then
 if (gl r2 0).length + (jo ((((gl v1 1).getD (gi v1 3).toNat []).getD 1 d0).ss)).length < jF then
 if ((gl r2 0) ++ (jo ((((gl v1 1).getD (gi v1 3).toNat []).getD 1 d0).ss))).length + [[DC.i (58:Int)],[DC.i (32:Int)]].length < jF then
 .norm [.sl (((gl r2 0) ++ (jo ((((gl v1 1).getD (gi v1 3).toNat []).getD 1 d0).ss))) ++ [[DC.i (58:Int)],[DC.i (32:Int)]]),.sl (gl v1 1),.i (gi v1 2),.i (gi v1 3),.i ((((gl v1 1).getD (gi v1 3).toNat []).getD 0 d0).ii),.s ((((gl v1 1).getD (gi v1 3).toNat []).getD 1 d0).ss),.s ((((gl v1 1).getD (gi v1 3).toNat []).getD 2 d0).ss),.s ((((gl v1 1).getD (gi v1 3).toNat []).getD 3 d0).ss),.sl ((((gl v1 1).getD (gi v1 3).toNat []).getD 4 d0).ll),.sl ((((gl v1 1).getD (gi v1 3).toNat []).getD 5 d0).ll),.sl ((((gl v1 1).getD (gi v1 3).toNat []).getD 6 d0).ll)]
 else
 .fail
 else
 .fail
 else
 .norm [.sl (gl r2 0),.sl (gl v1 1),.i (gi v1 2),.i (gi v1 3),.i ((((gl v1 1).getD (gi v1 3).toNat []).getD 0 d0).ii),.s ((((gl v1 1).getD (gi v1 3).toNat []).getD 1 d0).ss),.s ((((gl v1 1).getD (gi v1 3).toNat []).getD 2 d0).ss),.s ((((gl v1 1).getD (gi v1 3).toNat []).getD 3 d0).ss),.sl ((((gl v1 1).getD (gi v1 3).toNat []).getD 4 d0).ll),.sl ((((gl v1 1).getD (gi v1 3).toNat []).getD 5 d0).ll),.sl ((((gl v1 1).getD (gi v1 3).toNat []).getD 6 d0).ll)]) fun v3 =>
 if (gl v3 0).length + (jo (gs v3 6)).length < jF then
 .norm [.sl ((gl v3 0) ++ (jo (gs v3 6))),.sl (gl v3 1),.i (gi v3 2),.i (gi v3 3),.i (gi v3 4),.s (gs v3 5),.s (gs v3 6),.s (gs v3 7),.sl (gl v3 8),.sl (gl v3 9),.sl (gl v3 10)]
 else
 .fail
 else
 jb (if ((((gl v1 1).getD (gi v1 3).toNat []).getD 0 d0).ii == (2:Int))=true then
 if (gl r2 0).length + [[DC.i (46:Int)],[DC.i (46:Int)],[DC.i (46:Int)]].length < jF then
 if ((gl r2 0) ++ [[DC.i (46:Int)],[DC.i (46:Int)],[DC.i (46:Int)]]).length + (jo ((((gl v1 1).getD (gi v1 3).toNat []).getD 2 d0).ss)).length < jF then
 .norm [.sl (((gl r2 0) ++ [[DC.i (46:Int)],[DC.i (46:Int)],[DC.i (46:Int)]]) ++ (jo ((((gl v1 1).getD (gi v1 3).toNat []).getD 2 d0).ss))),.sl (gl v1 1),.i (gi v1 2),.i (gi v1 3),.i ((((gl v1 1).getD (gi v1 3).toNat []).getD 0 d0).ii),.s ((((gl v1 1).getD (gi v1 3).toNat []).getD 1 d0).ss),.s ((((gl v1 1).getD (gi v1 3).toNat []).getD 2 d0).ss),.s ((((gl v1 1).getD (gi v1 3).toNat []).getD 3 d0).ss),.sl ((((gl v1 1).getD (gi v1 3).toNat []).getD 4 d0).ll),.sl ((((gl v1 1).getD (gi v1 3).toNat []).getD 5 d0).ll),.sl ((((gl v1 1).getD (gi v1 3).toNat []).getD 6 d0).ll)]
 else
 .fail
 else
 .fail
 else
 if (gl r2 0).length + [[DC.i (46:Int)],[DC.i (46:Int)],[DC.i (46:Int)]].length < jF then
 jb (if (!((((gl v1 1).getD (gi v1 3).toNat []).getD 3 d0).ss == ([]:List UInt8)))=true then
 if ((gl r2 0) ++ [[DC.i (46:Int)],[DC.i (46:Int)],[DC.i (46:Int)]]).length + (jo ([32,111,110,32]:List UInt8)).length < jF then
 if (((gl r2 0) ++ [[DC.i (46:Int)],[DC.i (46:Int)],[DC.i (46:Int)]]) ++ (jo ([32,111,110,32]:List UInt8))).length + (jo ((((gl v1 1).getD (gi v1 3).toNat []).getD 3 d0).ss)).length < jF then
 .norm [.sl ((((gl r2 0) ++ [[DC.i (46:Int)],[DC.i (46:Int)],[DC.i (46:Int)]]) ++ (jo ([32,111,110,32]:List UInt8))) ++ (jo ((((gl v1 1).getD (gi v1 3).toNat []).getD 3 d0).ss))),.sl (gl v1 1),.i (gi v1 2),.i (gi v1 3),.i ((((gl v1 1).getD (gi v1 3).toNat []).getD 0 d0).ii),.s ((((gl v1 1).getD (gi v1 3).toNat []).getD 1 d0).ss),.s ((((gl v1 1).getD (gi v1 3).toNat []).getD 2 d0).ss),.s ((((gl v1 1).getD (gi v1 3).toNat []).getD 3 d0).ss),.sl ((((gl v1 1).getD (gi v1 3).toNat []).getD 4 d0).ll),.sl ((((gl v1 1).getD (gi v1 3).toNat []).getD 5 d0).ll),.sl ((((gl v1 1).getD (gi v1 3).toNat []).getD 6 d0).ll)]
 else
 .fail
 else
 .fail
 else
 .norm [.sl ((gl r2 0) ++ [[DC.i (46:Int)],[DC.i (46:Int)],[DC.i (46:Int)]]),.sl (gl v1 1),.i (gi v1 2),.i (gi v1 3),.i ((((gl v1 1).getD (gi v1 3).toNat []).getD 0 d0).ii),.s ((((gl v1 1).getD (gi v1 3).toNat []).getD 1 d0).ss),.s ((((gl v1 1).getD (gi v1 3).toNat []).getD 2 d0).ss),.s ((((gl v1 1).getD (gi v1 3).toNat []).getD 3 d0).ss),.sl ((((gl v1 1).getD (gi v1 3).toNat []).getD 4 d0).ll),.sl ((((gl v1 1).getD (gi v1 3).toNat []).getD 5 d0).ll),.sl ((((gl v1 1).getD (gi v1 3).toNat []).getD 6 d0).ll)]) fun v4 =>
 .norm [.sl (gl v4 0),.sl (gl v4 1),.i (gi v4 2),.i (gi v4 3),.i (gi v4 4),.s (gs v4 5),.s (gs v4 6),.s (gs v4 7),.sl (gl v4 8),.sl (gl v4 9),.sl (gl v4 10)]
 else
 .fail) fun v5 =>
 .norm [.sl (gl v5 0),.sl (gl v5 1),.i (gi v5 2),.i (gi v5 3),.i (gi v5 4),.s (gs v5 5),.s (gs v5 6),.s (gs v5 7),.sl (gl v5 8),.sl (gl v5 9),.sl (gl v5 10)]) fun v6 =>
 .norm [.sl (gl v6 0),.sl (gl v6 1),.i (gi v6 2),.i (gi v6 3),.i (gi v6 4),.s (gs v6 5),.s (gs v6 6),.s (gs v6 7),.sl (gl v6 8),.sl (gl v6 9),.sl (gl v6 10)]) 2 fun v7 =>
 (Xd [.sl (gl v7 0),.sl (gl v7 8)]).bindR fun r8 =>
 (p8 [.sl (gl r8 0),.sl (gl v7 9)]).bindR fun r9 =>
 jb (if (decide (((gl v7 10).length:Int) > (0:Int)))=true then
 (y9 [.sl (gl r9 0),.sl (gl v7 10),.i (gi v7 2)]).bindR fun r10 =>
 .norm [.sl (gl r10 0),.sl (gl v7 1),.i (gi v7 2),.i (gi v7 3)]
 else
 .norm [.sl (gl r9 0),.sl (gl v7 1),.i (gi v7 2),.i (gi v7 3)]) fun v11 =>
 if (gl v11 0).length + [[DC.i (10:Int)]].length < jF then
 .norm [.sl ((gl v11 0) ++ [[DC.i (10:Int)]]),.sl (gl v11 1),.i (gi v11 2),.i (gi v11 3)]
 else
 .fail
 else
 .fail) 1 fun v12 =>
 .norm [.sl (gl v12 0),.sl (gl v12 1),.i (gi v12 2),.i (IntKind.i64.wrap ((gi v12 3) + (1:Int)))]
 else
 .ex 0 [.sl (gl v1 0)]
noncomputable def j3N (a:List DC):Out :=
 ja (jR kB [.sl (gl a 0),.sl (gl a 1),.i (gi a 2),.i (0:Int)]) 0 fun v13 =>
 .ret [.sl (gl v13 0)]
theorem ja2 a:yo a=j3N a:=(jk ju 33 _ a).trans (by kernel_rfl)
noncomputable def j3T (a:List DC):Out :=
 ja (if ((gi a 0) == (1:Int))=true then
 .ret [.s ([113,117,101,114,121]:List UInt8)]
 else
 if ((gi a 0) == (2:Int))=true then
 .ret [.s ([109,117,116,97,116,105,111,110]:List UInt8)]
 else
 if ((gi a 0) == (3:Int))=true then
 .ret [.s ([115,117,98,115,99,114,105,112,116,105,111,110]:List UInt8)]
 else
 .norm []) 0 fun v1 =>
 .ret [.s ([]:List UInt8)]
theorem jab a:zB a=j3T a:=(jk ju 34 _ a).trans (by kernel_rfl)
noncomputable def pE:List DC → Out:=fun v1 =>
 if (decide ((gi v1 2) < ((gl v1 1).length:Int)))=true then
 ja (jb (if ((gi v1 2) == (0:Int))=true then
 if (gl v1 0).length + [[DC.i (40:Int)]].length < jF then
 .norm [.sl ((gl v1 0) ++ [[DC.i (40:Int)]]),.sl (gl v1 1),.i (gi v1 2)]
 else
 .fail
 else
 if (gl v1 0).length + [[DC.i (44:Int)],[DC.i (32:Int)]].length < jF then
 .norm [.sl ((gl v1 0) ++ [[DC.i (44:Int)],[DC.i (32:Int)]]),.sl (gl v1 1),.i (gi v1 2)]
 else
 .fail) fun v2 =>
 if 115=115 ∧ 0 ≤ (gi v2 2) ∧ (gi v2 2) < ((gl v2 1).length:Int) then
 if (gl v2 0).length + [[DC.i (36:Int)]].length < jF then
 if ((gl v2 0) ++ [[DC.i (36:Int)]]).length + (jo ((((gl v2 1).getD (gi v2 2).toNat []).getD 0 d0).ss)).length < jF then
 if (((gl v2 0) ++ [[DC.i (36:Int)]]) ++ (jo ((((gl v2 1).getD (gi v2 2).toNat []).getD 0 d0).ss))).length + [[DC.i (58:Int)],[DC.i (32:Int)]].length < jF then
 (Jv [.s ((((gl v2 1).getD (gi v2 2).toNat []).getD 1 d0).ss),.s ((((gl v2 1).getD (gi v2 2).toNat []).getD 2 d0).ss)]).bindR fun r3 =>
 if ((((gl v2 0) ++ [[DC.i (36:Int)]]) ++ (jo ((((gl v2 1).getD (gi v2 2).toNat []).getD 0 d0).ss))) ++ [[DC.i (58:Int)],[DC.i (32:Int)]]).length + (jo (gs r3 0)).length < jF then
 jb (if (((gl v2 1).getD (gi v2 2).toNat []).getD 3 d0).bb=true then
 if (((((gl v2 0) ++ [[DC.i (36:Int)]]) ++ (jo ((((gl v2 1).getD (gi v2 2).toNat []).getD 0 d0).ss))) ++ [[DC.i (58:Int)],[DC.i (32:Int)]]) ++ (jo (gs r3 0))).length + (jo ([32,61,32]:List UInt8)).length < jF then
 (zA [.sl ((((((gl v2 0) ++ [[DC.i (36:Int)]]) ++ (jo ((((gl v2 1).getD (gi v2 2).toNat []).getD 0 d0).ss))) ++ [[DC.i (58:Int)],[DC.i (32:Int)]]) ++ (jo (gs r3 0))) ++ (jo ([32,61,32]:List UInt8))),.i ((((gl v2 1).getD (gi v2 2).toNat []).getD 4 d0).ii),.s ((((gl v2 1).getD (gi v2 2).toNat []).getD 5 d0).ss),.sl ((((gl v2 1).getD (gi v2 2).toNat []).getD 6 d0).ll),.sl ((((gl v2 1).getD (gi v2 2).toNat []).getD 7 d0).ll)]).bindR fun r4 =>
 .norm [.sl (gl r4 0),.sl (gl v2 1),.i (gi v2 2),.s ((((gl v2 1).getD (gi v2 2).toNat []).getD 0 d0).ss),.s ((((gl v2 1).getD (gi v2 2).toNat []).getD 1 d0).ss),.s ((((gl v2 1).getD (gi v2 2).toNat []).getD 2 d0).ss),.b ((((gl v2 1).getD (gi v2 2).toNat []).getD 3 d0).bb),.i ((((gl v2 1).getD (gi v2 2).toNat []).getD 4 d0).ii),.s ((((gl v2 1).getD (gi v2 2).toNat []).getD 5 d0).ss),.sl ((((gl v2 1).getD (gi v2 2).toNat []).getD 6 d0).ll),.sl ((((gl v2 1).getD (gi v2 2).toNat []).getD 7 d0).ll),.sl ((((gl v2 1).getD (gi v2 2).toNat []).getD 8 d0).ll)]
 else
 .fail
 else
 .norm [.sl (((((gl v2 0) ++ [[DC.i (36:Int)]]) ++ (jo ((((gl v2 1).getD (gi v2 2).toNat []).getD 0 d0).ss))) ++ [[DC.i (58:Int)],[DC.i (32:Int)]]) ++ (jo (gs r3 0))),.sl (gl v2 1),.i (gi v2 2),.s ((((gl v2 1).getD (gi v2 2).toNat []).getD 0 d0).ss),.s ((((gl v2 1).getD (gi v2 2).toNat []).getD 1 d0).ss),.s ((((gl v2 1).getD (gi v2 2).toNat []).getD 2 d0).ss),.b ((((gl v2 1).getD (gi v2 2).toNat []).getD 3 d0).bb),.i ((((gl v2 1).getD (gi v2 2).toNat []).getD 4 d0).ii),.s ((((gl v2 1).getD (gi v2 2).toNat []).getD 5 d0).ss),.sl ((((gl v2 1).getD (gi v2 2).toNat []).getD 6 d0).ll),.sl ((((gl v2 1).getD (gi v2 2).toNat []).getD 7 d0).ll),.sl ((((gl v2 1).getD (gi v2 2).toNat []).getD 8 d0).ll)]) fun v5 =>
 (p8 [.sl (gl v5 0),.sl (gl v5 11)]).bindR fun r6 =>
 .norm [.sl (gl r6 0),.sl (gl v5 1),.i (gi v5 2)]
 else
 .fail
 else
 .fail
 else
 .fail
 else
 .fail
 else
 .fail) 1 fun v7 =>
 .norm [.sl (gl v7 0),.sl (gl v7 1),.i (IntKind.i64.wrap ((gi v7 2) + (1:Int)))]
 else
 .ex 0 [.sl (gl v1 0),.sl (gl v1 1)]
noncomputable def Vx (a:List DC):Out :=
 ja (jR pE [.sl (gl a 0),.sl (gl a 1),.i (0:Int)]) 0 fun v8 =>
 jb (if (decide (((gl v8 1).length:Int) > (0:Int)))=true then
 if (gl v8 0).length + [[DC.i (41:Int)]].length < jF then
 .norm [.sl ((gl v8 0) ++ [[DC.i (41:Int)]])]
 else
 .fail
 else
 .norm [.sl (gl v8 0)]) fun v9 =>
 .ret [.sl (gl v9 0)]
theorem j4E a:V4 a=Vx a:=(jk ju 36 _ a).trans (by kernel_rfl)
noncomputable def zT:List DC → Out:=fun v1 =>
 if (decide ((gi v1 2) < ((gl v1 1).length:Int)))=true then
 ja (if (gl v1 0).length + [[DC.i (32:Int)],[DC.i (64:Int)]].length < jF then
 if 166=166 ∧ 0 ≤ (gi v1 2) ∧ (gi v1 2) < ((gl v1 1).length:Int) then
 if ((gl v1 0) ++ [[DC.i (32:Int)],[DC.i (64:Int)]]).length + (jo ((((gl v1 1).getD (gi v1 2).toNat []).getD 0 d0).ss)).length < jF then
 if 166=166 ∧ 0 ≤ (gi v1 2) ∧ (gi v1 2) < ((gl v1 1).length:Int) then
 (Xd [.sl (((gl v1 0) ++ [[DC.i (32:Int)],[DC.i (64:Int)]]) ++ (jo ((((gl v1 1).getD (gi v1 2).toNat []).getD 0 d0).ss))),.sl ((((gl v1 1).getD (gi v1 2).toNat []).getD 1 d0).ll)]).bindR fun r2 =>
 .norm [.sl (gl r2 0),.sl (gl v1 1),.i (gi v1 2)]
 else
 .fail
 else
 .fail
 else
 .fail
 else
 .fail) 1 fun v3 =>
 .norm [.sl (gl v3 0),.sl (gl v3 1),.i (IntKind.i64.wrap ((gi v3 2) + (1:Int)))]
 else
 .ex 0 [.sl (gl v1 0)]
noncomputable def ZD (a:List DC):Out :=
 ja (jR zT [.sl (gl a 0),.sl (gl a 1),.i (0:Int)]) 0 fun v4 =>
 .ret [.sl (gl v4 0)]
theorem j4G a:p8 a=ZD a:=(jk ju 35 _ a).trans (by kernel_rfl)
noncomputable def j1F (a:List DC):Out :=
 if (gl a 0).length + [[DC.i (32:Int)],[DC.i (123:Int)],[DC.i (10:Int)]].length < jF then
 (yo [.sl ((gl a 0) ++ [[DC.i (32:Int)],[DC.i (123:Int)],[DC.i (10:Int)]]),.sl (gl a 1),.i (IntKind.i64.wrap ((gi a 2) + (1:Int)))]).bindR fun r1 =>
 (Kx [.sl (gl r1 0),.i (gi a 2)]).bindR fun r2 =>
 if (gl r2 0).length + [[DC.i (125:Int)]].length < jF then
 .ret [.sl ((gl r2 0) ++ [[DC.i (125:Int)]])]
 else
 .fail
 else
 .fail
theorem j6T a:y9 a=j1F a:=(jk ju 37 _ a).trans (by kernel_rfl)
noncomputable def j3U (a:List DC):Out :=
 jb ((kg [.s (gs a 0)]).bindR fun r1 =>
 if (gb r1 0)=true then
 if (!((gs a 0) == ([111,110]:List UInt8)))=true then
 (kg [.s (gs a 1)]).bindR fun r2 =>
 if (gb r2 0)=true then
 (zC [.sl (gl a 2)]).bindR fun r3 =>
 if (gb r3 0)=true then
 if (decide (((gl a 3).length:Int) > (0:Int)))=true then
 (Yg [.sl (gl a 3)]).bindR fun r4 =>
 .norm [.b (gb r4 0)]
 else
 .norm [.b false]
 else
 .norm [.b false]
 else
 .norm [.b false]
 else
 .norm [.b false]
 else
 .norm [.b false]) fun v5 =>
 .ret [.b (gb v5 0)]
theorem jae a:ZZ a=j3U a:=(jk ju 38 _ a).trans (by kernel_rfl)
noncomputable def VC:List DC → Out:=fun v17 =>
 if (decide ((gi v17 0) < ((gl v17 5).length:Int)))=true then
 ja (if 9=9 ∧ 0 ≤ (gi v17 0) ∧ (gi v17 0) < ((gl v17 5).length:Int) then
 (kg [.s ((((gl v17 5).getD (gi v17 0).toNat []).getD 0 d0).ss)]).bindR fun r18 =>
 if (!(gb r18 0))=true then
 .ret [.b false]
 else
 .norm [.i (gi v17 0),.i (gi v17 1),.b (gb v17 2),.s (gs v17 3),.s (gs v17 4),.sl (gl v17 5),.sl (gl v17 6),.sl (gl v17 7),.sl (gl v17 8),.sl (gl v17 9),.b (gb v17 10),.sl (gl v17 11)]
 else
 .fail) 1 fun v19 =>
 .norm [.i (IntKind.i64.wrap ((gi v19 0) + (1:Int))),.i (gi v19 1),.b (gb v19 2),.s (gs v19 3),.s (gs v19 4),.sl (gl v19 5),.sl (gl v19 6),.sl (gl v19 7),.sl (gl v19 8),.sl (gl v19 9),.b (gb v19 10),.sl (gl v19 11)]
 else
 .ex 0 [.i (gi v17 1),.b (gb v17 2),.s (gs v17 3),.s (gs v17 4),.sl (gl v17 5),.sl (gl v17 6),.sl (gl v17 7),.sl (gl v17 8),.sl (gl v17 9),.b (gb v17 10),.sl (gl v17 11)]
noncomputable def VB:List DC → Out:=fun v21 =>
 if (decide ((gi v21 0) < ((gl v21 6).length:Int)))=true then
 ja (if 93=93 ∧ 0 ≤ (gi v21 0) ∧ (gi v21 0) < ((gl v21 6).length:Int) then
 (XJ [.s ((((gl v21 6).getD (gi v21 0).toNat []).getD 0 d0).ss),.s ((((gl v21 6).getD (gi v21 0).toNat []).getD 1 d0).ss),.sl ((((gl v21 6).getD (gi v21 0).toNat []).getD 2 d0).ll),.s ((((gl v21 6).getD (gi v21 0).toNat []).getD 3 d0).ss),.s ((((gl v21 6).getD (gi v21 0).toNat []).getD 4 d0).ss),.sl ((((gl v21 6).getD (gi v21 0).toNat []).getD 5 d0).ll)]).bindR fun r22 =>
 if (!(gb r22 0))=true then
 .ret [.b false]
 else
 .norm [.i (gi v21 0),.i (gi v21 1),.b (gb v21 2),.s (gs v21 3),.s (gs v21 4),.sl (gl v21 5),.sl (gl v21 6),.sl (gl v21 7),.sl (gl v21 8),.sl (gl v21 9),.b (gb v21 10),.sl (gl v21 11)]
 else
 .fail) 3 fun v23 =>
 .norm [.i (IntKind.i64.wrap ((gi v23 0) + (1:Int))),.i (gi v23 1),.b (gb v23 2),.s (gs v23 3),.s (gs v23 4),.sl (gl v23 5),.sl (gl v23 6),.sl (gl v23 7),.sl (gl v23 8),.sl (gl v23 9),.b (gb v23 10),.sl (gl v23 11)]
 else
 .ex 2 [.i (gi v21 1),.b (gb v21 2),.s (gs v21 3),.s (gs v21 4),.sl (gl v21 5),.sl (gl v21 6),.sl (gl v21 7),.sl (gl v21 8),.sl (gl v21 9),.b (gb v21 10),.sl (gl v21 11)]
noncomputable def VA:List DC → Out:=fun v25 =>
 if (decide ((gi v25 0) < ((gl v25 8).length:Int)))=true then
 ja (if 96=96 ∧ 0 ≤ (gi v25 0) ∧ (gi v25 0) < ((gl v25 8).length:Int) then
 jb ((kg [.s ((((gl v25 8).getD (gi v25 0).toNat []).getD 0 d0).ss)]).bindR fun r26 =>
 if (!(gb r26 0))=true then
 .norm [.i (gi v25 0),.b true,.i (gi v25 1),.b (gb v25 2),.s (gs v25 3),.s (gs v25 4),.sl (gl v25 5),.sl (gl v25 6),.sl (gl v25 7),.sl (gl v25 8),.sl (gl v25 9),.b (gb v25 10),.sl (gl v25 11)]
 else
 (Xw [.s ((((gl v25 8).getD (gi v25 0).toNat []).getD 0 d0).ss)]).bindR fun r27 =>
 if (gb r27 0)=true then
 .norm [.i (gi v25 0),.b true,.i (gi v25 1),.b (gb v25 2),.s (gs v25 3),.s (gs v25 4),.sl (gl v25 5),.sl (gl v25 6),.sl (gl v25 7),.sl (gl v25 8),.sl (gl v25 9),.b (gb v25 10),.sl (gl v25 11)]
 else
 (zV [.s ((((gl v25 8).getD (gi v25 0).toNat []).getD 1 d0).ss)]).bindR fun r28 =>
 if (!(gb r28 0))=true then
 .norm [.i (gi v25 0),.b true,.i (gi v25 1),.b (gb v25 2),.s (gs v25 3),.s (gs v25 4),.sl (gl v25 5),.sl (gl v25 6),.sl (gl v25 7),.sl (gl v25 8),.sl (gl v25 9),.b (gb v25 10),.sl (gl v25 11)]
 else
 (pe [.sl ((((gl v25 8).getD (gi v25 0).toNat []).getD 2 d0).ll)]).bindR fun r29 =>
 .norm [.i (gi v25 0),.b (!(gb r29 0)),.i (gi v25 1),.b (gb v25 2),.s (gs v25 3),.s (gs v25 4),.sl (gl v25 5),.sl (gl v25 6),.sl (gl v25 7),.sl (gl v25 8),.sl (gl v25 9),.b (gb v25 10),.sl (gl v25 11)]) fun v30 =>
 if (gb v30 1)=true then
 .ret [.b false]
 else
 .norm [.i (gi v30 0),.i (gi v30 2),.b (gb v30 3),.s (gs v30 4),.s (gs v30 5),.sl (gl v30 6),.sl (gl v30 7),.sl (gl v30 8),.sl (gl v30 9),.sl (gl v30 10),.b (gb v30 11),.sl (gl v30 12)]
 else
 .fail) 5 fun v31 =>
 .norm [.i (IntKind.i64.wrap ((gi v31 0) + (1:Int))),.i (gi v31 1),.b (gb v31 2),.s (gs v31 3),.s (gs v31 4),.sl (gl v31 5),.sl (gl v31 6),.sl (gl v31 7),.sl (gl v31 8),.sl (gl v31 9),.b (gb v31 10),.sl (gl v31 11)]
 else
 .ex 4 [.i (gi v25 1),.b (gb v25 2),.s (gs v25 3),.s (gs v25 4),.sl (gl v25 5),.sl (gl v25 6),.sl (gl v25 7),.sl (gl v25 8),.sl (gl v25 9),.b (gb v25 10),.sl (gl v25 11)]
noncomputable def Vz:List DC → Out:=fun v33 =>
 if (decide ((gi v33 0) < ((gl v33 9).length:Int)))=true then
 ja (jb (if 98=98 ∧ 0 ≤ (gi v33 0) ∧ (gi v33 0) < ((gl v33 9).length:Int) then
 (zB [.i ((((gl v33 9).getD (gi v33 0).toNat []).getD 0 d0).ii)]).bindR fun r34 =>
 if ((gs r34 0) == ([]:List UInt8))=true then
 .norm [.i (gi v33 0),.b true,.i (gi v33 1),.b (gb v33 2),.s (gs v33 3),.s (gs v33 4),.sl (gl v33 5),.sl (gl v33 6),.sl (gl v33 7),.sl (gl v33 8),.sl (gl v33 9),.b (gb v33 10),.sl (gl v33 11)]
 else
 if 98=98 ∧ 0 ≤ (gi v33 0) ∧ (gi v33 0) < ((gl v33 9).length:Int) then
 (kg [.s ((((gl v33 9).getD (gi v33 0).toNat []).getD 1 d0).ss)]).bindR fun r35 =>
 .norm [.i (gi v33 0),.b (!(gb r35 0)),.i (gi v33 1),.b (gb v33 2),.s (gs v33 3),.s (gs v33 4),.sl (gl v33 5),.sl (gl v33 6),.sl (gl v33 7),.sl (gl v33 8),.sl (gl v33 9),.b (gb v33 10),.sl (gl v33 11)]
 else
 .fail
 else
 .fail) fun v36 =>
 if (gb v36 1)=true then
 .ret [.b false]
 else
 .norm [.i (gi v36 0),.i (gi v36 2),.b (gb v36 3),.s (gs v36 4),.s (gs v36 5),.sl (gl v36 6),.sl (gl v36 7),.sl (gl v36 8),.sl (gl v36 9),.sl (gl v36 10),.b (gb v36 11),.sl (gl v36 12)]) 7 fun v37 =>
 .norm [.i (IntKind.i64.wrap ((gi v37 0) + (1:Int))),.i (gi v37 1),.b (gb v37 2),.s (gs v37 3),.s (gs v37 4),.sl (gl v37 5),.sl (gl v37 6),.sl (gl v37 7),.sl (gl v37 8),.sl (gl v37 9),.b (gb v37 10),.sl (gl v37 11)]
 else
 .ex 6 []
noncomputable def VD (a:List DC):Out :=
 jb ((V5 [.i (gi a 0),.i (1:Int),.i (8:Int)]).bindR fun r1 =>
 if (!(gb r1 0))=true then
 .norm [.b true,.i (gi a 0),.b (gb a 1),.s (gs a 2),.s (gs a 3),.sl (gl a 4),.sl (gl a 5),.sl (gl a 6),.sl (gl a 7),.sl (gl a 8),.b (gb a 9),.sl (gl a 10)]
 else
 (zV [.s (gs a 2)]).bindR fun r2 =>
 if (!(gb r2 0))=true then
 .norm [.b true,.i (gi a 0),.b (gb a 1),.s (gs a 2),.s (gs a 3),.sl (gl a 4),.sl (gl a 5),.sl (gl a 6),.sl (gl a 7),.sl (gl a 8),.b (gb a 9),.sl (gl a 10)]
 else
 if (gb a 1)=true then
 if (!((gs a 2) == ([]:List UInt8)))=true then
 .norm [.b true,.i (gi a 0),.b (gb a 1),.s (gs a 2),.s (gs a 3),.sl (gl a 4),.sl (gl a 5),.sl (gl a 6),.sl (gl a 7),.sl (gl a 8),.b (gb a 9),.sl (gl a 10)]
 else
 (ZU [.i (gi a 0),.b (gb a 1),.s (gs a 2),.s (gs a 3),.sl (gl a 4),.sl (gl a 5),.sl (gl a 6),.sl (gl a 7),.sl (gl a 8),.b (gb a 9),.sl (gl a 10)]).bindR fun r3 =>
 if (!(gb r3 0))=true then
 .norm [.b true,.i (gi a 0),.b (gb a 1),.s (gs a 2),.s (gs a 3),.sl (gl a 4),.sl (gl a 5),.sl (gl a 6),.sl (gl a 7),.sl (gl a 8),.b (gb a 9),.sl (gl a 10)]
 else
 (Xc [.i (gi a 0),.b (gb a 1),.s (gs a 2),.s (gs a 3),.sl (gl a 4),.sl (gl a 5),.sl (gl a 6),.sl (gl a 7),.sl (gl a 8),.b (gb a 9),.sl (gl a 10)]).bindR fun r4 =>
 if (!(gb r4 0))=true then
 .norm [.b true,.i (gi a 0),.b (gb a 1),.s (gs a 2),.s (gs a 3),.sl (gl a 4),.sl (gl a 5),.sl (gl a 6),.sl (gl a 7),.sl (gl a 8),.b (gb a 9),.sl (gl a 10)]
 else
 if ((gi a 0) != (8:Int))=true then
 (kg [.s (gs a 3)]).bindR fun r5 =>
 if (!(gb r5 0))=true then
 .norm [.b true,.i (gi a 0),.b (gb a 1),.s (gs a 2),.s (gs a 3),.sl (gl a 4),.sl (gl a 5),.sl (gl a 6),.sl (gl a 7),.sl (gl a 8),.b (gb a 9),.sl (gl a 10)]
 else
 (zz [.sl (gl a 6)]).bindR fun r6 =>
 if (!(gb r6 0))=true then
 .norm [.b true,.i (gi a 0),.b (gb a 1),.s (gs a 2),.s (gs a 3),.sl (gl a 4),.sl (gl a 5),.sl (gl a 6),.sl (gl a 7),.sl (gl a 8),.b (gb a 9),.sl (gl a 10)]
 else
 (pe [.sl (gl a 10)]).bindR fun r7 =>
 .norm [.b (!(gb r7 0)),.i (gi a 0),.b (gb a 1),.s (gs a 2),.s (gs a 3),.sl (gl a 4),.sl (gl a 5),.sl (gl a 6),.sl (gl a 7),.sl (gl a 8),.b (gb a 9),.sl (gl a 10)]
 else
 (zz [.sl (gl a 6)]).bindR fun r8 =>
 if (!(gb r8 0))=true then
 .norm [.b true,.i (gi a 0),.b (gb a 1),.s (gs a 2),.s (gs a 3),.sl (gl a 4),.sl (gl a 5),.sl (gl a 6),.sl (gl a 7),.sl (gl a 8),.b (gb a 9),.sl (gl a 10)]
 else
 (pe [.sl (gl a 10)]).bindR fun r9 =>
 .norm [.b (!(gb r9 0)),.i (gi a 0),.b (gb a 1),.s (gs a 2),.s (gs a 3),.sl (gl a 4),.sl (gl a 5),.sl (gl a 6),.sl (gl a 7),.sl (gl a 8),.b (gb a 9),.sl (gl a 10)]
 else
 (Xc [.i (gi a 0),.b (gb a 1),.s (gs a 2),.s (gs a 3),.sl (gl a 4),.sl (gl a 5),.sl (gl a 6),.sl (gl a 7),.sl (gl a 8),.b (gb a 9),.sl (gl a 10)]).bindR fun r10 =>
 if (!(gb r10 0))=true then
 .norm [.b true,.i (gi a 0),.b (gb a 1),.s (gs a 2),.s (gs a 3),.sl (gl a 4),.sl (gl a 5),.sl (gl a 6),.sl (gl a 7),.sl (gl a 8),.b (gb a 9),.sl (gl a 10)]
 else
 if ((gi a 0) != (8:Int))=true then
 (kg [.s (gs a 3)]).bindR fun r11 =>
 if (!(gb r11 0))=true then
 .norm [.b true,.i (gi a 0),.b (gb a 1),.s (gs a 2),.s (gs a 3),.sl (gl a 4),.sl (gl a 5),.sl (gl a 6),.sl (gl a 7),.sl (gl a 8),.b (gb a 9),.sl (gl a 10)]
 else
 (zz [.sl (gl a 6)]).bindR fun r12 =>
 if (!(gb r12 0))=true then
 .norm [.b true,.i (gi a 0),.b (gb a 1),.s (gs a 2),.s (gs a 3),.sl (gl a 4),.sl (gl a 5),.sl (gl a 6),.sl (gl a 7),.sl (gl a 8),.b (gb a 9),.sl (gl a 10)]
 else
 (pe [.sl (gl a 10)]).bindR fun r13 =>
 .norm [.b (!(gb r13 0)),.i (gi a 0),.b (gb a 1),.s (gs a 2),.s (gs a 3),.sl (gl a 4),.sl (gl a 5),.sl (gl a 6),.sl (gl a 7),.sl (gl a 8),.b (gb a 9),.sl (gl a 10)]
 else
 (zz [.sl (gl a 6)]).bindR fun r14 =>
 if (!(gb r14 0))=true then
 .norm [.b true,.i (gi a 0),.b (gb a 1),.s (gs a 2),.s (gs a 3),.sl (gl a 4),.sl (gl a 5),.sl (gl a 6),.sl (gl a 7),.sl (gl a 8),.b (gb a 9),.sl (gl a 10)]
 else
 (pe [.sl (gl a 10)]).bindR fun r15 =>
 .norm [.b (!(gb r15 0)),.i (gi a 0),.b (gb a 1),.s (gs a 2),.s (gs a 3),.sl (gl a 4),.sl (gl a 5),.sl (gl a 6),.sl (gl a 7),.sl (gl a 8),.b (gb a 9),.sl (gl a 10)]) fun v16 =>
 if (gb v16 0)=true then
 .ret [.b false]
 else
 ja (jR VC [.i (0:Int),.i (gi v16 1),.b (gb v16 2),.s (gs v16 3),.s (gs v16 4),.sl (gl v16 5),.sl (gl v16 6),.sl (gl v16 7),.sl (gl v16 8),.sl (gl v16 9),.b (gb v16 10),.sl (gl v16 11)]) 0 fun v20 =>
 ja (jR VB [.i (0:Int),.i (gi v20 0),.b (gb v20 1),.s (gs v20 2),.s (gs v20 3),.sl (gl v20 4),.sl (gl v20 5),.sl (gl v20 6),.sl (gl v20 7),.sl (gl v20 8),.b (gb v20 9),.sl (gl v20 10)]) 2 fun v24 =>
 ja (jR VA [.i (0:Int),.i (gi v24 0),.b (gb v24 1),.s (gs v24 2),.s (gs v24 3),.sl (gl v24 4),.sl (gl v24 5),.sl (gl v24 6),.sl (gl v24 7),.sl (gl v24 8),.b (gb v24 9),.sl (gl v24 10)]) 4 fun v32 =>
 ja (jR Vz [.i (0:Int),.i (gi v32 0),.b (gb v32 1),.s (gs v32 2),.s (gs v32 3),.sl (gl v32 4),.sl (gl v32 5),.sl (gl v32 6),.sl (gl v32 7),.sl (gl v32 8),.b (gb v32 9),.sl (gl v32 10)]) 6 fun v38 =>
 .ret [.b true]
theorem jbB a:j1c a=VD a:=(jk ju 39 _ a).trans (by kernel_rfl)
noncomputable def yv:List DC → Out:=fun v3 =>
 if (decide ((gi v3 2) < ((gs v3 0).length:Int)))=true then
 ja (if 0 ≤ (gi v3 2) ∧ (gi v3 2) < ((gs v3 0).length:Int) then
 ja (jb (if ((((gs v3 0).getD (gi v3 2).toNat 0).toNat:Int) == (34:Int))=true then
 .norm [.s (gs v3 0),.s (gs v3 1),.i (gi v3 2),.i (((gs v3 0).getD (gi v3 2).toNat 0).toNat:Int),.b true]
 else
 .norm [.s (gs v3 0),.s (gs v3 1),.i (gi v3 2),.i (((gs v3 0).getD (gi v3 2).toNat 0).toNat:Int),.b ((((gs v3 0).getD (gi v3 2).toNat 0).toNat:Int) == (92:Int))]) fun v4 =>
 jb (if (gb v4 4)=true then
 if (gs v4 1).length + ([92]:List UInt8).length < jF then
 if 0 ≤ (gi v4 2) ∧ (gi v4 2) ≤ (IntKind.i64.wrap ((gi v4 2) + (1:Int))) ∧ (IntKind.i64.wrap ((gi v4 2) + (1:Int))) ≤ ((gs v4 0).length:Int) then
 if ((gs v4 1) ++ ([92]:List UInt8)).length + (((gs v4 0).take (IntKind.i64.wrap ((gi v4 2) + (1:Int))).toNat).drop (gi v4 2).toNat).length < jF then
 .norm [.s (gs v4 0),.s (((gs v4 1) ++ ([92]:List UInt8)) ++ (((gs v4 0).take (IntKind.i64.wrap ((gi v4 2) + (1:Int))).toNat).drop (gi v4 2).toNat)),.i (gi v4 2)]
 else
 .fail
 else
 .fail
 else
 .fail
 else
 jb (if ((gi v4 3) == (8:Int))=true then
 if (gs v4 1).length + ([92,98]:List UInt8).length < jF then
 .norm [.s (gs v4 0),.s ((gs v4 1) ++ ([92,98]:List UInt8)),.i (gi v4 2)]
 else
 .fail
 else
 jb (if ((gi v4 3) == (9:Int))=true then
 if (gs v4 1).length + ([92,116]:List UInt8).length < jF then
 .norm [.s (gs v4 0),.s ((gs v4 1) ++ ([92,116]:List UInt8)),.i (gi v4 2)]
 else
 .fail
 else
 jb (if ((gi v4 3) == (10:Int))=true then
 if (gs v4 1).length + ([92,110]:List UInt8).length < jF then
 .norm [.s (gs v4 0),.s ((gs v4 1) ++ ([92,110]:List UInt8)),.i (gi v4 2)]
 else
 .fail
 else
 jb (if ((gi v4 3) == (12:Int))=true then
 if (gs v4 1).length + ([92,102]:List UInt8).length < jF then
 .norm [.s (gs v4 0),.s ((gs v4 1) ++ ([92,102]:List UInt8)),.i (gi v4 2)]
 else
 .fail
 else
 jb (if ((gi v4 3) == (13:Int))=true then
 if (gs v4 1).length + ([92,114]:List UInt8).length < jF then
 .norm [.s (gs v4 0),.s ((gs v4 1) ++ ([92,114]:List UInt8)),.i (gi v4 2)]
 else
 .fail
 else
 jb (if (decide ((gi v4 3) < (32:Int)))=true then
 .norm [.s (gs v4 0),.s (gs v4 1),.i (gi v4 2),.i (gi v4 3),.b true]
 else
 .norm [.s (gs v4 0),.s (gs v4 1),.i (gi v4 2),.i (gi v4 3),.b ((gi v4 3) == (127:Int))]) fun v5 =>
 jb (if (gb v5 4)=true then
 if (gs v5 1).length + ([92,117]:List UInt8).length < jF then
 (YN [.i (IntKind.i64.wrap (gi v5 3))]).bindR fun r6 =>
 if ((gs v5 1) ++ ([92,117]:List UInt8)).length + (gs r6 0).length < jF then
 .norm [.s (gs v5 0),.s (((gs v5 1) ++ ([92,117]:List UInt8)) ++ (gs r6 0)),.i (gi v5 2)]
 else
 .fail
 else
 .fail
 else
 if 0 ≤ (gi v5 2) ∧ (gi v5 2) ≤ (IntKind.i64.wrap ((gi v5 2) + (1:Int))) ∧ (IntKind.i64.wrap ((gi v5 2) + (1:Int))) ≤ ((gs v5 0).length:Int) then
 if (gs v5 1).length + (((gs v5 0).take (IntKind.i64.wrap ((gi v5 2) + (1:Int))).toNat).drop (gi v5 2).toNat).length < jF then
 .norm [.s (gs v5 0),.s ((gs v5 1) ++ (((gs v5 0).take (IntKind.i64.wrap ((gi v5 2) + (1:Int))).toNat).drop (gi v5 2).toNat)),.i (gi v5 2)]
 else
 .fail
 else
 .fail) fun v7 =>
 .norm [.s (gs v7 0),.s (gs v7 1),.i (gi v7 2)]) fun v8 =>
 .norm [.s (gs v8 0),.s (gs v8 1),.i (gi v8 2)]) fun v9 =>
 .norm [.s (gs v9 0),.s (gs v9 1),.i (gi v9 2)]) fun v10 =>
 .norm [.s (gs v10 0),.s (gs v10 1),.i (gi v10 2)]) fun v11 =>
 .norm [.s (gs v11 0),.s (gs v11 1),.i (gi v11 2)]) fun v12 =>
 .norm [.s (gs v12 0),.s (gs v12 1),.i (gi v12 2)]) fun v13 =>
 .norm [.s (gs v13 0),.s (gs v13 1),.i (gi v13 2)]) 2 fun v14 =>
 .norm [.s (gs v14 0),.s (gs v14 1),.i (gi v14 2)]
 else
 .fail) 1 fun v15 =>
 .norm [.s (gs v15 0),.s (gs v15 1),.i (IntKind.i64.wrap ((gi v15 2) + (1:Int)))]
 else
 .ex 0 [.s (gs v3 1)]
noncomputable def j2L (a:List DC):Out :=
 jb ((ZW [.s (gs a 0)]).bindR fun r1 =>
 if (!(gb r1 0))=true then
 .norm [.s (gs a 0),.b true]
 else
 .norm [.s (gs a 0),.b (decide (((gs a 0).length:Int) > (200:Int)))]) fun v2 =>
 if (gb v2 1)=true then
 .ret [.s ([]:List UInt8)]
 else
 ja (jR yv [.s (gs v2 0),.s ([34]:List UInt8),.i (0:Int)]) 0 fun v16 =>
 if (gs v16 0).length + ([34]:List UInt8).length < jF then
 .ret [.s ((gs v16 0) ++ ([34]:List UInt8))]
 else
 .fail
theorem j8u a:qW a=j2L a:=(jk ju 40 _ a).trans (by kernel_rfl)
noncomputable def jb5 (a:List DC):Out :=
 if 9=9 ∧ 0 ≤ (gi a 0) ∧ (gi a 0) < ([[DC.s ([]:List UInt8)],[DC.s ([115,99,97,108,97,114]:List UInt8)],[DC.s ([116,121,112,101]:List UInt8)],[DC.s ([105,110,116,101,114,102,97,99,101]:List UInt8)],[DC.s ([117,110,105,111,110]:List UInt8)],[DC.s ([101,110,117,109]:List UInt8)],[DC.s ([105,110,112,117,116]:List UInt8)],[DC.s ([100,105,114,101,99,116,105,118,101]:List UInt8)],[DC.s ([115,99,104,101,109,97]:List UInt8)]].length:Int) then
 .ret [.s ((([[DC.s ([]:List UInt8)],[DC.s ([115,99,97,108,97,114]:List UInt8)],[DC.s ([116,121,112,101]:List UInt8)],[DC.s ([105,110,116,101,114,102,97,99,101]:List UInt8)],[DC.s ([117,110,105,111,110]:List UInt8)],[DC.s ([101,110,117,109]:List UInt8)],[DC.s ([105,110,112,117,116]:List UInt8)],[DC.s ([100,105,114,101,99,116,105,118,101]:List UInt8)],[DC.s ([115,99,104,101,109,97]:List UInt8)]].getD (gi a 0).toNat []).getD 0 d0).ss)]
 else
 .fail
theorem j8o a:YM a=jb5 a:=(jk ju 41 _ a).trans (by kernel_rfl)
noncomputable def yF:List DC → Out:=fun v1 =>
 if (decide ((gi v1 2) < ((gl v1 1).length:Int)))=true then
 ja (jb (if ((gi v1 2) == (0:Int))=true then
 if (gl v1 0).length + [[DC.i (40:Int)]].length < jF then
 .norm [.sl ((gl v1 0) ++ [[DC.i (40:Int)]]),.sl (gl v1 1),.i (gi v1 2)]
 else
 .fail
 else
 if (gl v1 0).length + [[DC.i (44:Int)],[DC.i (32:Int)]].length < jF then
 .norm [.sl ((gl v1 0) ++ [[DC.i (44:Int)],[DC.i (32:Int)]]),.sl (gl v1 1),.i (gi v1 2)]
 else
 .fail) fun v2 =>
 if 104=104 ∧ 0 ≤ (gi v2 2) ∧ (gi v2 2) < ((gl v2 1).length:Int) then
 (Ql [.sl (gl v2 0),.s ((((gl v2 1).getD (gi v2 2).toNat []).getD 0 d0).ss),.s ((((gl v2 1).getD (gi v2 2).toNat []).getD 1 d0).ss),.s ((((gl v2 1).getD (gi v2 2).toNat []).getD 2 d0).ss),.s ((((gl v2 1).getD (gi v2 2).toNat []).getD 3 d0).ss),.b ((((gl v2 1).getD (gi v2 2).toNat []).getD 4 d0).bb),.i ((((gl v2 1).getD (gi v2 2).toNat []).getD 5 d0).ii),.s ((((gl v2 1).getD (gi v2 2).toNat []).getD 6 d0).ss),.sl ((((gl v2 1).getD (gi v2 2).toNat []).getD 7 d0).ll),.sl ((((gl v2 1).getD (gi v2 2).toNat []).getD 8 d0).ll),.sl ((((gl v2 1).getD (gi v2 2).toNat []).getD 9 d0).ll)]).bindR fun r3 =>
 .norm [.sl (gl r3 0),.sl (gl v2 1),.i (gi v2 2)]
 else
 .fail) 1 fun v4 =>
 .norm [.sl (gl v4 0),.sl (gl v4 1),.i (IntKind.i64.wrap ((gi v4 2) + (1:Int)))]
 else
 .ex 0 [.sl (gl v1 0),.sl (gl v1 1)]
noncomputable def X4 (a:List DC):Out :=
 ja (jR yF [.sl (gl a 0),.sl (gl a 1),.i (0:Int)]) 0 fun v5 =>
 jb (if (decide (((gl v5 1).length:Int) > (0:Int)))=true then
 if (gl v5 0).length + [[DC.i (41:Int)]].length < jF then
 .norm [.sl ((gl v5 0) ++ [[DC.i (41:Int)]])]
 else
 .fail
 else
 .norm [.sl (gl v5 0)]) fun v6 =>
 .ret [.sl (gl v6 0)]
theorem j5u a:Kw a=X4 a:=(jk ju 42 _ a).trans (by kernel_rfl)
noncomputable def zp:List DC → Out:=fun v1 =>
 if (decide ((gi v1 3) < ((gl v1 1).length:Int)))=true then
 ja (jb (if (decide ((gi v1 3) > (0:Int)))=true then
 if (gl v1 0).length + (jo (gs v1 2)).length < jF then
 .norm [.sl ((gl v1 0) ++ (jo (gs v1 2))),.sl (gl v1 1),.s (gs v1 2),.i (gi v1 3)]
 else
 .fail
 else
 .norm [.sl (gl v1 0),.sl (gl v1 1),.s (gs v1 2),.i (gi v1 3)]) fun v2 =>
 if 9=9 ∧ 0 ≤ (gi v2 3) ∧ (gi v2 3) < ((gl v2 1).length:Int) then
 if (gl v2 0).length + (jo ((((gl v2 1).getD (gi v2 3).toNat []).getD 0 d0).ss)).length < jF then
 .norm [.sl ((gl v2 0) ++ (jo ((((gl v2 1).getD (gi v2 3).toNat []).getD 0 d0).ss))),.sl (gl v2 1),.s (gs v2 2),.i (gi v2 3)]
 else
 .fail
 else
 .fail) 1 fun v3 =>
 .norm [.sl (gl v3 0),.sl (gl v3 1),.s (gs v3 2),.i (IntKind.i64.wrap ((gi v3 3) + (1:Int)))]
 else
 .ex 0 [.sl (gl v1 0)]
noncomputable def j1A (a:List DC):Out :=
 ja (jR zp [.sl (gl a 0),.sl (gl a 1),.s (gs a 2),.i (0:Int)]) 0 fun v4 =>
 .ret [.sl (gl v4 0)]
theorem j6O a:Jt a=j1A a:=(jk ju 43 _ a).trans (by kernel_rfl)
noncomputable def Z8 (a:List DC):Out :=
 (JV [.sl (gl a 0),.s (gs a 2)]).bindR fun r1 =>
 if (gl r1 0).length + (jo (gs a 1)).length < jF then
 (Kw [.sl ((gl r1 0) ++ (jo (gs a 1))),.sl (gl a 3)]).bindR fun r2 =>
 if (gl r2 0).length + [[DC.i (58:Int)],[DC.i (32:Int)]].length < jF then
 (Jv [.s (gs a 4),.s (gs a 5)]).bindR fun r3 =>
 if ((gl r2 0) ++ [[DC.i (58:Int)],[DC.i (32:Int)]]).length + (jo (gs r3 0)).length < jF then
 (p8 [.sl (((gl r2 0) ++ [[DC.i (58:Int)],[DC.i (32:Int)]]) ++ (jo (gs r3 0))),.sl (gl a 6)]).bindR fun r4 =>
 if (gl r4 0).length + [[DC.i (10:Int)]].length < jF then
 .ret [.sl ((gl r4 0) ++ [[DC.i (10:Int)]])]
 else
 .fail
 else
 .fail
 else
 .fail
 else
 .fail
theorem j3n a:QD a=Z8 a:=(jk ju 44 _ a).trans (by kernel_rfl)
noncomputable def Vw (a:List DC):Out :=
 jb (if (!((gs a 1) == ([]:List UInt8)))=true then
 if (gl a 0).length + [[DC.i (32:Int)],[DC.i (32:Int)]].length < jF then
 (qW [.s (gs a 1)]).bindR fun r1 =>
 if ((gl a 0) ++ [[DC.i (32:Int)],[DC.i (32:Int)]]).length + (jo (gs r1 0)).length < jF then
 if (((gl a 0) ++ [[DC.i (32:Int)],[DC.i (32:Int)]]) ++ (jo (gs r1 0))).length + [[DC.i (10:Int)]].length < jF then
 .norm [.sl ((((gl a 0) ++ [[DC.i (32:Int)],[DC.i (32:Int)]]) ++ (jo (gs r1 0))) ++ [[DC.i (10:Int)]])]
 else
 .fail
 else
 .fail
 else
 .fail
 else
 .norm [.sl (gl a 0)]) fun v2 =>
 if (gl v2 0).length + [[DC.i (32:Int)],[DC.i (32:Int)]].length < jF then
 .ret [.sl ((gl v2 0) ++ [[DC.i (32:Int)],[DC.i (32:Int)]])]
 else
 .fail
theorem j4D a:JV a=Vw a:=(jk ju 45 _ a).trans (by kernel_rfl)
noncomputable def JD (a:List DC):Out :=
 jb (if (!((gs a 2) == ([]:List UInt8)))=true then
 (qW [.s (gs a 2)]).bindR fun r1 =>
 if (gl a 0).length + (jo (gs r1 0)).length < jF then
 if ((gl a 0) ++ (jo (gs r1 0))).length + [[DC.i (32:Int)]].length < jF then
 .norm [.sl (((gl a 0) ++ (jo (gs r1 0))) ++ [[DC.i (32:Int)]]),.s (gs a 1),.s (gs a 2),.s (gs a 3),.s (gs a 4),.b (gb a 5),.i (gi a 6),.s (gs a 7),.sl (gl a 8),.sl (gl a 9),.sl (gl a 10)]
 else
 .fail
 else
 .fail
 else
 .norm [.sl (gl a 0),.s (gs a 1),.s (gs a 2),.s (gs a 3),.s (gs a 4),.b (gb a 5),.i (gi a 6),.s (gs a 7),.sl (gl a 8),.sl (gl a 9),.sl (gl a 10)]) fun v2 =>
 if (gl v2 0).length + (jo (gs v2 1)).length < jF then
 if ((gl v2 0) ++ (jo (gs v2 1))).length + [[DC.i (58:Int)],[DC.i (32:Int)]].length < jF then
 (Jv [.s (gs v2 3),.s (gs v2 4)]).bindR fun r3 =>
 if (((gl v2 0) ++ (jo (gs v2 1))) ++ [[DC.i (58:Int)],[DC.i (32:Int)]]).length + (jo (gs r3 0)).length < jF then
 jb (if (gb v2 5)=true then
 if ((((gl v2 0) ++ (jo (gs v2 1))) ++ [[DC.i (58:Int)],[DC.i (32:Int)]]) ++ (jo (gs r3 0))).length + (jo ([32,61,32]:List UInt8)).length < jF then
 (zA [.sl (((((gl v2 0) ++ (jo (gs v2 1))) ++ [[DC.i (58:Int)],[DC.i (32:Int)]]) ++ (jo (gs r3 0))) ++ (jo ([32,61,32]:List UInt8))),.i (gi v2 6),.s (gs v2 7),.sl (gl v2 8),.sl (gl v2 9)]).bindR fun r4 =>
 .norm [.sl (gl r4 0),.s (gs v2 1),.s (gs v2 2),.s (gs v2 3),.s (gs v2 4),.b (gb v2 5),.i (gi v2 6),.s (gs v2 7),.sl (gl v2 8),.sl (gl v2 9),.sl (gl v2 10)]
 else
 .fail
 else
 .norm [.sl ((((gl v2 0) ++ (jo (gs v2 1))) ++ [[DC.i (58:Int)],[DC.i (32:Int)]]) ++ (jo (gs r3 0))),.s (gs v2 1),.s (gs v2 2),.s (gs v2 3),.s (gs v2 4),.b (gb v2 5),.i (gi v2 6),.s (gs v2 7),.sl (gl v2 8),.sl (gl v2 9),.sl (gl v2 10)]) fun v5 =>
 (p8 [.sl (gl v5 0),.sl (gl v5 10)]).bindR fun r6 =>
 .ret [.sl (gl r6 0)]
 else
 .fail
 else
 .fail
 else
 .fail
theorem j6N a:Ql a=JD a:=(jk ju 46 _ a).trans (by kernel_rfl)
noncomputable def j8g (a:List DC):Out :=
 jb ((zD [.i (gi a 0)]).bindR fun r1 =>
 if (!((gs r1 0) == ([]:List UInt8)))=true then
 if ((gs a 1) == ([]:List UInt8))=true then
 (ku [.sl (gl a 2)]).bindR fun r2 =>
 if (!(gb r2 0))=true then
 (yp [.sl (gl a 3)]).bindR fun r3 =>
 if (gb r3 0)=true then
 (Qg [.sl (gl a 4)]).bindR fun r4 =>
 .norm [.b (gb r4 0)]
 else
 .norm [.b false]
 else
 .norm [.b false]
 else
 (ki [.s (gs a 1)]).bindR fun r5 =>
 if (gb r5 0)=true then
 (ku [.sl (gl a 2)]).bindR fun r6 =>
 if (!(gb r6 0))=true then
 (yp [.sl (gl a 3)]).bindR fun r7 =>
 if (gb r7 0)=true then
 (Qg [.sl (gl a 4)]).bindR fun r8 =>
 .norm [.b (gb r8 0)]
 else
 .norm [.b false]
 else
 .norm [.b false]
 else
 .norm [.b false]
 else
 .norm [.b false]) fun v9 =>
 .ret [.b (gb v9 0)]
theorem jdG a:j2p a=j8g a:=(jk ju 55 _ a).trans (by kernel_rfl)
noncomputable def Ya (a:List DC):Out :=
 (XU [.sl (gl a 0),.i (1:Int)]).bindR fun r1 =>
 if ([123,10]:List UInt8).length + (gs r1 0).length < jF then
 if (([123,10]:List UInt8) ++ (gs r1 0)).length + ([125,10]:List UInt8).length < jF then
 .ret [.s ((([123,10]:List UInt8) ++ (gs r1 0)) ++ ([125,10]:List UInt8))]
 else
 .fail
 else
 .fail
theorem j0z a:yY a=Ya a:=(jk ju 56 _ a).trans (by kernel_rfl)
noncomputable def j4p (a:List DC):Out :=
 (YA [.i (gi a 0),.i (1:Int),.i (IntKind.i64.wrap (([[DC.s ([]:List UInt8)],[DC.s ([113,117,101,114,121]:List UInt8)],[DC.s ([109,117,116,97,116,105,111,110]:List UInt8)],[DC.s ([115,117,98,115,99,114,105,112,116,105,111,110]:List UInt8)]].length:Int) - (1:Int)))]).bindR fun r1 =>
 if (!(gb r1 0))=true then
 .ret [.s ([]:List UInt8)]
 else
 if 9=9 ∧ 0 ≤ (gi a 0) ∧ (gi a 0) < ([[DC.s ([]:List UInt8)],[DC.s ([113,117,101,114,121]:List UInt8)],[DC.s ([109,117,116,97,116,105,111,110]:List UInt8)],[DC.s ([115,117,98,115,99,114,105,112,116,105,111,110]:List UInt8)]].length:Int) then
 .ret [.s ((([[DC.s ([]:List UInt8)],[DC.s ([113,117,101,114,121]:List UInt8)],[DC.s ([109,117,116,97,116,105,111,110]:List UInt8)],[DC.s ([115,117,98,115,99,114,105,112,116,105,111,110]:List UInt8)]].getD (gi a 0).toNat []).getD 0 d0).ss)]
 else
 .fail
theorem jaJ a:zD a=j4p a:=(jk ju 57 _ a).trans (by kernel_rfl)
noncomputable def zw:List DC → Out:=fun v2 =>
 if (decide ((gi v2 2) < (gi v2 1)))=true then
 ja (if 0 ≤ (gi v2 2) ∧ (gi v2 2) < ((gs v2 4).length:Int) then
 jb (if ((((gs v2 4).getD (gi v2 2).toNat 0).toNat:Int) == (33:Int))=true then
 if (gs v2 0).length + ([33]:List UInt8).length < jF then
 .norm [.s ((gs v2 0) ++ ([33]:List UInt8)),.i (gi v2 1),.i (gi v2 2),.s (gs v2 3),.s (gs v2 4)]
 else
 .fail
 else
 if ([91]:List UInt8).length + (gs v2 0).length < jF then
 if (([91]:List UInt8) ++ (gs v2 0)).length + ([93]:List UInt8).length < jF then
 .norm [.s ((([91]:List UInt8) ++ (gs v2 0)) ++ ([93]:List UInt8)),.i (gi v2 1),.i (gi v2 2),.s (gs v2 3),.s (gs v2 4)]
 else
 .fail
 else
 .fail) fun v3 =>
 .norm [.s (gs v3 0),.i (gi v3 1),.i (gi v3 2),.s (gs v3 3),.s (gs v3 4)]
 else
 .fail) 1 fun v4 =>
 .norm [.s (gs v4 0),.i (gi v4 1),.i (IntKind.i64.wrap ((gi v4 2) + (1:Int))),.s (gs v4 3),.s (gs v4 4)]
 else
 .ex 0 [.s (gs v2 0)]
noncomputable def j1Y (a:List DC):Out :=
 (JN [.s (gs a 0),.s (gs a 1)]).bindR fun r1 =>
 if (!(gb r1 0))=true then
 .ret [.s ([]:List UInt8)]
 else
 ja (jR zw [.s (gs a 0),.i ((gs a 1).length:Int),.i (0:Int),.s (gs a 0),.s (gs a 1)]) 0 fun v5 =>
 .ret [.s (gs v5 0)]
theorem j7e a:JA a=j1Y a:=(jk ju 58 _ a).trans (by kernel_rfl)
noncomputable def QQ (a:List DC):Out :=
 if (!(gb a 0))=true then
 .ret [.s ([]:List UInt8)]
 else
 (VZ [.i (gi a 1),.s (gs a 2),.sl (gl a 3),.sl (gl a 4)]).bindR fun r1 =>
 if ([32,61,32]:List UInt8).length + (gs r1 0).length < jF then
 .ret [.s (([32,61,32]:List UInt8) ++ (gs r1 0))]
 else
 .fail
theorem j3r a:Jh a=QQ a:=(jk ju 59 _ a).trans (by kernel_rfl)
noncomputable def K6:List DC → Out:=fun v2 =>
 if (decide ((gi v2 3) < (gi v2 2)))=true then
 ja (if 166=166 ∧ 0 ≤ (gi v2 3) ∧ (gi v2 3) < ((gl v2 1).length:Int) then
 if ([32,64]:List UInt8).length + ((((gl v2 1).getD (gi v2 3).toNat []).getD 0 d0).ss).length < jF then
 (Qr [.sl ((((gl v2 1).getD (gi v2 3).toNat []).getD 1 d0).ll)]).bindR fun r3 =>
 if (([32,64]:List UInt8) ++ ((((gl v2 1).getD (gi v2 3).toNat []).getD 0 d0).ss)).length + (gs r3 0).length < jF then
 if (gs v2 0).length + ((([32,64]:List UInt8) ++ ((((gl v2 1).getD (gi v2 3).toNat []).getD 0 d0).ss)) ++ (gs r3 0)).length < jF then
 .norm [.s ((gs v2 0) ++ ((([32,64]:List UInt8) ++ ((((gl v2 1).getD (gi v2 3).toNat []).getD 0 d0).ss)) ++ (gs r3 0))),.sl (gl v2 1),.i (gi v2 2),.i (gi v2 3)]
 else
 .fail
 else
 .fail
 else
 .fail
 else
 .fail) 1 fun v4 =>
 .norm [.s (gs v4 0),.sl (gl v4 1),.i (gi v4 2),.i (IntKind.i64.wrap ((gi v4 3) + (1:Int)))]
 else
 .ex 0 [.s (gs v2 0)]
noncomputable def j21 (a:List DC):Out :=
 (yp [.sl (gl a 0)]).bindR fun r1 =>
 if (!(gb r1 0))=true then
 .ret [.s ([]:List UInt8)]
 else
 ja (jR K6 [.s ([]:List UInt8),.sl (gl a 0),.i ((gl a 0).length:Int),.i (0:Int)]) 0 fun v5 =>
 .ret [.s (gs v5 0)]
theorem j7i a:kT a=j21 a:=(jk ju 60 _ a).trans (by kernel_rfl)
noncomputable def Z5 (a:List DC):Out:=match jgD 9 j5a Z0 a with | some r=>.ret r | none=>.fail
theorem j1y a:pn a=Z5 a:=(jk ju 61 Z0 a).trans (by kernel_rfl)
noncomputable def j4r (a:List DC):Out :=
 jb ((ki [.s (gs a 0)]).bindR fun r1 =>
 if (gb r1 0)=true then
 if (!((gs a 0) == ([111,110]:List UInt8)))=true then
 (ki [.s (gs a 1)]).bindR fun r2 =>
 if (gb r2 0)=true then
 (yp [.sl (gl a 2)]).bindR fun r3 =>
 if (gb r3 0)=true then
 (Qg [.sl (gl a 3)]).bindR fun r4 =>
 .norm [.b (gb r4 0)]
 else
 .norm [.b false]
 else
 .norm [.b false]
 else
 .norm [.b false]
 else
 .norm [.b false]) fun v5 =>
 .ret [.b (gb v5 0)]
theorem jaO a:j0a a=j4r a:=(jk ju 62 _ a).trans (by kernel_rfl)
noncomputable def Yz (a:List DC):Out :=
 jb ((YA [.i (gi a 0),.i (1:Int),.i (8:Int)]).bindR fun r1 =>
 if (!(gb r1 0))=true then
 .norm [.b true,.i (gi a 0),.b (gb a 1),.s (gs a 2),.s (gs a 3),.sl (gl a 4),.sl (gl a 5),.sl (gl a 6),.sl (gl a 7),.sl (gl a 8),.b (gb a 9),.sl (gl a 10)]
 else
 (JM [.s (gs a 2)]).bindR fun r2 =>
 if (!(gb r2 0))=true then
 .norm [.b true,.i (gi a 0),.b (gb a 1),.s (gs a 2),.s (gs a 3),.sl (gl a 4),.sl (gl a 5),.sl (gl a 6),.sl (gl a 7),.sl (gl a 8),.b (gb a 9),.sl (gl a 10)]
 else
 if (gb a 1)=true then
 if (!((gs a 2) == ([]:List UInt8)))=true then
 .norm [.b true,.i (gi a 0),.b (gb a 1),.s (gs a 2),.s (gs a 3),.sl (gl a 4),.sl (gl a 5),.sl (gl a 6),.sl (gl a 7),.sl (gl a 8),.b (gb a 9),.sl (gl a 10)]
 else
 (VY [.i (gi a 0),.b (gb a 1),.s (gs a 2),.s (gs a 3),.sl (gl a 4),.sl (gl a 5),.sl (gl a 6),.sl (gl a 7),.sl (gl a 8),.b (gb a 9),.sl (gl a 10)]).bindR fun r3 =>
 if (!(gb r3 0))=true then
 .norm [.b true,.i (gi a 0),.b (gb a 1),.s (gs a 2),.s (gs a 3),.sl (gl a 4),.sl (gl a 5),.sl (gl a 6),.sl (gl a 7),.sl (gl a 8),.b (gb a 9),.sl (gl a 10)]
 else
 (Vf [.i (gi a 0),.b (gb a 1),.s (gs a 2),.s (gs a 3),.sl (gl a 4),.sl (gl a 5),.sl (gl a 6),.sl (gl a 7),.sl (gl a 8),.b (gb a 9),.sl (gl a 10)]).bindR fun r4 =>
 if (!(gb r4 0))=true then
 .norm [.b true,.i (gi a 0),.b (gb a 1),.s (gs a 2),.s (gs a 3),.sl (gl a 4),.sl (gl a 5),.sl (gl a 6),.sl (gl a 7),.sl (gl a 8),.b (gb a 9),.sl (gl a 10)]
 else
 (Vl [.i (gi a 0),.b (gb a 1),.s (gs a 2),.s (gs a 3),.sl (gl a 4),.sl (gl a 5),.sl (gl a 6),.sl (gl a 7),.sl (gl a 8),.b (gb a 9),.sl (gl a 10)]).bindR fun r5 =>
 .norm [.b (!(gb r5 0)),.i (gi a 0),.b (gb a 1),.s (gs a 2),.s (gs a 3),.sl (gl a 4),.sl (gl a 5),.sl (gl a 6),.sl (gl a 7),.sl (gl a 8),.b (gb a 9),.sl (gl a 10)]
 else
 (Vf [.i (gi a 0),.b (gb a 1),.s (gs a 2),.s (gs a 3),.sl (gl a 4),.sl (gl a 5),.sl (gl a 6),.sl (gl a 7),.sl (gl a 8),.b (gb a 9),.sl (gl a 10)]).bindR fun r6 =>
 if (!(gb r6 0))=true then
 .norm [.b true,.i (gi a 0),.b (gb a 1),.s (gs a 2),.s (gs a 3),.sl (gl a 4),.sl (gl a 5),.sl (gl a 6),.sl (gl a 7),.sl (gl a 8),.b (gb a 9),.sl (gl a 10)]
 else
 (Vl [.i (gi a 0),.b (gb a 1),.s (gs a 2),.s (gs a 3),.sl (gl a 4),.sl (gl a 5),.sl (gl a 6),.sl (gl a 7),.sl (gl a 8),.b (gb a 9),.sl (gl a 10)]).bindR fun r7 =>
 .norm [.b (!(gb r7 0)),.i (gi a 0),.b (gb a 1),.s (gs a 2),.s (gs a 3),.sl (gl a 4),.sl (gl a 5),.sl (gl a 6),.sl (gl a 7),.sl (gl a 8),.b (gb a 9),.sl (gl a 10)]) fun v8 =>
 if (gb v8 0)=true then
 .ret [.b false]
 else
 ja (if ((gi v8 1) == (7:Int))=true then
 jb ((ki [.s (gs v8 4)]).bindR fun r9 =>
 if (gb r9 0)=true then
 if (!(gb v8 2))=true then
 if (decide (((gl v8 5).length:Int) > (0:Int)))=true then
 (pc [.sl (gl v8 5)]).bindR fun r10 =>
 .norm [.b (!(gb r10 0))]
 else
 .norm [.b false]
 else
 .norm [.b false]
 else
 .norm [.b false]) fun v11 =>
 .ret [.b (gb v11 0)]
 else
 if ((gi v8 1) == (8:Int))=true then
 jb (if ((gs v8 4) == ([]:List UInt8))=true then
 if (gb v8 2)=true then
 .norm [.b true]
 else
 .norm [.b (decide (((gl v8 9).length:Int) > (0:Int)))]
 else
 .norm [.b false]) fun v12 =>
 .ret [.b (gb v12 0)]
 else
 .norm [.i (gi v8 1),.b (gb v8 2),.s (gs v8 3),.s (gs v8 4),.sl (gl v8 5),.sl (gl v8 6),.sl (gl v8 7),.sl (gl v8 8),.sl (gl v8 9),.b (gb v8 10),.sl (gl v8 11)]) 0 fun v13 =>
 (ki [.s (gs v13 3)]).bindR fun r14 =>
 .ret [.b (gb r14 0)]
theorem jbR a:j1h a=Yz a:=(jk ju 63 _ a).trans (by kernel_rfl)
noncomputable def JG (a:List DC):Out :=
 if ((gs a 1) == ([]:List UInt8))=true then
 .ret [.s ([]:List UInt8)]
 else
 (yC [.s (gs a 1)]).bindR fun r1 =>
 if (gs a 0).length + (gs r1 0).length < jF then
 if ((gs a 0) ++ (gs r1 0)).length + ([10]:List UInt8).length < jF then
 .ret [.s (((gs a 0) ++ (gs r1 0)) ++ ([10]:List UInt8))]
 else
 .fail
 else
 .fail
theorem j0y a:yX a=JG a:=(jk ju 64 _ a).trans (by kernel_rfl)
noncomputable def j8W (a:List DC):Out :=
 .ret [.sl [[DC.s ([]:List UInt8)],[DC.s ([115,99,97,108,97,114]:List UInt8)],[DC.s ([116,121,112,101]:List UInt8)],[DC.s ([105,110,116,101,114,102,97,99,101]:List UInt8)],[DC.s ([117,110,105,111,110]:List UInt8)],[DC.s ([101,110,117,109]:List UInt8)],[DC.s ([105,110,112,117,116]:List UInt8)],[DC.s ([100,105,114,101,99,116,105,118,101]:List UInt8)],[DC.s ([115,99,104,101,109,97]:List UInt8)]]]
theorem j7c a:XS a=j8W a:=(jk ju 65 _ a).trans (by kernel_rfl)
noncomputable def KW:List DC → Out:=fun v1 =>
 if (decide ((gi v1 3) < (gi v1 2)))=true then
 ja (if 104=104 ∧ 0 ≤ (gi v1 3) ∧ (gi v1 3) < ((gl v1 1).length:Int) then
 (Xk [.s ((((gl v1 1).getD (gi v1 3).toNat []).getD 0 d0).ss),.s ((((gl v1 1).getD (gi v1 3).toNat []).getD 1 d0).ss),.s ((((gl v1 1).getD (gi v1 3).toNat []).getD 2 d0).ss),.s ((((gl v1 1).getD (gi v1 3).toNat []).getD 3 d0).ss),.b ((((gl v1 1).getD (gi v1 3).toNat []).getD 4 d0).bb),.i ((((gl v1 1).getD (gi v1 3).toNat []).getD 5 d0).ii),.s ((((gl v1 1).getD (gi v1 3).toNat []).getD 6 d0).ss),.sl ((((gl v1 1).getD (gi v1 3).toNat []).getD 7 d0).ll),.sl ((((gl v1 1).getD (gi v1 3).toNat []).getD 8 d0).ll),.sl ((((gl v1 1).getD (gi v1 3).toNat []).getD 9 d0).ll)]).bindR fun r2 =>
 if (gl v1 0).length + [[DC.s (gs r2 0)]].length < jF then
 .norm [.sl ((gl v1 0) ++ [[DC.s (gs r2 0)]]),.sl (gl v1 1),.i (gi v1 2),.i (gi v1 3)]
 else
 .fail
 else
 .fail) 1 fun v3 =>
 .norm [.sl (gl v3 0),.sl (gl v3 1),.i (gi v3 2),.i (IntKind.i64.wrap ((gi v3 3) + (1:Int)))]
 else
 .ex 0 [.sl (gl v1 0)]
noncomputable def Zd (a:List DC):Out :=
 if (((gl a 0).length:Int) == (0:Int))=true then
 .ret [.s ([]:List UInt8)]
 else
 ja (jR KW [.sl [],.sl (gl a 0),.i ((gl a 0).length:Int),.i (0:Int)]) 0 fun v4 =>
 (pn [.sl (gl v4 0),.s ([44,32]:List UInt8)]).bindR fun r5 =>
 if ([40]:List UInt8).length + (gs r5 0).length < jF then
 if (([40]:List UInt8) ++ (gs r5 0)).length + ([41]:List UInt8).length < jF then
 .ret [.s ((([40]:List UInt8) ++ (gs r5 0)) ++ ([41]:List UInt8))]
 else
 .fail
 else
 .fail
theorem j8H a:Vg a=Zd a:=(jk ju 66 _ a).trans (by kernel_rfl)
noncomputable def yj:List DC → Out:=fun v1 =>
 if (decide ((gi v1 3) < (gi v1 2)))=true then
 ja (if 93=93 ∧ 0 ≤ (gi v1 3) ∧ (gi v1 3) < ((gl v1 1).length:Int) then
 (X0 [.s ((((gl v1 1).getD (gi v1 3).toNat []).getD 0 d0).ss),.s ((((gl v1 1).getD (gi v1 3).toNat []).getD 1 d0).ss),.sl ((((gl v1 1).getD (gi v1 3).toNat []).getD 2 d0).ll),.s ((((gl v1 1).getD (gi v1 3).toNat []).getD 3 d0).ss),.s ((((gl v1 1).getD (gi v1 3).toNat []).getD 4 d0).ss),.sl ((((gl v1 1).getD (gi v1 3).toNat []).getD 5 d0).ll)]).bindR fun r2 =>
 if (gs v1 0).length + (gs r2 0).length < jF then
 .norm [.s ((gs v1 0) ++ (gs r2 0)),.sl (gl v1 1),.i (gi v1 2),.i (gi v1 3),.i (gi v1 4),.b (gb v1 5),.s (gs v1 6),.s (gs v1 7),.sl (gl v1 8),.sl (gl v1 9),.sl (gl v1 10),.sl (gl v1 11),.sl (gl v1 12),.b (gb v1 13),.sl (gl v1 14)]
 else
 .fail
 else
 .fail) 1 fun v3 =>
 .norm [.s (gs v3 0),.sl (gl v3 1),.i (gi v3 2),.i (IntKind.i64.wrap ((gi v3 3) + (1:Int))),.i (gi v3 4),.b (gb v3 5),.s (gs v3 6),.s (gs v3 7),.sl (gl v3 8),.sl (gl v3 9),.sl (gl v3 10),.sl (gl v3 11),.sl (gl v3 12),.b (gb v3 13),.sl (gl v3 14)]
 else
 .ex 0 [.s (gs v1 0),.i (gi v1 4),.b (gb v1 5),.s (gs v1 6),.s (gs v1 7),.sl (gl v1 8),.sl (gl v1 9),.sl (gl v1 10),.sl (gl v1 11),.sl (gl v1 12),.b (gb v1 13),.sl (gl v1 14)]
noncomputable def yi:List DC → Out:=fun v5 =>
 if (decide ((gi v5 3) < (gi v5 2)))=true then
 ja (if 96=96 ∧ 0 ≤ (gi v5 3) ∧ (gi v5 3) < ((gl v5 1).length:Int) then
 (yX [.s ([32,32]:List UInt8),.s ((((gl v5 1).getD (gi v5 3).toNat []).getD 1 d0).ss)]).bindR fun r6 =>
 if (gs r6 0).length + ([32,32]:List UInt8).length < jF then
 if ((gs r6 0) ++ ([32,32]:List UInt8)).length + ((((gl v5 1).getD (gi v5 3).toNat []).getD 0 d0).ss).length < jF then
 (kT [.sl ((((gl v5 1).getD (gi v5 3).toNat []).getD 2 d0).ll)]).bindR fun r7 =>
 if (((gs r6 0) ++ ([32,32]:List UInt8)) ++ ((((gl v5 1).getD (gi v5 3).toNat []).getD 0 d0).ss)).length + (gs r7 0).length < jF then
 if ((((gs r6 0) ++ ([32,32]:List UInt8)) ++ ((((gl v5 1).getD (gi v5 3).toNat []).getD 0 d0).ss)) ++ (gs r7 0)).length + ([10]:List UInt8).length < jF then
 if (gs v5 0).length + (((((gs r6 0) ++ ([32,32]:List UInt8)) ++ ((((gl v5 1).getD (gi v5 3).toNat []).getD 0 d0).ss)) ++ (gs r7 0)) ++ ([10]:List UInt8)).length < jF then
 .norm [.s ((gs v5 0) ++ (((((gs r6 0) ++ ([32,32]:List UInt8)) ++ ((((gl v5 1).getD (gi v5 3).toNat []).getD 0 d0).ss)) ++ (gs r7 0)) ++ ([10]:List UInt8))),.sl (gl v5 1),.i (gi v5 2),.i (gi v5 3),.i (gi v5 4),.b (gb v5 5),.s (gs v5 6),.s (gs v5 7),.sl (gl v5 8),.sl (gl v5 9),.sl (gl v5 10),.sl (gl v5 11),.sl (gl v5 12),.b (gb v5 13),.sl (gl v5 14)]
 else
 .fail
 else
 .fail
 else
 .fail
 else
 .fail
 else
 .fail
 else
 .fail) 3 fun v8 =>
 .norm [.s (gs v8 0),.sl (gl v8 1),.i (gi v8 2),.i (IntKind.i64.wrap ((gi v8 3) + (1:Int))),.i (gi v8 4),.b (gb v8 5),.s (gs v8 6),.s (gs v8 7),.sl (gl v8 8),.sl (gl v8 9),.sl (gl v8 10),.sl (gl v8 11),.sl (gl v8 12),.b (gb v8 13),.sl (gl v8 14)]
 else
 .ex 2 [.s (gs v5 0),.i (gi v5 4),.b (gb v5 5),.s (gs v5 6),.s (gs v5 7),.sl (gl v5 8),.sl (gl v5 9),.sl (gl v5 10),.sl (gl v5 11),.sl (gl v5 12),.b (gb v5 13),.sl (gl v5 14)]
noncomputable def yh:List DC → Out:=fun v10 =>
 if (decide ((gi v10 3) < (gi v10 2)))=true then
 ja (if 98=98 ∧ 0 ≤ (gi v10 3) ∧ (gi v10 3) < ((gl v10 1).length:Int) then
 (zD [.i ((((gl v10 1).getD (gi v10 3).toNat []).getD 0 d0).ii)]).bindR fun r11 =>
 if ([32,32]:List UInt8).length + (gs r11 0).length < jF then
 if (([32,32]:List UInt8) ++ (gs r11 0)).length + ([58,32]:List UInt8).length < jF then
 if ((([32,32]:List UInt8) ++ (gs r11 0)) ++ ([58,32]:List UInt8)).length + ((((gl v10 1).getD (gi v10 3).toNat []).getD 1 d0).ss).length < jF then
 if (((([32,32]:List UInt8) ++ (gs r11 0)) ++ ([58,32]:List UInt8)) ++ ((((gl v10 1).getD (gi v10 3).toNat []).getD 1 d0).ss)).length + ([10]:List UInt8).length < jF then
 if (gs v10 0).length + ((((([32,32]:List UInt8) ++ (gs r11 0)) ++ ([58,32]:List UInt8)) ++ ((((gl v10 1).getD (gi v10 3).toNat []).getD 1 d0).ss)) ++ ([10]:List UInt8)).length < jF then
 .norm [.s ((gs v10 0) ++ ((((([32,32]:List UInt8) ++ (gs r11 0)) ++ ([58,32]:List UInt8)) ++ ((((gl v10 1).getD (gi v10 3).toNat []).getD 1 d0).ss)) ++ ([10]:List UInt8))),.sl (gl v10 1),.i (gi v10 2),.i (gi v10 3),.i (gi v10 4),.b (gb v10 5),.s (gs v10 6),.s (gs v10 7),.sl (gl v10 8),.sl (gl v10 9),.sl (gl v10 10),.sl (gl v10 11),.sl (gl v10 12),.b (gb v10 13),.sl (gl v10 14)]
 else
 .fail
 else
 .fail
 else
 .fail
 else
 .fail
 else
 .fail
 else
 .fail) 5 fun v12 =>
 .norm [.s (gs v12 0),.sl (gl v12 1),.i (gi v12 2),.i (IntKind.i64.wrap ((gi v12 3) + (1:Int))),.i (gi v12 4),.b (gb v12 5),.s (gs v12 6),.s (gs v12 7),.sl (gl v12 8),.sl (gl v12 9),.sl (gl v12 10),.sl (gl v12 11),.sl (gl v12 12),.b (gb v12 13),.sl (gl v12 14)]
 else
 .ex 4 [.s (gs v10 0),.i (gi v10 4),.b (gb v10 5),.s (gs v10 6),.s (gs v10 7),.sl (gl v10 8),.sl (gl v10 9),.sl (gl v10 10),.sl (gl v10 11),.sl (gl v10 12),.b (gb v10 13),.sl (gl v10 14)]
noncomputable def yg:List DC → Out:=fun v14 =>
 if (decide ((gi v14 3) < (gi v14 2)))=true then
 ja (if 104=104 ∧ 0 ≤ (gi v14 3) ∧ (gi v14 3) < ((gl v14 1).length:Int) then
 (Xk [.s ((((gl v14 1).getD (gi v14 3).toNat []).getD 0 d0).ss),.s ((((gl v14 1).getD (gi v14 3).toNat []).getD 1 d0).ss),.s ((((gl v14 1).getD (gi v14 3).toNat []).getD 2 d0).ss),.s ((((gl v14 1).getD (gi v14 3).toNat []).getD 3 d0).ss),.b ((((gl v14 1).getD (gi v14 3).toNat []).getD 4 d0).bb),.i ((((gl v14 1).getD (gi v14 3).toNat []).getD 5 d0).ii),.s ((((gl v14 1).getD (gi v14 3).toNat []).getD 6 d0).ss),.sl ((((gl v14 1).getD (gi v14 3).toNat []).getD 7 d0).ll),.sl ((((gl v14 1).getD (gi v14 3).toNat []).getD 8 d0).ll),.sl ((((gl v14 1).getD (gi v14 3).toNat []).getD 9 d0).ll)]).bindR fun r15 =>
 if ([32,32]:List UInt8).length + (gs r15 0).length < jF then
 if (([32,32]:List UInt8) ++ (gs r15 0)).length + ([10]:List UInt8).length < jF then
 if (gs v14 0).length + ((([32,32]:List UInt8) ++ (gs r15 0)) ++ ([10]:List UInt8)).length < jF then
 .norm [.s ((gs v14 0) ++ ((([32,32]:List UInt8) ++ (gs r15 0)) ++ ([10]:List UInt8))),.sl (gl v14 1),.i (gi v14 2),.i (gi v14 3)]
 else
 .fail
 else
 .fail
 else
 .fail
 else
 .fail) 7 fun v16 =>
 .norm [.s (gs v16 0),.sl (gl v16 1),.i (gi v16 2),.i (IntKind.i64.wrap ((gi v16 3) + (1:Int)))]
 else
 .ex 6 [.s (gs v14 0)]
noncomputable def ZL (a:List DC):Out :=
 ja (jR yj [.s ([]:List UInt8),.sl (gl a 5),.i ((gl a 5).length:Int),.i (0:Int),.i (gi a 0),.b (gb a 1),.s (gs a 2),.s (gs a 3),.sl (gl a 4),.sl (gl a 5),.sl (gl a 6),.sl (gl a 7),.sl (gl a 8),.b (gb a 9),.sl (gl a 10)]) 0 fun v4 =>
 ja (jR yi [.s (gs v4 0),.sl (gl v4 8),.i ((gl v4 8).length:Int),.i (0:Int),.i (gi v4 1),.b (gb v4 2),.s (gs v4 3),.s (gs v4 4),.sl (gl v4 5),.sl (gl v4 6),.sl (gl v4 7),.sl (gl v4 8),.sl (gl v4 9),.b (gb v4 10),.sl (gl v4 11)]) 2 fun v9 =>
 ja (jR yh [.s (gs v9 0),.sl (gl v9 9),.i ((gl v9 9).length:Int),.i (0:Int),.i (gi v9 1),.b (gb v9 2),.s (gs v9 3),.s (gs v9 4),.sl (gl v9 5),.sl (gl v9 6),.sl (gl v9 7),.sl (gl v9 8),.sl (gl v9 9),.b (gb v9 10),.sl (gl v9 11)]) 4 fun v13 =>
 jb (if ((gi v13 1) == (6:Int))=true then
 ja (jR yg [.s (gs v13 0),.sl (gl v13 7),.i ((gl v13 7).length:Int),.i (0:Int)]) 6 fun v17 =>
 .norm [.s (gs v17 0)]
 else
 .norm [.s (gs v13 0)]) fun v18 =>
 .ret [.s (gs v18 0)]
theorem j4P a:Vk a=ZL a:=(jk ju 67 _ a).trans (by kernel_rfl)
noncomputable def QO:List DC → Out:=fun v1 =>
 if (decide ((gi v1 2) < ((gl v1 0).length:Int)))=true then
 ja (if 115=115 ∧ 0 ≤ (gi v1 2) ∧ (gi v1 2) < ((gl v1 0).length:Int) then
 if 115=115 ∧ 0 ≤ (gi v1 2) ∧ (gi v1 2) < ((gl v1 1).length:Int) then
 (Qp [.s ((((gl v1 0).getD (gi v1 2).toNat []).getD 0 d0).ss),.s ((((gl v1 0).getD (gi v1 2).toNat []).getD 1 d0).ss),.s ((((gl v1 0).getD (gi v1 2).toNat []).getD 2 d0).ss),.b ((((gl v1 0).getD (gi v1 2).toNat []).getD 3 d0).bb),.i ((((gl v1 0).getD (gi v1 2).toNat []).getD 4 d0).ii),.s ((((gl v1 0).getD (gi v1 2).toNat []).getD 5 d0).ss),.sl ((((gl v1 0).getD (gi v1 2).toNat []).getD 6 d0).ll),.sl ((((gl v1 0).getD (gi v1 2).toNat []).getD 7 d0).ll),.sl ((((gl v1 0).getD (gi v1 2).toNat []).getD 8 d0).ll),.s ((((gl v1 1).getD (gi v1 2).toNat []).getD 0 d0).ss),.s ((((gl v1 1).getD (gi v1 2).toNat []).getD 1 d0).ss),.s ((((gl v1 1).getD (gi v1 2).toNat []).getD 2 d0).ss),.b ((((gl v1 1).getD (gi v1 2).toNat []).getD 3 d0).bb),.i ((((gl v1 1).getD (gi v1 2).toNat []).getD 4 d0).ii),.s ((((gl v1 1).getD (gi v1 2).toNat []).getD 5 d0).ss),.sl ((((gl v1 1).getD (gi v1 2).toNat []).getD 6 d0).ll),.sl ((((gl v1 1).getD (gi v1 2).toNat []).getD 7 d0).ll),.sl ((((gl v1 1).getD (gi v1 2).toNat []).getD 8 d0).ll)]).bindR fun r2 =>
 if (!(gb r2 0))=true then
 .ret [.b false]
 else
 .norm [.sl (gl v1 0),.sl (gl v1 1),.i (gi v1 2)]
 else
 .fail
 else
 .fail) 1 fun v3 =>
 .norm [.sl (gl v3 0),.sl (gl v3 1),.i (IntKind.i64.wrap ((gi v3 2) + (1:Int)))]
 else
 .ex 0 []
noncomputable def j0Q (a:List DC):Out :=
 if (((gl a 0).length:Int) != ((gl a 1).length:Int))=true then
 .ret [.b false]
 else
 ja (jR QO [.sl (gl a 0),.sl (gl a 1),.i (0:Int)]) 0 fun v4 =>
 .ret [.b true]
theorem j5H a:KG a=j0Q a:=(jk ju 68 _ a).trans (by kernel_rfl)
noncomputable def Y8:List DC → Out:=fun v1 =>
 if (decide ((gi v1 2) < ((gl v1 0).length:Int)))=true then
 ja (if 166=166 ∧ 0 ≤ (gi v1 2) ∧ (gi v1 2) < ((gl v1 0).length:Int) then
 if 166=166 ∧ 0 ≤ (gi v1 2) ∧ (gi v1 2) < ((gl v1 1).length:Int) then
 (Yo [.s ((((gl v1 0).getD (gi v1 2).toNat []).getD 0 d0).ss),.sl ((((gl v1 0).getD (gi v1 2).toNat []).getD 1 d0).ll),.s ((((gl v1 1).getD (gi v1 2).toNat []).getD 0 d0).ss),.sl ((((gl v1 1).getD (gi v1 2).toNat []).getD 1 d0).ll)]).bindR fun r2 =>
 if (!(gb r2 0))=true then
 .ret [.b false]
 else
 .norm [.sl (gl v1 0),.sl (gl v1 1),.i (gi v1 2)]
 else
 .fail
 else
 .fail) 1 fun v3 =>
 .norm [.sl (gl v3 0),.sl (gl v3 1),.i (IntKind.i64.wrap ((gi v3 2) + (1:Int)))]
 else
 .ex 0 []
noncomputable def j4g (a:List DC):Out :=
 if (((gl a 0).length:Int) != ((gl a 1).length:Int))=true then
 .ret [.b false]
 else
 ja (jR Y8 [.sl (gl a 0),.sl (gl a 1),.i (0:Int)]) 0 fun v4 =>
 .ret [.b true]
theorem jaA a:pO a=j4g a:=(jk ju 69 _ a).trans (by kernel_rfl)
noncomputable def Y7:List DC → Out:=fun v1 =>
 if (decide ((gi v1 2) < ((gl v1 0).length:Int)))=true then
 ja (if 162=162 ∧ 0 ≤ (gi v1 2) ∧ (gi v1 2) < ((gl v1 0).length:Int) then
 if 162=162 ∧ 0 ≤ (gi v1 2) ∧ (gi v1 2) < ((gl v1 1).length:Int) then
 (Yn [.i ((((gl v1 0).getD (gi v1 2).toNat []).getD 0 d0).ii),.s ((((gl v1 0).getD (gi v1 2).toNat []).getD 1 d0).ss),.s ((((gl v1 0).getD (gi v1 2).toNat []).getD 2 d0).ss),.s ((((gl v1 0).getD (gi v1 2).toNat []).getD 3 d0).ss),.sl ((((gl v1 0).getD (gi v1 2).toNat []).getD 4 d0).ll),.sl ((((gl v1 0).getD (gi v1 2).toNat []).getD 5 d0).ll),.sl ((((gl v1 0).getD (gi v1 2).toNat []).getD 6 d0).ll),.i ((((gl v1 1).getD (gi v1 2).toNat []).getD 0 d0).ii),.s ((((gl v1 1).getD (gi v1 2).toNat []).getD 1 d0).ss),.s ((((gl v1 1).getD (gi v1 2).toNat []).getD 2 d0).ss),.s ((((gl v1 1).getD (gi v1 2).toNat []).getD 3 d0).ss),.sl ((((gl v1 1).getD (gi v1 2).toNat []).getD 4 d0).ll),.sl ((((gl v1 1).getD (gi v1 2).toNat []).getD 5 d0).ll),.sl ((((gl v1 1).getD (gi v1 2).toNat []).getD 6 d0).ll)]).bindR fun r2 =>
 if (!(gb r2 0))=true then
 .ret [.b false]
 else
 .norm [.sl (gl v1 0),.sl (gl v1 1),.i (gi v1 2)]
 else
 .fail
 else
 .fail) 1 fun v3 =>
 .norm [.sl (gl v3 0),.sl (gl v3 1),.i (IntKind.i64.wrap ((gi v3 2) + (1:Int)))]
 else
 .ex 0 []
noncomputable def j4c (a:List DC):Out :=
 if (((gl a 0).length:Int) != ((gl a 1).length:Int))=true then
 .ret [.b false]
 else
 ja (jR Y7 [.sl (gl a 0),.sl (gl a 1),.i (0:Int)]) 0 fun v4 =>
 .ret [.b true]
theorem jaw a:JL a=j4c a:=(jk ju 70 _ a).trans (by kernel_rfl)
noncomputable def QP:List DC → Out:=fun v1 =>
 if (decide ((gi v1 2) < ((gl v1 0).length:Int)))=true then
 ja (if 9=9 ∧ 0 ≤ (gi v1 2) ∧ (gi v1 2) < ((gl v1 0).length:Int) then
 if 9=9 ∧ 0 ≤ (gi v1 2) ∧ (gi v1 2) < ((gl v1 1).length:Int) then
 if (!((((gl v1 0).getD (gi v1 2).toNat []).getD 0 d0).ss == (((gl v1 1).getD (gi v1 2).toNat []).getD 0 d0).ss))=true then
 .ret [.b false]
 else
 .norm [.sl (gl v1 0),.sl (gl v1 1),.i (gi v1 2)]
 else
 .fail
 else
 .fail) 1 fun v2 =>
 .norm [.sl (gl v2 0),.sl (gl v2 1),.i (IntKind.i64.wrap ((gi v2 2) + (1:Int)))]
 else
 .ex 0 []
noncomputable def j0R (a:List DC):Out :=
 if (((gl a 0).length:Int) != ((gl a 1).length:Int))=true then
 .ret [.b false]
 else
 ja (jR QP [.sl (gl a 0),.sl (gl a 1),.i (0:Int)]) 0 fun v3 =>
 .ret [.b true]
theorem j5I a:KH a=j0R a:=(jk ju 71 _ a).trans (by kernel_rfl)
noncomputable def Kt:List DC → Out:=fun v1 =>
 if (decide ((gi v1 2) < ((gl v1 0).length:Int)))=true then
 ja (if 93=93 ∧ 0 ≤ (gi v1 2) ∧ (gi v1 2) < ((gl v1 0).length:Int) then
 if 93=93 ∧ 0 ≤ (gi v1 2) ∧ (gi v1 2) < ((gl v1 1).length:Int) then
 (K2 [.s ((((gl v1 0).getD (gi v1 2).toNat []).getD 0 d0).ss),.s ((((gl v1 0).getD (gi v1 2).toNat []).getD 1 d0).ss),.sl ((((gl v1 0).getD (gi v1 2).toNat []).getD 2 d0).ll),.s ((((gl v1 0).getD (gi v1 2).toNat []).getD 3 d0).ss),.s ((((gl v1 0).getD (gi v1 2).toNat []).getD 4 d0).ss),.sl ((((gl v1 0).getD (gi v1 2).toNat []).getD 5 d0).ll),.s ((((gl v1 1).getD (gi v1 2).toNat []).getD 0 d0).ss),.s ((((gl v1 1).getD (gi v1 2).toNat []).getD 1 d0).ss),.sl ((((gl v1 1).getD (gi v1 2).toNat []).getD 2 d0).ll),.s ((((gl v1 1).getD (gi v1 2).toNat []).getD 3 d0).ss),.s ((((gl v1 1).getD (gi v1 2).toNat []).getD 4 d0).ss),.sl ((((gl v1 1).getD (gi v1 2).toNat []).getD 5 d0).ll)]).bindR fun r2 =>
 if (!(gb r2 0))=true then
 .ret [.b false]
 else
 .norm [.sl (gl v1 0),.sl (gl v1 1),.i (gi v1 2)]
 else
 .fail
 else
 .fail) 1 fun v3 =>
 .norm [.sl (gl v3 0),.sl (gl v3 1),.i (IntKind.i64.wrap ((gi v3 2) + (1:Int)))]
 else
 .ex 0 []
noncomputable def Zc (a:List DC):Out :=
 if (((gl a 0).length:Int) != ((gl a 1).length:Int))=true then
 .ret [.b false]
 else
 ja (jR Kt [.sl (gl a 0),.sl (gl a 1),.i (0:Int)]) 0 fun v4 =>
 .ret [.b true]
theorem j3q a:Jg a=Zc a:=(jk ju 72 _ a).trans (by kernel_rfl)
noncomputable def VJ:List DC → Out:=fun v1 =>
 if (decide ((gi v1 2) < ((gl v1 0).length:Int)))=true then
 ja (if 104=104 ∧ 0 ≤ (gi v1 2) ∧ (gi v1 2) < ((gl v1 0).length:Int) then
 if 104=104 ∧ 0 ≤ (gi v1 2) ∧ (gi v1 2) < ((gl v1 1).length:Int) then
 (Vd [.s ((((gl v1 0).getD (gi v1 2).toNat []).getD 0 d0).ss),.s ((((gl v1 0).getD (gi v1 2).toNat []).getD 1 d0).ss),.s ((((gl v1 0).getD (gi v1 2).toNat []).getD 2 d0).ss),.s ((((gl v1 0).getD (gi v1 2).toNat []).getD 3 d0).ss),.b ((((gl v1 0).getD (gi v1 2).toNat []).getD 4 d0).bb),.i ((((gl v1 0).getD (gi v1 2).toNat []).getD 5 d0).ii),.s ((((gl v1 0).getD (gi v1 2).toNat []).getD 6 d0).ss),.sl ((((gl v1 0).getD (gi v1 2).toNat []).getD 7 d0).ll),.sl ((((gl v1 0).getD (gi v1 2).toNat []).getD 8 d0).ll),.sl ((((gl v1 0).getD (gi v1 2).toNat []).getD 9 d0).ll),.s ((((gl v1 1).getD (gi v1 2).toNat []).getD 0 d0).ss),.s ((((gl v1 1).getD (gi v1 2).toNat []).getD 1 d0).ss),.s ((((gl v1 1).getD (gi v1 2).toNat []).getD 2 d0).ss),.s ((((gl v1 1).getD (gi v1 2).toNat []).getD 3 d0).ss),.b ((((gl v1 1).getD (gi v1 2).toNat []).getD 4 d0).bb),.i ((((gl v1 1).getD (gi v1 2).toNat []).getD 5 d0).ii),.s ((((gl v1 1).getD (gi v1 2).toNat []).getD 6 d0).ss),.sl ((((gl v1 1).getD (gi v1 2).toNat []).getD 7 d0).ll),.sl ((((gl v1 1).getD (gi v1 2).toNat []).getD 8 d0).ll),.sl ((((gl v1 1).getD (gi v1 2).toNat []).getD 9 d0).ll)]).bindR fun r2 =>
 if (!(gb r2 0))=true then
 .ret [.b false]
 else
 .norm [.sl (gl v1 0),.sl (gl v1 1),.i (gi v1 2)]
 else
 .fail
 else
 .fail) 1 fun v3 =>
 .norm [.sl (gl v3 0),.sl (gl v3 1),.i (IntKind.i64.wrap ((gi v3 2) + (1:Int)))]
 else
 .ex 0 []
noncomputable def j1T (a:List DC):Out :=
 if (((gl a 0).length:Int) != ((gl a 1).length:Int))=true then
 .ret [.b false]
 else
 ja (jR VJ [.sl (gl a 0),.sl (gl a 1),.i (0:Int)]) 0 fun v4 =>
 .ret [.b true]
theorem j78 a:Jy a=j1T a:=(jk ju 73 _ a).trans (by kernel_rfl)
noncomputable def Q7:List DC → Out:=fun v1 =>
 if (decide ((gi v1 2) < ((gl v1 0).length:Int)))=true then
 ja (if 96=96 ∧ 0 ≤ (gi v1 2) ∧ (gi v1 2) < ((gl v1 0).length:Int) then
 if 96=96 ∧ 0 ≤ (gi v1 2) ∧ (gi v1 2) < ((gl v1 1).length:Int) then
 (KI [.s ((((gl v1 0).getD (gi v1 2).toNat []).getD 0 d0).ss),.s ((((gl v1 0).getD (gi v1 2).toNat []).getD 1 d0).ss),.sl ((((gl v1 0).getD (gi v1 2).toNat []).getD 2 d0).ll),.s ((((gl v1 1).getD (gi v1 2).toNat []).getD 0 d0).ss),.s ((((gl v1 1).getD (gi v1 2).toNat []).getD 1 d0).ss),.sl ((((gl v1 1).getD (gi v1 2).toNat []).getD 2 d0).ll)]).bindR fun r2 =>
 if (!(gb r2 0))=true then
 .ret [.b false]
 else
 .norm [.sl (gl v1 0),.sl (gl v1 1),.i (gi v1 2)]
 else
 .fail
 else
 .fail) 1 fun v3 =>
 .norm [.sl (gl v3 0),.sl (gl v3 1),.i (IntKind.i64.wrap ((gi v3 2) + (1:Int)))]
 else
 .ex 0 []
noncomputable def ZJ (a:List DC):Out :=
 if (((gl a 0).length:Int) != ((gl a 1).length:Int))=true then
 .ret [.b false]
 else
 ja (jR Q7 [.sl (gl a 0),.sl (gl a 1),.i (0:Int)]) 0 fun v4 =>
 .ret [.b true]
theorem j4M a:K3 a=ZJ a:=(jk ju 74 _ a).trans (by kernel_rfl)
noncomputable def X7:List DC → Out:=fun v1 =>
 if (decide ((gi v1 2) < ((gl v1 0).length:Int)))=true then
 ja (if 98=98 ∧ 0 ≤ (gi v1 2) ∧ (gi v1 2) < ((gl v1 0).length:Int) then
 if 98=98 ∧ 0 ≤ (gi v1 2) ∧ (gi v1 2) < ((gl v1 1).length:Int) then
 (Xi [.i ((((gl v1 0).getD (gi v1 2).toNat []).getD 0 d0).ii),.s ((((gl v1 0).getD (gi v1 2).toNat []).getD 1 d0).ss),.i ((((gl v1 1).getD (gi v1 2).toNat []).getD 0 d0).ii),.s ((((gl v1 1).getD (gi v1 2).toNat []).getD 1 d0).ss)]).bindR fun r2 =>
 if (!(gb r2 0))=true then
 .ret [.b false]
 else
 .norm [.sl (gl v1 0),.sl (gl v1 1),.i (gi v1 2)]
 else
 .fail
 else
 .fail) 1 fun v3 =>
 .norm [.sl (gl v3 0),.sl (gl v3 1),.i (IntKind.i64.wrap ((gi v3 2) + (1:Int)))]
 else
 .ex 0 []
noncomputable def j2T (a:List DC):Out :=
 if (((gl a 0).length:Int) != ((gl a 1).length:Int))=true then
 .ret [.b false]
 else
 ja (jR X7 [.sl (gl a 0),.sl (gl a 1),.i (0:Int)]) 0 fun v4 =>
 .ret [.b true]
theorem j8D a:Vc a=j2T a:=(jk ju 75 _ a).trans (by kernel_rfl)
noncomputable def j1O (a:List DC):Out :=
 if (decide ((IntKind.i64.wrap ((gi a 9) - ((gs a 0).length:Int))) < (0:Int)))=true then
 .ret [.i (-1:Int)]
 else
 (Qc [.s (gs a 1),.s (gs a 2),.i (IntKind.i64.wrap ((gi a 9) - ((gs a 0).length:Int)))]).bindR fun r1 =>
 if (decide ((gi r1 0) < (0:Int)))=true then
 .ret [.i (-1:Int)]
 else
 (yA [.i (gi a 4),.s (gs a 5),.sl (gl a 6),.sl (gl a 7),.i (gi r1 0)]).bindR fun r2 =>
 if (decide ((gi r2 0) < (0:Int)))=true then
 .ret [.i (-1:Int)]
 else
 (pN [.sl (gl a 8),.i (gi r2 0)]).bindR fun r3 =>
 if (decide ((gi r3 0) < (0:Int)))=true then
 .ret [.i (-1:Int)]
 else
 .ret [.i (gi r3 0)]
theorem j73 a:Qo a=j1O a:=(jk ju 76 _ a).trans (by kernel_rfl)
noncomputable def j6l (a:List DC):Out :=
 if (decide ((IntKind.i64.wrap ((gi a 2) - ((gs a 0).length:Int))) < (0:Int)))=true then
 .ret [.i (-1:Int)]
 else
 (Qd [.sl (gl a 1),.i (IntKind.i64.wrap ((gi a 2) - ((gs a 0).length:Int)))]).bindR fun r1 =>
 if (decide ((gi r1 0) < (0:Int)))=true then
 .ret [.i (-1:Int)]
 else
 .ret [.i (gi r1 0)]
theorem jbH a:Yl a=j6l a:=(jk ju 77 _ a).trans (by kernel_rfl)
noncomputable def j6k (a:List DC):Out :=
 if (decide ((IntKind.i64.wrap ((gi a 7) - ((gs a 1).length:Int))) < (0:Int)))=true then
 .ret [.i (-1:Int)]
 else
 if (decide ((IntKind.i64.wrap ((IntKind.i64.wrap ((gi a 7) - ((gs a 1).length:Int))) - ((gs a 2).length:Int))) < (0:Int)))=true then
 .ret [.i (-1:Int)]
 else
 if (decide ((IntKind.i64.wrap ((IntKind.i64.wrap ((IntKind.i64.wrap ((gi a 7) - ((gs a 1).length:Int))) - ((gs a 2).length:Int))) - ((gs a 3).length:Int))) < (0:Int)))=true then
 .ret [.i (-1:Int)]
 else
 (Qd [.sl (gl a 4),.i (IntKind.i64.wrap ((IntKind.i64.wrap ((IntKind.i64.wrap ((gi a 7) - ((gs a 1).length:Int))) - ((gs a 2).length:Int))) - ((gs a 3).length:Int)))]).bindR fun r1 =>
 if (decide ((gi r1 0) < (0:Int)))=true then
 .ret [.i (-1:Int)]
 else
 (pN [.sl (gl a 5),.i (gi r1 0)]).bindR fun r2 =>
 if (decide ((gi r2 0) < (0:Int)))=true then
 .ret [.i (-1:Int)]
 else
 (JK [.sl (gl a 6),.i (gi r2 0)]).bindR fun r3 =>
 if (decide ((gi r3 0) < (0:Int)))=true then
 .ret [.i (-1:Int)]
 else
 .ret [.i (gi r3 0)]
theorem jbG a:Yk a=j6k a:=(jk ju 78 _ a).trans (by kernel_rfl)
noncomputable def ZG (a:List DC):Out :=
 if (decide ((IntKind.i64.wrap ((gi a 6) - ((gs a 0).length:Int))) < (0:Int)))=true then
 .ret [.i (-1:Int)]
 else
 if (decide ((IntKind.i64.wrap ((IntKind.i64.wrap ((gi a 6) - ((gs a 0).length:Int))) - ((gs a 1).length:Int))) < (0:Int)))=true then
 .ret [.i (-1:Int)]
 else
 (Jx [.sl (gl a 2),.i (IntKind.i64.wrap ((IntKind.i64.wrap ((gi a 6) - ((gs a 0).length:Int))) - ((gs a 1).length:Int)))]).bindR fun r1 =>
 if (decide ((gi r1 0) < (0:Int)))=true then
 .ret [.i (-1:Int)]
 else
 (Qc [.s (gs a 3),.s (gs a 4),.i (gi r1 0)]).bindR fun r2 =>
 if (decide ((gi r2 0) < (0:Int)))=true then
 .ret [.i (-1:Int)]
 else
 (pN [.sl (gl a 5),.i (gi r2 0)]).bindR fun r3 =>
 if (decide ((gi r3 0) < (0:Int)))=true then
 .ret [.i (-1:Int)]
 else
 .ret [.i (gi r3 0)]
theorem j4J a:JZ a=ZG a:=(jk ju 79 _ a).trans (by kernel_rfl)
noncomputable def j2R (a:List DC):Out :=
 if (decide ((IntKind.i64.wrap ((gi a 10) - ((gs a 0).length:Int))) < (0:Int)))=true then
 .ret [.i (-1:Int)]
 else
 if (decide ((IntKind.i64.wrap ((IntKind.i64.wrap ((gi a 10) - ((gs a 0).length:Int))) - ((gs a 1).length:Int))) < (0:Int)))=true then
 .ret [.i (-1:Int)]
 else
 (Qc [.s (gs a 2),.s (gs a 3),.i (IntKind.i64.wrap ((IntKind.i64.wrap ((gi a 10) - ((gs a 0).length:Int))) - ((gs a 1).length:Int)))]).bindR fun r1 =>
 if (decide ((gi r1 0) < (0:Int)))=true then
 .ret [.i (-1:Int)]
 else
 (yA [.i (gi a 5),.s (gs a 6),.sl (gl a 7),.sl (gl a 8),.i (gi r1 0)]).bindR fun r2 =>
 if (decide ((gi r2 0) < (0:Int)))=true then
 .ret [.i (-1:Int)]
 else
 (pN [.sl (gl a 9),.i (gi r2 0)]).bindR fun r3 =>
 if (decide ((gi r3 0) < (0:Int)))=true then
 .ret [.i (-1:Int)]
 else
 .ret [.i (gi r3 0)]
theorem j8B a:Vb a=j2R a:=(jk ju 80 _ a).trans (by kernel_rfl)
noncomputable def j0P (a:List DC):Out :=
 if (decide ((IntKind.i64.wrap ((gi a 3) - ((gs a 0).length:Int))) < (0:Int)))=true then
 .ret [.i (-1:Int)]
 else
 if (decide ((IntKind.i64.wrap ((IntKind.i64.wrap ((gi a 3) - ((gs a 0).length:Int))) - ((gs a 1).length:Int))) < (0:Int)))=true then
 .ret [.i (-1:Int)]
 else
 (pN [.sl (gl a 2),.i (IntKind.i64.wrap ((IntKind.i64.wrap ((gi a 3) - ((gs a 0).length:Int))) - ((gs a 1).length:Int)))]).bindR fun r1 =>
 if (decide ((gi r1 0) < (0:Int)))=true then
 .ret [.i (-1:Int)]
 else
 .ret [.i (gi r1 0)]
theorem j5G a:KF a=j0P a:=(jk ju 81 _ a).trans (by kernel_rfl)
noncomputable def j46 (a:List DC):Out :=
 if (decide ((IntKind.i64.wrap ((gi a 2) - ((gs a 1).length:Int))) < (0:Int)))=true then
 .ret [.i (-1:Int)]
 else
 .ret [.i (IntKind.i64.wrap ((gi a 2) - ((gs a 1).length:Int)))]
theorem jaq a:Xh a=j46 a:=(jk ju 82 _ a).trans (by kernel_rfl)
noncomputable def j1L (a:List DC):Out :=
 (Q9 [.s (gs a 1),.s (gs a 2)]).bindR fun r1 =>
 (yz [.i (gi a 4),.s (gs a 5),.sl (gl a 6),.sl (gl a 7)]).bindR fun r2 =>
 (pM [.sl (gl a 8)]).bindR fun r3 =>
 .ret [.s (gs a 0),.s (gs r1 0),.s (gs r1 1),.b (gb a 3),.i (gi r2 0),.s (gs r2 1),.sl (gl r2 2),.sl (gl r2 3),.sl (gl r3 0)]
theorem j70 a:Qn a=j1L a:=(jk ju 101 _ a).trans (by kernel_rfl)
noncomputable def j6h (a:List DC):Out :=
 (Qb [.sl (gl a 1)]).bindR fun r1 =>
 .ret [.s (gs a 0),.sl (gl r1 0)]
theorem jbD a:Yi a=j6h a:=(jk ju 102 _ a).trans (by kernel_rfl)
noncomputable def j6g (a:List DC):Out :=
 (Qb [.sl (gl a 4)]).bindR fun r1 =>
 (pM [.sl (gl a 5)]).bindR fun r2 =>
 (JJ [.sl (gl a 6)]).bindR fun r3 =>
 .ret [.i (gi a 0),.s (gs a 1),.s (gs a 2),.s (gs a 3),.sl (gl r1 0),.sl (gl r2 0),.sl (gl r3 0)]
theorem jbC a:Yh a=j6g a:=(jk ju 103 _ a).trans (by kernel_rfl)
noncomputable def ZE (a:List DC):Out :=
 (Jw [.sl (gl a 2)]).bindR fun r1 =>
 (Q9 [.s (gs a 3),.s (gs a 4)]).bindR fun r2 =>
 (pM [.sl (gl a 5)]).bindR fun r3 =>
 .ret [.s (gs a 0),.s (gs a 1),.sl (gl r1 0),.s (gs r2 0),.s (gs r2 1),.sl (gl r3 0)]
theorem j4H a:JX a=ZE a:=(jk ju 104 _ a).trans (by kernel_rfl)
noncomputable def j2O (a:List DC):Out :=
 (Q9 [.s (gs a 2),.s (gs a 3)]).bindR fun r1 =>
 (yz [.i (gi a 5),.s (gs a 6),.sl (gl a 7),.sl (gl a 8)]).bindR fun r2 =>
 (pM [.sl (gl a 9)]).bindR fun r3 =>
 .ret [.s (gs a 0),.s (gs a 1),.s (gs r1 0),.s (gs r1 1),.b (gb a 4),.i (gi r2 0),.s (gs r2 1),.sl (gl r2 2),.sl (gl r2 3),.sl (gl r3 0)]
theorem j8y a:V9 a=j2O a:=(jk ju 105 _ a).trans (by kernel_rfl)
noncomputable def j0M (a:List DC):Out :=
 (pM [.sl (gl a 2)]).bindR fun r1 =>
 .ret [.s (gs a 0),.s (gs a 1),.sl (gl r1 0)]
theorem j5D a:KB a=j0M a:=(jk ju 106 _ a).trans (by kernel_rfl)
noncomputable def j3Z (a:List DC):Out :=
 .ret [.i (gi a 0),.s (gs a 1)]
theorem jaj a:Xg a=j3Z a:=(jk ju 107 _ a).trans (by kernel_rfl)
noncomputable def Qx:List DC → Out:=fun v3 =>
 if (decide ((gi v3 1) < ((gs v3 0).length:Int)))=true then
 ja (jb (if 0 ≤ (gi v3 1) ∧ (gi v3 1) < ((gs v3 0).length:Int) then
 (VU [.i (((gs v3 0).getD (gi v3 1).toNat 0).toNat:Int)]).bindR fun r4 =>
 if (!(gb r4 0))=true then
 if 0 ≤ (gi v3 1) ∧ (gi v3 1) < ((gs v3 0).length:Int) then
 (zW [.i (((gs v3 0).getD (gi v3 1).toNat 0).toNat:Int)]).bindR fun r5 =>
 .norm [.s (gs v3 0),.i (gi v3 1),.b (!(gb r5 0))]
 else
 .fail
 else
 .norm [.s (gs v3 0),.i (gi v3 1),.b false]
 else
 .fail) fun v6 =>
 if (gb v6 2)=true then
 .ret [.b false]
 else
 .norm [.s (gs v6 0),.i (gi v6 1)]) 1 fun v7 =>
 .norm [.s (gs v7 0),.i (IntKind.i64.wrap ((gi v7 1) + (1:Int)))]
 else
 .ex 0 []
noncomputable def j0j (a:List DC):Out :=
 jb (if (((gs a 0).length:Int) == (0:Int))=true then
 .norm [.s (gs a 0),.b true]
 else
 if (decide (((gs a 0).length:Int) > (30:Int)))=true then
 .norm [.s (gs a 0),.b true]
 else
 if 0 ≤ (0:Int) ∧ (0:Int) < ((gs a 0).length:Int) then
 (zW [.i (((gs a 0).getD (0:Int).toNat 0).toNat:Int)]).bindR fun r1 =>
 .norm [.s (gs a 0),.b (gb r1 0)]
 else
 .fail) fun v2 =>
 if (gb v2 1)=true then
 .ret [.b false]
 else
 ja (jR Qx [.s (gs v2 0),.i (0:Int)]) 0 fun v8 =>
 .ret [.b true]
theorem jad a:kg a=j0j a:=(jk ju 83 _ a).trans (by kernel_rfl)
noncomputable def XZ:List DC → Out:=fun v1 =>
 if (decide ((gi v1 1) < ((gl v1 0).length:Int)))=true then
 ja (jb (if 166=166 ∧ 0 ≤ (gi v1 1) ∧ (gi v1 1) < ((gl v1 0).length:Int) then
 (kg [.s ((((gl v1 0).getD (gi v1 1).toNat []).getD 0 d0).ss)]).bindR fun r2 =>
 if (!(gb r2 0))=true then
 .norm [.sl (gl v1 0),.i (gi v1 1),.b true]
 else
 if 166=166 ∧ 0 ≤ (gi v1 1) ∧ (gi v1 1) < ((gl v1 0).length:Int) then
 (Xf [.sl ((((gl v1 0).getD (gi v1 1).toNat []).getD 1 d0).ll)]).bindR fun r3 =>
 .norm [.sl (gl v1 0),.i (gi v1 1),.b (!(gb r3 0))]
 else
 .fail
 else
 .fail) fun v4 =>
 if (gb v4 2)=true then
 .ret [.b false]
 else
 .norm [.sl (gl v4 0),.i (gi v4 1)]) 1 fun v5 =>
 .norm [.sl (gl v5 0),.i (IntKind.i64.wrap ((gi v5 1) + (1:Int)))]
 else
 .ex 0 []
noncomputable def j3V (a:List DC):Out :=
 ja (jR XZ [.sl (gl a 0),.i (0:Int)]) 0 fun v6 =>
 .ret [.b true]
theorem jaf a:zC a=j3V a:=(jk ju 84 _ a).trans (by kernel_rfl)
noncomputable def j1H (a:List DC):Out :=
 jb ((kg [.s (gs a 0)]).bindR fun r1 =>
 if (gb r1 0)=true then
 (JI [.s (gs a 1),.s (gs a 2)]).bindR fun r2 =>
 if (gb r2 0)=true then
 (JW [.b (gb a 3),.i (gi a 4),.s (gs a 5),.sl (gl a 6),.sl (gl a 7)]).bindR fun r3 =>
 if (gb r3 0)=true then
 (pe [.sl (gl a 8)]).bindR fun r4 =>
 .norm [.b (gb r4 0)]
 else
 .norm [.b false]
 else
 .norm [.b false]
 else
 .norm [.b false]) fun v5 =>
 .ret [.b (gb v5 0)]
theorem j6V a:XL a=j1H a:=(jk ju 85 _ a).trans (by kernel_rfl)
noncomputable def J4:List DC → Out:=fun v1 =>
 jb (if (decide ((gi v1 2) < ((gl v1 0).length:Int)))=true then
 .norm [.sl (gl v1 0),.i (gi v1 1),.i (gi v1 2),.b (decide ((gi v1 1) ≥ (0:Int)))]
 else
 .norm [.sl (gl v1 0),.i (gi v1 1),.i (gi v1 2),.b false]) fun v2 =>
 if (gb v2 3)=true then
 ja (if 162=162 ∧ 0 ≤ (gi v2 2) ∧ (gi v2 2) < ((gl v2 0).length:Int) then
 (Ju [.i ((((gl v2 0).getD (gi v2 2).toNat []).getD 0 d0).ii),.s ((((gl v2 0).getD (gi v2 2).toNat []).getD 1 d0).ss),.s ((((gl v2 0).getD (gi v2 2).toNat []).getD 2 d0).ss),.s ((((gl v2 0).getD (gi v2 2).toNat []).getD 3 d0).ss),.sl ((((gl v2 0).getD (gi v2 2).toNat []).getD 4 d0).ll),.sl ((((gl v2 0).getD (gi v2 2).toNat []).getD 5 d0).ll),.sl ((((gl v2 0).getD (gi v2 2).toNat []).getD 6 d0).ll),.i (gi v2 1)]).bindR fun r3 =>
 .norm [.sl (gl v2 0),.i (gi r3 0),.i (gi v2 2)]
 else
 .fail) 1 fun v4 =>
 .norm [.sl (gl v4 0),.i (gi v4 1),.i (IntKind.i64.wrap ((gi v4 2) + (1:Int)))]
 else
 .ex 0 [.sl (gl v2 0),.i (gi v2 1)]
noncomputable def J3:List DC → Out:=fun v6 =>
 jb (if (decide ((gi v6 2) < ((gl v6 0).length:Int)))=true then
 .norm [.sl (gl v6 0),.i (gi v6 1),.i (gi v6 2),.b (decide ((gi v6 1) ≥ (0:Int)))]
 else
 .norm [.sl (gl v6 0),.i (gi v6 1),.i (gi v6 2),.b false]) fun v7 =>
 if (gb v7 3)=true then
 ja (if 162=162 ∧ 0 ≤ (gi v7 2) ∧ (gi v7 2) < ((gl v7 0).length:Int) then
 (qC [.i ((((gl v7 0).getD (gi v7 2).toNat []).getD 0 d0).ii),.s ((((gl v7 0).getD (gi v7 2).toNat []).getD 1 d0).ss),.s ((((gl v7 0).getD (gi v7 2).toNat []).getD 2 d0).ss),.s ((((gl v7 0).getD (gi v7 2).toNat []).getD 3 d0).ss),.sl ((((gl v7 0).getD (gi v7 2).toNat []).getD 4 d0).ll),.sl ((((gl v7 0).getD (gi v7 2).toNat []).getD 5 d0).ll),.sl ((((gl v7 0).getD (gi v7 2).toNat []).getD 6 d0).ll),.i (10:Int)]).bindR fun r8 =>
 if (!(gb r8 0))=true then
 .ret [.b false]
 else
 .norm [.sl (gl v7 0),.i (gi v7 1),.i (gi v7 2)]
 else
 .fail) 3 fun v9 =>
 .norm [.sl (gl v9 0),.i (gi v9 1),.i (IntKind.i64.wrap ((gi v9 2) + (1:Int)))]
 else
 .ex 2 [.i (gi v7 1)]
noncomputable def j6d (a:List DC):Out :=
 ja (jR J4 [.sl (gl a 0),.i (120:Int),.i (0:Int)]) 0 fun v5 =>
 ja (jR J3 [.sl (gl v5 0),.i (gi v5 1),.i (0:Int)]) 2 fun v10 =>
 .ret [.b (decide ((gi v10 0) ≥ (0:Int)))]
theorem jby a:Yg a=j6d a:=(jk ju 86 _ a).trans (by kernel_rfl)
noncomputable def Jr:List DC → Out:=fun v1 =>
 if (decide ((gi v1 2) < (IntKind.i64.wrap ((2:Int) * (gi v1 1)))))=true then
 ja (if (gl v1 0).length + [[DC.i (32:Int)]].length < jF then
 .norm [.sl ((gl v1 0) ++ [[DC.i (32:Int)]]),.i (gi v1 1),.i (gi v1 2)]
 else
 .fail) 1 fun v2 =>
 .norm [.sl (gl v2 0),.i (gi v2 1),.i (IntKind.i64.wrap ((gi v2 2) + (1:Int)))]
 else
 .ex 0 [.sl (gl v1 0)]
noncomputable def j0F (a:List DC):Out :=
 ja (jR Jr [.sl (gl a 0),.i (gi a 1),.i (0:Int)]) 0 fun v3 =>
 .ret [.sl (gl v3 0)]
theorem j5w a:Kx a=j0F a:=(jk ju 87 _ a).trans (by kernel_rfl)
noncomputable def JE:List DC → Out:=fun v1 =>
 if (decide ((gi v1 2) < ((gl v1 1).length:Int)))=true then
 ja (jb (if ((gi v1 2) == (0:Int))=true then
 if (gl v1 0).length + [[DC.i (40:Int)]].length < jF then
 .norm [.sl ((gl v1 0) ++ [[DC.i (40:Int)]]),.sl (gl v1 1),.i (gi v1 2)]
 else
 .fail
 else
 if (gl v1 0).length + [[DC.i (44:Int)],[DC.i (32:Int)]].length < jF then
 .norm [.sl ((gl v1 0) ++ [[DC.i (44:Int)],[DC.i (32:Int)]]),.sl (gl v1 1),.i (gi v1 2)]
 else
 .fail) fun v2 =>
 if 211=211 ∧ 0 ≤ (gi v2 2) ∧ (gi v2 2) < ((gl v2 1).length:Int) then
 if (gl v2 0).length + (jo ((((gl v2 1).getD (gi v2 2).toNat []).getD 0 d0).ss)).length < jF then
 if ((gl v2 0) ++ (jo ((((gl v2 1).getD (gi v2 2).toNat []).getD 0 d0).ss))).length + [[DC.i (58:Int)],[DC.i (32:Int)]].length < jF then
 if 211=211 ∧ 0 ≤ (gi v2 2) ∧ (gi v2 2) < ((gl v2 1).length:Int) then
 (zA [.sl (((gl v2 0) ++ (jo ((((gl v2 1).getD (gi v2 2).toNat []).getD 0 d0).ss))) ++ [[DC.i (58:Int)],[DC.i (32:Int)]]),.i ((((gl v2 1).getD (gi v2 2).toNat []).getD 1 d0).ii),.s ((((gl v2 1).getD (gi v2 2).toNat []).getD 2 d0).ss),.sl ((((gl v2 1).getD (gi v2 2).toNat []).getD 3 d0).ll),.sl ((((gl v2 1).getD (gi v2 2).toNat []).getD 4 d0).ll)]).bindR fun r3 =>
 .norm [.sl (gl r3 0),.sl (gl v2 1),.i (gi v2 2)]
 else
 .fail
 else
 .fail
 else
 .fail
 else
 .fail) 1 fun v4 =>
 .norm [.sl (gl v4 0),.sl (gl v4 1),.i (IntKind.i64.wrap ((gi v4 2) + (1:Int)))]
 else
 .ex 0 [.sl (gl v1 0),.sl (gl v1 1)]
noncomputable def j0h (a:List DC):Out :=
 ja (jR JE [.sl (gl a 0),.sl (gl a 1),.i (0:Int)]) 0 fun v5 =>
 jb (if (decide (((gl v5 1).length:Int) > (0:Int)))=true then
 if (gl v5 0).length + [[DC.i (41:Int)]].length < jF then
 .norm [.sl ((gl v5 0) ++ [[DC.i (41:Int)]])]
 else
 .fail
 else
 .norm [.sl (gl v5 0)]) fun v6 =>
 .ret [.sl (gl v6 0)]
theorem ja3 a:Xd a=j0h a:=(jk ju 88 _ a).trans (by kernel_rfl)
noncomputable def zq:List DC → Out:=fun v2 =>
 if (decide ((gi v2 1) < ((gs v2 3).length:Int)))=true then
 ja (if 0 ≤ (gi v2 1) ∧ (gi v2 1) < ((gs v2 3).length:Int) then
 jb (if ((((gs v2 3).getD (gi v2 1).toNat 0).toNat:Int) == (33:Int))=true then
 if (gs v2 0).length + ([33]:List UInt8).length < jF then
 .norm [.s ((gs v2 0) ++ ([33]:List UInt8)),.i (gi v2 1),.s (gs v2 2),.s (gs v2 3)]
 else
 .fail
 else
 if ([91]:List UInt8).length + (gs v2 0).length < jF then
 if (([91]:List UInt8) ++ (gs v2 0)).length + ([93]:List UInt8).length < jF then
 .norm [.s ((([91]:List UInt8) ++ (gs v2 0)) ++ ([93]:List UInt8)),.i (gi v2 1),.s (gs v2 2),.s (gs v2 3)]
 else
 .fail
 else
 .fail) fun v3 =>
 .norm [.s (gs v3 0),.i (gi v3 1),.s (gs v3 2),.s (gs v3 3)]
 else
 .fail) 1 fun v4 =>
 .norm [.s (gs v4 0),.i (IntKind.i64.wrap ((gi v4 1) + (1:Int))),.s (gs v4 2),.s (gs v4 3)]
 else
 .ex 0 [.s (gs v2 0)]
noncomputable def j1I (a:List DC):Out :=
 (JI [.s (gs a 0),.s (gs a 1)]).bindR fun r1 =>
 if (!(gb r1 0))=true then
 .ret [.s ([]:List UInt8)]
 else
 ja (jR zq [.s (gs a 0),.i (0:Int),.s (gs a 0),.s (gs a 1)]) 0 fun v5 =>
 .ret [.s (gs v5 0)]
theorem j6W a:Jv a=j1I a:=(jk ju 89 _ a).trans (by kernel_rfl)
noncomputable def pU:List DC → Out:=fun v4 =>
 if (decide ((gi v4 2) < ((gl v4 5).length:Int)))=true then
 ja (jb (if (decide ((gi v4 2) > (0:Int)))=true then
 if (gl v4 0).length + [[DC.i (44:Int)],[DC.i (32:Int)]].length < jF then
 .norm [.sl ((gl v4 0) ++ [[DC.i (44:Int)],[DC.i (32:Int)]]),.i (gi v4 1),.i (gi v4 2),.i (gi v4 3),.s (gs v4 4),.sl (gl v4 5),.sl (gl v4 6)]
 else
 .fail
 else
 .norm [.sl (gl v4 0),.i (gi v4 1),.i (gi v4 2),.i (gi v4 3),.s (gs v4 4),.sl (gl v4 5),.sl (gl v4 6)]) fun v5 =>
 jb (if ((gi v5 3) == (8:Int))=true then
 if 9=9 ∧ 0 ≤ (gi v5 2) ∧ (gi v5 2) < ((gl v5 6).length:Int) then
 if (gl v5 0).length + (jo ((((gl v5 6).getD (gi v5 2).toNat []).getD 0 d0).ss)).length < jF then
 if ((gl v5 0) ++ (jo ((((gl v5 6).getD (gi v5 2).toNat []).getD 0 d0).ss))).length + [[DC.i (58:Int)],[DC.i (32:Int)]].length < jF then
 .norm [.sl (((gl v5 0) ++ (jo ((((gl v5 6).getD (gi v5 2).toNat []).getD 0 d0).ss))) ++ [[DC.i (58:Int)],[DC.i (32:Int)]]),.i (gi v5 1),.i (gi v5 2),.i (gi v5 3),.s (gs v5 4),.sl (gl v5 5),.sl (gl v5 6)]
 else
 .fail
 else
 .fail
 else
 .fail
 else
 .norm [.sl (gl v5 0),.i (gi v5 1),.i (gi v5 2),.i (gi v5 3),.s (gs v5 4),.sl (gl v5 5),.sl (gl v5 6)]) fun v6 =>
 if 102=102 ∧ 0 ≤ (gi v6 2) ∧ (gi v6 2) < ((gl v6 5).length:Int) then
 (zA [.sl (gl v6 0),.i ((((gl v6 5).getD (gi v6 2).toNat []).getD 0 d0).ii),.s ((((gl v6 5).getD (gi v6 2).toNat []).getD 1 d0).ss),.sl ((((gl v6 5).getD (gi v6 2).toNat []).getD 2 d0).ll),.sl ((((gl v6 5).getD (gi v6 2).toNat []).getD 3 d0).ll)]).bindR fun r7 =>
 .norm [.sl (gl r7 0),.i (gi v6 1),.i (gi v6 2),.i (gi v6 3),.s (gs v6 4),.sl (gl v6 5),.sl (gl v6 6)]
 else
 .fail) 2 fun v8 =>
 .norm [.sl (gl v8 0),.i (gi v8 1),.i (IntKind.i64.wrap ((gi v8 2) + (1:Int))),.i (gi v8 3),.s (gs v8 4),.sl (gl v8 5),.sl (gl v8 6)]
 else
 .ex 1 [.sl (gl v4 0),.i (gi v4 1)]
noncomputable def JR (a:List DC):Out :=
 ja (if ((gi a 1) == (1:Int))=true then
 if (gl a 0).length + [[DC.i (36:Int)]].length < jF then
 if ((gl a 0) ++ [[DC.i (36:Int)]]).length + (jo (gs a 2)).length < jF then
 .ret [.sl (((gl a 0) ++ [[DC.i (36:Int)]]) ++ (jo (gs a 2)))]
 else
 .fail
 else
 .fail
 else
 if ((gi a 1) == (4:Int))=true then
 (qW [.s (gs a 2)]).bindR fun r1 =>
 if (gl a 0).length + (jo (gs r1 0)).length < jF then
 .ret [.sl ((gl a 0) ++ (jo (gs r1 0)))]
 else
 .fail
 else
 jb (if ((gi a 1) == (7:Int))=true then
 .norm [.sl (gl a 0),.b ((gi a 1) == (7:Int)),.i (gi a 1),.s (gs a 2),.sl (gl a 3),.sl (gl a 4)]
 else
 .norm [.sl (gl a 0),.b ((gi a 1) == (8:Int)),.i (gi a 1),.s (gs a 2),.sl (gl a 3),.sl (gl a 4)]) fun v2 =>
 if (gb v2 1)=true then
 jb (if ((gi v2 2) == (8:Int))=true then
 .norm [.sl (gl v2 0),.i (123:Int),.i (125:Int),.i (gi v2 2),.s (gs v2 3),.sl (gl v2 4),.sl (gl v2 5)]
 else
 .norm [.sl (gl v2 0),.i (91:Int),.i (93:Int),.i (gi v2 2),.s (gs v2 3),.sl (gl v2 4),.sl (gl v2 5)]) fun v3 =>
 if (gl v3 0).length + [[DC.i (gi v3 1)]].length < jF then
 ja (jR pU [.sl ((gl v3 0) ++ [[DC.i (gi v3 1)]]),.i (gi v3 2),.i (0:Int),.i (gi v3 3),.s (gs v3 4),.sl (gl v3 5),.sl (gl v3 6)]) 1 fun v9 =>
 if (gl v9 0).length + [[DC.i (gi v9 1)]].length < jF then
 .ret [.sl ((gl v9 0) ++ [[DC.i (gi v9 1)]])]
 else
 .fail
 else
 .fail
 else
 .norm [.sl (gl v2 0),.i (gi v2 2),.s (gs v2 3),.sl (gl v2 4),.sl (gl v2 5)]) 0 fun v10 =>
 if (gl v10 0).length + (jo (gs v10 2)).length < jF then
 .ret [.sl ((gl v10 0) ++ (jo (gs v10 2)))]
 else
 .fail
theorem ja4 a:zA a=JR a:=(jk ju 90 _ a).trans (by kernel_rfl)
noncomputable def j6e (a:List DC):Out :=
 jb (if (decide ((gi a 0) ≥ (gi a 1)))=true then
 .norm [.b (decide ((gi a 0) ≤ (gi a 2)))]
 else
 .norm [.b false]) fun v1 =>
 .ret [.b (gb v1 0)]
theorem jbz a:V5 a=j6e a:=(jk ju 91 _ a).trans (by kernel_rfl)
noncomputable def j2G (a:List DC):Out :=
 jb (if ((gs a 0) == ([]:List UInt8))=true then
 .norm [.b true]
 else
 (qW [.s (gs a 0)]).bindR fun r1 =>
 .norm [.b (!((gs r1 0) == ([]:List UInt8)))]) fun v2 =>
 .ret [.b (gb v2 0)]
theorem j8p a:zV a=j2G a:=(jk ju 92 _ a).trans (by kernel_rfl)
noncomputable def j3M (a:List DC):Out :=
 .ret [.b (decide ((IntKind.i64.wrap ((IntKind.i64.wrap ((IntKind.i64.wrap ((IntKind.i64.wrap ((IntKind.i64.wrap (((gl a 4).length:Int) + ((gl a 5).length:Int))) + ((gl a 6).length:Int))) + ((gl a 7).length:Int))) + ((gl a 8).length:Int))) + ((gl a 10).length:Int))) > (0:Int)))]
theorem ja1 a:ZU a=j3M a:=(jk ju 93 _ a).trans (by kernel_rfl)
end Go.Proofs.QV
