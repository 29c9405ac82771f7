import Derived.Test.YtcpolmhblhhikaaGreatMU7
import Derived.Test.YtcpolmhblhhikaaGreatMU8
import Derived.Test.YtcpolmhblhhikaaGreatMU5
import Derived.Test.YtcpolmhblhhikaaGreatMU6
/- What the functions do,and that they do (written by a program). -/
namespace Go.Proofs.QV
open Go
open Out renaming andThenB → j9, andThen → ja
open _root_.Int renaming toNat_natCast → jd
open _root_.List renaming length_append → jj, length_cons → jb, append_assoc → jD, append_nil → jv, nil_append → jg, cons_append → jh, length_nil → jf
open _root_.Bool renaming not_true → je, not_false → jc
set_option linter.unusedVariables false
set_option maxRecDepth 100000
noncomputable def qo:List DC → Out:=fun v1 =>
 if (decide ((v1.getD 2 d0).ii < (((v1.getD 0 d0).ll).length:Int)))=true then
 j9 (if 201=201 ∧ 0 ≤ (v1.getD 2 d0).ii ∧ (v1.getD 2 d0).ii < (((v1.getD 0 d0).ll).length:Int) then
 (yl [.sl (((((v1.getD 0 d0).ll).getD ((v1.getD 2 d0).ii).toNat []).getD 2 d0).ll)]).bindR fun r2 =>
 if ((v1.getD 1 d0).ll).length + [[DC.s (((((v1.getD 0 d0).ll).getD ((v1.getD 2 d0).ii).toNat []).getD 0 d0).ss),DC.s (((((v1.getD 0 d0).ll).getD ((v1.getD 2 d0).ii).toNat []).getD 1 d0).ss),qL r2 0]].length < jT ∧ 34=34 then
 .norm [qL v1 0,.sl (((v1.getD 1 d0).ll) ++ [[DC.s (((((v1.getD 0 d0).ll).getD ((v1.getD 2 d0).ii).toNat []).getD 0 d0).ss),DC.s (((((v1.getD 0 d0).ll).getD ((v1.getD 2 d0).ii).toNat []).getD 1 d0).ss),qL r2 0]]),qI v1 2]
 else
 .fail
 else
 .fail) 1 fun v3 =>
 .norm [qL v3 0,qL v3 1,.i (IntKind.i64.wrap ((v3.getD 2 d0).ii + (1:Int)))]
 else
 .ex 0 [qL v1 1]
noncomputable def KN (a:List DC):Out :=
 j9 (jy qo [qL a 0,.sl [],.i (0:Int)]) 0 fun v4 =>
 .ret [qL v4 0]
theorem XP a:zw a=KN a:=(jq cfg 121 _ a).trans (by kernel_rfl)
noncomputable def zR:List DC → Out:=fun v1 =>
 if (decide ((v1.getD 2 d0).ii < (((v1.getD 0 d0).ll).length:Int)))=true then
 j9 (if 191=191 ∧ 0 ≤ (v1.getD 2 d0).ii ∧ (v1.getD 2 d0).ii < (((v1.getD 0 d0).ll).length:Int) then
 if 191=191 ∧ 0 ≤ (v1.getD 2 d0).ii ∧ (v1.getD 2 d0).ii < (((v1.getD 0 d0).ll).length:Int) then
 (Qx [.sl (((((v1.getD 0 d0).ll).getD ((v1.getD 2 d0).ii).toNat []).getD 1 d0).ll)]).bindR fun r2 =>
 if ((v1.getD 1 d0).ll).length + [[DC.s (((((v1.getD 0 d0).ll).getD ((v1.getD 2 d0).ii).toNat []).getD 0 d0).ss),qL r2 0]].length < jT ∧ 35=35 then
 .norm [qL v1 0,.sl (((v1.getD 1 d0).ll) ++ [[DC.s (((((v1.getD 0 d0).ll).getD ((v1.getD 2 d0).ii).toNat []).getD 0 d0).ss),qL r2 0]]),qI v1 2]
 else
 .fail
 else
 .fail
 else
 .fail) 1 fun v3 =>
 .norm [qL v3 0,qL v3 1,.i (IntKind.i64.wrap ((v3.getD 2 d0).ii + (1:Int)))]
 else
 .ex 0 [qL v1 1]
noncomputable def Yy (a:List DC):Out :=
 j9 (jy zR [qL a 0,.sl [],.i (0:Int)]) 0 fun v4 =>
 .ret [qL v4 0]
theorem j29 a:yl a=Yy a:=(jq cfg 122 _ a).trans (by kernel_rfl)
noncomputable def qM:List DC → Out:=fun v1 =>
 if (decide ((v1.getD 0 d0).ii < (((v1.getD 6 d0).ll).length:Int)))=true then
 j9 (if 199=199 ∧ 0 ≤ (v1.getD 0 d0).ii ∧ (v1.getD 0 d0).ii < (((v1.getD 6 d0).ll).length:Int) then
 if (decide (((((((v1.getD 6 d0).ll).getD ((v1.getD 0 d0).ii).toNat []).getD 2 d0).ll).length:Int) > (100:Int)))=true then
 .ret [.b true]
 else
 .norm [qI v1 0,qI v1 1,qB v1 2,qS v1 3,qS v1 4,qL v1 5,qL v1 6,qL v1 7,qL v1 8,qL v1 9,qB v1 10,qL v1 11]
 else
 .fail) 1 fun v2 =>
 .norm [.i (IntKind.i64.wrap ((v2.getD 0 d0).ii + (1:Int))),qI v2 1,qB v2 2,qS v2 3,qS v2 4,qL v2 5,qL v2 6,qL v2 7,qL v2 8,qL v2 9,qB v2 10,qL v2 11]
 else
 .ex 0 [qI v1 1,qB v1 2,qS v1 3,qS v1 4,qL v1 5,qL v1 6,qL v1 7,qL v1 8,qL v1 9,qB v1 10,qL v1 11]
noncomputable def Zl (a:List DC):Out :=
 j9 (jy qM [.i (0:Int),qI a 0,qB a 1,qS a 2,qS a 3,qL a 4,qL a 5,qL a 6,qL a 7,qL a 8,qB a 9,qL a 10]) 0 fun v3 =>
 ja (if (decide ((((v3.getD 4 d0).ll).length:Int) > (100:Int)))=true then
 .norm [.b true]
 else
 if (decide ((((v3.getD 5 d0).ll).length:Int) > (100:Int)))=true then
 .norm [.b true]
 else
 if (decide ((((v3.getD 6 d0).ll).length:Int) > (100:Int)))=true then
 .norm [.b true]
 else
 .norm [.b (decide ((((v3.getD 7 d0).ll).length:Int) > (100:Int)))]) fun v4 =>
 .ret [qB v4 0]
theorem j38 a:J0 a=Zl a:=(jq cfg 123 _ a).trans (by kernel_rfl)
noncomputable def qA:List DC → Out:=fun v2 =>
 if (decide ((v2.getD 1 d0).ii < (((v2.getD 10 d0).ll).length:Int)))=true then
 j9 (if 199=199 ∧ 0 ≤ (v2.getD 1 d0).ii ∧ (v2.getD 1 d0).ii < (((v2.getD 10 d0).ll).length:Int) then
 (qb [.s (((((v2.getD 10 d0).ll).getD ((v2.getD 1 d0).ii).toNat []).getD 0 d0).ss)]).bindR fun r3 =>
 ja (if (r3.getD 0 d0).bb=true then
 if ((v2.getD 0 d0).ll).length + [[DC.i (6:Int),qS v2 8,DC.s (((((v2.getD 10 d0).ll).getD ((v2.getD 1 d0).ii).toNat []).getD 0 d0).ss)]].length < jT then
 .norm [.sl (((v2.getD 0 d0).ll) ++ [[DC.i (6:Int),qS v2 8,DC.s (((((v2.getD 10 d0).ll).getD ((v2.getD 1 d0).ii).toNat []).getD 0 d0).ss)]]),qI v2 1,qL v2 2,qL v2 3,qL v2 4,qI v2 5,qB v2 6,qS v2 7,qS v2 8,qL v2 9,qL v2 10,qL v2 11,qL v2 12,qL v2 13,qB v2 14,qL v2 15,.s (((((v2.getD 10 d0).ll).getD ((v2.getD 1 d0).ii).toNat []).getD 0 d0).ss),.s (((((v2.getD 10 d0).ll).getD ((v2.getD 1 d0).ii).toNat []).getD 1 d0).ss),.sl (((((v2.getD 10 d0).ll).getD ((v2.getD 1 d0).ii).toNat []).getD 2 d0).ll),.s (((((v2.getD 10 d0).ll).getD ((v2.getD 1 d0).ii).toNat []).getD 3 d0).ss),.s (((((v2.getD 10 d0).ll).getD ((v2.getD 1 d0).ii).toNat []).getD 4 d0).ss),.sl (((((v2.getD 10 d0).ll).getD ((v2.getD 1 d0).ii).toNat []).getD 5 d0).ll)]
 else
 .fail
 else
 .norm [qL v2 0,qI v2 1,qL v2 2,qL v2 3,qL v2 4,qI v2 5,qB v2 6,qS v2 7,qS v2 8,qL v2 9,qL v2 10,qL v2 11,qL v2 12,qL v2 13,qB v2 14,qL v2 15,.s (((((v2.getD 10 d0).ll).getD ((v2.getD 1 d0).ii).toNat []).getD 0 d0).ss),.s (((((v2.getD 10 d0).ll).getD ((v2.getD 1 d0).ii).toNat []).getD 1 d0).ss),.sl (((((v2.getD 10 d0).ll).getD ((v2.getD 1 d0).ii).toNat []).getD 2 d0).ll),.s (((((v2.getD 10 d0).ll).getD ((v2.getD 1 d0).ii).toNat []).getD 3 d0).ss),.s (((((v2.getD 10 d0).ll).getD ((v2.getD 1 d0).ii).toNat []).getD 4 d0).ss),.sl (((((v2.getD 10 d0).ll).getD ((v2.getD 1 d0).ii).toNat []).getD 5 d0).ll)]) fun v4 =>
 (J9 [qL v4 10,qS v4 16]).bindR fun r5 =>
 ja (if ((r5.getD 0 d0).ii != (v4.getD 1 d0).ii)=true then
 if ((v4.getD 0 d0).ll).length + [[DC.i (2:Int),qS v4 8,qS v4 16]].length < jT then
 .norm [.sl (((v4.getD 0 d0).ll) ++ [[DC.i (2:Int),qS v4 8,qS v4 16]]),qI v4 1,qL v4 2,qL v4 3,qL v4 4,qI v4 5,qB v4 6,qS v4 7,qS v4 8,qL v4 9,qL v4 10,qL v4 11,qL v4 12,qL v4 13,qB v4 14,qL v4 15,qS v4 16,qS v4 17,qL v4 18,qS v4 19,qS v4 20,qL v4 21]
 else
 .fail
 else
 .norm [qL v4 0,qI v4 1,qL v4 2,qL v4 3,qL v4 4,qI v4 5,qB v4 6,qS v4 7,qS v4 8,qL v4 9,qL v4 10,qL v4 11,qL v4 12,qL v4 13,qB v4 14,qL v4 15,qS v4 16,qS v4 17,qL v4 18,qS v4 19,qS v4 20,qL v4 21]) fun v6 =>
 (KU [qL v6 2,qL v6 3,qL v6 4,qS v6 19]).bindR fun r7 =>
 ja (if (!((r7.getD 0 d0).bb))=true then
 if ((v6.getD 0 d0).ll).length + [[DC.i (8:Int),qS v6 8,qS v6 16]].length < jT then
 .norm [.sl (((v6.getD 0 d0).ll) ++ [[DC.i (8:Int),qS v6 8,qS v6 16]]),qI v6 1,qL v6 2,qL v6 3,qL v6 4,qI v6 5,qB v6 6,qS v6 7,qS v6 8,qL v6 9,qL v6 10,qL v6 11,qL v6 12,qL v6 13,qB v6 14,qL v6 15,qS v6 16,qS v6 17,qL v6 18,qS v6 19,qS v6 20,qL v6 21]
 else
 .fail
 else
 .norm [qL v6 0,qI v6 1,qL v6 2,qL v6 3,qL v6 4,qI v6 5,qB v6 6,qS v6 7,qS v6 8,qL v6 9,qL v6 10,qL v6 11,qL v6 12,qL v6 13,qB v6 14,qL v6 15,qS v6 16,qS v6 17,qL v6 18,qS v6 19,qS v6 20,qL v6 21]) fun v8 =>
 if ((v8.getD 8 d0).ss).length + ([46]:List UInt8).length < jT then
 if (((v8.getD 8 d0).ss) ++ ([46]:List UInt8)).length + ((v8.getD 16 d0).ss).length < jT then
 (JH [qL v8 2,qL v8 3,qL v8 4,.s ((((v8.getD 8 d0).ss) ++ ([46]:List UInt8)) ++ ((v8.getD 16 d0).ss)),qL v8 18,qL v8 0]).bindR fun r9 =>
 .norm [qL r9 0,qI v8 1,qL v8 2,qL v8 3,qL v8 4,qI v8 5,qB v8 6,qS v8 7,qS v8 8,qL v8 9,qL v8 10,qL v8 11,qL v8 12,qL v8 13,qB v8 14,qL v8 15]
 else
 .fail
 else
 .fail
 else
 .fail) 1 fun v10 =>
 .norm [qL v10 0,.i (IntKind.i64.wrap ((v10.getD 1 d0).ii + (1:Int))),qL v10 2,qL v10 3,qL v10 4,qI v10 5,qB v10 6,qS v10 7,qS v10 8,qL v10 9,qL v10 10,qL v10 11,qL v10 12,qL v10 13,qB v10 14,qL v10 15]
 else
 .ex 0 [qL v2 0,qL v2 2,qL v2 3,qL v2 4,qI v2 5,qB v2 6,qS v2 7,qS v2 8,qL v2 9,qL v2 10,qL v2 11,qL v2 12,qL v2 13,qB v2 14,qL v2 15]
noncomputable def VX (a:List DC):Out :=
 ja (if ((((a.getD 8 d0).ll).length:Int) == (0:Int))=true then
 if ((a.getD 14 d0).ll).length + [[DC.i (7:Int),qS a 6,DC.s []]].length < jT then
 .norm [.sl (((a.getD 14 d0).ll) ++ [[DC.i (7:Int),qS a 6,DC.s []]]),qL a 0,qL a 1,qL a 2,qI a 3,qB a 4,qS a 5,qS a 6,qL a 7,qL a 8,qL a 9,qL a 10,qL a 11,qB a 12,qL a 13]
 else
 .fail
 else
 .norm [qL a 14,qL a 0,qL a 1,qL a 2,qI a 3,qB a 4,qS a 5,qS a 6,qL a 7,qL a 8,qL a 9,qL a 10,qL a 11,qB a 12,qL a 13]) fun v1 =>
 j9 (jy qA [qL v1 0,.i (0:Int),qL v1 1,qL v1 2,qL v1 3,qI v1 4,qB v1 5,qS v1 6,qS v1 7,qL v1 8,qL v1 9,qL v1 10,qL v1 11,qL v1 12,qB v1 13,qL v1 14]) 0 fun v11 =>
 (zX [qL v11 1,qL v11 2,qL v11 3,qI v11 4,qB v11 5,qS v11 6,qS v11 7,qL v11 8,qL v11 9,qL v11 10,qL v11 11,qL v11 12,qB v11 13,qL v11 14]).bindR fun r12 =>
 if ((v11.getD 0 d0).ll).length + ((r12.getD 0 d0).ll).length < jT then
 .ret [.sl (((v11.getD 0 d0).ll) ++ ((r12.getD 0 d0).ll))]
 else
 .fail
theorem j0v a:K9 a=VX a:=(jq cfg 124 _ a).trans (by kernel_rfl)
noncomputable def qc:List DC → Out:=fun v2 =>
 if (decide ((v2.getD 1 d0).ii < (((v2.getD 9 d0).ll).length:Int)))=true then
 j9 (if 0 ≤ (v2.getD 1 d0).ii ∧ (v2.getD 1 d0).ii ≤ (((v2.getD 9 d0).ll).length:Int) then
 if 9=9 ∧ 0 ≤ (v2.getD 1 d0).ii ∧ (v2.getD 1 d0).ii < (((v2.getD 9 d0).ll).length:Int) then
 (jN [.sl (((v2.getD 9 d0).ll).take ((v2.getD 1 d0).ii).toNat),.s (((((v2.getD 9 d0).ll).getD ((v2.getD 1 d0).ii).toNat []).getD 0 d0).ss)]).bindR fun r3 =>
 ja (if (r3.getD 0 d0).bb=true then
 if 9=9 ∧ 0 ≤ (v2.getD 1 d0).ii ∧ (v2.getD 1 d0).ii < (((v2.getD 9 d0).ll).length:Int) then
 if ((v2.getD 0 d0).ll).length + [[DC.i (2:Int),qS v2 8,DC.s (((((v2.getD 9 d0).ll).getD ((v2.getD 1 d0).ii).toNat []).getD 0 d0).ss)]].length < jT then
 .norm [.sl (((v2.getD 0 d0).ll) ++ [[DC.i (2:Int),qS v2 8,DC.s (((((v2.getD 9 d0).ll).getD ((v2.getD 1 d0).ii).toNat []).getD 0 d0).ss)]]),qI v2 1,qL v2 2,qL v2 3,qL v2 4,qI v2 5,qB v2 6,qS v2 7,qS v2 8,qL v2 9,qL v2 10,qL v2 11,qL v2 12,qL v2 13,qB v2 14,qL v2 15]
 else
 .fail
 else
 .fail
 else
 .norm [qL v2 0,qI v2 1,qL v2 2,qL v2 3,qL v2 4,qI v2 5,qB v2 6,qS v2 7,qS v2 8,qL v2 9,qL v2 10,qL v2 11,qL v2 12,qL v2 13,qB v2 14,qL v2 15]) fun v4 =>
 if 9=9 ∧ 0 ≤ (v4.getD 1 d0).ii ∧ (v4.getD 1 d0).ii < (((v4.getD 9 d0).ll).length:Int) then
 (jU [qL v4 2,qL v4 3,qL v4 4,.s (((((v4.getD 9 d0).ll).getD ((v4.getD 1 d0).ii).toNat []).getD 0 d0).ss)]).bindR fun r5 =>
 ja (if ((r5.getD 0 d0).ii != (2:Int))=true then
 if 9=9 ∧ 0 ≤ (v4.getD 1 d0).ii ∧ (v4.getD 1 d0).ii < (((v4.getD 9 d0).ll).length:Int) then
 if ((v4.getD 0 d0).ll).length + [[DC.i (8:Int),qS v4 8,DC.s (((((v4.getD 9 d0).ll).getD ((v4.getD 1 d0).ii).toNat []).getD 0 d0).ss)]].length < jT then
 .norm [.sl (((v4.getD 0 d0).ll) ++ [[DC.i (8:Int),qS v4 8,DC.s (((((v4.getD 9 d0).ll).getD ((v4.getD 1 d0).ii).toNat []).getD 0 d0).ss)]]),qI v4 1,qL v4 2,qL v4 3,qL v4 4,qI v4 5,qB v4 6,qS v4 7,qS v4 8,qL v4 9,qL v4 10,qL v4 11,qL v4 12,qL v4 13,qB v4 14,qL v4 15]
 else
 .fail
 else
 .fail
 else
 .norm [qL v4 0,qI v4 1,qL v4 2,qL v4 3,qL v4 4,qI v4 5,qB v4 6,qS v4 7,qS v4 8,qL v4 9,qL v4 10,qL v4 11,qL v4 12,qL v4 13,qB v4 14,qL v4 15]) fun v6 =>
 .norm [qL v6 0,qI v6 1,qL v6 2,qL v6 3,qL v6 4,qI v6 5,qB v6 6,qS v6 7,qS v6 8,qL v6 9,qL v6 10,qL v6 11,qL v6 12,qL v6 13,qB v6 14,qL v6 15]
 else
 .fail
 else
 .fail
 else
 .fail) 1 fun v7 =>
 .norm [qL v7 0,.i (IntKind.i64.wrap ((v7.getD 1 d0).ii + (1:Int))),qL v7 2,qL v7 3,qL v7 4,qI v7 5,qB v7 6,qS v7 7,qS v7 8,qL v7 9,qL v7 10,qL v7 11,qL v7 12,qL v7 13,qB v7 14,qL v7 15]
 else
 .ex 0 [qL v2 0]
noncomputable def Vl (a:List DC):Out :=
 ja (if ((((a.getD 7 d0).ll).length:Int) == (0:Int))=true then
 if ((a.getD 14 d0).ll).length + [[DC.i (7:Int),qS a 6,DC.s []]].length < jT then
 .norm [.sl (((a.getD 14 d0).ll) ++ [[DC.i (7:Int),qS a 6,DC.s []]]),qL a 0,qL a 1,qL a 2,qI a 3,qB a 4,qS a 5,qS a 6,qL a 7,qL a 8,qL a 9,qL a 10,qL a 11,qB a 12,qL a 13]
 else
 .fail
 else
 .norm [qL a 14,qL a 0,qL a 1,qL a 2,qI a 3,qB a 4,qS a 5,qS a 6,qL a 7,qL a 8,qL a 9,qL a 10,qL a 11,qB a 12,qL a 13]) fun v1 =>
 j9 (jy qc [qL v1 0,.i (0:Int),qL v1 1,qL v1 2,qL v1 3,qI v1 4,qB v1 5,qS v1 6,qS v1 7,qL v1 8,qL v1 9,qL v1 10,qL v1 11,qL v1 12,qB v1 13,qL v1 14]) 0 fun v8 =>
 .ret [qL v8 0]
theorem ZP a:JG a=Vl a:=(jq cfg 125 _ a).trans (by kernel_rfl)
noncomputable def qz:List DC → Out:=fun v2 =>
 if (decide ((v2.getD 2 d0).ii < (((v2.getD 10 d0).ll).length:Int)))=true then
 j9 (if 201=201 ∧ 0 ≤ (v2.getD 2 d0).ii ∧ (v2.getD 2 d0).ii < (((v2.getD 10 d0).ll).length:Int) then
 (qb [.s (((((v2.getD 10 d0).ll).getD ((v2.getD 2 d0).ii).toNat []).getD 0 d0).ss)]).bindR fun r3 =>
 ja (if (r3.getD 0 d0).bb=true then
 if 201=201 ∧ 0 ≤ (v2.getD 2 d0).ii ∧ (v2.getD 2 d0).ii < (((v2.getD 10 d0).ll).length:Int) then
 if ((v2.getD 0 d0).ll).length + [[DC.i (6:Int),qS v2 6,DC.s (((((v2.getD 10 d0).ll).getD ((v2.getD 2 d0).ii).toNat []).getD 0 d0).ss)]].length < jT then
 .norm [.sl (((v2.getD 0 d0).ll) ++ [[DC.i (6:Int),qS v2 6,DC.s (((((v2.getD 10 d0).ll).getD ((v2.getD 2 d0).ii).toNat []).getD 0 d0).ss)]]),qL v2 1,qI v2 2,qI v2 3,qB v2 4,qS v2 5,qS v2 6,qL v2 7,qL v2 8,qL v2 9,qL v2 10,qL v2 11,qB v2 12,qL v2 13]
 else
 .fail
 else
 .fail
 else
 .norm [qL v2 0,qL v2 1,qI v2 2,qI v2 3,qB v2 4,qS v2 5,qS v2 6,qL v2 7,qL v2 8,qL v2 9,qL v2 10,qL v2 11,qB v2 12,qL v2 13]) fun v4 =>
 if 201=201 ∧ 0 ≤ (v4.getD 2 d0).ii ∧ (v4.getD 2 d0).ii < (((v4.getD 10 d0).ll).length:Int) then
 (jN [qL v4 1,.s (((((v4.getD 10 d0).ll).getD ((v4.getD 2 d0).ii).toNat []).getD 0 d0).ss)]).bindR fun r5 =>
 ja (if (r5.getD 0 d0).bb=true then
 if 201=201 ∧ 0 ≤ (v4.getD 2 d0).ii ∧ (v4.getD 2 d0).ii < (((v4.getD 10 d0).ll).length:Int) then
 if ((v4.getD 0 d0).ll).length + [[DC.i (2:Int),qS v4 6,DC.s (((((v4.getD 10 d0).ll).getD ((v4.getD 2 d0).ii).toNat []).getD 0 d0).ss)]].length < jT then
 .norm [.sl (((v4.getD 0 d0).ll) ++ [[DC.i (2:Int),qS v4 6,DC.s (((((v4.getD 10 d0).ll).getD ((v4.getD 2 d0).ii).toNat []).getD 0 d0).ss)]]),qL v4 1,qI v4 2,qI v4 3,qB v4 4,qS v4 5,qS v4 6,qL v4 7,qL v4 8,qL v4 9,qL v4 10,qL v4 11,qB v4 12,qL v4 13]
 else
 .fail
 else
 .fail
 else
 .norm [qL v4 0,qL v4 1,qI v4 2,qI v4 3,qB v4 4,qS v4 5,qS v4 6,qL v4 7,qL v4 8,qL v4 9,qL v4 10,qL v4 11,qB v4 12,qL v4 13]) fun v6 =>
 if 201=201 ∧ 0 ≤ (v6.getD 2 d0).ii ∧ (v6.getD 2 d0).ii < (((v6.getD 10 d0).ll).length:Int) then
 if ((v6.getD 1 d0).ll).length + [[DC.s (((((v6.getD 10 d0).ll).getD ((v6.getD 2 d0).ii).toNat []).getD 0 d0).ss)]].length < jT then
 .norm [qL v6 0,.sl (((v6.getD 1 d0).ll) ++ [[DC.s (((((v6.getD 10 d0).ll).getD ((v6.getD 2 d0).ii).toNat []).getD 0 d0).ss)]]),qI v6 2,qI v6 3,qB v6 4,qS v6 5,qS v6 6,qL v6 7,qL v6 8,qL v6 9,qL v6 10,qL v6 11,qB v6 12,qL v6 13]
 else
 .fail
 else
 .fail
 else
 .fail
 else
 .fail) 1 fun v7 =>
 .norm [qL v7 0,qL v7 1,.i (IntKind.i64.wrap ((v7.getD 2 d0).ii + (1:Int))),qI v7 3,qB v7 4,qS v7 5,qS v7 6,qL v7 7,qL v7 8,qL v7 9,qL v7 10,qL v7 11,qB v7 12,qL v7 13]
 else
 .ex 0 [qL v2 0]
noncomputable def VW (a:List DC):Out :=
 ja (if ((((a.getD 7 d0).ll).length:Int) == (0:Int))=true then
 if ((a.getD 11 d0).ll).length + [[DC.i (7:Int),qS a 3,DC.s []]].length < jT then
 .norm [.sl (((a.getD 11 d0).ll) ++ [[DC.i (7:Int),qS a 3,DC.s []]]),qI a 0,qB a 1,qS a 2,qS a 3,qL a 4,qL a 5,qL a 6,qL a 7,qL a 8,qB a 9,qL a 10]
 else
 .fail
 else
 .norm [qL a 11,qI a 0,qB a 1,qS a 2,qS a 3,qL a 4,qL a 5,qL a 6,qL a 7,qL a 8,qB a 9,qL a 10]) fun v1 =>
 j9 (jy qz [qL v1 0,.sl [],.i (0:Int),qI v1 1,qB v1 2,qS v1 3,qS v1 4,qL v1 5,qL v1 6,qL v1 7,qL v1 8,qL v1 9,qB v1 10,qL v1 11]) 0 fun v8 =>
 .ret [qL v8 0]
theorem j0u a:K8 a=VW a:=(jq cfg 126 _ a).trans (by kernel_rfl)
noncomputable def zI:List DC → Out:=fun v1 =>
 if (decide ((v1.getD 3 d0).ii < (((v1.getD 1 d0).ll).length:Int)))=true then
 j9 (if 196=196 ∧ 0 ≤ (v1.getD 3 d0).ii ∧ (v1.getD 3 d0).ii < (((v1.getD 1 d0).ll).length:Int) then
 (qb [.s (((((v1.getD 1 d0).ll).getD ((v1.getD 3 d0).ii).toNat []).getD 0 d0).ss)]).bindR fun r2 =>
 ja (if (r2.getD 0 d0).bb=true then
 if ((v1.getD 2 d0).ll).length + [[DC.i (6:Int),qS v1 0,DC.s (((((v1.getD 1 d0).ll).getD ((v1.getD 3 d0).ii).toNat []).getD 0 d0).ss)]].length < jT then
 .norm [qS v1 0,qL v1 1,.sl (((v1.getD 2 d0).ll) ++ [[DC.i (6:Int),qS v1 0,DC.s (((((v1.getD 1 d0).ll).getD ((v1.getD 3 d0).ii).toNat []).getD 0 d0).ss)]]),qI v1 3,qL v1 4,qL v1 5,qL v1 6,.s (((((v1.getD 1 d0).ll).getD ((v1.getD 3 d0).ii).toNat []).getD 0 d0).ss),.s (((((v1.getD 1 d0).ll).getD ((v1.getD 3 d0).ii).toNat []).getD 1 d0).ss),.s (((((v1.getD 1 d0).ll).getD ((v1.getD 3 d0).ii).toNat []).getD 2 d0).ss),.s (((((v1.getD 1 d0).ll).getD ((v1.getD 3 d0).ii).toNat []).getD 3 d0).ss),.b (((((v1.getD 1 d0).ll).getD ((v1.getD 3 d0).ii).toNat []).getD 4 d0).bb),.i (((((v1.getD 1 d0).ll).getD ((v1.getD 3 d0).ii).toNat []).getD 5 d0).ii),.s (((((v1.getD 1 d0).ll).getD ((v1.getD 3 d0).ii).toNat []).getD 6 d0).ss),.sl (((((v1.getD 1 d0).ll).getD ((v1.getD 3 d0).ii).toNat []).getD 7 d0).ll),.sl (((((v1.getD 1 d0).ll).getD ((v1.getD 3 d0).ii).toNat []).getD 8 d0).ll),.sl (((((v1.getD 1 d0).ll).getD ((v1.getD 3 d0).ii).toNat []).getD 9 d0).ll)]
 else
 .fail
 else
 .norm [qS v1 0,qL v1 1,qL v1 2,qI v1 3,qL v1 4,qL v1 5,qL v1 6,.s (((((v1.getD 1 d0).ll).getD ((v1.getD 3 d0).ii).toNat []).getD 0 d0).ss),.s (((((v1.getD 1 d0).ll).getD ((v1.getD 3 d0).ii).toNat []).getD 1 d0).ss),.s (((((v1.getD 1 d0).ll).getD ((v1.getD 3 d0).ii).toNat []).getD 2 d0).ss),.s (((((v1.getD 1 d0).ll).getD ((v1.getD 3 d0).ii).toNat []).getD 3 d0).ss),.b (((((v1.getD 1 d0).ll).getD ((v1.getD 3 d0).ii).toNat []).getD 4 d0).bb),.i (((((v1.getD 1 d0).ll).getD ((v1.getD 3 d0).ii).toNat []).getD 5 d0).ii),.s (((((v1.getD 1 d0).ll).getD ((v1.getD 3 d0).ii).toNat []).getD 6 d0).ss),.sl (((((v1.getD 1 d0).ll).getD ((v1.getD 3 d0).ii).toNat []).getD 7 d0).ll),.sl (((((v1.getD 1 d0).ll).getD ((v1.getD 3 d0).ii).toNat []).getD 8 d0).ll),.sl (((((v1.getD 1 d0).ll).getD ((v1.getD 3 d0).ii).toNat []).getD 9 d0).ll)]) fun v3 =>
 (Ju [qL v3 1,qS v3 7]).bindR fun r4 =>
 ja (if ((r4.getD 0 d0).ii != (v3.getD 3 d0).ii)=true then
 if ((v3.getD 2 d0).ll).length + [[DC.i (2:Int),qS v3 0,qS v3 7]].length < jT then
 .norm [qS v3 0,qL v3 1,.sl (((v3.getD 2 d0).ll) ++ [[DC.i (2:Int),qS v3 0,qS v3 7]]),qI v3 3,qL v3 4,qL v3 5,qL v3 6,qS v3 7,qS v3 8,qS v3 9,qS v3 10,qB v3 11,qI v3 12,qS v3 13,qL v3 14,qL v3 15,qL v3 16]
 else
 .fail
 else
 .norm [qS v3 0,qL v3 1,qL v3 2,qI v3 3,qL v3 4,qL v3 5,qL v3 6,qS v3 7,qS v3 8,qS v3 9,qS v3 10,qB v3 11,qI v3 12,qS v3 13,qL v3 14,qL v3 15,qL v3 16]) fun v5 =>
 (QA [qL v5 4,qL v5 5,qL v5 6,qS v5 9]).bindR fun r6 =>
 ja (if (!((r6.getD 0 d0).bb))=true then
 if ((v5.getD 2 d0).ll).length + [[DC.i (8:Int),qS v5 0,qS v5 7]].length < jT then
 .norm [qS v5 0,qL v5 1,.sl (((v5.getD 2 d0).ll) ++ [[DC.i (8:Int),qS v5 0,qS v5 7]]),qI v5 3,qL v5 4,qL v5 5,qL v5 6,qS v5 7,qS v5 8,qS v5 9,qS v5 10,qB v5 11,qI v5 12,qS v5 13,qL v5 14,qL v5 15,qL v5 16]
 else
 .fail
 else
 .norm [qS v5 0,qL v5 1,qL v5 2,qI v5 3,qL v5 4,qL v5 5,qL v5 6,qS v5 7,qS v5 8,qS v5 9,qS v5 10,qB v5 11,qI v5 12,qS v5 13,qL v5 14,qL v5 15,qL v5 16]) fun v7 =>
 ja (if (v7.getD 11 d0).bb=true then
 (zA [qL v7 4,qL v7 5,qL v7 6,qI v7 12,qS v7 13,qL v7 14,qL v7 15,qS v7 9,qS v7 10]).bindR fun r8 =>
 .norm [qS v7 0,qL v7 1,qL v7 2,qI v7 3,.b (!((r8.getD 0 d0).bb)),qL v7 4,qL v7 5,qL v7 6,qS v7 7,qS v7 8,qS v7 9,qS v7 10,qB v7 11,qI v7 12,qS v7 13,qL v7 14,qL v7 15,qL v7 16]
 else
 .norm [qS v7 0,qL v7 1,qL v7 2,qI v7 3,.b false,qL v7 4,qL v7 5,qL v7 6,qS v7 7,qS v7 8,qS v7 9,qS v7 10,qB v7 11,qI v7 12,qS v7 13,qL v7 14,qL v7 15,qL v7 16]) fun v9 =>
 ja (if (v9.getD 4 d0).bb=true then
 if ((v9.getD 2 d0).ll).length + [[DC.i (12:Int),qS v9 0,qS v9 8]].length < jT then
 .norm [qS v9 0,qL v9 1,.sl (((v9.getD 2 d0).ll) ++ [[DC.i (12:Int),qS v9 0,qS v9 8]]),qI v9 3,qL v9 5,qL v9 6,qL v9 7]
 else
 .fail
 else
 .norm [qS v9 0,qL v9 1,qL v9 2,qI v9 3,qL v9 5,qL v9 6,qL v9 7]) fun v10 =>
 .norm [qS v10 0,qL v10 1,qL v10 2,qI v10 3,qL v10 4,qL v10 5,qL v10 6]
 else
 .fail) 1 fun v11 =>
 .norm [qS v11 0,qL v11 1,qL v11 2,.i (IntKind.i64.wrap ((v11.getD 3 d0).ii + (1:Int))),qL v11 4,qL v11 5,qL v11 6]
 else
 .ex 0 [qL v1 2]
noncomputable def j0M (a:List DC):Out :=
 j9 (jy zI [qS a 3,qL a 4,qL a 5,.i (0:Int),qL a 0,qL a 1,qL a 2]) 0 fun v12 =>
 .ret [qL v12 0]
theorem j3H a:JH a=j0M a:=(jq cfg 127 _ a).trans (by kernel_rfl)
noncomputable def kY:List DC → Out:=fun v4 =>
 if (decide ((v4.getD 3 d0).ii < (((v4.getD 13 d0).ll).length:Int)))=true then
 j9 (if 196=196 ∧ 0 ≤ (v4.getD 3 d0).ii ∧ (v4.getD 3 d0).ii < (((v4.getD 13 d0).ll).length:Int) then
 ja (if (!(((((v4.getD 13 d0).ll).getD ((v4.getD 3 d0).ii).toNat []).getD 3 d0).ss == ([33]:List UInt8)))=true then
 .norm [qS v4 0,qL v4 1,qI v4 2,qI v4 3,.b true,qL v4 4,qL v4 5,qL v4 6,qI v4 7,qB v4 8,qS v4 9,qS v4 10,qL v4 11,qL v4 12,qL v4 13,qL v4 14,qL v4 15,qB v4 16,qL v4 17,.s (((((v4.getD 13 d0).ll).getD ((v4.getD 3 d0).ii).toNat []).getD 0 d0).ss),.s (((((v4.getD 13 d0).ll).getD ((v4.getD 3 d0).ii).toNat []).getD 1 d0).ss),.s (((((v4.getD 13 d0).ll).getD ((v4.getD 3 d0).ii).toNat []).getD 2 d0).ss),.s (((((v4.getD 13 d0).ll).getD ((v4.getD 3 d0).ii).toNat []).getD 3 d0).ss),.b (((((v4.getD 13 d0).ll).getD ((v4.getD 3 d0).ii).toNat []).getD 4 d0).bb),.i (((((v4.getD 13 d0).ll).getD ((v4.getD 3 d0).ii).toNat []).getD 5 d0).ii),.s (((((v4.getD 13 d0).ll).getD ((v4.getD 3 d0).ii).toNat []).getD 6 d0).ss),.sl (((((v4.getD 13 d0).ll).getD ((v4.getD 3 d0).ii).toNat []).getD 7 d0).ll),.sl (((((v4.getD 13 d0).ll).getD ((v4.getD 3 d0).ii).toNat []).getD 8 d0).ll),.sl (((((v4.getD 13 d0).ll).getD ((v4.getD 3 d0).ii).toNat []).getD 9 d0).ll)]
 else
 if ((((v4.getD 13 d0).ll).getD ((v4.getD 3 d0).ii).toNat []).getD 4 d0).bb=true then
 .norm [qS v4 0,qL v4 1,qI v4 2,qI v4 3,.b true,qL v4 4,qL v4 5,qL v4 6,qI v4 7,qB v4 8,qS v4 9,qS v4 10,qL v4 11,qL v4 12,qL v4 13,qL v4 14,qL v4 15,qB v4 16,qL v4 17,.s (((((v4.getD 13 d0).ll).getD ((v4.getD 3 d0).ii).toNat []).getD 0 d0).ss),.s (((((v4.getD 13 d0).ll).getD ((v4.getD 3 d0).ii).toNat []).getD 1 d0).ss),.s (((((v4.getD 13 d0).ll).getD ((v4.getD 3 d0).ii).toNat []).getD 2 d0).ss),.s (((((v4.getD 13 d0).ll).getD ((v4.getD 3 d0).ii).toNat []).getD 3 d0).ss),.b (((((v4.getD 13 d0).ll).getD ((v4.getD 3 d0).ii).toNat []).getD 4 d0).bb),.i (((((v4.getD 13 d0).ll).getD ((v4.getD 3 d0).ii).toNat []).getD 5 d0).ii),.s (((((v4.getD 13 d0).ll).getD ((v4.getD 3 d0).ii).toNat []).getD 6 d0).ss),.sl (((((v4.getD 13 d0).ll).getD ((v4.getD 3 d0).ii).toNat []).getD 7 d0).ll),.sl (((((v4.getD 13 d0).ll).getD ((v4.getD 3 d0).ii).toNat []).getD 8 d0).ll),.sl (((((v4.getD 13 d0).ll).getD ((v4.getD 3 d0).ii).toNat []).getD 9 d0).ll)]
 else
 (jU [qL v4 4,qL v4 5,qL v4 6,.s (((((v4.getD 13 d0).ll).getD ((v4.getD 3 d0).ii).toNat []).getD 2 d0).ss)]).bindR fun r5 =>
 .norm [qS v4 0,qL v4 1,qI v4 2,qI v4 3,.b ((r5.getD 0 d0).ii != (6:Int)),qL v4 4,qL v4 5,qL v4 6,qI v4 7,qB v4 8,qS v4 9,qS v4 10,qL v4 11,qL v4 12,qL v4 13,qL v4 14,qL v4 15,qB v4 16,qL v4 17,.s (((((v4.getD 13 d0).ll).getD ((v4.getD 3 d0).ii).toNat []).getD 0 d0).ss),.s (((((v4.getD 13 d0).ll).getD ((v4.getD 3 d0).ii).toNat []).getD 1 d0).ss),.s (((((v4.getD 13 d0).ll).getD ((v4.getD 3 d0).ii).toNat []).getD 2 d0).ss),.s (((((v4.getD 13 d0).ll).getD ((v4.getD 3 d0).ii).toNat []).getD 3 d0).ss),.b (((((v4.getD 13 d0).ll).getD ((v4.getD 3 d0).ii).toNat []).getD 4 d0).bb),.i (((((v4.getD 13 d0).ll).getD ((v4.getD 3 d0).ii).toNat []).getD 5 d0).ii),.s (((((v4.getD 13 d0).ll).getD ((v4.getD 3 d0).ii).toNat []).getD 6 d0).ss),.sl (((((v4.getD 13 d0).ll).getD ((v4.getD 3 d0).ii).toNat []).getD 7 d0).ll),.sl (((((v4.getD 13 d0).ll).getD ((v4.getD 3 d0).ii).toNat []).getD 8 d0).ll),.sl (((((v4.getD 13 d0).ll).getD ((v4.getD 3 d0).ii).toNat []).getD 9 d0).ll)]) fun v6 =>
 if (v6.getD 4 d0).bb=true then
 .ex 3 [qS v6 0,qL v6 1,qI v6 2,qI v6 3,qL v6 5,qL v6 6,qL v6 7,qI v6 8,qB v6 9,qS v6 10,qS v6 11,qL v6 12,qL v6 13,qL v6 14,qL v6 15,qL v6 16,qB v6 17,qL v6 18]
 else
 if ((v6.getD 21 d0).ss == (v6.getD 0 d0).ss)=true then
 .ret [.b true]
 else
 (jN [qL v6 1,qS v6 21]).bindR fun r7 =>
 ja (if (!((r7.getD 0 d0).bb))=true then
 if ((v6.getD 1 d0).ll).length + [[qS v6 21]].length < jT then
 .norm [qS v6 0,.sl (((v6.getD 1 d0).ll) ++ [[qS v6 21]]),qI v6 2,qI v6 3,qL v6 5,qL v6 6,qL v6 7,qI v6 8,qB v6 9,qS v6 10,qS v6 11,qL v6 12,qL v6 13,qL v6 14,qL v6 15,qL v6 16,qB v6 17,qL v6 18]
 else
 .fail
 else
 .norm [qS v6 0,qL v6 1,qI v6 2,qI v6 3,qL v6 5,qL v6 6,qL v6 7,qI v6 8,qB v6 9,qS v6 10,qS v6 11,qL v6 12,qL v6 13,qL v6 14,qL v6 15,qL v6 16,qB v6 17,qL v6 18]) fun v8 =>
 .norm [qS v8 0,qL v8 1,qI v8 2,qI v8 3,qL v8 4,qL v8 5,qL v8 6,qI v8 7,qB v8 8,qS v8 9,qS v8 10,qL v8 11,qL v8 12,qL v8 13,qL v8 14,qL v8 15,qB v8 16,qL v8 17]
 else
 .fail) 3 fun v9 =>
 .norm [qS v9 0,qL v9 1,qI v9 2,.i (IntKind.i64.wrap ((v9.getD 3 d0).ii + (1:Int))),qL v9 4,qL v9 5,qL v9 6,qI v9 7,qB v9 8,qS v9 9,qS v9 10,qL v9 11,qL v9 12,qL v9 13,qL v9 14,qL v9 15,qB v9 16,qL v9 17]
 else
 .ex 2 [qS v4 0,qL v4 1,qI v4 2,qL v4 4,qL v4 5,qL v4 6]
noncomputable def qv:List DC → Out:=fun v2 =>
 if (decide ((v2.getD 2 d0).ii < (((v2.getD 1 d0).ll).length:Int)))=true then
 j9 (if 9=9 ∧ 0 ≤ (v2.getD 2 d0).ii ∧ (v2.getD 2 d0).ii < (((v2.getD 1 d0).ll).length:Int) then
 (p9 [qL v2 3,qL v2 4,qL v2 5,.s (((((v2.getD 1 d0).ll).getD ((v2.getD 2 d0).ii).toNat []).getD 0 d0).ss)]).bindR fun r3 =>
 if 37=37 ∧ 0 ≤ (r3.getD 0 d0).ii ∧ (r3.getD 0 d0).ii < (((v2.getD 3 d0).ll).length:Int) then
 j9 (jy kY [qS v2 0,qL v2 1,qI v2 2,.i (0:Int),qL v2 3,qL v2 4,qL v2 5,.i (((((v2.getD 3 d0).ll).getD ((r3.getD 0 d0).ii).toNat []).getD 0 d0).ii),.b (((((v2.getD 3 d0).ll).getD ((r3.getD 0 d0).ii).toNat []).getD 1 d0).bb),.s (((((v2.getD 3 d0).ll).getD ((r3.getD 0 d0).ii).toNat []).getD 2 d0).ss),.s (((((v2.getD 3 d0).ll).getD ((r3.getD 0 d0).ii).toNat []).getD 3 d0).ss),.sl (((((v2.getD 3 d0).ll).getD ((r3.getD 0 d0).ii).toNat []).getD 4 d0).ll),.sl (((((v2.getD 3 d0).ll).getD ((r3.getD 0 d0).ii).toNat []).getD 5 d0).ll),.sl (((((v2.getD 3 d0).ll).getD ((r3.getD 0 d0).ii).toNat []).getD 6 d0).ll),.sl (((((v2.getD 3 d0).ll).getD ((r3.getD 0 d0).ii).toNat []).getD 7 d0).ll),.sl (((((v2.getD 3 d0).ll).getD ((r3.getD 0 d0).ii).toNat []).getD 8 d0).ll),.b (((((v2.getD 3 d0).ll).getD ((r3.getD 0 d0).ii).toNat []).getD 9 d0).bb),.sl (((((v2.getD 3 d0).ll).getD ((r3.getD 0 d0).ii).toNat []).getD 10 d0).ll)]) 2 fun v10 =>
 .norm [qS v10 0,qL v10 1,qI v10 2,qL v10 3,qL v10 4,qL v10 5]
 else
 .fail
 else
 .fail) 1 fun v11 =>
 .norm [qS v11 0,qL v11 1,.i (IntKind.i64.wrap ((v11.getD 2 d0).ii + (1:Int))),qL v11 3,qL v11 4,qL v11 5]
 else
 .ex 0 []
noncomputable def K2 (a:List DC):Out :=
 (jU [qL a 0,qL a 1,qL a 2,qS a 3]).bindR fun r1 =>
 if ((r1.getD 0 d0).ii != (6:Int))=true then
 .ret [.b false]
 else
 j9 (jy qv [qS a 3,.sl [[qS a 3]],.i (0:Int),qL a 0,qL a 1,qL a 2]) 0 fun v12 =>
 .ret [.b false]
theorem j2l a:QB a=K2 a:=(jq cfg 128 _ a).trans (by kernel_rfl)
noncomputable def VV (a:List DC):Out :=
 (JC [qI a 0]).bindR fun r1 =>
 if (!((r1.getD 0 d0).bb))=true then
 .ret [.s ([]:List UInt8)]
 else
 j9 (if (decide ((a.getD 0 d0).ii < (128:Int)))=true then
 .ret [.s (KH [[DC.i (IntKind.u8.wrap ((a.getD 0 d0).ii))]])]
 else
 if (decide ((a.getD 0 d0).ii < (2048:Int)))=true then
 if (64:Int)=0 then
 .fail
 else
 if (64:Int)=0 then
 .fail
 else
 .ret [.s (KH [[DC.i (IntKind.u8.wrap (IntKind.i64.wrap ((192:Int) + (IntKind.i64.wrap (((a.getD 0 d0).ii).tdiv (64:Int))))))],[DC.i (IntKind.u8.wrap (IntKind.i64.wrap ((128:Int) + (((a.getD 0 d0).ii).tmod (64:Int)))))]])]
 else
 if (decide ((a.getD 0 d0).ii < (65536:Int)))=true then
 if (4096:Int)=0 then
 .fail
 else
 if (64:Int)=0 then
 .fail
 else
 if (64:Int)=0 then
 .fail
 else
 if (64:Int)=0 then
 .fail
 else
 .ret [.s (KH [[DC.i (IntKind.u8.wrap (IntKind.i64.wrap ((224:Int) + (IntKind.i64.wrap (((a.getD 0 d0).ii).tdiv (4096:Int))))))],[DC.i (IntKind.u8.wrap (IntKind.i64.wrap ((128:Int) + ((IntKind.i64.wrap (((a.getD 0 d0).ii).tdiv (64:Int))).tmod (64:Int)))))],[DC.i (IntKind.u8.wrap (IntKind.i64.wrap ((128:Int) + (((a.getD 0 d0).ii).tmod (64:Int)))))]])]
 else
 .norm [qI a 0]) 0 fun v2 =>
 if (262144:Int)=0 then
 .fail
 else
 if (4096:Int)=0 then
 .fail
 else
 if (64:Int)=0 then
 .fail
 else
 if (64:Int)=0 then
 .fail
 else
 if (64:Int)=0 then
 .fail
 else
 if (64:Int)=0 then
 .fail
 else
 .ret [.s (KH [[DC.i (IntKind.u8.wrap (IntKind.i64.wrap ((240:Int) + (IntKind.i64.wrap (((v2.getD 0 d0).ii).tdiv (262144:Int))))))],[DC.i (IntKind.u8.wrap (IntKind.i64.wrap ((128:Int) + ((IntKind.i64.wrap (((v2.getD 0 d0).ii).tdiv (4096:Int))).tmod (64:Int)))))],[DC.i (IntKind.u8.wrap (IntKind.i64.wrap ((128:Int) + ((IntKind.i64.wrap (((v2.getD 0 d0).ii).tdiv (64:Int))).tmod (64:Int)))))],[DC.i (IntKind.u8.wrap (IntKind.i64.wrap ((128:Int) + (((v2.getD 0 d0).ii).tmod (64:Int)))))]])]
theorem j0t (a:List DC):zL a=VV a:=(jq qk 129 _ a).trans (by kernel_rfl)
noncomputable def Vg (a:List DC):Out :=
 ja (if (decide ((a.getD 0 d0).ii ≥ (97:Int)))=true then
 if (decide ((a.getD 0 d0).ii ≤ (122:Int)))=true then
 .norm [.b true]
 else
 if (decide ((a.getD 0 d0).ii ≥ (65:Int)))=true then
 if (decide ((a.getD 0 d0).ii ≤ (90:Int)))=true then
 .norm [.b true]
 else
 .norm [.b ((a.getD 0 d0).ii == (95:Int))]
 else
 .norm [.b ((a.getD 0 d0).ii == (95:Int))]
 else
 if (decide ((a.getD 0 d0).ii ≥ (65:Int)))=true then
 if (decide ((a.getD 0 d0).ii ≤ (90:Int)))=true then
 .norm [.b true]
 else
 .norm [.b ((a.getD 0 d0).ii == (95:Int))]
 else
 .norm [.b ((a.getD 0 d0).ii == (95:Int))]) fun v1 =>
 .ret [qB v1 0]
theorem ZK (a:List DC):pW a=Vg a:=(jq qk 130 _ a).trans (by kernel_rfl)
noncomputable def kF:List DC → Out:=fun v1 =>
 ja (if (decide ((v1.getD 1 d0).ii < (((v1.getD 0 d0).ss).length:Int)))=true then
 if 0 ≤ (v1.getD 1 d0).ii ∧ (v1.getD 1 d0).ii < (((v1.getD 0 d0).ss).length:Int) then
 (pW [.i ((((v1.getD 0 d0).ss).getD ((v1.getD 1 d0).ii).toNat 0).toNat:Int)]).bindR fun r2 =>
 if (r2.getD 0 d0).bb=true then
 .norm [qS v1 0,qI v1 1,.b true]
 else
 if 0 ≤ (v1.getD 1 d0).ii ∧ (v1.getD 1 d0).ii < (((v1.getD 0 d0).ss).length:Int) then
 (kD [.i ((((v1.getD 0 d0).ss).getD ((v1.getD 1 d0).ii).toNat 0).toNat:Int)]).bindR fun r3 =>
 .norm [qS v1 0,qI v1 1,qB r3 0]
 else
 .fail
 else
 .fail
 else
 .norm [qS v1 0,qI v1 1,.b false]) fun v4 =>
 if (v4.getD 2 d0).bb=true then
 j9 (.norm [qS v4 0,.i (IntKind.i64.wrap ((v4.getD 1 d0).ii + (1:Int)))]) 1 fun v5 =>
 .norm [qS v5 0,qI v5 1]
 else
 .ex 0 [qI v4 1]
noncomputable def XC (a:List DC):Out :=
 j9 (jy kF [qS a 0,qI a 1]) 0 fun v6 =>
 .ret [qI v6 0]
theorem j1i (a:List DC):KQ a=XC a:=(jq qk 131 _ a).trans (by kernel_rfl)
noncomputable def kT:List DC → Out:=fun v3 =>
 if (decide ((v3.getD 1 d0).ii < (((v3.getD 0 d0).ss).length:Int)))=true then
 j9 (ja (if 0 ≤ (v3.getD 1 d0).ii ∧ (v3.getD 1 d0).ii < (((v3.getD 0 d0).ss).length:Int) then
 (pW [.i ((((v3.getD 0 d0).ss).getD ((v3.getD 1 d0).ii).toNat 0).toNat:Int)]).bindR fun r4 =>
 if (!((r4.getD 0 d0).bb))=true then
 if 0 ≤ (v3.getD 1 d0).ii ∧ (v3.getD 1 d0).ii < (((v3.getD 0 d0).ss).length:Int) then
 (kD [.i ((((v3.getD 0 d0).ss).getD ((v3.getD 1 d0).ii).toNat 0).toNat:Int)]).bindR fun r5 =>
 .norm [qS v3 0,qI v3 1,.b (!((r5.getD 0 d0).bb))]
 else
 .fail
 else
 .norm [qS v3 0,qI v3 1,.b false]
 else
 .fail) fun v6 =>
 if (v6.getD 2 d0).bb=true then
 .ret [.b false]
 else
 .norm [qS v6 0,qI v6 1]) 1 fun v7 =>
 .norm [qS v7 0,.i (IntKind.i64.wrap ((v7.getD 1 d0).ii + (1:Int)))]
 else
 .ex 0 []
noncomputable def Ys (a:List DC):Out :=
 ja (if ((((a.getD 0 d0).ss).length:Int) == (0:Int))=true then
 .norm [qS a 0,.b true]
 else
 if (decide ((((a.getD 0 d0).ss).length:Int) > (30:Int)))=true then
 .norm [qS a 0,.b true]
 else
 if 0 ≤ (0:Int) ∧ (0:Int) < (((a.getD 0 d0).ss).length:Int) then
 (kD [.i ((((a.getD 0 d0).ss).getD (0:Int).toNat 0).toNat:Int)]).bindR fun r1 =>
 .norm [qS a 0,qB r1 0]
 else
 .fail) fun v2 =>
 if (v2.getD 1 d0).bb=true then
 .ret [.b false]
 else
 j9 (jy kT [qS v2 0,.i (0:Int)]) 0 fun v8 =>
 .ret [.b true]
theorem j22 (a:List DC):Qs a=Ys a:=(jq qk 132 _ a).trans (by kernel_rfl)
noncomputable def Vh (a:List DC):Out :=
 ja (if (decide ((a.getD 0 d0).ii ≥ (48:Int)))=true then
 .norm [.b (decide ((a.getD 0 d0).ii ≤ (57:Int)))]
 else
 .norm [.b false]) fun v1 =>
 .ret [qB v1 0]
theorem ZL (a:List DC):kD a=Vh a:=(jq qk 133 _ a).trans (by kernel_rfl)
noncomputable def Kp (a:List DC):Out :=
 ja (if (decide ((a.getD 0 d0).ii ≥ (48:Int)))=true then
 .norm [.b (decide ((a.getD 0 d0).ii ≤ (57:Int)))]
 else
 .norm [.b false]) fun v1 =>
 .ret [qB v1 0]
theorem j0B a:Ke a=Kp a:=(jq cfg 133 _ a).trans (by kernel_rfl)
noncomputable def kq:List DC → Out:=fun v1 =>
 ja (if (decide ((v1.getD 1 d0).ii < (((v1.getD 0 d0).ss).length:Int)))=true then
 if 0 ≤ (v1.getD 1 d0).ii ∧ (v1.getD 1 d0).ii < (((v1.getD 0 d0).ss).length:Int) then
 (pW [.i ((((v1.getD 0 d0).ss).getD ((v1.getD 1 d0).ii).toNat 0).toNat:Int)]).bindR fun r2 =>
 if (r2.getD 0 d0).bb=true then
 .norm [qS v1 0,qI v1 1,.b true]
 else
 if 0 ≤ (v1.getD 1 d0).ii ∧ (v1.getD 1 d0).ii < (((v1.getD 0 d0).ss).length:Int) then
 (kD [.i ((((v1.getD 0 d0).ss).getD ((v1.getD 1 d0).ii).toNat 0).toNat:Int)]).bindR fun r3 =>
 if (r3.getD 0 d0).bb=true then
 .norm [qS v1 0,qI v1 1,.b true]
 else
 if 0 ≤ (v1.getD 1 d0).ii ∧ (v1.getD 1 d0).ii < (((v1.getD 0 d0).ss).length:Int) then
 if (((((v1.getD 0 d0).ss).getD ((v1.getD 1 d0).ii).toNat 0).toNat:Int) == (46:Int))=true then
 .norm [qS v1 0,qI v1 1,.b true]
 else
 if 0 ≤ (v1.getD 1 d0).ii ∧ (v1.getD 1 d0).ii < (((v1.getD 0 d0).ss).length:Int) then
 if (((((v1.getD 0 d0).ss).getD ((v1.getD 1 d0).ii).toNat 0).toNat:Int) == (43:Int))=true then
 if 0 ≤ (IntKind.i64.wrap ((v1.getD 1 d0).ii - (1:Int))) ∧ (IntKind.i64.wrap ((v1.getD 1 d0).ii - (1:Int))) < (((v1.getD 0 d0).ss).length:Int) then
 if (((((v1.getD 0 d0).ss).getD (IntKind.i64.wrap ((v1.getD 1 d0).ii - (1:Int))).toNat 0).toNat:Int) == (101:Int))=true then
 .norm [qS v1 0,qI v1 1,.b true]
 else
 if 0 ≤ (IntKind.i64.wrap ((v1.getD 1 d0).ii - (1:Int))) ∧ (IntKind.i64.wrap ((v1.getD 1 d0).ii - (1:Int))) < (((v1.getD 0 d0).ss).length:Int) then
 .norm [qS v1 0,qI v1 1,.b (((((v1.getD 0 d0).ss).getD (IntKind.i64.wrap ((v1.getD 1 d0).ii - (1:Int))).toNat 0).toNat:Int) == (69:Int))]
 else
 .fail
 else
 .fail
 else
 if 0 ≤ (v1.getD 1 d0).ii ∧ (v1.getD 1 d0).ii < (((v1.getD 0 d0).ss).length:Int) then
 if (((((v1.getD 0 d0).ss).getD ((v1.getD 1 d0).ii).toNat 0).toNat:Int) == (45:Int))=true then
 if 0 ≤ (IntKind.i64.wrap ((v1.getD 1 d0).ii - (1:Int))) ∧ (IntKind.i64.wrap ((v1.getD 1 d0).ii - (1:Int))) < (((v1.getD 0 d0).ss).length:Int) then
 if (((((v1.getD 0 d0).ss).getD (IntKind.i64.wrap ((v1.getD 1 d0).ii - (1:Int))).toNat 0).toNat:Int) == (101:Int))=true then
 .norm [qS v1 0,qI v1 1,.b true]
 else
 if 0 ≤ (IntKind.i64.wrap ((v1.getD 1 d0).ii - (1:Int))) ∧ (IntKind.i64.wrap ((v1.getD 1 d0).ii - (1:Int))) < (((v1.getD 0 d0).ss).length:Int) then
 .norm [qS v1 0,qI v1 1,.b (((((v1.getD 0 d0).ss).getD (IntKind.i64.wrap ((v1.getD 1 d0).ii - (1:Int))).toNat 0).toNat:Int) == (69:Int))]
 else
 .fail
 else
 .fail
 else
 .norm [qS v1 0,qI v1 1,.b false]
 else
 .fail
 else
 .fail
 else
 .fail
 else
 .fail
 else
 .fail
 else
 .norm [qS v1 0,qI v1 1,.b false]) fun v4 =>
 if (v4.getD 2 d0).bb=true then
 j9 (.norm [qS v4 0,.i (IntKind.i64.wrap ((v4.getD 1 d0).ii + (1:Int)))]) 1 fun v5 =>
 .norm [qS v5 0,qI v5 1]
 else
 .ex 0 [qI v4 1]
noncomputable def Vf (a:List DC):Out :=
 j9 (jy kq [qS a 0,.i (IntKind.i64.wrap ((a.getD 1 d0).ii + (1:Int)))]) 0 fun v6 =>
 .ret [qI v6 0]
theorem ZJ (a:List DC):JB a=Vf a:=(jq qk 134 _ a).trans (by kernel_rfl)
noncomputable def Zk (a:List DC):Out :=
 ja (if (decide ((((a.getD 0 d0).ss).length:Int) ≤ (40:Int)))=true then
 if (decide ((((a.getD 0 d0).ss).length:Int) > (0:Int)))=true then
 (Qq [qS a 0]).bindR fun r1 =>
 .norm [.b ((r1.getD 0 d0).ii == (((a.getD 0 d0).ss).length:Int))]
 else
 .norm [.b false]
 else
 .norm [.b false]) fun v2 =>
 .ret [qB v2 0]
theorem j37 (a:List DC):Kt a=Zk a:=(jq qk 135 _ a).trans (by kernel_rfl)
noncomputable def Qh (a:List DC):Out :=
 ja (if (decide ((((a.getD 0 d0).ss).length:Int) ≤ (40:Int)))=true then
 if (decide ((((a.getD 0 d0).ss).length:Int) > (0:Int)))=true then
 (Vw [qS a 0]).bindR fun r1 =>
 .norm [.b ((r1.getD 0 d0).ii == (((a.getD 0 d0).ss).length:Int))]
 else
 .norm [.b false]
 else
 .norm [.b false]) fun v2 =>
 .ret [qB v2 0]
theorem j3K a:Xb a=Qh a:=(jq cfg 135 _ a).trans (by kernel_rfl)
noncomputable def VT (a:List DC):Out :=
 ja (if (decide ((IntKind.i64.wrap ((a.getD 1 d0).ii + (3:Int))) ≤ (((a.getD 0 d0).ss).length:Int)))=true then
 if 0 ≤ (a.getD 1 d0).ii ∧ (a.getD 1 d0).ii ≤ (IntKind.i64.wrap ((a.getD 1 d0).ii + (3:Int))) ∧ (IntKind.i64.wrap ((a.getD 1 d0).ii + (3:Int))) ≤ (((a.getD 0 d0).ss).length:Int) then
 .norm [.b (((((a.getD 0 d0).ss).take (IntKind.i64.wrap ((a.getD 1 d0).ii + (3:Int))).toNat).drop ((a.getD 1 d0).ii).toNat) == ([34,34,34]:List UInt8))]
 else
 .fail
 else
 .norm [.b false]) fun v1 =>
 .ret [qB v1 0]
theorem j0r (a:List DC):K6 a=VT a:=(jq qk 137 _ a).trans (by kernel_rfl)
noncomputable def ye:List DC → Out:=fun v2 =>
 if (decide ((v2.getD 1 d0).ii < (((v2.getD 0 d0).ss).length:Int)))=true then
 j9 (if 0 ≤ (v2.getD 1 d0).ii ∧ (v2.getD 1 d0).ii < (((v2.getD 0 d0).ss).length:Int) then
 j9 (if (((((v2.getD 0 d0).ss).getD ((v2.getD 1 d0).ii).toNat 0).toNat:Int) == (34:Int))=true then
 .ret [.i (IntKind.i64.wrap ((v2.getD 1 d0).ii + (1:Int)))]
 else
 ja (if (((((v2.getD 0 d0).ss).getD ((v2.getD 1 d0).ii).toNat 0).toNat:Int) == (10:Int))=true then
 .norm [qS v2 0,qI v2 1,.i ((((v2.getD 0 d0).ss).getD ((v2.getD 1 d0).ii).toNat 0).toNat:Int),.b (((((v2.getD 0 d0).ss).getD ((v2.getD 1 d0).ii).toNat 0).toNat:Int) == (10:Int))]
 else
 .norm [qS v2 0,qI v2 1,.i ((((v2.getD 0 d0).ss).getD ((v2.getD 1 d0).ii).toNat 0).toNat:Int),.b (((((v2.getD 0 d0).ss).getD ((v2.getD 1 d0).ii).toNat 0).toNat:Int) == (13:Int))]) fun v3 =>
 if (v3.getD 3 d0).bb=true then
 .ret [.i (-1:Int)]
 else
 ja (if ((v3.getD 2 d0).ii == (92:Int))=true then
 ja (if (decide ((IntKind.i64.wrap ((v3.getD 1 d0).ii + (1:Int))) < (((v3.getD 0 d0).ss).length:Int)))=true then
 if 0 ≤ (IntKind.i64.wrap ((v3.getD 1 d0).ii + (1:Int))) ∧ (IntKind.i64.wrap ((v3.getD 1 d0).ii + (1:Int))) < (((v3.getD 0 d0).ss).length:Int) then
 if (((((v3.getD 0 d0).ss).getD (IntKind.i64.wrap ((v3.getD 1 d0).ii + (1:Int))).toNat 0).toNat:Int) == (10:Int))=true then
 .norm [qS v3 0,.i (IntKind.i64.wrap ((v3.getD 1 d0).ii + (1:Int))),.b true]
 else
 if 0 ≤ (IntKind.i64.wrap ((v3.getD 1 d0).ii + (1:Int))) ∧ (IntKind.i64.wrap ((v3.getD 1 d0).ii + (1:Int))) < (((v3.getD 0 d0).ss).length:Int) then
 .norm [qS v3 0,.i (IntKind.i64.wrap ((v3.getD 1 d0).ii + (1:Int))),.b (((((v3.getD 0 d0).ss).getD (IntKind.i64.wrap ((v3.getD 1 d0).ii + (1:Int))).toNat 0).toNat:Int) == (13:Int))]
 else
 .fail
 else
 .fail
 else
 .norm [qS v3 0,.i (IntKind.i64.wrap ((v3.getD 1 d0).ii + (1:Int))),.b false]) fun v4 =>
 if (v4.getD 2 d0).bb=true then
 .ret [.i (-1:Int)]
 else
 .norm [qS v4 0,qI v4 1]
 else
 .norm [qS v3 0,qI v3 1]) fun v5 =>
 .norm [qS v5 0,qI v5 1]) 2 fun v6 =>
 .norm [qS v6 0,qI v6 1]
 else
 .fail) 1 fun v7 =>
 .norm [qS v7 0,.i (IntKind.i64.wrap ((v7.getD 1 d0).ii + (1:Int)))]
 else
 .ex 0 []
noncomputable def Vk (a:List DC):Out :=
 ja (if (decide ((a.getD 1 d0).ii < (0:Int)))=true then
 .norm [qS a 0,qI a 1,.b true]
 else
 if (decide ((a.getD 1 d0).ii ≥ (((a.getD 0 d0).ss).length:Int)))=true then
 .norm [qS a 0,qI a 1,.b true]
 else
 if 0 ≤ (a.getD 1 d0).ii ∧ (a.getD 1 d0).ii < (((a.getD 0 d0).ss).length:Int) then
 .norm [qS a 0,qI a 1,.b (((((a.getD 0 d0).ss).getD ((a.getD 1 d0).ii).toNat 0).toNat:Int) != (34:Int))]
 else
 .fail) fun v1 =>
 if (v1.getD 2 d0).bb=true then
 .ret [.i (-1:Int)]
 else
 j9 (jy ye [qS v1 0,.i (IntKind.i64.wrap ((v1.getD 1 d0).ii + (1:Int)))]) 0 fun v8 =>
 .ret [.i (-1:Int)]
theorem ZO (a:List DC):JE a=Vk a:=(jq qk 140 _ a).trans (by kernel_rfl)
noncomputable def yd:List DC → Out:=fun v2 =>
 if (decide ((v2.getD 2 d0).ii < (((v2.getD 0 d0).ss).length:Int)))=true then
 j9 (if 0 ≤ (v2.getD 2 d0).ii ∧ (v2.getD 2 d0).ii < (((v2.getD 0 d0).ss).length:Int) then
 ja (if (((((v2.getD 0 d0).ss).getD ((v2.getD 2 d0).ii).toNat 0).toNat:Int) == (92:Int))=true then
 (j1V [qS v2 0,qI v2 2]).bindR fun r3 =>
 .norm [qS v2 0,qL v2 1,qI r3 0,qI r3 1]
 else
 (zp [qS v2 0,qI v2 2]).bindR fun r4 =>
 ja (if ((r4.getD 0 d0).ii == (34:Int))=true then
 .norm [qS v2 0,qL v2 1,qI r4 0,.i (IntKind.i64.wrap ((v2.getD 2 d0).ii + (r4.getD 1 d0).ii)),.b true]
 else
 if (decide ((r4.getD 0 d0).ii < (32:Int)))=true then
 .norm [qS v2 0,qL v2 1,qI r4 0,.i (IntKind.i64.wrap ((v2.getD 2 d0).ii + (r4.getD 1 d0).ii)),.b ((r4.getD 0 d0).ii != (9:Int))]
 else
 .norm [qS v2 0,qL v2 1,qI r4 0,.i (IntKind.i64.wrap ((v2.getD 2 d0).ii + (r4.getD 1 d0).ii)),.b false]) fun v5 =>
 ja (if (v5.getD 4 d0).bb=true then
 .norm [qS v5 0,qL v5 1,.i (-1:Int),qI v5 3]
 else
 .norm [qS v5 0,qL v5 1,qI v5 2,qI v5 3]) fun v6 =>
 .norm [qS v6 0,qL v6 1,qI v6 2,qI v6 3]) fun v7 =>
 if (decide ((v7.getD 2 d0).ii < (0:Int)))=true then
 .ret [.s ([]:List UInt8),.b false]
 else
 (zL [qI v7 2]).bindR fun r8 =>
 if ((v7.getD 1 d0).ll).length + (JW ((r8.getD 0 d0).ss)).length < jT then
 .norm [qS v7 0,.sl (((v7.getD 1 d0).ll) ++ (JW ((r8.getD 0 d0).ss))),qI v7 3]
 else
 .fail
 else
 .fail) 1 fun v9 =>
 .norm [qS v9 0,qL v9 1,qI v9 2]
 else
 .ex 0 [qL v2 1]
noncomputable def Vj (a:List DC):Out :=
 ja (if (decide ((((a.getD 0 d0).ss).length:Int) < (2:Int)))=true then
 .norm [qS a 0,.b true]
 else
 if (decide ((((a.getD 0 d0).ss).length:Int) > (1300:Int)))=true then
 .norm [qS a 0,.b true]
 else
 if 0 ≤ (0:Int) ∧ (0:Int) < (((a.getD 0 d0).ss).length:Int) then
 if (((((a.getD 0 d0).ss).getD (0:Int).toNat 0).toNat:Int) != (34:Int))=true then
 .norm [qS a 0,.b true]
 else
 if 0 ≤ (IntKind.i64.wrap ((((a.getD 0 d0).ss).length:Int) - (1:Int))) ∧ (IntKind.i64.wrap ((((a.getD 0 d0).ss).length:Int) - (1:Int))) < (((a.getD 0 d0).ss).length:Int) then
 .norm [qS a 0,.b (((((a.getD 0 d0).ss).getD (IntKind.i64.wrap ((((a.getD 0 d0).ss).length:Int) - (1:Int))).toNat 0).toNat:Int) != (34:Int))]
 else
 .fail
 else
 .fail) fun v1 =>
 if (v1.getD 1 d0).bb=true then
 .ret [.s ([]:List UInt8),.b false]
 else
 if 0 ≤ (1:Int) ∧ (1:Int) ≤ (IntKind.i64.wrap ((((v1.getD 0 d0).ss).length:Int) - (1:Int))) ∧ (IntKind.i64.wrap ((((v1.getD 0 d0).ss).length:Int) - (1:Int))) ≤ (((v1.getD 0 d0).ss).length:Int) then
 j9 (jy yd [.s ((((v1.getD 0 d0).ss).take (IntKind.i64.wrap ((((v1.getD 0 d0).ss).length:Int) - (1:Int))).toNat).drop (1:Int).toNat),.sl [],.i (0:Int)]) 0 fun v10 =>
 if (decide ((((v10.getD 0 d0).ll).length:Int) > (200:Int)))=true then
 .ret [.s ([]:List UInt8),.b false]
 else
 .ret [.s (KH ((v10.getD 0 d0).ll)),.b true]
 else
 .fail
theorem ZN (a:List DC):JD a=Vj a:=(jq qk 141 _ a).trans (by kernel_rfl)
noncomputable def j3t (a:List DC):Out :=
 j9 (ja (if ((a.getD 0 d0).ss == ([33]:List UInt8))=true then
 .norm [.b ((a.getD 0 d0).ss == ([33]:List UInt8))]
 else
 ja (if ((a.getD 0 d0).ss == ([36]:List UInt8))=true then
 .norm [.b ((a.getD 0 d0).ss == ([36]:List UInt8))]
 else
 ja (if ((a.getD 0 d0).ss == ([38]:List UInt8))=true then
 .norm [.b ((a.getD 0 d0).ss == ([38]:List UInt8))]
 else
 ja (if ((a.getD 0 d0).ss == ([40]:List UInt8))=true then
 .norm [.b ((a.getD 0 d0).ss == ([40]:List UInt8))]
 else
 ja (if ((a.getD 0 d0).ss == ([41]:List UInt8))=true then
 .norm [.b ((a.getD 0 d0).ss == ([41]:List UInt8))]
 else
 ja (if ((a.getD 0 d0).ss == ([46,46,46]:List UInt8))=true then
 .norm [.b ((a.getD 0 d0).ss == ([46,46,46]:List UInt8))]
 else
 ja (if ((a.getD 0 d0).ss == ([58]:List UInt8))=true then
 .norm [.b ((a.getD 0 d0).ss == ([58]:List UInt8))]
 else
 ja (if ((a.getD 0 d0).ss == ([61]:List UInt8))=true then
 .norm [.b ((a.getD 0 d0).ss == ([61]:List UInt8))]
 else
 ja (if ((a.getD 0 d0).ss == ([64]:List UInt8))=true then
 .norm [.b ((a.getD 0 d0).ss == ([64]:List UInt8))]
 else
 ja (if ((a.getD 0 d0).ss == ([91]:List UInt8))=true then
 .norm [.b ((a.getD 0 d0).ss == ([91]:List UInt8))]
 else
 ja (if ((a.getD 0 d0).ss == ([93]:List UInt8))=true then
 .norm [.b ((a.getD 0 d0).ss == ([93]:List UInt8))]
 else
 ja (if ((a.getD 0 d0).ss == ([123]:List UInt8))=true then
 .norm [.b ((a.getD 0 d0).ss == ([123]:List UInt8))]
 else
 ja (if ((a.getD 0 d0).ss == ([124]:List UInt8))=true then
 .norm [.b ((a.getD 0 d0).ss == ([124]:List UInt8))]
 else
 .norm [.b ((a.getD 0 d0).ss == ([125]:List UInt8))]) fun v1 =>
 .norm [qB v1 0]) fun v2 =>
 .norm [qB v2 0]) fun v3 =>
 .norm [qB v3 0]) fun v4 =>
 .norm [qB v4 0]) fun v5 =>
 .norm [qB v5 0]) fun v6 =>
 .norm [qB v6 0]) fun v7 =>
 .norm [qB v7 0]) fun v8 =>
 .norm [qB v8 0]) fun v9 =>
 .norm [qB v9 0]) fun v10 =>
 .norm [qB v10 0]) fun v11 =>
 .norm [qB v11 0]) fun v12 =>
 .norm [qB v12 0]) fun v13 =>
 if (v13.getD 0 d0).bb=true then
 .ret [.b true]
 else
 .norm []) 0 fun v14 =>
 .ret [.b false]
theorem j20 (a:List DC):Qr a=j3t a:=(jq qk 142 _ a).trans (by kernel_rfl)
noncomputable def qu:List DC → Out:=fun v1 =>
 (qi [.s ([91]:List UInt8),qL v1 1,qI v1 2,qI v1 3,qI v1 4,qI v1 5]).bindR fun r2 =>
 if (r2.getD 0 d0).bb=true then
 j9 (if ((v1.getD 0 d0).ii == (8:Int))=true then
 (jL [.i (8:Int),qL r2 1,qI r2 2,qI r2 3,qI r2 4,qI r2 5]).bindR fun r3 =>
 .ret [qS v1 8,qS v1 9,qL r3 0,qI r3 1,qI r3 2,qI r3 3,qI r3 4]
 else
 .norm [.i (IntKind.i64.wrap ((v1.getD 0 d0).ii + (1:Int))),qL r2 1,.i (IntKind.i64.wrap ((r2.getD 2 d0).ii + (1:Int))),qI r2 3,qI r2 4,qI r2 5,qS v1 6,qS v1 7,qS v1 8,qS v1 9]) 1 fun v4 =>
 .norm [qI v4 0,qL v4 1,qI v4 2,qI v4 3,qI v4 4,qI v4 5,qS v4 6,qS v4 7,qS v4 8,qS v4 9]
 else
 .ex 0 [qI v1 0,qL r2 1,qI r2 2,qI r2 3,qI r2 4,qI r2 5,qS v1 6,qS v1 7,qS v1 8,qS v1 9]
noncomputable def pL:List DC → Out:=fun v7 =>
 if ((v7.getD 4 d0).ii == (0:Int))=true then
 j9 (ja ((qi [.s ([33]:List UInt8),qL v7 1,qI v7 2,qI v7 3,qI v7 4,qI v7 5]).bindR fun r8 =>
 if (r8.getD 0 d0).bb=true then
 if ((v7.getD 9 d0).ss == ([]:List UInt8))=true then
 .norm [qI v7 0,.b true,qL r8 1,qI r8 2,qI r8 3,qI r8 4,qI r8 5,qS v7 6,qS v7 7,qS v7 8,qS v7 9]
 else
 if 0 ≤ (IntKind.i64.wrap ((((v7.getD 9 d0).ss).length:Int) - (1:Int))) ∧ (IntKind.i64.wrap ((((v7.getD 9 d0).ss).length:Int) - (1:Int))) < (((v7.getD 9 d0).ss).length:Int) then
 .norm [qI v7 0,.b (((((v7.getD 9 d0).ss).getD (IntKind.i64.wrap ((((v7.getD 9 d0).ss).length:Int) - (1:Int))).toNat 0).toNat:Int) != (33:Int)),qL r8 1,qI r8 2,qI r8 3,qI r8 4,qI r8 5,qS v7 6,qS v7 7,qS v7 8,qS v7 9]
 else
 .fail
 else
 .norm [qI v7 0,.b false,qL r8 1,qI r8 2,qI r8 3,qI r8 4,qI r8 5,qS v7 6,qS v7 7,qS v7 8,qS v7 9]) fun v9 =>
 if (v9.getD 1 d0).bb=true then
 (JK [qS v9 9,qS v9 10,.s ([33]:List UInt8),qL v9 2,qI v9 3,qI v9 4,qI v9 5,qI v9 6]).bindR fun r10 =>
 .ex 3 [qI v9 0,qL r10 2,qI r10 3,qI r10 4,qI r10 5,qI r10 6,qS v9 7,qS v9 8,qS r10 0,qS r10 1]
 else
 if ((v9.getD 0 d0).ii == (0:Int))=true then
 .ret [qS v9 9,qS v9 10,qL v9 2,qI v9 3,qI v9 4,qI v9 5,qI v9 6]
 else
 (qi [.s ([93]:List UInt8),qL v9 2,qI v9 3,qI v9 4,qI v9 5,qI v9 6]).bindR fun r11 =>
 if (!((r11.getD 0 d0).bb))=true then
 (jL [.i (7:Int),qL r11 1,qI r11 2,qI r11 3,qI r11 4,qI r11 5]).bindR fun r12 =>
 .ret [qS v9 9,qS v9 10,qL r12 0,qI r12 1,qI r12 2,qI r12 3,qI r12 4]
 else
 (JK [qS v9 9,qS v9 10,.s ([93]:List UInt8),qL r11 1,qI r11 2,qI r11 3,qI r11 4,qI r11 5]).bindR fun r13 =>
 .norm [.i (IntKind.i64.wrap ((v9.getD 0 d0).ii - (1:Int))),qL r13 2,qI r13 3,qI r13 4,qI r13 5,qI r13 6,qS v9 7,qS v9 8,qS r13 0,qS r13 1]) 3 fun v14 =>
 .norm [qI v14 0,qL v14 1,qI v14 2,qI v14 3,qI v14 4,qI v14 5,qS v14 6,qS v14 7,qS v14 8,qS v14 9]
 else
 .ex 2 [qL v7 1,qI v7 2,qI v7 3,qI v7 4,qI v7 5,qS v7 6,qS v7 7,qS v7 8,qS v7 9]
noncomputable def QQ (a:List DC):Out :=
 j9 (jy qu [.i (0:Int),qL a 0,qI a 1,qI a 2,qI a 3,qI a 4,.s [],.s [],.s [],.s []]) 0 fun v5 =>
 (jY [qL v5 1,qI v5 2,qI v5 3,qI v5 4,qI v5 5]).bindR fun r6 =>
 j9 (jy pL [qI v5 0,qL r6 1,qI r6 2,qI r6 3,qI r6 4,qI r6 5,qS v5 6,qS v5 7,qS r6 0,qS v5 9]) 2 fun v15 =>
 .ret [qS v15 7,qS v15 8,qL v15 0,qI v15 1,qI v15 2,qI v15 3,qI v15 4]
theorem Xz a:JL a=QQ a:=(jq cfg 143 _ a).trans (by kernel_rfl)
noncomputable def j0Q:List DC → Out:=fun v22 =>
 ja (if ((v22.getD 6 d0).ii == (0:Int))=true then
 (jJ [qS v22 2,qL v22 3,qI v22 4,qI v22 5,qI v22 6,qI v22 7]).bindR fun r23 =>
 .norm [qB v22 0,qI v22 1,qS v22 2,.b (!((r23.getD 0 d0).bb)),qL r23 1,qI r23 2,qI r23 3,qI r23 4,qI r23 5,qI v22 8,qS v22 9,qI v22 10,qS v22 11,qL v22 12,qL v22 13]
 else
 .norm [qB v22 0,qI v22 1,qS v22 2,.b false,qL v22 3,qI v22 4,qI v22 5,qI v22 6,qI v22 7,qI v22 8,qS v22 9,qI v22 10,qS v22 11,qL v22 12,qL v22 13]) fun v24 =>
 if (v24.getD 3 d0).bb=true then
 j9 (ja (if ((v24.getD 11 d0).ii == (8:Int))=true then
 (jY [qL v24 4,qI v24 5,qI v24 6,qI v24 7,qI v24 8]).bindR fun r25 =>
 if ((v24.getD 14 d0).ll).length + [[qS r25 0]].length < jT then
 (qy [.s ([58]:List UInt8),qL r25 1,qI r25 2,qI r25 3,qI r25 4,qI r25 5]).bindR fun r26 =>
 .norm [qB v24 0,qI v24 1,qS v24 2,qL r26 0,qI r26 1,qI r26 2,qI r26 3,qI r26 4,qI v24 9,qS v24 10,qI v24 11,qS v24 12,qL v24 13,.sl (((v24.getD 14 d0).ll) ++ [[qS r25 0]])]
 else
 .fail
 else
 .norm [qB v24 0,qI v24 1,qS v24 2,qL v24 4,qI v24 5,qI v24 6,qI v24 7,qI v24 8,qI v24 9,qS v24 10,qI v24 11,qS v24 12,qL v24 13,qL v24 14]) fun v27 =>
 (yN [qB v27 0,.i (IntKind.i64.wrap ((v27.getD 1 d0).ii - (1:Int))),qL v27 3,qI v27 4,qI v27 5,qI v27 6,qI v27 7]).bindR fun r28 =>
 if ((v27.getD 12 d0).ll).length + [[qI r28 0,qS r28 1,qL r28 2,qL r28 3]].length < jT then
 .norm [qB v27 0,qI v27 1,qS v27 2,qL r28 4,qI r28 5,qI r28 6,qI r28 7,qI r28 8,qI v27 8,qS v27 9,qI v27 10,qS v27 11,.sl (((v27.getD 12 d0).ll) ++ [[qI r28 0,qS r28 1,qL r28 2,qL r28 3]]),qL v27 13]
 else
 .fail) 3 fun v29 =>
 .norm [qB v29 0,qI v29 1,qS v29 2,qL v29 3,qI v29 4,qI v29 5,qI v29 6,qI v29 7,qI v29 8,qS v29 9,qI v29 10,qS v29 11,qL v29 12,qL v29 13]
 else
 .ex 2 [qL v24 4,qI v24 5,qI v24 6,qI v24 7,qI v24 8,qI v24 9,qS v24 10,qI v24 11,qS v24 12,qL v24 13,qL v24 14]
noncomputable def XI (a:List DC):Out :=
 if ((a.getD 5 d0).ii != (0:Int))=true then
 .ret [.i (0:Int),.s [],.sl [],.sl [],qL a 2,qI a 3,qI a 4,qI a 5,qI a 6]
 else
 if (decide ((a.getD 3 d0).ii ≥ (((a.getD 2 d0).ll).length:Int)))=true then
 (jL [.i (7:Int),qL a 2,qI a 3,qI a 4,qI a 5,qI a 6]).bindR fun r1 =>
 .ret [.i (0:Int),.s [],.sl [],.sl [],qL r1 0,qI r1 1,qI r1 2,qI r1 3,qI r1 4]
 else
 if 159=159 ∧ 0 ≤ (a.getD 3 d0).ii ∧ (a.getD 3 d0).ii < (((a.getD 2 d0).ll).length:Int) then
 j9 (ja (if (((((a.getD 2 d0).ll).getD ((a.getD 3 d0).ii).toNat []).getD 0 d0).ii == (3:Int))=true then
 .norm [qB a 0,qI a 1,.i (((((a.getD 2 d0).ll).getD ((a.getD 3 d0).ii).toNat []).getD 0 d0).ii),.b (((((a.getD 2 d0).ll).getD ((a.getD 3 d0).ii).toNat []).getD 0 d0).ii == (3:Int)),qL a 2,qI a 3,qI a 4,qI a 5,qI a 6,.i (0:Int),.s [],.i (0:Int),.s [],.i (((((a.getD 2 d0).ll).getD ((a.getD 3 d0).ii).toNat []).getD 0 d0).ii),.s (((((a.getD 2 d0).ll).getD ((a.getD 3 d0).ii).toNat []).getD 1 d0).ss),.i (((((a.getD 2 d0).ll).getD ((a.getD 3 d0).ii).toNat []).getD 2 d0).ii)]
 else
 ja (if (((((a.getD 2 d0).ll).getD ((a.getD 3 d0).ii).toNat []).getD 0 d0).ii == (4:Int))=true then
 .norm [qB a 0,qI a 1,.i (((((a.getD 2 d0).ll).getD ((a.getD 3 d0).ii).toNat []).getD 0 d0).ii),.b (((((a.getD 2 d0).ll).getD ((a.getD 3 d0).ii).toNat []).getD 0 d0).ii == (4:Int)),qL a 2,qI a 3,qI a 4,qI a 5,qI a 6,.i (0:Int),.s [],.i (0:Int),.s [],.i (((((a.getD 2 d0).ll).getD ((a.getD 3 d0).ii).toNat []).getD 0 d0).ii),.s (((((a.getD 2 d0).ll).getD ((a.getD 3 d0).ii).toNat []).getD 1 d0).ss),.i (((((a.getD 2 d0).ll).getD ((a.getD 3 d0).ii).toNat []).getD 2 d0).ii)]
 else
 .norm [qB a 0,qI a 1,.i (((((a.getD 2 d0).ll).getD ((a.getD 3 d0).ii).toNat []).getD 0 d0).ii),.b (((((a.getD 2 d0).ll).getD ((a.getD 3 d0).ii).toNat []).getD 0 d0).ii == (5:Int)),qL a 2,qI a 3,qI a 4,qI a 5,qI a 6,.i (0:Int),.s [],.i (0:Int),.s [],.i (((((a.getD 2 d0).ll).getD ((a.getD 3 d0).ii).toNat []).getD 0 d0).ii),.s (((((a.getD 2 d0).ll).getD ((a.getD 3 d0).ii).toNat []).getD 1 d0).ss),.i (((((a.getD 2 d0).ll).getD ((a.getD 3 d0).ii).toNat []).getD 2 d0).ii)]) fun v2 =>
 .norm [qB v2 0,qI v2 1,qI v2 2,qB v2 3,qL v2 4,qI v2 5,qI v2 6,qI v2 7,qI v2 8,qI v2 9,qS v2 10,qI v2 11,qS v2 12,qI v2 13,qS v2 14,qI v2 15]) fun v3 =>
 if (v3.getD 3 d0).bb=true then
 ja (if ((v3.getD 13 d0).ii == (4:Int))=true then
 .norm [qL v3 4,.i (IntKind.i64.wrap ((v3.getD 5 d0).ii + (1:Int))),qI v3 6,qI v3 7,qI v3 8,qI v3 9,qS v3 10,.i (3:Int),qS v3 14,qI v3 13,qS v3 14,qI v3 15]
 else
 .norm [qL v3 4,.i (IntKind.i64.wrap ((v3.getD 5 d0).ii + (1:Int))),qI v3 6,qI v3 7,qI v3 8,qI v3 9,qS v3 10,.i (2:Int),qS v3 14,qI v3 13,qS v3 14,qI v3 15]) fun v4 =>
 ja (if ((v4.getD 9 d0).ii == (5:Int))=true then
 .norm [qL v4 0,qI v4 1,qI v4 2,qI v4 3,qI v4 4,qI v4 5,qS v4 6,.i (4:Int),qS v4 8]
 else
 .norm [qL v4 0,qI v4 1,qI v4 2,qI v4 3,qI v4 4,qI v4 5,qS v4 6,qI v4 7,qS v4 8]) fun v5 =>
 .ret [qI v5 7,qS v5 8,.sl [],.sl [],qL v5 0,qI v5 1,qI v5 2,qI v5 3,qI v5 4]
 else
 if ((v3.getD 2 d0).ii == (2:Int))=true then
 (V4 [qS v3 14]).bindR fun r6 =>
 ja (if (r6.getD 0 d0).bb=true then
 .norm [qL v3 4,.i (IntKind.i64.wrap ((v3.getD 5 d0).ii + (1:Int))),qI v3 6,qI v3 7,qI v3 8,qI v3 9,qS v3 10,.i (5:Int),qS v3 14]
 else
 .norm [qL v3 4,.i (IntKind.i64.wrap ((v3.getD 5 d0).ii + (1:Int))),qI v3 6,qI v3 7,qI v3 8,qI v3 9,qS v3 10,.i (6:Int),qS v3 14]) fun v7 =>
 .ret [qI v7 7,qS v7 8,.sl [],.sl [],qL v7 0,qI v7 1,qI v7 2,qI v7 3,qI v7 4]
 else
 .norm [qB v3 0,qI v3 1,qL v3 4,qI v3 5,qI v3 6,qI v3 7,qI v3 8,qI v3 9,qS v3 10,qI v3 11,qS v3 12,qI v3 13,qS v3 14,qI v3 15]) 0 fun v8 =>
 j9 (ja (if ((v8.getD 12 d0).ss == ([36]:List UInt8))=true then
 .norm [qB v8 0,qI v8 1,.b (!((v8.getD 0 d0).bb)),qL v8 2,qI v8 3,qI v8 4,qI v8 5,qI v8 6,qI v8 7,qS v8 8,qI v8 9,qS v8 10,qI v8 11,qS v8 12,qI v8 13]
 else
 .norm [qB v8 0,qI v8 1,.b false,qL v8 2,qI v8 3,qI v8 4,qI v8 5,qI v8 6,qI v8 7,qS v8 8,qI v8 9,qS v8 10,qI v8 11,qS v8 12,qI v8 13]) fun v9 =>
 if (v9.getD 2 d0).bb=true then
 (jY [qL v9 3,.i (IntKind.i64.wrap ((v9.getD 4 d0).ii + (1:Int))),qI v9 5,qI v9 6,qI v9 7]).bindR fun r10 =>
 .ret [.i (1:Int),qS r10 0,.sl [],.sl [],qL r10 1,qI r10 2,qI r10 3,qI r10 4,qI r10 5]
 else
 ja (if ((v9.getD 13 d0).ss == ([91]:List UInt8))=true then
 .norm [qB v9 0,qI v9 1,.b true,qL v9 3,qI v9 4,qI v9 5,qI v9 6,qI v9 7,qI v9 8,qS v9 9,qI v9 10,qS v9 11,qI v9 12,qS v9 13,qI v9 14]
 else
 .norm [qB v9 0,qI v9 1,.b ((v9.getD 13 d0).ss == ([123]:List UInt8)),qL v9 3,qI v9 4,qI v9 5,qI v9 6,qI v9 7,qI v9 8,qS v9 9,qI v9 10,qS v9 11,qI v9 12,qS v9 13,qI v9 14]) fun v11 =>
 if (v11.getD 2 d0).bb=true then
 if ((v11.getD 1 d0).ii == (0:Int))=true then
 (jL [.i (8:Int),qL v11 3,qI v11 4,qI v11 5,qI v11 6,qI v11 7]).bindR fun r12 =>
 .ret [qI v11 10,qS v11 11,.sl [],.sl [],qL r12 0,qI r12 1,qI r12 2,qI r12 3,qI r12 4]
 else
 ja (if ((v11.getD 13 d0).ss == ([123]:List UInt8))=true then
 .norm [qB v11 0,qI v11 1,.s ([125]:List UInt8),qL v11 3,.i (IntKind.i64.wrap ((v11.getD 4 d0).ii + (1:Int))),qI v11 5,qI v11 6,qI v11 7,qI v11 8,qS v11 9,.i (8:Int),qS v11 11]
 else
 .norm [qB v11 0,qI v11 1,.s ([93]:List UInt8),qL v11 3,.i (IntKind.i64.wrap ((v11.getD 4 d0).ii + (1:Int))),qI v11 5,qI v11 6,qI v11 7,qI v11 8,qS v11 9,.i (7:Int),qS v11 11]) fun v13 =>
 j9 (jy j0Q [qB v13 0,qI v13 1,qS v13 2,qL v13 3,qI v13 4,qI v13 5,qI v13 6,qI v13 7,qI v13 8,qS v13 9,qI v13 10,qS v13 11,.sl [],.sl []]) 2 fun v30 =>
 .ret [qI v30 7,qS v30 8,qL v30 9,qL v30 10,qL v30 0,qI v30 1,qI v30 2,qI v30 3,qI v30 4]
 else
 .norm [qL v11 3,qI v11 4,qI v11 5,qI v11 6,qI v11 7,qI v11 8,qS v11 9,qI v11 10,qS v11 11]) 1 fun v31 =>
 (jL [.i (7:Int),qL v31 0,qI v31 1,qI v31 2,qI v31 3,qI v31 4]).bindR fun r32 =>
 .ret [qI v31 7,qS v31 8,.sl [],.sl [],qL r32 0,qI r32 1,qI r32 2,qI r32 3,qI r32 4]
 else
 .fail
theorem j1p a:yN a=XI a:=(jq cfg 144 _ a).trans (by kernel_rfl)
noncomputable def Yx:List DC → Out:=fun v2 =>
 if ((v2.getD 5 d0).ii == (0:Int))=true then
 j9 ((jY [qL v2 2,qI v2 3,qI v2 4,qI v2 5,qI v2 6]).bindR fun r3 =>
 (qy [.s ([58]:List UInt8),qL r3 1,qI r3 2,qI r3 3,qI r3 4,qI r3 5]).bindR fun r4 =>
 (yN [qB v2 0,.i (10:Int),qL r4 0,qI r4 1,qI r4 2,qI r4 3,qI r4 4]).bindR fun r5 =>
 if ((v2.getD 1 d0).ll).length + [[qS r3 0,qI r5 0,qS r5 1,qL r5 2,qL r5 3]].length < jT then
 (jJ [.s ([41]:List UInt8),qL r5 4,qI r5 5,qI r5 6,qI r5 7,qI r5 8]).bindR fun r6 =>
 if (r6.getD 0 d0).bb=true then
 .ex 0 [.sl (((v2.getD 1 d0).ll) ++ [[qS r3 0,qI r5 0,qS r5 1,qL r5 2,qL r5 3]]),qL r6 1,qI r6 2,qI r6 3,qI r6 4,qI r6 5]
 else
 .norm [qB v2 0,.sl (((v2.getD 1 d0).ll) ++ [[qS r3 0,qI r5 0,qS r5 1,qL r5 2,qL r5 3]]),qL r6 1,qI r6 2,qI r6 3,qI r6 4,qI r6 5]
 else
 .fail) 1 fun v7 =>
 .norm [qB v7 0,qL v7 1,qL v7 2,qI v7 3,qI v7 4,qI v7 5,qI v7 6]
 else
 .ex 0 [qL v2 1,qL v2 2,qI v2 3,qI v2 4,qI v2 5,qI v2 6]
noncomputable def QP (a:List DC):Out :=
 (jJ [.s ([40]:List UInt8),qL a 1,qI a 2,qI a 3,qI a 4,qI a 5]).bindR fun r1 =>
 if (!((r1.getD 0 d0).bb))=true then
 .ret [.sl [],qL r1 1,qI r1 2,qI r1 3,qI r1 4,qI r1 5]
 else
 j9 (jy Yx [qB a 0,.sl [],qL r1 1,qI r1 2,qI r1 3,qI r1 4,qI r1 5]) 0 fun v8 =>
 .ret [qL v8 0,qL v8 1,qI v8 2,qI v8 3,qI v8 4,qI v8 5]
theorem Z4 a:Jn a=QP a:=(jq cfg 145 _ a).trans (by kernel_rfl)
noncomputable def Kn (a:List DC):Out :=
 (kO [qL a 0,qI a 1,qI a 2,qI a 3,qI a 4]).bindR fun r1 =>
 (jY [qL r1 1,qI r1 2,qI r1 3,qI r1 4,qI r1 5]).bindR fun r2 =>
 (qy [.s ([58]:List UInt8),qL r2 1,qI r2 2,qI r2 3,qI r2 4,qI r2 5]).bindR fun r3 =>
 (JL [qL r3 0,qI r3 1,qI r3 2,qI r3 3,qI r3 4]).bindR fun r4 =>
 (jJ [.s ([61]:List UInt8),qL r4 2,qI r4 3,qI r4 4,qI r4 5,qI r4 6]).bindR fun r5 =>
 ja (if (r5.getD 0 d0).bb=true then
 (yN [.b true,.i (10:Int),qL r5 1,qI r5 2,qI r5 3,qI r5 4,qI r5 5]).bindR fun r6 =>
 .norm [qL r6 4,qI r6 5,qI r6 6,qI r6 7,qI r6 8,.s [],.s [],.s [],.s [],.b false,.i (0:Int),.s [],qS r2 0,qS r1 0,qS r4 0,qS r4 1,.b true,qI r6 0,qS r6 1,qL r6 2,qL r6 3]
 else
 .norm [qL r5 1,qI r5 2,qI r5 3,qI r5 4,qI r5 5,.s [],.s [],.s [],.s [],.b false,.i (0:Int),.s [],qS r2 0,qS r1 0,qS r4 0,qS r4 1,.b false,.i (0:Int),.s [],.sl [],.sl []]) fun v7 =>
 (pz [.b true,qL v7 0,qI v7 1,qI v7 2,qI v7 3,qI v7 4]).bindR fun r8 =>
 .ret [qS v7 12,qS v7 13,qS v7 14,qS v7 15,qB v7 16,qI v7 17,qS v7 18,qL v7 19,qL v7 20,qL r8 0,qL r8 1,qI r8 2,qI r8 3,qI r8 4,qI r8 5]
theorem j0z a:Kd a=Kn a:=(jq cfg 146 _ a).trans (by kernel_rfl)
noncomputable def j3v (a:List DC):Out :=
 j9 (ja (if ((a.getD 0 d0).ss == ([81,85,69,82,89]:List UInt8))=true then
 .norm [.b ((a.getD 0 d0).ss == ([81,85,69,82,89]:List UInt8))]
 else
 ja (if ((a.getD 0 d0).ss == ([77,85,84,65,84,73,79,78]:List UInt8))=true then
 .norm [.b ((a.getD 0 d0).ss == ([77,85,84,65,84,73,79,78]:List UInt8))]
 else
 ja (if ((a.getD 0 d0).ss == ([83,85,66,83,67,82,73,80,84,73,79,78]:List UInt8))=true then
 .norm [.b ((a.getD 0 d0).ss == ([83,85,66,83,67,82,73,80,84,73,79,78]:List UInt8))]
 else
 ja (if ((a.getD 0 d0).ss == ([70,73,69,76,68]:List UInt8))=true then
 .norm [.b ((a.getD 0 d0).ss == ([70,73,69,76,68]:List UInt8))]
 else
 ja (if ((a.getD 0 d0).ss == ([70,82,65,71,77,69,78,84,95,68,69,70,73,78,73,84,73,79,78]:List UInt8))=true then
 .norm [.b ((a.getD 0 d0).ss == ([70,82,65,71,77,69,78,84,95,68,69,70,73,78,73,84,73,79,78]:List UInt8))]
 else
 ja (if ((a.getD 0 d0).ss == ([70,82,65,71,77,69,78,84,95,83,80,82,69,65,68]:List UInt8))=true then
 .norm [.b ((a.getD 0 d0).ss == ([70,82,65,71,77,69,78,84,95,83,80,82,69,65,68]:List UInt8))]
 else
 ja (if ((a.getD 0 d0).ss == ([73,78,76,73,78,69,95,70,82,65,71,77,69,78,84]:List UInt8))=true then
 .norm [.b ((a.getD 0 d0).ss == ([73,78,76,73,78,69,95,70,82,65,71,77,69,78,84]:List UInt8))]
 else
 ja (if ((a.getD 0 d0).ss == ([86,65,82,73,65,66,76,69,95,68,69,70,73,78,73,84,73,79,78]:List UInt8))=true then
 .norm [.b ((a.getD 0 d0).ss == ([86,65,82,73,65,66,76,69,95,68,69,70,73,78,73,84,73,79,78]:List UInt8))]
 else
 ja (if ((a.getD 0 d0).ss == ([83,67,72,69,77,65]:List UInt8))=true then
 .norm [.b ((a.getD 0 d0).ss == ([83,67,72,69,77,65]:List UInt8))]
 else
 ja (if ((a.getD 0 d0).ss == ([83,67,65,76,65,82]:List UInt8))=true then
 .norm [.b ((a.getD 0 d0).ss == ([83,67,65,76,65,82]:List UInt8))]
 else
 ja (if ((a.getD 0 d0).ss == ([79,66,74,69,67,84]:List UInt8))=true then
 .norm [.b ((a.getD 0 d0).ss == ([79,66,74,69,67,84]:List UInt8))]
 else
 ja (if ((a.getD 0 d0).ss == ([70,73,69,76,68,95,68,69,70,73,78,73,84,73,79,78]:List UInt8))=true then
 .norm [.b ((a.getD 0 d0).ss == ([70,73,69,76,68,95,68,69,70,73,78,73,84,73,79,78]:List UInt8))]
 else
 ja (if ((a.getD 0 d0).ss == ([65,82,71,85,77,69,78,84,95,68,69,70,73,78,73,84,73,79,78]:List UInt8))=true then
 .norm [.b ((a.getD 0 d0).ss == ([65,82,71,85,77,69,78,84,95,68,69,70,73,78,73,84,73,79,78]:List UInt8))]
 else
 ja (if ((a.getD 0 d0).ss == ([73,78,84,69,82,70,65,67,69]:List UInt8))=true then
 .norm [.b ((a.getD 0 d0).ss == ([73,78,84,69,82,70,65,67,69]:List UInt8))]
 else
 ja (if ((a.getD 0 d0).ss == ([85,78,73,79,78]:List UInt8))=true then
 .norm [.b ((a.getD 0 d0).ss == ([85,78,73,79,78]:List UInt8))]
 else
 ja (if ((a.getD 0 d0).ss == ([69,78,85,77]:List UInt8))=true then
 .norm [.b ((a.getD 0 d0).ss == ([69,78,85,77]:List UInt8))]
 else
 ja (if ((a.getD 0 d0).ss == ([69,78,85,77,95,86,65,76,85,69]:List UInt8))=true then
 .norm [.b ((a.getD 0 d0).ss == ([69,78,85,77,95,86,65,76,85,69]:List UInt8))]
 else
 ja (if ((a.getD 0 d0).ss == ([73,78,80,85,84,95,79,66,74,69,67,84]:List UInt8))=true then
 .norm [.b ((a.getD 0 d0).ss == ([73,78,80,85,84,95,79,66,74,69,67,84]:List UInt8))]
 else
 .norm [.b ((a.getD 0 d0).ss == ([73,78,80,85,84,95,70,73,69,76,68,95,68,69,70,73,78,73,84,73,79,78]:List UInt8))]) fun v1 =>
 .norm [qB v1 0]) fun v2 =>
 .norm [qB v2 0]) fun v3 =>
 .norm [qB v3 0]) fun v4 =>
 .norm [qB v4 0]) fun v5 =>
 .norm [qB v5 0]) fun v6 =>
 .norm [qB v6 0]) fun v7 =>
 .norm [qB v7 0]) fun v8 =>
 .norm [qB v8 0]) fun v9 =>
 .norm [qB v9 0]) fun v10 =>
 .norm [qB v10 0]) fun v11 =>
 .norm [qB v11 0]) fun v12 =>
 .norm [qB v12 0]) fun v13 =>
 .norm [qB v13 0]) fun v14 =>
 .norm [qB v14 0]) fun v15 =>
 .norm [qB v15 0]) fun v16 =>
 .norm [qB v16 0]) fun v17 =>
 .norm [qB v17 0]) fun v18 =>
 if (v18.getD 0 d0).bb=true then
 .ret [.b true]
 else
 .norm []) 0 fun v19 =>
 .ret [.b false]
theorem j2j a:Qz a=j3v a:=(jq cfg 147 _ a).trans (by kernel_rfl)
noncomputable def j1P (a:List DC):Out :=
 ja (if ((a.getD 0 d0).ss == ([116,114,117,101]:List UInt8))=true then
 .norm [.b true]
 else
 if ((a.getD 0 d0).ss == ([102,97,108,115,101]:List UInt8))=true then
 .norm [.b true]
 else
 .norm [.b ((a.getD 0 d0).ss == ([110,117,108,108]:List UInt8))]) fun v1 =>
 .ret [qB v1 0]
theorem j5c a:V4 a=j1P a:=(jq cfg 148 _ a).trans (by kernel_rfl)
noncomputable def yu:List DC → Out:=fun v4 =>
 if (decide ((v4.getD 0 d0).ii < (((v4.getD 3 d0).ll).length:Int)))=true then
 j9 (if 184=184 ∧ 0 ≤ (v4.getD 0 d0).ii ∧ (v4.getD 0 d0).ii < (((v4.getD 3 d0).ll).length:Int) then
 (zz [.i (((((v4.getD 3 d0).ll).getD ((v4.getD 0 d0).ii).toNat []).getD 0 d0).ii),.s (((((v4.getD 3 d0).ll).getD ((v4.getD 0 d0).ii).toNat []).getD 1 d0).ss),.sl (((((v4.getD 3 d0).ll).getD ((v4.getD 0 d0).ii).toNat []).getD 2 d0).ll),.sl (((((v4.getD 3 d0).ll).getD ((v4.getD 0 d0).ii).toNat []).getD 3 d0).ll)]).bindR fun r5 =>
 if ((v4.getD 9 d0).ll).length + [[qI r5 0,qS r5 1,qL r5 2,qL r5 3]].length < jT ∧ 182=182 then
 .norm [qI v4 0,qI v4 1,qS v4 2,qL v4 3,qL v4 4,qI v4 5,qS v4 6,qI v4 7,qS v4 8,.sl (((v4.getD 9 d0).ll) ++ [[qI r5 0,qS r5 1,qL r5 2,qL r5 3]]),qL v4 10]
 else
 .fail
 else
 .fail) 1 fun v6 =>
 .norm [.i (IntKind.i64.wrap ((v6.getD 0 d0).ii + (1:Int))),qI v6 1,qS v6 2,qL v6 3,qL v6 4,qI v6 5,qS v6 6,qI v6 7,qS v6 8,qL v6 9,qL v6 10]
 else
 .ex 0 [qI v4 5,qS v4 6,qI v4 7,qS v4 8,qL v4 9,qL v4 10]
noncomputable def YD (a:List DC):Out :=
 if ([]:List (List DC)).length + ((a.getD 3 d0).ll).length < jT then
 j9 (jy yu [.i (0:Int),qI a 0,qS a 1,qL a 2,qL a 3,.i (0:Int),.s [],qI a 0,qS a 1,.sl [],.sl (([]:List (List DC)) ++ ((a.getD 3 d0).ll))]) 0 fun v7 =>
 .ret [qI v7 2,qS v7 3,qL v7 4,qL v7 5]
 else
 .fail
theorem j2g a:zz a=YD a:=(jq cfg 149 _ a).trans (by kernel_rfl)
noncomputable def zS:List DC → Out:=fun v1 =>
 if (decide ((v1.getD 2 d0).ii < (((v1.getD 0 d0).ll).length:Int)))=true then
 j9 (if 212=212 ∧ 0 ≤ (v1.getD 2 d0).ii ∧ (v1.getD 2 d0).ii < (((v1.getD 0 d0).ll).length:Int) then
 if 212=212 ∧ 0 ≤ (v1.getD 2 d0).ii ∧ (v1.getD 2 d0).ii < (((v1.getD 0 d0).ll).length:Int) then
 (zz [.i (((((v1.getD 0 d0).ll).getD ((v1.getD 2 d0).ii).toNat []).getD 1 d0).ii),.s (((((v1.getD 0 d0).ll).getD ((v1.getD 2 d0).ii).toNat []).getD 2 d0).ss),.sl (((((v1.getD 0 d0).ll).getD ((v1.getD 2 d0).ii).toNat []).getD 3 d0).ll),.sl (((((v1.getD 0 d0).ll).getD ((v1.getD 2 d0).ii).toNat []).getD 4 d0).ll)]).bindR fun r2 =>
 if ((v1.getD 1 d0).ll).length + [[DC.s (((((v1.getD 0 d0).ll).getD ((v1.getD 2 d0).ii).toNat []).getD 0 d0).ss),qI r2 0,qS r2 1,qL r2 2,qL r2 3]].length < jT ∧ 189=189 then
 .norm [qL v1 0,.sl (((v1.getD 1 d0).ll) ++ [[DC.s (((((v1.getD 0 d0).ll).getD ((v1.getD 2 d0).ii).toNat []).getD 0 d0).ss),qI r2 0,qS r2 1,qL r2 2,qL r2 3]]),qI v1 2]
 else
 .fail
 else
 .fail
 else
 .fail) 1 fun v3 =>
 .norm [qL v3 0,qL v3 1,.i (IntKind.i64.wrap ((v3.getD 2 d0).ii + (1:Int)))]
 else
 .ex 0 [qL v1 1]
noncomputable def Yz (a:List DC):Out :=
 j9 (jy zS [qL a 0,.sl [],.i (0:Int)]) 0 fun v4 =>
 .ret [qL v4 0]
theorem j2a a:Qx a=Yz a:=(jq cfg 150 _ a).trans (by kernel_rfl)
noncomputable def zh:List DC → Out:=fun v1 =>
 if (decide ((v1.getD 2 d0).ii < (((v1.getD 0 d0).ll).length:Int)))=true then
 j9 (if 199=199 ∧ 0 ≤ (v1.getD 2 d0).ii ∧ (v1.getD 2 d0).ii < (((v1.getD 0 d0).ll).length:Int) then
 if (((((v1.getD 0 d0).ll).getD ((v1.getD 2 d0).ii).toNat []).getD 0 d0).ss == (v1.getD 1 d0).ss)=true then
 .ret [qI v1 2]
 else
 .norm [qL v1 0,qS v1 1,qI v1 2]
 else
 .fail) 1 fun v2 =>
 .norm [qL v2 0,qS v2 1,.i (IntKind.i64.wrap ((v2.getD 2 d0).ii + (1:Int)))]
 else
 .ex 0 []
noncomputable def XD (a:List DC):Out :=
 j9 (jy zh [qL a 0,qS a 1,.i (0:Int)]) 0 fun v3 =>
 .ret [.i (-1:Int)]
theorem j1k a:J9 a=XD a:=(jq cfg 151 _ a).trans (by kernel_rfl)
noncomputable def XK (a:List DC):Out :=
 (jU [qL a 0,qL a 1,qL a 2,qS a 3]).bindR fun r1 =>
 ja (if ((r1.getD 0 d0).ii != (0:Int))=true then
 .norm [.b ((r1.getD 0 d0).ii != (6:Int))]
 else
 .norm [.b false]) fun v2 =>
 .ret [qB v2 0]
theorem j1s a:KU a=XK a:=(jq cfg 152 _ a).trans (by kernel_rfl)
noncomputable def kH:List DC → Out:=fun v9 =>
 if (decide ((v9.getD 3 d0).ii < (((v9.getD 22 d0).ll).length:Int)))=true then
 j9 (if 9=9 ∧ 0 ≤ (v9.getD 3 d0).ii ∧ (v9.getD 3 d0).ii < (((v9.getD 22 d0).ll).length:Int) then
 (jN [qL v9 11,.s (((((v9.getD 22 d0).ll).getD ((v9.getD 3 d0).ii).toNat []).getD 0 d0).ss)]).bindR fun r10 =>
 ja (if (!((r10.getD 0 d0).bb))=true then
 if ((v9.getD 0 d0).ll).length + [[DC.i (9:Int),qS v9 10,qS v9 2]].length < jT then
 .norm [.sl (((v9.getD 0 d0).ll) ++ [[DC.i (9:Int),qS v9 10,qS v9 2]]),qI v9 1,qS v9 2,qI v9 3,qL v9 4,qL v9 5,qL v9 6,qI v9 7,qB v9 8,qS v9 9,qS v9 10,qL v9 11,qL v9 12,qL v9 13,qL v9 14,qL v9 15,qB v9 16,qL v9 17,qI v9 18,qB v9 19,qS v9 20,qS v9 21,qL v9 22,qL v9 23,qL v9 24,qL v9 25,qL v9 26,qB v9 27,qL v9 28]
 else
 .fail
 else
 .norm [qL v9 0,qI v9 1,qS v9 2,qI v9 3,qL v9 4,qL v9 5,qL v9 6,qI v9 7,qB v9 8,qS v9 9,qS v9 10,qL v9 11,qL v9 12,qL v9 13,qL v9 14,qL v9 15,qB v9 16,qL v9 17,qI v9 18,qB v9 19,qS v9 20,qS v9 21,qL v9 22,qL v9 23,qL v9 24,qL v9 25,qL v9 26,qB v9 27,qL v9 28]) fun v11 =>
 .norm [qL v11 0,qI v11 1,qS v11 2,qI v11 3,qL v11 4,qL v11 5,qL v11 6,qI v11 7,qB v11 8,qS v11 9,qS v11 10,qL v11 11,qL v11 12,qL v11 13,qL v11 14,qL v11 15,qB v11 16,qL v11 17,qI v11 18,qB v11 19,qS v11 20,qS v11 21,qL v11 22,qL v11 23,qL v11 24,qL v11 25,qL v11 26,qB v11 27,qL v11 28]
 else
 .fail) 3 fun v12 =>
 .norm [qL v12 0,qI v12 1,qS v12 2,.i (IntKind.i64.wrap ((v12.getD 3 d0).ii + (1:Int))),qL v12 4,qL v12 5,qL v12 6,qI v12 7,qB v12 8,qS v12 9,qS v12 10,qL v12 11,qL v12 12,qL v12 13,qL v12 14,qL v12 15,qB v12 16,qL v12 17,qI v12 18,qB v12 19,qS v12 20,qS v12 21,qL v12 22,qL v12 23,qL v12 24,qL v12 25,qL v12 26,qB v12 27,qL v12 28]
 else
 .ex 2 [qL v9 0,qI v9 1,qL v9 4,qL v9 5,qL v9 6,qI v9 7,qB v9 8,qS v9 9,qS v9 10,qL v9 11,qL v9 12,qL v9 13,qL v9 14,qL v9 15,qB v9 16,qL v9 17,qI v9 18,qB v9 19,qS v9 20,qS v9 21,qL v9 22,qL v9 23,qL v9 24,qL v9 25,qL v9 26,qB v9 27,qL v9 28]
noncomputable def kt:List DC → Out:=fun v14 =>
 if (decide ((v14.getD 2 d0).ii < (((v14.getD 22 d0).ll).length:Int)))=true then
 j9 (if 199=199 ∧ 0 ≤ (v14.getD 2 d0).ii ∧ (v14.getD 2 d0).ii < (((v14.getD 22 d0).ll).length:Int) then
 (J9 [qL v14 11,.s (((((v14.getD 22 d0).ll).getD ((v14.getD 2 d0).ii).toNat []).getD 0 d0).ss)]).bindR fun r15 =>
 ja (if (decide ((r15.getD 0 d0).ii < (0:Int)))=true then
 .norm [qL v14 0,qI v14 1,qI v14 2,qI r15 0,.b true,qL v14 3,qL v14 4,qL v14 5,qI v14 6,qB v14 7,qS v14 8,qS v14 9,qL v14 10,qL v14 11,qL v14 12,qL v14 13,qL v14 14,qB v14 15,qL v14 16,qI v14 17,qB v14 18,qS v14 19,qS v14 20,qL v14 21,qL v14 22,qL v14 23,qL v14 24,qL v14 25,qB v14 26,qL v14 27,.s (((((v14.getD 22 d0).ll).getD ((v14.getD 2 d0).ii).toNat []).getD 0 d0).ss),.s (((((v14.getD 22 d0).ll).getD ((v14.getD 2 d0).ii).toNat []).getD 1 d0).ss),.sl (((((v14.getD 22 d0).ll).getD ((v14.getD 2 d0).ii).toNat []).getD 2 d0).ll),.s (((((v14.getD 22 d0).ll).getD ((v14.getD 2 d0).ii).toNat []).getD 3 d0).ss),.s (((((v14.getD 22 d0).ll).getD ((v14.getD 2 d0).ii).toNat []).getD 4 d0).ss),.sl (((((v14.getD 22 d0).ll).getD ((v14.getD 2 d0).ii).toNat []).getD 5 d0).ll)]
 else
 if 199=199 ∧ 0 ≤ (r15.getD 0 d0).ii ∧ (r15.getD 0 d0).ii < (((v14.getD 11 d0).ll).length:Int) then
 (Qy [qL v14 3,qL v14 4,qL v14 5,.s (((((v14.getD 11 d0).ll).getD ((r15.getD 0 d0).ii).toNat []).getD 3 d0).ss),.s (((((v14.getD 11 d0).ll).getD ((r15.getD 0 d0).ii).toNat []).getD 4 d0).ss),.s (((((v14.getD 22 d0).ll).getD ((v14.getD 2 d0).ii).toNat []).getD 3 d0).ss),.s (((((v14.getD 22 d0).ll).getD ((v14.getD 2 d0).ii).toNat []).getD 4 d0).ss)]).bindR fun r16 =>
 .norm [qL v14 0,qI v14 1,qI v14 2,qI r15 0,.b (!((r16.getD 0 d0).bb)),qL v14 3,qL v14 4,qL v14 5,qI v14 6,qB v14 7,qS v14 8,qS v14 9,qL v14 10,qL v14 11,qL v14 12,qL v14 13,qL v14 14,qB v14 15,qL v14 16,qI v14 17,qB v14 18,qS v14 19,qS v14 20,qL v14 21,qL v14 22,qL v14 23,qL v14 24,qL v14 25,qB v14 26,qL v14 27,.s (((((v14.getD 22 d0).ll).getD ((v14.getD 2 d0).ii).toNat []).getD 0 d0).ss),.s (((((v14.getD 22 d0).ll).getD ((v14.getD 2 d0).ii).toNat []).getD 1 d0).ss),.sl (((((v14.getD 22 d0).ll).getD ((v14.getD 2 d0).ii).toNat []).getD 2 d0).ll),.s (((((v14.getD 22 d0).ll).getD ((v14.getD 2 d0).ii).toNat []).getD 3 d0).ss),.s (((((v14.getD 22 d0).ll).getD ((v14.getD 2 d0).ii).toNat []).getD 4 d0).ss),.sl (((((v14.getD 22 d0).ll).getD ((v14.getD 2 d0).ii).toNat []).getD 5 d0).ll)]
 else
 .fail) fun v17 =>
 if (v17.getD 4 d0).bb=true then
 if ((v17.getD 0 d0).ll).length + [[DC.i (10:Int),qS v17 11,qS v17 30]].length < jT then
 .ex 5 [.sl (((v17.getD 0 d0).ll) ++ [[DC.i (10:Int),qS v17 11,qS v17 30]]),qI v17 1,qI v17 2,qL v17 5,qL v17 6,qL v17 7,qI v17 8,qB v17 9,qS v17 10,qS v17 11,qL v17 12,qL v17 13,qL v17 14,qL v17 15,qL v17 16,qB v17 17,qL v17 18,qI v17 19,qB v17 20,qS v17 21,qS v17 22,qL v17 23,qL v17 24,qL v17 25,qL v17 26,qL v17 27,qB v17 28,qL v17 29]
 else
 .fail
 else
 if 199=199 ∧ 0 ≤ (v17.getD 3 d0).ii ∧ (v17.getD 3 d0).ii < (((v17.getD 13 d0).ll).length:Int) then
 (Qu [qS v17 11,.s (((((v17.getD 13 d0).ll).getD ((v17.getD 3 d0).ii).toNat []).getD 0 d0).ss),.s (((((v17.getD 13 d0).ll).getD ((v17.getD 3 d0).ii).toNat []).getD 1 d0).ss),.sl (((((v17.getD 13 d0).ll).getD ((v17.getD 3 d0).ii).toNat []).getD 2 d0).ll),.s (((((v17.getD 13 d0).ll).getD ((v17.getD 3 d0).ii).toNat []).getD 3 d0).ss),.s (((((v17.getD 13 d0).ll).getD ((v17.getD 3 d0).ii).toNat []).getD 4 d0).ss),.sl (((((v17.getD 13 d0).ll).getD ((v17.getD 3 d0).ii).toNat []).getD 5 d0).ll),qS v17 30,qS v17 31,qL v17 32,qS v17 33,qS v17 34,qL v17 35,qL v17 0]).bindR fun r18 =>
 .norm [qL r18 0,qI v17 1,qI v17 2,qL v17 5,qL v17 6,qL v17 7,qI v17 8,qB v17 9,qS v17 10,qS v17 11,qL v17 12,qL v17 13,qL v17 14,qL v17 15,qL v17 16,qB v17 17,qL v17 18,qI v17 19,qB v17 20,qS v17 21,qS v17 22,qL v17 23,qL v17 24,qL v17 25,qL v17 26,qL v17 27,qB v17 28,qL v17 29]
 else
 .fail
 else
 .fail) 5 fun v19 =>
 .norm [qL v19 0,qI v19 1,.i (IntKind.i64.wrap ((v19.getD 2 d0).ii + (1:Int))),qL v19 3,qL v19 4,qL v19 5,qI v19 6,qB v19 7,qS v19 8,qS v19 9,qL v19 10,qL v19 11,qL v19 12,qL v19 13,qL v19 14,qB v19 15,qL v19 16,qI v19 17,qB v19 18,qS v19 19,qS v19 20,qL v19 21,qL v19 22,qL v19 23,qL v19 24,qL v19 25,qB v19 26,qL v19 27]
 else
 .ex 4 [qL v14 0,qI v14 1,qL v14 3,qL v14 4,qL v14 5,qI v14 6,qB v14 7,qS v14 8,qS v14 9,qL v14 10,qL v14 11,qL v14 12,qL v14 13,qL v14 14,qB v14 15,qL v14 16]
noncomputable def jW:List DC → Out:=fun v2 =>
 if (decide ((v2.getD 1 d0).ii < (((v2.getD 9 d0).ll).length:Int)))=true then
 j9 (if 9=9 ∧ 0 ≤ (v2.getD 1 d0).ii ∧ (v2.getD 1 d0).ii < (((v2.getD 9 d0).ll).length:Int) then
 if 0 ≤ (v2.getD 1 d0).ii ∧ (v2.getD 1 d0).ii ≤ (((v2.getD 9 d0).ll).length:Int) then
 (jN [.sl (((v2.getD 9 d0).ll).take ((v2.getD 1 d0).ii).toNat),.s (((((v2.getD 9 d0).ll).getD ((v2.getD 1 d0).ii).toNat []).getD 0 d0).ss)]).bindR fun r3 =>
 ja (if (r3.getD 0 d0).bb=true then
 if ((v2.getD 0 d0).ll).length + [[DC.i (2:Int),qS v2 8,DC.s (((((v2.getD 9 d0).ll).getD ((v2.getD 1 d0).ii).toNat []).getD 0 d0).ss)]].length < jT then
 .norm [.sl (((v2.getD 0 d0).ll) ++ [[DC.i (2:Int),qS v2 8,DC.s (((((v2.getD 9 d0).ll).getD ((v2.getD 1 d0).ii).toNat []).getD 0 d0).ss)]]),qI v2 1,.s (((((v2.getD 9 d0).ll).getD ((v2.getD 1 d0).ii).toNat []).getD 0 d0).ss),qL v2 2,qL v2 3,qL v2 4,qI v2 5,qB v2 6,qS v2 7,qS v2 8,qL v2 9,qL v2 10,qL v2 11,qL v2 12,qL v2 13,qB v2 14,qL v2 15]
 else
 .fail
 else
 .norm [qL v2 0,qI v2 1,.s (((((v2.getD 9 d0).ll).getD ((v2.getD 1 d0).ii).toNat []).getD 0 d0).ss),qL v2 2,qL v2 3,qL v2 4,qI v2 5,qB v2 6,qS v2 7,qS v2 8,qL v2 9,qL v2 10,qL v2 11,qL v2 12,qL v2 13,qB v2 14,qL v2 15]) fun v4 =>
 ja ((jU [qL v4 3,qL v4 4,qL v4 5,qS v4 2]).bindR fun r5 =>
 if ((r5.getD 0 d0).ii != (3:Int))=true then
 .norm [qL v4 0,qI v4 1,qS v4 2,.b true,qL v4 3,qL v4 4,qL v4 5,qI v4 6,qB v4 7,qS v4 8,qS v4 9,qL v4 10,qL v4 11,qL v4 12,qL v4 13,qL v4 14,qB v4 15,qL v4 16]
 else
 .norm [qL v4 0,qI v4 1,qS v4 2,.b ((v4.getD 2 d0).ss == (v4.getD 9 d0).ss),qL v4 3,qL v4 4,qL v4 5,qI v4 6,qB v4 7,qS v4 8,qS v4 9,qL v4 10,qL v4 11,qL v4 12,qL v4 13,qL v4 14,qB v4 15,qL v4 16]) fun v6 =>
 if (v6.getD 3 d0).bb=true then
 if ((v6.getD 0 d0).ll).length + [[DC.i (9:Int),qS v6 10,qS v6 2]].length < jT then
 .ex 1 [.sl (((v6.getD 0 d0).ll) ++ [[DC.i (9:Int),qS v6 10,qS v6 2]]),qI v6 1,qL v6 4,qL v6 5,qL v6 6,qI v6 7,qB v6 8,qS v6 9,qS v6 10,qL v6 11,qL v6 12,qL v6 13,qL v6 14,qL v6 15,qB v6 16,qL v6 17]
 else
 .fail
 else
 (p9 [qL v6 4,qL v6 5,qL v6 6,qS v6 2]).bindR fun r7 =>
 if 37=37 ∧ 0 ≤ (r7.getD 0 d0).ii ∧ (r7.getD 0 d0).ii < (((v6.getD 4 d0).ll).length:Int) then
 (J0 [.i (((((v6.getD 4 d0).ll).getD ((r7.getD 0 d0).ii).toNat []).getD 0 d0).ii),.b (((((v6.getD 4 d0).ll).getD ((r7.getD 0 d0).ii).toNat []).getD 1 d0).bb),.s (((((v6.getD 4 d0).ll).getD ((r7.getD 0 d0).ii).toNat []).getD 2 d0).ss),.s (((((v6.getD 4 d0).ll).getD ((r7.getD 0 d0).ii).toNat []).getD 3 d0).ss),.sl (((((v6.getD 4 d0).ll).getD ((r7.getD 0 d0).ii).toNat []).getD 4 d0).ll),.sl (((((v6.getD 4 d0).ll).getD ((r7.getD 0 d0).ii).toNat []).getD 5 d0).ll),.sl (((((v6.getD 4 d0).ll).getD ((r7.getD 0 d0).ii).toNat []).getD 6 d0).ll),.sl (((((v6.getD 4 d0).ll).getD ((r7.getD 0 d0).ii).toNat []).getD 7 d0).ll),.sl (((((v6.getD 4 d0).ll).getD ((r7.getD 0 d0).ii).toNat []).getD 8 d0).ll),.b (((((v6.getD 4 d0).ll).getD ((r7.getD 0 d0).ii).toNat []).getD 9 d0).bb),.sl (((((v6.getD 4 d0).ll).getD ((r7.getD 0 d0).ii).toNat []).getD 10 d0).ll)]).bindR fun r8 =>
 if (r8.getD 0 d0).bb=true then
 if ((v6.getD 0 d0).ll).length + [[DC.i (5:Int),qS v6 10,qS v6 2]].length < jT then
 .ex 1 [.sl (((v6.getD 0 d0).ll) ++ [[DC.i (5:Int),qS v6 10,qS v6 2]]),qI v6 1,qL v6 4,qL v6 5,qL v6 6,qI v6 7,qB v6 8,qS v6 9,qS v6 10,qL v6 11,qL v6 12,qL v6 13,qL v6 14,qL v6 15,qB v6 16,qL v6 17]
 else
 .fail
 else
 j9 (jy kH [qL v6 0,qI v6 1,qS v6 2,.i (0:Int),qL v6 4,qL v6 5,qL v6 6,qI v6 7,qB v6 8,qS v6 9,qS v6 10,qL v6 11,qL v6 12,qL v6 13,qL v6 14,qL v6 15,qB v6 16,qL v6 17,.i (((((v6.getD 4 d0).ll).getD ((r7.getD 0 d0).ii).toNat []).getD 0 d0).ii),.b (((((v6.getD 4 d0).ll).getD ((r7.getD 0 d0).ii).toNat []).getD 1 d0).bb),.s (((((v6.getD 4 d0).ll).getD ((r7.getD 0 d0).ii).toNat []).getD 2 d0).ss),.s (((((v6.getD 4 d0).ll).getD ((r7.getD 0 d0).ii).toNat []).getD 3 d0).ss),.sl (((((v6.getD 4 d0).ll).getD ((r7.getD 0 d0).ii).toNat []).getD 4 d0).ll),.sl (((((v6.getD 4 d0).ll).getD ((r7.getD 0 d0).ii).toNat []).getD 5 d0).ll),.sl (((((v6.getD 4 d0).ll).getD ((r7.getD 0 d0).ii).toNat []).getD 6 d0).ll),.sl (((((v6.getD 4 d0).ll).getD ((r7.getD 0 d0).ii).toNat []).getD 7 d0).ll),.sl (((((v6.getD 4 d0).ll).getD ((r7.getD 0 d0).ii).toNat []).getD 8 d0).ll),.b (((((v6.getD 4 d0).ll).getD ((r7.getD 0 d0).ii).toNat []).getD 9 d0).bb),.sl (((((v6.getD 4 d0).ll).getD ((r7.getD 0 d0).ii).toNat []).getD 10 d0).ll)]) 2 fun v13 =>
 j9 (jy kt [qL v13 0,qI v13 1,.i (0:Int),qL v13 2,qL v13 3,qL v13 4,qI v13 5,qB v13 6,qS v13 7,qS v13 8,qL v13 9,qL v13 10,qL v13 11,qL v13 12,qL v13 13,qB v13 14,qL v13 15,qI v13 16,qB v13 17,qS v13 18,qS v13 19,qL v13 20,qL v13 21,qL v13 22,qL v13 23,qL v13 24,qB v13 25,qL v13 26]) 4 fun v20 =>
 .norm [qL v20 0,qI v20 1,qL v20 2,qL v20 3,qL v20 4,qI v20 5,qB v20 6,qS v20 7,qS v20 8,qL v20 9,qL v20 10,qL v20 11,qL v20 12,qL v20 13,qB v20 14,qL v20 15]
 else
 .fail
 else
 .fail
 else
 .fail) 1 fun v21 =>
 .norm [qL v21 0,.i (IntKind.i64.wrap ((v21.getD 1 d0).ii + (1:Int))),qL v21 2,qL v21 3,qL v21 4,qI v21 5,qB v21 6,qS v21 7,qS v21 8,qL v21 9,qL v21 10,qL v21 11,qL v21 12,qL v21 13,qB v21 14,qL v21 15]
 else
 .ex 0 [qL v2 0]
noncomputable def zZ (a:List DC):Out :=
 (J0 [qI a 3,qB a 4,qS a 5,qS a 6,qL a 7,qL a 8,qL a 9,qL a 10,qL a 11,qB a 12,qL a 13]).bindR fun r1 =>
 if (r1.getD 0 d0).bb=true then
 if ([]:List (List DC)).length + [[DC.i (5:Int),qS a 6,DC.s []]].length < jT then
 .ret [.sl (([]:List (List DC)) ++ [[DC.i (5:Int),qS a 6,DC.s []]])]
 else
 .fail
 else
 j9 (jy jW [.sl [],.i (0:Int),qL a 0,qL a 1,qL a 2,qI a 3,qB a 4,qS a 5,qS a 6,qL a 7,qL a 8,qL a 9,qL a 10,qL a 11,qB a 12,qL a 13]) 0 fun v22 =>
 .ret [qL v22 0]
theorem Yf a:zX a=zZ a:=(jq cfg 153 _ a).trans (by kernel_rfl)
noncomputable def VG:List DC → Out:=fun v1 =>
 if (decide ((v1.getD 2 d0).ii < (((v1.getD 0 d0).ll).length:Int)))=true then
 j9 (if 196=196 ∧ 0 ≤ (v1.getD 2 d0).ii ∧ (v1.getD 2 d0).ii < (((v1.getD 0 d0).ll).length:Int) then
 if (((((v1.getD 0 d0).ll).getD ((v1.getD 2 d0).ii).toNat []).getD 0 d0).ss == (v1.getD 1 d0).ss)=true then
 .ret [qI v1 2]
 else
 .norm [qL v1 0,qS v1 1,qI v1 2]
 else
 .fail) 1 fun v2 =>
 .norm [qL v2 0,qS v2 1,.i (IntKind.i64.wrap ((v2.getD 2 d0).ii + (1:Int)))]
 else
 .ex 0 []
noncomputable def j1R (a:List DC):Out :=
 j9 (jy VG [qL a 0,qS a 1,.i (0:Int)]) 0 fun v3 =>
 .ret [.i (-1:Int)]
theorem j5e a:Ju a=j1R a:=(jq cfg 154 _ a).trans (by kernel_rfl)
noncomputable def YG (a:List DC):Out :=
 (jU [qL a 0,qL a 1,qL a 2,qS a 3]).bindR fun r1 =>
 ja (if ((r1.getD 0 d0).ii == (1:Int))=true then
 .norm [.b true]
 else
 if ((r1.getD 0 d0).ii == (5:Int))=true then
 .norm [.b true]
 else
 .norm [.b ((r1.getD 0 d0).ii == (6:Int))]) fun v2 =>
 .ret [qB v2 0]
theorem j2k a:QA a=YG a:=(jq cfg 155 _ a).trans (by kernel_rfl)
noncomputable def j3P:List DC → Out:=fun v7 =>
 if (decide ((v7.getD 0 d0).ii < (((v7.getD 6 d0).ll).length:Int)))=true then
 j9 (if 184=184 ∧ 0 ≤ (v7.getD 0 d0).ii ∧ (v7.getD 0 d0).ii < (((v7.getD 6 d0).ll).length:Int) then
 (zA [qL v7 1,qL v7 2,qL v7 3,.i (((((v7.getD 6 d0).ll).getD ((v7.getD 0 d0).ii).toNat []).getD 0 d0).ii),.s (((((v7.getD 6 d0).ll).getD ((v7.getD 0 d0).ii).toNat []).getD 1 d0).ss),.sl (((((v7.getD 6 d0).ll).getD ((v7.getD 0 d0).ii).toNat []).getD 2 d0).ll),.sl (((((v7.getD 6 d0).ll).getD ((v7.getD 0 d0).ii).toNat []).getD 3 d0).ll),qS v7 8,qS v7 9]).bindR fun r8 =>
 if (!((r8.getD 0 d0).bb))=true then
 .ret [.b false]
 else
 .norm [qI v7 0,qL v7 1,qL v7 2,qL v7 3,qI v7 4,qS v7 5,qL v7 6,qL v7 7,qS v7 8,qS v7 9]
 else
 .fail) 1 fun v9 =>
 .norm [.i (IntKind.i64.wrap ((v9.getD 0 d0).ii + (1:Int))),qL v9 1,qL v9 2,qL v9 3,qI v9 4,qS v9 5,qL v9 6,qL v9 7,qS v9 8,qS v9 9]
 else
 .ex 0 []
noncomputable def KA:List DC → Out:=fun v15 =>
 if (decide ((v15.getD 0 d0).ii < (((v15.getD 12 d0).ll).length:Int)))=true then
 j9 (ja (if ((v15.getD 1 d0).ii == (6:Int))=true then
 if 201=201 ∧ 0 ≤ (v15.getD 0 d0).ii ∧ (v15.getD 0 d0).ii < (((v15.getD 12 d0).ll).length:Int) then
 .norm [qI v15 0,.b (((((v15.getD 12 d0).ll).getD ((v15.getD 0 d0).ii).toNat []).getD 0 d0).ss == (v15.getD 2 d0).ss),qI v15 1,qS v15 2,qL v15 3,qL v15 4,qI v15 5,qB v15 6,qS v15 7,qS v15 8,qL v15 9,qL v15 10,qL v15 11,qL v15 12,qL v15 13,qB v15 14,qL v15 15]
 else
 .fail
 else
 .norm [qI v15 0,.b false,qI v15 1,qS v15 2,qL v15 3,qL v15 4,qI v15 5,qB v15 6,qS v15 7,qS v15 8,qL v15 9,qL v15 10,qL v15 11,qL v15 12,qL v15 13,qB v15 14,qL v15 15]) fun v16 =>
 if (v16.getD 1 d0).bb=true then
 .ret [.b true]
 else
 .norm [qI v16 0,qI v16 2,qS v16 3,qL v16 4,qL v16 5,qI v16 6,qB v16 7,qS v16 8,qS v16 9,qL v16 10,qL v16 11,qL v16 12,qL v16 13,qL v16 14,qB v16 15,qL v16 16]) 4 fun v17 =>
 .norm [.i (IntKind.i64.wrap ((v17.getD 0 d0).ii + (1:Int))),qI v17 1,qS v17 2,qL v17 3,qL v17 4,qI v17 5,qB v17 6,qS v17 7,qS v17 8,qL v17 9,qL v17 10,qL v17 11,qL v17 12,qL v17 13,qB v17 14,qL v17 15]
 else
 .ex 3 []
noncomputable def qY (a:List DC):Out :=
 if ((a.getD 3 d0).ii == (1:Int))=true then
 .ret [.b true]
 else
 ja (if ((a.getD 3 d0).ii == (5:Int))=true then
 .norm [.b ((a.getD 4 d0).ss == ([110,117,108,108]:List UInt8)),qL a 0,qL a 1,qL a 2,qI a 3,qS a 4,qL a 5,qL a 6,qS a 7,qS a 8]
 else
 .norm [.b false,qL a 0,qL a 1,qL a 2,qI a 3,qS a 4,qL a 5,qL a 6,qS a 7,qS a 8]) fun v1 =>
 if (v1.getD 0 d0).bb=true then
 (J2 [qS v1 8,qS v1 9]).bindR fun r2 =>
 .ret [.b (!((r2.getD 0 d0).bb))]
 else
 (Qc [qS v1 8,qS v1 9]).bindR fun r3 =>
 ja (if (decide ((((r3.getD 1 d0).ss).length:Int) > (0:Int)))=true then
 if 0 ≤ (IntKind.i64.wrap ((((r3.getD 1 d0).ss).length:Int) - (1:Int))) ∧ (IntKind.i64.wrap ((((r3.getD 1 d0).ss).length:Int) - (1:Int))) < (((r3.getD 1 d0).ss).length:Int) then
 .norm [.b (((((r3.getD 1 d0).ss).getD (IntKind.i64.wrap ((((r3.getD 1 d0).ss).length:Int) - (1:Int))).toNat 0).toNat:Int) == (93:Int)),qL v1 1,qL v1 2,qL v1 3,qI v1 4,qS v1 5,qL v1 6,qL v1 7,qS r3 0,qS r3 1]
 else
 .fail
 else
 .norm [.b false,qL v1 1,qL v1 2,qL v1 3,qI v1 4,qS v1 5,qL v1 6,qL v1 7,qS r3 0,qS r3 1]) fun v4 =>
 if (v4.getD 0 d0).bb=true then
 (Xc [qS v4 8,qS v4 9]).bindR fun r5 =>
 if ((v4.getD 4 d0).ii != (7:Int))=true then
 (zA [qL v4 1,qL v4 2,qL v4 3,qI v4 4,qS v4 5,qL v4 6,qL v4 7,qS r5 0,qS r5 1]).bindR fun r6 =>
 .ret [qB r6 0]
 else
 j9 (jy j3P [.i (0:Int),qL v4 1,qL v4 2,qL v4 3,qI v4 4,qS v4 5,qL v4 6,qL v4 7,qS r5 0,qS r5 1]) 0 fun v10 =>
 .ret [.b true]
 else
 if (decide ((((v4.getD 9 d0).ss).length:Int) > (0:Int)))=true then
 .ret [.b false]
 else
 (p9 [qL v4 1,qL v4 2,qL v4 3,qS v4 8]).bindR fun r11 =>
 if (decide ((r11.getD 0 d0).ii < (0:Int)))=true then
 ja ((zB [qS v4 8]).bindR fun r12 =>
 if (r12.getD 0 d0).bb=true then
 (Ka [qS v4 8,qI v4 4,qS v4 5,qL v4 6,qL v4 7]).bindR fun r13 =>
 .norm [qB r13 0]
 else
 .norm [.b false]) fun v14 =>
 .ret [qB v14 0]
 else
 if 37=37 ∧ 0 ≤ (r11.getD 0 d0).ii ∧ (r11.getD 0 d0).ii < (((v4.getD 1 d0).ll).length:Int) then
 j9 (if (((((v4.getD 1 d0).ll).getD ((r11.getD 0 d0).ii).toNat []).getD 0 d0).ii == (1:Int))=true then
 .ret [.b true]
 else
 ja (if (((((v4.getD 1 d0).ll).getD ((r11.getD 0 d0).ii).toNat []).getD 0 d0).ii == (5:Int))=true then
 j9 (jy KA [.i (0:Int),qI v4 4,qS v4 5,qL v4 6,qL v4 7,.i (((((v4.getD 1 d0).ll).getD ((r11.getD 0 d0).ii).toNat []).getD 0 d0).ii),.b (((((v4.getD 1 d0).ll).getD ((r11.getD 0 d0).ii).toNat []).getD 1 d0).bb),.s (((((v4.getD 1 d0).ll).getD ((r11.getD 0 d0).ii).toNat []).getD 2 d0).ss),.s (((((v4.getD 1 d0).ll).getD ((r11.getD 0 d0).ii).toNat []).getD 3 d0).ss),.sl (((((v4.getD 1 d0).ll).getD ((r11.getD 0 d0).ii).toNat []).getD 4 d0).ll),.sl (((((v4.getD 1 d0).ll).getD ((r11.getD 0 d0).ii).toNat []).getD 5 d0).ll),.sl (((((v4.getD 1 d0).ll).getD ((r11.getD 0 d0).ii).toNat []).getD 6 d0).ll),.sl (((((v4.getD 1 d0).ll).getD ((r11.getD 0 d0).ii).toNat []).getD 7 d0).ll),.sl (((((v4.getD 1 d0).ll).getD ((r11.getD 0 d0).ii).toNat []).getD 8 d0).ll),.b (((((v4.getD 1 d0).ll).getD ((r11.getD 0 d0).ii).toNat []).getD 9 d0).bb),.sl (((((v4.getD 1 d0).ll).getD ((r11.getD 0 d0).ii).toNat []).getD 10 d0).ll)]) 3 fun v18 =>
 .norm []
 else
 if (((((v4.getD 1 d0).ll).getD ((r11.getD 0 d0).ii).toNat []).getD 0 d0).ii == (6:Int))=true then
 (KS [qL v4 1,qL v4 2,qL v4 3,.sl (((((v4.getD 1 d0).ll).getD ((r11.getD 0 d0).ii).toNat []).getD 6 d0).ll),qI v4 4,qS v4 5,qL v4 6,qL v4 7]).bindR fun r19 =>
 .ret [qB r19 0]
 else
 .norm []) fun v20 =>
 .norm []) 2 fun v21 =>
 .ret [.b false]
 else
 .fail
theorem j5f a:zA a=qY a:=(jq cfg 156 _ a).trans (by kernel_rfl)
noncomputable def Vi (a:List DC):Out :=
 ja ((Ks [qI a 0,.i (0:Int),.i (1114111:Int)]).bindR fun r1 =>
 if (r1.getD 0 d0).bb=true then
 (Ks [qI a 0,.i (55296:Int),.i (57343:Int)]).bindR fun r2 =>
 .norm [.b (!((r2.getD 0 d0).bb))]
 else
 .norm [.b false]) fun v3 =>
 .ret [qB v3 0]
theorem ZM (a:List DC):JC a=Vi a:=(jq qk 157 _ a).trans (by kernel_rfl)
noncomputable def Yq (a:List DC):Out :=
 ja (if (decide ((((a.getD 0 d0).ss).length:Int) > (0:Int)))=true then
 if 0 ≤ (0:Int) ∧ (0:Int) < (((a.getD 0 d0).ss).length:Int) then
 .norm [qS a 0,.i (0:Int),.b (((((a.getD 0 d0).ss).getD (0:Int).toNat 0).toNat:Int) == (45:Int))]
 else
 .fail
 else
 .norm [qS a 0,.i (0:Int),.b false]) fun v1 =>
 ja (if (v1.getD 2 d0).bb=true then
 .norm [qS v1 0,.i (1:Int)]
 else
 .norm [qS v1 0,qI v1 1]) fun v2 =>
 (Qp [qS v2 0,qI v2 1]).bindR fun r3 =>
 ja (if ((r3.getD 0 d0).ii == (v2.getD 1 d0).ii)=true then
 .norm [qI r3 0,.b true]
 else
 if 0 ≤ (v2.getD 1 d0).ii ∧ (v2.getD 1 d0).ii < (((v2.getD 0 d0).ss).length:Int) then
 if (((((v2.getD 0 d0).ss).getD ((v2.getD 1 d0).ii).toNat 0).toNat:Int) == (48:Int))=true then
 .norm [qI r3 0,.b (decide ((r3.getD 0 d0).ii > (IntKind.i64.wrap ((v2.getD 1 d0).ii + (1:Int)))))]
 else
 .norm [qI r3 0,.b false]
 else
 .fail) fun v4 =>
 if (v4.getD 1 d0).bb=true then
 .ret [.i (0:Int)]
 else
 .ret [qI v4 0]
theorem j1Z (a:List DC):Qq a=Yq a:=(jq qk 158 _ a).trans (by kernel_rfl)
noncomputable def y7 (a:List DC):Out :=
 ja (if (decide ((((a.getD 0 d0).ss).length:Int) > (0:Int)))=true then
 if 0 ≤ (0:Int) ∧ (0:Int) < (((a.getD 0 d0).ss).length:Int) then
 .norm [qS a 0,.i (0:Int),.b (((((a.getD 0 d0).ss).getD (0:Int).toNat 0).toNat:Int) == (45:Int))]
 else
 .fail
 else
 .norm [qS a 0,.i (0:Int),.b false]) fun v1 =>
 ja (if (v1.getD 2 d0).bb=true then
 .norm [qS v1 0,.i (1:Int)]
 else
 .norm [qS v1 0,qI v1 1]) fun v2 =>
 (J1 [qS v2 0,qI v2 1]).bindR fun r3 =>
 ja (if ((r3.getD 0 d0).ii == (v2.getD 1 d0).ii)=true then
 .norm [qI r3 0,.b true]
 else
 if 0 ≤ (v2.getD 1 d0).ii ∧ (v2.getD 1 d0).ii < (((v2.getD 0 d0).ss).length:Int) then
 if (((((v2.getD 0 d0).ss).getD ((v2.getD 1 d0).ii).toNat 0).toNat:Int) == (48:Int))=true then
 .norm [qI r3 0,.b (decide ((r3.getD 0 d0).ii > (IntKind.i64.wrap ((v2.getD 1 d0).ii + (1:Int)))))]
 else
 .norm [qI r3 0,.b false]
 else
 .fail) fun v4 =>
 if (v4.getD 1 d0).bb=true then
 .ret [.i (0:Int)]
 else
 .ret [qI v4 0]
theorem j3b a:Vw a=y7 a:=(jq cfg 158 _ a).trans (by kernel_rfl)
noncomputable def pF:List DC → Out:=fun v1 =>
 ja (if (decide ((v1.getD 1 d0).ii < (((v1.getD 0 d0).ss).length:Int)))=true then
 if 0 ≤ (v1.getD 1 d0).ii ∧ (v1.getD 1 d0).ii < (((v1.getD 0 d0).ss).length:Int) then
 (kD [.i ((((v1.getD 0 d0).ss).getD ((v1.getD 1 d0).ii).toNat 0).toNat:Int)]).bindR fun r2 =>
 .norm [qS v1 0,qI v1 1,qB r2 0]
 else
 .fail
 else
 .norm [qS v1 0,qI v1 1,.b false]) fun v3 =>
 if (v3.getD 2 d0).bb=true then
 j9 (.norm [qS v3 0,.i (IntKind.i64.wrap ((v3.getD 1 d0).ii + (1:Int)))]) 1 fun v4 =>
 .norm [qS v4 0,qI v4 1]
 else
 .ex 0 [qI v3 1]
noncomputable def Yp (a:List DC):Out :=
 j9 (jy pF [qS a 0,qI a 1]) 0 fun v5 =>
 .ret [qI v5 0]
theorem j1Y (a:List DC):Qp a=Yp a:=(jq qk 159 _ a).trans (by kernel_rfl)
noncomputable def qN:List DC → Out:=fun v1 =>
 ja (if (decide ((v1.getD 1 d0).ii < (((v1.getD 0 d0).ss).length:Int)))=true then
 if 0 ≤ (v1.getD 1 d0).ii ∧ (v1.getD 1 d0).ii < (((v1.getD 0 d0).ss).length:Int) then
 (Ke [.i ((((v1.getD 0 d0).ss).getD ((v1.getD 1 d0).ii).toNat 0).toNat:Int)]).bindR fun r2 =>
 .norm [qS v1 0,qI v1 1,qB r2 0]
 else
 .fail
 else
 .norm [qS v1 0,qI v1 1,.b false]) fun v3 =>
 if (v3.getD 2 d0).bb=true then
 j9 (.norm [qS v3 0,.i (IntKind.i64.wrap ((v3.getD 1 d0).ii + (1:Int)))]) 1 fun v4 =>
 .norm [qS v4 0,qI v4 1]
 else
 .ex 0 [qI v3 1]
noncomputable def Zn (a:List DC):Out :=
 j9 (jy qN [qS a 0,qI a 1]) 0 fun v5 =>
 .ret [qI v5 0]
theorem j3a a:J1 a=Zn a:=(jq cfg 159 _ a).trans (by kernel_rfl)
noncomputable def YA (a:List DC):Out :=
 if (decide ((((a.getD 1 d0).ss).length:Int) ≥ (8:Int)))=true then
 (jL [.i (8:Int),qL a 3,qI a 4,qI a 5,qI a 6,qI a 7]).bindR fun r1 =>
 .ret [qS a 0,qS a 1,qL r1 0,qI r1 1,qI r1 2,qI r1 3,qI r1 4]
 else
 if ((a.getD 1 d0).ss).length + ((a.getD 2 d0).ss).length < jT then
 .ret [qS a 0,.s (((a.getD 1 d0).ss) ++ ((a.getD 2 d0).ss)),qL a 3,.i (IntKind.i64.wrap ((a.getD 4 d0).ii + (1:Int))),qI a 5,qI a 6,qI a 7]
 else
 .fail
theorem j2b a:JK a=YA a:=(jq cfg 163 _ a).trans (by kernel_rfl)
noncomputable def jS:List DC → Out:=fun v1 =>
 j9 (j9 (ja (if (decide ((((v1.getD 6 d0).ss).length:Int) > (0:Int)))=true then
 if 0 ≤ (IntKind.i64.wrap ((((v1.getD 6 d0).ss).length:Int) - (1:Int))) ∧ (IntKind.i64.wrap ((((v1.getD 6 d0).ss).length:Int) - (1:Int))) < (((v1.getD 6 d0).ss).length:Int) then
 .norm [.i (((v1.getD 4 d0).ss).length:Int),.i (((v1.getD 6 d0).ss).length:Int),.b (((((v1.getD 6 d0).ss).getD (IntKind.i64.wrap ((((v1.getD 6 d0).ss).length:Int) - (1:Int))).toNat 0).toNat:Int) == (33:Int)),qL v1 0,qL v1 1,qL v1 2,qS v1 3,qS v1 4,qS v1 5,qS v1 6]
 else
 .fail
 else
 .norm [.i (((v1.getD 4 d0).ss).length:Int),.i (((v1.getD 6 d0).ss).length:Int),.b false,qL v1 0,qL v1 1,qL v1 2,qS v1 3,qS v1 4,qS v1 5,qS v1 6]) fun v2 =>
 ja (if (v2.getD 2 d0).bb=true then
 ja (if ((v2.getD 0 d0).ii == (0:Int))=true then
 .norm [qI v2 0,qI v2 1,.b true,qL v2 3,qL v2 4,qL v2 5,qS v2 6,qS v2 7,qS v2 8,qS v2 9]
 else
 if 0 ≤ (IntKind.i64.wrap ((v2.getD 0 d0).ii - (1:Int))) ∧ (IntKind.i64.wrap ((v2.getD 0 d0).ii - (1:Int))) < (((v2.getD 7 d0).ss).length:Int) then
 .norm [qI v2 0,qI v2 1,.b (((((v2.getD 7 d0).ss).getD (IntKind.i64.wrap ((v2.getD 0 d0).ii - (1:Int))).toNat 0).toNat:Int) != (33:Int)),qL v2 3,qL v2 4,qL v2 5,qS v2 6,qS v2 7,qS v2 8,qS v2 9]
 else
 .fail) fun v3 =>
 if (v3.getD 2 d0).bb=true then
 .ret [.b false]
 else
 if 0 ≤ (IntKind.i64.wrap ((v3.getD 0 d0).ii - (1:Int))) ∧ (IntKind.i64.wrap ((v3.getD 0 d0).ii - (1:Int))) ≤ (((v3.getD 7 d0).ss).length:Int) then
 if 0 ≤ (IntKind.i64.wrap ((v3.getD 1 d0).ii - (1:Int))) ∧ (IntKind.i64.wrap ((v3.getD 1 d0).ii - (1:Int))) ≤ (((v3.getD 9 d0).ss).length:Int) then
 .norm [qL v3 3,qL v3 4,qL v3 5,qS v3 6,.s (((v3.getD 7 d0).ss).take (IntKind.i64.wrap ((v3.getD 0 d0).ii - (1:Int))).toNat),qS v3 8,.s (((v3.getD 9 d0).ss).take (IntKind.i64.wrap ((v3.getD 1 d0).ii - (1:Int))).toNat)]
 else
 .fail
 else
 .fail
 else
 ja (if (decide ((v2.getD 0 d0).ii > (0:Int)))=true then
 if 0 ≤ (IntKind.i64.wrap ((v2.getD 0 d0).ii - (1:Int))) ∧ (IntKind.i64.wrap ((v2.getD 0 d0).ii - (1:Int))) < (((v2.getD 7 d0).ss).length:Int) then
 .norm [qI v2 0,qI v2 1,.b (((((v2.getD 7 d0).ss).getD (IntKind.i64.wrap ((v2.getD 0 d0).ii - (1:Int))).toNat 0).toNat:Int) == (33:Int)),qL v2 3,qL v2 4,qL v2 5,qS v2 6,qS v2 7,qS v2 8,qS v2 9]
 else
 .fail
 else
 .norm [qI v2 0,qI v2 1,.b false,qL v2 3,qL v2 4,qL v2 5,qS v2 6,qS v2 7,qS v2 8,qS v2 9]) fun v4 =>
 ja (if (v4.getD 2 d0).bb=true then
 if 0 ≤ (IntKind.i64.wrap ((v4.getD 0 d0).ii - (1:Int))) ∧ (IntKind.i64.wrap ((v4.getD 0 d0).ii - (1:Int))) ≤ (((v4.getD 7 d0).ss).length:Int) then
 .norm [qL v4 3,qL v4 4,qL v4 5,qS v4 6,.s (((v4.getD 7 d0).ss).take (IntKind.i64.wrap ((v4.getD 0 d0).ii - (1:Int))).toNat),qS v4 8,qS v4 9]
 else
 .fail
 else
 ja (if (decide ((v4.getD 0 d0).ii > (0:Int)))=true then
 if (decide ((v4.getD 1 d0).ii > (0:Int)))=true then
 if 0 ≤ (IntKind.i64.wrap ((v4.getD 0 d0).ii - (1:Int))) ∧ (IntKind.i64.wrap ((v4.getD 0 d0).ii - (1:Int))) < (((v4.getD 7 d0).ss).length:Int) then
 if (((((v4.getD 7 d0).ss).getD (IntKind.i64.wrap ((v4.getD 0 d0).ii - (1:Int))).toNat 0).toNat:Int) == (93:Int))=true then
 if 0 ≤ (IntKind.i64.wrap ((v4.getD 1 d0).ii - (1:Int))) ∧ (IntKind.i64.wrap ((v4.getD 1 d0).ii - (1:Int))) < (((v4.getD 9 d0).ss).length:Int) then
 .norm [qI v4 0,qI v4 1,.b (((((v4.getD 9 d0).ss).getD (IntKind.i64.wrap ((v4.getD 1 d0).ii - (1:Int))).toNat 0).toNat:Int) == (93:Int)),qL v4 3,qL v4 4,qL v4 5,qS v4 6,qS v4 7,qS v4 8,qS v4 9]
 else
 .fail
 else
 .norm [qI v4 0,qI v4 1,.b false,qL v4 3,qL v4 4,qL v4 5,qS v4 6,qS v4 7,qS v4 8,qS v4 9]
 else
 .fail
 else
 .norm [qI v4 0,qI v4 1,.b false,qL v4 3,qL v4 4,qL v4 5,qS v4 6,qS v4 7,qS v4 8,qS v4 9]
 else
 .norm [qI v4 0,qI v4 1,.b false,qL v4 3,qL v4 4,qL v4 5,qS v4 6,qS v4 7,qS v4 8,qS v4 9]) fun v5 =>
 if (v5.getD 2 d0).bb=true then
 if 0 ≤ (IntKind.i64.wrap ((v5.getD 0 d0).ii - (1:Int))) ∧ (IntKind.i64.wrap ((v5.getD 0 d0).ii - (1:Int))) ≤ (((v5.getD 7 d0).ss).length:Int) then
 if 0 ≤ (IntKind.i64.wrap ((v5.getD 1 d0).ii - (1:Int))) ∧ (IntKind.i64.wrap ((v5.getD 1 d0).ii - (1:Int))) ≤ (((v5.getD 9 d0).ss).length:Int) then
 .norm [qL v5 3,qL v5 4,qL v5 5,qS v5 6,.s (((v5.getD 7 d0).ss).take (IntKind.i64.wrap ((v5.getD 0 d0).ii - (1:Int))).toNat),qS v5 8,.s (((v5.getD 9 d0).ss).take (IntKind.i64.wrap ((v5.getD 1 d0).ii - (1:Int))).toNat)]
 else
 .fail
 else
 .fail
 else
 ja (if ((v5.getD 0 d0).ii == (0:Int))=true then
 if ((v5.getD 1 d0).ii == (0:Int))=true then
 (KT [qL v5 3,qL v5 4,qL v5 5,qS v5 6,qS v5 8]).bindR fun r6 =>
 .norm [qB r6 0]
 else
 .norm [.b false]
 else
 .norm [.b false]) fun v7 =>
 .ret [qB v7 0]) fun v8 =>
 .norm [qL v8 0,qL v8 1,qL v8 2,qS v8 3,qS v8 4,qS v8 5,qS v8 6]) fun v9 =>
 .norm [qL v9 0,qL v9 1,qL v9 2,qS v9 3,qS v9 4,qS v9 5,qS v9 6]) 2 fun v10 =>
 .norm [qL v10 0,qL v10 1,qL v10 2,qS v10 3,qS v10 4,qS v10 5,qS v10 6]) 1 fun v11 =>
 .norm [qL v11 0,qL v11 1,qL v11 2,qS v11 3,qS v11 4,qS v11 5,qS v11 6]
noncomputable def YF (a:List DC):Out :=
 j9 (jy jS [qL a 0,qL a 1,qL a 2,qS a 3,qS a 4,qS a 5,qS a 6]) 0 fun v12 =>
 .fail
theorem j2i a:Qy a=YF a:=(jq cfg 164 _ a).trans (by kernel_rfl)
noncomputable def pI:List DC → Out:=fun v1 =>
 if (decide ((v1.getD 2 d0).ii < (((v1.getD 11 d0).ll).length:Int)))=true then
 j9 (if 196=196 ∧ 0 ≤ (v1.getD 2 d0).ii ∧ (v1.getD 2 d0).ii < (((v1.getD 11 d0).ll).length:Int) then
 (Ju [qL v1 5,.s (((((v1.getD 11 d0).ll).getD ((v1.getD 2 d0).ii).toNat []).getD 0 d0).ss)]).bindR fun r2 =>
 ja (if (decide ((r2.getD 0 d0).ii < (0:Int)))=true then
 .norm [qS v1 0,qL v1 1,qI v1 2,.b true,qS v1 3,qS v1 4,qL v1 5,qS v1 6,qS v1 7,qL v1 8,qS v1 9,qS v1 10,qL v1 11,qS v1 12,qS v1 13,qL v1 14]
 else
 if 196=196 ∧ 0 ≤ (r2.getD 0 d0).ii ∧ (r2.getD 0 d0).ii < (((v1.getD 5 d0).ll).length:Int) then
 if 196=196 ∧ 0 ≤ (v1.getD 2 d0).ii ∧ (v1.getD 2 d0).ii < (((v1.getD 11 d0).ll).length:Int) then
 .norm [qS v1 0,qL v1 1,qI v1 2,.b (!((((((v1.getD 5 d0).ll).getD ((r2.getD 0 d0).ii).toNat []).getD 2 d0).ss == ((((v1.getD 11 d0).ll).getD ((v1.getD 2 d0).ii).toNat []).getD 2 d0).ss) && ((((((v1.getD 5 d0).ll).getD ((r2.getD 0 d0).ii).toNat []).getD 3 d0).ss == ((((v1.getD 11 d0).ll).getD ((v1.getD 2 d0).ii).toNat []).getD 3 d0).ss) && true))),qS v1 3,qS v1 4,qL v1 5,qS v1 6,qS v1 7,qL v1 8,qS v1 9,qS v1 10,qL v1 11,qS v1 12,qS v1 13,qL v1 14]
 else
 .fail
 else
 .fail) fun v3 =>
 ja (if (v3.getD 3 d0).bb=true then
 if ((v3.getD 1 d0).ll).length + [[DC.i (11:Int),qS v3 0,qS v3 10]].length < jT then
 .norm [qS v3 0,.sl (((v3.getD 1 d0).ll) ++ [[DC.i (11:Int),qS v3 0,qS v3 10]]),qI v3 2,qS v3 4,qS v3 5,qL v3 6,qS v3 7,qS v3 8,qL v3 9,qS v3 10,qS v3 11,qL v3 12,qS v3 13,qS v3 14,qL v3 15]
 else
 .fail
 else
 .norm [qS v3 0,qL v3 1,qI v3 2,qS v3 4,qS v3 5,qL v3 6,qS v3 7,qS v3 8,qL v3 9,qS v3 10,qS v3 11,qL v3 12,qS v3 13,qS v3 14,qL v3 15]) fun v4 =>
 .norm [qS v4 0,qL v4 1,qI v4 2,qS v4 3,qS v4 4,qL v4 5,qS v4 6,qS v4 7,qL v4 8,qS v4 9,qS v4 10,qL v4 11,qS v4 12,qS v4 13,qL v4 14]
 else
 .fail) 1 fun v5 =>
 .norm [qS v5 0,qL v5 1,.i (IntKind.i64.wrap ((v5.getD 2 d0).ii + (1:Int))),qS v5 3,qS v5 4,qL v5 5,qS v5 6,qS v5 7,qL v5 8,qS v5 9,qS v5 10,qL v5 11,qS v5 12,qS v5 13,qL v5 14]
 else
 .ex 0 [qS v1 0,qL v1 1,qS v1 3,qS v1 4,qL v1 5,qS v1 6,qS v1 7,qL v1 8,qS v1 9,qS v1 10,qL v1 11,qS v1 12,qS v1 13,qL v1 14]
noncomputable def qt:List DC → Out:=fun v8 =>
 if (decide ((v8.getD 3 d0).ii < (((v8.getD 2 d0).ll).length:Int)))=true then
 j9 (if 9=9 ∧ 0 ≤ (v8.getD 3 d0).ii ∧ (v8.getD 3 d0).ii < (((v8.getD 2 d0).ll).length:Int) then
 (Ju [qL v8 6,.s (((((v8.getD 2 d0).ll).getD ((v8.getD 3 d0).ii).toNat []).getD 0 d0).ss)]).bindR fun r9 =>
 ja (if (decide ((r9.getD 0 d0).ii < (0:Int)))=true then
 if ((v8.getD 1 d0).ll).length + [[DC.i (11:Int),qS v8 0,qS v8 4]].length < jT then
 .norm [qS v8 0,.sl (((v8.getD 1 d0).ll) ++ [[DC.i (11:Int),qS v8 0,qS v8 4]]),qL v8 2,qI v8 3,qS v8 4,qS v8 5,qL v8 6,qS v8 7,qS v8 8,qL v8 9]
 else
 .fail
 else
 .norm [qS v8 0,qL v8 1,qL v8 2,qI v8 3,qS v8 4,qS v8 5,qL v8 6,qS v8 7,qS v8 8,qL v8 9]) fun v10 =>
 .norm [qS v10 0,qL v10 1,qL v10 2,qI v10 3,qS v10 4,qS v10 5,qL v10 6,qS v10 7,qS v10 8,qL v10 9]
 else
 .fail) 3 fun v11 =>
 .norm [qS v11 0,qL v11 1,qL v11 2,.i (IntKind.i64.wrap ((v11.getD 3 d0).ii + (1:Int))),qS v11 4,qS v11 5,qL v11 6,qS v11 7,qS v11 8,qL v11 9]
 else
 .ex 2 [qL v8 1]
noncomputable def Yu (a:List DC):Out :=
 j9 (jy pI [qS a 0,qL a 13,.i (0:Int),qS a 1,qS a 2,qL a 3,qS a 4,qS a 5,qL a 6,qS a 7,qS a 8,qL a 9,qS a 10,qS a 11,qL a 12]) 0 fun v6 =>
 (zd [qL v6 4]).bindR fun r7 =>
 j9 (jy qt [qS v6 0,qL v6 1,qL r7 0,.i (0:Int),qS v6 8,qS v6 9,qL v6 10,qS v6 11,qS v6 12,qL v6 13]) 2 fun v12 =>
 .ret [qL v12 0]
theorem j25 a:Qu a=Yu a:=(jq cfg 165 _ a).trans (by kernel_rfl)
noncomputable def VF (a:List DC):Out :=
 ja (if (decide ((((a.getD 1 d0).ss).length:Int) > (0:Int)))=true then
 if 0 ≤ (IntKind.i64.wrap ((((a.getD 1 d0).ss).length:Int) - (1:Int))) ∧ (IntKind.i64.wrap ((((a.getD 1 d0).ss).length:Int) - (1:Int))) < (((a.getD 1 d0).ss).length:Int) then
 .norm [.b (((((a.getD 1 d0).ss).getD (IntKind.i64.wrap ((((a.getD 1 d0).ss).length:Int) - (1:Int))).toNat 0).toNat:Int) == (33:Int))]
 else
 .fail
 else
 .norm [.b false]) fun v1 =>
 .ret [qB v1 0]
theorem j3e a:J2 a=VF a:=(jq cfg 166 _ a).trans (by kernel_rfl)
noncomputable def Xu (a:List DC):Out :=
 (J2 [qS a 0,qS a 1]).bindR fun r1 =>
 ja (if (r1.getD 0 d0).bb=true then
 if 0 ≤ (IntKind.i64.wrap ((((a.getD 1 d0).ss).length:Int) - (1:Int))) ∧ (IntKind.i64.wrap ((((a.getD 1 d0).ss).length:Int) - (1:Int))) ≤ (((a.getD 1 d0).ss).length:Int) then
 .norm [qS a 0,.s (((a.getD 1 d0).ss).take (IntKind.i64.wrap ((((a.getD 1 d0).ss).length:Int) - (1:Int))).toNat),.s [],.s []]
 else
 .fail
 else
 .norm [qS a 0,qS a 1,.s [],.s []]) fun v2 =>
 .ret [qS v2 0,qS v2 1]
theorem j3M a:Qc a=Xu a:=(jq cfg 167 _ a).trans (by kernel_rfl)
noncomputable def Qi (a:List DC):Out :=
 (Qc [qS a 0,qS a 1]).bindR fun r1 =>
 ja (if (decide ((((r1.getD 1 d0).ss).length:Int) > (0:Int)))=true then
 if 0 ≤ (IntKind.i64.wrap ((((r1.getD 1 d0).ss).length:Int) - (1:Int))) ∧ (IntKind.i64.wrap ((((r1.getD 1 d0).ss).length:Int) - (1:Int))) < (((r1.getD 1 d0).ss).length:Int) then
 .norm [.b (((((r1.getD 1 d0).ss).getD (IntKind.i64.wrap ((((r1.getD 1 d0).ss).length:Int) - (1:Int))).toNat 0).toNat:Int) == (93:Int)),qS r1 0,qS r1 1,.s [],.s []]
 else
 .fail
 else
 .norm [.b false,qS r1 0,qS r1 1,.s [],.s []]) fun v2 =>
 if (v2.getD 0 d0).bb=true then
 if 0 ≤ (IntKind.i64.wrap ((((v2.getD 2 d0).ss).length:Int) - (1:Int))) ∧ (IntKind.i64.wrap ((((v2.getD 2 d0).ss).length:Int) - (1:Int))) ≤ (((v2.getD 2 d0).ss).length:Int) then
 .ret [qS v2 1,.s (((v2.getD 2 d0).ss).take (IntKind.i64.wrap ((((v2.getD 2 d0).ss).length:Int) - (1:Int))).toNat)]
 else
 .fail
 else
 .ret [qS v2 1,.s []]
theorem j3L a:Xc a=Qi a:=(jq cfg 168 _ a).trans (by kernel_rfl)
noncomputable def VY (a:List DC):Out :=
 j9 (if ((a.getD 0 d0).ss == ([73,110,116]:List UInt8))=true then
 ja (if ((a.getD 1 d0).ii == (2:Int))=true then
 (Vy [qS a 2]).bindR fun r1 =>
 .norm [qB r1 0]
 else
 .norm [.b false]) fun v2 =>
 .ret [qB v2 0]
 else
 if ((a.getD 0 d0).ss == ([70,108,111,97,116]:List UInt8))=true then
 ja (if ((a.getD 1 d0).ii == (2:Int))=true then
 .norm [.b true]
 else
 .norm [.b ((a.getD 1 d0).ii == (3:Int))]) fun v3 =>
 .ret [qB v3 0]
 else
 if ((a.getD 0 d0).ss == ([83,116,114,105,110,103]:List UInt8))=true then
 .ret [.b ((a.getD 1 d0).ii == (4:Int))]
 else
 if ((a.getD 0 d0).ss == ([66,111,111,108,101,97,110]:List UInt8))=true then
 ja (if ((a.getD 1 d0).ii == (5:Int))=true then
 if ((a.getD 2 d0).ss == ([116,114,117,101]:List UInt8))=true then
 .norm [.b true]
 else
 .norm [.b ((a.getD 2 d0).ss == ([102,97,108,115,101]:List UInt8))]
 else
 .norm [.b false]) fun v4 =>
 .ret [qB v4 0]
 else
 .norm [qI a 1,qS a 2,qL a 3,qL a 4]) 0 fun v5 =>
 ja (if ((v5.getD 0 d0).ii == (2:Int))=true then
 .norm [.b true]
 else
 .norm [.b ((v5.getD 0 d0).ii == (4:Int))]) fun v6 =>
 .ret [qB v6 0]
theorem j0w a:Ka a=VY a:=(jq cfg 169 _ a).trans (by kernel_rfl)
noncomputable def j0O:List DC → Out:=fun v2 =>
 if (decide ((v2.getD 1 d0).ii < (((v2.getD 8 d0).ll).length:Int)))=true then
 j9 (if 9=9 ∧ 0 ≤ (v2.getD 1 d0).ii ∧ (v2.getD 1 d0).ii < (((v2.getD 8 d0).ll).length:Int) then
 (Ju [qL v2 0,.s (((((v2.getD 8 d0).ll).getD ((v2.getD 1 d0).ii).toNat []).getD 0 d0).ss)]).bindR fun r3 =>
 ja (if (decide ((r3.getD 0 d0).ii < (0:Int)))=true then
 .norm [qL v2 0,qI v2 1,.b true,qL v2 2,qL v2 3,qL v2 4,qI v2 5,qS v2 6,qL v2 7,qL v2 8]
 else
 if 0 ≤ (v2.getD 1 d0).ii ∧ (v2.getD 1 d0).ii ≤ (((v2.getD 8 d0).ll).length:Int) then
 if 9=9 ∧ 0 ≤ (v2.getD 1 d0).ii ∧ (v2.getD 1 d0).ii < (((v2.getD 8 d0).ll).length:Int) then
 (jN [.sl (((v2.getD 8 d0).ll).take ((v2.getD 1 d0).ii).toNat),.s (((((v2.getD 8 d0).ll).getD ((v2.getD 1 d0).ii).toNat []).getD 0 d0).ss)]).bindR fun r4 =>
 if (r4.getD 0 d0).bb=true then
 .norm [qL v2 0,qI v2 1,.b true,qL v2 2,qL v2 3,qL v2 4,qI v2 5,qS v2 6,qL v2 7,qL v2 8]
 else
 if 184=184 ∧ 0 ≤ (v2.getD 1 d0).ii ∧ (v2.getD 1 d0).ii < (((v2.getD 7 d0).ll).length:Int) then
 if 196=196 ∧ 0 ≤ (r3.getD 0 d0).ii ∧ (r3.getD 0 d0).ii < (((v2.getD 0 d0).ll).length:Int) then
 (zA [qL v2 2,qL v2 3,qL v2 4,.i (((((v2.getD 7 d0).ll).getD ((v2.getD 1 d0).ii).toNat []).getD 0 d0).ii),.s (((((v2.getD 7 d0).ll).getD ((v2.getD 1 d0).ii).toNat []).getD 1 d0).ss),.sl (((((v2.getD 7 d0).ll).getD ((v2.getD 1 d0).ii).toNat []).getD 2 d0).ll),.sl (((((v2.getD 7 d0).ll).getD ((v2.getD 1 d0).ii).toNat []).getD 3 d0).ll),.s (((((v2.getD 0 d0).ll).getD ((r3.getD 0 d0).ii).toNat []).getD 2 d0).ss),.s (((((v2.getD 0 d0).ll).getD ((r3.getD 0 d0).ii).toNat []).getD 3 d0).ss)]).bindR fun r5 =>
 .norm [qL v2 0,qI v2 1,.b (!((r5.getD 0 d0).bb)),qL v2 2,qL v2 3,qL v2 4,qI v2 5,qS v2 6,qL v2 7,qL v2 8]
 else
 .fail
 else
 .fail
 else
 .fail
 else
 .fail) fun v6 =>
 if (v6.getD 2 d0).bb=true then
 .ret [.b false]
 else
 .norm [qL v6 0,qI v6 1,qL v6 3,qL v6 4,qL v6 5,qI v6 6,qS v6 7,qL v6 8,qL v6 9]
 else
 .fail) 1 fun v7 =>
 .norm [qL v7 0,.i (IntKind.i64.wrap ((v7.getD 1 d0).ii + (1:Int))),qL v7 2,qL v7 3,qL v7 4,qI v7 5,qS v7 6,qL v7 7,qL v7 8]
 else
 .ex 0 [qL v2 0,qI v2 5,qS v2 6,qL v2 7,qL v2 8]
noncomputable def j0N:List DC → Out:=fun v10 =>
 if (decide ((v10.getD 1 d0).ii < (((v10.getD 0 d0).ll).length:Int)))=true then
 j9 (if 9=9 ∧ 0 ≤ (v10.getD 1 d0).ii ∧ (v10.getD 1 d0).ii < (((v10.getD 0 d0).ll).length:Int) then
 (jN [qL v10 5,.s (((((v10.getD 0 d0).ll).getD ((v10.getD 1 d0).ii).toNat []).getD 0 d0).ss)]).bindR fun r11 =>
 if (!((r11.getD 0 d0).bb))=true then
 .ret [.b false]
 else
 .norm [qL v10 0,qI v10 1,qI v10 2,qS v10 3,qL v10 4,qL v10 5]
 else
 .fail) 3 fun v12 =>
 .norm [qL v12 0,.i (IntKind.i64.wrap ((v12.getD 1 d0).ii + (1:Int))),qI v12 2,qS v12 3,qL v12 4,qL v12 5]
 else
 .ex 2 []
noncomputable def XE (a:List DC):Out :=
 ja (if ((a.getD 4 d0).ii != (8:Int))=true then
 .norm [qL a 3,.b true,qL a 0,qL a 1,qL a 2,qI a 4,qS a 5,qL a 6,qL a 7]
 else
 if ((((a.getD 7 d0).ll).length:Int) != (((a.getD 6 d0).ll).length:Int))=true then
 .norm [qL a 3,.b true,qL a 0,qL a 1,qL a 2,qI a 4,qS a 5,qL a 6,qL a 7]
 else
 .norm [qL a 3,.b (decide ((((a.getD 7 d0).ll).length:Int) > (100:Int))),qL a 0,qL a 1,qL a 2,qI a 4,qS a 5,qL a 6,qL a 7]) fun v1 =>
 if (v1.getD 1 d0).bb=true then
 .ret [.b false]
 else
 j9 (jy j0O [qL v1 0,.i (0:Int),qL v1 2,qL v1 3,qL v1 4,qI v1 5,qS v1 6,qL v1 7,qL v1 8]) 0 fun v8 =>
 (zd [qL v8 0]).bindR fun r9 =>
 j9 (jy j0N [qL r9 0,.i (0:Int),qI v8 1,qS v8 2,qL v8 3,qL v8 4]) 2 fun v13 =>
 .ret [.b true]
theorem j1l a:KS a=XE a:=(jq cfg 170 _ a).trans (by kernel_rfl)
noncomputable def Zj (a:List DC):Out :=
 ja (if (decide ((a.getD 0 d0).ii ≥ (a.getD 1 d0).ii))=true then
 .norm [.b (decide ((a.getD 0 d0).ii ≤ (a.getD 2 d0).ii))]
 else
 .norm [.b false]) fun v1 =>
 .ret [qB v1 0]
theorem j36 (a:List DC):Ks a=Zj a:=(jq qk 171 _ a).trans (by kernel_rfl)
noncomputable def XF (a:List DC):Out :=
 if ((a.getD 3 d0).ss == (a.getD 4 d0).ss)=true then
 .ret [.b true]
 else
 (p9 [qL a 0,qL a 1,qL a 2,qS a 3]).bindR fun r1 =>
 (p9 [qL a 0,qL a 1,qL a 2,qS a 4]).bindR fun r2 =>
 ja (if (decide ((r1.getD 0 d0).ii < (0:Int)))=true then
 .norm [qS a 3,qS a 4,qI r1 0,qI r2 0,.b true,qL a 0,qL a 1,qL a 2]
 else
 .norm [qS a 3,qS a 4,qI r1 0,qI r2 0,.b (decide ((r2.getD 0 d0).ii < (0:Int))),qL a 0,qL a 1,qL a 2]) fun v3 =>
 if (v3.getD 4 d0).bb=true then
 .ret [.b false]
 else
 if 37=37 ∧ 0 ≤ (v3.getD 2 d0).ii ∧ (v3.getD 2 d0).ii < (((v3.getD 5 d0).ll).length:Int) then
 if 37=37 ∧ 0 ≤ (v3.getD 3 d0).ii ∧ (v3.getD 3 d0).ii < (((v3.getD 5 d0).ll).length:Int) then
 ja (if (((((v3.getD 5 d0).ll).getD ((v3.getD 3 d0).ii).toNat []).getD 0 d0).ii == (3:Int))=true then
 if (((((v3.getD 5 d0).ll).getD ((v3.getD 2 d0).ii).toNat []).getD 0 d0).ii == (2:Int))=true then
 .norm [qS v3 0,qS v3 1,.b true,.i (((((v3.getD 5 d0).ll).getD ((v3.getD 2 d0).ii).toNat []).getD 0 d0).ii),.b (((((v3.getD 5 d0).ll).getD ((v3.getD 2 d0).ii).toNat []).getD 1 d0).bb),.s (((((v3.getD 5 d0).ll).getD ((v3.getD 2 d0).ii).toNat []).getD 2 d0).ss),.s (((((v3.getD 5 d0).ll).getD ((v3.getD 2 d0).ii).toNat []).getD 3 d0).ss),.sl (((((v3.getD 5 d0).ll).getD ((v3.getD 2 d0).ii).toNat []).getD 4 d0).ll),.sl (((((v3.getD 5 d0).ll).getD ((v3.getD 2 d0).ii).toNat []).getD 5 d0).ll),.sl (((((v3.getD 5 d0).ll).getD ((v3.getD 2 d0).ii).toNat []).getD 6 d0).ll),.sl (((((v3.getD 5 d0).ll).getD ((v3.getD 2 d0).ii).toNat []).getD 7 d0).ll),.sl (((((v3.getD 5 d0).ll).getD ((v3.getD 2 d0).ii).toNat []).getD 8 d0).ll),.b (((((v3.getD 5 d0).ll).getD ((v3.getD 2 d0).ii).toNat []).getD 9 d0).bb),.sl (((((v3.getD 5 d0).ll).getD ((v3.getD 2 d0).ii).toNat []).getD 10 d0).ll),.i (((((v3.getD 5 d0).ll).getD ((v3.getD 3 d0).ii).toNat []).getD 0 d0).ii),.b (((((v3.getD 5 d0).ll).getD ((v3.getD 3 d0).ii).toNat []).getD 1 d0).bb),.s (((((v3.getD 5 d0).ll).getD ((v3.getD 3 d0).ii).toNat []).getD 2 d0).ss),.s (((((v3.getD 5 d0).ll).getD ((v3.getD 3 d0).ii).toNat []).getD 3 d0).ss),.sl (((((v3.getD 5 d0).ll).getD ((v3.getD 3 d0).ii).toNat []).getD 4 d0).ll),.sl (((((v3.getD 5 d0).ll).getD ((v3.getD 3 d0).ii).toNat []).getD 5 d0).ll),.sl (((((v3.getD 5 d0).ll).getD ((v3.getD 3 d0).ii).toNat []).getD 6 d0).ll),.sl (((((v3.getD 5 d0).ll).getD ((v3.getD 3 d0).ii).toNat []).getD 7 d0).ll),.sl (((((v3.getD 5 d0).ll).getD ((v3.getD 3 d0).ii).toNat []).getD 8 d0).ll),.b (((((v3.getD 5 d0).ll).getD ((v3.getD 3 d0).ii).toNat []).getD 9 d0).bb),.sl (((((v3.getD 5 d0).ll).getD ((v3.getD 3 d0).ii).toNat []).getD 10 d0).ll)]
 else
 .norm [qS v3 0,qS v3 1,.b (((((v3.getD 5 d0).ll).getD ((v3.getD 2 d0).ii).toNat []).getD 0 d0).ii == (3:Int)),.i (((((v3.getD 5 d0).ll).getD ((v3.getD 2 d0).ii).toNat []).getD 0 d0).ii),.b (((((v3.getD 5 d0).ll).getD ((v3.getD 2 d0).ii).toNat []).getD 1 d0).bb),.s (((((v3.getD 5 d0).ll).getD ((v3.getD 2 d0).ii).toNat []).getD 2 d0).ss),.s (((((v3.getD 5 d0).ll).getD ((v3.getD 2 d0).ii).toNat []).getD 3 d0).ss),.sl (((((v3.getD 5 d0).ll).getD ((v3.getD 2 d0).ii).toNat []).getD 4 d0).ll),.sl (((((v3.getD 5 d0).ll).getD ((v3.getD 2 d0).ii).toNat []).getD 5 d0).ll),.sl (((((v3.getD 5 d0).ll).getD ((v3.getD 2 d0).ii).toNat []).getD 6 d0).ll),.sl (((((v3.getD 5 d0).ll).getD ((v3.getD 2 d0).ii).toNat []).getD 7 d0).ll),.sl (((((v3.getD 5 d0).ll).getD ((v3.getD 2 d0).ii).toNat []).getD 8 d0).ll),.b (((((v3.getD 5 d0).ll).getD ((v3.getD 2 d0).ii).toNat []).getD 9 d0).bb),.sl (((((v3.getD 5 d0).ll).getD ((v3.getD 2 d0).ii).toNat []).getD 10 d0).ll),.i (((((v3.getD 5 d0).ll).getD ((v3.getD 3 d0).ii).toNat []).getD 0 d0).ii),.b (((((v3.getD 5 d0).ll).getD ((v3.getD 3 d0).ii).toNat []).getD 1 d0).bb),.s (((((v3.getD 5 d0).ll).getD ((v3.getD 3 d0).ii).toNat []).getD 2 d0).ss),.s (((((v3.getD 5 d0).ll).getD ((v3.getD 3 d0).ii).toNat []).getD 3 d0).ss),.sl (((((v3.getD 5 d0).ll).getD ((v3.getD 3 d0).ii).toNat []).getD 4 d0).ll),.sl (((((v3.getD 5 d0).ll).getD ((v3.getD 3 d0).ii).toNat []).getD 5 d0).ll),.sl (((((v3.getD 5 d0).ll).getD ((v3.getD 3 d0).ii).toNat []).getD 6 d0).ll),.sl (((((v3.getD 5 d0).ll).getD ((v3.getD 3 d0).ii).toNat []).getD 7 d0).ll),.sl (((((v3.getD 5 d0).ll).getD ((v3.getD 3 d0).ii).toNat []).getD 8 d0).ll),.b (((((v3.getD 5 d0).ll).getD ((v3.getD 3 d0).ii).toNat []).getD 9 d0).bb),.sl (((((v3.getD 5 d0).ll).getD ((v3.getD 3 d0).ii).toNat []).getD 10 d0).ll)]
 else
 .norm [qS v3 0,qS v3 1,.b false,.i (((((v3.getD 5 d0).ll).getD ((v3.getD 2 d0).ii).toNat []).getD 0 d0).ii),.b (((((v3.getD 5 d0).ll).getD ((v3.getD 2 d0).ii).toNat []).getD 1 d0).bb),.s (((((v3.getD 5 d0).ll).getD ((v3.getD 2 d0).ii).toNat []).getD 2 d0).ss),.s (((((v3.getD 5 d0).ll).getD ((v3.getD 2 d0).ii).toNat []).getD 3 d0).ss),.sl (((((v3.getD 5 d0).ll).getD ((v3.getD 2 d0).ii).toNat []).getD 4 d0).ll),.sl (((((v3.getD 5 d0).ll).getD ((v3.getD 2 d0).ii).toNat []).getD 5 d0).ll),.sl (((((v3.getD 5 d0).ll).getD ((v3.getD 2 d0).ii).toNat []).getD 6 d0).ll),.sl (((((v3.getD 5 d0).ll).getD ((v3.getD 2 d0).ii).toNat []).getD 7 d0).ll),.sl (((((v3.getD 5 d0).ll).getD ((v3.getD 2 d0).ii).toNat []).getD 8 d0).ll),.b (((((v3.getD 5 d0).ll).getD ((v3.getD 2 d0).ii).toNat []).getD 9 d0).bb),.sl (((((v3.getD 5 d0).ll).getD ((v3.getD 2 d0).ii).toNat []).getD 10 d0).ll),.i (((((v3.getD 5 d0).ll).getD ((v3.getD 3 d0).ii).toNat []).getD 0 d0).ii),.b (((((v3.getD 5 d0).ll).getD ((v3.getD 3 d0).ii).toNat []).getD 1 d0).bb),.s (((((v3.getD 5 d0).ll).getD ((v3.getD 3 d0).ii).toNat []).getD 2 d0).ss),.s (((((v3.getD 5 d0).ll).getD ((v3.getD 3 d0).ii).toNat []).getD 3 d0).ss),.sl (((((v3.getD 5 d0).ll).getD ((v3.getD 3 d0).ii).toNat []).getD 4 d0).ll),.sl (((((v3.getD 5 d0).ll).getD ((v3.getD 3 d0).ii).toNat []).getD 5 d0).ll),.sl (((((v3.getD 5 d0).ll).getD ((v3.getD 3 d0).ii).toNat []).getD 6 d0).ll),.sl (((((v3.getD 5 d0).ll).getD ((v3.getD 3 d0).ii).toNat []).getD 7 d0).ll),.sl (((((v3.getD 5 d0).ll).getD ((v3.getD 3 d0).ii).toNat []).getD 8 d0).ll),.b (((((v3.getD 5 d0).ll).getD ((v3.getD 3 d0).ii).toNat []).getD 9 d0).bb),.sl (((((v3.getD 5 d0).ll).getD ((v3.getD 3 d0).ii).toNat []).getD 10 d0).ll)]) fun v4 =>
 if (v4.getD 2 d0).bb=true then
 (jN [qL v4 7,qS v4 1]).bindR fun r5 =>
 .ret [qB r5 0]
 else
 ja (if ((v4.getD 14 d0).ii == (4:Int))=true then
 if ((v4.getD 3 d0).ii == (2:Int))=true then
 (jN [qL v4 18,qS v4 0]).bindR fun r6 =>
 .norm [qB r6 0]
 else
 .norm [.b false]
 else
 .norm [.b false]) fun v7 =>
 .ret [qB v7 0]
 else
 .fail
 else
 .fail
theorem j1m a:KT a=XF a:=(jq cfg 176 _ a).trans (by kernel_rfl)
noncomputable def kB:List DC → Out:=fun v1 =>
 if (decide ((v1.getD 2 d0).ii < (((v1.getD 0 d0).ll).length:Int)))=true then
 j9 (ja (if 196=196 ∧ 0 ≤ (v1.getD 2 d0).ii ∧ (v1.getD 2 d0).ii < (((v1.getD 0 d0).ll).length:Int) then
 (J2 [.s (((((v1.getD 0 d0).ll).getD ((v1.getD 2 d0).ii).toNat []).getD 2 d0).ss),.s (((((v1.getD 0 d0).ll).getD ((v1.getD 2 d0).ii).toNat []).getD 3 d0).ss)]).bindR fun r2 =>
 if (r2.getD 0 d0).bb=true then
 if 196=196 ∧ 0 ≤ (v1.getD 2 d0).ii ∧ (v1.getD 2 d0).ii < (((v1.getD 0 d0).ll).length:Int) then
 .norm [qL v1 0,qL v1 1,qI v1 2,.b (!(((((v1.getD 0 d0).ll).getD ((v1.getD 2 d0).ii).toNat []).getD 4 d0).bb))]
 else
 .fail
 else
 .norm [qL v1 0,qL v1 1,qI v1 2,.b false]
 else
 .fail) fun v3 =>
 ja (if (v3.getD 3 d0).bb=true then
 if 196=196 ∧ 0 ≤ (v3.getD 2 d0).ii ∧ (v3.getD 2 d0).ii < (((v3.getD 0 d0).ll).length:Int) then
 if ((v3.getD 1 d0).ll).length + [[DC.s (((((v3.getD 0 d0).ll).getD ((v3.getD 2 d0).ii).toNat []).getD 0 d0).ss)]].length < jT then
 .norm [qL v3 0,.sl (((v3.getD 1 d0).ll) ++ [[DC.s (((((v3.getD 0 d0).ll).getD ((v3.getD 2 d0).ii).toNat []).getD 0 d0).ss)]]),qI v3 2]
 else
 .fail
 else
 .fail
 else
 .norm [qL v3 0,qL v3 1,qI v3 2]) fun v4 =>
 .norm [qL v4 0,qL v4 1,qI v4 2]) 1 fun v5 =>
 .norm [qL v5 0,qL v5 1,.i (IntKind.i64.wrap ((v5.getD 2 d0).ii + (1:Int)))]
 else
 .ex 0 [qL v1 1]
noncomputable def Vn (a:List DC):Out :=
 j9 (jy kB [qL a 0,.sl [],.i (0:Int)]) 0 fun v6 =>
 .ret [qL v6 0]
theorem ZS a:zd a=Vn a:=(jq cfg 177 _ a).trans (by kernel_rfl)
noncomputable def qP:List DC → Out:=fun v3 =>
 if (decide ((v3.getD 2 d0).ii < (((v3.getD 0 d0).ss).length:Int)))=true then
 j9 (if 0 ≤ (v3.getD 2 d0).ii ∧ (v3.getD 2 d0).ii < (((v3.getD 0 d0).ss).length:Int) then
 ja (if (((((v3.getD 0 d0).ss).getD ((v3.getD 2 d0).ii).toNat 0).toNat:Int) != (45:Int))=true then
 if 0 ≤ (v3.getD 2 d0).ii ∧ (v3.getD 2 d0).ii < (((v3.getD 0 d0).ss).length:Int) then
 .norm [qS v3 0,.i (IntKind.i64.wrap ((IntKind.i64.wrap ((IntKind.i64.wrap ((v3.getD 1 d0).ii * (10:Int))) + (IntKind.i64.wrap ((((v3.getD 0 d0).ss).getD ((v3.getD 2 d0).ii).toNat 0).toNat:Int)))) - (48:Int))),qI v3 2]
 else
 .fail
 else
 .norm [qS v3 0,qI v3 1,qI v3 2]) fun v4 =>
 .norm [qS v4 0,qI v4 1,qI v4 2]
 else
 .fail) 1 fun v5 =>
 .norm [qS v5 0,qI v5 1,.i (IntKind.i64.wrap ((v5.getD 2 d0).ii + (1:Int)))]
 else
 .ex 0 [qS v3 0,qI v3 1]
noncomputable def J5 (a:List DC):Out :=
 ja ((Xb [qS a 0]).bindR fun r1 =>
 if (!((r1.getD 0 d0).bb))=true then
 .norm [qS a 0,.b true]
 else
 .norm [qS a 0,.b (decide ((((a.getD 0 d0).ss).length:Int) > (11:Int)))]) fun v2 =>
 if (v2.getD 1 d0).bb=true then
 .ret [.b false]
 else
 j9 (jy qP [qS v2 0,.i (0:Int),.i (0:Int)]) 0 fun v6 =>
 if 0 ≤ (0:Int) ∧ (0:Int) < (((v6.getD 0 d0).ss).length:Int) then
 if (((((v6.getD 0 d0).ss).getD (0:Int).toNat 0).toNat:Int) == (45:Int))=true then
 .ret [.b (decide ((v6.getD 1 d0).ii ≤ (2147483648:Int)))]
 else
 .ret [.b (decide ((v6.getD 1 d0).ii ≤ (2147483647:Int)))]
 else
 .fail
theorem j3g a:Vy a=J5 a:=(jq cfg 178 _ a).trans (by kernel_rfl)
set_option linter.unusedSimpArgs false
theorem j6F (v:TValue):X4 (TValue.enc v)=v.text.length + DC.wt (.sl (v.items.map TValue.enc)) + DC.wt (.sl (v.names.map S1)):=by
 simp only [TValue.enc_eq,X4,DC.wt]
 try omega
theorem j8S (v:TArg):X4 (TArg.enc v)=v.name.length + X4 (TValue.enc v.value):=by
 simp only [TArg.enc_eq,X4,DC.wt,TValue.enc_eq]
 try omega
theorem j8R (v:TDir):X4 (TDir.enc v)=v.name.length + DC.wt (.sl (v.args.map TArg.enc)):=by
 simp only [TDir.enc_eq,X4,DC.wt]
 try omega
theorem j6G (v:TInDef):X4 (TInDef.enc v)=v.name.length + v.desc.length + X4 (TType.enc v.type') + X4 (TValue.enc v.default') + DC.wt (.sl (v.dirs.map TDir.enc)):=by
 simp only [TInDef.enc_eq,X4,DC.wt,TType.enc_eq,TValue.enc_eq]
 try omega
theorem Z6 (v:TFieldDef):X4 (TFieldDef.enc v)=v.name.length + v.desc.length + DC.wt (.sl (v.args.map TInDef.enc)) + X4 (TType.enc v.type') + DC.wt (.sl (v.dirs.map TDir.enc)):=by
 simp only [TFieldDef.enc_eq,X4,DC.wt,TType.enc_eq]
 try omega
theorem j4F (v:TEnumDef):X4 (TEnumDef.enc v)=v.name.length + v.desc.length + DC.wt (.sl (v.dirs.map TDir.enc)):=by
 simp only [TEnumDef.enc_eq,X4,DC.wt]
 try omega
theorem j2D (v:TDef):X4 (TDef.enc v)=v.desc.length + v.name.length + DC.wt (.sl (v.faces.map S1)) + DC.wt (.sl (v.fields.map TFieldDef.enc)) + DC.wt (.sl (v.inputs.map TInDef.enc)) + DC.wt (.sl (v.values.map TEnumDef.enc)) + DC.wt (.sl (v.roots.map TRoot.enc)) + DC.wt (.sl (v.dirs.map TDir.enc)):=by
 simp only [TDef.enc_eq,X4,DC.wt]
 try omega
theorem j4I {p:UInt8 → Bool} (h:(List.range 256).all (fun n=>p (UInt8.ofNat n))=true) (c:UInt8):p c=true:=by
 have:=List.all_eq_true.1 h c.toNat (List.mem_range.2 c.toNat_lt)
 rwa [UInt8.ofNat_toNat] at this
theorem JA {f g:UInt8 → Bool} (h:(List.range 256).all (fun n=>f (UInt8.ofNat n) == g (UInt8.ofNat n))=true) (c:UInt8):f c=g c:=by
 have:=j4I (p:=fun c=>f c == g c) h c
 simpa using this
theorem jdJ (c:UInt8):(((c.toNat:Nat):Int) == (32:Int))=(c == 32):=JA (f:=fun c=>((c.toNat:Nat):Int) == (32:Int)) (g:=fun c=>c == 32) (by kernel_rfl) c
theorem be9 (c:UInt8):(((c.toNat:Nat):Int) == (9:Int))=(c == 9):=JA (f:=fun c=>((c.toNat:Nat):Int) == (9:Int)) (g:=fun c=>c == 9) (by kernel_rfl) c
theorem jdL (c:UInt8):(((c.toNat:Nat):Int) == (10:Int))=(c == 10):=JA (f:=fun c=>((c.toNat:Nat):Int) == (10:Int)) (g:=fun c=>c == 10) (by kernel_rfl) c
theorem jdK (c:UInt8):(((c.toNat:Nat):Int) == (13:Int))=(c == 13):=JA (f:=fun c=>((c.toNat:Nat):Int) == (13:Int)) (g:=fun c=>c == 13) (by kernel_rfl) c
theorem jdI (c:UInt8):(((c.toNat:Nat):Int) == (44:Int))=(c == 44):=JA (f:=fun c=>((c.toNat:Nat):Int) == (44:Int)) (g:=fun c=>c == 44) (by kernel_rfl) c
theorem jak (c:UInt8):(((c.toNat:Nat):Int) == (35:Int))=(c == 35):=JA (f:=fun c=>((c.toNat:Nat):Int) == (35:Int)) (g:=fun c=>c == 35) (by kernel_rfl) c
theorem jc0 (c:UInt8):(((c.toNat:Nat):Int) == (34:Int))=(c == 34):=JA (f:=fun c=>((c.toNat:Nat):Int) == (34:Int)) (g:=fun c=>c == 34) (by kernel_rfl) c
theorem jaj (c:UInt8):(((c.toNat:Nat):Int) == (45:Int))=(c == 45):=JA (f:=fun c=>((c.toNat:Nat):Int) == (45:Int)) (g:=fun c=>c == 45) (by kernel_rfl) c
theorem jbY (c:UInt8):(((c.toNat:Nat):Int) == (46:Int))=(c == 46):=JA (f:=fun c=>((c.toNat:Nat):Int) == (46:Int)) (g:=fun c=>c == 46) (by kernel_rfl) c
theorem jbZ (c:UInt8):(((c.toNat:Nat):Int) == (43:Int))=(c == 43):=JA (f:=fun c=>((c.toNat:Nat):Int) == (43:Int)) (g:=fun c=>c == 43) (by kernel_rfl) c
theorem jbj (c:UInt8):(((c.toNat:Nat):Int) == (101:Int))=(c == 101):=JA (f:=fun c=>((c.toNat:Nat):Int) == (101:Int)) (g:=fun c=>c == 101) (by kernel_rfl) c
theorem jdH (c:UInt8):(((c.toNat:Nat):Int) == (69:Int))=(c == 69):=JA (f:=fun c=>((c.toNat:Nat):Int) == (69:Int)) (g:=fun c=>c == 69) (by kernel_rfl) c
theorem jdG (c:UInt8):(((c.toNat:Nat):Int) != (10:Int)) = !(c == 10):=JA (f:=fun c=>((c.toNat:Nat):Int) != (10:Int)) (g:=fun c=>!(c == 10)) (by kernel_rfl) c
theorem jdF (c:UInt8):(((c.toNat:Nat):Int) != (13:Int)) = !(c == 13):=JA (f:=fun c=>((c.toNat:Nat):Int) != (13:Int)) (g:=fun c=>!(c == 13)) (by kernel_rfl) c
theorem jdE (c:UInt8):(((c.toNat:Nat):Int) != (34:Int)) = !(c == 34):=JA (f:=fun c=>((c.toNat:Nat):Int) != (34:Int)) (g:=fun c=>!(c == 34)) (by kernel_rfl) c
theorem pP (x w:List UInt8) (c:UInt8):(x ++ c :: w).getD ((x.length:Nat):Int).toNat 0=c:=by
 rw [jd,List.getD_eq_getElem?_getD,List.getElem?_append_right (Nat.le_refl _),Nat.sub_self]
 rfl
theorem V0 (x w:List UInt8) (c:UInt8):((x.length:Nat):Int) < ((x ++ c :: w).length:Int):=by
 rw [jj,jb]
 omega
theorem ya {x:List UInt8} (h:x.length ≤ 100000):IntKind.i64.wrap (((x.length:Nat):Int) + 1)=((x.length + 1:Nat):Int):=by
 rw [IntKind.wrap_i64]
 omega
theorem j6K (x y w:List UInt8):((x ++ (y ++ w)).take (((x ++ y).length:Nat):Int).toNat).drop ((x.length:Nat):Int).toNat=y:=by
 rw [jd,jd,← jD,List.take_left,List.drop_left]
theorem QZ (x:List UInt8) (c:UInt8) (w:List UInt8):x ++ c :: w=(x ++ [c]) ++ w:=by simp
theorem Qa (x:List UInt8) (c:UInt8):((x.length + 1:Nat):Int)=(((x ++ [c]).length:Nat):Int):=by rw [jj]; rfl
theorem yp (c:UInt8):pW [.i ((c.toNat:Nat):Int)] = .ret [.b (ltr c)]:=by
 have e:(if decide (((c.toNat:Nat):Int) ≥ 97) then (if decide (((c.toNat:Nat):Int) ≤ 122) then true else if decide (((c.toNat:Nat):Int) ≥ 65) then (if decide (((c.toNat:Nat):Int) ≤ 90) then true else ((c.toNat:Nat):Int) == 95) else ((c.toNat:Nat):Int) == 95) else if decide (((c.toNat:Nat):Int) ≥ 65) then (if decide (((c.toNat:Nat):Int) ≤ 90) then true else ((c.toNat:Nat):Int) == 95) else ((c.toNat:Nat):Int) == 95)=ltr c :=
  JA (f:=fun c=>if decide (((c.toNat:Nat):Int) ≥ 97) then (if decide (((c.toNat:Nat):Int) ≤ 122) then true else if decide (((c.toNat:Nat):Int) ≥ 65) then (if decide (((c.toNat:Nat):Int) ≤ 90) then true else ((c.toNat:Nat):Int) == 95) else ((c.toNat:Nat):Int) == 95) else if decide (((c.toNat:Nat):Int) ≥ 65) then (if decide (((c.toNat:Nat):Int) ≤ 90) then true else ((c.toNat:Nat):Int) == 95) else ((c.toNat:Nat):Int) == 95) (g:=ltr) (by kernel_rfl) c
 rw [ZK,← e]
 simp only [qL,qI,qS,qB,Vg,List.getD_cons_zero,List.getD_cons_succ,DC.bb_b,DC.ii_i,DC.ss_s,DC.ll_sl]
 repeat' split
 all_goals simp only [ja,List.getD_cons_zero,List.getD_cons_succ,DC.bb_b,DC.ii_i,DC.ss_s,DC.ll_sl]
theorem yq (c:UInt8):kD [.i ((c.toNat:Nat):Int)] = .ret [.b (fig c)]:=by
 have e:(if decide (((c.toNat:Nat):Int) ≥ 48) then decide (((c.toNat:Nat):Int) ≤ 57) else false)=fig c:=JA (f:=fun c=>if decide (((c.toNat:Nat):Int) ≥ 48) then decide (((c.toNat:Nat):Int) ≤ 57) else false) (g:=fig) (by kernel_rfl) c
 rw [ZL,← e]
 simp only [qL,qI,qS,qB,Vh,List.getD_cons_zero,List.getD_cons_succ,DC.bb_b,DC.ii_i,DC.ss_s,DC.ll_sl]
 split
 all_goals simp only [ja,List.getD_cons_zero,List.getD_cons_succ,DC.bb_b,DC.ii_i,DC.ss_s,DC.ll_sl]
theorem jcc {c:UInt8} {out:List Tk} {k:Nat → List UInt8 → List Tk → Option (List Tk)} {r:List Tk} (h:m0 c out k=some r) (hb:blk c=false):c ≠ 35 ∧ c ≠ 239:=by
 constructor
 all_goals
  rintro rfl
  rw [show m0 _ out k=none from rfl] at h
  simp at h
theorem jaM {r:List Tk} {out:List Tk}:∀ (w x:List UInt8),(x ++ w).length ≤ 12000 → tz w 0 [] out=some r →
  ∃ y v,w=y ++ v ∧ jy kE [.s (x ++ w),.i ((x.length:Nat):Int)] = .ex 0 [.i (((x ++ y).length:Nat):Int)] ∧ tz v 0 [] out=some r ∧ (v=[] ∨ ∃ c v',v=c :: v' ∧ blk c=false) ∨
   ∃ y v,w=y ++ v ∧ jy kE [.s (x ++ w),.i ((x.length:Nat):Int)] = .ret [.i (((x ++ y).length:Nat):Int)] ∧ tz v 0 [] out=some r ∧ (v=[] ∨ ∃ c v',v=c :: v' ∧ blk c=false):=by
 intro w
 induction w with
 | nil =>
  intro x hl h
  refine ⟨[],[],.inl ⟨rfl,jK ?_,h,.inl rfl⟩⟩
  simp only [qL,qI,qS,qB,kE,List.getD_cons_zero,List.getD_cons_succ,DC.bb_b,DC.ii_i,DC.ss_s,DC.ll_sl,Int.lt_irrefl,decide_false,Bool.false_eq_true,if_false,jv]
 | cons c w ih =>
  intro x hl h
  have h1:=V0 x w c
  have h0:(0:Int) ≤ ((x.length:Nat):Int):=Int.natCast_nonneg _
  cases hb:blk c with
  | true =>
   have h':tz w 0 [] out=some r:=by
    rw [tz,m0,hb] at h
    exact h
   have hs:=QZ x c w
   have hn:jy kE [.s (x ++ c :: w),.i ((x.length:Nat):Int)]=jy kE [.s (x ++ [c] ++ w),.i (((x ++ [c]).length:Nat):Int)]:=by
    refine jH ?_
    have hbb:(if c == 32 then true else if c == 9 then true else if c == 10 then true else if c == 13 then true else c == 44)=true:=by
     have:blk c=(if c == 32 then true else if c == 9 then true else if c == 10 then true else if c == 13 then true else c == 44):=JA (f:=blk) (g:=fun c=>if c == 32 then true else if c == 9 then true else if c == 10 then true else if c == 13 then true else c == 44) (by kernel_rfl) c
     rw [← this]
     exact hb
    have hlx:x.length ≤ 100000:=by rw [jj] at hl; omega
    rw [← hs,← Qa]
    simp only [qL,qI,qS,qB,kE,List.getD_cons_zero,List.getD_cons_succ,DC.bb_b,DC.ii_i,DC.ss_s,DC.ll_sl,h1,h0,decide_true,if_true,and_self,pP,jdJ,be9,jdL,jdK,jdI,jak,jc0,jaj,jbY,jbZ,jbj,jdH,jdG,jdF,jdE]
    split at hbb
    ·rename_i hc; simp only [hc,if_true,ja,j9,List.getD_cons_zero,List.getD_cons_succ,DC.bb_b,DC.ii_i,DC.ss_s,DC.ll_sl,ya hlx]
    ·rename_i hc
     split at hbb
     ·rename_i hc2; simp only [hc,hc2,Bool.false_eq_true,if_false,if_true,ja,j9,List.getD_cons_zero,List.getD_cons_succ,DC.bb_b,DC.ii_i,DC.ss_s,DC.ll_sl,ya hlx]
     ·rename_i hc2
      split at hbb
      ·rename_i hc3; simp only [hc,hc2,hc3,Bool.false_eq_true,if_false,if_true,ja,j9,List.getD_cons_zero,List.getD_cons_succ,DC.bb_b,DC.ii_i,DC.ss_s,DC.ll_sl,ya hlx]
      ·rename_i hc3
       split at hbb
       ·rename_i hc4; simp only [hc,hc2,hc3,hc4,Bool.false_eq_true,if_false,if_true,ja,j9,List.getD_cons_zero,List.getD_cons_succ,DC.bb_b,DC.ii_i,DC.ss_s,DC.ll_sl,ya hlx]
       ·rename_i hc4; simp only [hc,hc2,hc3,hc4,hbb,Bool.false_eq_true,if_false,if_true,ja,j9,List.getD_cons_zero,List.getD_cons_succ,DC.bb_b,DC.ii_i,DC.ss_s,DC.ll_sl,ya hlx]
   rw [hn]
   obtain ⟨y,v,hy⟩:=ih (x ++ [c]) (by rw [← hs]; exact hl) h'
   refine ⟨c :: y,v,?_⟩
   have ha:x ++ c :: y=x ++ [c] ++ y:=QZ x c y
   rw [ha]
   rcases hy with ⟨e,e2,e3⟩ | ⟨y',v',e,e2,e3⟩
   ·exact .inl ⟨by rw [e]; rfl,e2,e3⟩
   ·exact .inr ⟨c :: y',v',by rw [e]; rfl,by rw [QZ x c y']; exact e2,e3⟩
  | false =>
   refine ⟨[],c :: w,.inr ⟨[],c :: w,rfl,?_,h,.inr ⟨c,w,rfl,hb⟩⟩⟩
   have hc:=jcc (show m0 c out (tz w)=some r from h) hb
   have q:∀ k:UInt8,blk k=true → (c == k)=false:=fun k hk=>by
    cases hq:c == k with
    | false=>rfl
    | true =>
     have:c=k:=by simpa using hq
     rw [this,hk] at hb
     cases hb
   have q35:(c == 35)=false:=by simpa using hc.1
   have q239:((x ++ c :: w).take (3:Int).toNat == ([239,187,191]:List UInt8))=false ∨ ¬ ((x.length:Nat):Int)=0:=by
    cases x with
    | nil =>
     refine .inl ?_
     show (c :: w.take 2 == [239,187,191])=false
     simp [hc.2]
    | cons a x=>exact .inr (by simp only [jb]; omega)
   have hL:0 ≤ (3:Int):=by decide
   refine yS ?_
   simp only [qL,qI,qS,qB,kE,List.getD_cons_zero,List.getD_cons_succ,DC.bb_b,DC.ii_i,DC.ss_s,DC.ll_sl,h1,h0,decide_true,if_true,and_self,pP,jdJ,be9,jdL,jdK,jdI,jak,jc0,jaj,jbY,jbZ,jbj,jdH,jdG,jdF,jdE,q 32 rfl,q 9 rfl,q 10 rfl,q 13 rfl,q 44 rfl,Bool.false_eq_true,if_false,ja]
   by_cases hx0:(((x.length:Nat):Int) == 0)=true
   ·rcases q239 with q239 | q239
    ·by_cases h3:((x ++ c :: w).length:Int) ≥ 3
     ·have h3':(3:Int) ≤ ((x ++ c :: w).length:Int):=h3
      simp only [hx0,if_true,h3,h3',decide_true,hL,and_self,q239,List.getD_cons_zero,List.getD_cons_succ,DC.bb_b,DC.ii_i,DC.ss_s,DC.ll_sl,Bool.false_eq_true,if_false,h0,h1,pP,jak,q35,j9,jv]
     ·simp only [hx0,if_true,h3,decide_false,List.getD_cons_zero,List.getD_cons_succ,DC.bb_b,DC.ii_i,DC.ss_s,DC.ll_sl,Bool.false_eq_true,if_false,h0,h1,pP,jak,q35,and_self,j9,jv]
    ·exact absurd (by simpa using hx0) q239
   ·have hx0:(((x.length:Nat):Int) == 0)=false:=by simpa using hx0
    simp only [hx0,Bool.false_eq_true,if_false,List.getD_cons_zero,List.getD_cons_succ,DC.bb_b,DC.ii_i,DC.ss_s,DC.ll_sl,h0,h1,and_self,if_true,pP,jak,q35,j9,jv]
theorem jab {r out:List Tk} (w x:List UInt8) (hl:(x ++ w).length ≤ 12000) (h:tz w 0 [] out=some r) :
  ∃ y v,w=y ++ v ∧ qH [.s (x ++ w),.i ((x.length:Nat):Int)] = .ret [.i (((x ++ y).length:Nat):Int)] ∧ tz v 0 [] out=some r ∧ (v=[] ∨ ∃ c v',v=c :: v' ∧ blk c=false):=by
 obtain ⟨y,v,hy⟩:=jaM w x hl h
 rcases hy with ⟨e,e2,e3⟩ | ⟨y',v',e,e2,e3⟩
 ·refine ⟨y,v,e,?_,e3⟩
  rw [VO]
  simp only [qL,qI,qS,qB,Q0,List.getD_cons_zero,List.getD_cons_succ,DC.bb_b,DC.ii_i,DC.ss_s,DC.ll_sl,e2,j9,if_true]
 ·refine ⟨y',v',e,?_,e3⟩
  rw [VO]
  simp only [qL,qI,qS,qB,Q0,List.getD_cons_zero,List.getD_cons_succ,DC.bb_b,DC.ii_i,DC.ss_s,DC.ll_sl,e2,j9]
theorem j9J {c:UInt8} (h:nmc c=false):ltr c=false ∧ fig c=false:=by
 unfold nmc at h
 exact Bool.or_eq_false_iff.1 h
theorem j4h {r:List UInt8} (hr:∀ c v,r=c :: v → nmc c=false):∀ (y x:List UInt8),(x ++ (y ++ r)).length ≤ 12000 → (∀ c ∈ y,nmc c=true) →
  jy kF [.s (x ++ (y ++ r)),.i ((x.length:Nat):Int)] = .ex 0 [.i (((x ++ y).length:Nat):Int)]
 | [],x,hl,_=>by
  have h0:(0:Int) ≤ ((x.length:Nat):Int):=Int.natCast_nonneg _
  cases r with
  | nil=>exact jK (by simp only [qL,qI,qS,qB,kF,List.getD_cons_zero,List.getD_cons_succ,DC.bb_b,DC.ii_i,DC.ss_s,DC.ll_sl,jv,Int.lt_irrefl,decide_false,Bool.false_eq_true,if_false,ja])
  | cons c v =>
   obtain ⟨n1,n2⟩:=j9J (hr c v rfl)
   have h1:=V0 x v c
   exact jK (by simp only [qL,qI,qS,qB,kF,jg,List.getD_cons_zero,List.getD_cons_succ,DC.bb_b,DC.ii_i,DC.ss_s,DC.ll_sl,h0,h1,decide_true,if_true,and_self,pP,yp,yq,Out.bindR_ret,Bool.false_eq_true,if_false,ja,j9,n1,n2,jv])
 | c :: y,x,hl,ha=>by
  have h0:(0:Int) ≤ ((x.length:Nat):Int):=Int.natCast_nonneg _
  have h1:=V0 x (y ++ r) c
  have hs:=QZ x c (y ++ r)
  have hc:=ha c (by simp)
  have hlx:x.length ≤ 100000:=by rw [jj] at hl; omega
  have hn:jy kF [.s (x ++ c :: (y ++ r)),.i ((x.length:Nat):Int)]=jy kF [.s (x ++ [c] ++ (y ++ r)),.i (((x ++ [c]).length:Nat):Int)]:=by
   refine jH ?_
   rw [← hs,← Qa]
   cases q1:ltr c with
   | true=>simp only [qL,qI,qS,qB,kF,List.getD_cons_zero,List.getD_cons_succ,DC.bb_b,DC.ii_i,DC.ss_s,DC.ll_sl,h0,h1,decide_true,if_true,and_self,pP,yp,yq,Out.bindR_ret,Bool.false_eq_true,if_false,ja,j9,q1,ya hlx]
   | false =>
    have q2:fig c=true:=by unfold nmc at hc; rw [q1] at hc; simpa using hc
    simp only [qL,qI,qS,qB,kF,List.getD_cons_zero,List.getD_cons_succ,DC.bb_b,DC.ii_i,DC.ss_s,DC.ll_sl,h0,h1,decide_true,if_true,and_self,pP,yp,yq,Out.bindR_ret,Bool.false_eq_true,if_false,ja,j9,q1,q2,ya hlx]
  rw [jh,hn,j4h hr y (x ++ [c]) (by rw [← hs]; exact hl) fun d hd=>ha d (by simp [hd])]
  simp
theorem j5J:∀ (y x:List UInt8),(x ++ y).length ≤ 12000 → (∀ c ∈ y,fig c=true) →
  jy pF [.s (x ++ y),.i ((x.length:Nat):Int)] = .ex 0 [.i (((x ++ y).length:Nat):Int)]
 | [],x,hl,_=>jK (by simp only [qL,qI,qS,qB,pF,List.getD_cons_zero,List.getD_cons_succ,DC.bb_b,DC.ii_i,DC.ss_s,DC.ll_sl,jv,Int.lt_irrefl,decide_false,Bool.false_eq_true,if_false,ja])
 | c :: y,x,hl,ha=>by
  have h0:(0:Int) ≤ ((x.length:Nat):Int):=Int.natCast_nonneg _
  have h1:=V0 x y c
  have hs:=QZ x c y
  have hc:=ha c (by simp)
  have hlx:x.length ≤ 100000:=by rw [jj] at hl; omega
  have hn:jy pF [.s (x ++ c :: y),.i ((x.length:Nat):Int)]=jy pF [.s (x ++ [c] ++ y),.i (((x ++ [c]).length:Nat):Int)]:=by
   refine jH ?_
   rw [← hs,← Qa]
   simp only [qL,qI,qS,qB,pF,List.getD_cons_zero,List.getD_cons_succ,DC.bb_b,DC.ii_i,DC.ss_s,DC.ll_sl,h0,h1,decide_true,if_true,and_self,pP,yp,yq,Out.bindR_ret,Bool.false_eq_true,if_false,ja,j9,hc,ya hlx]
  rw [hn,j5J y (x ++ [c]) (by rw [← hs]; exact hl) fun d hd=>ha d (by simp [hd]),← hs]
theorem j62 {r:List UInt8} (hr:∀ c v,r=c :: v → nmc c=false ∧ (c == 46)=false ∧ (c == 43)=false ∧ (c == 45)=false):∀ (y x:List UInt8),(x ++ (y ++ r)).length ≤ 12000 → (∀ c ∈ y,fig c=true) →
  jy kq [.s (x ++ (y ++ r)),.i ((x.length:Nat):Int)] = .ex 0 [.i (((x ++ y).length:Nat):Int)]
 | [],x,hl,_=>by
  have h0:(0:Int) ≤ ((x.length:Nat):Int):=Int.natCast_nonneg _
  cases r with
  | nil=>exact jK (by simp only [qL,qI,qS,qB,kq,List.getD_cons_zero,List.getD_cons_succ,DC.bb_b,DC.ii_i,DC.ss_s,DC.ll_sl,jv,Int.lt_irrefl,decide_false,Bool.false_eq_true,if_false,ja])
  | cons c v =>
   obtain ⟨n0,n3,n4,n5⟩:=hr c v rfl
   obtain ⟨n1,n2⟩:=j9J n0
   have h1:=V0 x v c
   exact jK (by simp only [qL,qI,qS,qB,kq,jg,List.getD_cons_zero,List.getD_cons_succ,DC.bb_b,DC.ii_i,DC.ss_s,DC.ll_sl,h0,h1,decide_true,if_true,and_self,pP,yp,yq,Out.bindR_ret,Bool.false_eq_true,if_false,ja,j9,n1,n2,jbY,jbZ,jaj,n3,n4,n5,jv])
 | c :: y,x,hl,ha=>by
  have h0:(0:Int) ≤ ((x.length:Nat):Int):=Int.natCast_nonneg _
  have h1:=V0 x (y ++ r) c
  have hs:=QZ x c (y ++ r)
  have hc:=ha c (by simp)
  have hlx:x.length ≤ 100000:=by rw [jj] at hl; omega
  have hn:jy kq [.s (x ++ c :: (y ++ r)),.i ((x.length:Nat):Int)]=jy kq [.s (x ++ [c] ++ (y ++ r)),.i (((x ++ [c]).length:Nat):Int)]:=by
   refine jH ?_
   rw [← hs,← Qa]
   cases q1:ltr c with
   | true=>simp only [qL,qI,qS,qB,kq,List.getD_cons_zero,List.getD_cons_succ,DC.bb_b,DC.ii_i,DC.ss_s,DC.ll_sl,h0,h1,decide_true,if_true,and_self,pP,yp,yq,Out.bindR_ret,Bool.false_eq_true,if_false,ja,j9,q1,ya hlx]
   | false=>simp only [qL,qI,qS,qB,kq,List.getD_cons_zero,List.getD_cons_succ,DC.bb_b,DC.ii_i,DC.ss_s,DC.ll_sl,h0,h1,decide_true,if_true,and_self,pP,yp,yq,Out.bindR_ret,Bool.false_eq_true,if_false,ja,j9,q1,hc,ya hlx]
  rw [jh,hn,j62 hr y (x ++ [c]) (by rw [← hs]; exact hl) fun d hd=>ha d (by simp [hd])]
  simp
theorem j63:∀ (y x:List UInt8),(x ++ y).length ≤ 12000 → (∀ c ∈ y,nmc c=true) → jy kT [.s (x ++ y),.i ((x.length:Nat):Int)] = .ex 0 []
 | [],x,hl,_=>jK (by simp only [qL,qI,qS,qB,kT,List.getD_cons_zero,List.getD_cons_succ,DC.bb_b,DC.ii_i,DC.ss_s,DC.ll_sl,jv,Int.lt_irrefl,decide_false,Bool.false_eq_true,if_false])
 | c :: y,x,hl,ha=>by
  have h0:(0:Int) ≤ ((x.length:Nat):Int):=Int.natCast_nonneg _
  have h1:=V0 x y c
  have hs:=QZ x c y
  have hc:=ha c (by simp)
  have hlx:x.length ≤ 100000:=by rw [jj] at hl; omega
  have hn:jy kT [.s (x ++ c :: y),.i ((x.length:Nat):Int)]=jy kT [.s (x ++ [c] ++ y),.i (((x ++ [c]).length:Nat):Int)]:=by
   refine jH ?_
   rw [← hs,← Qa]
   cases q1:ltr c with
   | true=>simp only [qL,qI,qS,qB,kT,List.getD_cons_zero,List.getD_cons_succ,DC.bb_b,DC.ii_i,DC.ss_s,DC.ll_sl,h0,h1,decide_true,if_true,and_self,pP,yp,yq,Out.bindR_ret,Bool.false_eq_true,if_false,ja,j9,q1,je,ya hlx]
   | false =>
    have q2:fig c=true:=by unfold nmc at hc; rw [q1] at hc; simpa using hc
    simp only [qL,qI,qS,qB,kT,List.getD_cons_zero,List.getD_cons_succ,DC.bb_b,DC.ii_i,DC.ss_s,DC.ll_sl,h0,h1,decide_true,if_true,and_self,pP,yp,yq,Out.bindR_ret,Bool.false_eq_true,if_false,ja,j9,q1,q2,je,jc,ya hlx]
  rw [hn,j63 y (x ++ [c]) (by rw [← hs]; exact hl) fun d hd=>ha d (by simp [hd])]
theorem jac (c:UInt8) (y:List UInt8) (hl:(c :: y).length ≤ 30) (hc:ltr c=true) (ha:∀ d ∈ y,nmc d=true):Qs [.s (c :: y)] = .ret [.b true]:=by
 have e:=j63 (c :: y) [] (by rw [jg]; omega) (fun d hd=>by
  rcases List.mem_cons.1 hd with rfl | hd
  ·unfold nmc; rw [hc]; rfl
  ·exact ha d hd)
 have e':jy kT [.s (c :: y),.i (0:Int)] = .ex 0 []:=e
 have hf:fig c=false:=by
  have:(!(ltr c && fig c))=true:=j4I (p:=fun c=>!(ltr c && fig c)) (by kernel_rfl) c
  rw [hc] at this
  simpa using this
 have n0:(((c :: y).length:Int) == 0)=false:=by
  have:¬ ((c :: y).length:Int)=0:=by rw [jb]; omega
  simpa using this
 have n1:¬ ((c :: y).length:Int) > 30:=by omega
 have n2:(0:Int) < ((c :: y).length:Int):=by rw [jb]; omega
 have hg:(c :: y).getD (0:Int).toNat 0=c:=rfl
 rw [j22]
 simp only [qL,qI,qS,qB,Ys,List.getD_cons_zero,List.getD_cons_succ,DC.bb_b,DC.ii_i,DC.ss_s,DC.ll_sl,n0,n1,n2,decide_false,Bool.false_eq_true,if_false,Int.le_refl,and_self,if_true,hg,yq,Out.bindR_ret,hf,ja,e',j9]
theorem jb5 (a:List UInt8) (h:jaS a=true):Kt [.s a] = .ret [.b true]:=by
 have key:∀ (c:UInt8) (y:List UInt8),(c :: y).length ≤ 2 → (∀ d ∈ c :: y,fig d=true) → (c == 45)=false → (((c.toNat:Nat):Int) == 48)=false → Kt [.s (c :: y)] = .ret [.b true]:=by
  intro c y hl ha h45 h48
  have e:=j5J (c :: y) [] (by rw [jg]; omega) ha
  have e':jy pF [.s (c :: y),.i (0:Int)] = .ex 0 [.i ((c :: y).length:Int)]:=e
  have n2:((c :: y).length:Int) > (0:Int):=by rw [jb]; omega
  have n3:(0:Int) < ((c :: y).length:Int):=n2
  have n4:((c :: y).length:Int) ≤ 40:=by omega
  have n5:(((c :: y).length:Int) == 0)=false:=by
   have:¬ ((c :: y).length:Int)=0:=by omega
   simpa using this
  have hg:(c :: y).getD (0:Int).toNat 0=c:=rfl
  have hr:Qp [.s (c :: y),.i (0:Int)] = .ret [.i ((c :: y).length:Int)]:=by
   rw [j1Y]
   simp only [qL,qI,qS,qB,Yp,List.getD_cons_zero,List.getD_cons_succ,DC.bb_b,DC.ii_i,DC.ss_s,DC.ll_sl,e',j9,if_true]
  have hi:Qq [.s (c :: y)] = .ret [.i ((c :: y).length:Int)]:=by
   rw [j1Z]
   simp only [qL,qI,qS,qB,Yq,List.getD_cons_zero,List.getD_cons_succ,DC.bb_b,DC.ii_i,DC.ss_s,DC.ll_sl,n2,n3,decide_true,if_true,Int.le_refl,and_self,hg,jaj,h45,Bool.false_eq_true,if_false,ja,hr,Out.bindR_ret,n5,h48]
  rw [j37]
  simp only [qL,qI,qS,qB,Zk,List.getD_cons_zero,List.getD_cons_succ,DC.bb_b,DC.ii_i,DC.ss_s,DC.ll_sl,n4,n2,decide_true,if_true,hi,Out.bindR_ret,beq_self_eq_true,ja]
 unfold jaS at h
 simp only [Bool.or_eq_true,beq_iff_eq] at h
 rcases h with ((h | h) | h) | h
 all_goals
  subst h
  exact key _ _ (by decide) (by decide) (by decide) (by decide)
theorem j6u (c:UInt8) (h:sgn c=true):Qr [.s [c]] = .ret [.b true]:=by
 unfold sgn at h
 simp only [Bool.or_eq_true,beq_iff_eq] at h
 rcases h with (((((((((((h | h) | h) | h) | h) | h) | h) | h) | h) | h) | h) | h) | h
 all_goals
  subst h
  rw [j20]
  kernel_rfl
theorem j7w {res:List Tk}:∀ (s a:List UInt8) (out:List Tk),tz s 2 a out=some res → ∃ y r,s=y ++ r ∧ (∀ c ∈ y,nmc c=true) ∧ (∀ c v,r=c :: v → nmc c=false) ∧ (a.length ≤ 30 → (a ++ y).length ≤ 30) ∧ tz r 0 [] ((2,a ++ y) :: out)=some res
 | [],a,out,h=>by simp [tz] at h
 | c :: s,a,out,h=>by
  rw [tz] at h
  cases hc:nmc c with
  | true =>
   simp only [hc,if_true] at h
   split at h
   ·rename_i hl
    obtain ⟨y,r,e1,e2,e3,e4,e5⟩:=j7w s (a ++ [c]) out h
    refine ⟨c :: y,r,by rw [e1]; rfl,fun d hd=>?_,e3,fun _=>?_,?_⟩
    ·rcases List.mem_cons.1 hd with rfl | hd
     ·exact hc
     ·exact e2 d hd
    ·have:=e4 (by rw [jj]; simp only [jb,jf]; omega)
     simpa using this
    ·simpa using e5
   ·simp at h
  | false =>
   simp only [hc,Bool.false_eq_true,if_false] at h
   refine ⟨[],c :: s,rfl,by simp,fun d v e=>?_,fun hl=>by simpa using hl,?_⟩
   ·injection e with e1 e2
    rw [← e1]
    exact hc
   ·rw [jv]
    exact h
theorem j8Z {res:List Tk}:∀ (s a:List UInt8) (out:List Tk),tz s 3 a out=some res → ∃ y r,s=y ++ r ∧ (∀ c ∈ y,fig c=true) ∧ (∀ c v,r=c :: v → nmc c=false ∧ (c == 46)=false ∧ (c == 43)=false ∧ (c == 45)=false) ∧ jaS (a ++ y)=true ∧ tz r 0 [] ((3,a ++ y) :: out)=some res
 | [],a,out,h=>by simp [tz] at h
 | c :: s,a,out,h=>by
  rw [tz] at h
  cases hc:fig c with
  | true =>
   simp only [hc,if_true] at h
   obtain ⟨y,r,e1,e2,e3,e4,e5⟩:=j8Z s (a ++ [c]) out h
   refine ⟨c :: y,r,by rw [e1]; rfl,fun d hd=>?_,e3,by simpa using e4,by simpa using e5⟩
   rcases List.mem_cons.1 hd with rfl | hd
   ·exact hc
   ·exact e2 d hd
  | false =>
   simp only [hc,Bool.false_eq_true,if_false] at h
   split at h
   ·simp at h
   ·rename_i hq
    simp only [Bool.or_eq_true,not_or,Bool.not_eq_true] at hq
    obtain ⟨⟨⟨⟨q1,q2⟩,q3⟩,q4⟩,q5⟩:=hq
    refine ⟨[],c :: s,rfl,by simp,fun d v e=>?_,by rw [jv]; simpa using q5,?_⟩
    ·injection e with e1 e2
     rw [← e1]
     exact ⟨by unfold nmc; rw [q1,hc]; rfl,q2,q3,q4⟩
    ·rw [jv]
     exact h
theorem jbp {res:List Tk} {s:List UInt8} {out:List Tk} (h:tz s 5 [] out=some res):∃ r,s=100 :: 34 :: r ∧ tz r 0 [] ((5,[100]) :: out)=some res:=by
 have nope:∀ (s:List UInt8) (a:List UInt8),2 ≤ a.length → tz s 5 a out=some res → False:=by
  intro s
  induction s with
  | nil=>intro a _ h; simp [tz] at h
  | cons c s ih =>
   intro a ha h
   rw [tz] at h
   try simp only at h
   split at h
   ·split at h
    ·rename_i hq
     have:a=[100]:=by simpa using hq
     rw [this] at ha
     simp at ha
    ·simp at h
   ·split at h
    ·exact ih (a ++ [c]) (by rw [jj]; omega) h
    ·simp at h
 cases s with
 | nil=>simp [tz] at h
 | cons c s =>
  rw [tz] at h
  try simp only at h
  split at h
  ·simp at h
  ·split at h
   ·rename_i hc
    have hc:c=100:=by simpa using hc
    subst hc
    cases s with
    | nil=>simp [tz] at h
    | cons d s =>
     rw [jg,tz] at h
     try simp only at h
     split at h
     ·rename_i hd
      have hd:d=34:=by simpa using hd
      subst hd
      exact ⟨s,rfl,by simpa using h⟩
     ·split at h
      ·exact absurd h fun h=>nope _ _ (by simp) h
      ·simp at h
   ·simp at h
end Go.Proofs.QV
