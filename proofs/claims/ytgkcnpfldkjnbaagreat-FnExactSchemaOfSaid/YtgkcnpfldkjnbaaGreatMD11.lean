import Derived.Test.YtgkcnpfldkjnbaaGreatMD10
import Derived.Test.YtgkcnpfldkjnbaaGreatMD5
import Derived.Test.YtgkcnpfldkjnbaaGreatMD6
/- What the functions do,and that they do (written by a program). -/
namespace Go.Proofs.QV
open Go
open Out renaming andThenB → ja, andThen → jy
open _root_.List renaming mem_map_of_mem → je, getElem_mem → jc, length_nil → jk, nil_append → ju, map_cons → jn, length_cons → jl, eq_nil_of_length_eq_zero → jm, length_append → jA, append_nil → jC, append_assoc → jq
open _root_.Int renaming toNat_natCast → jb
open _root_.Bool renaming not_true → jx, and_eq_true → jd
set_option linter.unusedVariables false
set_option maxRecDepth 100000
noncomputable def QH (a:List DC):Out :=
 if (!((a.getD 0 d0).ss == (a.getD 3 d0).ss))=true then
 .ret [.b false]
 else
 if (!((a.getD 1 d0).ss == (a.getD 4 d0).ss))=true then
 .ret [.b false]
 else
 (pT [.sl ((a.getD 2 d0).ll),.sl ((a.getD 5 d0).ll)]).bindR fun r1 =>
 if (!((r1.getD 0 d0).bb))=true then
 .ret [.b false]
 else
 .ret [.b true]
theorem YN a:yG a=QH a:=(jt cfg 103 _ a).trans (by kernel_rfl)
noncomputable def Z4 (a:List DC):Out :=
 if (!((a.getD 0 d0).ss == (a.getD 2 d0).ss))=true then
 .ret [.b false]
 else
 (Jt [.sl ((a.getD 1 d0).ll),.sl ((a.getD 3 d0).ll)]).bindR fun r1 =>
 if (!((r1.getD 0 d0).bb))=true then
 .ret [.b false]
 else
 .ret [.b true]
theorem j1T a:Kc a=Z4 a:=(jt cfg 104 _ a).trans (by kernel_rfl)
noncomputable def kp:List DC → Out:=fun v1 =>
 if (decide ((v1.getD 2 d0).ii < (((v1.getD 0 d0).ll).length:Int)))=true then
 ja (if 100=100 ∧ 0 ≤ (v1.getD 2 d0).ii ∧ (v1.getD 2 d0).ii < (((v1.getD 0 d0).ll).length:Int) then
 if (((((v1.getD 0 d0).ll).getD ((v1.getD 2 d0).ii).toNat []).getD 0 d0).ii != (v1.getD 1 d0).ii)=true then
 .ret [.i (-1:Int)]
 else
 if 100=100 ∧ 0 ≤ (v1.getD 2 d0).ii ∧ (v1.getD 2 d0).ii < (((v1.getD 0 d0).ll).length:Int) then
 (jG [.i (IntKind.i64.wrap ((v1.getD 1 d0).ii + (1:Int)))]).bindR fun r2 =>
 if (!(((((v1.getD 0 d0).ll).getD ((v1.getD 2 d0).ii).toNat []).getD 1 d0).ss == (r2.getD 0 d0).ss))=true then
 .ret [.i (-1:Int)]
 else
 if 100=100 ∧ 0 ≤ (v1.getD 2 d0).ii ∧ (v1.getD 2 d0).ii < (((v1.getD 0 d0).ll).length:Int) then
 (p8 [.sl (((((v1.getD 0 d0).ll).getD ((v1.getD 2 d0).ii).toNat []).getD 2 d0).ll),.i (IntKind.i64.wrap ((IntKind.i64.wrap ((v1.getD 1 d0).ii + (1:Int))) + (1:Int)))]).bindR fun r3 =>
 if (decide ((r3.getD 0 d0).ii < (0:Int)))=true then
 .ret [.i (-1:Int)]
 else
 if 100=100 ∧ 0 ≤ (v1.getD 2 d0).ii ∧ (v1.getD 2 d0).ii < (((v1.getD 0 d0).ll).length:Int) then
 (kw [.sl (((((v1.getD 0 d0).ll).getD ((v1.getD 2 d0).ii).toNat []).getD 3 d0).ll),.i ((r3.getD 0 d0).ii)]).bindR fun r4 =>
 if (decide ((r4.getD 0 d0).ii < (0:Int)))=true then
 .ret [.i (-1:Int)]
 else
 .norm [.sl ((v1.getD 0 d0).ll),.i ((r4.getD 0 d0).ii),.i ((v1.getD 2 d0).ii)]
 else
 .fail
 else
 .fail
 else
 .fail
 else
 .fail) 1 fun v5 =>
 .norm [.sl ((v5.getD 0 d0).ll),.i ((v5.getD 1 d0).ii),.i (IntKind.i64.wrap ((v5.getD 2 d0).ii + (1:Int)))]
 else
 .ex 0 [.i ((v1.getD 1 d0).ii)]
noncomputable def Q4 (a:List DC):Out :=
 ja (jK kp [.sl ((a.getD 0 d0).ll),.i ((a.getD 1 d0).ii),.i (0:Int)]) 0 fun v6 =>
 .ret [.i ((v6.getD 0 d0).ii)]
theorem Yc a:p8 a=Q4 a:=(jt cfg 70 _ a).trans (by kernel_rfl)
noncomputable def kM:List DC → Out:=fun v1 =>
 if (decide ((v1.getD 2 d0).ii < (((v1.getD 0 d0).ll).length:Int)))=true then
 ja (if 149=149 ∧ 0 ≤ (v1.getD 2 d0).ii ∧ (v1.getD 2 d0).ii < (((v1.getD 0 d0).ll).length:Int) then
 (jG [.i ((v1.getD 1 d0).ii)]).bindR fun r2 =>
 if (!(((((v1.getD 0 d0).ll).getD ((v1.getD 2 d0).ii).toNat []).getD 0 d0).ss == (r2.getD 0 d0).ss))=true then
 .ret [.i (-1:Int)]
 else
 if 149=149 ∧ 0 ≤ (v1.getD 2 d0).ii ∧ (v1.getD 2 d0).ii < (((v1.getD 0 d0).ll).length:Int) then
 if (((((v1.getD 0 d0).ll).getD ((v1.getD 2 d0).ii).toNat []).getD 1 d0).ii != (IntKind.i64.wrap ((v1.getD 1 d0).ii + (1:Int))))=true then
 .ret [.i (-1:Int)]
 else
 if 149=149 ∧ 0 ≤ (v1.getD 2 d0).ii ∧ (v1.getD 2 d0).ii < (((v1.getD 0 d0).ll).length:Int) then
 (jG [.i (IntKind.i64.wrap ((IntKind.i64.wrap ((v1.getD 1 d0).ii + (1:Int))) + (1:Int)))]).bindR fun r3 =>
 if (!(((((v1.getD 0 d0).ll).getD ((v1.getD 2 d0).ii).toNat []).getD 2 d0).ss == (r3.getD 0 d0).ss))=true then
 .ret [.i (-1:Int)]
 else
 if 149=149 ∧ 0 ≤ (v1.getD 2 d0).ii ∧ (v1.getD 2 d0).ii < (((v1.getD 0 d0).ll).length:Int) then
 (p8 [.sl (((((v1.getD 0 d0).ll).getD ((v1.getD 2 d0).ii).toNat []).getD 3 d0).ll),.i (IntKind.i64.wrap ((IntKind.i64.wrap ((IntKind.i64.wrap ((v1.getD 1 d0).ii + (1:Int))) + (1:Int))) + (1:Int)))]).bindR fun r4 =>
 if (decide ((r4.getD 0 d0).ii < (0:Int)))=true then
 .ret [.i (-1:Int)]
 else
 if 149=149 ∧ 0 ≤ (v1.getD 2 d0).ii ∧ (v1.getD 2 d0).ii < (((v1.getD 0 d0).ll).length:Int) then
 (kw [.sl (((((v1.getD 0 d0).ll).getD ((v1.getD 2 d0).ii).toNat []).getD 4 d0).ll),.i ((r4.getD 0 d0).ii)]).bindR fun r5 =>
 if (decide ((r5.getD 0 d0).ii < (0:Int)))=true then
 .ret [.i (-1:Int)]
 else
 .norm [.sl ((v1.getD 0 d0).ll),.i ((r5.getD 0 d0).ii),.i ((v1.getD 2 d0).ii)]
 else
 .fail
 else
 .fail
 else
 .fail
 else
 .fail
 else
 .fail) 1 fun v6 =>
 .norm [.sl ((v6.getD 0 d0).ll),.i ((v6.getD 1 d0).ii),.i (IntKind.i64.wrap ((v6.getD 2 d0).ii + (1:Int)))]
 else
 .ex 0 [.i ((v1.getD 1 d0).ii)]
noncomputable def Vj (a:List DC):Out :=
 ja (jK kM [.sl ((a.getD 0 d0).ll),.i ((a.getD 1 d0).ii),.i (0:Int)]) 0 fun v7 =>
 .ret [.i ((v7.getD 0 d0).ii)]
theorem Zy a:za a=Vj a:=(jt cfg 71 _ a).trans (by kernel_rfl)
noncomputable def XF (a:List DC):Out :=
 if (decide ((IntKind.i64.wrap ((a.getD 2 d0).ii - (((a.getD 0 d0).ss).length:Int))) < (0:Int)))=true then
 .ret [.i (-1:Int)]
 else
 if (decide ((IntKind.i64.wrap ((IntKind.i64.wrap ((a.getD 2 d0).ii - (((a.getD 0 d0).ss).length:Int))) - (((a.getD 1 d0).ss).length:Int))) < (0:Int)))=true then
 .ret [.i (-1:Int)]
 else
 .ret [.i (IntKind.i64.wrap ((IntKind.i64.wrap ((a.getD 2 d0).ii - (((a.getD 0 d0).ss).length:Int))) - (((a.getD 1 d0).ss).length:Int)))]
theorem j1c a:Jn a=XF a:=(jt cfg 108 _ a).trans (by kernel_rfl)
noncomputable def X4 (a:List DC):Out :=
 if (decide ((IntKind.i64.wrap ((a.getD 4 d0).ii - (((a.getD 1 d0).ss).length:Int))) < (0:Int)))=true then
 .ret [.i (-1:Int)]
 else
 (JK [.sl ((a.getD 2 d0).ll),.i (IntKind.i64.wrap ((a.getD 4 d0).ii - (((a.getD 1 d0).ss).length:Int)))]).bindR fun r1 =>
 if (decide ((r1.getD 0 d0).ii < (0:Int)))=true then
 .ret [.i (-1:Int)]
 else
 (yD [.sl ((a.getD 3 d0).ll),.i ((r1.getD 0 d0).ii)]).bindR fun r2 =>
 if (decide ((r2.getD 0 d0).ii < (0:Int)))=true then
 .ret [.i (-1:Int)]
 else
 .ret [.i ((r2.getD 0 d0).ii)]
theorem j0a a:qf a=X4 a:=(jt cfg 109 _ a).trans (by kernel_rfl)
noncomputable def JX:List DC → Out:=fun v1 =>
 if (decide ((v1.getD 2 d0).ii < (((v1.getD 0 d0).ll).length:Int)))=true then
 ja (if 168=168 ∧ 0 ≤ (v1.getD 2 d0).ii ∧ (v1.getD 2 d0).ii < (((v1.getD 0 d0).ll).length:Int) then
 (Kb [.s (((((v1.getD 0 d0).ll).getD ((v1.getD 2 d0).ii).toNat []).getD 0 d0).ss),.i (((((v1.getD 0 d0).ll).getD ((v1.getD 2 d0).ii).toNat []).getD 1 d0).ii),.s (((((v1.getD 0 d0).ll).getD ((v1.getD 2 d0).ii).toNat []).getD 2 d0).ss),.sl (((((v1.getD 0 d0).ll).getD ((v1.getD 2 d0).ii).toNat []).getD 3 d0).ll),.sl (((((v1.getD 0 d0).ll).getD ((v1.getD 2 d0).ii).toNat []).getD 4 d0).ll),.i ((v1.getD 1 d0).ii)]).bindR fun r2 =>
 if (decide ((r2.getD 0 d0).ii < (0:Int)))=true then
 .ret [.i (-1:Int)]
 else
 .norm [.sl ((v1.getD 0 d0).ll),.i ((r2.getD 0 d0).ii),.i ((v1.getD 2 d0).ii)]
 else
 .fail) 1 fun v3 =>
 .norm [.sl ((v3.getD 0 d0).ll),.i ((v3.getD 1 d0).ii),.i (IntKind.i64.wrap ((v3.getD 2 d0).ii + (1:Int)))]
 else
 .ex 0 [.i ((v1.getD 1 d0).ii)]
noncomputable def XJ (a:List DC):Out :=
 if (decide ((IntKind.i64.wrap ((a.getD 1 d0).ii - (((a.getD 0 d0).ll).length:Int))) < (0:Int)))=true then
 .ret [.i (-1:Int)]
 else
 ja (jK JX [.sl ((a.getD 0 d0).ll),.i (IntKind.i64.wrap ((a.getD 1 d0).ii - (((a.getD 0 d0).ll).length:Int))),.i (0:Int)]) 0 fun v4 =>
 .ret [.i ((v4.getD 0 d0).ii)]
theorem j1g a:Jq a=XJ a:=(jt cfg 110 _ a).trans (by kernel_rfl)
noncomputable def XA (a:List DC):Out :=
 .ret [.s ((a.getD 0 d0).ss),.s ((a.getD 1 d0).ss)]
theorem j17 a:Jk a=XA a:=(jt cfg 111 _ a).trans (by kernel_rfl)
noncomputable def X1 (a:List DC):Out :=
 (JJ [.sl ((a.getD 2 d0).ll)]).bindR fun r1 =>
 (yB [.sl ((a.getD 3 d0).ll)]).bindR fun r2 =>
 .ret [.i ((a.getD 0 d0).ii),.s ((a.getD 1 d0).ss),.sl ((r1.getD 0 d0).ll),.sl ((r2.getD 0 d0).ll)]
theorem j07 a:qe a=X1 a:=(jt cfg 112 _ a).trans (by kernel_rfl)
noncomputable def JU:List DC → Out:=fun v1 =>
 if (decide ((v1.getD 2 d0).ii < (((v1.getD 0 d0).ll).length:Int)))=true then
 ja (if 168=168 ∧ 0 ≤ (v1.getD 2 d0).ii ∧ (v1.getD 2 d0).ii < (((v1.getD 0 d0).ll).length:Int) then
 (K8 [.s (((((v1.getD 0 d0).ll).getD ((v1.getD 2 d0).ii).toNat []).getD 0 d0).ss),.i (((((v1.getD 0 d0).ll).getD ((v1.getD 2 d0).ii).toNat []).getD 1 d0).ii),.s (((((v1.getD 0 d0).ll).getD ((v1.getD 2 d0).ii).toNat []).getD 2 d0).ss),.sl (((((v1.getD 0 d0).ll).getD ((v1.getD 2 d0).ii).toNat []).getD 3 d0).ll),.sl (((((v1.getD 0 d0).ll).getD ((v1.getD 2 d0).ii).toNat []).getD 4 d0).ll)]).bindR fun r2 =>
 if 149=149 ∧ 0 ≤ (v1.getD 2 d0).ii ∧ (v1.getD 2 d0).ii < (((v1.getD 1 d0).ll).length:Int) then
 .norm [.sl ((v1.getD 0 d0).ll),.sl (((v1.getD 1 d0).ll).set (((v1.getD 2 d0).ii).toNat) (kF (((v1.getD 1 d0).ll).getD (((v1.getD 2 d0).ii).toNat) []) 0 [DC.s ((r2.getD 0 d0).ss),DC.i ((r2.getD 1 d0).ii),DC.s ((r2.getD 2 d0).ss),DC.sl ((r2.getD 3 d0).ll),DC.sl ((r2.getD 4 d0).ll)])),.i ((v1.getD 2 d0).ii)]
 else
 .fail
 else
 .fail) 1 fun v3 =>
 .norm [.sl ((v3.getD 0 d0).ll),.sl ((v3.getD 1 d0).ll),.i (IntKind.i64.wrap ((v3.getD 2 d0).ii + (1:Int)))]
 else
 .ex 0 [.sl ((v1.getD 1 d0).ll)]
noncomputable def XE (a:List DC):Out :=
 if 0 ≤ (((a.getD 0 d0).ll).length:Int) ∧ (((a.getD 0 d0).ll).length:Int) < (kC:Int) ∧ (((a.getD 0 d0).ll).length:Int)=(((a.getD 0 d0).ll).length:Int) ∧ 88 ≤ 1024 ∧ 0 < 5 ∧ dp 149=false then
 ja (jK JU [.sl ((a.getD 0 d0).ll),.sl (List.replicate (((a.getD 0 d0).ll).length:Int).toNat [DC.s [],DC.i 0,DC.s [],DC.sl [],DC.sl []]),.i (0:Int)]) 0 fun v4 =>
 .ret [.sl ((v4.getD 0 d0).ll)]
 else
 .fail
theorem j1b a:Jm a=XE a:=(jt cfg 113 _ a).trans (by kernel_rfl)
noncomputable def pn:List DC → Out:=fun v1 =>
 if (decide ((v1.getD 2 d0).ii < (((v1.getD 0 d0).ll).length:Int)))=true then
 ja (if 97=97 ∧ 0 ≤ (v1.getD 2 d0).ii ∧ (v1.getD 2 d0).ii < (((v1.getD 0 d0).ll).length:Int) then
 (qU [.sl (((((v1.getD 0 d0).ll).getD ((v1.getD 2 d0).ii).toNat []).getD 2 d0).ll)]).bindR fun r2 =>
 (qd [.sl (((((v1.getD 0 d0).ll).getD ((v1.getD 2 d0).ii).toNat []).getD 5 d0).ll)]).bindR fun r3 =>
 if ((v1.getD 1 d0).ll).length + [[DC.s (((((v1.getD 0 d0).ll).getD ((v1.getD 2 d0).ii).toNat []).getD 0 d0).ss),DC.s (((((v1.getD 0 d0).ll).getD ((v1.getD 2 d0).ii).toNat []).getD 1 d0).ss),DC.sl ((r2.getD 0 d0).ll),DC.s (((((v1.getD 0 d0).ll).getD ((v1.getD 2 d0).ii).toNat []).getD 3 d0).ss),DC.s (((((v1.getD 0 d0).ll).getD ((v1.getD 2 d0).ii).toNat []).getD 4 d0).ss),DC.sl ((r3.getD 0 d0).ll)]].length < kC ∧ 45=45 then
 .norm [.sl ((v1.getD 0 d0).ll),.sl (((v1.getD 1 d0).ll) ++ [[DC.s (((((v1.getD 0 d0).ll).getD ((v1.getD 2 d0).ii).toNat []).getD 0 d0).ss),DC.s (((((v1.getD 0 d0).ll).getD ((v1.getD 2 d0).ii).toNat []).getD 1 d0).ss),DC.sl ((r2.getD 0 d0).ll),DC.s (((((v1.getD 0 d0).ll).getD ((v1.getD 2 d0).ii).toNat []).getD 3 d0).ss),DC.s (((((v1.getD 0 d0).ll).getD ((v1.getD 2 d0).ii).toNat []).getD 4 d0).ss),DC.sl ((r3.getD 0 d0).ll)]]),.i ((v1.getD 2 d0).ii)]
 else
 .fail
 else
 .fail) 1 fun v4 =>
 .norm [.sl ((v4.getD 0 d0).ll),.sl ((v4.getD 1 d0).ll),.i (IntKind.i64.wrap ((v4.getD 2 d0).ii + (1:Int)))]
 else
 .ex 0 [.sl ((v1.getD 1 d0).ll)]
noncomputable def JF (a:List DC):Out :=
 ja (jK pn [.sl ((a.getD 0 d0).ll),.sl [],.i (0:Int)]) 0 fun v5 =>
 .ret [.sl ((v5.getD 0 d0).ll)]
theorem Vu a:yn a=JF a:=(jt cfg 50 _ a).trans (by kernel_rfl)
noncomputable def qa:List DC → Out:=fun v1 =>
 if (decide ((v1.getD 2 d0).ii < (((v1.getD 0 d0).ll).length:Int)))=true then
 ja (if 102=102 ∧ 0 ≤ (v1.getD 2 d0).ii ∧ (v1.getD 2 d0).ii < (((v1.getD 0 d0).ll).length:Int) then
 (yo [.i (((((v1.getD 0 d0).ll).getD ((v1.getD 2 d0).ii).toNat []).getD 5 d0).ii),.s (((((v1.getD 0 d0).ll).getD ((v1.getD 2 d0).ii).toNat []).getD 6 d0).ss),.sl (((((v1.getD 0 d0).ll).getD ((v1.getD 2 d0).ii).toNat []).getD 7 d0).ll),.sl (((((v1.getD 0 d0).ll).getD ((v1.getD 2 d0).ii).toNat []).getD 8 d0).ll)]).bindR fun r2 =>
 (qd [.sl (((((v1.getD 0 d0).ll).getD ((v1.getD 2 d0).ii).toNat []).getD 9 d0).ll)]).bindR fun r3 =>
 if ((v1.getD 1 d0).ll).length + [[DC.s (((((v1.getD 0 d0).ll).getD ((v1.getD 2 d0).ii).toNat []).getD 0 d0).ss),DC.s (((((v1.getD 0 d0).ll).getD ((v1.getD 2 d0).ii).toNat []).getD 1 d0).ss),DC.s (((((v1.getD 0 d0).ll).getD ((v1.getD 2 d0).ii).toNat []).getD 2 d0).ss),DC.s (((((v1.getD 0 d0).ll).getD ((v1.getD 2 d0).ii).toNat []).getD 3 d0).ss),DC.b (((((v1.getD 0 d0).ll).getD ((v1.getD 2 d0).ii).toNat []).getD 4 d0).bb),DC.i ((r2.getD 0 d0).ii),DC.s ((r2.getD 1 d0).ss),DC.sl ((r2.getD 2 d0).ll),DC.sl ((r2.getD 3 d0).ll),DC.sl ((r3.getD 0 d0).ll)]].length < kC ∧ 46=46 then
 .norm [.sl ((v1.getD 0 d0).ll),.sl (((v1.getD 1 d0).ll) ++ [[DC.s (((((v1.getD 0 d0).ll).getD ((v1.getD 2 d0).ii).toNat []).getD 0 d0).ss),DC.s (((((v1.getD 0 d0).ll).getD ((v1.getD 2 d0).ii).toNat []).getD 1 d0).ss),DC.s (((((v1.getD 0 d0).ll).getD ((v1.getD 2 d0).ii).toNat []).getD 2 d0).ss),DC.s (((((v1.getD 0 d0).ll).getD ((v1.getD 2 d0).ii).toNat []).getD 3 d0).ss),DC.b (((((v1.getD 0 d0).ll).getD ((v1.getD 2 d0).ii).toNat []).getD 4 d0).bb),DC.i ((r2.getD 0 d0).ii),DC.s ((r2.getD 1 d0).ss),DC.sl ((r2.getD 2 d0).ll),DC.sl ((r2.getD 3 d0).ll),DC.sl ((r3.getD 0 d0).ll)]]),.i ((v1.getD 2 d0).ii)]
 else
 .fail
 else
 .fail) 1 fun v4 =>
 .norm [.sl ((v4.getD 0 d0).ll),.sl ((v4.getD 1 d0).ll),.i (IntKind.i64.wrap ((v4.getD 2 d0).ii + (1:Int)))]
 else
 .ex 0 [.sl ((v1.getD 1 d0).ll)]
noncomputable def KZ (a:List DC):Out :=
 ja (jK qa [.sl ((a.getD 0 d0).ll),.sl [],.i (0:Int)]) 0 fun v5 =>
 .ret [.sl ((v5.getD 0 d0).ll)]
theorem Y7 a:qU a=KZ a:=(jt cfg 51 _ a).trans (by kernel_rfl)
noncomputable def pm:List DC → Out:=fun v1 =>
 if (decide ((v1.getD 2 d0).ii < (((v1.getD 0 d0).ll).length:Int)))=true then
 ja (if 105=105 ∧ 0 ≤ (v1.getD 2 d0).ii ∧ (v1.getD 2 d0).ii < (((v1.getD 0 d0).ll).length:Int) then
 (qd [.sl (((((v1.getD 0 d0).ll).getD ((v1.getD 2 d0).ii).toNat []).getD 2 d0).ll)]).bindR fun r2 =>
 if ((v1.getD 1 d0).ll).length + [[DC.s (((((v1.getD 0 d0).ll).getD ((v1.getD 2 d0).ii).toNat []).getD 0 d0).ss),DC.s (((((v1.getD 0 d0).ll).getD ((v1.getD 2 d0).ii).toNat []).getD 1 d0).ss),DC.sl ((r2.getD 0 d0).ll)]].length < kC ∧ 47=47 then
 .norm [.sl ((v1.getD 0 d0).ll),.sl (((v1.getD 1 d0).ll) ++ [[DC.s (((((v1.getD 0 d0).ll).getD ((v1.getD 2 d0).ii).toNat []).getD 0 d0).ss),DC.s (((((v1.getD 0 d0).ll).getD ((v1.getD 2 d0).ii).toNat []).getD 1 d0).ss),DC.sl ((r2.getD 0 d0).ll)]]),.i ((v1.getD 2 d0).ii)]
 else
 .fail
 else
 .fail) 1 fun v3 =>
 .norm [.sl ((v3.getD 0 d0).ll),.sl ((v3.getD 1 d0).ll),.i (IntKind.i64.wrap ((v3.getD 2 d0).ii + (1:Int)))]
 else
 .ex 0 [.sl ((v1.getD 1 d0).ll)]
noncomputable def JE (a:List DC):Out :=
 ja (jK pm [.sl ((a.getD 0 d0).ll),.sl [],.i (0:Int)]) 0 fun v4 =>
 .ret [.sl ((v4.getD 0 d0).ll)]
theorem Vt a:ym a=JE a:=(jt cfg 52 _ a).trans (by kernel_rfl)
noncomputable def yO:List DC → Out:=fun v1 =>
 if (decide ((v1.getD 2 d0).ii < (((v1.getD 0 d0).ll).length:Int)))=true then
 ja (if 108=108 ∧ 0 ≤ (v1.getD 2 d0).ii ∧ (v1.getD 2 d0).ii < (((v1.getD 0 d0).ll).length:Int) then
 if 108=108 ∧ 0 ≤ (v1.getD 2 d0).ii ∧ (v1.getD 2 d0).ii < (((v1.getD 0 d0).ll).length:Int) then
 (Ks [.sl (((((v1.getD 0 d0).ll).getD ((v1.getD 2 d0).ii).toNat []).getD 1 d0).ll)]).bindR fun r2 =>
 if ((v1.getD 1 d0).ll).length + [[DC.s (((((v1.getD 0 d0).ll).getD ((v1.getD 2 d0).ii).toNat []).getD 0 d0).ss),DC.sl ((r2.getD 0 d0).ll)]].length < kC ∧ 48=48 then
 .norm [.sl ((v1.getD 0 d0).ll),.sl (((v1.getD 1 d0).ll) ++ [[DC.s (((((v1.getD 0 d0).ll).getD ((v1.getD 2 d0).ii).toNat []).getD 0 d0).ss),DC.sl ((r2.getD 0 d0).ll)]]),.i ((v1.getD 2 d0).ii)]
 else
 .fail
 else
 .fail
 else
 .fail) 1 fun v3 =>
 .norm [.sl ((v3.getD 0 d0).ll),.sl ((v3.getD 1 d0).ll),.i (IntKind.i64.wrap ((v3.getD 2 d0).ii + (1:Int)))]
 else
 .ex 0 [.sl ((v1.getD 1 d0).ll)]
noncomputable def VY (a:List DC):Out :=
 ja (jK yO [.sl ((a.getD 0 d0).ll),.sl [],.i (0:Int)]) 0 fun v4 =>
 .ret [.sl ((v4.getD 0 d0).ll)]
theorem j04 a:qd a=VY a:=(jt cfg 53 _ a).trans (by kernel_rfl)
noncomputable def J6 (a:List DC):Out:=match ZU 9 pE a with | some r=>.ret r | none=>.fail
theorem V0 a:pD a=J6 a:=(jt cfg 92 pE a).trans (by kernel_rfl)
theorem zS (l:List (List DC)) (hl:l.length ≤ 4194304):pD [.sl l] = .ret [.sl l]:=by
 have h:l.length < kC:=by unfold kC; omega
 have k:ZU 9 pE [.sl l]=some [.sl l]:=by
  show (if 9=9 ∧ l.length < kC then some [DC.sl l] else none)=_
  rw [if_pos ⟨rfl,h⟩]
 rw [V0,J6,k]
noncomputable def pN:List DC → Out:=fun v5 =>
 if (decide ((v5.getD 3 d0).ii < (v5.getD 2 d0).ii))=true then
 ja (if 97=97 ∧ 0 ≤ (v5.getD 3 d0).ii ∧ (v5.getD 3 d0).ii < (((v5.getD 1 d0).ll).length:Int) then
 (zc [.sl (((((v5.getD 1 d0).ll).getD ((v5.getD 3 d0).ii).toNat []).getD 2 d0).ll)]).bindR fun r6 =>
 (pp [.sl (((((v5.getD 1 d0).ll).getD ((v5.getD 3 d0).ii).toNat []).getD 5 d0).ll)]).bindR fun r7 =>
 if ((v5.getD 0 d0).ll).length + [[DC.s (((((v5.getD 1 d0).ll).getD ((v5.getD 3 d0).ii).toNat []).getD 0 d0).ss),DC.s (((((v5.getD 1 d0).ll).getD ((v5.getD 3 d0).ii).toNat []).getD 1 d0).ss),DC.sl ((r6.getD 0 d0).ll),DC.s (((((v5.getD 1 d0).ll).getD ((v5.getD 3 d0).ii).toNat []).getD 3 d0).ss),DC.s (((((v5.getD 1 d0).ll).getD ((v5.getD 3 d0).ii).toNat []).getD 4 d0).ss),DC.sl ((r7.getD 0 d0).ll)]].length < kC ∧ 45=45 then
 .norm [.sl (((v5.getD 0 d0).ll) ++ [[DC.s (((((v5.getD 1 d0).ll).getD ((v5.getD 3 d0).ii).toNat []).getD 0 d0).ss),DC.s (((((v5.getD 1 d0).ll).getD ((v5.getD 3 d0).ii).toNat []).getD 1 d0).ss),DC.sl ((r6.getD 0 d0).ll),DC.s (((((v5.getD 1 d0).ll).getD ((v5.getD 3 d0).ii).toNat []).getD 3 d0).ss),DC.s (((((v5.getD 1 d0).ll).getD ((v5.getD 3 d0).ii).toNat []).getD 4 d0).ss),DC.sl ((r7.getD 0 d0).ll)]]),.sl ((v5.getD 1 d0).ll),.i ((v5.getD 2 d0).ii),.i ((v5.getD 3 d0).ii)]
 else
 .fail
 else
 .fail) 1 fun v8 =>
 .norm [.sl ((v8.getD 0 d0).ll),.sl ((v8.getD 1 d0).ll),.i ((v8.getD 2 d0).ii),.i (IntKind.i64.wrap ((v8.getD 3 d0).ii + (1:Int)))]
 else
 .ex 0 [.sl ((v5.getD 0 d0).ll)]
noncomputable def KL (a:List DC):Out :=
 ja (jK pN [.sl [],.sl ((a.getD 0 d0).ll),.i (((a.getD 0 d0).ll).length:Int),.i (0:Int)]) 0 fun v9 =>
 .ret [.sl ((v9.getD 0 d0).ll)]
theorem Xs a:zk a=KL a:=(jt cfg 93 _ a).trans (by kernel_rfl)
noncomputable def yf:List DC → Out:=fun v5 =>
 if (decide ((v5.getD 3 d0).ii < (v5.getD 2 d0).ii))=true then
 ja (if 102=102 ∧ 0 ≤ (v5.getD 3 d0).ii ∧ (v5.getD 3 d0).ii < (((v5.getD 1 d0).ll).length:Int) then
 (pL [.i (((((v5.getD 1 d0).ll).getD ((v5.getD 3 d0).ii).toNat []).getD 5 d0).ii),.s (((((v5.getD 1 d0).ll).getD ((v5.getD 3 d0).ii).toNat []).getD 6 d0).ss),.sl (((((v5.getD 1 d0).ll).getD ((v5.getD 3 d0).ii).toNat []).getD 7 d0).ll),.sl (((((v5.getD 1 d0).ll).getD ((v5.getD 3 d0).ii).toNat []).getD 8 d0).ll)]).bindR fun r6 =>
 (pp [.sl (((((v5.getD 1 d0).ll).getD ((v5.getD 3 d0).ii).toNat []).getD 9 d0).ll)]).bindR fun r7 =>
 if ((v5.getD 0 d0).ll).length + [[DC.s (((((v5.getD 1 d0).ll).getD ((v5.getD 3 d0).ii).toNat []).getD 0 d0).ss),DC.s (((((v5.getD 1 d0).ll).getD ((v5.getD 3 d0).ii).toNat []).getD 1 d0).ss),DC.s (((((v5.getD 1 d0).ll).getD ((v5.getD 3 d0).ii).toNat []).getD 2 d0).ss),DC.s (((((v5.getD 1 d0).ll).getD ((v5.getD 3 d0).ii).toNat []).getD 3 d0).ss),DC.b (((((v5.getD 1 d0).ll).getD ((v5.getD 3 d0).ii).toNat []).getD 4 d0).bb),DC.i ((r6.getD 0 d0).ii),DC.s ((r6.getD 1 d0).ss),DC.sl ((r6.getD 2 d0).ll),DC.sl ((r6.getD 3 d0).ll),DC.sl ((r7.getD 0 d0).ll)]].length < kC ∧ 46=46 then
 .norm [.sl (((v5.getD 0 d0).ll) ++ [[DC.s (((((v5.getD 1 d0).ll).getD ((v5.getD 3 d0).ii).toNat []).getD 0 d0).ss),DC.s (((((v5.getD 1 d0).ll).getD ((v5.getD 3 d0).ii).toNat []).getD 1 d0).ss),DC.s (((((v5.getD 1 d0).ll).getD ((v5.getD 3 d0).ii).toNat []).getD 2 d0).ss),DC.s (((((v5.getD 1 d0).ll).getD ((v5.getD 3 d0).ii).toNat []).getD 3 d0).ss),DC.b (((((v5.getD 1 d0).ll).getD ((v5.getD 3 d0).ii).toNat []).getD 4 d0).bb),DC.i ((r6.getD 0 d0).ii),DC.s ((r6.getD 1 d0).ss),DC.sl ((r6.getD 2 d0).ll),DC.sl ((r6.getD 3 d0).ll),DC.sl ((r7.getD 0 d0).ll)]]),.sl ((v5.getD 1 d0).ll),.i ((v5.getD 2 d0).ii),.i ((v5.getD 3 d0).ii)]
 else
 .fail
 else
 .fail) 1 fun v8 =>
 .norm [.sl ((v8.getD 0 d0).ll),.sl ((v8.getD 1 d0).ll),.i ((v8.getD 2 d0).ii),.i (IntKind.i64.wrap ((v8.getD 3 d0).ii + (1:Int)))]
 else
 .ex 0 [.sl ((v5.getD 0 d0).ll)]
noncomputable def Vn (a:List DC):Out :=
 ja (jK yf [.sl [],.sl ((a.getD 0 d0).ll),.i (((a.getD 0 d0).ll).length:Int),.i (0:Int)]) 0 fun v9 =>
 .ret [.sl ((v9.getD 0 d0).ll)]
theorem ZC a:zc a=Vn a:=(jt cfg 94 _ a).trans (by kernel_rfl)
noncomputable def qb:List DC → Out:=fun v4 =>
 if (decide ((v4.getD 3 d0).ii < (v4.getD 2 d0).ii))=true then
 ja (if 105=105 ∧ 0 ≤ (v4.getD 3 d0).ii ∧ (v4.getD 3 d0).ii < (((v4.getD 1 d0).ll).length:Int) then
 (pp [.sl (((((v4.getD 1 d0).ll).getD ((v4.getD 3 d0).ii).toNat []).getD 2 d0).ll)]).bindR fun r5 =>
 if ((v4.getD 0 d0).ll).length + [[DC.s (((((v4.getD 1 d0).ll).getD ((v4.getD 3 d0).ii).toNat []).getD 0 d0).ss),DC.s (((((v4.getD 1 d0).ll).getD ((v4.getD 3 d0).ii).toNat []).getD 1 d0).ss),DC.sl ((r5.getD 0 d0).ll)]].length < kC ∧ 47=47 then
 .norm [.sl (((v4.getD 0 d0).ll) ++ [[DC.s (((((v4.getD 1 d0).ll).getD ((v4.getD 3 d0).ii).toNat []).getD 0 d0).ss),DC.s (((((v4.getD 1 d0).ll).getD ((v4.getD 3 d0).ii).toNat []).getD 1 d0).ss),DC.sl ((r5.getD 0 d0).ll)]]),.sl ((v4.getD 1 d0).ll),.i ((v4.getD 2 d0).ii),.i ((v4.getD 3 d0).ii)]
 else
 .fail
 else
 .fail) 1 fun v6 =>
 .norm [.sl ((v6.getD 0 d0).ll),.sl ((v6.getD 1 d0).ll),.i ((v6.getD 2 d0).ii),.i (IntKind.i64.wrap ((v6.getD 3 d0).ii + (1:Int)))]
 else
 .ex 0 [.sl ((v4.getD 0 d0).ll)]
noncomputable def Qa (a:List DC):Out :=
 ja (jK qb [.sl [],.sl ((a.getD 0 d0).ll),.i (((a.getD 0 d0).ll).length:Int),.i (0:Int)]) 0 fun v7 =>
 .ret [.sl ((v7.getD 0 d0).ll)]
theorem Yi a:zL a=Qa a:=(jt cfg 95 _ a).trans (by kernel_rfl)
noncomputable def yW (a:List DC):Out:=match ZU 68 kZ a with | some r=>.ret r | none=>.fail
theorem KP a:pP a=yW a:=(jt cfg 96 kZ a).trans (by kernel_rfl)
theorem KQ (l:List (List DC)) (hl:l.length ≤ 4194304):pP [.sl l] = .ret [.sl l]:=by
 have h:l.length < kC:=by unfold kC; omega
 have k:ZU 68 kZ [.sl l]=some [.sl l]:=by
  show (if 68=68 ∧ l.length < kC then some [DC.sl l] else none)=_
  rw [if_pos ⟨rfl,h⟩]
 rw [KP,yW,k]
noncomputable def qC:List DC → Out:=fun v4 =>
 if (decide ((v4.getD 3 d0).ii < (v4.getD 2 d0).ii))=true then
 ja (if 108=108 ∧ 0 ≤ (v4.getD 3 d0).ii ∧ (v4.getD 3 d0).ii < (((v4.getD 1 d0).ll).length:Int) then
 (Ja [.sl (((((v4.getD 1 d0).ll).getD ((v4.getD 3 d0).ii).toNat []).getD 1 d0).ll)]).bindR fun r5 =>
 if ((v4.getD 0 d0).ll).length + [[DC.s (((((v4.getD 1 d0).ll).getD ((v4.getD 3 d0).ii).toNat []).getD 0 d0).ss),DC.sl ((r5.getD 0 d0).ll)]].length < kC ∧ 48=48 then
 .norm [.sl (((v4.getD 0 d0).ll) ++ [[DC.s (((((v4.getD 1 d0).ll).getD ((v4.getD 3 d0).ii).toNat []).getD 0 d0).ss),DC.sl ((r5.getD 0 d0).ll)]]),.sl ((v4.getD 1 d0).ll),.i ((v4.getD 2 d0).ii),.i ((v4.getD 3 d0).ii)]
 else
 .fail
 else
 .fail) 1 fun v6 =>
 .norm [.sl ((v6.getD 0 d0).ll),.sl ((v6.getD 1 d0).ll),.i ((v6.getD 2 d0).ii),.i (IntKind.i64.wrap ((v6.getD 3 d0).ii + (1:Int)))]
 else
 .ex 0 [.sl ((v4.getD 0 d0).ll)]
noncomputable def QJ (a:List DC):Out :=
 ja (jK qC [.sl [],.sl ((a.getD 0 d0).ll),.i (((a.getD 0 d0).ll).length:Int),.i (0:Int)]) 0 fun v7 =>
 .ret [.sl ((v7.getD 0 d0).ll)]
theorem YP a:pp a=QJ a:=(jt cfg 97 _ a).trans (by kernel_rfl)
noncomputable def jY:List DC → Out:=fun v1 =>
 if (decide ((v1.getD 2 d0).ii < (v1.getD 1 d0).ii))=true then
 ja (if 50=50 ∧ 0 ≤ (v1.getD 2 d0).ii ∧ (v1.getD 2 d0).ii < (((v1.getD 0 d0).ll).length:Int) then
 (VH [.i (((((v1.getD 0 d0).ll).getD ((v1.getD 2 d0).ii).toNat []).getD 0 d0).ii),.b (((((v1.getD 0 d0).ll).getD ((v1.getD 2 d0).ii).toNat []).getD 1 d0).bb),.s (((((v1.getD 0 d0).ll).getD ((v1.getD 2 d0).ii).toNat []).getD 2 d0).ss),.s (((((v1.getD 0 d0).ll).getD ((v1.getD 2 d0).ii).toNat []).getD 3 d0).ss),.sl (((((v1.getD 0 d0).ll).getD ((v1.getD 2 d0).ii).toNat []).getD 4 d0).ll),.sl (((((v1.getD 0 d0).ll).getD ((v1.getD 2 d0).ii).toNat []).getD 5 d0).ll),.sl (((((v1.getD 0 d0).ll).getD ((v1.getD 2 d0).ii).toNat []).getD 6 d0).ll),.sl (((((v1.getD 0 d0).ll).getD ((v1.getD 2 d0).ii).toNat []).getD 7 d0).ll),.sl (((((v1.getD 0 d0).ll).getD ((v1.getD 2 d0).ii).toNat []).getD 8 d0).ll),.b (((((v1.getD 0 d0).ll).getD ((v1.getD 2 d0).ii).toNat []).getD 9 d0).bb),.sl (((((v1.getD 0 d0).ll).getD ((v1.getD 2 d0).ii).toNat []).getD 10 d0).ll),.s ((v1.getD 3 d0).ss)]).bindR fun r2 =>
 if (r2.getD 0 d0).bb=true then
 .ret [.i ((v1.getD 2 d0).ii),.s ((r2.getD 1 d0).ss)]
 else
 .norm [.sl ((v1.getD 0 d0).ll),.i ((v1.getD 1 d0).ii),.i ((v1.getD 2 d0).ii),.s ((r2.getD 1 d0).ss)]
 else
 .fail) 1 fun v3 =>
 .norm [.sl ((v3.getD 0 d0).ll),.i ((v3.getD 1 d0).ii),.i (IntKind.i64.wrap ((v3.getD 2 d0).ii + (1:Int))),.s ((v3.getD 3 d0).ss)]
 else
 .ex 0 [.s ((v1.getD 3 d0).ss)]
noncomputable def kQ (a:List DC):Out :=
 ja (jK jY [.sl ((a.getD 0 d0).ll),.i (((a.getD 0 d0).ll).length:Int),.i (0:Int),.s ((a.getD 1 d0).ss)]) 0 fun v4 =>
 .ret [.i (-1:Int),.s ((v4.getD 0 d0).ss)]
theorem qA a:kf a=kQ a:=(jt cfg 73 _ a).trans (by kernel_rfl)
noncomputable def XK (a:List DC):Out :=
 if (!((a.getD 0 d0).ss == (a.getD 2 d0).ss))=true then
 .ret [.b false]
 else
 if (!((a.getD 1 d0).ss == (a.getD 3 d0).ss))=true then
 .ret [.b false]
 else
 .ret [.b true]
theorem j1h a:Jr a=XK a:=(jt cfg 117 _ a).trans (by kernel_rfl)
noncomputable def X7 (a:List DC):Out :=
 if ((a.getD 0 d0).ii != (a.getD 4 d0).ii)=true then
 .ret [.b false]
 else
 if (!((a.getD 1 d0).ss == (a.getD 5 d0).ss))=true then
 .ret [.b false]
 else
 (JL [.sl ((a.getD 2 d0).ll),.sl ((a.getD 6 d0).ll)]).bindR fun r1 =>
 if (!((r1.getD 0 d0).bb))=true then
 .ret [.b false]
 else
 (yF [.sl ((a.getD 3 d0).ll),.sl ((a.getD 7 d0).ll)]).bindR fun r2 =>
 if (!((r2.getD 0 d0).bb))=true then
 .ret [.b false]
 else
 .ret [.b true]
theorem j0d a:qh a=X7 a:=(jt cfg 118 _ a).trans (by kernel_rfl)
noncomputable def K0:List DC → Out:=fun v1 =>
 if (decide ((v1.getD 2 d0).ii < (((v1.getD 0 d0).ll).length:Int)))=true then
 ja (if 149=149 ∧ 0 ≤ (v1.getD 2 d0).ii ∧ (v1.getD 2 d0).ii < (((v1.getD 0 d0).ll).length:Int) then
 if 149=149 ∧ 0 ≤ (v1.getD 2 d0).ii ∧ (v1.getD 2 d0).ii < (((v1.getD 1 d0).ll).length:Int) then
 (Ke [.s (((((v1.getD 0 d0).ll).getD ((v1.getD 2 d0).ii).toNat []).getD 0 d0).ss),.i (((((v1.getD 0 d0).ll).getD ((v1.getD 2 d0).ii).toNat []).getD 1 d0).ii),.s (((((v1.getD 0 d0).ll).getD ((v1.getD 2 d0).ii).toNat []).getD 2 d0).ss),.sl (((((v1.getD 0 d0).ll).getD ((v1.getD 2 d0).ii).toNat []).getD 3 d0).ll),.sl (((((v1.getD 0 d0).ll).getD ((v1.getD 2 d0).ii).toNat []).getD 4 d0).ll),.s (((((v1.getD 1 d0).ll).getD ((v1.getD 2 d0).ii).toNat []).getD 0 d0).ss),.i (((((v1.getD 1 d0).ll).getD ((v1.getD 2 d0).ii).toNat []).getD 1 d0).ii),.s (((((v1.getD 1 d0).ll).getD ((v1.getD 2 d0).ii).toNat []).getD 2 d0).ss),.sl (((((v1.getD 1 d0).ll).getD ((v1.getD 2 d0).ii).toNat []).getD 3 d0).ll),.sl (((((v1.getD 1 d0).ll).getD ((v1.getD 2 d0).ii).toNat []).getD 4 d0).ll)]).bindR fun r2 =>
 if (!((r2.getD 0 d0).bb))=true then
 .ret [.b false]
 else
 .norm [.sl ((v1.getD 0 d0).ll),.sl ((v1.getD 1 d0).ll),.i ((v1.getD 2 d0).ii)]
 else
 .fail
 else
 .fail) 1 fun v3 =>
 .norm [.sl ((v3.getD 0 d0).ll),.sl ((v3.getD 1 d0).ll),.i (IntKind.i64.wrap ((v3.getD 2 d0).ii + (1:Int)))]
 else
 .ex 0 []
noncomputable def XO (a:List DC):Out :=
 if ((((a.getD 0 d0).ll).length:Int) != (((a.getD 1 d0).ll).length:Int))=true then
 .ret [.b false]
 else
 ja (jK K0 [.sl ((a.getD 0 d0).ll),.sl ((a.getD 1 d0).ll),.i (0:Int)]) 0 fun v4 =>
 .ret [.b true]
theorem j1l a:Jt a=XO a:=(jt cfg 119 _ a).trans (by kernel_rfl)
noncomputable def zX:List DC → Out:=fun v1 =>
 if (decide ((v1.getD 2 d0).ii < (((v1.getD 0 d0).ll).length:Int)))=true then
 ja (if 122=122 ∧ 0 ≤ (v1.getD 2 d0).ii ∧ (v1.getD 2 d0).ii < (((v1.getD 0 d0).ll).length:Int) then
 (qf [.i (((((v1.getD 0 d0).ll).getD ((v1.getD 2 d0).ii).toNat []).getD 0 d0).ii),.s (((((v1.getD 0 d0).ll).getD ((v1.getD 2 d0).ii).toNat []).getD 1 d0).ss),.sl (((((v1.getD 0 d0).ll).getD ((v1.getD 2 d0).ii).toNat []).getD 2 d0).ll),.sl (((((v1.getD 0 d0).ll).getD ((v1.getD 2 d0).ii).toNat []).getD 3 d0).ll),.i ((v1.getD 1 d0).ii)]).bindR fun r2 =>
 if (decide ((r2.getD 0 d0).ii < (0:Int)))=true then
 .ret [.i (-1:Int)]
 else
 .norm [.sl ((v1.getD 0 d0).ll),.i ((r2.getD 0 d0).ii),.i ((v1.getD 2 d0).ii)]
 else
 .fail) 1 fun v3 =>
 .norm [.sl ((v3.getD 0 d0).ll),.i ((v3.getD 1 d0).ii),.i (IntKind.i64.wrap ((v3.getD 2 d0).ii + (1:Int)))]
 else
 .ex 0 [.i ((v1.getD 1 d0).ii)]
noncomputable def Vf (a:List DC):Out :=
 if (decide ((IntKind.i64.wrap ((a.getD 1 d0).ii - (((a.getD 0 d0).ll).length:Int))) < (0:Int)))=true then
 .ret [.i (-1:Int)]
 else
 ja (jK zX [.sl ((a.getD 0 d0).ll),.i (IntKind.i64.wrap ((a.getD 1 d0).ii - (((a.getD 0 d0).ll).length:Int))),.i (0:Int)]) 0 fun v4 =>
 .ret [.i ((v4.getD 0 d0).ii)]
theorem Zu a:JK a=Vf a:=(jt cfg 123 _ a).trans (by kernel_rfl)
noncomputable def Z3 (a:List DC):Out :=
 if (decide ((IntKind.i64.wrap ((a.getD 5 d0).ii - (((a.getD 0 d0).ss).length:Int))) < (0:Int)))=true then
 .ret [.i (-1:Int)]
 else
 (qf [.i ((a.getD 1 d0).ii),.s ((a.getD 2 d0).ss),.sl ((a.getD 3 d0).ll),.sl ((a.getD 4 d0).ll),.i (IntKind.i64.wrap ((a.getD 5 d0).ii - (((a.getD 0 d0).ss).length:Int)))]).bindR fun r1 =>
 if (decide ((r1.getD 0 d0).ii < (0:Int)))=true then
 .ret [.i (-1:Int)]
 else
 .ret [.i ((r1.getD 0 d0).ii)]
theorem j1S a:Kb a=Z3 a:=(jt cfg 124 _ a).trans (by kernel_rfl)
noncomputable def zU:List DC → Out:=fun v1 =>
 if (decide ((v1.getD 2 d0).ii < (((v1.getD 0 d0).ll).length:Int)))=true then
 ja (if 122=122 ∧ 0 ≤ (v1.getD 2 d0).ii ∧ (v1.getD 2 d0).ii < (((v1.getD 0 d0).ll).length:Int) then
 (qe [.i (((((v1.getD 0 d0).ll).getD ((v1.getD 2 d0).ii).toNat []).getD 0 d0).ii),.s (((((v1.getD 0 d0).ll).getD ((v1.getD 2 d0).ii).toNat []).getD 1 d0).ss),.sl (((((v1.getD 0 d0).ll).getD ((v1.getD 2 d0).ii).toNat []).getD 2 d0).ll),.sl (((((v1.getD 0 d0).ll).getD ((v1.getD 2 d0).ii).toNat []).getD 3 d0).ll)]).bindR fun r2 =>
 if 100=100 ∧ 0 ≤ (v1.getD 2 d0).ii ∧ (v1.getD 2 d0).ii < (((v1.getD 1 d0).ll).length:Int) then
 .norm [.sl ((v1.getD 0 d0).ll),.sl (((v1.getD 1 d0).ll).set (((v1.getD 2 d0).ii).toNat) (kF (((v1.getD 1 d0).ll).getD (((v1.getD 2 d0).ii).toNat) []) 0 [DC.i ((r2.getD 0 d0).ii),DC.s ((r2.getD 1 d0).ss),DC.sl ((r2.getD 2 d0).ll),DC.sl ((r2.getD 3 d0).ll)])),.i ((v1.getD 2 d0).ii)]
 else
 .fail
 else
 .fail) 1 fun v3 =>
 .norm [.sl ((v3.getD 0 d0).ll),.sl ((v3.getD 1 d0).ll),.i (IntKind.i64.wrap ((v3.getD 2 d0).ii + (1:Int)))]
 else
 .ex 0 [.sl ((v1.getD 1 d0).ll)]
noncomputable def Vd (a:List DC):Out :=
 if 0 ≤ (((a.getD 0 d0).ll).length:Int) ∧ (((a.getD 0 d0).ll).length:Int) < (kC:Int) ∧ (((a.getD 0 d0).ll).length:Int)=(((a.getD 0 d0).ll).length:Int) ∧ 72 ≤ 1024 ∧ 0 < 4 ∧ dp 100=false then
 ja (jK zU [.sl ((a.getD 0 d0).ll),.sl (List.replicate (((a.getD 0 d0).ll).length:Int).toNat [DC.i 0,DC.s [],DC.sl [],DC.sl []]),.i (0:Int)]) 0 fun v4 =>
 .ret [.sl ((v4.getD 0 d0).ll)]
 else
 .fail
theorem Zs a:JJ a=Vd a:=(jt cfg 125 _ a).trans (by kernel_rfl)
noncomputable def Z0 (a:List DC):Out :=
 (qe [.i ((a.getD 1 d0).ii),.s ((a.getD 2 d0).ss),.sl ((a.getD 3 d0).ll),.sl ((a.getD 4 d0).ll)]).bindR fun r1 =>
 .ret [.s ((a.getD 0 d0).ss),.i ((r1.getD 0 d0).ii),.s ((r1.getD 1 d0).ss),.sl ((r1.getD 2 d0).ll),.sl ((r1.getD 3 d0).ll)]
theorem j1P a:K8 a=Z0 a:=(jt cfg 126 _ a).trans (by kernel_rfl)
noncomputable def qm:List DC → Out:=fun v4 =>
 if (decide ((v4.getD 0 d0).ii < (((v4.getD 3 d0).ll).length:Int)))=true then
 ja (if 100=100 ∧ 0 ≤ (v4.getD 0 d0).ii ∧ (v4.getD 0 d0).ii < (((v4.getD 3 d0).ll).length:Int) then
 (yo [.i (((((v4.getD 3 d0).ll).getD ((v4.getD 0 d0).ii).toNat []).getD 0 d0).ii),.s (((((v4.getD 3 d0).ll).getD ((v4.getD 0 d0).ii).toNat []).getD 1 d0).ss),.sl (((((v4.getD 3 d0).ll).getD ((v4.getD 0 d0).ii).toNat []).getD 2 d0).ll),.sl (((((v4.getD 3 d0).ll).getD ((v4.getD 0 d0).ii).toNat []).getD 3 d0).ll)]).bindR fun r5 =>
 if ((v4.getD 9 d0).ll).length + [[DC.i ((r5.getD 0 d0).ii),DC.s ((r5.getD 1 d0).ss),DC.sl ((r5.getD 2 d0).ll),DC.sl ((r5.getD 3 d0).ll)]].length < kC ∧ 98=98 then
 .norm [.i ((v4.getD 0 d0).ii),.i ((v4.getD 1 d0).ii),.s ((v4.getD 2 d0).ss),.sl ((v4.getD 3 d0).ll),.sl ((v4.getD 4 d0).ll),.i ((v4.getD 5 d0).ii),.s ((v4.getD 6 d0).ss),.i ((v4.getD 7 d0).ii),.s ((v4.getD 8 d0).ss),.sl (((v4.getD 9 d0).ll) ++ [[DC.i ((r5.getD 0 d0).ii),DC.s ((r5.getD 1 d0).ss),DC.sl ((r5.getD 2 d0).ll),DC.sl ((r5.getD 3 d0).ll)]]),.sl ((v4.getD 10 d0).ll)]
 else
 .fail
 else
 .fail) 1 fun v6 =>
 .norm [.i (IntKind.i64.wrap ((v6.getD 0 d0).ii + (1:Int))),.i ((v6.getD 1 d0).ii),.s ((v6.getD 2 d0).ss),.sl ((v6.getD 3 d0).ll),.sl ((v6.getD 4 d0).ll),.i ((v6.getD 5 d0).ii),.s ((v6.getD 6 d0).ss),.i ((v6.getD 7 d0).ii),.s ((v6.getD 8 d0).ss),.sl ((v6.getD 9 d0).ll),.sl ((v6.getD 10 d0).ll)]
 else
 .ex 0 [.i ((v4.getD 5 d0).ii),.s ((v4.getD 6 d0).ss),.i ((v4.getD 7 d0).ii),.s ((v4.getD 8 d0).ss),.sl ((v4.getD 9 d0).ll),.sl ((v4.getD 10 d0).ll)]
noncomputable def X0 (a:List DC):Out :=
 if ([]:List (List DC)).length + ((a.getD 3 d0).ll).length < kC then
 ja (jK qm [.i (0:Int),.i ((a.getD 0 d0).ii),.s ((a.getD 1 d0).ss),.sl ((a.getD 2 d0).ll),.sl ((a.getD 3 d0).ll),.i (0:Int),.s [],.i ((a.getD 0 d0).ii),.s ((a.getD 1 d0).ss),.sl [],.sl (([]:List (List DC)) ++ ((a.getD 3 d0).ll))]) 0 fun v7 =>
 .ret [.i ((v7.getD 2 d0).ii),.s ((v7.getD 3 d0).ss),.sl ((v7.getD 4 d0).ll),.sl ((v7.getD 5 d0).ll)]
 else
 .fail
theorem j06 a:yo a=X0 a:=(jt cfg 85 _ a).trans (by kernel_rfl)
noncomputable def yP:List DC → Out:=fun v1 =>
 if (decide ((v1.getD 2 d0).ii < (((v1.getD 0 d0).ll).length:Int)))=true then
 ja (if 149=149 ∧ 0 ≤ (v1.getD 2 d0).ii ∧ (v1.getD 2 d0).ii < (((v1.getD 0 d0).ll).length:Int) then
 if 149=149 ∧ 0 ≤ (v1.getD 2 d0).ii ∧ (v1.getD 2 d0).ii < (((v1.getD 0 d0).ll).length:Int) then
 (yo [.i (((((v1.getD 0 d0).ll).getD ((v1.getD 2 d0).ii).toNat []).getD 1 d0).ii),.s (((((v1.getD 0 d0).ll).getD ((v1.getD 2 d0).ii).toNat []).getD 2 d0).ss),.sl (((((v1.getD 0 d0).ll).getD ((v1.getD 2 d0).ii).toNat []).getD 3 d0).ll),.sl (((((v1.getD 0 d0).ll).getD ((v1.getD 2 d0).ii).toNat []).getD 4 d0).ll)]).bindR fun r2 =>
 if ((v1.getD 1 d0).ll).length + [[DC.s (((((v1.getD 0 d0).ll).getD ((v1.getD 2 d0).ii).toNat []).getD 0 d0).ss),DC.i ((r2.getD 0 d0).ii),DC.s ((r2.getD 1 d0).ss),DC.sl ((r2.getD 2 d0).ll),DC.sl ((r2.getD 3 d0).ll)]].length < kC ∧ 106=106 then
 .norm [.sl ((v1.getD 0 d0).ll),.sl (((v1.getD 1 d0).ll) ++ [[DC.s (((((v1.getD 0 d0).ll).getD ((v1.getD 2 d0).ii).toNat []).getD 0 d0).ss),DC.i ((r2.getD 0 d0).ii),DC.s ((r2.getD 1 d0).ss),DC.sl ((r2.getD 2 d0).ll),DC.sl ((r2.getD 3 d0).ll)]]),.i ((v1.getD 2 d0).ii)]
 else
 .fail
 else
 .fail
 else
 .fail) 1 fun v3 =>
 .norm [.sl ((v3.getD 0 d0).ll),.sl ((v3.getD 1 d0).ll),.i (IntKind.i64.wrap ((v3.getD 2 d0).ii + (1:Int)))]
 else
 .ex 0 [.sl ((v1.getD 1 d0).ll)]
noncomputable def VZ (a:List DC):Out :=
 ja (jK yP [.sl ((a.getD 0 d0).ll),.sl [],.i (0:Int)]) 0 fun v4 =>
 .ret [.sl ((v4.getD 0 d0).ll)]
theorem j05 a:Ks a=VZ a:=(jt cfg 86 _ a).trans (by kernel_rfl)
noncomputable def pg:List DC → Out:=fun v5 =>
 if (decide ((v5.getD 2 d0).ii < (v5.getD 1 d0).ii))=true then
 ja (if 100=100 ∧ 0 ≤ (v5.getD 2 d0).ii ∧ (v5.getD 2 d0).ii < (((v5.getD 0 d0).ll).length:Int) then
 (pL [.i (((((v5.getD 0 d0).ll).getD ((v5.getD 2 d0).ii).toNat []).getD 0 d0).ii),.s (((((v5.getD 0 d0).ll).getD ((v5.getD 2 d0).ii).toNat []).getD 1 d0).ss),.sl (((((v5.getD 0 d0).ll).getD ((v5.getD 2 d0).ii).toNat []).getD 2 d0).ll),.sl (((((v5.getD 0 d0).ll).getD ((v5.getD 2 d0).ii).toNat []).getD 3 d0).ll)]).bindR fun r6 =>
 if ((v5.getD 7 d0).ll).length + [[DC.i ((r6.getD 0 d0).ii),DC.s ((r6.getD 1 d0).ss),DC.sl ((r6.getD 2 d0).ll),DC.sl ((r6.getD 3 d0).ll)]].length < kC ∧ 98=98 then
 .norm [.sl ((v5.getD 0 d0).ll),.i ((v5.getD 1 d0).ii),.i ((v5.getD 2 d0).ii),.i ((v5.getD 3 d0).ii),.s ((v5.getD 4 d0).ss),.i ((v5.getD 5 d0).ii),.s ((v5.getD 6 d0).ss),.sl (((v5.getD 7 d0).ll) ++ [[DC.i ((r6.getD 0 d0).ii),DC.s ((r6.getD 1 d0).ss),DC.sl ((r6.getD 2 d0).ll),DC.sl ((r6.getD 3 d0).ll)]]),.sl ((v5.getD 8 d0).ll)]
 else
 .fail
 else
 .fail) 1 fun v7 =>
 .norm [.sl ((v7.getD 0 d0).ll),.i ((v7.getD 1 d0).ii),.i (IntKind.i64.wrap ((v7.getD 2 d0).ii + (1:Int))),.i ((v7.getD 3 d0).ii),.s ((v7.getD 4 d0).ss),.i ((v7.getD 5 d0).ii),.s ((v7.getD 6 d0).ss),.sl ((v7.getD 7 d0).ll),.sl ((v7.getD 8 d0).ll)]
 else
 .ex 0 [.i ((v5.getD 3 d0).ii),.s ((v5.getD 4 d0).ss),.i ((v5.getD 5 d0).ii),.s ((v5.getD 6 d0).ss),.sl ((v5.getD 7 d0).ll),.sl ((v5.getD 8 d0).ll)]
noncomputable def Q9 (a:List DC):Out :=
 (pD [.sl ((a.getD 3 d0).ll)]).bindR fun r1 =>
 ja (jK pg [.sl ((a.getD 2 d0).ll),.i (((a.getD 2 d0).ll).length:Int),.i (0:Int),.i (0:Int),.s [],.i ((a.getD 0 d0).ii),.s ((a.getD 1 d0).ss),.sl [],.sl ((r1.getD 0 d0).ll)]) 0 fun v8 =>
 .ret [.i ((v8.getD 2 d0).ii),.s ((v8.getD 3 d0).ss),.sl ((v8.getD 4 d0).ll),.sl ((v8.getD 5 d0).ll)]
theorem Yh a:pL a=Q9 a:=(jt cfg 114 _ a).trans (by kernel_rfl)
noncomputable def qE:List DC → Out:=fun v4 =>
 if (decide ((v4.getD 3 d0).ii < (v4.getD 2 d0).ii))=true then
 ja (if 149=149 ∧ 0 ≤ (v4.getD 3 d0).ii ∧ (v4.getD 3 d0).ii < (((v4.getD 1 d0).ll).length:Int) then
 (pL [.i (((((v4.getD 1 d0).ll).getD ((v4.getD 3 d0).ii).toNat []).getD 1 d0).ii),.s (((((v4.getD 1 d0).ll).getD ((v4.getD 3 d0).ii).toNat []).getD 2 d0).ss),.sl (((((v4.getD 1 d0).ll).getD ((v4.getD 3 d0).ii).toNat []).getD 3 d0).ll),.sl (((((v4.getD 1 d0).ll).getD ((v4.getD 3 d0).ii).toNat []).getD 4 d0).ll)]).bindR fun r5 =>
 if ((v4.getD 0 d0).ll).length + [[DC.s (((((v4.getD 1 d0).ll).getD ((v4.getD 3 d0).ii).toNat []).getD 0 d0).ss),DC.i ((r5.getD 0 d0).ii),DC.s ((r5.getD 1 d0).ss),DC.sl ((r5.getD 2 d0).ll),DC.sl ((r5.getD 3 d0).ll)]].length < kC ∧ 106=106 then
 .norm [.sl (((v4.getD 0 d0).ll) ++ [[DC.s (((((v4.getD 1 d0).ll).getD ((v4.getD 3 d0).ii).toNat []).getD 0 d0).ss),DC.i ((r5.getD 0 d0).ii),DC.s ((r5.getD 1 d0).ss),DC.sl ((r5.getD 2 d0).ll),DC.sl ((r5.getD 3 d0).ll)]]),.sl ((v4.getD 1 d0).ll),.i ((v4.getD 2 d0).ii),.i ((v4.getD 3 d0).ii)]
 else
 .fail
 else
 .fail) 1 fun v6 =>
 .norm [.sl ((v6.getD 0 d0).ll),.sl ((v6.getD 1 d0).ll),.i ((v6.getD 2 d0).ii),.i (IntKind.i64.wrap ((v6.getD 3 d0).ii + (1:Int)))]
 else
 .ex 0 [.sl ((v4.getD 0 d0).ll)]
noncomputable def QL (a:List DC):Out :=
 ja (jK qE [.sl [],.sl ((a.getD 0 d0).ll),.i (((a.getD 0 d0).ll).length:Int),.i (0:Int)]) 0 fun v7 =>
 .ret [.sl ((v7.getD 0 d0).ll)]
theorem YR a:Ja a=QL a:=(jt cfg 115 _ a).trans (by kernel_rfl)
noncomputable def Xb (a:List DC):Out :=
 .ret [.b ((a.getD 3 d0).ss == (a.getD 11 d0).ss),.s ((a.getD 11 d0).ss)]
theorem j0h a:VH a=Xb a:=(jt cfg 122 _ a).trans (by kernel_rfl)
noncomputable def zZ:List DC → Out:=fun v1 =>
 if (decide ((v1.getD 2 d0).ii < (((v1.getD 0 d0).ll).length:Int)))=true then
 ja (if 100=100 ∧ 0 ≤ (v1.getD 2 d0).ii ∧ (v1.getD 2 d0).ii < (((v1.getD 0 d0).ll).length:Int) then
 if 100=100 ∧ 0 ≤ (v1.getD 2 d0).ii ∧ (v1.getD 2 d0).ii < (((v1.getD 1 d0).ll).length:Int) then
 (qh [.i (((((v1.getD 0 d0).ll).getD ((v1.getD 2 d0).ii).toNat []).getD 0 d0).ii),.s (((((v1.getD 0 d0).ll).getD ((v1.getD 2 d0).ii).toNat []).getD 1 d0).ss),.sl (((((v1.getD 0 d0).ll).getD ((v1.getD 2 d0).ii).toNat []).getD 2 d0).ll),.sl (((((v1.getD 0 d0).ll).getD ((v1.getD 2 d0).ii).toNat []).getD 3 d0).ll),.i (((((v1.getD 1 d0).ll).getD ((v1.getD 2 d0).ii).toNat []).getD 0 d0).ii),.s (((((v1.getD 1 d0).ll).getD ((v1.getD 2 d0).ii).toNat []).getD 1 d0).ss),.sl (((((v1.getD 1 d0).ll).getD ((v1.getD 2 d0).ii).toNat []).getD 2 d0).ll),.sl (((((v1.getD 1 d0).ll).getD ((v1.getD 2 d0).ii).toNat []).getD 3 d0).ll)]).bindR fun r2 =>
 if (!((r2.getD 0 d0).bb))=true then
 .ret [.b false]
 else
 .norm [.sl ((v1.getD 0 d0).ll),.sl ((v1.getD 1 d0).ll),.i ((v1.getD 2 d0).ii)]
 else
 .fail
 else
 .fail) 1 fun v3 =>
 .norm [.sl ((v3.getD 0 d0).ll),.sl ((v3.getD 1 d0).ll),.i (IntKind.i64.wrap ((v3.getD 2 d0).ii + (1:Int)))]
 else
 .ex 0 []
noncomputable def Vk (a:List DC):Out :=
 if ((((a.getD 0 d0).ll).length:Int) != (((a.getD 1 d0).ll).length:Int))=true then
 .ret [.b false]
 else
 ja (jK zZ [.sl ((a.getD 0 d0).ll),.sl ((a.getD 1 d0).ll),.i (0:Int)]) 0 fun v4 =>
 .ret [.b true]
theorem Zz a:JL a=Vk a:=(jt cfg 128 _ a).trans (by kernel_rfl)
noncomputable def Z6 (a:List DC):Out :=
 if (!((a.getD 0 d0).ss == (a.getD 5 d0).ss))=true then
 .ret [.b false]
 else
 (qh [.i ((a.getD 1 d0).ii),.s ((a.getD 2 d0).ss),.sl ((a.getD 3 d0).ll),.sl ((a.getD 4 d0).ll),.i ((a.getD 6 d0).ii),.s ((a.getD 7 d0).ss),.sl ((a.getD 8 d0).ll),.sl ((a.getD 9 d0).ll)]).bindR fun r1 =>
 if (!((r1.getD 0 d0).bb))=true then
 .ret [.b false]
 else
 .ret [.b true]
theorem j1V a:Ke a=Z6 a:=(jt cfg 129 _ a).trans (by kernel_rfl)
set_option linter.unusedSimpArgs false
theorem j0D (ns:List (List UInt8)) (ok:(DC.sl (ns.map S1)).ok) (left:Int) (h0:0 ≤ left) (h1:left ≤ 1048576):yD [.sl (ns.map S1),.i left] = .ret [.i (KN left (DC.wt (.sl (ns.map S1))))]:=by
 rw [DC.ok,List.length_map] at ok
 obtain ⟨hl,ok⟩:=ok
 rw [YJ]
 simp only [QD,List.getD_cons_zero,List.getD_cons_succ,DC.bb_b,DC.ii_i,DC.ss_s,DC.ll_sl]
 refine K5 hl (fun i hi left h0 h1=>?_) (fun left=>?_) h0 h1
 ·have hn:=Ju ok (S1 ns[i]) (je (jc hi))
  simp only [S1,okL,DC.ok] at hn
  have hw:IntKind.i64.wrap (left - (ns[i].length:Int))=left - (ns[i].length:Int):=jM (by omega) (by omega)
  have hc1:(i:Int) < (ns.length:Int):=by omega
  simp only [zq,List.getD_cons_zero,List.getD_cons_succ,DC.bb_b,DC.ii_i,DC.ss_s,DC.ll_sl,jb,List.length_map,js hi,S1,jP,DC.wt,hw]
  by_cases hc:left < (ns[i].length:Int)
  ·simp [hi,hc1,hc,show left - (ns[i].length:Int) < 0 by omega]
  ·simp [hi,hc1,hc,show ¬ left - (ns[i].length:Int) < 0 by omega,jr hi hl]
 ·simp [zq]
theorem j0B (ns:List (List UInt8)) (hl:ns.length ≤ 1048576):yB [.sl (ns.map S1)] = .ret [.sl (ns.map S1)]:=by
 rw [YH]
 simp only [QB,List.getD_cons_zero,List.getD_cons_succ,DC.bb_b,DC.ii_i,DC.ss_s,DC.ll_sl]
 rw [if_pos ⟨by omega,by rw [List.length_map]; exact QY hl,trivial,by omega,by omega,rfl⟩,jb,List.length_map,show (0:Int)=((0:Nat):Int) from rfl,zC hl (fun i hi cur h1 h2=>?_) (fun cur=>?_)]
 ·rfl
 ·have hc1:(i:Int) < (ns.length:Int):=by omega
  simp only [zp,List.getD_cons_zero,List.getD_cons_succ,DC.bb_b,DC.ii_i,DC.ss_s,DC.ll_sl,jb,List.length_map,js hi,h1,h2,S1]
  simp [hi,hc1,jr hi (show ns.length ≤ 9223372036854775807 by omega),kF]
 ·simp [zp]
theorem j1p (ns:List (List UInt8)) (hl:ns.length ≤ 1048576):yF [.sl (ns.map S1),.sl (ns.map S1)] = .ret [.b true]:=by
 rw [YM]
 simp only [QG,List.getD_cons_zero,List.getD_cons_succ,DC.bb_b,DC.ii_i,DC.ss_s,DC.ll_sl]
 refine Kg (fun i hi=>?_) ?_
 ·rw [List.length_map] at hi
  have hc1:(i:Int) < (ns.length:Int):=by omega
  simp only [zr,List.getD_cons_zero,List.getD_cons_succ,DC.bb_b,DC.ii_i,DC.ss_s,DC.ll_sl,jb,List.length_map,js hi,S1]
  simp [hi,hc1,jr hi (show ns.length ≤ 9223372036854775807 by omega)]
 ·simp [zr]
theorem pw (v:TValue):jP (TValue.enc v)=v.text.length + DC.wt (.sl (v.items.map TValue.enc)) + DC.wt (.sl (v.names.map S1)):=by
 simp only [TValue.enc_eq,jP,DC.wt]
 try omega
theorem j4T (vs:List TValue) (hs:∀ v ∈ vs,okL (TValue.enc v) → ∀ left:Int,0 ≤ left → left ≤ 1048576 → qf [.i v.kind,.s v.text,.sl (v.items.map TValue.enc),.sl (v.names.map S1),.i left] = .ret [.i (KN left (jP (TValue.enc v)))]) (ok:(DC.sl (vs.map TValue.enc)).ok) (left:Int) (h0:0 ≤ left) (h1:left ≤ 1048576):JK [.sl (vs.map TValue.enc),.i left] = .ret [.i (KN left (DC.wt (.sl (vs.map TValue.enc))))]:=by
 rw [DC.ok,List.length_map] at ok
 obtain ⟨hl,ok⟩:=ok
 rw [Zu]
 simp only [Vf,List.getD_cons_zero,List.getD_cons_succ,DC.bb_b,DC.ii_i,DC.ss_s,DC.ll_sl]
 refine K5 hl (fun i hi left h0 h1=>?_) (fun left=>?_) h0 h1
 ·have key:=hs vs[i] (jc hi) (Ju ok _ (je (jc hi))) left h0 h1
  generalize jP (TValue.enc vs[i])=w at key ⊢
  have hc1:(i:Int) < (vs.length:Int):=by omega
  simp only [zX,List.getD_cons_zero,List.getD_cons_succ,DC.bb_b,DC.ii_i,DC.ss_s,DC.ll_sl,jb,List.length_map,js hi,TValue.enc_eq,key,Out.bindR_ret]
  by_cases hc:left < (w:Int)
  ·simp [hi,hc1,hc,jI hc]
  ·simp [hi,hc1,hc,kj hc,show ¬ left - (w:Int) < 0 by omega,jr hi hl]
 ·simp [zX]
theorem j3U (v:TValue):okL (TValue.enc v) → ∀ left:Int,0 ≤ left → left ≤ 1048576 → qf [.i v.kind,.s v.text,.sl (v.items.map TValue.enc),.sl (v.names.map S1),.i left] = .ret [.i (KN left (jP (TValue.enc v)))]:=by
 induction v using TValue.ind with | h v ih =>
 intro ok left h0 h1
 rw [TValue.enc_eq] at ok
 simp only [okL] at ok
 rw [j0a]
 simp only [X4,List.getD_cons_zero,List.getD_cons_succ,DC.bb_b,DC.ii_i,DC.ss_s,DC.ll_sl]
 rw [pw]
 have b0:v.text.length ≤ 9223372036854775807:=by simpa only [DC.ok] using ok.2.1
 rw [show IntKind.i64.wrap (left - (v.text.length:Int))=left - (v.text.length:Int) from jM (by omega) (by omega)]
 by_cases c0:left < ((v.text.length:Nat):Int)
 ·have c0':left - ((v.text.length:Nat):Int) < 0:=by omega
  simp only [c0',decide_true,if_true]
  try rw [jI (by omega)]
 have c0':¬ left - ((v.text.length:Nat):Int) < 0:=by omega
 simp only [c0',decide_false,Bool.false_eq_true,if_false]
 rw [j4T v.items (fun x hx=>ih x hx) ok.2.2.1 ((left - ((v.text.length:Nat):Int))) (by omega) (by omega)]
 simp only [Out.bindR_ret,List.getD_cons_zero,List.getD_cons_succ,DC.bb_b,DC.ii_i,DC.ss_s,DC.ll_sl]
 by_cases c1:(left - ((v.text.length:Nat):Int)) < ((DC.wt (.sl (v.items.map TValue.enc)):Nat):Int)
 ·rw [jI c1]
  simp only [show (-1:Int) < 0 by omega,decide_true,if_true]
  try rw [jI (by omega)]
 rw [kj c1]
 have c1':¬ (left - ((v.text.length:Nat):Int)) - ((DC.wt (.sl (v.items.map TValue.enc)):Nat):Int) < 0:=by omega
 simp only [c1',decide_false,Bool.false_eq_true,if_false]
 rw [j0D v.names ok.2.2.2.1 (((left - ((v.text.length:Nat):Int)) - ((DC.wt (.sl (v.items.map TValue.enc)):Nat):Int))) (by omega) (by omega)]
 simp only [Out.bindR_ret,List.getD_cons_zero,List.getD_cons_succ,DC.bb_b,DC.ii_i,DC.ss_s,DC.ll_sl]
 by_cases c2:((left - ((v.text.length:Nat):Int)) - ((DC.wt (.sl (v.items.map TValue.enc)):Nat):Int)) < ((DC.wt (.sl (v.names.map S1)):Nat):Int)
 ·rw [jI c2]
  simp only [show (-1:Int) < 0 by omega,decide_true,if_true]
  try rw [jI (by omega)]
 rw [kj c2]
 have c2':¬ ((left - ((v.text.length:Nat):Int)) - ((DC.wt (.sl (v.items.map TValue.enc)):Nat):Int)) - ((DC.wt (.sl (v.names.map S1)):Nat):Int) < 0:=by omega
 simp only [c2',decide_false,Bool.false_eq_true,if_false]
 first
 | done
 | rw [show KN left (v.text.length + DC.wt (.sl (v.items.map TValue.enc)) + DC.wt (.sl (v.names.map S1)))=(((left - ((v.text.length:Nat):Int)) - ((DC.wt (.sl (v.items.map TValue.enc)):Nat):Int)) - ((DC.wt (.sl (v.names.map S1)):Nat):Int)) from (kj (by omega)).trans (by omega)]
theorem j4P (vs:List TValue) (hs:∀ v ∈ vs,jP (TValue.enc v) ≤ 1048576 → qe [.i v.kind,.s v.text,.sl (v.items.map TValue.enc),.sl (v.names.map S1)] = .ret (TValue.enc v)) (hw:DC.wt (.sl (vs.map TValue.enc)) ≤ 1048576):JJ [.sl (vs.map TValue.enc)] = .ret [.sl (vs.map TValue.enc)]:=by
 rw [DC.wt,List.length_map] at hw
 have hl:vs.length ≤ 1048576:=by omega
 rw [Zs]
 simp only [Vd,List.getD_cons_zero,List.getD_cons_succ,DC.bb_b,DC.ii_i,DC.ss_s,DC.ll_sl]
 rw [if_pos ⟨by omega,by rw [List.length_map]; exact QY hl,trivial,by omega,by omega,rfl⟩,jb,List.length_map,show (0:Int)=((0:Nat):Int) from rfl,zC hl (fun i hi cur h1 h2=>?_) (fun cur=>?_)]
 ·rfl
 ·have key:=hs vs[i] (jc hi) (by have:=jU (je (f:=TValue.enc) (jc hi)); omega)
  have hc1:(i:Int) < (vs.length:Int):=by omega
  simp only [zU,List.getD_cons_zero,List.getD_cons_succ,DC.bb_b,DC.ii_i,DC.ss_s,DC.ll_sl,jb,List.length_map,js hi,h1,h2,TValue.enc_eq] at key ⊢
  simp only [key,List.getD_cons_zero,List.getD_cons_succ,DC.bb_b,DC.ii_i,DC.ss_s,DC.ll_sl,Out.bindR_ret]
  simp [hi,hc1,jr hi (show vs.length ≤ 9223372036854775807 by omega),kF]
 ·simp [zU]
theorem j3N (v:TValue):jP (TValue.enc v) ≤ 1048576 → qe [.i v.kind,.s v.text,.sl (v.items.map TValue.enc),.sl (v.names.map S1)] = .ret (TValue.enc v):=by
 induction v using TValue.ind with | h v ih =>
 intro hw
 rw [pw] at hw
 rw [j07]
 simp only [X1,List.getD_cons_zero,List.getD_cons_succ,DC.bb_b,DC.ii_i,DC.ss_s,DC.ll_sl]
 rw [j4P v.items (fun x hx=>ih x hx) (by omega)]
 simp only [Out.bindR_ret,List.getD_cons_zero,List.getD_cons_succ,DC.bb_b,DC.ii_i,DC.ss_s,DC.ll_sl]
 rw [j0B v.names (by have h:=hw; simp only [DC.wt,List.length_map] at h; omega)]
 simp only [Out.bindR_ret,List.getD_cons_zero,List.getD_cons_succ,DC.bb_b,DC.ii_i,DC.ss_s,DC.ll_sl]
 rw [TValue.enc_eq]
theorem j5z (vs:List TValue) (hs:∀ v ∈ vs,jP (TValue.enc v) ≤ 1048576 → qh [.i v.kind,.s v.text,.sl (v.items.map TValue.enc),.sl (v.names.map S1),.i v.kind,.s v.text,.sl (v.items.map TValue.enc),.sl (v.names.map S1)] = .ret [.b true]) (hw:DC.wt (.sl (vs.map TValue.enc)) ≤ 1048576):JL [.sl (vs.map TValue.enc),.sl (vs.map TValue.enc)] = .ret [.b true]:=by
 rw [DC.wt,List.length_map] at hw
 have hl:vs.length ≤ 1048576:=by omega
 rw [Zz]
 simp only [Vk,List.getD_cons_zero,List.getD_cons_succ,DC.bb_b,DC.ii_i,DC.ss_s,DC.ll_sl]
 refine Kg (fun i hi=>?_) ?_
 ·rw [List.length_map] at hi
  have key:=hs vs[i] (jc hi) (by have:=jU (je (f:=TValue.enc) (jc hi)); omega)
  have hc1:(i:Int) < (vs.length:Int):=by omega
  simp only [zZ,List.getD_cons_zero,List.getD_cons_succ,DC.bb_b,DC.ii_i,DC.ss_s,DC.ll_sl,jb,List.length_map,js hi,TValue.enc_eq] at key ⊢
  simp only [key,List.getD_cons_zero,List.getD_cons_succ,DC.bb_b,DC.ii_i,DC.ss_s,DC.ll_sl,Out.bindR_ret]
  simp [hi,hc1,jr hi (show vs.length ≤ 9223372036854775807 by omega)]
 ·simp [zZ]
theorem j4t (v:TValue):jP (TValue.enc v) ≤ 1048576 → qh [.i v.kind,.s v.text,.sl (v.items.map TValue.enc),.sl (v.names.map S1),.i v.kind,.s v.text,.sl (v.items.map TValue.enc),.sl (v.names.map S1)] = .ret [.b true]:=by
 induction v using TValue.ind with | h v ih =>
 intro hw
 rw [pw] at hw
 rw [j0d]
 simp only [X7,List.getD_cons_zero,List.getD_cons_succ,DC.bb_b,DC.ii_i,DC.ss_s,DC.ll_sl,bne_self_eq_false,beq_self_eq_true,jx,Bool.false_eq_true,if_false]
 rw [j5z v.items (fun x hx=>ih x hx) (by omega)]
 simp only [Out.bindR_ret,List.getD_cons_zero,List.getD_cons_succ,DC.bb_b,DC.ii_i,DC.ss_s,DC.ll_sl,bne_self_eq_false,beq_self_eq_true,jx,Bool.false_eq_true,if_false]
 rw [j1p v.names (by have h:=hw; simp only [DC.wt,List.length_map] at h; omega)]
 simp only [Out.bindR_ret,List.getD_cons_zero,List.getD_cons_succ,DC.bb_b,DC.ii_i,DC.ss_s,DC.ll_sl,bne_self_eq_false,beq_self_eq_true,jx,Bool.false_eq_true,if_false]
theorem J7 (v:TType):jP (TType.enc v)=v.name.length + v.wraps.length:=by
 simp only [TType.enc_eq,jP,DC.wt]
 try omega
theorem j5J (v:TType):okL (TType.enc v) → ∀ left:Int,0 ≤ left → left ≤ 1048576 → Jn [.s v.name,.s v.wraps,.i left] = .ret [.i (KN left (jP (TType.enc v)))]:=by
 intro ok left h0 h1
 rw [TType.enc_eq] at ok
 simp only [okL] at ok
 rw [j1c]
 simp only [XF,List.getD_cons_zero,List.getD_cons_succ,DC.bb_b,DC.ii_i,DC.ss_s,DC.ll_sl]
 rw [J7]
 have b0:v.name.length ≤ 9223372036854775807:=by simpa only [DC.ok] using ok.1
 have b1:v.wraps.length ≤ 9223372036854775807:=by simpa only [DC.ok] using ok.2.1
 rw [show IntKind.i64.wrap (left - (v.name.length:Int))=left - (v.name.length:Int) from jM (by omega) (by omega)]
 by_cases c0:left < ((v.name.length:Nat):Int)
 ·have c0':left - ((v.name.length:Nat):Int) < 0:=by omega
  simp only [c0',decide_true,if_true]
  try rw [jI (by omega)]
 have c0':¬ left - ((v.name.length:Nat):Int) < 0:=by omega
 simp only [c0',decide_false,Bool.false_eq_true,if_false]
 rw [show IntKind.i64.wrap ((left - ((v.name.length:Nat):Int)) - (v.wraps.length:Int))=(left - ((v.name.length:Nat):Int)) - (v.wraps.length:Int) from jM (by omega) (by omega)]
 by_cases c1:(left - ((v.name.length:Nat):Int)) < ((v.wraps.length:Nat):Int)
 ·have c1':(left - ((v.name.length:Nat):Int)) - ((v.wraps.length:Nat):Int) < 0:=by omega
  simp only [c1',decide_true,if_true]
  try rw [jI (by omega)]
 have c1':¬ (left - ((v.name.length:Nat):Int)) - ((v.wraps.length:Nat):Int) < 0:=by omega
 simp only [c1',decide_false,Bool.false_eq_true,if_false]
 first
 | done
 | rw [show KN left (v.name.length + v.wraps.length)=((left - ((v.name.length:Nat):Int)) - ((v.wraps.length:Nat):Int)) from (kj (by omega)).trans (by omega)]
theorem j5I (v:TType):jP (TType.enc v) ≤ 1048576 → Jk [.s v.name,.s v.wraps] = .ret (TType.enc v):=by
 intro hw
 rw [J7] at hw
 rw [j17]
 simp only [XA,List.getD_cons_zero,List.getD_cons_succ,DC.bb_b,DC.ii_i,DC.ss_s,DC.ll_sl]
 rw [TType.enc_eq]
theorem j65 (v:TType):jP (TType.enc v) ≤ 1048576 → Jr [.s v.name,.s v.wraps,.s v.name,.s v.wraps] = .ret [.b true]:=by
 intro hw
 rw [J7] at hw
 rw [j1h]
 simp only [XK,List.getD_cons_zero,List.getD_cons_succ,DC.bb_b,DC.ii_i,DC.ss_s,DC.ll_sl,bne_self_eq_false,beq_self_eq_true,jx,Bool.false_eq_true,if_false]
theorem Km (v:TArg):jP (TArg.enc v)=v.name.length + jP (TValue.enc v.value):=by
 simp only [TArg.enc_eq,jP,DC.wt,TValue.enc_eq]
 try omega
theorem j9U (v:TArg):okL (TArg.enc v) → ∀ left:Int,0 ≤ left → left ≤ 1048576 → Kb [.s v.name,.i v.value.kind,.s v.value.text,.sl (v.value.items.map TValue.enc),.sl (v.value.names.map S1),.i left] = .ret [.i (KN left (jP (TArg.enc v)))]:=by
 intro ok left h0 h1
 rw [TArg.enc_eq] at ok
 simp only [okL] at ok
 rw [j1S]
 simp only [Z3,List.getD_cons_zero,List.getD_cons_succ,DC.bb_b,DC.ii_i,DC.ss_s,DC.ll_sl]
 rw [Km]
 have b0:v.name.length ≤ 9223372036854775807:=by simpa only [DC.ok] using ok.1
 rw [show IntKind.i64.wrap (left - (v.name.length:Int))=left - (v.name.length:Int) from jM (by omega) (by omega)]
 by_cases c0:left < ((v.name.length:Nat):Int)
 ·have c0':left - ((v.name.length:Nat):Int) < 0:=by omega
  simp only [c0',decide_true,if_true]
  try rw [jI (by omega)]
 have c0':¬ left - ((v.name.length:Nat):Int) < 0:=by omega
 simp only [c0',decide_false,Bool.false_eq_true,if_false]
 rw [j3U v.value (by rw [TValue.enc_eq]; simp only [okL]; exact ⟨ok.2.1,ok.2.2.1,ok.2.2.2.1,ok.2.2.2.2.1,trivial⟩) ((left - ((v.name.length:Nat):Int))) (by omega) (by omega)]
 simp only [Out.bindR_ret,List.getD_cons_zero,List.getD_cons_succ,DC.bb_b,DC.ii_i,DC.ss_s,DC.ll_sl]
 by_cases c1:(left - ((v.name.length:Nat):Int)) < ((jP (TValue.enc v.value):Nat):Int)
 ·rw [jI c1]
  simp only [show (-1:Int) < 0 by omega,decide_true,if_true]
  try rw [jI (by omega)]
 rw [kj c1]
 have c1':¬ (left - ((v.name.length:Nat):Int)) - ((jP (TValue.enc v.value):Nat):Int) < 0:=by omega
 simp only [c1',decide_false,Bool.false_eq_true,if_false]
 first
 | done
 | rw [show KN left (v.name.length + jP (TValue.enc v.value))=((left - ((v.name.length:Nat):Int)) - ((jP (TValue.enc v.value):Nat):Int)) from (kj (by omega)).trans (by omega)]
theorem j7c (vs:List TArg) (hs:∀ v ∈ vs,okL (TArg.enc v) → ∀ left:Int,0 ≤ left → left ≤ 1048576 → Kb [.s v.name,.i v.value.kind,.s v.value.text,.sl (v.value.items.map TValue.enc),.sl (v.value.names.map S1),.i left] = .ret [.i (KN left (jP (TArg.enc v)))]) (ok:(DC.sl (vs.map TArg.enc)).ok) (left:Int) (h0:0 ≤ left) (h1:left ≤ 1048576):Jq [.sl (vs.map TArg.enc),.i left] = .ret [.i (KN left (DC.wt (.sl (vs.map TArg.enc))))]:=by
 rw [DC.ok,List.length_map] at ok
 obtain ⟨hl,ok⟩:=ok
 rw [j1g]
 simp only [XJ,List.getD_cons_zero,List.getD_cons_succ,DC.bb_b,DC.ii_i,DC.ss_s,DC.ll_sl]
 refine K5 hl (fun i hi left h0 h1=>?_) (fun left=>?_) h0 h1
 ·have key:=hs vs[i] (jc hi) (Ju ok _ (je (jc hi))) left h0 h1
  generalize jP (TArg.enc vs[i])=w at key ⊢
  have hc1:(i:Int) < (vs.length:Int):=by omega
  simp only [JX,List.getD_cons_zero,List.getD_cons_succ,DC.bb_b,DC.ii_i,DC.ss_s,DC.ll_sl,jb,List.length_map,js hi,TArg.enc_eq,key,Out.bindR_ret]
  by_cases hc:left < (w:Int)
  ·simp [hi,hc1,hc,jI hc]
  ·simp [hi,hc1,hc,kj hc,show ¬ left - (w:Int) < 0 by omega,jr hi hl]
 ·simp [JX]
theorem j8V (vs:List TArg) (ok:(DC.sl (vs.map TArg.enc)).ok) (left:Int) (h0:0 ≤ left) (h1:left ≤ 1048576):Jq [.sl (vs.map TArg.enc),.i left] = .ret [.i (KN left (DC.wt (.sl (vs.map TArg.enc))))]:=j7c vs (fun v _=>j9U v) ok left h0 h1
theorem j9Q (v:TArg):jP (TArg.enc v) ≤ 1048576 → K8 [.s v.name,.i v.value.kind,.s v.value.text,.sl (v.value.items.map TValue.enc),.sl (v.value.names.map S1)] = .ret (TArg.enc v):=by
 intro hw
 rw [Km] at hw
 rw [j1P]
 simp only [Z0,List.getD_cons_zero,List.getD_cons_succ,DC.bb_b,DC.ii_i,DC.ss_s,DC.ll_sl]
 rw [j3N v.value (by omega)]
 simp only [Out.bindR_ret,TValue.enc_eq,List.getD_cons_zero,List.getD_cons_succ,DC.bb_b,DC.ii_i,DC.ss_s,DC.ll_sl]
 rw [TArg.enc_eq]
theorem j74 (vs:List TArg) (hs:∀ v ∈ vs,jP (TArg.enc v) ≤ 1048576 → K8 [.s v.name,.i v.value.kind,.s v.value.text,.sl (v.value.items.map TValue.enc),.sl (v.value.names.map S1)] = .ret (TArg.enc v)) (hw:DC.wt (.sl (vs.map TArg.enc)) ≤ 1048576):Jm [.sl (vs.map TArg.enc)] = .ret [.sl (vs.map TArg.enc)]:=by
 rw [DC.wt,List.length_map] at hw
 have hl:vs.length ≤ 1048576:=by omega
 rw [j1b]
 simp only [XE,List.getD_cons_zero,List.getD_cons_succ,DC.bb_b,DC.ii_i,DC.ss_s,DC.ll_sl]
 rw [if_pos ⟨by omega,by rw [List.length_map]; exact QY hl,trivial,by omega,by omega,rfl⟩,jb,List.length_map,show (0:Int)=((0:Nat):Int) from rfl,zC hl (fun i hi cur h1 h2=>?_) (fun cur=>?_)]
 ·rfl
 ·have key:=hs vs[i] (jc hi) (by have:=jU (je (f:=TArg.enc) (jc hi)); omega)
  have hc1:(i:Int) < (vs.length:Int):=by omega
  simp only [JU,List.getD_cons_zero,List.getD_cons_succ,DC.bb_b,DC.ii_i,DC.ss_s,DC.ll_sl,jb,List.length_map,js hi,h1,h2,TArg.enc_eq] at key ⊢
  simp only [key,List.getD_cons_zero,List.getD_cons_succ,DC.bb_b,DC.ii_i,DC.ss_s,DC.ll_sl,Out.bindR_ret]
  simp [hi,hc1,jr hi (show vs.length ≤ 9223372036854775807 by omega),kF]
 ·simp [JU]
theorem j8R (vs:List TArg) (hw:DC.wt (.sl (vs.map TArg.enc)) ≤ 1048576):Jm [.sl (vs.map TArg.enc)] = .ret [.sl (vs.map TArg.enc)]:=j74 vs (fun v _=>j9Q v) hw
theorem jad (v:TArg):jP (TArg.enc v) ≤ 1048576 → Ke [.s v.name,.i v.value.kind,.s v.value.text,.sl (v.value.items.map TValue.enc),.sl (v.value.names.map S1),.s v.name,.i v.value.kind,.s v.value.text,.sl (v.value.items.map TValue.enc),.sl (v.value.names.map S1)] = .ret [.b true]:=by
 intro hw
 rw [Km] at hw
 rw [j1V]
 simp only [Z6,List.getD_cons_zero,List.getD_cons_succ,DC.bb_b,DC.ii_i,DC.ss_s,DC.ll_sl,bne_self_eq_false,beq_self_eq_true,jx,Bool.false_eq_true,if_false]
 rw [j4t v.value (by omega)]
 simp only [Out.bindR_ret,List.getD_cons_zero,List.getD_cons_succ,DC.bb_b,DC.ii_i,DC.ss_s,DC.ll_sl,bne_self_eq_false,beq_self_eq_true,jx,Bool.false_eq_true,if_false]
theorem j8s (vs:List TArg) (hs:∀ v ∈ vs,jP (TArg.enc v) ≤ 1048576 → Ke [.s v.name,.i v.value.kind,.s v.value.text,.sl (v.value.items.map TValue.enc),.sl (v.value.names.map S1),.s v.name,.i v.value.kind,.s v.value.text,.sl (v.value.items.map TValue.enc),.sl (v.value.names.map S1)] = .ret [.b true]) (hw:DC.wt (.sl (vs.map TArg.enc)) ≤ 1048576):Jt [.sl (vs.map TArg.enc),.sl (vs.map TArg.enc)] = .ret [.b true]:=by
 rw [DC.wt,List.length_map] at hw
 have hl:vs.length ≤ 1048576:=by omega
 rw [j1l]
 simp only [XO,List.getD_cons_zero,List.getD_cons_succ,DC.bb_b,DC.ii_i,DC.ss_s,DC.ll_sl]
 refine Kg (fun i hi=>?_) ?_
 ·rw [List.length_map] at hi
  have key:=hs vs[i] (jc hi) (by have:=jU (je (f:=TArg.enc) (jc hi)); omega)
  have hc1:(i:Int) < (vs.length:Int):=by omega
  simp only [K0,List.getD_cons_zero,List.getD_cons_succ,DC.bb_b,DC.ii_i,DC.ss_s,DC.ll_sl,jb,List.length_map,js hi,TArg.enc_eq] at key ⊢
  simp only [key,List.getD_cons_zero,List.getD_cons_succ,DC.bb_b,DC.ii_i,DC.ss_s,DC.ll_sl,Out.bindR_ret]
  simp [hi,hc1,jr hi (show vs.length ≤ 9223372036854775807 by omega)]
 ·simp [K0]
theorem j9l (vs:List TArg) (hw:DC.wt (.sl (vs.map TArg.enc)) ≤ 1048576):Jt [.sl (vs.map TArg.enc),.sl (vs.map TArg.enc)] = .ret [.b true]:=j8s vs (fun v _=>jad v) hw
theorem Kl (v:TDir):jP (TDir.enc v)=v.name.length + DC.wt (.sl (v.args.map TArg.enc)):=by
 simp only [TDir.enc_eq,jP,DC.wt]
 try omega
theorem j9S (v:TDir):okL (TDir.enc v) → ∀ left:Int,0 ≤ left → left ≤ 1048576 → K9 [.s v.name,.sl (v.args.map TArg.enc),.i left] = .ret [.i (KN left (jP (TDir.enc v)))]:=by
 intro ok left h0 h1
 rw [TDir.enc_eq] at ok
 simp only [okL] at ok
 rw [j1Q]
 simp only [Z1,List.getD_cons_zero,List.getD_cons_succ,DC.bb_b,DC.ii_i,DC.ss_s,DC.ll_sl]
 rw [Kl]
 have b0:v.name.length ≤ 9223372036854775807:=by simpa only [DC.ok] using ok.1
 rw [show IntKind.i64.wrap (left - (v.name.length:Int))=left - (v.name.length:Int) from jM (by omega) (by omega)]
 by_cases c0:left < ((v.name.length:Nat):Int)
 ·have c0':left - ((v.name.length:Nat):Int) < 0:=by omega
  simp only [c0',decide_true,if_true]
  try rw [jI (by omega)]
 have c0':¬ left - ((v.name.length:Nat):Int) < 0:=by omega
 simp only [c0',decide_false,Bool.false_eq_true,if_false]
 rw [j8V v.args ok.2.1 ((left - ((v.name.length:Nat):Int))) (by omega) (by omega)]
 simp only [Out.bindR_ret,List.getD_cons_zero,List.getD_cons_succ,DC.bb_b,DC.ii_i,DC.ss_s,DC.ll_sl]
 by_cases c1:(left - ((v.name.length:Nat):Int)) < ((DC.wt (.sl (v.args.map TArg.enc)):Nat):Int)
 ·rw [jI c1]
  simp only [show (-1:Int) < 0 by omega,decide_true,if_true]
  try rw [jI (by omega)]
 rw [kj c1]
 have c1':¬ (left - ((v.name.length:Nat):Int)) - ((DC.wt (.sl (v.args.map TArg.enc)):Nat):Int) < 0:=by omega
 simp only [c1',decide_false,Bool.false_eq_true,if_false]
 first
 | done
 | rw [show KN left (v.name.length + DC.wt (.sl (v.args.map TArg.enc)))=((left - ((v.name.length:Nat):Int)) - ((DC.wt (.sl (v.args.map TArg.enc)):Nat):Int)) from (kj (by omega)).trans (by omega)]
theorem j7a (vs:List TDir) (hs:∀ v ∈ vs,okL (TDir.enc v) → ∀ left:Int,0 ≤ left → left ≤ 1048576 → K9 [.s v.name,.sl (v.args.map TArg.enc),.i left] = .ret [.i (KN left (jP (TDir.enc v)))]) (ok:(DC.sl (vs.map TDir.enc)).ok) (left:Int) (h0:0 ≤ left) (h1:left ≤ 1048576):pS [.sl (vs.map TDir.enc),.i left] = .ret [.i (KN left (DC.wt (.sl (vs.map TDir.enc))))]:=by
 rw [DC.ok,List.length_map] at ok
 obtain ⟨hl,ok⟩:=ok
 rw [j1e]
 simp only [XH,List.getD_cons_zero,List.getD_cons_succ,DC.bb_b,DC.ii_i,DC.ss_s,DC.ll_sl]
 refine K5 hl (fun i hi left h0 h1=>?_) (fun left=>?_) h0 h1
 ·have key:=hs vs[i] (jc hi) (Ju ok _ (je (jc hi))) left h0 h1
  generalize jP (TDir.enc vs[i])=w at key ⊢
  have hc1:(i:Int) < (vs.length:Int):=by omega
  simp only [JV,List.getD_cons_zero,List.getD_cons_succ,DC.bb_b,DC.ii_i,DC.ss_s,DC.ll_sl,jb,List.length_map,js hi,TDir.enc_eq,key,Out.bindR_ret]
  by_cases hc:left < (w:Int)
  ·simp [hi,hc1,hc,jI hc]
  ·simp [hi,hc1,hc,kj hc,show ¬ left - (w:Int) < 0 by omega,jr hi hl]
 ·simp [JV]
theorem j0k (vs:List TDir) (ok:(DC.sl (vs.map TDir.enc)).ok) (left:Int) (h0:0 ≤ left) (h1:left ≤ 1048576):pS [.sl (vs.map TDir.enc),.i left] = .ret [.i (KN left (DC.wt (.sl (vs.map TDir.enc))))]:=j7a vs (fun v _=>j9S v) ok left h0 h1
theorem j9O (v:TDir):jP (TDir.enc v) ≤ 1048576 → K6 [.s v.name,.sl (v.args.map TArg.enc)] = .ret (TDir.enc v):=by
 intro hw
 rw [Kl] at hw
 rw [j1N]
 simp only [YY,List.getD_cons_zero,List.getD_cons_succ,DC.bb_b,DC.ii_i,DC.ss_s,DC.ll_sl]
 rw [j8R v.args (by omega)]
 simp only [Out.bindR_ret,List.getD_cons_zero,List.getD_cons_succ,DC.bb_b,DC.ii_i,DC.ss_s,DC.ll_sl]
 rw [TDir.enc_eq]
theorem j72 (vs:List TDir) (hs:∀ v ∈ vs,jP (TDir.enc v) ≤ 1048576 → K6 [.s v.name,.sl (v.args.map TArg.enc)] = .ret (TDir.enc v)) (hw:DC.wt (.sl (vs.map TDir.enc)) ≤ 1048576):pQ [.sl (vs.map TDir.enc)] = .ret [.sl (vs.map TDir.enc)]:=by
 rw [DC.wt,List.length_map] at hw
 have hl:vs.length ≤ 1048576:=by omega
 rw [j19]
 simp only [XC,List.getD_cons_zero,List.getD_cons_succ,DC.bb_b,DC.ii_i,DC.ss_s,DC.ll_sl]
 rw [if_pos ⟨by omega,by rw [List.length_map]; exact QY hl,trivial,by omega,by omega,rfl⟩,jb,List.length_map,show (0:Int)=((0:Nat):Int) from rfl,zC hl (fun i hi cur h1 h2=>?_) (fun cur=>?_)]
 ·rfl
 ·have key:=hs vs[i] (jc hi) (by have:=jU (je (f:=TDir.enc) (jc hi)); omega)
  have hc1:(i:Int) < (vs.length:Int):=by omega
  simp only [JS,List.getD_cons_zero,List.getD_cons_succ,DC.bb_b,DC.ii_i,DC.ss_s,DC.ll_sl,jb,List.length_map,js hi,h1,h2,TDir.enc_eq] at key ⊢
  simp only [key,List.getD_cons_zero,List.getD_cons_succ,DC.bb_b,DC.ii_i,DC.ss_s,DC.ll_sl,Out.bindR_ret]
  simp [hi,hc1,jr hi (show vs.length ≤ 9223372036854775807 by omega),kF]
 ·simp [JS]
theorem j0j (vs:List TDir) (hw:DC.wt (.sl (vs.map TDir.enc)) ≤ 1048576):pQ [.sl (vs.map TDir.enc)] = .ret [.sl (vs.map TDir.enc)]:=j72 vs (fun v _=>j9O v) hw
theorem jab (v:TDir):jP (TDir.enc v) ≤ 1048576 → Kc [.s v.name,.sl (v.args.map TArg.enc),.s v.name,.sl (v.args.map TArg.enc)] = .ret [.b true]:=by
 intro hw
 rw [Kl] at hw
 rw [j1T]
 simp only [Z4,List.getD_cons_zero,List.getD_cons_succ,DC.bb_b,DC.ii_i,DC.ss_s,DC.ll_sl,bne_self_eq_false,beq_self_eq_true,jx,Bool.false_eq_true,if_false]
 rw [j9l v.args (by omega)]
 simp only [Out.bindR_ret,List.getD_cons_zero,List.getD_cons_succ,DC.bb_b,DC.ii_i,DC.ss_s,DC.ll_sl,bne_self_eq_false,beq_self_eq_true,jx,Bool.false_eq_true,if_false]
theorem j8q (vs:List TDir) (hs:∀ v ∈ vs,jP (TDir.enc v) ≤ 1048576 → Kc [.s v.name,.sl (v.args.map TArg.enc),.s v.name,.sl (v.args.map TArg.enc)] = .ret [.b true]) (hw:DC.wt (.sl (vs.map TDir.enc)) ≤ 1048576):pT [.sl (vs.map TDir.enc),.sl (vs.map TDir.enc)] = .ret [.b true]:=by
 rw [DC.wt,List.length_map] at hw
 have hl:vs.length ≤ 1048576:=by omega
 rw [j1j]
 simp only [XM,List.getD_cons_zero,List.getD_cons_succ,DC.bb_b,DC.ii_i,DC.ss_s,DC.ll_sl]
 refine Kg (fun i hi=>?_) ?_
 ·rw [List.length_map] at hi
  have key:=hs vs[i] (jc hi) (by have:=jU (je (f:=TDir.enc) (jc hi)); omega)
  have hc1:(i:Int) < (vs.length:Int):=by omega
  simp only [JY,List.getD_cons_zero,List.getD_cons_succ,DC.bb_b,DC.ii_i,DC.ss_s,DC.ll_sl,jb,List.length_map,js hi,TDir.enc_eq] at key ⊢
  simp only [key,List.getD_cons_zero,List.getD_cons_succ,DC.bb_b,DC.ii_i,DC.ss_s,DC.ll_sl,Out.bindR_ret]
  simp [hi,hc1,jr hi (show vs.length ≤ 9223372036854775807 by omega)]
 ·simp [JY]
theorem j0s (vs:List TDir) (hw:DC.wt (.sl (vs.map TDir.enc)) ≤ 1048576):pT [.sl (vs.map TDir.enc),.sl (vs.map TDir.enc)] = .ret [.b true]:=j8q vs (fun v _=>jab v) hw
theorem zg (v:TInDef):jP (TInDef.enc v)=v.name.length + v.desc.length + jP (TType.enc v.type') + jP (TValue.enc v.default') + DC.wt (.sl (v.dirs.map TDir.enc)):=by
 simp only [TInDef.enc_eq,jP,DC.wt,TType.enc_eq,TValue.enc_eq]
 try omega
theorem j78 (v:TInDef):okL (TInDef.enc v) → ∀ left:Int,0 ≤ left → left ≤ 1048576 → zI [.s v.name,.s v.desc,.s v.type'.name,.s v.type'.wraps,.b v.has',.i v.default'.kind,.s v.default'.text,.sl (v.default'.items.map TValue.enc),.sl (v.default'.names.map S1),.sl (v.dirs.map TDir.enc),.i left] = .ret [.i (KN left (jP (TInDef.enc v)))]:=by
 intro ok left h0 h1
 rw [TInDef.enc_eq] at ok
 simp only [okL] at ok
 rw [j0c]
 simp only [X6,List.getD_cons_zero,List.getD_cons_succ,DC.bb_b,DC.ii_i,DC.ss_s,DC.ll_sl]
 rw [zg]
 have b0:v.name.length ≤ 9223372036854775807:=by simpa only [DC.ok] using ok.1
 have b1:v.desc.length ≤ 9223372036854775807:=by simpa only [DC.ok] using ok.2.1
 rw [show IntKind.i64.wrap (left - (v.name.length:Int))=left - (v.name.length:Int) from jM (by omega) (by omega)]
 by_cases c0:left < ((v.name.length:Nat):Int)
 ·have c0':left - ((v.name.length:Nat):Int) < 0:=by omega
  simp only [c0',decide_true,if_true]
  try rw [jI (by omega)]
 have c0':¬ left - ((v.name.length:Nat):Int) < 0:=by omega
 simp only [c0',decide_false,Bool.false_eq_true,if_false]
 rw [show IntKind.i64.wrap ((left - ((v.name.length:Nat):Int)) - (v.desc.length:Int))=(left - ((v.name.length:Nat):Int)) - (v.desc.length:Int) from jM (by omega) (by omega)]
 by_cases c1:(left - ((v.name.length:Nat):Int)) < ((v.desc.length:Nat):Int)
 ·have c1':(left - ((v.name.length:Nat):Int)) - ((v.desc.length:Nat):Int) < 0:=by omega
  simp only [c1',decide_true,if_true]
  try rw [jI (by omega)]
 have c1':¬ (left - ((v.name.length:Nat):Int)) - ((v.desc.length:Nat):Int) < 0:=by omega
 simp only [c1',decide_false,Bool.false_eq_true,if_false]
 rw [j5J v.type' (by rw [TType.enc_eq]; simp only [okL]; exact ⟨ok.2.2.1,ok.2.2.2.1,trivial⟩) (((left - ((v.name.length:Nat):Int)) - ((v.desc.length:Nat):Int))) (by omega) (by omega)]
 simp only [Out.bindR_ret,List.getD_cons_zero,List.getD_cons_succ,DC.bb_b,DC.ii_i,DC.ss_s,DC.ll_sl]
 by_cases c2:((left - ((v.name.length:Nat):Int)) - ((v.desc.length:Nat):Int)) < ((jP (TType.enc v.type'):Nat):Int)
 ·rw [jI c2]
  simp only [show (-1:Int) < 0 by omega,decide_true,if_true]
  try rw [jI (by omega)]
 rw [kj c2]
 have c2':¬ ((left - ((v.name.length:Nat):Int)) - ((v.desc.length:Nat):Int)) - ((jP (TType.enc v.type'):Nat):Int) < 0:=by omega
 simp only [c2',decide_false,Bool.false_eq_true,if_false]
 rw [j3U v.default' (by rw [TValue.enc_eq]; simp only [okL]; exact ⟨ok.2.2.2.2.2.1,ok.2.2.2.2.2.2.1,ok.2.2.2.2.2.2.2.1,ok.2.2.2.2.2.2.2.2.1,trivial⟩) ((((left - ((v.name.length:Nat):Int)) - ((v.desc.length:Nat):Int)) - ((jP (TType.enc v.type'):Nat):Int))) (by omega) (by omega)]
 simp only [Out.bindR_ret,List.getD_cons_zero,List.getD_cons_succ,DC.bb_b,DC.ii_i,DC.ss_s,DC.ll_sl]
 by_cases c3:(((left - ((v.name.length:Nat):Int)) - ((v.desc.length:Nat):Int)) - ((jP (TType.enc v.type'):Nat):Int)) < ((jP (TValue.enc v.default'):Nat):Int)
 ·rw [jI c3]
  simp only [show (-1:Int) < 0 by omega,decide_true,if_true]
  try rw [jI (by omega)]
 rw [kj c3]
 have c3':¬ (((left - ((v.name.length:Nat):Int)) - ((v.desc.length:Nat):Int)) - ((jP (TType.enc v.type'):Nat):Int)) - ((jP (TValue.enc v.default'):Nat):Int) < 0:=by omega
 simp only [c3',decide_false,Bool.false_eq_true,if_false]
 rw [j0k v.dirs ok.2.2.2.2.2.2.2.2.2.1 (((((left - ((v.name.length:Nat):Int)) - ((v.desc.length:Nat):Int)) - ((jP (TType.enc v.type'):Nat):Int)) - ((jP (TValue.enc v.default'):Nat):Int))) (by omega) (by omega)]
 simp only [Out.bindR_ret,List.getD_cons_zero,List.getD_cons_succ,DC.bb_b,DC.ii_i,DC.ss_s,DC.ll_sl]
 by_cases c4:((((left - ((v.name.length:Nat):Int)) - ((v.desc.length:Nat):Int)) - ((jP (TType.enc v.type'):Nat):Int)) - ((jP (TValue.enc v.default'):Nat):Int)) < ((DC.wt (.sl (v.dirs.map TDir.enc)):Nat):Int)
 ·rw [jI c4]
  simp only [show (-1:Int) < 0 by omega,decide_true,if_true]
  try rw [jI (by omega)]
 rw [kj c4]
 have c4':¬ ((((left - ((v.name.length:Nat):Int)) - ((v.desc.length:Nat):Int)) - ((jP (TType.enc v.type'):Nat):Int)) - ((jP (TValue.enc v.default'):Nat):Int)) - ((DC.wt (.sl (v.dirs.map TDir.enc)):Nat):Int) < 0:=by omega
 simp only [c4',decide_false,Bool.false_eq_true,if_false]
 first
 | done
 | rw [show KN left (v.name.length + v.desc.length + jP (TType.enc v.type') + jP (TValue.enc v.default') + DC.wt (.sl (v.dirs.map TDir.enc)))=(((((left - ((v.name.length:Nat):Int)) - ((v.desc.length:Nat):Int)) - ((jP (TType.enc v.type'):Nat):Int)) - ((jP (TValue.enc v.default'):Nat):Int)) - ((DC.wt (.sl (v.dirs.map TDir.enc)):Nat):Int)) from (kj (by omega)).trans (by omega)]
theorem j4U (vs:List TInDef) (hs:∀ v ∈ vs,okL (TInDef.enc v) → ∀ left:Int,0 ≤ left → left ≤ 1048576 → zI [.s v.name,.s v.desc,.s v.type'.name,.s v.type'.wraps,.b v.has',.i v.default'.kind,.s v.default'.text,.sl (v.default'.items.map TValue.enc),.sl (v.default'.names.map S1),.sl (v.dirs.map TDir.enc),.i left] = .ret [.i (KN left (jP (TInDef.enc v)))]) (ok:(DC.sl (vs.map TInDef.enc)).ok) (left:Int) (h0:0 ≤ left) (h1:left ≤ 1048576):qI [.sl (vs.map TInDef.enc),.i left] = .ret [.i (KN left (DC.wt (.sl (vs.map TInDef.enc))))]:=by
 rw [DC.ok,List.length_map] at ok
 obtain ⟨hl,ok⟩:=ok
 rw [Zv]
 simp only [Vg,List.getD_cons_zero,List.getD_cons_succ,DC.bb_b,DC.ii_i,DC.ss_s,DC.ll_sl]
 refine K5 hl (fun i hi left h0 h1=>?_) (fun left=>?_) h0 h1
 ·have key:=hs vs[i] (jc hi) (Ju ok _ (je (jc hi))) left h0 h1
  generalize jP (TInDef.enc vs[i])=w at key ⊢
  have hc1:(i:Int) < (vs.length:Int):=by omega
  simp only [zY,List.getD_cons_zero,List.getD_cons_succ,DC.bb_b,DC.ii_i,DC.ss_s,DC.ll_sl,jb,List.length_map,js hi,TInDef.enc_eq,key,Out.bindR_ret]
  by_cases hc:left < (w:Int)
  ·simp [hi,hc1,hc,jI hc]
  ·simp [hi,hc1,hc,kj hc,show ¬ left - (w:Int) < 0 by omega,jr hi hl]
 ·simp [zY]
theorem j27 (vs:List TInDef) (ok:(DC.sl (vs.map TInDef.enc)).ok) (left:Int) (h0:0 ≤ left) (h1:left ≤ 1048576):qI [.sl (vs.map TInDef.enc),.i left] = .ret [.i (KN left (DC.wt (.sl (vs.map TInDef.enc))))]:=j4U vs (fun v _=>j78 v) ok left h0 h1
theorem j70 (v:TInDef):jP (TInDef.enc v) ≤ 1048576 → zG [.s v.name,.s v.desc,.s v.type'.name,.s v.type'.wraps,.b v.has',.i v.default'.kind,.s v.default'.text,.sl (v.default'.items.map TValue.enc),.sl (v.default'.names.map S1),.sl (v.dirs.map TDir.enc)] = .ret (TInDef.enc v):=by
 intro hw
 rw [zg] at hw
 rw [j09]
 simp only [X3,List.getD_cons_zero,List.getD_cons_succ,DC.bb_b,DC.ii_i,DC.ss_s,DC.ll_sl]
 rw [j5I v.type' (by omega)]
 simp only [Out.bindR_ret,TType.enc_eq,List.getD_cons_zero,List.getD_cons_succ,DC.bb_b,DC.ii_i,DC.ss_s,DC.ll_sl]
 rw [j3N v.default' (by omega)]
 simp only [Out.bindR_ret,TValue.enc_eq,List.getD_cons_zero,List.getD_cons_succ,DC.bb_b,DC.ii_i,DC.ss_s,DC.ll_sl]
 rw [j0j v.dirs (by omega)]
 simp only [Out.bindR_ret,List.getD_cons_zero,List.getD_cons_succ,DC.bb_b,DC.ii_i,DC.ss_s,DC.ll_sl]
 rw [TInDef.enc_eq]
theorem j4Q (vs:List TInDef) (hs:∀ v ∈ vs,jP (TInDef.enc v) ≤ 1048576 → zG [.s v.name,.s v.desc,.s v.type'.name,.s v.type'.wraps,.b v.has',.i v.default'.kind,.s v.default'.text,.sl (v.default'.items.map TValue.enc),.sl (v.default'.names.map S1),.sl (v.dirs.map TDir.enc)] = .ret (TInDef.enc v)) (hw:DC.wt (.sl (vs.map TInDef.enc)) ≤ 1048576):qH [.sl (vs.map TInDef.enc)] = .ret [.sl (vs.map TInDef.enc)]:=by
 rw [DC.wt,List.length_map] at hw
 have hl:vs.length ≤ 1048576:=by omega
 rw [Zt]
 simp only [Ve,List.getD_cons_zero,List.getD_cons_succ,DC.bb_b,DC.ii_i,DC.ss_s,DC.ll_sl]
 rw [if_pos ⟨by omega,by rw [List.length_map]; exact QY hl,trivial,by omega,by omega,rfl⟩,jb,List.length_map,show (0:Int)=((0:Nat):Int) from rfl,zC hl (fun i hi cur h1 h2=>?_) (fun cur=>?_)]
 ·rfl
 ·have key:=hs vs[i] (jc hi) (by have:=jU (je (f:=TInDef.enc) (jc hi)); omega)
  have hc1:(i:Int) < (vs.length:Int):=by omega
  simp only [zW,List.getD_cons_zero,List.getD_cons_succ,DC.bb_b,DC.ii_i,DC.ss_s,DC.ll_sl,jb,List.length_map,js hi,h1,h2,TInDef.enc_eq] at key ⊢
  simp only [key,List.getD_cons_zero,List.getD_cons_succ,DC.bb_b,DC.ii_i,DC.ss_s,DC.ll_sl,Out.bindR_ret]
  simp [hi,hc1,jr hi (show vs.length ≤ 9223372036854775807 by omega),kF]
 ·simp [zW]
theorem j23 (vs:List TInDef) (hw:DC.wt (.sl (vs.map TInDef.enc)) ≤ 1048576):qH [.sl (vs.map TInDef.enc)] = .ret [.sl (vs.map TInDef.enc)]:=j4Q vs (fun v _=>j70 v) hw
theorem j8p (v:TInDef):jP (TInDef.enc v) ≤ 1048576 → zJ [.s v.name,.s v.desc,.s v.type'.name,.s v.type'.wraps,.b v.has',.i v.default'.kind,.s v.default'.text,.sl (v.default'.items.map TValue.enc),.sl (v.default'.names.map S1),.sl (v.dirs.map TDir.enc),.s v.name,.s v.desc,.s v.type'.name,.s v.type'.wraps,.b v.has',.i v.default'.kind,.s v.default'.text,.sl (v.default'.items.map TValue.enc),.sl (v.default'.names.map S1),.sl (v.dirs.map TDir.enc)] = .ret [.b true]:=by
 intro hw
 rw [zg] at hw
 rw [j0f]
 simp only [X9,List.getD_cons_zero,List.getD_cons_succ,DC.bb_b,DC.ii_i,DC.ss_s,DC.ll_sl,bne_self_eq_false,beq_self_eq_true,jx,Bool.false_eq_true,if_false]
 rw [j65 v.type' (by omega)]
 simp only [Out.bindR_ret,List.getD_cons_zero,List.getD_cons_succ,DC.bb_b,DC.ii_i,DC.ss_s,DC.ll_sl,bne_self_eq_false,beq_self_eq_true,jx,Bool.false_eq_true,if_false]
 rw [j4t v.default' (by omega)]
 simp only [Out.bindR_ret,List.getD_cons_zero,List.getD_cons_succ,DC.bb_b,DC.ii_i,DC.ss_s,DC.ll_sl,bne_self_eq_false,beq_self_eq_true,jx,Bool.false_eq_true,if_false]
 rw [j0s v.dirs (by omega)]
 simp only [Out.bindR_ret,List.getD_cons_zero,List.getD_cons_succ,DC.bb_b,DC.ii_i,DC.ss_s,DC.ll_sl,bne_self_eq_false,beq_self_eq_true,jx,Bool.false_eq_true,if_false]
theorem j5A (vs:List TInDef) (hs:∀ v ∈ vs,jP (TInDef.enc v) ≤ 1048576 → zJ [.s v.name,.s v.desc,.s v.type'.name,.s v.type'.wraps,.b v.has',.i v.default'.kind,.s v.default'.text,.sl (v.default'.items.map TValue.enc),.sl (v.default'.names.map S1),.sl (v.dirs.map TDir.enc),.s v.name,.s v.desc,.s v.type'.name,.s v.type'.wraps,.b v.has',.i v.default'.kind,.s v.default'.text,.sl (v.default'.items.map TValue.enc),.sl (v.default'.names.map S1),.sl (v.dirs.map TDir.enc)] = .ret [.b true]) (hw:DC.wt (.sl (vs.map TInDef.enc)) ≤ 1048576):qL [.sl (vs.map TInDef.enc),.sl (vs.map TInDef.enc)] = .ret [.b true]:=by
 rw [DC.wt,List.length_map] at hw
 have hl:vs.length ≤ 1048576:=by omega
 rw [ZB]
 simp only [Vm,List.getD_cons_zero,List.getD_cons_succ,DC.bb_b,DC.ii_i,DC.ss_s,DC.ll_sl]
 refine Kg (fun i hi=>?_) ?_
 ·rw [List.length_map] at hi
  have key:=hs vs[i] (jc hi) (by have:=jU (je (f:=TInDef.enc) (jc hi)); omega)
  have hc1:(i:Int) < (vs.length:Int):=by omega
  simp only [J0,List.getD_cons_zero,List.getD_cons_succ,DC.bb_b,DC.ii_i,DC.ss_s,DC.ll_sl,jb,List.length_map,js hi,TInDef.enc_eq] at key ⊢
  simp only [key,List.getD_cons_zero,List.getD_cons_succ,DC.bb_b,DC.ii_i,DC.ss_s,DC.ll_sl,Out.bindR_ret]
  simp [hi,hc1,jr hi (show vs.length ≤ 9223372036854775807 by omega)]
 ·simp [J0]
theorem j2D (vs:List TInDef) (hw:DC.wt (.sl (vs.map TInDef.enc)) ≤ 1048576):qL [.sl (vs.map TInDef.enc),.sl (vs.map TInDef.enc)] = .ret [.b true]:=j5A vs (fun v _=>j8p v) hw
theorem pO (v:TFieldDef):jP (TFieldDef.enc v)=v.name.length + v.desc.length + DC.wt (.sl (v.args.map TInDef.enc)) + jP (TType.enc v.type') + DC.wt (.sl (v.dirs.map TDir.enc)):=by
 simp only [TFieldDef.enc_eq,jP,DC.wt,TType.enc_eq]
 try omega
theorem j3V (v:TFieldDef):okL (TFieldDef.enc v) → ∀ left:Int,0 ≤ left → left ≤ 1048576 → qX [.s v.name,.s v.desc,.sl (v.args.map TInDef.enc),.s v.type'.name,.s v.type'.wraps,.sl (v.dirs.map TDir.enc),.i left] = .ret [.i (KN left (jP (TFieldDef.enc v)))]:=by
 intro ok left h0 h1
 rw [TFieldDef.enc_eq] at ok
 simp only [okL] at ok
 rw [Ya]
 simp only [Q2,List.getD_cons_zero,List.getD_cons_succ,DC.bb_b,DC.ii_i,DC.ss_s,DC.ll_sl]
 rw [pO]
 have b0:v.name.length ≤ 9223372036854775807:=by simpa only [DC.ok] using ok.1
 have b1:v.desc.length ≤ 9223372036854775807:=by simpa only [DC.ok] using ok.2.1
 rw [show IntKind.i64.wrap (left - (v.name.length:Int))=left - (v.name.length:Int) from jM (by omega) (by omega)]
 by_cases c0:left < ((v.name.length:Nat):Int)
 ·have c0':left - ((v.name.length:Nat):Int) < 0:=by omega
  simp only [c0',decide_true,if_true]
  try rw [jI (by omega)]
 have c0':¬ left - ((v.name.length:Nat):Int) < 0:=by omega
 simp only [c0',decide_false,Bool.false_eq_true,if_false]
 rw [show IntKind.i64.wrap ((left - ((v.name.length:Nat):Int)) - (v.desc.length:Int))=(left - ((v.name.length:Nat):Int)) - (v.desc.length:Int) from jM (by omega) (by omega)]
 by_cases c1:(left - ((v.name.length:Nat):Int)) < ((v.desc.length:Nat):Int)
 ·have c1':(left - ((v.name.length:Nat):Int)) - ((v.desc.length:Nat):Int) < 0:=by omega
  simp only [c1',decide_true,if_true]
  try rw [jI (by omega)]
 have c1':¬ (left - ((v.name.length:Nat):Int)) - ((v.desc.length:Nat):Int) < 0:=by omega
 simp only [c1',decide_false,Bool.false_eq_true,if_false]
 rw [j27 v.args ok.2.2.1 (((left - ((v.name.length:Nat):Int)) - ((v.desc.length:Nat):Int))) (by omega) (by omega)]
 simp only [Out.bindR_ret,List.getD_cons_zero,List.getD_cons_succ,DC.bb_b,DC.ii_i,DC.ss_s,DC.ll_sl]
 by_cases c2:((left - ((v.name.length:Nat):Int)) - ((v.desc.length:Nat):Int)) < ((DC.wt (.sl (v.args.map TInDef.enc)):Nat):Int)
 ·rw [jI c2]
  simp only [show (-1:Int) < 0 by omega,decide_true,if_true]
  try rw [jI (by omega)]
 rw [kj c2]
 have c2':¬ ((left - ((v.name.length:Nat):Int)) - ((v.desc.length:Nat):Int)) - ((DC.wt (.sl (v.args.map TInDef.enc)):Nat):Int) < 0:=by omega
 simp only [c2',decide_false,Bool.false_eq_true,if_false]
 rw [j5J v.type' (by rw [TType.enc_eq]; simp only [okL]; exact ⟨ok.2.2.2.1,ok.2.2.2.2.1,trivial⟩) ((((left - ((v.name.length:Nat):Int)) - ((v.desc.length:Nat):Int)) - ((DC.wt (.sl (v.args.map TInDef.enc)):Nat):Int))) (by omega) (by omega)]
 simp only [Out.bindR_ret,List.getD_cons_zero,List.getD_cons_succ,DC.bb_b,DC.ii_i,DC.ss_s,DC.ll_sl]
 by_cases c3:(((left - ((v.name.length:Nat):Int)) - ((v.desc.length:Nat):Int)) - ((DC.wt (.sl (v.args.map TInDef.enc)):Nat):Int)) < ((jP (TType.enc v.type'):Nat):Int)
 ·rw [jI c3]
  simp only [show (-1:Int) < 0 by omega,decide_true,if_true]
  try rw [jI (by omega)]
 rw [kj c3]
 have c3':¬ (((left - ((v.name.length:Nat):Int)) - ((v.desc.length:Nat):Int)) - ((DC.wt (.sl (v.args.map TInDef.enc)):Nat):Int)) - ((jP (TType.enc v.type'):Nat):Int) < 0:=by omega
 simp only [c3',decide_false,Bool.false_eq_true,if_false]
 rw [j0k v.dirs ok.2.2.2.2.2.1 (((((left - ((v.name.length:Nat):Int)) - ((v.desc.length:Nat):Int)) - ((DC.wt (.sl (v.args.map TInDef.enc)):Nat):Int)) - ((jP (TType.enc v.type'):Nat):Int))) (by omega) (by omega)]
 simp only [Out.bindR_ret,List.getD_cons_zero,List.getD_cons_succ,DC.bb_b,DC.ii_i,DC.ss_s,DC.ll_sl]
 by_cases c4:((((left - ((v.name.length:Nat):Int)) - ((v.desc.length:Nat):Int)) - ((DC.wt (.sl (v.args.map TInDef.enc)):Nat):Int)) - ((jP (TType.enc v.type'):Nat):Int)) < ((DC.wt (.sl (v.dirs.map TDir.enc)):Nat):Int)
 ·rw [jI c4]
  simp only [show (-1:Int) < 0 by omega,decide_true,if_true]
  try rw [jI (by omega)]
 rw [kj c4]
 have c4':¬ ((((left - ((v.name.length:Nat):Int)) - ((v.desc.length:Nat):Int)) - ((DC.wt (.sl (v.args.map TInDef.enc)):Nat):Int)) - ((jP (TType.enc v.type'):Nat):Int)) - ((DC.wt (.sl (v.dirs.map TDir.enc)):Nat):Int) < 0:=by omega
 simp only [c4',decide_false,Bool.false_eq_true,if_false]
 first
 | done
 | rw [show KN left (v.name.length + v.desc.length + DC.wt (.sl (v.args.map TInDef.enc)) + jP (TType.enc v.type') + DC.wt (.sl (v.dirs.map TDir.enc)))=(((((left - ((v.name.length:Nat):Int)) - ((v.desc.length:Nat):Int)) - ((DC.wt (.sl (v.args.map TInDef.enc)):Nat):Int)) - ((jP (TType.enc v.type'):Nat):Int)) - ((DC.wt (.sl (v.dirs.map TDir.enc)):Nat):Int)) from (kj (by omega)).trans (by omega)]
theorem j1A (vs:List TFieldDef) (hs:∀ v ∈ vs,okL (TFieldDef.enc v) → ∀ left:Int,0 ≤ left → left ≤ 1048576 → qX [.s v.name,.s v.desc,.sl (v.args.map TInDef.enc),.s v.type'.name,.s v.type'.wraps,.sl (v.dirs.map TDir.enc),.i left] = .ret [.i (KN left (jP (TFieldDef.enc v)))]) (ok:(DC.sl (vs.map TFieldDef.enc)).ok) (left:Int) (h0:0 ≤ left) (h1:left ≤ 1048576):qu [.sl (vs.map TFieldDef.enc),.i left] = .ret [.i (KN left (DC.wt (.sl (vs.map TFieldDef.enc))))]:=by
 rw [DC.ok,List.length_map] at ok
 obtain ⟨hl,ok⟩:=ok
 rw [Xp]
 simp only [KI,List.getD_cons_zero,List.getD_cons_succ,DC.bb_b,DC.ii_i,DC.ss_s,DC.ll_sl]
 refine K5 hl (fun i hi left h0 h1=>?_) (fun left=>?_) h0 h1
 ·have key:=hs vs[i] (jc hi) (Ju ok _ (je (jc hi))) left h0 h1
  generalize jP (TFieldDef.enc vs[i])=w at key ⊢
  have hc1:(i:Int) < (vs.length:Int):=by omega
  simp only [yy,List.getD_cons_zero,List.getD_cons_succ,DC.bb_b,DC.ii_i,DC.ss_s,DC.ll_sl,jb,List.length_map,js hi,TFieldDef.enc_eq,key,Out.bindR_ret]
  by_cases hc:left < (w:Int)
  ·simp [hi,hc1,hc,jI hc]
  ·simp [hi,hc1,hc,kj hc,show ¬ left - (w:Int) < 0 by omega,jr hi hl]
 ·simp [yy]
theorem j30 (vs:List TFieldDef) (ok:(DC.sl (vs.map TFieldDef.enc)).ok) (left:Int) (h0:0 ≤ left) (h1:left ≤ 1048576):qu [.sl (vs.map TFieldDef.enc),.i left] = .ret [.i (KN left (DC.wt (.sl (vs.map TFieldDef.enc))))]:=j1A vs (fun v _=>j3V v) ok left h0 h1
theorem j3O (v:TFieldDef):jP (TFieldDef.enc v) ≤ 1048576 → qV [.s v.name,.s v.desc,.sl (v.args.map TInDef.enc),.s v.type'.name,.s v.type'.wraps,.sl (v.dirs.map TDir.enc)] = .ret (TFieldDef.enc v):=by
 intro hw
 rw [pO] at hw
 rw [Y8]
 simp only [Q0,List.getD_cons_zero,List.getD_cons_succ,DC.bb_b,DC.ii_i,DC.ss_s,DC.ll_sl]
 rw [j23 v.args (by omega)]
 simp only [Out.bindR_ret,List.getD_cons_zero,List.getD_cons_succ,DC.bb_b,DC.ii_i,DC.ss_s,DC.ll_sl]
 rw [j5I v.type' (by omega)]
 simp only [Out.bindR_ret,TType.enc_eq,List.getD_cons_zero,List.getD_cons_succ,DC.bb_b,DC.ii_i,DC.ss_s,DC.ll_sl]
 rw [j0j v.dirs (by omega)]
 simp only [Out.bindR_ret,List.getD_cons_zero,List.getD_cons_succ,DC.bb_b,DC.ii_i,DC.ss_s,DC.ll_sl]
 rw [TFieldDef.enc_eq]
theorem j1z (vs:List TFieldDef) (hs:∀ v ∈ vs,jP (TFieldDef.enc v) ≤ 1048576 → qV [.s v.name,.s v.desc,.sl (v.args.map TInDef.enc),.s v.type'.name,.s v.type'.wraps,.sl (v.dirs.map TDir.enc)] = .ret (TFieldDef.enc v)) (hw:DC.wt (.sl (vs.map TFieldDef.enc)) ≤ 1048576):qt [.sl (vs.map TFieldDef.enc)] = .ret [.sl (vs.map TFieldDef.enc)]:=by
 rw [DC.wt,List.length_map] at hw
 have hl:vs.length ≤ 1048576:=by omega
 rw [Xo]
 simp only [KH,List.getD_cons_zero,List.getD_cons_succ,DC.bb_b,DC.ii_i,DC.ss_s,DC.ll_sl]
 rw [if_pos ⟨by omega,by rw [List.length_map]; exact QY hl,trivial,by omega,by omega,rfl⟩,jb,List.length_map,show (0:Int)=((0:Nat):Int) from rfl,zC hl (fun i hi cur h1 h2=>?_) (fun cur=>?_)]
 ·rfl
 ·have key:=hs vs[i] (jc hi) (by have:=jU (je (f:=TFieldDef.enc) (jc hi)); omega)
  have hc1:(i:Int) < (vs.length:Int):=by omega
  simp only [yx,List.getD_cons_zero,List.getD_cons_succ,DC.bb_b,DC.ii_i,DC.ss_s,DC.ll_sl,jb,List.length_map,js hi,h1,h2,TFieldDef.enc_eq] at key ⊢
  simp only [key,List.getD_cons_zero,List.getD_cons_succ,DC.bb_b,DC.ii_i,DC.ss_s,DC.ll_sl,Out.bindR_ret]
  simp [hi,hc1,jr hi (show vs.length ≤ 9223372036854775807 by omega),kF]
 ·simp [yx]
theorem j2X (vs:List TFieldDef) (hw:DC.wt (.sl (vs.map TFieldDef.enc)) ≤ 1048576):qt [.sl (vs.map TFieldDef.enc)] = .ret [.sl (vs.map TFieldDef.enc)]:=j1z vs (fun v _=>j3O v) hw
theorem j4u (v:TFieldDef):jP (TFieldDef.enc v) ≤ 1048576 → qZ [.s v.name,.s v.desc,.sl (v.args.map TInDef.enc),.s v.type'.name,.s v.type'.wraps,.sl (v.dirs.map TDir.enc),.s v.name,.s v.desc,.sl (v.args.map TInDef.enc),.s v.type'.name,.s v.type'.wraps,.sl (v.dirs.map TDir.enc)] = .ret [.b true]:=by
 intro hw
 rw [pO] at hw
 rw [Yf]
 simp only [Q7,List.getD_cons_zero,List.getD_cons_succ,DC.bb_b,DC.ii_i,DC.ss_s,DC.ll_sl,bne_self_eq_false,beq_self_eq_true,jx,Bool.false_eq_true,if_false]
 rw [j2D v.args (by omega)]
 simp only [Out.bindR_ret,List.getD_cons_zero,List.getD_cons_succ,DC.bb_b,DC.ii_i,DC.ss_s,DC.ll_sl,bne_self_eq_false,beq_self_eq_true,jx,Bool.false_eq_true,if_false]
 rw [j65 v.type' (by omega)]
 simp only [Out.bindR_ret,List.getD_cons_zero,List.getD_cons_succ,DC.bb_b,DC.ii_i,DC.ss_s,DC.ll_sl,bne_self_eq_false,beq_self_eq_true,jx,Bool.false_eq_true,if_false]
 rw [j0s v.dirs (by omega)]
 simp only [Out.bindR_ret,List.getD_cons_zero,List.getD_cons_succ,DC.bb_b,DC.ii_i,DC.ss_s,DC.ll_sl,bne_self_eq_false,beq_self_eq_true,jx,Bool.false_eq_true,if_false]
theorem j1X (vs:List TFieldDef) (hs:∀ v ∈ vs,jP (TFieldDef.enc v) ≤ 1048576 → qZ [.s v.name,.s v.desc,.sl (v.args.map TInDef.enc),.s v.type'.name,.s v.type'.wraps,.sl (v.dirs.map TDir.enc),.s v.name,.s v.desc,.sl (v.args.map TInDef.enc),.s v.type'.name,.s v.type'.wraps,.sl (v.dirs.map TDir.enc)] = .ret [.b true]) (hw:DC.wt (.sl (vs.map TFieldDef.enc)) ≤ 1048576):qv [.sl (vs.map TFieldDef.enc),.sl (vs.map TFieldDef.enc)] = .ret [.b true]:=by
 rw [DC.wt,List.length_map] at hw
 have hl:vs.length ≤ 1048576:=by omega
 rw [Xr]
 simp only [KK,List.getD_cons_zero,List.getD_cons_succ,DC.bb_b,DC.ii_i,DC.ss_s,DC.ll_sl]
 refine Kg (fun i hi=>?_) ?_
 ·rw [List.length_map] at hi
  have key:=hs vs[i] (jc hi) (by have:=jU (je (f:=TFieldDef.enc) (jc hi)); omega)
  have hc1:(i:Int) < (vs.length:Int):=by omega
  simp only [yz,List.getD_cons_zero,List.getD_cons_succ,DC.bb_b,DC.ii_i,DC.ss_s,DC.ll_sl,jb,List.length_map,js hi,TFieldDef.enc_eq] at key ⊢
  simp only [key,List.getD_cons_zero,List.getD_cons_succ,DC.bb_b,DC.ii_i,DC.ss_s,DC.ll_sl,Out.bindR_ret]
  simp [hi,hc1,jr hi (show vs.length ≤ 9223372036854775807 by omega)]
 ·simp [yz]
theorem j3t (vs:List TFieldDef) (hw:DC.wt (.sl (vs.map TFieldDef.enc)) ≤ 1048576):qv [.sl (vs.map TFieldDef.enc),.sl (vs.map TFieldDef.enc)] = .ret [.b true]:=j1X vs (fun v _=>j4u v) hw
theorem qp (v:TEnumDef):jP (TEnumDef.enc v)=v.name.length + v.desc.length + DC.wt (.sl (v.dirs.map TDir.enc)):=by
 simp only [TEnumDef.enc_eq,jP,DC.wt]
 try omega
theorem j4S (v:TEnumDef):okL (TEnumDef.enc v) → ∀ left:Int,0 ≤ left → left ≤ 1048576 → yE [.s v.name,.s v.desc,.sl (v.dirs.map TDir.enc),.i left] = .ret [.i (KN left (jP (TEnumDef.enc v)))]:=by
 intro ok left h0 h1
 rw [TEnumDef.enc_eq] at ok
 simp only [okL] at ok
 rw [YK]
 simp only [QE,List.getD_cons_zero,List.getD_cons_succ,DC.bb_b,DC.ii_i,DC.ss_s,DC.ll_sl]
 rw [qp]
 have b0:v.name.length ≤ 9223372036854775807:=by simpa only [DC.ok] using ok.1
 have b1:v.desc.length ≤ 9223372036854775807:=by simpa only [DC.ok] using ok.2.1
 rw [show IntKind.i64.wrap (left - (v.name.length:Int))=left - (v.name.length:Int) from jM (by omega) (by omega)]
 by_cases c0:left < ((v.name.length:Nat):Int)
 ·have c0':left - ((v.name.length:Nat):Int) < 0:=by omega
  simp only [c0',decide_true,if_true]
  try rw [jI (by omega)]
 have c0':¬ left - ((v.name.length:Nat):Int) < 0:=by omega
 simp only [c0',decide_false,Bool.false_eq_true,if_false]
 rw [show IntKind.i64.wrap ((left - ((v.name.length:Nat):Int)) - (v.desc.length:Int))=(left - ((v.name.length:Nat):Int)) - (v.desc.length:Int) from jM (by omega) (by omega)]
 by_cases c1:(left - ((v.name.length:Nat):Int)) < ((v.desc.length:Nat):Int)
 ·have c1':(left - ((v.name.length:Nat):Int)) - ((v.desc.length:Nat):Int) < 0:=by omega
  simp only [c1',decide_true,if_true]
  try rw [jI (by omega)]
 have c1':¬ (left - ((v.name.length:Nat):Int)) - ((v.desc.length:Nat):Int) < 0:=by omega
 simp only [c1',decide_false,Bool.false_eq_true,if_false]
 rw [j0k v.dirs ok.2.2.1 (((left - ((v.name.length:Nat):Int)) - ((v.desc.length:Nat):Int))) (by omega) (by omega)]
 simp only [Out.bindR_ret,List.getD_cons_zero,List.getD_cons_succ,DC.bb_b,DC.ii_i,DC.ss_s,DC.ll_sl]
 by_cases c2:((left - ((v.name.length:Nat):Int)) - ((v.desc.length:Nat):Int)) < ((DC.wt (.sl (v.dirs.map TDir.enc)):Nat):Int)
 ·rw [jI c2]
  simp only [show (-1:Int) < 0 by omega,decide_true,if_true]
  try rw [jI (by omega)]
 rw [kj c2]
 have c2':¬ ((left - ((v.name.length:Nat):Int)) - ((v.desc.length:Nat):Int)) - ((DC.wt (.sl (v.dirs.map TDir.enc)):Nat):Int) < 0:=by omega
 simp only [c2',decide_false,Bool.false_eq_true,if_false]
 first
 | done
 | rw [show KN left (v.name.length + v.desc.length + DC.wt (.sl (v.dirs.map TDir.enc)))=(((left - ((v.name.length:Nat):Int)) - ((v.desc.length:Nat):Int)) - ((DC.wt (.sl (v.dirs.map TDir.enc)):Nat):Int)) from (kj (by omega)).trans (by omega)]
theorem j31 (vs:List TEnumDef) (hs:∀ v ∈ vs,okL (TEnumDef.enc v) → ∀ left:Int,0 ≤ left → left ≤ 1048576 → yE [.s v.name,.s v.desc,.sl (v.dirs.map TDir.enc),.i left] = .ret [.i (KN left (jP (TEnumDef.enc v)))]) (ok:(DC.sl (vs.map TEnumDef.enc)).ok) (left:Int) (h0:0 ≤ left) (h1:left ≤ 1048576):qY [.sl (vs.map TEnumDef.enc),.i left] = .ret [.i (KN left (DC.wt (.sl (vs.map TEnumDef.enc))))]:=by
 rw [DC.ok,List.length_map] at ok
 obtain ⟨hl,ok⟩:=ok
 rw [Yb]
 simp only [Q3,List.getD_cons_zero,List.getD_cons_succ,DC.bb_b,DC.ii_i,DC.ss_s,DC.ll_sl]
 refine K5 hl (fun i hi left h0 h1=>?_) (fun left=>?_) h0 h1
 ·have key:=hs vs[i] (jc hi) (Ju ok _ (je (jc hi))) left h0 h1
  generalize jP (TEnumDef.enc vs[i])=w at key ⊢
  have hc1:(i:Int) < (vs.length:Int):=by omega
  simp only [yS,List.getD_cons_zero,List.getD_cons_succ,DC.bb_b,DC.ii_i,DC.ss_s,DC.ll_sl,jb,List.length_map,js hi,TEnumDef.enc_eq,key,Out.bindR_ret]
  by_cases hc:left < (w:Int)
  ·simp [hi,hc1,hc,jI hc]
  ·simp [hi,hc1,hc,kj hc,show ¬ left - (w:Int) < 0 by omega,jr hi hl]
 ·simp [yS]
theorem j3X (vs:List TEnumDef) (ok:(DC.sl (vs.map TEnumDef.enc)).ok) (left:Int) (h0:0 ≤ left) (h1:left ≤ 1048576):qY [.sl (vs.map TEnumDef.enc),.i left] = .ret [.i (KN left (DC.wt (.sl (vs.map TEnumDef.enc))))]:=j31 vs (fun v _=>j4S v) ok left h0 h1
theorem j4O (v:TEnumDef):jP (TEnumDef.enc v) ≤ 1048576 → yC [.s v.name,.s v.desc,.sl (v.dirs.map TDir.enc)] = .ret (TEnumDef.enc v):=by
 intro hw
 rw [qp] at hw
 rw [YI]
 simp only [QC,List.getD_cons_zero,List.getD_cons_succ,DC.bb_b,DC.ii_i,DC.ss_s,DC.ll_sl]
 rw [j0j v.dirs (by omega)]
 simp only [Out.bindR_ret,List.getD_cons_zero,List.getD_cons_succ,DC.bb_b,DC.ii_i,DC.ss_s,DC.ll_sl]
 rw [TEnumDef.enc_eq]
theorem j2Y (vs:List TEnumDef) (hs:∀ v ∈ vs,jP (TEnumDef.enc v) ≤ 1048576 → yC [.s v.name,.s v.desc,.sl (v.dirs.map TDir.enc)] = .ret (TEnumDef.enc v)) (hw:DC.wt (.sl (vs.map TEnumDef.enc)) ≤ 1048576):qW [.sl (vs.map TEnumDef.enc)] = .ret [.sl (vs.map TEnumDef.enc)]:=by
 rw [DC.wt,List.length_map] at hw
 have hl:vs.length ≤ 1048576:=by omega
 rw [Y9]
 simp only [Q1,List.getD_cons_zero,List.getD_cons_succ,DC.bb_b,DC.ii_i,DC.ss_s,DC.ll_sl]
 rw [if_pos ⟨by omega,by rw [List.length_map]; exact QY hl,trivial,by omega,by omega,rfl⟩,jb,List.length_map,show (0:Int)=((0:Nat):Int) from rfl,zC hl (fun i hi cur h1 h2=>?_) (fun cur=>?_)]
 ·rfl
 ·have key:=hs vs[i] (jc hi) (by have:=jU (je (f:=TEnumDef.enc) (jc hi)); omega)
  have hc1:(i:Int) < (vs.length:Int):=by omega
  simp only [yR,List.getD_cons_zero,List.getD_cons_succ,DC.bb_b,DC.ii_i,DC.ss_s,DC.ll_sl,jb,List.length_map,js hi,h1,h2,TEnumDef.enc_eq] at key ⊢
  simp only [key,List.getD_cons_zero,List.getD_cons_succ,DC.bb_b,DC.ii_i,DC.ss_s,DC.ll_sl,Out.bindR_ret]
  simp [hi,hc1,jr hi (show vs.length ≤ 9223372036854775807 by omega),kF]
 ·simp [yR]
theorem j3P (vs:List TEnumDef) (hw:DC.wt (.sl (vs.map TEnumDef.enc)) ≤ 1048576):qW [.sl (vs.map TEnumDef.enc)] = .ret [.sl (vs.map TEnumDef.enc)]:=j2Y vs (fun v _=>j4O v) hw
theorem j5y (v:TEnumDef):jP (TEnumDef.enc v) ≤ 1048576 → yG [.s v.name,.s v.desc,.sl (v.dirs.map TDir.enc),.s v.name,.s v.desc,.sl (v.dirs.map TDir.enc)] = .ret [.b true]:=by
 intro hw
 rw [qp] at hw
 rw [YN]
 simp only [QH,List.getD_cons_zero,List.getD_cons_succ,DC.bb_b,DC.ii_i,DC.ss_s,DC.ll_sl,bne_self_eq_false,beq_self_eq_true,jx,Bool.false_eq_true,if_false]
 rw [j0s v.dirs (by omega)]
 simp only [Out.bindR_ret,List.getD_cons_zero,List.getD_cons_succ,DC.bb_b,DC.ii_i,DC.ss_s,DC.ll_sl,bne_self_eq_false,beq_self_eq_true,jx,Bool.false_eq_true,if_false]
theorem j3u (vs:List TEnumDef) (hs:∀ v ∈ vs,jP (TEnumDef.enc v) ≤ 1048576 → yG [.s v.name,.s v.desc,.sl (v.dirs.map TDir.enc),.s v.name,.s v.desc,.sl (v.dirs.map TDir.enc)] = .ret [.b true]) (hw:DC.wt (.sl (vs.map TEnumDef.enc)) ≤ 1048576):ya [.sl (vs.map TEnumDef.enc),.sl (vs.map TEnumDef.enc)] = .ret [.b true]:=by
 rw [DC.wt,List.length_map] at hw
 have hl:vs.length ≤ 1048576:=by omega
 rw [Yg]
 simp only [Q8,List.getD_cons_zero,List.getD_cons_succ,DC.bb_b,DC.ii_i,DC.ss_s,DC.ll_sl]
 refine Kg (fun i hi=>?_) ?_
 ·rw [List.length_map] at hi
  have key:=hs vs[i] (jc hi) (by have:=jU (je (f:=TEnumDef.enc) (jc hi)); omega)
  have hc1:(i:Int) < (vs.length:Int):=by omega
  simp only [yT,List.getD_cons_zero,List.getD_cons_succ,DC.bb_b,DC.ii_i,DC.ss_s,DC.ll_sl,jb,List.length_map,js hi,TEnumDef.enc_eq] at key ⊢
  simp only [key,List.getD_cons_zero,List.getD_cons_succ,DC.bb_b,DC.ii_i,DC.ss_s,DC.ll_sl,Out.bindR_ret]
  simp [hi,hc1,jr hi (show vs.length ≤ 9223372036854775807 by omega)]
 ·simp [yT]
theorem j4w (vs:List TEnumDef) (hw:DC.wt (.sl (vs.map TEnumDef.enc)) ≤ 1048576):ya [.sl (vs.map TEnumDef.enc),.sl (vs.map TEnumDef.enc)] = .ret [.b true]:=j3u vs (fun v _=>j5y v) hw
theorem Qm (v:TRoot):jP (TRoot.enc v)=v.type'.length:=by
 simp only [TRoot.enc_eq,jP,DC.wt]
 try omega
theorem j8T (v:TRoot):okL (TRoot.enc v) → ∀ left:Int,0 ≤ left → left ≤ 1048576 → Jo [.i v.kind,.s v.type',.i left] = .ret [.i (KN left (jP (TRoot.enc v)))]:=by
 intro ok left h0 h1
 rw [TRoot.enc_eq] at ok
 simp only [okL] at ok
 rw [j1d]
 simp only [XG,List.getD_cons_zero,List.getD_cons_succ,DC.bb_b,DC.ii_i,DC.ss_s,DC.ll_sl]
 rw [Qm]
 have b0:v.type'.length ≤ 9223372036854775807:=by simpa only [DC.ok] using ok.2.1
 rw [show IntKind.i64.wrap (left - (v.type'.length:Int))=left - (v.type'.length:Int) from jM (by omega) (by omega)]
 by_cases c0:left < ((v.type'.length:Nat):Int)
 ·have c0':left - ((v.type'.length:Nat):Int) < 0:=by omega
  simp only [c0',decide_true,if_true]
  try rw [jI (by omega)]
 have c0':¬ left - ((v.type'.length:Nat):Int) < 0:=by omega
 simp only [c0',decide_false,Bool.false_eq_true,if_false]
 first
 | done
 | rw [show KN left (v.type'.length)=(left - ((v.type'.length:Nat):Int)) from (kj (by omega)).trans (by omega)]
theorem j6g (vs:List TRoot) (hs:∀ v ∈ vs,okL (TRoot.enc v) → ∀ left:Int,0 ≤ left → left ≤ 1048576 → Jo [.i v.kind,.s v.type',.i left] = .ret [.i (KN left (jP (TRoot.enc v)))]) (ok:(DC.sl (vs.map TRoot.enc)).ok) (left:Int) (h0:0 ≤ left) (h1:left ≤ 1048576):zH [.sl (vs.map TRoot.enc),.i left] = .ret [.i (KN left (DC.wt (.sl (vs.map TRoot.enc))))]:=by
 rw [DC.ok,List.length_map] at ok
 obtain ⟨hl,ok⟩:=ok
 rw [j0b]
 simp only [X5,List.getD_cons_zero,List.getD_cons_succ,DC.bb_b,DC.ii_i,DC.ss_s,DC.ll_sl]
 refine K5 hl (fun i hi left h0 h1=>?_) (fun left=>?_) h0 h1
 ·have key:=hs vs[i] (jc hi) (Ju ok _ (je (jc hi))) left h0 h1
  generalize jP (TRoot.enc vs[i])=w at key ⊢
  have hc1:(i:Int) < (vs.length:Int):=by omega
  simp only [Jf,List.getD_cons_zero,List.getD_cons_succ,DC.bb_b,DC.ii_i,DC.ss_s,DC.ll_sl,jb,List.length_map,js hi,TRoot.enc_eq,key,Out.bindR_ret]
  by_cases hc:left < (w:Int)
  ·simp [hi,hc1,hc,jI hc]
  ·simp [hi,hc1,hc,kj hc,show ¬ left - (w:Int) < 0 by omega,jr hi hl]
 ·simp [Jf]
theorem j79 (vs:List TRoot) (ok:(DC.sl (vs.map TRoot.enc)).ok) (left:Int) (h0:0 ≤ left) (h1:left ≤ 1048576):zH [.sl (vs.map TRoot.enc),.i left] = .ret [.i (KN left (DC.wt (.sl (vs.map TRoot.enc))))]:=j6g vs (fun v _=>j8T v) ok left h0 h1
theorem j8P (v:TRoot):jP (TRoot.enc v) ≤ 1048576 → Jl [.i v.kind,.s v.type'] = .ret (TRoot.enc v):=by
 intro hw
 rw [Qm] at hw
 rw [j18]
 simp only [XB,List.getD_cons_zero,List.getD_cons_succ,DC.bb_b,DC.ii_i,DC.ss_s,DC.ll_sl]
 rw [TRoot.enc_eq]
theorem j6e (vs:List TRoot) (hs:∀ v ∈ vs,jP (TRoot.enc v) ≤ 1048576 → Jl [.i v.kind,.s v.type'] = .ret (TRoot.enc v)) (hw:DC.wt (.sl (vs.map TRoot.enc)) ≤ 1048576):zF [.sl (vs.map TRoot.enc)] = .ret [.sl (vs.map TRoot.enc)]:=by
 rw [DC.wt,List.length_map] at hw
 have hl:vs.length ≤ 1048576:=by omega
 rw [j08]
 simp only [X2,List.getD_cons_zero,List.getD_cons_succ,DC.bb_b,DC.ii_i,DC.ss_s,DC.ll_sl]
 rw [if_pos ⟨by omega,by rw [List.length_map]; exact QY hl,trivial,by omega,by omega,rfl⟩,jb,List.length_map,show (0:Int)=((0:Nat):Int) from rfl,zC hl (fun i hi cur h1 h2=>?_) (fun cur=>?_)]
 ·rfl
 ·have key:=hs vs[i] (jc hi) (by have:=jU (je (f:=TRoot.enc) (jc hi)); omega)
  have hc1:(i:Int) < (vs.length:Int):=by omega
  simp only [Je,List.getD_cons_zero,List.getD_cons_succ,DC.bb_b,DC.ii_i,DC.ss_s,DC.ll_sl,jb,List.length_map,js hi,h1,h2,TRoot.enc_eq] at key ⊢
  simp only [key,List.getD_cons_zero,List.getD_cons_succ,DC.bb_b,DC.ii_i,DC.ss_s,DC.ll_sl,Out.bindR_ret]
  simp [hi,hc1,jr hi (show vs.length ≤ 9223372036854775807 by omega),kF]
 ·simp [Je]
theorem j71 (vs:List TRoot) (hw:DC.wt (.sl (vs.map TRoot.enc)) ≤ 1048576):zF [.sl (vs.map TRoot.enc)] = .ret [.sl (vs.map TRoot.enc)]:=j6e vs (fun v _=>j8P v) hw
theorem j9k (v:TRoot):jP (TRoot.enc v) ≤ 1048576 → Js [.i v.kind,.s v.type',.i v.kind,.s v.type'] = .ret [.b true]:=by
 intro hw
 rw [Qm] at hw
 rw [j1i]
 simp only [XL,List.getD_cons_zero,List.getD_cons_succ,DC.bb_b,DC.ii_i,DC.ss_s,DC.ll_sl,bne_self_eq_false,beq_self_eq_true,jx,Bool.false_eq_true,if_false]
theorem j6E (vs:List TRoot) (hs:∀ v ∈ vs,jP (TRoot.enc v) ≤ 1048576 → Js [.i v.kind,.s v.type',.i v.kind,.s v.type'] = .ret [.b true]) (hw:DC.wt (.sl (vs.map TRoot.enc)) ≤ 1048576):yp [.sl (vs.map TRoot.enc),.sl (vs.map TRoot.enc)] = .ret [.b true]:=by
 rw [DC.wt,List.length_map] at hw
 have hl:vs.length ≤ 1048576:=by omega
 rw [j0e]
 simp only [X8,List.getD_cons_zero,List.getD_cons_succ,DC.bb_b,DC.ii_i,DC.ss_s,DC.ll_sl]
 refine Kg (fun i hi=>?_) ?_
 ·rw [List.length_map] at hi
  have key:=hs vs[i] (jc hi) (by have:=jU (je (f:=TRoot.enc) (jc hi)); omega)
  have hc1:(i:Int) < (vs.length:Int):=by omega
  simp only [Jg,List.getD_cons_zero,List.getD_cons_succ,DC.bb_b,DC.ii_i,DC.ss_s,DC.ll_sl,jb,List.length_map,js hi,TRoot.enc_eq] at key ⊢
  simp only [key,List.getD_cons_zero,List.getD_cons_succ,DC.bb_b,DC.ii_i,DC.ss_s,DC.ll_sl,Out.bindR_ret]
  simp [hi,hc1,jr hi (show vs.length ≤ 9223372036854775807 by omega)]
 ·simp [Jg]
theorem j4v (vs:List TRoot) (hw:DC.wt (.sl (vs.map TRoot.enc)) ≤ 1048576):yp [.sl (vs.map TRoot.enc),.sl (vs.map TRoot.enc)] = .ret [.b true]:=j6E vs (fun v _=>j9k v) hw
theorem zB (v:TDef):jP (TDef.enc v)=v.desc.length + v.name.length + DC.wt (.sl (v.faces.map S1)) + DC.wt (.sl (v.fields.map TFieldDef.enc)) + DC.wt (.sl (v.inputs.map TInDef.enc)) + DC.wt (.sl (v.values.map TEnumDef.enc)) + DC.wt (.sl (v.roots.map TRoot.enc)) + DC.wt (.sl (v.dirs.map TDir.enc)):=by
 simp only [TDef.enc_eq,jP,DC.wt]
 try omega
theorem j9T (v:TDef):okL (TDef.enc v) → ∀ left:Int,0 ≤ left → left ≤ 1048576 → Ka [.i v.kind,.b v.ext,.s v.desc,.s v.name,.sl (v.faces.map S1),.sl (v.fields.map TFieldDef.enc),.sl (v.inputs.map TInDef.enc),.sl (v.values.map TEnumDef.enc),.sl (v.roots.map TRoot.enc),.b v.repeat',.sl (v.dirs.map TDir.enc),.i left] = .ret [.i (KN left (jP (TDef.enc v)))]:=by
 intro ok left h0 h1
 rw [TDef.enc_eq] at ok
 simp only [okL] at ok
 rw [j1R]
 simp only [Z2,List.getD_cons_zero,List.getD_cons_succ,DC.bb_b,DC.ii_i,DC.ss_s,DC.ll_sl]
 rw [zB]
 have b0:v.desc.length ≤ 9223372036854775807:=by simpa only [DC.ok] using ok.2.2.1
 have b1:v.name.length ≤ 9223372036854775807:=by simpa only [DC.ok] using ok.2.2.2.1
 rw [show IntKind.i64.wrap (left - (v.desc.length:Int))=left - (v.desc.length:Int) from jM (by omega) (by omega)]
 by_cases c0:left < ((v.desc.length:Nat):Int)
 ·have c0':left - ((v.desc.length:Nat):Int) < 0:=by omega
  simp only [c0',decide_true,if_true]
  try rw [jI (by omega)]
 have c0':¬ left - ((v.desc.length:Nat):Int) < 0:=by omega
 simp only [c0',decide_false,Bool.false_eq_true,if_false]
 rw [show IntKind.i64.wrap ((left - ((v.desc.length:Nat):Int)) - (v.name.length:Int))=(left - ((v.desc.length:Nat):Int)) - (v.name.length:Int) from jM (by omega) (by omega)]
 by_cases c1:(left - ((v.desc.length:Nat):Int)) < ((v.name.length:Nat):Int)
 ·have c1':(left - ((v.desc.length:Nat):Int)) - ((v.name.length:Nat):Int) < 0:=by omega
  simp only [c1',decide_true,if_true]
  try rw [jI (by omega)]
 have c1':¬ (left - ((v.desc.length:Nat):Int)) - ((v.name.length:Nat):Int) < 0:=by omega
 simp only [c1',decide_false,Bool.false_eq_true,if_false]
 rw [j0D v.faces ok.2.2.2.2.1 (((left - ((v.desc.length:Nat):Int)) - ((v.name.length:Nat):Int))) (by omega) (by omega)]
 simp only [Out.bindR_ret,List.getD_cons_zero,List.getD_cons_succ,DC.bb_b,DC.ii_i,DC.ss_s,DC.ll_sl]
 by_cases c2:((left - ((v.desc.length:Nat):Int)) - ((v.name.length:Nat):Int)) < ((DC.wt (.sl (v.faces.map S1)):Nat):Int)
 ·rw [jI c2]
  simp only [show (-1:Int) < 0 by omega,decide_true,if_true]
  try rw [jI (by omega)]
 rw [kj c2]
 have c2':¬ ((left - ((v.desc.length:Nat):Int)) - ((v.name.length:Nat):Int)) - ((DC.wt (.sl (v.faces.map S1)):Nat):Int) < 0:=by omega
 simp only [c2',decide_false,Bool.false_eq_true,if_false]
 rw [j30 v.fields ok.2.2.2.2.2.1 ((((left - ((v.desc.length:Nat):Int)) - ((v.name.length:Nat):Int)) - ((DC.wt (.sl (v.faces.map S1)):Nat):Int))) (by omega) (by omega)]
 simp only [Out.bindR_ret,List.getD_cons_zero,List.getD_cons_succ,DC.bb_b,DC.ii_i,DC.ss_s,DC.ll_sl]
 by_cases c3:(((left - ((v.desc.length:Nat):Int)) - ((v.name.length:Nat):Int)) - ((DC.wt (.sl (v.faces.map S1)):Nat):Int)) < ((DC.wt (.sl (v.fields.map TFieldDef.enc)):Nat):Int)
 ·rw [jI c3]
  simp only [show (-1:Int) < 0 by omega,decide_true,if_true]
  try rw [jI (by omega)]
 rw [kj c3]
 have c3':¬ (((left - ((v.desc.length:Nat):Int)) - ((v.name.length:Nat):Int)) - ((DC.wt (.sl (v.faces.map S1)):Nat):Int)) - ((DC.wt (.sl (v.fields.map TFieldDef.enc)):Nat):Int) < 0:=by omega
 simp only [c3',decide_false,Bool.false_eq_true,if_false]
 rw [j27 v.inputs ok.2.2.2.2.2.2.1 (((((left - ((v.desc.length:Nat):Int)) - ((v.name.length:Nat):Int)) - ((DC.wt (.sl (v.faces.map S1)):Nat):Int)) - ((DC.wt (.sl (v.fields.map TFieldDef.enc)):Nat):Int))) (by omega) (by omega)]
 simp only [Out.bindR_ret,List.getD_cons_zero,List.getD_cons_succ,DC.bb_b,DC.ii_i,DC.ss_s,DC.ll_sl]
 by_cases c4:((((left - ((v.desc.length:Nat):Int)) - ((v.name.length:Nat):Int)) - ((DC.wt (.sl (v.faces.map S1)):Nat):Int)) - ((DC.wt (.sl (v.fields.map TFieldDef.enc)):Nat):Int)) < ((DC.wt (.sl (v.inputs.map TInDef.enc)):Nat):Int)
 ·rw [jI c4]
  simp only [show (-1:Int) < 0 by omega,decide_true,if_true]
  try rw [jI (by omega)]
 rw [kj c4]
 have c4':¬ ((((left - ((v.desc.length:Nat):Int)) - ((v.name.length:Nat):Int)) - ((DC.wt (.sl (v.faces.map S1)):Nat):Int)) - ((DC.wt (.sl (v.fields.map TFieldDef.enc)):Nat):Int)) - ((DC.wt (.sl (v.inputs.map TInDef.enc)):Nat):Int) < 0:=by omega
 simp only [c4',decide_false,Bool.false_eq_true,if_false]
 rw [j3X v.values ok.2.2.2.2.2.2.2.1 ((((((left - ((v.desc.length:Nat):Int)) - ((v.name.length:Nat):Int)) - ((DC.wt (.sl (v.faces.map S1)):Nat):Int)) - ((DC.wt (.sl (v.fields.map TFieldDef.enc)):Nat):Int)) - ((DC.wt (.sl (v.inputs.map TInDef.enc)):Nat):Int))) (by omega) (by omega)]
 simp only [Out.bindR_ret,List.getD_cons_zero,List.getD_cons_succ,DC.bb_b,DC.ii_i,DC.ss_s,DC.ll_sl]
 by_cases c5:(((((left - ((v.desc.length:Nat):Int)) - ((v.name.length:Nat):Int)) - ((DC.wt (.sl (v.faces.map S1)):Nat):Int)) - ((DC.wt (.sl (v.fields.map TFieldDef.enc)):Nat):Int)) - ((DC.wt (.sl (v.inputs.map TInDef.enc)):Nat):Int)) < ((DC.wt (.sl (v.values.map TEnumDef.enc)):Nat):Int)
 ·rw [jI c5]
  simp only [show (-1:Int) < 0 by omega,decide_true,if_true]
  try rw [jI (by omega)]
 rw [kj c5]
 have c5':¬ (((((left - ((v.desc.length:Nat):Int)) - ((v.name.length:Nat):Int)) - ((DC.wt (.sl (v.faces.map S1)):Nat):Int)) - ((DC.wt (.sl (v.fields.map TFieldDef.enc)):Nat):Int)) - ((DC.wt (.sl (v.inputs.map TInDef.enc)):Nat):Int)) - ((DC.wt (.sl (v.values.map TEnumDef.enc)):Nat):Int) < 0:=by omega
 simp only [c5',decide_false,Bool.false_eq_true,if_false]
 rw [j79 v.roots ok.2.2.2.2.2.2.2.2.1 (((((((left - ((v.desc.length:Nat):Int)) - ((v.name.length:Nat):Int)) - ((DC.wt (.sl (v.faces.map S1)):Nat):Int)) - ((DC.wt (.sl (v.fields.map TFieldDef.enc)):Nat):Int)) - ((DC.wt (.sl (v.inputs.map TInDef.enc)):Nat):Int)) - ((DC.wt (.sl (v.values.map TEnumDef.enc)):Nat):Int))) (by omega) (by omega)]
 simp only [Out.bindR_ret,List.getD_cons_zero,List.getD_cons_succ,DC.bb_b,DC.ii_i,DC.ss_s,DC.ll_sl]
 by_cases c6:((((((left - ((v.desc.length:Nat):Int)) - ((v.name.length:Nat):Int)) - ((DC.wt (.sl (v.faces.map S1)):Nat):Int)) - ((DC.wt (.sl (v.fields.map TFieldDef.enc)):Nat):Int)) - ((DC.wt (.sl (v.inputs.map TInDef.enc)):Nat):Int)) - ((DC.wt (.sl (v.values.map TEnumDef.enc)):Nat):Int)) < ((DC.wt (.sl (v.roots.map TRoot.enc)):Nat):Int)
 ·rw [jI c6]
  simp only [show (-1:Int) < 0 by omega,decide_true,if_true]
  try rw [jI (by omega)]
 rw [kj c6]
 have c6':¬ ((((((left - ((v.desc.length:Nat):Int)) - ((v.name.length:Nat):Int)) - ((DC.wt (.sl (v.faces.map S1)):Nat):Int)) - ((DC.wt (.sl (v.fields.map TFieldDef.enc)):Nat):Int)) - ((DC.wt (.sl (v.inputs.map TInDef.enc)):Nat):Int)) - ((DC.wt (.sl (v.values.map TEnumDef.enc)):Nat):Int)) - ((DC.wt (.sl (v.roots.map TRoot.enc)):Nat):Int) < 0:=by omega
 simp only [c6',decide_false,Bool.false_eq_true,if_false]
 rw [j0k v.dirs ok.2.2.2.2.2.2.2.2.2.2.1 ((((((((left - ((v.desc.length:Nat):Int)) - ((v.name.length:Nat):Int)) - ((DC.wt (.sl (v.faces.map S1)):Nat):Int)) - ((DC.wt (.sl (v.fields.map TFieldDef.enc)):Nat):Int)) - ((DC.wt (.sl (v.inputs.map TInDef.enc)):Nat):Int)) - ((DC.wt (.sl (v.values.map TEnumDef.enc)):Nat):Int)) - ((DC.wt (.sl (v.roots.map TRoot.enc)):Nat):Int))) (by omega) (by omega)]
 simp only [Out.bindR_ret,List.getD_cons_zero,List.getD_cons_succ,DC.bb_b,DC.ii_i,DC.ss_s,DC.ll_sl]
 by_cases c7:(((((((left - ((v.desc.length:Nat):Int)) - ((v.name.length:Nat):Int)) - ((DC.wt (.sl (v.faces.map S1)):Nat):Int)) - ((DC.wt (.sl (v.fields.map TFieldDef.enc)):Nat):Int)) - ((DC.wt (.sl (v.inputs.map TInDef.enc)):Nat):Int)) - ((DC.wt (.sl (v.values.map TEnumDef.enc)):Nat):Int)) - ((DC.wt (.sl (v.roots.map TRoot.enc)):Nat):Int)) < ((DC.wt (.sl (v.dirs.map TDir.enc)):Nat):Int)
 ·rw [jI c7]
  simp only [show (-1:Int) < 0 by omega,decide_true,if_true]
  try rw [jI (by omega)]
 rw [kj c7]
 have c7':¬ (((((((left - ((v.desc.length:Nat):Int)) - ((v.name.length:Nat):Int)) - ((DC.wt (.sl (v.faces.map S1)):Nat):Int)) - ((DC.wt (.sl (v.fields.map TFieldDef.enc)):Nat):Int)) - ((DC.wt (.sl (v.inputs.map TInDef.enc)):Nat):Int)) - ((DC.wt (.sl (v.values.map TEnumDef.enc)):Nat):Int)) - ((DC.wt (.sl (v.roots.map TRoot.enc)):Nat):Int)) - ((DC.wt (.sl (v.dirs.map TDir.enc)):Nat):Int) < 0:=by omega
 simp only [c7',decide_false,Bool.false_eq_true,if_false]
 first
 | done
 | rw [show KN left (v.desc.length + v.name.length + DC.wt (.sl (v.faces.map S1)) + DC.wt (.sl (v.fields.map TFieldDef.enc)) + DC.wt (.sl (v.inputs.map TInDef.enc)) + DC.wt (.sl (v.values.map TEnumDef.enc)) + DC.wt (.sl (v.roots.map TRoot.enc)) + DC.wt (.sl (v.dirs.map TDir.enc)))=((((((((left - ((v.desc.length:Nat):Int)) - ((v.name.length:Nat):Int)) - ((DC.wt (.sl (v.faces.map S1)):Nat):Int)) - ((DC.wt (.sl (v.fields.map TFieldDef.enc)):Nat):Int)) - ((DC.wt (.sl (v.inputs.map TInDef.enc)):Nat):Int)) - ((DC.wt (.sl (v.values.map TEnumDef.enc)):Nat):Int)) - ((DC.wt (.sl (v.roots.map TRoot.enc)):Nat):Int)) - ((DC.wt (.sl (v.dirs.map TDir.enc)):Nat):Int)) from (kj (by omega)).trans (by omega)]
theorem j7b (vs:List TDef) (hs:∀ v ∈ vs,okL (TDef.enc v) → ∀ left:Int,0 ≤ left → left ≤ 1048576 → Ka [.i v.kind,.b v.ext,.s v.desc,.s v.name,.sl (v.faces.map S1),.sl (v.fields.map TFieldDef.enc),.sl (v.inputs.map TInDef.enc),.sl (v.values.map TEnumDef.enc),.sl (v.roots.map TRoot.enc),.b v.repeat',.sl (v.dirs.map TDir.enc),.i left] = .ret [.i (KN left (jP (TDef.enc v)))]) (ok:(DC.sl (vs.map TDef.enc)).ok) (left:Int) (h0:0 ≤ left) (h1:left ≤ 1048576):Jp [.sl (vs.map TDef.enc),.i left] = .ret [.i (KN left (DC.wt (.sl (vs.map TDef.enc))))]:=by
 rw [DC.ok,List.length_map] at ok
 obtain ⟨hl,ok⟩:=ok
 rw [j1f]
 simp only [XI,List.getD_cons_zero,List.getD_cons_succ,DC.bb_b,DC.ii_i,DC.ss_s,DC.ll_sl]
 refine K5 hl (fun i hi left h0 h1=>?_) (fun left=>?_) h0 h1
 ·have key:=hs vs[i] (jc hi) (Ju ok _ (je (jc hi))) left h0 h1
  generalize jP (TDef.enc vs[i])=w at key ⊢
  have hc1:(i:Int) < (vs.length:Int):=by omega
  simp only [JW,List.getD_cons_zero,List.getD_cons_succ,DC.bb_b,DC.ii_i,DC.ss_s,DC.ll_sl,jb,List.length_map,js hi,TDef.enc_eq,key,Out.bindR_ret]
  by_cases hc:left < (w:Int)
  ·simp [hi,hc1,hc,jI hc]
  ·simp [hi,hc1,hc,kj hc,show ¬ left - (w:Int) < 0 by omega,jr hi hl]
 ·simp [JW]
theorem j8U (vs:List TDef) (ok:(DC.sl (vs.map TDef.enc)).ok) (left:Int) (h0:0 ≤ left) (h1:left ≤ 1048576):Jp [.sl (vs.map TDef.enc),.i left] = .ret [.i (KN left (DC.wt (.sl (vs.map TDef.enc))))]:=j7b vs (fun v _=>j9T v) ok left h0 h1
theorem j9P (v:TDef):jP (TDef.enc v) ≤ 1048576 → K7 [.i v.kind,.b v.ext,.s v.desc,.s v.name,.sl (v.faces.map S1),.sl (v.fields.map TFieldDef.enc),.sl (v.inputs.map TInDef.enc),.sl (v.values.map TEnumDef.enc),.sl (v.roots.map TRoot.enc),.b v.repeat',.sl (v.dirs.map TDir.enc)] = .ret (TDef.enc v):=by
 intro hw
 rw [zB] at hw
 rw [j1O]
 simp only [YZ,List.getD_cons_zero,List.getD_cons_succ,DC.bb_b,DC.ii_i,DC.ss_s,DC.ll_sl]
 rw [j0B v.faces (by have h:=hw; simp only [DC.wt,List.length_map] at h; omega)]
 simp only [Out.bindR_ret,List.getD_cons_zero,List.getD_cons_succ,DC.bb_b,DC.ii_i,DC.ss_s,DC.ll_sl]
 rw [j2X v.fields (by omega)]
 simp only [Out.bindR_ret,List.getD_cons_zero,List.getD_cons_succ,DC.bb_b,DC.ii_i,DC.ss_s,DC.ll_sl]
 rw [j23 v.inputs (by omega)]
 simp only [Out.bindR_ret,List.getD_cons_zero,List.getD_cons_succ,DC.bb_b,DC.ii_i,DC.ss_s,DC.ll_sl]
 rw [j3P v.values (by omega)]
 simp only [Out.bindR_ret,List.getD_cons_zero,List.getD_cons_succ,DC.bb_b,DC.ii_i,DC.ss_s,DC.ll_sl]
 rw [j71 v.roots (by omega)]
 simp only [Out.bindR_ret,List.getD_cons_zero,List.getD_cons_succ,DC.bb_b,DC.ii_i,DC.ss_s,DC.ll_sl]
 rw [j0j v.dirs (by omega)]
 simp only [Out.bindR_ret,List.getD_cons_zero,List.getD_cons_succ,DC.bb_b,DC.ii_i,DC.ss_s,DC.ll_sl]
 rw [TDef.enc_eq]
theorem j73 (vs:List TDef) (hs:∀ v ∈ vs,jP (TDef.enc v) ≤ 1048576 → K7 [.i v.kind,.b v.ext,.s v.desc,.s v.name,.sl (v.faces.map S1),.sl (v.fields.map TFieldDef.enc),.sl (v.inputs.map TInDef.enc),.sl (v.values.map TEnumDef.enc),.sl (v.roots.map TRoot.enc),.b v.repeat',.sl (v.dirs.map TDir.enc)] = .ret (TDef.enc v)) (hw:DC.wt (.sl (vs.map TDef.enc)) ≤ 1048576):pR [.sl (vs.map TDef.enc)] = .ret [.sl (vs.map TDef.enc)]:=by
 rw [DC.wt,List.length_map] at hw
 have hl:vs.length ≤ 1048576:=by omega
 rw [j1a]
 simp only [XD,List.getD_cons_zero,List.getD_cons_succ,DC.bb_b,DC.ii_i,DC.ss_s,DC.ll_sl]
 rw [if_pos ⟨by omega,by rw [List.length_map]; exact QY hl,trivial,by omega,by omega,rfl⟩,jb,List.length_map,show (0:Int)=((0:Nat):Int) from rfl,zC hl (fun i hi cur h1 h2=>?_) (fun cur=>?_)]
 ·rfl
 ·have key:=hs vs[i] (jc hi) (by have:=jU (je (f:=TDef.enc) (jc hi)); omega)
  have hc1:(i:Int) < (vs.length:Int):=by omega
  simp only [JT,List.getD_cons_zero,List.getD_cons_succ,DC.bb_b,DC.ii_i,DC.ss_s,DC.ll_sl,jb,List.length_map,js hi,h1,h2,TDef.enc_eq] at key ⊢
  simp only [key,List.getD_cons_zero,List.getD_cons_succ,DC.bb_b,DC.ii_i,DC.ss_s,DC.ll_sl,Out.bindR_ret]
  simp [hi,hc1,jr hi (show vs.length ≤ 9223372036854775807 by omega),kF]
 ·simp [JT]
theorem j8Q (vs:List TDef) (hw:DC.wt (.sl (vs.map TDef.enc)) ≤ 1048576):pR [.sl (vs.map TDef.enc)] = .ret [.sl (vs.map TDef.enc)]:=j73 vs (fun v _=>j9P v) hw
theorem jac (v:TDef):jP (TDef.enc v) ≤ 1048576 → Kd [.i v.kind,.b v.ext,.s v.desc,.s v.name,.sl (v.faces.map S1),.sl (v.fields.map TFieldDef.enc),.sl (v.inputs.map TInDef.enc),.sl (v.values.map TEnumDef.enc),.sl (v.roots.map TRoot.enc),.b v.repeat',.sl (v.dirs.map TDir.enc),.i v.kind,.b v.ext,.s v.desc,.s v.name,.sl (v.faces.map S1),.sl (v.fields.map TFieldDef.enc),.sl (v.inputs.map TInDef.enc),.sl (v.values.map TEnumDef.enc),.sl (v.roots.map TRoot.enc),.b v.repeat',.sl (v.dirs.map TDir.enc)] = .ret [.b true]:=by
 intro hw
 rw [zB] at hw
 rw [j1U]
 simp only [Z5,List.getD_cons_zero,List.getD_cons_succ,DC.bb_b,DC.ii_i,DC.ss_s,DC.ll_sl,bne_self_eq_false,beq_self_eq_true,jx,Bool.false_eq_true,if_false]
 rw [j1p v.faces (by have h:=hw; simp only [DC.wt,List.length_map] at h; omega)]
 simp only [Out.bindR_ret,List.getD_cons_zero,List.getD_cons_succ,DC.bb_b,DC.ii_i,DC.ss_s,DC.ll_sl,bne_self_eq_false,beq_self_eq_true,jx,Bool.false_eq_true,if_false]
 rw [j3t v.fields (by omega)]
 simp only [Out.bindR_ret,List.getD_cons_zero,List.getD_cons_succ,DC.bb_b,DC.ii_i,DC.ss_s,DC.ll_sl,bne_self_eq_false,beq_self_eq_true,jx,Bool.false_eq_true,if_false]
 rw [j2D v.inputs (by omega)]
 simp only [Out.bindR_ret,List.getD_cons_zero,List.getD_cons_succ,DC.bb_b,DC.ii_i,DC.ss_s,DC.ll_sl,bne_self_eq_false,beq_self_eq_true,jx,Bool.false_eq_true,if_false]
 rw [j4w v.values (by omega)]
 simp only [Out.bindR_ret,List.getD_cons_zero,List.getD_cons_succ,DC.bb_b,DC.ii_i,DC.ss_s,DC.ll_sl,bne_self_eq_false,beq_self_eq_true,jx,Bool.false_eq_true,if_false]
 rw [j4v v.roots (by omega)]
 simp only [Out.bindR_ret,List.getD_cons_zero,List.getD_cons_succ,DC.bb_b,DC.ii_i,DC.ss_s,DC.ll_sl,bne_self_eq_false,beq_self_eq_true,jx,Bool.false_eq_true,if_false]
 rw [j0s v.dirs (by omega)]
 simp only [Out.bindR_ret,List.getD_cons_zero,List.getD_cons_succ,DC.bb_b,DC.ii_i,DC.ss_s,DC.ll_sl,bne_self_eq_false,beq_self_eq_true,jx,Bool.false_eq_true,if_false]
theorem j8r (vs:List TDef) (hs:∀ v ∈ vs,jP (TDef.enc v) ≤ 1048576 → Kd [.i v.kind,.b v.ext,.s v.desc,.s v.name,.sl (v.faces.map S1),.sl (v.fields.map TFieldDef.enc),.sl (v.inputs.map TInDef.enc),.sl (v.values.map TEnumDef.enc),.sl (v.roots.map TRoot.enc),.b v.repeat',.sl (v.dirs.map TDir.enc),.i v.kind,.b v.ext,.s v.desc,.s v.name,.sl (v.faces.map S1),.sl (v.fields.map TFieldDef.enc),.sl (v.inputs.map TInDef.enc),.sl (v.values.map TEnumDef.enc),.sl (v.roots.map TRoot.enc),.b v.repeat',.sl (v.dirs.map TDir.enc)] = .ret [.b true]) (hw:DC.wt (.sl (vs.map TDef.enc)) ≤ 1048576):qP [.sl (vs.map TDef.enc),.sl (vs.map TDef.enc)] = .ret [.b true]:=by
 rw [DC.wt,List.length_map] at hw
 have hl:vs.length ≤ 1048576:=by omega
 rw [j1k]
 simp only [XN,List.getD_cons_zero,List.getD_cons_succ,DC.bb_b,DC.ii_i,DC.ss_s,DC.ll_sl]
 refine Kg (fun i hi=>?_) ?_
 ·rw [List.length_map] at hi
  have key:=hs vs[i] (jc hi) (by have:=jU (je (f:=TDef.enc) (jc hi)); omega)
  have hc1:(i:Int) < (vs.length:Int):=by omega
  simp only [JZ,List.getD_cons_zero,List.getD_cons_succ,DC.bb_b,DC.ii_i,DC.ss_s,DC.ll_sl,jb,List.length_map,js hi,TDef.enc_eq] at key ⊢
  simp only [key,List.getD_cons_zero,List.getD_cons_succ,DC.bb_b,DC.ii_i,DC.ss_s,DC.ll_sl,Out.bindR_ret]
  simp [hi,hc1,jr hi (show vs.length ≤ 9223372036854775807 by omega)]
 ·simp [JZ]
theorem j3v (vs:List TDef) (hw:DC.wt (.sl (vs.map TDef.enc)) ≤ 1048576):qP [.sl (vs.map TDef.enc),.sl (vs.map TDef.enc)] = .ret [.b true]:=j8r vs (fun v _=>jac v) hw
theorem Vx (v:TSchema):jP (TSchema.enc v)=DC.wt (.sl (v.types.map TDef.enc)) + DC.wt (.sl (v.dirs.map TDef.enc)) + DC.wt (.sl (v.roots.map TRoot.enc)):=by
 simp only [TSchema.enc_eq,jP,DC.wt]
 try omega
theorem j6u (v:(List UInt8)):∀ k:Int,0 ≤ k → k + 30 * ((1 + jP (S1 v):Nat):Int) < 4611686018427387904 → ∃ (x':(List UInt8)) (k':Int),(kT mT pe j7X S1 v k x' k' ∧ (∀ (l:List (List DC)) (i:Nat),i < l.length → l.length ≤ 9223372036854775807 → l.getD i []=S1 x' → kk [.sl l,.i k,.i (i:Int)] = .norm [.sl l,.i k',.i ((i + 1:Nat):Int)])) ∧ k ≤ k' ∧ k' ≤ k + 30 * ((1 + jP (S1 v):Nat):Int):=by
 intro k h0 hk
 refine ⟨zA (k),k + 1,⟨⟨0,fun m hm r=>?_⟩,?_⟩,by omega,by omega⟩
 ·refine ⟨r,?_⟩
  unfold S1
  refine jR (s:=zA (k)) rfl (jH (by omega) ?_)
  exact rfl
 ·intro l i hi hl hg
  have m0:jz [.i (k)] = .ret [.s (zA (k))]:=qi (by omega) (by omega)
  have w0:IntKind.i64.wrap (k + 1)=k + 1:=jM (by omega) (by omega)
  have hc1:(i:Int) < (l.length:Int):=by omega
  simp only [kk,List.getD_cons_zero,List.getD_cons_succ,DC.bb_b,DC.ii_i,DC.ss_s,DC.ll_sl,jb,hg,S1,m0,w0,ko,Out.bindR_ret]
  simp [hi,hc1,jr hi hl,m0,w0]
theorem j4j (vs:List (List UInt8)) (hs:∀ v ∈ vs,∀ k:Int,0 ≤ k → k + 30 * ((1 + jP (S1 v):Nat):Int) < 4611686018427387904 → ∃ (x':(List UInt8)) (k':Int),(kT mT pe j7X S1 v k x' k' ∧ (∀ (l:List (List DC)) (i:Nat),i < l.length → l.length ≤ 9223372036854775807 → l.getD i []=S1 x' → kk [.sl l,.i k,.i (i:Int)] = .norm [.sl l,.i k',.i ((i + 1:Nat):Int)])) ∧ k ≤ k' ∧ k' ≤ k + 30 * ((1 + jP (S1 v):Nat):Int)) (k:Int) (h0:0 ≤ k) (hk:k + 30 * ((DC.wt (.sl (vs.map S1)):Nat):Int) < 4611686018427387904):∃ (vs':List (List UInt8)) (k':Int),Mk mT pe 26 (vs.map S1) k (vs'.map S1) k' ∧ k ≤ k' ∧ k' ≤ k + 30 * ((DC.wt (.sl (vs.map S1)):Nat):Int) ∧ kw [.sl (vs'.map S1),.i k] = .ret [.i k']:=by
 obtain ⟨vs',k',m,b1,b2,c⟩:=zM (Q:=fun k x' k'=>∀ (l:List (List DC)) (i:Nat),i < l.length → l.length ≤ 9223372036854775807 → l.getD i []=S1 x' → kk [.sl l,.i k,.i (i:Int)] = .norm [.sl l,.i k',.i ((i + 1:Nat):Int)]) (f:=26) (ms:=j7X) rfl vs hs h0 hk
 refine ⟨vs',k',m,b1,b2,?_⟩
 have hl:vs.length ≤ DC.wt (.sl (vs.map S1)):=by simp [DC.wt]
 have hc:=c.len
 have key:jK kk [.sl (vs'.map S1),.i k,.i (0:Int)] = .ex 0 [.i k']:=yI c (fun l k=>by simp [kk]) [] (by simp only [jk]; omega)
 rw [Xq]
 simp only [KJ,List.getD_cons_zero,List.getD_cons_succ,DC.bb_b,DC.ii_i,DC.ss_s,DC.ll_sl,key,ja]
 rfl
theorem QX (vs:List (List UInt8)) (k:Int) (h0:0 ≤ k) (hk:k + 30 * ((DC.wt (.sl (vs.map S1)):Nat):Int) < 4611686018427387904):∃ (vs':List (List UInt8)) (k':Int),Mk mT pe 26 (vs.map S1) k (vs'.map S1) k' ∧ k ≤ k' ∧ k' ≤ k + 30 * ((DC.wt (.sl (vs.map S1)):Nat):Int) ∧ kw [.sl (vs'.map S1),.i k] = .ret [.i k']:=j4j vs (fun v _=>j6u v) k h0 hk
theorem j0X (vs:List TValue) (hs:∀ v ∈ vs,∀ k:Int,0 ≤ k → k + 30 * ((1 + jP (TValue.enc v):Nat):Int) < 4611686018427387904 → ∃ (x':TValue) (k':Int),(kT mT pe j7R TValue.enc v k x' k' ∧ (∀ (l:List (List DC)) (i:Nat),i < l.length → l.length ≤ 9223372036854775807 → l.getD i []=TValue.enc x' → kp [.sl l,.i k,.i (i:Int)] = .norm [.sl l,.i k',.i ((i + 1:Nat):Int)])) ∧ k ≤ k' ∧ k' ≤ k + 30 * ((1 + jP (TValue.enc v):Nat):Int)) (k:Int) (h0:0 ≤ k) (hk:k + 30 * ((DC.wt (.sl (vs.map TValue.enc)):Nat):Int) < 4611686018427387904):∃ (vs':List TValue) (k':Int),Mk mT pe 68 (vs.map TValue.enc) k (vs'.map TValue.enc) k' ∧ k ≤ k' ∧ k' ≤ k + 30 * ((DC.wt (.sl (vs.map TValue.enc)):Nat):Int) ∧ p8 [.sl (vs'.map TValue.enc),.i k] = .ret [.i k']:=by
 obtain ⟨vs',k',m,b1,b2,c⟩:=zM (Q:=fun k x' k'=>∀ (l:List (List DC)) (i:Nat),i < l.length → l.length ≤ 9223372036854775807 → l.getD i []=TValue.enc x' → kp [.sl l,.i k,.i (i:Int)] = .norm [.sl l,.i k',.i ((i + 1:Nat):Int)]) (f:=68) (ms:=j7R) rfl vs hs h0 hk
 refine ⟨vs',k',m,b1,b2,?_⟩
 have hl:vs.length ≤ DC.wt (.sl (vs.map TValue.enc)):=by simp [DC.wt]
 have hc:=c.len
 have key:jK kp [.sl (vs'.map TValue.enc),.i k,.i (0:Int)] = .ex 0 [.i k']:=yI c (fun l k=>by simp [kp]) [] (by simp only [jk]; omega)
 rw [Yc]
 simp only [Q4,List.getD_cons_zero,List.getD_cons_succ,DC.bb_b,DC.ii_i,DC.ss_s,DC.ll_sl,key,ja]
 rfl
theorem j89 (v:TValue):∀ k:Int,0 ≤ k → k + 30 * ((1 + jP (TValue.enc v):Nat):Int) < 4611686018427387904 → ∃ (x':TValue) (k':Int),(kT mT pe j7R TValue.enc v k x' k' ∧ (∀ (l:List (List DC)) (i:Nat),i < l.length → l.length ≤ 9223372036854775807 → l.getD i []=TValue.enc x' → kp [.sl l,.i k,.i (i:Int)] = .norm [.sl l,.i k',.i ((i + 1:Nat):Int)])) ∧ k ≤ k' ∧ k' ≤ k + 30 * ((1 + jP (TValue.enc v):Nat):Int):=by
 induction v using TValue.ind with | h v ih =>
 intro k h0 hk
 rw [pw] at hk
 rw [pw]
 obtain ⟨a2,k2,⟨n2,e2⟩,b2,c2,h2⟩:=j0X v.items (fun x hx=>ih x hx) (k + 1 + 1) (by omega) (by omega)
 obtain ⟨a3,k3,⟨n3,e3⟩,b3,c3,h3⟩:=QX v.names (k2) (by omega) (by omega)
 refine ⟨⟨k,zA (k + 1),a2,a3⟩,k3,⟨⟨n2 + n3,fun m hm r=>?_⟩,?_⟩,by omega,by omega⟩
 ·refine ⟨k3,?_⟩
  rw [TValue.enc_eq,TValue.enc_eq]
  refine JB (jH (by omega) ?_)
  refine jR (s:=zA (k + 1)) rfl (jH (by omega) ?_)
  refine ka (l:=v.items.map TValue.enc) rfl (pA (by omega) e2) (jZ ⟨by omega,by omega⟩ ?_)
  refine ka (l:=v.names.map S1) rfl (pA (by omega) e3) (jZ ⟨by omega,by omega⟩ ?_)
  exact rfl
 ·intro l i hi hl hg
  have w0:IntKind.i64.wrap (k + 1)=k + 1:=jM (by omega) (by omega)
  have m1:jz [.i (k + 1)] = .ret [.s (zA (k + 1))]:=qi (by omega) (by omega)
  have w1:IntKind.i64.wrap (k + 1 + 1)=k + 1 + 1:=jM (by omega) (by omega)
  have g2:¬ k2 < 0:=by omega
  have g3:¬ k3 < 0:=by omega
  have hc1:(i:Int) < (l.length:Int):=by omega
  simp only [kp,List.getD_cons_zero,List.getD_cons_succ,DC.bb_b,DC.ii_i,DC.ss_s,DC.ll_sl,jb,hg,TValue.enc_eq,w0,m1,w1,h2,h3,ko,Out.bindR_ret]
  simp [hi,hc1,jr hi hl,g2,g3,w0,m1,w1,h2,h3]
theorem j2t (vs:List TValue) (k:Int) (h0:0 ≤ k) (hk:k + 30 * ((DC.wt (.sl (vs.map TValue.enc)):Nat):Int) < 4611686018427387904):∃ (vs':List TValue) (k':Int),Mk mT pe 68 (vs.map TValue.enc) k (vs'.map TValue.enc) k' ∧ k ≤ k' ∧ k' ≤ k + 30 * ((DC.wt (.sl (vs.map TValue.enc)):Nat):Int) ∧ p8 [.sl (vs'.map TValue.enc),.i k] = .ret [.i k']:=j0X vs (fun v _=>j89 v) k h0 hk
theorem ja4 (v:TArg):∀ k:Int,0 ≤ k → k + 30 * ((1 + jP (TArg.enc v):Nat):Int) < 4611686018427387904 → ∃ (x':TArg) (k':Int),(kT mT pe j7Q TArg.enc v k x' k' ∧ (∀ (l:List (List DC)) (i:Nat),i < l.length → l.length ≤ 9223372036854775807 → l.getD i []=TArg.enc x' → kM [.sl l,.i k,.i (i:Int)] = .norm [.sl l,.i k',.i ((i + 1:Nat):Int)])) ∧ k ≤ k' ∧ k' ≤ k + 30 * ((1 + jP (TArg.enc v):Nat):Int):=by
 intro k h0 hk
 rw [Km,pw] at hk
 rw [Km,pw]
 obtain ⟨a3,k3,⟨n3,e3⟩,b3,c3,h3⟩:=j2t v.value.items (k + 1 + 1 + 1) (by omega) (by omega)
 obtain ⟨a4,k4,⟨n4,e4⟩,b4,c4,h4⟩:=QX v.value.names (k3) (by omega) (by omega)
 refine ⟨⟨zA (k),⟨k + 1,zA (k + 1 + 1),a3,a4⟩⟩,k4,⟨⟨n3 + n4,fun m hm r=>?_⟩,?_⟩,by omega,by omega⟩
 ·refine ⟨k4,?_⟩
  rw [TArg.enc_eq,TArg.enc_eq]
  refine jR (s:=zA (k)) rfl (jH (by omega) ?_)
  refine JB (jH (by omega) ?_)
  refine jR (s:=zA (k + 1 + 1)) rfl (jH (by omega) ?_)
  refine ka (l:=v.value.items.map TValue.enc) rfl (pA (by omega) e3) (jZ ⟨by omega,by omega⟩ ?_)
  refine ka (l:=v.value.names.map S1) rfl (pA (by omega) e4) (jZ ⟨by omega,by omega⟩ ?_)
  exact rfl
 ·intro l i hi hl hg
  have m0:jz [.i (k)] = .ret [.s (zA (k))]:=qi (by omega) (by omega)
  have w0:IntKind.i64.wrap (k + 1)=k + 1:=jM (by omega) (by omega)
  have w1:IntKind.i64.wrap (k + 1 + 1)=k + 1 + 1:=jM (by omega) (by omega)
  have m2:jz [.i (k + 1 + 1)] = .ret [.s (zA (k + 1 + 1))]:=qi (by omega) (by omega)
  have w2:IntKind.i64.wrap (k + 1 + 1 + 1)=k + 1 + 1 + 1:=jM (by omega) (by omega)
  have g3:¬ k3 < 0:=by omega
  have g4:¬ k4 < 0:=by omega
  have hc1:(i:Int) < (l.length:Int):=by omega
  simp only [kM,List.getD_cons_zero,List.getD_cons_succ,DC.bb_b,DC.ii_i,DC.ss_s,DC.ll_sl,jb,hg,TArg.enc_eq,m0,w0,w1,m2,w2,h3,h4,ko,Out.bindR_ret]
  simp [hi,hc1,jr hi hl,g3,g4,m0,w0,w1,m2,w2,h3,h4]
theorem j8d (vs:List TArg) (hs:∀ v ∈ vs,∀ k:Int,0 ≤ k → k + 30 * ((1 + jP (TArg.enc v):Nat):Int) < 4611686018427387904 → ∃ (x':TArg) (k':Int),(kT mT pe j7Q TArg.enc v k x' k' ∧ (∀ (l:List (List DC)) (i:Nat),i < l.length → l.length ≤ 9223372036854775807 → l.getD i []=TArg.enc x' → kM [.sl l,.i k,.i (i:Int)] = .norm [.sl l,.i k',.i ((i + 1:Nat):Int)])) ∧ k ≤ k' ∧ k' ≤ k + 30 * ((1 + jP (TArg.enc v):Nat):Int)) (k:Int) (h0:0 ≤ k) (hk:k + 30 * ((DC.wt (.sl (vs.map TArg.enc)):Nat):Int) < 4611686018427387904):∃ (vs':List TArg) (k':Int),Mk mT pe 69 (vs.map TArg.enc) k (vs'.map TArg.enc) k' ∧ k ≤ k' ∧ k' ≤ k + 30 * ((DC.wt (.sl (vs.map TArg.enc)):Nat):Int) ∧ za [.sl (vs'.map TArg.enc),.i k] = .ret [.i k']:=by
 obtain ⟨vs',k',m,b1,b2,c⟩:=zM (Q:=fun k x' k'=>∀ (l:List (List DC)) (i:Nat),i < l.length → l.length ≤ 9223372036854775807 → l.getD i []=TArg.enc x' → kM [.sl l,.i k,.i (i:Int)] = .norm [.sl l,.i k',.i ((i + 1:Nat):Int)]) (f:=69) (ms:=j7Q) rfl vs hs h0 hk
 refine ⟨vs',k',m,b1,b2,?_⟩
 have hl:vs.length ≤ DC.wt (.sl (vs.map TArg.enc)):=by simp [DC.wt]
 have hc:=c.len
 have key:jK kM [.sl (vs'.map TArg.enc),.i k,.i (0:Int)] = .ex 0 [.i k']:=yI c (fun l k=>by simp [kM]) [] (by simp only [jk]; omega)
 rw [Zy]
 simp only [Vj,List.getD_cons_zero,List.getD_cons_succ,DC.bb_b,DC.ii_i,DC.ss_s,DC.ll_sl,key,ja]
 rfl
theorem j9d (vs:List TArg) (k:Int) (h0:0 ≤ k) (hk:k + 30 * ((DC.wt (.sl (vs.map TArg.enc)):Nat):Int) < 4611686018427387904):∃ (vs':List TArg) (k':Int),Mk mT pe 69 (vs.map TArg.enc) k (vs'.map TArg.enc) k' ∧ k ≤ k' ∧ k' ≤ k + 30 * ((DC.wt (.sl (vs.map TArg.enc)):Nat):Int) ∧ za [.sl (vs'.map TArg.enc),.i k] = .ret [.i k']:=j8d vs (fun v _=>ja4 v) k h0 hk
theorem ja2 (v:TDir):∀ k:Int,0 ≤ k → k + 30 * ((1 + jP (TDir.enc v):Nat):Int) < 4611686018427387904 → ∃ (x':TDir) (k':Int),(kT mT pe j7S TDir.enc v k x' k' ∧ (∀ (l:List (List DC)) (i:Nat),i < l.length → l.length ≤ 9223372036854775807 → l.getD i []=TDir.enc x' → kK [.sl l,.i k,.i (i:Int)] = .norm [.sl l,.i k',.i ((i + 1:Nat):Int)])) ∧ k ≤ k' ∧ k' ≤ k + 30 * ((1 + jP (TDir.enc v):Nat):Int):=by
 intro k h0 hk
 rw [Kl] at hk
 rw [Kl]
 obtain ⟨a1,k1,⟨n1,e1⟩,b1,c1,h1⟩:=j9d v.args (k + 1) (by omega) (by omega)
 refine ⟨⟨zA (k),a1⟩,k1,⟨⟨n1,fun m hm r=>?_⟩,?_⟩,by omega,by omega⟩
 ·refine ⟨k1,?_⟩
  rw [TDir.enc_eq,TDir.enc_eq]
  refine jR (s:=zA (k)) rfl (jH (by omega) ?_)
  refine ka (l:=v.args.map TArg.enc) rfl (pA (by omega) e1) (jZ ⟨by omega,by omega⟩ ?_)
  exact rfl
 ·intro l i hi hl hg
  have m0:jz [.i (k)] = .ret [.s (zA (k))]:=qi (by omega) (by omega)
  have w0:IntKind.i64.wrap (k + 1)=k + 1:=jM (by omega) (by omega)
  have g1:¬ k1 < 0:=by omega
  have hc1:(i:Int) < (l.length:Int):=by omega
  simp only [kK,List.getD_cons_zero,List.getD_cons_succ,DC.bb_b,DC.ii_i,DC.ss_s,DC.ll_sl,jb,hg,TDir.enc_eq,m0,w0,h1,ko,Out.bindR_ret]
  simp [hi,hc1,jr hi hl,g1,m0,w0,h1]
theorem j8b (vs:List TDir) (hs:∀ v ∈ vs,∀ k:Int,0 ≤ k → k + 30 * ((1 + jP (TDir.enc v):Nat):Int) < 4611686018427387904 → ∃ (x':TDir) (k':Int),(kT mT pe j7S TDir.enc v k x' k' ∧ (∀ (l:List (List DC)) (i:Nat),i < l.length → l.length ≤ 9223372036854775807 → l.getD i []=TDir.enc x' → kK [.sl l,.i k,.i (i:Int)] = .norm [.sl l,.i k',.i ((i + 1:Nat):Int)])) ∧ k ≤ k' ∧ k' ≤ k + 30 * ((1 + jP (TDir.enc v):Nat):Int)) (k:Int) (h0:0 ≤ k) (hk:k + 30 * ((DC.wt (.sl (vs.map TDir.enc)):Nat):Int) < 4611686018427387904):∃ (vs':List TDir) (k':Int),Mk mT pe 31 (vs.map TDir.enc) k (vs'.map TDir.enc) k' ∧ k ≤ k' ∧ k' ≤ k + 30 * ((DC.wt (.sl (vs.map TDir.enc)):Nat):Int) ∧ pd [.sl (vs'.map TDir.enc),.i k] = .ret [.i k']:=by
 obtain ⟨vs',k',m,b1,b2,c⟩:=zM (Q:=fun k x' k'=>∀ (l:List (List DC)) (i:Nat),i < l.length → l.length ≤ 9223372036854775807 → l.getD i []=TDir.enc x' → kK [.sl l,.i k,.i (i:Int)] = .norm [.sl l,.i k',.i ((i + 1:Nat):Int)]) (f:=31) (ms:=j7S) rfl vs hs h0 hk
 refine ⟨vs',k',m,b1,b2,?_⟩
 have hl:vs.length ≤ DC.wt (.sl (vs.map TDir.enc)):=by simp [DC.wt]
 have hc:=c.len
 have key:jK kK [.sl (vs'.map TDir.enc),.i k,.i (0:Int)] = .ex 0 [.i k']:=yI c (fun l k=>by simp [kK]) [] (by simp only [jk]; omega)
 rw [Zw]
 simp only [Vh,List.getD_cons_zero,List.getD_cons_succ,DC.bb_b,DC.ii_i,DC.ss_s,DC.ll_sl,key,ja]
 rfl
theorem j0r (vs:List TDir) (k:Int) (h0:0 ≤ k) (hk:k + 30 * ((DC.wt (.sl (vs.map TDir.enc)):Nat):Int) < 4611686018427387904):∃ (vs':List TDir) (k':Int),Mk mT pe 31 (vs.map TDir.enc) k (vs'.map TDir.enc) k' ∧ k ≤ k' ∧ k' ≤ k + 30 * ((DC.wt (.sl (vs.map TDir.enc)):Nat):Int) ∧ pd [.sl (vs'.map TDir.enc),.i k] = .ret [.i k']:=j8b vs (fun v _=>ja2 v) k h0 hk
theorem j8a (v:TInDef):∀ k:Int,0 ≤ k → k + 30 * ((1 + jP (TInDef.enc v):Nat):Int) < 4611686018427387904 → ∃ (x':TInDef) (k':Int),(kT mT pe j7V TInDef.enc v k x' k' ∧ (∀ (l:List (List DC)) (i:Nat),i < l.length → l.length ≤ 9223372036854775807 → l.getD i []=TInDef.enc x' → kq [.sl l,.i k,.i (i:Int)] = .norm [.sl l,.i k',.i ((i + 1:Nat):Int)])) ∧ k ≤ k' ∧ k' ≤ k + 30 * ((1 + jP (TInDef.enc v):Nat):Int):=by
 intro k h0 hk
 rw [zg,J7,pw] at hk
 rw [zg,J7,pw]
 obtain ⟨a7,k7,⟨n7,e7⟩,b7,c7,h7⟩:=j2t v.default'.items (k + 1 + 1 + 1 + 1 + 1 + 1 + 1) (by omega) (by omega)
 obtain ⟨a8,k8,⟨n8,e8⟩,b8,c8,h8⟩:=QX v.default'.names (k7) (by omega) (by omega)
 obtain ⟨a9,k9,⟨n9,e9⟩,b9,c9,h9⟩:=j0r v.dirs (k8) (by omega) (by omega)
 refine ⟨⟨zA (k),zA (k + 1),⟨zA (k + 1 + 1),zA (k + 1 + 1 + 1)⟩,(k + 1 + 1 + 1 + 1) % 3 == 0,⟨k + 1 + 1 + 1 + 1 + 1,zA (k + 1 + 1 + 1 + 1 + 1 + 1),a7,a8⟩,a9⟩,k9,⟨⟨n7 + n8 + n9,fun m hm r=>?_⟩,?_⟩,by omega,by omega⟩
 ·refine ⟨k9,?_⟩
  rw [TInDef.enc_eq,TInDef.enc_eq]
  refine jR (s:=zA (k)) rfl (jH (by omega) ?_)
  refine jR (s:=zA (k + 1)) rfl (jH (by omega) ?_)
  refine jR (s:=zA (k + 1 + 1)) rfl (jH (by omega) ?_)
  refine jR (s:=zA (k + 1 + 1 + 1)) rfl (jH (by omega) ?_)
  refine QO (jH (by omega) ?_)
  refine JB (jH (by omega) ?_)
  refine jR (s:=zA (k + 1 + 1 + 1 + 1 + 1 + 1)) rfl (jH (by omega) ?_)
  refine ka (l:=v.default'.items.map TValue.enc) rfl (pA (by omega) e7) (jZ ⟨by omega,by omega⟩ ?_)
  refine ka (l:=v.default'.names.map S1) rfl (pA (by omega) e8) (jZ ⟨by omega,by omega⟩ ?_)
  refine ka (l:=v.dirs.map TDir.enc) rfl (pA (by omega) e9) (jZ ⟨by omega,by omega⟩ ?_)
  exact rfl
 ·intro l i hi hl hg
  have m0:jz [.i (k)] = .ret [.s (zA (k))]:=qi (by omega) (by omega)
  have w0:IntKind.i64.wrap (k + 1)=k + 1:=jM (by omega) (by omega)
  have m1:jz [.i (k + 1)] = .ret [.s (zA (k + 1))]:=qi (by omega) (by omega)
  have w1:IntKind.i64.wrap (k + 1 + 1)=k + 1 + 1:=jM (by omega) (by omega)
  have m2:jz [.i (k + 1 + 1)] = .ret [.s (zA (k + 1 + 1))]:=qi (by omega) (by omega)
  have w2:IntKind.i64.wrap (k + 1 + 1 + 1)=k + 1 + 1 + 1:=jM (by omega) (by omega)
  have m3:jz [.i (k + 1 + 1 + 1)] = .ret [.s (zA (k + 1 + 1 + 1))]:=qi (by omega) (by omega)
  have w3:IntKind.i64.wrap (k + 1 + 1 + 1 + 1)=k + 1 + 1 + 1 + 1:=jM (by omega) (by omega)
  have t4:Int.tmod (k + 1 + 1 + 1 + 1) 3=(k + 1 + 1 + 1 + 1) % 3:=Int.tmod_eq_emod_of_nonneg (by omega)
  have w4:IntKind.i64.wrap (k + 1 + 1 + 1 + 1 + 1)=k + 1 + 1 + 1 + 1 + 1:=jM (by omega) (by omega)
  have w5:IntKind.i64.wrap (k + 1 + 1 + 1 + 1 + 1 + 1)=k + 1 + 1 + 1 + 1 + 1 + 1:=jM (by omega) (by omega)
  have m6:jz [.i (k + 1 + 1 + 1 + 1 + 1 + 1)] = .ret [.s (zA (k + 1 + 1 + 1 + 1 + 1 + 1))]:=qi (by omega) (by omega)
  have w6:IntKind.i64.wrap (k + 1 + 1 + 1 + 1 + 1 + 1 + 1)=k + 1 + 1 + 1 + 1 + 1 + 1 + 1:=jM (by omega) (by omega)
  have g7:¬ k7 < 0:=by omega
  have g8:¬ k8 < 0:=by omega
  have g9:¬ k9 < 0:=by omega
  have hc1:(i:Int) < (l.length:Int):=by omega
  simp only [kq,List.getD_cons_zero,List.getD_cons_succ,DC.bb_b,DC.ii_i,DC.ss_s,DC.ll_sl,jb,hg,TInDef.enc_eq,m0,w0,m1,w1,m2,w2,m3,w3,t4,w4,w5,m6,w6,h7,h8,h9,ko,Out.bindR_ret]
  simp [hi,hc1,jr hi hl,g7,g8,g9,m0,w0,m1,w1,m2,w2,m3,w3,t4,w4,w5,m6,w6,h7,h8,h9]
theorem j5o (vs:List TInDef) (hs:∀ v ∈ vs,∀ k:Int,0 ≤ k → k + 30 * ((1 + jP (TInDef.enc v):Nat):Int) < 4611686018427387904 → ∃ (x':TInDef) (k':Int),(kT mT pe j7V TInDef.enc v k x' k' ∧ (∀ (l:List (List DC)) (i:Nat),i < l.length → l.length ≤ 9223372036854775807 → l.getD i []=TInDef.enc x' → kq [.sl l,.i k,.i (i:Int)] = .norm [.sl l,.i k',.i ((i + 1:Nat):Int)])) ∧ k ≤ k' ∧ k' ≤ k + 30 * ((1 + jP (TInDef.enc v):Nat):Int)) (k:Int) (h0:0 ≤ k) (hk:k + 30 * ((DC.wt (.sl (vs.map TInDef.enc)):Nat):Int) < 4611686018427387904):∃ (vs':List TInDef) (k':Int),Mk mT pe 28 (vs.map TInDef.enc) k (vs'.map TInDef.enc) k' ∧ k ≤ k' ∧ k' ≤ k + 30 * ((DC.wt (.sl (vs.map TInDef.enc)):Nat):Int) ∧ pJ [.sl (vs'.map TInDef.enc),.i k] = .ret [.i k']:=by
 obtain ⟨vs',k',m,b1,b2,c⟩:=zM (Q:=fun k x' k'=>∀ (l:List (List DC)) (i:Nat),i < l.length → l.length ≤ 9223372036854775807 → l.getD i []=TInDef.enc x' → kq [.sl l,.i k,.i (i:Int)] = .norm [.sl l,.i k',.i ((i + 1:Nat):Int)]) (f:=28) (ms:=j7V) rfl vs hs h0 hk
 refine ⟨vs',k',m,b1,b2,?_⟩
 have hl:vs.length ≤ DC.wt (.sl (vs.map TInDef.enc)):=by simp [DC.wt]
 have hc:=c.len
 have key:jK kq [.sl (vs'.map TInDef.enc),.i k,.i (0:Int)] = .ex 0 [.i k']:=yI c (fun l k=>by simp [kq]) [] (by simp only [jk]; omega)
 rw [Ye]
 simp only [Q6,List.getD_cons_zero,List.getD_cons_succ,DC.bb_b,DC.ii_i,DC.ss_s,DC.ll_sl,key,ja]
 rfl
theorem j2u (vs:List TInDef) (k:Int) (h0:0 ≤ k) (hk:k + 30 * ((DC.wt (.sl (vs.map TInDef.enc)):Nat):Int) < 4611686018427387904):∃ (vs':List TInDef) (k':Int),Mk mT pe 28 (vs.map TInDef.enc) k (vs'.map TInDef.enc) k' ∧ k ≤ k' ∧ k' ≤ k + 30 * ((DC.wt (.sl (vs.map TInDef.enc)):Nat):Int) ∧ pJ [.sl (vs'.map TInDef.enc),.i k] = .ret [.i k']:=j5o vs (fun v _=>j8a v) k h0 hk
theorem j4i (v:TFieldDef):∀ k:Int,0 ≤ k → k + 30 * ((1 + jP (TFieldDef.enc v):Nat):Int) < 4611686018427387904 → ∃ (x':TFieldDef) (k':Int),(kT mT pe j7W TFieldDef.enc v k x' k' ∧ (∀ (l:List (List DC)) (i:Nat),i < l.length → l.length ≤ 9223372036854775807 → l.getD i []=TFieldDef.enc x' → ke [.sl l,.i k,.i (i:Int)] = .norm [.sl l,.i k',.i ((i + 1:Nat):Int)])) ∧ k ≤ k' ∧ k' ≤ k + 30 * ((1 + jP (TFieldDef.enc v):Nat):Int):=by
 intro k h0 hk
 rw [pO,J7] at hk
 rw [pO,J7]
 obtain ⟨a2,k2,⟨n2,e2⟩,b2,c2,h2⟩:=j2u v.args (k + 1 + 1) (by omega) (by omega)
 obtain ⟨a5,k5,⟨n5,e5⟩,b5,c5,h5⟩:=j0r v.dirs (k2 + 1 + 1) (by omega) (by omega)
 refine ⟨⟨zA (k),zA (k + 1),a2,⟨zA (k2),zA (k2 + 1)⟩,a5⟩,k5,⟨⟨n2 + n5,fun m hm r=>?_⟩,?_⟩,by omega,by omega⟩
 ·refine ⟨k5,?_⟩
  rw [TFieldDef.enc_eq,TFieldDef.enc_eq]
  refine jR (s:=zA (k)) rfl (jH (by omega) ?_)
  refine jR (s:=zA (k + 1)) rfl (jH (by omega) ?_)
  refine ka (l:=v.args.map TInDef.enc) rfl (pA (by omega) e2) (jZ ⟨by omega,by omega⟩ ?_)
  refine jR (s:=zA (k2)) rfl (jH (by omega) ?_)
  refine jR (s:=zA (k2 + 1)) rfl (jH (by omega) ?_)
  refine ka (l:=v.dirs.map TDir.enc) rfl (pA (by omega) e5) (jZ ⟨by omega,by omega⟩ ?_)
  exact rfl
 ·intro l i hi hl hg
  have m0:jz [.i (k)] = .ret [.s (zA (k))]:=qi (by omega) (by omega)
  have w0:IntKind.i64.wrap (k + 1)=k + 1:=jM (by omega) (by omega)
  have m1:jz [.i (k + 1)] = .ret [.s (zA (k + 1))]:=qi (by omega) (by omega)
  have w1:IntKind.i64.wrap (k + 1 + 1)=k + 1 + 1:=jM (by omega) (by omega)
  have g2:¬ k2 < 0:=by omega
  have m3:jz [.i (k2)] = .ret [.s (zA (k2))]:=qi (by omega) (by omega)
  have w3:IntKind.i64.wrap (k2 + 1)=k2 + 1:=jM (by omega) (by omega)
  have m4:jz [.i (k2 + 1)] = .ret [.s (zA (k2 + 1))]:=qi (by omega) (by omega)
  have w4:IntKind.i64.wrap (k2 + 1 + 1)=k2 + 1 + 1:=jM (by omega) (by omega)
  have g5:¬ k5 < 0:=by omega
  have hc1:(i:Int) < (l.length:Int):=by omega
  simp only [ke,List.getD_cons_zero,List.getD_cons_succ,DC.bb_b,DC.ii_i,DC.ss_s,DC.ll_sl,jb,hg,TFieldDef.enc_eq,m0,w0,m1,w1,h2,m3,w3,m4,w4,h5,ko,Out.bindR_ret]
  simp [hi,hc1,jr hi hl,g2,g5,m0,w0,m1,w1,h2,m3,w3,m4,w4,h5]
theorem j1J (vs:List TFieldDef) (hs:∀ v ∈ vs,∀ k:Int,0 ≤ k → k + 30 * ((1 + jP (TFieldDef.enc v):Nat):Int) < 4611686018427387904 → ∃ (x':TFieldDef) (k':Int),(kT mT pe j7W TFieldDef.enc v k x' k' ∧ (∀ (l:List (List DC)) (i:Nat),i < l.length → l.length ≤ 9223372036854775807 → l.getD i []=TFieldDef.enc x' → ke [.sl l,.i k,.i (i:Int)] = .norm [.sl l,.i k',.i ((i + 1:Nat):Int)])) ∧ k ≤ k' ∧ k' ≤ k + 30 * ((1 + jP (TFieldDef.enc v):Nat):Int)) (k:Int) (h0:0 ≤ k) (hk:k + 30 * ((DC.wt (.sl (vs.map TFieldDef.enc)):Nat):Int) < 4611686018427387904):∃ (vs':List TFieldDef) (k':Int),Mk mT pe 27 (vs.map TFieldDef.enc) k (vs'.map TFieldDef.enc) k' ∧ k ≤ k' ∧ k' ≤ k + 30 * ((DC.wt (.sl (vs.map TFieldDef.enc)):Nat):Int) ∧ pK [.sl (vs'.map TFieldDef.enc),.i k] = .ret [.i k']:=by
 obtain ⟨vs',k',m,b1,b2,c⟩:=zM (Q:=fun k x' k'=>∀ (l:List (List DC)) (i:Nat),i < l.length → l.length ≤ 9223372036854775807 → l.getD i []=TFieldDef.enc x' → ke [.sl l,.i k,.i (i:Int)] = .norm [.sl l,.i k',.i ((i + 1:Nat):Int)]) (f:=27) (ms:=j7W) rfl vs hs h0 hk
 refine ⟨vs',k',m,b1,b2,?_⟩
 have hl:vs.length ≤ DC.wt (.sl (vs.map TFieldDef.enc)):=by simp [DC.wt]
 have hc:=c.len
 have key:jK ke [.sl (vs'.map TFieldDef.enc),.i k,.i (0:Int)] = .ex 0 [.i k']:=yI c (fun l k=>by simp [ke]) [] (by simp only [jk]; omega)
 rw [Vv]
 simp only [JG,List.getD_cons_zero,List.getD_cons_succ,DC.bb_b,DC.ii_i,DC.ss_s,DC.ll_sl,key,ja]
 rfl
theorem j3l (vs:List TFieldDef) (k:Int) (h0:0 ≤ k) (hk:k + 30 * ((DC.wt (.sl (vs.map TFieldDef.enc)):Nat):Int) < 4611686018427387904):∃ (vs':List TFieldDef) (k':Int),Mk mT pe 27 (vs.map TFieldDef.enc) k (vs'.map TFieldDef.enc) k' ∧ k ≤ k' ∧ k' ≤ k + 30 * ((DC.wt (.sl (vs.map TFieldDef.enc)):Nat):Int) ∧ pK [.sl (vs'.map TFieldDef.enc),.i k] = .ret [.i k']:=j1J vs (fun v _=>j4i v) k h0 hk
theorem j5n (v:TEnumDef):∀ k:Int,0 ≤ k → k + 30 * ((1 + jP (TEnumDef.enc v):Nat):Int) < 4611686018427387904 → ∃ (x':TEnumDef) (k':Int),(kT mT pe j7U TEnumDef.enc v k x' k' ∧ (∀ (l:List (List DC)) (i:Nat),i < l.length → l.length ≤ 9223372036854775807 → l.getD i []=TEnumDef.enc x' → ki [.sl l,.i k,.i (i:Int)] = .norm [.sl l,.i k',.i ((i + 1:Nat):Int)])) ∧ k ≤ k' ∧ k' ≤ k + 30 * ((1 + jP (TEnumDef.enc v):Nat):Int):=by
 intro k h0 hk
 rw [qp] at hk
 rw [qp]
 obtain ⟨a2,k2,⟨n2,e2⟩,b2,c2,h2⟩:=j0r v.dirs (k + 1 + 1) (by omega) (by omega)
 refine ⟨⟨zA (k),zA (k + 1),a2⟩,k2,⟨⟨n2,fun m hm r=>?_⟩,?_⟩,by omega,by omega⟩
 ·refine ⟨k2,?_⟩
  rw [TEnumDef.enc_eq,TEnumDef.enc_eq]
  refine jR (s:=zA (k)) rfl (jH (by omega) ?_)
  refine jR (s:=zA (k + 1)) rfl (jH (by omega) ?_)
  refine ka (l:=v.dirs.map TDir.enc) rfl (pA (by omega) e2) (jZ ⟨by omega,by omega⟩ ?_)
  exact rfl
 ·intro l i hi hl hg
  have m0:jz [.i (k)] = .ret [.s (zA (k))]:=qi (by omega) (by omega)
  have w0:IntKind.i64.wrap (k + 1)=k + 1:=jM (by omega) (by omega)
  have m1:jz [.i (k + 1)] = .ret [.s (zA (k + 1))]:=qi (by omega) (by omega)
  have w1:IntKind.i64.wrap (k + 1 + 1)=k + 1 + 1:=jM (by omega) (by omega)
  have g2:¬ k2 < 0:=by omega
  have hc1:(i:Int) < (l.length:Int):=by omega
  simp only [ki,List.getD_cons_zero,List.getD_cons_succ,DC.bb_b,DC.ii_i,DC.ss_s,DC.ll_sl,jb,hg,TEnumDef.enc_eq,m0,w0,m1,w1,h2,ko,Out.bindR_ret]
  simp [hi,hc1,jr hi hl,g2,m0,w0,m1,w1,h2]
theorem j3m (vs:List TEnumDef) (hs:∀ v ∈ vs,∀ k:Int,0 ≤ k → k + 30 * ((1 + jP (TEnumDef.enc v):Nat):Int) < 4611686018427387904 → ∃ (x':TEnumDef) (k':Int),(kT mT pe j7U TEnumDef.enc v k x' k' ∧ (∀ (l:List (List DC)) (i:Nat),i < l.length → l.length ≤ 9223372036854775807 → l.getD i []=TEnumDef.enc x' → ki [.sl l,.i k,.i (i:Int)] = .norm [.sl l,.i k',.i ((i + 1:Nat):Int)])) ∧ k ≤ k' ∧ k' ≤ k + 30 * ((1 + jP (TEnumDef.enc v):Nat):Int)) (k:Int) (h0:0 ≤ k) (hk:k + 30 * ((DC.wt (.sl (vs.map TEnumDef.enc)):Nat):Int) < 4611686018427387904):∃ (vs':List TEnumDef) (k':Int),Mk mT pe 29 (vs.map TEnumDef.enc) k (vs'.map TEnumDef.enc) k' ∧ k ≤ k' ∧ k' ≤ k + 30 * ((DC.wt (.sl (vs.map TEnumDef.enc)):Nat):Int) ∧ pX [.sl (vs'.map TEnumDef.enc),.i k] = .ret [.i k']:=by
 obtain ⟨vs',k',m,b1,b2,c⟩:=zM (Q:=fun k x' k'=>∀ (l:List (List DC)) (i:Nat),i < l.length → l.length ≤ 9223372036854775807 → l.getD i []=TEnumDef.enc x' → ki [.sl l,.i k,.i (i:Int)] = .norm [.sl l,.i k',.i ((i + 1:Nat):Int)]) (f:=29) (ms:=j7U) rfl vs hs h0 hk
 refine ⟨vs',k',m,b1,b2,?_⟩
 have hl:vs.length ≤ DC.wt (.sl (vs.map TEnumDef.enc)):=by simp [DC.wt]
 have hc:=c.len
 have key:jK ki [.sl (vs'.map TEnumDef.enc),.i k,.i (0:Int)] = .ex 0 [.i k']:=yI c (fun l k=>by simp [ki]) [] (by simp only [jk]; omega)
 rw [VO]
 simp only [K4,List.getD_cons_zero,List.getD_cons_succ,DC.bb_b,DC.ii_i,DC.ss_s,DC.ll_sl,key,ja]
 rfl
theorem j4l (vs:List TEnumDef) (k:Int) (h0:0 ≤ k) (hk:k + 30 * ((DC.wt (.sl (vs.map TEnumDef.enc)):Nat):Int) < 4611686018427387904):∃ (vs':List TEnumDef) (k':Int),Mk mT pe 29 (vs.map TEnumDef.enc) k (vs'.map TEnumDef.enc) k' ∧ k ≤ k' ∧ k' ≤ k + 30 * ((DC.wt (.sl (vs.map TEnumDef.enc)):Nat):Int) ∧ pX [.sl (vs'.map TEnumDef.enc),.i k] = .ret [.i k']:=j3m vs (fun v _=>j5n v) k h0 hk
theorem j9c (v:TRoot):∀ k:Int,0 ≤ k → k + 30 * ((1 + jP (TRoot.enc v):Nat):Int) < 4611686018427387904 → ∃ (x':TRoot) (k':Int),(kT mT pe j7T TRoot.enc v k x' k' ∧ (∀ (l:List (List DC)) (i:Nat),i < l.length → l.length ≤ 9223372036854775807 → l.getD i []=TRoot.enc x' → ky [.sl l,.i k,.i (i:Int)] = .norm [.sl l,.i k',.i ((i + 1:Nat):Int)])) ∧ k ≤ k' ∧ k' ≤ k + 30 * ((1 + jP (TRoot.enc v):Nat):Int):=by
 intro k h0 hk
 rw [Qm] at hk
 rw [Qm]
 refine ⟨⟨k,zA (k + 1)⟩,k + 1 + 1,⟨⟨0,fun m hm r=>?_⟩,?_⟩,by omega,by omega⟩
 ·refine ⟨r,?_⟩
  rw [TRoot.enc_eq,TRoot.enc_eq]
  refine JB (jH (by omega) ?_)
  refine jR (s:=zA (k + 1)) rfl (jH (by omega) ?_)
  exact rfl
 ·intro l i hi hl hg
  have w0:IntKind.i64.wrap (k + 1)=k + 1:=jM (by omega) (by omega)
  have m1:jz [.i (k + 1)] = .ret [.s (zA (k + 1))]:=qi (by omega) (by omega)
  have w1:IntKind.i64.wrap (k + 1 + 1)=k + 1 + 1:=jM (by omega) (by omega)
  have hc1:(i:Int) < (l.length:Int):=by omega
  simp only [ky,List.getD_cons_zero,List.getD_cons_succ,DC.bb_b,DC.ii_i,DC.ss_s,DC.ll_sl,jb,hg,TRoot.enc_eq,w0,m1,w1,ko,Out.bindR_ret]
  simp [hi,hc1,jr hi hl,w0,m1,w1]
theorem j6v (vs:List TRoot) (hs:∀ v ∈ vs,∀ k:Int,0 ≤ k → k + 30 * ((1 + jP (TRoot.enc v):Nat):Int) < 4611686018427387904 → ∃ (x':TRoot) (k':Int),(kT mT pe j7T TRoot.enc v k x' k' ∧ (∀ (l:List (List DC)) (i:Nat),i < l.length → l.length ≤ 9223372036854775807 → l.getD i []=TRoot.enc x' → ky [.sl l,.i k,.i (i:Int)] = .norm [.sl l,.i k',.i ((i + 1:Nat):Int)])) ∧ k ≤ k' ∧ k' ≤ k + 30 * ((1 + jP (TRoot.enc v):Nat):Int)) (k:Int) (h0:0 ≤ k) (hk:k + 30 * ((DC.wt (.sl (vs.map TRoot.enc)):Nat):Int) < 4611686018427387904):∃ (vs':List TRoot) (k':Int),Mk mT pe 30 (vs.map TRoot.enc) k (vs'.map TRoot.enc) k' ∧ k ≤ k' ∧ k' ≤ k + 30 * ((DC.wt (.sl (vs.map TRoot.enc)):Nat):Int) ∧ qg [.sl (vs'.map TRoot.enc),.i k] = .ret [.i k']:=by
 obtain ⟨vs',k',m,b1,b2,c⟩:=zM (Q:=fun k x' k'=>∀ (l:List (List DC)) (i:Nat),i < l.length → l.length ≤ 9223372036854775807 → l.getD i []=TRoot.enc x' → ky [.sl l,.i k,.i (i:Int)] = .norm [.sl l,.i k',.i ((i + 1:Nat):Int)]) (f:=30) (ms:=j7T) rfl vs hs h0 hk
 refine ⟨vs',k',m,b1,b2,?_⟩
 have hl:vs.length ≤ DC.wt (.sl (vs.map TRoot.enc)):=by simp [DC.wt]
 have hc:=c.len
 have key:jK ky [.sl (vs'.map TRoot.enc),.i k,.i (0:Int)] = .ex 0 [.i k']:=yI c (fun l k=>by simp [ky]) [] (by simp only [jk]; omega)
 rw [YL]
 simp only [QF,List.getD_cons_zero,List.getD_cons_succ,DC.bb_b,DC.ii_i,DC.ss_s,DC.ll_sl,key,ja]
 rfl
theorem j4k (vs:List TRoot) (k:Int) (h0:0 ≤ k) (hk:k + 30 * ((DC.wt (.sl (vs.map TRoot.enc)):Nat):Int) < 4611686018427387904):∃ (vs':List TRoot) (k':Int),Mk mT pe 30 (vs.map TRoot.enc) k (vs'.map TRoot.enc) k' ∧ k ≤ k' ∧ k' ≤ k + 30 * ((DC.wt (.sl (vs.map TRoot.enc)):Nat):Int) ∧ qg [.sl (vs'.map TRoot.enc),.i k] = .ret [.i k']:=j6v vs (fun v _=>j9c v) k h0 hk
theorem ja3 (v:TDef):∀ k:Int,0 ≤ k → k + 30 * ((1 + jP (TDef.enc v):Nat):Int) < 4611686018427387904 → ∃ (x':TDef) (k':Int),(kT mT pe j7Y TDef.enc v k x' k' ∧ (∀ (l:List (List DC)) (i:Nat),i < l.length → l.length ≤ 9223372036854775807 → l.getD i []=TDef.enc x' → kL [.sl l,.i k,.i (i:Int)] = .norm [.sl l,.i k',.i ((i + 1:Nat):Int)])) ∧ k ≤ k' ∧ k' ≤ k + 30 * ((1 + jP (TDef.enc v):Nat):Int):=by
 intro k h0 hk
 rw [zB] at hk
 rw [zB]
 obtain ⟨a4,k4,⟨n4,e4⟩,b4,c4,h4⟩:=QX v.faces (k + 1 + 1 + 1 + 1) (by omega) (by omega)
 obtain ⟨a5,k5,⟨n5,e5⟩,b5,c5,h5⟩:=j3l v.fields (k4) (by omega) (by omega)
 obtain ⟨a6,k6,⟨n6,e6⟩,b6,c6,h6⟩:=j2u v.inputs (k5) (by omega) (by omega)
 obtain ⟨a7,k7,⟨n7,e7⟩,b7,c7,h7⟩:=j4l v.values (k6) (by omega) (by omega)
 obtain ⟨a8,k8,⟨n8,e8⟩,b8,c8,h8⟩:=j4k v.roots (k7) (by omega) (by omega)
 obtain ⟨a10,k10,⟨n10,e10⟩,b10,c10,h10⟩:=j0r v.dirs (k8 + 1) (by omega) (by omega)
 refine ⟨⟨k,(k + 1) % 3 == 0,zA (k + 1 + 1),zA (k + 1 + 1 + 1),a4,a5,a6,a7,a8,(k8) % 3 == 0,a10⟩,k10,⟨⟨n4 + n5 + n6 + n7 + n8 + n10,fun m hm r=>?_⟩,?_⟩,by omega,by omega⟩
 ·refine ⟨k10,?_⟩
  rw [TDef.enc_eq,TDef.enc_eq]
  refine JB (jH (by omega) ?_)
  refine QO (jH (by omega) ?_)
  refine jR (s:=zA (k + 1 + 1)) rfl (jH (by omega) ?_)
  refine jR (s:=zA (k + 1 + 1 + 1)) rfl (jH (by omega) ?_)
  refine ka (l:=v.faces.map S1) rfl (pA (by omega) e4) (jZ ⟨by omega,by omega⟩ ?_)
  refine ka (l:=v.fields.map TFieldDef.enc) rfl (pA (by omega) e5) (jZ ⟨by omega,by omega⟩ ?_)
  refine ka (l:=v.inputs.map TInDef.enc) rfl (pA (by omega) e6) (jZ ⟨by omega,by omega⟩ ?_)
  refine ka (l:=v.values.map TEnumDef.enc) rfl (pA (by omega) e7) (jZ ⟨by omega,by omega⟩ ?_)
  refine ka (l:=v.roots.map TRoot.enc) rfl (pA (by omega) e8) (jZ ⟨by omega,by omega⟩ ?_)
  refine QO (jH (by omega) ?_)
  refine ka (l:=v.dirs.map TDir.enc) rfl (pA (by omega) e10) (jZ ⟨by omega,by omega⟩ ?_)
  exact rfl
 ·intro l i hi hl hg
  have w0:IntKind.i64.wrap (k + 1)=k + 1:=jM (by omega) (by omega)
  have t1:Int.tmod (k + 1) 3=(k + 1) % 3:=Int.tmod_eq_emod_of_nonneg (by omega)
  have w1:IntKind.i64.wrap (k + 1 + 1)=k + 1 + 1:=jM (by omega) (by omega)
  have m2:jz [.i (k + 1 + 1)] = .ret [.s (zA (k + 1 + 1))]:=qi (by omega) (by omega)
  have w2:IntKind.i64.wrap (k + 1 + 1 + 1)=k + 1 + 1 + 1:=jM (by omega) (by omega)
  have m3:jz [.i (k + 1 + 1 + 1)] = .ret [.s (zA (k + 1 + 1 + 1))]:=qi (by omega) (by omega)
  have w3:IntKind.i64.wrap (k + 1 + 1 + 1 + 1)=k + 1 + 1 + 1 + 1:=jM (by omega) (by omega)
  have g4:¬ k4 < 0:=by omega
  have g5:¬ k5 < 0:=by omega
  have g6:¬ k6 < 0:=by omega
  have g7:¬ k7 < 0:=by omega
  have g8:¬ k8 < 0:=by omega
  have t9:Int.tmod (k8) 3=(k8) % 3:=Int.tmod_eq_emod_of_nonneg (by omega)
  have w9:IntKind.i64.wrap (k8 + 1)=k8 + 1:=jM (by omega) (by omega)
  have g10:¬ k10 < 0:=by omega
  have hc1:(i:Int) < (l.length:Int):=by omega
  simp only [kL,List.getD_cons_zero,List.getD_cons_succ,DC.bb_b,DC.ii_i,DC.ss_s,DC.ll_sl,jb,hg,TDef.enc_eq,w0,t1,w1,m2,w2,m3,w3,h4,h5,h6,h7,h8,t9,w9,h10,ko,Out.bindR_ret]
  simp [hi,hc1,jr hi hl,g4,g5,g6,g7,g8,g10,w0,t1,w1,m2,w2,m3,w3,h4,h5,h6,h7,h8,t9,w9,h10]
theorem j8c (vs:List TDef) (hs:∀ v ∈ vs,∀ k:Int,0 ≤ k → k + 30 * ((1 + jP (TDef.enc v):Nat):Int) < 4611686018427387904 → ∃ (x':TDef) (k':Int),(kT mT pe j7Y TDef.enc v k x' k' ∧ (∀ (l:List (List DC)) (i:Nat),i < l.length → l.length ≤ 9223372036854775807 → l.getD i []=TDef.enc x' → kL [.sl l,.i k,.i (i:Int)] = .norm [.sl l,.i k',.i ((i + 1:Nat):Int)])) ∧ k ≤ k' ∧ k' ≤ k + 30 * ((1 + jP (TDef.enc v):Nat):Int)) (k:Int) (h0:0 ≤ k) (hk:k + 30 * ((DC.wt (.sl (vs.map TDef.enc)):Nat):Int) < 4611686018427387904):∃ (vs':List TDef) (k':Int),Mk mT pe 10 (vs.map TDef.enc) k (vs'.map TDef.enc) k' ∧ k ≤ k' ∧ k' ≤ k + 30 * ((DC.wt (.sl (vs.map TDef.enc)):Nat):Int) ∧ qJ [.sl (vs'.map TDef.enc),.i k] = .ret [.i k']:=by
 obtain ⟨vs',k',m,b1,b2,c⟩:=zM (Q:=fun k x' k'=>∀ (l:List (List DC)) (i:Nat),i < l.length → l.length ≤ 9223372036854775807 → l.getD i []=TDef.enc x' → kL [.sl l,.i k,.i (i:Int)] = .norm [.sl l,.i k',.i ((i + 1:Nat):Int)]) (f:=10) (ms:=j7Y) rfl vs hs h0 hk
 refine ⟨vs',k',m,b1,b2,?_⟩
 have hl:vs.length ≤ DC.wt (.sl (vs.map TDef.enc)):=by simp [DC.wt]
 have hc:=c.len
 have key:jK kL [.sl (vs'.map TDef.enc),.i k,.i (0:Int)] = .ex 0 [.i k']:=yI c (fun l k=>by simp [kL]) [] (by simp only [jk]; omega)
 rw [Zx]
 simp only [Vi,List.getD_cons_zero,List.getD_cons_succ,DC.bb_b,DC.ii_i,DC.ss_s,DC.ll_sl,key,ja]
 rfl
theorem j3n (vs:List TDef) (k:Int) (h0:0 ≤ k) (hk:k + 30 * ((DC.wt (.sl (vs.map TDef.enc)):Nat):Int) < 4611686018427387904):∃ (vs':List TDef) (k':Int),Mk mT pe 10 (vs.map TDef.enc) k (vs'.map TDef.enc) k' ∧ k ≤ k' ∧ k' ≤ k + 30 * ((DC.wt (.sl (vs.map TDef.enc)):Nat):Int) ∧ qJ [.sl (vs'.map TDef.enc),.i k] = .ret [.i k']:=j8c vs (fun v _=>ja3 v) k h0 hk
theorem j5m (v:TSchema) (k:Int) (h0:0 ≤ k) (hk:k + 30 * ((jP (TSchema.enc v):Nat):Int) < 4611686018427387904):∃ (x0:List TDef) (x1:List TDef) (x2:List TRoot) (k':Int),j4h mT pe [10,10,30] [v.types.map TDef.enc,v.dirs.map TDef.enc,v.roots.map TRoot.enc] k=some ([x0.map TDef.enc,x1.map TDef.enc,x2.map TRoot.enc],k') ∧ k ≤ k' ∧ k' ≤ k + 30 * ((jP (TSchema.enc v):Nat):Int) ∧ pI [.sl (x0.map TDef.enc),.sl (x1.map TDef.enc),.sl (x2.map TRoot.enc),.i k] = .ret [.i k']:=by
 rw [Vx] at hk
 rw [Vx]
 obtain ⟨a0,k0,⟨n0,e0⟩,b0,c0,h0⟩:=j3n v.types (k) (by omega) (by omega)
 obtain ⟨a1,k1,⟨n1,e1⟩,b1,c1,h1⟩:=j3n v.dirs (k0) (by omega) (by omega)
 obtain ⟨a2,k2,⟨n2,e2⟩,b2,c2,h2⟩:=j4k v.roots (k1) (by omega) (by omega)
 refine ⟨a0,a1,a2,k2,j83 (n:=n0 + n1 + n2) ?_,by omega,by omega,?_⟩
 ·simp only [mkA,pA (show n0 ≤ n0 + n1 + n2 by omega) e0,pA (show n1 ≤ n0 + n1 + n2 by omega) e1,pA (show n2 ≤ n0 + n1 + n2 by omega) e2]
 ·have g0:¬ k0 < 0:=by omega
  have g1:¬ k1 < 0:=by omega
  have g2:¬ k2 < 0:=by omega
  rw [Yd]
  simp only [Q5,List.getD_cons_zero,List.getD_cons_succ,DC.bb_b,DC.ii_i,DC.ss_s,DC.ll_sl,h0,h1,h2,Out.bindR_ret]
  simp [g0,g1,g2,h0,h1,h2]
theorem yc {n:Nat} (h:n ≤ 1048576):n + 1 < kC:=by unfold kC; omega
theorem j10 {n:Nat} (h:n ≤ 1048576):0 + n < kC:=by unfold kC; omega
theorem Ji {α β:Type} {f:α → β} {l:List α} {j:Nat} (h:j < l.length):(l.take (j + 1)).map f=(l.take j).map f ++ [f l[j]]:=by
 rw [List.take_succ_eq_append_getElem h,List.map_append]
 rfl
theorem j2I {α:Type} {enc:α → List DC} {vs:List α} {F:List DC → Out} (hF:∀ (i:Nat) (hi:i < vs.length),F [.sl (vs.map enc),.sl ((vs.take i).map enc),.i (i:Int)] = .norm [.sl (vs.map enc),.sl ((vs.take i).map enc ++ [enc vs[i]]),.i ((i + 1:Nat):Int)])
  (hend:F [.sl (vs.map enc),.sl (vs.map enc),.i (vs.length:Int)] = .ex 0 [.sl (vs.map enc)]):jK F [.sl (vs.map enc),.sl [],.i (0:Int)] = .ex 0 [.sl (vs.map enc)]:=by
 have key:=Jd (F:=F) (st:=fun i=>[.sl (vs.map enc),.sl ((vs.take i).map enc),.i (i:Int)]) (o:=.ex 0 [.sl (vs.map enc)]) vs.length 0 (fun j _ hj=>by
  have hi:j < vs.length:=by omega
  rw [Ji hi]
  exact hF j hi) (kH (by rw [Nat.zero_add,List.take_length]; exact hend))
 exact key
theorem j2H {α:Type} {enc:α → List DC} {vs:List α} {F:List DC → Out} (hF:∀ (i:Nat) (hi:i < vs.length),F [.sl ((vs.take i).map enc),.sl (vs.map enc),.i ((vs.map enc).length:Int),.i (i:Int)] = .norm [.sl ((vs.take i).map enc ++ [enc vs[i]]),.sl (vs.map enc),.i ((vs.map enc).length:Int),.i ((i + 1:Nat):Int)])
  (hend:F [.sl (vs.map enc),.sl (vs.map enc),.i ((vs.map enc).length:Int),.i (vs.length:Int)] = .ex 0 [.sl (vs.map enc)]):jK F [.sl [],.sl (vs.map enc),.i ((vs.map enc).length:Int),.i (0:Int)] = .ex 0 [.sl (vs.map enc)]:=by
 have key:=Jd (F:=F) (st:=fun i=>[.sl ((vs.take i).map enc),.sl (vs.map enc),.i ((vs.map enc).length:Int),.i (i:Int)]) (o:=.ex 0 [.sl (vs.map enc)]) vs.length 0 (fun j _ hj=>by
  have hi:j < vs.length:=by omega
  rw [Ji hi]
  exact hF j hi) (kH (by rw [Nat.zero_add,List.take_length]; exact hend))
 exact key
theorem V9 (v:TValue):jP (TValue.enc v) ≤ 1048576 → yo [.i v.kind,.s v.text,.sl (v.items.map TValue.enc),.sl (v.names.map S1)] = .ret (TValue.enc v):=by
 induction v using TValue.ind with | h v ih =>
 intro hw
 rw [pw] at hw
 have hn:v.names.length ≤ 1048576:=by have h:=hw; simp only [DC.wt,List.length_map] at h; omega
 have hl:v.items.length ≤ 1048576:=by have h:=hw; simp only [DC.wt,List.length_map] at h; omega
 rw [j06]
 simp only [X0,List.getD_cons_zero,List.getD_cons_succ,DC.bb_b,DC.ii_i,DC.ss_s,DC.ll_sl,List.length_map,jk]
 rw [if_pos (j10 hn)]
 have key:=Jd (F:=qm) (st:=fun i=>[.i (i:Int),.i v.kind,.s v.text,.sl (v.items.map TValue.enc),.sl (v.names.map S1),.i 0,.s [],.i v.kind,.s v.text,.sl ((v.items.take i).map TValue.enc),.sl (v.names.map S1)]) (o:=.ex 0 [.i 0,.s [],.i v.kind,.s v.text,.sl (v.items.map TValue.enc),.sl (v.names.map S1)]) v.items.length 0 (fun j _ hj=>?step) ?fin
 ·have key':jK qm [.i 0,.i v.kind,.s v.text,.sl (v.items.map TValue.enc),.sl (v.names.map S1),.i 0,.s [],.i v.kind,.s v.text,.sl [],.sl ([] ++ v.names.map S1)] = .ex 0 [.i 0,.s [],.i v.kind,.s v.text,.sl (v.items.map TValue.enc),.sl (v.names.map S1)]:=key
  rw [key',TValue.enc_eq]
  simp [ja]
 case step =>
  have hi:j < v.items.length:=by omega
  have hc1:(j:Int) < (v.items.length:Int):=by omega
  have hv:=ih v.items[j] (jc hi) (by have:=jU (je (f:=TValue.enc) (jc hi)); rw [DC.wt] at hw; omega)
  have hL:j + 1 < kC:=yc (by omega)
  have hm:min j v.items.length=j:=by omega
  rw [Ji hi]
  simp only [qm,List.getD_cons_zero,List.getD_cons_succ,DC.bb_b,DC.ii_i,DC.ss_s,DC.ll_sl,jb,List.length_map,js hi,TValue.enc_eq v.items[j],hv,Out.bindR_ret,List.length_take,hm]
  simp [hi,hc1,hL,ja,jr hi (show v.items.length ≤ 9223372036854775807 by omega),TValue.enc_eq v.items[j]]
 case fin =>
  refine kH ?_
  rw [Nat.zero_add,List.take_length]
  simp [qm]
theorem ZJ (vs:List TArg) (hw:DC.wt (.sl (vs.map TArg.enc)) ≤ 1048576):Ks [.sl (vs.map TArg.enc)] = .ret [.sl (vs.map TArg.enc)]:=by
 have hl:vs.length ≤ 1048576:=by rw [DC.wt,List.length_map] at hw; omega
 rw [j05]
 simp only [VZ,List.getD_cons_zero,DC.ll_sl]
 rw [j2I (F:=yP) (fun j hi=>?step) ?fin]
 ·rfl
 case step =>
  have hwj:jP (TArg.enc vs[j]) ≤ 1048576:=by have:=jU (je (f:=TArg.enc) (jc hi)); rw [DC.wt] at hw; omega
  rw [Km] at hwj
  have q0:=V9 vs[j].value (by omega)
  rw [TValue.enc_eq] at q0
  have hc1:(j:Int) < (vs.length:Int):=by omega
  have hL:j + 1 < kC:=yc (by omega)
  have hm:min j vs.length=j:=by omega
  simp only [yP,List.getD_cons_zero,List.getD_cons_succ,DC.bb_b,DC.ii_i,DC.ss_s,DC.ll_sl,jb,List.length_map,js hi,TArg.enc_eq vs[j],q0,Out.bindR_ret,List.length_take,hm]
  simp [hi,hc1,hL,ja,jr hi (show vs.length ≤ 9223372036854775807 by omega),TArg.enc_eq vs[j],js hi]
 case fin=>simp [yP]
theorem yL (vs:List TDir) (hw:DC.wt (.sl (vs.map TDir.enc)) ≤ 1048576):qd [.sl (vs.map TDir.enc)] = .ret [.sl (vs.map TDir.enc)]:=by
 have hl:vs.length ≤ 1048576:=by rw [DC.wt,List.length_map] at hw; omega
 rw [j04]
 simp only [VY,List.getD_cons_zero,DC.ll_sl]
 rw [j2I (F:=yO) (fun j hi=>?step) ?fin]
 ·rfl
 case step =>
  have hwj:jP (TDir.enc vs[j]) ≤ 1048576:=by have:=jU (je (f:=TDir.enc) (jc hi)); rw [DC.wt] at hw; omega
  rw [Kl] at hwj
  have q0:=ZJ vs[j].args (by omega)
  have hc1:(j:Int) < (vs.length:Int):=by omega
  have hL:j + 1 < kC:=yc (by omega)
  have hm:min j vs.length=j:=by omega
  simp only [yO,List.getD_cons_zero,List.getD_cons_succ,DC.bb_b,DC.ii_i,DC.ss_s,DC.ll_sl,jb,List.length_map,js hi,TDir.enc_eq vs[j],q0,Out.bindR_ret,List.length_take,hm]
  simp [hi,hc1,hL,ja,jr hi (show vs.length ≤ 9223372036854775807 by omega),TDir.enc_eq vs[j],js hi]
 case fin=>simp [yO]
theorem K3 (vs:List TInDef) (hw:DC.wt (.sl (vs.map TInDef.enc)) ≤ 1048576):qU [.sl (vs.map TInDef.enc)] = .ret [.sl (vs.map TInDef.enc)]:=by
 have hl:vs.length ≤ 1048576:=by rw [DC.wt,List.length_map] at hw; omega
 rw [Y7]
 simp only [KZ,List.getD_cons_zero,DC.ll_sl]
 rw [j2I (F:=qa) (fun j hi=>?step) ?fin]
 ·rfl
 case step =>
  have hwj:jP (TInDef.enc vs[j]) ≤ 1048576:=by have:=jU (je (f:=TInDef.enc) (jc hi)); rw [DC.wt] at hw; omega
  rw [zg] at hwj
  have q0:=V9 vs[j].default' (by omega)
  rw [TValue.enc_eq] at q0
  have q1:=yL vs[j].dirs (by omega)
  have hc1:(j:Int) < (vs.length:Int):=by omega
  have hL:j + 1 < kC:=yc (by omega)
  have hm:min j vs.length=j:=by omega
  simp only [qa,List.getD_cons_zero,List.getD_cons_succ,DC.bb_b,DC.ii_i,DC.ss_s,DC.ll_sl,jb,List.length_map,js hi,TInDef.enc_eq vs[j],q0,q1,Out.bindR_ret,List.length_take,hm]
  simp [hi,hc1,hL,ja,jr hi (show vs.length ≤ 9223372036854775807 by omega),TInDef.enc_eq vs[j],js hi]
 case fin=>simp [qa]
theorem V1 (vs:List TEnumDef) (hw:DC.wt (.sl (vs.map TEnumDef.enc)) ≤ 1048576):ym [.sl (vs.map TEnumDef.enc)] = .ret [.sl (vs.map TEnumDef.enc)]:=by
 have hl:vs.length ≤ 1048576:=by rw [DC.wt,List.length_map] at hw; omega
 rw [Vt]
 simp only [JE,List.getD_cons_zero,DC.ll_sl]
 rw [j2I (F:=pm) (fun j hi=>?step) ?fin]
 ·rfl
 case step =>
  have hwj:jP (TEnumDef.enc vs[j]) ≤ 1048576:=by have:=jU (je (f:=TEnumDef.enc) (jc hi)); rw [DC.wt] at hw; omega
  rw [qp] at hwj
  have q0:=yL vs[j].dirs (by omega)
  have hc1:(j:Int) < (vs.length:Int):=by omega
  have hL:j + 1 < kC:=yc (by omega)
  have hm:min j vs.length=j:=by omega
  simp only [pm,List.getD_cons_zero,List.getD_cons_succ,DC.bb_b,DC.ii_i,DC.ss_s,DC.ll_sl,jb,List.length_map,js hi,TEnumDef.enc_eq vs[j],q0,Out.bindR_ret,List.length_take,hm]
  simp [hi,hc1,hL,ja,jr hi (show vs.length ≤ 9223372036854775807 by omega),TEnumDef.enc_eq vs[j],js hi]
 case fin=>simp [pm]
theorem V2 (vs:List TFieldDef) (hw:DC.wt (.sl (vs.map TFieldDef.enc)) ≤ 1048576):yn [.sl (vs.map TFieldDef.enc)] = .ret [.sl (vs.map TFieldDef.enc)]:=by
 have hl:vs.length ≤ 1048576:=by rw [DC.wt,List.length_map] at hw; omega
 rw [Vu]
 simp only [JF,List.getD_cons_zero,DC.ll_sl]
 rw [j2I (F:=pn) (fun j hi=>?step) ?fin]
 ·rfl
 case step =>
  have hwj:jP (TFieldDef.enc vs[j]) ≤ 1048576:=by have:=jU (je (f:=TFieldDef.enc) (jc hi)); rw [DC.wt] at hw; omega
  rw [pO] at hwj
  have q0:=K3 vs[j].args (by omega)
  have q1:=yL vs[j].dirs (by omega)
  have hc1:(j:Int) < (vs.length:Int):=by omega
  have hL:j + 1 < kC:=yc (by omega)
  have hm:min j vs.length=j:=by omega
  simp only [pn,List.getD_cons_zero,List.getD_cons_succ,DC.bb_b,DC.ii_i,DC.ss_s,DC.ll_sl,jb,List.length_map,js hi,TFieldDef.enc_eq vs[j],q0,q1,Out.bindR_ret,List.length_take,hm]
  simp [hi,hc1,hL,ja,jr hi (show vs.length ≤ 9223372036854775807 by omega),TFieldDef.enc_eq vs[j],js hi]
 case fin=>simp [pn]
theorem j0i (v:TDef) (hw:jP (TDef.enc v) ≤ 1048576):Kr [.i v.kind,.b v.ext,.s v.desc,.s v.name,.sl (v.faces.map S1),.sl (v.fields.map TFieldDef.enc),.sl (v.inputs.map TInDef.enc),.sl (v.values.map TEnumDef.enc),.sl (v.roots.map TRoot.enc),.b v.repeat',.sl (v.dirs.map TDir.enc)] = .ret (TDef.enc v):=by
 rw [zB] at hw
 have u0:v.faces.length ≤ 1048576:=by have h:DC.wt (.sl (v.faces.map S1)) ≤ 1048576:=(by omega); rw [DC.wt,List.length_map] at h; omega
 have q0:=j10 u0
 have q1:=V2 v.fields (by omega)
 have q2:=K3 v.inputs (by omega)
 have q3:=V1 v.values (by omega)
 have u4:v.roots.length ≤ 1048576:=by have h:DC.wt (.sl (v.roots.map TRoot.enc)) ≤ 1048576:=(by omega); rw [DC.wt,List.length_map] at h; omega
 have q4:=j10 u4
 have q5:=yL v.dirs (by omega)
 rw [j03,TDef.enc_eq]
 simp only [VX,List.getD_cons_zero,List.getD_cons_succ,DC.bb_b,DC.ii_i,DC.ss_s,DC.ll_sl,q0,q1,q2,q3,q4,q5,Out.bindR_ret,List.length_map,jk,if_true,ju]
theorem KD (v:TValue):jP (TValue.enc v) ≤ 1048576 → pL [.i v.kind,.s v.text,.sl (v.items.map TValue.enc),.sl (v.names.map S1)] = .ret (TValue.enc v):=by
 induction v using TValue.ind with | h v ih =>
 intro hw
 rw [pw] at hw
 have hn:v.names.length ≤ 1048576:=by have h:=hw; simp only [DC.wt,List.length_map] at h; omega
 have hl:v.items.length ≤ 1048576:=by have h:=hw; simp only [DC.wt,List.length_map] at h; omega
 rw [Yh]
 simp only [Q9,List.getD_cons_zero,List.getD_cons_succ,DC.bb_b,DC.ii_i,DC.ss_s,DC.ll_sl,zS (v.names.map S1) (by rw [List.length_map]; omega),Out.bindR_ret]
 have key:=Jd (F:=pg) (st:=fun i=>[.sl (v.items.map TValue.enc),.i ((v.items.map TValue.enc).length:Int),.i (i:Int),.i 0,.s [],.i v.kind,.s v.text,.sl ((v.items.take i).map TValue.enc),.sl (v.names.map S1)]) (o:=.ex 0 [.i 0,.s [],.i v.kind,.s v.text,.sl (v.items.map TValue.enc),.sl (v.names.map S1)]) v.items.length 0 (fun j _ hj=>?step) ?fin
 ·have key':jK pg [.sl (v.items.map TValue.enc),.i ((v.items.map TValue.enc).length:Int),.i 0,.i 0,.s [],.i v.kind,.s v.text,.sl [],.sl (v.names.map S1)] = .ex 0 [.i 0,.s [],.i v.kind,.s v.text,.sl (v.items.map TValue.enc),.sl (v.names.map S1)]:=key
  rw [key',TValue.enc_eq]
  simp [ja]
 case step =>
  have hi:j < v.items.length:=by omega
  have hc1:(j:Int) < (v.items.length:Int):=by omega
  have hv:=ih v.items[j] (jc hi) (by have:=jU (je (f:=TValue.enc) (jc hi)); rw [DC.wt] at hw; omega)
  have hL:j + 1 < kC:=yc (by omega)
  have hm:min j v.items.length=j:=by omega
  rw [Ji hi]
  simp only [pg,List.getD_cons_zero,List.getD_cons_succ,DC.bb_b,DC.ii_i,DC.ss_s,DC.ll_sl,jb,List.length_map,js hi,TValue.enc_eq v.items[j],hv,Out.bindR_ret,List.length_take,hm]
  simp [hi,hc1,hL,ja,jr hi (show v.items.length ≤ 9223372036854775807 by omega),TValue.enc_eq v.items[j]]
 case fin =>
  refine kH ?_
  rw [Nat.zero_add,List.take_length]
  simp [pg]
theorem Yk (vs:List TArg) (hw:DC.wt (.sl (vs.map TArg.enc)) ≤ 1048576):Ja [.sl (vs.map TArg.enc)] = .ret [.sl (vs.map TArg.enc)]:=by
 have hl:vs.length ≤ 1048576:=by rw [DC.wt,List.length_map] at hw; omega
 rw [YR]
 simp only [QL,List.getD_cons_zero,DC.ll_sl]
 rw [j2H (F:=qE) (fun j hi=>?step) ?fin]
 ·rfl
 case step =>
  have hwj:jP (TArg.enc vs[j]) ≤ 1048576:=by have:=jU (je (f:=TArg.enc) (jc hi)); rw [DC.wt] at hw; omega
  rw [Km] at hwj
  have q0:=KD vs[j].value (by omega)
  rw [TValue.enc_eq] at q0
  have hc1:(j:Int) < (vs.length:Int):=by omega
  have hL:j + 1 < kC:=yc (by omega)
  have hm:min j vs.length=j:=by omega
  simp only [qE,List.getD_cons_zero,List.getD_cons_succ,DC.bb_b,DC.ii_i,DC.ss_s,DC.ll_sl,jb,List.length_map,js hi,TArg.enc_eq vs[j],q0,Out.bindR_ret,List.length_take,hm]
  simp [hi,hc1,hL,ja,jr hi (show vs.length ≤ 9223372036854775807 by omega),TArg.enc_eq vs[j],js hi]
 case fin=>simp [qE]
theorem qB (vs:List TDir) (hw:DC.wt (.sl (vs.map TDir.enc)) ≤ 1048576):pp [.sl (vs.map TDir.enc)] = .ret [.sl (vs.map TDir.enc)]:=by
 have hl:vs.length ≤ 1048576:=by rw [DC.wt,List.length_map] at hw; omega
 rw [YP]
 simp only [QJ,List.getD_cons_zero,DC.ll_sl]
 rw [j2H (F:=qC) (fun j hi=>?step) ?fin]
 ·rfl
 case step =>
  have hwj:jP (TDir.enc vs[j]) ≤ 1048576:=by have:=jU (je (f:=TDir.enc) (jc hi)); rw [DC.wt] at hw; omega
  rw [Kl] at hwj
  have q0:=Yk vs[j].args (by omega)
  have hc1:(j:Int) < (vs.length:Int):=by omega
  have hL:j + 1 < kC:=yc (by omega)
  have hm:min j vs.length=j:=by omega
  simp only [qC,List.getD_cons_zero,List.getD_cons_succ,DC.bb_b,DC.ii_i,DC.ss_s,DC.ll_sl,jb,List.length_map,js hi,TDir.enc_eq vs[j],q0,Out.bindR_ret,List.length_take,hm]
  simp [hi,hc1,hL,ja,jr hi (show vs.length ≤ 9223372036854775807 by omega),TDir.enc_eq vs[j],js hi]
 case fin=>simp [qC]
theorem KX (vs:List TInDef) (hw:DC.wt (.sl (vs.map TInDef.enc)) ≤ 1048576):zc [.sl (vs.map TInDef.enc)] = .ret [.sl (vs.map TInDef.enc)]:=by
 have hl:vs.length ≤ 1048576:=by rw [DC.wt,List.length_map] at hw; omega
 rw [ZC]
 simp only [Vn,List.getD_cons_zero,DC.ll_sl]
 rw [j2H (F:=yf) (fun j hi=>?step) ?fin]
 ·rfl
 case step =>
  have hwj:jP (TInDef.enc vs[j]) ≤ 1048576:=by have:=jU (je (f:=TInDef.enc) (jc hi)); rw [DC.wt] at hw; omega
  rw [zg] at hwj
  have q0:=KD vs[j].default' (by omega)
  rw [TValue.enc_eq] at q0
  have q1:=qB vs[j].dirs (by omega)
  have hc1:(j:Int) < (vs.length:Int):=by omega
  have hL:j + 1 < kC:=yc (by omega)
  have hm:min j vs.length=j:=by omega
  simp only [yf,List.getD_cons_zero,List.getD_cons_succ,DC.bb_b,DC.ii_i,DC.ss_s,DC.ll_sl,jb,List.length_map,js hi,TInDef.enc_eq vs[j],q0,q1,Out.bindR_ret,List.length_take,hm]
  simp [hi,hc1,hL,ja,jr hi (show vs.length ≤ 9223372036854775807 by omega),TInDef.enc_eq vs[j],js hi]
 case fin=>simp [yf]
theorem Xt (vs:List TEnumDef) (hw:DC.wt (.sl (vs.map TEnumDef.enc)) ≤ 1048576):zL [.sl (vs.map TEnumDef.enc)] = .ret [.sl (vs.map TEnumDef.enc)]:=by
 have hl:vs.length ≤ 1048576:=by rw [DC.wt,List.length_map] at hw; omega
 rw [Yi]
 simp only [Qa,List.getD_cons_zero,DC.ll_sl]
 rw [j2H (F:=qb) (fun j hi=>?step) ?fin]
 ·rfl
 case step =>
  have hwj:jP (TEnumDef.enc vs[j]) ≤ 1048576:=by have:=jU (je (f:=TEnumDef.enc) (jc hi)); rw [DC.wt] at hw; omega
  rw [qp] at hwj
  have q0:=qB vs[j].dirs (by omega)
  have hc1:(j:Int) < (vs.length:Int):=by omega
  have hL:j + 1 < kC:=yc (by omega)
  have hm:min j vs.length=j:=by omega
  simp only [qb,List.getD_cons_zero,List.getD_cons_succ,DC.bb_b,DC.ii_i,DC.ss_s,DC.ll_sl,jb,List.length_map,js hi,TEnumDef.enc_eq vs[j],q0,Out.bindR_ret,List.length_take,hm]
  simp [hi,hc1,hL,ja,jr hi (show vs.length ≤ 9223372036854775807 by omega),TEnumDef.enc_eq vs[j],js hi]
 case fin=>simp [qb]
theorem VR (vs:List TFieldDef) (hw:DC.wt (.sl (vs.map TFieldDef.enc)) ≤ 1048576):zk [.sl (vs.map TFieldDef.enc)] = .ret [.sl (vs.map TFieldDef.enc)]:=by
 have hl:vs.length ≤ 1048576:=by rw [DC.wt,List.length_map] at hw; omega
 rw [Xs]
 simp only [KL,List.getD_cons_zero,DC.ll_sl]
 rw [j2H (F:=pN) (fun j hi=>?step) ?fin]
 ·rfl
 case step =>
  have hwj:jP (TFieldDef.enc vs[j]) ≤ 1048576:=by have:=jU (je (f:=TFieldDef.enc) (jc hi)); rw [DC.wt] at hw; omega
  rw [pO] at hwj
  have q0:=KX vs[j].args (by omega)
  have q1:=qB vs[j].dirs (by omega)
  have hc1:(j:Int) < (vs.length:Int):=by omega
  have hL:j + 1 < kC:=yc (by omega)
  have hm:min j vs.length=j:=by omega
  simp only [pN,List.getD_cons_zero,List.getD_cons_succ,DC.bb_b,DC.ii_i,DC.ss_s,DC.ll_sl,jb,List.length_map,js hi,TFieldDef.enc_eq vs[j],q0,q1,Out.bindR_ret,List.length_take,hm]
  simp [hi,hc1,hL,ja,jr hi (show vs.length ≤ 9223372036854775807 by omega),TFieldDef.enc_eq vs[j],js hi]
 case fin=>simp [pN]
theorem ZI (v:TDef) (hw:jP (TDef.enc v) ≤ 1048576):JM [.i v.kind,.b v.ext,.s v.desc,.s v.name,.sl (v.faces.map S1),.sl (v.fields.map TFieldDef.enc),.sl (v.inputs.map TInDef.enc),.sl (v.values.map TEnumDef.enc),.sl (v.roots.map TRoot.enc),.b v.repeat',.sl (v.dirs.map TDir.enc)] = .ret (TDef.enc v):=by
 rw [zB] at hw
 have u0:v.faces.length ≤ 1048576:=by have h:DC.wt (.sl (v.faces.map S1)) ≤ 1048576:=(by omega); rw [DC.wt,List.length_map] at h; omega
 have q0:=zS (v.faces.map S1) (by rw [List.length_map]; omega)
 have q1:=VR v.fields (by omega)
 have q2:=KX v.inputs (by omega)
 have q3:=Xt v.values (by omega)
 have u4:v.roots.length ≤ 1048576:=by have h:DC.wt (.sl (v.roots.map TRoot.enc)) ≤ 1048576:=(by omega); rw [DC.wt,List.length_map] at h; omega
 have q4:=KQ (v.roots.map TRoot.enc) (by rw [List.length_map]; omega)
 have q5:=qB v.dirs (by omega)
 rw [ZD,TDef.enc_eq]
 simp only [Vo,List.getD_cons_zero,List.getD_cons_succ,DC.bb_b,DC.ii_i,DC.ss_s,DC.ll_sl,q0,q1,q2,q3,q4,q5,Out.bindR_ret,List.length_map,jk,if_true,ju]
def J3 (l:List TDef):List TDef:=l.mergeSort fun x y=>decide (x.name ≤ y.name)
instance:Inhabited TDef:=⟨⟨0,false,[],[],[],[],[],[],[],false,[]⟩⟩
theorem VA (l:List TDef):(J3 l).length=l.length:=List.length_mergeSort l
theorem j8E:∀ (x y:List UInt8),Op.bytesLess x y=decide (x < y)
 | x,[]=>by
  have:¬ x < []:=by simp
  cases x <;> simp [Op.bytesLess]
 | [],b :: y=>by simp [Op.bytesLess]
 | a :: x,b :: y=>by
  rw [Op.bytesLess,j8E x y]
  simp only [List.cons_lt_cons_iff]
  by_cases h:a < b
  ·simp [h]
  ·by_cases h':a=b
   ·subst h'; simp
   ·simp [h,h']
theorem j6W {x y:List UInt8}:(Op.bytesLess x y || x == y)=decide (x ≤ y):=by
 rw [j8E]
 by_cases h:x < y
 ·simp [h,List.le_of_lt h]
 ·by_cases h':x=y
  ·subst h'; simp [List.le_refl]
  ·have:¬ x ≤ y:=fun k=>h (by
    rcases List.not_lt.1 h with k2
    exact absurd (List.le_antisymm k k2) h')
   simp [h,h',this]
theorem j7s (l:List TDef):j41 3 (l.map TDef.enc)=(J3 l).map TDef.enc:=by
 unfold j41 J3
 refine (List.map_mergeSort fun x _ y _=>?_).symm
 simp only [nmD,TDef.enc_eq,List.getD_cons_zero,List.getD_cons_succ,DC.ss_s]
theorem j77 (A B out:List TDef) (i k:Nat) (hi:i < A.length) (hA:A.length ≤ 1048576) (hB:B.length ≤ 1048576) (hk:∀ h:k < B.length,(A[i]'hi).name ≤ (B[k]'h).name) (ho:out.length ≤ 4194304) :
  jS [.sl (A.map TDef.enc),.sl (B.map TDef.enc),.sl (out.map TDef.enc),.i (i:Int),.i (k:Int)] = .norm [.sl (A.map TDef.enc),.sl (B.map TDef.enc),.sl ((out ++ [A[i]'hi]).map TDef.enc),.i ((i + 1:Nat):Int),.i (k:Int)]:=by
 have hc:(i:Int) < (A.length:Int):=by omega
 have ws:=jr hi (show A.length ≤ 9223372036854775807 by omega)
 have hm:=js (f:=TDef.enc) hi
 rw [TDef.enc_eq (A[i]'hi)] at hm
 have hlim:out.length + 1 < kC:=by unfold kC; omega
 by_cases h2:k < B.length
 ·have e1:¬ ((k:Int) ≥ (B.length:Int)):=by omega
  have e2:(k:Int) < (B.length:Int):=by omega
  have hm2:=js (f:=TDef.enc) h2
  rw [TDef.enc_eq (B[k]'h2)] at hm2
  have hle:=hk h2
  generalize A[i]'hi=d at *
  generalize B[k]'h2=d2 at *
  simp only [jS,jy,ja,List.getD_cons_zero,List.getD_cons_succ,DC.bb_b,DC.ii_i,DC.ss_s,DC.ll_sl,jb,List.length_map,hm,hm2,hc,e1,e2,decide_true,decide_false,if_true,Bool.false_eq_true,if_false,j6W,hle,ws,List.map_append,jn,List.map_nil,TDef.enc_eq d,jl,jk,Nat.zero_add,hlim,Int.natCast_nonneg,and_self]
 ·have e1:((k:Int) ≥ (B.length:Int)):=by omega
  generalize A[i]'hi=d at *
  simp only [jS,jy,ja,List.getD_cons_zero,List.getD_cons_succ,DC.bb_b,DC.ii_i,DC.ss_s,DC.ll_sl,jb,List.length_map,hm,hc,e1,decide_true,decide_false,if_true,Bool.false_eq_true,if_false,ws,List.map_append,jn,List.map_nil,TDef.enc_eq d,jl,jk,Nat.zero_add,hlim,Int.natCast_nonneg,and_self]
theorem j76 (A B out:List TDef) (i k:Nat) (hk:k < B.length) (hA:A.length ≤ 1048576) (hB:B.length ≤ 1048576) (hi:∀ h:i < A.length,¬ (A[i]'h).name ≤ (B[k]'hk).name) (ho:out.length ≤ 4194304) :
  jS [.sl (A.map TDef.enc),.sl (B.map TDef.enc),.sl (out.map TDef.enc),.i (i:Int),.i (k:Int)] = .norm [.sl (A.map TDef.enc),.sl (B.map TDef.enc),.sl ((out ++ [B[k]'hk]).map TDef.enc),.i (i:Int),.i ((k + 1:Nat):Int)]:=by
 have hc:(k:Int) < (B.length:Int):=by omega
 have e1:¬ ((k:Int) ≥ (B.length:Int)):=by omega
 have ws:=jr hk (show B.length ≤ 9223372036854775807 by omega)
 have hm:=js (f:=TDef.enc) hk
 rw [TDef.enc_eq (B[k]'hk)] at hm
 have hlim:out.length + 1 < kC:=by unfold kC; omega
 by_cases h2:i < A.length
 ·have e2:(i:Int) < (A.length:Int):=by omega
  have hm2:=js (f:=TDef.enc) h2
  rw [TDef.enc_eq (A[i]'h2)] at hm2
  have hle:=hi h2
  generalize A[i]'h2=d2 at *
  generalize B[k]'hk=d at *
  simp only [jS,jy,ja,List.getD_cons_zero,List.getD_cons_succ,DC.bb_b,DC.ii_i,DC.ss_s,DC.ll_sl,jb,List.length_map,hm,hm2,hc,e1,e2,decide_true,decide_false,if_true,Bool.false_eq_true,if_false,j6W,hle,ws,List.map_append,jn,List.map_nil,TDef.enc_eq d,jl,jk,Nat.zero_add,hlim,Int.natCast_nonneg,and_self]
 ·have e2:¬ ((i:Int) < (A.length:Int)):=by omega
  generalize B[k]'hk=d at *
  simp only [jS,jy,ja,List.getD_cons_zero,List.getD_cons_succ,DC.bb_b,DC.ii_i,DC.ss_s,DC.ll_sl,jb,List.length_map,hm,hc,e1,e2,decide_true,decide_false,if_true,Bool.false_eq_true,if_false,ws,List.map_append,jn,List.map_nil,TDef.enc_eq d,jl,jk,Nat.zero_add,hlim,Int.natCast_nonneg,and_self]
theorem j7u (A B:List TDef) (hA:A.length ≤ 1048576) (hB:B.length ≤ 1048576):∀ (m i k:Nat) (out:List TDef),(A.length - i) + (B.length - k) ≤ m → i ≤ A.length → k ≤ B.length → out.length ≤ i + k →
  jK jS [.sl (A.map TDef.enc),.sl (B.map TDef.enc),.sl (out.map TDef.enc),.i (i:Int),.i (k:Int)] = .ex 2 [.sl ((out ++ List.merge (A.drop i) (B.drop k) fun x y=>decide (x.name ≤ y.name)).map TDef.enc)]:=by
 intro m
 induction m with
 | zero =>
  intro i k out hm hi hk ho
  have h1:i=A.length:=by omega
  have h2:k=B.length:=by omega
  subst h1 h2
  rw [List.drop_length,List.drop_length]
  exact kH (by simp [jS,jy,DC.bb_b,DC.ii_i,DC.ll_sl])
 | succ m ih =>
  intro i k out hm hi hk ho
  by_cases h1:i < A.length
  ·by_cases h2:k < B.length
   ·by_cases hle:(A[i]'h1).name ≤ (B[k]'h2).name
    ·rw [jO (j77 A B out i k h1 hA hB (fun _=>hle) (by omega)),ih (i + 1) k _ (by omega) (by omega) hk (by simp; omega)]
     rw [List.drop_eq_getElem_cons h1,List.drop_eq_getElem_cons h2,List.cons_merge_cons,if_pos (by simpa using hle),← List.drop_eq_getElem_cons h2]
     simp
    ·rw [jO (j76 A B out i k h2 hA hB (fun _=>hle) (by omega)),ih i (k + 1) _ (by omega) hi (by omega) (by simp; omega)]
     rw [List.drop_eq_getElem_cons h1,List.drop_eq_getElem_cons h2,List.cons_merge_cons,if_neg (by simpa using hle),← List.drop_eq_getElem_cons h1]
     simp
   ·rw [jO (j77 A B out i k h1 hA hB (fun h=>absurd h h2) (by omega)),ih (i + 1) k _ (by omega) (by omega) hk (by simp; omega)]
    have:B.drop k=[]:=List.drop_of_length_le (by omega)
    rw [this,List.drop_eq_getElem_cons h1]
    simp
  ·have hd:A.drop i=[]:=List.drop_of_length_le (by omega)
   by_cases h2:k < B.length
   ·rw [jO (j76 A B out i k h2 hA hB (fun h=>absurd h h1) (by omega)),ih i (k + 1) _ (by omega) hi (by omega) (by simp; omega),hd,List.drop_eq_getElem_cons h2]
    simp
   ·have hd2:B.drop k=[]:=List.drop_of_length_le (by omega)
    have e1:i=A.length:=by omega
    have e2:k=B.length:=by omega
    subst e1 e2
    rw [hd,hd2]
    exact kH (by simp [jS,jy,DC.bb_b,DC.ii_i,DC.ll_sl])
theorem j8M {l m:List (List DC)} (h:l.Perm m):DC.wt (.sl l)=DC.wt (.sl m):=by
 have hv:wtV l=wtV m:=by
  induction h with
  | nil=>rfl
  | cons x _ ih=>rw [wtV,wtV,ih]
  | swap x y l=>rw [wtV,wtV,wtV,wtV]; omega
  | trans _ _ h1 h2=>rw [h1,h2]
 rw [DC.wt,DC.wt,hv,h.length_eq]
theorem j5K (l:List TDef):DC.wt (.sl ((J3 l).map TDef.enc))=DC.wt (.sl (l.map TDef.enc)):=j8M ((List.mergeSort_perm l _).map _)
theorem j9G (vs:List TDef) (hw:DC.wt (.sl (vs.map TDef.enc)) ≤ 1048576):jK pM [.sl (vs.map TDef.enc),.sl [],.i (0:Int)] = .ex 0 [.sl (vs.map TDef.enc)]:=by
 have hl:vs.length ≤ 1048576:=by rw [DC.wt,List.length_map] at hw; omega
 refine j2I (F:=pM) (fun j hi=>?step) ?fin
 case step =>
  have hwj:jP (TDef.enc vs[j]) ≤ 1048576:=by have:=jU (je (f:=TDef.enc) (jc hi)); rw [DC.wt] at hw; omega
  have q0:=j0i vs[j] hwj
  have hc1:(j:Int) < (vs.length:Int):=by omega
  have hL:j + 1 < kC:=yc (by omega)
  have hm:min j vs.length=j:=by omega
  simp only [pM,List.getD_cons_zero,List.getD_cons_succ,DC.bb_b,DC.ii_i,DC.ss_s,DC.ll_sl,jb,List.length_map,js hi,TDef.enc_eq vs[j]]
  rw [TDef.enc_eq vs[j]] at q0
  simp only [q0,Out.bindR_ret,List.length_take,hm,List.getD_cons_zero,List.getD_cons_succ,DC.bb_b,DC.ii_i,DC.ss_s,DC.ll_sl]
  simp [hi,hc1,hL,ja,jr hi (show vs.length ≤ 9223372036854775807 by omega),TDef.enc_eq vs[j],js hi]
 case fin=>simp [pM]
theorem Yj (vs:List TDef) (hw:DC.wt (.sl (vs.map TDef.enc)) ≤ 1048576):J9 [.sl (vs.map TDef.enc)] = .ret [.sl (vs.map TDef.enc)]:=by
 have hl:vs.length ≤ 1048576:=by rw [DC.wt,List.length_map] at hw; omega
 rw [YQ]
 simp only [QK,List.getD_cons_zero,DC.ll_sl]
 rw [j2H (F:=qD) (fun j hi=>?step) ?fin]
 ·rfl
 case step =>
  have hwj:jP (TDef.enc vs[j]) ≤ 1048576:=by have:=jU (je (f:=TDef.enc) (jc hi)); rw [DC.wt] at hw; omega
  have q0:=ZI vs[j] hwj
  have hc1:(j:Int) < (vs.length:Int):=by omega
  have hL:j + 1 < kC:=yc (by omega)
  have hm:min j vs.length=j:=by omega
  simp only [qD,List.getD_cons_zero,List.getD_cons_succ,DC.bb_b,DC.ii_i,DC.ss_s,DC.ll_sl,jb,List.length_map,js hi,TDef.enc_eq vs[j]]
  rw [TDef.enc_eq vs[j]] at q0
  simp only [q0,Out.bindR_ret,List.length_take,hm,List.getD_cons_zero,List.getD_cons_succ,DC.bb_b,DC.ii_i,DC.ss_s,DC.ll_sl]
  simp [hi,hc1,hL,ja,jr hi (show vs.length ≤ 9223372036854775807 by omega),TDef.enc_eq vs[j],js hi]
 case fin=>simp [qD]
theorem j1K (l:List TDef) (hw:DC.wt (.sl (l.map TDef.enc)) ≤ 1048576):JN [.sl (l.map TDef.enc)] = .ret [.sl ((J3 l).map TDef.enc)]:=by
 have hl:l.length ≤ 1048576:=by rw [DC.wt,List.length_map] at hw; omega
 have hL:l.length < kC:=by unfold kC; omega
 rw [ZE]
 simp only [Vp,List.getD_cons_zero,DC.ll_sl,Yj l hw,Out.bindR_ret,List.length_map,hL,if_true,j7s]
theorem j0I {l:List TDef} (h:l.length < 2):J3 l=l:=by
 match l,h with
 | [],_=>simp [J3]
 | [x],_=>simp [J3]
theorem j1E:∀ (m:Nat) (l:List TDef),l.length ≤ m → DC.wt (.sl (l.map TDef.enc)) ≤ 1048576 → qG [.sl (l.map TDef.enc)] = .ret [.sl ((J3 l).map TDef.enc)]:=by
 intro m
 induction m with
 | zero =>
  intro l hl hw
  have:l=[]:=jm (by omega)
  subst this
  rw [Qy,j0I (by simp)]
  have:=j9G [] hw
  simp only [List.map_nil] at this
  simp only [JR,List.map_nil,List.getD_cons_zero,DC.ll_sl,jk]
  rw [this]
  rfl
 | succ m ih =>
  intro l hl hw
  have hlen:l.length ≤ 1048576:=by rw [DC.wt,List.length_map] at hw; omega
  rw [Qy]
  simp only [JR,List.getD_cons_zero,DC.ll_sl,List.length_map]
  by_cases h2:l.length < 2
  ·have h2':(l.length:Int) < 2:=by omega
   simp only [h2',decide_true,if_true,j9G l hw,j0I h2]
   rfl
  ·have h2':¬ (l.length:Int) < 2:=by omega
   have hd:(l.length:Int).tdiv 2=((l.length / 2:Nat):Int):=by
    rw [Int.tdiv_eq_ediv_of_nonneg (by omega)]
    omega
   have hw':IntKind.i64.wrap ((l.length:Int).tdiv 2)=((l.length / 2:Nat):Int):=by rw [hd]; exact jM (by omega) (by omega)
   have h22:¬ ((2:Int)=0):=by decide
   have hle:((l.length / 2:Nat):Int) ≤ (l.length:Int):=by omega
   have hsplit:DC.wt (.sl ((l.take (l.length / 2)).map TDef.enc)) + DC.wt (.sl ((l.drop (l.length / 2)).map TDef.enc))=DC.wt (.sl (l.map TDef.enc)):=by
    have e:l.map TDef.enc=(l.take (l.length / 2)).map TDef.enc ++ (l.drop (l.length / 2)).map TDef.enc:=by rw [← List.map_append,List.take_append_drop]
    conv=>rhs; rw [e]
    rw [DC.wt,DC.wt,DC.wt,jA,yh]
    omega
   simp only [h2',decide_false,Bool.false_eq_true,if_false,h22,hw',jb,← List.map_take,← List.map_drop]
   rw [if_pos ⟨by omega,hle⟩,ih (l.take (l.length / 2)) (by rw [List.length_take]; omega) (by omega)]
   simp only [Out.bindR_ret]
   rw [ih (l.drop (l.length / 2)) (by rw [List.length_drop]; omega) (by omega)]
   have hlp:=j7u (J3 (l.take (l.length / 2))) (J3 (l.drop (l.length / 2))) (by rw [VA,List.length_take]; omega) (by rw [VA,List.length_drop]; omega) _ 0 0 [] (Nat.le_refl _) (by omega) (by omega) (by simp)
   have hmg:List.merge (J3 (l.take (l.length / 2))) (J3 (l.drop (l.length / 2))) (fun x y=>decide (x.name ≤ y.name))=J3 l:=by
    unfold J3
    rw [jaB (fun x:TDef=>x.name),List.take_append_drop]
   simp only [List.drop_zero,ju,hmg] at hlp
   have hlp':jK jS [.sl ((J3 (l.take (l.length / 2))).map TDef.enc),.sl ((J3 (l.drop (l.length / 2))).map TDef.enc),.sl [],.i (0:Int),.i (0:Int)] = .ex 2 [.sl ((J3 l).map TDef.enc)]:=hlp
   simp only [Out.bindR_ret,List.getD_cons_zero,DC.ll_sl,hlp']
   rw [if_pos ⟨by omega,hle⟩]
   simp [ja,DC.ll_sl]
def yH {α:Type} (p:α → Bool) (l:List α):Int:=match l.findIdx? p with | some i=>(i:Int) | none=>-1
theorem Qx {α:Type} {p:α → Bool} {g:Int → List DC} {fin:Out}:∀ (l:List α) (i:Nat),goF p (fun i _=>.ret (g (i:Int))) fin i l=match l.findIdx? p with | some j=>.ret (g ((i + j:Nat):Int)) | none=>fin
 | [],i=>rfl
 | x :: l,i=>by
  rw [goF,Qx l (i + 1),List.findIdx?_cons]
  cases p x with
  | true=>simp
  | false =>
   simp only [Bool.false_eq_true,if_false]
   cases l.findIdx? p with
   | none=>rfl
   | some j=>simp only [Option.map_some]; congr 3; omega
def J8 (l:List TDef) (n:List UInt8):Int:=if 60 < l.length then -1 else yH (fun d=>d.name == n) l
theorem j42 (l:List TDef) (d r:List (List DC)) (n:List UInt8) (hl:l.length ≤ 1048576):Qf [.sl (l.map TDef.enc),.sl d,.sl r,.s n] = .ret [.i (J8 l n)]:=by
 rw [j16]
 simp only [Xz,List.getD_cons_zero,List.getD_cons_succ,DC.bb_b,DC.ii_i,DC.ss_s,DC.ll_sl]
 rw [J8]
 by_cases h60:60 < l.length
 ·rw [kH (r:=[]) (id:=0) (by
   have h0:(0:Int) < (l.length:Int):=by omega
   have h1:¬ (l.length:Int) ≤ 60:=by omega
   simp [ze,h0,h1])]
  simp [h60]
 ·rw [if_neg h60,show (0:Int)=((0:Nat):Int) from rfl,V6 (l:=l) (st:=fun i=>[.s n,.i (i:Int),.sl (l.map TDef.enc),.sl d,.sl r]) (p:=fun d=>d.name == n) (stop:=fun i _=>.ret [.i (i:Int)]) (fin:=.ex 0 []) (fun i hi=>?step) (fun _ _=>Out.esc_ret _) ?fin (Out.esc_ex _ _),Qx (g:=fun i=>[.i i]),yH]
  ·cases l.findIdx? fun d=>d.name == n <;> simp
  case step =>
   have h1:(l.length:Int) ≤ 60:=by omega
   simp only [ze,List.getD_cons_zero,List.getD_cons_succ,DC.bb_b,DC.ii_i,DC.ss_s,DC.ll_sl,jb,List.length_map,js hi,TDef.enc_eq]
   by_cases hp:l[i].name=n <;> simp [hi,hp,h1,jr hi (show l.length ≤ 9223372036854775807 by omega),js hi,TDef.enc_eq]
  case fin=>simp [ze]
theorem j4q (l:List TDef) (n:List UInt8) (hl:l.length ≤ 1048576):kf [.sl (l.map TDef.enc),.s n] = .ret [.i (yH (fun d=>d.name == n) l),.s n]:=by
 rw [qA]
 simp only [kQ,List.getD_cons_zero,List.getD_cons_succ,DC.bb_b,DC.ii_i,DC.ss_s,DC.ll_sl,List.length_map]
 rw [show (0:Int)=((0:Nat):Int) from rfl,V6 (l:=l) (st:=fun i=>[.sl (l.map TDef.enc),.i (l.length:Int),.i (i:Int),.s n]) (p:=fun d=>d.name == n) (stop:=fun i _=>.ret [.i (i:Int),.s n]) (fin:=.ex 0 [.s n]) (fun i hi=>?step) (fun _ _=>Out.esc_ret _) ?fin (Out.esc_ex _ _),Qx (g:=fun i=>[.i i,.s n]),yH]
 ·cases l.findIdx? fun d=>d.name == n <;> simp
 case step =>
  simp only [jY,List.getD_cons_zero,List.getD_cons_succ,DC.bb_b,DC.ii_i,DC.ss_s,DC.ll_sl,jb,List.length_map,js hi,TDef.enc_eq,j0h,Xb,Out.bindR_ret]
  by_cases hp:l[i].name=n <;> simp [hi,hp,jr hi (show l.length ≤ 9223372036854775807 by omega)]
 case fin=>simp [jY]
theorem j5v (l:List TDef) (n:List UInt8) (hl:l.length ≤ 1048576):QR [.sl (l.map TDef.enc),.s n] = .ret [.i (J8 l n)]:=by
 rw [j1W]
 simp only [Z7,List.getD_cons_zero,List.getD_cons_succ,DC.bb_b,DC.ii_i,DC.ss_s,DC.ll_sl,List.length_map,J8]
 by_cases h60:60 < l.length
 ·have h1:(l.length:Int) > 60:=by omega
  simp [h60,h1]
 ·have h1:¬ (l.length:Int) > 60:=by omega
  simp only [h60,h1,decide_false,Bool.false_eq_true,if_false,j4q l n hl,Out.bindR_ret,List.getD_cons_zero,DC.ii_i]
theorem j4r (l:List TDef) (d r:List (List DC)) (n:List UInt8) (hl:l.length ≤ 1048576):Qh [.sl (l.map TDef.enc),.sl d,.sl r,.s n] = .ret [.i (J8 l n)]:=by
 rw [j1n]
 simp only [XQ,List.getD_cons_zero,List.getD_cons_succ,DC.bb_b,DC.ii_i,DC.ss_s,DC.ll_sl,j5v l n hl,Out.bindR_ret]
end Go.Proofs.QV

namespace Go.Proofs.QV
open Go Go.Sort
open Out renaming andThenB → ja, andThen → jy
open _root_.List renaming mem_map_of_mem → je, getElem_mem → jc, length_nil → jk, nil_append → ju, map_cons → jn, length_cons → jl, eq_nil_of_length_eq_zero → jm, length_append → jA, append_nil → jC, append_assoc → jq
open _root_.Int renaming toNat_natCast → jb
open _root_.Bool renaming not_true → jx, and_eq_true → jd
set_option linter.unusedVariables false
set_option linter.unusedSimpArgs false
set_option maxRecDepth 100000
def j15 (k:Int):Int:=if k=7 then 1 else if k=8 then 2 else 0
theorem Yr (k:Int):z8 [.i k] = .ret [.i (j15 k)]:=by
 rw [Zq]
 unfold j15
 by_cases h7:k=7
 ·subst h7; rfl
 ·have e7:(k == (7:Int))=false:=beq_eq_false_iff_ne.2 h7
  by_cases h8:k=8
  ·subst h8; rfl
  ·have e8:(k == (8:Int))=false:=beq_eq_false_iff_ne.2 h8
   simp only [Vb,List.getD_cons_zero,DC.ii_i,e7,e8,Bool.false_eq_true,if_false,h7,h8]
   rfl
def J4 (g:Int) (d:TDef):Bool:=j15 d.kind == g
theorem Xl {p:TDef → Bool}:∀ (l:List TDef),DC.wt (.sl ((l.filter p).map TDef.enc)) ≤ DC.wt (.sl (l.map TDef.enc))
 | []=>Nat.le_refl _
 | d :: l=>by
  have ih:=Xl (p:=p) l
  rw [List.filter_cons]
  simp only [DC.wt] at ih ⊢
  split
  ·simp only [jn,jl,wtV]; omega
  ·simp only [jn,jl,wtV]; omega
theorem j8m (l:List TDef) (g:Int) (hl:l.length ≤ 1048576):∀ (m i:Nat) (out:List TDef),l.length - i ≤ m → i ≤ l.length → out.length ≤ i →
  jK kI [.sl (l.map TDef.enc),.i g,.sl (out.map TDef.enc),.i (i:Int)] = .ex 0 [.sl ((out ++ (l.drop i).filter (J4 g)).map TDef.enc)]:=by
 intro m
 induction m with
 | zero =>
  intro i out hm hi ho
  have:i=l.length:=by omega
  subst this
  rw [List.drop_length]
  exact kH (by simp [kI,DC.ii_i,DC.ll_sl])
 | succ m ih =>
  intro i out hm hi ho
  by_cases h:i < l.length
  ·have hc:(i:Int) < (l.length:Int):=by omega
   have ws:=jr h (show l.length ≤ 9223372036854775807 by omega)
   have hm':=js (f:=TDef.enc) h
   rw [TDef.enc_eq (l[i]'h)] at hm'
   have hlim:out.length + 1 < kC:=by unfold kC; omega
   have hdr:=List.drop_eq_getElem_cons h
   cases hg:J4 g (l[i]'h) with
   | true =>
    have hb:(j15 (l[i]'h).kind == g)=true:=hg
    rw [jO (v':=[.sl (l.map TDef.enc),.i g,.sl ((out ++ [l[i]'h]).map TDef.enc),.i ((i + 1:Nat):Int)]),ih (i + 1) _ (by omega) (by omega) (by simp; omega),hdr,List.filter_cons,hg]
    ·simp
    ·generalize l[i]'h=d at *
     simp only [kI,jy,ja,List.getD_cons_zero,List.getD_cons_succ,DC.bb_b,DC.ii_i,DC.ss_s,DC.ll_sl,jb,List.length_map,hm',hc,decide_true,decide_false,if_true,Bool.false_eq_true,if_false,ws,List.map_append,jn,List.map_nil,TDef.enc_eq d,jl,jk,Nat.zero_add,hlim,Int.natCast_nonneg,and_self,Yr,Out.bindR_ret,hb]
   | false =>
    have hb:(j15 (l[i]'h).kind == g)=false:=hg
    rw [jO (v':=[.sl (l.map TDef.enc),.i g,.sl (out.map TDef.enc),.i ((i + 1:Nat):Int)]),ih (i + 1) _ (by omega) (by omega) (by omega),hdr,List.filter_cons,hg]
    ·simp
    ·generalize l[i]'h=d at *
     simp only [kI,jy,ja,List.getD_cons_zero,List.getD_cons_succ,DC.bb_b,DC.ii_i,DC.ss_s,DC.ll_sl,jb,List.length_map,hm',hc,decide_true,decide_false,if_true,Bool.false_eq_true,if_false,ws,List.map_append,jn,List.map_nil,jl,jk,Nat.zero_add,hlim,Int.natCast_nonneg,and_self,Yr,Out.bindR_ret,hb]
  ·have:i=l.length:=by omega
   subst this
   rw [List.drop_length]
   exact kH (by simp [kI,DC.ii_i,DC.ll_sl])
theorem j0L (l:List TDef) (g:Int) (hw:DC.wt (.sl (l.map TDef.enc)) ≤ 1048576):yZ [.sl (l.map TDef.enc),.i g] = .ret [.sl ((J3 (l.filter (J4 g))).map TDef.enc)]:=by
 have hl:l.length ≤ 1048576:=by rw [DC.wt,List.length_map] at hw; omega
 have h:=j8m l g hl _ 0 [] (Nat.le_refl _) (by omega) (by simp)
 rw [List.drop_zero,ju] at h
 have h':jK kI [.sl (l.map TDef.enc),.i g,.sl [],.i (0:Int)] = .ex 0 [.sl ((l.filter (J4 g)).map TDef.enc)]:=h
 have hs:=j1E _ (l.filter (J4 g)) (Nat.le_refl _) (Nat.le_trans (Xl l) hw)
 rw [Zp]
 simp only [Va,List.getD_cons_zero,List.getD_cons_succ,DC.ii_i,DC.ll_sl,h',ja,if_true,hs,Out.bindR_ret]
theorem j0H (p:TDef → Bool) (l:List TDef):(J3 l).filter p=J3 (l.filter p):=by
 unfold J3
 refine Kz (j7d fun x:TDef=>x.name) ((j0W (fun x:TDef=>x.name) l).filter p) (j0W (fun x:TDef=>x.name) _) fun k=>?_
 rw [Zk]
 have h:=Zk (fun x:TDef=>x.name) l k
 unfold flt at h ⊢
 rw [List.filter_filter,List.filter_filter]
 have e:∀ m:List TDef,(m.filter fun a=>(!ltOf (fun x y:TDef=>Lib.compareBytes x.name y.name) a k && !ltOf (fun x y:TDef=>Lib.compareBytes x.name y.name) k a) && p a)=(m.filter fun x=>!ltOf (fun x y:TDef=>Lib.compareBytes x.name y.name) x k && !ltOf (fun x y:TDef=>Lib.compareBytes x.name y.name) k x).filter p:=fun m=>by
  rw [List.filter_filter]
  congr 1
  funext a
  rw [Bool.and_comm]
 rw [e,e,h]
instance:Inhabited TRoot:=⟨⟨0,[]⟩⟩
def rk (c:Int) (l:List TRoot):List TRoot:=l.filter fun r=>r.kind == c
def XS (l:List TRoot):List TRoot:=rk 1 l ++ (rk 2 l ++ rk 3 l)
def Vy (r:TRoot):Bool:=decide (1 ≤ r.kind) && decide (r.kind ≤ 3)
theorem Kx {c:Int} {l:List TRoot} {r:TRoot} (h:r ∈ rk c l):r.kind=c:=by
 have:=(List.mem_filter.1 h).2
 simpa using this
theorem j2Z (l:List TRoot):((l.filter Vy).mergeSort fun x y=>decide (x.kind ≤ y.kind))=XS l:=by
 refine Kz (j9V fun x:TRoot=>x.kind) (j87 (fun x:TRoot=>x.kind) _) ?_ fun k=>?_
 ·unfold XS
  refine List.pairwise_append.2 ⟨?_,List.pairwise_append.2 ⟨?_,?_,?_⟩,?_⟩
  ·rw [List.pairwise_iff_getElem]
   intro i j hi hj hij
   rw [JP,decide_eq_false_iff_not,Kx (jc hi),Kx (jc hj)]
   omega
  ·rw [List.pairwise_iff_getElem]
   intro i j hi hj hij
   rw [JP,decide_eq_false_iff_not,Kx (jc hi),Kx (jc hj)]
   omega
  ·rw [List.pairwise_iff_getElem]
   intro i j hi hj hij
   rw [JP,decide_eq_false_iff_not,Kx (jc hi),Kx (jc hj)]
   omega
  ·intro x hx y hy
   rw [JP,decide_eq_false_iff_not,Kx hx,Kx hy]
   omega
  ·intro x hx y hy
   rw [JP,decide_eq_false_iff_not,Kx hx]
   rcases List.mem_append.1 hy with hy | hy
   ·rw [Kx hy]; omega
   ·rw [Kx hy]; omega
 ·rw [j88]
  have e:∀ m:List TRoot,flt (ltOf fun x y:TRoot=>x.kind - y.kind) k m=m.filter fun x=>x.kind == k.kind:=fun m=>by
   unfold flt
   congr 1
   funext x
   rw [JP,JP,Bool.eq_iff_iff]
   simp only [jd,Bool.not_eq_true',decide_eq_false_iff_not,beq_iff_eq]
   omega
  rw [e,e]
  unfold XS rk
  rw [List.filter_append,List.filter_append,List.filter_filter,List.filter_filter,List.filter_filter,List.filter_filter]
  have none_of:∀ c:Int,c ≠ k.kind → (l.filter fun a=>(a.kind == k.kind) && (a.kind == c))=[]:=fun c hc=>by
   refine List.filter_eq_nil_iff.2 fun a _ h=>?_
   simp only [jd,beq_iff_eq] at h
   omega
  have all_of:∀ c:Int,c=k.kind → (l.filter fun a=>(a.kind == k.kind) && (a.kind == c))=l.filter fun a=>a.kind == k.kind:=fun c hc=>by
   congr 1
   funext a
   rw [hc,Bool.and_self]
  have wl:(1 ≤ k.kind ∧ k.kind ≤ 3) → (l.filter fun a=>(a.kind == k.kind) && Vy a)=l.filter fun a=>a.kind == k.kind:=fun hk=>by
   congr 1
   funext a
   rw [Bool.eq_iff_iff]
   unfold Vy
   simp only [jd,beq_iff_eq,decide_eq_true_eq]
   omega
  by_cases h1:k.kind=1
  ·rw [wl (by omega),all_of 1 h1.symm,none_of 2 (by omega),none_of 3 (by omega)]; simp
  ·by_cases h2:k.kind=2
   ·rw [wl (by omega),all_of 2 h2.symm,none_of 1 (by omega),none_of 3 (by omega)]; simp
   ·by_cases h3:k.kind=3
    ·rw [wl (by omega),all_of 3 h3.symm,none_of 1 (by omega),none_of 2 (by omega)]; simp
    ·rw [none_of 1 (by omega),none_of 2 (by omega),none_of 3 (by omega)]
     refine List.filter_eq_nil_iff.2 fun a _ h=>?_
     unfold Vy at h
     simp only [jd,beq_iff_eq,decide_eq_true_eq] at h
     omega
theorem j7r (l:List TRoot):j40 0 (l.map TRoot.enc)=(l.mergeSort fun x y=>decide (x.kind ≤ y.kind)).map TRoot.enc:=by
 unfold j40
 refine (List.map_mergeSort fun x _ y _=>?_).symm
 simp only [nmI,TRoot.enc_eq,List.getD_cons_zero,DC.ii_i]
def nmQ:List UInt8:=[81,117,101,114,121]
def nmM:List UInt8:=[77,117,116,97,116,105,111,110]
def nmU:List UInt8:=[83,117,98,115,99,114,105,112,116,105,111,110]
def Qs (ts:List TDef) (k:Int) (n:List UInt8):List TRoot:=if 0 ≤ J8 ts n ∧ (ts.getD (J8 ts n).toNat default).kind=2 then [⟨k,n⟩] else []
def QP (l ts:List TDef):List TRoot :=
 match l.findIdx? fun d=>d.kind == 8 with
 | some i=>XS (l.getD i default).roots
 | none=>Qs ts 1 nmQ ++ (Qs ts 2 nmM ++ Qs ts 3 nmU)
end Go.Proofs.QV

namespace Go.Proofs.QV
open Go Go.Sort
open Out renaming andThenB → ja, andThen → jy
open _root_.List renaming mem_map_of_mem → je, getElem_mem → jc, length_nil → jk, nil_append → ju, map_cons → jn, length_cons → jl, eq_nil_of_length_eq_zero → jm, length_append → jA, append_nil → jC, append_assoc → jq
open _root_.Int renaming toNat_natCast → jb
open _root_.Bool renaming not_true → jx, and_eq_true → jd
set_option linter.unusedVariables false
set_option linter.unusedSimpArgs false
set_option maxRecDepth 100000
theorem j9g (d:TDef):(j15 d.kind == 2)=(d.kind == 8):=by
 unfold j15
 by_cases h7:d.kind=7
 ·rw [h7]; rfl
 ·by_cases h8:d.kind=8
  ·rw [h8]; rfl
  ·rw [if_neg h7,if_neg h8,beq_eq_false_iff_ne.2 h8]; rfl
theorem j7v (l:List TDef) (hl:l.length ≤ 1048576):QQ [.sl (l.map TDef.enc),.i 2,.s []] = .ret [.i (yH (fun d=>d.kind == 8) l)]:=by
 rw [j1M]
 simp only [YX,List.getD_cons_zero,List.getD_cons_succ,DC.bb_b,DC.ii_i,DC.ss_s,DC.ll_sl]
 rw [show jK ql [.sl (l.map TDef.enc),.i 2,.s [],.i (0:Int)]=jK ql [.sl (l.map TDef.enc),.i 2,.s [],.i ((0:Nat):Int)] from rfl,
  V6 (l:=l) (st:=fun i=>[.sl (l.map TDef.enc),.i 2,.s [],.i (i:Int)]) (p:=fun d=>d.kind == 8) (stop:=fun i _=>.ret [.i (i:Int)]) (fin:=.ex 0 []) (fun i hi=>?step) (fun _ _=>Out.esc_ret _) ?fin (Out.esc_ex _ _),Qx (g:=fun i=>[.i i]),yH]
 ·cases l.findIdx? fun d=>d.kind == 8 <;> simp
 case step =>
  have hg:=j9g (l[i]'hi)
  have hm:=js (f:=TDef.enc) hi
  have hc:(i:Int) < (l.length:Int):=by omega
  have ws:=jr hi (show l.length ≤ 9223372036854775807 by omega)
  rw [TDef.enc_eq (l[i]'hi)] at hm
  generalize l[i]'hi=d at *
  cases h8:(d.kind == 8) with
  | true =>
   rw [h8] at hg
   simp only [ql,jy,ja,List.getD_cons_zero,List.getD_cons_succ,DC.bb_b,DC.ii_i,DC.ss_s,DC.ll_sl,jb,List.length_map,hm,hc,decide_true,if_true,and_self,Int.natCast_nonneg,Yr,Out.bindR_ret,hg,beq_self_eq_true]
  | false =>
   rw [h8] at hg
   simp only [ql,jy,ja,List.getD_cons_zero,List.getD_cons_succ,DC.bb_b,DC.ii_i,DC.ss_s,DC.ll_sl,jb,List.length_map,hm,hc,decide_true,if_true,and_self,Int.natCast_nonneg,Yr,Out.bindR_ret,hg,Bool.false_eq_true,if_false,ws]
 case fin=>simp [ql]
theorem j8l (l:List TDef) (hl:l.length ≤ 1048576):jX [.sl (l.map TDef.enc)] = .ret [.i (yH (fun d=>d.kind == 8) l)]:=by
 rw [qj]
 simp only [kD,List.getD_cons_zero,List.getD_cons_succ,DC.bb_b,DC.ii_i,DC.ss_s,DC.ll_sl,List.length_map]
 rw [show (0:Int)=((0:Nat):Int) from rfl,V6 (l:=l) (st:=fun i=>[.sl (l.map TDef.enc),.i (l.length:Int),.i (i:Int)]) (p:=fun d=>d.kind == 8) (stop:=fun i _=>.ret [.i (i:Int)]) (fin:=.ex 0 []) (fun i hi=>?step) (fun _ _=>Out.esc_ret _) ?fin (Out.esc_ex _ _),Qx (g:=fun i=>[.i i]),yH]
 ·cases l.findIdx? fun d=>d.kind == 8 <;> simp
 case step =>
  simp only [jT,List.getD_cons_zero,List.getD_cons_succ,DC.bb_b,DC.ii_i,DC.ss_s,DC.ll_sl,jb,List.length_map,js hi,TDef.enc_eq,YO,QI,Out.bindR_ret]
  by_cases hp:l[i].kind=8 <;> simp [hi,hp,jr hi (show l.length ≤ 9223372036854775807 by omega)]
 case fin=>simp [jT]
theorem j92 (l:List TDef) (k:Nat) (hk:k < l.length) (c:Int) (t d:List (List DC)) (hr:(l[k]'hk).roots.length ≤ 1048576) (hl:l.length ≤ 1048576):∀ (m i:Nat) (out:List TRoot),(l[k]'hk).roots.length - i ≤ m → i ≤ (l[k]'hk).roots.length → out.length + (l[k]'hk).roots.length ≤ 8388608 + i →
  jK kJ [.sl (l.map TDef.enc),.i (k:Int),.i c,.i (i:Int),.sl t,.sl d,.sl (out.map TRoot.enc)] = .ex 2 [.sl (l.map TDef.enc),.i (k:Int),.i c,.sl t,.sl d,.sl ((out ++ rk c ((l[k]'hk).roots.drop i)).map TRoot.enc)]:=by
 have hm:=js (f:=TDef.enc) hk
 have hkc:(k:Int) < (l.length:Int):=by omega
 rw [TDef.enc_eq (l[k]'hk)] at hm
 generalize l[k]'hk=e at *
 generalize hR:e.roots=R at *
 intro m
 induction m with
 | zero =>
  intro i out hmm hi ho
  have:i=R.length:=by omega
  subst this
  rw [List.drop_length]
  have hc:¬ ((R.length:Int) < (R.length:Int)):=by omega
  refine kH ?_
  simp only [kJ,List.getD_cons_zero,List.getD_cons_succ,DC.bb_b,DC.ii_i,DC.ss_s,DC.ll_sl,jb,List.length_map,hm,hkc,hc,decide_false,Bool.false_eq_true,if_false,and_self,Int.natCast_nonneg,if_true]
  simp [rk]
 | succ m ih =>
  intro i out hmm hi ho
  by_cases h:i < R.length
  ·have hc:(i:Int) < (R.length:Int):=by omega
   have ws:=jr h (show R.length ≤ 9223372036854775807 by omega)
   have hm2:=js (f:=TRoot.enc) h
   rw [TRoot.enc_eq (R[i]'h)] at hm2
   have hlim:out.length + 1 < kC:=by unfold kC; omega
   have hdr:=List.drop_eq_getElem_cons h
   cases hg:((R[i]'h).kind == c) with
   | true =>
    rw [jO (v':=[.sl (l.map TDef.enc),.i (k:Int),.i c,.i ((i + 1:Nat):Int),.sl t,.sl d,.sl ((out ++ [R[i]'h]).map TRoot.enc)]),ih (i + 1) _ (by omega) (by omega) (by simp; omega),hdr]
    ·unfold rk
     rw [List.filter_cons,hg]
     simp
    ·generalize R[i]'h=r at *
     simp only [kJ,jy,ja,List.getD_cons_zero,List.getD_cons_succ,DC.bb_b,DC.ii_i,DC.ss_s,DC.ll_sl,jb,List.length_map,hm,hm2,hc,hkc,decide_true,decide_false,if_true,Bool.false_eq_true,if_false,ws,List.map_append,jn,List.map_nil,TRoot.enc_eq r,jl,jk,Nat.zero_add,hlim,Int.natCast_nonneg,and_self,hg]
   | false =>
    rw [jO (v':=[.sl (l.map TDef.enc),.i (k:Int),.i c,.i ((i + 1:Nat):Int),.sl t,.sl d,.sl (out.map TRoot.enc)]),ih (i + 1) _ (by omega) (by omega) (by omega),hdr]
    ·unfold rk
     rw [List.filter_cons,hg]
     simp
    ·generalize R[i]'h=r at *
     simp only [kJ,jy,ja,List.getD_cons_zero,List.getD_cons_succ,DC.bb_b,DC.ii_i,DC.ss_s,DC.ll_sl,jb,List.length_map,hm,hm2,hc,hkc,decide_true,decide_false,if_true,Bool.false_eq_true,if_false,ws,List.map_append,jn,List.map_nil,jl,jk,Nat.zero_add,hlim,Int.natCast_nonneg,and_self,hg]
  ·have:i=R.length:=by omega
   subst this
   rw [List.drop_length]
   have hc:¬ ((R.length:Int) < (R.length:Int)):=by omega
   refine kH ?_
   simp only [kJ,List.getD_cons_zero,List.getD_cons_succ,DC.bb_b,DC.ii_i,DC.ss_s,DC.ll_sl,jb,List.length_map,hm,hkc,hc,decide_false,Bool.false_eq_true,if_false,and_self,Int.natCast_nonneg,if_true]
   simp [rk]
theorem j7F (c:Int) (l:List TRoot):(rk c l).length ≤ l.length:=List.length_filter_le _ _
theorem j3c (l:List TDef) (k:Nat) (hk:k < l.length) (c:Int) (hc1:1 ≤ c) (hc3:c ≤ 3) (t d:List (List DC)) (out:List TRoot) (hr:(l[k]'hk).roots.length ≤ 1048576) (hl:l.length ≤ 1048576) (ho:out.length ≤ 4194304) :
  kt [.sl (l.map TDef.enc),.i (k:Int),.i c,.sl t,.sl d,.sl (out.map TRoot.enc)] = .norm [.sl (l.map TDef.enc),.i (k:Int),.i (c + 1),.sl t,.sl d,.sl ((out ++ rk c (l[k]'hk).roots).map TRoot.enc)]:=by
 have h:=j92 l k hk c t d hr hl _ 0 out (Nat.le_refl _) (by omega) (by omega)
 rw [List.drop_zero] at h
 have h':jK kJ [.sl (l.map TDef.enc),.i (k:Int),.i c,.i (0:Int),.sl t,.sl d,.sl (out.map TRoot.enc)] = .ex 2 [.sl (l.map TDef.enc),.i (k:Int),.i c,.sl t,.sl d,.sl ((out ++ rk c (l[k]'hk).roots).map TRoot.enc)]:=h
 have hn:¬ (k:Int) < 0:=by omega
 have ws:IntKind.i64.wrap (c + 1)=c + 1:=by rw [IntKind.wrap_i64]; omega
 simp only [kt,ja,List.getD_cons_zero,List.getD_cons_succ,DC.bb_b,DC.ii_i,DC.ss_s,DC.ll_sl,hc3,hn,decide_true,decide_false,if_true,Bool.false_eq_true,if_false,h',ws]
theorem Zi (l ts:List TDef) (c:Nat) (hc1:1 ≤ c) (hc3:c ≤ 3) (n:List UInt8) (hn:([[DC.s ([]:List UInt8)],[DC.s ([81,117,101,114,121]:List UInt8)],[DC.s ([77,117,116,97,116,105,111,110]:List UInt8)],[DC.s ([83,117,98,115,99,114,105,112,116,105,111,110]:List UInt8)]].getD c [])=[DC.s n]) (d:List (List DC)) (out:List TRoot) (ht:ts.length ≤ 1048576) (ho:out.length ≤ 4194304) :
  kt [.sl (l.map TDef.enc),.i (-1),.i (c:Int),.sl (ts.map TDef.enc),.sl d,.sl (out.map TRoot.enc)] = .norm [.sl (l.map TDef.enc),.i (-1),.i ((c + 1:Nat):Int),.sl (ts.map TDef.enc),.sl d,.sl ((out ++ Qs ts (c:Int) n).map TRoot.enc)]:=by
 have h0:((-1:Int) < 0):=by decide
 have h3:(c:Int) ≤ 3:=by omega
 have ws:IntKind.i64.wrap ((c:Int) + 1)=((c + 1:Nat):Int):=by rw [IntKind.wrap_i64]; omega
 have hidx:9=9 ∧ 0 ≤ (c:Int) ∧ (c:Int) < ([[DC.s ([]:List UInt8)],[DC.s ([81,117,101,114,121]:List UInt8)],[DC.s ([77,117,116,97,116,105,111,110]:List UInt8)],[DC.s ([83,117,98,115,99,114,105,112,116,105,111,110]:List UInt8)]].length:Int):=by
  refine ⟨rfl,by omega,?_⟩
  simp only [jl,jk]
  omega
 have hT:=j42 ts d (out.map TRoot.enc) n ht
 have hlim:out.length + 1 < kC:=by unfold kC; omega
 unfold Qs
 simp only [kt,List.getD_cons_zero,List.getD_cons_succ,DC.bb_b,DC.ii_i,DC.ss_s,DC.ll_sl,h0,h3,decide_true,if_true,jb]
 rw [if_pos ⟨trivial,hidx.2.1,hidx.2.2⟩,hn]
 simp only [List.getD_cons_zero,DC.ss_s,hT,Out.bindR_ret,DC.ii_i]
 by_cases hp:0 ≤ J8 ts n
 ·obtain ⟨a,ha⟩:=Int.eq_ofNat_of_zero_le hp
  have hlt:a < ts.length:=by
   unfold J8 yH at ha
   split at ha
   ·omega
   ·split at ha
    ·rename_i i hi
     obtain ⟨h1,_⟩:=List.findIdx?_eq_some_iff_getElem.1 hi
     omega
    ·omega
  have hm:=js (f:=TDef.enc) hlt
  have hgd:ts.getD a default=ts[a]'hlt:=by rw [List.getD_eq_getElem?_getD,List.getElem?_eq_getElem hlt]; rfl
  rw [TDef.enc_eq (ts[a]'hlt)] at hm
  have hai:(a:Int) < (ts.length:Int):=by omega
  have hge:(a:Int) ≥ 0:=by omega
  simp only [ha,hge,decide_true,if_true,List.length_map,hai,jb,hm,hgd,List.getD_cons_zero,DC.ii_i,and_self,Int.natCast_nonneg,true_and]
  by_cases h2:(ts[a]'hlt).kind=2
  ·have hb:((ts[a]'hlt).kind == (2:Int))=true:=by rw [h2]; rfl
   simp only [hb,if_pos h2,jy,ja,List.getD_cons_zero,List.getD_cons_succ,DC.bb_b,DC.ii_i,DC.ss_s,DC.ll_sl,if_true,jl,jk,List.length_map,Nat.zero_add,hlim,ws,List.map_append,jn,List.map_nil,TRoot.enc_eq]
  ·have hb:((ts[a]'hlt).kind == (2:Int))=false:=beq_eq_false_iff_ne.2 h2
   simp only [hb,if_neg h2,jy,ja,List.getD_cons_zero,List.getD_cons_succ,DC.bb_b,DC.ii_i,DC.ss_s,DC.ll_sl,Bool.false_eq_true,if_false,if_true,ws,jC]
 ·have hge:¬ J8 ts n ≥ 0:=hp
  simp only [hge,decide_false,Bool.false_eq_true,if_false,hp,false_and,jy,ja,List.getD_cons_zero,List.getD_cons_succ,DC.bb_b,DC.ii_i,DC.ss_s,DC.ll_sl,if_true,ws,jC]
theorem Yw (ts:List TDef) (k:Int) (n:List UInt8):(Qs ts k n).length ≤ 1:=by
 unfold Qs; split <;> simp
theorem j8J (l:List TDef) (k:Int) (t d o:List (List DC)):jK kt [.sl (l.map TDef.enc),.i k,.i 4,.sl t,.sl d,.sl o] = .ex 0 [.sl t,.sl d,.sl o]:=by
 refine kH ?_
 have h:¬ ((4:Int) ≤ 3):=by decide
 simp only [kt,List.getD_cons_zero,List.getD_cons_succ,DC.ii_i,DC.ll_sl,h,decide_false,Bool.false_eq_true,if_false]
theorem j44 (l:List TDef) (hw:DC.wt (.sl (l.map TDef.enc)) ≤ 1048576) (k:Nat) (hk:k < l.length):(l[k]'hk).roots.length ≤ 1048576:=by
 have:=jU (je (f:=TDef.enc) (jc hk))
 rw [DC.wt] at hw
 rw [zB] at this
 have h2:DC.wt (.sl ((l[k]'hk).roots.map TRoot.enc)) ≤ 1048576:=by omega
 rw [DC.wt,List.length_map] at h2
 omega
theorem j53 (l ts:List TDef) (d:List (List DC)) (hw:DC.wt (.sl (l.map TDef.enc)) ≤ 1048576) (ht:ts.length ≤ 1048576) :
  jK kt [.sl (l.map TDef.enc),.i (yH (fun d=>d.kind == 8) l),.i 1,.sl (ts.map TDef.enc),.sl d,.sl []] = .ex 0 [.sl (ts.map TDef.enc),.sl d,.sl ((QP l ts).map TRoot.enc)]:=by
 have hl:l.length ≤ 1048576:=by rw [DC.wt,List.length_map] at hw; omega
 unfold QP yH
 cases hf:l.findIdx? fun d=>d.kind == 8 with
 | some k =>
  obtain ⟨hk,_⟩:=List.findIdx?_eq_some_iff_getElem.1 hf
  have hr:=j44 l hw k hk
  have hgd:l.getD k default=l[k]'hk:=by rw [List.getD_eq_getElem?_getD,List.getElem?_eq_getElem hk]; rfl
  have l1:=j7F 1 (l[k]'hk).roots
  have l2:=j7F 2 (l[k]'hk).roots
  have s1:=j3c l k hk 1 (by decide) (by decide) (ts.map TDef.enc) d [] hr hl (by simp)
  have s2:=j3c l k hk 2 (by decide) (by decide) (ts.map TDef.enc) d (rk 1 (l[k]'hk).roots) hr hl (by omega)
  have s3:=j3c l k hk 3 (by decide) (by decide) (ts.map TDef.enc) d (rk 1 (l[k]'hk).roots ++ rk 2 (l[k]'hk).roots) hr hl (by rw [jA]; omega)
  rw [ju] at s1
  dsimp only
  refine (jO s1).trans ((jO s2).trans ((jO s3).trans ?_))
  rw [hgd]
  unfold XS
  rw [← jq]
  exact j8J l k _ d _
 | none =>
  have l1:=Yw ts 1 nmQ
  have l2:=Yw ts 2 nmM
  have s1:=Zi l ts 1 (by decide) (by decide) nmQ rfl d [] ht (by simp)
  have s2:=Zi l ts 2 (by decide) (by decide) nmM rfl d (Qs ts 1 nmQ) ht (by omega)
  have s3:=Zi l ts 3 (by decide) (by decide) nmU rfl d (Qs ts 1 nmQ ++ Qs ts 2 nmM) ht (by rw [jA]; omega)
  rw [ju] at s1
  dsimp only
  refine (jO s1).trans ((jO s2).trans ((jO s3).trans ?_))
  rw [← jq]
  exact j8J l (-1) _ d _
def yi (l:List TDef):List TDef:=J3 (l.filter (J4 0))
def YS (l:List TDef):List TDef:=J3 (l.filter (J4 1))
theorem j1F (l:List TDef) (hw:DC.wt (.sl (l.map TDef.enc)) ≤ 1048576):JI [.sl (l.map TDef.enc)] = .ret [.sl ((yi l).map TDef.enc),.sl ((YS l).map TDef.enc),.sl ((QP l (yi l)).map TRoot.enc)]:=by
 have hl:l.length ≤ 1048576:=by rw [DC.wt,List.length_map] at hw; omega
 have ht:(yi l).length ≤ 1048576:=by
  unfold yi
  rw [VA]
  exact Nat.le_trans (List.length_filter_le _ _) hl
 have g0:=j0L l 0 hw
 have g1:=j0L l 1 hw
 have h8:=j7v l hl
 have hr:=j53 l (yi l) ((YS l).map TDef.enc) hw ht
 rw [Zr]
 simp only [Vc,List.getD_cons_zero,List.getD_cons_succ,DC.ll_sl,DC.ii_i,g0,g1,h8,Out.bindR_ret]
 unfold yi YS at hr ⊢
 rw [hr]
 rfl
end Go.Proofs.QV
