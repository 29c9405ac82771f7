import Derived.Test.YthbcjkppdjpihaaGreatME11
import Derived.Test.YthbcjkppdjpihaaGreatME5
import Derived.Test.YthbcjkppdjpihaaGreatME6
import Derived.Test.YthbcjkppdjpihaaGreatME10
/- What the functions do,and that they do (written by a program). -/
namespace Go.Proofs.QV
open Go
open Out renaming andThenB → j9, andThen → ja
open _root_.List renaming getElem_mem → jo, map_cons → jc, length_append → js, length_nil → je, length_cons → jd, append_assoc → jy, nil_append → ju, mem_map_of_mem → jt
open _root_.Int renaming toNat_natCast → jl
open _root_.Option.some renaming injEq → j8
set_option linter.unusedVariables false
set_option maxRecDepth 100000
noncomputable def pZ:List DC → Out:=fun v4 =>
 if (decide ((v4.getD 3 d0).ii < (v4.getD 2 d0).ii))=true then
 j9 (if 151=151 ∧ 0 ≤ (v4.getD 3 d0).ii ∧ (v4.getD 3 d0).ii < (((v4.getD 1 d0).ll).length:Int) then
 (pf [.i (((((v4.getD 1 d0).ll).getD ((v4.getD 3 d0).ii).toNat []).getD 1 d0).ii),.s (((((v4.getD 1 d0).ll).getD ((v4.getD 3 d0).ii).toNat []).getD 2 d0).ss),.sl (((((v4.getD 1 d0).ll).getD ((v4.getD 3 d0).ii).toNat []).getD 3 d0).ll),.sl (((((v4.getD 1 d0).ll).getD ((v4.getD 3 d0).ii).toNat []).getD 4 d0).ll)]).bindR fun r5 =>
 if ((v4.getD 0 d0).ll).length + [[DC.s (((((v4.getD 1 d0).ll).getD ((v4.getD 3 d0).ii).toNat []).getD 0 d0).ss),DC.i ((r5.getD 0 d0).ii),DC.s ((r5.getD 1 d0).ss),DC.sl ((r5.getD 2 d0).ll),DC.sl ((r5.getD 3 d0).ll)]].length < jN ∧ 144=144 then
 .norm [.sl (((v4.getD 0 d0).ll) ++ [[DC.s (((((v4.getD 1 d0).ll).getD ((v4.getD 3 d0).ii).toNat []).getD 0 d0).ss),DC.i ((r5.getD 0 d0).ii),DC.s ((r5.getD 1 d0).ss),DC.sl ((r5.getD 2 d0).ll),DC.sl ((r5.getD 3 d0).ll)]]),.sl ((v4.getD 1 d0).ll),.i ((v4.getD 2 d0).ii),.i ((v4.getD 3 d0).ii)]
 else
 .fail
 else
 .fail) 1 fun v6 =>
 .norm [.sl ((v6.getD 0 d0).ll),.sl ((v6.getD 1 d0).ll),.i ((v6.getD 2 d0).ii),.i (IntKind.i64.wrap ((v6.getD 3 d0).ii + (1:Int)))]
 else
 .ex 0 [.sl ((v4.getD 0 d0).ll)]
noncomputable def KI (a:List DC):Out :=
 j9 (jO pZ [.sl [],.sl ((a.getD 0 d0).ll),.i (((a.getD 0 d0).ll).length:Int),.i (0:Int)]) 0 fun v7 =>
 .ret [.sl ((v7.getD 0 d0).ll)]
theorem YM a:zr a=KI a:=(jA cfg 89 _ a).trans (by kernel_rfl)
noncomputable def pK:List DC → Out:=fun v4 =>
 if (decide ((v4.getD 0 d0).ii < (((v4.getD 3 d0).ll).length:Int)))=true then
 j9 (if 138=138 ∧ 0 ≤ (v4.getD 0 d0).ii ∧ (v4.getD 0 d0).ii < (((v4.getD 3 d0).ll).length:Int) then
 (qJ [.i (((((v4.getD 3 d0).ll).getD ((v4.getD 0 d0).ii).toNat []).getD 0 d0).ii),.s (((((v4.getD 3 d0).ll).getD ((v4.getD 0 d0).ii).toNat []).getD 1 d0).ss),.sl (((((v4.getD 3 d0).ll).getD ((v4.getD 0 d0).ii).toNat []).getD 2 d0).ll),.sl (((((v4.getD 3 d0).ll).getD ((v4.getD 0 d0).ii).toNat []).getD 3 d0).ll)]).bindR fun r5 =>
 if ((v4.getD 9 d0).ll).length + [[DC.i ((r5.getD 0 d0).ii),DC.s ((r5.getD 1 d0).ss),DC.sl ((r5.getD 2 d0).ll),DC.sl ((r5.getD 3 d0).ll)]].length < jN ∧ 136=136 then
 .norm [.i ((v4.getD 0 d0).ii),.i ((v4.getD 1 d0).ii),.s ((v4.getD 2 d0).ss),.sl ((v4.getD 3 d0).ll),.sl ((v4.getD 4 d0).ll),.i ((v4.getD 5 d0).ii),.s ((v4.getD 6 d0).ss),.i ((v4.getD 7 d0).ii),.s ((v4.getD 8 d0).ss),.sl (((v4.getD 9 d0).ll) ++ [[DC.i ((r5.getD 0 d0).ii),DC.s ((r5.getD 1 d0).ss),DC.sl ((r5.getD 2 d0).ll),DC.sl ((r5.getD 3 d0).ll)]]),.sl ((v4.getD 10 d0).ll)]
 else
 .fail
 else
 .fail) 1 fun v6 =>
 .norm [.i (IntKind.i64.wrap ((v6.getD 0 d0).ii + (1:Int))),.i ((v6.getD 1 d0).ii),.s ((v6.getD 2 d0).ss),.sl ((v6.getD 3 d0).ll),.sl ((v6.getD 4 d0).ll),.i ((v6.getD 5 d0).ii),.s ((v6.getD 6 d0).ss),.i ((v6.getD 7 d0).ii),.s ((v6.getD 8 d0).ss),.sl ((v6.getD 9 d0).ll),.sl ((v6.getD 10 d0).ll)]
 else
 .ex 0 [.i ((v4.getD 5 d0).ii),.s ((v4.getD 6 d0).ss),.i ((v4.getD 7 d0).ii),.s ((v4.getD 8 d0).ss),.sl ((v4.getD 9 d0).ll),.sl ((v4.getD 10 d0).ll)]
noncomputable def Vi (a:List DC):Out :=
 if ([]:List (List DC)).length + ((a.getD 3 d0).ll).length < jN then
 j9 (jO pK [.i (0:Int),.i ((a.getD 0 d0).ii),.s ((a.getD 1 d0).ss),.sl ((a.getD 2 d0).ll),.sl ((a.getD 3 d0).ll),.i (0:Int),.s [],.i ((a.getD 0 d0).ii),.s ((a.getD 1 d0).ss),.sl [],.sl (([]:List (List DC)) ++ ((a.getD 3 d0).ll))]) 0 fun v7 =>
 .ret [.i ((v7.getD 2 d0).ii),.s ((v7.getD 3 d0).ss),.sl ((v7.getD 4 d0).ll),.sl ((v7.getD 5 d0).ll)]
 else
 .fail
theorem j0o a:qJ a=Vi a:=(jA cfg 90 _ a).trans (by kernel_rfl)
noncomputable def qY:List DC → Out:=fun v1 =>
 if (decide ((v1.getD 2 d0).ii < (((v1.getD 0 d0).ll).length:Int)))=true then
 j9 (if 151=151 ∧ 0 ≤ (v1.getD 2 d0).ii ∧ (v1.getD 2 d0).ii < (((v1.getD 0 d0).ll).length:Int) then
 if 151=151 ∧ 0 ≤ (v1.getD 2 d0).ii ∧ (v1.getD 2 d0).ii < (((v1.getD 0 d0).ll).length:Int) then
 (qJ [.i (((((v1.getD 0 d0).ll).getD ((v1.getD 2 d0).ii).toNat []).getD 1 d0).ii),.s (((((v1.getD 0 d0).ll).getD ((v1.getD 2 d0).ii).toNat []).getD 2 d0).ss),.sl (((((v1.getD 0 d0).ll).getD ((v1.getD 2 d0).ii).toNat []).getD 3 d0).ll),.sl (((((v1.getD 0 d0).ll).getD ((v1.getD 2 d0).ii).toNat []).getD 4 d0).ll)]).bindR fun r2 =>
 if ((v1.getD 1 d0).ll).length + [[DC.s (((((v1.getD 0 d0).ll).getD ((v1.getD 2 d0).ii).toNat []).getD 0 d0).ss),DC.i ((r2.getD 0 d0).ii),DC.s ((r2.getD 1 d0).ss),DC.sl ((r2.getD 2 d0).ll),DC.sl ((r2.getD 3 d0).ll)]].length < jN ∧ 144=144 then
 .norm [.sl ((v1.getD 0 d0).ll),.sl (((v1.getD 1 d0).ll) ++ [[DC.s (((((v1.getD 0 d0).ll).getD ((v1.getD 2 d0).ii).toNat []).getD 0 d0).ss),DC.i ((r2.getD 0 d0).ii),DC.s ((r2.getD 1 d0).ss),DC.sl ((r2.getD 2 d0).ll),DC.sl ((r2.getD 3 d0).ll)]]),.i ((v1.getD 2 d0).ii)]
 else
 .fail
 else
 .fail
 else
 .fail) 1 fun v3 =>
 .norm [.sl ((v3.getD 0 d0).ll),.sl ((v3.getD 1 d0).ll),.i (IntKind.i64.wrap ((v3.getD 2 d0).ii + (1:Int)))]
 else
 .ex 0 [.sl ((v1.getD 1 d0).ll)]
noncomputable def Vg (a:List DC):Out :=
 j9 (jO qY [.sl ((a.getD 0 d0).ll),.sl [],.i (0:Int)]) 0 fun v4 =>
 .ret [.sl ((v4.getD 0 d0).ll)]
theorem j0m a:Jp a=Vg a:=(jA cfg 91 _ a).trans (by kernel_rfl)
noncomputable def pJ:List DC → Out:=fun v10 =>
 (jx [.i (3:Int),.sl ((v10.getD 1 d0).ll),.i ((v10.getD 2 d0).ii),.i ((v10.getD 3 d0).ii)]).bindR fun r11 =>
 if (decide ((v10.getD 0 d0).ii < (r11.getD 0 d0).ii))=true then
 j9 ((jH [.sl [[DC.s ([78,111,100,101]:List UInt8)],[DC.s ([78,97,109,101,100]:List UInt8)]],.sl ((r11.getD 1 d0).ll),.i ((r11.getD 2 d0).ii),.i ((r11.getD 3 d0).ii)]).bindR fun r12 =>
 if ((v10.getD 13 d0).ll).length + [[DC.s ((r12.getD 0 d0).ss)]].length < jN then
 .norm [.i ((v10.getD 0 d0).ii),.sl ((r12.getD 1 d0).ll),.i ((r12.getD 2 d0).ii),.i ((r12.getD 3 d0).ii),.i ((v10.getD 4 d0).ii),.b ((v10.getD 5 d0).bb),.s ((v10.getD 6 d0).ss),.s ((v10.getD 7 d0).ss),.b ((v10.getD 8 d0).bb),.i ((v10.getD 9 d0).ii),.b ((v10.getD 10 d0).bb),.s ((v10.getD 11 d0).ss),.s ((v10.getD 12 d0).ss),.sl (((v10.getD 13 d0).ll) ++ [[DC.s ((r12.getD 0 d0).ss)]]),.b ((v10.getD 14 d0).bb),.sl ((v10.getD 15 d0).ll)]
 else
 .fail) 2 fun v13 =>
 .norm [.i (IntKind.i64.wrap ((v13.getD 0 d0).ii + (1:Int))),.sl ((v13.getD 1 d0).ll),.i ((v13.getD 2 d0).ii),.i ((v13.getD 3 d0).ii),.i ((v13.getD 4 d0).ii),.b ((v13.getD 5 d0).bb),.s ((v13.getD 6 d0).ss),.s ((v13.getD 7 d0).ss),.b ((v13.getD 8 d0).bb),.i ((v13.getD 9 d0).ii),.b ((v13.getD 10 d0).bb),.s ((v13.getD 11 d0).ss),.s ((v13.getD 12 d0).ss),.sl ((v13.getD 13 d0).ll),.b ((v13.getD 14 d0).bb),.sl ((v13.getD 15 d0).ll)]
 else
 .ex 1 [.sl ((r11.getD 1 d0).ll),.i ((r11.getD 2 d0).ii),.i ((r11.getD 3 d0).ii),.i ((v10.getD 4 d0).ii),.b ((v10.getD 5 d0).bb),.s ((v10.getD 6 d0).ss),.s ((v10.getD 7 d0).ss),.b ((v10.getD 8 d0).bb),.i ((v10.getD 9 d0).ii),.b ((v10.getD 10 d0).bb),.s ((v10.getD 11 d0).ss),.s ((v10.getD 12 d0).ss),.sl ((v10.getD 13 d0).ll),.b ((v10.getD 14 d0).bb),.sl ((v10.getD 15 d0).ll)]
noncomputable def pI:List DC → Out:=fun v22 =>
 (jx [.i (4:Int),.sl ((v22.getD 1 d0).ll),.i ((v22.getD 2 d0).ii),.i ((v22.getD 3 d0).ii)]).bindR fun r23 =>
 if (decide ((v22.getD 0 d0).ii < (r23.getD 0 d0).ii))=true then
 j9 ((pC [.sl ((r23.getD 1 d0).ll),.i ((r23.getD 2 d0).ii),.i ((r23.getD 3 d0).ii)]).bindR fun r24 =>
 (ky [.sl ((r24.getD 1 d0).ll),.i ((r24.getD 2 d0).ii),.i ((r24.getD 3 d0).ii)]).bindR fun r25 =>
 (pe [.sl ((r25.getD 1 d0).ll),.i ((r25.getD 2 d0).ii),.i ((r25.getD 3 d0).ii)]).bindR fun r26 =>
 (yJ [.sl ((r26.getD 1 d0).ll),.i ((r26.getD 2 d0).ii),.i ((r26.getD 3 d0).ii)]).bindR fun r27 =>
 if ((v22.getD 14 d0).ll).length + [[DC.s ((r24.getD 0 d0).ss),DC.s ((r25.getD 0 d0).ss),DC.sl ((r26.getD 0 d0).ll),DC.s ((r27.getD 0 d0).ss),DC.s ((r27.getD 1 d0).ss),DC.sl []]].length < jN ∧ 63=63 then
 .norm [.i ((v22.getD 0 d0).ii),.sl ((r27.getD 2 d0).ll),.i ((r27.getD 3 d0).ii),.i ((r27.getD 4 d0).ii),.i ((v22.getD 4 d0).ii),.b ((v22.getD 5 d0).bb),.s ((v22.getD 6 d0).ss),.s ((v22.getD 7 d0).ss),.b ((v22.getD 8 d0).bb),.i ((v22.getD 9 d0).ii),.b ((v22.getD 10 d0).bb),.s ((v22.getD 11 d0).ss),.s ((v22.getD 12 d0).ss),.sl ((v22.getD 13 d0).ll),.sl (((v22.getD 14 d0).ll) ++ [[DC.s ((r24.getD 0 d0).ss),DC.s ((r25.getD 0 d0).ss),DC.sl ((r26.getD 0 d0).ll),DC.s ((r27.getD 0 d0).ss),DC.s ((r27.getD 1 d0).ss),DC.sl []]]),.b ((v22.getD 15 d0).bb),.sl ((v22.getD 16 d0).ll)]
 else
 .fail) 4 fun v28 =>
 .norm [.i (IntKind.i64.wrap ((v28.getD 0 d0).ii + (1:Int))),.sl ((v28.getD 1 d0).ll),.i ((v28.getD 2 d0).ii),.i ((v28.getD 3 d0).ii),.i ((v28.getD 4 d0).ii),.b ((v28.getD 5 d0).bb),.s ((v28.getD 6 d0).ss),.s ((v28.getD 7 d0).ss),.b ((v28.getD 8 d0).bb),.i ((v28.getD 9 d0).ii),.b ((v28.getD 10 d0).bb),.s ((v28.getD 11 d0).ss),.s ((v28.getD 12 d0).ss),.sl ((v28.getD 13 d0).ll),.sl ((v28.getD 14 d0).ll),.b ((v28.getD 15 d0).bb),.sl ((v28.getD 16 d0).ll)]
 else
 .ex 3 [.sl ((r23.getD 1 d0).ll),.i ((r23.getD 2 d0).ii),.i ((r23.getD 3 d0).ii),.i ((v22.getD 4 d0).ii),.b ((v22.getD 5 d0).bb),.s ((v22.getD 6 d0).ss),.s ((v22.getD 7 d0).ss),.b ((v22.getD 8 d0).bb),.i ((v22.getD 9 d0).ii),.b ((v22.getD 10 d0).bb),.s ((v22.getD 11 d0).ss),.s ((v22.getD 12 d0).ss),.sl ((v22.getD 13 d0).ll),.sl ((v22.getD 14 d0).ll),.b ((v22.getD 15 d0).bb),.sl ((v22.getD 16 d0).ll)]
noncomputable def pH:List DC → Out:=fun v34 =>
 (jx [.i (3:Int),.sl ((v34.getD 1 d0).ll),.i ((v34.getD 2 d0).ii),.i ((v34.getD 3 d0).ii)]).bindR fun r35 =>
 if (decide ((v34.getD 0 d0).ii < (r35.getD 0 d0).ii))=true then
 j9 ((jH [.sl [[DC.s ([85,115,101,114]:List UInt8)],[DC.s ([80,111,115,116]:List UInt8)]],.sl ((r35.getD 1 d0).ll),.i ((r35.getD 2 d0).ii),.i ((r35.getD 3 d0).ii)]).bindR fun r36 =>
 if ((v34.getD 13 d0).ll).length + [[DC.s ((r36.getD 0 d0).ss)]].length < jN then
 .norm [.i ((v34.getD 0 d0).ii),.sl ((r36.getD 1 d0).ll),.i ((r36.getD 2 d0).ii),.i ((r36.getD 3 d0).ii),.i ((v34.getD 4 d0).ii),.b ((v34.getD 5 d0).bb),.s ((v34.getD 6 d0).ss),.s ((v34.getD 7 d0).ss),.b ((v34.getD 8 d0).bb),.i ((v34.getD 9 d0).ii),.b ((v34.getD 10 d0).bb),.s ((v34.getD 11 d0).ss),.s ((v34.getD 12 d0).ss),.sl (((v34.getD 13 d0).ll) ++ [[DC.s ((r36.getD 0 d0).ss)]]),.b ((v34.getD 14 d0).bb),.sl ((v34.getD 15 d0).ll)]
 else
 .fail) 6 fun v37 =>
 .norm [.i (IntKind.i64.wrap ((v37.getD 0 d0).ii + (1:Int))),.sl ((v37.getD 1 d0).ll),.i ((v37.getD 2 d0).ii),.i ((v37.getD 3 d0).ii),.i ((v37.getD 4 d0).ii),.b ((v37.getD 5 d0).bb),.s ((v37.getD 6 d0).ss),.s ((v37.getD 7 d0).ss),.b ((v37.getD 8 d0).bb),.i ((v37.getD 9 d0).ii),.b ((v37.getD 10 d0).bb),.s ((v37.getD 11 d0).ss),.s ((v37.getD 12 d0).ss),.sl ((v37.getD 13 d0).ll),.b ((v37.getD 14 d0).bb),.sl ((v37.getD 15 d0).ll)]
 else
 .ex 5 [.sl ((r35.getD 1 d0).ll),.i ((r35.getD 2 d0).ii),.i ((r35.getD 3 d0).ii),.i ((v34.getD 4 d0).ii),.b ((v34.getD 5 d0).bb),.s ((v34.getD 6 d0).ss),.s ((v34.getD 7 d0).ss),.b ((v34.getD 8 d0).bb),.i ((v34.getD 9 d0).ii),.b ((v34.getD 10 d0).bb),.s ((v34.getD 11 d0).ss),.s ((v34.getD 12 d0).ss),.sl ((v34.getD 13 d0).ll),.b ((v34.getD 14 d0).bb),.sl ((v34.getD 15 d0).ll)]
noncomputable def pG:List DC → Out:=fun v44 =>
 (jx [.i (4:Int),.sl ((v44.getD 1 d0).ll),.i ((v44.getD 2 d0).ii),.i ((v44.getD 3 d0).ii)]).bindR fun r45 =>
 if (decide ((v44.getD 0 d0).ii < (r45.getD 0 d0).ii))=true then
 j9 ((jH [.sl [[DC.s ([82,69,68]:List UInt8)],[DC.s ([66,76,85,69]:List UInt8)],[DC.s ([111,110]:List UInt8)]],.sl ((r45.getD 1 d0).ll),.i ((r45.getD 2 d0).ii),.i ((r45.getD 3 d0).ii)]).bindR fun r46 =>
 (ky [.sl ((r46.getD 1 d0).ll),.i ((r46.getD 2 d0).ii),.i ((r46.getD 3 d0).ii)]).bindR fun r47 =>
 if ((v44.getD 13 d0).ll).length + [[DC.s ((r46.getD 0 d0).ss),DC.s ((r47.getD 0 d0).ss),DC.sl []]].length < jN ∧ 65=65 then
 .norm [.i ((v44.getD 0 d0).ii),.sl ((r47.getD 1 d0).ll),.i ((r47.getD 2 d0).ii),.i ((r47.getD 3 d0).ii),.i ((v44.getD 4 d0).ii),.b ((v44.getD 5 d0).bb),.s ((v44.getD 6 d0).ss),.s ((v44.getD 7 d0).ss),.b ((v44.getD 8 d0).bb),.i ((v44.getD 9 d0).ii),.b ((v44.getD 10 d0).bb),.s ((v44.getD 11 d0).ss),.s ((v44.getD 12 d0).ss),.sl (((v44.getD 13 d0).ll) ++ [[DC.s ((r46.getD 0 d0).ss),DC.s ((r47.getD 0 d0).ss),DC.sl []]]),.b ((v44.getD 14 d0).bb),.sl ((v44.getD 15 d0).ll)]
 else
 .fail) 8 fun v48 =>
 .norm [.i (IntKind.i64.wrap ((v48.getD 0 d0).ii + (1:Int))),.sl ((v48.getD 1 d0).ll),.i ((v48.getD 2 d0).ii),.i ((v48.getD 3 d0).ii),.i ((v48.getD 4 d0).ii),.b ((v48.getD 5 d0).bb),.s ((v48.getD 6 d0).ss),.s ((v48.getD 7 d0).ss),.b ((v48.getD 8 d0).bb),.i ((v48.getD 9 d0).ii),.b ((v48.getD 10 d0).bb),.s ((v48.getD 11 d0).ss),.s ((v48.getD 12 d0).ss),.sl ((v48.getD 13 d0).ll),.b ((v48.getD 14 d0).bb),.sl ((v48.getD 15 d0).ll)]
 else
 .ex 7 [.sl ((r45.getD 1 d0).ll),.i ((r45.getD 2 d0).ii),.i ((r45.getD 3 d0).ii),.i ((v44.getD 4 d0).ii),.b ((v44.getD 5 d0).bb),.s ((v44.getD 6 d0).ss),.s ((v44.getD 7 d0).ss),.b ((v44.getD 8 d0).bb),.i ((v44.getD 9 d0).ii),.b ((v44.getD 10 d0).bb),.s ((v44.getD 11 d0).ss),.s ((v44.getD 12 d0).ss),.sl ((v44.getD 13 d0).ll),.b ((v44.getD 14 d0).bb),.sl ((v44.getD 15 d0).ll)]
noncomputable def Vc (a:List DC):Out :=
 (jx [.i (8:Int),.sl ((a.getD 0 d0).ll),.i ((a.getD 1 d0).ii),.i ((a.getD 2 d0).ii)]).bindR fun r1 =>
 (jH [.sl [[DC.s ([85,115,101,114]:List UInt8)],[DC.s ([80,111,115,116]:List UInt8)],[DC.s ([78,111,100,101]:List UInt8)],[DC.s ([67,111,108,111,114]:List UInt8)],[DC.s ([70,105,110,100]:List UInt8)],[DC.s ([65,110,121]:List UInt8)],[DC.s ([68,97,116,101]:List UInt8)]],.sl ((r1.getD 1 d0).ll),.i ((r1.getD 2 d0).ii),.i ((r1.getD 3 d0).ii)]).bindR fun r2 =>
 (ky [.sl ((r2.getD 1 d0).ll),.i ((r2.getD 2 d0).ii),.i ((r2.getD 3 d0).ii)]).bindR fun r3 =>
 (pQ [.b false,.sl ((r3.getD 1 d0).ll),.i ((r3.getD 2 d0).ii),.i ((r3.getD 3 d0).ii)]).bindR fun r4 =>
 j9 (ja (if ((IntKind.i64.wrap ((1:Int) + (r1.getD 0 d0).ii)) == (2:Int))=true then
 .norm [.i (IntKind.i64.wrap ((1:Int) + (r1.getD 0 d0).ii)),.b ((IntKind.i64.wrap ((1:Int) + (r1.getD 0 d0).ii)) == (2:Int)),.sl ((r4.getD 1 d0).ll),.i ((r4.getD 2 d0).ii),.i ((r4.getD 3 d0).ii),.i (0:Int),.b false,.s [],.s [],.b false,.i (IntKind.i64.wrap ((1:Int) + (r1.getD 0 d0).ii)),.b false,.s ((r3.getD 0 d0).ss),.s ((r2.getD 0 d0).ss),.b false,.sl ((r4.getD 0 d0).ll)]
 else
 .norm [.i (IntKind.i64.wrap ((1:Int) + (r1.getD 0 d0).ii)),.b ((IntKind.i64.wrap ((1:Int) + (r1.getD 0 d0).ii)) == (3:Int)),.sl ((r4.getD 1 d0).ll),.i ((r4.getD 2 d0).ii),.i ((r4.getD 3 d0).ii),.i (0:Int),.b false,.s [],.s [],.b false,.i (IntKind.i64.wrap ((1:Int) + (r1.getD 0 d0).ii)),.b false,.s ((r3.getD 0 d0).ss),.s ((r2.getD 0 d0).ss),.b false,.sl ((r4.getD 0 d0).ll)]) fun v5 =>
 ja (if (v5.getD 1 d0).bb=true then
 j9 (jO pJ [.i (0:Int),.sl ((v5.getD 2 d0).ll),.i ((v5.getD 3 d0).ii),.i ((v5.getD 4 d0).ii),.i ((v5.getD 5 d0).ii),.b ((v5.getD 6 d0).bb),.s ((v5.getD 7 d0).ss),.s ((v5.getD 8 d0).ss),.b ((v5.getD 9 d0).bb),.i ((v5.getD 10 d0).ii),.b ((v5.getD 11 d0).bb),.s ((v5.getD 12 d0).ss),.s ((v5.getD 13 d0).ss),.sl [],.b ((v5.getD 14 d0).bb),.sl ((v5.getD 15 d0).ll)]) 1 fun v14 =>
 j9 (jO pI [.i (0:Int),.sl ((v14.getD 0 d0).ll),.i ((v14.getD 1 d0).ii),.i ((v14.getD 2 d0).ii),.i ((v14.getD 3 d0).ii),.b ((v14.getD 4 d0).bb),.s ((v14.getD 5 d0).ss),.s ((v14.getD 6 d0).ss),.b ((v14.getD 7 d0).bb),.i ((v14.getD 8 d0).ii),.b ((v14.getD 9 d0).bb),.s ((v14.getD 10 d0).ss),.s ((v14.getD 11 d0).ss),.sl ((v14.getD 12 d0).ll),.sl [],.b ((v14.getD 13 d0).bb),.sl ((v14.getD 14 d0).ll)]) 3 fun v29 =>
 .norm [.sl ((v29.getD 0 d0).ll),.i ((v29.getD 1 d0).ii),.i ((v29.getD 2 d0).ii),.i ((v29.getD 3 d0).ii),.b ((v29.getD 4 d0).bb),.s ((v29.getD 5 d0).ss),.s ((v29.getD 6 d0).ss),.b ((v29.getD 7 d0).bb),.i ((v29.getD 8 d0).ii),.b ((v29.getD 9 d0).bb),.s ((v29.getD 10 d0).ss),.s ((v29.getD 11 d0).ss),.sl ((v29.getD 12 d0).ll),.sl ((v29.getD 13 d0).ll),.sl [],.sl [],.sl [],.b ((v29.getD 14 d0).bb),.sl ((v29.getD 15 d0).ll)]
 else
 ja (if ((v5.getD 0 d0).ii == (4:Int))=true then
 j9 (jO pH [.i (0:Int),.sl ((v5.getD 2 d0).ll),.i ((v5.getD 3 d0).ii),.i ((v5.getD 4 d0).ii),.i ((v5.getD 5 d0).ii),.b ((v5.getD 6 d0).bb),.s ((v5.getD 7 d0).ss),.s ((v5.getD 8 d0).ss),.b ((v5.getD 9 d0).bb),.i ((v5.getD 10 d0).ii),.b ((v5.getD 11 d0).bb),.s ((v5.getD 12 d0).ss),.s ((v5.getD 13 d0).ss),.sl [],.b ((v5.getD 14 d0).bb),.sl ((v5.getD 15 d0).ll)]) 5 fun v38 =>
 .norm [.sl ((v38.getD 0 d0).ll),.i ((v38.getD 1 d0).ii),.i ((v38.getD 2 d0).ii),.i ((v38.getD 3 d0).ii),.b ((v38.getD 4 d0).bb),.s ((v38.getD 5 d0).ss),.s ((v38.getD 6 d0).ss),.b ((v38.getD 7 d0).bb),.i ((v38.getD 8 d0).ii),.b ((v38.getD 9 d0).bb),.s ((v38.getD 10 d0).ss),.s ((v38.getD 11 d0).ss),.sl ((v38.getD 12 d0).ll),.sl [],.sl [],.sl [],.b ((v38.getD 13 d0).bb),.sl ((v38.getD 14 d0).ll)]
 else
 ja (if ((v5.getD 0 d0).ii == (5:Int))=true then
 j9 (jO pG [.i (0:Int),.sl ((v5.getD 2 d0).ll),.i ((v5.getD 3 d0).ii),.i ((v5.getD 4 d0).ii),.i ((v5.getD 5 d0).ii),.b ((v5.getD 6 d0).bb),.s ((v5.getD 7 d0).ss),.s ((v5.getD 8 d0).ss),.b ((v5.getD 9 d0).bb),.i ((v5.getD 10 d0).ii),.b ((v5.getD 11 d0).bb),.s ((v5.getD 12 d0).ss),.s ((v5.getD 13 d0).ss),.sl [],.b ((v5.getD 14 d0).bb),.sl ((v5.getD 15 d0).ll)]) 7 fun v49 =>
 .norm [.sl ((v49.getD 0 d0).ll),.i ((v49.getD 1 d0).ii),.i ((v49.getD 2 d0).ii),.i ((v49.getD 3 d0).ii),.b ((v49.getD 4 d0).bb),.s ((v49.getD 5 d0).ss),.s ((v49.getD 6 d0).ss),.b ((v49.getD 7 d0).bb),.i ((v49.getD 8 d0).ii),.b ((v49.getD 9 d0).bb),.s ((v49.getD 10 d0).ss),.s ((v49.getD 11 d0).ss),.sl [],.sl [],.sl ((v49.getD 12 d0).ll),.sl [],.b ((v49.getD 13 d0).bb),.sl ((v49.getD 14 d0).ll)]
 else
 ja (if ((v5.getD 0 d0).ii == (6:Int))=true then
 (pe [.sl ((v5.getD 2 d0).ll),.i ((v5.getD 3 d0).ii),.i ((v5.getD 4 d0).ii)]).bindR fun r50 =>
 .norm [.sl ((r50.getD 1 d0).ll),.i ((r50.getD 2 d0).ii),.i ((r50.getD 3 d0).ii),.i ((v5.getD 5 d0).ii),.b ((v5.getD 6 d0).bb),.s ((v5.getD 7 d0).ss),.s ((v5.getD 8 d0).ss),.b ((v5.getD 9 d0).bb),.i ((v5.getD 10 d0).ii),.b ((v5.getD 11 d0).bb),.s ((v5.getD 12 d0).ss),.s ((v5.getD 13 d0).ss),.sl [],.sl ((r50.getD 0 d0).ll),.sl [],.b ((v5.getD 14 d0).bb),.sl ((v5.getD 15 d0).ll)]
 else
 ja (if ((v5.getD 0 d0).ii == (7:Int))=true then
 (pe [.sl ((v5.getD 2 d0).ll),.i ((v5.getD 3 d0).ii),.i ((v5.getD 4 d0).ii)]).bindR fun r51 =>
 (kX [.i (2:Int),.sl ((r51.getD 1 d0).ll),.i ((r51.getD 2 d0).ii),.i ((r51.getD 3 d0).ii)]).bindR fun r52 =>
 (jH [.sl [[DC.s ([70,73,69,76,68]:List UInt8)],[DC.s ([81,85,69,82,89]:List UInt8)],[DC.s ([79,66,74,69,67,84]:List UInt8)]],.sl ((r52.getD 1 d0).ll),.i ((r52.getD 2 d0).ii),.i ((r52.getD 3 d0).ii)]).bindR fun r53 =>
 .norm [.sl ((r53.getD 1 d0).ll),.i ((r53.getD 2 d0).ii),.i ((r53.getD 3 d0).ii),.i ((v5.getD 5 d0).ii),.b ((v5.getD 6 d0).bb),.s ((v5.getD 7 d0).ss),.s ((v5.getD 8 d0).ss),.b ((v5.getD 9 d0).bb),.i ((v5.getD 10 d0).ii),.b ((v5.getD 11 d0).bb),.s ((v5.getD 12 d0).ss),.s ((v5.getD 13 d0).ss),.sl [[DC.s ((r53.getD 0 d0).ss)],[DC.s ([69,78,85,77]:List UInt8)]],.sl ((r51.getD 0 d0).ll),.sl [],.b ((r52.getD 0 d0).bb),.sl []]
 else
 ja (if ((v5.getD 0 d0).ii == (8:Int))=true then
 (jx [.i (3:Int),.sl ((v5.getD 2 d0).ll),.i ((v5.getD 3 d0).ii),.i ((v5.getD 4 d0).ii)]).bindR fun r54 =>
 .norm [.sl ((r54.getD 1 d0).ll),.i ((r54.getD 2 d0).ii),.i ((r54.getD 3 d0).ii),.i ((v5.getD 5 d0).ii),.b ((v5.getD 6 d0).bb),.s ((v5.getD 7 d0).ss),.s ((v5.getD 8 d0).ss),.b ((v5.getD 9 d0).bb),.i ((v5.getD 10 d0).ii),.b ((v5.getD 11 d0).bb),.s ((v5.getD 12 d0).ss),.s ([]:List UInt8),.sl [[DC.i (1:Int),DC.s ([85,115,101,114]:List UInt8)],[DC.i (IntKind.i64.wrap ((1:Int) + (r54.getD 0 d0).ii)),DC.s ([80,111,115,116]:List UInt8)]],.b ((v5.getD 14 d0).bb),.sl ((v5.getD 15 d0).ll)]
 else
 .norm [.sl ((v5.getD 2 d0).ll),.i ((v5.getD 3 d0).ii),.i ((v5.getD 4 d0).ii),.i ((v5.getD 5 d0).ii),.b ((v5.getD 6 d0).bb),.s ((v5.getD 7 d0).ss),.s ((v5.getD 8 d0).ss),.b ((v5.getD 9 d0).bb),.i ((v5.getD 10 d0).ii),.b ((v5.getD 11 d0).bb),.s ((v5.getD 12 d0).ss),.s ((v5.getD 13 d0).ss),.sl [],.b ((v5.getD 14 d0).bb),.sl ((v5.getD 15 d0).ll)]) fun v55 =>
 .norm [.sl ((v55.getD 0 d0).ll),.i ((v55.getD 1 d0).ii),.i ((v55.getD 2 d0).ii),.i ((v55.getD 3 d0).ii),.b ((v55.getD 4 d0).bb),.s ((v55.getD 5 d0).ss),.s ((v55.getD 6 d0).ss),.b ((v55.getD 7 d0).bb),.i ((v55.getD 8 d0).ii),.b ((v55.getD 9 d0).bb),.s ((v55.getD 10 d0).ss),.s ((v55.getD 11 d0).ss),.sl [],.sl [],.sl ((v55.getD 12 d0).ll),.b ((v55.getD 13 d0).bb),.sl ((v55.getD 14 d0).ll)]) fun v56 =>
 .norm [.sl ((v56.getD 0 d0).ll),.i ((v56.getD 1 d0).ii),.i ((v56.getD 2 d0).ii),.i ((v56.getD 3 d0).ii),.b ((v56.getD 4 d0).bb),.s ((v56.getD 5 d0).ss),.s ((v56.getD 6 d0).ss),.b ((v56.getD 7 d0).bb),.i ((v56.getD 8 d0).ii),.b ((v56.getD 9 d0).bb),.s ((v56.getD 10 d0).ss),.s ((v56.getD 11 d0).ss),.sl ((v56.getD 12 d0).ll),.sl ((v56.getD 13 d0).ll),.sl ((v56.getD 14 d0).ll),.b ((v56.getD 15 d0).bb),.sl ((v56.getD 16 d0).ll)]) fun v57 =>
 .norm [.sl ((v57.getD 0 d0).ll),.i ((v57.getD 1 d0).ii),.i ((v57.getD 2 d0).ii),.i ((v57.getD 3 d0).ii),.b ((v57.getD 4 d0).bb),.s ((v57.getD 5 d0).ss),.s ((v57.getD 6 d0).ss),.b ((v57.getD 7 d0).bb),.i ((v57.getD 8 d0).ii),.b ((v57.getD 9 d0).bb),.s ((v57.getD 10 d0).ss),.s ((v57.getD 11 d0).ss),.sl ((v57.getD 12 d0).ll),.sl ((v57.getD 13 d0).ll),.sl [],.sl ((v57.getD 14 d0).ll),.b ((v57.getD 15 d0).bb),.sl ((v57.getD 16 d0).ll)]) fun v58 =>
 .norm [.sl ((v58.getD 0 d0).ll),.i ((v58.getD 1 d0).ii),.i ((v58.getD 2 d0).ii),.i ((v58.getD 3 d0).ii),.b ((v58.getD 4 d0).bb),.s ((v58.getD 5 d0).ss),.s ((v58.getD 6 d0).ss),.b ((v58.getD 7 d0).bb),.i ((v58.getD 8 d0).ii),.b ((v58.getD 9 d0).bb),.s ((v58.getD 10 d0).ss),.s ((v58.getD 11 d0).ss),.sl ((v58.getD 12 d0).ll),.sl ((v58.getD 13 d0).ll),.sl ((v58.getD 14 d0).ll),.sl ((v58.getD 15 d0).ll),.b ((v58.getD 16 d0).bb),.sl ((v58.getD 17 d0).ll)]) fun v59 =>
 .norm [.sl ((v59.getD 0 d0).ll),.i ((v59.getD 1 d0).ii),.i ((v59.getD 2 d0).ii),.i ((v59.getD 3 d0).ii),.b ((v59.getD 4 d0).bb),.s ((v59.getD 5 d0).ss),.s ((v59.getD 6 d0).ss),.b ((v59.getD 7 d0).bb),.i ((v59.getD 8 d0).ii),.b ((v59.getD 9 d0).bb),.s ((v59.getD 10 d0).ss),.s ((v59.getD 11 d0).ss),.sl ((v59.getD 12 d0).ll),.sl [],.sl ((v59.getD 13 d0).ll),.sl ((v59.getD 14 d0).ll),.sl ((v59.getD 15 d0).ll),.b ((v59.getD 16 d0).bb),.sl ((v59.getD 17 d0).ll)]) fun v60 =>
 .norm [.sl ((v60.getD 0 d0).ll),.i ((v60.getD 1 d0).ii),.i ((v60.getD 2 d0).ii),.i ((v60.getD 3 d0).ii),.b ((v60.getD 4 d0).bb),.s ((v60.getD 5 d0).ss),.s ((v60.getD 6 d0).ss),.b ((v60.getD 7 d0).bb),.i ((v60.getD 8 d0).ii),.b ((v60.getD 9 d0).bb),.s ((v60.getD 10 d0).ss),.s ((v60.getD 11 d0).ss),.sl ((v60.getD 12 d0).ll),.sl ((v60.getD 13 d0).ll),.sl ((v60.getD 14 d0).ll),.sl ((v60.getD 15 d0).ll),.sl ((v60.getD 16 d0).ll),.b ((v60.getD 17 d0).bb),.sl ((v60.getD 18 d0).ll)]) 0 fun v61 =>
 ja (if ((v61.getD 8 d0).ii != (7:Int))=true then
 (Kl [.i ((v61.getD 8 d0).ii),.b ((v61.getD 9 d0).bb),.s ((v61.getD 10 d0).ss),.s ((v61.getD 11 d0).ss),.sl ((v61.getD 12 d0).ll),.sl ((v61.getD 13 d0).ll),.sl ((v61.getD 14 d0).ll),.sl ((v61.getD 15 d0).ll),.sl ((v61.getD 16 d0).ll),.b ((v61.getD 17 d0).bb),.sl ((v61.getD 18 d0).ll)]).bindR fun r62 =>
 if (r62.getD 0 d0).bb=true then
 (kX [.i (4:Int),.sl ((v61.getD 0 d0).ll),.i ((v61.getD 1 d0).ii),.i ((v61.getD 2 d0).ii)]).bindR fun r63 =>
 .norm [.b ((r63.getD 0 d0).bb),.sl ((r63.getD 1 d0).ll),.i ((r63.getD 2 d0).ii),.i ((r63.getD 3 d0).ii),.i ((v61.getD 3 d0).ii),.b ((v61.getD 4 d0).bb),.s ((v61.getD 5 d0).ss),.s ((v61.getD 6 d0).ss),.b ((v61.getD 7 d0).bb),.i ((v61.getD 8 d0).ii),.b ((v61.getD 9 d0).bb),.s ((v61.getD 10 d0).ss),.s ((v61.getD 11 d0).ss),.sl ((v61.getD 12 d0).ll),.sl ((v61.getD 13 d0).ll),.sl ((v61.getD 14 d0).ll),.sl ((v61.getD 15 d0).ll),.sl ((v61.getD 16 d0).ll),.b ((v61.getD 17 d0).bb),.sl ((v61.getD 18 d0).ll)]
 else
 .norm [.b false,.sl ((v61.getD 0 d0).ll),.i ((v61.getD 1 d0).ii),.i ((v61.getD 2 d0).ii),.i ((v61.getD 3 d0).ii),.b ((v61.getD 4 d0).bb),.s ((v61.getD 5 d0).ss),.s ((v61.getD 6 d0).ss),.b ((v61.getD 7 d0).bb),.i ((v61.getD 8 d0).ii),.b ((v61.getD 9 d0).bb),.s ((v61.getD 10 d0).ss),.s ((v61.getD 11 d0).ss),.sl ((v61.getD 12 d0).ll),.sl ((v61.getD 13 d0).ll),.sl ((v61.getD 14 d0).ll),.sl ((v61.getD 15 d0).ll),.sl ((v61.getD 16 d0).ll),.b ((v61.getD 17 d0).bb),.sl ((v61.getD 18 d0).ll)]
 else
 .norm [.b false,.sl ((v61.getD 0 d0).ll),.i ((v61.getD 1 d0).ii),.i ((v61.getD 2 d0).ii),.i ((v61.getD 3 d0).ii),.b ((v61.getD 4 d0).bb),.s ((v61.getD 5 d0).ss),.s ((v61.getD 6 d0).ss),.b ((v61.getD 7 d0).bb),.i ((v61.getD 8 d0).ii),.b ((v61.getD 9 d0).bb),.s ((v61.getD 10 d0).ss),.s ((v61.getD 11 d0).ss),.sl ((v61.getD 12 d0).ll),.sl ((v61.getD 13 d0).ll),.sl ((v61.getD 14 d0).ll),.sl ((v61.getD 15 d0).ll),.sl ((v61.getD 16 d0).ll),.b ((v61.getD 17 d0).bb),.sl ((v61.getD 18 d0).ll)]) fun v64 =>
 ja (if (v64.getD 0 d0).bb=true then
 .norm [.sl ((v64.getD 1 d0).ll),.i ((v64.getD 2 d0).ii),.i ((v64.getD 3 d0).ii),.i ((v64.getD 4 d0).ii),.b ((v64.getD 5 d0).bb),.s ((v64.getD 6 d0).ss),.s ((v64.getD 7 d0).ss),.b ((v64.getD 8 d0).bb),.i ((v64.getD 9 d0).ii),.b true,.s ([]:List UInt8),.s ((v64.getD 12 d0).ss),.sl ((v64.getD 13 d0).ll),.sl ((v64.getD 14 d0).ll),.sl ((v64.getD 15 d0).ll),.sl ((v64.getD 16 d0).ll),.sl ((v64.getD 17 d0).ll),.b ((v64.getD 18 d0).bb),.sl ((v64.getD 19 d0).ll)]
 else
 .norm [.sl ((v64.getD 1 d0).ll),.i ((v64.getD 2 d0).ii),.i ((v64.getD 3 d0).ii),.i ((v64.getD 4 d0).ii),.b ((v64.getD 5 d0).bb),.s ((v64.getD 6 d0).ss),.s ((v64.getD 7 d0).ss),.b ((v64.getD 8 d0).bb),.i ((v64.getD 9 d0).ii),.b ((v64.getD 10 d0).bb),.s ((v64.getD 11 d0).ss),.s ((v64.getD 12 d0).ss),.sl ((v64.getD 13 d0).ll),.sl ((v64.getD 14 d0).ll),.sl ((v64.getD 15 d0).ll),.sl ((v64.getD 16 d0).ll),.sl ((v64.getD 17 d0).ll),.b ((v64.getD 18 d0).bb),.sl ((v64.getD 19 d0).ll)]) fun v65 =>
 .ret [.i ((v65.getD 8 d0).ii),.b ((v65.getD 9 d0).bb),.s ((v65.getD 10 d0).ss),.s ((v65.getD 11 d0).ss),.sl ((v65.getD 12 d0).ll),.sl ((v65.getD 13 d0).ll),.sl ((v65.getD 14 d0).ll),.sl ((v65.getD 15 d0).ll),.sl ((v65.getD 16 d0).ll),.b ((v65.getD 17 d0).bb),.sl ((v65.getD 18 d0).ll),.sl ((v65.getD 0 d0).ll),.i ((v65.getD 1 d0).ii),.i ((v65.getD 2 d0).ii)]
theorem j0i a:Jn a=Vc a:=(jA cfg 92 _ a).trans (by kernel_rfl)
noncomputable def Xq (a:List DC):Out :=
 (jx [.i (3:Int),.sl ((a.getD 0 d0).ll),.i ((a.getD 1 d0).ii),.i ((a.getD 2 d0).ii)]).bindR fun r1 =>
 j9 (if ((r1.getD 0 d0).ii == (0:Int))=true then
 (pC [.sl ((r1.getD 1 d0).ll),.i ((r1.getD 2 d0).ii),.i ((r1.getD 3 d0).ii)]).bindR fun r2 =>
 .ret [.s ((r2.getD 0 d0).ss),.sl ((r2.getD 1 d0).ll),.i ((r2.getD 2 d0).ii),.i ((r2.getD 3 d0).ii)]
 else
 if ((r1.getD 0 d0).ii == (1:Int))=true then
 (zk [.sl ((r1.getD 1 d0).ll),.i ((r1.getD 2 d0).ii),.i ((r1.getD 3 d0).ii)]).bindR fun r3 =>
 .ret [.s ((r3.getD 0 d0).ss),.sl ((r3.getD 1 d0).ll),.i ((r3.getD 2 d0).ii),.i ((r3.getD 3 d0).ii)]
 else
 .norm [.sl ((r1.getD 1 d0).ll),.i ((r1.getD 2 d0).ii),.i ((r1.getD 3 d0).ii)]) 0 fun v4 =>
 (jH [.sl [[DC.s ([]:List UInt8)],[DC.s ([48,49]:List UInt8)],[DC.s ([45]:List UInt8)],[DC.s ([49,46]:List UInt8)],[DC.s ([46,53]:List UInt8)],[DC.s ([49,101]:List UInt8)],[DC.s ([49,101,43]:List UInt8)],[DC.s ([45,48,49]:List UInt8)],[DC.s ([49,46,53,46,50]:List UInt8)],[DC.s ([49,97]:List UInt8)],[DC.s ([97,32,98]:List UInt8)],[DC.s ([97,45,98]:List UInt8)],[DC.s ([57]:List UInt8)],[DC.s ([97,98,99,100,101,102,103,104,105,106,107,108,109,110,111,112,113,114,115,116,117,118,119,120,121,122,97,98,99,100]:List UInt8)],[DC.s ([97,98,99,100,101,102,103,104,105,106,107,108,109,110,111,112,113,114,115,116,117,118,119,120,121,122,97,98,99,100,101]:List UInt8)],[DC.s ([48,120,49]:List UInt8)],[DC.s ([45,48]:List UInt8)],[DC.s ([48,48]:List UInt8)],[DC.s ([116,114,117,101]:List UInt8)],[DC.s ([110,117,108,108]:List UInt8)],[DC.s ([49,46,101,51]:List UInt8)],[DC.s ([49,50,51,52,53,54,55,56,57,48,49,50,51,52,53,54,55,56,57,48,49,50,51,52,53,54,55,56,57,48,49,50,51,52,53,54,55,56,57,48]:List UInt8)],[DC.s ([49,50,51,52,53,54,55,56,57,48,49,50,51,52,53,54,55,56,57,48,49,50,51,52,53,54,55,56,57,48,49,50,51,52,53,54,55,56,57,48,49]:List UInt8)]],.sl ((v4.getD 0 d0).ll),.i ((v4.getD 1 d0).ii),.i ((v4.getD 2 d0).ii)]).bindR fun r5 =>
 .ret [.s ((r5.getD 0 d0).ss),.sl ((r5.getD 1 d0).ll),.i ((r5.getD 2 d0).ii),.i ((r5.getD 3 d0).ii)]
theorem j1U a:zC a=Xq a:=(jA cfg 93 _ a).trans (by kernel_rfl)
noncomputable def Vm (a:List DC):Out :=
 (jx [.i (((a.getD 0 d0).ll).length:Int),.sl ((a.getD 1 d0).ll),.i ((a.getD 2 d0).ii),.i ((a.getD 3 d0).ii)]).bindR fun r1 =>
 if 9=9 ∧ 0 ≤ (r1.getD 0 d0).ii ∧ (r1.getD 0 d0).ii < (((a.getD 0 d0).ll).length:Int) then
 .ret [.s (((((a.getD 0 d0).ll).getD ((r1.getD 0 d0).ii).toNat []).getD 0 d0).ss),.sl ((r1.getD 1 d0).ll),.i ((r1.getD 2 d0).ii),.i ((r1.getD 3 d0).ii)]
 else
 .fail
theorem j0s a:jH a=Vm a:=(jA cfg 94 _ a).trans (by kernel_rfl)
noncomputable def J8 (a:List DC):Out :=
 ja (if ((a.getD 0 d0).ss == (a.getD 6 d0).ss)=true then
 if ((a.getD 1 d0).ss == (a.getD 7 d0).ss)=true then
 (qv [.sl ((a.getD 2 d0).ll),.sl ((a.getD 8 d0).ll)]).bindR fun r1 =>
 if (r1.getD 0 d0).bb=true then
 if (((a.getD 3 d0).ss == (a.getD 9 d0).ss) && (((a.getD 4 d0).ss == (a.getD 10 d0).ss) && true))=true then
 (pa [.sl ((a.getD 5 d0).ll),.sl ((a.getD 11 d0).ll)]).bindR fun r2 =>
 .norm [.b ((r2.getD 0 d0).bb)]
 else
 .norm [.b false]
 else
 .norm [.b false]
 else
 .norm [.b false]
 else
 .norm [.b false]) fun v3 =>
 .ret [.b ((v3.getD 0 d0).bb)]
theorem V0 a:yd a=J8 a:=(jA cfg 95 _ a).trans (by kernel_rfl)
noncomputable def KF (a:List DC):Out :=
 ja (if ((a.getD 0 d0).ss == (a.getD 10 d0).ss)=true then
 if ((a.getD 1 d0).ss == (a.getD 11 d0).ss)=true then
 if (((a.getD 2 d0).ss == (a.getD 12 d0).ss) && (((a.getD 3 d0).ss == (a.getD 13 d0).ss) && true))=true then
 if ((a.getD 4 d0).bb == (a.getD 14 d0).bb)=true then
 (kU [.i ((a.getD 5 d0).ii),.s ((a.getD 6 d0).ss),.sl ((a.getD 7 d0).ll),.sl ((a.getD 8 d0).ll),.i ((a.getD 15 d0).ii),.s ((a.getD 16 d0).ss),.sl ((a.getD 17 d0).ll),.sl ((a.getD 18 d0).ll)]).bindR fun r1 =>
 if (r1.getD 0 d0).bb=true then
 (pa [.sl ((a.getD 9 d0).ll),.sl ((a.getD 19 d0).ll)]).bindR fun r2 =>
 .norm [.b ((r2.getD 0 d0).bb)]
 else
 .norm [.b false]
 else
 .norm [.b false]
 else
 .norm [.b false]
 else
 .norm [.b false]
 else
 .norm [.b false]) fun v3 =>
 .ret [.b ((v3.getD 0 d0).bb)]
theorem YJ a:zp a=KF a:=(jA cfg 96 _ a).trans (by kernel_rfl)
noncomputable def JF (a:List DC):Out :=
 ja (if ((a.getD 0 d0).ss == (a.getD 3 d0).ss)=true then
 if ((a.getD 1 d0).ss == (a.getD 4 d0).ss)=true then
 (pa [.sl ((a.getD 2 d0).ll),.sl ((a.getD 5 d0).ll)]).bindR fun r1 =>
 .norm [.b ((r1.getD 0 d0).bb)]
 else
 .norm [.b false]
 else
 .norm [.b false]) fun v2 =>
 .ret [.b ((v2.getD 0 d0).bb)]
theorem X4 a:yw a=JF a:=(jA cfg 97 _ a).trans (by kernel_rfl)
noncomputable def Vp (a:List DC):Out :=
 ja (if ((a.getD 0 d0).ss == (a.getD 2 d0).ss)=true then
 (zY [.sl ((a.getD 1 d0).ll),.sl ((a.getD 3 d0).ll)]).bindR fun r1 =>
 .norm [.b ((r1.getD 0 d0).bb)]
 else
 .norm [.b false]) fun v2 =>
 .ret [.b ((v2.getD 0 d0).bb)]
theorem j0v a:Jr a=Vp a:=(jA cfg 98 _ a).trans (by kernel_rfl)
noncomputable def Qo (a:List DC):Out :=
 (zn [.i ((a.getD 0 d0).ii)]).bindR fun r1 =>
 if (!((r1.getD 0 d0).bb))=true then
 .ret [.s ([]:List UInt8)]
 else
 j9 (if (decide ((a.getD 0 d0).ii < (128:Int)))=true then
 .ret [.s (kL [[DC.i (IntKind.u8.wrap ((a.getD 0 d0).ii))]])]
 else
 if (decide ((a.getD 0 d0).ii < (2048:Int)))=true then
 if (64:Int)=0 then
 .fail
 else
 if (64:Int)=0 then
 .fail
 else
 .ret [.s (kL [[DC.i (IntKind.u8.wrap (IntKind.i64.wrap ((192:Int) + (IntKind.i64.wrap (((a.getD 0 d0).ii).tdiv (64:Int))))))],[DC.i (IntKind.u8.wrap (IntKind.i64.wrap ((128:Int) + (((a.getD 0 d0).ii).tmod (64:Int)))))]])]
 else
 if (decide ((a.getD 0 d0).ii < (65536:Int)))=true then
 if (4096:Int)=0 then
 .fail
 else
 if (64:Int)=0 then
 .fail
 else
 if (64:Int)=0 then
 .fail
 else
 if (64:Int)=0 then
 .fail
 else
 .ret [.s (kL [[DC.i (IntKind.u8.wrap (IntKind.i64.wrap ((224:Int) + (IntKind.i64.wrap (((a.getD 0 d0).ii).tdiv (4096:Int))))))],[DC.i (IntKind.u8.wrap (IntKind.i64.wrap ((128:Int) + ((IntKind.i64.wrap (((a.getD 0 d0).ii).tdiv (64:Int))).tmod (64:Int)))))],[DC.i (IntKind.u8.wrap (IntKind.i64.wrap ((128:Int) + (((a.getD 0 d0).ii).tmod (64:Int)))))]])]
 else
 .norm [.i ((a.getD 0 d0).ii)]) 0 fun v2 =>
 if (262144:Int)=0 then
 .fail
 else
 if (4096:Int)=0 then
 .fail
 else
 if (64:Int)=0 then
 .fail
 else
 if (64:Int)=0 then
 .fail
 else
 if (64:Int)=0 then
 .fail
 else
 if (64:Int)=0 then
 .fail
 else
 .ret [.s (kL [[DC.i (IntKind.u8.wrap (IntKind.i64.wrap ((240:Int) + (IntKind.i64.wrap (((v2.getD 0 d0).ii).tdiv (262144:Int))))))],[DC.i (IntKind.u8.wrap (IntKind.i64.wrap ((128:Int) + ((IntKind.i64.wrap (((v2.getD 0 d0).ii).tdiv (4096:Int))).tmod (64:Int)))))],[DC.i (IntKind.u8.wrap (IntKind.i64.wrap ((128:Int) + ((IntKind.i64.wrap (((v2.getD 0 d0).ii).tdiv (64:Int))).tmod (64:Int)))))],[DC.i (IntKind.u8.wrap (IntKind.i64.wrap ((128:Int) + (((v2.getD 0 d0).ii).tmod (64:Int)))))]])]
theorem Zs a:zX a=Qo a:=(jA cfg 102 _ a).trans (by kernel_rfl)
noncomputable def JD (a:List DC):Out :=
 (kX [.i (4:Int),.sl ((a.getD 0 d0).ll),.i ((a.getD 1 d0).ii),.i ((a.getD 2 d0).ii)]).bindR fun r1 =>
 if (r1.getD 0 d0).bb=true then
 (yK [.sl ((r1.getD 1 d0).ll),.i ((r1.getD 2 d0).ii),.i ((r1.getD 3 d0).ii)]).bindR fun r2 =>
 .ret [.s ((r2.getD 0 d0).ss),.sl ((r2.getD 1 d0).ll),.i ((r2.getD 2 d0).ii),.i ((r2.getD 3 d0).ii)]
 else
 .ret [.s ([]:List UInt8),.sl ((r1.getD 1 d0).ll),.i ((r1.getD 2 d0).ii),.i ((r1.getD 3 d0).ii)]
theorem X2 a:ky a=JD a:=(jA cfg 122 _ a).trans (by kernel_rfl)
noncomputable def pi:List DC → Out:=fun v1 =>
 (jx [.i (3:Int),.sl ((v1.getD 3 d0).ll),.i ((v1.getD 4 d0).ii),.i ((v1.getD 5 d0).ii)]).bindR fun r2 =>
 if (decide ((v1.getD 2 d0).ii < (r2.getD 0 d0).ii))=true then
 j9 ((jH [.sl [[DC.s ([115,107,105,112]:List UInt8)],[DC.s ([105,110,99,108,117,100,101]:List UInt8)],[DC.s ([100,101,112,114,101,99,97,116,101,100]:List UInt8)],[DC.s ([120]:List UInt8)]],.sl ((r2.getD 1 d0).ll),.i ((r2.getD 2 d0).ii),.i ((r2.getD 3 d0).ii)]).bindR fun r3 =>
 (Jo [.b ((v1.getD 0 d0).bb),.sl ((r3.getD 1 d0).ll),.i ((r3.getD 2 d0).ii),.i ((r3.getD 3 d0).ii)]).bindR fun r4 =>
 if ((v1.getD 1 d0).ll).length + [[DC.s ((r3.getD 0 d0).ss),DC.sl ((r4.getD 0 d0).ll)]].length < jN ∧ 57=57 then
 .norm [.b ((v1.getD 0 d0).bb),.sl (((v1.getD 1 d0).ll) ++ [[DC.s ((r3.getD 0 d0).ss),DC.sl ((r4.getD 0 d0).ll)]]),.i ((v1.getD 2 d0).ii),.sl ((r4.getD 1 d0).ll),.i ((r4.getD 2 d0).ii),.i ((r4.getD 3 d0).ii)]
 else
 .fail) 1 fun v5 =>
 .norm [.b ((v5.getD 0 d0).bb),.sl ((v5.getD 1 d0).ll),.i (IntKind.i64.wrap ((v5.getD 2 d0).ii + (1:Int))),.sl ((v5.getD 3 d0).ll),.i ((v5.getD 4 d0).ii),.i ((v5.getD 5 d0).ii)]
 else
 .ex 0 [.sl ((v1.getD 1 d0).ll),.sl ((r2.getD 1 d0).ll),.i ((r2.getD 2 d0).ii),.i ((r2.getD 3 d0).ii)]
noncomputable def JE (a:List DC):Out :=
 j9 (jO pi [.b ((a.getD 0 d0).bb),.sl [],.i (0:Int),.sl ((a.getD 1 d0).ll),.i ((a.getD 2 d0).ii),.i ((a.getD 3 d0).ii)]) 0 fun v6 =>
 .ret [.sl ((v6.getD 0 d0).ll),.sl ((v6.getD 1 d0).ll),.i ((v6.getD 2 d0).ii),.i ((v6.getD 3 d0).ii)]
theorem X3 a:pQ a=JE a:=(jA cfg 123 _ a).trans (by kernel_rfl)
noncomputable def Vj (a:List DC):Out :=
 (jH [.sl [[DC.s ([97]:List UInt8)],[DC.s ([98]:List UInt8)],[DC.s ([110,97,109,101]:List UInt8)],[DC.s ([105,100]:List UInt8)],[DC.s ([85,115,101,114]:List UInt8)],[DC.s ([80,111,115,116]:List UInt8)],[DC.s ([78,111,100,101]:List UInt8)],[DC.s ([111,110]:List UInt8)],[DC.s ([116,121,112,101]:List UInt8)],[DC.s ([120,49]:List UInt8)],[DC.s ([95,121]:List UInt8)],[DC.s ([82,69,68]:List UInt8)],[DC.s ([113,117,101,114,121]:List UInt8)]],.sl ((a.getD 0 d0).ll),.i ((a.getD 1 d0).ii),.i ((a.getD 2 d0).ii)]).bindR fun r1 =>
 .ret [.s ((r1.getD 0 d0).ss),.sl ((r1.getD 1 d0).ll),.i ((r1.getD 2 d0).ii),.i ((r1.getD 3 d0).ii)]
theorem j0p a:pC a=Vj a:=(jA cfg 124 _ a).trans (by kernel_rfl)
noncomputable def jX:List DC → Out:=fun v1 =>
 (jx [.i (3:Int),.sl ((v1.getD 2 d0).ll),.i ((v1.getD 3 d0).ii),.i ((v1.getD 4 d0).ii)]).bindR fun r2 =>
 if (decide ((v1.getD 1 d0).ii < (r2.getD 0 d0).ii))=true then
 j9 ((jH [.sl [[DC.s ([97]:List UInt8)],[DC.s ([98]:List UInt8)],[DC.s ([105,100]:List UInt8)],[DC.s ([102,105,114,115,116]:List UInt8)]],.sl ((r2.getD 1 d0).ll),.i ((r2.getD 2 d0).ii),.i ((r2.getD 3 d0).ii)]).bindR fun r3 =>
 (ky [.sl ((r3.getD 1 d0).ll),.i ((r3.getD 2 d0).ii),.i ((r3.getD 3 d0).ii)]).bindR fun r4 =>
 (yJ [.sl ((r4.getD 1 d0).ll),.i ((r4.getD 2 d0).ii),.i ((r4.getD 3 d0).ii)]).bindR fun r5 =>
 (kX [.i (3:Int),.sl ((r5.getD 2 d0).ll),.i ((r5.getD 3 d0).ii),.i ((r5.getD 4 d0).ii)]).bindR fun r6 =>
 ja (if (r6.getD 0 d0).bb=true then
 (jQ [.i (1:Int),.b false,.sl ((r6.getD 1 d0).ll),.i ((r6.getD 2 d0).ii),.i ((r6.getD 3 d0).ii)]).bindR fun r7 =>
 .norm [.sl ((v1.getD 0 d0).ll),.i ((v1.getD 1 d0).ii),.sl ((r7.getD 4 d0).ll),.i ((r7.getD 5 d0).ii),.i ((r7.getD 6 d0).ii),.s ((r3.getD 0 d0).ss),.s ((r4.getD 0 d0).ss),.s ((r5.getD 0 d0).ss),.s ((r5.getD 1 d0).ss),.b true,.i ((r7.getD 0 d0).ii),.s ((r7.getD 1 d0).ss),.sl ((r7.getD 2 d0).ll),.sl ((r7.getD 3 d0).ll)]
 else
 .norm [.sl ((v1.getD 0 d0).ll),.i ((v1.getD 1 d0).ii),.sl ((r6.getD 1 d0).ll),.i ((r6.getD 2 d0).ii),.i ((r6.getD 3 d0).ii),.s ((r3.getD 0 d0).ss),.s ((r4.getD 0 d0).ss),.s ((r5.getD 0 d0).ss),.s ((r5.getD 1 d0).ss),.b false,.i (0:Int),.s [],.sl [],.sl []]) fun v8 =>
 (kX [.i (5:Int),.sl ((v8.getD 2 d0).ll),.i ((v8.getD 3 d0).ii),.i ((v8.getD 4 d0).ii)]).bindR fun r9 =>
 ja (if (r9.getD 0 d0).bb=true then
 (pQ [.b false,.sl ((r9.getD 1 d0).ll),.i ((r9.getD 2 d0).ii),.i ((r9.getD 3 d0).ii)]).bindR fun r10 =>
 .norm [.sl ((v8.getD 0 d0).ll),.i ((v8.getD 1 d0).ii),.sl ((r10.getD 1 d0).ll),.i ((r10.getD 2 d0).ii),.i ((r10.getD 3 d0).ii),.s ((v8.getD 5 d0).ss),.s ((v8.getD 6 d0).ss),.s ((v8.getD 7 d0).ss),.s ((v8.getD 8 d0).ss),.b ((v8.getD 9 d0).bb),.i ((v8.getD 10 d0).ii),.s ((v8.getD 11 d0).ss),.sl ((v8.getD 12 d0).ll),.sl ((v8.getD 13 d0).ll),.sl ((r10.getD 0 d0).ll)]
 else
 .norm [.sl ((v8.getD 0 d0).ll),.i ((v8.getD 1 d0).ii),.sl ((r9.getD 1 d0).ll),.i ((r9.getD 2 d0).ii),.i ((r9.getD 3 d0).ii),.s ((v8.getD 5 d0).ss),.s ((v8.getD 6 d0).ss),.s ((v8.getD 7 d0).ss),.s ((v8.getD 8 d0).ss),.b ((v8.getD 9 d0).bb),.i ((v8.getD 10 d0).ii),.s ((v8.getD 11 d0).ss),.sl ((v8.getD 12 d0).ll),.sl ((v8.getD 13 d0).ll),.sl []]) fun v11 =>
 if ((v11.getD 0 d0).ll).length + [[DC.s ((v11.getD 5 d0).ss),DC.s ((v11.getD 6 d0).ss),DC.s ((v11.getD 7 d0).ss),DC.s ((v11.getD 8 d0).ss),DC.b ((v11.getD 9 d0).bb),DC.i ((v11.getD 10 d0).ii),DC.s ((v11.getD 11 d0).ss),DC.sl ((v11.getD 12 d0).ll),DC.sl ((v11.getD 13 d0).ll),DC.sl ((v11.getD 14 d0).ll)]].length < jN ∧ 64=64 then
 .norm [.sl (((v11.getD 0 d0).ll) ++ [[DC.s ((v11.getD 5 d0).ss),DC.s ((v11.getD 6 d0).ss),DC.s ((v11.getD 7 d0).ss),DC.s ((v11.getD 8 d0).ss),DC.b ((v11.getD 9 d0).bb),DC.i ((v11.getD 10 d0).ii),DC.s ((v11.getD 11 d0).ss),DC.sl ((v11.getD 12 d0).ll),DC.sl ((v11.getD 13 d0).ll),DC.sl ((v11.getD 14 d0).ll)]]),.i ((v11.getD 1 d0).ii),.sl ((v11.getD 2 d0).ll),.i ((v11.getD 3 d0).ii),.i ((v11.getD 4 d0).ii)]
 else
 .fail) 1 fun v12 =>
 .norm [.sl ((v12.getD 0 d0).ll),.i (IntKind.i64.wrap ((v12.getD 1 d0).ii + (1:Int))),.sl ((v12.getD 2 d0).ll),.i ((v12.getD 3 d0).ii),.i ((v12.getD 4 d0).ii)]
 else
 .ex 0 [.sl ((v1.getD 0 d0).ll),.sl ((r2.getD 1 d0).ll),.i ((r2.getD 2 d0).ii),.i ((r2.getD 3 d0).ii)]
noncomputable def K5 (a:List DC):Out :=
 j9 (jO jX [.sl [],.i (0:Int),.sl ((a.getD 0 d0).ll),.i ((a.getD 1 d0).ii),.i ((a.getD 2 d0).ii)]) 0 fun v13 =>
 .ret [.sl ((v13.getD 0 d0).ll),.sl ((v13.getD 1 d0).ll),.i ((v13.getD 2 d0).ii),.i ((v13.getD 3 d0).ii)]
theorem XS a:pe a=K5 a:=(jA cfg 125 _ a).trans (by kernel_rfl)
noncomputable def Vh (a:List DC):Out :=
 (jH [.sl [[DC.s ([73,110,116]:List UInt8)],[DC.s ([83,116,114,105,110,103]:List UInt8)],[DC.s ([73,68]:List UInt8)],[DC.s ([85,115,101,114]:List UInt8)],[DC.s ([80,111,115,116]:List UInt8)],[DC.s ([67,111,108,111,114]:List UInt8)],[DC.s ([70,105,110,100]:List UInt8)]],.sl ((a.getD 0 d0).ll),.i ((a.getD 1 d0).ii),.i ((a.getD 2 d0).ii)]).bindR fun r1 =>
 (jH [.sl [[DC.s ([]:List UInt8)],[DC.s ([]:List UInt8)],[DC.s ([33]:List UInt8)],[DC.s ([93]:List UInt8)],[DC.s ([33,93]:List UInt8)],[DC.s ([93,33]:List UInt8)],[DC.s ([33,93,33]:List UInt8)],[DC.s ([93,93]:List UInt8)]],.sl ((r1.getD 1 d0).ll),.i ((r1.getD 2 d0).ii),.i ((r1.getD 3 d0).ii)]).bindR fun r2 =>
 .ret [.s ((r1.getD 0 d0).ss),.s ((r2.getD 0 d0).ss),.sl ((r2.getD 1 d0).ll),.i ((r2.getD 2 d0).ii),.i ((r2.getD 3 d0).ii)]
theorem j0n a:yJ a=Vh a:=(jA cfg 126 _ a).trans (by kernel_rfl)
noncomputable def Vn (a:List DC):Out :=
 (jx [.i ((a.getD 0 d0).ii),.sl ((a.getD 1 d0).ll),.i ((a.getD 2 d0).ii),.i ((a.getD 3 d0).ii)]).bindR fun r1 =>
 .ret [.b ((r1.getD 0 d0).ii == (0:Int)),.sl ((r1.getD 1 d0).ll),.i ((r1.getD 2 d0).ii),.i ((r1.getD 3 d0).ii)]
theorem j0t a:kX a=Vn a:=(jA cfg 127 _ a).trans (by kernel_rfl)
noncomputable def Kz (a:List DC):Out :=
 (jH [.sl [[DC.s ([48]:List UInt8)],[DC.s ([45,49]:List UInt8)],[DC.s ([49,50]:List UInt8)],[DC.s ([50,49,52,55,52,56,51,54,52,55]:List UInt8)],[DC.s ([50,49,52,55,52,56,51,54,52,56]:List UInt8)],[DC.s ([45,50,49,52,55,52,56,51,54,52,56]:List UInt8)],[DC.s ([45,50,49,52,55,52,56,51,54,52,57]:List UInt8)],[DC.s ([49,46,53]:List UInt8)],[DC.s ([45,48,46,48]:List UInt8)],[DC.s ([49,101,51]:List UInt8)],[DC.s ([50,69,45,52]:List UInt8)],[DC.s ([49,46,48,101,43,50]:List UInt8)],[DC.s ([57,57,57,57,57,57,57,57,57,57,57]:List UInt8)]],.sl ((a.getD 0 d0).ll),.i ((a.getD 1 d0).ii),.i ((a.getD 2 d0).ii)]).bindR fun r1 =>
 .ret [.s ((r1.getD 0 d0).ss),.sl ((r1.getD 1 d0).ll),.i ((r1.getD 2 d0).ii),.i ((r1.getD 3 d0).ii)]
theorem YE a:zk a=Kz a:=(jA cfg 128 _ a).trans (by kernel_rfl)
noncomputable def KB (a:List DC):Out :=
 ja (if ((a.getD 0 d0).ii == (a.getD 4 d0).ii)=true then
 if ((a.getD 1 d0).ss == (a.getD 5 d0).ss)=true then
 (yN [.sl ((a.getD 2 d0).ll),.sl ((a.getD 6 d0).ll)]).bindR fun r1 =>
 if (r1.getD 0 d0).bb=true then
 (qQ [.sl ((a.getD 3 d0).ll),.sl ((a.getD 7 d0).ll)]).bindR fun r2 =>
 .norm [.b ((r2.getD 0 d0).bb)]
 else
 .norm [.b false]
 else
 .norm [.b false]
 else
 .norm [.b false]) fun v3 =>
 .ret [.b ((v3.getD 0 d0).bb)]
theorem YG a:kU a=KB a:=(jA cfg 129 _ a).trans (by kernel_rfl)
noncomputable def yY:List DC → Out:=fun v1 =>
 if (decide ((v1.getD 2 d0).ii < (((v1.getD 0 d0).ll).length:Int)))=true then
 j9 (if 151=151 ∧ 0 ≤ (v1.getD 2 d0).ii ∧ (v1.getD 2 d0).ii < (((v1.getD 0 d0).ll).length:Int) then
 if 151=151 ∧ 0 ≤ (v1.getD 2 d0).ii ∧ (v1.getD 2 d0).ii < (((v1.getD 1 d0).ll).length:Int) then
 (Jt [.s (((((v1.getD 0 d0).ll).getD ((v1.getD 2 d0).ii).toNat []).getD 0 d0).ss),.i (((((v1.getD 0 d0).ll).getD ((v1.getD 2 d0).ii).toNat []).getD 1 d0).ii),.s (((((v1.getD 0 d0).ll).getD ((v1.getD 2 d0).ii).toNat []).getD 2 d0).ss),.sl (((((v1.getD 0 d0).ll).getD ((v1.getD 2 d0).ii).toNat []).getD 3 d0).ll),.sl (((((v1.getD 0 d0).ll).getD ((v1.getD 2 d0).ii).toNat []).getD 4 d0).ll),.s (((((v1.getD 1 d0).ll).getD ((v1.getD 2 d0).ii).toNat []).getD 0 d0).ss),.i (((((v1.getD 1 d0).ll).getD ((v1.getD 2 d0).ii).toNat []).getD 1 d0).ii),.s (((((v1.getD 1 d0).ll).getD ((v1.getD 2 d0).ii).toNat []).getD 2 d0).ss),.sl (((((v1.getD 1 d0).ll).getD ((v1.getD 2 d0).ii).toNat []).getD 3 d0).ll),.sl (((((v1.getD 1 d0).ll).getD ((v1.getD 2 d0).ii).toNat []).getD 4 d0).ll)]).bindR fun r2 =>
 if (!((r2.getD 0 d0).bb))=true then
 .ret [.b false]
 else
 .norm [.sl ((v1.getD 0 d0).ll),.sl ((v1.getD 1 d0).ll),.i ((v1.getD 2 d0).ii)]
 else
 .fail
 else
 .fail) 1 fun v3 =>
 .norm [.sl ((v3.getD 0 d0).ll),.sl ((v3.getD 1 d0).ll),.i (IntKind.i64.wrap ((v3.getD 2 d0).ii + (1:Int)))]
 else
 .ex 0 []
noncomputable def Qs (a:List DC):Out :=
 if ((((a.getD 0 d0).ll).length:Int) != (((a.getD 1 d0).ll).length:Int))=true then
 .ret [.b false]
 else
 j9 (jO yY [.sl ((a.getD 0 d0).ll),.sl ((a.getD 1 d0).ll),.i (0:Int)]) 0 fun v4 =>
 .ret [.b true]
theorem Zw a:zY a=Qs a:=(jA cfg 130 _ a).trans (by kernel_rfl)
noncomputable def KA (a:List DC):Out :=
 ja ((Jf [.i ((a.getD 0 d0).ii),.i (0:Int),.i (1114111:Int)]).bindR fun r1 =>
 if (r1.getD 0 d0).bb=true then
 (Jf [.i ((a.getD 0 d0).ii),.i (55296:Int),.i (57343:Int)]).bindR fun r2 =>
 .norm [.b (!((r2.getD 0 d0).bb))]
 else
 .norm [.b false]) fun v3 =>
 .ret [.b ((v3.getD 0 d0).bb)]
theorem YF a:zn a=KA a:=(jA cfg 132 _ a).trans (by kernel_rfl)
noncomputable def pL:List DC → Out:=fun v1 =>
 (jx [.i (8:Int),.sl ((v1.getD 2 d0).ll),.i ((v1.getD 3 d0).ii),.i ((v1.getD 4 d0).ii)]).bindR fun r2 =>
 if (decide ((v1.getD 1 d0).ii < (r2.getD 0 d0).ii))=true then
 j9 ((Jq [.sl ((r2.getD 1 d0).ll),.i ((r2.getD 2 d0).ii),.i ((r2.getD 3 d0).ii)]).bindR fun r3 =>
 (zX [.i ((r3.getD 0 d0).ii)]).bindR fun r4 =>
 if ((v1.getD 0 d0).ss).length + ((r4.getD 0 d0).ss).length < jN then
 .norm [.s (((v1.getD 0 d0).ss) ++ ((r4.getD 0 d0).ss)),.i ((v1.getD 1 d0).ii),.sl ((r3.getD 1 d0).ll),.i ((r3.getD 2 d0).ii),.i ((r3.getD 3 d0).ii)]
 else
 .fail) 1 fun v5 =>
 .norm [.s ((v5.getD 0 d0).ss),.i (IntKind.i64.wrap ((v5.getD 1 d0).ii + (1:Int))),.sl ((v5.getD 2 d0).ll),.i ((v5.getD 3 d0).ii),.i ((v5.getD 4 d0).ii)]
 else
 .ex 0 [.s ((v1.getD 0 d0).ss),.sl ((r2.getD 1 d0).ll),.i ((r2.getD 2 d0).ii),.i ((r2.getD 3 d0).ii)]
noncomputable def Vk (a:List DC):Out :=
 j9 (jO pL [.s ([]:List UInt8),.i (0:Int),.sl ((a.getD 0 d0).ll),.i ((a.getD 1 d0).ii),.i ((a.getD 2 d0).ii)]) 0 fun v6 =>
 .ret [.s ((v6.getD 0 d0).ss),.sl ((v6.getD 1 d0).ll),.i ((v6.getD 2 d0).ii),.i ((v6.getD 3 d0).ii)]
theorem j0q a:yK a=Vk a:=(jA cfg 139 _ a).trans (by kernel_rfl)
noncomputable def qW:List DC → Out:=fun v1 =>
 (jx [.i (3:Int),.sl ((v1.getD 3 d0).ll),.i ((v1.getD 4 d0).ii),.i ((v1.getD 5 d0).ii)]).bindR fun r2 =>
 if (decide ((v1.getD 2 d0).ii < (r2.getD 0 d0).ii))=true then
 j9 ((pC [.sl ((r2.getD 1 d0).ll),.i ((r2.getD 2 d0).ii),.i ((r2.getD 3 d0).ii)]).bindR fun r3 =>
 (jQ [.i (2:Int),.b ((v1.getD 0 d0).bb),.sl ((r3.getD 1 d0).ll),.i ((r3.getD 2 d0).ii),.i ((r3.getD 3 d0).ii)]).bindR fun r4 =>
 if ((v1.getD 1 d0).ll).length + [[DC.s ((r3.getD 0 d0).ss),DC.i ((r4.getD 0 d0).ii),DC.s ((r4.getD 1 d0).ss),DC.sl ((r4.getD 2 d0).ll),DC.sl ((r4.getD 3 d0).ll)]].length < jN ∧ 144=144 then
 .norm [.b ((v1.getD 0 d0).bb),.sl (((v1.getD 1 d0).ll) ++ [[DC.s ((r3.getD 0 d0).ss),DC.i ((r4.getD 0 d0).ii),DC.s ((r4.getD 1 d0).ss),DC.sl ((r4.getD 2 d0).ll),DC.sl ((r4.getD 3 d0).ll)]]),.i ((v1.getD 2 d0).ii),.sl ((r4.getD 4 d0).ll),.i ((r4.getD 5 d0).ii),.i ((r4.getD 6 d0).ii)]
 else
 .fail) 1 fun v5 =>
 .norm [.b ((v5.getD 0 d0).bb),.sl ((v5.getD 1 d0).ll),.i (IntKind.i64.wrap ((v5.getD 2 d0).ii + (1:Int))),.sl ((v5.getD 3 d0).ll),.i ((v5.getD 4 d0).ii),.i ((v5.getD 5 d0).ii)]
 else
 .ex 0 [.sl ((v1.getD 1 d0).ll),.sl ((r2.getD 1 d0).ll),.i ((r2.getD 2 d0).ii),.i ((r2.getD 3 d0).ii)]
noncomputable def Ve (a:List DC):Out :=
 j9 (jO qW [.b ((a.getD 0 d0).bb),.sl [],.i (0:Int),.sl ((a.getD 1 d0).ll),.i ((a.getD 2 d0).ii),.i ((a.getD 3 d0).ii)]) 0 fun v6 =>
 .ret [.sl ((v6.getD 0 d0).ll),.sl ((v6.getD 1 d0).ll),.i ((v6.getD 2 d0).ii),.i ((v6.getD 3 d0).ii)]
theorem j0k a:Jo a=Ve a:=(jA cfg 140 _ a).trans (by kernel_rfl)
noncomputable def qz:List DC → Out:=fun v16 =>
 (jx [.i (4:Int),.sl ((v16.getD 3 d0).ll),.i ((v16.getD 4 d0).ii),.i ((v16.getD 5 d0).ii)]).bindR fun r17 =>
 if (decide ((v16.getD 2 d0).ii < (r17.getD 0 d0).ii))=true then
 j9 ((pC [.sl ((r17.getD 1 d0).ll),.i ((r17.getD 2 d0).ii),.i ((r17.getD 3 d0).ii)]).bindR fun r18 =>
 if ((v16.getD 11 d0).ll).length + [[DC.s ((r18.getD 0 d0).ss)]].length < jN then
 (jQ [.i (IntKind.i64.wrap ((v16.getD 0 d0).ii - (1:Int))),.b ((v16.getD 1 d0).bb),.sl ((r18.getD 1 d0).ll),.i ((r18.getD 2 d0).ii),.i ((r18.getD 3 d0).ii)]).bindR fun r19 =>
 if ((v16.getD 10 d0).ll).length + [[DC.i ((r19.getD 0 d0).ii),DC.s ((r19.getD 1 d0).ss),DC.sl ((r19.getD 2 d0).ll),DC.sl ((r19.getD 3 d0).ll)]].length < jN ∧ 136=136 then
 .norm [.i ((v16.getD 0 d0).ii),.b ((v16.getD 1 d0).bb),.i ((v16.getD 2 d0).ii),.sl ((r19.getD 4 d0).ll),.i ((r19.getD 5 d0).ii),.i ((r19.getD 6 d0).ii),.i ((v16.getD 6 d0).ii),.s ((v16.getD 7 d0).ss),.i ((v16.getD 8 d0).ii),.s ((v16.getD 9 d0).ss),.sl (((v16.getD 10 d0).ll) ++ [[DC.i ((r19.getD 0 d0).ii),DC.s ((r19.getD 1 d0).ss),DC.sl ((r19.getD 2 d0).ll),DC.sl ((r19.getD 3 d0).ll)]]),.sl (((v16.getD 11 d0).ll) ++ [[DC.s ((r18.getD 0 d0).ss)]])]
 else
 .fail
 else
 .fail) 2 fun v20 =>
 .norm [.i ((v20.getD 0 d0).ii),.b ((v20.getD 1 d0).bb),.i (IntKind.i64.wrap ((v20.getD 2 d0).ii + (1:Int))),.sl ((v20.getD 3 d0).ll),.i ((v20.getD 4 d0).ii),.i ((v20.getD 5 d0).ii),.i ((v20.getD 6 d0).ii),.s ((v20.getD 7 d0).ss),.i ((v20.getD 8 d0).ii),.s ((v20.getD 9 d0).ss),.sl ((v20.getD 10 d0).ll),.sl ((v20.getD 11 d0).ll)]
 else
 .ex 1 [.sl ((r17.getD 1 d0).ll),.i ((r17.getD 2 d0).ii),.i ((r17.getD 3 d0).ii),.i ((v16.getD 6 d0).ii),.s ((v16.getD 7 d0).ss),.i ((v16.getD 8 d0).ii),.s ((v16.getD 9 d0).ss),.sl ((v16.getD 10 d0).ll),.sl ((v16.getD 11 d0).ll)]
noncomputable def qy:List DC → Out:=fun v27 =>
 (jx [.i (4:Int),.sl ((v27.getD 3 d0).ll),.i ((v27.getD 4 d0).ii),.i ((v27.getD 5 d0).ii)]).bindR fun r28 =>
 if (decide ((v27.getD 2 d0).ii < (r28.getD 0 d0).ii))=true then
 j9 ((jQ [.i (IntKind.i64.wrap ((v27.getD 0 d0).ii - (1:Int))),.b ((v27.getD 1 d0).bb),.sl ((r28.getD 1 d0).ll),.i ((r28.getD 2 d0).ii),.i ((r28.getD 3 d0).ii)]).bindR fun r29 =>
 if ((v27.getD 10 d0).ll).length + [[DC.i ((r29.getD 0 d0).ii),DC.s ((r29.getD 1 d0).ss),DC.sl ((r29.getD 2 d0).ll),DC.sl ((r29.getD 3 d0).ll)]].length < jN ∧ 136=136 then
 .norm [.i ((v27.getD 0 d0).ii),.b ((v27.getD 1 d0).bb),.i ((v27.getD 2 d0).ii),.sl ((r29.getD 4 d0).ll),.i ((r29.getD 5 d0).ii),.i ((r29.getD 6 d0).ii),.i ((v27.getD 6 d0).ii),.s ((v27.getD 7 d0).ss),.i ((v27.getD 8 d0).ii),.s ((v27.getD 9 d0).ss),.sl (((v27.getD 10 d0).ll) ++ [[DC.i ((r29.getD 0 d0).ii),DC.s ((r29.getD 1 d0).ss),DC.sl ((r29.getD 2 d0).ll),DC.sl ((r29.getD 3 d0).ll)]])]
 else
 .fail) 4 fun v30 =>
 .norm [.i ((v30.getD 0 d0).ii),.b ((v30.getD 1 d0).bb),.i (IntKind.i64.wrap ((v30.getD 2 d0).ii + (1:Int))),.sl ((v30.getD 3 d0).ll),.i ((v30.getD 4 d0).ii),.i ((v30.getD 5 d0).ii),.i ((v30.getD 6 d0).ii),.s ((v30.getD 7 d0).ss),.i ((v30.getD 8 d0).ii),.s ((v30.getD 9 d0).ss),.sl ((v30.getD 10 d0).ll)]
 else
 .ex 3 [.sl ((r28.getD 1 d0).ll),.i ((r28.getD 2 d0).ii),.i ((r28.getD 3 d0).ii),.i ((v27.getD 6 d0).ii),.s ((v27.getD 7 d0).ss),.i ((v27.getD 8 d0).ii),.s ((v27.getD 9 d0).ss),.sl ((v27.getD 10 d0).ll)]
noncomputable def Qm (a:List DC):Out :=
 (jx [.i (10:Int),.sl ((a.getD 2 d0).ll),.i ((a.getD 3 d0).ii),.i ((a.getD 4 d0).ii)]).bindR fun r1 =>
 ja (if (decide ((a.getD 0 d0).ii ≤ (0:Int)))=true then
 .norm [.i ((a.getD 0 d0).ii),.b ((a.getD 1 d0).bb),.i ((r1.getD 0 d0).ii),.b (decide ((r1.getD 0 d0).ii ≥ (7:Int))),.sl ((r1.getD 1 d0).ll),.i ((r1.getD 2 d0).ii),.i ((r1.getD 3 d0).ii),.i (0:Int),.s []]
 else
 .norm [.i ((a.getD 0 d0).ii),.b ((a.getD 1 d0).bb),.i ((r1.getD 0 d0).ii),.b false,.sl ((r1.getD 1 d0).ll),.i ((r1.getD 2 d0).ii),.i ((r1.getD 3 d0).ii),.i (0:Int),.s []]) fun v2 =>
 ja (if (v2.getD 3 d0).bb=true then
 .norm [.i ((v2.getD 0 d0).ii),.b ((v2.getD 1 d0).bb),.i (IntKind.i64.wrap ((v2.getD 2 d0).ii - (7:Int))),.sl ((v2.getD 4 d0).ll),.i ((v2.getD 5 d0).ii),.i ((v2.getD 6 d0).ii),.i ((v2.getD 7 d0).ii),.s ((v2.getD 8 d0).ss)]
 else
 .norm [.i ((v2.getD 0 d0).ii),.b ((v2.getD 1 d0).bb),.i ((v2.getD 2 d0).ii),.sl ((v2.getD 4 d0).ll),.i ((v2.getD 5 d0).ii),.i ((v2.getD 6 d0).ii),.i ((v2.getD 7 d0).ii),.s ((v2.getD 8 d0).ss)]) fun v3 =>
 j9 (if ((v3.getD 2 d0).ii == (0:Int))=true then
 (jH [.sl [[DC.s ([48]:List UInt8)],[DC.s ([45,49]:List UInt8)],[DC.s ([49,50]:List UInt8)],[DC.s ([50,49,52,55,52,56,51,54,52,56]:List UInt8)]],.sl ((v3.getD 3 d0).ll),.i ((v3.getD 4 d0).ii),.i ((v3.getD 5 d0).ii)]).bindR fun r4 =>
 .ret [.i (2:Int),.s ((r4.getD 0 d0).ss),.sl [],.sl [],.sl ((r4.getD 1 d0).ll),.i ((r4.getD 2 d0).ii),.i ((r4.getD 3 d0).ii)]
 else
 if ((v3.getD 2 d0).ii == (1:Int))=true then
 (jH [.sl [[DC.s ([49,46,53]:List UInt8)],[DC.s ([49,101,51]:List UInt8)]],.sl ((v3.getD 3 d0).ll),.i ((v3.getD 4 d0).ii),.i ((v3.getD 5 d0).ii)]).bindR fun r5 =>
 .ret [.i (3:Int),.s ((r5.getD 0 d0).ss),.sl [],.sl [],.sl ((r5.getD 1 d0).ll),.i ((r5.getD 2 d0).ii),.i ((r5.getD 3 d0).ii)]
 else
 if ((v3.getD 2 d0).ii == (2:Int))=true then
 (yK [.sl ((v3.getD 3 d0).ll),.i ((v3.getD 4 d0).ii),.i ((v3.getD 5 d0).ii)]).bindR fun r6 =>
 .ret [.i (4:Int),.s ((r6.getD 0 d0).ss),.sl [],.sl [],.sl ((r6.getD 1 d0).ll),.i ((r6.getD 2 d0).ii),.i ((r6.getD 3 d0).ii)]
 else
 if ((v3.getD 2 d0).ii == (3:Int))=true then
 (jH [.sl [[DC.s ([116,114,117,101]:List UInt8)],[DC.s ([102,97,108,115,101]:List UInt8)],[DC.s ([110,117,108,108]:List UInt8)]],.sl ((v3.getD 3 d0).ll),.i ((v3.getD 4 d0).ii),.i ((v3.getD 5 d0).ii)]).bindR fun r7 =>
 .ret [.i (5:Int),.s ((r7.getD 0 d0).ss),.sl [],.sl [],.sl ((r7.getD 1 d0).ll),.i ((r7.getD 2 d0).ii),.i ((r7.getD 3 d0).ii)]
 else
 if ((v3.getD 2 d0).ii == (4:Int))=true then
 (jH [.sl [[DC.s ([82,69,68]:List UInt8)],[DC.s ([66,76,85,69]:List UInt8)],[DC.s ([111,110]:List UInt8)],[DC.s ([116,121,112,101]:List UInt8)]],.sl ((v3.getD 3 d0).ll),.i ((v3.getD 4 d0).ii),.i ((v3.getD 5 d0).ii)]).bindR fun r8 =>
 .ret [.i (6:Int),.s ((r8.getD 0 d0).ss),.sl [],.sl [],.sl ((r8.getD 1 d0).ll),.i ((r8.getD 2 d0).ii),.i ((r8.getD 3 d0).ii)]
 else
 ja (if ((v3.getD 2 d0).ii == (5:Int))=true then
 .norm [.i ((v3.getD 0 d0).ii),.b ((v3.getD 1 d0).bb),.i ((v3.getD 2 d0).ii),.b ((v3.getD 2 d0).ii == (5:Int)),.sl ((v3.getD 3 d0).ll),.i ((v3.getD 4 d0).ii),.i ((v3.getD 5 d0).ii),.i ((v3.getD 6 d0).ii),.s ((v3.getD 7 d0).ss)]
 else
 .norm [.i ((v3.getD 0 d0).ii),.b ((v3.getD 1 d0).bb),.i ((v3.getD 2 d0).ii),.b ((v3.getD 2 d0).ii == (6:Int)),.sl ((v3.getD 3 d0).ll),.i ((v3.getD 4 d0).ii),.i ((v3.getD 5 d0).ii),.i ((v3.getD 6 d0).ii),.s ((v3.getD 7 d0).ss)]) fun v9 =>
 if (v9.getD 3 d0).bb=true then
 if (v9.getD 1 d0).bb=true then
 (jH [.sl [[DC.s ([97]:List UInt8)],[DC.s ([98]:List UInt8)],[DC.s ([118]:List UInt8)]],.sl ((v9.getD 4 d0).ll),.i ((v9.getD 5 d0).ii),.i ((v9.getD 6 d0).ii)]).bindR fun r10 =>
 .ret [.i (1:Int),.s ((r10.getD 0 d0).ss),.sl [],.sl [],.sl ((r10.getD 1 d0).ll),.i ((r10.getD 2 d0).ii),.i ((r10.getD 3 d0).ii)]
 else
 .ret [.i (2:Int),.s ([55]:List UInt8),.sl [],.sl [],.sl ((v9.getD 4 d0).ll),.i ((v9.getD 5 d0).ii),.i ((v9.getD 6 d0).ii)]
 else
 if ((v9.getD 2 d0).ii == (7:Int))=true then
 j9 (jO qz [.i ((v9.getD 0 d0).ii),.b ((v9.getD 1 d0).bb),.i (0:Int),.sl ((v9.getD 4 d0).ll),.i ((v9.getD 5 d0).ii),.i ((v9.getD 6 d0).ii),.i ((v9.getD 7 d0).ii),.s ((v9.getD 8 d0).ss),.i (8:Int),.s [],.sl [],.sl []]) 1 fun v21 =>
 .ret [.i ((v21.getD 5 d0).ii),.s ((v21.getD 6 d0).ss),.sl ((v21.getD 7 d0).ll),.sl ((v21.getD 8 d0).ll),.sl ((v21.getD 0 d0).ll),.i ((v21.getD 1 d0).ii),.i ((v21.getD 2 d0).ii)]
 else
 .norm [.i ((v9.getD 0 d0).ii),.b ((v9.getD 1 d0).bb),.sl ((v9.getD 4 d0).ll),.i ((v9.getD 5 d0).ii),.i ((v9.getD 6 d0).ii),.i ((v9.getD 7 d0).ii),.s ((v9.getD 8 d0).ss)]) 0 fun v22 =>
 j9 (jO qy [.i ((v22.getD 0 d0).ii),.b ((v22.getD 1 d0).bb),.i (0:Int),.sl ((v22.getD 2 d0).ll),.i ((v22.getD 3 d0).ii),.i ((v22.getD 4 d0).ii),.i ((v22.getD 5 d0).ii),.s ((v22.getD 6 d0).ss),.i (7:Int),.s [],.sl []]) 3 fun v31 =>
 .ret [.i ((v31.getD 5 d0).ii),.s ((v31.getD 6 d0).ss),.sl ((v31.getD 7 d0).ll),.sl [],.sl ((v31.getD 0 d0).ll),.i ((v31.getD 1 d0).ii),.i ((v31.getD 2 d0).ii)]
theorem Zq a:jQ a=Qm a:=(jA cfg 141 _ a).trans (by kernel_rfl)
noncomputable def yg:List DC → Out:=fun v1 =>
 if (decide ((v1.getD 2 d0).ii < (((v1.getD 0 d0).ll).length:Int)))=true then
 j9 (if 138=138 ∧ 0 ≤ (v1.getD 2 d0).ii ∧ (v1.getD 2 d0).ii < (((v1.getD 0 d0).ll).length:Int) then
 if 138=138 ∧ 0 ≤ (v1.getD 2 d0).ii ∧ (v1.getD 2 d0).ii < (((v1.getD 1 d0).ll).length:Int) then
 (kU [.i (((((v1.getD 0 d0).ll).getD ((v1.getD 2 d0).ii).toNat []).getD 0 d0).ii),.s (((((v1.getD 0 d0).ll).getD ((v1.getD 2 d0).ii).toNat []).getD 1 d0).ss),.sl (((((v1.getD 0 d0).ll).getD ((v1.getD 2 d0).ii).toNat []).getD 2 d0).ll),.sl (((((v1.getD 0 d0).ll).getD ((v1.getD 2 d0).ii).toNat []).getD 3 d0).ll),.i (((((v1.getD 1 d0).ll).getD ((v1.getD 2 d0).ii).toNat []).getD 0 d0).ii),.s (((((v1.getD 1 d0).ll).getD ((v1.getD 2 d0).ii).toNat []).getD 1 d0).ss),.sl (((((v1.getD 1 d0).ll).getD ((v1.getD 2 d0).ii).toNat []).getD 2 d0).ll),.sl (((((v1.getD 1 d0).ll).getD ((v1.getD 2 d0).ii).toNat []).getD 3 d0).ll)]).bindR fun r2 =>
 if (!((r2.getD 0 d0).bb))=true then
 .ret [.b false]
 else
 .norm [.sl ((v1.getD 0 d0).ll),.sl ((v1.getD 1 d0).ll),.i ((v1.getD 2 d0).ii)]
 else
 .fail
 else
 .fail) 1 fun v3 =>
 .norm [.sl ((v3.getD 0 d0).ll),.sl ((v3.getD 1 d0).ll),.i (IntKind.i64.wrap ((v3.getD 2 d0).ii + (1:Int)))]
 else
 .ex 0 []
noncomputable def K9 (a:List DC):Out :=
 if ((((a.getD 0 d0).ll).length:Int) != (((a.getD 1 d0).ll).length:Int))=true then
 .ret [.b false]
 else
 j9 (jO yg [.sl ((a.getD 0 d0).ll),.sl ((a.getD 1 d0).ll),.i (0:Int)]) 0 fun v4 =>
 .ret [.b true]
theorem XW a:yN a=K9 a:=(jA cfg 142 _ a).trans (by kernel_rfl)
noncomputable def Vr (a:List DC):Out :=
 ja (if ((a.getD 0 d0).ss == (a.getD 5 d0).ss)=true then
 (kU [.i ((a.getD 1 d0).ii),.s ((a.getD 2 d0).ss),.sl ((a.getD 3 d0).ll),.sl ((a.getD 4 d0).ll),.i ((a.getD 6 d0).ii),.s ((a.getD 7 d0).ss),.sl ((a.getD 8 d0).ll),.sl ((a.getD 9 d0).ll)]).bindR fun r1 =>
 .norm [.b ((r1.getD 0 d0).bb)]
 else
 .norm [.b false]) fun v2 =>
 .ret [.b ((v2.getD 0 d0).bb)]
theorem j0x a:Jt a=Vr a:=(jA cfg 143 _ a).trans (by kernel_rfl)
noncomputable def Qe (a:List DC):Out :=
 ja (if (decide ((a.getD 0 d0).ii ≥ (a.getD 1 d0).ii))=true then
 .norm [.b (decide ((a.getD 0 d0).ii ≤ (a.getD 2 d0).ii))]
 else
 .norm [.b false]) fun v1 =>
 .ret [.b ((v1.getD 0 d0).bb)]
theorem j2k a:Jf a=Qe a:=(jA cfg 145 _ a).trans (by kernel_rfl)
noncomputable def Vl (a:List DC):Out :=
 (yL [.sl [[DC.i (65:Int)],[DC.i (97:Int)],[DC.i (122:Int)],[DC.i (48:Int)],[DC.i (32:Int)],[DC.i (10:Int)],[DC.i (34:Int)],[DC.i (92:Int)],[DC.i (233:Int)],[DC.i (2047:Int)],[DC.i (2048:Int)],[DC.i (8364:Int)],[DC.i (65535:Int)],[DC.i (65536:Int)],[DC.i (128512:Int)],[DC.i (1114111:Int)],[DC.i (9:Int)],[DC.i (127:Int)],[DC.i (31:Int)]],.sl ((a.getD 0 d0).ll),.i ((a.getD 1 d0).ii),.i ((a.getD 2 d0).ii)]).bindR fun r1 =>
 .ret [.i ((r1.getD 0 d0).ii),.sl ((r1.getD 1 d0).ll),.i ((r1.getD 2 d0).ii),.i ((r1.getD 3 d0).ii)]
theorem j0r a:Jq a=Vl a:=(jA cfg 150 _ a).trans (by kernel_rfl)
noncomputable def K7 (a:List DC):Out :=
 (jx [.i (((a.getD 0 d0).ll).length:Int),.sl ((a.getD 1 d0).ll),.i ((a.getD 2 d0).ii),.i ((a.getD 3 d0).ii)]).bindR fun r1 =>
 if 3=3 ∧ 0 ≤ (r1.getD 0 d0).ii ∧ (r1.getD 0 d0).ii < (((a.getD 0 d0).ll).length:Int) then
 .ret [.i (((((a.getD 0 d0).ll).getD ((r1.getD 0 d0).ii).toNat []).getD 0 d0).ii),.sl ((r1.getD 1 d0).ll),.i ((r1.getD 2 d0).ii),.i ((r1.getD 3 d0).ii)]
 else
 .fail
theorem XU a:yL a=K7 a:=(jA cfg 151 _ a).trans (by kernel_rfl)
set_option linter.unusedSimpArgs false
def Cu (b:List (List DC)) (i:Int):Prop:=b.length ≤ 1048576 ∧ 0 ≤ i ∧ i ≤ (b.length:Int)
theorem j41 (a:Int):0 ≤ IntKind.i64.wrap (((BitVec.ofInt IntKind.i64.bits a &&& BitVec.ofInt IntKind.i64.bits (255:Int)).toNat:Nat):Int) ∧ IntKind.i64.wrap (((BitVec.ofInt IntKind.i64.bits a &&& BitVec.ofInt IntKind.i64.bits (255:Int)).toNat:Nat):Int) ≤ 255:=by
 have h:(BitVec.ofInt IntKind.i64.bits a &&& BitVec.ofInt IntKind.i64.bits (255:Int)).toNat ≤ 255:=by
  rw [BitVec.toNat_and]
  exact Nat.le_trans Nat.and_le_right (by decide)
 generalize (BitVec.ofInt IntKind.i64.bits a &&& BitVec.ofInt IntKind.i64.bits (255:Int)).toNat=n at h ⊢
 rw [IntKind.wrap_i64]
 omega
theorem j93 {b:List (List DC)} {i:Int} (h:Int) (c:Cu b i):∃ x i' h',kY [.sl b,.i i,.i h] = .ret [.i x,.sl b,.i i',.i h'] ∧ 0 ≤ x ∧ x ≤ 255 ∧ Cu b i':=by
 obtain ⟨c1,c2,c3⟩:=c
 rw [j0u]
 simp only [Vo,List.getD_cons_zero,List.getD_cons_succ,DC.ii_i,DC.ll_sl]
 rw [if_neg (by decide),if_neg (by decide)]
 by_cases hi:i < (b.length:Int)
 ·have hw:IntKind.i64.wrap (i + 1)=i + 1:=by rw [IntKind.wrap_i64]; omega
  rw [if_pos (by simpa using hi),if_pos ⟨trivial,c2,hi⟩]
  simp only [ja,List.getD_cons_zero,List.getD_cons_succ,DC.ii_i,DC.ll_sl,hw]
  exact ⟨_,_,_,rfl,(j41 _).1,(j41 _).2,c1,by omega,by omega⟩
 ·rw [if_neg (by simpa using hi)]
  simp only [ja,List.getD_cons_zero,List.getD_cons_succ,DC.ii_i,DC.ll_sl]
  exact ⟨_,_,_,rfl,(j41 _).1,(j41 _).2,c1,c2,c3⟩
theorem jW {b:List (List DC)} {i:Int} (h n:Int) (hn:0 < n) (hn2:n ≤ 256) (c:Cu b i):∃ x i' h',jx [.i n,.sl b,.i i,.i h] = .ret [.i x,.sl b,.i i',.i h'] ∧ 0 ≤ x ∧ x < n ∧ Cu b i':=by
 obtain ⟨x,i',h',e,x1,x2,c'⟩:=j93 h c
 have h1:¬ n ≤ 0:=by omega
 have h2:¬ n=0:=by omega
 rw [Zr]
 simp only [Qn,List.getD_cons_zero,List.getD_cons_succ,DC.ii_i,DC.ll_sl,h1,decide_false,Bool.false_eq_true,if_false,hn2,decide_true,if_true,e,Out.bindR_ret,h2]
 exact ⟨_,_,_,rfl,Int.tmod_nonneg _ x1,Int.tmod_lt_of_pos _ hn,c'⟩
theorem VX {b:List (List DC)} {i:Int} (h n:Int) (hn:0 < n) (hn2:n ≤ 256) (c:Cu b i):∃ x i' h',kX [.i n,.sl b,.i i,.i h] = .ret [.b x,.sl b,.i i',.i h'] ∧ Cu b i':=by
 obtain ⟨x,i',h',e,x1,x2,c'⟩:=jW h n hn hn2 c
 rw [j0t]
 simp only [Vn,List.getD_cons_zero,List.getD_cons_succ,DC.ii_i,DC.ll_sl,e,Out.bindR_ret]
 exact ⟨_,_,_,rfl,c'⟩
theorem K0 {b:List (List DC)} {i:Int} (h:Int) (l:List (List UInt8)) (h0:0 < l.length) (h1:l.length ≤ 256) (c:Cu b i):∃ x i' h',jH [.sl (l.map S1),.sl b,.i i,.i h] = .ret [.s x,.sl b,.i i',.i h'] ∧ x ∈ l ∧ Cu b i':=by
 obtain ⟨x,i',h',e,x1,x2,c'⟩:=jW h (l.length:Int) (by omega) (by omega) c
 rw [j0s]
 simp only [Vm,List.getD_cons_zero,List.getD_cons_succ,DC.ii_i,DC.ll_sl,List.length_map,e,Out.bindR_ret,x1,x2,and_self,if_true]
 obtain ⟨n,rfl⟩:=Int.eq_ofNat_of_zero_le x1
 have hn:n < l.length:=by omega
 refine ⟨l[n],i',h',?_,jo hn,c'⟩
 have hm:(l.map S1).getD n []=S1 l[n]:=by rw [List.getD_eq_getElem?_getD,List.getElem?_map,List.getElem?_eq_getElem hn]; rfl
 rw [jl,hm]
 rfl
theorem j5I {b:List (List DC)} {i:Int} (h:Int) (l:List (List DC)) (h0:0 < l.length) (h1:l.length ≤ 256) (c:Cu b i):∃ x i' h',yL [.sl l,.sl b,.i i,.i h] = .ret [.i x,.sl b,.i i',.i h'] ∧ Cu b i':=by
 obtain ⟨x,i',h',e,x1,x2,c'⟩:=jW h (l.length:Int) (by omega) (by omega) c
 rw [XU]
 simp only [K7,List.getD_cons_zero,List.getD_cons_succ,DC.ii_i,DC.ll_sl,e,Out.bindR_ret,x1,x2,and_self,if_true]
 exact ⟨_,_,_,rfl,c'⟩
theorem j8Z {b:List (List DC)} {i:Int} (h:Int) (c:Cu b i):∃ x i' h',Jq [.sl b,.i i,.i h] = .ret [.i x,.sl b,.i i',.i h'] ∧ Cu b i':=by
 rw [j0r]
 simp only [Vl,List.getD_cons_zero,List.getD_cons_succ,DC.ii_i,DC.ll_sl]
 obtain ⟨x,i',h',e,c'⟩:=j5I h [[DC.i (65:Int)],[DC.i (97:Int)],[DC.i (122:Int)],[DC.i (48:Int)],[DC.i (32:Int)],[DC.i (10:Int)],[DC.i (34:Int)],[DC.i (92:Int)],[DC.i (233:Int)],[DC.i (2047:Int)],[DC.i (2048:Int)],[DC.i (8364:Int)],[DC.i (65535:Int)],[DC.i (65536:Int)],[DC.i (128512:Int)],[DC.i (1114111:Int)],[DC.i (9:Int)],[DC.i (127:Int)],[DC.i (31:Int)]] (by decide) (by decide) c
 simp only [e,Out.bindR_ret,List.getD_cons_zero,List.getD_cons_succ,DC.ii_i,DC.ll_sl]
 exact ⟨_,_,_,rfl,c'⟩
theorem jbf (x a c:Int):Jf [.i x,.i a,.i c] = .ret [.b (decide (x ≥ a) && decide (x ≤ c))]:=by
 rw [j2k]
 by_cases h:x ≥ a
 ·simp only [Qe,List.getD_cons_zero,List.getD_cons_succ,DC.ii_i,h,decide_true,if_true,ja,DC.bb_b,Bool.true_and]
 ·simp only [Qe,List.getD_cons_zero,List.getD_cons_succ,DC.ii_i,h,decide_false,Bool.false_eq_true,if_false,ja,DC.bb_b,Bool.false_and]
theorem j6U (x:Int):∃ y,zn [.i x] = .ret [.b y]:=by
 rw [YF]
 simp only [KA,List.getD_cons_zero,List.getD_cons_succ,DC.ii_i,jbf,Out.bindR_ret,DC.bb_b]
 split <;> exact ⟨_,rfl⟩
theorem Jc (l:List (List DC)):(kL l).length=l.length:=by unfold kL; rw [List.length_map]
theorem j4L (x:Int):∃ t,zX [.i x] = .ret [.s t] ∧ t.length ≤ 4:=by
 obtain ⟨y,hy⟩:=j6U x
 rw [Zs]
 simp only [Qo,List.getD_cons_zero,List.getD_cons_succ,DC.ii_i,hy,Out.bindR_ret,DC.bb_b]
 split
 ·exact ⟨_,rfl,by simp⟩
 ·split
  ·exact ⟨_,rfl,by rw [Jc]; simp⟩
  ·split
   ·rw [if_neg (by decide),if_neg (by decide)]
    exact ⟨_,rfl,by rw [Jc]; simp⟩
   ·split
    ·rw [if_neg (by decide),if_neg (by decide),if_neg (by decide),if_neg (by decide)]
     exact ⟨_,rfl,by rw [Jc]; simp⟩
    ·simp only [j9,List.getD_cons_zero,DC.ii_i]
     repeat rw [if_neg (by decide)]
     exact ⟨_,rfl,by rw [Jc]; simp⟩
theorem j1b {b:List (List DC)} {i:Int} (h:Int) (c:Cu b i):∃ x i' h',pC [.sl b,.i i,.i h] = .ret [.s x,.sl b,.i i',.i h'] ∧ x.length ≤ 5 ∧ Cu b i':=by
 rw [j0p]
 simp only [Vj,List.getD_cons_zero,List.getD_cons_succ,DC.ii_i,DC.ll_sl]
 obtain ⟨x,i',h',e,hx,c'⟩:=K0 h [[97],[98],[110,97,109,101],[105,100],[85,115,101,114],[80,111,115,116],[78,111,100,101],[111,110],[116,121,112,101],[120,49],[95,121],[82,69,68],[113,117,101,114,121]] (by decide) (by decide) c
 simp only [jc,List.map_nil,S1] at e
 simp only [e,Out.bindR_ret,List.getD_cons_zero,List.getD_cons_succ,DC.ii_i,DC.ll_sl,DC.ss_s]
 refine ⟨_,_,_,rfl,?_,c'⟩
 simp only [List.mem_cons,List.not_mem_nil,or_false] at hx
 rcases hx with rfl | rfl | rfl | rfl | rfl | rfl | rfl | rfl | rfl | rfl | rfl | rfl | rfl <;> decide
theorem j6t {b:List (List DC)}:∀ (m:Nat) (k i h:Int) (t:List UInt8),Cu b i → 0 ≤ k → k ≤ 8 → (8 - k).toNat ≤ m → (t.length:Int) ≤ 4 * k →
  ∃ t' i' h',jO pL [.s t,.i k,.sl b,.i i,.i h] = .ex 0 [.s t',.sl b,.i i',.i h'] ∧ t'.length ≤ 32 ∧ Cu b i':=by
 intro m
 induction m with
 | zero =>
  intro k i h t c k0 k8 hm ht
  obtain ⟨x,i1,h1,e1,x1,x2,c1⟩:=jW h 8 (by decide) (by decide) c
  have hk:¬ k < x:=by omega
  exact ⟨t,i1,h1,kD (by simp only [pL,List.getD_cons_zero,List.getD_cons_succ,DC.ii_i,DC.ll_sl,DC.ss_s,e1,Out.bindR_ret,hk,decide_false,Bool.false_eq_true,if_false]),by omega,c1⟩
 | succ m ih =>
  intro k i h t c k0 k8 hm ht
  obtain ⟨x,i1,h1,e1,x1,x2,c1⟩:=jW h 8 (by decide) (by decide) c
  by_cases hk:k < x
  ·obtain ⟨y,i2,h2,e2,c2⟩:=j8Z h1 c1
   obtain ⟨u,e3,hu⟩:=j4L y
   have hl:t.length + u.length < jN:=by unfold jN; omega
   have hw:IntKind.i64.wrap (k + 1)=k + 1:=by rw [IntKind.wrap_i64]; omega
   obtain ⟨t',i',h',e4,ht',c'⟩:=ih (k + 1) i2 h2 (t ++ u) c2 (by omega) (by omega) (by omega) (by rw [js]; omega)
   refine ⟨t',i',h',(qU ?_).trans e4,ht',c'⟩
   simp only [pL,List.getD_cons_zero,List.getD_cons_succ,DC.ii_i,DC.ll_sl,DC.ss_s,e1,Out.bindR_ret,hk,decide_true,if_true,e2,e3,hl,j9,hw]
  ·exact ⟨t,i1,h1,kD (by simp only [pL,List.getD_cons_zero,List.getD_cons_succ,DC.ii_i,DC.ll_sl,DC.ss_s,e1,Out.bindR_ret,hk,decide_false,Bool.false_eq_true,if_false]),by omega,c1⟩
theorem j6k {b:List (List DC)} {i:Int} (h:Int) (c:Cu b i):∃ x i' h',yK [.sl b,.i i,.i h] = .ret [.s x,.sl b,.i i',.i h'] ∧ x.length ≤ 32 ∧ Cu b i':=by
 obtain ⟨t,i',h',e,ht,c'⟩:=j6t 8 0 i h [] c (by decide) (by decide) (by decide) (by simp)
 rw [j0q]
 simp only [Vk,List.getD_cons_zero,List.getD_cons_succ,DC.ii_i,DC.ll_sl,DC.ss_s,e,j9,if_true]
 exact ⟨_,_,_,rfl,ht,c'⟩
theorem qC (v:TValue):kw (TValue.enc v)=v.text.length + DC.wt (.sl (v.items.map TValue.enc)) + DC.wt (.sl (v.names.map S1)):=by
 simp only [TValue.enc_eq,kw,DC.wt]
 try omega
theorem Kr (v:TType):kw (TType.enc v)=v.name.length + v.wraps.length:=by
 simp only [TType.enc_eq,kw,DC.wt]
 try omega
theorem QL (v:TArg):kw (TArg.enc v)=v.name.length + kw (TValue.enc v.value):=by
 simp only [TArg.enc_eq,kw,DC.wt,TValue.enc_eq]
 try omega
theorem QK (v:TDir):kw (TDir.enc v)=v.name.length + DC.wt (.sl (v.args.map TArg.enc)):=by
 simp only [TDir.enc_eq,kw,DC.wt]
 try omega
theorem yq (v:TInDef):kw (TInDef.enc v)=v.name.length + v.desc.length + kw (TType.enc v.type') + kw (TValue.enc v.default') + DC.wt (.sl (v.dirs.map TDir.enc)):=by
 simp only [TInDef.enc_eq,kw,DC.wt,TType.enc_eq,TValue.enc_eq]
 try omega
theorem zz (v:TFieldDef):kw (TFieldDef.enc v)=v.name.length + v.desc.length + DC.wt (.sl (v.args.map TInDef.enc)) + kw (TType.enc v.type') + DC.wt (.sl (v.dirs.map TDir.enc)):=by
 simp only [TFieldDef.enc_eq,kw,DC.wt,TType.enc_eq]
 try omega
theorem yH (v:TEnumDef):kw (TEnumDef.enc v)=v.name.length + v.desc.length + DC.wt (.sl (v.dirs.map TDir.enc)):=by
 simp only [TEnumDef.enc_eq,kw,DC.wt]
 try omega
theorem j6r (v:TRoot):kw (TRoot.enc v)=v.type'.length:=by
 simp only [TRoot.enc_eq,kw,DC.wt]
 try omega
theorem yI (v:TDef):kw (TDef.enc v)=v.desc.length + v.name.length + DC.wt (.sl (v.faces.map S1)) + DC.wt (.sl (v.fields.map TFieldDef.enc)) + DC.wt (.sl (v.inputs.map TInDef.enc)) + DC.wt (.sl (v.values.map TEnumDef.enc)) + DC.wt (.sl (v.roots.map TRoot.enc)) + DC.wt (.sl (v.dirs.map TDir.enc)):=by
 simp only [TDef.enc_eq,kw,DC.wt]
 try omega
def WV:Nat → Nat
 | 0=>61
 | d + 1=>3 * (WV d + 1) + 58
def DV (B:Nat) (b:List (List DC)) (o:Out):Prop:=∃ (v:TValue) (i' h':Int),o = .ret [.i v.kind,.s v.text,.sl (v.items.map TValue.enc),.sl (v.names.map S1),.sl b,.i i',.i h'] ∧ kw v.enc ≤ B ∧ Cu b i'
theorem Jh {B:Nat} {b:List (List DC)} {i h:Int} (k:Int) (t:List UInt8) (ht:t.length ≤ B) (c:Cu b i):DV B b (.ret [.i k,.s t,.sl [],.sl [],.sl b,.i i,.i h]):=by
 refine ⟨⟨k,t,[],[]⟩,i,h,rfl,?_,c⟩
 rw [qC]
 simp only [List.map_nil,DC.wt,wtV,je]
 omega
theorem j4x:∀ (l:List (List UInt8)) (k:Nat),(∀ x ∈ l,x.length ≤ k) → DC.wt (.sl (l.map S1)) ≤ l.length * (k + 1)
 | [],k,_=>by simp [DC.wt,wtV]
 | x :: l,k,h=>by
  have ih:=j4x l k fun y hy=>h y (by simp [hy])
  have hx:=h x (by simp)
  simp only [DC.wt,jc,jd,wtV,S1,kw] at ih ⊢
  rw [Nat.succ_mul]
  omega
theorem j1M:∀ (l:List TValue) (k:Nat),(∀ x ∈ l,kw x.enc ≤ k) → DC.wt (.sl (l.map TValue.enc)) ≤ l.length * (k + 1)
 | [],k,_=>by simp [DC.wt,wtV]
 | x :: l,k,h=>by
  have ih:=j1M l k fun y hy=>h y (by simp [hy])
  have hx:=h x (by simp)
  simp only [DC.wt,jc,jd,wtV] at ih ⊢
  rw [Nat.succ_mul]
  omega
theorem j6O {b:List (List DC)} {B:Nat} {d:Int} {vars:Bool} {a1:Int} {a2 a4:List UInt8} {a3:Int} (hv:∀ (i h:Int),Cu b i → DV B b (jQ [.i (IntKind.i64.wrap (d - 1)),.b vars,.sl b,.i i,.i h])) :
  ∀ (m:Nat) (k i h:Int) (its:List TValue),Cu b i → 0 ≤ k → k ≤ 3 → (4 - k).toNat ≤ m → (its.length:Int) ≤ k → (∀ x ∈ its,kw x.enc ≤ B) →
  ∃ (its':List TValue) (i' h':Int),jO qy [.i d,.b vars,.i k,.sl b,.i i,.i h,.i a1,.s a2,.i a3,.s a4,.sl (its.map TValue.enc)] = .ex 3 [.sl b,.i i',.i h',.i a1,.s a2,.i a3,.s a4,.sl (its'.map TValue.enc)] ∧ its'.length ≤ 3 ∧ (∀ x ∈ its',kw x.enc ≤ B) ∧ Cu b i':=by
 intro m
 induction m with
 | zero=>intro k i h its c k0 k3 hm; omega
 | succ m ih =>
  intro k i h its c k0 k3 hm hl hw
  obtain ⟨x,i1,h1,e1,x1,x2,c1⟩:=jW h 4 (by decide) (by decide) c
  by_cases hk:k < x
  ·obtain ⟨v,i2,h2,e2,hvB,c2⟩:=hv i1 h1 c1
   have hlim:its.length + 1 < jN:=by unfold jN; omega
   have hwr:IntKind.i64.wrap (k + 1)=k + 1:=by rw [IntKind.wrap_i64]; omega
   obtain ⟨its',i',h',e4,hl',hw',c'⟩:=ih (k + 1) i2 h2 (its ++ [v]) c2 (by omega) (by omega) (by omega) (by rw [js]; simp only [jd,je]; omega) (fun y hy=>by
    rcases List.mem_append.1 hy with hy | hy
    ·exact hw y hy
    ·rw [List.mem_singleton.1 hy]; exact hvB)
   refine ⟨its',i',h',(qU ?_).trans e4,hl',hw',c'⟩
   simp only [qy,List.getD_cons_zero,List.getD_cons_succ,DC.bb_b,DC.ii_i,DC.ll_sl,DC.ss_s,e1,Out.bindR_ret,hk,decide_true,if_true,e2,List.length_map,jd,je,Nat.zero_add,hlim,eq_self,and_self,j9,hwr,List.map_append,jc,List.map_nil,TValue.enc_eq v]
  ·refine ⟨its,i1,h1,kD ?_,by omega,hw,c1⟩
   simp only [qy,List.getD_cons_zero,List.getD_cons_succ,DC.bb_b,DC.ii_i,DC.ll_sl,DC.ss_s,e1,Out.bindR_ret,hk,decide_false,Bool.false_eq_true,if_false]
theorem j7S {b:List (List DC)} {B:Nat} {d:Int} {vars:Bool} {a1:Int} {a2 a4:List UInt8} {a3:Int} (hv:∀ (i h:Int),Cu b i → DV B b (jQ [.i (IntKind.i64.wrap (d - 1)),.b vars,.sl b,.i i,.i h])) :
  ∀ (m:Nat) (k i h:Int) (its:List TValue) (ns:List (List UInt8)),Cu b i → 0 ≤ k → k ≤ 3 → (4 - k).toNat ≤ m → (its.length:Int) ≤ k → (∀ x ∈ its,kw x.enc ≤ B) → (ns.length:Int) ≤ k → (∀ x ∈ ns,x.length ≤ 5) →
  ∃ (its':List TValue) (ns':List (List UInt8)) (i' h':Int),jO qz [.i d,.b vars,.i k,.sl b,.i i,.i h,.i a1,.s a2,.i a3,.s a4,.sl (its.map TValue.enc),.sl (ns.map S1)] = .ex 1 [.sl b,.i i',.i h',.i a1,.s a2,.i a3,.s a4,.sl (its'.map TValue.enc),.sl (ns'.map S1)] ∧
   its'.length ≤ 3 ∧ (∀ x ∈ its',kw x.enc ≤ B) ∧ ns'.length ≤ 3 ∧ (∀ x ∈ ns',x.length ≤ 5) ∧ Cu b i':=by
 intro m
 induction m with
 | zero=>intro k i h its ns c k0 k3 hm; omega
 | succ m ih =>
  intro k i h its ns c k0 k3 hm hl hw hn hnw
  obtain ⟨x,i1,h1,e1,x1,x2,c1⟩:=jW h 4 (by decide) (by decide) c
  by_cases hk:k < x
  ·obtain ⟨n,i2,h2,e2,hnB,c2⟩:=j1b h1 c1
   obtain ⟨v,i3,h3,e3,hvB,c3⟩:=hv i2 h2 c2
   have hlim:its.length + 1 < jN:=by unfold jN; omega
   have hlim2:ns.length + 1 < jN:=by unfold jN; omega
   have hwr:IntKind.i64.wrap (k + 1)=k + 1:=by rw [IntKind.wrap_i64]; omega
   obtain ⟨its',ns',i',h',e4,r1,r2,r3,r4,c'⟩:=ih (k + 1) i3 h3 (its ++ [v]) (ns ++ [n]) c3 (by omega) (by omega) (by omega) (by rw [js]; simp only [jd,je]; omega) (fun y hy=>by
    rcases List.mem_append.1 hy with hy | hy
    ·exact hw y hy
    ·rw [List.mem_singleton.1 hy]; exact hvB) (by rw [js]; simp only [jd,je]; omega) (fun y hy=>by
    rcases List.mem_append.1 hy with hy | hy
    ·exact hnw y hy
    ·rw [List.mem_singleton.1 hy]; exact hnB)
   refine ⟨its',ns',i',h',(qU ?_).trans e4,r1,r2,r3,r4,c'⟩
   simp only [qz,List.getD_cons_zero,List.getD_cons_succ,DC.bb_b,DC.ii_i,DC.ll_sl,DC.ss_s,e1,Out.bindR_ret,hk,decide_true,if_true,e2,e3,List.length_map,jd,je,Nat.zero_add,hlim,hlim2,eq_self,and_self,j9,hwr,List.map_append,jc,List.map_nil,TValue.enc_eq v,S1]
  ·refine ⟨its,ns,i1,h1,kD ?_,by omega,hw,by omega,hnw,c1⟩
   simp only [qz,List.getD_cons_zero,List.getD_cons_succ,DC.bb_b,DC.ii_i,DC.ll_sl,DC.ss_s,e1,Out.bindR_ret,hk,decide_false,Bool.false_eq_true,if_false]
theorem j7h {A:Out} {A2:List DC → Out} {TT:List DC → Out} {P:Out → Prop} {Q:Int → Prop} (f:Int → List DC) (hA:∃ v k,A = .norm v ∧ A2 v = .norm (f k) ∧ Q k) (h:∀ k,Q k → P (TT (f k))) :
  P (ja A fun v2=>ja (A2 v2) TT):=by
 obtain ⟨v,k,h1,h2,h3⟩:=hA
 rw [h1]
 show P (ja (A2 v) TT)
 rw [h2]
 exact h k h3
theorem j1i {b:List (List DC)} {B:Nat} {D i:Int} (h:Int) {vars:Bool} (hD:D ≤ 3) (c:Cu b i) (hv:0 < D → ∀ (i h:Int),Cu b i → DV B b (jQ [.i (IntKind.i64.wrap (D - 1)),.b vars,.sl b,.i i,.i h])) :
    DV (3 * (B + 1) + 58) b (jQ [.i D,.b vars,.sl b,.i i,.i h]):=by
  obtain ⟨x,i1,h1,e1,x1,x2,c1⟩:=jW h 10 (by decide) (by decide) c
  rw [Zq]
  simp only [Qm,List.getD_cons_zero,List.getD_cons_succ,DC.bb_b,DC.ii_i,DC.ll_sl,DC.ss_s,e1,Out.bindR_ret]
  refine j7h (Q:=fun k=>0 ≤ k ∧ k ≤ 9 ∧ (D ≤ 0 → k ≤ 6)) (fun k=>[.i D,.b vars,.i k,.sl b,.i i1,.i h1,.i 0,.s []]) ?_ ?_
  · by_cases hd:D ≤ 0
    · by_cases hx:x ≥ 7
      · have hw:IntKind.i64.wrap (x - 7)=x - 7:=by rw [IntKind.wrap_i64]; omega
        refine ⟨_,x - 7,if_pos (by simpa using hd),?_,by omega,by omega,by omega⟩
        simp only [List.getD_cons_zero,List.getD_cons_succ,DC.bb_b,DC.ii_i,DC.ll_sl,DC.ss_s,hx,decide_true,if_true,hw]
      · refine ⟨_,x,if_pos (by simpa using hd),?_,by omega,by omega,by omega⟩
        simp only [List.getD_cons_zero,List.getD_cons_succ,DC.bb_b,DC.ii_i,DC.ll_sl,DC.ss_s,hx,decide_false,Bool.false_eq_true,if_false]
    · refine ⟨_,x,if_neg (by simpa using hd),?_,by omega,by omega,fun h=>absurd h hd⟩
      simp only [List.getD_cons_zero,List.getD_cons_succ,DC.bb_b,DC.ii_i,DC.ll_sl,DC.ss_s,Bool.false_eq_true,if_false]
  · rintro k ⟨k0,k9,kd⟩
    simp only [List.getD_cons_zero,List.getD_cons_succ,DC.bb_b,DC.ii_i,DC.ll_sl,DC.ss_s]
    have hk:k=0 ∨ k=1 ∨ k=2 ∨ k=3 ∨ k=4 ∨ k=5 ∨ k=6 ∨ k=7 ∨ k=8 ∨ k=9:=by omega
    have lst:∀ k:Int,7 ≤ k → (D ≤ 0 → k ≤ 6) → 0 < D:=fun k h1 h2=>by
      rcases Int.lt_or_le 0 D with h | h
      · exact h
      · have:=h2 h; omega
    rcases hk with rfl | rfl | rfl | rfl | rfl | rfl | rfl | rfl | rfl | rfl
    · obtain ⟨y,i2,h2,e2,hy,c2⟩:=K0 h1 [[48],[45,49],[49,50],[50,49,52,55,52,56,51,54,52,56]] (by decide) (by decide) c1
      simp only [jc,List.map_nil,S1] at e2
      simp only [Int.reduceBEq,if_true,Bool.false_eq_true,if_false,e2,Out.bindR_ret,j9,ja,List.getD_cons_zero,List.getD_cons_succ,DC.bb_b,DC.ii_i,DC.ll_sl,DC.ss_s]
      refine Jh 2 y ?_ c2
      simp only [List.mem_cons,List.not_mem_nil,or_false] at hy
      rcases hy with rfl | rfl | rfl | rfl <;> simp <;> omega
    · obtain ⟨y,i2,h2,e2,hy,c2⟩:=K0 h1 [[49,46,53],[49,101,51]] (by decide) (by decide) c1
      simp only [jc,List.map_nil,S1] at e2
      simp only [Int.reduceBEq,if_true,Bool.false_eq_true,if_false,e2,Out.bindR_ret,j9,ja,List.getD_cons_zero,List.getD_cons_succ,DC.bb_b,DC.ii_i,DC.ll_sl,DC.ss_s]
      refine Jh 3 y ?_ c2
      simp only [List.mem_cons,List.not_mem_nil,or_false] at hy
      rcases hy with rfl | rfl <;> simp <;> omega
    · obtain ⟨y,i2,h2,e2,hy,c2⟩:=j6k h1 c1
      simp only [Int.reduceBEq,if_true,Bool.false_eq_true,if_false,e2,Out.bindR_ret,j9,ja,List.getD_cons_zero,List.getD_cons_succ,DC.bb_b,DC.ii_i,DC.ll_sl,DC.ss_s]
      exact Jh 4 y (by omega) c2
    · obtain ⟨y,i2,h2,e2,hy,c2⟩:=K0 h1 [[116,114,117,101],[102,97,108,115,101],[110,117,108,108]] (by decide) (by decide) c1
      simp only [jc,List.map_nil,S1] at e2
      simp only [Int.reduceBEq,if_true,Bool.false_eq_true,if_false,e2,Out.bindR_ret,j9,ja,List.getD_cons_zero,List.getD_cons_succ,DC.bb_b,DC.ii_i,DC.ll_sl,DC.ss_s]
      refine Jh 5 y ?_ c2
      simp only [List.mem_cons,List.not_mem_nil,or_false] at hy
      rcases hy with rfl | rfl | rfl <;> simp <;> omega
    · obtain ⟨y,i2,h2,e2,hy,c2⟩:=K0 h1 [[82,69,68],[66,76,85,69],[111,110],[116,121,112,101]] (by decide) (by decide) c1
      simp only [jc,List.map_nil,S1] at e2
      simp only [Int.reduceBEq,if_true,Bool.false_eq_true,if_false,e2,Out.bindR_ret,j9,ja,List.getD_cons_zero,List.getD_cons_succ,DC.bb_b,DC.ii_i,DC.ll_sl,DC.ss_s]
      refine Jh 6 y ?_ c2
      simp only [List.mem_cons,List.not_mem_nil,or_false] at hy
      rcases hy with rfl | rfl | rfl | rfl <;> simp <;> omega
    · cases vars with
      | true =>
        obtain ⟨y,i2,h2,e2,hy,c2⟩:=K0 h1 [[97],[98],[118]] (by decide) (by decide) c1
        simp only [jc,List.map_nil,S1] at e2
        simp only [Int.reduceBEq,if_true,Bool.false_eq_true,if_false,e2,Out.bindR_ret,j9,ja,List.getD_cons_zero,List.getD_cons_succ,DC.bb_b,DC.ii_i,DC.ll_sl,DC.ss_s]
        refine Jh 1 y ?_ c2
        simp only [List.mem_cons,List.not_mem_nil,or_false] at hy
        rcases hy with rfl | rfl | rfl <;> simp <;> omega
      | false =>
        simp only [Int.reduceBEq,if_true,Bool.false_eq_true,if_false,Out.bindR_ret,j9,ja,List.getD_cons_zero,List.getD_cons_succ,DC.bb_b,DC.ii_i,DC.ll_sl,DC.ss_s]
        exact Jh 2 [55] (by simp) c1
    · cases vars with
      | true =>
        obtain ⟨y,i2,h2,e2,hy,c2⟩:=K0 h1 [[97],[98],[118]] (by decide) (by decide) c1
        simp only [jc,List.map_nil,S1] at e2
        simp only [Int.reduceBEq,if_true,Bool.false_eq_true,if_false,e2,Out.bindR_ret,j9,ja,List.getD_cons_zero,List.getD_cons_succ,DC.bb_b,DC.ii_i,DC.ll_sl,DC.ss_s]
        refine Jh 1 y ?_ c2
        simp only [List.mem_cons,List.not_mem_nil,or_false] at hy
        rcases hy with rfl | rfl | rfl <;> simp <;> omega
      | false =>
        simp only [Int.reduceBEq,if_true,Bool.false_eq_true,if_false,Out.bindR_ret,j9,ja,List.getD_cons_zero,List.getD_cons_succ,DC.bb_b,DC.ii_i,DC.ll_sl,DC.ss_s]
        exact Jh 2 [55] (by simp) c1
    · obtain ⟨its,ns,i2,h2,e2,r1,r2,r3,r4,c2⟩:=j7S (d:=D) (vars:=vars) (a1:=0) (a2:=[]) (a3:=8) (a4:=[]) (hv (lst 7 (by decide) kd)) 4 0 i1 h1 [] [] c1 (by decide) (by decide) (by decide) (by simp) (by simp) (by simp) (by simp)
      simp only [List.map_nil] at e2
      simp only [Int.reduceBEq,if_true,Bool.false_eq_true,if_false,e2,Out.bindR_ret,j9,ja,List.getD_cons_zero,List.getD_cons_succ,DC.bb_b,DC.ii_i,DC.ll_sl,DC.ss_s]
      refine ⟨⟨8,[],its,ns⟩,i2,h2,rfl,?_,c2⟩
      rw [qC]
      have q1:=j1M its B r2
      have q2:=j4x ns 5 r4
      have q3:its.length * (B + 1) ≤ 3 * (B + 1):=Nat.mul_le_mul_right _ r1
      simp only [je]
      omega
    all_goals
      (obtain ⟨its,i2,h2,e2,r1,r2,c2⟩:=j6O (d:=D) (vars:=vars) (a1:=0) (a2:=[]) (a3:=7) (a4:=[]) (hv (lst _ (by decide) kd)) 4 0 i1 h1 [] c1 (by decide) (by decide) (by decide) (by simp) (by simp)
       simp only [List.map_nil] at e2
       simp only [Int.reduceBEq,if_true,Bool.false_eq_true,if_false,e2,Out.bindR_ret,j9,ja,List.getD_cons_zero,List.getD_cons_succ,DC.bb_b,DC.ii_i,DC.ll_sl,DC.ss_s]
       refine ⟨⟨7,[],its,[]⟩,i2,h2,rfl,?_,c2⟩
       rw [qC]
       have q1:=j1M its B r2
       have q3:its.length * (B + 1) ≤ 3 * (B + 1):=Nat.mul_le_mul_right _ r1
       simp only [je,List.map_nil,DC.wt,wtV]
       simp only [DC.wt] at q1
       omega)
theorem j1X {b:List (List DC)} {vars:Bool}:∀ (d:Nat) (i h:Int),d ≤ 3 → Cu b i → DV (WV d) b (jQ [.i (d:Int),.b vars,.sl b,.i i,.i h])
 | 0,i,h,hd,c=>j1i (B:=0) h (by omega) c fun h0=>absurd h0 (by decide)
 | d + 1,i,h,hd,c=>j1i (B:=WV d) h (by omega) c fun _ i' h' c'=>by
  have hw:IntKind.i64.wrap (((d + 1:Nat):Int) - 1)=(d:Int):=by rw [IntKind.wrap_i64]; omega
  rw [hw]
  exact j1X d i' h' (by omega) c'
theorem j7T (b:List (List DC)) (hb:b.length ≤ 1048576):∀ (m i:Nat) (h:Int),4000 - i ≤ m → i ≤ 4000 → i ≤ b.length → ∃ h',jO kJ [.sl b,.i h,.i (i:Int)] = .ex 0 [.sl b,.i h']:=by
 have stop:∀ (i:Nat) (h:Int),¬ ((i:Int) < (b.length:Int) ∧ (i:Int) < 4000) → ∃ h',jO kJ [.sl b,.i h,.i (i:Int)] = .ex 0 [.sl b,.i h']:=by
  intro i h hn
  refine ⟨h,kD ?_⟩
  by_cases h1:(i:Int) < (b.length:Int)
  ·have h2:¬ (i:Int) < 4000:=fun h2=>hn ⟨h1,h2⟩
   simp only [kJ,List.getD_cons_zero,List.getD_cons_succ,DC.ii_i,DC.ll_sl,h1,decide_true,if_true,h2,decide_false,Bool.false_eq_true,if_false,ja,DC.bb_b]
  ·simp only [kJ,List.getD_cons_zero,List.getD_cons_succ,DC.ii_i,DC.ll_sl,h1,decide_false,Bool.false_eq_true,if_false,ja,DC.bb_b]
 intro m
 induction m with
 | zero=>intro i h hm hi hl; exact stop i h (by omega)
 | succ m ih =>
  intro i h hm hi hl
  by_cases hc:(i:Int) < (b.length:Int) ∧ (i:Int) < 4000
  ·obtain ⟨h1,h2⟩:=hc
   have hw:IntKind.i64.wrap ((i:Int) + 1)=((i + 1:Nat):Int):=by rw [IntKind.wrap_i64]; omega
   have hn:(0:Int) ≤ (i:Int):=by omega
   obtain ⟨h',e⟩:=ih (i + 1) _ (by omega) (by omega) (by omega)
   refine ⟨h',(qU ?_).trans e⟩
   simp only [kJ,List.getD_cons_zero,List.getD_cons_succ,DC.ii_i,DC.ll_sl,h1,h2,hn,decide_true,if_true,ja,j9,DC.bb_b,and_self,hw]
   rfl
  ·exact stop i h hc
theorem j8j (b:List (List DC)) (hb:b.length ≤ 1048576):∃ h',jU [.sl b] = .ret [.sl b,.i 0,.i h']:=by
 obtain ⟨h',e⟩:=j7T b hb 4000 0 (IntKind.i64.wrap ((94701:Int) + (b.length:Int))) (by omega) (by omega) (by omega)
 have e':jO kJ [.sl b,.i (IntKind.i64.wrap ((94701:Int) + (b.length:Int))),.i (0:Int)] = .ex 0 [.sl b,.i h']:=e
 refine ⟨h',?_⟩
 rw [j0g]
 simp only [Xr,List.getD_cons_zero,List.getD_cons_succ,DC.ii_i,DC.ll_sl,e',j9,if_true]
theorem j8i {α:Type} {enc:α → List DC}:∀ (l:List α) (k:Nat),(∀ x ∈ l,kw (enc x) ≤ k) → DC.wt (.sl (l.map enc)) ≤ l.length * (k + 1)
 | [],k,_=>by simp [DC.wt,wtV]
 | x :: l,k,h=>by
  have ih:=j8i l k fun y hy=>h y (by simp [hy])
  have hx:=h x (by simp)
  simp only [DC.wt,jc,jd,wtV] at ih ⊢
  rw [Nat.succ_mul]
  omega
theorem j6T {α:Type} {enc:α → List DC} {F:List DC → Out} {b:List (List DC)} {B K j:Nat} {st:Int → Int → Int → List α → List DC} {fin:Int → Int → List α → List DC}
  (hs:∀ (k i h:Int) (its:List α),Cu b i → 0 ≤ k → k ≤ K → (its.length:Int) ≤ k → (∃ i' h',F (st k i h its) = .ex j (fin i' h' its) ∧ Cu b i') ∨ (k < K ∧ ∃ (x:α) (i' h':Int),F (st k i h its) = .norm (st (k + 1) i' h' (its ++ [x])) ∧ kw (enc x) ≤ B ∧ Cu b i')) :
  ∀ (m:Nat) (k i h:Int) (its:List α),Cu b i → 0 ≤ k → k ≤ K → ((K:Int) - k).toNat ≤ m → (its.length:Int) ≤ k → (∀ x ∈ its,kw (enc x) ≤ B) →
  ∃ (its':List α) (i' h':Int),jO F (st k i h its) = .ex j (fin i' h' its') ∧ its'.length ≤ K ∧ (∀ x ∈ its',kw (enc x) ≤ B) ∧ Cu b i':=by
 intro m
 induction m with
 | zero =>
  intro k i h its c k0 kK hm hl hw
  rcases hs k i h its c k0 kK hl with ⟨i',h',e,c'⟩ | ⟨hk,_⟩
  ·exact ⟨its,i',h',kD e,by omega,hw,c'⟩
  ·omega
 | succ m ih =>
  intro k i h its c k0 kK hm hl hw
  rcases hs k i h its c k0 kK hl with ⟨i',h',e,c'⟩ | ⟨hk,x,i',h',e,hx,c'⟩
  ·exact ⟨its,i',h',kD e,by omega,hw,c'⟩
  ·obtain ⟨its',i2,h2,e2,r⟩:=ih (k + 1) i' h' (its ++ [x]) c' (by omega) (by omega) (by omega) (by rw [js]; simp only [jd,je]; omega) (fun y hy=>by
    rcases List.mem_append.1 hy with hy | hy
    ·exact hw y hy
    ·rw [List.mem_singleton.1 hy]; exact hx)
   exact ⟨its',i2,h2,(qU e).trans e2,r⟩
theorem zP {α:Type} {enc:α → List DC} {F:List DC → Out} {b:List (List DC)} {j:Nat} (B K:Nat) (st:Int → Int → Int → List α → List DC) (fin:Int → Int → List α → List DC) {i:Int} (h:Int) (c:Cu b i)
  (hs:∀ (k i h:Int) (its:List α),Cu b i → 0 ≤ k → k ≤ K → (its.length:Int) ≤ k → (∃ i' h',F (st k i h its) = .ex j (fin i' h' its) ∧ Cu b i') ∨ (k < K ∧ ∃ (x:α) (i' h':Int),F (st k i h its) = .norm (st (k + 1) i' h' (its ++ [x])) ∧ kw (enc x) ≤ B ∧ Cu b i')) :
  ∃ (its':List α) (i' h':Int),jO F (st 0 i h []) = .ex j (fin i' h' its') ∧ DC.wt (.sl (its'.map enc)) ≤ K * (B + 1) ∧ Cu b i':=by
 obtain ⟨its,i',h',e,l,w,c'⟩:=j6T (enc:=enc) (B:=B) (K:=K) hs K 0 i h [] c (by decide) (by omega) (by omega) (by simp) (by simp)
 exact ⟨its,i',h',e,Nat.le_trans (j8i its B w) (Nat.mul_le_mul_right _ l),c'⟩
theorem QM {k:Int} (h:0 ≤ k) (h2:k ≤ 100):IntKind.i64.wrap (k + 1)=k + 1:=by rw [IntKind.wrap_i64]; omega
theorem JZ {n:Nat} {k:Int} (h:(n:Int) ≤ k) (h2:k ≤ 100):n + 1 < jN:=by unfold jN; omega
theorem qc {b:List (List DC)} {i:Int} (h:Int) (l:List (List UInt8)) (m:Nat) (h0:0 < l.length) (h1:l.length ≤ 256) (hm:∀ x ∈ l,x.length ≤ m) (c:Cu b i):∃ x i' h',jH [.sl (l.map S1),.sl b,.i i,.i h] = .ret [.s x,.sl b,.i i',.i h'] ∧ x.length ≤ m ∧ Cu b i':=by
 obtain ⟨x,i',h',e,hx,c'⟩:=K0 h l h0 h1 c
 exact ⟨x,i',h',e,hm x hx,c'⟩
theorem j6j {b:List (List DC)} {i:Int} (h:Int) (c:Cu b i):∃ (n w:List UInt8) (i' h':Int),yJ [.sl b,.i i,.i h] = .ret [.s n,.s w,.sl b,.i i',.i h'] ∧ n.length ≤ 6 ∧ w.length ≤ 3 ∧ Cu b i':=by
 obtain ⟨n,i1,h1,e1,l1,c1⟩:=qc h [[73,110,116],[83,116,114,105,110,103],[73,68],[85,115,101,114],[80,111,115,116],[67,111,108,111,114],[70,105,110,100]] 6 (by decide) (by decide) (by decide) c
 obtain ⟨w,i2,h2,e2,l2,c2⟩:=qc h1 [[],[],[33],[93],[33,93],[93,33],[33,93,33],[93,93]] 3 (by decide) (by decide) (by decide) c1
 simp only [jc,List.map_nil,S1] at e1 e2
 rw [j0n]
 simp only [Vh,List.getD_cons_zero,List.getD_cons_succ,DC.bb_b,DC.ii_i,DC.ss_s,DC.ll_sl,e1,e2,Out.bindR_ret]
 exact ⟨n,w,i2,h2,rfl,l1,l2,c2⟩
theorem j1c {b:List (List DC)} {i:Int} (h:Int) (c:Cu b i):∃ (t:List UInt8) (i' h':Int),ky [.sl b,.i i,.i h] = .ret [.s t,.sl b,.i i',.i h'] ∧ t.length ≤ 32 ∧ Cu b i':=by
 obtain ⟨o,i1,h1,e1,c1⟩:=VX h 4 (by decide) (by decide) c
 rw [X2]
 simp only [JD,List.getD_cons_zero,List.getD_cons_succ,DC.bb_b,DC.ii_i,DC.ss_s,DC.ll_sl,e1,Out.bindR_ret]
 cases o with
 | true =>
  obtain ⟨t,i2,h2,e2,l2,c2⟩:=j6k h1 c1
  simp only [if_true,e2,Out.bindR_ret,List.getD_cons_zero,List.getD_cons_succ,DC.bb_b,DC.ii_i,DC.ss_s,DC.ll_sl]
  exact ⟨t,i2,h2,rfl,l2,c2⟩
 | false =>
  simp only [Bool.false_eq_true,if_false]
  exact ⟨[],i1,h1,rfl,by simp,c1⟩
theorem j94 {b:List (List DC)} {i:Int} (h:Int) (vars:Bool) (c:Cu b i):∃ (as':List TArg) (i' h':Int),Jo [.b vars,.sl b,.i i,.i h] = .ret [.sl (as'.map TArg.enc),.sl b,.i i',.i h'] ∧ DC.wt (.sl (as'.map TArg.enc)) ≤ 1602 ∧ Cu b i':=by
 obtain ⟨l,i',h',e,w,c'⟩:=zP (enc:=TArg.enc) (F:=qW) (j:=0) 800 2 (fun k i h its=>[.b vars,.sl (its.map TArg.enc),.i k,.sl b,.i i,.i h]) (fun i h its=>[.sl (its.map TArg.enc),.sl b,.i i,.i h]) h c (fun k i h its c k0 kK hl=>by
  obtain ⟨x,i1,h1,e1,x1,x2,c1⟩:=jW h 3 (by decide) (by decide) c
  by_cases hk:k < x
  ·right
   obtain ⟨n,i2,h2,e2,hn,c2⟩:=j1b h1 c1
   obtain ⟨v,i3,h3,e3,hv,c3⟩:=j1X (b:=b) (vars:=vars) 2 i2 h2 (by decide) c2
   have e3':jQ [.i (2:Int),.b vars,.sl b,.i i2,.i h2]=_:=e3
   have hlim:=JZ hl (by omega)
   refine ⟨by omega,⟨n,v⟩,i3,h3,?_,?_,c3⟩
   ·simp only [qW,List.getD_cons_zero,List.getD_cons_succ,DC.bb_b,DC.ii_i,DC.ss_s,DC.ll_sl,e1,Out.bindR_ret,hk,decide_true,if_true,e2,e3',List.length_map,jd,je,Nat.zero_add,hlim,eq_self,and_self,j9,QM k0 (by omega),List.map_append,jc,List.map_nil,TArg.enc_eq]
   ·have:WV 2=793:=rfl
    rw [QL]
    show n.length + kw v.enc ≤ 800
    omega
  ·left
   exact ⟨i1,h1,by simp only [qW,List.getD_cons_zero,List.getD_cons_succ,DC.bb_b,DC.ii_i,DC.ss_s,DC.ll_sl,e1,Out.bindR_ret,hk,decide_false,Bool.false_eq_true,if_false],c1⟩)
 simp only [List.map_nil] at e
 rw [j0k]
 simp only [Ve,List.getD_cons_zero,List.getD_cons_succ,DC.bb_b,DC.ii_i,DC.ss_s,DC.ll_sl,e,j9,if_true]
 exact ⟨l,i',h',rfl,w,c'⟩
theorem j3W {b:List (List DC)} {i:Int} (h:Int) (vars:Bool) (c:Cu b i):∃ (ds:List TDir) (i' h':Int),pQ [.b vars,.sl b,.i i,.i h] = .ret [.sl (ds.map TDir.enc),.sl b,.i i',.i h'] ∧ DC.wt (.sl (ds.map TDir.enc)) ≤ 3226 ∧ Cu b i':=by
 obtain ⟨l,i',h',e,w,c'⟩:=zP (enc:=TDir.enc) (F:=pi) (j:=0) 1612 2 (fun k i h its=>[.b vars,.sl (its.map TDir.enc),.i k,.sl b,.i i,.i h]) (fun i h its=>[.sl (its.map TDir.enc),.sl b,.i i,.i h]) h c (fun k i h its c k0 kK hl=>by
  obtain ⟨x,i1,h1,e1,x1,x2,c1⟩:=jW h 3 (by decide) (by decide) c
  by_cases hk:k < x
  ·right
   obtain ⟨n,i2,h2,e2,hn,c2⟩:=qc h1 [[115,107,105,112],[105,110,99,108,117,100,101],[100,101,112,114,101,99,97,116,101,100],[120]] 10 (by decide) (by decide) (by decide) c1
   simp only [jc,List.map_nil,S1] at e2
   obtain ⟨v,i3,h3,e3,hv,c3⟩:=j94 h2 vars c2
   have hlim:=JZ hl (by omega)
   refine ⟨by omega,⟨n,v⟩,i3,h3,?_,?_,c3⟩
   ·simp only [pi,List.getD_cons_zero,List.getD_cons_succ,DC.bb_b,DC.ii_i,DC.ss_s,DC.ll_sl,e1,Out.bindR_ret,hk,decide_true,if_true,e2,e3,List.length_map,jd,je,Nat.zero_add,hlim,eq_self,and_self,j9,QM k0 (by omega),List.map_append,jc,List.map_nil,TDir.enc_eq]
   ·rw [QK]
    show n.length + DC.wt (.sl (v.map TArg.enc)) ≤ 1612
    omega
  ·left
   exact ⟨i1,h1,by simp only [pi,List.getD_cons_zero,List.getD_cons_succ,DC.bb_b,DC.ii_i,DC.ss_s,DC.ll_sl,e1,Out.bindR_ret,hk,decide_false,Bool.false_eq_true,if_false],c1⟩)
 simp only [List.map_nil] at e
 rw [X3]
 simp only [JE,List.getD_cons_zero,List.getD_cons_succ,DC.bb_b,DC.ii_i,DC.ss_s,DC.ll_sl,e,j9,if_true]
 exact ⟨l,i',h',rfl,w,c'⟩
theorem j6W {b:List (List DC)} {i:Int} (h:Int) (c:Cu b i):∃ (t:List UInt8) (i' h':Int),zk [.sl b,.i i,.i h] = .ret [.s t,.sl b,.i i',.i h'] ∧ t.length ≤ 41 ∧ Cu b i':=by
 obtain ⟨t,i1,h1,e1,l1,c1⟩:=qc h [[48],[45,49],[49,50],[50,49,52,55,52,56,51,54,52,55],[50,49,52,55,52,56,51,54,52,56],[45,50,49,52,55,52,56,51,54,52,56],[45,50,49,52,55,52,56,51,54,52,57],[49,46,53],[45,48,46,48],[49,101,51],[50,69,45,52],[49,46,48,101,43,50],[57,57,57,57,57,57,57,57,57,57,57]] 41 (by decide) (by decide) (by decide) c
 simp only [jc,List.map_nil,S1] at e1
 rw [YE]
 simp only [Kz,List.getD_cons_zero,List.getD_cons_succ,DC.bb_b,DC.ii_i,DC.ss_s,DC.ll_sl,e1,Out.bindR_ret]
 exact ⟨t,i1,h1,rfl,l1,c1⟩
theorem j6l {b:List (List DC)} {i:Int} (h:Int) (c:Cu b i):∃ (t:List UInt8) (i' h':Int),zC [.sl b,.i i,.i h] = .ret [.s t,.sl b,.i i',.i h'] ∧ t.length ≤ 41 ∧ Cu b i':=by
 obtain ⟨x,i1,h1,e1,x1,x2,c1⟩:=jW h 3 (by decide) (by decide) c
 rw [j1U]
 simp only [Xq,List.getD_cons_zero,List.getD_cons_succ,DC.bb_b,DC.ii_i,DC.ss_s,DC.ll_sl,e1,Out.bindR_ret]
 have hx:x=0 ∨ x=1 ∨ x=2:=by omega
 rcases hx with rfl | rfl | rfl
 ·obtain ⟨t,i2,h2,e2,l2,c2⟩:=j1b h1 c1
  simp only [Int.reduceBEq,if_true,e2,Out.bindR_ret,j9,List.getD_cons_zero,List.getD_cons_succ,DC.bb_b,DC.ii_i,DC.ss_s,DC.ll_sl]
  exact ⟨t,i2,h2,rfl,by omega,c2⟩
 ·obtain ⟨t,i2,h2,e2,l2,c2⟩:=j6W h1 c1
  simp only [Int.reduceBEq,if_true,Bool.false_eq_true,if_false,e2,Out.bindR_ret,j9,List.getD_cons_zero,List.getD_cons_succ,DC.bb_b,DC.ii_i,DC.ss_s,DC.ll_sl]
  exact ⟨t,i2,h2,rfl,l2,c2⟩
 ·obtain ⟨t,i2,h2,e2,l2,c2⟩:=qc h1 [[],[48,49],[45],[49,46],[46,53],[49,101],[49,101,43],[45,48,49],[49,46,53,46,50],[49,97],[97,32,98],[97,45,98],[57],[97,98,99,100,101,102,103,104,105,106,107,108,109,110,111,112,113,114,115,116,117,118,119,120,121,122,97,98,99,100],[97,98,99,100,101,102,103,104,105,106,107,108,109,110,111,112,113,114,115,116,117,118,119,120,121,122,97,98,99,100,101],[48,120,49],[45,48],[48,48],[116,114,117,101],[110,117,108,108],[49,46,101,51],[49,50,51,52,53,54,55,56,57,48,49,50,51,52,53,54,55,56,57,48,49,50,51,52,53,54,55,56,57,48,49,50,51,52,53,54,55,56,57,48],[49,50,51,52,53,54,55,56,57,48,49,50,51,52,53,54,55,56,57,48,49,50,51,52,53,54,55,56,57,48,49,50,51,52,53,54,55,56,57,48,49]] 41 (by decide) (by decide) (by decide) c1
  simp only [jc,List.map_nil,S1] at e2
  simp only [Int.reduceBEq,if_true,Bool.false_eq_true,if_false,e2,Out.bindR_ret,j9,List.getD_cons_zero,List.getD_cons_succ,DC.bb_b,DC.ii_i,DC.ss_s,DC.ll_sl]
  exact ⟨t,i2,h2,rfl,l2,c2⟩
theorem j10 {α:Type} {enc:α → List DC} (l:List α) (x:α):DC.wt (.sl ((l ++ [x]).map enc))=DC.wt (.sl (l.map enc)) + 1 + kw (enc x):=by
 simp only [DC.wt,List.length_map,js,jd,je,List.map_append,jc,List.map_nil,KX,wtV]
 omega
theorem KW {α:Type} {enc:α → List DC}:DC.wt (.sl (([]:List α).map enc))=0:=by simp [DC.wt,wtV]
theorem j9s {α:Type} {enc:α → List DC} {l:List α} {n:Nat} (h:DC.wt (.sl (l.map enc)) ≤ n):l.length ≤ n:=by
 rw [DC.wt,List.length_map] at h
 omega
theorem j3r {α:Type} {enc:α → List DC} {l:List α} {n:Nat} (h:DC.wt (.sl (l.map enc)) ≤ n) (hn:n ≤ 1048576):l.length + 1 < jN:=by
 have:=j9s h
 unfold jN
 omega
theorem j2z {A:Out} {TT:List DC → Out} {P:Out → Prop} {σ:Type} {Q:σ → Prop} {j:Nat} (f:σ → List DC) (hA:∃ s,A = .norm (f s) ∧ Q s) (h:∀ s,Q s → P (TT (f s))):P (j9 A j TT):=by
 obtain ⟨s,h1,h2⟩:=hA
 rw [h1]
 exact h s h2
theorem j5J {b:List (List DC)} {i:Int} (h:Int) (c:Cu b i):∃ (l:List TInDef) (i' h':Int),pe [.sl b,.i i,.i h] = .ret [.sl (l.map TInDef.enc),.sl b,.i i',.i h'] ∧ DC.wt (.sl (l.map TInDef.enc)) ≤ 7042 ∧ Cu b i':=by
 obtain ⟨l,i',h',e,w,c'⟩:=zP (enc:=TInDef.enc) (F:=jX) (j:=0) 3520 2 (fun k i h its=>[.sl (its.map TInDef.enc),.i k,.sl b,.i i,.i h]) (fun i h its=>[.sl (its.map TInDef.enc),.sl b,.i i,.i h]) h c (fun k i h its c k0 kK hl=>by
  obtain ⟨x,i1,h1,e1,x1,x2,c1⟩:=jW h 3 (by decide) (by decide) c
  by_cases hk:k < x
  ·right
   obtain ⟨n,i2,h2,e2,hn,c2⟩:=qc h1 [[97],[98],[105,100],[102,105,114,115,116]] 5 (by decide) (by decide) (by decide) c1
   simp only [jc,List.map_nil,S1] at e2
   obtain ⟨t,i3,h3,e3,ht,c3⟩:=j1c h2 c2
   obtain ⟨tn,tw,i4,h4,e4,htn,htw,c4⟩:=j6j h3 c3
   obtain ⟨o1,i5,h5,e5,c5⟩:=VX h4 3 (by decide) (by decide) c4
   have hlim:=JZ hl (by omega)
   have w1:WV 1=244:=rfl
   have w0:kw (TValue.enc ⟨0,[],[],[]⟩)=0:=by rw [qC]; simp [DC.wt,wtV]
   have wn:DC.wt (.sl (([]:List TDir).map TDir.enc))=0:=by simp [DC.wt,wtV]
   cases o1 with
   | true =>
    obtain ⟨v,i6,h6,e6,hv,c6⟩:=j1X (b:=b) (vars:=false) 1 i5 h5 (by decide) c5
    have e6':jQ [.i (1:Int),.b false,.sl b,.i i5,.i h5]=_:=e6
    obtain ⟨o2,i7,h7,e7,c7⟩:=VX h6 5 (by decide) (by decide) c6
    cases o2 with
    | true =>
     obtain ⟨ds,i8,h8,e8,hd,c8⟩:=j3W h7 false c7
     refine ⟨by omega,⟨n,t,⟨tn,tw⟩,true,v,ds⟩,i8,h8,?_,?_,c8⟩
     ·simp only [jX,List.getD_cons_zero,List.getD_cons_succ,DC.bb_b,DC.ii_i,DC.ss_s,DC.ll_sl,Out.bindR_ret,decide_true,if_true,Bool.false_eq_true,if_false,List.length_map,jd,je,Nat.zero_add,hlim,eq_self,and_self,ja,j9,QM k0 (by omega),List.map_append,jc,List.map_nil,e1,hk,e2,e3,e4,e5,e6',e7,e8,TInDef.enc_eq]
     ·rw [yq]
      show n.length + t.length + kw (TType.enc ⟨tn,tw⟩) + kw (TValue.enc v) + DC.wt (.sl ((ds:List TDir).map TDir.enc)) ≤ 3520
      rw [Kr]
      simp only []
      omega
    | false =>
     refine ⟨by omega,⟨n,t,⟨tn,tw⟩,true,v,[]⟩,i7,h7,?_,?_,c7⟩
     ·simp only [jX,List.getD_cons_zero,List.getD_cons_succ,DC.bb_b,DC.ii_i,DC.ss_s,DC.ll_sl,Out.bindR_ret,decide_true,if_true,Bool.false_eq_true,if_false,List.length_map,jd,je,Nat.zero_add,hlim,eq_self,and_self,ja,j9,QM k0 (by omega),List.map_append,jc,List.map_nil,e1,hk,e2,e3,e4,e5,e6',e7,TInDef.enc_eq]
     ·rw [yq]
      show n.length + t.length + kw (TType.enc ⟨tn,tw⟩) + kw (TValue.enc v) + DC.wt (.sl (([]:List TDir).map TDir.enc)) ≤ 3520
      rw [Kr]
      simp only []
      omega
   | false =>
    obtain ⟨o2,i7,h7,e7,c7⟩:=VX h5 5 (by decide) (by decide) c5
    cases o2 with
    | true =>
     obtain ⟨ds,i8,h8,e8,hd,c8⟩:=j3W h7 false c7
     refine ⟨by omega,⟨n,t,⟨tn,tw⟩,false,⟨0,[],[],[]⟩,ds⟩,i8,h8,?_,?_,c8⟩
     ·simp only [jX,List.getD_cons_zero,List.getD_cons_succ,DC.bb_b,DC.ii_i,DC.ss_s,DC.ll_sl,Out.bindR_ret,decide_true,if_true,Bool.false_eq_true,if_false,List.length_map,jd,je,Nat.zero_add,hlim,eq_self,and_self,ja,j9,QM k0 (by omega),List.map_append,jc,List.map_nil,e1,hk,e2,e3,e4,e5,e7,e8,TInDef.enc_eq]
     ·rw [yq]
      show n.length + t.length + kw (TType.enc ⟨tn,tw⟩) + kw (TValue.enc ⟨0,[],[],[]⟩) + DC.wt (.sl ((ds:List TDir).map TDir.enc)) ≤ 3520
      rw [Kr]
      simp only []
      omega
    | false =>
     refine ⟨by omega,⟨n,t,⟨tn,tw⟩,false,⟨0,[],[],[]⟩,[]⟩,i7,h7,?_,?_,c7⟩
     ·simp only [jX,List.getD_cons_zero,List.getD_cons_succ,DC.bb_b,DC.ii_i,DC.ss_s,DC.ll_sl,Out.bindR_ret,decide_true,if_true,Bool.false_eq_true,if_false,List.length_map,jd,je,Nat.zero_add,hlim,eq_self,and_self,ja,j9,QM k0 (by omega),List.map_append,jc,List.map_nil,e1,hk,e2,e3,e4,e5,e7,TInDef.enc_eq]
     ·rw [yq]
      show n.length + t.length + kw (TType.enc ⟨tn,tw⟩) + kw (TValue.enc ⟨0,[],[],[]⟩) + DC.wt (.sl (([]:List TDir).map TDir.enc)) ≤ 3520
      rw [Kr]
      simp only []
      omega
  ·left
   exact ⟨i1,h1,by simp only [jX,List.getD_cons_zero,List.getD_cons_succ,DC.bb_b,DC.ii_i,DC.ss_s,DC.ll_sl,e1,Out.bindR_ret,hk,decide_false,Bool.false_eq_true,if_false],c1⟩)
 simp only [List.map_nil] at e
 rw [XS]
 simp only [K5,List.getD_cons_zero,List.getD_cons_succ,DC.bb_b,DC.ii_i,DC.ss_s,DC.ll_sl,e,j9,if_true]
 exact ⟨l,i',h',rfl,w,c'⟩
theorem j9o {b:List (List DC)} {i:Int} (h:Int) (c:Cu b i) {a4:Int} {a5:Bool} {a6 a7:List UInt8} {a8:Bool} {a9:Int} {a10:Bool} {a11 a12:List UInt8} {a14:Bool} {a15:List (List DC)}:∃ (l:List (List UInt8)) (i' h':Int),jO pJ [.i (0:Int),.sl b,.i i,.i h,.i a4,.b a5,.s a6,.s a7,.b a8,.i a9,.b a10,.s a11,.s a12,.sl [],.b a14,.sl a15] = .ex 1 [.sl b,.i i',.i h',.i a4,.b a5,.s a6,.s a7,.b a8,.i a9,.b a10,.s a11,.s a12,.sl (l.map S1),.b a14,.sl a15] ∧ DC.wt (.sl (l.map S1)) ≤ 2 * (5 + 1) ∧ Cu b i':=by
 exact zP (enc:=S1) (F:=pJ) (j:=1) 5 2 (fun k i h its=>[.i k,.sl b,.i i,.i h,.i a4,.b a5,.s a6,.s a7,.b a8,.i a9,.b a10,.s a11,.s a12,.sl (its.map S1),.b a14,.sl a15]) (fun i h its=>[.sl b,.i i,.i h,.i a4,.b a5,.s a6,.s a7,.b a8,.i a9,.b a10,.s a11,.s a12,.sl (its.map S1),.b a14,.sl a15]) h c (fun k i h its c k0 kK hl=>by
  obtain ⟨x,i1,h1,e1,x1,x2,c1⟩:=jW h 3 (by decide) (by decide) c
  by_cases hk:k < x
  ·right
   have hlim:=JZ hl (by omega)
   obtain ⟨n,i2,h2,e2,hn,c2⟩:=qc h1 [[78,111,100,101],[78,97,109,101,100]] 5 (by decide) (by decide) (by decide) c1
   simp only [jc,List.map_nil,S1] at e2
   refine ⟨by omega,n,i2,h2,?_,?_,c2⟩
   ·simp only [pJ,List.getD_cons_zero,List.getD_cons_succ,DC.bb_b,DC.ii_i,DC.ss_s,DC.ll_sl,Out.bindR_ret,decide_true,if_true,Bool.false_eq_true,if_false,List.length_map,jd,je,Nat.zero_add,hlim,eq_self,and_self,ja,j9,QM k0 (by omega),List.map_append,jc,List.map_nil,hk,e1,e2,S1]
   ·show n.length + 0 ≤ 5
    omega
  ·left
   exact ⟨i1,h1,by simp only [pJ,List.getD_cons_zero,List.getD_cons_succ,DC.bb_b,DC.ii_i,DC.ss_s,DC.ll_sl,e1,Out.bindR_ret,hk,decide_false,Bool.false_eq_true,if_false],c1⟩)
theorem jbe {b:List (List DC)} {i:Int} (h:Int) (c:Cu b i) {a4:Int} {a5:Bool} {a6 a7:List UInt8} {a8:Bool} {a9:Int} {a10:Bool} {a11 a12:List UInt8} {a14:Bool} {a15:List (List DC)}:∃ (l:List (List UInt8)) (i' h':Int),jO pH [.i (0:Int),.sl b,.i i,.i h,.i a4,.b a5,.s a6,.s a7,.b a8,.i a9,.b a10,.s a11,.s a12,.sl [],.b a14,.sl a15] = .ex 5 [.sl b,.i i',.i h',.i a4,.b a5,.s a6,.s a7,.b a8,.i a9,.b a10,.s a11,.s a12,.sl (l.map S1),.b a14,.sl a15] ∧ DC.wt (.sl (l.map S1)) ≤ 2 * (5 + 1) ∧ Cu b i':=by
 exact zP (enc:=S1) (F:=pH) (j:=5) 5 2 (fun k i h its=>[.i k,.sl b,.i i,.i h,.i a4,.b a5,.s a6,.s a7,.b a8,.i a9,.b a10,.s a11,.s a12,.sl (its.map S1),.b a14,.sl a15]) (fun i h its=>[.sl b,.i i,.i h,.i a4,.b a5,.s a6,.s a7,.b a8,.i a9,.b a10,.s a11,.s a12,.sl (its.map S1),.b a14,.sl a15]) h c (fun k i h its c k0 kK hl=>by
  obtain ⟨x,i1,h1,e1,x1,x2,c1⟩:=jW h 3 (by decide) (by decide) c
  by_cases hk:k < x
  ·right
   have hlim:=JZ hl (by omega)
   obtain ⟨n,i2,h2,e2,hn,c2⟩:=qc h1 [[85,115,101,114],[80,111,115,116]] 5 (by decide) (by decide) (by decide) c1
   simp only [jc,List.map_nil,S1] at e2
   refine ⟨by omega,n,i2,h2,?_,?_,c2⟩
   ·simp only [pH,List.getD_cons_zero,List.getD_cons_succ,DC.bb_b,DC.ii_i,DC.ss_s,DC.ll_sl,Out.bindR_ret,decide_true,if_true,Bool.false_eq_true,if_false,List.length_map,jd,je,Nat.zero_add,hlim,eq_self,and_self,ja,j9,QM k0 (by omega),List.map_append,jc,List.map_nil,hk,e1,e2,S1]
   ·show n.length + 0 ≤ 5
    omega
  ·left
   exact ⟨i1,h1,by simp only [pH,List.getD_cons_zero,List.getD_cons_succ,DC.bb_b,DC.ii_i,DC.ss_s,DC.ll_sl,e1,Out.bindR_ret,hk,decide_false,Bool.false_eq_true,if_false],c1⟩)
theorem jbd {b:List (List DC)} {i:Int} (h:Int) (c:Cu b i) {a4:Int} {a5:Bool} {a6 a7:List UInt8} {a8:Bool} {a9:Int} {a10:Bool} {a11 a12:List UInt8} {a14:Bool} {a15:List (List DC)}:∃ (l:List (TEnumDef)) (i' h':Int),jO pG [.i (0:Int),.sl b,.i i,.i h,.i a4,.b a5,.s a6,.s a7,.b a8,.i a9,.b a10,.s a11,.s a12,.sl [],.b a14,.sl a15] = .ex 7 [.sl b,.i i',.i h',.i a4,.b a5,.s a6,.s a7,.b a8,.i a9,.b a10,.s a11,.s a12,.sl (l.map TEnumDef.enc),.b a14,.sl a15] ∧ DC.wt (.sl (l.map TEnumDef.enc)) ≤ 3 * (36 + 1) ∧ Cu b i':=by
 exact zP (enc:=TEnumDef.enc) (F:=pG) (j:=7) 36 3 (fun k i h its=>[.i k,.sl b,.i i,.i h,.i a4,.b a5,.s a6,.s a7,.b a8,.i a9,.b a10,.s a11,.s a12,.sl (its.map TEnumDef.enc),.b a14,.sl a15]) (fun i h its=>[.sl b,.i i,.i h,.i a4,.b a5,.s a6,.s a7,.b a8,.i a9,.b a10,.s a11,.s a12,.sl (its.map TEnumDef.enc),.b a14,.sl a15]) h c (fun k i h its c k0 kK hl=>by
  obtain ⟨x,i1,h1,e1,x1,x2,c1⟩:=jW h 4 (by decide) (by decide) c
  by_cases hk:k < x
  ·right
   have hlim:=JZ hl (by omega)
   obtain ⟨n,i2,h2,e2,hn,c2⟩:=qc h1 [[82,69,68],[66,76,85,69],[111,110]] 4 (by decide) (by decide) (by decide) c1
   simp only [jc,List.map_nil,S1] at e2
   obtain ⟨t,i3,h3,e3,ht,c3⟩:=j1c h2 c2
   refine ⟨by omega,⟨n,t,[]⟩,i3,h3,?_,?_,c3⟩
   ·simp only [pG,List.getD_cons_zero,List.getD_cons_succ,DC.bb_b,DC.ii_i,DC.ss_s,DC.ll_sl,Out.bindR_ret,decide_true,if_true,Bool.false_eq_true,if_false,List.length_map,jd,je,Nat.zero_add,hlim,eq_self,and_self,ja,j9,QM k0 (by omega),List.map_append,jc,List.map_nil,hk,e1,e2,e3,TEnumDef.enc_eq]
   ·rw [yH]
    show n.length + t.length + DC.wt (.sl (([]:List TDir).map TDir.enc)) ≤ 36
    rw [KW]
    omega
  ·left
   exact ⟨i1,h1,by simp only [pG,List.getD_cons_zero,List.getD_cons_succ,DC.bb_b,DC.ii_i,DC.ss_s,DC.ll_sl,e1,Out.bindR_ret,hk,decide_false,Bool.false_eq_true,if_false],c1⟩)
theorem j9n {b:List (List DC)} {i:Int} (h:Int) (c:Cu b i) {a4:Int} {a5:Bool} {a6 a7:List UInt8} {a8:Bool} {a9:Int} {a10:Bool} {a11 a12:List UInt8} {a13:List (List DC)} {a14:Bool} {a15:List (List DC)}:∃ (l:List (TFieldDef)) (i' h':Int),jO pI [.i (0:Int),.sl b,.i i,.i h,.i a4,.b a5,.s a6,.s a7,.b a8,.i a9,.b a10,.s a11,.s a12,.sl a13,.sl [],.b a14,.sl a15] = .ex 3 [.sl b,.i i',.i h',.i a4,.b a5,.s a6,.s a7,.b a8,.i a9,.b a10,.s a11,.s a12,.sl a13,.sl (l.map TFieldDef.enc),.b a14,.sl a15] ∧ DC.wt (.sl (l.map TFieldDef.enc)) ≤ 3 * (7090 + 1) ∧ Cu b i':=by
 exact zP (enc:=TFieldDef.enc) (F:=pI) (j:=3) 7090 3 (fun k i h its=>[.i k,.sl b,.i i,.i h,.i a4,.b a5,.s a6,.s a7,.b a8,.i a9,.b a10,.s a11,.s a12,.sl a13,.sl (its.map TFieldDef.enc),.b a14,.sl a15]) (fun i h its=>[.sl b,.i i,.i h,.i a4,.b a5,.s a6,.s a7,.b a8,.i a9,.b a10,.s a11,.s a12,.sl a13,.sl (its.map TFieldDef.enc),.b a14,.sl a15]) h c (fun k i h its c k0 kK hl=>by
  obtain ⟨x,i1,h1,e1,x1,x2,c1⟩:=jW h 4 (by decide) (by decide) c
  by_cases hk:k < x
  ·right
   have hlim:=JZ hl (by omega)
   obtain ⟨n,i2,h2,e2,hn,c2⟩:=j1b h1 c1
   obtain ⟨t,i3,h3,e3,ht,c3⟩:=j1c h2 c2
   obtain ⟨as',i4,h4,e4,ha,c4⟩:=j5J h3 c3
   obtain ⟨tn,tw,i5,h5,e5,htn,htw,c5⟩:=j6j h4 c4
   refine ⟨by omega,⟨n,t,as',⟨tn,tw⟩,[]⟩,i5,h5,?_,?_,c5⟩
   ·simp only [pI,List.getD_cons_zero,List.getD_cons_succ,DC.bb_b,DC.ii_i,DC.ss_s,DC.ll_sl,Out.bindR_ret,decide_true,if_true,Bool.false_eq_true,if_false,List.length_map,jd,je,Nat.zero_add,hlim,eq_self,and_self,ja,j9,QM k0 (by omega),List.map_append,jc,List.map_nil,hk,e1,e2,e3,e4,e5,TFieldDef.enc_eq]
   ·rw [zz]
    show n.length + t.length + DC.wt (.sl (as'.map TInDef.enc)) + kw (TType.enc ⟨tn,tw⟩) + DC.wt (.sl (([]:List TDir).map TDir.enc)) ≤ 7090
    rw [KW,Kr]
    simp only []
    omega
  ·left
   exact ⟨i1,h1,by simp only [pI,List.getD_cons_zero,List.getD_cons_succ,DC.bb_b,DC.ii_i,DC.ss_s,DC.ll_sl,e1,Out.bindR_ret,hk,decide_false,Bool.false_eq_true,if_false],c1⟩)
def Dk (n:Nat) (d:TDef):Prop:=d.desc.length ≤ 32 ∧ d.name.length ≤ 5 + n ∧ DC.wt (.sl (d.faces.map S1)) ≤ 30 + n ∧ DC.wt (.sl (d.fields.map TFieldDef.enc)) ≤ 22000 ∧ DC.wt (.sl (d.inputs.map TInDef.enc)) ≤ 7042 ∧ DC.wt (.sl (d.values.map TEnumDef.enc)) ≤ 120 + n ∧ DC.wt (.sl (d.roots.map TRoot.enc)) ≤ 12 + n ∧ DC.wt (.sl (d.dirs.map TDir.enc)) ≤ 3226 + n
def sD (b:List (List DC)) (d:TDef) (i h:Int):List DC:=[.sl b,.i i,.i h,.i 0,.b false,.s [],.s [],.b false,.i d.kind,.b d.ext,.s d.desc,.s d.name,.sl (d.faces.map S1),.sl (d.fields.map TFieldDef.enc),.sl (d.inputs.map TInDef.enc),.sl (d.values.map TEnumDef.enc),.sl (d.roots.map TRoot.enc),.b d.repeat',.sl (d.dirs.map TDir.enc)]
theorem j92 {b:List (List DC)} {i:Int} (h:Int) (c:Cu b i):∃ (d:TDef) (i' h':Int),Jn [.sl b,.i i,.i h] = .ret [.i d.kind,.b d.ext,.s d.desc,.s d.name,.sl (d.faces.map S1),.sl (d.fields.map TFieldDef.enc),.sl (d.inputs.map TInDef.enc),.sl (d.values.map TEnumDef.enc),.sl (d.roots.map TRoot.enc),.b d.repeat',.sl (d.dirs.map TDir.enc),.sl b,.i i',.i h'] ∧ Dk 0 d ∧ Cu b i':=by
 obtain ⟨x,i1,h1,e1,x1,x2,c1⟩:=jW h 8 (by decide) (by decide) c
 obtain ⟨nm,i2,h2,e2,l2,c2⟩:=qc h1 [[85,115,101,114],[80,111,115,116],[78,111,100,101],[67,111,108,111,114],[70,105,110,100],[65,110,121],[68,97,116,101]] 5 (by decide) (by decide) (by decide) c1
 simp only [jc,List.map_nil,S1] at e2
 obtain ⟨ds,i3,h3,e3,l3,c3⟩:=j1c h2 c2
 obtain ⟨di,i4,h4,e4,l4,c4⟩:=j3W h3 false c3
 obtain ⟨k,hk⟩:∃ k,IntKind.i64.wrap ((1:Int) + x)=k:=⟨_,rfl⟩
 have hk':k=1 + x:=by rw [← hk,IntKind.wrap_i64]; omega
 have n1:=@KW (List UInt8) S1
 have n2:=@KW TFieldDef TFieldDef.enc
 have n3:=@KW TInDef TInDef.enc
 have n4:=@KW TEnumDef TEnumDef.enc
 have n5:=@KW TRoot TRoot.enc
 have n6:=@KW TDir TDir.enc
 rw [j0i]
 simp only [Vc,List.getD_cons_zero,List.getD_cons_succ,DC.bb_b,DC.ii_i,DC.ss_s,DC.ll_sl,e1,e2,e3,e4,Out.bindR_ret,hk]
 refine j2z (P:=fun o=>∃ (d:TDef) (i' h':Int),o = .ret [.i d.kind,.b d.ext,.s d.desc,.s d.name,.sl (d.faces.map S1),.sl (d.fields.map TFieldDef.enc),.sl (d.inputs.map TInDef.enc),.sl (d.values.map TEnumDef.enc),.sl (d.roots.map TRoot.enc),.b d.repeat',.sl (d.dirs.map TDir.enc),.sl b,.i i',.i h'] ∧ Dk 0 d ∧ Cu b i') (σ:=TDef × Int × Int) (Q:=fun s=>Dk 0 s.1 ∧ Cu b s.2.1) (fun s=>sD b s.1 s.2.1 s.2.2) ?_ ?_
 ·have hk8:k=1 ∨ k=2 ∨ k=3 ∨ k=4 ∨ k=5 ∨ k=6 ∨ k=7 ∨ k=8:=by omega
  clear hk' hk x1 x2 e1 e2 e3 e4
  rcases hk8 with rfl | rfl | rfl | rfl | rfl | rfl | rfl | rfl
  ·simp only [Int.reduceBEq,Bool.false_eq_true,if_false,if_true,ja,j9,Out.bindR_ret,List.getD_cons_zero,List.getD_cons_succ,DC.bb_b,DC.ii_i,DC.ss_s,DC.ll_sl]
   exact ⟨(⟨1,false,ds,nm,[],[],[],[],[],false,di⟩,i4,h4),rfl,⟨by simp only []; omega,by simp only []; omega,by simp only []; omega,by simp only []; omega,by simp only []; omega,by simp only []; omega,by simp only []; omega,by simp only []; omega⟩,c4⟩
  ·obtain ⟨fc,i5,h5,e5,l5,c5⟩:=j9o (b:=b) (i:=i4) h4 c4 (a4:=0) (a5:=false) (a6:=[]) (a7:=[]) (a8:=false) (a9:=2) (a10:=false) (a11:=ds) (a12:=nm) (a14:=false) (a15:=di.map TDir.enc)
   obtain ⟨fd,i6,h6,e6,l6,c6⟩:=j9n (b:=b) (i:=i5) h5 c5 (a4:=0) (a5:=false) (a6:=[]) (a7:=[]) (a8:=false) (a9:=2) (a10:=false) (a11:=ds) (a12:=nm) (a13:=fc.map S1) (a14:=false) (a15:=di.map TDir.enc)
   simp only [Int.reduceBEq,Bool.false_eq_true,if_false,if_true,ja,j9,Out.bindR_ret,List.getD_cons_zero,List.getD_cons_succ,DC.bb_b,DC.ii_i,DC.ss_s,DC.ll_sl,e5,e6]
   exact ⟨(⟨2,false,ds,nm,fc,fd,[],[],[],false,di⟩,i6,h6),rfl,⟨by simp only []; omega,by simp only []; omega,by simp only []; omega,by simp only []; omega,by simp only []; omega,by simp only []; omega,by simp only []; omega,by simp only []; omega⟩,c6⟩
  ·obtain ⟨fc,i5,h5,e5,l5,c5⟩:=j9o (b:=b) (i:=i4) h4 c4 (a4:=0) (a5:=false) (a6:=[]) (a7:=[]) (a8:=false) (a9:=3) (a10:=false) (a11:=ds) (a12:=nm) (a14:=false) (a15:=di.map TDir.enc)
   obtain ⟨fd,i6,h6,e6,l6,c6⟩:=j9n (b:=b) (i:=i5) h5 c5 (a4:=0) (a5:=false) (a6:=[]) (a7:=[]) (a8:=false) (a9:=3) (a10:=false) (a11:=ds) (a12:=nm) (a13:=fc.map S1) (a14:=false) (a15:=di.map TDir.enc)
   simp only [Int.reduceBEq,Bool.false_eq_true,if_false,if_true,ja,j9,Out.bindR_ret,List.getD_cons_zero,List.getD_cons_succ,DC.bb_b,DC.ii_i,DC.ss_s,DC.ll_sl,e5,e6]
   exact ⟨(⟨3,false,ds,nm,fc,fd,[],[],[],false,di⟩,i6,h6),rfl,⟨by simp only []; omega,by simp only []; omega,by simp only []; omega,by simp only []; omega,by simp only []; omega,by simp only []; omega,by simp only []; omega,by simp only []; omega⟩,c6⟩
  ·obtain ⟨fc,i5,h5,e5,l5,c5⟩:=jbe (b:=b) (i:=i4) h4 c4 (a4:=0) (a5:=false) (a6:=[]) (a7:=[]) (a8:=false) (a9:=4) (a10:=false) (a11:=ds) (a12:=nm) (a14:=false) (a15:=di.map TDir.enc)
   simp only [Int.reduceBEq,Bool.false_eq_true,if_false,if_true,ja,j9,Out.bindR_ret,List.getD_cons_zero,List.getD_cons_succ,DC.bb_b,DC.ii_i,DC.ss_s,DC.ll_sl,e5]
   exact ⟨(⟨4,false,ds,nm,fc,[],[],[],[],false,di⟩,i5,h5),rfl,⟨by simp only []; omega,by simp only []; omega,by simp only []; omega,by simp only []; omega,by simp only []; omega,by simp only []; omega,by simp only []; omega,by simp only []; omega⟩,c5⟩
  ·obtain ⟨fc,i5,h5,e5,l5,c5⟩:=jbd (b:=b) (i:=i4) h4 c4 (a4:=0) (a5:=false) (a6:=[]) (a7:=[]) (a8:=false) (a9:=5) (a10:=false) (a11:=ds) (a12:=nm) (a14:=false) (a15:=di.map TDir.enc)
   simp only [Int.reduceBEq,Bool.false_eq_true,if_false,if_true,ja,j9,Out.bindR_ret,List.getD_cons_zero,List.getD_cons_succ,DC.bb_b,DC.ii_i,DC.ss_s,DC.ll_sl,e5]
   exact ⟨(⟨5,false,ds,nm,[],[],[],fc,[],false,di⟩,i5,h5),rfl,⟨by simp only []; omega,by simp only []; omega,by simp only []; omega,by simp only []; omega,by simp only []; omega,by simp only []; omega,by simp only []; omega,by simp only []; omega⟩,c5⟩
  ·obtain ⟨fc,i5,h5,e5,l5,c5⟩:=j5J h4 c4
   simp only [Int.reduceBEq,Bool.false_eq_true,if_false,if_true,ja,j9,Out.bindR_ret,List.getD_cons_zero,List.getD_cons_succ,DC.bb_b,DC.ii_i,DC.ss_s,DC.ll_sl,e5]
   exact ⟨(⟨6,false,ds,nm,[],[],fc,[],[],false,di⟩,i5,h5),rfl,⟨by simp only []; omega,by simp only []; omega,by simp only []; omega,by simp only []; omega,by simp only []; omega,by simp only []; omega,by simp only []; omega,by simp only []; omega⟩,c5⟩
  ·obtain ⟨fc,i5,h5,e5,l5,c5⟩:=j5J h4 c4
   obtain ⟨o,i6,h6,e6,c6⟩:=VX h5 2 (by decide) (by decide) c5
   obtain ⟨p,i7,h7,e7,l7,c7⟩:=qc h6 [[70,73,69,76,68],[81,85,69,82,89],[79,66,74,69,67,84]] 6 (by decide) (by decide) (by decide) c6
   simp only [jc,List.map_nil,S1] at e7
   have wp:DC.wt (.sl ([p,[69,78,85,77]].map S1)) ≤ 30:=by
    simp only [DC.wt,wtV,kw,S1,jc,List.map_nil,jd,je]
    omega
   simp only [Int.reduceBEq,Bool.false_eq_true,if_false,if_true,ja,j9,Out.bindR_ret,List.getD_cons_zero,List.getD_cons_succ,DC.bb_b,DC.ii_i,DC.ss_s,DC.ll_sl,e5,e6,e7]
   exact ⟨(⟨7,false,ds,nm,[p,[69,78,85,77]],[],fc,[],[],o,[]⟩,i7,h7),rfl,⟨by simp only []; omega,by simp only []; omega,by simp only []; omega,by simp only []; omega,by simp only []; omega,by simp only []; omega,by simp only []; omega,by simp only []; omega⟩,c7⟩
  ·obtain ⟨y,i5,h5,e5,y1,y2,c5⟩:=jW h4 3 (by decide) (by decide) c4
   have wp:DC.wt (.sl ([(⟨1,[85,115,101,114]⟩:TRoot),⟨IntKind.i64.wrap (1 + y),[80,111,115,116]⟩].map TRoot.enc)) ≤ 12:=by
    simp only [DC.wt,wtV,kw,TRoot.enc_eq,jc,List.map_nil,jd,je]
    omega
   simp only [Int.reduceBEq,Bool.false_eq_true,if_false,if_true,ja,j9,Out.bindR_ret,List.getD_cons_zero,List.getD_cons_succ,DC.bb_b,DC.ii_i,DC.ss_s,DC.ll_sl,e5]
   exact ⟨(⟨8,false,ds,[],[],[],[],[],[⟨1,[85,115,101,114]⟩,⟨IntKind.i64.wrap (1 + y),[80,111,115,116]⟩],false,di⟩,i5,h5),rfl,⟨by simp only []; omega,by simp only [je]; omega,by simp only []; omega,by simp only []; omega,by simp only []; omega,by simp only []; omega,by simp only []; omega,by simp only []; omega⟩,c5⟩
 ·rintro ⟨d,i5,h5⟩ ⟨hd,c5⟩
  have c5:Cu b i5:=c5
  have hd:Dk 0 d:=hd
  obtain ⟨y,hy⟩:∃ y,Kl [.i d.kind,.b d.ext,.s d.desc,.s d.name,.sl (d.faces.map S1),.sl (d.fields.map TFieldDef.enc),.sl (d.inputs.map TInDef.enc),.sl (d.values.map TEnumDef.enc),.sl (d.roots.map TRoot.enc),.b d.repeat',.sl (d.dirs.map TDir.enc)] = .ret [.b y]:=⟨_,by rw [j1S]; rfl⟩
  simp only [sD,List.getD_cons_zero,List.getD_cons_succ,DC.bb_b,DC.ii_i,DC.ss_s,DC.ll_sl]
  cases hq:(d.kind != 7) with
  | false =>
   simp only [Bool.false_eq_true,if_false,ja,List.getD_cons_zero,List.getD_cons_succ,DC.bb_b,DC.ii_i,DC.ss_s,DC.ll_sl]
   exact ⟨d,i5,h5,rfl,hd,c5⟩
  | true =>
   simp only [if_true,hy,Out.bindR_ret,List.getD_cons_zero,List.getD_cons_succ,DC.bb_b,DC.ii_i,DC.ss_s,DC.ll_sl]
   cases y with
   | false =>
    simp only [Bool.false_eq_true,if_false,ja,List.getD_cons_zero,List.getD_cons_succ,DC.bb_b,DC.ii_i,DC.ss_s,DC.ll_sl]
    exact ⟨d,i5,h5,rfl,hd,c5⟩
   | true =>
    obtain ⟨o,i6,h6,e6,c6⟩:=VX h5 4 (by decide) (by decide) c5
    cases o with
    | false =>
     simp only [if_true,Bool.false_eq_true,if_false,ja,e6,Out.bindR_ret,List.getD_cons_zero,List.getD_cons_succ,DC.bb_b,DC.ii_i,DC.ss_s,DC.ll_sl]
     exact ⟨d,i6,h6,rfl,hd,c6⟩
    | true =>
     simp only [if_true,ja,e6,Out.bindR_ret,List.getD_cons_zero,List.getD_cons_succ,DC.bb_b,DC.ii_i,DC.ss_s,DC.ll_sl]
     exact ⟨{ d with ext:=true,desc:=[] },i6,h6,rfl,⟨by simp,hd.2⟩,c6⟩
theorem j95 {b:List (List DC)} {i:Int} (h:Int) (c:Cu b i):∃ (d:TDef) (i' h':Int),Km [.sl b,.i i,.i h] = .ret [.i d.kind,.b d.ext,.s d.desc,.s d.name,.sl (d.faces.map S1),.sl (d.fields.map TFieldDef.enc),.sl (d.inputs.map TInDef.enc),.sl (d.values.map TEnumDef.enc),.sl (d.roots.map TRoot.enc),.b d.repeat',.sl (d.dirs.map TDir.enc),.sl b,.i i',.i h'] ∧ Dk 50 d ∧ Cu b i':=by
 obtain ⟨d,i1,h1,e1,⟨d1,d2,d3,d4,d5,d6,d7,d8⟩,c1⟩:=j92 h c
 obtain ⟨x,i2,h2,e2,x1,x2,c2⟩:=jW h1 12 (by decide) (by decide) c1
 rw [j1T]
 simp only [Xp,List.getD_cons_zero,List.getD_cons_succ,DC.bb_b,DC.ii_i,DC.ss_s,DC.ll_sl,e1,e2,Out.bindR_ret]
 refine j2z (P:=fun o=>∃ (d:TDef) (i' h':Int),o = .ret [.i d.kind,.b d.ext,.s d.desc,.s d.name,.sl (d.faces.map S1),.sl (d.fields.map TFieldDef.enc),.sl (d.inputs.map TInDef.enc),.sl (d.values.map TEnumDef.enc),.sl (d.roots.map TRoot.enc),.b d.repeat',.sl (d.dirs.map TDir.enc),.sl b,.i i',.i h'] ∧ Dk 50 d ∧ Cu b i') (σ:=TDef × Int × Int) (Q:=fun s=>Dk 50 s.1 ∧ Cu b s.2.1) (fun s=>sD b s.1 s.2.1 s.2.2) ?_ ?_
 ·have hx:x=0 ∨ x=1 ∨ x=2 ∨ x=3 ∨ x=4 ∨ x=5 ∨ x=6 ∨ x=7 ∨ x=8 ∨ x=9 ∨ x=10 ∨ x=11:=by omega
  clear x1 x2 e1 e2
  rcases hx with rfl | rfl | rfl | rfl | rfl | rfl | rfl | rfl | rfl | rfl | rfl | rfl
  ·obtain ⟨y,i3,h3,e3,y1,y2,c3⟩:=jW h2 10 (by decide) (by decide) c2
   simp only [Int.reduceBEq,Bool.false_eq_true,if_false,if_true,ja,j9,Out.bindR_ret,List.length_map,jd,je,Nat.zero_add,eq_self,and_self,List.getD_cons_zero,List.getD_cons_succ,DC.bb_b,DC.ii_i,DC.ss_s,DC.ll_sl,e3]
   exact ⟨({ d with kind:=y },i3,h3),rfl,⟨by first | assumption | (simp only []; omega),by first | omega | (simp only []; omega),by first | omega | (simp only []; omega),by first | assumption | (simp only []; omega),by first | assumption | (simp only []; omega),by first | omega | (simp only []; omega),by first | omega | (simp only []; omega),by first | omega | (simp only []; omega)⟩,c3⟩
  ·obtain ⟨y,i3,h3,e3,ly,c3⟩:=j6l h2 c2
   simp only [Int.reduceBEq,Bool.false_eq_true,if_false,if_true,ja,j9,Out.bindR_ret,List.length_map,jd,je,Nat.zero_add,eq_self,and_self,List.getD_cons_zero,List.getD_cons_succ,DC.bb_b,DC.ii_i,DC.ss_s,DC.ll_sl,e3]
   exact ⟨({ d with name:=y },i3,h3),rfl,⟨by first | assumption | (simp only []; omega),by first | omega | (simp only []; omega),by first | omega | (simp only []; omega),by first | assumption | (simp only []; omega),by first | assumption | (simp only []; omega),by first | omega | (simp only []; omega),by first | omega | (simp only []; omega),by first | omega | (simp only []; omega)⟩,c3⟩
  ·simp only [Int.reduceBEq,Bool.false_eq_true,if_false,if_true,ja,j9,Out.bindR_ret,List.length_map,jd,je,Nat.zero_add,eq_self,and_self,List.getD_cons_zero,List.getD_cons_succ,DC.bb_b,DC.ii_i,DC.ss_s,DC.ll_sl]
   exact ⟨({ d with ext:=!d.ext },i2,h2),rfl,⟨by first | assumption | (simp only []; omega),by first | omega | (simp only []; omega),by first | omega | (simp only []; omega),by first | assumption | (simp only []; omega),by first | assumption | (simp only []; omega),by first | omega | (simp only []; omega),by first | omega | (simp only []; omega),by first | omega | (simp only []; omega)⟩,c2⟩
  ·obtain ⟨y,i3,h3,e3,ly,c3⟩:=qc h2 [[116,114,117,101],[65],[]] 4 (by decide) (by decide) (by decide) c2
   simp only [jc,List.map_nil,S1] at e3
   have hlim:=j3r d6 (by decide)
   have hw:=j10 (enc:=TEnumDef.enc) d.values ⟨y,[],[]⟩
   rw [yH,KW] at hw
   simp only [je] at hw
   have hm:d.values.map TEnumDef.enc ++ [[.s y,.s [],.sl []]]=(d.values ++ [(⟨y,[],[]⟩:TEnumDef)]).map TEnumDef.enc:=by simp only [List.map_append,jc,List.map_nil,TEnumDef.enc_eq]
   simp only [Int.reduceBEq,Bool.false_eq_true,if_false,if_true,ja,j9,Out.bindR_ret,List.length_map,jd,je,Nat.zero_add,eq_self,and_self,List.getD_cons_zero,List.getD_cons_succ,DC.bb_b,DC.ii_i,DC.ss_s,DC.ll_sl,e3,hlim,hm]
   exact ⟨({ d with values:=d.values ++ [⟨y,[],[]⟩] },i3,h3),rfl,⟨by first | assumption | (simp only []; omega),by first | omega | (simp only []; omega),by first | omega | (simp only []; omega),by first | assumption | (simp only []; omega),by first | assumption | (simp only []; omega),by first | omega | (simp only []; omega),by first | omega | (simp only []; omega),by first | omega | (simp only []; omega)⟩,c3⟩
  ·obtain ⟨y,i3,h3,e3,y1,y2,c3⟩:=jW h2 5 (by decide) (by decide) c2
   have hlim:=j3r d7 (by decide)
   have hw:=j10 (enc:=TRoot.enc) d.roots ⟨y,[88]⟩
   rw [j6r] at hw
   simp only [jd,je] at hw
   have hm:d.roots.map TRoot.enc ++ [[.i y,.s [88]]]=(d.roots ++ [(⟨y,[88]⟩:TRoot)]).map TRoot.enc:=by simp only [List.map_append,jc,List.map_nil,TRoot.enc_eq]
   simp only [Int.reduceBEq,Bool.false_eq_true,if_false,if_true,ja,j9,Out.bindR_ret,List.length_map,jd,je,Nat.zero_add,eq_self,and_self,List.getD_cons_zero,List.getD_cons_succ,DC.bb_b,DC.ii_i,DC.ss_s,DC.ll_sl,e3,hlim,hm]
   exact ⟨({ d with roots:=d.roots ++ [⟨y,[88]⟩] },i3,h3),rfl,⟨by first | assumption | (simp only []; omega),by first | omega | (simp only []; omega),by first | omega | (simp only []; omega),by first | assumption | (simp only []; omega),by first | assumption | (simp only []; omega),by first | omega | (simp only []; omega),by first | omega | (simp only []; omega),by first | omega | (simp only []; omega)⟩,c3⟩
  ·obtain ⟨y,i3,h3,e3,ly,c3⟩:=j6l h2 c2
   have hlim:=j3r d3 (by decide)
   have hw:=j10 (enc:=S1) d.faces y
   have hy:kw (S1 y)=y.length:=rfl
   rw [hy] at hw
   have hm:d.faces.map S1 ++ [[.s y]]=(d.faces ++ [y]).map S1:=by simp only [List.map_append,jc,List.map_nil,S1]
   simp only [Int.reduceBEq,Bool.false_eq_true,if_false,if_true,ja,j9,Out.bindR_ret,List.length_map,jd,je,Nat.zero_add,eq_self,and_self,List.getD_cons_zero,List.getD_cons_succ,DC.bb_b,DC.ii_i,DC.ss_s,DC.ll_sl,e3,hlim,hm]
   exact ⟨({ d with faces:=d.faces ++ [y] },i3,h3),rfl,⟨by first | assumption | (simp only []; omega),by first | omega | (simp only []; omega),by first | omega | (simp only []; omega),by first | assumption | (simp only []; omega),by first | assumption | (simp only []; omega),by first | omega | (simp only []; omega),by first | omega | (simp only []; omega),by first | omega | (simp only []; omega)⟩,c3⟩
  ·have hlim:=j3r d8 (by decide)
   have hw:=j10 (enc:=TDir.enc) d.dirs ⟨[118],[⟨[97],⟨1,[120],[],[]⟩⟩]⟩
   have hy:kw (TDir.enc ⟨[118],[⟨[97],⟨1,[120],[],[]⟩⟩]⟩)=4:=by
    rw [QK]
    simp only [jc,List.map_nil,DC.wt,wtV,QL,qC,jd,je]
   rw [hy] at hw
   have hm:d.dirs.map TDir.enc ++ [[.s [118],.sl [[.s [97],.i 1,.s [120],.sl [],.sl []]]]]=(d.dirs ++ [(⟨[118],[⟨[97],⟨1,[120],[],[]⟩⟩]⟩:TDir)]).map TDir.enc:=by simp only [List.map_append,jc,List.map_nil,TDir.enc_eq,TArg.enc_eq]
   simp only [Int.reduceBEq,Bool.false_eq_true,if_false,if_true,ja,j9,Out.bindR_ret,List.length_map,jd,je,Nat.zero_add,eq_self,and_self,List.getD_cons_zero,List.getD_cons_succ,DC.bb_b,DC.ii_i,DC.ss_s,DC.ll_sl,hlim,hm]
   exact ⟨({ d with dirs:=d.dirs ++ [⟨[118],[⟨[97],⟨1,[120],[],[]⟩⟩]⟩] },i2,h2),rfl,⟨by first | assumption | (simp only []; omega),by first | omega | (simp only []; omega),by first | omega | (simp only []; omega),by first | assumption | (simp only []; omega),by first | assumption | (simp only []; omega),by first | omega | (simp only []; omega),by first | omega | (simp only []; omega),by first | omega | (simp only []; omega)⟩,c2⟩
  ·simp only [Int.reduceBEq,Bool.false_eq_true,if_false,if_true,ja,j9,Out.bindR_ret,List.length_map,jd,je,Nat.zero_add,eq_self,and_self,List.getD_cons_zero,List.getD_cons_succ,DC.bb_b,DC.ii_i,DC.ss_s,DC.ll_sl]
   exact ⟨(d,i2,h2),rfl,⟨by first | assumption | (simp only []; omega),by first | omega | (simp only []; omega),by first | omega | (simp only []; omega),by first | assumption | (simp only []; omega),by first | assumption | (simp only []; omega),by first | omega | (simp only []; omega),by first | omega | (simp only []; omega),by first | omega | (simp only []; omega)⟩,c2⟩
  ·simp only [Int.reduceBEq,Bool.false_eq_true,if_false,if_true,ja,j9,Out.bindR_ret,List.length_map,jd,je,Nat.zero_add,eq_self,and_self,List.getD_cons_zero,List.getD_cons_succ,DC.bb_b,DC.ii_i,DC.ss_s,DC.ll_sl]
   exact ⟨(d,i2,h2),rfl,⟨by first | assumption | (simp only []; omega),by first | omega | (simp only []; omega),by first | omega | (simp only []; omega),by first | assumption | (simp only []; omega),by first | assumption | (simp only []; omega),by first | omega | (simp only []; omega),by first | omega | (simp only []; omega),by first | omega | (simp only []; omega)⟩,c2⟩
  ·simp only [Int.reduceBEq,Bool.false_eq_true,if_false,if_true,ja,j9,Out.bindR_ret,List.length_map,jd,je,Nat.zero_add,eq_self,and_self,List.getD_cons_zero,List.getD_cons_succ,DC.bb_b,DC.ii_i,DC.ss_s,DC.ll_sl]
   exact ⟨(d,i2,h2),rfl,⟨by first | assumption | (simp only []; omega),by first | omega | (simp only []; omega),by first | omega | (simp only []; omega),by first | assumption | (simp only []; omega),by first | assumption | (simp only []; omega),by first | omega | (simp only []; omega),by first | omega | (simp only []; omega),by first | omega | (simp only []; omega)⟩,c2⟩
  ·simp only [Int.reduceBEq,Bool.false_eq_true,if_false,if_true,ja,j9,Out.bindR_ret,List.length_map,jd,je,Nat.zero_add,eq_self,and_self,List.getD_cons_zero,List.getD_cons_succ,DC.bb_b,DC.ii_i,DC.ss_s,DC.ll_sl]
   exact ⟨(d,i2,h2),rfl,⟨by first | assumption | (simp only []; omega),by first | omega | (simp only []; omega),by first | omega | (simp only []; omega),by first | assumption | (simp only []; omega),by first | assumption | (simp only []; omega),by first | omega | (simp only []; omega),by first | omega | (simp only []; omega),by first | omega | (simp only []; omega)⟩,c2⟩
  ·simp only [Int.reduceBEq,Bool.false_eq_true,if_false,if_true,ja,j9,Out.bindR_ret,List.length_map,jd,je,Nat.zero_add,eq_self,and_self,List.getD_cons_zero,List.getD_cons_succ,DC.bb_b,DC.ii_i,DC.ss_s,DC.ll_sl]
   exact ⟨(d,i2,h2),rfl,⟨by first | assumption | (simp only []; omega),by first | omega | (simp only []; omega),by first | omega | (simp only []; omega),by first | assumption | (simp only []; omega),by first | assumption | (simp only []; omega),by first | omega | (simp only []; omega),by first | omega | (simp only []; omega),by first | omega | (simp only []; omega)⟩,c2⟩
 ·rintro ⟨d,i5,h5⟩ ⟨hd,c5⟩
  simp only [sD,List.getD_cons_zero,List.getD_cons_succ,DC.bb_b,DC.ii_i,DC.ss_s,DC.ll_sl]
  exact ⟨d,i5,h5,rfl,hd,c5⟩
theorem jbm {n:Nat} {d:TDef} (h:Dk n d):kw (TDef.enc d) ≤ 33000 + 6 * n:=by
 obtain ⟨d1,d2,d3,d4,d5,d6,d7,d8⟩:=h
 rw [yI]
 omega
theorem j90 {b:List (List DC)} {i:Int} (h:Int) (c:Cu b i):∃ (l:List TDef) (i' h':Int),Jm [.sl b,.i i,.i h] = .ret [.sl (l.map TDef.enc),.sl b,.i i',.i h'] ∧ DC.wt (.sl (l.map TDef.enc)) ≤ 166505 ∧ Cu b i':=by
 obtain ⟨l,i',h',e,w,c'⟩:=zP (enc:=TDef.enc) (F:=qV) (j:=0) 33300 5 (fun k i h its=>[.sl (its.map TDef.enc),.i k,.sl b,.i i,.i h]) (fun i h its=>[.sl (its.map TDef.enc),.sl b,.i i,.i h]) h c (fun k i h its c k0 kK hl=>by
  obtain ⟨x,i1,h1,e1,x1,x2,c1⟩:=jW h 6 (by decide) (by decide) c
  by_cases hk:k < x
  ·right
   obtain ⟨d,i2,h2,e2,hd,c2⟩:=j95 h1 c1
   have hlim:=JZ hl (by omega)
   refine ⟨by omega,d,i2,h2,?_,jbm hd,c2⟩
   simp only [qV,List.getD_cons_zero,List.getD_cons_succ,DC.bb_b,DC.ii_i,DC.ss_s,DC.ll_sl,e1,e2,Out.bindR_ret,hk,decide_true,if_true,List.length_map,jd,je,Nat.zero_add,hlim,eq_self,and_self,j9,QM k0 (by omega),List.map_append,jc,List.map_nil,TDef.enc_eq d]
  ·left
   exact ⟨i1,h1,by simp only [qV,List.getD_cons_zero,List.getD_cons_succ,DC.bb_b,DC.ii_i,DC.ss_s,DC.ll_sl,e1,Out.bindR_ret,hk,decide_false,Bool.false_eq_true,if_false],c1⟩)
 simp only [List.map_nil] at e
 rw [j0h]
 simp only [Vb,List.getD_cons_zero,List.getD_cons_succ,DC.bb_b,DC.ii_i,DC.ss_s,DC.ll_sl,e,j9,if_true]
 exact ⟨l,i',h',rfl,w,c'⟩
theorem j91 (b:List (List DC)) (hb:b.length ≤ 1048576):∃ (l:List TDef),yl [.sl b] = .ret [.sl (l.map TDef.enc)] ∧ DC.wt (.sl (l.map TDef.enc)) ≤ 166505:=by
 obtain ⟨h0,e0⟩:=j8j b hb
 obtain ⟨l,i1,h1,e1,w,c1⟩:=j90 (b:=b) (i:=0) h0 ⟨hb,by omega,by omega⟩
 have hL:0 < jN:=by decide
 rw [Zt]
 simp only [Qp,List.getD_cons_zero,List.getD_cons_succ,DC.bb_b,DC.ii_i,DC.ss_s,DC.ll_sl,e0,bsz,hL,if_true,X0,e1,Out.bindR_ret]
 exact ⟨l,rfl,w⟩
def j5K:List (List UInt8) → List UInt8
 | []=>[]
 | x :: l=>x ++ [10] ++ j5K l
theorem j9G (l:List (List UInt8)) {b2:List UInt8} {cb:List (List DC)} {ci ch:Int} (hl:l.length ≤ 100) (hx:∀ x ∈ l,x.length ≤ 1000):∀ (m k:Nat) (a:List UInt8),l.length - k ≤ m → k ≤ l.length → a.length ≤ 2000 * k →
  jO kp [.sl (l.map S1),.s a,.s b2,.i (k:Int),.sl cb,.i ci,.i ch] = .ex 0 [.sl (l.map S1),.s (a ++ j5K (l.drop k)),.s b2,.sl cb,.i ci,.i ch]:=by
 intro m
 induction m with
 | zero =>
  intro k a hm hk ha
  have hk':¬ ((k:Int) < (l.length:Int)):=by omega
  rw [List.drop_of_length_le (by omega),j5K,List.append_nil]
  exact kD (by simp only [kp,List.getD_cons_zero,List.getD_cons_succ,DC.bb_b,DC.ii_i,DC.ss_s,DC.ll_sl,List.length_map,hk',decide_false,Bool.false_eq_true,if_false])
 | succ m ih =>
  intro k a hm hk ha
  by_cases hkl:k < l.length
  ·have hk1:(k:Int) < (l.length:Int):=by omega
   have hx1:=hx _ (jo hkl)
   have hw:IntKind.i64.wrap ((k:Int) + 1)=((k + 1:Nat):Int):=by rw [IntKind.wrap_i64]; omega
   have q1:a.length + (l[k]'hkl).length < jN:=by unfold jN; omega
   have q2:(a ++ (l[k]'hkl)).length + 1 < jN:=by rw [js]; unfold jN; omega
   rw [List.drop_eq_getElem_cons hkl,j5K]
   refine (qU (v':=[.sl (l.map S1),.s (a ++ (l[k]'hkl) ++ [10]),.s b2,.i ((k + 1:Nat):Int),.sl cb,.i ci,.i ch]) ?_).trans ((ih (k + 1) _ (by omega) (by omega) (by rw [js,js]; simp only [jd,je]; omega)).trans (by simp only [jy]))
   simp only [kp,List.getD_cons_zero,List.getD_cons_succ,DC.bb_b,DC.ii_i,DC.ss_s,DC.ll_sl,List.length_map,hk1,decide_true,if_true,Int.natCast_nonneg,eq_self,and_self,jl,jE hkl,S1,q1,jd,je,Nat.zero_add,q2,j9,hw]
  ·have hk':¬ ((k:Int) < (l.length:Int)):=by omega
   rw [List.drop_of_length_le (by omega),j5K,List.append_nil]
   exact kD (by simp only [kp,List.getD_cons_zero,List.getD_cons_succ,DC.bb_b,DC.ii_i,DC.ss_s,DC.ll_sl,List.length_map,hk',decide_false,Bool.false_eq_true,if_false])
theorem j9F {a:List UInt8} {b:List (List DC)}:∀ (m:Nat) (l:List (List UInt8)) (t:List UInt8) (i h:Int),l.length ≤ m → l.length ≤ 100 → (∀ x ∈ l,x.length ≤ 1000) → t.length + 2000 * l.length ≤ 1000000 → Cu b i →
  ∃ t',jO kN [.sl (l.map S1),.s a,.s t,.sl b,.i i,.i h] = .ex 2 [.s a,.s t']:=by
 intro m
 induction m with
 | zero =>
  intro l t i h hm hl hx ht c
  have hk':¬ ((l.length:Int) > 0):=by omega
  exact ⟨t,kD (by simp only [kN,List.getD_cons_zero,List.getD_cons_succ,DC.bb_b,DC.ii_i,DC.ss_s,DC.ll_sl,List.length_map,hk',decide_false,Bool.false_eq_true,if_false])⟩
 | succ m ih =>
  intro l t i h hm hl hx ht c
  by_cases h0:0 < l.length
  ·have hk1:(l.length:Int) > 0:=by omega
   obtain ⟨x,i1,h1,e1,x1,x2,c1⟩:=jW h (l.length:Int) (by omega) (by omega) c
   obtain ⟨k,rfl⟩:=Int.eq_ofNat_of_zero_le x1
   have hkl:k < l.length:=by omega
   have hx1:=hx _ (jo hkl)
   have hw:IntKind.i64.wrap ((k:Int) + 1)=((k + 1:Nat):Int):=by rw [IntKind.wrap_i64]; omega
   have q1:t.length + (l[k]'hkl).length < jN:=by unfold jN; omega
   have q2:(t ++ (l[k]'hkl)).length + 1 < jN:=by rw [js]; unfold jN; omega
   have q3:(k:Int) ≤ (l.length:Int):=by omega
   have q4:((k + 1:Nat):Int) ≤ (l.length:Int):=by omega
   have q5:(l.take k).length < jN:=by rw [List.length_take]; unfold jN; omega
   have q6:(l.take k).length + (l.drop (k + 1)).length < jN:=by rw [List.length_take,List.length_drop]; unfold jN; omega
   have q7:(l.take k ++ l.drop (k + 1)).length + 1=l.length:=by rw [js,List.length_take,List.length_drop]; omega
   obtain ⟨t',e⟩:=ih (l.take k ++ l.drop (k + 1)) (t ++ (l[k]'hkl) ++ [10]) i1 h1 (by omega) (by omega) (fun y hy=>by
    rcases List.mem_append.1 hy with hy | hy
    ·exact hx y (List.mem_of_mem_take hy)
    ·exact hx y (List.mem_of_mem_drop hy)) (by rw [js,js]; simp only [jd,je]; omega) c1
   refine ⟨t',(qU ?_).trans e⟩
   simp only [kN,List.getD_cons_zero,List.getD_cons_succ,DC.bb_b,DC.ii_i,DC.ss_s,DC.ll_sl,List.length_map,hk1,decide_true,if_true,e1,Out.bindR_ret,Int.natCast_nonneg,hkl,x2,eq_self,and_self,true_and,jl,jE hkl,S1,q1,jd,je,Nat.zero_add,q2,q3,q4,hw,← List.map_take,← List.map_drop,q5,q6,ju,j9,List.map_append]
  ·have hk':¬ ((l.length:Int) > 0):=by omega
   exact ⟨t,kD (by simp only [kN,List.getD_cons_zero,List.getD_cons_succ,DC.bb_b,DC.ii_i,DC.ss_s,DC.ll_sl,List.length_map,hk',decide_false,Bool.false_eq_true,if_false])⟩
def txA:List UInt8:=[105,110,116,101,114,102,97,99,101,32,78,111,100,101,32,123,10,32,32,105,100,58,32,73,68,33,10,125,10,10,105,110,116,101,114,102,97,99,101,32,78,97,109,101,100,32,105,109,112,108,101,109,101,110,116,115,32,78,111,100,101,32,123,10,32,32,105,100,58,32,73,68,33,10,32,32,110,97,109,101,58,32,83,116,114,105,110,103,10,125,10,10,116,121,112,101,32,85,115,101,114,32,105,109,112,108,101,109,101,110,116,115,32,78,97,109,101,100,32,38,32,78,111,100,101,32,123,10,32,32,105,100,58,32,73,68,33,10,32,32,110,97,109,101,58,32,83,116,114,105,110,103,10,32,32,112,111,115,116,115,40,102,105,114,115,116,58,32,73,110,116,32,61,32,49,48,44,32,97,102,116,101,114,58,32,73,68,41,58,32,91,80,111,115,116,33,93,33,10,32,32,99,111,108,111,114,58,32,67,111,108,111,114,32,64,100,101,112,114,101,99,97,116,101,100,10,32,32,102,114,105,101,110,100,58,32,85,115,101,114,10,125,10,10,116,121,112,101,32,80,111,115,116,32,105,109,112,108,101,109,101,110,116,115,32,78,111,100,101,32,123,10,32,32,105,100,58,32,73,68,33,10,32,32,116,105,116,108,101,58,32,83,116,114,105,110,103,33,10,32,32,97,117,116,104,111,114,58,32,85,115,101,114,10,32,32,97,110,121,58,32,91,65,110,121,93,10,125,10,10,117,110,105,111,110,32,65,110,121,32,61,32,80,111,115,116,32,124,32,85,115,101,114,10,10,101,110,117,109,32,67,111,108,111,114,32,123,10,32,32,66,76,85,69,10,32,32,82,69,68,10,125,10,10,105,110,112,117,116,32,70,105,110,100,32,123,10,32,32,116,101,120,116,58,32,83,116,114,105,110,103,33,10,32,32,115,105,122,101,58,32,73,110,116,32,61,32,53,10,32,32,99,111,108,111,114,115,58,32,91,67,111,108,111,114,33,93,10,32,32,109,111,114,101,58,32,70,105,110,100,10,125,10,10,115,99,97,108,97,114,32,68,97,116,101,10,10,100,105,114,101,99,116,105,118,101,32,64,111,110,99,101,40,107,101,121,58,32,83,116,114,105,110,103,44,32,100,101,101,112,58,32,73,110,116,33,32,61,32,49,41,32,111,110,32,70,73,69,76,68,32,124,32,81,85,69,82,89,10,10,100,105,114,101,99,116,105,118,101,32,64,109,97,110,121,32,114,101,112,101,97,116,97,98,108,101,32,111,110,32,70,73,69,76,68,10,10,116,121,112,101,32,81,117,101,114,121,32,123,10,32,32,110,111,100,101,40,105,100,58,32,73,68,33,41,58,32,78,111,100,101,10,32,32,117,115,101,114,40,105,100,58,32,73,68,41,58,32,85,115,101,114,10,32,32,102,105,110,100,40,98,121,58,32,70,105,110,100,33,44,32,111,110,58,32,68,97,116,101,41,58,32,91,65,110,121,33,93,10,32,32,99,111,108,111,114,115,58,32,91,67,111,108,111,114,93,10,32,32,110,97,109,101,100,58,32,78,97,109,101,100,10,125,10,10,116,121,112,101,32,77,117,116,97,116,105,111,110,32,123,10,32,32,114,101,110,97,109,101,40,105,100,58,32,73,68,33,44,32,110,97,109,101,58,32,83,116,114,105,110,103,41,58,32,85,115,101,114,10,125,10,10,101,120,116,101,110,100,32,116,121,112,101,32,85,115,101,114,32,123,10,32,32,109,111,114,101,58,32,73,110,116,10,125,10,10,101,120,116,101,110,100,32,101,110,117,109,32,67,111,108,111,114,32,123,10,32,32,71,82,69,69,78,10,125,10,10,101,120,116,101,110,100,32,105,110,112,117,116,32,70,105,110,100,32,123,10,32,32,100,101,101,112,58,32,66,111,111,108,101,97,110,32,61,32,116,114,117,101,10,125,10,10]
def txE:List UInt8:=[101,120,116,101,110,100,32,116,121,112,101,32,78,111,112,101,32,123,10,32,32,97,58,32,73,110,116,10,125,10,115,99,97,108,97,114,32,68,97,116,101,10,101,120,116,101,110,100,32,101,110,117,109,32,85,115,101,114,32,123,10,32,32,65,10,125,10]
def zd (F:List DC → Out):Nat → List DC → Out
 | 0,v=>.norm v
 | k + 1,v =>
  match F v with
  | .norm w=>zd F k w
  | o=>o
theorem j6a {F:List DC → Out}:∀ {k n:Nat} {v w:List DC},zd F k v = .norm w → jG F (k + n) v=jG F n w
 | 0,n,v,w,h=>by
  rw [zd,Out.norm.injEq] at h
  rw [Nat.zero_add,h]
 | k + 1,n,v,w,h=>by
  rw [zd] at h
  rw [show k + 1 + n=(k + n) + 1 by omega,jG]
  cases hF:F v with
  | norm u =>
   rw [hF] at h
   exact j6a h
  | _=>rw [hF] at h; simp at h
theorem j5v {F:List DC → Out} {k n j:Nat} {v w r:List DC} (h:zd F k v = .norm w) (e:F w = .ex j r):jG F (k + (n + 1)) v = .ex j r:=by
 rw [j6a h,jG,e]
 rfl
theorem jR {F:List DC → Out}:∀ {k m:Nat} {v w u:List DC},zd F k v = .norm w → zd F m w = .norm u → zd F (k + m) v = .norm u
 | 0,m,v,w,u,h,h2=>by
  rw [zd,Out.norm.injEq] at h
  rw [Nat.zero_add,h]
  exact h2
 | k + 1,m,v,w,u,h,h2=>by
  rw [zd] at h
  rw [show k + 1 + m=(k + m) + 1 by omega,zd]
  cases hF:F v with
  | norm x =>
   rw [hF] at h
   exact jR h h2
  | _=>rw [hF] at h; simp at h
def tx:List UInt8:=[105,110,116,101,114,102,97,99,101,32,78,111,100,101,32,123,10,32,32,105,100,58,32,73,68,33,10,125,10,10,105,110,116,101,114,102,97,99,101,32,78,97,109,101,100,32,105,109,112,108,101,109,101,110,116,115,32,78,111,100,101,32,123,10,32,32,105,100,58,32,73,68,33,10,32,32,110,97,109,101,58,32,83,116,114,105,110,103,10,125,10,10,116,121,112,101,32,85,115,101,114,32,105,109,112,108,101,109,101,110,116,115,32,78,97,109,101,100,32,38,32,78,111,100,101,32,123,10,32,32,105,100,58,32,73,68,33,10,32,32,110,97,109,101,58,32,83,116,114,105,110,103,10,32,32,112,111,115,116,115,40,102,105,114,115,116,58,32,73,110,116,32,61,32,49,48,44,32,97,102,116,101,114,58,32,73,68,41,58,32,91,80,111,115,116,33,93,33,10,32,32,99,111,108,111,114,58,32,67,111,108,111,114,32,64,100,101,112,114,101,99,97,116,101,100,10,32,32,102,114,105,101,110,100,58,32,85,115,101,114,10,125,10,10,116,121,112,101,32,80,111,115,116,32,105,109,112,108,101,109,101,110,116,115,32,78,111,100,101,32,123,10,32,32,105,100,58,32,73,68,33,10,32,32,116,105,116,108,101,58,32,83,116,114,105,110,103,33,10,32,32,97,117,116,104,111,114,58,32,85,115,101,114,10,32,32,97,110,121,58,32,91,65,110,121,93,10,125,10,10,117,110,105,111,110,32,65,110,121,32,61,32,80,111,115,116,32,124,32,85,115,101,114,10,10,101,110,117,109,32,67,111,108,111,114,32,123,10,32,32,66,76,85,69,10,32,32,82,69,68,10,125,10,10,105,110,112,117,116,32,70,105,110,100,32,123,10,32,32,116,101,120,116,58,32,83,116,114,105,110,103,33,10,32,32,115,105,122,101,58,32,73,110,116,32,61,32,53,10,32,32,99,111,108,111,114,115,58,32,91,67,111,108,111,114,33,93,10,32,32,109,111,114,101,58,32,70,105,110,100,10,125,10,10,115,99,97,108,97,114,32,68,97,116,101,10,10,100,105,114,101,99,116,105,118,101,32,64,111,110,99,101,40,107,101,121,58,32,83,116,114,105,110,103,44,32,100,101,101,112,58,32,73,110,116,33,32,61,32,49,41,32,111,110,32,70,73,69,76,68,32,124,32,81,85,69,82,89,10,10,100,105,114,101,99,116,105,118,101,32,64,109,97,110,121,32,114,101,112,101,97,116,97,98,108,101,32,111,110,32,70,73,69,76,68,10,10,116,121,112,101,32,81,117,101,114,121,32,123,10,32,32,110,111,100,101,40,105,100,58,32,73,68,33,41,58,32,78,111,100,101,10,32,32,117,115,101,114,40,105,100,58,32,73,68,41,58,32,85,115,101,114,10,32,32,102,105,110,100,40,98,121,58,32,70,105,110,100,33,44,32,111,110,58,32,68,97,116,101,41,58,32,91,65,110,121,33,93,10,32,32,99,111,108,111,114,115,58,32,91,67,111,108,111,114,93,10,32,32,110,97,109,101,100,58,32,78,97,109,101,100,10,125,10,10,116,121,112,101,32,77,117,116,97,116,105,111,110,32,123,10,32,32,114,101,110,97,109,101,40,105,100,58,32,73,68,33,44,32,110,97,109,101,58,32,83,116,114,105,110,103,41,58,32,85,115,101,114,10,125,10,10,101,120,116,101,110,100,32,116,121,112,101,32,85,115,101,114,32,123,10,32,32,109,111,114,101,58,32,73,110,116,10,125,10,10,101,120,116,101,110,100,32,101,110,117,109,32,67,111,108,111,114,32,123,10,32,32,71,82,69,69,78,10,125,10,10,101,120,116,101,110,100,32,105,110,112,117,116,32,70,105,110,100,32,123,10,32,32,100,101,101,112,58,32,66,111,111,108,101,97,110,32,61,32,116,114,117,101,10,125,10,10,101,120,116,101,110,100,32,116,121,112,101,32,78,111,112,101,32,123,10,32,32,97,58,32,73,110,116,10,125,10,115,99,97,108,97,114,32,68,97,116,101,10,101,120,116,101,110,100,32,101,110,117,109,32,85,115,101,114,32,123,10,32,32,65,10,125,10]
def j51:List (List DC):=[[.i 2,.s [105,110,116,101,114,102,97,99,101],.i 0],[.i 2,.s [78,111,100,101],.i 10],[.i 1,.s [123],.i 15],[.i 2,.s [105,100],.i 19],[.i 1,.s [58],.i 21],[.i 2,.s [73,68],.i 23],[.i 1,.s [33],.i 25],[.i 1,.s [125],.i 27],[.i 2,.s [105,110,116,101,114,102,97,99,101],.i 30],[.i 2,.s [78,97,109,101,100],.i 40],[.i 2,.s [105,109,112,108,101,109,101,110,116,115],.i 46],[.i 2,.s [78,111,100,101],.i 57],[.i 1,.s [123],.i 62],[.i 2,.s [105,100],.i 66],[.i 1,.s [58],.i 68],[.i 2,.s [73,68],.i 70],[.i 1,.s [33],.i 72],[.i 2,.s [110,97,109,101],.i 76],[.i 1,.s [58],.i 80],[.i 2,.s [83,116,114,105,110,103],.i 82],[.i 1,.s [125],.i 89],[.i 2,.s [116,121,112,101],.i 92],[.i 2,.s [85,115,101,114],.i 97],[.i 2,.s [105,109,112,108,101,109,101,110,116,115],.i 102],[.i 2,.s [78,97,109,101,100],.i 113],[.i 1,.s [38],.i 119],[.i 2,.s [78,111,100,101],.i 121],[.i 1,.s [123],.i 126],[.i 2,.s [105,100],.i 130],[.i 1,.s [58],.i 132],[.i 2,.s [73,68],.i 134],[.i 1,.s [33],.i 136],[.i 2,.s [110,97,109,101],.i 140],[.i 1,.s [58],.i 144],[.i 2,.s [83,116,114,105,110,103],.i 146],[.i 2,.s [112,111,115,116,115],.i 155],[.i 1,.s [40],.i 160],[.i 2,.s [102,105,114,115,116],.i 161],[.i 1,.s [58],.i 166],[.i 2,.s [73,110,116],.i 168],[.i 1,.s [61],.i 172],[.i 3,.s [49,48],.i 174],[.i 2,.s [97,102,116,101,114],.i 178],[.i 1,.s [58],.i 183],[.i 2,.s [73,68],.i 185],[.i 1,.s [41],.i 187],[.i 1,.s [58],.i 188],[.i 1,.s [91],.i 190],[.i 2,.s [80,111,115,116],.i 191],[.i 1,.s [33],.i 195],[.i 1,.s [93],.i 196],[.i 1,.s [33],.i 197],[.i 2,.s [99,111,108,111,114],.i 201],[.i 1,.s [58],.i 206],[.i 2,.s [67,111,108,111,114],.i 208],[.i 1,.s [64],.i 214],[.i 2,.s [100,101,112,114,101,99,97,116,101,100],.i 215],[.i 2,.s [102,114,105,101,110,100],.i 228],[.i 1,.s [58],.i 234],[.i 2,.s [85,115,101,114],.i 236],[.i 1,.s [125],.i 241],[.i 2,.s [116,121,112,101],.i 244],[.i 2,.s [80,111,115,116],.i 249],[.i 2,.s [105,109,112,108,101,109,101,110,116,115],.i 254],[.i 2,.s [78,111,100,101],.i 265],[.i 1,.s [123],.i 270],[.i 2,.s [105,100],.i 274],[.i 1,.s [58],.i 276],[.i 2,.s [73,68],.i 278],[.i 1,.s [33],.i 280],[.i 2,.s [116,105,116,108,101],.i 284],[.i 1,.s [58],.i 289],[.i 2,.s [83,116,114,105,110,103],.i 291],[.i 1,.s [33],.i 297],[.i 2,.s [97,117,116,104,111,114],.i 301],[.i 1,.s [58],.i 307],[.i 2,.s [85,115,101,114],.i 309],[.i 2,.s [97,110,121],.i 316],[.i 1,.s [58],.i 319],[.i 1,.s [91],.i 321],[.i 2,.s [65,110,121],.i 322],[.i 1,.s [93],.i 325],[.i 1,.s [125],.i 327],[.i 2,.s [117,110,105,111,110],.i 330],[.i 2,.s [65,110,121],.i 336],[.i 1,.s [61],.i 340],[.i 2,.s [80,111,115,116],.i 342],[.i 1,.s [124],.i 347],[.i 2,.s [85,115,101,114],.i 349],[.i 2,.s [101,110,117,109],.i 355],[.i 2,.s [67,111,108,111,114],.i 360],[.i 1,.s [123],.i 366],[.i 2,.s [66,76,85,69],.i 370],[.i 2,.s [82,69,68],.i 377],[.i 1,.s [125],.i 381],[.i 2,.s [105,110,112,117,116],.i 384],[.i 2,.s [70,105,110,100],.i 390],[.i 1,.s [123],.i 395],[.i 2,.s [116,101,120,116],.i 399],[.i 1,.s [58],.i 403],[.i 2,.s [83,116,114,105,110,103],.i 405],[.i 1,.s [33],.i 411],[.i 2,.s [115,105,122,101],.i 415],[.i 1,.s [58],.i 419],[.i 2,.s [73,110,116],.i 421],[.i 1,.s [61],.i 425],[.i 3,.s [53],.i 427],[.i 2,.s [99,111,108,111,114,115],.i 431],[.i 1,.s [58],.i 437],[.i 1,.s [91],.i 439],[.i 2,.s [67,111,108,111,114],.i 440],[.i 1,.s [33],.i 445],[.i 1,.s [93],.i 446],[.i 2,.s [109,111,114,101],.i 450],[.i 1,.s [58],.i 454],[.i 2,.s [70,105,110,100],.i 456],[.i 1,.s [125],.i 461],[.i 2,.s [115,99,97,108,97,114],.i 464],[.i 2,.s [68,97,116,101],.i 471],[.i 2,.s [100,105,114,101,99,116,105,118,101],.i 477],[.i 1,.s [64],.i 487],[.i 2,.s [111,110,99,101],.i 488],[.i 1,.s [40],.i 492],[.i 2,.s [107,101,121],.i 493],[.i 1,.s [58],.i 496],[.i 2,.s [83,116,114,105,110,103],.i 498],[.i 2,.s [100,101,101,112],.i 506],[.i 1,.s [58],.i 510],[.i 2,.s [73,110,116],.i 512],[.i 1,.s [33],.i 515],[.i 1,.s [61],.i 517],[.i 3,.s [49],.i 519],[.i 1,.s [41],.i 520],[.i 2,.s [111,110],.i 522],[.i 2,.s [70,73,69,76,68],.i 525],[.i 1,.s [124],.i 531],[.i 2,.s [81,85,69,82,89],.i 533],[.i 2,.s [100,105,114,101,99,116,105,118,101],.i 540],[.i 1,.s [64],.i 550],[.i 2,.s [109,97,110,121],.i 551],[.i 2,.s [114,101,112,101,97,116,97,98,108,101],.i 556],[.i 2,.s [111,110],.i 567],[.i 2,.s [70,73,69,76,68],.i 570],[.i 2,.s [116,121,112,101],.i 577],[.i 2,.s [81,117,101,114,121],.i 582],[.i 1,.s [123],.i 588],[.i 2,.s [110,111,100,101],.i 592],[.i 1,.s [40],.i 596],[.i 2,.s [105,100],.i 597],[.i 1,.s [58],.i 599],[.i 2,.s [73,68],.i 601],[.i 1,.s [33],.i 603],[.i 1,.s [41],.i 604],[.i 1,.s [58],.i 605],[.i 2,.s [78,111,100,101],.i 607],[.i 2,.s [117,115,101,114],.i 614],[.i 1,.s [40],.i 618],[.i 2,.s [105,100],.i 619],[.i 1,.s [58],.i 621],[.i 2,.s [73,68],.i 623],[.i 1,.s [41],.i 625],[.i 1,.s [58],.i 626],[.i 2,.s [85,115,101,114],.i 628],[.i 2,.s [102,105,110,100],.i 635],[.i 1,.s [40],.i 639],[.i 2,.s [98,121],.i 640],[.i 1,.s [58],.i 642],[.i 2,.s [70,105,110,100],.i 644],[.i 1,.s [33],.i 648],[.i 2,.s [111,110],.i 651],[.i 1,.s [58],.i 653],[.i 2,.s [68,97,116,101],.i 655],[.i 1,.s [41],.i 659],[.i 1,.s [58],.i 660],[.i 1,.s [91],.i 662],[.i 2,.s [65,110,121],.i 663],[.i 1,.s [33],.i 666],[.i 1,.s [93],.i 667],[.i 2,.s [99,111,108,111,114,115],.i 671],[.i 1,.s [58],.i 677],[.i 1,.s [91],.i 679],[.i 2,.s [67,111,108,111,114],.i 680],[.i 1,.s [93],.i 685],[.i 2,.s [110,97,109,101,100],.i 689],[.i 1,.s [58],.i 694],[.i 2,.s [78,97,109,101,100],.i 696],[.i 1,.s [125],.i 702],[.i 2,.s [116,121,112,101],.i 705],[.i 2,.s [77,117,116,97,116,105,111,110],.i 710],[.i 1,.s [123],.i 719],[.i 2,.s [114,101,110,97,109,101],.i 723],[.i 1,.s [40],.i 729],[.i 2,.s [105,100],.i 730],[.i 1,.s [58],.i 732],[.i 2,.s [73,68],.i 734],[.i 1,.s [33],.i 736],[.i 2,.s [110,97,109,101],.i 739],[.i 1,.s [58],.i 743],[.i 2,.s [83,116,114,105,110,103],.i 745],[.i 1,.s [41],.i 751],[.i 1,.s [58],.i 752],[.i 2,.s [85,115,101,114],.i 754],[.i 1,.s [125],.i 759],[.i 2,.s [101,120,116,101,110,100],.i 762],[.i 2,.s [116,121,112,101],.i 769],[.i 2,.s [85,115,101,114],.i 774],[.i 1,.s [123],.i 779],[.i 2,.s [109,111,114,101],.i 783],[.i 1,.s [58],.i 787],[.i 2,.s [73,110,116],.i 789],[.i 1,.s [125],.i 793],[.i 2,.s [101,120,116,101,110,100],.i 796],[.i 2,.s [101,110,117,109],.i 803],[.i 2,.s [67,111,108,111,114],.i 808],[.i 1,.s [123],.i 814],[.i 2,.s [71,82,69,69,78],.i 818],[.i 1,.s [125],.i 824],[.i 2,.s [101,120,116,101,110,100],.i 827],[.i 2,.s [105,110,112,117,116],.i 834],[.i 2,.s [70,105,110,100],.i 840],[.i 1,.s [123],.i 845],[.i 2,.s [100,101,101,112],.i 849],[.i 1,.s [58],.i 853],[.i 2,.s [66,111,111,108,101,97,110],.i 855],[.i 1,.s [61],.i 863],[.i 2,.s [116,114,117,101],.i 865],[.i 1,.s [125],.i 870],[.i 2,.s [101,120,116,101,110,100],.i 873],[.i 2,.s [116,121,112,101],.i 880],[.i 2,.s [78,111,112,101],.i 885],[.i 1,.s [123],.i 890],[.i 2,.s [97],.i 894],[.i 1,.s [58],.i 895],[.i 2,.s [73,110,116],.i 897],[.i 1,.s [125],.i 901],[.i 2,.s [115,99,97,108,97,114],.i 903],[.i 2,.s [68,97,116,101],.i 910],[.i 2,.s [101,120,116,101,110,100],.i 915],[.i 2,.s [101,110,117,109],.i 922],[.i 2,.s [85,115,101,114],.i 927],[.i 1,.s [123],.i 932],[.i 2,.s [65],.i 936],[.i 1,.s [125],.i 938]]
theorem jac:txA ++ txE=tx:=rfl
def tk (k a:Nat):List DC:=[.s tx,.sl [],.sl (j51.take k),.i a,.i 0,.i 0]
def rn (a:Nat):List DC:=[.s tx,.sl [],.i a,.i 0,.i 0]
theorem tk0:zd (jF (zc kg 4999) 4999) 20 (tk 0 0) = .norm (tk 20 89):=by kernel_rfl
theorem tk1:zd (jF (zc kg 4999) 4999) 20 (tk 20 89) = .norm (tk 40 172):=by kernel_rfl
theorem tk2:zd (jF (zc kg 4999) 4999) 20 (tk 40 172) = .norm (tk 60 241):=by kernel_rfl
theorem tk3:zd (jF (zc kg 4999) 4999) 20 (tk 60 241) = .norm (tk 80 322):=by kernel_rfl
theorem tk4:zd (jF (zc kg 4999) 4999) 20 (tk 80 322) = .norm (tk 100 405):=by kernel_rfl
theorem tk5:zd (jF (zc kg 4999) 4999) 20 (tk 100 405) = .norm (tk 120 487):=by kernel_rfl
theorem tk6:zd (jF (zc kg 4999) 4999) 20 (tk 120 487) = .norm (tk 140 556):=by kernel_rfl
theorem tk7:zd (jF (zc kg 4999) 4999) 20 (tk 140 556) = .norm (tk 160 625):=by kernel_rfl
theorem tk8:zd (jF (zc kg 4999) 4999) 20 (tk 160 625) = .norm (tk 180 679):=by kernel_rfl
theorem tk9:zd (jF (zc kg 4999) 4999) 20 (tk 180 679) = .norm (tk 200 752):=by kernel_rfl
theorem jbv:zd (jF (zc kg 4999) 4999) 20 (tk 200 752) = .norm (tk 220 845):=by kernel_rfl
theorem jbu:zd (jF (zc kg 4999) 4999) 20 (tk 220 845) = .norm (tk 240 932):=by kernel_rfl
theorem jbt:zd (jF (zc kg 4999) 4999) 3 (tk 240 932) = .norm (tk 243 940):=by kernel_rfl
theorem rn0:zd (jI (zc kg 4999) 4999) 94 (rn 0) = .norm (rn 94):=by kernel_rfl
theorem rn1:zd (jI (zc kg 4999) 4999) 94 (rn 94) = .norm (rn 188):=by kernel_rfl
theorem rn2:zd (jI (zc kg 4999) 4999) 94 (rn 188) = .norm (rn 282):=by kernel_rfl
theorem rn3:zd (jI (zc kg 4999) 4999) 94 (rn 282) = .norm (rn 376):=by kernel_rfl
theorem rn4:zd (jI (zc kg 4999) 4999) 94 (rn 376) = .norm (rn 470):=by kernel_rfl
theorem rn5:zd (jI (zc kg 4999) 4999) 94 (rn 470) = .norm (rn 564):=by kernel_rfl
theorem rn6:zd (jI (zc kg 4999) 4999) 94 (rn 564) = .norm (rn 658):=by kernel_rfl
theorem rn7:zd (jI (zc kg 4999) 4999) 94 (rn 658) = .norm (rn 752):=by kernel_rfl
theorem rn8:zd (jI (zc kg 4999) 4999) 94 (rn 752) = .norm (rn 846):=by kernel_rfl
theorem rn9:zd (jI (zc kg 4999) 4999) 94 (rn 846) = .norm (rn 940):=by kernel_rfl
def Zm:List TItem:=[⟨3,⟨0,[],[],[],[]⟩,⟨[],[],[],[]⟩,⟨3,false,[],[78,111,100,101],[],[⟨[105,100],[],[],⟨[73,68],[33]⟩,[]⟩],[],[],[],false,[]⟩⟩,⟨3,⟨0,[],[],[],[]⟩,⟨[],[],[],[]⟩,⟨3,false,[],[78,97,109,101,100],[[78,111,100,101]],[⟨[105,100],[],[],⟨[73,68],[33]⟩,[]⟩,⟨[110,97,109,101],[],[],⟨[83,116,114,105,110,103],[]⟩,[]⟩],[],[],[],false,[]⟩⟩,⟨3,⟨0,[],[],[],[]⟩,⟨[],[],[],[]⟩,⟨2,false,[],[85,115,101,114],[[78,97,109,101,100],[78,111,100,101]],[⟨[105,100],[],[],⟨[73,68],[33]⟩,[]⟩,⟨[110,97,109,101],[],[],⟨[83,116,114,105,110,103],[]⟩,[]⟩,⟨[112,111,115,116,115],[],[⟨[102,105,114,115,116],[],⟨[73,110,116],[]⟩,true,⟨2,[49,48],[],[]⟩,[]⟩,⟨[97,102,116,101,114],[],⟨[73,68],[]⟩,false,⟨0,[],[],[]⟩,[]⟩],⟨[80,111,115,116],[33,93,33]⟩,[]⟩,⟨[99,111,108,111,114],[],[],⟨[67,111,108,111,114],[]⟩,[⟨[100,101,112,114,101,99,97,116,101,100],[]⟩]⟩,⟨[102,114,105,101,110,100],[],[],⟨[85,115,101,114],[]⟩,[]⟩],[],[],[],false,[]⟩⟩,⟨3,⟨0,[],[],[],[]⟩,⟨[],[],[],[]⟩,⟨2,false,[],[80,111,115,116],[[78,111,100,101]],[⟨[105,100],[],[],⟨[73,68],[33]⟩,[]⟩,⟨[116,105,116,108,101],[],[],⟨[83,116,114,105,110,103],[33]⟩,[]⟩,⟨[97,117,116,104,111,114],[],[],⟨[85,115,101,114],[]⟩,[]⟩,⟨[97,110,121],[],[],⟨[65,110,121],[93]⟩,[]⟩],[],[],[],false,[]⟩⟩,⟨3,⟨0,[],[],[],[]⟩,⟨[],[],[],[]⟩,⟨4,false,[],[65,110,121],[[80,111,115,116],[85,115,101,114]],[],[],[],[],false,[]⟩⟩,⟨3,⟨0,[],[],[],[]⟩,⟨[],[],[],[]⟩,⟨5,false,[],[67,111,108,111,114],[],[],[],[⟨[66,76,85,69],[],[]⟩,⟨[82,69,68],[],[]⟩],[],false,[]⟩⟩,⟨3,⟨0,[],[],[],[]⟩,⟨[],[],[],[]⟩,⟨6,false,[],[70,105,110,100],[],[],[⟨[116,101,120,116],[],⟨[83,116,114,105,110,103],[33]⟩,false,⟨0,[],[],[]⟩,[]⟩,⟨[115,105,122,101],[],⟨[73,110,116],[]⟩,true,⟨2,[53],[],[]⟩,[]⟩,⟨[99,111,108,111,114,115],[],⟨[67,111,108,111,114],[33,93]⟩,false,⟨0,[],[],[]⟩,[]⟩,⟨[109,111,114,101],[],⟨[70,105,110,100],[]⟩,false,⟨0,[],[],[]⟩,[]⟩],[],[],false,[]⟩⟩,⟨3,⟨0,[],[],[],[]⟩,⟨[],[],[],[]⟩,⟨1,false,[],[68,97,116,101],[],[],[],[],[],false,[]⟩⟩,⟨3,⟨0,[],[],[],[]⟩,⟨[],[],[],[]⟩,⟨7,false,[],[111,110,99,101],[[70,73,69,76,68],[81,85,69,82,89]],[],[⟨[107,101,121],[],⟨[83,116,114,105,110,103],[]⟩,false,⟨0,[],[],[]⟩,[]⟩,⟨[100,101,101,112],[],⟨[73,110,116],[33]⟩,true,⟨2,[49],[],[]⟩,[]⟩],[],[],false,[]⟩⟩,⟨3,⟨0,[],[],[],[]⟩,⟨[],[],[],[]⟩,⟨7,false,[],[109,97,110,121],[[70,73,69,76,68]],[],[],[],[],true,[]⟩⟩,⟨3,⟨0,[],[],[],[]⟩,⟨[],[],[],[]⟩,⟨2,false,[],[81,117,101,114,121],[],[⟨[110,111,100,101],[],[⟨[105,100],[],⟨[73,68],[33]⟩,false,⟨0,[],[],[]⟩,[]⟩],⟨[78,111,100,101],[]⟩,[]⟩,⟨[117,115,101,114],[],[⟨[105,100],[],⟨[73,68],[]⟩,false,⟨0,[],[],[]⟩,[]⟩],⟨[85,115,101,114],[]⟩,[]⟩,⟨[102,105,110,100],[],[⟨[98,121],[],⟨[70,105,110,100],[33]⟩,false,⟨0,[],[],[]⟩,[]⟩,⟨[111,110],[],⟨[68,97,116,101],[]⟩,false,⟨0,[],[],[]⟩,[]⟩],⟨[65,110,121],[33,93]⟩,[]⟩,⟨[99,111,108,111,114,115],[],[],⟨[67,111,108,111,114],[93]⟩,[]⟩,⟨[110,97,109,101,100],[],[],⟨[78,97,109,101,100],[]⟩,[]⟩],[],[],[],false,[]⟩⟩,⟨3,⟨0,[],[],[],[]⟩,⟨[],[],[],[]⟩,⟨2,false,[],[77,117,116,97,116,105,111,110],[],[⟨[114,101,110,97,109,101],[],[⟨[105,100],[],⟨[73,68],[33]⟩,false,⟨0,[],[],[]⟩,[]⟩,⟨[110,97,109,101],[],⟨[83,116,114,105,110,103],[]⟩,false,⟨0,[],[],[]⟩,[]⟩],⟨[85,115,101,114],[]⟩,[]⟩],[],[],[],false,[]⟩⟩,⟨3,⟨0,[],[],[],[]⟩,⟨[],[],[],[]⟩,⟨2,true,[],[85,115,101,114],[],[⟨[109,111,114,101],[],[],⟨[73,110,116],[]⟩,[]⟩],[],[],[],false,[]⟩⟩,⟨3,⟨0,[],[],[],[]⟩,⟨[],[],[],[]⟩,⟨5,true,[],[67,111,108,111,114],[],[],[],[⟨[71,82,69,69,78],[],[]⟩],[],false,[]⟩⟩,⟨3,⟨0,[],[],[],[]⟩,⟨[],[],[],[]⟩,⟨6,true,[],[70,105,110,100],[],[],[⟨[100,101,101,112],[],⟨[66,111,111,108,101,97,110],[]⟩,true,⟨5,[116,114,117,101],[],[]⟩,[]⟩],[],[],false,[]⟩⟩,⟨3,⟨0,[],[],[],[]⟩,⟨[],[],[],[]⟩,⟨2,true,[],[78,111,112,101],[],[⟨[97],[],[],⟨[73,110,116],[]⟩,[]⟩],[],[],[],false,[]⟩⟩,⟨3,⟨0,[],[],[],[]⟩,⟨[],[],[],[]⟩,⟨1,false,[],[68,97,116,101],[],[],[],[],[],false,[]⟩⟩,⟨3,⟨0,[],[],[],[]⟩,⟨[],[],[],[]⟩,⟨5,true,[],[85,115,101,114],[],[],[],[⟨[65],[],[]⟩],[],false,[]⟩⟩]
def pr (k a:Nat):List DC:=[.i 0,.i 0,.sl j51,.i a,.i 940,.i 0,.i 0,.sl ((Zm.take k).map TItem.enc)]
theorem pr0:zd (jD (zc yQ 4999) 4999) 1 (pr 0 0) = .norm (pr 1 8):=by kernel_rfl
theorem pr1:zd (jD (zc yQ 4999) 4999) 1 (pr 1 8) = .norm (pr 2 21):=by kernel_rfl
theorem pr2:zd (jD (zc yQ 4999) 4999) 1 (pr 2 21) = .norm (pr 3 61):=by kernel_rfl
theorem pr3:zd (jD (zc yQ 4999) 4999) 1 (pr 3 61) = .norm (pr 4 83):=by kernel_rfl
theorem pr4:zd (jD (zc yQ 4999) 4999) 1 (pr 4 83) = .norm (pr 5 89):=by kernel_rfl
theorem pr5:zd (jD (zc yQ 4999) 4999) 1 (pr 5 89) = .norm (pr 6 95):=by kernel_rfl
theorem pr6:zd (jD (zc yQ 4999) 4999) 1 (pr 6 95) = .norm (pr 7 117):=by kernel_rfl
theorem pr7:zd (jD (zc yQ 4999) 4999) 1 (pr 7 117) = .norm (pr 8 119):=by kernel_rfl
theorem pr8:zd (jD (zc yQ 4999) 4999) 1 (pr 8 119) = .norm (pr 9 137):=by kernel_rfl
theorem pr9:zd (jD (zc yQ 4999) 4999) 1 (pr 9 137) = .norm (pr 10 143):=by kernel_rfl
theorem jbE:zd (jD (zc yQ 4999) 4999) 1 (pr 10 143) = .norm (pr 11 187):=by kernel_rfl
theorem jbD:zd (jD (zc yQ 4999) 4999) 1 (pr 11 187) = .norm (pr 12 203):=by kernel_rfl
theorem jbC:zd (jD (zc yQ 4999) 4999) 1 (pr 12 203) = .norm (pr 13 211):=by kernel_rfl
theorem jbB:zd (jD (zc yQ 4999) 4999) 1 (pr 13 211) = .norm (pr 14 217):=by kernel_rfl
theorem jbA:zd (jD (zc yQ 4999) 4999) 1 (pr 14 217) = .norm (pr 15 227):=by kernel_rfl
theorem jbz:zd (jD (zc yQ 4999) 4999) 1 (pr 15 227) = .norm (pr 16 235):=by kernel_rfl
theorem jby:zd (jD (zc yQ 4999) 4999) 1 (pr 16 235) = .norm (pr 17 237):=by kernel_rfl
theorem jbx:zd (jD (zc yQ 4999) 4999) 1 (pr 17 237) = .norm (pr 18 243):=by kernel_rfl
theorem j8e {L:List (Nat × Nat × Hint × Stp)} {i:Nat} {C:Stp} (h:(qd i L).map (fun x=>x.2.2)=some C) (n:Nat) (v:List DC):zc L (n + 1) i v=C (zc L n) n v:=by
 rw [zc]
 cases hx:qd i L with
 | none=>rw [hx] at h; simp at h
 | some x =>
  rw [hx] at h
  simp only [Option.map_some,j8] at h
  rw [← h]
theorem j3M {F:List DC → Out} {k k':Nat} {v w:List DC} (h:zd F k v = .norm w) (e:k=k'):zd F k' v = .norm w:=e ▸ h
theorem j3L {F:List DC → Out} {k k':Nat} {v:List DC} {o:Out} (h:jG F k v=o) (e:k=k'):jG F k' v=o:=e ▸ h
theorem j9C:zd (jI (zc kg 4999) 4999) 940 (rn 0) = .norm (rn 940):=j3M (jR rn0 (jR rn1 (jR rn2 (jR rn3 (jR rn4 (jR rn5 (jR rn6 (jR rn7 (jR rn8 rn9))))))))) (by decide)
theorem j9B:jG (jI (zc kg 4999) 4999) 4999 [.s tx,.sl [],.i (0:Int),.i (0:Int),.i (0:Int)] = .ex 0 [.s tx,.sl [],.i 0,.i 0]:=j3L (j5v (n:=4058) j9C (by kernel_rfl)) (by decide)
theorem j9x:zd (jF (zc kg 4999) 4999) 243 (tk 0 0) = .norm (tk 243 940):=j3M (jR tk0 (jR tk1 (jR tk2 (jR tk3 (jR tk4 (jR tk5 (jR tk6 (jR tk7 (jR tk8 (jR tk9 (jR jbv (jR jbu jbt)))))))))))) (by decide)
theorem j9w:jG (jF (zc kg 4999) 4999) 4999 [.s tx,.sl [],.sl [],.i (0:Int),.i (0:Int),.i (0:Int)] = .ex 2 [.sl j51,.i 0,.i 0]:=j3L (j5v (n:=4755) j9x (by kernel_rfl)) (by decide)
theorem jal:zc kg 4999 37 [.s tx,.i (0:Int)] = .ret [.i 0]:=by kernel_rfl
theorem j7g:tx.length=940:=by kernel_rfl
theorem j8E {R:Nat → List DC → Out} {n:Nat} {s:List UInt8} {t:List (List DC)} (hl:s.length=940) (h1:jG (jI R n) n [.s s,.sl [],.i (0:Int),.i (0:Int),.i (0:Int)] = .ex 0 [.s s,.sl [],.i 0,.i 0])
  (h2:R 37 [.s s,.i (0:Int)] = .ret [.i 0]) (h3:jG (jF R n) n [.s s,.sl [],.sl [],.i (0:Int),.i (0:Int),.i (0:Int)] = .ex 2 [.sl t,.i 0,.i 0]):qi R n [.s s] = .ret [.sl t,.i 0,.i 0]:=by
 rw [qi]
 simp only [List.getD_cons_zero,List.getD_cons_succ,DC.bb_b,DC.ii_i,DC.ss_s,DC.ll_sl,hl]
 rw [if_neg (by decide),h1]
 simp only [j9,if_true,List.getD_cons_zero,List.getD_cons_succ,DC.bb_b,DC.ii_i,DC.ss_s,DC.ll_sl,h2,Out.bindR_ret,h3]
theorem j8D:zc kg 5000 35 [.s tx] = .ret [.sl j51,.i 0,.i 0]:=(j8e (C:=qi) rfl 4999 [.s tx]).trans (j8E j7g j9B jal j9w)
theorem j8P {R:Nat → List DC → Out} {n:Nat} {s:List UInt8} {t:List (List DC)} (hl:s.length=940) (h:R 35 [.s s] = .ret [.sl t,.i 0,.i 0]):zI R n [.s s] = .ret [.sl t,.i 0,.i 940,.i 0,.i 0]:=by
 rw [zI]
 simp only [List.getD_cons_zero,List.getD_cons_succ,DC.bb_b,DC.ii_i,DC.ss_s,DC.ll_sl,h,Out.bindR_ret,hl]
 rfl
theorem j9M:kk [.s tx] = .ret [.sl j51,.i 0,.i 940,.i 0,.i 0]:=j8P j7g j8D
theorem j9E:zd (jD (zc yQ 4999) 4999) 18 (pr 0 0) = .norm (pr 18 243):=j3M (jR pr0 (jR pr1 (jR pr2 (jR pr3 (jR pr4 (jR pr5 (jR pr6 (jR pr7 (jR pr8 (jR pr9 (jR jbE (jR jbD (jR jbC (jR jbB (jR jbA (jR jbz (jR jby jbx))))))))))))))))) (by decide)
theorem j9D:jG (jD (zc yQ 4999) 4999) 4999 [.i (0:Int),.i (0:Int),.sl j51,.i (0:Int),.i (940:Int),.i (0:Int),.i (0:Int),.sl []] = .ex 0 [.i 0,.i 0,.sl j51,.i 243,.i 940,.i 0,.i 0,.sl (Zm.map TItem.enc)]:=j3L (j5v (n:=4980) j9E (by kernel_rfl)) (by decide)
theorem j6F {R:Nat → List DC → Out} {n:Nat} {s:List UInt8} {t u:List (List DC)} (h:kk [.s s] = .ret [.sl t,.i 0,.i 940,.i 0,.i 0]) (h2:jG (jD R n) n [.i (0:Int),.i (0:Int),.sl t,.i (0:Int),.i (940:Int),.i (0:Int),.i (0:Int),.sl []] = .ex 0 [.i 0,.i 0,.sl t,.i 243,.i 940,.i 0,.i 0,.sl u]):yZ R n [.s s] = .ret [.sl u,.i 0,.i 0]:=by
 have hL:0 < jN:=by decide
 rw [yZ]
 simp only [List.getD_cons_zero,List.getD_cons_succ,DC.bb_b,DC.ii_i,DC.ss_s,DC.ll_sl,h,bsz,X0,hL,if_true,h2,j9]
 rfl
theorem j7O:Q2 [.s tx] = .ret [.sl (Zm.map TItem.enc),.i 0,.i 0]:=j2n ((j8e (C:=yZ) rfl 4999 [.s tx]).trans (j6F j9M j9D))
theorem j3s (v:TProblem):kw (TProblem.enc v)=v.name.length + v.part.length:=by
 simp only [TProblem.enc_eq,kw,DC.wt]
 try omega
theorem j2u (v:TItem):kw (TItem.enc v)=kw (TOp.enc v.op) + kw (TFrag.enc v.frag) + kw (TDef.enc v.def'):=by
 simp only [TItem.enc_eq,kw,DC.wt,TOp.enc_eq,TFrag.enc_eq,TDef.enc_eq]
 try omega
theorem j1W (ns:List (List UInt8)) (hl:ns.length ≤ 1048576):qQ [.sl (ns.map S1),.sl (ns.map S1)] = .ret [.b true]:=by
 rw [YH]
 simp only [KD,List.getD_cons_zero,List.getD_cons_succ,DC.bb_b,DC.ii_i,DC.ss_s,DC.ll_sl]
 refine zH (fun i hi=>?_) ?_
 ·rw [List.length_map] at hi
  have hc1:(i:Int) < (ns.length:Int):=by omega
  simp only [yC,List.getD_cons_zero,List.getD_cons_succ,DC.bb_b,DC.ii_i,DC.ss_s,DC.ll_sl,jl,List.length_map,jE hi,S1]
  simp [hi,hc1,jJ hi (show ns.length ≤ 9223372036854775807 by omega),j9]
 ·simp [yC]
theorem j8g (vs:List TRoot) (hl:vs.length ≤ 1048576):zo [.sl (vs.map TRoot.enc),.sl (vs.map TRoot.enc)] = .ret [.b true]:=by
 rw [YI]
 simp only [KE,List.getD_cons_zero,List.getD_cons_succ,DC.bb_b,DC.ii_i,DC.ss_s,DC.ll_sl]
 refine zH (fun i hi=>?_) ?_
 ·rw [List.length_map] at hi
  have hc1:(i:Int) < (vs.length:Int):=by omega
  simp only [yD,List.getD_cons_zero,List.getD_cons_succ,DC.bb_b,DC.ii_i,DC.ss_s,DC.ll_sl,jl,List.length_map,jE hi,TRoot.enc_eq]
  simp [hi,hc1,jJ hi (show vs.length ≤ 9223372036854775807 by omega),j9]
 ·simp [yD]
theorem j05 (vs:List TProblem) (hl:vs.length ≤ 1048576):pu [.sl (vs.map TProblem.enc),.sl (vs.map TProblem.enc)] = .ret [.b true]:=by
 rw [QZ]
 simp only [J7,List.getD_cons_zero,List.getD_cons_succ,DC.bb_b,DC.ii_i,DC.ss_s,DC.ll_sl]
 refine zH (fun i hi=>?_) ?_
 ·rw [List.length_map] at hi
  have hc1:(i:Int) < (vs.length:Int):=by omega
  simp only [qp,List.getD_cons_zero,List.getD_cons_succ,DC.bb_b,DC.ii_i,DC.ss_s,DC.ll_sl,jl,List.length_map,jE hi,TProblem.enc_eq]
  simp [hi,hc1,jJ hi (show vs.length ≤ 9223372036854775807 by omega),j9]
 ·simp [qp]
theorem j5G (vs:List TValue) (hs:∀ v ∈ vs,kw (TValue.enc v) ≤ 1048576 → kU [.i v.kind,.s v.text,.sl (v.items.map TValue.enc),.sl (v.names.map S1),.i v.kind,.s v.text,.sl (v.items.map TValue.enc),.sl (v.names.map S1)] = .ret [.b true]) (hw:DC.wt (.sl (vs.map TValue.enc)) ≤ 1048576):yN [.sl (vs.map TValue.enc),.sl (vs.map TValue.enc)] = .ret [.b true]:=by
 rw [DC.wt,List.length_map] at hw
 have hl:vs.length ≤ 1048576:=by omega
 rw [XW]
 simp only [K9,List.getD_cons_zero,List.getD_cons_succ,DC.bb_b,DC.ii_i,DC.ss_s,DC.ll_sl]
 refine zH (fun i hi=>?_) ?_
 ·rw [List.length_map] at hi
  have key:=hs vs[i] (jo hi) (by have:=ki (jt (f:=TValue.enc) (jo hi)); omega)
  have hc1:(i:Int) < (vs.length:Int):=by omega
  simp only [yg,List.getD_cons_zero,List.getD_cons_succ,DC.bb_b,DC.ii_i,DC.ss_s,DC.ll_sl,jl,List.length_map,jE hi,TValue.enc_eq] at key ⊢
  simp only [key,List.getD_cons_zero,List.getD_cons_succ,DC.bb_b,DC.ii_i,DC.ss_s,DC.ll_sl,Out.bindR_ret]
  simp [hi,hc1,jJ hi (show vs.length ≤ 9223372036854775807 by omega),j9]
 ·simp [yg]
theorem j4G (v:TValue):kw (TValue.enc v) ≤ 1048576 → kU [.i v.kind,.s v.text,.sl (v.items.map TValue.enc),.sl (v.names.map S1),.i v.kind,.s v.text,.sl (v.items.map TValue.enc),.sl (v.names.map S1)] = .ret [.b true]:=by
 induction v using TValue.ind with | h v ih =>
 intro hw
 rw [qC] at hw
 have h2:=j5G v.items (fun x hx=>ih x hx) (by omega)
 have h3:=j1W v.names (by have h:=hw; simp only [DC.wt,List.length_map] at h; omega)
 rw [YG]
 simp only [KB,List.getD_cons_zero,List.getD_cons_succ,DC.bb_b,DC.ii_i,DC.ss_s,DC.ll_sl,beq_self_eq_true,Bool.and_self,if_true,ja,Out.bindR_ret,h2,h3]
theorem j9X (v:TArg):kw (TArg.enc v) ≤ 1048576 → Jt [.s v.name,.i v.value.kind,.s v.value.text,.sl (v.value.items.map TValue.enc),.sl (v.value.names.map S1),.s v.name,.i v.value.kind,.s v.value.text,.sl (v.value.items.map TValue.enc),.sl (v.value.names.map S1)] = .ret [.b true]:=by
 intro hw
 rw [QL] at hw
 have h1:=j4G v.value (by omega)
 rw [j0x]
 simp only [Vr,List.getD_cons_zero,List.getD_cons_succ,DC.bb_b,DC.ii_i,DC.ss_s,DC.ll_sl,beq_self_eq_true,Bool.and_self,if_true,ja,Out.bindR_ret,h1]
theorem j8X (vs:List TArg) (hw:DC.wt (.sl (vs.map TArg.enc)) ≤ 1048576):zY [.sl (vs.map TArg.enc),.sl (vs.map TArg.enc)] = .ret [.b true]:=by
 rw [DC.wt,List.length_map] at hw
 have hl:vs.length ≤ 1048576:=by omega
 rw [Zw]
 simp only [Qs,List.getD_cons_zero,List.getD_cons_succ,DC.bb_b,DC.ii_i,DC.ss_s,DC.ll_sl]
 refine zH (fun i hi=>?_) ?_
 ·rw [List.length_map] at hi
  have key:=j9X vs[i] (by have:=ki (jt (f:=TArg.enc) (jo hi)); omega)
  have hc1:(i:Int) < (vs.length:Int):=by omega
  simp only [yY,List.getD_cons_zero,List.getD_cons_succ,DC.bb_b,DC.ii_i,DC.ss_s,DC.ll_sl,jl,List.length_map,jE hi,TArg.enc_eq] at key ⊢
  simp only [key,List.getD_cons_zero,List.getD_cons_succ,DC.bb_b,DC.ii_i,DC.ss_s,DC.ll_sl,Out.bindR_ret]
  simp [hi,hc1,jJ hi (show vs.length ≤ 9223372036854775807 by omega),j9]
 ·simp [yY]
theorem j9V (v:TDir):kw (TDir.enc v) ≤ 1048576 → Jr [.s v.name,.sl (v.args.map TArg.enc),.s v.name,.sl (v.args.map TArg.enc)] = .ret [.b true]:=by
 intro hw
 rw [QK] at hw
 have h1:=j8X v.args (by omega)
 rw [j0v]
 simp only [Vp,List.getD_cons_zero,List.getD_cons_succ,DC.bb_b,DC.ii_i,DC.ss_s,DC.ll_sl,beq_self_eq_true,Bool.and_self,if_true,ja,Out.bindR_ret,h1]
theorem j1a (vs:List TDir) (hw:DC.wt (.sl (vs.map TDir.enc)) ≤ 1048576):pa [.sl (vs.map TDir.enc),.sl (vs.map TDir.enc)] = .ret [.b true]:=by
 rw [DC.wt,List.length_map] at hw
 have hl:vs.length ≤ 1048576:=by omega
 rw [Zu]
 simp only [Qq,List.getD_cons_zero,List.getD_cons_succ,DC.bb_b,DC.ii_i,DC.ss_s,DC.ll_sl]
 refine zH (fun i hi=>?_) ?_
 ·rw [List.length_map] at hi
  have key:=j9V vs[i] (by have:=ki (jt (f:=TDir.enc) (jo hi)); omega)
  have hc1:(i:Int) < (vs.length:Int):=by omega
  simp only [yW,List.getD_cons_zero,List.getD_cons_succ,DC.bb_b,DC.ii_i,DC.ss_s,DC.ll_sl,jl,List.length_map,jE hi,TDir.enc_eq] at key ⊢
  simp only [key,List.getD_cons_zero,List.getD_cons_succ,DC.bb_b,DC.ii_i,DC.ss_s,DC.ll_sl,Out.bindR_ret]
  simp [hi,hc1,jJ hi (show vs.length ≤ 9223372036854775807 by omega),j9]
 ·simp [yW]
theorem j8f (v:TInDef):kw (TInDef.enc v) ≤ 1048576 → zp [.s v.name,.s v.desc,.s v.type'.name,.s v.type'.wraps,.b v.has',.i v.default'.kind,.s v.default'.text,.sl (v.default'.items.map TValue.enc),.sl (v.default'.names.map S1),.sl (v.dirs.map TDir.enc),.s v.name,.s v.desc,.s v.type'.name,.s v.type'.wraps,.b v.has',.i v.default'.kind,.s v.default'.text,.sl (v.default'.items.map TValue.enc),.sl (v.default'.names.map S1),.sl (v.dirs.map TDir.enc)] = .ret [.b true]:=by
 intro hw
 rw [yq] at hw
 have h4:=j4G v.default' (by omega)
 have h5:=j1a v.dirs (by omega)
 rw [YJ]
 simp only [KF,List.getD_cons_zero,List.getD_cons_succ,DC.bb_b,DC.ii_i,DC.ss_s,DC.ll_sl,beq_self_eq_true,Bool.and_self,if_true,ja,Out.bindR_ret,h4,h5]
theorem j38 (vs:List TInDef) (hw:DC.wt (.sl (vs.map TInDef.enc)) ≤ 1048576):qv [.sl (vs.map TInDef.enc),.sl (vs.map TInDef.enc)] = .ret [.b true]:=by
 rw [DC.wt,List.length_map] at hw
 have hl:vs.length ≤ 1048576:=by omega
 rw [XX]
 simp only [Ka,List.getD_cons_zero,List.getD_cons_succ,DC.bb_b,DC.ii_i,DC.ss_s,DC.ll_sl]
 refine zH (fun i hi=>?_) ?_
 ·rw [List.length_map] at hi
  have key:=j8f vs[i] (by have:=ki (jt (f:=TInDef.enc) (jo hi)); omega)
  have hc1:(i:Int) < (vs.length:Int):=by omega
  simp only [yh,List.getD_cons_zero,List.getD_cons_succ,DC.bb_b,DC.ii_i,DC.ss_s,DC.ll_sl,jl,List.length_map,jE hi,TInDef.enc_eq] at key ⊢
  simp only [key,List.getD_cons_zero,List.getD_cons_succ,DC.bb_b,DC.ii_i,DC.ss_s,DC.ll_sl,Out.bindR_ret]
  simp [hi,hc1,jJ hi (show vs.length ≤ 9223372036854775807 by omega),j9]
 ·simp [yh]
theorem j4H (v:TFieldDef):kw (TFieldDef.enc v) ≤ 1048576 → yd [.s v.name,.s v.desc,.sl (v.args.map TInDef.enc),.s v.type'.name,.s v.type'.wraps,.sl (v.dirs.map TDir.enc),.s v.name,.s v.desc,.sl (v.args.map TInDef.enc),.s v.type'.name,.s v.type'.wraps,.sl (v.dirs.map TDir.enc)] = .ret [.b true]:=by
 intro hw
 rw [zz] at hw
 have h2:=j38 v.args (by omega)
 have h4:=j1a v.dirs (by omega)
 rw [V0]
 simp only [J8,List.getD_cons_zero,List.getD_cons_succ,DC.bb_b,DC.ii_i,DC.ss_s,DC.ll_sl,beq_self_eq_true,Bool.and_self,if_true,ja,Out.bindR_ret,h2,h4]
theorem j3T (vs:List TFieldDef) (hw:DC.wt (.sl (vs.map TFieldDef.enc)) ≤ 1048576):qK [.sl (vs.map TFieldDef.enc),.sl (vs.map TFieldDef.enc)] = .ret [.b true]:=by
 rw [DC.wt,List.length_map] at hw
 have hl:vs.length ≤ 1048576:=by omega
 rw [QD]
 simp only [zS,List.getD_cons_zero,List.getD_cons_succ,DC.bb_b,DC.ii_i,DC.ss_s,DC.ll_sl]
 refine zH (fun i hi=>?_) ?_
 ·rw [List.length_map] at hi
  have key:=j4H vs[i] (by have:=ki (jt (f:=TFieldDef.enc) (jo hi)); omega)
  have hc1:(i:Int) < (vs.length:Int):=by omega
  simp only [pW,List.getD_cons_zero,List.getD_cons_succ,DC.bb_b,DC.ii_i,DC.ss_s,DC.ll_sl,jl,List.length_map,jE hi,TFieldDef.enc_eq] at key ⊢
  simp only [key,List.getD_cons_zero,List.getD_cons_succ,DC.bb_b,DC.ii_i,DC.ss_s,DC.ll_sl,Out.bindR_ret]
  simp [hi,hc1,jJ hi (show vs.length ≤ 9223372036854775807 by omega),j9]
 ·simp [pW]
theorem j5F (v:TEnumDef):kw (TEnumDef.enc v) ≤ 1048576 → yw [.s v.name,.s v.desc,.sl (v.dirs.map TDir.enc),.s v.name,.s v.desc,.sl (v.dirs.map TDir.enc)] = .ret [.b true]:=by
 intro hw
 rw [yH] at hw
 have h2:=j1a v.dirs (by omega)
 rw [X4]
 simp only [JF,List.getD_cons_zero,List.getD_cons_succ,DC.bb_b,DC.ii_i,DC.ss_s,DC.ll_sl,beq_self_eq_true,Bool.and_self,if_true,ja,Out.bindR_ret,h2]
theorem j4I (vs:List TEnumDef) (hw:DC.wt (.sl (vs.map TEnumDef.enc)) ≤ 1048576):ye [.sl (vs.map TEnumDef.enc),.sl (vs.map TEnumDef.enc)] = .ret [.b true]:=by
 rw [DC.wt,List.length_map] at hw
 have hl:vs.length ≤ 1048576:=by omega
 rw [V1]
 simp only [J9,List.getD_cons_zero,List.getD_cons_succ,DC.bb_b,DC.ii_i,DC.ss_s,DC.ll_sl]
 refine zH (fun i hi=>?_) ?_
 ·rw [List.length_map] at hi
  have key:=j5F vs[i] (by have:=ki (jt (f:=TEnumDef.enc) (jo hi)); omega)
  have hc1:(i:Int) < (vs.length:Int):=by omega
  simp only [qq,List.getD_cons_zero,List.getD_cons_succ,DC.bb_b,DC.ii_i,DC.ss_s,DC.ll_sl,jl,List.length_map,jE hi,TEnumDef.enc_eq] at key ⊢
  simp only [key,List.getD_cons_zero,List.getD_cons_succ,DC.bb_b,DC.ii_i,DC.ss_s,DC.ll_sl,Out.bindR_ret]
  simp [hi,hc1,jJ hi (show vs.length ≤ 9223372036854775807 by omega),j9]
 ·simp [qq]
theorem j9W (v:TDef):kw (TDef.enc v) ≤ 1048576 → Js [.i v.kind,.b v.ext,.s v.desc,.s v.name,.sl (v.faces.map S1),.sl (v.fields.map TFieldDef.enc),.sl (v.inputs.map TInDef.enc),.sl (v.values.map TEnumDef.enc),.sl (v.roots.map TRoot.enc),.b v.repeat',.sl (v.dirs.map TDir.enc),.i v.kind,.b v.ext,.s v.desc,.s v.name,.sl (v.faces.map S1),.sl (v.fields.map TFieldDef.enc),.sl (v.inputs.map TInDef.enc),.sl (v.values.map TEnumDef.enc),.sl (v.roots.map TRoot.enc),.b v.repeat',.sl (v.dirs.map TDir.enc)] = .ret [.b true]:=by
 intro hw
 rw [yI] at hw
 have h4:=j1W v.faces (by have h:=hw; simp only [DC.wt,List.length_map] at h; omega)
 have h5:=j3T v.fields (by omega)
 have h6:=j38 v.inputs (by omega)
 have h7:=j4I v.values (by omega)
 have h8:=j8g v.roots (by have h:=hw; simp only [DC.wt,List.length_map] at h; omega)
 have h10:=j1a v.dirs (by omega)
 rw [j0w]
 simp only [Vq,List.getD_cons_zero,List.getD_cons_succ,DC.bb_b,DC.ii_i,DC.ss_s,DC.ll_sl,beq_self_eq_true,Bool.and_self,if_true,ja,Out.bindR_ret,h4,h5,h6,h7,h8,h10]
theorem j6h (vs:List TDef) (hw:DC.wt (.sl (vs.map TDef.enc)) ≤ 1048576):ym [.sl (vs.map TDef.enc),.sl (vs.map TDef.enc)] = .ret [.b true]:=by
 rw [DC.wt,List.length_map] at hw
 have hl:vs.length ≤ 1048576:=by omega
 rw [Zv]
 simp only [Qr,List.getD_cons_zero,List.getD_cons_succ,DC.bb_b,DC.ii_i,DC.ss_s,DC.ll_sl]
 refine zH (fun i hi=>?_) ?_
 ·rw [List.length_map] at hi
  have key:=j9W vs[i] (by have:=ki (jt (f:=TDef.enc) (jo hi)); omega)
  have hc1:(i:Int) < (vs.length:Int):=by omega
  simp only [yX,List.getD_cons_zero,List.getD_cons_succ,DC.bb_b,DC.ii_i,DC.ss_s,DC.ll_sl,jl,List.length_map,jE hi,TDef.enc_eq] at key ⊢
  simp only [key,List.getD_cons_zero,List.getD_cons_succ,DC.bb_b,DC.ii_i,DC.ss_s,DC.ll_sl,Out.bindR_ret]
  simp [hi,hc1,jJ hi (show vs.length ≤ 9223372036854775807 by omega),j9]
 ·simp [yX]
theorem qR {n:Nat} (h:n ≤ 1048576):n + 1 < jN:=by unfold jN; omega
theorem j1I {n:Nat} (h:n ≤ 1048576):0 + n < jN:=by unfold jN; omega
theorem zA {α β:Type} {f:α → β} {l:List α} {j:Nat} (h:j < l.length):(l.take (j + 1)).map f=(l.take j).map f ++ [f l[j]]:=by
 rw [List.take_succ_eq_append_getElem h,List.map_append]
 rfl
theorem j4M {α:Type} {enc:α → List DC} {vs:List α} {F:List DC → Out} (hF:∀ (i:Nat) (hi:i < vs.length),F [.sl (vs.map enc),.sl ((vs.take i).map enc),.i (i:Int)] = .norm [.sl (vs.map enc),.sl ((vs.take i).map enc ++ [enc vs[i]]),.i ((i + 1:Nat):Int)])
  (hend:F [.sl (vs.map enc),.sl (vs.map enc),.i (vs.length:Int)] = .ex 0 [.sl (vs.map enc)]):jO F [.sl (vs.map enc),.sl [],.i (0:Int)] = .ex 0 [.sl (vs.map enc)]:=by
 have key:=pE (F:=F) (st:=fun i=>[.sl (vs.map enc),.sl ((vs.take i).map enc),.i (i:Int)]) (o:=.ex 0 [.sl (vs.map enc)]) vs.length 0 (fun j _ hj=>by
  have hi:j < vs.length:=by omega
  rw [zA hi]
  exact hF j hi) (kD (by rw [Nat.zero_add,List.take_length]; exact hend))
 exact key
theorem j3c {α:Type} {enc:α → List DC} {vs:List α} {F:List DC → Out} (hF:∀ (i:Nat) (hi:i < vs.length),F [.sl ((vs.take i).map enc),.sl (vs.map enc),.i ((vs.map enc).length:Int),.i (i:Int)] = .norm [.sl ((vs.take i).map enc ++ [enc vs[i]]),.sl (vs.map enc),.i ((vs.map enc).length:Int),.i ((i + 1:Nat):Int)])
  (hend:F [.sl (vs.map enc),.sl (vs.map enc),.i ((vs.map enc).length:Int),.i (vs.length:Int)] = .ex 0 [.sl (vs.map enc)]):jO F [.sl [],.sl (vs.map enc),.i ((vs.map enc).length:Int),.i (0:Int)] = .ex 0 [.sl (vs.map enc)]:=by
 have key:=pE (F:=F) (st:=fun i=>[.sl ((vs.take i).map enc),.sl (vs.map enc),.i ((vs.map enc).length:Int),.i (i:Int)]) (o:=.ex 0 [.sl (vs.map enc)]) vs.length 0 (fun j _ hj=>by
  have hi:j < vs.length:=by omega
  rw [zA hi]
  exact hF j hi) (kD (by rw [Nat.zero_add,List.take_length]; exact hend))
 exact key
theorem Qk (v:TValue):kw (TValue.enc v) ≤ 1048576 → qJ [.i v.kind,.s v.text,.sl (v.items.map TValue.enc),.sl (v.names.map S1)] = .ret (TValue.enc v):=by
 induction v using TValue.ind with | h v ih =>
 intro hw
 rw [qC] at hw
 have hn:v.names.length ≤ 1048576:=by have h:=hw; simp only [DC.wt,List.length_map] at h; omega
 have hl:v.items.length ≤ 1048576:=by have h:=hw; simp only [DC.wt,List.length_map] at h; omega
 rw [j0o]
 simp only [Vi,List.getD_cons_zero,List.getD_cons_succ,DC.bb_b,DC.ii_i,DC.ss_s,DC.ll_sl,List.length_map,je]
 rw [if_pos (j1I hn)]
 have key:=pE (F:=pK) (st:=fun i=>[.i (i:Int),.i v.kind,.s v.text,.sl (v.items.map TValue.enc),.sl (v.names.map S1),.i 0,.s [],.i v.kind,.s v.text,.sl ((v.items.take i).map TValue.enc),.sl (v.names.map S1)]) (o:=.ex 0 [.i 0,.s [],.i v.kind,.s v.text,.sl (v.items.map TValue.enc),.sl (v.names.map S1)]) v.items.length 0 (fun j _ hj=>?step) ?fin
 ·have key':jO pK [.i 0,.i v.kind,.s v.text,.sl (v.items.map TValue.enc),.sl (v.names.map S1),.i 0,.s [],.i v.kind,.s v.text,.sl [],.sl ([] ++ v.names.map S1)] = .ex 0 [.i 0,.s [],.i v.kind,.s v.text,.sl (v.items.map TValue.enc),.sl (v.names.map S1)]:=key
  rw [key',TValue.enc_eq]
  simp [j9]
 case step =>
  have hi:j < v.items.length:=by omega
  have hc1:(j:Int) < (v.items.length:Int):=by omega
  have hv:=ih v.items[j] (jo hi) (by have:=ki (jt (f:=TValue.enc) (jo hi)); rw [DC.wt] at hw; omega)
  have hL:j + 1 < jN:=qR (by omega)
  have hm:min j v.items.length=j:=by omega
  rw [zA hi]
  simp only [pK,List.getD_cons_zero,List.getD_cons_succ,DC.bb_b,DC.ii_i,DC.ss_s,DC.ll_sl,jl,List.length_map,jE hi,TValue.enc_eq v.items[j],hv,Out.bindR_ret,List.length_take,hm]
  simp [hi,hc1,hL,j9,jJ hi (show v.items.length ≤ 9223372036854775807 by omega),TValue.enc_eq v.items[j]]
 case fin =>
  refine kD ?_
  rw [Nat.zero_add,List.take_length]
  simp [pK]
theorem ZA (vs:List TArg) (hw:DC.wt (.sl (vs.map TArg.enc)) ≤ 1048576):Jp [.sl (vs.map TArg.enc)] = .ret [.sl (vs.map TArg.enc)]:=by
 have hl:vs.length ≤ 1048576:=by rw [DC.wt,List.length_map] at hw; omega
 rw [j0m]
 simp only [Vg,List.getD_cons_zero,DC.ll_sl]
 rw [j4M (F:=qY) (fun j hi=>?step) ?fin]
 ·rfl
 case step =>
  have hwj:kw (TArg.enc vs[j]) ≤ 1048576:=by have:=ki (jt (f:=TArg.enc) (jo hi)); rw [DC.wt] at hw; omega
  rw [QL] at hwj
  have q0:=Qk vs[j].value (by omega)
  rw [TValue.enc_eq] at q0
  have hc1:(j:Int) < (vs.length:Int):=by omega
  have hL:j + 1 < jN:=qR (by omega)
  have hm:min j vs.length=j:=by omega
  simp only [qY,List.getD_cons_zero,List.getD_cons_succ,DC.bb_b,DC.ii_i,DC.ss_s,DC.ll_sl,jl,List.length_map,jE hi,TArg.enc_eq vs[j],q0,Out.bindR_ret,List.length_take,hm]
  simp [hi,hc1,hL,j9,jJ hi (show vs.length ≤ 9223372036854775807 by omega),TArg.enc_eq vs[j],jE hi]
 case fin=>simp [qY]
theorem qT (vs:List TDir) (hw:DC.wt (.sl (vs.map TDir.enc)) ≤ 1048576):pB [.sl (vs.map TDir.enc)] = .ret [.sl (vs.map TDir.enc)]:=by
 have hl:vs.length ≤ 1048576:=by rw [DC.wt,List.length_map] at hw; omega
 rw [j0l]
 simp only [Vf,List.getD_cons_zero,DC.ll_sl]
 rw [j4M (F:=qX) (fun j hi=>?step) ?fin]
 ·rfl
 case step =>
  have hwj:kw (TDir.enc vs[j]) ≤ 1048576:=by have:=ki (jt (f:=TDir.enc) (jo hi)); rw [DC.wt] at hw; omega
  rw [QK] at hwj
  have q0:=ZA vs[j].args (by omega)
  have hc1:(j:Int) < (vs.length:Int):=by omega
  have hL:j + 1 < jN:=qR (by omega)
  have hm:min j vs.length=j:=by omega
  simp only [qX,List.getD_cons_zero,List.getD_cons_succ,DC.bb_b,DC.ii_i,DC.ss_s,DC.ll_sl,jl,List.length_map,jE hi,TDir.enc_eq vs[j],q0,Out.bindR_ret,List.length_take,hm]
  simp [hi,hc1,hL,j9,jJ hi (show vs.length ≤ 9223372036854775807 by omega),TDir.enc_eq vs[j],jE hi]
 case fin=>simp [qX]
theorem J6 (vs:List TInDef) (hw:DC.wt (.sl (vs.map TInDef.enc)) ≤ 1048576):qu [.sl (vs.map TInDef.enc)] = .ret [.sl (vs.map TInDef.enc)]:=by
 have hl:vs.length ≤ 1048576:=by rw [DC.wt,List.length_map] at hw; omega
 rw [XT]
 simp only [K6,List.getD_cons_zero,DC.ll_sl]
 rw [j4M (F:=px) (fun j hi=>?step) ?fin]
 ·rfl
 case step =>
  have hwj:kw (TInDef.enc vs[j]) ≤ 1048576:=by have:=ki (jt (f:=TInDef.enc) (jo hi)); rw [DC.wt] at hw; omega
  rw [yq] at hwj
  have q0:=Qk vs[j].default' (by omega)
  rw [TValue.enc_eq] at q0
  have q1:=qT vs[j].dirs (by omega)
  have hc1:(j:Int) < (vs.length:Int):=by omega
  have hL:j + 1 < jN:=qR (by omega)
  have hm:min j vs.length=j:=by omega
  simp only [px,List.getD_cons_zero,List.getD_cons_succ,DC.bb_b,DC.ii_i,DC.ss_s,DC.ll_sl,jl,List.length_map,jE hi,TInDef.enc_eq vs[j],q0,q1,Out.bindR_ret,List.length_take,hm]
  simp [hi,hc1,hL,j9,jJ hi (show vs.length ≤ 9223372036854775807 by omega),TInDef.enc_eq vs[j],jE hi]
 case fin=>simp [px]
theorem Qb (vs:List TEnumDef) (hw:DC.wt (.sl (vs.map TEnumDef.enc)) ≤ 1048576):qG [.sl (vs.map TEnumDef.enc)] = .ret [.sl (vs.map TEnumDef.enc)]:=by
 have hl:vs.length ≤ 1048576:=by rw [DC.wt,List.length_map] at hw; omega
 rw [QB]
 simp only [zQ,List.getD_cons_zero,DC.ll_sl]
 rw [j4M (F:=kR) (fun j hi=>?step) ?fin]
 ·rfl
 case step =>
  have hwj:kw (TEnumDef.enc vs[j]) ≤ 1048576:=by have:=ki (jt (f:=TEnumDef.enc) (jo hi)); rw [DC.wt] at hw; omega
  rw [yH] at hwj
  have q0:=qT vs[j].dirs (by omega)
  have hc1:(j:Int) < (vs.length:Int):=by omega
  have hL:j + 1 < jN:=qR (by omega)
  have hm:min j vs.length=j:=by omega
  simp only [kR,List.getD_cons_zero,List.getD_cons_succ,DC.bb_b,DC.ii_i,DC.ss_s,DC.ll_sl,jl,List.length_map,jE hi,TEnumDef.enc_eq vs[j],q0,Out.bindR_ret,List.length_take,hm]
  simp [hi,hc1,hL,j9,jJ hi (show vs.length ≤ 9223372036854775807 by omega),TEnumDef.enc_eq vs[j],jE hi]
 case fin=>simp [kR]
theorem Qc (vs:List TFieldDef) (hw:DC.wt (.sl (vs.map TFieldDef.enc)) ≤ 1048576):qH [.sl (vs.map TFieldDef.enc)] = .ret [.sl (vs.map TFieldDef.enc)]:=by
 have hl:vs.length ≤ 1048576:=by rw [DC.wt,List.length_map] at hw; omega
 rw [QC]
 simp only [zR,List.getD_cons_zero,DC.ll_sl]
 rw [j4M (F:=kS) (fun j hi=>?step) ?fin]
 ·rfl
 case step =>
  have hwj:kw (TFieldDef.enc vs[j]) ≤ 1048576:=by have:=ki (jt (f:=TFieldDef.enc) (jo hi)); rw [DC.wt] at hw; omega
  rw [zz] at hwj
  have q0:=J6 vs[j].args (by omega)
  have q1:=qT vs[j].dirs (by omega)
  have hc1:(j:Int) < (vs.length:Int):=by omega
  have hL:j + 1 < jN:=qR (by omega)
  have hm:min j vs.length=j:=by omega
  simp only [kS,List.getD_cons_zero,List.getD_cons_succ,DC.bb_b,DC.ii_i,DC.ss_s,DC.ll_sl,jl,List.length_map,jE hi,TFieldDef.enc_eq vs[j],q0,q1,Out.bindR_ret,List.length_take,hm]
  simp [hi,hc1,hL,j9,jJ hi (show vs.length ≤ 9223372036854775807 by omega),TFieldDef.enc_eq vs[j],jE hi]
 case fin=>simp [kS]
theorem J3 (v:TDef) (hw:kw (TDef.enc v) ≤ 1048576):qI [.i v.kind,.b v.ext,.s v.desc,.s v.name,.sl (v.faces.map S1),.sl (v.fields.map TFieldDef.enc),.sl (v.inputs.map TInDef.enc),.sl (v.values.map TEnumDef.enc),.sl (v.roots.map TRoot.enc),.b v.repeat',.sl (v.dirs.map TDir.enc)] = .ret (TDef.enc v):=by
 rw [yI] at hw
 have u0:v.faces.length ≤ 1048576:=by have h:DC.wt (.sl (v.faces.map S1)) ≤ 1048576:=(by omega); rw [DC.wt,List.length_map] at h; omega
 have q0:=j1I u0
 have q1:=Qc v.fields (by omega)
 have q2:=J6 v.inputs (by omega)
 have q3:=Qb v.values (by omega)
 have u4:v.roots.length ≤ 1048576:=by have h:DC.wt (.sl (v.roots.map TRoot.enc)) ≤ 1048576:=(by omega); rw [DC.wt,List.length_map] at h; omega
 have q4:=j1I u4
 have q5:=qT v.dirs (by omega)
 rw [j0j,TDef.enc_eq]
 simp only [Vd,List.getD_cons_zero,List.getD_cons_succ,DC.bb_b,DC.ii_i,DC.ss_s,DC.ll_sl,q0,q1,q2,q3,q4,q5,Out.bindR_ret,List.length_map,je,if_true,ju]
theorem Jy (v:TValue):kw (TValue.enc v) ≤ 1048576 → pf [.i v.kind,.s v.text,.sl (v.items.map TValue.enc),.sl (v.names.map S1)] = .ret (TValue.enc v):=by
 induction v using TValue.ind with | h v ih =>
 intro hw
 rw [qC] at hw
 have hn:v.names.length ≤ 1048576:=by have h:=hw; simp only [DC.wt,List.length_map] at h; omega
 have hl:v.items.length ≤ 1048576:=by have h:=hw; simp only [DC.wt,List.length_map] at h; omega
 rw [XZ]
 simp only [Kc,List.getD_cons_zero,List.getD_cons_succ,DC.bb_b,DC.ii_i,DC.ss_s,DC.ll_sl,yV (v.names.map S1) (by rw [List.length_map]; omega),Out.bindR_ret]
 have key:=pE (F:=kO) (st:=fun i=>[.sl (v.items.map TValue.enc),.i ((v.items.map TValue.enc).length:Int),.i (i:Int),.i 0,.s [],.i v.kind,.s v.text,.sl ((v.items.take i).map TValue.enc),.sl (v.names.map S1)]) (o:=.ex 0 [.i 0,.s [],.i v.kind,.s v.text,.sl (v.items.map TValue.enc),.sl (v.names.map S1)]) v.items.length 0 (fun j _ hj=>?step) ?fin
 ·have key':jO kO [.sl (v.items.map TValue.enc),.i ((v.items.map TValue.enc).length:Int),.i 0,.i 0,.s [],.i v.kind,.s v.text,.sl [],.sl (v.names.map S1)] = .ex 0 [.i 0,.s [],.i v.kind,.s v.text,.sl (v.items.map TValue.enc),.sl (v.names.map S1)]:=key
  rw [key',TValue.enc_eq]
  simp [j9]
 case step =>
  have hi:j < v.items.length:=by omega
  have hc1:(j:Int) < (v.items.length:Int):=by omega
  have hv:=ih v.items[j] (jo hi) (by have:=ki (jt (f:=TValue.enc) (jo hi)); rw [DC.wt] at hw; omega)
  have hL:j + 1 < jN:=qR (by omega)
  have hm:min j v.items.length=j:=by omega
  rw [zA hi]
  simp only [kO,List.getD_cons_zero,List.getD_cons_succ,DC.bb_b,DC.ii_i,DC.ss_s,DC.ll_sl,jl,List.length_map,jE hi,TValue.enc_eq v.items[j],hv,Out.bindR_ret,List.length_take,hm]
  simp [hi,hc1,hL,j9,jJ hi (show v.items.length ≤ 9223372036854775807 by omega),TValue.enc_eq v.items[j]]
 case fin =>
  refine kD ?_
  rw [Nat.zero_add,List.take_length]
  simp [kO]
theorem Y4 (vs:List TArg) (hw:DC.wt (.sl (vs.map TArg.enc)) ≤ 1048576):zr [.sl (vs.map TArg.enc)] = .ret [.sl (vs.map TArg.enc)]:=by
 have hl:vs.length ≤ 1048576:=by rw [DC.wt,List.length_map] at hw; omega
 rw [YM]
 simp only [KI,List.getD_cons_zero,DC.ll_sl]
 rw [j3c (F:=pZ) (fun j hi=>?step) ?fin]
 ·rfl
 case step =>
  have hwj:kw (TArg.enc vs[j]) ≤ 1048576:=by have:=ki (jt (f:=TArg.enc) (jo hi)); rw [DC.wt] at hw; omega
  rw [QL] at hwj
  have q0:=Jy vs[j].value (by omega)
  rw [TValue.enc_eq] at q0
  have hc1:(j:Int) < (vs.length:Int):=by omega
  have hL:j + 1 < jN:=qR (by omega)
  have hm:min j vs.length=j:=by omega
  simp only [pZ,List.getD_cons_zero,List.getD_cons_succ,DC.bb_b,DC.ii_i,DC.ss_s,DC.ll_sl,jl,List.length_map,jE hi,TArg.enc_eq vs[j],q0,Out.bindR_ret,List.length_take,hm]
  simp [hi,hc1,hL,j9,jJ hi (show vs.length ≤ 9223372036854775807 by omega),TArg.enc_eq vs[j],jE hi]
 case fin=>simp [pZ]
theorem pV (vs:List TDir) (hw:DC.wt (.sl (vs.map TDir.enc)) ≤ 1048576):kV [.sl (vs.map TDir.enc)] = .ret [.sl (vs.map TDir.enc)]:=by
 have hl:vs.length ≤ 1048576:=by rw [DC.wt,List.length_map] at hw; omega
 rw [YK]
 simp only [KG,List.getD_cons_zero,DC.ll_sl]
 rw [j3c (F:=pX) (fun j hi=>?step) ?fin]
 ·rfl
 case step =>
  have hwj:kw (TDir.enc vs[j]) ≤ 1048576:=by have:=ki (jt (f:=TDir.enc) (jo hi)); rw [DC.wt] at hw; omega
  rw [QK] at hwj
  have q0:=Y4 vs[j].args (by omega)
  have hc1:(j:Int) < (vs.length:Int):=by omega
  have hL:j + 1 < jN:=qR (by omega)
  have hm:min j vs.length=j:=by omega
  simp only [pX,List.getD_cons_zero,List.getD_cons_succ,DC.bb_b,DC.ii_i,DC.ss_s,DC.ll_sl,jl,List.length_map,jE hi,TDir.enc_eq vs[j],q0,Out.bindR_ret,List.length_take,hm]
  simp [hi,hc1,hL,j9,jJ hi (show vs.length ≤ 9223372036854775807 by omega),TDir.enc_eq vs[j],jE hi]
 case fin=>simp [pX]
theorem K2 (vs:List TInDef) (hw:DC.wt (.sl (vs.map TInDef.enc)) ≤ 1048576):yo [.sl (vs.map TInDef.enc)] = .ret [.sl (vs.map TInDef.enc)]:=by
 have hl:vs.length ≤ 1048576:=by rw [DC.wt,List.length_map] at hw; omega
 rw [Zx]
 simp only [Qt,List.getD_cons_zero,DC.ll_sl]
 rw [j3c (F:=qA) (fun j hi=>?step) ?fin]
 ·rfl
 case step =>
  have hwj:kw (TInDef.enc vs[j]) ≤ 1048576:=by have:=ki (jt (f:=TInDef.enc) (jo hi)); rw [DC.wt] at hw; omega
  rw [yq] at hwj
  have q0:=Jy vs[j].default' (by omega)
  rw [TValue.enc_eq] at q0
  have q1:=pV vs[j].dirs (by omega)
  have hc1:(j:Int) < (vs.length:Int):=by omega
  have hL:j + 1 < jN:=qR (by omega)
  have hm:min j vs.length=j:=by omega
  simp only [qA,List.getD_cons_zero,List.getD_cons_succ,DC.bb_b,DC.ii_i,DC.ss_s,DC.ll_sl,jl,List.length_map,jE hi,TInDef.enc_eq vs[j],q0,q1,Out.bindR_ret,List.length_take,hm]
  simp [hi,hc1,hL,j9,jJ hi (show vs.length ≤ 9223372036854775807 by omega),TInDef.enc_eq vs[j],jE hi]
 case fin=>simp [qA]
theorem X7 (vs:List TEnumDef) (hw:DC.wt (.sl (vs.map TEnumDef.enc)) ≤ 1048576):yO [.sl (vs.map TEnumDef.enc)] = .ret [.sl (vs.map TEnumDef.enc)]:=by
 have hl:vs.length ≤ 1048576:=by rw [DC.wt,List.length_map] at hw; omega
 rw [Y0]
 simp only [Kd,List.getD_cons_zero,DC.ll_sl]
 rw [j3c (F:=pz) (fun j hi=>?step) ?fin]
 ·rfl
 case step =>
  have hwj:kw (TEnumDef.enc vs[j]) ≤ 1048576:=by have:=ki (jt (f:=TEnumDef.enc) (jo hi)); rw [DC.wt] at hw; omega
  rw [yH] at hwj
  have q0:=pV vs[j].dirs (by omega)
  have hc1:(j:Int) < (vs.length:Int):=by omega
  have hL:j + 1 < jN:=qR (by omega)
  have hm:min j vs.length=j:=by omega
  simp only [pz,List.getD_cons_zero,List.getD_cons_succ,DC.bb_b,DC.ii_i,DC.ss_s,DC.ll_sl,jl,List.length_map,jE hi,TEnumDef.enc_eq vs[j],q0,Out.bindR_ret,List.length_take,hm]
  simp [hi,hc1,hL,j9,jJ hi (show vs.length ≤ 9223372036854775807 by omega),TEnumDef.enc_eq vs[j],jE hi]
 case fin=>simp [pz]
theorem V4 (vs:List TFieldDef) (hw:DC.wt (.sl (vs.map TFieldDef.enc)) ≤ 1048576):yx [.sl (vs.map TFieldDef.enc)] = .ret [.sl (vs.map TFieldDef.enc)]:=by
 have hl:vs.length ≤ 1048576:=by rw [DC.wt,List.length_map] at hw; omega
 rw [X5]
 simp only [JG,List.getD_cons_zero,DC.ll_sl]
 rw [j3c (F:=pj) (fun j hi=>?step) ?fin]
 ·rfl
 case step =>
  have hwj:kw (TFieldDef.enc vs[j]) ≤ 1048576:=by have:=ki (jt (f:=TFieldDef.enc) (jo hi)); rw [DC.wt] at hw; omega
  rw [zz] at hwj
  have q0:=K2 vs[j].args (by omega)
  have q1:=pV vs[j].dirs (by omega)
  have hc1:(j:Int) < (vs.length:Int):=by omega
  have hL:j + 1 < jN:=qR (by omega)
  have hm:min j vs.length=j:=by omega
  simp only [pj,List.getD_cons_zero,List.getD_cons_succ,DC.bb_b,DC.ii_i,DC.ss_s,DC.ll_sl,jl,List.length_map,jE hi,TFieldDef.enc_eq vs[j],q0,q1,Out.bindR_ret,List.length_take,hm]
  simp [hi,hc1,hL,j9,jJ hi (show vs.length ≤ 9223372036854775807 by omega),TFieldDef.enc_eq vs[j],jE hi]
 case fin=>simp [pj]
theorem pD (v:TDef) (hw:kw (TDef.enc v) ≤ 1048576):kI [.i v.kind,.b v.ext,.s v.desc,.s v.name,.sl (v.faces.map S1),.sl (v.fields.map TFieldDef.enc),.sl (v.inputs.map TInDef.enc),.sl (v.values.map TEnumDef.enc),.sl (v.roots.map TRoot.enc),.b v.repeat',.sl (v.dirs.map TDir.enc)] = .ret (TDef.enc v):=by
 rw [yI] at hw
 have u0:v.faces.length ≤ 1048576:=by have h:DC.wt (.sl (v.faces.map S1)) ≤ 1048576:=(by omega); rw [DC.wt,List.length_map] at h; omega
 have q0:=yV (v.faces.map S1) (by rw [List.length_map]; omega)
 have q1:=V4 v.fields (by omega)
 have q2:=K2 v.inputs (by omega)
 have q3:=X7 v.values (by omega)
 have u4:v.roots.length ≤ 1048576:=by have h:DC.wt (.sl (v.roots.map TRoot.enc)) ≤ 1048576:=(by omega); rw [DC.wt,List.length_map] at h; omega
 have q4:=JO (v.roots.map TRoot.enc) (by rw [List.length_map]; omega)
 have q5:=pV v.dirs (by omega)
 rw [Zy,TDef.enc_eq]
 simp only [Qu,List.getD_cons_zero,List.getD_cons_succ,DC.bb_b,DC.ii_i,DC.ss_s,DC.ll_sl,q0,q1,q2,q3,q4,q5,Out.bindR_ret,List.length_map,je,if_true,ju]
def Ye (a b:TDef):TDef:=⟨a.kind,a.ext,a.desc,a.name,a.faces ++ b.faces,a.fields ++ b.fields,a.inputs ++ b.inputs,a.values ++ b.values,a.roots ++ b.roots,a.repeat',a.dirs ++ b.dirs⟩
theorem j1g {α:Type} {e:α → List DC} (l m:List α):DC.wt (.sl ((l ++ m).map e))=DC.wt (.sl (l.map e)) + DC.wt (.sl (m.map e)):=by
 simp only [DC.wt,List.map_append,js,KX]
 omega
theorem j9c (a b:TDef):kw (TDef.enc (Ye a b)) ≤ kw (TDef.enc a) + kw (TDef.enc b):=by
 rw [yI,yI,yI]
 simp only [Ye,j1g]
 omega
theorem yf {α:Type} {e:α → List DC} {l:List α} {n:Nat} (h:DC.wt (.sl (l.map e)) ≤ n):l.length ≤ n:=by
 rw [DC.wt,List.length_map] at h
 omega
theorem VT {n m:Nat} (h:n ≤ 1048576) (h2:m ≤ 1048576):n + m < jN:=by unfold jN; omega
theorem j3n (a b:TDef) (ha:kw (TDef.enc a) ≤ 1048576) (hb:kw (TDef.enc b) ≤ 1048576):a.faces.length + b.faces.length < jN ∧ a.fields.length + b.fields.length < jN ∧ a.inputs.length + b.inputs.length < jN ∧ a.values.length + b.values.length < jN ∧ a.roots.length + b.roots.length < jN ∧ a.dirs.length + b.dirs.length < jN:=by
 rw [yI] at ha hb
 exact ⟨VT (yf (e:=S1) (by omega)) (yf (e:=S1) (by omega)),VT (yf (e:=TFieldDef.enc) (by omega)) (yf (e:=TFieldDef.enc) (by omega)),VT (yf (e:=TInDef.enc) (by omega)) (yf (e:=TInDef.enc) (by omega)),
  VT (yf (e:=TEnumDef.enc) (by omega)) (yf (e:=TEnumDef.enc) (by omega)),VT (yf (e:=TRoot.enc) (by omega)) (yf (e:=TRoot.enc) (by omega)),VT (yf (e:=TDir.enc) (by omega)) (yf (e:=TDir.enc) (by omega))⟩
theorem j5e (a b:TDef) (ha:kw (TDef.enc a) ≤ 1048576) (hb:kw (TDef.enc b) ≤ 1048576):Q3 (TDef.enc a ++ TDef.enc b) = .ret (TDef.enc (Ye a b)):=by
 obtain ⟨l0,l1,l2,l3,l4,l5⟩:=j3n a b ha hb
 have ea:=J3 a ha
 have eb:=J3 b hb
 rw [TDef.enc_eq a] at ea ⊢
 rw [TDef.enc_eq b] at eb ⊢
 rw [j2l,TDef.enc_eq (Ye a b)]
 simp only [Z0,List.cons_append,ju,List.getD_cons_zero,List.getD_cons_succ,DC.bb_b,DC.ii_i,DC.ss_s,DC.ll_sl,ea,eb,Out.bindR_ret,List.length_map,l0,l1,l2,l3,l4,l5,and_self,if_true,Ye,List.map_append]
theorem j5z (a b:TDef) (ha:kw (TDef.enc a) ≤ 1048576) (hb:kw (TDef.enc b) ≤ 1048576):Q4 (TDef.enc a ++ TDef.enc b) = .ret (TDef.enc (Ye a b)):=by
 obtain ⟨l0,l1,l2,l3,l4,l5⟩:=j3n a b ha hb
 have ea:=pD a ha
 have eb:=pD b hb
 rw [TDef.enc_eq a] at ea ⊢
 rw [TDef.enc_eq b] at eb ⊢
 rw [j2m,TDef.enc_eq (Ye a b)]
 simp only [Z1,List.cons_append,ju,List.getD_cons_zero,List.getD_cons_succ,DC.bb_b,DC.ii_i,DC.ss_s,DC.ll_sl,ea,eb,Out.bindR_ret,List.length_map,l0,l1,l2,l3,l4,l5,and_self,if_true,Ye,List.map_append]
def zF {α:Type} (p:α → Bool) (l:List α):Int:=match l.findIdx? p with | some i=>(i:Int) | none=>-1
theorem j32 {α:Type} {p:α → Bool} {g:Int → List DC} {fin:Out}:∀ (l:List α) (i:Nat),goF p (fun i _=>.ret (g (i:Int))) fin i l=match l.findIdx? p with | some j=>.ret (g ((i + j:Nat):Int)) | none=>fin
 | [],i=>rfl
 | x :: l,i=>by
  rw [goF,j32 l (i + 1),List.findIdx?_cons]
  cases p x with
  | true=>simp
  | false =>
   simp only [Bool.false_eq_true,if_false]
   cases l.findIdx? p with
   | none=>rfl
   | some j=>simp only [Option.map_some]; congr 3; omega
def pn (x d:TDef):Bool:=pM (TDef.enc x) (TDef.enc d)
theorem j7a (x d:TDef):pn x d=if x.kind=8 ∨ d.kind=8 then x.kind == d.kind else (j3O x.kind == j3O d.kind) && (x.name == d.name):=by
 unfold pn pM
 rw [TDef.enc_eq,TDef.enc_eq]
 rfl
def grp (k:Int):Int:=if k=7 then 1 else if k=8 then 2 else 0
theorem j1q (k:Int):qb [.i k] = .ret [.i (grp k)]:=by
 rw [Zp]
 unfold Ql grp
 simp only [List.getD_cons_zero,DC.ii_i]
 by_cases h:k=7
 ·subst h; rfl
 ·have e7:(k == 7)=false:=beq_eq_false_iff_ne.2 h
  by_cases h8:k=8
  ·subst h8; rfl
  ·have e8:(k == 8)=false:=beq_eq_false_iff_ne.2 h8
   simp only [e7,e8,h,h8,Bool.false_eq_true,if_false]
   rfl
theorem j6Q (x d:TDef):((grp x.kind == grp d.kind) && (grp d.kind == 2 || x.name == d.name))=pn x d:=by
 rw [j7a]
 generalize x.kind=k
 generalize d.kind=m
 generalize (x.name == d.name)=b
 unfold grp j3O
 by_cases k7:k=7
 ·subst k7
  by_cases m7:m=7
  ·subst m7; cases b <;> rfl
  ·by_cases m8:m=8
   ·subst m8; cases b <;> rfl
   ·simp [m7,m8]
 ·by_cases k8:k=8
  ·subst k8
   by_cases m7:m=7
   ·subst m7; cases b <;> rfl
   ·by_cases m8:m=8
    ·subst m8; cases b <;> rfl
    ·have:¬ (8:Int)=m:=fun h=>m8 h.symm
     simp [m7,m8,this]
  ·by_cases m7:m=7
   ·subst m7; simp [k7,k8]
   ·by_cases m8:m=8
    ·subst m8; simp [k7,k8]
    ·have e1:(k != 7)=true:=bne_iff_ne.2 k7
     have e2:(k != 8)=true:=bne_iff_ne.2 k8
     have e3:(m != 7)=true:=bne_iff_ne.2 m7
     have e4:(m != 8)=true:=bne_iff_ne.2 m8
     simp [k7,k8,m7,m8,e1,e2,e3,e4]
theorem j1p (l:List TDef) (d:TDef) (hl:l.length ≤ 1048576):Je [.sl (l.map TDef.enc),.i (grp d.kind),.s d.name] = .ret [.i (zF (fun x=>pn x d) l)]:=by
 rw [j2j]
 simp only [YZ,List.getD_cons_zero,List.getD_cons_succ,DC.bb_b,DC.ii_i,DC.ss_s,DC.ll_sl]
 rw [show (0:Int)=((0:Nat):Int) from rfl,j5L (l:=l) (st:=fun i=>[.sl (l.map TDef.enc),.i (grp d.kind),.s d.name,.i (i:Int)]) (p:=fun x=>pn x d) (stop:=fun i _=>.ret [.i (i:Int)]) (fin:=.ex 0 []) (fun i hi=>?step) (fun _ _=>Out.esc_ret _) ?fin (Out.esc_ex _ _),j32 (g:=fun i=>[.i i]),zF]
 ·cases l.findIdx? fun x=>pn x d <;> simp
 case step =>
  have hc:(i:Int) < (l.length:Int):=by omega
  have hg:=j6Q l[i] d
  have hcc:84=84 ∧ 0 ≤ (i:Int) ∧ (i:Int) < (l.length:Int):=⟨rfl,by omega,hc⟩
  have hm:(l.map TDef.enc).getD i []=TDef.enc l[i]:=jE hi
  rw [TDef.enc_eq] at hm
  have ws:=jJ hi (show l.length ≤ 9223372036854775807 by omega)
  rw [← hg]
  simp only [JC,List.getD_cons_zero,List.getD_cons_succ,DC.bb_b,DC.ii_i,DC.ss_s,DC.ll_sl,jl,List.length_map,hm,hc,decide_true,if_true,hcc.2,true_and,and_self,j1q,Out.bindR_ret]
  cases h1:(grp (l[i]).kind == grp d.kind) with
  | false=>simp [ja,j9,ws,DC.bb]
  | true =>
   cases h2:(grp d.kind == 2) with
   | true=>simp [ja,j9,ws,DC.bb,DC.ii]
   | false=>cases h3:((l[i]).name == d.name) <;> simp [ja,j9,ws,DC.bb,DC.ii]
 case fin=>simp [JC]
theorem j5A (l:List TDef) (d:TDef):ze (fun x=>pM x (TDef.enc d)) (l.map TDef.enc)=zF (fun x=>pn x d) l:=by
 unfold ze zF pn
 rw [List.findIdx?_map]
 rfl
theorem j79 (l:List TDef) (d:TDef):(l.map TDef.enc).any (fun x=>pM x (TDef.enc d))=l.any (fun x=>pn x d):=by
 rw [List.any_map]
 rfl
theorem j6E {α:Type} (p:α → Bool) (l:List α):decide (zF p l ≥ 0)=l.any p:=by
 unfold zF
 cases h:l.findIdx? p with
 | none =>
  have:=List.findIdx?_eq_none_iff.1 h
  rw [List.any_eq_false.2 (fun x hx=>by rw [this x hx]; simp)]
  rfl
 | some i =>
  obtain ⟨hi,h1,_⟩:=List.findIdx?_eq_some_iff_getElem.1 h
  rw [List.any_eq_true.2 ⟨l[i],jo hi,h1⟩]
  show decide ((i:Int) ≥ 0)=true
  exact decide_eq_true (by omega)
def zD:TDef:=⟨0,false,[],[],[],[],[],[],[],false,[]⟩
def st1 (s:List TDef × List TProblem) (d:TDef):List TDef × List TProblem :=
 if d.ext=true then s else if s.1.any (fun x=>pn x d)=true then (s.1,s.2 ++ [⟨2,d.name,[]⟩]) else (s.1 ++ [d],s.2)
def st2 (s:List TDef × List TProblem) (d:TDef):List TDef × List TProblem :=
 if d.ext=true then
  match s.1.findIdx? (fun x=>pn x d) with
  | none=>(s.1,s.2 ++ [⟨3,d.name,[]⟩])
  | some i=>if (s.1.getD i zD).kind=d.kind then (s.1.set i (Ye (s.1.getD i zD) d),s.2) else (s.1,s.2 ++ [⟨4,d.name,[]⟩])
 else s
theorem VV {α β:Type} (f:β → α → β) (s:β) {l:List α} {j:Nat} (h:j < l.length):(l.take (j + 1)).foldl f s=f ((l.take j).foldl f s) (l[j]'h):=by
 rw [List.take_succ_eq_append_getElem h,List.foldl_append]
 rfl
def wB (s:List TDef × List TProblem):Nat:=DC.wt (.sl (s.1.map TDef.enc)) + DC.wt (.sl (s.2.map TProblem.enc))
theorem j3q {α:Type} {e:α → List DC} (x:α):DC.wt (.sl ([x].map e))=1 + kw (e x):=by
 simp only [DC.wt,jc,List.map_nil,jd,je,wtV]
 omega
theorem j7c {α:Type} {e:α → List DC}:∀ (l:List α) (i:Nat) (y:α) (h:i < l.length),DC.wt (.sl ((l.set i y).map e)) + kw (e (l[i]'h))=DC.wt (.sl (l.map e)) + kw (e y)
 | x :: l,0,y,_=>by
  simp only [List.set_cons_zero,DC.wt,jc,jd,wtV,List.length_map,List.getElem_cons_zero]
  omega
 | x :: l,i + 1,y,h=>by
  have:=j7c (e:=e) l i y (by simpa using h)
  simp only [List.set_cons_succ,DC.wt,jc,jd,wtV,List.length_map,List.getElem_cons_succ] at this ⊢
  omega
theorem j1y (c:Int) (d:TDef):kw (TProblem.enc ⟨c,d.name,[]⟩) ≤ kw (TDef.enc d):=by
 rw [j3s,yI]
 simp only [je]
 omega
def w1 (d:TDef):Nat:=if d.ext=true then 0 else 1 + kw (TDef.enc d)
def w2 (d:TDef):Nat:=if d.ext=true then 1 + kw (TDef.enc d) else 0
theorem j7x (s:List TDef × List TProblem) (d:TDef):wB (st1 s d) ≤ wB s + w1 d:=by
 unfold st1 w1
 have h2:=j1y 2 d
 split
 ·omega
 ·split
  ·simp only [wB,j1g,j3q]; omega
  ·simp only [wB,j1g,j3q]; omega
theorem j9A (s:List TDef × List TProblem) (d:TDef):wB (st2 s d) ≤ wB s + w2 d:=by
 unfold st2 w2
 have h3:=j1y 3 d
 have h4:=j1y 4 d
 split
 ·split
  ·simp only [wB,j1g,j3q]; omega
  ·rename_i i hi
   obtain ⟨hl,_⟩:=List.findIdx?_eq_some_iff_getElem.1 hi
   split
   ·have hg:s.1.getD i zD=s.1[i]:=by rw [List.getD_eq_getElem?_getD,List.getElem?_eq_getElem hl]; rfl
    have h5:=j7c (e:=TDef.enc) s.1 i (Ye s.1[i] d) hl
    have h6:=j9c s.1[i] d
    rw [hg]
    simp only [wB]
    omega
   ·simp only [wB,j1g,j3q]; omega
 ·omega
theorem j19 {f:List TDef × List TProblem → TDef → List TDef × List TProblem} {w:TDef → Nat} (h:∀ s d,wB (f s d) ≤ wB s + w d):∀ (l:List TDef) (s:List TDef × List TProblem),wB (l.foldl f s) ≤ wB s + (l.map w).sum
 | [],s=>by simp
 | d :: l,s=>by
  have:=j19 h l (f s d)
  have h1:=h s d
  simp only [List.foldl_cons,jc,List.sum_cons]
  omega
theorem j1l {w:TDef → Nat}:∀ (l:List TDef) (j:Nat),((l.take j).map w).sum ≤ (l.map w).sum
 | [],j=>by simp
 | d :: l,0=>by simp
 | d :: l,j + 1=>by
  have:=j1l (w:=w) l j
  simp only [List.take_succ_cons,jc,List.sum_cons]
  omega
theorem j7j:∀ l:List TDef,(l.map w1).sum + (l.map w2).sum=DC.wt (.sl (l.map TDef.enc))
 | []=>by simp [DC.wt,wtV]
 | d :: l=>by
  have:=j7j l
  have hd:w1 d + w2 d=1 + kw (TDef.enc d):=by unfold w1 w2; split <;> omega
  simp only [jc,List.sum_cons,DC.wt,jd,List.length_map,wtV] at this ⊢
  omega
def J1 (l:List TDef):List TDef × List TProblem:=l.foldl st1 ([],[])
def J2 (l:List TDef):List TDef × List TProblem:=l.foldl st2 (J1 l)
theorem b1 {l:List TDef} (hw:DC.wt (.sl (l.map TDef.enc)) ≤ 1048576) (j:Nat):wB ((l.take j).foldl st1 ([],[])) ≤ 1048576:=by
 have h1:=j19 j7x (l.take j) ([],[])
 have h2:=j1l (w:=w1) l j
 have h3:=j7j l
 have h0:wB (([],[]):List TDef × List TProblem)=0:=by simp [wB,DC.wt,wtV]
 omega
theorem b2 {l:List TDef} (hw:DC.wt (.sl (l.map TDef.enc)) ≤ 1048576) (j:Nat):wB ((l.take j).foldl st2 (J1 l)) ≤ 1048576:=by
 have h1:=j19 j9A (l.take j) (J1 l)
 have h2:=j1l (w:=w2) l j
 have h3:=j7j l
 have h4:wB (J1 l) ≤ wB (([],[]):List TDef × List TProblem) + (l.map w1).sum:=j19 j7x l ([],[])
 have h0:wB (([],[]):List TDef × List TProblem)=0:=by simp [wB,DC.wt,wtV]
 omega
theorem Ks {s:List TDef × List TProblem} (h:wB s ≤ 1048576):s.1.length ≤ 1048576 ∧ s.2.length ≤ 1048576 ∧ s.1.length + 1 < jN ∧ s.2.length + 1 < jN ∧ (∀ x ∈ s.1,kw (TDef.enc x) ≤ 1048576):=by
 unfold wB at h
 have h1:s.1.length ≤ 1048576:=yf (e:=TDef.enc) (by omega)
 have h2:s.2.length ≤ 1048576:=yf (e:=TProblem.enc) (by omega)
 refine ⟨h1,h2,by unfold jN; omega,by unfold jN; omega,fun x hx=>?_⟩
 have h3:=ki (jt (f:=TDef.enc) hx)
 have h4:DC.wt (.sl (s.1.map TDef.enc)) ≤ 1048576:=by omega
 rw [DC.wt] at h4
 omega
theorem j5R {o:List TDef} {p:List TProblem} {d:TDef} (h:d.ext=true):st1 (o,p) d=(o,p):=by
 unfold st1; rw [if_pos h]
theorem j5S {o:List TDef} {p:List TProblem} {d:TDef} (h:d.ext=false) (ha:o.any (fun x=>pn x d)=true):st1 (o,p) d=(o,p ++ [⟨2,d.name,[]⟩]):=by
 unfold st1; rw [if_neg (by rw [h]; decide),if_pos ha]
theorem j5T {o:List TDef} {p:List TProblem} {d:TDef} (h:d.ext=false) (ha:o.any (fun x=>pn x d)=false):st1 (o,p) d=(o ++ [d],p):=by
 unfold st1; rw [if_neg (by rw [h]; decide),if_neg (by rw [ha]; decide)]
theorem j5Q {o:List TDef} {p:List TProblem} {d:TDef} (h:d.ext=false):st2 (o,p) d=(o,p):=by
 unfold st2; rw [if_neg (by rw [h]; decide)]
theorem j4k {o:List TDef} {p:List TProblem} {d:TDef} (h:d.ext=true) (hf:o.findIdx? (fun x=>pn x d)=none):st2 (o,p) d=(o,p ++ [⟨3,d.name,[]⟩]):=by
 unfold st2; rw [if_pos h]; simp only [hf]
theorem jao {o:List TDef} {i:Nat} (hi:i < o.length):o.getD i zD=o[i]:=by
 rw [List.getD_eq_getElem?_getD,List.getElem?_eq_getElem hi]; rfl
theorem j4j {o:List TDef} {p:List TProblem} {d:TDef} {i:Nat} (hi:i < o.length) (h:d.ext=true) (hf:o.findIdx? (fun x=>pn x d)=some i) (hk:o[i].kind=d.kind):st2 (o,p) d=(o.set i (Ye o[i] d),p):=by
 unfold st2; rw [if_pos h]; simp only [hf,jao hi]; rw [if_pos hk]
theorem j2C {o:List TDef} {p:List TProblem} {d:TDef} {i:Nat} (hi:i < o.length) (h:d.ext=true) (hf:o.findIdx? (fun x=>pn x d)=some i) (hk:¬ o[i].kind=d.kind):st2 (o,p) d=(o,p ++ [⟨4,d.name,[]⟩]):=by
 unfold st2; rw [if_pos h]; simp only [hf,jao hi]; rw [if_neg hk]
theorem j1C {α:Type} {p:α → Bool} {l:List α} (h:l.findIdx? p=none):zF p l = -1:=by
 unfold zF; rw [h]
theorem j1B {α:Type} {p:α → Bool} {l:List α} {i:Nat} (h:l.findIdx? p=some i):zF p l=(i:Int):=by
 unfold zF; rw [h]
theorem j5d (l:List TDef) (s:List TDef × List TProblem) (j:Nat) (hj:j < l.length) (hl:l.length ≤ 1048576) (hd:kw (TDef.enc (l[j]'hj)) ≤ 1048576) (hs:wB s ≤ 1048576) :
  qk [.sl (l.map TDef.enc),.sl (s.1.map TDef.enc),.sl (s.2.map TProblem.enc),.i (j:Int)] = .norm [.sl (l.map TDef.enc),.sl ((st1 s (l[j]'hj)).1.map TDef.enc),.sl ((st1 s (l[j]'hj)).2.map TProblem.enc),.i ((j + 1:Nat):Int)]:=by
 obtain ⟨f1,f2,f3,f4,f5⟩:=Ks hs
 obtain ⟨out,pr⟩:=s
 have hc:(j:Int) < (l.length:Int):=by omega
 have ws:=jJ hj (show l.length ≤ 9223372036854775807 by omega)
 have hcp:=J3 (l[j]'hj) hd
 have hat:=j1p out (l[j]'hj) f1
 have hpl:=j6E (fun x=>pn x (l[j]'hj)) out
 have hm:=jE (f:=TDef.enc) hj
 rw [TDef.enc_eq] at hm hcp
 simp only at f1 f2 f3 f4 f5
 simp only [qk,List.getD_cons_zero,List.getD_cons_succ,DC.bb_b,DC.ii_i,DC.ss_s,DC.ll_sl,jl,List.length_map,hm,hc,decide_true,if_true]
 rw [if_pos ⟨trivial,by omega,trivial⟩]
 generalize l[j]'hj=d at *
 cases he:d.ext with
 | true =>
  rw [j5R he]
  simp only [if_true,j9,List.getD_cons_zero,List.getD_cons_succ,DC.bb_b,DC.ii_i,DC.ss_s,DC.ll_sl,ws]
 | false =>
  simp only [he] at hcp
  simp only [Bool.false_eq_true,if_false,j1q,Out.bindR_ret,List.getD_cons_zero,List.getD_cons_succ,DC.bb_b,DC.ii_i,DC.ss_s,DC.ll_sl,hat,hpl,hcp,jd,je,Nat.zero_add,f3,f4,and_self,if_true]
  cases ha:out.any (fun x=>pn x d) with
  | true =>
   rw [j5S he ha]
   simp only [if_true,j9,List.getD_cons_zero,List.getD_cons_succ,DC.bb_b,DC.ii_i,DC.ss_s,DC.ll_sl,ws,List.map_append,jc,List.map_nil,TProblem.enc_eq]
  | false =>
   rw [j5T he ha]
   simp only [Bool.false_eq_true,if_false,if_true,j9,List.getD_cons_zero,List.getD_cons_succ,DC.bb_b,DC.ii_i,DC.ss_s,DC.ll_sl,ws,List.map_append,jc,List.map_nil,TDef.enc_eq,he]
theorem j5c (l:List TDef) (s:List TDef × List TProblem) (j:Nat) (hj:j < l.length) (hl:l.length ≤ 1048576) (hd:kw (TDef.enc (l[j]'hj)) ≤ 1048576) (hs:wB s ≤ 1048576) :
  qj [.sl (l.map TDef.enc),.sl (s.1.map TDef.enc),.sl (s.2.map TProblem.enc),.i (j:Int)] = .norm [.sl (l.map TDef.enc),.sl ((st2 s (l[j]'hj)).1.map TDef.enc),.sl ((st2 s (l[j]'hj)).2.map TProblem.enc),.i ((j + 1:Nat):Int)]:=by
 obtain ⟨f1,f2,f3,f4,f5⟩:=Ks hs
 obtain ⟨out,pr⟩:=s
 have hc:(j:Int) < (l.length:Int):=by omega
 have ws:=jJ hj (show l.length ≤ 9223372036854775807 by omega)
 have hat:=j1p out (l[j]'hj) f1
 have hm:=jE (f:=TDef.enc) hj
 rw [TDef.enc_eq] at hm
 simp only at f1 f2 f3 f4 f5
 simp only [qj,List.getD_cons_zero,List.getD_cons_succ,DC.bb_b,DC.ii_i,DC.ss_s,DC.ll_sl,jl,List.length_map,hm,hc,decide_true,if_true]
 rw [if_pos ⟨trivial,by omega,trivial⟩]
 generalize l[j]'hj=d at *
 cases he:d.ext with
 | false =>
  rw [j5Q he]
  simp only [Bool.not_false,if_true,j9,List.getD_cons_zero,List.getD_cons_succ,DC.bb_b,DC.ii_i,DC.ss_s,DC.ll_sl,ws]
 | true =>
  simp only [Bool.not_true,Bool.false_eq_true,if_false,j1q,Out.bindR_ret,List.getD_cons_zero,List.getD_cons_succ,DC.bb_b,DC.ii_i,DC.ss_s,DC.ll_sl,hat,jd,je,Nat.zero_add,f4,if_true]
  cases hf:out.findIdx? (fun x=>pn x d) with
  | none =>
   rw [j4k he hf,j1C hf]
   have h1:decide ((-1:Int) < 0)=true:=by decide
   simp only [h1,if_true,ja,j9,List.getD_cons_zero,List.getD_cons_succ,DC.bb_b,DC.ii_i,DC.ss_s,DC.ll_sl,ws,List.map_append,jc,List.map_nil,TProblem.enc_eq]
  | some i =>
   obtain ⟨hi,_⟩:=List.findIdx?_eq_some_iff_getElem.1 hf
   have h0:¬ ((i:Int) < 0):=by omega
   have h2:(i:Int) < (out.length:Int):=by omega
   have h3:(0:Int) ≤ (i:Int):=by omega
   have hmi:=jE (f:=TDef.enc) hi
   have had:=j5e (out[i]'hi) d (f5 _ (jo hi)) hd
   rw [TDef.enc_eq (out[i]'hi)] at hmi had
   rw [TDef.enc_eq d,TDef.enc_eq (Ye (out[i]'hi) d)] at had
   simp only [List.cons_append,ju,he] at had
   rw [j1B hf]
   simp only [h0,h2,h3,decide_false,Bool.false_eq_true,if_false,jl,hmi,List.getD_cons_zero,List.getD_cons_succ,DC.bb_b,DC.ii_i,DC.ss_s,DC.ll_sl,and_self,if_true]
   by_cases hk:(out[i]'hi).kind=d.kind
   ·rw [j4j hi he hf hk]
    have hb:((out[i]'hi).kind != d.kind)=false:=by rw [hk]; simp
    simp only [hb,had,Out.bindR_ret,Bool.false_eq_true,if_false,if_true,ja,j9,List.getD_cons_zero,List.getD_cons_succ,DC.bb_b,DC.ii_i,DC.ss_s,DC.ll_sl,ws,List.map_set,TDef.enc_eq (Ye (out[i]'hi) d)]
   ·rw [j2C hi he hf hk]
    have hb:((out[i]'hi).kind != d.kind)=true:=bne_iff_ne.2 hk
    simp only [hb,if_true,ja,j9,List.getD_cons_zero,List.getD_cons_succ,DC.bb_b,DC.ii_i,DC.ss_s,DC.ll_sl,ws,List.map_append,jc,List.map_nil,TProblem.enc_eq]
theorem j5y (l:List TDef) (s:List TDef × List TProblem) (j:Nat) (hj:j < l.length) (hl:l.length ≤ 1048576) (hd:kw (TDef.enc (l[j]'hj)) ≤ 1048576) (hs:wB s ≤ 1048576) :
  qm [.sl (l.map TDef.enc),.sl (s.1.map TDef.enc),.sl (s.2.map TProblem.enc),.sl (l.map TDef.enc),.i (l.length:Int),.i (j:Int)] = .norm [.sl (l.map TDef.enc),.sl ((st1 s (l[j]'hj)).1.map TDef.enc),.sl ((st1 s (l[j]'hj)).2.map TProblem.enc),.sl (l.map TDef.enc),.i (l.length:Int),.i ((j + 1:Nat):Int)]:=by
 obtain ⟨f1,f2,f3,f4,f5⟩:=Ks hs
 obtain ⟨out,pr⟩:=s
 have hc:(j:Int) < (l.length:Int):=by omega
 have ws:=jJ hj (show l.length ≤ 9223372036854775807 by omega)
 have hcp:=pD (l[j]'hj) hd
 have hpl:=j79 out (l[j]'hj)
 have hm:=jE (f:=TDef.enc) hj
 rw [TDef.enc_eq (l[j]'hj)] at hm hcp hpl
 simp only at f1 f2 f3 f4 f5
 have f6:out.length < jN:=by omega
 simp only [qm,List.getD_cons_zero,List.getD_cons_succ,DC.bb_b,DC.ii_i,DC.ss_s,DC.ll_sl,jl,List.length_map,hm,hc,decide_true,if_true]
 rw [if_pos ⟨trivial,by omega,trivial⟩]
 generalize l[j]'hj=d at *
 cases he:d.ext with
 | true =>
  rw [j5R he]
  simp only [if_true,ja,j9,List.getD_cons_zero,List.getD_cons_succ,DC.bb_b,DC.ii_i,DC.ss_s,DC.ll_sl,ws]
 | false =>
  simp only [he] at hcp hpl
  simp only [Bool.false_eq_true,if_false,Out.bindR_ret,List.getD_cons_zero,List.getD_cons_succ,DC.bb_b,DC.ii_i,DC.ss_s,DC.ll_sl,hpl,hcp,jd,je,Nat.zero_add,f3,f4,f6,and_self,if_true]
  cases ha:out.any (fun x=>pn x d) with
  | true =>
   rw [j5S he ha]
   simp only [if_true,ja,j9,List.getD_cons_zero,List.getD_cons_succ,DC.bb_b,DC.ii_i,DC.ss_s,DC.ll_sl,ws,List.map_append,jc,List.map_nil,TProblem.enc_eq]
  | false =>
   rw [j5T he ha]
   simp only [Bool.false_eq_true,if_false,if_true,ja,j9,List.getD_cons_zero,List.getD_cons_succ,DC.bb_b,DC.ii_i,DC.ss_s,DC.ll_sl,ws,List.map_append,jc,List.map_nil,TDef.enc_eq,he]
theorem j5x (l:List TDef) (s:List TDef × List TProblem) (j:Nat) (hj:j < l.length) (hl:l.length ≤ 1048576) (hd:kw (TDef.enc (l[j]'hj)) ≤ 1048576) (hs:wB s ≤ 1048576) :
  ql [.sl (s.1.map TDef.enc),.sl (s.2.map TProblem.enc),.sl (l.map TDef.enc),.i (l.length:Int),.i (j:Int)] = .norm [.sl ((st2 s (l[j]'hj)).1.map TDef.enc),.sl ((st2 s (l[j]'hj)).2.map TProblem.enc),.sl (l.map TDef.enc),.i (l.length:Int),.i ((j + 1:Nat):Int)]:=by
 obtain ⟨f1,f2,f3,f4,f5⟩:=Ks hs
 obtain ⟨out,pr⟩:=s
 have hc:(j:Int) < (l.length:Int):=by omega
 have ws:=jJ hj (show l.length ≤ 9223372036854775807 by omega)
 have hat:=j5A out (l[j]'hj)
 have hm:=jE (f:=TDef.enc) hj
 rw [TDef.enc_eq (l[j]'hj)] at hm hat
 simp only at f1 f2 f3 f4 f5
 have f6:out.length < jN:=by omega
 simp only [ql,List.getD_cons_zero,List.getD_cons_succ,DC.bb_b,DC.ii_i,DC.ss_s,DC.ll_sl,jl,List.length_map,hm,hc,decide_true,if_true]
 rw [if_pos ⟨trivial,by omega,trivial⟩]
 generalize l[j]'hj=d at *
 cases he:d.ext with
 | false =>
  rw [j5Q he]
  simp only [Bool.not_false,if_true,j9,List.getD_cons_zero,List.getD_cons_succ,DC.bb_b,DC.ii_i,DC.ss_s,DC.ll_sl,ws]
 | true =>
  simp only [he] at hat
  simp only [Bool.not_true,Bool.false_eq_true,if_false,Out.bindR_ret,List.getD_cons_zero,List.getD_cons_succ,DC.bb_b,DC.ii_i,DC.ss_s,DC.ll_sl,hat,jd,je,Nat.zero_add,f4,f6,if_true]
  cases hf:out.findIdx? (fun x=>pn x d) with
  | none =>
   rw [j4k he hf,j1C hf]
   have h1:decide ((-1:Int) < 0)=true:=by decide
   simp only [h1,if_true,ja,j9,List.getD_cons_zero,List.getD_cons_succ,DC.bb_b,DC.ii_i,DC.ss_s,DC.ll_sl,ws,List.map_append,jc,List.map_nil,TProblem.enc_eq]
  | some i =>
   obtain ⟨hi,_⟩:=List.findIdx?_eq_some_iff_getElem.1 hf
   have h0:¬ ((i:Int) < 0):=by omega
   have h2:(i:Int) < (out.length:Int):=by omega
   have h3:(0:Int) ≤ (i:Int):=by omega
   have hmi:=jE (f:=TDef.enc) hi
   have had:=j5z (out[i]'hi) d (f5 _ (jo hi)) hd
   rw [TDef.enc_eq (out[i]'hi)] at hmi had
   rw [TDef.enc_eq d,TDef.enc_eq (Ye (out[i]'hi) d)] at had
   simp only [List.cons_append,ju,he] at had
   rw [j1B hf]
   simp only [h0,h2,h3,decide_false,Bool.false_eq_true,if_false,jl,hmi,List.getD_cons_zero,List.getD_cons_succ,DC.bb_b,DC.ii_i,DC.ss_s,DC.ll_sl,and_self,if_true]
   by_cases hk:(out[i]'hi).kind=d.kind
   ·rw [j4j hi he hf hk]
    have hb:((out[i]'hi).kind != d.kind)=false:=by rw [hk]; simp
    simp only [hb,had,Out.bindR_ret,Bool.false_eq_true,if_false,if_true,ja,j9,List.getD_cons_zero,List.getD_cons_succ,DC.bb_b,DC.ii_i,DC.ss_s,DC.ll_sl,ws,List.map_set,TDef.enc_eq (Ye (out[i]'hi) d)]
   ·rw [j2C hi he hf hk]
    have hb:((out[i]'hi).kind != d.kind)=true:=bne_iff_ne.2 hk
    simp only [hb,if_true,ja,j9,List.getD_cons_zero,List.getD_cons_succ,DC.bb_b,DC.ii_i,DC.ss_s,DC.ll_sl,ws,List.map_append,jc,List.map_nil,TProblem.enc_eq]
def Kv (l:List TDef):List TDef × List TProblem:=if 60 < l.length then ([],[⟨5,[],[]⟩]) else J2 l
theorem j18 {l:List TDef} (hw:DC.wt (.sl (l.map TDef.enc)) ≤ 1048576) {j:Nat} (hj:j < l.length):kw (TDef.enc (l[j]'hj)) ≤ 1048576:=by
 have h3:=ki (jt (f:=TDef.enc) (jo hj))
 rw [DC.wt] at hw
 omega
theorem j2D (l:List TDef) (hw:DC.wt (.sl (l.map TDef.enc)) ≤ 1048576):JS [.sl (l.map TDef.enc)] = .ret [.sl ((Kv l).1.map TDef.enc),.sl ((Kv l).2.map TProblem.enc)]:=by
 have hl:l.length ≤ 1048576:=yf (e:=TDef.enc) hw
 rw [j3R]
 simp only [j0a,List.getD_cons_zero,DC.ll_sl,List.length_map]
 by_cases h:60 < l.length
 ·have h':((l.length:Int) > 60):=by omega
  have hr:Kv l=([],[⟨5,[],[]⟩]):=by unfold Kv; rw [if_pos h]
  rw [hr]
  simp only [h',decide_true,if_true,je,jd,List.map_nil,jc,ju,TProblem.enc_eq]
  rw [if_pos (by unfold jN; omega)]
 ·have h':¬ ((l.length:Int) > 60):=by omega
  have hr:Kv l=J2 l:=by unfold Kv; rw [if_neg h]
  rw [hr]
  simp only [h',decide_false,Bool.false_eq_true,if_false]
  have k1:=pE (F:=qk) (st:=fun i=>[.sl (l.map TDef.enc),.sl (((l.take i).foldl st1 ([],[])).1.map TDef.enc),.sl (((l.take i).foldl st1 ([],[])).2.map TProblem.enc),.i (i:Int)])
   (o:=.ex 0 [.sl (l.map TDef.enc),.sl ((J1 l).1.map TDef.enc),.sl ((J1 l).2.map TProblem.enc)]) l.length 0 (fun j _ hj=>by
    have hjl:j < l.length:=by omega
    show _=Out.norm [_,_,_,_]
    rw [VV st1 _ hjl]
    exact j5d l _ j hjl hl (j18 hw hjl) (b1 hw j)) (by
    refine kD ?_
    simp only [qk,Nat.zero_add,List.take_length,J1,List.getD_cons_zero,List.getD_cons_succ,DC.bb_b,DC.ii_i,DC.ss_s,DC.ll_sl,List.length_map,Int.lt_irrefl,decide_false,Bool.false_eq_true,if_false])
  have k2:=pE (F:=qj) (st:=fun i=>[.sl (l.map TDef.enc),.sl (((l.take i).foldl st2 (J1 l)).1.map TDef.enc),.sl (((l.take i).foldl st2 (J1 l)).2.map TProblem.enc),.i (i:Int)])
   (o:=.ex 2 [.sl ((J2 l).1.map TDef.enc),.sl ((J2 l).2.map TProblem.enc)]) l.length 0 (fun j _ hj=>by
    have hjl:j < l.length:=by omega
    show _=Out.norm [_,_,_,_]
    rw [VV st2 _ hjl]
    exact j5c l _ j hjl hl (j18 hw hjl) (b2 hw j)) (by
    refine kD ?_
    simp only [qj,Nat.zero_add,List.take_length,J2,List.getD_cons_zero,List.getD_cons_succ,DC.bb_b,DC.ii_i,DC.ss_s,DC.ll_sl,List.length_map,Int.lt_irrefl,decide_false,Bool.false_eq_true,if_false])
  have k1':jO qk [.sl (l.map TDef.enc),.sl [],.sl [],.i (0:Int)] = .ex 0 [.sl (l.map TDef.enc),.sl ((J1 l).1.map TDef.enc),.sl ((J1 l).2.map TProblem.enc)]:=k1
  have k2':jO qj [.sl (l.map TDef.enc),.sl ((J1 l).1.map TDef.enc),.sl ((J1 l).2.map TProblem.enc),.i (0:Int)] = .ex 2 [.sl ((J2 l).1.map TDef.enc),.sl ((J2 l).2.map TProblem.enc)]:=k2
  rw [k1']
  simp only [j9,if_true,List.getD_cons_zero,List.getD_cons_succ,DC.ll_sl]
  rw [k2']
  simp only [j9,if_true,List.getD_cons_zero,List.getD_cons_succ,DC.ll_sl]
theorem j31 (l:List TDef) (hw:DC.wt (.sl (l.map TDef.enc)) ≤ 1048576):JU [.sl (l.map TDef.enc)] = .ret [.sl ((Kv l).1.map TDef.enc),.sl ((Kv l).2.map TProblem.enc)]:=by
 have hl:l.length ≤ 1048576:=yf (e:=TDef.enc) hw
 rw [j3S]
 simp only [j0b,List.getD_cons_zero,DC.ll_sl,List.length_map]
 by_cases h:60 < l.length
 ·have h':((l.length:Int) > 60):=by omega
  have hr:Kv l=([],[⟨5,[],[]⟩]):=by unfold Kv; rw [if_pos h]
  rw [hr]
  simp only [h',decide_true,if_true,List.map_nil,jc,TProblem.enc_eq]
 ·have h':¬ ((l.length:Int) > 60):=by omega
  have hr:Kv l=J2 l:=by unfold Kv; rw [if_neg h]
  rw [hr]
  simp only [h',decide_false,Bool.false_eq_true,if_false]
  have k1:=pE (F:=qm) (st:=fun i=>[.sl (l.map TDef.enc),.sl (((l.take i).foldl st1 ([],[])).1.map TDef.enc),.sl (((l.take i).foldl st1 ([],[])).2.map TProblem.enc),.sl (l.map TDef.enc),.i (l.length:Int),.i (i:Int)])
   (o:=.ex 0 [.sl (l.map TDef.enc),.sl ((J1 l).1.map TDef.enc),.sl ((J1 l).2.map TProblem.enc)]) l.length 0 (fun j _ hj=>by
    have hjl:j < l.length:=by omega
    show _=Out.norm [_,_,_,_,_,_]
    rw [VV st1 _ hjl]
    exact j5y l _ j hjl hl (j18 hw hjl) (b1 hw j)) (by
    refine kD ?_
    simp only [qm,Nat.zero_add,List.take_length,J1,List.getD_cons_zero,List.getD_cons_succ,DC.bb_b,DC.ii_i,DC.ss_s,DC.ll_sl,List.length_map,Int.lt_irrefl,decide_false,Bool.false_eq_true,if_false])
  have k2:=pE (F:=ql) (st:=fun i=>[.sl (((l.take i).foldl st2 (J1 l)).1.map TDef.enc),.sl (((l.take i).foldl st2 (J1 l)).2.map TProblem.enc),.sl (l.map TDef.enc),.i (l.length:Int),.i (i:Int)])
   (o:=.ex 3 [.sl ((J2 l).1.map TDef.enc),.sl ((J2 l).2.map TProblem.enc)]) l.length 0 (fun j _ hj=>by
    have hjl:j < l.length:=by omega
    show _=Out.norm [_,_,_,_,_]
    rw [VV st2 _ hjl]
    exact j5x l _ j hjl hl (j18 hw hjl) (b2 hw j)) (by
    refine kD ?_
    simp only [ql,Nat.zero_add,List.take_length,J2,List.getD_cons_zero,List.getD_cons_succ,DC.bb_b,DC.ii_i,DC.ss_s,DC.ll_sl,List.length_map,Int.lt_irrefl,decide_false,Bool.false_eq_true,if_false])
  have k1':jO qm [.sl (l.map TDef.enc),.sl [],.sl [],.sl (l.map TDef.enc),.i (l.length:Int),.i (0:Int)] = .ex 0 [.sl (l.map TDef.enc),.sl ((J1 l).1.map TDef.enc),.sl ((J1 l).2.map TProblem.enc)]:=k1
  have k2':jO ql [.sl ((J1 l).1.map TDef.enc),.sl ((J1 l).2.map TProblem.enc),.sl (l.map TDef.enc),.i (l.length:Int),.i (0:Int)] = .ex 3 [.sl ((J2 l).1.map TDef.enc),.sl ((J2 l).2.map TProblem.enc)]:=k2
  rw [k1']
  simp only [j9,if_true,List.getD_cons_zero,List.getD_cons_succ,DC.ll_sl,List.length_map]
  rw [k2']
  simp only [j9,if_true,List.getD_cons_zero,List.getD_cons_succ,DC.ll_sl]
theorem j15 {l:List TDef} (hw:DC.wt (.sl (l.map TDef.enc)) ≤ 1048576):wB (Kv l) ≤ 1048576:=by
 unfold Kv
 split
 ·simp [wB,TProblem.enc_eq,DC.wt,wtV,kw]
 ·have:=b2 hw l.length
  rw [List.take_length] at this
  exact this
end Go.Proofs.QV
