import Derived.Test.YtcpolmhblhhikaaGreatMU7
/- What the functions do,and that they do (written by a program). -/
namespace Go.Proofs.QV
open Go
open Out renaming andThen → ja, andThenB → j9
set_option linter.unusedVariables false
set_option maxRecDepth 100000
noncomputable def qO:List DC → Out:=fun v1 =>
 ja (if (decide ((v1.getD 2 d0).ii < (((v1.getD 0 d0).ll).length:Int)))=true then
 .norm [qL v1 0,qI v1 1,qI v1 2,.b (decide ((v1.getD 2 d0).ii < (4000:Int)))]
 else
 .norm [qL v1 0,qI v1 1,qI v1 2,.b false]) fun v2 =>
 if (v2.getD 3 d0).bb=true then
 j9 (if 5=5 ∧ 0 ≤ (v2.getD 2 d0).ii ∧ (v2.getD 2 d0).ii < (((v2.getD 0 d0).ll).length:Int) then
 .norm [qL v2 0,.i (IntKind.i64.wrap (BitVec.ofInt (IntKind.i64.bits) (IntKind.i64.wrap ((IntKind.i64.wrap ((IntKind.i64.wrap ((v2.getD 1 d0).ii * (131:Int))) + (IntKind.i64.wrap (((((v2.getD 0 d0).ll).getD ((v2.getD 2 d0).ii).toNat []).getD 0 d0).ii)))) + (7:Int))) &&& BitVec.ofInt (IntKind.i64.bits) (1073741823:Int)).toNat),qI v2 2]
 else
 .fail) 1 fun v3 =>
 .norm [qL v3 0,qI v3 1,.i (IntKind.i64.wrap ((v3.getD 2 d0).ii + (1:Int)))]
 else
 .ex 0 [qL v2 0,qI v2 1]
noncomputable def Zo (a:List DC):Out :=
 j9 (jy qO [qL a 0,.i (IntKind.i64.wrap ((94701:Int) + (((a.getD 0 d0).ll).length:Int))),.i (0:Int)]) 0 fun v4 =>
 .ret [qL v4 0,.i (0:Int),qI v4 1]
theorem j23 (a:List DC):kv a=Zo a:=(j83 qk j35 68 [.sl 5,.i .i64,.i .i64] 2 ⟨j35.pk.map pkK,[]⟩ a).trans (by kernel_rfl)
noncomputable def Jg (a:List DC):Out :=
 (Qt [qL a 0,qI a 1,qI a 2]).bindR fun r1 =>
 (Kf [qS r1 0]).bindR fun r2 =>
 ja (if ((r2.getD 4 d0).ii != (0:Int))=true then
 .norm [.b true,qL r1 1,qI r1 2,qI r1 3,qL r2 0,qL r2 1,qL r2 2]
 else
 .norm [.b (decide ((((r2.getD 3 d0).ll).length:Int) > (0:Int))),qL r1 1,qI r1 2,qI r1 3,qL r2 0,qL r2 1,qL r2 2]) fun v3 =>
 if (v3.getD 0 d0).bb=true then
 (Kb []).bindR fun r4 =>
 .ret [qL r4 0,qL r4 1,qL r4 2,qL v3 1,qI v3 2,qI v3 3]
 else
 .ret [qL v3 4,qL v3 5,qL v3 6,qL v3 1,qI v3 2,qI v3 3]
theorem j1j a:KR a=Jg a:=(jq cfg 18 _ a).trans (by kernel_rfl)
noncomputable def YE (a:List DC):Out :=
 if (33:Int) < 0 then
 .fail
 else
 if (45:Int) < 0 then
 .fail
 else
 ja (if (decide ((a.getD 1 d0).ii < (((a.getD 0 d0).ll).length:Int)))=true then
 if 5=5 ∧ 0 ≤ (a.getD 1 d0).ii ∧ (a.getD 1 d0).ii < (((a.getD 0 d0).ll).length:Int) then
 .norm [.i (IntKind.i64.wrap (BitVec.ofInt (IntKind.i64.bits) (IntKind.i64.wrap ((IntKind.i64.wrap (BitVec.ofInt (IntKind.i64.bits) (IntKind.i64.wrap (BitVec.ofInt (IntKind.i64.bits) ((IntKind.i64.wrap ((IntKind.i64.wrap ((a.getD 2 d0).ii * (6364136223846793005:Int))) + (1442695040888963407:Int))).fdiv (2 ^ (min (33:Int).toNat (IntKind.i64.bits)))) ^^^ BitVec.ofInt (IntKind.i64.bits) ((IntKind.i64.wrap ((IntKind.i64.wrap ((a.getD 2 d0).ii * (6364136223846793005:Int))) + (1442695040888963407:Int))).fdiv (2 ^ (min (45:Int).toNat (IntKind.i64.bits))))).toNat) &&& BitVec.ofInt (IntKind.i64.bits) (255:Int)).toNat) + (IntKind.i64.wrap (((((a.getD 0 d0).ll).getD ((a.getD 1 d0).ii).toNat []).getD 0 d0).ii)))) &&& BitVec.ofInt (IntKind.i64.bits) (255:Int)).toNat),qL a 0,.i (IntKind.i64.wrap ((a.getD 1 d0).ii + (1:Int))),.i (IntKind.i64.wrap ((IntKind.i64.wrap ((a.getD 2 d0).ii * (6364136223846793005:Int))) + (1442695040888963407:Int)))]
 else
 .fail
 else
 .norm [.i (IntKind.i64.wrap (BitVec.ofInt (IntKind.i64.bits) (IntKind.i64.wrap (BitVec.ofInt (IntKind.i64.bits) ((IntKind.i64.wrap ((IntKind.i64.wrap ((a.getD 2 d0).ii * (6364136223846793005:Int))) + (1442695040888963407:Int))).fdiv (2 ^ (min (33:Int).toNat (IntKind.i64.bits)))) ^^^ BitVec.ofInt (IntKind.i64.bits) ((IntKind.i64.wrap ((IntKind.i64.wrap ((a.getD 2 d0).ii * (6364136223846793005:Int))) + (1442695040888963407:Int))).fdiv (2 ^ (min (45:Int).toNat (IntKind.i64.bits))))).toNat) &&& BitVec.ofInt (IntKind.i64.bits) (255:Int)).toNat),qL a 0,qI a 1,.i (IntKind.i64.wrap ((IntKind.i64.wrap ((a.getD 2 d0).ii * (6364136223846793005:Int))) + (1442695040888963407:Int)))]) fun v1 =>
 .ret [qI v1 0,qL v1 1,qI v1 2,qI v1 3]
theorem j2h a:pS a=YE a:=(jq cfg 20 _ a).trans (by kernel_rfl)
noncomputable def Q2 (a:List DC):Out :=
 if (decide ((a.getD 0 d0).ii ≤ (0:Int)))=true then
 .ret [.i (0:Int),qL a 1,qI a 2,qI a 3]
 else
 if (decide ((a.getD 0 d0).ii ≤ (256:Int)))=true then
 (pS [qL a 1,qI a 2,qI a 3]).bindR fun r1 =>
 if (a.getD 0 d0).ii=0 then
 .fail
 else
 .ret [.i (((r1.getD 0 d0).ii).tmod ((a.getD 0 d0).ii)),qL r1 1,qI r1 2,qI r1 3]
 else
 (pS [qL a 1,qI a 2,qI a 3]).bindR fun r2 =>
 (pS [qL r2 1,qI r2 2,qI r2 3]).bindR fun r3 =>
 (pS [qL r3 1,qI r3 2,qI r3 3]).bindR fun r4 =>
 (pS [qL r4 1,qI r4 2,qI r4 3]).bindR fun r5 =>
 if (a.getD 0 d0).ii=0 then
 .fail
 else
 .ret [.i ((IntKind.i64.wrap ((IntKind.i64.wrap ((IntKind.i64.wrap ((IntKind.i64.wrap ((r2.getD 0 d0).ii * (16777216:Int))) + (IntKind.i64.wrap ((r3.getD 0 d0).ii * (65536:Int))))) + (IntKind.i64.wrap ((r4.getD 0 d0).ii * (256:Int))))) + (r5.getD 0 d0).ii)).tmod ((a.getD 0 d0).ii)),qL r5 1,qI r5 2,qI r5 3]
theorem VP a:qK a=Q2 a:=(jq cfg 21 _ a).trans (by kernel_rfl)
noncomputable def YI (a:List DC):Out :=
 (VA [qL a 0,qL a 1,qL a 2,qS a 3]).bindR fun r1 =>
 if (decide ((r1.getD 0 d0).ii < (0:Int)))=true then
 .ret [.i (0:Int),.b false,.s [],.s [],.sl [],.sl [],.sl [],.sl [],.sl [],.b false,.sl [],.b false]
 else
 if 37=37 ∧ 0 ≤ (r1.getD 0 d0).ii ∧ (r1.getD 0 d0).ii < (((a.getD 0 d0).ll).length:Int) then
 .ret [.i (((((a.getD 0 d0).ll).getD ((r1.getD 0 d0).ii).toNat []).getD 0 d0).ii),.b (((((a.getD 0 d0).ll).getD ((r1.getD 0 d0).ii).toNat []).getD 1 d0).bb),.s (((((a.getD 0 d0).ll).getD ((r1.getD 0 d0).ii).toNat []).getD 2 d0).ss),.s (((((a.getD 0 d0).ll).getD ((r1.getD 0 d0).ii).toNat []).getD 3 d0).ss),.sl (((((a.getD 0 d0).ll).getD ((r1.getD 0 d0).ii).toNat []).getD 4 d0).ll),.sl (((((a.getD 0 d0).ll).getD ((r1.getD 0 d0).ii).toNat []).getD 5 d0).ll),.sl (((((a.getD 0 d0).ll).getD ((r1.getD 0 d0).ii).toNat []).getD 6 d0).ll),.sl (((((a.getD 0 d0).ll).getD ((r1.getD 0 d0).ii).toNat []).getD 7 d0).ll),.sl (((((a.getD 0 d0).ll).getD ((r1.getD 0 d0).ii).toNat []).getD 8 d0).ll),.b (((((a.getD 0 d0).ll).getD ((r1.getD 0 d0).ii).toNat []).getD 9 d0).bb),.sl (((((a.getD 0 d0).ll).getD ((r1.getD 0 d0).ii).toNat []).getD 10 d0).ll),.b true]
 else
 .fail
theorem j2o a:yn a=YI a:=(jq cfg 22 _ a).trans (by kernel_rfl)
noncomputable def J6 (a:List DC):Out :=
 (yW [qL a 0,qS a 1]).bindR fun r1 =>
 .ret [.b (decide ((r1.getD 0 d0).ii ≥ (0:Int)))]
theorem QW a:jO a=J6 a:=(jq cfg 23 _ a).trans (by kernel_rfl)
noncomputable def YN (a:List DC):Out :=
 j9 (ja (if ((a.getD 0 d0).ss == ([73,110,116]:List UInt8))=true then
 .norm [.b ((a.getD 0 d0).ss == ([73,110,116]:List UInt8))]
 else
 ja (if ((a.getD 0 d0).ss == ([70,108,111,97,116]:List UInt8))=true then
 .norm [.b ((a.getD 0 d0).ss == ([70,108,111,97,116]:List UInt8))]
 else
 ja (if ((a.getD 0 d0).ss == ([83,116,114,105,110,103]:List UInt8))=true then
 .norm [.b ((a.getD 0 d0).ss == ([83,116,114,105,110,103]:List UInt8))]
 else
 ja (if ((a.getD 0 d0).ss == ([66,111,111,108,101,97,110]:List UInt8))=true then
 .norm [.b ((a.getD 0 d0).ss == ([66,111,111,108,101,97,110]:List UInt8))]
 else
 .norm [.b ((a.getD 0 d0).ss == ([73,68]:List UInt8))]) fun v1 =>
 .norm [qB v1 0]) fun v2 =>
 .norm [qB v2 0]) fun v3 =>
 .norm [qB v3 0]) fun v4 =>
 if (v4.getD 0 d0).bb=true then
 .ret [.b true]
 else
 .norm []) 0 fun v5 =>
 .ret [.b false]
theorem j2t a:QD a=YN a:=(jq cfg 26 _ a).trans (by kernel_rfl)
noncomputable def Kr (a:List DC):Out :=
 (yb [qS a 1,qS a 2]).bindR fun r1 =>
 .ret [qS a 0,qS r1 0,qB r1 1]
theorem Vc a:pC a=Kr a:=(jq cfg 27 _ a).trans (by kernel_rfl)
noncomputable def YJ (a:List DC):Out :=
 (yn [qL a 0,qL a 1,qL a 2,qS a 3]).bindR fun r1 =>
 (yn [qL a 0,qL a 1,qL a 2,qS a 4]).bindR fun r2 =>
 j9 (if ((a.getD 3 d0).ss == (a.getD 4 d0).ss)=true then
 .ret [.b true]
 else
 if ((r2.getD 0 d0).ii == (3:Int))=true then
 ja (if ((r1.getD 0 d0).ii == (2:Int))=true then
 (jO [qL r1 4,qS a 4]).bindR fun r3 =>
 .norm [qB r3 0]
 else
 if ((r1.getD 0 d0).ii == (3:Int))=true then
 (jO [qL r1 4,qS a 4]).bindR fun r4 =>
 .norm [qB r4 0]
 else
 .norm [.b false]) fun v5 =>
 .ret [qB v5 0]
 else
 if ((r2.getD 0 d0).ii == (4:Int))=true then
 ja (if ((r1.getD 0 d0).ii == (2:Int))=true then
 (jO [qL r2 4,qS a 3]).bindR fun r6 =>
 .norm [qB r6 0]
 else
 .norm [.b false]) fun v7 =>
 .ret [qB v7 0]
 else
 .norm []) 0 fun v8 =>
 .ret [.b false]
theorem j2p a:QC a=YJ a:=(jq cfg 28 _ a).trans (by kernel_rfl)
noncomputable def Jh:List DC → Out:=fun v1 =>
 ja (if (decide ((v1.getD 1 d0).ii < (((v1.getD 2 d0).ll).length:Int)))=true then
 .norm [qS v1 0,qI v1 1,.b (decide ((((v1.getD 2 d0).ll).length:Int) ≤ (60:Int))),qL v1 2,qL v1 3,qL v1 4]
 else
 .norm [qS v1 0,qI v1 1,.b false,qL v1 2,qL v1 3,qL v1 4]) fun v2 =>
 if (v2.getD 2 d0).bb=true then
 j9 (if 37=37 ∧ 0 ≤ (v2.getD 1 d0).ii ∧ (v2.getD 1 d0).ii < (((v2.getD 3 d0).ll).length:Int) then
 if (((((v2.getD 3 d0).ll).getD ((v2.getD 1 d0).ii).toNat []).getD 3 d0).ss == (v2.getD 0 d0).ss)=true then
 .ret [qI v2 1]
 else
 .norm [qS v2 0,qI v2 1,qL v2 3,qL v2 4,qL v2 5]
 else
 .fail) 1 fun v3 =>
 .norm [qS v3 0,.i (IntKind.i64.wrap ((v3.getD 1 d0).ii + (1:Int))),qL v3 2,qL v3 3,qL v3 4]
 else
 .ex 0 []
noncomputable def Zp (a:List DC):Out :=
 j9 (jy Jh [qS a 3,.i (0:Int),qL a 0,qL a 1,qL a 2]) 0 fun v4 =>
 .ret [.i (-1:Int)]
theorem j3c a:p9 a=Zp a:=(jq cfg 29 _ a).trans (by kernel_rfl)
noncomputable def Q1:List DC → Out:=fun v1 =>
 if (decide ((v1.getD 2 d0).ii < (((v1.getD 0 d0).ll).length:Int)))=true then
 j9 (if 9=9 ∧ 0 ≤ (v1.getD 2 d0).ii ∧ (v1.getD 2 d0).ii < (((v1.getD 0 d0).ll).length:Int) then
 if (((((v1.getD 0 d0).ll).getD ((v1.getD 2 d0).ii).toNat []).getD 0 d0).ss == (v1.getD 1 d0).ss)=true then
 .ret [.b true]
 else
 .norm [qL v1 0,qS v1 1,qI v1 2]
 else
 .fail) 1 fun v2 =>
 .norm [qL v2 0,qS v2 1,.i (IntKind.i64.wrap ((v2.getD 2 d0).ii + (1:Int)))]
 else
 .ex 0 []
noncomputable def Zm (a:List DC):Out :=
 j9 (jy Q1 [qL a 0,qS a 1,.i (0:Int)]) 0 fun v3 =>
 .ret [.b false]
theorem j39 a:jN a=Zm a:=(jq cfg 30 _ a).trans (by kernel_rfl)
noncomputable def jP:List DC → Out:=fun v3 =>
 ja (if (decide ((v3.getD 3 d0).ii < (((v3.getD 0 d0).ll).length:Int)))=true then
 .norm [qL v3 0,qL v3 1,qL v3 2,qI v3 3,qI v3 4,.b true]
 else
 .norm [qL v3 0,qL v3 1,qL v3 2,qI v3 3,qI v3 4,.b (decide ((v3.getD 4 d0).ii < (((v3.getD 1 d0).ll).length:Int)))]) fun v4 =>
 if (v4.getD 5 d0).bb=true then
 j9 (ja (if (decide ((v4.getD 4 d0).ii ≥ (((v4.getD 1 d0).ll).length:Int)))=true then
 .norm [qL v4 0,qL v4 1,qL v4 2,qI v4 3,qI v4 4,.b true]
 else
 if (decide ((v4.getD 3 d0).ii < (((v4.getD 0 d0).ll).length:Int)))=true then
 if 9=9 ∧ 0 ≤ (v4.getD 3 d0).ii ∧ (v4.getD 3 d0).ii < (((v4.getD 0 d0).ll).length:Int) then
 if 9=9 ∧ 0 ≤ (v4.getD 4 d0).ii ∧ (v4.getD 4 d0).ii < (((v4.getD 1 d0).ll).length:Int) then
 .norm [qL v4 0,qL v4 1,qL v4 2,qI v4 3,qI v4 4,.b (Op.bytesLess (((((v4.getD 0 d0).ll).getD ((v4.getD 3 d0).ii).toNat []).getD 0 d0).ss) (((((v4.getD 1 d0).ll).getD ((v4.getD 4 d0).ii).toNat []).getD 0 d0).ss) || ((((v4.getD 0 d0).ll).getD ((v4.getD 3 d0).ii).toNat []).getD 0 d0).ss == ((((v4.getD 1 d0).ll).getD ((v4.getD 4 d0).ii).toNat []).getD 0 d0).ss)]
 else
 .fail
 else
 .fail
 else
 .norm [qL v4 0,qL v4 1,qL v4 2,qI v4 3,qI v4 4,.b false]) fun v5 =>
 ja (if (v5.getD 5 d0).bb=true then
 if 9=9 ∧ 0 ≤ (v5.getD 3 d0).ii ∧ (v5.getD 3 d0).ii < (((v5.getD 0 d0).ll).length:Int) then
 .norm [qL v5 0,qL v5 1,qL v5 2,.i (IntKind.i64.wrap ((v5.getD 3 d0).ii + (1:Int))),qI v5 4,.s (((((v5.getD 0 d0).ll).getD ((v5.getD 3 d0).ii).toNat []).getD 0 d0).ss)]
 else
 .fail
 else
 if 9=9 ∧ 0 ≤ (v5.getD 4 d0).ii ∧ (v5.getD 4 d0).ii < (((v5.getD 1 d0).ll).length:Int) then
 .norm [qL v5 0,qL v5 1,qL v5 2,qI v5 3,.i (IntKind.i64.wrap ((v5.getD 4 d0).ii + (1:Int))),.s (((((v5.getD 1 d0).ll).getD ((v5.getD 4 d0).ii).toNat []).getD 0 d0).ss)]
 else
 .fail) fun v6 =>
 ja (if ((((v6.getD 2 d0).ll).length:Int) == (0:Int))=true then
 .norm [qL v6 0,qL v6 1,qL v6 2,qI v6 3,qI v6 4,qS v6 5,.b true]
 else
 if 9=9 ∧ 0 ≤ (IntKind.i64.wrap ((((v6.getD 2 d0).ll).length:Int) - (1:Int))) ∧ (IntKind.i64.wrap ((((v6.getD 2 d0).ll).length:Int) - (1:Int))) < (((v6.getD 2 d0).ll).length:Int) then
 .norm [qL v6 0,qL v6 1,qL v6 2,qI v6 3,qI v6 4,qS v6 5,.b (!(((((v6.getD 2 d0).ll).getD (IntKind.i64.wrap ((((v6.getD 2 d0).ll).length:Int) - (1:Int))).toNat []).getD 0 d0).ss == (v6.getD 5 d0).ss))]
 else
 .fail) fun v7 =>
 ja (if (v7.getD 6 d0).bb=true then
 if ((v7.getD 2 d0).ll).length + [[qS v7 5]].length < jT then
 .norm [qL v7 0,qL v7 1,.sl (((v7.getD 2 d0).ll) ++ [[qS v7 5]]),qI v7 3,qI v7 4]
 else
 .fail
 else
 .norm [qL v7 0,qL v7 1,qL v7 2,qI v7 3,qI v7 4]) fun v8 =>
 .norm [qL v8 0,qL v8 1,qL v8 2,qI v8 3,qI v8 4]) 1 fun v9 =>
 .norm [qL v9 0,qL v9 1,qL v9 2,qI v9 3,qI v9 4]
 else
 .ex 0 [qL v4 2]
noncomputable def Km (a:List DC):Out :=
 if (decide ((((a.getD 0 d0).ll).length:Int) < (2:Int)))=true then
 if ([]:List (List DC)).length + ((a.getD 0 d0).ll).length < jT then
 .ret [.sl (([]:List (List DC)) ++ ((a.getD 0 d0).ll))]
 else
 .fail
 else
 if (2:Int)=0 then
 .fail
 else
 if 0 ≤ (IntKind.i64.wrap ((((a.getD 0 d0).ll).length:Int).tdiv (2:Int))) ∧ (IntKind.i64.wrap ((((a.getD 0 d0).ll).length:Int).tdiv (2:Int))) ≤ (((a.getD 0 d0).ll).length:Int) then
 (yj [.sl (((a.getD 0 d0).ll).take (IntKind.i64.wrap ((((a.getD 0 d0).ll).length:Int).tdiv (2:Int))).toNat)]).bindR fun r1 =>
 if (2:Int)=0 then
 .fail
 else
 if 0 ≤ (IntKind.i64.wrap ((((a.getD 0 d0).ll).length:Int).tdiv (2:Int))) ∧ (IntKind.i64.wrap ((((a.getD 0 d0).ll).length:Int).tdiv (2:Int))) ≤ (((a.getD 0 d0).ll).length:Int) then
 (yj [.sl (((a.getD 0 d0).ll).drop (IntKind.i64.wrap ((((a.getD 0 d0).ll).length:Int).tdiv (2:Int))).toNat)]).bindR fun r2 =>
 j9 (jy jP [qL r1 0,qL r2 0,.sl [],.i (0:Int),.i (0:Int)]) 0 fun v10 =>
 .ret [qL v10 0]
 else
 .fail
 else
 .fail
theorem Va a:yj a=Km a:=(jq cfg 31 _ a).trans (by kernel_rfl)
noncomputable def kZ (a:List DC):Out :=
 (km [qL a 0,qL a 1]).bindR fun r1 =>
 .ret [.b (decide ((r1.getD 0 d0).ii ≥ (0:Int))),qL r1 1]
theorem y8 a:kQ a=kZ a:=(jq cfg 32 _ a).trans (by kernel_rfl)
noncomputable def YH (a:List DC):Out :=
 ja (if ((a.getD 0 d0).ss == ([73,110,116]:List UInt8))=true then
 .norm [.b true]
 else
 if ((a.getD 0 d0).ss == ([70,108,111,97,116]:List UInt8))=true then
 .norm [.b true]
 else
 if ((a.getD 0 d0).ss == ([83,116,114,105,110,103]:List UInt8))=true then
 .norm [.b true]
 else
 if ((a.getD 0 d0).ss == ([66,111,111,108,101,97,110]:List UInt8))=true then
 .norm [.b true]
 else
 .norm [.b ((a.getD 0 d0).ss == ([73,68]:List UInt8))]) fun v1 =>
 .ret [qB v1 0]
theorem j2m a:zB a=YH a:=(jq cfg 34 _ a).trans (by kernel_rfl)
noncomputable def yr:List DC → Out:=fun v2 =>
 if (decide ((v2.getD 2 d0).ii < (((v2.getD 0 d0).ll).length:Int)))=true then
 j9 (if 9=9 ∧ 0 ≤ (v2.getD 2 d0).ii ∧ (v2.getD 2 d0).ii < (((v2.getD 0 d0).ll).length:Int) then
 if ((v2.getD 1 d0).ss).length + (((((v2.getD 0 d0).ll).getD ((v2.getD 2 d0).ii).toNat []).getD 0 d0).ss).length < jT then
 if (((v2.getD 1 d0).ss) ++ (((((v2.getD 0 d0).ll).getD ((v2.getD 2 d0).ii).toNat []).getD 0 d0).ss)).length + ([10]:List UInt8).length < jT then
 .norm [qL v2 0,.s ((((v2.getD 1 d0).ss) ++ (((((v2.getD 0 d0).ll).getD ((v2.getD 2 d0).ii).toNat []).getD 0 d0).ss)) ++ ([10]:List UInt8)),qI v2 2,qL v2 3,qI v2 4,qI v2 5]
 else
 .fail
 else
 .fail
 else
 .fail) 1 fun v3 =>
 .norm [qL v3 0,qS v3 1,.i (IntKind.i64.wrap ((v3.getD 2 d0).ii + (1:Int))),qL v3 3,qI v3 4,qI v3 5]
 else
 .ex 0 [qS v2 1,qL v2 3,qI v2 4,qI v2 5]
noncomputable def pH:List DC → Out:=fun v5 =>
 (qK [.i (3:Int),qL v5 3,qI v5 4,qI v5 5]).bindR fun r6 =>
 if (decide ((v5.getD 2 d0).ii < (IntKind.i64.wrap ((1:Int) + (r6.getD 0 d0).ii))))=true then
 j9 ((qK [.i (((v5.getD 1 d0).ll).length:Int),qL r6 1,qI r6 2,qI r6 3]).bindR fun r7 =>
 if 31=31 ∧ 0 ≤ (r7.getD 0 d0).ii ∧ (r7.getD 0 d0).ii < (((v5.getD 1 d0).ll).length:Int) then
 if 9=9 ∧ 0 ≤ (0:Int) ∧ (0:Int) < ((((((v5.getD 1 d0).ll).getD ((r7.getD 0 d0).ii).toNat []).getD 0 d0).ll).length:Int) then
 if 9=9 ∧ 0 ≤ (1:Int) ∧ (1:Int) < ((((((v5.getD 1 d0).ll).getD ((r7.getD 0 d0).ii).toNat []).getD 0 d0).ll).length:Int) then
 (Jm [qS v5 0,.s ((((((((v5.getD 1 d0).ll).getD ((r7.getD 0 d0).ii).toNat []).getD 0 d0).ll).getD (0:Int).toNat []).getD 0 d0).ss),.s ((((((((v5.getD 1 d0).ll).getD ((r7.getD 0 d0).ii).toNat []).getD 0 d0).ll).getD (1:Int).toNat []).getD 0 d0).ss)]).bindR fun r8 =>
 .norm [qS r8 0,qL v5 1,qI v5 2,qL r7 1,qI r7 2,qI r7 3]
 else
 .fail
 else
 .fail
 else
 .fail) 3 fun v9 =>
 .norm [qS v9 0,qL v9 1,.i (IntKind.i64.wrap ((v9.getD 2 d0).ii + (1:Int))),qL v9 3,qI v9 4,qI v9 5]
 else
 .ex 2 [qS v5 0,qL r6 1,qI r6 2,qI r6 3]
noncomputable def Yt (a:List DC):Out :=
 (yk []).bindR fun r1 =>
 j9 (jy yr [qL r1 0,.s ([]:List UInt8),.i (0:Int),qL a 0,qI a 1,qI a 2]) 0 fun v4 =>
 j9 (jy pH [qS v4 0,.sl [[DC.sl [[DC.s ([32,32,110,97,109,101,58,32,83,116,114,105,110,103,10,32,32,112,111,115,116,115]:List UInt8)],[DC.s ([32,32,110,97,109,101,58,32,83,116,114,105,110,103,33,10,32,32,112,111,115,116,115]:List UInt8)]]],[DC.sl [[DC.s ([102,105,114,115,116,58,32,73,110,116,32,61,32,49,48]:List UInt8)],[DC.s ([102,105,114,115,116,58,32,73,110,116,33,32,61,32,49,48]:List UInt8)]]],[DC.sl [[DC.s ([102,105,114,115,116,58,32,73,110,116,32,61,32,49,48,44,32]:List UInt8)],[DC.s ([]:List UInt8)]]],[DC.sl [[DC.s ([102,105,114,115,116,58,32,73,110,116,32,61,32,49,48]:List UInt8)],[DC.s ([102,105,114,115,116,58,32,73,110,116,32,61,32,49,49,44,32,109,111,114,101,58,32,73,110,116]:List UInt8)]]],[DC.sl [[DC.s ([102,105,114,115,116,58,32,73,110,116,32,61,32,49,48]:List UInt8)],[DC.s ([102,105,114,115,116,58,32,73,110,116,32,61,32,49,48,44,32,109,111,114,101,58,32,73,110,116,33]:List UInt8)]]],[DC.sl [[DC.s ([105,100,58,32,73,68,33,41,58,32,78,111,100,101]:List UInt8)],[DC.s ([105,100,58,32,73,68,41,58,32,78,111,100,101]:List UInt8)]]],[DC.sl [[DC.s ([105,100,58,32,73,68,41,58,32,85,115,101,114]:List UInt8)],[DC.s ([105,100,58,32,73,68,33,41,58,32,85,115,101,114]:List UInt8)]]],[DC.sl [[DC.s ([32,32,66,76,85,69,10]:List UInt8)],[DC.s ([]:List UInt8)]]],[DC.sl [[DC.s ([32,32,82,69,68,10]:List UInt8)],[DC.s ([32,32,82,69,68,10,32,32,71,82,69,69,78,10]:List UInt8)]]],[DC.sl [[DC.s ([80,111,115,116,32,124,32,85,115,101,114]:List UInt8)],[DC.s ([85,115,101,114]:List UInt8)]]],[DC.sl [[DC.s ([80,111,115,116,32,124,32,85,115,101,114]:List UInt8)],[DC.s ([80,111,115,116,32,124,32,81,117,101,114,121,32,124,32,85,115,101,114]:List UInt8)]]],[DC.sl [[DC.s ([78,97,109,101,100,32,38,32,78,111,100,101]:List UInt8)],[DC.s ([78,111,100,101]:List UInt8)]]],[DC.sl [[DC.s ([116,121,112,101,32,80,111,115,116,32,105,109,112,108,101,109,101,110,116,115,32,78,111,100,101,32,123]:List UInt8)],[DC.s ([116,121,112,101,32,80,111,115,116,32,105,109,112,108,101,109,101,110,116,115,32,78,97,109,101,100,32,38,32,78,111,100,101,32,123,10,32,32,110,97,109,101,58,32,83,116,114,105,110,103]:List UInt8)]]],[DC.sl [[DC.s ([32,32,116,105,116,108,101,58,32,83,116,114,105,110,103,33,10]:List UInt8)],[DC.s ([]:List UInt8)]]],[DC.sl [[DC.s ([32,32,116,105,116,108,101,58,32,83,116,114,105,110,103,33,10]:List UInt8)],[DC.s ([32,32,116,105,116,108,101,58,32,83,116,114,105,110,103,33,10,32,32,101,120,116,114,97,40,120,58,32,73,110,116,33,41,58,32,73,110,116,10]:List UInt8)]]],[DC.sl [[DC.s ([115,99,97,108,97,114,32,68,97,116,101]:List UInt8)],[DC.s ([101,110,117,109,32,68,97,116,101,32,123,10,32,32,65,10,125]:List UInt8)]]],[DC.sl [[DC.s ([115,99,97,108,97,114,32,68,97,116,101]:List UInt8)],[DC.s ([115,99,97,108,97,114,32,68,97,116,101,10,10,115,99,97,108,97,114,32,78,101,119]:List UInt8)]]],[DC.sl [[DC.s ([32,111,110,32,70,73,69,76,68,32,124,32,81,85,69,82,89]:List UInt8)],[DC.s ([32,111,110,32,70,73,69,76,68]:List UInt8)]]],[DC.sl [[DC.s ([111,110,32,70,73,69,76,68,10]:List UInt8)],[DC.s ([111,110,32,70,73,69,76,68,32,124,32,81,85,69,82,89,10]:List UInt8)]]],[DC.sl [[DC.s ([114,101,112,101,97,116,97,98,108,101,32]:List UInt8)],[DC.s ([]:List UInt8)]]],[DC.sl [[DC.s ([100,101,101,112,58,32,73,110,116,33,32,61,32,49]:List UInt8)],[DC.s ([100,101,101,112,58,32,73,110,116,33]:List UInt8)]]],[DC.sl [[DC.s ([100,101,101,112,58,32,73,110,116,33,32,61,32,49]:List UInt8)],[DC.s ([100,101,101,112,58,32,73,110,116]:List UInt8)]]],[DC.sl [[DC.s ([32,32,115,105,122,101,58,32,73,110,116,32,61,32,53,10]:List UInt8)],[DC.s ([32,32,115,105,122,101,58,32,73,110,116,33,10]:List UInt8)]]],[DC.sl [[DC.s ([32,32,115,105,122,101,58,32,73,110,116,32,61,32,53,10]:List UInt8)],[DC.s ([]:List UInt8)]]],[DC.sl [[DC.s ([32,32,116,101,120,116,58,32,83,116,114,105,110,103,33,10,32,32,115,105,122,101]:List UInt8)],[DC.s ([32,32,116,101,120,116,58,32,83,116,114,105,110,103,10,32,32,115,105,122,101]:List UInt8)]]],[DC.sl [[DC.s ([32,32,99,111,108,111,114,115,58,32,91,67,111,108,111,114,33,93,10]:List UInt8)],[DC.s ([32,32,99,111,108,111,114,115,58,32,91,67,111,108,111,114,93,10,32,32,98,105,103,58,32,66,111,111,108,101,97,110,10]:List UInt8)]]],[DC.sl [[DC.s ([32,32,114,101,110,97,109,101,40]:List UInt8)],[DC.s ([32,32,111,116,104,101,114,58,32,73,110,116,10,32,32,114,101,110,97,109,101,40]:List UInt8)]]],[DC.sl [[DC.s ([116,121,112,101,32,77,117,116,97,116,105,111,110]:List UInt8)],[DC.s ([116,121,112,101,32,67,104,97,110,103,101]:List UInt8)]]],[DC.sl [[DC.s ([115,99,97,108,97,114,32,68,97,116,101]:List UInt8)],[DC.s ([34,100,34,10,115,99,97,108,97,114,32,68,97,116,101]:List UInt8)]]],[DC.sl [[DC.s ([115,99,97,108,97,114,32,68,97,116,101]:List UInt8)],[DC.s ([115,99,97,108,97,114,32,68,97,116,101,10,10,100,105,114,101,99,116,105,118,101,32,64,115,107,105,112,40,105,102,58,32,66,111,111,108,101,97,110,33,41,32,111,110,32,70,73,69,76,68]:List UInt8)]]],[DC.sl [[DC.s ([111,110,58,32,68,97,116,101,41]:List UInt8)],[DC.s ([111,110,58,32,91,68,97,116,101,93,41]:List UInt8)]]]],.i (0:Int),qL v4 1,qI v4 2,qI v4 3]) 2 fun v10 =>
 .ret [qS v10 0,qL v10 1,qI v10 2,qI v10 3]
theorem j24 a:Qt a=Yt a:=(jq cfg 36 _ a).trans (by kernel_rfl)
noncomputable def Kq (a:List DC):Out :=
 (JN [qS a 0]).bindR fun r1 =>
 if ((r1.getD 1 d0).ii != (0:Int))=true then
 .ret [.sl [],.sl [],.sl [],.sl [],qI r1 1,qI r1 2]
 else
 (Xd [qL r1 0]).bindR fun r2 =>
 .ret [qL r2 0,qL r2 1,qL r2 2,qL r2 3,.i (0:Int),.i (0:Int)]
theorem j0D a:Kf a=Kq a:=(jq cfg 35 _ a).trans (by kernel_rfl)
noncomputable def VZ (a:List DC):Out :=
 (Qv []).bindR fun r1 =>
 (Jb [qL r1 0]).bindR fun r2 =>
 .ret [qL r2 0,qL r2 1,qL r2 2]
theorem j0x a:Kb a=VZ a:=(jq cfg 37 _ a).trans (by kernel_rfl)
noncomputable def Zu (a:List DC):Out :=
 (Xe [qL a 0,qS a 3]).bindR fun r1 =>
 .ret [qI r1 0]
theorem j3i a:VA a=Zu a:=(jq cfg 38 _ a).trans (by kernel_rfl)
noncomputable def yv:List DC → Out:=fun v1 =>
 if (decide ((v1.getD 3 d0).ii < (v1.getD 2 d0).ii))=true then
 j9 (if 9=9 ∧ 0 ≤ (v1.getD 3 d0).ii ∧ (v1.getD 3 d0).ii < (((v1.getD 0 d0).ll).length:Int) then
 if ((v1.getD 1 d0).ss == ((((v1.getD 0 d0).ll).getD ((v1.getD 3 d0).ii).toNat []).getD 0 d0).ss)=true then
 .ret [qI v1 3]
 else
 .norm [qL v1 0,qS v1 1,qI v1 2,qI v1 3]
 else
 .fail) 1 fun v2 =>
 .norm [qL v2 0,qS v2 1,qI v2 2,.i (IntKind.i64.wrap ((v2.getD 3 d0).ii + (1:Int)))]
 else
 .ex 0 []
noncomputable def K5 (a:List DC):Out :=
 j9 (jy yv [qL a 0,qS a 1,.i (((a.getD 0 d0).ll).length:Int),.i (0:Int)]) 0 fun v3 =>
 .ret [.i (-1:Int)]
theorem Xp a:yW a=K5 a:=(jq cfg 39 _ a).trans (by kernel_rfl)
noncomputable def zY (a:List DC):Out :=
 (qT [qS a 0,qS a 1]).bindR fun r1 =>
 .ret [qS r1 0,qB r1 1]
theorem KL a:yb a=zY a:=(jq cfg 42 _ a).trans (by kernel_rfl)
noncomputable def ke:List DC → Out:=fun v1 =>
 if (decide ((v1.getD 2 d0).ii < (v1.getD 1 d0).ii))=true then
 j9 (if 9=9 ∧ 0 ≤ (v1.getD 2 d0).ii ∧ (v1.getD 2 d0).ii < (((v1.getD 0 d0).ll).length:Int) then
 (VJ [.s (((((v1.getD 0 d0).ll).getD ((v1.getD 2 d0).ii).toNat []).getD 0 d0).ss),qL v1 3]).bindR fun r2 =>
 if (r2.getD 0 d0).bb=true then
 .ret [qI v1 2,qL r2 1]
 else
 .norm [qL v1 0,qI v1 1,qI v1 2,qL r2 1]
 else
 .fail) 1 fun v3 =>
 .norm [qL v3 0,qI v3 1,.i (IntKind.i64.wrap ((v3.getD 2 d0).ii + (1:Int))),qL v3 3]
 else
 .ex 0 [qL v1 3]
noncomputable def pn (a:List DC):Out :=
 j9 (jy ke [qL a 0,.i (((a.getD 0 d0).ll).length:Int),.i (0:Int),qL a 1]) 0 fun v4 =>
 .ret [.i (-1:Int),qL v4 0]
theorem yI a:km a=pn a:=(jq cfg 43 _ a).trans (by kernel_rfl)
noncomputable def j1z (a:List DC):Out :=
 .ret [.sl [[DC.s ([105,110,116,101,114,102,97,99,101,32,78,111,100,101,32,123,10,32,32,105,100,58,32,73,68,33,10,125,10]:List UInt8)],[DC.s ([105,110,116,101,114,102,97,99,101,32,78,97,109,101,100,32,105,109,112,108,101,109,101,110,116,115,32,78,111,100,101,32,123,10,32,32,105,100,58,32,73,68,33,10,32,32,110,97,109,101,58,32,83,116,114,105,110,103,10,125,10]:List UInt8)],[DC.s ([116,121,112,101,32,85,115,101,114,32,105,109,112,108,101,109,101,110,116,115,32,78,97,109,101,100,32,38,32,78,111,100,101,32,123,10,32,32,105,100,58,32,73,68,33,10,32,32,110,97,109,101,58,32,83,116,114,105,110,103,10,32,32,112,111,115,116,115,40,102,105,114,115,116,58,32,73,110,116,32,61,32,49,48,44,32,97,102,116,101,114,58,32,73,68,41,58,32,91,80,111,115,116,33,93,33,10,32,32,99,111,108,111,114,58,32,67,111,108,111,114,32,64,100,101,112,114,101,99,97,116,101,100,10,32,32,102,114,105,101,110,100,58,32,85,115,101,114,10,125,10]:List UInt8)],[DC.s ([116,121,112,101,32,80,111,115,116,32,105,109,112,108,101,109,101,110,116,115,32,78,111,100,101,32,123,10,32,32,105,100,58,32,73,68,33,10,32,32,116,105,116,108,101,58,32,83,116,114,105,110,103,33,10,32,32,97,117,116,104,111,114,58,32,85,115,101,114,10,32,32,97,110,121,58,32,91,65,110,121,93,10,125,10]:List UInt8)],[DC.s ([117,110,105,111,110,32,65,110,121,32,61,32,80,111,115,116,32,124,32,85,115,101,114,10]:List UInt8)],[DC.s ([101,110,117,109,32,67,111,108,111,114,32,123,10,32,32,66,76,85,69,10,32,32,82,69,68,10,125,10]:List UInt8)],[DC.s ([105,110,112,117,116,32,70,105,110,100,32,123,10,32,32,116,101,120,116,58,32,83,116,114,105,110,103,33,10,32,32,115,105,122,101,58,32,73,110,116,32,61,32,53,10,32,32,99,111,108,111,114,115,58,32,91,67,111,108,111,114,33,93,10,32,32,109,111,114,101,58,32,70,105,110,100,10,125,10]:List UInt8)],[DC.s ([115,99,97,108,97,114,32,68,97,116,101,10]:List UInt8)],[DC.s ([100,105,114,101,99,116,105,118,101,32,64,111,110,99,101,40,107,101,121,58,32,83,116,114,105,110,103,44,32,100,101,101,112,58,32,73,110,116,33,32,61,32,49,41,32,111,110,32,70,73,69,76,68,32,124,32,81,85,69,82,89,10]:List UInt8)],[DC.s ([100,105,114,101,99,116,105,118,101,32,64,109,97,110,121,32,114,101,112,101,97,116,97,98,108,101,32,111,110,32,70,73,69,76,68,10]:List UInt8)],[DC.s ([116,121,112,101,32,81,117,101,114,121,32,123,10,32,32,110,111,100,101,40,105,100,58,32,73,68,33,41,58,32,78,111,100,101,10,32,32,117,115,101,114,40,105,100,58,32,73,68,41,58,32,85,115,101,114,10,32,32,102,105,110,100,40,98,121,58,32,70,105,110,100,33,44,32,111,110,58,32,68,97,116,101,41,58,32,91,65,110,121,33,93,10,32,32,99,111,108,111,114,115,58,32,91,67,111,108,111,114,93,10,32,32,110,97,109,101,100,58,32,78,97,109,101,100,10,125,10]:List UInt8)],[DC.s ([116,121,112,101,32,77,117,116,97,116,105,111,110,32,123,10,32,32,114,101,110,97,109,101,40,105,100,58,32,73,68,33,44,32,110,97,109,101,58,32,83,116,114,105,110,103,41,58,32,85,115,101,114,10,125,10]:List UInt8)]]]
theorem Vb a:yk a=j1z a:=(jq cfg 46 _ a).trans (by kernel_rfl)
noncomputable def kU:List DC → Out:=fun v1 =>
 if (decide ((IntKind.i64.wrap ((v1.getD 3 d0).ii + (((v1.getD 1 d0).ss).length:Int))) ≤ (((v1.getD 0 d0).ss).length:Int)))=true then
 j9 (if 0 ≤ (v1.getD 3 d0).ii ∧ (v1.getD 3 d0).ii ≤ (IntKind.i64.wrap ((v1.getD 3 d0).ii + (((v1.getD 1 d0).ss).length:Int))) ∧ (IntKind.i64.wrap ((v1.getD 3 d0).ii + (((v1.getD 1 d0).ss).length:Int))) ≤ (((v1.getD 0 d0).ss).length:Int) then
 if (((((v1.getD 0 d0).ss).take (IntKind.i64.wrap ((v1.getD 3 d0).ii + (((v1.getD 1 d0).ss).length:Int))).toNat).drop ((v1.getD 3 d0).ii).toNat) == (v1.getD 1 d0).ss)=true then
 if 0 ≤ (v1.getD 3 d0).ii ∧ (v1.getD 3 d0).ii ≤ (((v1.getD 0 d0).ss).length:Int) then
 if (((v1.getD 0 d0).ss).take ((v1.getD 3 d0).ii).toNat).length + ((v1.getD 2 d0).ss).length < jT then
 if 0 ≤ (IntKind.i64.wrap ((v1.getD 3 d0).ii + (((v1.getD 1 d0).ss).length:Int))) ∧ (IntKind.i64.wrap ((v1.getD 3 d0).ii + (((v1.getD 1 d0).ss).length:Int))) ≤ (((v1.getD 0 d0).ss).length:Int) then
 if ((((v1.getD 0 d0).ss).take ((v1.getD 3 d0).ii).toNat) ++ ((v1.getD 2 d0).ss)).length + (((v1.getD 0 d0).ss).drop (IntKind.i64.wrap ((v1.getD 3 d0).ii + (((v1.getD 1 d0).ss).length:Int))).toNat).length < jT then
 .ret [.s (((((v1.getD 0 d0).ss).take ((v1.getD 3 d0).ii).toNat) ++ ((v1.getD 2 d0).ss)) ++ (((v1.getD 0 d0).ss).drop (IntKind.i64.wrap ((v1.getD 3 d0).ii + (((v1.getD 1 d0).ss).length:Int))).toNat))]
 else
 .fail
 else
 .fail
 else
 .fail
 else
 .fail
 else
 .norm [qS v1 0,qS v1 1,qS v1 2,qI v1 3]
 else
 .fail) 1 fun v2 =>
 .norm [qS v2 0,qS v2 1,qS v2 2,.i (IntKind.i64.wrap ((v2.getD 3 d0).ii + (1:Int)))]
 else
 .ex 0 [qS v1 0]
noncomputable def QM (a:List DC):Out :=
 j9 (jy kU [qS a 0,qS a 1,qS a 2,.i (0:Int)]) 0 fun v3 =>
 .ret [qS v3 0]
theorem Z2 a:Jm a=QM a:=(jq cfg 47 _ a).trans (by kernel_rfl)
noncomputable def ky:List DC → Out:=fun v8 =>
 ja (if ((v8.getD 5 d0).ii == (0:Int))=true then
 if (decide ((v8.getD 3 d0).ii < (((v8.getD 2 d0).ll).length:Int)))=true then
 .norm [.b true,qI v8 0,qI v8 1,qL v8 2,qI v8 3,qI v8 4,qI v8 5,qI v8 6,qL v8 7]
 else
 .norm [.b ((((v8.getD 7 d0).ll).length:Int) == (0:Int)),qI v8 0,qI v8 1,qL v8 2,qI v8 3,qI v8 4,qI v8 5,qI v8 6,qL v8 7]
 else
 .norm [.b false,qI v8 0,qI v8 1,qL v8 2,qI v8 3,qI v8 4,qI v8 5,qI v8 6,qL v8 7]) fun v9 =>
 if (v9.getD 0 d0).bb=true then
 j9 (ja (if ((((v9.getD 8 d0).ll).length:Int) == (60:Int))=true then
 (j16 [qL v9 3,qI v9 4,qI v9 5,qI v9 6,qI v9 7]).bindR fun r10 =>
 .norm [qB r10 0,qI v9 1,qI v9 2,qL r10 1,qI r10 2,qI r10 3,qI r10 4,qI r10 5,qL v9 8]
 else
 .norm [.b false,qI v9 1,qI v9 2,qL v9 3,qI v9 4,qI v9 5,qI v9 6,qI v9 7,qL v9 8]) fun v11 =>
 if (v11.getD 0 d0).bb=true then
 (jL [.i (6:Int),qL v11 3,qI v11 4,qI v11 5,qI v11 6,qI v11 7]).bindR fun r12 =>
 .ex 0 [qI v11 1,qI v11 2,qL r12 0,qI r12 1,qI r12 2,qI r12 3,qI r12 4,qL v11 8]
 else
 (JI [qL v11 3,qI v11 4,qI v11 5,qI v11 6,qI v11 7]).bindR fun r13 =>
 if ((v11.getD 8 d0).ll).length + [[qI r13 0,qI r13 1,qS r13 2,qL r13 3,qL r13 4,qL r13 5,qS r13 6,qS r13 7,qL r13 8,qL r13 9,qI r13 10,qB r13 11,qS r13 12,qS r13 13,qL r13 14,qL r13 15,qL r13 16,qL r13 17,qL r13 18,qB r13 19,qL r13 20]].length < jT then
 .norm [qI v11 1,qI v11 2,qL r13 21,qI r13 22,qI r13 23,qI r13 24,qI r13 25,.sl (((v11.getD 8 d0).ll) ++ [[qI r13 0,qI r13 1,qS r13 2,qL r13 3,qL r13 4,qL r13 5,qS r13 6,qS r13 7,qL r13 8,qL r13 9,qI r13 10,qB r13 11,qS r13 12,qS r13 13,qL r13 14,qL r13 15,qL r13 16,qL r13 17,qL r13 18,qB r13 19,qL r13 20]])]
 else
 .fail) 1 fun v14 =>
 .norm [qI v14 0,qI v14 1,qL v14 2,qI v14 3,qI v14 4,qI v14 5,qI v14 6,qL v14 7]
 else
 .ex 0 [qI v9 1,qI v9 2,qL v9 3,qI v9 4,qI v9 5,qI v9 6,qI v9 7,qL v9 8]
noncomputable def Xt (a:List DC):Out :=
 if bsz (kI [qS a 0]) < jT then
 j9 (jy ky [.i (0:Int),.i (0:Int),.sl (((XZ (kI [qS a 0])).getD 0 d0).ll),.i (((XZ (kI [qS a 0])).getD 1 d0).ii),.i (((XZ (kI [qS a 0])).getD 2 d0).ii),.i (((XZ (kI [qS a 0])).getD 3 d0).ii),.i (((XZ (kI [qS a 0])).getD 4 d0).ii),.sl []]) 0 fun v15 =>
 if ((v15.getD 5 d0).ii != (0:Int))=true then
 .ret [.sl [],qI v15 5,qI v15 6]
 else
 .ret [qL v15 7,.i (0:Int),.i (0:Int)]
 else
 .fail
theorem Zh a:JN a=Xt a:=(jq cfg 44 _ a).trans (by kernel_rfl)
noncomputable def Qj (a:List DC):Out :=
 (Vz [qL a 0]).bindR fun r1 =>
 (Y0 [qL r1 0]).bindR fun r2 =>
 if ((r1.getD 1 d0).ll).length + ((r2.getD 1 d0).ll).length < jT then
 if (decide (((((r1.getD 1 d0).ll) ++ ((r2.getD 1 d0).ll)).length:Int) > (0:Int)))=true then
 .ret [.sl [],.sl [],.sl [],.sl (((r1.getD 1 d0).ll) ++ ((r2.getD 1 d0).ll))]
 else
 (Jb [qL r2 0]).bindR fun r3 =>
 (yV [qL r3 0,qL r3 1,qL r3 2]).bindR fun r4 =>
 if (decide ((((r4.getD 0 d0).ll).length:Int) > (0:Int)))=true then
 .ret [.sl [],.sl [],.sl [],qL r4 0]
 else
 .ret [qL r3 0,qL r3 1,qL r3 2,qL r4 0]
 else
 .fail
theorem j3N a:Xd a=Qj a:=(jq cfg 45 _ a).trans (by kernel_rfl)
noncomputable def zQ:List DC → Out:=fun v2 =>
 if (decide ((v2.getD 2 d0).ii < (((v2.getD 0 d0).ll).length:Int)))=true then
 j9 (if 9=9 ∧ 0 ≤ (v2.getD 2 d0).ii ∧ (v2.getD 2 d0).ii < (((v2.getD 0 d0).ll).length:Int) then
 (JN [.s (((((v2.getD 0 d0).ll).getD ((v2.getD 2 d0).ii).toNat []).getD 0 d0).ss)]).bindR fun r3 =>
 if 116=116 ∧ 0 ≤ (0:Int) ∧ (0:Int) < (((r3.getD 0 d0).ll).length:Int) then
 if ((v2.getD 1 d0).ll).length + [[DC.i (((((r3.getD 0 d0).ll).getD (0:Int).toNat []).getD 10 d0).ii),DC.b (((((r3.getD 0 d0).ll).getD (0:Int).toNat []).getD 11 d0).bb),DC.s (((((r3.getD 0 d0).ll).getD (0:Int).toNat []).getD 12 d0).ss),DC.s (((((r3.getD 0 d0).ll).getD (0:Int).toNat []).getD 13 d0).ss),DC.sl (((((r3.getD 0 d0).ll).getD (0:Int).toNat []).getD 14 d0).ll),DC.sl (((((r3.getD 0 d0).ll).getD (0:Int).toNat []).getD 15 d0).ll),DC.sl (((((r3.getD 0 d0).ll).getD (0:Int).toNat []).getD 16 d0).ll),DC.sl (((((r3.getD 0 d0).ll).getD (0:Int).toNat []).getD 17 d0).ll),DC.sl (((((r3.getD 0 d0).ll).getD (0:Int).toNat []).getD 18 d0).ll),DC.b (((((r3.getD 0 d0).ll).getD (0:Int).toNat []).getD 19 d0).bb),DC.sl (((((r3.getD 0 d0).ll).getD (0:Int).toNat []).getD 20 d0).ll)]].length < jT then
 .norm [qL v2 0,.sl (((v2.getD 1 d0).ll) ++ [[DC.i (((((r3.getD 0 d0).ll).getD (0:Int).toNat []).getD 10 d0).ii),DC.b (((((r3.getD 0 d0).ll).getD (0:Int).toNat []).getD 11 d0).bb),DC.s (((((r3.getD 0 d0).ll).getD (0:Int).toNat []).getD 12 d0).ss),DC.s (((((r3.getD 0 d0).ll).getD (0:Int).toNat []).getD 13 d0).ss),DC.sl (((((r3.getD 0 d0).ll).getD (0:Int).toNat []).getD 14 d0).ll),DC.sl (((((r3.getD 0 d0).ll).getD (0:Int).toNat []).getD 15 d0).ll),DC.sl (((((r3.getD 0 d0).ll).getD (0:Int).toNat []).getD 16 d0).ll),DC.sl (((((r3.getD 0 d0).ll).getD (0:Int).toNat []).getD 17 d0).ll),DC.sl (((((r3.getD 0 d0).ll).getD (0:Int).toNat []).getD 18 d0).ll),DC.b (((((r3.getD 0 d0).ll).getD (0:Int).toNat []).getD 19 d0).bb),DC.sl (((((r3.getD 0 d0).ll).getD (0:Int).toNat []).getD 20 d0).ll)]]),qI v2 2]
 else
 .fail
 else
 .fail
 else
 .fail) 1 fun v4 =>
 .norm [qL v4 0,qL v4 1,.i (IntKind.i64.wrap ((v4.getD 2 d0).ii + (1:Int)))]
 else
 .ex 0 [qL v2 1]
noncomputable def Yv (a:List DC):Out :=
 (yk []).bindR fun r1 =>
 j9 (jy zQ [qL r1 0,.sl [],.i (0:Int)]) 0 fun v5 =>
 .ret [qL v5 0]
theorem j26 a:Qv a=Yv a:=(jq cfg 49 _ a).trans (by kernel_rfl)
noncomputable def j0R:List DC → Out:=fun v20 =>
 if 37=37 ∧ 0 ≤ (v20.getD 1 d0).ii ∧ (v20.getD 1 d0).ii < (((v20.getD 0 d0).ll).length:Int) then
 if (decide ((v20.getD 3 d0).ii < ((((((v20.getD 0 d0).ll).getD ((v20.getD 1 d0).ii).toNat []).getD 8 d0).ll).length:Int)))=true then
 j9 (if 37=37 ∧ 0 ≤ (v20.getD 1 d0).ii ∧ (v20.getD 1 d0).ii < (((v20.getD 0 d0).ll).length:Int) then
 if 125=125 ∧ 0 ≤ (v20.getD 3 d0).ii ∧ (v20.getD 3 d0).ii < ((((((v20.getD 0 d0).ll).getD ((v20.getD 1 d0).ii).toNat []).getD 8 d0).ll).length:Int) then
 ja (if ((((((((v20.getD 0 d0).ll).getD ((v20.getD 1 d0).ii).toNat []).getD 8 d0).ll).getD ((v20.getD 3 d0).ii).toNat []).getD 0 d0).ii == (v20.getD 2 d0).ii)=true then
 if 37=37 ∧ 0 ≤ (v20.getD 1 d0).ii ∧ (v20.getD 1 d0).ii < (((v20.getD 0 d0).ll).length:Int) then
 if 125=125 ∧ 0 ≤ (v20.getD 3 d0).ii ∧ (v20.getD 3 d0).ii < ((((((v20.getD 0 d0).ll).getD ((v20.getD 1 d0).ii).toNat []).getD 8 d0).ll).length:Int) then
 if ((v20.getD 6 d0).ll).length + [[DC.i ((((((((v20.getD 0 d0).ll).getD ((v20.getD 1 d0).ii).toNat []).getD 8 d0).ll).getD ((v20.getD 3 d0).ii).toNat []).getD 0 d0).ii),DC.s ((((((((v20.getD 0 d0).ll).getD ((v20.getD 1 d0).ii).toNat []).getD 8 d0).ll).getD ((v20.getD 3 d0).ii).toNat []).getD 1 d0).ss)]].length < jT then
 .norm [qL v20 0,qI v20 1,qI v20 2,qI v20 3,qL v20 4,qL v20 5,.sl (((v20.getD 6 d0).ll) ++ [[DC.i ((((((((v20.getD 0 d0).ll).getD ((v20.getD 1 d0).ii).toNat []).getD 8 d0).ll).getD ((v20.getD 3 d0).ii).toNat []).getD 0 d0).ii),DC.s ((((((((v20.getD 0 d0).ll).getD ((v20.getD 1 d0).ii).toNat []).getD 8 d0).ll).getD ((v20.getD 3 d0).ii).toNat []).getD 1 d0).ss)]])]
 else
 .fail
 else
 .fail
 else
 .fail
 else
 .norm [qL v20 0,qI v20 1,qI v20 2,qI v20 3,qL v20 4,qL v20 5,qL v20 6]) fun v21 =>
 .norm [qL v21 0,qI v21 1,qI v21 2,qI v21 3,qL v21 4,qL v21 5,qL v21 6]
 else
 .fail
 else
 .fail) 3 fun v22 =>
 .norm [qL v22 0,qI v22 1,qI v22 2,.i (IntKind.i64.wrap ((v22.getD 3 d0).ii + (1:Int))),qL v22 4,qL v22 5,qL v22 6]
 else
 .ex 2 [qL v20 0,qI v20 1,qI v20 2,qL v20 4,qL v20 5,qL v20 6]
 else
 .fail
noncomputable def pg:List DC → Out:=fun v16 =>
 if (decide ((v16.getD 2 d0).ii ≤ (3:Int)))=true then
 j9 (if (decide ((v16.getD 1 d0).ii < (0:Int)))=true then
 if 9=9 ∧ 0 ≤ (v16.getD 2 d0).ii ∧ (v16.getD 2 d0).ii < ([[DC.s ([]:List UInt8)],[DC.s ([81,117,101,114,121]:List UInt8)],[DC.s ([77,117,116,97,116,105,111,110]:List UInt8)],[DC.s ([83,117,98,115,99,114,105,112,116,105,111,110]:List UInt8)]].length:Int) then
 (p9 [qL v16 3,qL v16 4,qL v16 5,.s ((([[DC.s ([]:List UInt8)],[DC.s ([81,117,101,114,121]:List UInt8)],[DC.s ([77,117,116,97,116,105,111,110]:List UInt8)],[DC.s ([83,117,98,115,99,114,105,112,116,105,111,110]:List UInt8)]].getD ((v16.getD 2 d0).ii).toNat []).getD 0 d0).ss)]).bindR fun r17 =>
 ja (if (decide ((r17.getD 0 d0).ii ≥ (0:Int)))=true then
 if 37=37 ∧ 0 ≤ (r17.getD 0 d0).ii ∧ (r17.getD 0 d0).ii < (((v16.getD 3 d0).ll).length:Int) then
 .norm [qL v16 0,qI v16 1,qI v16 2,.s ((([[DC.s ([]:List UInt8)],[DC.s ([81,117,101,114,121]:List UInt8)],[DC.s ([77,117,116,97,116,105,111,110]:List UInt8)],[DC.s ([83,117,98,115,99,114,105,112,116,105,111,110]:List UInt8)]].getD ((v16.getD 2 d0).ii).toNat []).getD 0 d0).ss),.b (((((v16.getD 3 d0).ll).getD ((r17.getD 0 d0).ii).toNat []).getD 0 d0).ii == (2:Int)),qL v16 3,qL v16 4,qL v16 5]
 else
 .fail
 else
 .norm [qL v16 0,qI v16 1,qI v16 2,.s ((([[DC.s ([]:List UInt8)],[DC.s ([81,117,101,114,121]:List UInt8)],[DC.s ([77,117,116,97,116,105,111,110]:List UInt8)],[DC.s ([83,117,98,115,99,114,105,112,116,105,111,110]:List UInt8)]].getD ((v16.getD 2 d0).ii).toNat []).getD 0 d0).ss),.b false,qL v16 3,qL v16 4,qL v16 5]) fun v18 =>
 ja (if (v18.getD 4 d0).bb=true then
 if ((v18.getD 7 d0).ll).length + [[qI v18 2,qS v18 3]].length < jT then
 .norm [qL v18 0,qI v18 1,qI v18 2,qL v18 5,qL v18 6,.sl (((v18.getD 7 d0).ll) ++ [[qI v18 2,qS v18 3]])]
 else
 .fail
 else
 .norm [qL v18 0,qI v18 1,qI v18 2,qL v18 5,qL v18 6,qL v18 7]) fun v19 =>
 .ex 1 [qL v19 0,qI v19 1,qI v19 2,qL v19 3,qL v19 4,qL v19 5]
 else
 .fail
 else
 j9 (jy j0R [qL v16 0,qI v16 1,qI v16 2,.i (0:Int),qL v16 3,qL v16 4,qL v16 5]) 2 fun v23 =>
 .norm [qL v23 0,qI v23 1,qI v23 2,qL v23 3,qL v23 4,qL v23 5]) 1 fun v24 =>
 .norm [qL v24 0,qI v24 1,.i (IntKind.i64.wrap ((v24.getD 2 d0).ii + (1:Int))),qL v24 3,qL v24 4,qL v24 5]
 else
 .ex 0 [qL v16 3,qL v16 4,qL v16 5]
noncomputable def XJ (a:List DC):Out :=
 (Ja [qL a 0,.i (0:Int)]).bindR fun r1 =>
 (Ja [qL a 0,.i (1:Int)]).bindR fun r2 =>
 (zM [qL a 0,.i (2:Int),.s ([]:List UInt8)]).bindR fun r3 =>
 j9 (jy pg [qL a 0,qI r3 0,.i (1:Int),qL r1 0,qL r2 0,.sl []]) 0 fun v25 =>
 .ret [qL v25 0,qL v25 1,qL v25 2]
theorem j1q a:Jb a=XJ a:=(jq cfg 48 _ a).trans (by kernel_rfl)
noncomputable def j0S (a:List DC):Out :=
 if (decide ((((a.getD 0 d0).ll).length:Int) > (60:Int)))=true then
 .ret [.i (-1:Int)]
 else
 (ko [qL a 0,qS a 1]).bindR fun r1 =>
 .ret [qI r1 0]
theorem j3O a:Xe a=j0S a:=(jq cfg 50 _ a).trans (by kernel_rfl)
noncomputable def pi (a:List DC):Out :=
 (qR [qS a 0,qS a 1]).bindR fun r1 =>
 if (!((r1.getD 0 d0).bb))=true then
 .ret [qS a 0,.b false]
 else
 if 0 ≤ (IntKind.i64.wrap ((((a.getD 0 d0).ss).length:Int) - (((a.getD 1 d0).ss).length:Int))) ∧ (IntKind.i64.wrap ((((a.getD 0 d0).ss).length:Int) - (((a.getD 1 d0).ss).length:Int))) ≤ (((a.getD 0 d0).ss).length:Int) then
 .ret [.s (((a.getD 0 d0).ss).take (IntKind.i64.wrap ((((a.getD 0 d0).ss).length:Int) - (((a.getD 1 d0).ss).length:Int))).toNat),.b true]
 else
 .fail
theorem qF a:qT a=pi a:=(jq cfg 62 _ a).trans (by kernel_rfl)
noncomputable def X3 (a:List DC):Out :=
 (jO [qL a 1,qS a 0]).bindR fun r1 =>
 .ret [qB r1 0,qL a 1]
theorem j0F a:VJ a=X3 a:=(jq cfg 33 _ a).trans (by kernel_rfl)
noncomputable def VD (a:List DC):Out :=
 (K7 [qS a 0]).bindR fun r1 =>
 .ret [qL r1 0,.i (0:Int),.i (((a.getD 0 d0).ss).length:Int),qI r1 1,qI r1 2]
theorem Xx (a:List DC):kI a=VD a:=(j83 qk j34 106 [.sl 159,.i .i64,.i .i64,.i .i64,.i .i64] 2 ⟨j34.pk.map pkK,[]⟩ a).trans (by kernel_rfl)
noncomputable def VE (a:List DC):Out :=
 ja (if ((a.getD 4 d0).ii == (0:Int))=true then
 (Qb [qL a 1,qI a 2,qI a 3,qI a 4,qI a 5]).bindR fun r1 =>
 .norm [qL r1 1,qI r1 2,qI r1 3,qI a 0,qI r1 0]
 else
 .norm [qL a 1,qI a 2,qI a 3,qI a 4,qI a 5]) fun v2 =>
 .ret [qL v2 0,qI v2 1,qI v2 2,qI v2 3,qI v2 4]
theorem Yd a:jL a=VE a:=(jq cfg 65 _ a).trans (by kernel_rfl)
noncomputable def JY (a:List DC):Out :=
 (Kc [qL a 0,qI a 1,qI a 2,qI a 3,qI a 4]).bindR fun r1 =>
 if (decide ((r1.getD 0 d0).ii > (0:Int)))=true then
 (j17 [qI r1 0,qL r1 1,qI r1 2,qI r1 3,qI r1 4,qI r1 5]).bindR fun r2 =>
 .ret [.i (1:Int),qI r2 0,qS r2 1,qL r2 2,qL r2 3,qL r2 4,.s [],.s [],.sl [],.sl [],.i (0:Int),.b false,.s [],.s [],.sl [],.sl [],.sl [],.sl [],.sl [],.b false,.sl [],qL r2 5,qI r2 6,qI r2 7,qI r2 8,qI r2 9]
 else
 (kk [.s ([102,114,97,103,109,101,110,116]:List UInt8),qL r1 1,qI r1 2,qI r1 3,qI r1 4,qI r1 5]).bindR fun r3 =>
 if (r3.getD 0 d0).bb=true then
 (ZA [qL r3 1,qI r3 2,qI r3 3,qI r3 4,qI r3 5]).bindR fun r4 =>
 .ret [.i (2:Int),.i (0:Int),.s [],.sl [],.sl [],.sl [],qS r4 0,qS r4 1,qL r4 2,qL r4 3,.i (0:Int),.b false,.s [],.s [],.sl [],.sl [],.sl [],.sl [],.sl [],.b false,.sl [],qL r4 4,qI r4 5,qI r4 6,qI r4 7,qI r4 8]
 else
 (kO [qL r3 1,qI r3 2,qI r3 3,qI r3 4,qI r3 5]).bindR fun r5 =>
 ja (if (decide ((r5.getD 2 d0).ii > (r3.getD 2 d0).ii))=true then
 (kk [.s ([101,120,116,101,110,100]:List UInt8),qL r5 1,qI r5 2,qI r5 3,qI r5 4,qI r5 5]).bindR fun r6 =>
 .norm [qS r5 0,qB r6 0,qL r6 1,qI r6 2,qI r6 3,qI r6 4,qI r6 5,.i (0:Int),.i (0:Int),.s [],.s [],.s [],.i (0:Int),.b false,.s [],.s [],.b false,.i (0:Int),.b false,.s [],.s [],.b false]
 else
 .norm [qS r5 0,.b false,qL r5 1,qI r5 2,qI r5 3,qI r5 4,qI r5 5,.i (0:Int),.i (0:Int),.s [],.s [],.s [],.i (0:Int),.b false,.s [],.s [],.b false,.i (0:Int),.b false,.s [],.s [],.b false]) fun v7 =>
 ja (if (v7.getD 1 d0).bb=true then
 (jL [.i (7:Int),qL v7 2,qI v7 3,qI v7 4,qI v7 5,qI v7 6]).bindR fun r8 =>
 .norm [qL r8 0,qI r8 1,qI r8 2,qI r8 3,qI r8 4,qI v7 7,qI v7 8,qS v7 9,qS v7 10,qS v7 11,qI v7 12,qB v7 13,qS v7 14,qS v7 15,qB v7 16,qI v7 17,qB v7 18,qS v7 19,qS v7 20,.sl [],.sl [],.sl [],.sl [],.sl [],qB v7 21,.sl []]
 else
 (JJ [qS v7 0,qL v7 2,qI v7 3,qI v7 4,qI v7 5,qI v7 6]).bindR fun r9 =>
 .norm [qL r9 11,qI r9 12,qI r9 13,qI r9 14,qI r9 15,qI v7 7,qI v7 8,qS v7 9,qS v7 10,qS v7 11,qI v7 12,qB v7 13,qS v7 14,qS v7 15,qB v7 16,qI r9 0,qB r9 1,qS r9 2,qS r9 3,qL r9 4,qL r9 5,qL r9 6,qL r9 7,qL r9 8,qB r9 9,qL r9 10]) fun v10 =>
 .ret [.i (3:Int),.i (0:Int),.s [],.sl [],.sl [],.sl [],.s [],.s [],.sl [],.sl [],qI v10 15,qB v10 16,qS v10 17,qS v10 18,qL v10 19,qL v10 20,qL v10 21,qL v10 22,qL v10 23,qB v10 24,qL v10 25,qL v10 0,qI v10 1,qI v10 2,qI v10 3,qI v10 4]
theorem KV a:JI a=JY a:=(jq cfg 66 _ a).trans (by kernel_rfl)
noncomputable def Jj:List DC → Out:=fun v1 =>
 if (decide ((v1.getD 2 d0).ii < (((v1.getD 3 d0).ll).length:Int)))=true then
 j9 (if 116=116 ∧ 0 ≤ (v1.getD 2 d0).ii ∧ (v1.getD 2 d0).ii < (((v1.getD 3 d0).ll).length:Int) then
 j9 (ja (if (((((v1.getD 3 d0).ll).getD ((v1.getD 2 d0).ii).toNat []).getD 0 d0).ii == (3:Int))=true then
 (zy [.i (((((v1.getD 3 d0).ll).getD ((v1.getD 2 d0).ii).toNat []).getD 10 d0).ii),.b (((((v1.getD 3 d0).ll).getD ((v1.getD 2 d0).ii).toNat []).getD 11 d0).bb),.s (((((v1.getD 3 d0).ll).getD ((v1.getD 2 d0).ii).toNat []).getD 12 d0).ss),.s (((((v1.getD 3 d0).ll).getD ((v1.getD 2 d0).ii).toNat []).getD 13 d0).ss),.sl (((((v1.getD 3 d0).ll).getD ((v1.getD 2 d0).ii).toNat []).getD 14 d0).ll),.sl (((((v1.getD 3 d0).ll).getD ((v1.getD 2 d0).ii).toNat []).getD 15 d0).ll),.sl (((((v1.getD 3 d0).ll).getD ((v1.getD 2 d0).ii).toNat []).getD 16 d0).ll),.sl (((((v1.getD 3 d0).ll).getD ((v1.getD 2 d0).ii).toNat []).getD 17 d0).ll),.sl (((((v1.getD 3 d0).ll).getD ((v1.getD 2 d0).ii).toNat []).getD 18 d0).ll),.b (((((v1.getD 3 d0).ll).getD ((v1.getD 2 d0).ii).toNat []).getD 19 d0).bb),.sl (((((v1.getD 3 d0).ll).getD ((v1.getD 2 d0).ii).toNat []).getD 20 d0).ll)]).bindR fun r2 =>
 if ((v1.getD 0 d0).ll).length + [[qI r2 0,qB r2 1,qS r2 2,qS r2 3,qL r2 4,qL r2 5,qL r2 6,qL r2 7,qL r2 8,qB r2 9,qL r2 10]].length < jT ∧ 24=24 then
 .norm [.sl (((v1.getD 0 d0).ll) ++ [[qI r2 0,qB r2 1,qS r2 2,qS r2 3,qL r2 4,qL r2 5,qL r2 6,qL r2 7,qL r2 8,qB r2 9,qL r2 10]]),qL v1 1,qI v1 2,qL v1 3]
 else
 .fail
 else
 ja (if (((((v1.getD 3 d0).ll).getD ((v1.getD 2 d0).ii).toNat []).getD 0 d0).ii == (2:Int))=true then
 if ((v1.getD 1 d0).ll).length + [[DC.i (1:Int),DC.s (((((v1.getD 3 d0).ll).getD ((v1.getD 2 d0).ii).toNat []).getD 6 d0).ss),DC.s []]].length < jT then
 .norm [qL v1 0,.sl (((v1.getD 1 d0).ll) ++ [[DC.i (1:Int),DC.s (((((v1.getD 3 d0).ll).getD ((v1.getD 2 d0).ii).toNat []).getD 6 d0).ss),DC.s []]]),qI v1 2,qL v1 3]
 else
 .fail
 else
 if ((v1.getD 1 d0).ll).length + [[DC.i (1:Int),DC.s (((((v1.getD 3 d0).ll).getD ((v1.getD 2 d0).ii).toNat []).getD 2 d0).ss),DC.s []]].length < jT then
 .norm [qL v1 0,.sl (((v1.getD 1 d0).ll) ++ [[DC.i (1:Int),DC.s (((((v1.getD 3 d0).ll).getD ((v1.getD 2 d0).ii).toNat []).getD 2 d0).ss),DC.s []]]),qI v1 2,qL v1 3]
 else
 .fail) fun v3 =>
 .norm [qL v3 0,qL v3 1,qI v3 2,qL v3 3]) fun v4 =>
 .norm [qL v4 0,qL v4 1,qI v4 2,qL v4 3]) 2 fun v5 =>
 .norm [qL v5 0,qL v5 1,qI v5 2,qL v5 3]
 else
 .fail) 1 fun v6 =>
 .norm [qL v6 0,qL v6 1,.i (IntKind.i64.wrap ((v6.getD 2 d0).ii + (1:Int))),qL v6 3]
 else
 .ex 0 [qL v1 0,qL v1 1]
noncomputable def Zt (a:List DC):Out :=
 j9 (jy Jj [.sl [],.sl [],.i (0:Int),qL a 0]) 0 fun v7 =>
 .ret [qL v7 0,qL v7 1]
theorem j3h a:Vz a=Zt a:=(jq cfg 67 _ a).trans (by kernel_rfl)
noncomputable def yU:List DC → Out:=fun v1 =>
 if (decide ((v1.getD 3 d0).ii < (((v1.getD 0 d0).ll).length:Int)))=true then
 j9 (if 37=37 ∧ 0 ≤ (v1.getD 3 d0).ii ∧ (v1.getD 3 d0).ii < (((v1.getD 0 d0).ll).length:Int) then
 if ((((v1.getD 0 d0).ll).getD ((v1.getD 3 d0).ii).toNat []).getD 1 d0).bb=true then
 .ex 1 [qL v1 0,qL v1 1,qL v1 2,qI v1 3]
 else
 (qJ [.i (((((v1.getD 0 d0).ll).getD ((v1.getD 3 d0).ii).toNat []).getD 0 d0).ii)]).bindR fun r2 =>
 (zM [qL v1 1,qI r2 0,.s (((((v1.getD 0 d0).ll).getD ((v1.getD 3 d0).ii).toNat []).getD 3 d0).ss)]).bindR fun r3 =>
 if (decide ((r3.getD 0 d0).ii ≥ (0:Int)))=true then
 if ((v1.getD 2 d0).ll).length + [[DC.i (2:Int),DC.s (((((v1.getD 0 d0).ll).getD ((v1.getD 3 d0).ii).toNat []).getD 3 d0).ss),DC.s []]].length < jT then
 .ex 1 [qL v1 0,qL v1 1,.sl (((v1.getD 2 d0).ll) ++ [[DC.i (2:Int),DC.s (((((v1.getD 0 d0).ll).getD ((v1.getD 3 d0).ii).toNat []).getD 3 d0).ss),DC.s []]]),qI v1 3]
 else
 .fail
 else
 (zy [.i (((((v1.getD 0 d0).ll).getD ((v1.getD 3 d0).ii).toNat []).getD 0 d0).ii),.b (((((v1.getD 0 d0).ll).getD ((v1.getD 3 d0).ii).toNat []).getD 1 d0).bb),.s (((((v1.getD 0 d0).ll).getD ((v1.getD 3 d0).ii).toNat []).getD 2 d0).ss),.s (((((v1.getD 0 d0).ll).getD ((v1.getD 3 d0).ii).toNat []).getD 3 d0).ss),.sl (((((v1.getD 0 d0).ll).getD ((v1.getD 3 d0).ii).toNat []).getD 4 d0).ll),.sl (((((v1.getD 0 d0).ll).getD ((v1.getD 3 d0).ii).toNat []).getD 5 d0).ll),.sl (((((v1.getD 0 d0).ll).getD ((v1.getD 3 d0).ii).toNat []).getD 6 d0).ll),.sl (((((v1.getD 0 d0).ll).getD ((v1.getD 3 d0).ii).toNat []).getD 7 d0).ll),.sl (((((v1.getD 0 d0).ll).getD ((v1.getD 3 d0).ii).toNat []).getD 8 d0).ll),.b (((((v1.getD 0 d0).ll).getD ((v1.getD 3 d0).ii).toNat []).getD 9 d0).bb),.sl (((((v1.getD 0 d0).ll).getD ((v1.getD 3 d0).ii).toNat []).getD 10 d0).ll)]).bindR fun r4 =>
 if ((v1.getD 1 d0).ll).length + [[qI r4 0,qB r4 1,qS r4 2,qS r4 3,qL r4 4,qL r4 5,qL r4 6,qL r4 7,qL r4 8,qB r4 9,qL r4 10]].length < jT ∧ 24=24 then
 .norm [qL v1 0,.sl (((v1.getD 1 d0).ll) ++ [[qI r4 0,qB r4 1,qS r4 2,qS r4 3,qL r4 4,qL r4 5,qL r4 6,qL r4 7,qL r4 8,qB r4 9,qL r4 10]]),qL v1 2,qI v1 3]
 else
 .fail
 else
 .fail) 1 fun v5 =>
 .norm [qL v5 0,qL v5 1,qL v5 2,.i (IntKind.i64.wrap ((v5.getD 3 d0).ii + (1:Int)))]
 else
 .ex 0 [qL v1 0,qL v1 1,qL v1 2]
noncomputable def Kz:List DC → Out:=fun v7 =>
 if (decide ((v7.getD 3 d0).ii < (((v7.getD 0 d0).ll).length:Int)))=true then
 j9 (if 37=37 ∧ 0 ≤ (v7.getD 3 d0).ii ∧ (v7.getD 3 d0).ii < (((v7.getD 0 d0).ll).length:Int) then
 if (!(((((v7.getD 0 d0).ll).getD ((v7.getD 3 d0).ii).toNat []).getD 1 d0).bb))=true then
 .ex 3 [qL v7 0,qL v7 1,qL v7 2,qI v7 3]
 else
 (qJ [.i (((((v7.getD 0 d0).ll).getD ((v7.getD 3 d0).ii).toNat []).getD 0 d0).ii)]).bindR fun r8 =>
 (zM [qL v7 1,qI r8 0,.s (((((v7.getD 0 d0).ll).getD ((v7.getD 3 d0).ii).toNat []).getD 3 d0).ss)]).bindR fun r9 =>
 j9 (ja (if (decide ((r9.getD 0 d0).ii < (0:Int)))=true then
 if ((v7.getD 2 d0).ll).length + [[DC.i (3:Int),DC.s (((((v7.getD 0 d0).ll).getD ((v7.getD 3 d0).ii).toNat []).getD 3 d0).ss),DC.s []]].length < jT then
 .norm [qL v7 0,qL v7 1,.sl (((v7.getD 2 d0).ll) ++ [[DC.i (3:Int),DC.s (((((v7.getD 0 d0).ll).getD ((v7.getD 3 d0).ii).toNat []).getD 3 d0).ss),DC.s []]]),qI v7 3]
 else
 .fail
 else
 if 37=37 ∧ 0 ≤ (r9.getD 0 d0).ii ∧ (r9.getD 0 d0).ii < (((v7.getD 1 d0).ll).length:Int) then
 ja (if (((((v7.getD 1 d0).ll).getD ((r9.getD 0 d0).ii).toNat []).getD 0 d0).ii != ((((v7.getD 0 d0).ll).getD ((v7.getD 3 d0).ii).toNat []).getD 0 d0).ii)=true then
 if ((v7.getD 2 d0).ll).length + [[DC.i (4:Int),DC.s (((((v7.getD 0 d0).ll).getD ((v7.getD 3 d0).ii).toNat []).getD 3 d0).ss),DC.s []]].length < jT then
 .norm [qL v7 0,qL v7 1,.sl (((v7.getD 2 d0).ll) ++ [[DC.i (4:Int),DC.s (((((v7.getD 0 d0).ll).getD ((v7.getD 3 d0).ii).toNat []).getD 3 d0).ss),DC.s []]]),qI v7 3]
 else
 .fail
 else
 if 37=37 ∧ 0 ≤ (r9.getD 0 d0).ii ∧ (r9.getD 0 d0).ii < (((v7.getD 1 d0).ll).length:Int) then
 (j4X [.i (((((v7.getD 1 d0).ll).getD ((r9.getD 0 d0).ii).toNat []).getD 0 d0).ii),.b (((((v7.getD 1 d0).ll).getD ((r9.getD 0 d0).ii).toNat []).getD 1 d0).bb),.s (((((v7.getD 1 d0).ll).getD ((r9.getD 0 d0).ii).toNat []).getD 2 d0).ss),.s (((((v7.getD 1 d0).ll).getD ((r9.getD 0 d0).ii).toNat []).getD 3 d0).ss),.sl (((((v7.getD 1 d0).ll).getD ((r9.getD 0 d0).ii).toNat []).getD 4 d0).ll),.sl (((((v7.getD 1 d0).ll).getD ((r9.getD 0 d0).ii).toNat []).getD 5 d0).ll),.sl (((((v7.getD 1 d0).ll).getD ((r9.getD 0 d0).ii).toNat []).getD 6 d0).ll),.sl (((((v7.getD 1 d0).ll).getD ((r9.getD 0 d0).ii).toNat []).getD 7 d0).ll),.sl (((((v7.getD 1 d0).ll).getD ((r9.getD 0 d0).ii).toNat []).getD 8 d0).ll),.b (((((v7.getD 1 d0).ll).getD ((r9.getD 0 d0).ii).toNat []).getD 9 d0).bb),.sl (((((v7.getD 1 d0).ll).getD ((r9.getD 0 d0).ii).toNat []).getD 10 d0).ll),.i (((((v7.getD 0 d0).ll).getD ((v7.getD 3 d0).ii).toNat []).getD 0 d0).ii),.b (((((v7.getD 0 d0).ll).getD ((v7.getD 3 d0).ii).toNat []).getD 1 d0).bb),.s (((((v7.getD 0 d0).ll).getD ((v7.getD 3 d0).ii).toNat []).getD 2 d0).ss),.s (((((v7.getD 0 d0).ll).getD ((v7.getD 3 d0).ii).toNat []).getD 3 d0).ss),.sl (((((v7.getD 0 d0).ll).getD ((v7.getD 3 d0).ii).toNat []).getD 4 d0).ll),.sl (((((v7.getD 0 d0).ll).getD ((v7.getD 3 d0).ii).toNat []).getD 5 d0).ll),.sl (((((v7.getD 0 d0).ll).getD ((v7.getD 3 d0).ii).toNat []).getD 6 d0).ll),.sl (((((v7.getD 0 d0).ll).getD ((v7.getD 3 d0).ii).toNat []).getD 7 d0).ll),.sl (((((v7.getD 0 d0).ll).getD ((v7.getD 3 d0).ii).toNat []).getD 8 d0).ll),.b (((((v7.getD 0 d0).ll).getD ((v7.getD 3 d0).ii).toNat []).getD 9 d0).bb),.sl (((((v7.getD 0 d0).ll).getD ((v7.getD 3 d0).ii).toNat []).getD 10 d0).ll)]).bindR fun r10 =>
 if 37=37 ∧ 0 ≤ (r9.getD 0 d0).ii ∧ (r9.getD 0 d0).ii < (((v7.getD 1 d0).ll).length:Int) then
 if 1037=1037 ∧ (((r9.getD 0 d0).ii).toNat)=(((r9.getD 0 d0).ii).toNat) ∧ 0=0 ∧ 11=11 then
 .norm [qL v7 0,.sl (((v7.getD 1 d0).ll).set (((r9.getD 0 d0).ii).toNat) [qI r10 0,qB r10 1,qS r10 2,qS r10 3,qL r10 4,qL r10 5,qL r10 6,qL r10 7,qL r10 8,qB r10 9,qL r10 10]),qL v7 2,qI v7 3]
 else
 .fail
 else
 .fail
 else
 .fail) fun v11 =>
 .norm [qL v11 0,qL v11 1,qL v11 2,qI v11 3]
 else
 .fail) fun v12 =>
 .norm [qL v12 0,qL v12 1,qL v12 2,qI v12 3]) 4 fun v13 =>
 .norm [qL v13 0,qL v13 1,qL v13 2,qI v13 3]
 else
 .fail) 3 fun v14 =>
 .norm [qL v14 0,qL v14 1,qL v14 2,.i (IntKind.i64.wrap ((v14.getD 3 d0).ii + (1:Int)))]
 else
 .ex 2 [qL v7 1,qL v7 2]
noncomputable def j1Q (a:List DC):Out :=
 if (decide ((((a.getD 0 d0).ll).length:Int) > (60:Int)))=true then
 if ([]:List (List DC)).length + [[DC.i (5:Int),DC.s [],DC.s []]].length < jT then
 .ret [.sl [],.sl (([]:List (List DC)) ++ [[DC.i (5:Int),DC.s [],DC.s []]])]
 else
 .fail
 else
 j9 (jy yU [qL a 0,.sl [],.sl [],.i (0:Int)]) 0 fun v6 =>
 j9 (jy Kz [qL v6 0,qL v6 1,qL v6 2,.i (0:Int)]) 2 fun v15 =>
 .ret [qL v15 0,qL v15 1]
theorem j5d a:Y0 a=j1Q a:=(jq cfg 68 _ a).trans (by kernel_rfl)
noncomputable def kX:List DC → Out:=fun v2 =>
 if (decide ((v2.getD 1 d0).ii < (((v2.getD 2 d0).ll).length:Int)))=true then
 j9 (if 37=37 ∧ 0 ≤ (v2.getD 1 d0).ii ∧ (v2.getD 1 d0).ii < (((v2.getD 2 d0).ll).length:Int) then
 (zW [qL v2 2,qL v2 3,qL v2 4,.i (((((v2.getD 2 d0).ll).getD ((v2.getD 1 d0).ii).toNat []).getD 0 d0).ii),.b (((((v2.getD 2 d0).ll).getD ((v2.getD 1 d0).ii).toNat []).getD 1 d0).bb),.s (((((v2.getD 2 d0).ll).getD ((v2.getD 1 d0).ii).toNat []).getD 2 d0).ss),.s (((((v2.getD 2 d0).ll).getD ((v2.getD 1 d0).ii).toNat []).getD 3 d0).ss),.sl (((((v2.getD 2 d0).ll).getD ((v2.getD 1 d0).ii).toNat []).getD 4 d0).ll),.sl (((((v2.getD 2 d0).ll).getD ((v2.getD 1 d0).ii).toNat []).getD 5 d0).ll),.sl (((((v2.getD 2 d0).ll).getD ((v2.getD 1 d0).ii).toNat []).getD 6 d0).ll),.sl (((((v2.getD 2 d0).ll).getD ((v2.getD 1 d0).ii).toNat []).getD 7 d0).ll),.sl (((((v2.getD 2 d0).ll).getD ((v2.getD 1 d0).ii).toNat []).getD 8 d0).ll),.b (((((v2.getD 2 d0).ll).getD ((v2.getD 1 d0).ii).toNat []).getD 9 d0).bb),.sl (((((v2.getD 2 d0).ll).getD ((v2.getD 1 d0).ii).toNat []).getD 10 d0).ll)]).bindR fun r3 =>
 if ((v2.getD 0 d0).ll).length + ((r3.getD 0 d0).ll).length < jT then
 .norm [.sl (((v2.getD 0 d0).ll) ++ ((r3.getD 0 d0).ll)),qI v2 1,qL v2 2,qL v2 3,qL v2 4]
 else
 .fail
 else
 .fail) 1 fun v4 =>
 .norm [qL v4 0,.i (IntKind.i64.wrap ((v4.getD 1 d0).ii + (1:Int))),qL v4 2,qL v4 3,qL v4 4]
 else
 .ex 0 [qL v2 0,qL v2 2,qL v2 3,qL v2 4]
noncomputable def kW:List DC → Out:=fun v6 =>
 if (decide ((v6.getD 1 d0).ii < (((v6.getD 3 d0).ll).length:Int)))=true then
 j9 (if 37=37 ∧ 0 ≤ (v6.getD 1 d0).ii ∧ (v6.getD 1 d0).ii < (((v6.getD 3 d0).ll).length:Int) then
 (qb [.s (((((v6.getD 3 d0).ll).getD ((v6.getD 1 d0).ii).toNat []).getD 3 d0).ss)]).bindR fun r7 =>
 ja (if (r7.getD 0 d0).bb=true then
 if 37=37 ∧ 0 ≤ (v6.getD 1 d0).ii ∧ (v6.getD 1 d0).ii < (((v6.getD 3 d0).ll).length:Int) then
 if ((v6.getD 0 d0).ll).length + [[DC.i (6:Int),DC.s (((((v6.getD 3 d0).ll).getD ((v6.getD 1 d0).ii).toNat []).getD 3 d0).ss),DC.s []]].length < jT then
 .norm [.sl (((v6.getD 0 d0).ll) ++ [[DC.i (6:Int),DC.s (((((v6.getD 3 d0).ll).getD ((v6.getD 1 d0).ii).toNat []).getD 3 d0).ss),DC.s []]]),qI v6 1,qL v6 2,qL v6 3,qL v6 4]
 else
 .fail
 else
 .fail
 else
 .norm [qL v6 0,qI v6 1,qL v6 2,qL v6 3,qL v6 4]) fun v8 =>
 if 37=37 ∧ 0 ≤ (v8.getD 1 d0).ii ∧ (v8.getD 1 d0).ii < (((v8.getD 3 d0).ll).length:Int) then
 if ([64]:List UInt8).length + (((((v8.getD 3 d0).ll).getD ((v8.getD 1 d0).ii).toNat []).getD 3 d0).ss).length < jT then
 if 37=37 ∧ 0 ≤ (v8.getD 1 d0).ii ∧ (v8.getD 1 d0).ii < (((v8.getD 3 d0).ll).length:Int) then
 (JO [qL v8 2,qL v8 3,qL v8 4,.s (([64]:List UInt8) ++ (((((v8.getD 3 d0).ll).getD ((v8.getD 1 d0).ii).toNat []).getD 3 d0).ss)),.sl (((((v8.getD 3 d0).ll).getD ((v8.getD 1 d0).ii).toNat []).getD 6 d0).ll)]).bindR fun r9 =>
 if ((v8.getD 0 d0).ll).length + ((r9.getD 0 d0).ll).length < jT then
 .norm [.sl (((v8.getD 0 d0).ll) ++ ((r9.getD 0 d0).ll)),qI v8 1,qL v8 2,qL v8 3,qL v8 4]
 else
 .fail
 else
 .fail
 else
 .fail
 else
 .fail
 else
 .fail) 3 fun v10 =>
 .norm [qL v10 0,.i (IntKind.i64.wrap ((v10.getD 1 d0).ii + (1:Int))),qL v10 2,qL v10 3,qL v10 4]
 else
 .ex 2 [qL v6 0,qL v6 2,qL v6 3,qL v6 4]
noncomputable def kV:List DC → Out:=fun v15 =>
 if (decide ((v15.getD 4 d0).ii < (v15.getD 1 d0).ii))=true then
 j9 (ja (if (v15.getD 2 d0).bb=true then
 .norm [qL v15 0,qI v15 1,.b true,qB v15 3,qI v15 4,qL v15 5,qL v15 6,qL v15 7,qI v15 8,qS v15 9]
 else
 if 125=125 ∧ 0 ≤ (v15.getD 4 d0).ii ∧ (v15.getD 4 d0).ii < (((v15.getD 7 d0).ll).length:Int) then
 .norm [qL v15 0,qI v15 1,.b (((((v15.getD 7 d0).ll).getD ((v15.getD 4 d0).ii).toNat []).getD 0 d0).ii == (v15.getD 8 d0).ii),qB v15 3,qI v15 4,qL v15 5,qL v15 6,qL v15 7,qI v15 8,qS v15 9]
 else
 .fail) fun v16 =>
 ja (if (v16.getD 3 d0).bb=true then
 .norm [qL v16 0,qI v16 1,qB v16 2,.b true,qI v16 4,qL v16 5,qL v16 6,qL v16 7,qI v16 8,qS v16 9]
 else
 if 125=125 ∧ 0 ≤ (v16.getD 4 d0).ii ∧ (v16.getD 4 d0).ii < (((v16.getD 7 d0).ll).length:Int) then
 .norm [qL v16 0,qI v16 1,qB v16 2,.b (((((v16.getD 7 d0).ll).getD ((v16.getD 4 d0).ii).toNat []).getD 1 d0).ss == (v16.getD 9 d0).ss),qI v16 4,qL v16 5,qL v16 6,qL v16 7,qI v16 8,qS v16 9]
 else
 .fail) fun v17 =>
 .norm [qL v17 0,qI v17 1,qB v17 2,qB v17 3,qI v17 4,qL v17 5,qL v17 6,qL v17 7,qI v17 8,qS v17 9]) 7 fun v18 =>
 .norm [qL v18 0,qI v18 1,qB v18 2,qB v18 3,.i (IntKind.i64.wrap ((v18.getD 4 d0).ii + (1:Int))),qL v18 5,qL v18 6,qL v18 7,qI v18 8,qS v18 9]
 else
 .ex 6 [qL v15 0,qI v15 1,qB v15 2,qB v15 3,qL v15 5,qL v15 6,qL v15 7,qI v15 8,qS v15 9]
noncomputable def jZ:List DC → Out:=fun v14 =>
 if (decide ((v14.getD 1 d0).ii < (((v14.getD 4 d0).ll).length:Int)))=true then
 j9 (if 125=125 ∧ 0 ≤ (v14.getD 1 d0).ii ∧ (v14.getD 1 d0).ii < (((v14.getD 4 d0).ll).length:Int) then
 j9 (jy kV [qL v14 0,qI v14 1,.b false,.b false,.i (0:Int),qL v14 2,qL v14 3,qL v14 4,.i (((((v14.getD 4 d0).ll).getD ((v14.getD 1 d0).ii).toNat []).getD 0 d0).ii),.s (((((v14.getD 4 d0).ll).getD ((v14.getD 1 d0).ii).toNat []).getD 1 d0).ss)]) 6 fun v19 =>
 ja (if (v19.getD 2 d0).bb=true then
 (qq [qI v19 7]).bindR fun r20 =>
 if ((v19.getD 0 d0).ll).length + [[DC.i (2:Int),qS r20 0,qS v19 8]].length < jT then
 .norm [.sl (((v19.getD 0 d0).ll) ++ [[DC.i (2:Int),qS r20 0,qS v19 8]]),qI v19 1,qB v19 3,qL v19 4,qL v19 5,qL v19 6,qI v19 7,qS v19 8]
 else
 .fail
 else
 .norm [qL v19 0,qI v19 1,qB v19 3,qL v19 4,qL v19 5,qL v19 6,qI v19 7,qS v19 8]) fun v21 =>
 ja ((jU [qL v21 3,qL v21 4,qL v21 5,qS v21 7]).bindR fun r22 =>
 if ((r22.getD 0 d0).ii != (2:Int))=true then
 .norm [qL v21 0,qI v21 1,.b true,qL v21 3,qL v21 4,qL v21 5,qI v21 6,qS v21 7]
 else
 .norm [qL v21 0,qI v21 1,qB v21 2,qL v21 3,qL v21 4,qL v21 5,qI v21 6,qS v21 7]) fun v23 =>
 ja (if (v23.getD 2 d0).bb=true then
 (qq [qI v23 6]).bindR fun r24 =>
 if ((v23.getD 0 d0).ll).length + [[DC.i (14:Int),qS r24 0,qS v23 7]].length < jT then
 .norm [.sl (((v23.getD 0 d0).ll) ++ [[DC.i (14:Int),qS r24 0,qS v23 7]]),qI v23 1,qL v23 3,qL v23 4,qL v23 5]
 else
 .fail
 else
 .norm [qL v23 0,qI v23 1,qL v23 3,qL v23 4,qL v23 5]) fun v25 =>
 .norm [qL v25 0,qI v25 1,qL v25 2,qL v25 3,qL v25 4]
 else
 .fail) 5 fun v26 =>
 .norm [qL v26 0,.i (IntKind.i64.wrap ((v26.getD 1 d0).ii + (1:Int))),qL v26 2,qL v26 3,qL v26 4]
 else
 .ex 4 [qL v14 0]
noncomputable def K4 (a:List DC):Out :=
 ja (if (decide ((((a.getD 0 d0).ll).length:Int) > (60:Int)))=true then
 .norm [.sl [],.b true,qL a 0,qL a 1,qL a 2]
 else
 if (decide ((((a.getD 1 d0).ll).length:Int) > (60:Int)))=true then
 .norm [.sl [],.b true,qL a 0,qL a 1,qL a 2]
 else
 .norm [.sl [],.b (decide ((((a.getD 2 d0).ll).length:Int) > (60:Int))),qL a 0,qL a 1,qL a 2]) fun v1 =>
 if (v1.getD 1 d0).bb=true then
 if ((v1.getD 0 d0).ll).length + [[DC.i (5:Int),DC.s [],DC.s []]].length < jT then
 .ret [.sl (((v1.getD 0 d0).ll) ++ [[DC.i (5:Int),DC.s [],DC.s []]])]
 else
 .fail
 else
 j9 (jy kX [qL v1 0,.i (0:Int),qL v1 2,qL v1 3,qL v1 4]) 0 fun v5 =>
 j9 (jy kW [qL v5 0,.i (0:Int),qL v5 1,qL v5 2,qL v5 3]) 2 fun v11 =>
 (Vx [qL v11 1,qL v11 2,qL v11 3,.i (1:Int)]).bindR fun r12 =>
 ja (if ((r12.getD 0 d0).ss == ([]:List UInt8))=true then
 if ((v11.getD 0 d0).ll).length + [[DC.i (14:Int),DC.s ([113,117,101,114,121]:List UInt8),DC.s []]].length < jT then
 .norm [.sl (((v11.getD 0 d0).ll) ++ [[DC.i (14:Int),DC.s ([113,117,101,114,121]:List UInt8),DC.s []]]),qL v11 1,qL v11 2,qL v11 3]
 else
 .fail
 else
 .norm [qL v11 0,qL v11 1,qL v11 2,qL v11 3]) fun v13 =>
 j9 (jy jZ [qL v13 0,.i (0:Int),qL v13 1,qL v13 2,qL v13 3]) 4 fun v27 =>
 .ret [qL v27 0]
theorem Xo a:yV a=K4 a:=(jq cfg 69 _ a).trans (by kernel_rfl)
noncomputable def qV:List DC → Out:=fun v1 =>
 if (decide ((v1.getD 3 d0).ii < (((v1.getD 0 d0).ll).length:Int)))=true then
 j9 (if 37=37 ∧ 0 ≤ (v1.getD 3 d0).ii ∧ (v1.getD 3 d0).ii < (((v1.getD 0 d0).ll).length:Int) then
 (qJ [.i (((((v1.getD 0 d0).ll).getD ((v1.getD 3 d0).ii).toNat []).getD 0 d0).ii)]).bindR fun r2 =>
 ja (if ((r2.getD 0 d0).ii == (v1.getD 1 d0).ii)=true then
 if 37=37 ∧ 0 ≤ (v1.getD 3 d0).ii ∧ (v1.getD 3 d0).ii < (((v1.getD 0 d0).ll).length:Int) then
 if ((v1.getD 2 d0).ll).length + [[DC.i (((((v1.getD 0 d0).ll).getD ((v1.getD 3 d0).ii).toNat []).getD 0 d0).ii),DC.b (((((v1.getD 0 d0).ll).getD ((v1.getD 3 d0).ii).toNat []).getD 1 d0).bb),DC.s (((((v1.getD 0 d0).ll).getD ((v1.getD 3 d0).ii).toNat []).getD 2 d0).ss),DC.s (((((v1.getD 0 d0).ll).getD ((v1.getD 3 d0).ii).toNat []).getD 3 d0).ss),DC.sl (((((v1.getD 0 d0).ll).getD ((v1.getD 3 d0).ii).toNat []).getD 4 d0).ll),DC.sl (((((v1.getD 0 d0).ll).getD ((v1.getD 3 d0).ii).toNat []).getD 5 d0).ll),DC.sl (((((v1.getD 0 d0).ll).getD ((v1.getD 3 d0).ii).toNat []).getD 6 d0).ll),DC.sl (((((v1.getD 0 d0).ll).getD ((v1.getD 3 d0).ii).toNat []).getD 7 d0).ll),DC.sl (((((v1.getD 0 d0).ll).getD ((v1.getD 3 d0).ii).toNat []).getD 8 d0).ll),DC.b (((((v1.getD 0 d0).ll).getD ((v1.getD 3 d0).ii).toNat []).getD 9 d0).bb),DC.sl (((((v1.getD 0 d0).ll).getD ((v1.getD 3 d0).ii).toNat []).getD 10 d0).ll)]].length < jT then
 .norm [qL v1 0,qI v1 1,.sl (((v1.getD 2 d0).ll) ++ [[DC.i (((((v1.getD 0 d0).ll).getD ((v1.getD 3 d0).ii).toNat []).getD 0 d0).ii),DC.b (((((v1.getD 0 d0).ll).getD ((v1.getD 3 d0).ii).toNat []).getD 1 d0).bb),DC.s (((((v1.getD 0 d0).ll).getD ((v1.getD 3 d0).ii).toNat []).getD 2 d0).ss),DC.s (((((v1.getD 0 d0).ll).getD ((v1.getD 3 d0).ii).toNat []).getD 3 d0).ss),DC.sl (((((v1.getD 0 d0).ll).getD ((v1.getD 3 d0).ii).toNat []).getD 4 d0).ll),DC.sl (((((v1.getD 0 d0).ll).getD ((v1.getD 3 d0).ii).toNat []).getD 5 d0).ll),DC.sl (((((v1.getD 0 d0).ll).getD ((v1.getD 3 d0).ii).toNat []).getD 6 d0).ll),DC.sl (((((v1.getD 0 d0).ll).getD ((v1.getD 3 d0).ii).toNat []).getD 7 d0).ll),DC.sl (((((v1.getD 0 d0).ll).getD ((v1.getD 3 d0).ii).toNat []).getD 8 d0).ll),DC.b (((((v1.getD 0 d0).ll).getD ((v1.getD 3 d0).ii).toNat []).getD 9 d0).bb),DC.sl (((((v1.getD 0 d0).ll).getD ((v1.getD 3 d0).ii).toNat []).getD 10 d0).ll)]]),qI v1 3]
 else
 .fail
 else
 .fail
 else
 .norm [qL v1 0,qI v1 1,qL v1 2,qI v1 3]) fun v3 =>
 .norm [qL v3 0,qI v3 1,qL v3 2,qI v3 3]
 else
 .fail) 1 fun v4 =>
 .norm [qL v4 0,qI v4 1,qL v4 2,.i (IntKind.i64.wrap ((v4.getD 3 d0).ii + (1:Int)))]
 else
 .ex 0 [qL v1 2]
noncomputable def XG (a:List DC):Out :=
 j9 (jy qV [qL a 0,qI a 1,.sl [],.i (0:Int)]) 0 fun v5 =>
 (yO [qL v5 0]).bindR fun r6 =>
 .ret [qL r6 0]
theorem j1n a:Ja a=XG a:=(jq cfg 70 _ a).trans (by kernel_rfl)
noncomputable def QN:List DC → Out:=fun v1 =>
 if (decide ((v1.getD 3 d0).ii < (((v1.getD 0 d0).ll).length:Int)))=true then
 j9 (ja (if 37=37 ∧ 0 ≤ (v1.getD 3 d0).ii ∧ (v1.getD 3 d0).ii < (((v1.getD 0 d0).ll).length:Int) then
 (qJ [.i (((((v1.getD 0 d0).ll).getD ((v1.getD 3 d0).ii).toNat []).getD 0 d0).ii)]).bindR fun r2 =>
 if ((r2.getD 0 d0).ii == (v1.getD 1 d0).ii)=true then
 if ((v1.getD 1 d0).ii == (2:Int))=true then
 .norm [qL v1 0,qI v1 1,qS v1 2,qI v1 3,.b true]
 else
 if 37=37 ∧ 0 ≤ (v1.getD 3 d0).ii ∧ (v1.getD 3 d0).ii < (((v1.getD 0 d0).ll).length:Int) then
 .norm [qL v1 0,qI v1 1,qS v1 2,qI v1 3,.b (((((v1.getD 0 d0).ll).getD ((v1.getD 3 d0).ii).toNat []).getD 3 d0).ss == (v1.getD 2 d0).ss)]
 else
 .fail
 else
 .norm [qL v1 0,qI v1 1,qS v1 2,qI v1 3,.b false]
 else
 .fail) fun v3 =>
 if (v3.getD 4 d0).bb=true then
 .ret [qI v3 3]
 else
 .norm [qL v3 0,qI v3 1,qS v3 2,qI v3 3]) 1 fun v4 =>
 .norm [qL v4 0,qI v4 1,qS v4 2,.i (IntKind.i64.wrap ((v4.getD 3 d0).ii + (1:Int)))]
 else
 .ex 0 []
noncomputable def j0P (a:List DC):Out :=
 j9 (jy QN [qL a 0,qI a 1,qS a 2,.i (0:Int)]) 0 fun v5 =>
 .ret [.i (-1:Int)]
theorem j3I a:zM a=j0P a:=(jq cfg 71 _ a).trans (by kernel_rfl)
noncomputable def kf:List DC → Out:=fun v1 =>
 if (decide ((v1.getD 2 d0).ii < (v1.getD 1 d0).ii))=true then
 j9 (if 37=37 ∧ 0 ≤ (v1.getD 2 d0).ii ∧ (v1.getD 2 d0).ii < (((v1.getD 0 d0).ll).length:Int) then
 (Y2 [.i (((((v1.getD 0 d0).ll).getD ((v1.getD 2 d0).ii).toNat []).getD 0 d0).ii),.b (((((v1.getD 0 d0).ll).getD ((v1.getD 2 d0).ii).toNat []).getD 1 d0).bb),.s (((((v1.getD 0 d0).ll).getD ((v1.getD 2 d0).ii).toNat []).getD 2 d0).ss),.s (((((v1.getD 0 d0).ll).getD ((v1.getD 2 d0).ii).toNat []).getD 3 d0).ss),.sl (((((v1.getD 0 d0).ll).getD ((v1.getD 2 d0).ii).toNat []).getD 4 d0).ll),.sl (((((v1.getD 0 d0).ll).getD ((v1.getD 2 d0).ii).toNat []).getD 5 d0).ll),.sl (((((v1.getD 0 d0).ll).getD ((v1.getD 2 d0).ii).toNat []).getD 6 d0).ll),.sl (((((v1.getD 0 d0).ll).getD ((v1.getD 2 d0).ii).toNat []).getD 7 d0).ll),.sl (((((v1.getD 0 d0).ll).getD ((v1.getD 2 d0).ii).toNat []).getD 8 d0).ll),.b (((((v1.getD 0 d0).ll).getD ((v1.getD 2 d0).ii).toNat []).getD 9 d0).bb),.sl (((((v1.getD 0 d0).ll).getD ((v1.getD 2 d0).ii).toNat []).getD 10 d0).ll),qS v1 3]).bindR fun r2 =>
 if (r2.getD 0 d0).bb=true then
 .ret [qI v1 2,qS r2 1]
 else
 .norm [qL v1 0,qI v1 1,qI v1 2,qS r2 1]
 else
 .fail) 1 fun v3 =>
 .norm [qL v3 0,qI v3 1,.i (IntKind.i64.wrap ((v3.getD 2 d0).ii + (1:Int))),qS v3 3]
 else
 .ex 0 [qS v1 3]
noncomputable def po (a:List DC):Out :=
 j9 (jy kf [qL a 0,.i (((a.getD 0 d0).ll).length:Int),.i (0:Int),qS a 1]) 0 fun v4 =>
 .ret [.i (-1:Int),qS v4 0]
theorem yJ a:ko a=po a:=(jq cfg 72 _ a).trans (by kernel_rfl)
noncomputable def ph (a:List DC):Out :=
 ja (if (decide ((((a.getD 0 d0).ss).length:Int) ≥ (((a.getD 1 d0).ss).length:Int)))=true then
 if 0 ≤ (IntKind.i64.wrap ((((a.getD 0 d0).ss).length:Int) - (((a.getD 1 d0).ss).length:Int))) ∧ (IntKind.i64.wrap ((((a.getD 0 d0).ss).length:Int) - (((a.getD 1 d0).ss).length:Int))) ≤ (((a.getD 0 d0).ss).length:Int) then
 .norm [.b ((((a.getD 0 d0).ss).drop (IntKind.i64.wrap ((((a.getD 0 d0).ss).length:Int) - (((a.getD 1 d0).ss).length:Int))).toNat) == (a.getD 1 d0).ss)]
 else
 .fail
 else
 .norm [.b false]) fun v1 =>
 .ret [qB v1 0]
theorem qE a:qR a=ph a:=(jq cfg 80 _ a).trans (by kernel_rfl)
noncomputable def kP:List DC → Out:=fun v1 =>
 if (decide ((v1.getD 2 d0).ii < (((v1.getD 0 d0).ss).length:Int)))=true then
 j9 ((zp [qS v1 0,qI v1 2]).bindR fun r2 =>
 if (decide ((r2.getD 0 d0).ii < (0:Int)))=true then
 .ret [qL v1 1,.i (2:Int),qI v1 2]
 else
 .norm [qS v1 0,qL v1 1,.i (IntKind.i64.wrap ((v1.getD 2 d0).ii + (r2.getD 1 d0).ii)),qI v1 3,qI v1 4]) 1 fun v3 =>
 .norm [qS v3 0,qL v3 1,qI v3 2,qI v3 3,qI v3 4]
 else
 .ex 0 [qS v1 0,qL v1 1,qI v1 3,qI v1 4]
noncomputable def pG:List DC → Out:=fun v6 =>
 if (decide ((v6.getD 3 d0).ii < (((v6.getD 0 d0).ss).length:Int)))=true then
 j9 ((qx [qS v6 0,qI v6 3]).bindR fun r7 =>
 ja (if ((r7.getD 4 d0).ii == (0:Int))=true then
 .norm [qS v6 0,qL v6 1,qL v6 2,qI v6 3,qI r7 3,qI r7 4,.b ((((v6.getD 2 d0).ll).length:Int) == (2500:Int)),qI v6 4,qI v6 5,qI r7 0,qS r7 1,qI r7 2]
 else
 .norm [qS v6 0,qL v6 1,qL v6 2,qI v6 3,qI r7 3,qI r7 4,.b false,qI v6 4,qI v6 5,qI r7 0,qS r7 1,qI r7 2]) fun v8 =>
 ja (if (v8.getD 6 d0).bb=true then
 .norm [qS v8 0,qL v8 1,qL v8 2,qI v8 3,qI v8 4,.i (6:Int),qI v8 7,qI v8 8,qI v8 9,qS v8 10,qI v8 11]
 else
 .norm [qS v8 0,qL v8 1,qL v8 2,qI v8 3,qI v8 4,qI v8 5,qI v8 7,qI v8 8,qI v8 9,qS v8 10,qI v8 11]) fun v9 =>
 if ((v9.getD 5 d0).ii != (0:Int))=true then
 .ret [qL v9 1,qI v9 5,qI v9 3]
 else
 if ((v9.getD 2 d0).ll).length + [[qI v9 8,qS v9 9,qI v9 10]].length < jT then
 .norm [qS v9 0,qL v9 1,.sl (((v9.getD 2 d0).ll) ++ [[qI v9 8,qS v9 9,qI v9 10]]),qI v9 4,qI v9 6,qI v9 7]
 else
 .fail) 3 fun v10 =>
 (qH [qS v10 0,qI v10 3]).bindR fun r11 =>
 .norm [qS v10 0,qL v10 1,qL v10 2,qI r11 0,qI v10 4,qI v10 5]
 else
 .ex 2 [qL v6 2,qI v6 4,qI v6 5]
noncomputable def VU (a:List DC):Out :=
 if (decide ((((a.getD 0 d0).ss).length:Int) > (12000:Int)))=true then
 .ret [.sl [],.i (1:Int),.i (0:Int)]
 else
 j9 (jy kP [qS a 0,.sl [],.i (0:Int),.i (0:Int),.i (0:Int)]) 0 fun v4 =>
 (qH [qS v4 0,.i (0:Int)]).bindR fun r5 =>
 j9 (jy pG [qS v4 0,qL v4 1,.sl [],qI r5 0,qI v4 2,qI v4 3]) 2 fun v12 =>
 .ret [qL v12 0,.i (0:Int),.i (0:Int)]
theorem j0s (a:List DC):K7 a=VU a:=(jq qk 81 _ a).trans (by kernel_rfl)
noncomputable def pJ:List DC → Out:=fun v2 =>
 if (decide ((v2.getD 0 d0).ii ≤ (3:Int)))=true then
 j9 ((qq [qI v2 0]).bindR fun r3 =>
 (kk [qS r3 0,qL v2 1,qI v2 2,qI v2 3,qI v2 4,qI v2 5]).bindR fun r4 =>
 if (r4.getD 0 d0).bb=true then
 .ret [qI v2 0,qL r4 1,qI r4 2,qI r4 3,qI r4 4,qI r4 5]
 else
 .norm [qI v2 0,qL r4 1,qI r4 2,qI r4 3,qI r4 4,qI r4 5]) 1 fun v5 =>
 .norm [.i (IntKind.i64.wrap ((v5.getD 0 d0).ii + (1:Int))),qL v5 1,qI v5 2,qI v5 3,qI v5 4,qI v5 5]
 else
 .ex 0 [qL v2 1,qI v2 2,qI v2 3,qI v2 4,qI v2 5]
noncomputable def X0 (a:List DC):Out :=
 (qi [.s ([123]:List UInt8),qL a 0,qI a 1,qI a 2,qI a 3,qI a 4]).bindR fun r1 =>
 if (r1.getD 0 d0).bb=true then
 .ret [.i (1:Int),qL r1 1,qI r1 2,qI r1 3,qI r1 4,qI r1 5]
 else
 j9 (jy pJ [.i (1:Int),qL r1 1,qI r1 2,qI r1 3,qI r1 4,qI r1 5]) 0 fun v6 =>
 .ret [.i (0:Int),qL v6 0,qI v6 1,qI v6 2,qI v6 3,qI v6 4]
theorem j0y a:Kc a=X0 a:=(jq cfg 82 _ a).trans (by kernel_rfl)
noncomputable def K0 (a:List DC):Out :=
 ja (if ((a.getD 4 d0).ii == (0:Int))=true then
 if (decide ((a.getD 2 d0).ii < (((a.getD 1 d0).ll).length:Int)))=true then
 if 159=159 ∧ 0 ≤ (a.getD 2 d0).ii ∧ (a.getD 2 d0).ii < (((a.getD 1 d0).ll).length:Int) then
 if (((((a.getD 1 d0).ll).getD ((a.getD 2 d0).ii).toNat []).getD 0 d0).ii == (2:Int))=true then
 if 159=159 ∧ 0 ≤ (a.getD 2 d0).ii ∧ (a.getD 2 d0).ii < (((a.getD 1 d0).ll).length:Int) then
 .norm [.b (((((a.getD 1 d0).ll).getD ((a.getD 2 d0).ii).toNat []).getD 1 d0).ss == (a.getD 0 d0).ss),qL a 1,qI a 2,qI a 3,qI a 4,qI a 5]
 else
 .fail
 else
 .norm [.b false,qL a 1,qI a 2,qI a 3,qI a 4,qI a 5]
 else
 .fail
 else
 .norm [.b false,qL a 1,qI a 2,qI a 3,qI a 4,qI a 5]
 else
 .norm [.b false,qL a 1,qI a 2,qI a 3,qI a 4,qI a 5]) fun v1 =>
 .ret [qB v1 0,qL v1 1,qI v1 2,qI v1 3,qI v1 4,qI v1 5]
theorem j2c a:kk a=K0 a:=(jq cfg 83 _ a).trans (by kernel_rfl)
noncomputable def QR (a:List DC):Out :=
 ja (if ((a.getD 4 d0).ii == (0:Int))=true then
 if (decide ((a.getD 2 d0).ii < (((a.getD 1 d0).ll).length:Int)))=true then
 if 159=159 ∧ 0 ≤ (a.getD 2 d0).ii ∧ (a.getD 2 d0).ii < (((a.getD 1 d0).ll).length:Int) then
 .norm [.b (((((a.getD 1 d0).ll).getD ((a.getD 2 d0).ii).toNat []).getD 0 d0).ii == (a.getD 0 d0).ii),qL a 1,qI a 2,qI a 3,qI a 4,qI a 5]
 else
 .fail
 else
 .norm [.b false,qL a 1,qI a 2,qI a 3,qI a 4,qI a 5]
 else
 .norm [.b false,qL a 1,qI a 2,qI a 3,qI a 4,qI a 5]) fun v1 =>
 .ret [qB v1 0,qL v1 1,qI v1 2,qI v1 3,qI v1 4,qI v1 5]
theorem j2f a:ym a=QR a:=(jq cfg 84 _ a).trans (by kernel_rfl)
noncomputable def pK:List DC → Out:=fun v1 =>
 if (decide ((v1.getD 0 d0).ii ≤ (8:Int)))=true then
 j9 ((Qw [qI v1 0]).bindR fun r2 =>
 (kk [qS r2 0,qL v1 1,qI v1 2,qI v1 3,qI v1 4,qI v1 5]).bindR fun r3 =>
 if (r3.getD 0 d0).bb=true then
 .ret [qI v1 0,qL r3 1,qI r3 2,qI r3 3,qI r3 4,qI r3 5]
 else
 .norm [qI v1 0,qL r3 1,qI r3 2,qI r3 3,qI r3 4,qI r3 5]) 1 fun v4 =>
 .norm [.i (IntKind.i64.wrap ((v4.getD 0 d0).ii + (1:Int))),qL v4 1,qI v4 2,qI v4 3,qI v4 4,qI v4 5]
 else
 .ex 0 [qL v1 1,qI v1 2,qI v1 3,qI v1 4,qI v1 5]
noncomputable def Ko (a:List DC):Out :=
 j9 (jy pK [.i (1:Int),qL a 0,qI a 1,qI a 2,qI a 3,qI a 4]) 0 fun v5 =>
 .ret [.i (0:Int),qL v5 0,qI v5 1,qI v5 2,qI v5 3,qI v5 4]
theorem j0A a:jX a=Ko a:=(jq cfg 85 _ a).trans (by kernel_rfl)
noncomputable def Xs (a:List DC):Out :=
 if (decide ((a.getD 1 d0).ii < (((a.getD 0 d0).ll).length:Int)))=true then
 if 159=159 ∧ 0 ≤ (a.getD 1 d0).ii ∧ (a.getD 1 d0).ii < (((a.getD 0 d0).ll).length:Int) then
 .ret [.i (((((a.getD 0 d0).ll).getD ((a.getD 1 d0).ii).toNat []).getD 2 d0).ii),qL a 0,qI a 1,qI a 2,qI a 3,qI a 4]
 else
 .fail
 else
 .ret [qI a 2,qL a 0,qI a 1,qI a 2,qI a 3,qI a 4]
theorem Zg a:Qb a=Xs a:=(jq cfg 86 _ a).trans (by kernel_rfl)
noncomputable def Jt (a:List DC):Out :=
 (ym [.i (5:Int),qL a 0,qI a 1,qI a 2,qI a 3,qI a 4]).bindR fun r1 =>
 if (!((r1.getD 0 d0).bb))=true then
 .ret [.s ([]:List UInt8),qL r1 1,qI r1 2,qI r1 3,qI r1 4,qI r1 5]
 else
 if 159=159 ∧ 0 ≤ (IntKind.i64.wrap ((IntKind.i64.wrap ((r1.getD 2 d0).ii + (1:Int))) - (1:Int))) ∧ (IntKind.i64.wrap ((IntKind.i64.wrap ((r1.getD 2 d0).ii + (1:Int))) - (1:Int))) < (((r1.getD 1 d0).ll).length:Int) then
 .ret [.s (((((r1.getD 1 d0).ll).getD (IntKind.i64.wrap ((IntKind.i64.wrap ((r1.getD 2 d0).ii + (1:Int))) - (1:Int))).toNat []).getD 1 d0).ss),qL r1 1,.i (IntKind.i64.wrap ((r1.getD 2 d0).ii + (1:Int))),qI r1 3,qI r1 4,qI r1 5]
 else
 .fail
theorem Q6 a:kO a=Jt a:=(jq cfg 89 _ a).trans (by kernel_rfl)
noncomputable def jG (a:List DC):Out :=
 ja (if ((a.getD 0 d0).ss == ([]:List UInt8))=true then
 (kk [.s ([101,120,116,101,110,100]:List UInt8),qL a 1,qI a 2,qI a 3,qI a 4,qI a 5]).bindR fun r1 =>
 .norm [qB r1 0,qL r1 1,qI r1 2,qI r1 3,qI r1 4,qI r1 5,.i (0:Int),.b false,.s [],.s [],.b false,.i (0:Int),.b false,qS a 0,.s [],.b false]
 else
 .norm [.b false,qL a 1,qI a 2,qI a 3,qI a 4,qI a 5,.i (0:Int),.b false,.s [],.s [],.b false,.i (0:Int),.b false,qS a 0,.s [],.b false]) fun v2 =>
 ja (if (v2.getD 0 d0).bb=true then
 .norm [qL v2 1,.i (IntKind.i64.wrap ((v2.getD 2 d0).ii + (1:Int))),qI v2 3,qI v2 4,qI v2 5,qI v2 6,qB v2 7,qS v2 8,qS v2 9,qB v2 10,qI v2 11,.b true,qS v2 13,qS v2 14,qB v2 15]
 else
 .norm [qL v2 1,qI v2 2,qI v2 3,qI v2 4,qI v2 5,qI v2 6,qB v2 7,qS v2 8,qS v2 9,qB v2 10,qI v2 11,qB v2 12,qS v2 13,qS v2 14,qB v2 15]) fun v3 =>
 (jX [qL v3 0,qI v3 1,qI v3 2,qI v3 3,qI v3 4]).bindR fun r4 =>
 ja (if ((r4.getD 0 d0).ii == (0:Int))=true then
 .norm [.b true,qL r4 1,qI r4 2,qI r4 3,qI r4 4,qI r4 5,qI v3 5,qB v3 6,qS v3 7,qS v3 8,qB v3 9,qI r4 0,qB v3 11,qS v3 12,qS v3 13,qB v3 14]
 else
 if (v3.getD 11 d0).bb=true then
 .norm [.b ((r4.getD 0 d0).ii == (7:Int)),qL r4 1,qI r4 2,qI r4 3,qI r4 4,qI r4 5,qI v3 5,qB v3 6,qS v3 7,qS v3 8,qB v3 9,qI r4 0,qB v3 11,qS v3 12,qS v3 13,qB v3 14]
 else
 .norm [.b false,qL r4 1,qI r4 2,qI r4 3,qI r4 4,qI r4 5,qI v3 5,qB v3 6,qS v3 7,qS v3 8,qB v3 9,qI r4 0,qB v3 11,qS v3 12,qS v3 13,qB v3 14]) fun v5 =>
 if (v5.getD 0 d0).bb=true then
 (jL [.i (7:Int),qL v5 1,qI v5 2,qI v5 3,qI v5 4,qI v5 5]).bindR fun r6 =>
 .ret [qI v5 11,qB v5 12,qS v5 13,qS v5 14,.sl [],.sl [],.sl [],.sl [],.sl [],qB v5 15,.sl [],qL r6 0,qI r6 1,qI r6 2,qI r6 3,qI r6 4]
 else
 ja (if ((v5.getD 11 d0).ii == (7:Int))=true then
 (qy [.s ([64]:List UInt8),qL v5 1,.i (IntKind.i64.wrap ((v5.getD 2 d0).ii + (1:Int))),qI v5 3,qI v5 4,qI v5 5]).bindR fun r7 =>
 .norm [qL r7 0,qI r7 1,qI r7 2,qI r7 3,qI r7 4,qI v5 6,qB v5 7,qS v5 8,qS v5 9,qB v5 10,qI v5 11,qB v5 12,qS v5 13,qS v5 14,qB v5 15]
 else
 .norm [qL v5 1,.i (IntKind.i64.wrap ((v5.getD 2 d0).ii + (1:Int))),qI v5 3,qI v5 4,qI v5 5,qI v5 6,qB v5 7,qS v5 8,qS v5 9,qB v5 10,qI v5 11,qB v5 12,qS v5 13,qS v5 14,qB v5 15]) fun v8 =>
 ja (if ((v8.getD 10 d0).ii != (8:Int))=true then
 (jY [qL v8 0,qI v8 1,qI v8 2,qI v8 3,qI v8 4]).bindR fun r9 =>
 .norm [qL r9 1,qI r9 2,qI r9 3,qI r9 4,qI r9 5,qI v8 5,qB v8 6,qS v8 7,qS v8 8,qB v8 9,qI v8 10,qB v8 11,qS v8 12,qS r9 0,qB v8 14]
 else
 .norm [qL v8 0,qI v8 1,qI v8 2,qI v8 3,qI v8 4,qI v8 5,qB v8 6,qS v8 7,qS v8 8,qB v8 9,qI v8 10,qB v8 11,qS v8 12,qS v8 13,qB v8 14]) fun v10 =>
 if ((v10.getD 10 d0).ii == (7:Int))=true then
 (qQ [.s ([40]:List UInt8),.s ([41]:List UInt8),qL v10 0,qI v10 1,qI v10 2,qI v10 3,qI v10 4]).bindR fun r11 =>
 (kk [.s ([114,101,112,101,97,116,97,98,108,101]:List UInt8),qL r11 1,qI r11 2,qI r11 3,qI r11 4,qI r11 5]).bindR fun r12 =>
 ja (if (r12.getD 0 d0).bb=true then
 .norm [qL r12 1,.i (IntKind.i64.wrap ((r12.getD 2 d0).ii + (1:Int))),qI r12 3,qI r12 4,qI r12 5,qI v10 5,qB v10 6,qS v10 7,qS v10 8,qB v10 9,qI v10 10,qB v10 11,qS v10 12,qS v10 13,qL r11 0,.b true]
 else
 .norm [qL r12 1,qI r12 2,qI r12 3,qI r12 4,qI r12 5,qI v10 5,qB v10 6,qS v10 7,qS v10 8,qB v10 9,qI v10 10,qB v10 11,qS v10 12,qS v10 13,qL r11 0,qB v10 14]) fun v13 =>
 (kk [.s ([111,110]:List UInt8),qL v13 0,qI v13 1,qI v13 2,qI v13 3,qI v13 4]).bindR fun r14 =>
 ja (if (!((r14.getD 0 d0).bb))=true then
 (jL [.i (7:Int),qL r14 1,qI r14 2,qI r14 3,qI r14 4,qI r14 5]).bindR fun r15 =>
 .norm [qL r15 0,qI r15 1,qI r15 2,qI r15 3,qI r15 4,qI v13 5,qB v13 6,qS v13 7,qS v13 8,qB v13 9,qI v13 10,qB v13 11,qS v13 12,qS v13 13,qL v13 14,qB v13 15]
 else
 .norm [qL r14 1,qI r14 2,qI r14 3,qI r14 4,qI r14 5,qI v13 5,qB v13 6,qS v13 7,qS v13 8,qB v13 9,qI v13 10,qB v13 11,qS v13 12,qS v13 13,qL v13 14,qB v13 15]) fun v16 =>
 (zu [qL v16 0,.i (IntKind.i64.wrap ((v16.getD 1 d0).ii + (1:Int))),qI v16 2,qI v16 3,qI v16 4]).bindR fun r17 =>
 .ret [qI v16 10,qB v16 11,qS v16 12,qS v16 13,qL r17 0,.sl [],qL v16 14,.sl [],.sl [],qB v16 15,.sl [],qL r17 1,qI r17 2,qI r17 3,qI r17 4,qI r17 5]
 else
 ja (if ((v10.getD 10 d0).ii == (2:Int))=true then
 (kk [.s ([105,109,112,108,101,109,101,110,116,115]:List UInt8),qL v10 0,qI v10 1,qI v10 2,qI v10 3,qI v10 4]).bindR fun r18 =>
 .norm [qB r18 0,qL r18 1,qI r18 2,qI r18 3,qI r18 4,qI r18 5,qI v10 5,qB v10 6,qS v10 7,qS v10 8,qB v10 9,qI v10 10,qB v10 11,qS v10 12,qS v10 13,qB v10 14]
 else
 if ((v10.getD 10 d0).ii == (3:Int))=true then
 (kk [.s ([105,109,112,108,101,109,101,110,116,115]:List UInt8),qL v10 0,qI v10 1,qI v10 2,qI v10 3,qI v10 4]).bindR fun r19 =>
 .norm [qB r19 0,qL r19 1,qI r19 2,qI r19 3,qI r19 4,qI r19 5,qI v10 5,qB v10 6,qS v10 7,qS v10 8,qB v10 9,qI v10 10,qB v10 11,qS v10 12,qS v10 13,qB v10 14]
 else
 .norm [.b false,qL v10 0,qI v10 1,qI v10 2,qI v10 3,qI v10 4,qI v10 5,qB v10 6,qS v10 7,qS v10 8,qB v10 9,qI v10 10,qB v10 11,qS v10 12,qS v10 13,qB v10 14]) fun v20 =>
 ja (if (v20.getD 0 d0).bb=true then
 (yc [.s ([38]:List UInt8),qL v20 1,.i (IntKind.i64.wrap ((v20.getD 2 d0).ii + (1:Int))),qI v20 3,qI v20 4,qI v20 5]).bindR fun r21 =>
 .norm [qL r21 1,qI r21 2,qI r21 3,qI r21 4,qI r21 5,qI v20 6,qB v20 7,qS v20 8,qS v20 9,qB v20 10,qI v20 11,qB v20 12,qS v20 13,qS v20 14,qL r21 0,qB v20 15]
 else
 .norm [qL v20 1,qI v20 2,qI v20 3,qI v20 4,qI v20 5,qI v20 6,qB v20 7,qS v20 8,qS v20 9,qB v20 10,qI v20 11,qB v20 12,qS v20 13,qS v20 14,.sl [],qB v20 15]) fun v22 =>
 (pz [.b true,qL v22 0,qI v22 1,qI v22 2,qI v22 3,qI v22 4]).bindR fun r23 =>
 j9 (ja (if ((v22.getD 10 d0).ii == (2:Int))=true then
 .norm [qI v22 10,.b ((v22.getD 10 d0).ii == (2:Int)),qL r23 1,qI r23 2,qI r23 3,qI r23 4,qI r23 5,qI v22 5,qB v22 6,qS v22 7,qS v22 8,qB v22 9,qI v22 10,qB v22 11,qS v22 12,qS v22 13,qL v22 14,qB v22 15,qL r23 0]
 else
 .norm [qI v22 10,.b ((v22.getD 10 d0).ii == (3:Int)),qL r23 1,qI r23 2,qI r23 3,qI r23 4,qI r23 5,qI v22 5,qB v22 6,qS v22 7,qS v22 8,qB v22 9,qI v22 10,qB v22 11,qS v22 12,qS v22 13,qL v22 14,qB v22 15,qL r23 0]) fun v24 =>
 ja (if (v24.getD 1 d0).bb=true then
 (zv [qL v24 2,qI v24 3,qI v24 4,qI v24 5,qI v24 6]).bindR fun r25 =>
 .norm [qL r25 1,qI r25 2,qI r25 3,qI r25 4,qI r25 5,qI v24 7,qB v24 8,qS v24 9,qS v24 10,qB v24 11,qI v24 12,qB v24 13,qS v24 14,qS v24 15,qL v24 16,qL r25 0,.sl [],.sl [],.sl [],qB v24 17,qL v24 18]
 else
 ja (if ((v24.getD 0 d0).ii == (4:Int))=true then
 (jJ [.s ([61]:List UInt8),qL v24 2,qI v24 3,qI v24 4,qI v24 5,qI v24 6]).bindR fun r26 =>
 ja (if (r26.getD 0 d0).bb=true then
 (yc [.s ([124]:List UInt8),qL r26 1,qI r26 2,qI r26 3,qI r26 4,qI r26 5]).bindR fun r27 =>
 .norm [qL r27 1,qI r27 2,qI r27 3,qI r27 4,qI r27 5,qI v24 7,qB v24 8,qS v24 9,qS v24 10,qB v24 11,qI v24 12,qB v24 13,qS v24 14,qS v24 15,qL r27 0,qB v24 17,qL v24 18]
 else
 .norm [qL r26 1,qI r26 2,qI r26 3,qI r26 4,qI r26 5,qI v24 7,qB v24 8,qS v24 9,qS v24 10,qB v24 11,qI v24 12,qB v24 13,qS v24 14,qS v24 15,qL v24 16,qB v24 17,qL v24 18]) fun v28 =>
 .norm [qL v28 0,qI v28 1,qI v28 2,qI v28 3,qI v28 4,qI v28 5,qB v28 6,qS v28 7,qS v28 8,qB v28 9,qI v28 10,qB v28 11,qS v28 12,qS v28 13,qL v28 14,.sl [],.sl [],.sl [],qB v28 15,qL v28 16]
 else
 ja (if ((v24.getD 0 d0).ii == (5:Int))=true then
 (zr [qL v24 2,qI v24 3,qI v24 4,qI v24 5,qI v24 6]).bindR fun r29 =>
 .norm [qL r29 1,qI r29 2,qI r29 3,qI r29 4,qI r29 5,qI v24 7,qB v24 8,qS v24 9,qS v24 10,qB v24 11,qI v24 12,qB v24 13,qS v24 14,qS v24 15,qL v24 16,.sl [],qL r29 0,.sl [],qB v24 17,qL v24 18]
 else
 ja (if ((v24.getD 0 d0).ii == (6:Int))=true then
 (qQ [.s ([123]:List UInt8),.s ([125]:List UInt8),qL v24 2,qI v24 3,qI v24 4,qI v24 5,qI v24 6]).bindR fun r30 =>
 .norm [qL r30 1,qI r30 2,qI r30 3,qI r30 4,qI r30 5,qI v24 7,qB v24 8,qS v24 9,qS v24 10,qB v24 11,qI v24 12,qB v24 13,qS v24 14,qS v24 15,qL v24 16,qL r30 0,.sl [],qB v24 17,qL v24 18]
 else
 ja (if ((v24.getD 0 d0).ii == (8:Int))=true then
 ja (if (!((v24.getD 13 d0).bb))=true then
 (qi [.s ([123]:List UInt8),qL v24 2,qI v24 3,qI v24 4,qI v24 5,qI v24 6]).bindR fun r31 =>
 .norm [.b (!((r31.getD 0 d0).bb)),qL r31 1,qI r31 2,qI r31 3,qI r31 4,qI r31 5,qI v24 7,qB v24 8,qS v24 9,qS v24 10,qB v24 11,qI v24 12,qB v24 13,qS v24 14,qS v24 15,qL v24 16,qB v24 17,qL v24 18]
 else
 .norm [.b false,qL v24 2,qI v24 3,qI v24 4,qI v24 5,qI v24 6,qI v24 7,qB v24 8,qS v24 9,qS v24 10,qB v24 11,qI v24 12,qB v24 13,qS v24 14,qS v24 15,qL v24 16,qB v24 17,qL v24 18]) fun v32 =>
 ja (if (v32.getD 0 d0).bb=true then
 (jL [.i (7:Int),qL v32 1,qI v32 2,qI v32 3,qI v32 4,qI v32 5]).bindR fun r33 =>
 .norm [qL r33 0,qI r33 1,qI r33 2,qI r33 3,qI r33 4,qI v32 6,qB v32 7,qS v32 8,qS v32 9,qB v32 10,qI v32 11,qB v32 12,qS v32 13,qS v32 14,qL v32 15,qB v32 16,qL v32 17]
 else
 .norm [qL v32 1,qI v32 2,qI v32 3,qI v32 4,qI v32 5,qI v32 6,qB v32 7,qS v32 8,qS v32 9,qB v32 10,qI v32 11,qB v32 12,qS v32 13,qS v32 14,qL v32 15,qB v32 16,qL v32 17]) fun v34 =>
 (Z0 [qL v34 0,qI v34 1,qI v34 2,qI v34 3,qI v34 4]).bindR fun r35 =>
 .norm [qL r35 1,qI r35 2,qI r35 3,qI r35 4,qI r35 5,qI v34 5,qB v34 6,qS v34 7,qS v34 8,qB v34 9,qI v34 10,qB v34 11,qS v34 12,qS v34 13,qL v34 14,qL r35 0,qB v34 15,qL v34 16]
 else
 .norm [qL v24 2,qI v24 3,qI v24 4,qI v24 5,qI v24 6,qI v24 7,qB v24 8,qS v24 9,qS v24 10,qB v24 11,qI v24 12,qB v24 13,qS v24 14,qS v24 15,qL v24 16,.sl [],qB v24 17,qL v24 18]) fun v36 =>
 .norm [qL v36 0,qI v36 1,qI v36 2,qI v36 3,qI v36 4,qI v36 5,qB v36 6,qS v36 7,qS v36 8,qB v36 9,qI v36 10,qB v36 11,qS v36 12,qS v36 13,qL v36 14,.sl [],qL v36 15,qB v36 16,qL v36 17]) fun v37 =>
 .norm [qL v37 0,qI v37 1,qI v37 2,qI v37 3,qI v37 4,qI v37 5,qB v37 6,qS v37 7,qS v37 8,qB v37 9,qI v37 10,qB v37 11,qS v37 12,qS v37 13,qL v37 14,qL v37 15,.sl [],qL v37 16,qB v37 17,qL v37 18]) fun v38 =>
 .norm [qL v38 0,qI v38 1,qI v38 2,qI v38 3,qI v38 4,qI v38 5,qB v38 6,qS v38 7,qS v38 8,qB v38 9,qI v38 10,qB v38 11,qS v38 12,qS v38 13,qL v38 14,qL v38 15,qL v38 16,qL v38 17,qB v38 18,qL v38 19]) fun v39 =>
 .norm [qL v39 0,qI v39 1,qI v39 2,qI v39 3,qI v39 4,qI v39 5,qB v39 6,qS v39 7,qS v39 8,qB v39 9,qI v39 10,qB v39 11,qS v39 12,qS v39 13,qL v39 14,.sl [],qL v39 15,qL v39 16,qL v39 17,qB v39 18,qL v39 19]) fun v40 =>
 .norm [qL v40 0,qI v40 1,qI v40 2,qI v40 3,qI v40 4,qI v40 5,qB v40 6,qS v40 7,qS v40 8,qB v40 9,qI v40 10,qB v40 11,qS v40 12,qS v40 13,qL v40 14,qL v40 15,qL v40 16,qL v40 17,qL v40 18,qB v40 19,qL v40 20]) 0 fun v41 =>
 ja (if (v41.getD 11 d0).bb=true then
 (j3F [qI v41 10,qB v41 11,qS v41 12,qS v41 13,qL v41 14,qL v41 15,qL v41 16,qL v41 17,qL v41 18,qB v41 19,qL v41 20]).bindR fun r42 =>
 .norm [.b (!((r42.getD 0 d0).bb)),qL v41 0,qI v41 1,qI v41 2,qI v41 3,qI v41 4,qI v41 5,qB v41 6,qS v41 7,qS v41 8,qB v41 9,qI v41 10,qB v41 11,qS v41 12,qS v41 13,qL v41 14,qL v41 15,qL v41 16,qL v41 17,qL v41 18,qB v41 19,qL v41 20]
 else
 .norm [.b false,qL v41 0,qI v41 1,qI v41 2,qI v41 3,qI v41 4,qI v41 5,qB v41 6,qS v41 7,qS v41 8,qB v41 9,qI v41 10,qB v41 11,qS v41 12,qS v41 13,qL v41 14,qL v41 15,qL v41 16,qL v41 17,qL v41 18,qB v41 19,qL v41 20]) fun v43 =>
 ja (if (v43.getD 0 d0).bb=true then
 (jL [.i (7:Int),qL v43 1,qI v43 2,qI v43 3,qI v43 4,qI v43 5]).bindR fun r44 =>
 .norm [qL r44 0,qI r44 1,qI r44 2,qI r44 3,qI r44 4,qI v43 6,qB v43 7,qS v43 8,qS v43 9,qB v43 10,qI v43 11,qB v43 12,qS v43 13,qS v43 14,qL v43 15,qL v43 16,qL v43 17,qL v43 18,qL v43 19,qB v43 20,qL v43 21]
 else
 .norm [qL v43 1,qI v43 2,qI v43 3,qI v43 4,qI v43 5,qI v43 6,qB v43 7,qS v43 8,qS v43 9,qB v43 10,qI v43 11,qB v43 12,qS v43 13,qS v43 14,qL v43 15,qL v43 16,qL v43 17,qL v43 18,qL v43 19,qB v43 20,qL v43 21]) fun v45 =>
 .ret [qI v45 10,qB v45 11,qS v45 12,qS v45 13,qL v45 14,qL v45 15,qL v45 16,qL v45 17,qL v45 18,qB v45 19,qL v45 20,qL v45 0,qI v45 1,qI v45 2,qI v45 3,qI v45 4]
theorem Xy a:JJ a=jG a:=(jq cfg 90 _ a).trans (by kernel_rfl)
noncomputable def Yw (a:List DC):Out :=
 if ([]:List (List DC)).length + ((a.getD 4 d0).ll).length < jT then
 (zx [qL a 5]).bindR fun r1 =>
 (zc [qL a 6]).bindR fun r2 =>
 (zw [qL a 7]).bindR fun r3 =>
 if ([]:List (List DC)).length + ((a.getD 8 d0).ll).length < jT then
 (yl [qL a 10]).bindR fun r4 =>
 .ret [qI a 0,qB a 1,qS a 2,qS a 3,.sl (([]:List (List DC)) ++ ((a.getD 4 d0).ll)),qL r1 0,qL r2 0,qL r3 0,.sl (([]:List (List DC)) ++ ((a.getD 8 d0).ll)),qB a 9,qL r4 0]
 else
 .fail
 else
 .fail
theorem j28 a:zy a=Yw a:=(jq cfg 91 _ a).trans (by kernel_rfl)
noncomputable def XH (a:List DC):Out :=
 j9 (if ((a.getD 0 d0).ii == (7:Int))=true then
 .ret [.i (1:Int)]
 else
 if ((a.getD 0 d0).ii == (8:Int))=true then
 .ret [.i (2:Int)]
 else
 .norm []) 0 fun v1 =>
 .ret [.i (0:Int)]
theorem j1o a:qJ a=XH a:=(jq cfg 92 _ a).trans (by kernel_rfl)
noncomputable def kr (a:List DC):Out :=
 (J0 [qI a 3,qB a 4,qS a 5,qS a 6,qL a 7,qL a 8,qL a 9,qL a 10,qL a 11,qB a 12,qL a 13]).bindR fun r1 =>
 if (r1.getD 0 d0).bb=true then
 if ([]:List (List DC)).length + [[DC.i (5:Int),qS a 6,DC.s []]].length < jT then
 .ret [.sl (([]:List (List DC)) ++ [[DC.i (5:Int),qS a 6,DC.s []]])]
 else
 .fail
 else
 (qb [qS a 6]).bindR fun r2 =>
 ja (if (r2.getD 0 d0).bb=true then
 if ([]:List (List DC)).length + [[DC.i (6:Int),qS a 6,DC.s []]].length < jT then
 .norm [.sl (([]:List (List DC)) ++ [[DC.i (6:Int),qS a 6,DC.s []]]),qL a 0,qL a 1,qL a 2,qI a 3,qB a 4,qS a 5,qS a 6,qL a 7,qL a 8,qL a 9,qL a 10,qL a 11,qB a 12,qL a 13]
 else
 .fail
 else
 .norm [.sl [],qL a 0,qL a 1,qL a 2,qI a 3,qB a 4,qS a 5,qS a 6,qL a 7,qL a 8,qL a 9,qL a 10,qL a 11,qB a 12,qL a 13]) fun v3 =>
 (zB [qS v3 7]).bindR fun r4 =>
 ja (if (r4.getD 0 d0).bb=true then
 if ((v3.getD 0 d0).ll).length + [[DC.i (2:Int),qS v3 7,DC.s []]].length < jT then
 .norm [.sl (((v3.getD 0 d0).ll) ++ [[DC.i (2:Int),qS v3 7,DC.s []]]),qL v3 1,qL v3 2,qL v3 3,qI v3 4,qB v3 5,qS v3 6,qS v3 7,qL v3 8,qL v3 9,qL v3 10,qL v3 11,qL v3 12,qB v3 13,qL v3 14]
 else
 .fail
 else
 .norm [qL v3 0,qL v3 1,qL v3 2,qL v3 3,qI v3 4,qB v3 5,qS v3 6,qS v3 7,qL v3 8,qL v3 9,qL v3 10,qL v3 11,qL v3 12,qB v3 13,qL v3 14]) fun v5 =>
 j9 (ja (if ((v5.getD 4 d0).ii == (2:Int))=true then
 .norm [qL v5 0,qI v5 4,.b ((v5.getD 4 d0).ii == (2:Int)),qL v5 1,qL v5 2,qL v5 3,qI v5 4,qB v5 5,qS v5 6,qS v5 7,qL v5 8,qL v5 9,qL v5 10,qL v5 11,qL v5 12,qB v5 13,qL v5 14]
 else
 .norm [qL v5 0,qI v5 4,.b ((v5.getD 4 d0).ii == (3:Int)),qL v5 1,qL v5 2,qL v5 3,qI v5 4,qB v5 5,qS v5 6,qS v5 7,qL v5 8,qL v5 9,qL v5 10,qL v5 11,qL v5 12,qB v5 13,qL v5 14]) fun v6 =>
 if (v6.getD 2 d0).bb=true then
 (K9 [qL v6 3,qL v6 4,qL v6 5,qI v6 6,qB v6 7,qS v6 8,qS v6 9,qL v6 10,qL v6 11,qL v6 12,qL v6 13,qL v6 14,qB v6 15,qL v6 16,qL v6 0]).bindR fun r7 =>
 .ret [qL r7 0]
 else
 if ((v6.getD 1 d0).ii == (4:Int))=true then
 (JG [qL v6 3,qL v6 4,qL v6 5,qI v6 6,qB v6 7,qS v6 8,qS v6 9,qL v6 10,qL v6 11,qL v6 12,qL v6 13,qL v6 14,qB v6 15,qL v6 16,qL v6 0]).bindR fun r8 =>
 .ret [qL r8 0]
 else
 if ((v6.getD 1 d0).ii == (5:Int))=true then
 (K8 [qI v6 6,qB v6 7,qS v6 8,qS v6 9,qL v6 10,qL v6 11,qL v6 12,qL v6 13,qL v6 14,qB v6 15,qL v6 16,qL v6 0]).bindR fun r9 =>
 .ret [qL r9 0]
 else
 ja (if ((v6.getD 1 d0).ii == (6:Int))=true then
 ja (if ((((v6.getD 12 d0).ll).length:Int) == (0:Int))=true then
 if ((v6.getD 0 d0).ll).length + [[DC.i (7:Int),qS v6 9,DC.s []]].length < jT then
 .norm [.sl (((v6.getD 0 d0).ll) ++ [[DC.i (7:Int),qS v6 9,DC.s []]]),qL v6 3,qL v6 4,qL v6 5,qI v6 6,qB v6 7,qS v6 8,qS v6 9,qL v6 10,qL v6 11,qL v6 12,qL v6 13,qL v6 14,qB v6 15,qL v6 16]
 else
 .fail
 else
 .norm [qL v6 0,qL v6 3,qL v6 4,qL v6 5,qI v6 6,qB v6 7,qS v6 8,qS v6 9,qL v6 10,qL v6 11,qL v6 12,qL v6 13,qL v6 14,qB v6 15,qL v6 16]) fun v10 =>
 (JH [qL v10 1,qL v10 2,qL v10 3,qS v10 7,qL v10 10,qL v10 0]).bindR fun r11 =>
 (QB [qL v10 1,qL v10 2,qL v10 3,qS v10 7]).bindR fun r12 =>
 ja (if (r12.getD 0 d0).bb=true then
 if ((r11.getD 0 d0).ll).length + [[DC.i (13:Int),qS v10 7,DC.s []]].length < jT then
 .norm [.sl (((r11.getD 0 d0).ll) ++ [[DC.i (13:Int),qS v10 7,DC.s []]])]
 else
 .fail
 else
 .norm [qL r11 0]) fun v13 =>
 .norm [qL v13 0]
 else
 .norm [qL v6 0]) fun v14 =>
 .norm [qL v14 0]) 0 fun v15 =>
 .ret [qL v15 0]
theorem Ye a:zW a=kr a:=(jq cfg 94 _ a).trans (by kernel_rfl)
noncomputable def Q4 (a:List DC):Out :=
 ja (if (decide ((((a.getD 0 d0).ss).length:Int) ≥ (2:Int)))=true then
 if 0 ≤ (2:Int) ∧ (2:Int) ≤ (((a.getD 0 d0).ss).length:Int) then
 .norm [.b ((((a.getD 0 d0).ss).take (2:Int).toNat) == ([95,95]:List UInt8))]
 else
 .fail
 else
 .norm [.b false]) fun v1 =>
 .ret [qB v1 0]
theorem j1r a:qb a=Q4 a:=(jq cfg 95 _ a).trans (by kernel_rfl)
noncomputable def Vp (a:List DC):Out :=
 if (decide ((((a.getD 4 d0).ll).length:Int) > (100:Int)))=true then
 .ret [.sl [[DC.i (5:Int),qS a 3,DC.s []]]]
 else
 (JH [qL a 0,qL a 1,qL a 2,qS a 3,qL a 4,.sl []]).bindR fun r1 =>
 .ret [qL r1 0]
theorem ZU a:JO a=Vp a:=(jq cfg 96 _ a).trans (by kernel_rfl)
noncomputable def Q3:List DC → Out:=fun v1 =>
 if (decide ((v1.getD 1 d0).ii < (((v1.getD 4 d0).ll).length:Int)))=true then
 j9 (if 125=125 ∧ 0 ≤ (v1.getD 1 d0).ii ∧ (v1.getD 1 d0).ii < (((v1.getD 4 d0).ll).length:Int) then
 if (((((v1.getD 4 d0).ll).getD ((v1.getD 1 d0).ii).toNat []).getD 0 d0).ii == (v1.getD 0 d0).ii)=true then
 if 125=125 ∧ 0 ≤ (v1.getD 1 d0).ii ∧ (v1.getD 1 d0).ii < (((v1.getD 4 d0).ll).length:Int) then
 .ret [.s (((((v1.getD 4 d0).ll).getD ((v1.getD 1 d0).ii).toNat []).getD 1 d0).ss)]
 else
 .fail
 else
 .norm [qI v1 0,qI v1 1,qL v1 2,qL v1 3,qL v1 4]
 else
 .fail) 1 fun v2 =>
 .norm [qI v2 0,.i (IntKind.i64.wrap ((v2.getD 1 d0).ii + (1:Int))),qL v2 2,qL v2 3,qL v2 4]
 else
 .ex 0 []
noncomputable def Zq (a:List DC):Out :=
 j9 (jy Q3 [qI a 3,.i (0:Int),qL a 0,qL a 1,qL a 2]) 0 fun v3 =>
 .ret [.s ([]:List UInt8)]
theorem j3d a:Vx a=Zq a:=(jq cfg 97 _ a).trans (by kernel_rfl)
noncomputable def Zr (a:List DC):Out :=
 j9 (if ((a.getD 0 d0).ii == (1:Int))=true then
 .ret [.s ([113,117,101,114,121]:List UInt8)]
 else
 if ((a.getD 0 d0).ii == (2:Int))=true then
 .ret [.s ([109,117,116,97,116,105,111,110]:List UInt8)]
 else
 if ((a.getD 0 d0).ii == (3:Int))=true then
 .ret [.s ([115,117,98,115,99,114,105,112,116,105,111,110]:List UInt8)]
 else
 .norm []) 0 fun v1 =>
 .ret [.s ([]:List UInt8)]
theorem JT a:qq a=Zr a:=(jq cfg 98 _ a).trans (by kernel_rfl)
noncomputable def qX:List DC → Out:=fun v1 =>
 if (decide ((v1.getD 2 d0).ii < (((v1.getD 0 d0).ll).length:Int)))=true then
 j9 (if 37=37 ∧ 0 ≤ (v1.getD 2 d0).ii ∧ (v1.getD 2 d0).ii < (((v1.getD 0 d0).ll).length:Int) then
 (zy [.i (((((v1.getD 0 d0).ll).getD ((v1.getD 2 d0).ii).toNat []).getD 0 d0).ii),.b (((((v1.getD 0 d0).ll).getD ((v1.getD 2 d0).ii).toNat []).getD 1 d0).bb),.s (((((v1.getD 0 d0).ll).getD ((v1.getD 2 d0).ii).toNat []).getD 2 d0).ss),.s (((((v1.getD 0 d0).ll).getD ((v1.getD 2 d0).ii).toNat []).getD 3 d0).ss),.sl (((((v1.getD 0 d0).ll).getD ((v1.getD 2 d0).ii).toNat []).getD 4 d0).ll),.sl (((((v1.getD 0 d0).ll).getD ((v1.getD 2 d0).ii).toNat []).getD 5 d0).ll),.sl (((((v1.getD 0 d0).ll).getD ((v1.getD 2 d0).ii).toNat []).getD 6 d0).ll),.sl (((((v1.getD 0 d0).ll).getD ((v1.getD 2 d0).ii).toNat []).getD 7 d0).ll),.sl (((((v1.getD 0 d0).ll).getD ((v1.getD 2 d0).ii).toNat []).getD 8 d0).ll),.b (((((v1.getD 0 d0).ll).getD ((v1.getD 2 d0).ii).toNat []).getD 9 d0).bb),.sl (((((v1.getD 0 d0).ll).getD ((v1.getD 2 d0).ii).toNat []).getD 10 d0).ll)]).bindR fun r2 =>
 if ((v1.getD 1 d0).ll).length + [[qI r2 0,qB r2 1,qS r2 2,qS r2 3,qL r2 4,qL r2 5,qL r2 6,qL r2 7,qL r2 8,qB r2 9,qL r2 10]].length < jT then
 .norm [qL v1 0,.sl (((v1.getD 1 d0).ll) ++ [[qI r2 0,qB r2 1,qS r2 2,qS r2 3,qL r2 4,qL r2 5,qL r2 6,qL r2 7,qL r2 8,qB r2 9,qL r2 10]]),qI v1 2]
 else
 .fail
 else
 .fail) 1 fun v3 =>
 .norm [qL v3 0,qL v3 1,.i (IntKind.i64.wrap ((v3.getD 2 d0).ii + (1:Int)))]
 else
 .ex 0 [qL v1 1]
noncomputable def kG:List DC → Out:=fun v7 =>
 ja (if (decide ((v7.getD 3 d0).ii < (((v7.getD 0 d0).ll).length:Int)))=true then
 .norm [qL v7 0,qL v7 1,qL v7 2,qI v7 3,qI v7 4,.b true]
 else
 .norm [qL v7 0,qL v7 1,qL v7 2,qI v7 3,qI v7 4,.b (decide ((v7.getD 4 d0).ii < (((v7.getD 1 d0).ll).length:Int)))]) fun v8 =>
 if (v8.getD 5 d0).bb=true then
 j9 (ja (if (decide ((v8.getD 4 d0).ii ≥ (((v8.getD 1 d0).ll).length:Int)))=true then
 .norm [qL v8 0,qL v8 1,qL v8 2,qI v8 3,qI v8 4,.b true]
 else
 if (decide ((v8.getD 3 d0).ii < (((v8.getD 0 d0).ll).length:Int)))=true then
 if 37=37 ∧ 0 ≤ (v8.getD 3 d0).ii ∧ (v8.getD 3 d0).ii < (((v8.getD 0 d0).ll).length:Int) then
 if 37=37 ∧ 0 ≤ (v8.getD 4 d0).ii ∧ (v8.getD 4 d0).ii < (((v8.getD 1 d0).ll).length:Int) then
 .norm [qL v8 0,qL v8 1,qL v8 2,qI v8 3,qI v8 4,.b (Op.bytesLess (((((v8.getD 0 d0).ll).getD ((v8.getD 3 d0).ii).toNat []).getD 3 d0).ss) (((((v8.getD 1 d0).ll).getD ((v8.getD 4 d0).ii).toNat []).getD 3 d0).ss) || ((((v8.getD 0 d0).ll).getD ((v8.getD 3 d0).ii).toNat []).getD 3 d0).ss == ((((v8.getD 1 d0).ll).getD ((v8.getD 4 d0).ii).toNat []).getD 3 d0).ss)]
 else
 .fail
 else
 .fail
 else
 .norm [qL v8 0,qL v8 1,qL v8 2,qI v8 3,qI v8 4,.b false]) fun v9 =>
 ja (if (v9.getD 5 d0).bb=true then
 if 37=37 ∧ 0 ≤ (v9.getD 3 d0).ii ∧ (v9.getD 3 d0).ii < (((v9.getD 0 d0).ll).length:Int) then
 if ((v9.getD 2 d0).ll).length + [[DC.i (((((v9.getD 0 d0).ll).getD ((v9.getD 3 d0).ii).toNat []).getD 0 d0).ii),DC.b (((((v9.getD 0 d0).ll).getD ((v9.getD 3 d0).ii).toNat []).getD 1 d0).bb),DC.s (((((v9.getD 0 d0).ll).getD ((v9.getD 3 d0).ii).toNat []).getD 2 d0).ss),DC.s (((((v9.getD 0 d0).ll).getD ((v9.getD 3 d0).ii).toNat []).getD 3 d0).ss),DC.sl (((((v9.getD 0 d0).ll).getD ((v9.getD 3 d0).ii).toNat []).getD 4 d0).ll),DC.sl (((((v9.getD 0 d0).ll).getD ((v9.getD 3 d0).ii).toNat []).getD 5 d0).ll),DC.sl (((((v9.getD 0 d0).ll).getD ((v9.getD 3 d0).ii).toNat []).getD 6 d0).ll),DC.sl (((((v9.getD 0 d0).ll).getD ((v9.getD 3 d0).ii).toNat []).getD 7 d0).ll),DC.sl (((((v9.getD 0 d0).ll).getD ((v9.getD 3 d0).ii).toNat []).getD 8 d0).ll),DC.b (((((v9.getD 0 d0).ll).getD ((v9.getD 3 d0).ii).toNat []).getD 9 d0).bb),DC.sl (((((v9.getD 0 d0).ll).getD ((v9.getD 3 d0).ii).toNat []).getD 10 d0).ll)]].length < jT then
 .norm [qL v9 0,qL v9 1,.sl (((v9.getD 2 d0).ll) ++ [[DC.i (((((v9.getD 0 d0).ll).getD ((v9.getD 3 d0).ii).toNat []).getD 0 d0).ii),DC.b (((((v9.getD 0 d0).ll).getD ((v9.getD 3 d0).ii).toNat []).getD 1 d0).bb),DC.s (((((v9.getD 0 d0).ll).getD ((v9.getD 3 d0).ii).toNat []).getD 2 d0).ss),DC.s (((((v9.getD 0 d0).ll).getD ((v9.getD 3 d0).ii).toNat []).getD 3 d0).ss),DC.sl (((((v9.getD 0 d0).ll).getD ((v9.getD 3 d0).ii).toNat []).getD 4 d0).ll),DC.sl (((((v9.getD 0 d0).ll).getD ((v9.getD 3 d0).ii).toNat []).getD 5 d0).ll),DC.sl (((((v9.getD 0 d0).ll).getD ((v9.getD 3 d0).ii).toNat []).getD 6 d0).ll),DC.sl (((((v9.getD 0 d0).ll).getD ((v9.getD 3 d0).ii).toNat []).getD 7 d0).ll),DC.sl (((((v9.getD 0 d0).ll).getD ((v9.getD 3 d0).ii).toNat []).getD 8 d0).ll),DC.b (((((v9.getD 0 d0).ll).getD ((v9.getD 3 d0).ii).toNat []).getD 9 d0).bb),DC.sl (((((v9.getD 0 d0).ll).getD ((v9.getD 3 d0).ii).toNat []).getD 10 d0).ll)]]),.i (IntKind.i64.wrap ((v9.getD 3 d0).ii + (1:Int))),qI v9 4]
 else
 .fail
 else
 .fail
 else
 if 37=37 ∧ 0 ≤ (v9.getD 4 d0).ii ∧ (v9.getD 4 d0).ii < (((v9.getD 1 d0).ll).length:Int) then
 if ((v9.getD 2 d0).ll).length + [[DC.i (((((v9.getD 1 d0).ll).getD ((v9.getD 4 d0).ii).toNat []).getD 0 d0).ii),DC.b (((((v9.getD 1 d0).ll).getD ((v9.getD 4 d0).ii).toNat []).getD 1 d0).bb),DC.s (((((v9.getD 1 d0).ll).getD ((v9.getD 4 d0).ii).toNat []).getD 2 d0).ss),DC.s (((((v9.getD 1 d0).ll).getD ((v9.getD 4 d0).ii).toNat []).getD 3 d0).ss),DC.sl (((((v9.getD 1 d0).ll).getD ((v9.getD 4 d0).ii).toNat []).getD 4 d0).ll),DC.sl (((((v9.getD 1 d0).ll).getD ((v9.getD 4 d0).ii).toNat []).getD 5 d0).ll),DC.sl (((((v9.getD 1 d0).ll).getD ((v9.getD 4 d0).ii).toNat []).getD 6 d0).ll),DC.sl (((((v9.getD 1 d0).ll).getD ((v9.getD 4 d0).ii).toNat []).getD 7 d0).ll),DC.sl (((((v9.getD 1 d0).ll).getD ((v9.getD 4 d0).ii).toNat []).getD 8 d0).ll),DC.b (((((v9.getD 1 d0).ll).getD ((v9.getD 4 d0).ii).toNat []).getD 9 d0).bb),DC.sl (((((v9.getD 1 d0).ll).getD ((v9.getD 4 d0).ii).toNat []).getD 10 d0).ll)]].length < jT then
 .norm [qL v9 0,qL v9 1,.sl (((v9.getD 2 d0).ll) ++ [[DC.i (((((v9.getD 1 d0).ll).getD ((v9.getD 4 d0).ii).toNat []).getD 0 d0).ii),DC.b (((((v9.getD 1 d0).ll).getD ((v9.getD 4 d0).ii).toNat []).getD 1 d0).bb),DC.s (((((v9.getD 1 d0).ll).getD ((v9.getD 4 d0).ii).toNat []).getD 2 d0).ss),DC.s (((((v9.getD 1 d0).ll).getD ((v9.getD 4 d0).ii).toNat []).getD 3 d0).ss),DC.sl (((((v9.getD 1 d0).ll).getD ((v9.getD 4 d0).ii).toNat []).getD 4 d0).ll),DC.sl (((((v9.getD 1 d0).ll).getD ((v9.getD 4 d0).ii).toNat []).getD 5 d0).ll),DC.sl (((((v9.getD 1 d0).ll).getD ((v9.getD 4 d0).ii).toNat []).getD 6 d0).ll),DC.sl (((((v9.getD 1 d0).ll).getD ((v9.getD 4 d0).ii).toNat []).getD 7 d0).ll),DC.sl (((((v9.getD 1 d0).ll).getD ((v9.getD 4 d0).ii).toNat []).getD 8 d0).ll),DC.b (((((v9.getD 1 d0).ll).getD ((v9.getD 4 d0).ii).toNat []).getD 9 d0).bb),DC.sl (((((v9.getD 1 d0).ll).getD ((v9.getD 4 d0).ii).toNat []).getD 10 d0).ll)]]),qI v9 3,.i (IntKind.i64.wrap ((v9.getD 4 d0).ii + (1:Int)))]
 else
 .fail
 else
 .fail) fun v10 =>
 .norm [qL v10 0,qL v10 1,qL v10 2,qI v10 3,qI v10 4]) 3 fun v11 =>
 .norm [qL v11 0,qL v11 1,qL v11 2,qI v11 3,qI v11 4]
 else
 .ex 2 [qL v8 2]
noncomputable def Ji (a:List DC):Out :=
 if (decide ((((a.getD 0 d0).ll).length:Int) < (2:Int)))=true then
 j9 (jy qX [qL a 0,.sl [],.i (0:Int)]) 0 fun v4 =>
 .ret [qL v4 0]
 else
 if (2:Int)=0 then
 .fail
 else
 if 0 ≤ (IntKind.i64.wrap ((((a.getD 0 d0).ll).length:Int).tdiv (2:Int))) ∧ (IntKind.i64.wrap ((((a.getD 0 d0).ll).length:Int).tdiv (2:Int))) ≤ (((a.getD 0 d0).ll).length:Int) then
 (yO [.sl (((a.getD 0 d0).ll).take (IntKind.i64.wrap ((((a.getD 0 d0).ll).length:Int).tdiv (2:Int))).toNat)]).bindR fun r5 =>
 if (2:Int)=0 then
 .fail
 else
 if 0 ≤ (IntKind.i64.wrap ((((a.getD 0 d0).ll).length:Int).tdiv (2:Int))) ∧ (IntKind.i64.wrap ((((a.getD 0 d0).ll).length:Int).tdiv (2:Int))) ≤ (((a.getD 0 d0).ll).length:Int) then
 (yO [.sl (((a.getD 0 d0).ll).drop (IntKind.i64.wrap ((((a.getD 0 d0).ll).length:Int).tdiv (2:Int))).toNat)]).bindR fun r6 =>
 j9 (jy kG [qL r5 0,qL r6 0,.sl [],.i (0:Int),.i (0:Int)]) 2 fun v12 =>
 .ret [qL v12 0]
 else
 .fail
 else
 .fail
theorem VQ a:yO a=Ji a:=(jq cfg 99 _ a).trans (by kernel_rfl)
noncomputable def YK (a:List DC):Out :=
 .ret [.b ((a.getD 3 d0).ss == (a.getD 11 d0).ss),qS a 11]
theorem j2q a:Y2 a=YK a:=(jq cfg 73 _ a).trans (by kernel_rfl)
noncomputable def j1y:List DC → Out:=fun v8 =>
 if (decide ((v8.getD 4 d0).ii < (v8.getD 2 d0).ii))=true then
 j9 (if 0 ≤ (IntKind.i64.wrap ((v8.getD 1 d0).ii + (v8.getD 4 d0).ii)) ∧ (IntKind.i64.wrap ((v8.getD 1 d0).ii + (v8.getD 4 d0).ii)) < (((v8.getD 0 d0).ss).length:Int) then
 ja (if (decide ((IntKind.i64.wrap ((((v8.getD 0 d0).ss).getD (IntKind.i64.wrap ((v8.getD 1 d0).ii + (v8.getD 4 d0).ii)).toNat 0).toNat:Int)) < (128:Int)))=true then
 .norm [qS v8 0,qI v8 1,qI v8 2,qI v8 3,qI v8 4,.i (IntKind.i64.wrap ((((v8.getD 0 d0).ss).getD (IntKind.i64.wrap ((v8.getD 1 d0).ii + (v8.getD 4 d0).ii)).toNat 0).toNat:Int)),.b true]
 else
 .norm [qS v8 0,qI v8 1,qI v8 2,qI v8 3,qI v8 4,.i (IntKind.i64.wrap ((((v8.getD 0 d0).ss).getD (IntKind.i64.wrap ((v8.getD 1 d0).ii + (v8.getD 4 d0).ii)).toNat 0).toNat:Int)),.b (decide ((IntKind.i64.wrap ((((v8.getD 0 d0).ss).getD (IntKind.i64.wrap ((v8.getD 1 d0).ii + (v8.getD 4 d0).ii)).toNat 0).toNat:Int)) > (191:Int)))]) fun v9 =>
 if (v9.getD 6 d0).bb=true then
 .ret [.i (-1:Int),.i (0:Int)]
 else
 .norm [qS v9 0,qI v9 1,qI v9 2,.i (IntKind.i64.wrap ((IntKind.i64.wrap ((IntKind.i64.wrap ((v9.getD 3 d0).ii * (64:Int))) + (v9.getD 5 d0).ii)) - (128:Int))),qI v9 4]
 else
 .fail) 2 fun v10 =>
 .norm [qS v10 0,qI v10 1,qI v10 2,qI v10 3,.i (IntKind.i64.wrap ((v10.getD 4 d0).ii + (1:Int)))]
 else
 .ex 1 [qI v8 2,qI v8 3]
noncomputable def Yr (a:List DC):Out :=
 ja (if (decide ((a.getD 1 d0).ii < (0:Int)))=true then
 .norm [qS a 0,qI a 1,.b true]
 else
 .norm [qS a 0,qI a 1,.b (decide ((a.getD 1 d0).ii ≥ (((a.getD 0 d0).ss).length:Int)))]) fun v1 =>
 if (v1.getD 2 d0).bb=true then
 .ret [.i (-1:Int),.i (0:Int)]
 else
 if 0 ≤ (v1.getD 1 d0).ii ∧ (v1.getD 1 d0).ii < (((v1.getD 0 d0).ss).length:Int) then
 j9 (if (decide ((IntKind.i64.wrap ((((v1.getD 0 d0).ss).getD ((v1.getD 1 d0).ii).toNat 0).toNat:Int)) < (128:Int)))=true then
 .ret [.i (IntKind.i64.wrap ((((v1.getD 0 d0).ss).getD ((v1.getD 1 d0).ii).toNat 0).toNat:Int)),.i (1:Int)]
 else
 ja (if (decide ((IntKind.i64.wrap ((((v1.getD 0 d0).ss).getD ((v1.getD 1 d0).ii).toNat 0).toNat:Int)) ≥ (194:Int)))=true then
 .norm [qS v1 0,qI v1 1,.i (IntKind.i64.wrap ((((v1.getD 0 d0).ss).getD ((v1.getD 1 d0).ii).toNat 0).toNat:Int)),.b (decide ((IntKind.i64.wrap ((((v1.getD 0 d0).ss).getD ((v1.getD 1 d0).ii).toNat 0).toNat:Int)) < (224:Int)))]
 else
 .norm [qS v1 0,qI v1 1,.i (IntKind.i64.wrap ((((v1.getD 0 d0).ss).getD ((v1.getD 1 d0).ii).toNat 0).toNat:Int)),.b false]) fun v2 =>
 ja (if (v2.getD 3 d0).bb=true then
 .norm [qS v2 0,qI v2 1,.i (2:Int),.i (IntKind.i64.wrap ((v2.getD 2 d0).ii - (192:Int)))]
 else
 ja (if (decide ((v2.getD 2 d0).ii ≥ (224:Int)))=true then
 .norm [qS v2 0,qI v2 1,qI v2 2,.b (decide ((v2.getD 2 d0).ii < (240:Int)))]
 else
 .norm [qS v2 0,qI v2 1,qI v2 2,.b false]) fun v3 =>
 ja (if (v3.getD 3 d0).bb=true then
 .norm [qS v3 0,qI v3 1,.i (3:Int),.i (IntKind.i64.wrap ((v3.getD 2 d0).ii - (224:Int)))]
 else
 ja (if (decide ((v3.getD 2 d0).ii ≥ (240:Int)))=true then
 .norm [qS v3 0,qI v3 1,qI v3 2,.b (decide ((v3.getD 2 d0).ii < (245:Int)))]
 else
 .norm [qS v3 0,qI v3 1,qI v3 2,.b false]) fun v4 =>
 if (v4.getD 3 d0).bb=true then
 .norm [qS v4 0,qI v4 1,.i (4:Int),.i (IntKind.i64.wrap ((v4.getD 2 d0).ii - (240:Int)))]
 else
 .ret [.i (-1:Int),.i (0:Int)]) fun v5 =>
 .norm [qS v5 0,qI v5 1,qI v5 2,qI v5 3]) fun v6 =>
 .norm [qS v6 0,qI v6 1,qI v6 2,qI v6 3]) 0 fun v7 =>
 if (decide ((IntKind.i64.wrap ((v7.getD 1 d0).ii + (v7.getD 2 d0).ii)) > (((v7.getD 0 d0).ss).length:Int)))=true then
 .ret [.i (-1:Int),.i (0:Int)]
 else
 j9 (jy j1y [qS v7 0,qI v7 1,qI v7 2,qI v7 3,.i (1:Int)]) 1 fun v11 =>
 (zL [qI v11 1]).bindR fun r12 =>
 if ((((r12.getD 0 d0).ss).length:Int) != (v11.getD 0 d0).ii)=true then
 .ret [.i (-1:Int),.i (0:Int)]
 else
 .ret [qI v11 1,qI v11 0]
 else
 .fail
theorem j21 (a:List DC):zp a=Yr a:=(jq qk 101 _ a).trans (by kernel_rfl)
noncomputable def j0L:List DC → Out:=fun v4 =>
 ja (if (decide ((v4.getD 1 d0).ii < (((v4.getD 0 d0).ss).length:Int)))=true then
 if 0 ≤ (v4.getD 1 d0).ii ∧ (v4.getD 1 d0).ii < (((v4.getD 0 d0).ss).length:Int) then
 if (((((v4.getD 0 d0).ss).getD ((v4.getD 1 d0).ii).toNat 0).toNat:Int) != (10:Int))=true then
 if 0 ≤ (v4.getD 1 d0).ii ∧ (v4.getD 1 d0).ii < (((v4.getD 0 d0).ss).length:Int) then
 .norm [qS v4 0,qI v4 1,.b (((((v4.getD 0 d0).ss).getD ((v4.getD 1 d0).ii).toNat 0).toNat:Int) != (13:Int))]
 else
 .fail
 else
 .norm [qS v4 0,qI v4 1,.b false]
 else
 .fail
 else
 .norm [qS v4 0,qI v4 1,.b false]) fun v5 =>
 if (v5.getD 2 d0).bb=true then
 j9 (.norm [qS v5 0,.i (IntKind.i64.wrap ((v5.getD 1 d0).ii + (1:Int)))]) 4 fun v6 =>
 .norm [qS v6 0,qI v6 1]
 else
 .ex 3 [qS v5 0,qI v5 1]
noncomputable def kE:List DC → Out:=fun v1 =>
 if (decide ((v1.getD 1 d0).ii < (((v1.getD 0 d0).ss).length:Int)))=true then
 j9 (j9 (ja (if 0 ≤ (v1.getD 1 d0).ii ∧ (v1.getD 1 d0).ii < (((v1.getD 0 d0).ss).length:Int) then
 if (((((v1.getD 0 d0).ss).getD ((v1.getD 1 d0).ii).toNat 0).toNat:Int) == (32:Int))=true then
 .norm [qS v1 0,qI v1 1,.b true]
 else
 if 0 ≤ (v1.getD 1 d0).ii ∧ (v1.getD 1 d0).ii < (((v1.getD 0 d0).ss).length:Int) then
 if (((((v1.getD 0 d0).ss).getD ((v1.getD 1 d0).ii).toNat 0).toNat:Int) == (9:Int))=true then
 .norm [qS v1 0,qI v1 1,.b true]
 else
 if 0 ≤ (v1.getD 1 d0).ii ∧ (v1.getD 1 d0).ii < (((v1.getD 0 d0).ss).length:Int) then
 if (((((v1.getD 0 d0).ss).getD ((v1.getD 1 d0).ii).toNat 0).toNat:Int) == (10:Int))=true then
 .norm [qS v1 0,qI v1 1,.b true]
 else
 if 0 ≤ (v1.getD 1 d0).ii ∧ (v1.getD 1 d0).ii < (((v1.getD 0 d0).ss).length:Int) then
 if (((((v1.getD 0 d0).ss).getD ((v1.getD 1 d0).ii).toNat 0).toNat:Int) == (13:Int))=true then
 .norm [qS v1 0,qI v1 1,.b true]
 else
 if 0 ≤ (v1.getD 1 d0).ii ∧ (v1.getD 1 d0).ii < (((v1.getD 0 d0).ss).length:Int) then
 .norm [qS v1 0,qI v1 1,.b (((((v1.getD 0 d0).ss).getD ((v1.getD 1 d0).ii).toNat 0).toNat:Int) == (44:Int))]
 else
 .fail
 else
 .fail
 else
 .fail
 else
 .fail
 else
 .fail) fun v2 =>
 ja (if (v2.getD 2 d0).bb=true then
 .norm [qS v2 0,.i (IntKind.i64.wrap ((v2.getD 1 d0).ii + (1:Int)))]
 else
 ja (if ((v2.getD 1 d0).ii == (0:Int))=true then
 if (decide ((((v2.getD 0 d0).ss).length:Int) ≥ (3:Int)))=true then
 if 0 ≤ (3:Int) ∧ (3:Int) ≤ (((v2.getD 0 d0).ss).length:Int) then
 .norm [qS v2 0,qI v2 1,.b ((((v2.getD 0 d0).ss).take (3:Int).toNat) == ([239,187,191]:List UInt8))]
 else
 .fail
 else
 .norm [qS v2 0,qI v2 1,.b false]
 else
 .norm [qS v2 0,qI v2 1,.b false]) fun v3 =>
 ja (if (v3.getD 2 d0).bb=true then
 .norm [qS v3 0,.i (3:Int)]
 else
 if 0 ≤ (v3.getD 1 d0).ii ∧ (v3.getD 1 d0).ii < (((v3.getD 0 d0).ss).length:Int) then
 if (((((v3.getD 0 d0).ss).getD ((v3.getD 1 d0).ii).toNat 0).toNat:Int) == (35:Int))=true then
 j9 (jy j0L [qS v3 0,qI v3 1]) 3 fun v7 =>
 .norm [qS v7 0,qI v7 1]
 else
 .ret [qI v3 1]
 else
 .fail) fun v8 =>
 .norm [qS v8 0,qI v8 1]) fun v9 =>
 .norm [qS v9 0,qI v9 1]) 2 fun v10 =>
 .norm [qS v10 0,qI v10 1]) 1 fun v11 =>
 .norm [qS v11 0,qI v11 1]
 else
 .ex 0 [qI v1 1]
noncomputable def Q0 (a:List DC):Out :=
 j9 (jy kE [qS a 0,qI a 1]) 0 fun v12 =>
 .ret [qI v12 0]
theorem VO (a:List DC):qH a=Q0 a:=(jq qk 102 _ a).trans (by kernel_rfl)
noncomputable def zH (a:List DC):Out :=
 j9 (if 0 ≤ (a.getD 1 d0).ii ∧ (a.getD 1 d0).ii < (((a.getD 0 d0).ss).length:Int) then
 (pW [.i ((((a.getD 0 d0).ss).getD ((a.getD 1 d0).ii).toNat 0).toNat:Int)]).bindR fun r1 =>
 if (r1.getD 0 d0).bb=true then
 (KQ [qS a 0,qI a 1]).bindR fun r2 =>
 if 0 ≤ (a.getD 1 d0).ii ∧ (a.getD 1 d0).ii ≤ (r2.getD 0 d0).ii ∧ (r2.getD 0 d0).ii ≤ (((a.getD 0 d0).ss).length:Int) then
 (Qs [.s ((((a.getD 0 d0).ss).take ((r2.getD 0 d0).ii).toNat).drop ((a.getD 1 d0).ii).toNat)]).bindR fun r3 =>
 if (!((r3.getD 0 d0).bb))=true then
 .ret [.i (2:Int),.s ((((a.getD 0 d0).ss).take ((r2.getD 0 d0).ii).toNat).drop ((a.getD 1 d0).ii).toNat),qI a 1,qI a 1,.i (3:Int)]
 else
 .ret [.i (2:Int),.s ((((a.getD 0 d0).ss).take ((r2.getD 0 d0).ii).toNat).drop ((a.getD 1 d0).ii).toNat),qI a 1,qI r2 0,.i (0:Int)]
 else
 .fail
 else
 ja (if 0 ≤ (a.getD 1 d0).ii ∧ (a.getD 1 d0).ii < (((a.getD 0 d0).ss).length:Int) then
 (kD [.i ((((a.getD 0 d0).ss).getD ((a.getD 1 d0).ii).toNat 0).toNat:Int)]).bindR fun r4 =>
 if (r4.getD 0 d0).bb=true then
 .norm [qS a 0,qI a 1,.b true,.i (0:Int),.s [],.i (0:Int),.i (0:Int),.s [],qI a 1]
 else
 if 0 ≤ (a.getD 1 d0).ii ∧ (a.getD 1 d0).ii < (((a.getD 0 d0).ss).length:Int) then
 .norm [qS a 0,qI a 1,.b (((((a.getD 0 d0).ss).getD ((a.getD 1 d0).ii).toNat 0).toNat:Int) == (45:Int)),.i (0:Int),.s [],.i (0:Int),.i (0:Int),.s [],qI a 1]
 else
 .fail
 else
 .fail) fun v5 =>
 if (v5.getD 2 d0).bb=true then
 (JB [qS v5 0,qI v5 1]).bindR fun r6 =>
 if 0 ≤ (v5.getD 1 d0).ii ∧ (v5.getD 1 d0).ii ≤ (r6.getD 0 d0).ii ∧ (r6.getD 0 d0).ii ≤ (((v5.getD 0 d0).ss).length:Int) then
 (Kt [.s ((((v5.getD 0 d0).ss).take ((r6.getD 0 d0).ii).toNat).drop ((v5.getD 1 d0).ii).toNat)]).bindR fun r7 =>
 if (r7.getD 0 d0).bb=true then
 .ret [.i (3:Int),.s ((((v5.getD 0 d0).ss).take ((r6.getD 0 d0).ii).toNat).drop ((v5.getD 1 d0).ii).toNat),qI v5 8,qI r6 0,.i (0:Int)]
 else
 (j1W [.s ((((v5.getD 0 d0).ss).take ((r6.getD 0 d0).ii).toNat).drop ((v5.getD 1 d0).ii).toNat)]).bindR fun r8 =>
 if (!((r8.getD 0 d0).bb))=true then
 .ret [.i (4:Int),.s ((((v5.getD 0 d0).ss).take ((r6.getD 0 d0).ii).toNat).drop ((v5.getD 1 d0).ii).toNat),qI v5 8,qI v5 1,.i (4:Int)]
 else
 .ret [.i (4:Int),.s ((((v5.getD 0 d0).ss).take ((r6.getD 0 d0).ii).toNat).drop ((v5.getD 1 d0).ii).toNat),qI v5 8,qI r6 0,.i (0:Int)]
 else
 .fail
 else
 if 0 ≤ (v5.getD 1 d0).ii ∧ (v5.getD 1 d0).ii < (((v5.getD 0 d0).ss).length:Int) then
 if (((((v5.getD 0 d0).ss).getD ((v5.getD 1 d0).ii).toNat 0).toNat:Int) == (34:Int))=true then
 (K6 [qS v5 0,qI v5 1]).bindR fun r9 =>
 ja (if (r9.getD 0 d0).bb=true then
 (j15 [qS v5 0,qI v5 1]).bindR fun r10 =>
 ja (if (decide ((r10.getD 0 d0).ii ≥ (0:Int)))=true then
 if 0 ≤ (v5.getD 1 d0).ii ∧ (v5.getD 1 d0).ii ≤ (r10.getD 0 d0).ii ∧ (r10.getD 0 d0).ii ≤ (((v5.getD 0 d0).ss).length:Int) then
 (j05 [.s ((((v5.getD 0 d0).ss).take ((r10.getD 0 d0).ii).toNat).drop ((v5.getD 1 d0).ii).toNat)]).bindR fun r11 =>
 .norm [qI v5 1,qB r11 1,qI r10 0,qI v5 3,qS v5 4,qI v5 5,.i (5:Int),qS r11 0,qI v5 8]
 else
 .fail
 else
 .norm [qI v5 1,.b false,qI r10 0,qI v5 3,qS v5 4,qI v5 5,.i (5:Int),qS v5 7,qI v5 8]) fun v12 =>
 .norm [qI v12 0,qB v12 1,qI v12 2,qI v12 3,qS v12 4,qI v12 5,qI v12 6,qS v12 7,qI v12 8]
 else
 (JE [qS v5 0,qI v5 1]).bindR fun r13 =>
 ja (if (decide ((r13.getD 0 d0).ii ≥ (0:Int)))=true then
 if 0 ≤ (v5.getD 1 d0).ii ∧ (v5.getD 1 d0).ii ≤ (r13.getD 0 d0).ii ∧ (r13.getD 0 d0).ii ≤ (((v5.getD 0 d0).ss).length:Int) then
 (JD [.s ((((v5.getD 0 d0).ss).take ((r13.getD 0 d0).ii).toNat).drop ((v5.getD 1 d0).ii).toNat)]).bindR fun r14 =>
 .norm [qI v5 1,qB r14 1,qI r13 0,qI v5 3,qS v5 4,qI v5 5,.i (5:Int),qS r14 0,qI v5 8]
 else
 .fail
 else
 .norm [qI v5 1,.b false,qI r13 0,qI v5 3,qS v5 4,qI v5 5,.i (5:Int),qS v5 7,qI v5 8]) fun v15 =>
 .norm [qI v15 0,qB v15 1,qI v15 2,qI v15 3,qS v15 4,qI v15 5,qI v15 6,qS v15 7,qI v15 8]) fun v16 =>
 if (!((v16.getD 1 d0).bb))=true then
 .ret [qI v16 6,qS v16 7,qI v16 8,qI v16 0,.i (5:Int)]
 else
 .ret [qI v16 6,qS v16 7,qI v16 8,qI v16 2,.i (0:Int)]
 else
 .norm [qS v5 0,qI v5 1,qI v5 3,qS v5 4,qI v5 5,qI v5 6,qS v5 7,qI v5 8]
 else
 .fail
 else
 .fail) 0 fun v17 =>
 ja (if (decide ((IntKind.i64.wrap ((v17.getD 1 d0).ii + (3:Int))) ≤ (((v17.getD 0 d0).ss).length:Int)))=true then
 if 0 ≤ (v17.getD 1 d0).ii ∧ (v17.getD 1 d0).ii ≤ (IntKind.i64.wrap ((v17.getD 1 d0).ii + (3:Int))) ∧ (IntKind.i64.wrap ((v17.getD 1 d0).ii + (3:Int))) ≤ (((v17.getD 0 d0).ss).length:Int) then
 .norm [qS v17 0,qI v17 1,.i (IntKind.i64.wrap ((v17.getD 1 d0).ii + (1:Int))),.b (((((v17.getD 0 d0).ss).take (IntKind.i64.wrap ((v17.getD 1 d0).ii + (3:Int))).toNat).drop ((v17.getD 1 d0).ii).toNat) == ([46,46,46]:List UInt8)),qI v17 2,qS v17 3,qI v17 4,qI v17 5,qS v17 6,qI v17 7]
 else
 .fail
 else
 .norm [qS v17 0,qI v17 1,.i (IntKind.i64.wrap ((v17.getD 1 d0).ii + (1:Int))),.b false,qI v17 2,qS v17 3,qI v17 4,qI v17 5,qS v17 6,qI v17 7]) fun v18 =>
 ja (if (v18.getD 3 d0).bb=true then
 .norm [qS v18 0,qI v18 1,.i (IntKind.i64.wrap ((v18.getD 1 d0).ii + (3:Int))),qI v18 4,qS v18 5,qI v18 6,qI v18 7,qS v18 8,qI v18 9]
 else
 .norm [qS v18 0,qI v18 1,qI v18 2,qI v18 4,qS v18 5,qI v18 6,qI v18 7,qS v18 8,qI v18 9]) fun v19 =>
 if 0 ≤ (v19.getD 1 d0).ii ∧ (v19.getD 1 d0).ii ≤ (v19.getD 2 d0).ii ∧ (v19.getD 2 d0).ii ≤ (((v19.getD 0 d0).ss).length:Int) then
 (Qr [.s ((((v19.getD 0 d0).ss).take ((v19.getD 2 d0).ii).toNat).drop ((v19.getD 1 d0).ii).toNat)]).bindR fun r20 =>
 if (!((r20.getD 0 d0).bb))=true then
 .ret [.i (1:Int),.s ((((v19.getD 0 d0).ss).take ((v19.getD 2 d0).ii).toNat).drop ((v19.getD 1 d0).ii).toNat),qI v19 8,qI v19 1,.i (3:Int)]
 else
 .ret [.i (1:Int),.s ((((v19.getD 0 d0).ss).take ((v19.getD 2 d0).ii).toNat).drop ((v19.getD 1 d0).ii).toNat),qI v19 8,qI v19 2,.i (0:Int)]
 else
 .fail
theorem Je (a:List DC):qx a=zH a:=(jq qk 103 _ a).trans (by kernel_rfl)
noncomputable def Qg (a:List DC):Out :=
 ja (if ((a.getD 4 d0).ii == (0:Int))=true then
 if (decide ((a.getD 2 d0).ii < (((a.getD 1 d0).ll).length:Int)))=true then
 if 159=159 ∧ 0 ≤ (a.getD 2 d0).ii ∧ (a.getD 2 d0).ii < (((a.getD 1 d0).ll).length:Int) then
 if (((((a.getD 1 d0).ll).getD ((a.getD 2 d0).ii).toNat []).getD 0 d0).ii == (1:Int))=true then
 if 159=159 ∧ 0 ≤ (a.getD 2 d0).ii ∧ (a.getD 2 d0).ii < (((a.getD 1 d0).ll).length:Int) then
 .norm [.b (((((a.getD 1 d0).ll).getD ((a.getD 2 d0).ii).toNat []).getD 1 d0).ss == (a.getD 0 d0).ss),qL a 1,qI a 2,qI a 3,qI a 4,qI a 5]
 else
 .fail
 else
 .norm [.b false,qL a 1,qI a 2,qI a 3,qI a 4,qI a 5]
 else
 .fail
 else
 .norm [.b false,qL a 1,qI a 2,qI a 3,qI a 4,qI a 5]
 else
 .norm [.b false,qL a 1,qI a 2,qI a 3,qI a 4,qI a 5]) fun v1 =>
 .ret [qB v1 0,qL v1 1,qI v1 2,qI v1 3,qI v1 4,qI v1 5]
theorem j3J a:qi a=Qg a:=(jq cfg 104 _ a).trans (by kernel_rfl)
noncomputable def j3u (a:List DC):Out :=
 if 9=9 ∧ 0 ≤ (a.getD 0 d0).ii ∧ (a.getD 0 d0).ii < ([[DC.s ([]:List UInt8)],[DC.s ([115,99,97,108,97,114]:List UInt8)],[DC.s ([116,121,112,101]:List UInt8)],[DC.s ([105,110,116,101,114,102,97,99,101]:List UInt8)],[DC.s ([117,110,105,111,110]:List UInt8)],[DC.s ([101,110,117,109]:List UInt8)],[DC.s ([105,110,112,117,116]:List UInt8)],[DC.s ([100,105,114,101,99,116,105,118,101]:List UInt8)],[DC.s ([115,99,104,101,109,97]:List UInt8)]].length:Int) then
 .ret [.s ((([[DC.s ([]:List UInt8)],[DC.s ([115,99,97,108,97,114]:List UInt8)],[DC.s ([116,121,112,101]:List UInt8)],[DC.s ([105,110,116,101,114,102,97,99,101]:List UInt8)],[DC.s ([117,110,105,111,110]:List UInt8)],[DC.s ([101,110,117,109]:List UInt8)],[DC.s ([105,110,112,117,116]:List UInt8)],[DC.s ([100,105,114,101,99,116,105,118,101]:List UInt8)],[DC.s ([115,99,104,101,109,97]:List UInt8)]].getD ((a.getD 0 d0).ii).toNat []).getD 0 d0).ss)]
 else
 .fail
theorem j27 a:Qw a=j3u a:=(jq cfg 105 _ a).trans (by kernel_rfl)
noncomputable def YC (a:List DC):Out :=
 (ym [.i (2:Int),qL a 0,qI a 1,qI a 2,qI a 3,qI a 4]).bindR fun r1 =>
 if (!((r1.getD 0 d0).bb))=true then
 (jL [.i (7:Int),qL r1 1,qI r1 2,qI r1 3,qI r1 4,qI r1 5]).bindR fun r2 =>
 .ret [.s ([]:List UInt8),qL r2 0,qI r2 1,qI r2 2,qI r2 3,qI r2 4]
 else
 if 159=159 ∧ 0 ≤ (IntKind.i64.wrap ((IntKind.i64.wrap ((r1.getD 2 d0).ii + (1:Int))) - (1:Int))) ∧ (IntKind.i64.wrap ((IntKind.i64.wrap ((r1.getD 2 d0).ii + (1:Int))) - (1:Int))) < (((r1.getD 1 d0).ll).length:Int) then
 .ret [.s (((((r1.getD 1 d0).ll).getD (IntKind.i64.wrap ((IntKind.i64.wrap ((r1.getD 2 d0).ii + (1:Int))) - (1:Int))).toNat []).getD 1 d0).ss),qL r1 1,.i (IntKind.i64.wrap ((r1.getD 2 d0).ii + (1:Int))),qI r1 3,qI r1 4,qI r1 5]
 else
 .fail
theorem j2e a:jY a=YC a:=(jq cfg 106 _ a).trans (by kernel_rfl)
noncomputable def qW:List DC → Out:=fun v1 =>
 (jJ [.s ([64]:List UInt8),qL v1 2,qI v1 3,qI v1 4,qI v1 5,qI v1 6]).bindR fun r2 =>
 if (r2.getD 0 d0).bb=true then
 j9 ((jY [qL r2 1,qI r2 2,qI r2 3,qI r2 4,qI r2 5]).bindR fun r3 =>
 (Jn [qB v1 0,qL r3 1,qI r3 2,qI r3 3,qI r3 4,qI r3 5]).bindR fun r4 =>
 if ((v1.getD 1 d0).ll).length + [[qS r3 0,qL r4 0]].length < jT then
 .norm [qB v1 0,.sl (((v1.getD 1 d0).ll) ++ [[qS r3 0,qL r4 0]]),qL r4 1,qI r4 2,qI r4 3,qI r4 4,qI r4 5]
 else
 .fail) 1 fun v5 =>
 .norm [qB v5 0,qL v5 1,qL v5 2,qI v5 3,qI v5 4,qI v5 5,qI v5 6]
 else
 .ex 0 [qL v1 1,qL r2 1,qI r2 2,qI r2 3,qI r2 4,qI r2 5]
noncomputable def QO (a:List DC):Out :=
 j9 (jy qW [qB a 0,.sl [],qL a 1,qI a 2,qI a 3,qI a 4,qI a 5]) 0 fun v6 =>
 .ret [qL v6 0,qL v6 1,qI v6 2,qI v6 3,qI v6 4,qI v6 5]
theorem Z3 a:pz a=QO a:=(jq cfg 108 _ a).trans (by kernel_rfl)
noncomputable def YB (a:List DC):Out :=
 (qi [qS a 0,qL a 1,qI a 2,qI a 3,qI a 4,qI a 5]).bindR fun r1 =>
 if (!((r1.getD 0 d0).bb))=true then
 (jL [.i (7:Int),qL r1 1,qI r1 2,qI r1 3,qI r1 4,qI r1 5]).bindR fun r2 =>
 .ret [qL r2 0,qI r2 1,qI r2 2,qI r2 3,qI r2 4]
 else
 .ret [qL r1 1,.i (IntKind.i64.wrap ((r1.getD 2 d0).ii + (1:Int))),qI r1 3,qI r1 4,qI r1 5]
theorem j2d a:qy a=YB a:=(jq cfg 110 _ a).trans (by kernel_rfl)
noncomputable def yf:List DC → Out:=fun v2 =>
 if ((v2.getD 5 d0).ii == (0:Int))=true then
 j9 ((Kd [qL v2 2,qI v2 3,qI v2 4,qI v2 5,qI v2 6]).bindR fun r3 =>
 if ((v2.getD 1 d0).ll).length + [[qS r3 0,qS r3 1,qS r3 2,qS r3 3,qB r3 4,qI r3 5,qS r3 6,qL r3 7,qL r3 8,qL r3 9]].length < jT then
 (jJ [qS v2 0,qL r3 10,qI r3 11,qI r3 12,qI r3 13,qI r3 14]).bindR fun r4 =>
 if (r4.getD 0 d0).bb=true then
 .ex 0 [.sl (((v2.getD 1 d0).ll) ++ [[qS r3 0,qS r3 1,qS r3 2,qS r3 3,qB r3 4,qI r3 5,qS r3 6,qL r3 7,qL r3 8,qL r3 9]]),qL r4 1,qI r4 2,qI r4 3,qI r4 4,qI r4 5]
 else
 .norm [qS v2 0,.sl (((v2.getD 1 d0).ll) ++ [[qS r3 0,qS r3 1,qS r3 2,qS r3 3,qB r3 4,qI r3 5,qS r3 6,qL r3 7,qL r3 8,qL r3 9]]),qL r4 1,qI r4 2,qI r4 3,qI r4 4,qI r4 5]
 else
 .fail) 1 fun v5 =>
 .norm [qS v5 0,qL v5 1,qL v5 2,qI v5 3,qI v5 4,qI v5 5,qI v5 6]
 else
 .ex 0 [qL v2 1,qL v2 2,qI v2 3,qI v2 4,qI v2 5,qI v2 6]
noncomputable def JZ (a:List DC):Out :=
 (jJ [qS a 0,qL a 2,qI a 3,qI a 4,qI a 5,qI a 6]).bindR fun r1 =>
 if (!((r1.getD 0 d0).bb))=true then
 .ret [.sl [],qL r1 1,qI r1 2,qI r1 3,qI r1 4,qI r1 5]
 else
 j9 (jy yf [qS a 1,.sl [],qL r1 1,qI r1 2,qI r1 3,qI r1 4,qI r1 5]) 0 fun v6 =>
 .ret [qL v6 0,qL v6 1,qI v6 2,qI v6 3,qI v6 4,qI v6 5]
theorem ZQ a:qQ a=JZ a:=(jq cfg 111 _ a).trans (by kernel_rfl)
noncomputable def qm:List DC → Out:=fun v2 =>
 if ((v2.getD 4 d0).ii == (0:Int))=true then
 j9 (ja ((ym [.i (2:Int),qL v2 1,qI v2 2,qI v2 3,qI v2 4,qI v2 5]).bindR fun r3 =>
 if (!((r3.getD 0 d0).bb))=true then
 .norm [qL v2 0,.b true,qL r3 1,qI r3 2,qI r3 3,qI r3 4,qI r3 5]
 else
 if 159=159 ∧ 0 ≤ (r3.getD 2 d0).ii ∧ (r3.getD 2 d0).ii < (((r3.getD 1 d0).ll).length:Int) then
 (Qz [.s (((((r3.getD 1 d0).ll).getD ((r3.getD 2 d0).ii).toNat []).getD 1 d0).ss)]).bindR fun r4 =>
 .norm [qL v2 0,.b (!((r4.getD 0 d0).bb)),qL r3 1,qI r3 2,qI r3 3,qI r3 4,qI r3 5]
 else
 .fail) fun v5 =>
 ja (if (v5.getD 1 d0).bb=true then
 (jL [.i (7:Int),qL v5 2,qI v5 3,qI v5 4,qI v5 5,qI v5 6]).bindR fun r6 =>
 .norm [qL v5 0,qL r6 0,qI r6 1,qI r6 2,qI r6 3,qI r6 4]
 else
 .norm [qL v5 0,qL v5 2,qI v5 3,qI v5 4,qI v5 5,qI v5 6]) fun v7 =>
 (jY [qL v7 1,qI v7 2,qI v7 3,qI v7 4,qI v7 5]).bindR fun r8 =>
 if ((v7.getD 0 d0).ll).length + [[qS r8 0]].length < jT then
 (jJ [.s ([124]:List UInt8),qL r8 1,qI r8 2,qI r8 3,qI r8 4,qI r8 5]).bindR fun r9 =>
 if (!((r9.getD 0 d0).bb))=true then
 .ex 0 [.sl (((v7.getD 0 d0).ll) ++ [[qS r8 0]]),qL r9 1,qI r9 2,qI r9 3,qI r9 4,qI r9 5]
 else
 .norm [.sl (((v7.getD 0 d0).ll) ++ [[qS r8 0]]),qL r9 1,qI r9 2,qI r9 3,qI r9 4,qI r9 5]
 else
 .fail) 1 fun v10 =>
 .norm [qL v10 0,qL v10 1,qI v10 2,qI v10 3,qI v10 4,qI v10 5]
 else
 .ex 0 [qL v2 0,qL v2 1,qI v2 2,qI v2 3,qI v2 4,qI v2 5]
noncomputable def KM (a:List DC):Out :=
 (jJ [.s ([124]:List UInt8),qL a 0,qI a 1,qI a 2,qI a 3,qI a 4]).bindR fun r1 =>
 j9 (jy qm [.sl [],qL r1 1,qI r1 2,qI r1 3,qI r1 4,qI r1 5]) 0 fun v11 =>
 .ret [qL v11 0,qL v11 1,qI v11 2,qI v11 3,qI v11 4,qI v11 5]
theorem XN a:zu a=KM a:=(jq cfg 112 _ a).trans (by kernel_rfl)
noncomputable def qC:List DC → Out:=fun v2 =>
 if ((v2.getD 5 d0).ii == (0:Int))=true then
 j9 ((jY [qL v2 2,qI v2 3,qI v2 4,qI v2 5,qI v2 6]).bindR fun r3 =>
 if ((v2.getD 1 d0).ll).length + [[qS r3 0]].length < jT then
 (jJ [qS v2 0,qL r3 1,qI r3 2,qI r3 3,qI r3 4,qI r3 5]).bindR fun r4 =>
 if (!((r4.getD 0 d0).bb))=true then
 .ex 0 [.sl (((v2.getD 1 d0).ll) ++ [[qS r3 0]]),qL r4 1,qI r4 2,qI r4 3,qI r4 4,qI r4 5]
 else
 .norm [qS v2 0,.sl (((v2.getD 1 d0).ll) ++ [[qS r3 0]]),qL r4 1,qI r4 2,qI r4 3,qI r4 4,qI r4 5]
 else
 .fail) 1 fun v5 =>
 .norm [qS v5 0,qL v5 1,qL v5 2,qI v5 3,qI v5 4,qI v5 5,qI v5 6]
 else
 .ex 0 [qL v2 1,qL v2 2,qI v2 3,qI v2 4,qI v2 5,qI v2 6]
noncomputable def Q8 (a:List DC):Out :=
 (jJ [qS a 0,qL a 1,qI a 2,qI a 3,qI a 4,qI a 5]).bindR fun r1 =>
 j9 (jy qC [qS a 0,.sl [],qL r1 1,qI r1 2,qI r1 3,qI r1 4,qI r1 5]) 0 fun v6 =>
 .ret [qL v6 0,qL v6 1,qI v6 2,qI v6 3,qI v6 4,qI v6 5]
theorem Yb a:yc a=Q8 a:=(jq cfg 113 _ a).trans (by kernel_rfl)
noncomputable def qn:List DC → Out:=fun v2 =>
 if ((v2.getD 4 d0).ii == (0:Int))=true then
 j9 ((kO [qL v2 1,qI v2 2,qI v2 3,qI v2 4,qI v2 5]).bindR fun r3 =>
 (jY [qL r3 1,qI r3 2,qI r3 3,qI r3 4,qI r3 5]).bindR fun r4 =>
 (qQ [.s ([40]:List UInt8),.s ([41]:List UInt8),qL r4 1,qI r4 2,qI r4 3,qI r4 4,qI r4 5]).bindR fun r5 =>
 (qy [.s ([58]:List UInt8),qL r5 1,qI r5 2,qI r5 3,qI r5 4,qI r5 5]).bindR fun r6 =>
 (JL [qL r6 0,qI r6 1,qI r6 2,qI r6 3,qI r6 4]).bindR fun r7 =>
 (pz [.b true,qL r7 2,qI r7 3,qI r7 4,qI r7 5,qI r7 6]).bindR fun r8 =>
 if ((v2.getD 0 d0).ll).length + [[qS r4 0,qS r3 0,qL r5 0,qS r7 0,qS r7 1,qL r8 0]].length < jT then
 (jJ [.s ([125]:List UInt8),qL r8 1,qI r8 2,qI r8 3,qI r8 4,qI r8 5]).bindR fun r9 =>
 if (r9.getD 0 d0).bb=true then
 .ex 0 [.sl (((v2.getD 0 d0).ll) ++ [[qS r4 0,qS r3 0,qL r5 0,qS r7 0,qS r7 1,qL r8 0]]),qL r9 1,qI r9 2,qI r9 3,qI r9 4,qI r9 5]
 else
 .norm [.sl (((v2.getD 0 d0).ll) ++ [[qS r4 0,qS r3 0,qL r5 0,qS r7 0,qS r7 1,qL r8 0]]),qL r9 1,qI r9 2,qI r9 3,qI r9 4,qI r9 5]
 else
 .fail) 1 fun v10 =>
 .norm [qL v10 0,qL v10 1,qI v10 2,qI v10 3,qI v10 4,qI v10 5]
 else
 .ex 0 [qL v2 0,qL v2 1,qI v2 2,qI v2 3,qI v2 4,qI v2 5]
noncomputable def zK (a:List DC):Out :=
 (jJ [.s ([123]:List UInt8),qL a 0,qI a 1,qI a 2,qI a 3,qI a 4]).bindR fun r1 =>
 if (!((r1.getD 0 d0).bb))=true then
 .ret [.sl [],qL r1 1,qI r1 2,qI r1 3,qI r1 4,qI r1 5]
 else
 j9 (jy qn [.sl [],qL r1 1,qI r1 2,qI r1 3,qI r1 4,qI r1 5]) 0 fun v11 =>
 .ret [qL v11 0,qL v11 1,qI v11 2,qI v11 3,qI v11 4,qI v11 5]
theorem XO a:zv a=zK a:=(jq cfg 114 _ a).trans (by kernel_rfl)
noncomputable def VC (a:List DC):Out :=
 (qi [qS a 0,qL a 1,qI a 2,qI a 3,qI a 4,qI a 5]).bindR fun r1 =>
 if (!((r1.getD 0 d0).bb))=true then
 .ret [.b false,qL r1 1,qI r1 2,qI r1 3,qI r1 4,qI r1 5]
 else
 .ret [.b true,qL r1 1,.i (IntKind.i64.wrap ((r1.getD 2 d0).ii + (1:Int))),qI r1 3,qI r1 4,qI r1 5]
theorem Yc a:jJ a=VC a:=(jq cfg 115 _ a).trans (by kernel_rfl)
noncomputable def ql:List DC → Out:=fun v2 =>
 if ((v2.getD 4 d0).ii == (0:Int))=true then
 j9 ((kO [qL v2 1,qI v2 2,qI v2 3,qI v2 4,qI v2 5]).bindR fun r3 =>
 ja ((ym [.i (2:Int),qL r3 1,qI r3 2,qI r3 3,qI r3 4,qI r3 5]).bindR fun r4 =>
 if (r4.getD 0 d0).bb=true then
 if 159=159 ∧ 0 ≤ (r4.getD 2 d0).ii ∧ (r4.getD 2 d0).ii < (((r4.getD 1 d0).ll).length:Int) then
 (V4 [.s (((((r4.getD 1 d0).ll).getD ((r4.getD 2 d0).ii).toNat []).getD 1 d0).ss)]).bindR fun r5 =>
 .norm [qL v2 0,qB r5 0,qL r4 1,qI r4 2,qI r4 3,qI r4 4,qI r4 5,.s [],qS r3 0]
 else
 .fail
 else
 .norm [qL v2 0,.b false,qL r4 1,qI r4 2,qI r4 3,qI r4 4,qI r4 5,.s [],qS r3 0]) fun v6 =>
 ja (if (v6.getD 1 d0).bb=true then
 (jL [.i (7:Int),qL v6 2,qI v6 3,qI v6 4,qI v6 5,qI v6 6]).bindR fun r7 =>
 .norm [qL v6 0,qL r7 0,qI r7 1,qI r7 2,qI r7 3,qI r7 4,qS v6 7,qS v6 8]
 else
 .norm [qL v6 0,qL v6 2,qI v6 3,qI v6 4,qI v6 5,qI v6 6,qS v6 7,qS v6 8]) fun v8 =>
 (jY [qL v8 1,qI v8 2,qI v8 3,qI v8 4,qI v8 5]).bindR fun r9 =>
 (pz [.b true,qL r9 1,qI r9 2,qI r9 3,qI r9 4,qI r9 5]).bindR fun r10 =>
 if ((v8.getD 0 d0).ll).length + [[qS r9 0,qS v8 7,qL r10 0]].length < jT then
 (jJ [.s ([125]:List UInt8),qL r10 1,qI r10 2,qI r10 3,qI r10 4,qI r10 5]).bindR fun r11 =>
 if (r11.getD 0 d0).bb=true then
 .ex 0 [.sl (((v8.getD 0 d0).ll) ++ [[qS r9 0,qS v8 7,qL r10 0]]),qL r11 1,qI r11 2,qI r11 3,qI r11 4,qI r11 5]
 else
 .norm [.sl (((v8.getD 0 d0).ll) ++ [[qS r9 0,qS v8 7,qL r10 0]]),qL r11 1,qI r11 2,qI r11 3,qI r11 4,qI r11 5]
 else
 .fail) 1 fun v12 =>
 .norm [qL v12 0,qL v12 1,qI v12 2,qI v12 3,qI v12 4,qI v12 5]
 else
 .ex 0 [qL v2 0,qL v2 1,qI v2 2,qI v2 3,qI v2 4,qI v2 5]
noncomputable def zJ (a:List DC):Out :=
 (jJ [.s ([123]:List UInt8),qL a 0,qI a 1,qI a 2,qI a 3,qI a 4]).bindR fun r1 =>
 if (!((r1.getD 0 d0).bb))=true then
 .ret [.sl [],qL r1 1,qI r1 2,qI r1 3,qI r1 4,qI r1 5]
 else
 j9 (jy ql [.sl [],qL r1 1,qI r1 2,qI r1 3,qI r1 4,qI r1 5]) 0 fun v13 =>
 .ret [qL v13 0,qL v13 1,qI v13 2,qI v13 3,qI v13 4,qI v13 5]
theorem XM a:zr a=zJ a:=(jq cfg 116 _ a).trans (by kernel_rfl)
noncomputable def qp:List DC → Out:=fun v1 =>
 if (decide ((v1.getD 2 d0).ii < (((v1.getD 0 d0).ll).length:Int)))=true then
 j9 (if 199=199 ∧ 0 ≤ (v1.getD 2 d0).ii ∧ (v1.getD 2 d0).ii < (((v1.getD 0 d0).ll).length:Int) then
 (zc [.sl (((((v1.getD 0 d0).ll).getD ((v1.getD 2 d0).ii).toNat []).getD 2 d0).ll)]).bindR fun r2 =>
 (yl [.sl (((((v1.getD 0 d0).ll).getD ((v1.getD 2 d0).ii).toNat []).getD 5 d0).ll)]).bindR fun r3 =>
 if ((v1.getD 1 d0).ll).length + [[DC.s (((((v1.getD 0 d0).ll).getD ((v1.getD 2 d0).ii).toNat []).getD 0 d0).ss),DC.s (((((v1.getD 0 d0).ll).getD ((v1.getD 2 d0).ii).toNat []).getD 1 d0).ss),qL r2 0,DC.s (((((v1.getD 0 d0).ll).getD ((v1.getD 2 d0).ii).toNat []).getD 3 d0).ss),DC.s (((((v1.getD 0 d0).ll).getD ((v1.getD 2 d0).ii).toNat []).getD 4 d0).ss),qL r3 0]].length < jT ∧ 32=32 then
 .norm [qL v1 0,.sl (((v1.getD 1 d0).ll) ++ [[DC.s (((((v1.getD 0 d0).ll).getD ((v1.getD 2 d0).ii).toNat []).getD 0 d0).ss),DC.s (((((v1.getD 0 d0).ll).getD ((v1.getD 2 d0).ii).toNat []).getD 1 d0).ss),qL r2 0,DC.s (((((v1.getD 0 d0).ll).getD ((v1.getD 2 d0).ii).toNat []).getD 3 d0).ss),DC.s (((((v1.getD 0 d0).ll).getD ((v1.getD 2 d0).ii).toNat []).getD 4 d0).ss),qL r3 0]]),qI v1 2]
 else
 .fail
 else
 .fail) 1 fun v4 =>
 .norm [qL v4 0,qL v4 1,.i (IntKind.i64.wrap ((v4.getD 2 d0).ii + (1:Int)))]
 else
 .ex 0 [qL v1 1]
noncomputable def KP (a:List DC):Out :=
 j9 (jy qp [qL a 0,.sl [],.i (0:Int)]) 0 fun v5 =>
 .ret [qL v5 0]
theorem XQ a:zx a=KP a:=(jq cfg 119 _ a).trans (by kernel_rfl)
noncomputable def yg:List DC → Out:=fun v1 =>
 if (decide ((v1.getD 2 d0).ii < (((v1.getD 0 d0).ll).length:Int)))=true then
 j9 (if 196=196 ∧ 0 ≤ (v1.getD 2 d0).ii ∧ (v1.getD 2 d0).ii < (((v1.getD 0 d0).ll).length:Int) then
 (zz [.i (((((v1.getD 0 d0).ll).getD ((v1.getD 2 d0).ii).toNat []).getD 5 d0).ii),.s (((((v1.getD 0 d0).ll).getD ((v1.getD 2 d0).ii).toNat []).getD 6 d0).ss),.sl (((((v1.getD 0 d0).ll).getD ((v1.getD 2 d0).ii).toNat []).getD 7 d0).ll),.sl (((((v1.getD 0 d0).ll).getD ((v1.getD 2 d0).ii).toNat []).getD 8 d0).ll)]).bindR fun r2 =>
 (yl [.sl (((((v1.getD 0 d0).ll).getD ((v1.getD 2 d0).ii).toNat []).getD 9 d0).ll)]).bindR fun r3 =>
 if ((v1.getD 1 d0).ll).length + [[DC.s (((((v1.getD 0 d0).ll).getD ((v1.getD 2 d0).ii).toNat []).getD 0 d0).ss),DC.s (((((v1.getD 0 d0).ll).getD ((v1.getD 2 d0).ii).toNat []).getD 1 d0).ss),DC.s (((((v1.getD 0 d0).ll).getD ((v1.getD 2 d0).ii).toNat []).getD 2 d0).ss),DC.s (((((v1.getD 0 d0).ll).getD ((v1.getD 2 d0).ii).toNat []).getD 3 d0).ss),DC.b (((((v1.getD 0 d0).ll).getD ((v1.getD 2 d0).ii).toNat []).getD 4 d0).bb),qI r2 0,qS r2 1,qL r2 2,qL r2 3,qL r3 0]].length < jT ∧ 33=33 then
 .norm [qL v1 0,.sl (((v1.getD 1 d0).ll) ++ [[DC.s (((((v1.getD 0 d0).ll).getD ((v1.getD 2 d0).ii).toNat []).getD 0 d0).ss),DC.s (((((v1.getD 0 d0).ll).getD ((v1.getD 2 d0).ii).toNat []).getD 1 d0).ss),DC.s (((((v1.getD 0 d0).ll).getD ((v1.getD 2 d0).ii).toNat []).getD 2 d0).ss),DC.s (((((v1.getD 0 d0).ll).getD ((v1.getD 2 d0).ii).toNat []).getD 3 d0).ss),DC.b (((((v1.getD 0 d0).ll).getD ((v1.getD 2 d0).ii).toNat []).getD 4 d0).bb),qI r2 0,qS r2 1,qL r2 2,qL r2 3,qL r3 0]]),qI v1 2]
 else
 .fail
 else
 .fail) 1 fun v4 =>
 .norm [qL v4 0,qL v4 1,.i (IntKind.i64.wrap ((v4.getD 2 d0).ii + (1:Int)))]
 else
 .ex 0 [qL v1 1]
noncomputable def Vm (a:List DC):Out :=
 j9 (jy yg [qL a 0,.sl [],.i (0:Int)]) 0 fun v5 =>
 .ret [qL v5 0]
theorem ZR a:zc a=Vm a:=(jq cfg 120 _ a).trans (by kernel_rfl)
end Go.Proofs.QV
