import Derived.Test.YtgkcnpfldkjnbaaGreatMD11
import Derived.Test.YtgkcnpfldkjnbaaGreatMD6
/- The schema of definitions: the program answers the model. -/
namespace Go.Proofs.QV
open Go Go.Sort
open _root_.List renaming map_cons → jn, append_assoc → jq, length_cons → jl, length_nil → jk, append_nil → jC, nil_append → ju, length_append → jA, mem_map_of_mem → je, getElem_mem → jc
open Out renaming andThen → jy, andThenB → ja
open _root_.Int renaming toNat_natCast → jb
open _root_.Bool renaming not_true → jx, and_eq_true → jd
set_option linter.unusedVariables false
set_option linter.unusedSimpArgs false
set_option maxRecDepth 100000
def VG (S:List TDef) (i:Nat):List (List DC):=List.replicate i [] ++ (S.drop i).map TDef.enc
theorem j6o (S:List TDef) {i:Nat} (h:i ≤ S.length):(VG S i).length=S.length:=by
 unfold VG; simp; omega
theorem j6p (S:List TDef) {i:Nat} (h:i < S.length):(VG S i).getD i []=TDef.enc (S[i]'h):=by
 unfold VG
 rw [List.getD_eq_getElem?_getD,List.getElem?_append_right (by simp),List.length_replicate,Nat.sub_self,List.drop_eq_getElem_cons h]
 rfl
theorem j6n (S:List TDef) {i:Nat} (h:i < S.length):(VG S i).set i []=VG S (i + 1):=by
 unfold VG
 rw [List.set_append_right _ _ (by simp),List.length_replicate,Nat.sub_self,List.drop_eq_getElem_cons h,jn,List.set_cons_zero,List.replicate_succ',jq]
 rfl
theorem ja6 (d:TDef):Qg [.i d.kind,.b d.ext,.s d.desc,.s d.name,.sl (d.faces.map S1),.sl (d.fields.map TFieldDef.enc),.sl (d.inputs.map TInDef.enc),.sl (d.values.map TEnumDef.enc),.sl (d.roots.map TRoot.enc),.b d.repeat',.sl (d.dirs.map TDir.enc)] = .ret [.b (J4 0 d)]:=by
 rw [j1m]
 unfold J4 j15
 by_cases h7:d.kind=7
 ·rw [h7]; rfl
 ·have e7:(d.kind != (7:Int))=true:=bne_iff_ne.2 h7
  by_cases h8:d.kind=8
  ·rw [h8]; rfl
  ·have e8:(d.kind != (8:Int))=true:=bne_iff_ne.2 h8
   simp only [XP,List.getD_cons_zero,DC.ii_i,e7,e8,if_true,jy,DC.bb_b,if_neg h7,if_neg h8,beq_self_eq_true]
theorem j7y (S:List TDef) (L:List (List DC)) (hS:S.length ≤ 1048576):∀ (m i:Nat) (ts ds:List TDef),S.length - i ≤ m → i ≤ S.length → ts.length ≤ i → ds.length ≤ i →
  jK ku [.sl L,.sl (VG S i),.i (S.length:Int),.i (i:Int),.sl (ts.map TDef.enc),.sl (ds.map TDef.enc)] = .ex 0 [.sl L,.sl ((ts ++ (S.drop i).filter (J4 0)).map TDef.enc),.sl ((ds ++ (S.drop i).filter (J4 1)).map TDef.enc)]:=by
 intro m
 induction m with
 | zero =>
  intro i ts ds hm hi h1 h2
  have:i=S.length:=by omega
  subst this
  rw [List.drop_length]
  exact kH (by simp [ku,DC.ii_i,DC.ll_sl])
 | succ m ih =>
  intro i ts ds hm hi h1 h2
  by_cases h:i < S.length
  ·have hc:(i:Int) < (S.length:Int):=by omega
   have ws:=jr h (show S.length ≤ 9223372036854775807 by omega)
   have hg:=j6p S h
   have hs:=j6n S h
   have hl:=j6o S hi
   have hdr:=List.drop_eq_getElem_cons h
   have hT:=ja6 (S[i]'h)
   rw [TDef.enc_eq (S[i]'h)] at hg
   have l1:ts.length + 1 < kC:=by unfold kC; omega
   have l2:ds.length + 1 < kC:=by unfold kC; omega
   have hpos:0 < 0 + 1 + 1 + 1 + 1 + 1 + 1 + 1 + 1 + 1 + 1 + 1:=by decide
   by_cases h7:(S[i]'h).kind=7
   ·have e7:((S[i]'h).kind == (7:Int))=true:=by rw [h7]; rfl
    have g0:J4 0 (S[i]'h)=false:=by unfold J4 j15; rw [h7]; rfl
    have g1:J4 1 (S[i]'h)=true:=by unfold J4 j15; rw [h7]; rfl
    rw [jO (v':=[.sl L,.sl (VG S (i + 1)),.i (S.length:Int),.i ((i + 1:Nat):Int),.sl (ts.map TDef.enc),.sl ((ds ++ [S[i]'h]).map TDef.enc)]),ih (i + 1) _ _ (by omega) (by omega) (by omega) (by simp; omega),hdr,List.filter_cons,List.filter_cons,g0,g1]
    ·simp
    ·generalize S[i]'h=d at *
     simp only [ku,jy,ja,List.getD_cons_zero,List.getD_cons_succ,DC.bb_b,DC.ii_i,DC.ss_s,DC.ll_sl,jb,List.length_map,hg,hs,hl,hc,e7,decide_true,decide_false,if_true,Bool.false_eq_true,if_false,ws,List.map_append,jn,List.map_nil,TDef.enc_eq d,jl,jk,hpos,Nat.zero_add,l1,l2,Int.natCast_nonneg,and_self]
   ·have e7:((S[i]'h).kind == (7:Int))=false:=beq_eq_false_iff_ne.2 h7
    have g1:J4 1 (S[i]'h)=false:=by
     unfold J4 j15
     rw [if_neg h7]
     split <;> rfl
    cases g0:J4 0 (S[i]'h) with
    | true =>
     rw [g0] at hT
     rw [jO (v':=[.sl L,.sl (VG S (i + 1)),.i (S.length:Int),.i ((i + 1:Nat):Int),.sl ((ts ++ [S[i]'h]).map TDef.enc),.sl (ds.map TDef.enc)]),ih (i + 1) _ _ (by omega) (by omega) (by simp; omega) (by omega),hdr,List.filter_cons,List.filter_cons,g0,g1]
     ·simp
     ·generalize S[i]'h=d at *
      simp only [ku,jy,ja,List.getD_cons_zero,List.getD_cons_succ,DC.bb_b,DC.ii_i,DC.ss_s,DC.ll_sl,jb,List.length_map,hg,hs,hl,hc,e7,hT,Out.bindR_ret,decide_true,decide_false,if_true,Bool.false_eq_true,if_false,ws,List.map_append,jn,List.map_nil,TDef.enc_eq d,jl,jk,hpos,Nat.zero_add,l1,l2,Int.natCast_nonneg,and_self]
    | false =>
     rw [g0] at hT
     rw [jO (v':=[.sl L,.sl (VG S (i + 1)),.i (S.length:Int),.i ((i + 1:Nat):Int),.sl (ts.map TDef.enc),.sl (ds.map TDef.enc)]),ih (i + 1) _ _ (by omega) (by omega) (by omega) (by omega),hdr,List.filter_cons,List.filter_cons,g0,g1]
     ·simp
     ·generalize S[i]'h=d at *
      simp only [ku,jy,ja,List.getD_cons_zero,List.getD_cons_succ,DC.bb_b,DC.ii_i,DC.ss_s,DC.ll_sl,jb,List.length_map,hg,hs,hl,hc,e7,hT,Out.bindR_ret,decide_true,decide_false,if_true,Bool.false_eq_true,if_false,ws,List.map_append,jn,List.map_nil,jl,jk,hpos,Nat.zero_add,l1,l2,Int.natCast_nonneg,and_self]
  ·have:i=S.length:=by omega
   subst this
   rw [List.drop_length]
   exact kH (by simp [ku,DC.ii_i,DC.ll_sl])
theorem j6C (k:Int):∃ w:List UInt8,Qi [.i k] = .ret [.s w] ∧ (!(w == []))=(decide (1 ≤ k) && decide (k ≤ 3)):=by
 have hin:Zd [.i k,.i 1,.i 3] = .ret [.b (decide (1 ≤ k) && decide (k ≤ 3))]:=by
  rw [j5x]
  by_cases h:k ≥ 1
  ·have h':1 ≤ k:=h
   simp only [ZL,List.getD_cons_zero,List.getD_cons_succ,DC.ii_i,h,h',decide_true,if_true,jy,DC.bb_b,Bool.true_and]
  ·have h':¬ 1 ≤ k:=h
   simp only [ZL,List.getD_cons_zero,List.getD_cons_succ,DC.ii_i,h,h',decide_false,Bool.false_eq_true,if_false,jy,DC.bb_b,Bool.false_and]
 have hw:IntKind.i64.wrap (([[DC.s ([]:List UInt8)],[DC.s ([113,117,101,114,121]:List UInt8)],[DC.s ([109,117,116,97,116,105,111,110]:List UInt8)],[DC.s ([115,117,98,115,99,114,105,112,116,105,111,110]:List UInt8)]].length:Int) - (1:Int))=3:=by decide
 rw [j1o]
 by_cases h:1 ≤ k ∧ k ≤ 3
 ·have hk:k=1 ∨ k=2 ∨ k=3:=by omega
  have hb:(decide (1 ≤ k) && decide (k ≤ 3))=true:=by rw [decide_eq_true h.1,decide_eq_true h.2]; rfl
  rw [hb] at hin ⊢
  rcases hk with rfl | rfl | rfl
  ·refine ⟨[113,117,101,114,121],?_,rfl⟩
   simp only [yX,List.getD_cons_zero,DC.ii_i,hw,hin,Out.bindR_ret,DC.bb_b,jx,Bool.false_eq_true,if_false]
   rfl
  ·refine ⟨[109,117,116,97,116,105,111,110],?_,rfl⟩
   simp only [yX,List.getD_cons_zero,DC.ii_i,hw,hin,Out.bindR_ret,DC.bb_b,jx,Bool.false_eq_true,if_false]
   rfl
  ·refine ⟨[115,117,98,115,99,114,105,112,116,105,111,110],?_,rfl⟩
   simp only [yX,List.getD_cons_zero,DC.ii_i,hw,hin,Out.bindR_ret,DC.bb_b,jx,Bool.false_eq_true,if_false]
   rfl
 ·have hb:(decide (1 ≤ k) && decide (k ≤ 3))=false:=by
   rw [Bool.eq_false_iff]
   intro hh
   simp only [jd,decide_eq_true_eq] at hh
   exact h hh
  rw [hb] at hin ⊢
  refine ⟨[],?_,rfl⟩
  simp only [yX,List.getD_cons_zero,DC.ii_i,hw,hin,Out.bindR_ret,DC.bb_b,Bool.not_false,if_true]
theorem j6d (R:List TRoot) (hR:R.length ≤ 1048576):∀ (m i:Nat) (out:List TRoot),R.length - i ≤ m → i ≤ R.length → out.length ≤ i →
  jK kX [.sl (out.map TRoot.enc),.sl (R.map TRoot.enc),.i (R.length:Int),.i (i:Int)] = .ex 0 [.sl ((out ++ (R.drop i).filter Vy).map TRoot.enc)]:=by
 intro m
 induction m with
 | zero =>
  intro i out hm hi ho
  have:i=R.length:=by omega
  subst this
  rw [List.drop_length]
  exact kH (by simp [kX,DC.ii_i,DC.ll_sl])
 | succ m ih =>
  intro i out hm hi ho
  by_cases h:i < R.length
  ·have hc:(i:Int) < (R.length:Int):=by omega
   have ws:=jr h (show R.length ≤ 9223372036854775807 by omega)
   have hm2:=js (f:=TRoot.enc) h
   rw [TRoot.enc_eq (R[i]'h)] at hm2
   have hlim:out.length + 1 < kC:=by unfold kC; omega
   have hdr:=List.drop_eq_getElem_cons h
   obtain ⟨w,hw,hww⟩:=j6C (R[i]'h).kind
   cases hg:Vy (R[i]'h) with
   | true =>
    have hw2:(!(w == []))=true:=hww.trans hg
    rw [jO (v':=[.sl ((out ++ [R[i]'h]).map TRoot.enc),.sl (R.map TRoot.enc),.i (R.length:Int),.i ((i + 1:Nat):Int)]),ih (i + 1) _ (by omega) (by omega) (by simp; omega),hdr,List.filter_cons,hg]
    ·simp
    ·generalize R[i]'h=r at *
     simp only [kX,jy,ja,List.getD_cons_zero,List.getD_cons_succ,DC.bb_b,DC.ii_i,DC.ss_s,DC.ll_sl,jb,List.length_map,hm2,hc,hw,hw2,Out.bindR_ret,decide_true,decide_false,if_true,Bool.false_eq_true,if_false,ws,List.map_append,jn,List.map_nil,TRoot.enc_eq r,jl,jk,Nat.zero_add,hlim,Int.natCast_nonneg,and_self]
   | false =>
    have hw2:(!(w == []))=false:=hww.trans hg
    rw [jO (v':=[.sl (out.map TRoot.enc),.sl (R.map TRoot.enc),.i (R.length:Int),.i ((i + 1:Nat):Int)]),ih (i + 1) _ (by omega) (by omega) (by omega),hdr,List.filter_cons,hg]
    ·simp
    ·generalize R[i]'h=r at *
     simp only [kX,jy,ja,List.getD_cons_zero,List.getD_cons_succ,DC.bb_b,DC.ii_i,DC.ss_s,DC.ll_sl,jb,List.length_map,hm2,hc,hw,hw2,Out.bindR_ret,decide_true,decide_false,if_true,Bool.false_eq_true,if_false,ws,List.map_append,jn,List.map_nil,jl,jk,Nat.zero_add,hlim,Int.natCast_nonneg,and_self]
  ·have:i=R.length:=by omega
   subst this
   rw [List.drop_length]
   exact kH (by simp [kX,DC.ii_i,DC.ll_sl])
theorem jax (R:List TRoot) (hR:R.length ≤ 1048576):rgI 0 ((R.filter Vy).map TRoot.enc) < kC:=by
 have hall:((R.filter Vy).map TRoot.enc).all (inI 0)=true:=by
  rw [List.all_eq_true]
  intro x hx
  obtain ⟨r,hr,rfl⟩:=List.mem_map.1 hx
  have hw:=(List.mem_filter.1 hr).2
  unfold Vy at hw
  simp only [jd,decide_eq_true_eq] at hw
  unfold inI nmI
  simp only [TRoot.enc_eq,List.getD_cons_zero,DC.ii_i,jd,decide_eq_true_eq]
  omega
 have hl:=List.length_filter_le Vy R
 unfold rgI
 rw [hall,List.length_map]
 unfold kC
 simp only [if_true]
 omega
theorem XY (ts:List TDef) (i:Nat) (hi:i < 3) (n:List UInt8) (hn:([[DC.s ([81,117,101,114,121]:List UInt8)],[DC.s ([77,117,116,97,116,105,111,110]:List UInt8)],[DC.s ([83,117,98,115,99,114,105,112,116,105,111,110]:List UInt8)]].getD i [])=[DC.s n]) (d r:List (List DC)) (out:List TRoot) (ht:ts.length ≤ 1048576) (ho:out.length ≤ 4194304) :
  pu [.sl (out.map TRoot.enc),.sl [[DC.s ([81,117,101,114,121]:List UInt8)],[DC.s ([77,117,116,97,116,105,111,110]:List UInt8)],[DC.s ([83,117,98,115,99,114,105,112,116,105,111,110]:List UInt8)]],.i 3,.i (i:Int),.sl (ts.map TDef.enc),.sl d,.sl r] =
   .norm [.sl ((out ++ Qs ts ((i + 1:Nat):Int) n).map TRoot.enc),.sl [[DC.s ([81,117,101,114,121]:List UInt8)],[DC.s ([77,117,116,97,116,105,111,110]:List UInt8)],[DC.s ([83,117,98,115,99,114,105,112,116,105,111,110]:List UInt8)]],.i 3,.i ((i + 1:Nat):Int),.sl (ts.map TDef.enc),.sl d,.sl r]:=by
 have h3:(i:Int) < 3:=by omega
 have ws:IntKind.i64.wrap ((i:Int) + 1)=((i + 1:Nat):Int):=by rw [IntKind.wrap_i64]; omega
 have hidx:(i:Int) < ([[DC.s ([81,117,101,114,121]:List UInt8)],[DC.s ([77,117,116,97,116,105,111,110]:List UInt8)],[DC.s ([83,117,98,115,99,114,105,112,116,105,111,110]:List UInt8)]].length:Int):=by
  simp only [jl,jk]
  omega
 have hT:=j4r ts d r n ht
 have hlim:out.length + 1 < kC:=by unfold kC; omega
 unfold Qs
 simp only [pu,List.getD_cons_zero,List.getD_cons_succ,DC.bb_b,DC.ii_i,DC.ss_s,DC.ll_sl,h3,decide_true,if_true,jb]
 rw [if_pos ⟨trivial,by omega,hidx⟩,hn]
 simp only [List.getD_cons_zero,DC.ss_s,hT,Out.bindR_ret,DC.ii_i]
 by_cases hp:0 ≤ J8 ts n
 ·obtain ⟨a,ha⟩:=Int.eq_ofNat_of_zero_le hp
  have hlt:a < ts.length:=by
   unfold J8 yH at ha
   split at ha
   ·omega
   ·split at ha
    ·rename_i i hi
     obtain ⟨h1,_⟩:=List.findIdx?_eq_some_iff_getElem.1 hi
     omega
    ·omega
  have hm:=js (f:=TDef.enc) hlt
  have hgd:ts.getD a default=ts[a]'hlt:=by rw [List.getD_eq_getElem?_getD,List.getElem?_eq_getElem hlt]; rfl
  rw [TDef.enc_eq (ts[a]'hlt)] at hm
  have hai:(a:Int) < (ts.length:Int):=by omega
  have hge:(a:Int) ≥ 0:=by omega
  simp only [ha,hge,decide_true,if_true,List.length_map,hai,jb,hm,hgd,List.getD_cons_zero,DC.ii_i,and_self,Int.natCast_nonneg,true_and]
  by_cases h2:(ts[a]'hlt).kind=2
  ·have hb:((ts[a]'hlt).kind == (2:Int))=true:=by rw [h2]; rfl
   simp only [hb,if_pos h2,jy,ja,List.getD_cons_zero,List.getD_cons_succ,DC.bb_b,DC.ii_i,DC.ss_s,DC.ll_sl,if_true,jl,jk,List.length_map,Nat.zero_add,hlim,ws,List.map_append,jn,List.map_nil,TRoot.enc_eq]
  ·have hb:((ts[a]'hlt).kind == (2:Int))=false:=beq_eq_false_iff_ne.2 h2
   simp only [hb,if_neg h2,jy,ja,List.getD_cons_zero,List.getD_cons_succ,DC.bb_b,DC.ii_i,DC.ss_s,DC.ll_sl,Bool.false_eq_true,if_false,if_true,ws,jC]
 ·have hge:¬ J8 ts n ≥ 0:=hp
  simp only [hge,decide_false,Bool.false_eq_true,if_false,hp,false_and,jy,ja,List.getD_cons_zero,List.getD_cons_succ,DC.bb_b,DC.ii_i,DC.ss_s,DC.ll_sl,if_true,ws,jC]
theorem j9y (t d r o n:List (List DC)):jK pu [.sl o,.sl n,.i 3,.i 3,.sl t,.sl d,.sl r] = .ex 2 [.sl o]:=by
 refine kH ?_
 have h:¬ ((3:Int) < 3):=by decide
 simp only [pu,List.getD_cons_zero,List.getD_cons_succ,DC.ii_i,DC.ll_sl,h,decide_false,Bool.false_eq_true,if_false]
theorem j5u (l ts:List TDef) (d:List (List DC)) (hw:DC.wt (.sl (l.map TDef.enc)) ≤ 1048576) (ht:ts.length ≤ 1048576) :
  Kt [.sl (l.map TDef.enc),.sl (ts.map TDef.enc),.sl d,.sl []] = .ret [.sl ((QP l ts).map TRoot.enc)]:=by
 have hl:l.length ≤ 1048576:=by rw [DC.wt,List.length_map] at hw; omega
 have h8:=j8l l hl
 rw [j0g]
 simp only [Xa,List.getD_cons_zero,List.getD_cons_succ,DC.ll_sl,DC.ii_i,h8,Out.bindR_ret]
 unfold QP yH
 cases hf:l.findIdx? fun d=>d.kind == 8 with
 | some k =>
  obtain ⟨hk,_⟩:=List.findIdx?_eq_some_iff_getElem.1 hf
  have hr:=j44 l hw k hk
  have hgd:l.getD k default=l[k]'hk:=by rw [List.getD_eq_getElem?_getD,List.getElem?_eq_getElem hk]; rfl
  have hm:=js (f:=TDef.enc) hk
  rw [TDef.enc_eq (l[k]'hk)] at hm
  have hge:(k:Int) ≥ 0:=by omega
  have hlt:(k:Int) < (l.length:Int):=by omega
  have hlp:=j6d (l[k]'hk).roots hr _ 0 [] (Nat.le_refl _) (by omega) (by simp)
  rw [List.drop_zero,ju] at hlp
  have hlp':jK kX [.sl [],.sl ((l[k]'hk).roots.map TRoot.enc),.i ((l[k]'hk).roots.length:Int),.i (0:Int)] = .ex 0 [.sl (((l[k]'hk).roots.filter Vy).map TRoot.enc)]:=hlp
  have hrg:=jax (l[k]'hk).roots hr
  simp only [hge,decide_true,if_true,List.length_map,hlt,jb,hm,List.getD_cons_zero,List.getD_cons_succ,DC.ll_sl,and_self,Int.natCast_nonneg,hlp',ja,hrg,j7r,j2Z,hgd]
 | none =>
  have hge:¬ ((-1:Int) ≥ 0):=by decide
  have l1:=Yw ts 1 nmQ
  have l2:=Yw ts 2 nmM
  have s1:=XY ts 0 (by decide) nmQ rfl d [] [] ht (by simp)
  have s2:=XY ts 1 (by decide) nmM rfl d [] (Qs ts 1 nmQ) ht (by omega)
  have s3:=XY ts 2 (by decide) nmU rfl d [] (Qs ts 1 nmQ ++ Qs ts 2 nmM) ht (by rw [jA]; omega)
  rw [ju] at s1
  simp only [hge,decide_false,Bool.false_eq_true,if_false]
  have hlp:=(jO s1).trans ((jO s2).trans ((jO s3).trans (j9y (ts.map TDef.enc) d [] _ _)))
  have hlp':jK pu [.sl [],.sl [[DC.s ([81,117,101,114,121]:List UInt8)],[DC.s ([77,117,116,97,116,105,111,110]:List UInt8)],[DC.s ([83,117,98,115,99,114,105,112,116,105,111,110]:List UInt8)]],.i ([[DC.s ([81,117,101,114,121]:List UInt8)],[DC.s ([77,117,116,97,116,105,111,110]:List UInt8)],[DC.s ([83,117,98,115,99,114,105,112,116,105,111,110]:List UInt8)]].length:Int),.i (0:Int),.sl (ts.map TDef.enc),.sl d,.sl []] =
   .ex 2 [.sl ((Qs ts 1 nmQ ++ Qs ts 2 nmM ++ Qs ts 3 nmU).map TRoot.enc)]:=hlp
  rw [hlp',← jq]
  rfl
theorem j1L (l:List TDef) (hw:DC.wt (.sl (l.map TDef.enc)) ≤ 1048576):zd [.sl (l.map TDef.enc)] = .ret [.sl ((yi l).map TDef.enc),.sl ((YS l).map TDef.enc),.sl ((QP l (yi l)).map TRoot.enc)]:=by
 have hl:l.length ≤ 1048576:=by rw [DC.wt,List.length_map] at hw; omega
 have ht:(yi l).length ≤ 1048576:=by
  unfold yi
  rw [VA]
  exact Nat.le_trans (List.length_filter_le _ _) hl
 have hs:=j1K l hw
 have hlen:(J3 l).length ≤ 1048576:=by rw [VA]; exact hl
 have hlp:=j7y (J3 l) (l.map TDef.enc) hlen _ 0 [] [] (Nat.le_refl _) (by omega) (by simp) (by simp)
 rw [List.drop_zero,ju,ju,j0H,j0H] at hlp
 have hlp':jK ku [.sl (l.map TDef.enc),.sl ((J3 l).map TDef.enc),.i ((J3 l).length:Int),.i (0:Int),.sl [],.sl []] = .ex 0 [.sl (l.map TDef.enc),.sl ((yi l).map TDef.enc),.sl ((YS l).map TDef.enc)]:=hlp
 have hr:=j5u l (yi l) ((YS l).map TDef.enc) hw ht
 rw [ZF]
 simp only [Vq,List.getD_cons_zero,List.getD_cons_succ,DC.ll_sl,hs,Out.bindR_ret,List.length_map,hlp',ja,if_true,hr]
theorem j6Z (l:List TDef):DC.wt (.sl ((yi l).map TDef.enc)) ≤ DC.wt (.sl (l.map TDef.enc)):=by
 unfold yi; rw [j5K]; exact Xl l
theorem j9o (l:List TDef):DC.wt (.sl ((YS l).map TDef.enc)) ≤ DC.wt (.sl (l.map TDef.enc)):=by
 unfold YS; rw [j5K]; exact Xl l
end Go.Proofs.QV

namespace Go.Proofs.QV
open Go Go.Sort
open _root_.List renaming map_cons → jn, append_assoc → jq, length_cons → jl, length_nil → jk, append_nil → jC, nil_append → ju, length_append → jA, mem_map_of_mem → je, getElem_mem → jc
open Out renaming andThen → jy, andThenB → ja
open _root_.Int renaming toNat_natCast → jb
open _root_.Bool renaming not_true → jx, and_eq_true → jd
set_option linter.unusedVariables false
set_option linter.unusedSimpArgs false
set_option maxRecDepth 100000
theorem j26:∀ (l:List TRoot),DC.wt (.sl ((XS l).map TRoot.enc)) ≤ DC.wt (.sl (l.map TRoot.enc))
 | []=>Nat.le_refl _
 | r :: l=>by
  have ih:=j26 l
  unfold XS rk at ih ⊢
  simp only [DC.wt,List.map_append,jA,yh,List.length_map] at ih
  by_cases h1:r.kind=1
  ·have e1:(r.kind == (1:Int))=true:=by rw [h1]; rfl
   have e2:(r.kind == (2:Int))=false:=by rw [h1]; rfl
   have e3:(r.kind == (3:Int))=false:=by rw [h1]; rfl
   simp only [List.filter_cons,e1,e2,e3,if_true,Bool.false_eq_true,if_false,DC.wt,List.map_append,jn,jl,jA,yh,wtV,List.length_map]
   omega
  ·have e1:(r.kind == (1:Int))=false:=beq_eq_false_iff_ne.2 h1
   by_cases h2:r.kind=2
   ·have e2:(r.kind == (2:Int))=true:=by rw [h2]; rfl
    have e3:(r.kind == (3:Int))=false:=by rw [h2]; rfl
    simp only [List.filter_cons,e1,e2,e3,if_true,Bool.false_eq_true,if_false,DC.wt,List.map_append,jn,jl,jA,yh,wtV,List.length_map]
    omega
   ·have e2:(r.kind == (2:Int))=false:=beq_eq_false_iff_ne.2 h2
    by_cases h3:r.kind=3
    ·have e3:(r.kind == (3:Int))=true:=by rw [h3]; rfl
     simp only [List.filter_cons,e1,e2,e3,if_true,Bool.false_eq_true,if_false,DC.wt,List.map_append,jn,jl,jA,yh,wtV,List.length_map]
     omega
    ·have e3:(r.kind == (3:Int))=false:=beq_eq_false_iff_ne.2 h3
     simp only [List.filter_cons,e1,e2,e3,if_true,Bool.false_eq_true,if_false,DC.wt,List.map_append,jn,jl,jA,yh,wtV,List.length_map]
     omega
theorem j3g (ts:List TDef) (k:Int) (n:List UInt8):DC.wt (.sl ((Qs ts k n).map TRoot.enc)) ≤ 1 + n.length:=by
 unfold Qs
 split
 ·simp only [jn,List.map_nil,TRoot.enc_eq,DC.wt,wtV,jP,jl,jk]; omega
 ·simp only [List.map_nil,DC.wt,wtV,jk]; omega
theorem j7E (l ts:List TDef) (hw:DC.wt (.sl (l.map TDef.enc)) ≤ 1048576):DC.wt (.sl ((QP l ts).map TRoot.enc)) ≤ 1048576:=by
 unfold QP
 split
 ·rename_i i hi
  obtain ⟨hk,_⟩:=List.findIdx?_eq_some_iff_getElem.1 hi
  have hgd:l.getD i default=l[i]'hk:=by rw [List.getD_eq_getElem?_getD,List.getElem?_eq_getElem hk]; rfl
  rw [hgd]
  refine Nat.le_trans (j26 _) ?_
  have h1:=jU (je (f:=TDef.enc) (jc hk))
  rw [zB] at h1
  rw [DC.wt] at hw
  omega
 ·have h1:=j3g ts 1 nmQ
  have h2:=j3g ts 2 nmM
  have h3:=j3g ts 3 nmU
  have q:nmQ.length=5:=rfl
  have m:nmM.length=8:=rfl
  have u:nmU.length=12:=rfl
  rw [q] at h1
  rw [m] at h2
  rw [u] at h3
  simp only [DC.wt,List.map_append,jA,yh] at h1 h2 h3 ⊢
  omega
theorem j5C (ts ds:List TDef) (rs:List TRoot) (h0:DC.wt (.sl (ts.map TDef.enc)) ≤ 1048576) (h1:DC.wt (.sl (ds.map TDef.enc)) ≤ 1048576) (h2:DC.wt (.sl (rs.map TRoot.enc)) ≤ 1048576) :
  qK [.sl (ts.map TDef.enc),.sl (ds.map TDef.enc),.sl (rs.map TRoot.enc),.sl (ts.map TDef.enc),.sl (ds.map TDef.enc),.sl (rs.map TRoot.enc)] = .ret [.b true]:=by
 rw [ZA]
 simp only [Vl,List.getD_cons_zero,List.getD_cons_succ,DC.bb_b,DC.ii_i,DC.ss_s,DC.ll_sl,bne_self_eq_false,beq_self_eq_true,jx,Bool.false_eq_true,if_false]
 rw [j3v ts h0]
 simp only [Out.bindR_ret,List.getD_cons_zero,List.getD_cons_succ,DC.bb_b,DC.ii_i,DC.ss_s,DC.ll_sl,bne_self_eq_false,beq_self_eq_true,jx,Bool.false_eq_true,if_false]
 rw [j3v ds h1]
 simp only [Out.bindR_ret,List.getD_cons_zero,List.getD_cons_succ,DC.bb_b,DC.ii_i,DC.ss_s,DC.ll_sl,bne_self_eq_false,beq_self_eq_true,jx,Bool.false_eq_true,if_false]
 rw [j4v rs h2]
 simp only [Out.bindR_ret,List.getD_cons_zero,List.getD_cons_succ,DC.bb_b,DC.ii_i,DC.ss_s,DC.ll_sl,bne_self_eq_false,beq_self_eq_true,jx,Bool.false_eq_true,if_false]
theorem j5p (ts ds:List TDef) (rs:List TRoot) (h0:DC.wt (.sl (ts.map TDef.enc)) ≤ 1048576) (h1:DC.wt (.sl (ds.map TDef.enc)) ≤ 1048576) (h2:DC.wt (.sl (rs.map TRoot.enc)) ≤ 1048576) :
  ∃ (x0:List TDef) (x1:List TDef) (x2:List TRoot) (k':Int),j4h mT pe [10,10,30] [ts.map TDef.enc,ds.map TDef.enc,rs.map TRoot.enc] 1=some ([x0.map TDef.enc,x1.map TDef.enc,x2.map TRoot.enc],k') ∧ 1 ≤ k' ∧ pI [.sl (x0.map TDef.enc),.sl (x1.map TDef.enc),.sl (x2.map TRoot.enc),.i 1] = .ret [.i k']:=by
 have hw:=Vx ⟨ts,ds,rs⟩
 have hw':jP (TSchema.enc ⟨ts,ds,rs⟩) ≤ 3145728:=by rw [hw]; show DC.wt (.sl (ts.map TDef.enc)) + DC.wt (.sl (ds.map TDef.enc)) + DC.wt (.sl (rs.map TRoot.enc)) ≤ 3145728; omega
 obtain ⟨z0,z1,z2,k1,M1,p1,_,H1⟩:=j5m ⟨ts,ds,rs⟩ 1 (by omega) (by omega)
 exact ⟨z0,z1,z2,k1,M1,p1,H1⟩
mutual
theorem j6V {ty:Nat → Option TI}:∀ {t:CT} {c:DC},WfC ty t c → c.ok
 | _,_,.b x=>by simp [DC.ok]
 | _,_,.i k n _ _=>by simp [DC.ok]
 | _,_,.s l h=>by rw [DC.ok]; simpa [maxLen] using h
 | _,_,.sl e te l h1 h2 h3=>by rw [DC.ok]; exact ⟨by simpa [maxLen] using h2,j6T h3⟩
 | _,_,.nil e=>by rw [DC.ok]; exact ⟨by simp,by rw [okV]; trivial⟩
theorem j6U {ty:Nat → Option TI}:∀ {ts:List CT} {x:List DC},WfL ty ts x → okL x
 | _,_,.nil=>by rw [okL]; trivial
 | _,_,.cons t ts x xs h1 h2=>by rw [okL]; exact ⟨j6V h1,j6U h2⟩
theorem j6T {ty:Nat → Option TI}:∀ {ts:List CT} {l:List (List DC)},WfV ty ts l → okV l
 | _,_,.nil ts=>by rw [okV]; trivial
 | _,_,.cons ts x l h1 h2=>by rw [okV]; exact ⟨j6U h1,j6T h2⟩
end
theorem jb1 {α:Type} {ty:Nat → Option TI} {enc:α → List DC} {cts:List CT}:∀ {l:List (List DC)},(∀ x ∈ l,WfL ty cts x → ∃ v,x=enc v) → WfV ty cts l → ∃ vs:List α,l=vs.map enc
 | [],_,_=>⟨[],rfl⟩
 | x :: l,h,hw=>by
  cases hw with
  | cons ts x l h1 h2 =>
   obtain ⟨v,hv⟩:=h x (by simp) h1
   obtain ⟨vs,hvs⟩:=jb1 (fun y hy=>h y (by simp [hy])) h2
   exact ⟨v :: vs,by rw [jn,hv,hvs]⟩
theorem Vw {α:Type} {ty:Nat → Option TI} {enc:α → List DC} {e:Nat} {te:TI} {c:DC} (hte:ty e=some te) (h:∀ l,c = .sl l → ∀ x ∈ l,WfL ty te.cts x → ∃ v,x=enc v) (hw:WfC ty (.sl e) c):∃ vs:List α,c = .sl (vs.map enc):=by
 cases hw with
 | sl e te' l h1 h2 h3 =>
  rw [hte] at h1
  obtain rfl:=Option.some.inj h1
  obtain ⟨vs,hvs⟩:=jb1 (h l rfl) h3
  exact ⟨vs,by rw [hvs]⟩
 | nil=>exact ⟨[],rfl⟩
theorem j4y {ty:Nat → Option TI} {k:IntKind} {c:DC} (h:WfC ty (.i k) c):∃ n,c = .i n ∧ k.min ≤ n ∧ n ≤ k.max:=by
 cases h with
 | i k n h1 h2=>exact ⟨n,rfl,h1,h2⟩
theorem j8w {ty:Nat → Option TI} {c:DC} (h:WfC ty .b c):∃ n,c = .b n:=by cases h; exact ⟨_,rfl⟩
theorem zQ {ty:Nat → Option TI} {c:DC} (h:WfC ty .s c):∃ n,c = .s n:=by cases h; exact ⟨_,rfl⟩
theorem j3x {ty:Nat → Option TI} {x:List DC} (h:WfL ty [.s] x):∃ n,x=S1 n:=by
 cases h with
 | cons t ts x xs h1 h2 =>
  cases h2
  obtain ⟨n,rfl⟩:=zQ h1
  exact ⟨n,rfl⟩
theorem jF {ty:Nat → Option TI} {t:CT} {ts:List CT} {x:List DC} (h:WfL ty (t :: ts) x):∃ c xs,x=c :: xs ∧ WfC ty t c ∧ WfL ty ts xs:=by
 cases h with
 | cons t ts x xs h1 h2=>exact ⟨x,xs,rfl,h1,h2⟩
theorem Jh {ty:Nat → Option TI} {x:List DC} (h:WfL ty [] x):x=[]:=by cases h; rfl
theorem j5r {l:List (List DC)} {x:List DC} (h:x ∈ l):SizeOf.sizeOf x < SizeOf.sizeOf (DC.sl l):=by
 have:=List.sizeOf_lt_of_mem h
 simp only [DC.sl.sizeOf_spec]
 omega
theorem tyS:cfg.ty 9=some ⟨.str,[.s],16,[],false⟩:=by kernel_rfl
theorem j0z:cfg.ty 122=some ⟨.struct,[.i .i64,.s,.sl 122,.sl 9],72,[(0,1,false),(1,1,false),(2,1,false),(3,1,false)],false⟩:=by kernel_rfl
theorem ZG {x:List DC} (h0:WfL cfg.ty [.i .i64,.s,.sl 122,.sl 9] x):∃ v:TValue,x=TValue.enc v:=by
 have h:=h0
 obtain ⟨c0,r0,e0,w0,h⟩:=jF h
 obtain ⟨n0,rfl,_,_⟩:=j4y w0
 obtain ⟨c1,r1,e1,w1,h⟩:=jF h
 obtain ⟨n1,rfl⟩:=zQ w1
 obtain ⟨c2,r2,e2,w2,h⟩:=jF h
 have hrec2:∀ l,c2 = .sl l → ∀ y ∈ l,WfL cfg.ty [.i .i64,.s,.sl 122,.sl 9] y → ∃ v:TValue,y=TValue.enc v:=fun l hl y hy hw=>by
  have hlt:SizeOf.sizeOf y < SizeOf.sizeOf x:=by
   have:=j5r hy
   rw [← hl] at this
   subst e0 e1 e2
   simp only [List.cons.sizeOf_spec]
   omega
  exact ZG hw
 obtain ⟨n2,rfl⟩:=Vw (enc:=TValue.enc) j0z hrec2 w2
 obtain ⟨c3,r3,e3,w3,h⟩:=jF h
 obtain ⟨n3,rfl⟩:=Vw (enc:=S1) tyS (fun l _ y hy hw=>j3x hw) w3
 have hn:=Jh h
 refine ⟨⟨n0,n1,n2,n3⟩,?_⟩
 rw [TValue.enc_eq]
 subst hn
 simp only [e0,e1,e2,e3]
termination_by SizeOf.sizeOf x
theorem j9N:cfg.ty 168=some ⟨.struct,[.s,.i .i64,.s,.sl 122,.sl 9],88,[(0,1,false),(1,4,true)],false⟩:=by kernel_rfl
theorem j9q {x:List DC} (h0:WfL cfg.ty [.s,.i .i64,.s,.sl 122,.sl 9] x):∃ v:TArg,x=TArg.enc v:=by
 have h:=h0
 obtain ⟨c0,r0,e0,w0,h⟩:=jF h
 obtain ⟨n0,rfl⟩:=zQ w0
 obtain ⟨c1,r1,e1,w1,h⟩:=jF h
 obtain ⟨n1,rfl,_,_⟩:=j4y w1
 obtain ⟨c2,r2,e2,w2,h⟩:=jF h
 obtain ⟨n2,rfl⟩:=zQ w2
 obtain ⟨c3,r3,e3,w3,h⟩:=jF h
 obtain ⟨n3,rfl⟩:=Vw (enc:=TValue.enc) j0z (fun l _ y hy hw=>ZG hw) w3
 obtain ⟨c4,r4,e4,w4,h⟩:=jF h
 obtain ⟨n4,rfl⟩:=Vw (enc:=S1) tyS (fun l _ y hy hw=>j3x hw) w4
 have hn:=Jh h
 refine ⟨⟨n0,⟨n1,n2,n3,n4⟩⟩,?_⟩
 rw [TArg.enc_eq]
 subst hn
 simp only [e0,e1,e2,e3,e4]
theorem j2W:cfg.ty 133=some ⟨.struct,[.s,.sl 168],40,[(0,1,false),(1,1,false)],false⟩:=by kernel_rfl
theorem j0t {x:List DC} (h0:WfL cfg.ty [.s,.sl 168] x):∃ v:TDir,x=TDir.enc v:=by
 have h:=h0
 obtain ⟨c0,r0,e0,w0,h⟩:=jF h
 obtain ⟨n0,rfl⟩:=zQ w0
 obtain ⟨c1,r1,e1,w1,h⟩:=jF h
 obtain ⟨n1,rfl⟩:=Vw (enc:=TArg.enc) j9N (fun l _ y hy hw=>j9q hw) w1
 have hn:=Jh h
 refine ⟨⟨n0,n1⟩,?_⟩
 rw [TDir.enc_eq]
 subst hn
 simp only [e0,e1]
theorem j3L:cfg.ty 124=some ⟨.struct,[.s,.s,.s,.s,.b,.i .i64,.s,.sl 122,.sl 9,.sl 133],168,[(0,1,false),(1,1,false),(2,2,true),(4,1,false),(5,4,true),(9,1,false)],false⟩:=by kernel_rfl
theorem j2G {x:List DC} (h0:WfL cfg.ty [.s,.s,.s,.s,.b,.i .i64,.s,.sl 122,.sl 9,.sl 133] x):∃ v:TInDef,x=TInDef.enc v:=by
 have h:=h0
 obtain ⟨c0,r0,e0,w0,h⟩:=jF h
 obtain ⟨n0,rfl⟩:=zQ w0
 obtain ⟨c1,r1,e1,w1,h⟩:=jF h
 obtain ⟨n1,rfl⟩:=zQ w1
 obtain ⟨c2,r2,e2,w2,h⟩:=jF h
 obtain ⟨n2,rfl⟩:=zQ w2
 obtain ⟨c3,r3,e3,w3,h⟩:=jF h
 obtain ⟨n3,rfl⟩:=zQ w3
 obtain ⟨c4,r4,e4,w4,h⟩:=jF h
 obtain ⟨n4,rfl⟩:=j8w w4
 obtain ⟨c5,r5,e5,w5,h⟩:=jF h
 obtain ⟨n5,rfl,_,_⟩:=j4y w5
 obtain ⟨c6,r6,e6,w6,h⟩:=jF h
 obtain ⟨n6,rfl⟩:=zQ w6
 obtain ⟨c7,r7,e7,w7,h⟩:=jF h
 obtain ⟨n7,rfl⟩:=Vw (enc:=TValue.enc) j0z (fun l _ y hy hw=>ZG hw) w7
 obtain ⟨c8,r8,e8,w8,h⟩:=jF h
 obtain ⟨n8,rfl⟩:=Vw (enc:=S1) tyS (fun l _ y hy hw=>j3x hw) w8
 obtain ⟨c9,r9,e9,w9,h⟩:=jF h
 obtain ⟨n9,rfl⟩:=Vw (enc:=TDir.enc) j2W (fun l _ y hy hw=>j0t hw) w9
 have hn:=Jh h
 refine ⟨⟨n0,n1,⟨n2,n3⟩,n4,⟨n5,n6,n7,n8⟩,n9⟩,?_⟩
 rw [TInDef.enc_eq]
 subst hn
 simp only [e0,e1,e2,e3,e4,e5,e6,e7,e8,e9]
theorem j3M:cfg.ty 118=some ⟨.struct,[.s,.s,.sl 124,.s,.s,.sl 133],112,[(0,1,false),(1,1,false),(2,1,false),(3,2,true),(5,1,false)],false⟩:=by kernel_rfl
theorem j3y {x:List DC} (h0:WfL cfg.ty [.s,.s,.sl 124,.s,.s,.sl 133] x):∃ v:TFieldDef,x=TFieldDef.enc v:=by
 have h:=h0
 obtain ⟨c0,r0,e0,w0,h⟩:=jF h
 obtain ⟨n0,rfl⟩:=zQ w0
 obtain ⟨c1,r1,e1,w1,h⟩:=jF h
 obtain ⟨n1,rfl⟩:=zQ w1
 obtain ⟨c2,r2,e2,w2,h⟩:=jF h
 obtain ⟨n2,rfl⟩:=Vw (enc:=TInDef.enc) j3L (fun l _ y hy hw=>j2G hw) w2
 obtain ⟨c3,r3,e3,w3,h⟩:=jF h
 obtain ⟨n3,rfl⟩:=zQ w3
 obtain ⟨c4,r4,e4,w4,h⟩:=jF h
 obtain ⟨n4,rfl⟩:=zQ w4
 obtain ⟨c5,r5,e5,w5,h⟩:=jF h
 obtain ⟨n5,rfl⟩:=Vw (enc:=TDir.enc) j2W (fun l _ y hy hw=>j0t hw) w5
 have hn:=Jh h
 refine ⟨⟨n0,n1,n2,⟨n3,n4⟩,n5⟩,?_⟩
 rw [TFieldDef.enc_eq]
 subst hn
 simp only [e0,e1,e2,e3,e4,e5]
theorem j4N:cfg.ty 127=some ⟨.struct,[.s,.s,.sl 133],56,[(0,1,false),(1,1,false),(2,1,false)],false⟩:=by kernel_rfl
theorem j4z {x:List DC} (h0:WfL cfg.ty [.s,.s,.sl 133] x):∃ v:TEnumDef,x=TEnumDef.enc v:=by
 have h:=h0
 obtain ⟨c0,r0,e0,w0,h⟩:=jF h
 obtain ⟨n0,rfl⟩:=zQ w0
 obtain ⟨c1,r1,e1,w1,h⟩:=jF h
 obtain ⟨n1,rfl⟩:=zQ w1
 obtain ⟨c2,r2,e2,w2,h⟩:=jF h
 obtain ⟨n2,rfl⟩:=Vw (enc:=TDir.enc) j2W (fun l _ y hy hw=>j0t hw) w2
 have hn:=Jh h
 refine ⟨⟨n0,n1,n2⟩,?_⟩
 rw [TEnumDef.enc_eq]
 subst hn
 simp only [e0,e1,e2]
theorem j8O:cfg.ty 129=some ⟨.struct,[.i .i64,.s],24,[(0,1,false),(1,1,false)],false⟩:=by kernel_rfl
theorem j8x {x:List DC} (h0:WfL cfg.ty [.i .i64,.s] x):∃ v:TRoot,x=TRoot.enc v:=by
 have h:=h0
 obtain ⟨c0,r0,e0,w0,h⟩:=jF h
 obtain ⟨n0,rfl,_,_⟩:=j4y w0
 obtain ⟨c1,r1,e1,w1,h⟩:=jF h
 obtain ⟨n1,rfl⟩:=zQ w1
 have hn:=Jh h
 refine ⟨⟨n0,n1⟩,?_⟩
 rw [TRoot.enc_eq]
 subst hn
 simp only [e0,e1]
theorem j9M:cfg.ty 44=some ⟨.struct,[.i .i64,.b,.s,.s,.sl 9,.sl 118,.sl 124,.sl 127,.sl 129,.b,.sl 133],200,[(0,1,false),(1,1,false),(2,1,false),(3,1,false),(4,1,false),(5,1,false),(6,1,false),(7,1,false),(8,1,false),(9,1,false),(10,1,false)],false⟩:=by kernel_rfl
theorem j9p {x:List DC} (h0:WfL cfg.ty [.i .i64,.b,.s,.s,.sl 9,.sl 118,.sl 124,.sl 127,.sl 129,.b,.sl 133] x):∃ v:TDef,x=TDef.enc v:=by
 have h:=h0
 obtain ⟨c0,r0,e0,w0,h⟩:=jF h
 obtain ⟨n0,rfl,_,_⟩:=j4y w0
 obtain ⟨c1,r1,e1,w1,h⟩:=jF h
 obtain ⟨n1,rfl⟩:=j8w w1
 obtain ⟨c2,r2,e2,w2,h⟩:=jF h
 obtain ⟨n2,rfl⟩:=zQ w2
 obtain ⟨c3,r3,e3,w3,h⟩:=jF h
 obtain ⟨n3,rfl⟩:=zQ w3
 obtain ⟨c4,r4,e4,w4,h⟩:=jF h
 obtain ⟨n4,rfl⟩:=Vw (enc:=S1) tyS (fun l _ y hy hw=>j3x hw) w4
 obtain ⟨c5,r5,e5,w5,h⟩:=jF h
 obtain ⟨n5,rfl⟩:=Vw (enc:=TFieldDef.enc) j3M (fun l _ y hy hw=>j3y hw) w5
 obtain ⟨c6,r6,e6,w6,h⟩:=jF h
 obtain ⟨n6,rfl⟩:=Vw (enc:=TInDef.enc) j3L (fun l _ y hy hw=>j2G hw) w6
 obtain ⟨c7,r7,e7,w7,h⟩:=jF h
 obtain ⟨n7,rfl⟩:=Vw (enc:=TEnumDef.enc) j4N (fun l _ y hy hw=>j4z hw) w7
 obtain ⟨c8,r8,e8,w8,h⟩:=jF h
 obtain ⟨n8,rfl⟩:=Vw (enc:=TRoot.enc) j8O (fun l _ y hy hw=>j8x hw) w8
 obtain ⟨c9,r9,e9,w9,h⟩:=jF h
 obtain ⟨n9,rfl⟩:=j8w w9
 obtain ⟨c10,r10,e10,w10,h⟩:=jF h
 obtain ⟨n10,rfl⟩:=Vw (enc:=TDir.enc) j2W (fun l _ y hy hw=>j0t hw) w10
 have hn:=Jh h
 refine ⟨⟨n0,n1,n2,n3,n4,n5,n6,n7,n8,n9,n10⟩,?_⟩
 rw [TDef.enc_eq]
 subst hn
 simp only [e0,e1,e2,e3,e4,e5,e6,e7,e8,e9,e10]
theorem j8y {c:DC} (h:WfC cfg.ty (.sl 44) c):∃ vs:List TDef,c = .sl (vs.map TDef.enc):=Vw j9M (fun l _ y hy hw=>j9p hw) h
theorem j5G {ty:Nat → Option TI}:∀ {ts1 ts2:List CT} {x:List DC},WfL ty (ts1 ++ ts2) x → ∃ y z,x=y ++ z ∧ WfL ty ts1 y ∧ WfL ty ts2 z
 | [],ts2,x,h=>⟨[],x,rfl,.nil,h⟩
 | t :: ts1,ts2,x,h=>by
  obtain ⟨c,xs,rfl,h1,h2⟩:=jF h
  obtain ⟨y,z,rfl,h3,h4⟩:=j5G h2
  exact ⟨c :: y,z,rfl,.cons _ _ _ _ h1 h3,h4⟩
theorem Xn (d:List DC) (hd:WfL cfg.ty [.sl 44] d):zK d = .ret [.b true]:=by
 obtain ⟨y0,z0,e0,w0,hd⟩:=j5G (ts1:=[.sl 44]) (ts2:=[]) hd
 have hz:=Jh hd
 obtain ⟨c0,q0,f0,v0,u0⟩:=jF w0
 have x0:=Jh u0
 have k0:=j6V v0
 obtain ⟨a0,g0⟩:=j8y v0
 subst g0 x0 f0
 subst hz
 subst e0
 rw [Qz]
 simp only [J1,List.cons_append,ju,jC,List.getD_cons_zero,List.getD_cons_succ,DC.bb_b,DC.ii_i,DC.ss_s,DC.ll_sl]
 rw [j8U a0 k0 (1048576) (by omega) (by omega)]
 simp only [Out.bindR_ret,List.getD_cons_zero,List.getD_cons_succ,DC.bb_b,DC.ii_i,DC.ss_s,DC.ll_sl]
 by_cases s0:(1048576:Int) < ((DC.wt (.sl (a0.map TDef.enc)):Nat):Int)
 ·rw [jI s0]
  rfl
 rw [kj s0]
 have s0':¬ (1048576:Int) - ((DC.wt (.sl (a0.map TDef.enc)):Nat):Int) < 0:=by omega
 simp only [s0',decide_false,Bool.false_eq_true,if_false]
 have W0:DC.wt (.sl (a0.map TDef.enc)) ≤ 1048576:=by omega
 have l0:a0.length ≤ 1048576:=by rw [DC.wt,List.length_map] at W0; omega
 have hs:=j1F a0 W0
 have hi:=j1L a0 W0
 have wt0:=Nat.le_trans (j6Z a0) W0
 have wd0:=Nat.le_trans (j9o a0) W0
 have wr0:=j7E a0 (yi a0) W0
 obtain ⟨x0,k0,M0,p0,q0,_⟩:=j3n a0 1 (by omega) (by omega)
 obtain ⟨z0,z1,z2,k1,M1,p1,H1⟩:=j5p (yi a0) (YS a0) (QP a0 (yi a0)) wt0 wd0 wr0
 have n0:¬ k0 < 0:=by omega
 have n1:¬ k1 < 0:=by omega
 simp only [j8Q a0 W0,j3v a0 W0,hs,hi,jC,List.getD_cons_zero,List.getD_cons_succ,DC.bb_b,DC.ii_i,DC.ss_s,DC.ll_sl,Out.bindR_ret,bne_self_eq_false,beq_self_eq_true,jx,Bool.false_eq_true,if_false,j5C _ _ _ wt0 wd0 wr0,M0.at,M1,j2v,jl,jk,if_true,n0,n1,decide_false,H1,jy]
end Go.Proofs.QV
