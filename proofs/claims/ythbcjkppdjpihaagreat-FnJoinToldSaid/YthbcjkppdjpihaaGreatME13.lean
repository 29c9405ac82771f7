import Derived.Test.YthbcjkppdjpihaaGreatME12
import Derived.Test.YthbcjkppdjpihaaGreatME6
/- Definitions sorted by their names: both implementations answer the model. -/
namespace Go.Proofs.QV
open Go
open _root_.List renaming mem_map_of_mem → jt, getElem_mem → jo, flatMap_cons → jh, length_append → js, length_cons → jd, map_cons → jc, length_nil → je
open _root_.Int renaming toNat_natCast → jl
open Out renaming andThenB → j9, andThen → ja
set_option linter.unusedVariables false
set_option linter.unusedSimpArgs false
set_option maxRecDepth 100000
def j8J (l:List TDef):List TDef:=l.mergeSort fun x y=>decide (x.name ≤ y.name)
instance:Inhabited TDef:=⟨⟨0,false,[],[],[],[],[],[],[],false,[]⟩⟩
theorem j7y (l:List TDef):(j8J l).length=l.length:=List.length_mergeSort l
theorem j7w (l:List TDef):j4h 3 (l.map TDef.enc)=(j8J l).map TDef.enc:=by
 unfold j4h j8J
 refine (List.map_mergeSort fun x _ y _=>?_).symm
 simp only [nmD,TDef.enc_eq,List.getD_cons_zero,List.getD_cons_succ,DC.ss_s]
theorem Y3 (vs:List TDef) (hw:DC.wt (.sl (vs.map TDef.enc)) ≤ 1048576):zq [.sl (vs.map TDef.enc)] = .ret [.sl (vs.map TDef.enc)]:=by
 have hl:vs.length ≤ 1048576:=by rw [DC.wt,List.length_map] at hw; omega
 rw [YL]
 simp only [KH,List.getD_cons_zero,DC.ll_sl]
 rw [j3c (F:=pY) (fun j hi=>?step) ?fin]
 ·rfl
 case step =>
  have hwj:kw (TDef.enc vs[j]) ≤ 1048576:=by have:=ki (jt (f:=TDef.enc) (jo hi)); rw [DC.wt] at hw; omega
  have q0:=pD vs[j] hwj
  have hc1:(j:Int) < (vs.length:Int):=by omega
  have hL:j + 1 < jN:=qR (by omega)
  have hm:min j vs.length=j:=by omega
  simp only [pY,List.getD_cons_zero,List.getD_cons_succ,DC.bb_b,DC.ii_i,DC.ss_s,DC.ll_sl,jl,List.length_map,jE hi,TDef.enc_eq vs[j]]
  rw [TDef.enc_eq vs[j]] at q0
  simp only [q0,Out.bindR_ret,List.length_take,hm,List.getD_cons_zero,List.getD_cons_succ,DC.bb_b,DC.ii_i,DC.ss_s,DC.ll_sl]
  simp [hi,hc1,hL,j9,jJ hi (show vs.length ≤ 9223372036854775807 by omega),TDef.enc_eq vs[j],jE hi]
 case fin=>simp [pY]
theorem j2i (l:List TDef) (hw:DC.wt (.sl (l.map TDef.enc)) ≤ 1048576):zZ [.sl (l.map TDef.enc)] = .ret [.sl ((j8J l).map TDef.enc)]:=by
 have hl:l.length ≤ 1048576:=by rw [DC.wt,List.length_map] at hw; omega
 have hL:l.length < jN:=by unfold jN; omega
 rw [Zz]
 simp only [Qv,List.getD_cons_zero,DC.ll_sl,Y3 l hw,Out.bindR_ret,List.length_map,hL,if_true,j7w]
def j06 (x:TItem):List TDef:=if x.kind=3 then [x.def'] else []
def j1z (x:TItem):List TProblem:=if x.kind=3 then [] else if x.kind=2 then [⟨1,x.frag.name,[]⟩] else [⟨1,x.op.name,[]⟩]
def yB (l:List TItem):List TDef:=l.flatMap j06
def Q5 (l:List TItem):List TProblem:=l.flatMap j1z
theorem j37 {α β:Type} {f:α → List β} {l:List α} {j:Nat} (h:j < l.length):(l.take (j + 1)).flatMap f=(l.take j).flatMap f ++ f l[j]:=by
 rw [List.take_succ_eq_append_getElem h,List.flatMap_append]
 simp
theorem Zo {α β:Type} {f:α → List β} (h:∀ x,(f x).length ≤ 1):∀ l:List α,(l.flatMap f).length ≤ l.length
 | []=>Nat.le_refl _
 | x :: l=>by
  have:=Zo h l
  have:=h x
  simp only [jh,js,jd]
  omega
theorem j6X (x:TItem):(j06 x).length ≤ 1:=by unfold j06; split <;> simp
theorem j6D (x:TItem):(j1z x).length ≤ 1:=by
 unfold j1z
 split
 ·simp
 ·split <;> simp
theorem j6f {β:Type} {f:TItem → List β} {e:β → List DC} (h:∀ x,DC.wt (.sl ((f x).map e)) ≤ 1 + kw (TItem.enc x)):∀ l:List TItem,DC.wt (.sl ((l.flatMap f).map e)) ≤ DC.wt (.sl (l.map TItem.enc))
 | []=>Nat.le_refl _
 | x :: l=>by
  have h1:=j6f h l
  have h2:=h x
  rw [jh,List.map_append,jc]
  simp only [DC.wt,js,List.length_map,jd,KX,wtV] at h1 h2 ⊢
  omega
theorem j97 (l:List TItem):DC.wt (.sl ((yB l).map TDef.enc)) ≤ DC.wt (.sl (l.map TItem.enc)):=j6f (fun x=>by
 rw [j2u]
 unfold j06
 split
 ·simp only [jc,List.map_nil,DC.wt,wtV,jd,je]
  omega
 ·simp [DC.wt,wtV]) l
theorem j89 {l:List TItem} (hw:DC.wt (.sl (l.map TItem.enc)) ≤ 1048576) {j:Nat} (h:j < l.length):kw (TDef.enc l[j].def') ≤ 1048576:=by
 have h1:kw (TItem.enc l[j]) ≤ wtV (l.map TItem.enc):=ki (jt (f:=TItem.enc) (jo h))
 rw [DC.wt] at hw
 have h2:kw (TItem.enc (l[j]'h)) ≤ 1048576:=Nat.le_trans h1 (Nat.le_trans (Nat.le_add_left _ _) hw)
 rw [j2u] at h2
 exact Nat.le_trans (Nat.le_add_left _ _) h2
theorem j4C (l:List TItem) (hw:DC.wt (.sl (l.map TItem.enc)) ≤ 1048576):Kn [.sl (l.map TItem.enc)] = .ret [.sl ((yB l).map TDef.enc),.sl ((Q5 l).map TProblem.enc)]:=by
 have hl:l.length ≤ 1048576:=by rw [DC.wt,List.length_map] at hw; omega
 rw [j1V]
 simp only [Xs,List.getD_cons_zero,DC.ll_sl]
 have key:=pE (F:=qh) (st:=fun i=>[.sl ((yB (l.take i)).map TDef.enc),.sl ((Q5 (l.take i)).map TProblem.enc),.sl (l.map TItem.enc),.i ((l.map TItem.enc).length:Int),.i (i:Int)]) (o:=.ex 0 [.sl ((yB l).map TDef.enc),.sl ((Q5 l).map TProblem.enc)]) l.length 0 (fun j _ hj=>?step) ?fin
 ·have key':jO qh [.sl [],.sl [],.sl (l.map TItem.enc),.i ((l.map TItem.enc).length:Int),.i 0] = .ex 0 [.sl ((yB l).map TDef.enc),.sl ((Q5 l).map TProblem.enc)]:=key
  rw [key']
  simp [j9]
 case step =>
  have hi:j < l.length:=by omega
  have hc1:(j:Int) < (l.length:Int):=by omega
  have hv:=pD l[j].def' (j89 hw hi)
  rw [TDef.enc_eq l[j].def'] at hv
  have n1:=Zo j6X (l.take j)
  have n2:=Zo j6D (l.take j)
  rw [List.length_take] at n1 n2
  have m1:(yB (l.take j)).length + 1 < jN:=by unfold jN yB; omega
  have m2:(Q5 (l.take j)).length + 1 < jN:=by unfold jN Q5; omega
  rw [show yB (l.take (j + 1))=yB (l.take j) ++ j06 l[j] from j37 hi,show Q5 (l.take (j + 1))=Q5 (l.take j) ++ j1z l[j] from j37 hi]
  simp only [qh,List.getD_cons_zero,List.getD_cons_succ,DC.bb_b,DC.ii_i,DC.ss_s,DC.ll_sl,jl,List.length_map,jE hi,TItem.enc_eq l[j],hv,Out.bindR_ret]
  by_cases k3:l[j].kind=3
  ·simp [hi,hc1,m1,m2,k3,j06,j1z,j9,ja,jJ hi (show l.length ≤ 9223372036854775807 by omega),TDef.enc_eq l[j].def']
  ·by_cases k2:l[j].kind=2
   ·simp [hi,hc1,m1,m2,k3,k2,j06,j1z,j9,ja,jJ hi (show l.length ≤ 9223372036854775807 by omega),TProblem.enc_eq]
   ·simp [hi,hc1,m1,m2,k3,k2,j06,j1z,j9,ja,jJ hi (show l.length ≤ 9223372036854775807 by omega),TProblem.enc_eq]
 case fin =>
  refine kD ?_
  rw [Nat.zero_add,List.take_length]
  simp [qh]
theorem j7d {ty:Nat → Option TI} {t:CT} {ts:List CT} {x:List DC} (h:WfL ty (t :: ts) x):∃ c xs,x=c :: xs ∧ WfC ty t c ∧ WfL ty ts xs:=by
 cases h with
 | cons t ts x xs h1 h2=>exact ⟨x,xs,rfl,h1,h2⟩
theorem j8A {ty:Nat → Option TI} {x:List DC} (h:WfL ty [] x):x=[]:=by cases h; rfl
def pcA:List (List UInt8):=[[105,110,116,101,114,102,97,99,101,32,78,111,100,101,32,123,10,32,32,105,100,58,32,73,68,33,10,125,10],[105,110,116,101,114,102,97,99,101,32,78,97,109,101,100,32,105,109,112,108,101,109,101,110,116,115,32,78,111,100,101,32,123,10,32,32,105,100,58,32,73,68,33,10,32,32,110,97,109,101,58,32,83,116,114,105,110,103,10,125,10],[116,121,112,101,32,85,115,101,114,32,105,109,112,108,101,109,101,110,116,115,32,78,97,109,101,100,32,38,32,78,111,100,101,32,123,10,32,32,105,100,58,32,73,68,33,10,32,32,110,97,109,101,58,32,83,116,114,105,110,103,10,32,32,112,111,115,116,115,40,102,105,114,115,116,58,32,73,110,116,32,61,32,49,48,44,32,97,102,116,101,114,58,32,73,68,41,58,32,91,80,111,115,116,33,93,33,10,32,32,99,111,108,111,114,58,32,67,111,108,111,114,32,64,100,101,112,114,101,99,97,116,101,100,10,32,32,102,114,105,101,110,100,58,32,85,115,101,114,10,125,10],[116,121,112,101,32,80,111,115,116,32,105,109,112,108,101,109,101,110,116,115,32,78,111,100,101,32,123,10,32,32,105,100,58,32,73,68,33,10,32,32,116,105,116,108,101,58,32,83,116,114,105,110,103,33,10,32,32,97,117,116,104,111,114,58,32,85,115,101,114,10,32,32,97,110,121,58,32,91,65,110,121,93,10,125,10],[117,110,105,111,110,32,65,110,121,32,61,32,80,111,115,116,32,124,32,85,115,101,114,10],[101,110,117,109,32,67,111,108,111,114,32,123,10,32,32,66,76,85,69,10,32,32,82,69,68,10,125,10],[105,110,112,117,116,32,70,105,110,100,32,123,10,32,32,116,101,120,116,58,32,83,116,114,105,110,103,33,10,32,32,115,105,122,101,58,32,73,110,116,32,61,32,53,10,32,32,99,111,108,111,114,115,58,32,91,67,111,108,111,114,33,93,10,32,32,109,111,114,101,58,32,70,105,110,100,10,125,10],[115,99,97,108,97,114,32,68,97,116,101,10],[100,105,114,101,99,116,105,118,101,32,64,111,110,99,101,40,107,101,121,58,32,83,116,114,105,110,103,44,32,100,101,101,112,58,32,73,110,116,33,32,61,32,49,41,32,111,110,32,70,73,69,76,68,32,124,32,81,85,69,82,89,10],[100,105,114,101,99,116,105,118,101,32,64,109,97,110,121,32,114,101,112,101,97,116,97,98,108,101,32,111,110,32,70,73,69,76,68,10],[116,121,112,101,32,81,117,101,114,121,32,123,10,32,32,110,111,100,101,40,105,100,58,32,73,68,33,41,58,32,78,111,100,101,10,32,32,117,115,101,114,40,105,100,58,32,73,68,41,58,32,85,115,101,114,10,32,32,102,105,110,100,40,98,121,58,32,70,105,110,100,33,44,32,111,110,58,32,68,97,116,101,41,58,32,91,65,110,121,33,93,10,32,32,99,111,108,111,114,115,58,32,91,67,111,108,111,114,93,10,32,32,110,97,109,101,100,58,32,78,97,109,101,100,10,125,10],[116,121,112,101,32,77,117,116,97,116,105,111,110,32,123,10,32,32,114,101,110,97,109,101,40,105,100,58,32,73,68,33,44,32,110,97,109,101,58,32,83,116,114,105,110,103,41,58,32,85,115,101,114,10,125,10]]
def pcB:List (List UInt8):=[[101,120,116,101,110,100,32,116,121,112,101,32,85,115,101,114,32,123,10,32,32,109,111,114,101,58,32,73,110,116,10,125,10],[101,120,116,101,110,100,32,101,110,117,109,32,67,111,108,111,114,32,123,10,32,32,71,82,69,69,78,10,125,10],[101,120,116,101,110,100,32,105,110,112,117,116,32,70,105,110,100,32,123,10,32,32,100,101,101,112,58,32,66,111,111,108,101,97,110,32,61,32,116,114,117,101,10,125,10]]
theorem jak:zj [] = .ret [.sl (pcA.map S1)]:=by
 rw [YD]
 rfl
theorem j9I:pcA.map S1 ++ [[DC.s ([101,120,116,101,110,100,32,116,121,112,101,32,85,115,101,114,32,123,10,32,32,109,111,114,101,58,32,73,110,116,10,125,10]:List UInt8)],[DC.s ([101,120,116,101,110,100,32,101,110,117,109,32,67,111,108,111,114,32,123,10,32,32,71,82,69,69,78,10,125,10]:List UInt8)],[DC.s ([101,120,116,101,110,100,32,105,110,112,117,116,32,70,105,110,100,32,123,10,32,32,100,101,101,112,58,32,66,111,111,108,101,97,110,32,61,32,116,114,117,101,10,125,10]:List UInt8)]]=(pcA ++ pcB).map S1:=rfl
theorem j7N:∀ x ∈ pcA ++ pcB,x.length ≤ 1000:=by decide
theorem j9H:j5K (pcA ++ pcB)=txA:=by kernel_rfl
theorem j6V (b:List (List DC)) (hb:b.length ≤ 1048576):∃ t,yM [.sl b] = .ret [.s txA,.s t]:=by
 obtain ⟨h0,e0⟩:=j8j b hb
 have c0:Cu b 0:=⟨hb,by omega,by omega⟩
 have hL:0 < jN:=by decide
 have h12:(pcA.map S1).length=12:=rfl
 have hl:(pcA ++ pcB).length=15:=rfl
 have e1:=j9G (pcA ++ pcB) (b2:=[]) (cb:=b) (ci:=0) (ch:=h0) (by rw [hl]; decide) j7N 15 0 [] (by rw [hl]; decide) (by decide) (by decide)
 have e1':jO kp [.sl ((pcA ++ pcB).map S1),.s ([]:List UInt8),.s ([]:List UInt8),.i (0:Int),.sl b,.i 0,.i h0] = .ex 0 [.sl ((pcA ++ pcB).map S1),.s (j5K (pcA ++ pcB)),.s [],.sl b,.i 0,.i h0]:=e1
 rw [j9H] at e1'
 obtain ⟨t,e2⟩:=j9F (a:=txA) 15 (pcA ++ pcB) [] 0 h0 (by rw [hl]; decide) (by rw [hl]; decide) j7N (by rw [hl]; decide) c0
 rw [XV]
 simp only [K8,List.getD_cons_zero,List.getD_cons_succ,DC.bb_b,DC.ii_i,DC.ss_s,DC.ll_sl,jak,Out.bindR_ret]
 rw [j9I,h12,if_pos (by decide)]
 simp only [e0,bsz,hL,if_true,X0,List.getD_cons_zero,List.getD_cons_succ,DC.bb_b,DC.ii_i,DC.ss_s,DC.ll_sl,e1',j9,e2]
 exact ⟨t,rfl⟩
theorem ja2 (l:List (List DC)):XJ [.sl l] = .ret [.b (decide ((l.length:Int) > (1048576:Int)))]:=by
 rw [j4F]
 simp only [j2b,List.getD_cons_zero,DC.ll_sl]
theorem j87:DC.wt (.sl (Zm.map TItem.enc)) ≤ 1048576:=Nat.le_of_ble_eq_true (by kernel_rfl)
theorem j88:Q5 Zm=[]:=by kernel_rfl
theorem j8T:(Kv (yB Zm)).2=[⟨2,[68,97,116,101],[]⟩,⟨3,[78,111,112,101],[]⟩,⟨4,[85,115,101,114],[]⟩]:=by kernel_rfl
theorem j8C:txA.length=873:=by kernel_rfl
theorem j1K (d:List DC) (hd:WfL cfg.ty [.sl 5] d):JT d = .ret [.b true]:=by
 obtain ⟨c0,q0,rfl,v0,u0⟩:=j7d hd
 have x0:=j8A u0
 subst x0
 obtain ⟨l,rfl⟩:∃ l,c0 = .sl l:=by cases v0 <;> exact ⟨_,rfl⟩
 rw [XY]
 simp only [Kb,List.getD_cons_zero,List.getD_cons_succ,DC.bb_b,DC.ii_i,DC.ss_s,DC.ll_sl,ja2,Out.bindR_ret]
 by_cases hb:(l.length:Int) > 1048576
 ·simp only [hb,decide_true,if_true]
 simp only [hb,decide_false,Bool.false_eq_true,if_false]
 obtain ⟨t,e2⟩:=j6V l (by omega)
 obtain ⟨e,e7,w7⟩:=j91 l (by omega)
 have hx:txA ++ ([101,120,116,101,110,100,32,116,121,112,101,32,78,111,112,101,32,123,10,32,32,97,58,32,73,110,116,10,125,10,115,99,97,108,97,114,32,68,97,116,101,10,101,120,116,101,110,100,32,101,110,117,109,32,85,115,101,114,32,123,10,32,32,65,10,125,10]:List UInt8)=tx:=jac
 have hxl:txA.length + ([101,120,116,101,110,100,32,116,121,112,101,32,78,111,112,101,32,123,10,32,32,97,58,32,73,110,116,10,125,10,115,99,97,108,97,114,32,68,97,116,101,10,101,120,116,101,110,100,32,101,110,117,109,32,85,115,101,114,32,123,10,32,32,65,10,125,10]:List UInt8).length < jN:=by
  rw [j8C]
  decide
 have e4:=j4C Zm j87
 rw [j88] at e4
 have wD:=Nat.le_trans (j97 Zm) j87
 have e5:=j31 (yB Zm) wD
 have e6:=j2D (yB Zm) wD
 have wR:=j15 wD
 have e9:=j31 e (by omega)
 have e10:=j2D e (by omega)
 have wE:=j15 (l:=e) (by omega)
 unfold wB at wR wE
 have s1:=j6h (Kv (yB Zm)).1 (by omega)
 have s2:=j05 (Kv (yB Zm)).2 (Ks (j15 wD)).2.1
 have s3:=j6h (Kv e).1 (by omega)
 have s4:=j05 (Kv e).2 (Ks (j15 (l:=e) (by omega))).2.1
 have s5:=j2i (Kv (yB Zm)).1 (by omega)
 rw [j8T] at s2 e5 e6
 have hp:([⟨2,[68,97,116,101],[]⟩,⟨3,[78,111,112,101],[]⟩,⟨4,[85,115,101,114],[]⟩]:List TProblem).map TProblem.enc=[[DC.i (2:Int),DC.s ([68,97,116,101]:List UInt8),DC.s []],[DC.i (3:Int),DC.s ([78,111,112,101]:List UInt8),DC.s []],[DC.i (4:Int),DC.s ([85,115,101,114]:List UInt8),DC.s []]]:=rfl
 rw [hp] at s2 e5 e6
 simp only [e2,Out.bindR_ret,List.getD_cons_zero,List.getD_cons_succ,DC.bb_b,DC.ii_i,DC.ss_s,DC.ll_sl,hxl,if_true,hx,j7O,e4,e5,e6,e7,e9,e10,List.map_nil,je,s1,s2,s3,s4,s5,ja,List.length_map,j7y,beq_self_eq_true,Int.natCast_zero]
end Go.Proofs.QV
