import Derived.Test.YtcpolmhblhhikaaGreatMU9
import Derived.Test.YtcpolmhblhhikaaGreatMU6
import Derived.Test.YtcpolmhblhhikaaGreatMU7
/- One token; all of them (printed by c3.py). -/
namespace Go.Proofs.QV
open Go
open _root_.Int renaming toNat_natCast → jd
open Out renaming andThenB → j9, andThen → ja
open _root_.List renaming length_append → jj, cons_append → jh, length_cons → jb, length_nil → jf, append_nil → jv, eq_nil_of_length_eq_zero → jm, append_assoc → jD, map_cons → js, nil_append → jg, getElem_mem → ju, mem_append → jC, flatMap_cons → jn
open _root_.Bool renaming not_true → je, not_false → jc, and_eq_true → jk
open _root_.Option.some renaming injEq → j8
open _root_.Prod.mk renaming injEq → ji
open _root_.Nat renaming lt_or_ge → jA
set_option linter.unusedVariables false
set_option linter.unusedSimpArgs false
set_option maxRecDepth 100000
theorem j4J (x w:List UInt8):((x ++ w).take ((x.length + 3:Nat):Int).toNat).drop ((x.length:Nat):Int).toNat=w.take 3:=by
 rw [jd,jd,List.take_append,List.take_of_length_le (by omega),show x.length + 3 - x.length=3 by omega,List.drop_left]
theorem j5v {x:List UInt8} (h:x.length ≤ 100000):IntKind.i64.wrap (((x.length:Nat):Int) + 3)=((x.length + 3:Nat):Int):=by
 rw [IntKind.wrap_i64]
 omega
theorem jbM {c:UInt8} (h:fig c=true):ltr c=false:=by
 have:(!(ltr c && fig c))=true:=j4I (p:=fun c=>!(ltr c && fig c)) (by kernel_rfl) c
 rw [h] at this
 simpa using this
theorem jby {c:UInt8} (h:sgn c=true):ltr c=false ∧ fig c=false ∧ (c == 45)=false ∧ (c == 34)=false ∧ (c == 46)=false:=by
 have:(!sgn c || (!ltr c && !fig c && !(c == 45) && !(c == 34) && !(c == 46)))=true:=j4I (p:=fun c=>!sgn c || (!ltr c && !fig c && !(c == 45) && !(c == 34) && !(c == 46))) (by kernel_rfl) c
 rw [h] at this
 simpa [and_assoc] using this
theorem j9I {x y r:List UInt8} {c:UInt8} (hl:(x ++ (c :: y ++ r)).length ≤ 12000) (hc:ltr c=true) (hy:∀ d ∈ y,nmc d=true) (hr:∀ d v,r=d :: v → nmc d=false) (h30:(c :: y).length ≤ 30) :
  qx [.s (x ++ (c :: y ++ r)),.i ((x.length:Nat):Int)] = .ret [.i 2,.s (c :: y),.i ((x.length:Nat):Int),.i (((x ++ c :: y).length:Nat):Int),.i 0]:=by
 have h0:(0:Int) ≤ ((x.length:Nat):Int):=Int.natCast_nonneg _
 have h1:=V0 x (y ++ r) c
 have e:=j4h hr (c :: y) x hl (fun d hd=>by
  rcases List.mem_cons.1 hd with rfl | hd
  ·unfold nmc; rw [hc]; rfl
  ·exact hy d hd)
 have eN:KQ [.s (x ++ (c :: y ++ r)),.i ((x.length:Nat):Int)] = .ret [.i (((x ++ c :: y).length:Nat):Int)]:=by
  rw [j1i]
  simp only [qL,qI,qS,qB,XC,List.getD_cons_zero,List.getD_cons_succ,DC.bb_b,DC.ii_i,DC.ss_s,DC.ll_sl,e,j9,if_true]
 have q1:((x.length:Nat):Int) ≤ (((x ++ c :: y).length:Nat):Int):=by rw [jj]; omega
 have q2:(((x ++ c :: y).length:Nat):Int) ≤ ((x ++ (c :: y ++ r)).length:Int):=by simp only [jj]; omega
 have hg:=pP x (y ++ r) c
 rw [Je]
 rw [jh] at eN q2 ⊢
 simp only [qL,qI,qS,qB,zH,List.getD_cons_zero,List.getD_cons_succ,DC.bb_b,DC.ii_i,DC.ss_s,DC.ll_sl,h0,h1,and_self,if_true,hg,yp,hc,Out.bindR_ret,eN,q1,q2]
 rw [show c :: (y ++ r)=(c :: y) ++ r from rfl,j6K,jac c y h30 hc hy]
 simp only [Out.bindR_ret,List.getD_cons_zero,List.getD_cons_succ,DC.bb_b,DC.ii_i,DC.ss_s,DC.ll_sl,je,Bool.false_eq_true,if_false,j9]
theorem jaQ {x y r:List UInt8} {c:UInt8} (hl:(x ++ (c :: y ++ r)).length ≤ 12000) (hc:fig c=true) (hy:∀ d ∈ y,fig d=true) (hr:∀ d v,r=d :: v → nmc d=false ∧ (d == 46)=false ∧ (d == 43)=false ∧ (d == 45)=false) (hn:jaS (c :: y)=true) :
  qx [.s (x ++ (c :: y ++ r)),.i ((x.length:Nat):Int)] = .ret [.i 3,.s (c :: y),.i ((x.length:Nat):Int),.i (((x ++ c :: y).length:Nat):Int),.i 0]:=by
 have h0:(0:Int) ≤ ((x.length:Nat):Int):=Int.natCast_nonneg _
 have h1:=V0 x (y ++ r) c
 have hlx:x.length ≤ 100000:=by rw [jj] at hl; omega
 have hs:x ++ (c :: y ++ r)=x ++ [c] ++ (y ++ r):=by simp
 have e:=j62 hr y (x ++ [c]) (by rw [← hs]; exact hl) hy
 rw [← hs] at e
 have ha:x ++ [c] ++ y=x ++ c :: y:=by simp
 rw [ha] at e
 have eN:JB [.s (x ++ (c :: y ++ r)),.i ((x.length:Nat):Int)] = .ret [.i (((x ++ c :: y).length:Nat):Int)]:=by
  rw [ZJ]
  simp only [qL,qI,qS,qB,Vf,List.getD_cons_zero,List.getD_cons_succ,DC.bb_b,DC.ii_i,DC.ss_s,DC.ll_sl,ya hlx,Qa x c,e,j9,if_true]
 have q1:((x.length:Nat):Int) ≤ (((x ++ c :: y).length:Nat):Int):=by rw [jj]; omega
 have q2:(((x ++ c :: y).length:Nat):Int) ≤ ((x ++ (c :: y ++ r)).length:Int):=by simp only [jj]; omega
 have hg:=pP x (y ++ r) c
 have nl:=jbM hc
 rw [Je]
 rw [jh] at eN q2 ⊢
 simp only [qL,qI,qS,qB,zH,List.getD_cons_zero,List.getD_cons_succ,DC.bb_b,DC.ii_i,DC.ss_s,DC.ll_sl,h0,h1,and_self,if_true,hg,yp,nl,yq,hc,Out.bindR_ret,Bool.false_eq_true,if_false,ja,eN,q1,q2]
 rw [show c :: (y ++ r)=(c :: y) ++ r from rfl,j6K,jb5 _ hn]
 simp only [Out.bindR_ret,List.getD_cons_zero,List.getD_cons_succ,DC.bb_b,DC.ii_i,DC.ss_s,DC.ll_sl,if_true,j9]
theorem j9H {x r:List UInt8} {c:UInt8} (hl:(x ++ c :: r).length ≤ 12000) (hc:sgn c=true) :
  qx [.s (x ++ c :: r),.i ((x.length:Nat):Int)] = .ret [.i 1,.s [c],.i ((x.length:Nat):Int),.i (((x ++ [c]).length:Nat):Int),.i 0]:=by
 obtain ⟨n1,n2,n3,n4,n5⟩:=jby hc
 have h0:(0:Int) ≤ ((x.length:Nat):Int):=Int.natCast_nonneg _
 have h1:=V0 x r c
 have hlx:x.length ≤ 100000:=by rw [jj] at hl; omega
 have hg:=pP x r c
 have q1:((x.length:Nat):Int) ≤ (((x ++ [c]).length:Nat):Int):=by rw [jj]; omega
 have q2:(((x ++ [c]).length:Nat):Int) ≤ ((x ++ c :: r).length:Int):=by simp only [jj,jb,jf]; omega
 have hcut:((x ++ c :: r).take (((x ++ [c]).length:Nat):Int).toNat).drop ((x.length:Nat):Int).toNat=[c]:=j6K x [c] r
 have q3:((x.length:Nat):Int) ≤ ((x.length + 3:Nat):Int):=by omega
 have q46:((c :: r).take 3 == ([46,46,46]:List UInt8))=false:=by
  show (c :: r.take 2 == [46,46,46])=false
  have:¬ c=46:=by simpa using n5
  simp [this]
 rw [Je]
 simp only [qL,qI,qS,qB,zH,List.getD_cons_zero,List.getD_cons_succ,DC.bb_b,DC.ii_i,DC.ss_s,DC.ll_sl,h0,h1,and_self,if_true,hg,yp,n1,yq,n2,jaj,n3,jc0,n4,Out.bindR_ret,Bool.false_eq_true,if_false,ja,j9,j5v hlx,ya hlx,Qa x c]
 by_cases h3:((x.length + 3:Nat):Int) ≤ ((x ++ c :: r).length:Int)
 ·simp only [h3,decide_true,if_true,q3,and_self,h0,j4J,q46,List.getD_cons_zero,List.getD_cons_succ,DC.bb_b,DC.ii_i,DC.ss_s,DC.ll_sl,Bool.false_eq_true,if_false,q1,q2,hcut,j6u c hc,Out.bindR_ret,je]
 ·simp only [h3,decide_false,Bool.false_eq_true,if_false,List.getD_cons_zero,List.getD_cons_succ,DC.bb_b,DC.ii_i,DC.ss_s,DC.ll_sl,h0,q1,q2,and_self,if_true,hcut,j6u c hc,Out.bindR_ret,je]
theorem j6v {x w:List UInt8} {c:UInt8} (hc:c.toNat < 128):zp [.s (x ++ c :: w),.i ((x.length:Nat):Int)] = .ret [.i ((c.toNat:Nat):Int),.i 1]:=by
 have h0:(0:Int) ≤ ((x.length:Nat):Int):=Int.natCast_nonneg _
 have h1:=V0 x w c
 have n0:¬ ((x.length:Nat):Int) < 0:=by omega
 have n1:¬ ((x.length:Nat):Int) ≥ ((x ++ c :: w).length:Int):=by omega
 have hw:IntKind.i64.wrap ((c.toNat:Nat):Int)=((c.toNat:Nat):Int):=by rw [IntKind.wrap_i64]; omega
 have n2:((c.toNat:Nat):Int) < 128:=by omega
 have hg:=pP x w c
 rw [j21]
 simp only [qL,qI,qS,qB,Yr,List.getD_cons_zero,List.getD_cons_succ,DC.bb_b,DC.ii_i,DC.ss_s,DC.ll_sl,n0,n1,decide_false,Bool.false_eq_true,if_false,ja,h0,h1,and_self,if_true,hg,hw,n2,decide_true,j9]
theorem j40:∀ (w x:List UInt8),(x ++ w).length ≤ 12000 → (∀ c ∈ w,c.toNat < 128) → jy kP [.s (x ++ w),.sl [],.i ((x.length:Nat):Int),.i 0,.i 0] = .ex 0 [.s (x ++ w),.sl [],.i 0,.i 0]
 | [],x,hl,_=>jK (by simp only [qL,qI,qS,qB,kP,List.getD_cons_zero,List.getD_cons_succ,DC.bb_b,DC.ii_i,DC.ss_s,DC.ll_sl,jv,Int.lt_irrefl,decide_false,Bool.false_eq_true,if_false])
 | c :: w,x,hl,ha=>by
  have h1:=V0 x w c
  have hs:=QZ x c w
  have hlx:x.length ≤ 100000:=by rw [jj] at hl; omega
  have n0:¬ ((c.toNat:Nat):Int) < 0:=by omega
  have hn:jy kP [.s (x ++ c :: w),.sl [],.i ((x.length:Nat):Int),.i 0,.i 0]=jy kP [.s (x ++ [c] ++ w),.sl [],.i (((x ++ [c]).length:Nat):Int),.i 0,.i 0]:=by
   refine jH ?_
   rw [← hs,← Qa]
   simp only [qL,qI,qS,qB,kP,List.getD_cons_zero,List.getD_cons_succ,DC.bb_b,DC.ii_i,DC.ss_s,DC.ll_sl,h1,decide_true,if_true,j6v (ha c (by simp)),Out.bindR_ret,n0,decide_false,Bool.false_eq_true,if_false,ya hlx,j9]
  rw [hn,j40 w (x ++ [c]) (by rw [← hs]; exact hl) fun d hd=>ha d (by simp [hd]),← hs]
theorem je2 (a b c:Int):Ks [.i a,.i b,.i c] = .ret [.b (if a ≥ b then decide (a ≤ c) else false)]:=by
 rw [j36]
 simp only [qL,qI,qS,qB,Zj,List.getD_cons_zero,List.getD_cons_succ,DC.bb_b,DC.ii_i,DC.ss_s,DC.ll_sl]
 by_cases h:a ≥ b
 ·simp only [h,decide_true,if_true,ja,List.getD_cons_zero,List.getD_cons_succ,DC.bb_b,DC.ii_i,DC.ss_s,DC.ll_sl]
 ·simp only [h,decide_false,Bool.false_eq_true,if_false,ja,List.getD_cons_zero,List.getD_cons_succ,DC.bb_b,DC.ii_i,DC.ss_s,DC.ll_sl]
theorem j72:zL [.i 100] = .ret [.s [100]]:=by
 have hs:JC [.i 100] = .ret [.b true]:=by
  rw [ZM]
  simp only [qL,qI,qS,qB,Vi,List.getD_cons_zero,List.getD_cons_succ,DC.bb_b,DC.ii_i,DC.ss_s,DC.ll_sl,je2,Out.bindR_ret]
  kernel_rfl
 rw [j0t]
 simp only [qL,qI,qS,qB,VV,List.getD_cons_zero,List.getD_cons_succ,DC.bb_b,DC.ii_i,DC.ss_s,DC.ll_sl,hs,Out.bindR_ret]
 rfl
theorem jaK:JD [.s [34,100,34]] = .ret [.s [100],.b true]:=by
 have hr:zp [.s [100],.i 0] = .ret [.i 100,.i 1]:=j6v (x:=[]) (w:=[]) (c:=100) (by decide)
 have hl:jy yd [.s [100],.sl [],.i (0:Int)] = .ex 0 [.sl [[.i 100]]]:=by
  have n1:yd [.s [100],.sl [],.i (0:Int)] = .norm [.s [100],.sl [[.i 100]],.i (1:Int)]:=by
   have k1:((0:Int) < (([100]:List UInt8).length:Int)):=by decide
   have k2:((((([100]:List UInt8).getD (0:Int).toNat 0).toNat:Nat):Int) == 92)=false:=by decide
   simp only [qL,qI,qS,qB,yd,List.getD_cons_zero,List.getD_cons_succ,DC.bb_b,DC.ii_i,DC.ss_s,DC.ll_sl,k1,k2,decide_true,if_true,Int.le_refl,and_self,Bool.false_eq_true,if_false,hr,Out.bindR_ret,Int.reduceBEq,Int.reduceLT,decide_false,ja,j9,j72]
   have hb:([]:List (List DC)).length + (JW [100]).length < jT:=by
    have:(JW [100]).length=1:=rfl
    rw [this]
    decide
   simp only [hb,if_true]
   rfl
  refine (jH n1).trans (jK ?_)
  kernel_rfl
 rw [ZN]
 have e1:([34,100,34]:List UInt8).length=3:=rfl
 have k1:((((([34,100,34]:List UInt8).getD (0:Int).toNat 0).toNat:Nat):Int) != 34)=false:=by decide
 have k2:IntKind.i64.wrap (((3:Nat):Int) - 1)=2:=by decide
 have k3:((((([34,100,34]:List UInt8).getD (2:Int).toNat 0).toNat:Nat):Int) != 34)=false:=by decide
 have k4:(([34,100,34]:List UInt8).take (2:Int).toNat).drop (1:Int).toNat=[100]:=by decide
 have k5:¬ (((3:Nat):Int) < 2):=by decide
 have k6:¬ (((3:Nat):Int) > 1300):=by decide
 have k7:(0:Int) ≤ 0 ∧ (0:Int) < ((3:Nat):Int):=by decide
 have k8:(0:Int) ≤ 2 ∧ (2:Int) < ((3:Nat):Int):=by decide
 have k9:(0:Int) ≤ 1 ∧ (1:Int) ≤ 2 ∧ (2:Int) ≤ ((3:Nat):Int):=by decide
 simp only [qL,qI,qS,qB,Vj,List.getD_cons_zero,List.getD_cons_succ,DC.bb_b,DC.ii_i,DC.ss_s,DC.ll_sl,e1,k1,k2,k3,k5,k6,k7,k8,decide_false,Bool.false_eq_true,if_false,if_true,and_self,ja]
 rw [if_pos k9,k4,hl]
 rfl
theorem jaP {x r:List UInt8} (hl:(x ++ 34 :: 100 :: 34 :: r).length ≤ 12000) :
  qx [.s (x ++ 34 :: 100 :: 34 :: r),.i ((x.length:Nat):Int)] = .ret [.i 5,.s [100],.i ((x.length:Nat):Int),.i (((x ++ [34,100,34]).length:Nat):Int),.i 0]:=by
 have h0:(0:Int) ≤ ((x.length:Nat):Int):=Int.natCast_nonneg _
 have h1:=V0 x (100 :: 34 :: r) 34
 have hlx:x.length ≤ 100000:=by rw [jj] at hl; omega
 have hg:=pP x (100 :: 34 :: r) 34
 have h3:((x.length + 3:Nat):Int) ≤ ((x ++ 34 :: 100 :: 34 :: r).length:Int):=by simp only [jj,jb]; omega
 have q3:((x.length:Nat):Int) ≤ ((x.length + 3:Nat):Int):=by omega
 have h03:(0:Int) ≤ ((x.length + 3:Nat):Int):=by omega
 have e3:K6 [.s (x ++ 34 :: 100 :: 34 :: r),.i ((x.length:Nat):Int)] = .ret [.b false]:=by
  rw [j0r]
  simp only [qL,qI,qS,qB,VT,List.getD_cons_zero,List.getD_cons_succ,DC.bb_b,DC.ii_i,DC.ss_s,DC.ll_sl,j5v hlx,h3,decide_true,if_true,h0,q3,and_self,j4J,ja]
  rfl
 have hlen:(x ++ [34,100,34]).length=x.length + 3:=by simp
 have eE:JE [.s (x ++ 34 :: 100 :: 34 :: r),.i ((x.length:Nat):Int)] = .ret [.i ((x.length + 3:Nat):Int)]:=by
  have s1:x ++ 34 :: 100 :: 34 :: r=(x ++ [34]) ++ 100 :: (34 :: r):=by simp
  have s2:x ++ 34 :: 100 :: 34 :: r=(x ++ [34,100]) ++ 34 :: r:=by simp
  have g1:(x ++ 34 :: 100 :: 34 :: r).getD ((x.length + 1:Nat):Int).toNat 0=100:=by rw [s1,Qa x 34]; exact pP _ _ _
  have g2:(x ++ 34 :: 100 :: 34 :: r).getD ((x.length + 2:Nat):Int).toNat 0=34:=by rw [s2,show ((x.length + 2:Nat):Int)=(((x ++ [34,100]).length:Nat):Int) by simp]; exact pP _ _ _
  have l1:((x.length + 1:Nat):Int) < ((x ++ 34 :: 100 :: 34 :: r).length:Int):=by omega
  have l2:((x.length + 2:Nat):Int) < ((x ++ 34 :: 100 :: 34 :: r).length:Int):=by omega
  have w1:IntKind.i64.wrap (((x.length + 1:Nat):Int) + 1)=((x.length + 2:Nat):Int):=by rw [IntKind.wrap_i64]; omega
  have w2:IntKind.i64.wrap (((x.length + 2:Nat):Int) + 1)=((x.length + 3:Nat):Int):=by rw [IntKind.wrap_i64]; omega
  have z1:(0:Int) ≤ ((x.length + 1:Nat):Int):=by omega
  have z2:(0:Int) ≤ ((x.length + 2:Nat):Int):=by omega
  have el:jy ye [.s (x ++ 34 :: 100 :: 34 :: r),.i ((x.length + 1:Nat):Int)] = .ret [.i ((x.length + 3:Nat):Int)]:=by
   refine (jH (v':=[.s (x ++ 34 :: 100 :: 34 :: r),.i ((x.length + 2:Nat):Int)]) ?_).trans (yS ?_)
   ·have m1:((((100:UInt8).toNat:Nat):Int) == 34)=false:=by decide
    have m2:((((100:UInt8).toNat:Nat):Int) == 10)=false:=by decide
    have m3:((((100:UInt8).toNat:Nat):Int) == 13)=false:=by decide
    have m4:((((100:UInt8).toNat:Nat):Int) == 92)=false:=by decide
    simp only [qL,qI,qS,qB,ye,List.getD_cons_zero,List.getD_cons_succ,DC.bb_b,DC.ii_i,DC.ss_s,DC.ll_sl,l1,z1,and_self,decide_true,if_true,g1,m1,m2,m3,m4,Bool.false_eq_true,if_false,ja,j9,w1]
   ·have m1:((((34:UInt8).toNat:Nat):Int) == 34)=true:=by decide
    simp only [qL,qI,qS,qB,ye,List.getD_cons_zero,List.getD_cons_succ,DC.bb_b,DC.ii_i,DC.ss_s,DC.ll_sl,l2,z2,and_self,decide_true,if_true,g2,m1,j9,w2]
  have n0:¬ ((x.length:Nat):Int) < 0:=by omega
  have n1:¬ ((x.length:Nat):Int) ≥ ((x ++ 34 :: 100 :: 34 :: r).length:Int):=by omega
  have m1:((((34:UInt8).toNat:Nat):Int) != 34)=false:=by decide
  rw [ZO]
  simp only [qL,qI,qS,qB,Vk,List.getD_cons_zero,List.getD_cons_succ,DC.bb_b,DC.ii_i,DC.ss_s,DC.ll_sl,n0,n1,h0,h1,decide_false,Bool.false_eq_true,if_false,and_self,if_true,hg,m1,ja,ya hlx,el,j9]
 have m1:((((34:UInt8).toNat:Nat):Int) == 34)=true:=by decide
 have m2:((((34:UInt8).toNat:Nat):Int) == 45)=false:=by decide
 have m3:ltr 34=false:=by decide
 have m4:fig 34=false:=by decide
 have q4:((x.length + 3:Nat):Int) ≥ 0:=h03
 rw [Je,hlen]
 simp only [qL,qI,qS,qB,zH,List.getD_cons_zero,List.getD_cons_succ,DC.bb_b,DC.ii_i,DC.ss_s,DC.ll_sl,h0,h1,and_self,if_true,hg,yp,m3,yq,m4,m2,m1,Out.bindR_ret,Bool.false_eq_true,if_false,ja,e3,eE,q4,decide_true,q3,h3,j4J]
 rw [show (34 :: 100 :: 34 :: r:List UInt8).take 3=[34,100,34] from rfl,jaK]
 simp only [Out.bindR_ret,List.getD_cons_zero,List.getD_cons_succ,DC.bb_b,DC.ii_i,DC.ss_s,DC.ll_sl,ja,je,Bool.false_eq_true,if_false,j9]
theorem jbD {x s:List UInt8} {c:UInt8} {out res:List Tk} (hl:(x ++ c :: s).length ≤ 12000) (h:tz (c :: s) 0 [] out=some res) (hb:blk c=false) :
  ∃ (k:Int) (t raw r:List UInt8),c :: s=raw ++ r ∧ 0 < raw.length ∧ qx [.s (x ++ c :: s),.i ((x.length:Nat):Int)] = .ret [.i k,.s t,.i ((x.length:Nat):Int),.i (((x ++ raw).length:Nat):Int),.i 0] ∧ tz r 0 [] ((k,t) :: out)=some res:=by
 have h':m0 c out (tz s)=some res:=h
 unfold m0 at h'
 simp only [hb,Bool.false_eq_true,if_false] at h'
 cases h1:ltr c with
 | true =>
  simp only [h1,if_true] at h'
  obtain ⟨y,r,e1,e2,e3,e4,e5⟩:=j7w s [c] out h'
  subst e1
  exact ⟨2,c :: y,c :: y,r,rfl,by simp,j9I hl h1 e2 e3 (e4 (by simp)),e5⟩
 | false =>
  simp only [h1,Bool.false_eq_true,if_false] at h'
  cases h2:fig c with
  | true =>
   simp only [h2,if_true] at h'
   obtain ⟨y,r,e1,e2,e3,e4,e5⟩:=j8Z s [c] out h'
   subst e1
   exact ⟨3,c :: y,c :: y,r,rfl,by simp,jaQ hl h2 e2 e3 e4,e5⟩
  | false =>
   simp only [h2,Bool.false_eq_true,if_false] at h'
   cases h3:c == 34 with
   | true =>
    simp only [h3,if_true] at h'
    obtain ⟨r,e1,e2⟩:=jbp h'
    have hc:c=34:=by simpa using h3
    subst hc e1
    exact ⟨5,[100],[34,100,34],r,rfl,by simp,jaP hl,e2⟩
   | false =>
    simp only [h3,Bool.false_eq_true,if_false] at h'
    split at h'
    ·rename_i h4
     exact ⟨1,[c],[c],s,rfl,by simp,j9H hl h4,h'⟩
    ·simp at h'
def vw (k:TToken):Tk:=(k.kind,k.text)
theorem j92 {res:List Tk}:∀ (m:Nat) (w x:List UInt8) (out:List Tk) (ts:List TToken),w.length ≤ m → (x ++ w).length ≤ 2000 → tz w 0 [] out=some res → (w=[] ∨ ∃ c v',w=c :: v' ∧ blk c=false) → ts.map vw=out.reverse → ts.length ≤ x.length →
  ∃ ts':List TToken,jy pG [.s (x ++ w),.sl [],.sl (ts.map TToken.enc),.i ((x.length:Nat):Int),.i 0,.i 0] = .ex 2 [.sl (ts'.map TToken.enc),.i 0,.i 0] ∧ ts'.map vw=res.reverse ∧ ts'.length ≤ 2000:=by
 intro m
 induction m with
 | zero =>
  intro w x out ts hm hl h hw ht htl
  have:w=[]:=jm (by omega)
  subst this
  have hr:out=res:=by simpa [tz] using h
  subst hr
  refine ⟨ts,jK ?_,ht,by rw [jj] at hl; omega⟩
  simp only [qL,qI,qS,qB,pG,List.getD_cons_zero,List.getD_cons_succ,DC.bb_b,DC.ii_i,DC.ss_s,DC.ll_sl,jv,Int.lt_irrefl,decide_false,Bool.false_eq_true,if_false]
 | succ m ih =>
  intro w x out ts hm hl h hw ht htl
  rcases hw with rfl | ⟨c,s,rfl,hb⟩
  ·have hr:out=res:=by simpa [tz] using h
   subst hr
   refine ⟨ts,jK ?_,ht,by rw [jj] at hl; omega⟩
   simp only [qL,qI,qS,qB,pG,List.getD_cons_zero,List.getD_cons_succ,DC.bb_b,DC.ii_i,DC.ss_s,DC.ll_sl,jv,Int.lt_irrefl,decide_false,Bool.false_eq_true,if_false]
  ·obtain ⟨k,t,raw,r,e1,e2,e3,e4⟩:=jbD (x:=x) (by omega) h hb
   rw [e1] at hl
   have hl2:(x ++ raw ++ r).length ≤ 2000:=by rw [jD]; exact hl
   obtain ⟨y,v,f1,f2,f3,f4⟩:=jab r (x ++ raw) (by omega) e4
   have hs:x ++ c :: s=x ++ raw ++ y ++ v:=by rw [e1,f1]; simp
   have hv:v.length ≤ m:=by
    have:(c :: s).length=raw.length + (y.length + v.length):=by rw [e1,f1]; simp
    omega
   obtain ⟨ts',g1,g2,g3⟩:=ih v (x ++ raw ++ y) ((k,t) :: out) (ts ++ [⟨k,t,((x.length:Nat):Int)⟩]) hv (by rw [← hs,e1]; exact hl) f3 f4 (by simp [ht,vw]) (by simp only [jj,jb,jf]; omega)
   have h1:=V0 x s c
   have hx:x.length ≤ 2000:=by rw [jj] at hl; omega
   have n1:((ts.length:Int) == 2500)=false:=by
    have:¬ (ts.length:Int)=2500:=by omega
    simpa using this
   have n2:ts.length + 1 < jT:=by unfold jT; omega
   have f2':qH [.s (x ++ c :: s),.i (((x ++ raw).length:Nat):Int)] = .ret [.i (((x ++ raw ++ y).length:Nat):Int)]:=by
    rw [e1,← jD]
    exact f2
   refine ⟨ts',(jH (v':=[.s (x ++ c :: s),.sl [],.sl ((ts ++ [(⟨k,t,((x.length:Nat):Int)⟩:TToken)]).map TToken.enc),.i (((x ++ raw ++ y).length:Nat):Int),.i 0,.i 0]) ?_).trans ?_,g2,g3⟩
   ·simp only [qL,qI,qS,qB,pG,List.getD_cons_zero,List.getD_cons_succ,DC.bb_b,DC.ii_i,DC.ss_s,DC.ll_sl,h1,decide_true,if_true,e3,Out.bindR_ret,Int.reduceBEq,Int.reduceBNe,List.length_map,n1,ja,Bool.false_eq_true,if_false,jb,jf,Nat.zero_add,n2,j9,f2',List.map_append,js,List.map_nil,TToken.enc_eq,bne_self_eq_false]
   ·rw [hs]
    exact g1
theorem j3n {s:List UInt8} {res:List Tk} (hl:s.length ≤ 2000) (ha:∀ c ∈ s,c.toNat < 128) (h:tz s 0 [] []=some res) :
  ∃ ts:List TToken,K7 [.s s] = .ret [.sl (ts.map TToken.enc),.i 0,.i 0] ∧ ts.map vw=res.reverse ∧ ts.length ≤ 2000:=by
 have e1:jy kP [.s s,.sl [],.i (0:Int),.i (0:Int),.i (0:Int)] = .ex 0 [.s s,.sl [],.i 0,.i 0]:=j40 s [] (by rw [jg]; omega) ha
 obtain ⟨y,v,f1,f2,f3,f4⟩:=jab s [] (by rw [jg]; omega) h
 have f2':qH [.s s,.i (0:Int)] = .ret [.i ((y.length:Nat):Int)]:=f2
 obtain ⟨ts,g1,g2,g3⟩:=j92 v.length v y [] [] (Nat.le_refl _) (by rw [← f1]; exact hl) f3 f4 rfl (by simp)
 rw [← f1] at g1
 have g1':jy pG [.s s,.sl [],.sl [],.i ((y.length:Nat):Int),.i (0:Int),.i (0:Int)] = .ex 2 [.sl (ts.map TToken.enc),.i 0,.i 0]:=g1
 refine ⟨ts,?_,g2,g3⟩
 have n1:¬ (s.length:Int) > 12000:=by omega
 rw [j0s]
 simp only [qL,qI,qS,qB,VU,List.getD_cons_zero,List.getD_cons_succ,DC.bb_b,DC.ii_i,DC.ss_s,DC.ll_sl,n1,decide_false,Bool.false_eq_true,if_false,e1,j9,if_true,f2',Out.bindR_ret,g1']
def Sf (t:List TToken) (u:List Tk):Prop:=∃ p q:List TToken,t=p ++ q ∧ q.map vw=u ∧ t.length ≤ 2000
def ix (t:List TToken) (u:List Tk):Int:=((t.length - u.length:Nat):Int)
theorem j2L {t:List TToken} (h:Sf t []):¬ ix t [] < (t.length:Int):=by
 unfold ix
 simp
theorem J8 {t:List TToken} {k:Tk} {u:List Tk} (h:Sf t (k :: u)):0 ≤ ix t (k :: u) ∧ ix t (k :: u) < (t.length:Int) ∧ (∃ z:Int,(t.map TToken.enc).getD (ix t (k :: u)).toNat []=[.i k.1,.s k.2,.i z]) ∧ IntKind.i64.wrap (ix t (k :: u) + 1)=ix t u ∧ Sf t u:=by
 obtain ⟨p,q,rfl,e,hl⟩:=h
 cases q with
 | nil=>simp at e
 | cons a q =>
  simp only [js,List.cons.injEq] at e
  obtain ⟨e1,e2⟩:=e
  subst e1 e2
  have h1:(p ++ a :: q).length - (vw a :: q.map vw).length=p.length:=by simp
  have h2:(p ++ a :: q).length - (q.map vw).length=p.length + 1:=by simp; omega
  refine ⟨by unfold ix; omega,by unfold ix; rw [h1]; simp; omega,⟨a.at',?_⟩,?_,⟨p ++ [a],q,by simp,rfl,hl⟩⟩
  ·unfold ix
   rw [h1,jd,List.getD_eq_getElem?_getD,List.getElem?_map,List.getElem?_append_right (Nat.le_refl _),Nat.sub_self]
   rfl
  ·unfold ix
   rw [h1,h2,IntKind.wrap_i64]
   simp only [jj] at hl
   omega
section
variable {t:List TToken} {u u':List Tk} {e:Int}
theorem j6x (hs:Sf t u) (s:List UInt8):qi [.s s,.sl (t.map TToken.enc),.i (ix t u),.i e,.i 0,.i 0] = .ret [.b (Kx u s),.sl (t.map TToken.enc),.i (ix t u),.i e,.i 0,.i 0]:=by
 rw [j3J]
 cases u with
 | nil =>
  have h1:=j2L hs
  simp only [qL,qI,qS,qB,Qg,List.getD_cons_zero,List.getD_cons_succ,DC.bb_b,DC.ii_i,DC.ss_s,DC.ll_sl,List.length_map,beq_self_eq_true,bne_self_eq_false,if_true,eq_self,and_self,Bool.false_eq_true,if_false,ja,j9,Out.bindR_ret,je,jc,h1,decide_false,Kx]
 | cons k u =>
  obtain ⟨h0,h1,⟨z,hg⟩,hw,hs'⟩:=J8 hs
  cases hk:k.1 == 1 with
  | true=>simp only [qL,qI,qS,qB,Qg,List.getD_cons_zero,List.getD_cons_succ,DC.bb_b,DC.ii_i,DC.ss_s,DC.ll_sl,List.length_map,beq_self_eq_true,bne_self_eq_false,if_true,eq_self,and_self,Bool.false_eq_true,if_false,ja,j9,Out.bindR_ret,je,jc,h0,h1,decide_true,hg,hk,Kx,Bool.true_and]
  | false=>simp only [qL,qI,qS,qB,Qg,List.getD_cons_zero,List.getD_cons_succ,DC.bb_b,DC.ii_i,DC.ss_s,DC.ll_sl,List.length_map,beq_self_eq_true,bne_self_eq_false,if_true,eq_self,and_self,Bool.false_eq_true,if_false,ja,j9,Out.bindR_ret,je,jc,h0,h1,decide_true,hg,hk,Kx,Bool.false_and]
theorem JU (hs:Sf t u) (s:List UInt8):kk [.s s,.sl (t.map TToken.enc),.i (ix t u),.i e,.i 0,.i 0] = .ret [.b (isW u s),.sl (t.map TToken.enc),.i (ix t u),.i e,.i 0,.i 0]:=by
 rw [j2c]
 cases u with
 | nil =>
  have h1:=j2L hs
  simp only [qL,qI,qS,qB,K0,List.getD_cons_zero,List.getD_cons_succ,DC.bb_b,DC.ii_i,DC.ss_s,DC.ll_sl,List.length_map,beq_self_eq_true,bne_self_eq_false,if_true,eq_self,and_self,Bool.false_eq_true,if_false,ja,j9,Out.bindR_ret,je,jc,h1,decide_false,isW]
 | cons k u =>
  obtain ⟨h0,h1,⟨z,hg⟩,hw,hs'⟩:=J8 hs
  cases hk:k.1 == 2 with
  | true=>simp only [qL,qI,qS,qB,K0,List.getD_cons_zero,List.getD_cons_succ,DC.bb_b,DC.ii_i,DC.ss_s,DC.ll_sl,List.length_map,beq_self_eq_true,bne_self_eq_false,if_true,eq_self,and_self,Bool.false_eq_true,if_false,ja,j9,Out.bindR_ret,je,jc,h0,h1,decide_true,hg,hk,isW,Bool.true_and]
  | false=>simp only [qL,qI,qS,qB,K0,List.getD_cons_zero,List.getD_cons_succ,DC.bb_b,DC.ii_i,DC.ss_s,DC.ll_sl,List.length_map,beq_self_eq_true,bne_self_eq_false,if_true,eq_self,and_self,Bool.false_eq_true,if_false,ja,j9,Out.bindR_ret,je,jc,h0,h1,decide_true,hg,hk,isW,Bool.false_and]
theorem j3p (hs:Sf t u) (n:Int):ym [.i n,.sl (t.map TToken.enc),.i (ix t u),.i e,.i 0,.i 0] = .ret [.b (isK u n),.sl (t.map TToken.enc),.i (ix t u),.i e,.i 0,.i 0]:=by
 rw [j2f]
 cases u with
 | nil =>
  have h1:=j2L hs
  simp only [qL,qI,qS,qB,QR,List.getD_cons_zero,List.getD_cons_succ,DC.bb_b,DC.ii_i,DC.ss_s,DC.ll_sl,List.length_map,beq_self_eq_true,bne_self_eq_false,if_true,eq_self,and_self,Bool.false_eq_true,if_false,ja,j9,Out.bindR_ret,je,jc,h1,decide_false,isK]
 | cons k u =>
  obtain ⟨h0,h1,⟨z,hg⟩,hw,hs'⟩:=J8 hs
  simp only [qL,qI,qS,qB,QR,List.getD_cons_zero,List.getD_cons_succ,DC.bb_b,DC.ii_i,DC.ss_s,DC.ll_sl,List.length_map,beq_self_eq_true,bne_self_eq_false,if_true,eq_self,and_self,Bool.false_eq_true,if_false,ja,j9,Out.bindR_ret,je,jc,h0,h1,decide_true,hg,isK]
theorem kL {s:List UInt8} (h:Kx u s=true):∃ k u1,u=k :: u1:=by
 cases u with
 | nil=>simp [Kx] at h
 | cons k u=>exact ⟨k,u,rfl⟩
theorem Ya {s:List UInt8} (h:isW u s=true):∃ k u1,u=k :: u1:=by
 cases u with
 | nil=>simp [isW] at h
 | cons k u=>exact ⟨k,u,rfl⟩
theorem kC (hs:Sf t u) (h:∃ k u1,u=k :: u1):IntKind.i64.wrap (ix t u + 1)=ix t u.tail ∧ Sf t u.tail:=by
 obtain ⟨k,u1,rfl⟩:=h
 obtain ⟨_,_,_,hw,hs'⟩:=J8 hs
 exact ⟨hw,hs'⟩
theorem j7l (hs:Sf t u) {s:List UInt8} (h:Kx u s=true):qy [.s s,.sl (t.map TToken.enc),.i (ix t u),.i e,.i 0,.i 0] = .ret [.sl (t.map TToken.enc),.i (ix t (u.tail)),.i e,.i 0,.i 0]:=by
 have hw:=(kC hs (kL h)).1
 rw [j2d]
 simp only [qL,qI,qS,qB,YB,List.getD_cons_zero,List.getD_cons_succ,DC.bb_b,DC.ii_i,DC.ss_s,DC.ll_sl,List.length_map,beq_self_eq_true,bne_self_eq_false,if_true,eq_self,and_self,Bool.false_eq_true,if_false,ja,j9,Out.bindR_ret,je,jc,j6x hs,h,hw]
theorem Ym (hs:Sf t u) {s:List UInt8} (h:Kx u s=true):jJ [.s s,.sl (t.map TToken.enc),.i (ix t u),.i e,.i 0,.i 0] = .ret [.b true,.sl (t.map TToken.enc),.i (ix t (u.tail)),.i e,.i 0,.i 0]:=by
 have hw:=(kC hs (kL h)).1
 rw [Yc]
 simp only [qL,qI,qS,qB,VC,List.getD_cons_zero,List.getD_cons_succ,DC.bb_b,DC.ii_i,DC.ss_s,DC.ll_sl,List.length_map,beq_self_eq_true,bne_self_eq_false,if_true,eq_self,and_self,Bool.false_eq_true,if_false,ja,j9,Out.bindR_ret,je,jc,j6x hs,h,hw]
theorem JV (hs:Sf t u) {s:List UInt8} (h:Kx u s=false):jJ [.s s,.sl (t.map TToken.enc),.i (ix t u),.i e,.i 0,.i 0] = .ret [.b false,.sl (t.map TToken.enc),.i (ix t u),.i e,.i 0,.i 0]:=by
 rw [Yc]
 simp only [qL,qI,qS,qB,VC,List.getD_cons_zero,List.getD_cons_succ,DC.bb_b,DC.ii_i,DC.ss_s,DC.ll_sl,List.length_map,beq_self_eq_true,bne_self_eq_false,if_true,eq_self,and_self,Bool.false_eq_true,if_false,ja,j9,Out.bindR_ret,je,jc,j6x hs,h]
theorem Js {n:List UInt8} (hs:Sf t u) (h:Jv u=some (n,u')):jY [.sl (t.map TToken.enc),.i (ix t u),.i e,.i 0,.i 0] = .ret [.s n,.sl (t.map TToken.enc),.i (ix t u'),.i e,.i 0,.i 0] ∧ Sf t u':=by
 cases u with
 | nil=>simp [Jv] at h
 | cons k u =>
  rw [Jv] at h
  split at h
  ·rename_i hk
   simp only [j8,ji] at h
   obtain ⟨rfl,rfl⟩:=h
   obtain ⟨h0,h1,⟨z,hg⟩,hw,hs'⟩:=J8 hs
   have hK:=j3p (e:=e) hs 2
   have hk':isK (k :: u) 2=true:=hk
   have hb:IntKind.i64.wrap (ix t u - 1)=ix t (k :: u):=by
    rw [← hw]
    rw [IntKind.wrap_i64,IntKind.wrap_i64]
    have:(t.length:Int) ≤ 2000:=by obtain ⟨_,_,_,_,hl⟩:=hs; omega
    omega
   refine ⟨?_,hs'⟩
   rw [j2e]
   simp only [qL,qI,qS,qB,YC,List.getD_cons_zero,List.getD_cons_succ,DC.bb_b,DC.ii_i,DC.ss_s,DC.ll_sl,List.length_map,beq_self_eq_true,bne_self_eq_false,if_true,eq_self,and_self,Bool.false_eq_true,if_false,ja,j9,Out.bindR_ret,je,jc,hK,hk',hw,hb,h0,h1,hg]
  ·simp at h
theorem jdx {v:TValue} {b:Bool} {n:Int} (hs:Sf t u) (h:jaN u=some (v,u')):yN [.b b,.i n,.sl (t.map TToken.enc),.i (ix t u),.i e,.i 0,.i 0] = .ret [.i v.kind,.s v.text,.sl (v.items.map TValue.enc),.sl (v.names.map S1),.sl (t.map TToken.enc),.i (ix t u'),.i e,.i 0,.i 0] ∧ Sf t u':=by
 cases u with
 | nil=>simp [jaN] at h
 | cons k u =>
  rw [jaN] at h
  split at h
  ·rename_i hk
   simp only [j8,ji] at h
   obtain ⟨rfl,rfl⟩:=h
   obtain ⟨h0,h1,⟨z,hg⟩,hw,hs'⟩:=J8 hs
   have h2:¬ ix t (k :: u) ≥ (t.length:Int):=by omega
   have k4:(k.1 == 4)=false:=by
    have:k.1=3:=by simpa using hk
    rw [this]; rfl
   have k5:(k.1 == 5)=false:=by
    have:k.1=3:=by simpa using hk
    rw [this]; rfl
   refine ⟨?_,hs'⟩
   rw [j1p]
   simp only [qL,qI,qS,qB,XI,List.getD_cons_zero,List.getD_cons_succ,DC.bb_b,DC.ii_i,DC.ss_s,DC.ll_sl,List.length_map,beq_self_eq_true,bne_self_eq_false,if_true,eq_self,and_self,Bool.false_eq_true,if_false,ja,j9,Out.bindR_ret,je,jc,h0,h1,h2,decide_false,hg,hk,k4,k5,hw,List.map_nil]
  ·simp at h
theorem jaa {n w c:List UInt8} (hs:Sf t u) (hu:∃ k u1,u=k :: u1) (hl:w.length < 8) (hc:c.length=1):JK [.s n,.s w,.s c,.sl (t.map TToken.enc),.i (ix t u),.i e,.i 0,.i 0] = .ret [.s n,.s (w ++ c),.sl (t.map TToken.enc),.i (ix t (u.tail)),.i e,.i 0,.i 0]:=by
 have hw:=(kC hs hu).1
 have h1:¬ (w.length:Int) ≥ 8:=by omega
 have h2:w.length + c.length < jT:=by unfold jT; omega
 rw [j2b]
 simp only [qL,qI,qS,qB,YA,List.getD_cons_zero,List.getD_cons_succ,DC.bb_b,DC.ii_i,DC.ss_s,DC.ll_sl,List.length_map,beq_self_eq_true,bne_self_eq_false,if_true,eq_self,and_self,Bool.false_eq_true,if_false,ja,j9,Out.bindR_ret,je,jc,h1,decide_false,h2,hw]
theorem j6a {w:List UInt8} (h:w ≠ []) (hl:w.length ≤ 100):(0 ≤ IntKind.i64.wrap ((w.length:Int) - 1) ∧ IntKind.i64.wrap ((w.length:Int) - 1) < (w.length:Int)) ∧ ((((w.getD (IntKind.i64.wrap ((w.length:Int) - 1)).toNat 0).toNat:Nat):Int) != 33) = !j9U w:=by
 have hp:0 < w.length:=List.length_pos_iff.2 h
 have hw:IntKind.i64.wrap ((w.length:Int) - 1)=((w.length - 1:Nat):Int):=by rw [IntKind.wrap_i64]; omega
 rw [hw]
 refine ⟨by omega,?_⟩
 have hg:w.getLast? = some (w.getD (w.length - 1) 0):=by
  rw [List.getLast?_eq_getElem?,List.getD_eq_getElem?_getD,List.getElem?_eq_getElem (by omega)]
  rfl
 rw [jd]
 unfold j9U
 rw [hg]
 exact JA (f:=fun c=>((c.toNat:Nat):Int) != 33) (g:=fun c=>!(c == 33)) (by kernel_rfl) _
theorem j7t {n w':List UInt8}:∀ (f:Nat) (l:Bool) (w:List UInt8) (u:List Tk),Sf t u → w.length + f ≤ 8 → pWr f l w u=some (w',u') →
  jy pL [.i (if l=true then 1 else 0),.sl (t.map TToken.enc),.i (ix t u),.i e,.i 0,.i 0,.s [],.s [],.s n,.s w] = .ret [.s n,.s w',.sl (t.map TToken.enc),.i (ix t u'),.i e,.i 0,.i 0] ∧ Sf t u':=by
 intro f
 induction f with
 | zero=>intro l w u hs hl h; simp [pWr] at h
 | succ f ih =>
  intro l w u hs hl h
  rw [pWr] at h
  have hI:=j6x (e:=e) hs [33]
  have hJ:=j6x (e:=e) hs [93]
  cases h33:Kx u [33] with
  | true =>
   rw [h33] at hI
   cases hN:j9U w with
   | false =>
    simp only [h33,hN,jc,Bool.and_self,if_true] at h
    obtain ⟨hw,hs'⟩:=kC hs (kL h33)
    obtain ⟨e1,e2⟩:=ih l (w ++ [33]) u.tail hs' (by rw [jj]; simp only [jb,jf]; omega) h
    refine ⟨(jH ?_).trans e1,e2⟩
    have hW:=jaa (e:=e) (n:=n) (w:=w) (c:=[33]) hs (kL h33) (by omega) rfl
    cases w with
    | nil=>simp only [qL,qI,qS,qB,pL,List.getD_cons_zero,List.getD_cons_succ,DC.bb_b,DC.ii_i,DC.ss_s,DC.ll_sl,List.length_map,beq_self_eq_true,bne_self_eq_false,if_true,eq_self,and_self,Bool.false_eq_true,if_false,ja,j9,Out.bindR_ret,je,jc,hI,hW,jg]
    | cons a w =>
     obtain ⟨g1,g2⟩:=j6a (w:=a :: w) (by simp) (by omega)
     rw [hN] at g2
     have hne:(a :: w == ([]:List UInt8))=false:=rfl
     simp only [qL,qI,qS,qB,pL,List.getD_cons_zero,List.getD_cons_succ,DC.bb_b,DC.ii_i,DC.ss_s,DC.ll_sl,List.length_map,beq_self_eq_true,bne_self_eq_false,if_true,eq_self,and_self,Bool.false_eq_true,if_false,ja,j9,Out.bindR_ret,je,jc,hI,hne,g1,g2,hW]
   | true =>
    simp only [h33,hN,je,Bool.and_false,Bool.false_eq_true,if_false] at h
    cases w with
    | nil=>simp [j9U] at hN
    | cons a w =>
     obtain ⟨g1,g2⟩:=j6a (w:=a :: w) (by simp) (by omega)
     rw [hN] at g2
     have hne:(a :: w == ([]:List UInt8))=false:=rfl
     cases l with
     | false =>
      simp only [jc,if_true,j8,ji] at h
      obtain ⟨rfl,rfl⟩:=h
      exact ⟨yS (by simp only [qL,qI,qS,qB,pL,List.getD_cons_zero,List.getD_cons_succ,DC.bb_b,DC.ii_i,DC.ss_s,DC.ll_sl,List.length_map,beq_self_eq_true,bne_self_eq_false,if_true,eq_self,and_self,Bool.false_eq_true,if_false,ja,j9,Out.bindR_ret,je,jc,hI,hne,g1,g2]),hs⟩
     | true =>
      exfalso
      have:Kx u [93]=false:=by
       cases u with
       | nil=>rfl
       | cons k u =>
        simp only [Kx,jk,beq_iff_eq] at h33
        simp [Kx,h33.2]
      simp [this] at h
  | false =>
   rw [h33] at hI
   simp only [h33,Bool.false_and,Bool.false_eq_true,if_false] at h
   cases l with
   | false =>
    simp only [jc,if_true,j8,ji] at h
    obtain ⟨rfl,rfl⟩:=h
    exact ⟨yS (by simp only [qL,qI,qS,qB,pL,List.getD_cons_zero,List.getD_cons_succ,DC.bb_b,DC.ii_i,DC.ss_s,DC.ll_sl,List.length_map,beq_self_eq_true,bne_self_eq_false,if_true,eq_self,and_self,Bool.false_eq_true,if_false,ja,j9,Out.bindR_ret,je,jc,hI]),hs⟩
   | true =>
    simp only [je,Bool.false_eq_true,if_false] at h
    cases h93:Kx u [93] with
    | false=>simp [h93] at h
    | true =>
     simp only [h93,if_true] at h
     rw [h93] at hJ
     obtain ⟨hw,hs'⟩:=kC hs (kL h93)
     obtain ⟨e1,e2⟩:=ih false (w ++ [93]) u.tail hs' (by rw [jj]; simp only [jb,jf]; omega) h
     have hW:=jaa (e:=e) (n:=n) (w:=w) (c:=[93]) hs (kL h93) (by omega) rfl
     refine ⟨(jH ?_).trans e1,e2⟩
     simp only [qL,qI,qS,qB,pL,List.getD_cons_zero,List.getD_cons_succ,DC.bb_b,DC.ii_i,DC.ss_s,DC.ll_sl,List.length_map,beq_self_eq_true,bne_self_eq_false,if_true,eq_self,and_self,Bool.false_eq_true,if_false,ja,j9,Out.bindR_ret,je,jc,hI,hJ,hW,Int.reduceBEq]
     rfl
theorem jdy {ty:TType} (hs:Sf t u) (h:pTy u=some (ty,u')):JL [.sl (t.map TToken.enc),.i (ix t u),.i e,.i 0,.i 0] = .ret [.s ty.name,.s ty.wraps,.sl (t.map TToken.enc),.i (ix t u'),.i e,.i 0,.i 0] ∧ Sf t u':=by
 unfold pTy at h
 have hI:=j6x (e:=e) hs [91]
 cases h91:Kx u [91] with
 | true =>
  rw [h91] at hI
  simp only [h91,if_true] at h
  obtain ⟨hw,hs'⟩:=kC hs (kL h91)
  have hI2:=j6x (e:=e) hs' [91]
  split at h
  ·simp at h
  ·rename_i h2
   have h2:Kx u.tail [91]=false:=by simpa using h2
   rw [h2] at hI2
   simp only [Option.bind_eq_some_iff,Option.map_eq_some_iff,ji] at h
   obtain ⟨⟨n,u1⟩,h3,⟨w,u2⟩,h4,rfl,rfl⟩:=h
   obtain ⟨e3,s3⟩:=Js (e:=e) hs' h3
   obtain ⟨e4,s4⟩:=j7t (e:=e) (n:=n) 5 true [] u1 s3 (by decide) h4
   have l1:jy qu [.i (0:Int),.sl (t.map TToken.enc),.i (ix t u),.i e,.i 0,.i 0,.s [],.s [],.s [],.s []] = .ex 0 [.i 1,.sl (t.map TToken.enc),.i (ix t (u.tail)),.i e,.i 0,.i 0,.s [],.s [],.s [],.s []]:=by
    refine (jH (v':=[.i (1:Int),.sl (t.map TToken.enc),.i (ix t (u.tail)),.i e,.i 0,.i 0,.s [],.s [],.s [],.s []]) ?_).trans (jK ?_)
    ·simp only [qL,qI,qS,qB,qu,List.getD_cons_zero,List.getD_cons_succ,DC.bb_b,DC.ii_i,DC.ss_s,DC.ll_sl,List.length_map,beq_self_eq_true,bne_self_eq_false,if_true,eq_self,and_self,Bool.false_eq_true,if_false,ja,j9,Out.bindR_ret,je,jc,hI,hw,Int.reduceBEq]
     rfl
    ·simp only [qL,qI,qS,qB,qu,List.getD_cons_zero,List.getD_cons_succ,DC.bb_b,DC.ii_i,DC.ss_s,DC.ll_sl,List.length_map,beq_self_eq_true,bne_self_eq_false,if_true,eq_self,and_self,Bool.false_eq_true,if_false,ja,j9,Out.bindR_ret,je,jc,hI2]
   refine ⟨?_,s4⟩
   rw [Xz]
   simp only [if_true] at e4
   simp only [qL,qI,qS,qB,QQ,List.getD_cons_zero,List.getD_cons_succ,DC.bb_b,DC.ii_i,DC.ss_s,DC.ll_sl,List.length_map,beq_self_eq_true,bne_self_eq_false,if_true,eq_self,and_self,Bool.false_eq_true,if_false,ja,j9,Out.bindR_ret,je,jc,l1,e3,e4]
 | false =>
  rw [h91] at hI
  simp only [h91,Bool.false_eq_true,if_false] at h
  simp only [Option.bind_eq_some_iff,Option.map_eq_some_iff,ji] at h
  obtain ⟨⟨n,u1⟩,h3,⟨w,u2⟩,h4,rfl,rfl⟩:=h
  obtain ⟨e3,s3⟩:=Js (e:=e) hs h3
  obtain ⟨e4,s4⟩:=j7t (e:=e) (n:=n) 5 false [] u1 s3 (by decide) h4
  have l1:jy qu [.i (0:Int),.sl (t.map TToken.enc),.i (ix t u),.i e,.i 0,.i 0,.s [],.s [],.s [],.s []] = .ex 0 [.i 0,.sl (t.map TToken.enc),.i (ix t u),.i e,.i 0,.i 0,.s [],.s [],.s [],.s []] :=
   jK (by simp only [qL,qI,qS,qB,qu,List.getD_cons_zero,List.getD_cons_succ,DC.bb_b,DC.ii_i,DC.ss_s,DC.ll_sl,List.length_map,beq_self_eq_true,bne_self_eq_false,if_true,eq_self,and_self,Bool.false_eq_true,if_false,ja,j9,Out.bindR_ret,je,jc,hI])
  refine ⟨?_,s4⟩
  rw [Xz]
  simp only [Bool.false_eq_true,if_false] at e4
  simp only [qL,qI,qS,qB,QQ,List.getD_cons_zero,List.getD_cons_succ,DC.bb_b,DC.ii_i,DC.ss_s,DC.ll_sl,List.length_map,beq_self_eq_true,bne_self_eq_false,if_true,eq_self,and_self,Bool.false_eq_true,if_false,ja,j9,Out.bindR_ret,je,jc,l1,e3,e4]
end
section
variable {t:List TToken} {e:Int}
theorem n01:¬ (0:Nat)=1:=by decide
theorem Y9 {n:Nat} (h:n ≤ 200):n + 1 < jT:=by unfold jT; omega
theorem j2A {u:List Tk} (hs:Sf t u) (h:isK u 5=false):kO [.sl (t.map TToken.enc),.i (ix t u),.i e,.i 0,.i 0] = .ret [.s [],.sl (t.map TToken.enc),.i (ix t u),.i e,.i 0,.i 0]:=by
 rw [Q6]
 simp only [qL,qI,qS,qB,Jt,List.getD_cons_zero,List.getD_cons_succ,DC.bb_b,DC.ii_i,DC.ss_s,DC.ll_sl,List.length_map,beq_self_eq_true,bne_self_eq_false,if_true,eq_self,and_self,Bool.false_eq_true,if_false,ja,j9,Out.bindR_ret,je,jc,j3p hs,h]
theorem j80 {u:List Tk} {k:Tk} (hs:Sf t (k :: u)) (h:isK (k :: u) 5=true):kO [.sl (t.map TToken.enc),.i (ix t (k::u)),.i e,.i 0,.i 0] = .ret [.s k.2,.sl (t.map TToken.enc),.i (ix t u),.i e,.i 0,.i 0] ∧ Sf t u:=by
 obtain ⟨h0,h1,⟨z,hg⟩,hw,hs'⟩:=J8 hs
 have hb:IntKind.i64.wrap (ix t u - 1)=ix t (k::u):=by
  rw [← hw]
  rw [IntKind.wrap_i64,IntKind.wrap_i64]
  have:(t.length:Int) ≤ 2000:=by obtain ⟨_,_,_,_,hl⟩:=hs; omega
  omega
 refine ⟨?_,hs'⟩
 rw [Q6]
 simp only [qL,qI,qS,qB,Jt,List.getD_cons_zero,List.getD_cons_succ,DC.bb_b,DC.ii_i,DC.ss_s,DC.ll_sl,List.length_map,beq_self_eq_true,bne_self_eq_false,if_true,eq_self,and_self,Bool.false_eq_true,if_false,ja,j9,Out.bindR_ret,je,jc,j3p hs,h,hw,hb,h0,h1,hg]
theorem jb3 {u:List Tk} {b:Bool} (hs:Sf t u) (h:Kx u [40]=false):Jn [.b b,.sl (t.map TToken.enc),.i (ix t u),.i e,.i 0,.i 0] = .ret [.sl [],.sl (t.map TToken.enc),.i (ix t u),.i e,.i 0,.i 0]:=by
 rw [Z4]
 simp only [qL,qI,qS,qB,QP,List.getD_cons_zero,List.getD_cons_succ,DC.bb_b,DC.ii_i,DC.ss_s,DC.ll_sl,List.length_map,beq_self_eq_true,bne_self_eq_false,if_true,eq_self,and_self,Bool.false_eq_true,if_false,ja,j9,Out.bindR_ret,je,jc,JV hs h]
theorem j8H {b:Bool} {u':List Tk}:∀ (f:Nat) (u:List Tk) (acc ds:List TDir),Sf t u → acc.length + f ≤ 100 → QG f u=some (ds,u') →
  jy qW [.b b,.sl (acc.map TDir.enc),.sl (t.map TToken.enc),.i (ix t u),.i e,.i 0,.i 0] = .ex 0 [.sl ((acc ++ ds).map TDir.enc),.sl (t.map TToken.enc),.i (ix t u'),.i e,.i 0,.i 0] ∧ Sf t u':=by
 intro f
 induction f with
 | zero=>intro u acc ds hs hl h; simp [QG] at h
 | succ f ih =>
  intro u acc ds hs hl h
  rw [QG] at h
  cases h64:Kx u [64] with
  | true =>
   simp only [h64,if_true] at h
   have hO:=Ym (e:=e) hs h64
   obtain ⟨hw,hs'⟩:=kC hs (kL h64)
   simp only [Option.bind_eq_some_iff] at h
   obtain ⟨⟨n,u1⟩,h1,h2⟩:=h
   obtain ⟨e1,s1⟩:=Js (e:=e) hs' h1
   split at h2
   ·simp at h2
   ·rename_i h40
    have h40:Kx u1 [40]=false:=by simpa using h40
    simp only [Option.map_eq_some_iff,ji] at h2
    obtain ⟨⟨ds1,u2⟩,h3,rfl,rfl⟩:=h2
    have hA:=jb3 (e:=e) (b:=b) s1 h40
    obtain ⟨e2,s2⟩:=ih u1 (acc ++ [⟨n,[]⟩]) ds1 s1 (by rw [jj]; simp only [jb,jf]; omega) h3
    have hlim:=Y9 (n:=acc.length) (by omega)
    refine ⟨(jH ?_).trans (e2.trans (by simp)),s2⟩
    simp only [qL,qI,qS,qB,qW,List.getD_cons_zero,List.getD_cons_succ,DC.bb_b,DC.ii_i,DC.ss_s,DC.ll_sl,List.length_map,beq_self_eq_true,bne_self_eq_false,if_true,eq_self,and_self,Bool.false_eq_true,if_false,ja,j9,Out.bindR_ret,je,jc,hO,e1,hA,jb,jf,Nat.zero_add,hlim,List.map_append,js,List.map_nil,TDir.enc_eq]
  | false =>
   simp only [h64,Bool.false_eq_true,if_false,j8,ji] at h
   obtain ⟨rfl,rfl⟩:=h
   have hO:=JV (e:=e) hs h64
   exact ⟨jK (by simp only [qL,qI,qS,qB,qW,List.getD_cons_zero,List.getD_cons_succ,DC.bb_b,DC.ii_i,DC.ss_s,DC.ll_sl,List.length_map,beq_self_eq_true,bne_self_eq_false,if_true,eq_self,and_self,Bool.false_eq_true,if_false,ja,j9,Out.bindR_ret,je,jc,hO,jv]),hs⟩
theorem KY {b:Bool} {f:Nat} {u u':List Tk} {ds:List TDir} (hs:Sf t u) (hf:f ≤ 100) (h:QG f u=some (ds,u')):pz [.b b,.sl (t.map TToken.enc),.i (ix t u),.i e,.i 0,.i 0] = .ret [.sl (ds.map TDir.enc),.sl (t.map TToken.enc),.i (ix t u'),.i e,.i 0,.i 0] ∧ Sf t u':=by
 obtain ⟨e1,s1⟩:=j8H (e:=e) (b:=b) f u [] ds hs (by simpa using hf) h
 simp only [List.map_nil,jg] at e1
 refine ⟨?_,s1⟩
 rw [Z3]
 simp only [qL,qI,qS,qB,QO,List.getD_cons_zero,List.getD_cons_succ,DC.bb_b,DC.ii_i,DC.ss_s,DC.ll_sl,List.length_map,beq_self_eq_true,bne_self_eq_false,if_true,eq_self,and_self,Bool.false_eq_true,if_false,ja,j9,Out.bindR_ret,je,jc,e1]
theorem jfx {u u':List Tk} {d:TInDef} (hs:Sf t u) (h:pIn u=some (d,u')):Kd [.sl (t.map TToken.enc),.i (ix t u),.i e,.i 0,.i 0] = .ret [.s d.name,.s d.desc,.s d.type'.name,.s d.type'.wraps,.b d.has',.i d.default'.kind,.s d.default'.text,.sl (d.default'.items.map TValue.enc),.sl (d.default'.names.map S1),.sl (d.dirs.map TDir.enc),.sl (t.map TToken.enc),.i (ix t u'),.i e,.i 0,.i 0] ∧ Sf t u':=by
 unfold pIn at h
 split at h
 ·simp at h
 ·rename_i h5
  have h5:isK u 5=false:=by simpa using h5
  have hD:=j2A (e:=e) hs h5
  simp only [Option.bind_eq_some_iff] at h
  obtain ⟨⟨n,u1⟩,h1,u2,h2,⟨ty,u3⟩,h3,h4⟩:=h
  obtain ⟨e1,s1⟩:=Js (e:=e) hs h1
  have h2':Kx u1 [58]=true ∧ u2=u1.tail:=by
   unfold j4b at h2
   split at h2
   ·rename_i hh
    simp only [j8] at h2
    exact ⟨hh,h2.symm⟩
   ·simp at h2
  obtain ⟨h58,rfl⟩:=h2'
  have e2:=j7l (e:=e) s1 h58
  have s2:=(kC s1 (kL h58)).2
  obtain ⟨e3,s3⟩:=jdy (e:=e) s2 h3
  rw [j0z]
  split at h4
  ·rename_i h61
   have hO:=Ym (e:=e) s3 h61
   have s4:=(kC s3 (kL h61)).2
   simp only [Option.bind_eq_some_iff,Option.map_eq_some_iff,ji] at h4
   obtain ⟨⟨v,u4⟩,h6,⟨ds,u5⟩,h7,rfl,rfl⟩:=h4
   obtain ⟨e4,s5⟩:=jdx (e:=e) (b:=true) (n:=10) s4 h6
   obtain ⟨e5,s6⟩:=KY (e:=e) (b:=true) s5 (by decide) h7
   exact ⟨by simp only [qL,qI,qS,qB,Kn,List.getD_cons_zero,List.getD_cons_succ,DC.bb_b,DC.ii_i,DC.ss_s,DC.ll_sl,List.length_map,beq_self_eq_true,bne_self_eq_false,if_true,eq_self,and_self,Bool.false_eq_true,if_false,ja,j9,Out.bindR_ret,je,jc,hD,e1,e2,e3,hO,e4,e5],s6⟩
  ·rename_i h61
   have h61:Kx u3 [61]=false:=by simpa using h61
   have hO:=JV (e:=e) s3 h61
   simp only [Option.map_eq_some_iff,ji] at h4
   obtain ⟨⟨ds,u5⟩,h7,rfl,rfl⟩:=h4
   obtain ⟨e5,s6⟩:=KY (e:=e) (b:=true) s3 (by decide) h7
   exact ⟨by simp only [qL,qI,qS,qB,Kn,List.getD_cons_zero,List.getD_cons_succ,DC.bb_b,DC.ii_i,DC.ss_s,DC.ll_sl,List.length_map,beq_self_eq_true,bne_self_eq_false,if_true,eq_self,and_self,Bool.false_eq_true,if_false,ja,j9,Out.bindR_ret,je,jc,hD,e1,e2,e3,hO,e5,List.map_nil],s6⟩
theorem j9W {shut:List UInt8} {u':List Tk}:∀ (f:Nat) (u:List Tk) (acc ds:List TInDef),Sf t u → acc.length + f ≤ 100 → j5Z shut f u=some (ds,u') →
  jy yf [.s shut,.sl (acc.map TInDef.enc),.sl (t.map TToken.enc),.i (ix t u),.i e,.i 0,.i 0] = .ex 0 [.sl ((acc ++ ds).map TInDef.enc),.sl (t.map TToken.enc),.i (ix t u'),.i e,.i 0,.i 0] ∧ Sf t u':=by
 intro f
 induction f with
 | zero=>intro u acc ds hs hl h; simp [j5Z] at h
 | succ f ih =>
  intro u acc ds hs hl h
  rw [j5Z] at h
  simp only [Option.bind_eq_some_iff] at h
  obtain ⟨⟨d,u1⟩,h1,h2⟩:=h
  have hlim:=Y9 (n:=acc.length) (by omega)
  obtain ⟨e1,s1⟩:=jfx (e:=e) hs h1
  split at h2
  ·rename_i hS
   have hO:=Ym (e:=e) s1 hS
   simp only [j8,ji] at h2
   obtain ⟨rfl,rfl⟩:=h2
   exact ⟨jK (by simp only [qL,qI,qS,qB,yf,List.getD_cons_zero,List.getD_cons_succ,DC.bb_b,DC.ii_i,DC.ss_s,DC.ll_sl,List.length_map,beq_self_eq_true,bne_self_eq_false,if_true,eq_self,and_self,Bool.false_eq_true,if_false,ja,j9,Out.bindR_ret,je,jc,n01,e1,hO,jb,jf,Nat.zero_add,hlim,List.map_append,js,List.map_nil,TInDef.enc_eq]),(kC s1 (kL hS)).2⟩
  ·rename_i hS
   have hS:Kx u1 shut=false:=by simpa using hS
   have hO:=JV (e:=e) s1 hS
   simp only [Option.map_eq_some_iff,ji] at h2
   obtain ⟨⟨ds1,u2⟩,h3,rfl,rfl⟩:=h2
   obtain ⟨e2,s2⟩:=ih u1 (acc ++ [d]) ds1 s1 (by rw [jj]; simp only [jb,jf]; omega) h3
   refine ⟨(jH ?_).trans (e2.trans (by simp)),s2⟩
   simp only [qL,qI,qS,qB,yf,List.getD_cons_zero,List.getD_cons_succ,DC.bb_b,DC.ii_i,DC.ss_s,DC.ll_sl,List.length_map,beq_self_eq_true,bne_self_eq_false,if_true,eq_self,and_self,Bool.false_eq_true,if_false,ja,j9,Out.bindR_ret,je,jc,n01,e1,hO,jb,jf,Nat.zero_add,hlim,List.map_append,js,List.map_nil,TInDef.enc_eq]
theorem jad {u u':List Tk} {o c:List UInt8} {ds:List TInDef} (hs:Sf t u) (h:j9D o c u=some (ds,u')):qQ [.s o,.s c,.sl (t.map TToken.enc),.i (ix t u),.i e,.i 0,.i 0] = .ret [.sl (ds.map TInDef.enc),.sl (t.map TToken.enc),.i (ix t u'),.i e,.i 0,.i 0] ∧ Sf t u':=by
 unfold j9D at h
 rw [ZQ]
 split at h
 ·rename_i hS
  have hO:=Ym (e:=e) hs hS
  obtain ⟨e1,s1⟩:=j9W (e:=e) 20 u.tail [] ds (kC hs (kL hS)).2 (by simp) h
  simp only [List.map_nil,jg] at e1
  exact ⟨by simp only [qL,qI,qS,qB,JZ,List.getD_cons_zero,List.getD_cons_succ,DC.bb_b,DC.ii_i,DC.ss_s,DC.ll_sl,List.length_map,beq_self_eq_true,bne_self_eq_false,if_true,eq_self,and_self,Bool.false_eq_true,if_false,ja,j9,Out.bindR_ret,je,jc,hO,e1],s1⟩
 ·rename_i hS
  have hS:Kx u o=false:=by simpa using hS
  have hO:=JV (e:=e) hs hS
  simp only [j8,ji] at h
  obtain ⟨rfl,rfl⟩:=h
  exact ⟨by simp only [qL,qI,qS,qB,JZ,List.getD_cons_zero,List.getD_cons_succ,DC.bb_b,DC.ii_i,DC.ss_s,DC.ll_sl,List.length_map,beq_self_eq_true,bne_self_eq_false,if_true,eq_self,and_self,Bool.false_eq_true,if_false,ja,j9,Out.bindR_ret,je,jc,hO,List.map_nil],hs⟩
theorem j5Y {s:List UInt8} {u u':List Tk} (h:j4b s u=some u'):Kx u s=true ∧ u'=u.tail:=by
 unfold j4b at h
 split at h
 ·rename_i hh
  simp only [j8] at h
  exact ⟨hh,h.symm⟩
 ·simp at h
theorem j6i {u':List Tk}:∀ (f:Nat) (u:List Tk) (acc ds:List TFieldDef),Sf t u → acc.length + f ≤ 100 → Y5 f u=some (ds,u') →
  jy qn [.sl (acc.map TFieldDef.enc),.sl (t.map TToken.enc),.i (ix t u),.i e,.i 0,.i 0] = .ex 0 [.sl ((acc ++ ds).map TFieldDef.enc),.sl (t.map TToken.enc),.i (ix t u'),.i e,.i 0,.i 0] ∧ Sf t u':=by
 intro f
 induction f with
 | zero=>intro u acc ds hs hl h; simp [Y5] at h
 | succ f ih =>
  intro u acc ds hs hl h
  rw [Y5] at h
  simp only [Option.bind_eq_some_iff] at h
  obtain ⟨⟨d,u1⟩,h1,h2⟩:=h
  have hlim:=Y9 (n:=acc.length) (by omega)
  unfold j9E at h1
  split at h1
  ·simp at h1
  rename_i h5
  have h5:isK u 5=false:=by simpa using h5
  have hD:=j2A (e:=e) hs h5
  simp only [Option.bind_eq_some_iff,Option.map_eq_some_iff,ji] at h1
  obtain ⟨⟨n,v1⟩,k1,⟨as',v2⟩,k2,v3,k3,⟨ty,v4⟩,k4,⟨dd,v5⟩,k5,rfl,rfl⟩:=h1
  obtain ⟨e1,s1⟩:=Js (e:=e) hs k1
  obtain ⟨e2,s2⟩:=jad (e:=e) s1 k2
  obtain ⟨q3,rfl⟩:=j5Y k3
  have e3:=j7l (e:=e) s2 q3
  have s3:=(kC s2 (kL q3)).2
  obtain ⟨e4,s4⟩:=jdy (e:=e) s3 k4
  obtain ⟨e5,s1⟩:=KY (e:=e) (b:=true) s4 (by decide) k5
  split at h2
  ·rename_i hS
   have hO:=Ym (e:=e) s1 hS
   simp only [j8,ji] at h2
   obtain ⟨rfl,rfl⟩:=h2
   exact ⟨jK (by simp only [qL,qI,qS,qB,qn,List.getD_cons_zero,List.getD_cons_succ,DC.bb_b,DC.ii_i,DC.ss_s,DC.ll_sl,List.length_map,beq_self_eq_true,bne_self_eq_false,if_true,eq_self,and_self,Bool.false_eq_true,if_false,ja,j9,Out.bindR_ret,je,jc,n01,hD,e1,e2,e3,e4,e5,hO,jb,jf,Nat.zero_add,hlim,List.map_append,js,List.map_nil,TFieldDef.enc_eq]),(kC s1 (kL hS)).2⟩
  ·rename_i hS
   have hS:Kx v5 [125]=false:=by simpa using hS
   have hO:=JV (e:=e) s1 hS
   simp only [Option.map_eq_some_iff,ji] at h2
   obtain ⟨⟨ds1,u2⟩,h3,rfl,rfl⟩:=h2
   obtain ⟨e9,s9⟩:=ih v5 (acc ++ [⟨n,[],as',ty,dd⟩]) ds1 s1 (by rw [jj]; simp only [jb,jf]; omega) h3
   refine ⟨(jH ?_).trans (e9.trans (by simp)),s9⟩
   simp only [qL,qI,qS,qB,qn,List.getD_cons_zero,List.getD_cons_succ,DC.bb_b,DC.ii_i,DC.ss_s,DC.ll_sl,List.length_map,beq_self_eq_true,bne_self_eq_false,if_true,eq_self,and_self,Bool.false_eq_true,if_false,ja,j9,Out.bindR_ret,je,jc,n01,hD,e1,e2,e3,e4,e5,hO,jb,jf,Nat.zero_add,hlim,List.map_append,js,List.map_nil,TFieldDef.enc_eq]
theorem j0J {u u':List Tk} {ds:List TFieldDef} (hs:Sf t u) (h:j2w u=some (ds,u')):zv [.sl (t.map TToken.enc),.i (ix t u),.i e,.i 0,.i 0] = .ret [.sl (ds.map TFieldDef.enc),.sl (t.map TToken.enc),.i (ix t u'),.i e,.i 0,.i 0] ∧ Sf t u':=by
 unfold j2w at h
 rw [XO]
 split at h
 ·rename_i hS
  have hO:=Ym (e:=e) hs hS
  obtain ⟨e1,s1⟩:=j6i (e:=e) 20 u.tail [] ds (kC hs (kL hS)).2 (by simp) h
  simp only [List.map_nil,jg] at e1
  exact ⟨by simp only [qL,qI,qS,qB,zK,List.getD_cons_zero,List.getD_cons_succ,DC.bb_b,DC.ii_i,DC.ss_s,DC.ll_sl,List.length_map,beq_self_eq_true,bne_self_eq_false,if_true,eq_self,and_self,Bool.false_eq_true,if_false,ja,j9,Out.bindR_ret,je,jc,hO,e1],s1⟩
 ·rename_i hS
  have hS:Kx u [123]=false:=by simpa using hS
  have hO:=JV (e:=e) hs hS
  simp only [j8,ji] at h
  obtain ⟨rfl,rfl⟩:=h
  exact ⟨by simp only [qL,qI,qS,qB,zK,List.getD_cons_zero,List.getD_cons_succ,DC.bb_b,DC.ii_i,DC.ss_s,DC.ll_sl,List.length_map,beq_self_eq_true,bne_self_eq_false,if_true,eq_self,and_self,Bool.false_eq_true,if_false,ja,j9,Out.bindR_ret,je,jc,hO,List.map_nil],hs⟩
theorem jfw {w:List UInt8} (h:wrd w=false):V4 [.s w] = .ret [.b false]:=by
 unfold wrd at h
 simp only [Bool.or_eq_false_iff] at h
 obtain ⟨⟨h1,h2⟩,h3⟩:=h
 rw [j5c]
 simp only [qL,qI,qS,qB,j1P,List.getD_cons_zero,List.getD_cons_succ,DC.bb_b,DC.ii_i,DC.ss_s,DC.ll_sl,List.length_map,beq_self_eq_true,bne_self_eq_false,if_true,eq_self,and_self,Bool.false_eq_true,if_false,ja,j9,Out.bindR_ret,je,jc,h1,h2,h3]
theorem j7G {u u':List Tk} {n:List UInt8} (h:Jv u=some (n,u')):∃ k,u=k :: u' ∧ k.1=2 ∧ k.2=n:=by
 cases u with
 | nil=>simp [Jv] at h
 | cons k u =>
  rw [Jv] at h
  split at h
  ·rename_i hk
   simp only [j8,ji] at h
   obtain ⟨rfl,rfl⟩:=h
   exact ⟨k,rfl,by simpa using hk,rfl⟩
  ·simp at h
theorem j7i {u':List Tk}:∀ (f:Nat) (u:List Tk) (acc ds:List TEnumDef),Sf t u → acc.length + f ≤ 100 → j0b f u=some (ds,u') →
  jy ql [.sl (acc.map TEnumDef.enc),.sl (t.map TToken.enc),.i (ix t u),.i e,.i 0,.i 0] = .ex 0 [.sl ((acc ++ ds).map TEnumDef.enc),.sl (t.map TToken.enc),.i (ix t u'),.i e,.i 0,.i 0] ∧ Sf t u':=by
 intro f
 induction f with
 | zero=>intro u acc ds hs hl h; simp [j0b] at h
 | succ f ih =>
  intro u acc ds hs hl h
  rw [j0b] at h
  simp only [Option.bind_eq_some_iff] at h
  obtain ⟨⟨d,u1⟩,h1,h2⟩:=h
  have hlim:=Y9 (n:=acc.length) (by omega)
  unfold jba at h1
  split at h1
  ·simp at h1
  rename_i h5
  have h5:isK u 5=false:=by simpa using h5
  have hD:=j2A (e:=e) hs h5
  simp only [Option.bind_eq_some_iff] at h1
  obtain ⟨⟨n,v1⟩,k1,k2⟩:=h1
  obtain ⟨e1,s0⟩:=Js (e:=e) hs k1
  obtain ⟨k,hk,hk1,hk2⟩:=j7G k1
  split at k2
  ·simp at k2
  rename_i hW
  have hW:wrd n=false:=by simpa using hW
  simp only [Option.map_eq_some_iff,ji] at k2
  obtain ⟨⟨dd,v5⟩,k5,rfl,rfl⟩:=k2
  obtain ⟨e5,s1⟩:=KY (e:=e) (b:=true) s0 (by decide) k5
  have hK:=j3p (e:=e) hs 2
  have hK2:isK u 2=true:=by rw [hk]; simp [isK,hk1]
  obtain ⟨h0,hlt,⟨z,hg⟩,_,_⟩:=J8 (hk ▸ hs)
  rw [← hk,hk2] at hg
  rw [← hk] at h0 hlt
  have hw:=jfw hW
  split at h2
  ·rename_i hS
   have hO:=Ym (e:=e) s1 hS
   simp only [j8,ji] at h2
   obtain ⟨rfl,rfl⟩:=h2
   exact ⟨jK (by simp only [qL,qI,qS,qB,ql,List.getD_cons_zero,List.getD_cons_succ,DC.bb_b,DC.ii_i,DC.ss_s,DC.ll_sl,List.length_map,beq_self_eq_true,bne_self_eq_false,if_true,eq_self,and_self,Bool.false_eq_true,if_false,ja,j9,Out.bindR_ret,je,jc,n01,hD,hK,hK2,h0,hlt,hg,hw,e1,e5,hO,jb,jf,Nat.zero_add,hlim,List.map_append,js,List.map_nil,TEnumDef.enc_eq]),(kC s1 (kL hS)).2⟩
  ·rename_i hS
   have hS:Kx v5 [125]=false:=by simpa using hS
   have hO:=JV (e:=e) s1 hS
   simp only [Option.map_eq_some_iff,ji] at h2
   obtain ⟨⟨ds1,u2⟩,h3,rfl,rfl⟩:=h2
   obtain ⟨e9,s9⟩:=ih v5 (acc ++ [⟨n,[],dd⟩]) ds1 s1 (by rw [jj]; simp only [jb,jf]; omega) h3
   refine ⟨(jH ?_).trans (e9.trans (by simp)),s9⟩
   simp only [qL,qI,qS,qB,ql,List.getD_cons_zero,List.getD_cons_succ,DC.bb_b,DC.ii_i,DC.ss_s,DC.ll_sl,List.length_map,beq_self_eq_true,bne_self_eq_false,if_true,eq_self,and_self,Bool.false_eq_true,if_false,ja,j9,Out.bindR_ret,je,jc,n01,hD,hK,hK2,h0,hlt,hg,hw,e1,e5,hO,jb,jf,Nat.zero_add,hlim,List.map_append,js,List.map_nil,TEnumDef.enc_eq]
theorem jb6 {u u':List Tk} {ds:List TEnumDef} (hs:Sf t u) (h:j76 u=some (ds,u')):zr [.sl (t.map TToken.enc),.i (ix t u),.i e,.i 0,.i 0] = .ret [.sl (ds.map TEnumDef.enc),.sl (t.map TToken.enc),.i (ix t u'),.i e,.i 0,.i 0] ∧ Sf t u':=by
 unfold j76 at h
 rw [XM]
 split at h
 ·rename_i hS
  have hO:=Ym (e:=e) hs hS
  obtain ⟨e1,s1⟩:=j7i (e:=e) 20 u.tail [] ds (kC hs (kL hS)).2 (by simp) h
  simp only [List.map_nil,jg] at e1
  exact ⟨by simp only [qL,qI,qS,qB,zJ,List.getD_cons_zero,List.getD_cons_succ,DC.bb_b,DC.ii_i,DC.ss_s,DC.ll_sl,List.length_map,beq_self_eq_true,bne_self_eq_false,if_true,eq_self,and_self,Bool.false_eq_true,if_false,ja,j9,Out.bindR_ret,je,jc,hO,e1],s1⟩
 ·rename_i hS
  have hS:Kx u [123]=false:=by simpa using hS
  have hO:=JV (e:=e) hs hS
  simp only [j8,ji] at h
  obtain ⟨rfl,rfl⟩:=h
  exact ⟨by simp only [qL,qI,qS,qB,zJ,List.getD_cons_zero,List.getD_cons_succ,DC.bb_b,DC.ii_i,DC.ss_s,DC.ll_sl,List.length_map,beq_self_eq_true,bne_self_eq_false,if_true,eq_self,and_self,Bool.false_eq_true,if_false,ja,j9,Out.bindR_ret,je,jc,hO,List.map_nil],hs⟩
theorem j7b {s:List UInt8} {ok:List UInt8 → Bool} {u':List Tk}:∀ (f:Nat) (u:List Tk) (acc ds:List (List UInt8)),Sf t u → acc.length + f ≤ 100 → V7 s ok f u=some (ds,u') →
  jy qC [.s s,.sl (acc.map S1),.sl (t.map TToken.enc),.i (ix t u),.i e,.i 0,.i 0] = .ex 0 [.sl ((acc ++ ds).map S1),.sl (t.map TToken.enc),.i (ix t u'),.i e,.i 0,.i 0] ∧ Sf t u':=by
 intro f
 induction f with
 | zero=>intro u acc ds hs hl h; simp [V7] at h
 | succ f ih =>
  intro u acc ds hs hl h
  rw [V7] at h
  simp only [Option.bind_eq_some_iff] at h
  obtain ⟨⟨n,u1⟩,h1,h2⟩:=h
  obtain ⟨e1,s1⟩:=Js (e:=e) hs h1
  have hlim:=Y9 (n:=acc.length) (by omega)
  split at h2
  ·split at h2
   ·rename_i hS
    have hO:=Ym (e:=e) s1 hS
    simp only [Option.map_eq_some_iff,ji] at h2
    obtain ⟨⟨ds1,u2⟩,h3,rfl,rfl⟩:=h2
    obtain ⟨e2,s2⟩:=ih u1.tail (acc ++ [n]) ds1 (kC s1 (kL hS)).2 (by rw [jj]; simp only [jb,jf]; omega) h3
    refine ⟨(jH ?_).trans (e2.trans (by simp)),s2⟩
    simp only [qL,qI,qS,qB,qC,List.getD_cons_zero,List.getD_cons_succ,DC.bb_b,DC.ii_i,DC.ss_s,DC.ll_sl,List.length_map,beq_self_eq_true,bne_self_eq_false,if_true,eq_self,and_self,Bool.false_eq_true,if_false,ja,j9,Out.bindR_ret,je,jc,n01,e1,hO,jb,jf,Nat.zero_add,hlim,List.map_append,js,List.map_nil,S1]
   ·rename_i hS
    have hS:Kx u1 s=false:=by simpa using hS
    have hO:=JV (e:=e) s1 hS
    simp only [j8,ji] at h2
    obtain ⟨rfl,rfl⟩:=h2
    exact ⟨jK (by simp only [qL,qI,qS,qB,qC,List.getD_cons_zero,List.getD_cons_succ,DC.bb_b,DC.ii_i,DC.ss_s,DC.ll_sl,List.length_map,beq_self_eq_true,bne_self_eq_false,if_true,eq_self,and_self,Bool.false_eq_true,if_false,ja,j9,Out.bindR_ret,je,jc,n01,e1,hO,jb,jf,Nat.zero_add,hlim,List.map_append,js,List.map_nil,S1]),s1⟩
  ·simp at h2
theorem j5i {s:List UInt8} {ok:List UInt8 → Bool} {u u':List Tk} {ds:List (List UInt8)} (hs:Sf t u) (h:Y4 s ok u=some (ds,u')):yc [.s s,.sl (t.map TToken.enc),.i (ix t u),.i e,.i 0,.i 0] = .ret [.sl (ds.map S1),.sl (t.map TToken.enc),.i (ix t u'),.i e,.i 0,.i 0] ∧ Sf t u':=by
 unfold Y4 at h
 split at h
 ·simp at h
 rename_i hS
 have hS:Kx u s=false:=by simpa using hS
 have hO:=JV (e:=e) hs hS
 obtain ⟨e1,s1⟩:=j7b (e:=e) 20 u [] ds hs (by simp) h
 simp only [List.map_nil,jg] at e1
 refine ⟨?_,s1⟩
 rw [Yb]
 simp only [qL,qI,qS,qB,Q8,List.getD_cons_zero,List.getD_cons_succ,DC.bb_b,DC.ii_i,DC.ss_s,DC.ll_sl,List.length_map,beq_self_eq_true,bne_self_eq_false,if_true,eq_self,and_self,Bool.false_eq_true,if_false,ja,j9,Out.bindR_ret,je,jc,hO,e1]
theorem jb4 {w:List UInt8} (h:j9z w=true):Qz [.s w] = .ret [.b true]:=by
 unfold j9z at h
 simp only [Bool.or_eq_true,beq_iff_eq] at h
 rcases h with h | h
 all_goals
  subst h
  rw [j2j]
  kernel_rfl
theorem j5U {u':List Tk}:∀ (f:Nat) (u:List Tk) (acc ds:List (List UInt8)),Sf t u → acc.length + f ≤ 100 → V7 [124] j9z f u=some (ds,u') →
  jy qm [.sl (acc.map S1),.sl (t.map TToken.enc),.i (ix t u),.i e,.i 0,.i 0] = .ex 0 [.sl ((acc ++ ds).map S1),.sl (t.map TToken.enc),.i (ix t u'),.i e,.i 0,.i 0] ∧ Sf t u':=by
 intro f
 induction f with
 | zero=>intro u acc ds hs hl h; simp [V7] at h
 | succ f ih =>
  intro u acc ds hs hl h
  rw [V7] at h
  simp only [Option.bind_eq_some_iff] at h
  obtain ⟨⟨n,u1⟩,h1,h2⟩:=h
  obtain ⟨e1,s1⟩:=Js (e:=e) hs h1
  obtain ⟨k,hk,hk1,hk2⟩:=j7G h1
  have hK:=j3p (e:=e) hs 2
  have hK2:isK u 2=true:=by rw [hk]; simp [isK,hk1]
  obtain ⟨h0,hlt,⟨z,hg⟩,_,_⟩:=J8 (hk ▸ hs)
  rw [← hk,hk2] at hg
  rw [← hk] at h0 hlt
  have hlim:=Y9 (n:=acc.length) (by omega)
  split at h2
  ·rename_i hP
   have hp:=jb4 hP
   split at h2
   ·rename_i hS
    have hO:=Ym (e:=e) s1 hS
    simp only [Option.map_eq_some_iff,ji] at h2
    obtain ⟨⟨ds1,u2⟩,h3,rfl,rfl⟩:=h2
    obtain ⟨e2,s2⟩:=ih u1.tail (acc ++ [n]) ds1 (kC s1 (kL hS)).2 (by rw [jj]; simp only [jb,jf]; omega) h3
    refine ⟨(jH ?_).trans (e2.trans (by simp)),s2⟩
    simp only [qL,qI,qS,qB,qm,List.getD_cons_zero,List.getD_cons_succ,DC.bb_b,DC.ii_i,DC.ss_s,DC.ll_sl,List.length_map,beq_self_eq_true,bne_self_eq_false,if_true,eq_self,and_self,Bool.false_eq_true,if_false,ja,j9,Out.bindR_ret,je,jc,n01,hK,hK2,h0,hlt,hg,hp,e1,hO,jb,jf,Nat.zero_add,hlim,List.map_append,js,List.map_nil,S1]
   ·rename_i hS
    have hS:Kx u1 [124]=false:=by simpa using hS
    have hO:=JV (e:=e) s1 hS
    simp only [j8,ji] at h2
    obtain ⟨rfl,rfl⟩:=h2
    exact ⟨jK (by simp only [qL,qI,qS,qB,qm,List.getD_cons_zero,List.getD_cons_succ,DC.bb_b,DC.ii_i,DC.ss_s,DC.ll_sl,List.length_map,beq_self_eq_true,bne_self_eq_false,if_true,eq_self,and_self,Bool.false_eq_true,if_false,ja,j9,Out.bindR_ret,je,jc,n01,hK,hK2,h0,hlt,hg,hp,e1,hO,jb,jf,Nat.zero_add,hlim,List.map_append,js,List.map_nil,S1]),s1⟩
  ·simp at h2
theorem j6w {u u':List Tk} {ds:List (List UInt8)} (hs:Sf t u) (h:Y4 [124] j9z u=some (ds,u')):zu [.sl (t.map TToken.enc),.i (ix t u),.i e,.i 0,.i 0] = .ret [.sl (ds.map S1),.sl (t.map TToken.enc),.i (ix t u'),.i e,.i 0,.i 0] ∧ Sf t u':=by
 unfold Y4 at h
 split at h
 ·simp at h
 rename_i hS
 have hS:Kx u [124]=false:=by simpa using hS
 have hO:=JV (e:=e) hs hS
 obtain ⟨e1,s1⟩:=j5U (e:=e) 20 u [] ds hs (by simp) h
 simp only [List.map_nil,jg] at e1
 refine ⟨?_,s1⟩
 rw [XN]
 simp only [qL,qI,qS,qB,KM,List.getD_cons_zero,List.getD_cons_succ,DC.bb_b,DC.ii_i,DC.ss_s,DC.ll_sl,List.length_map,beq_self_eq_true,bne_self_eq_false,if_true,eq_self,and_self,Bool.false_eq_true,if_false,ja,j9,Out.bindR_ret,je,jc,hO,e1]
end
section
variable {t:List TToken} {e:Int}
theorem jcd (i:Nat) (h1:1 ≤ i) (h2:i ≤ 8):Qw [.i (i:Int)] = .ret [.s (kw.getD (i - 1) [])]:=by
 rw [j27]
 have:i=1 ∨ i=2 ∨ i=3 ∨ i=4 ∨ i=5 ∨ i=6 ∨ i=7 ∨ i=8:=by omega
 rcases this with rfl | rfl | rfl | rfl | rfl | rfl | rfl | rfl <;> rfl
theorem jai {u:List Tk} (hs:Sf t u):∀ (f i:Nat),f + i=9 → 1 ≤ i → jy pK [.i (i:Int),.sl (t.map TToken.enc),.i (ix t u),.i e,.i 0,.i 0]=if ZC f i u=0 then .ex 0 [.sl (t.map TToken.enc),.i (ix t u),.i e,.i 0,.i 0] else .ret [.i (ZC f i u:Int),.sl (t.map TToken.enc),.i (ix t u),.i e,.i 0,.i 0]:=by
 intro f
 induction f with
 | zero =>
  intro i hi h1
  have h9:¬ (i:Int) ≤ 8:=by omega
  rw [ZC,if_pos rfl]
  exact jK (by simp only [qL,qI,qS,qB,pK,List.getD_cons_zero,List.getD_cons_succ,DC.bb_b,DC.ii_i,DC.ss_s,DC.ll_sl,List.length_map,beq_self_eq_true,bne_self_eq_false,if_true,eq_self,and_self,Bool.false_eq_true,if_false,ja,j9,Out.bindR_ret,je,jc,h9,decide_false])
 | succ f ih =>
  intro i hi h1
  have h9:(i:Int) ≤ 8:=by omega
  have hk:=jcd i h1 (by omega)
  have hW:=JU (e:=e) hs (kw.getD (i - 1) [])
  rw [ZC]
  cases hb:isW u (kw.getD (i - 1) []) with
  | true =>
   rw [hb] at hW
   have hi0:¬ i=0:=by omega
   simp only [if_true,hi0,if_false]
   exact yS (by simp only [qL,qI,qS,qB,pK,List.getD_cons_zero,List.getD_cons_succ,DC.bb_b,DC.ii_i,DC.ss_s,DC.ll_sl,List.length_map,beq_self_eq_true,bne_self_eq_false,if_true,eq_self,and_self,Bool.false_eq_true,if_false,ja,j9,Out.bindR_ret,je,jc,h9,decide_true,hk,hW])
  | false =>
   rw [hb] at hW
   simp only [Bool.false_eq_true,if_false]
   rw [← ih (i + 1) (by omega) (by omega)]
   have hw:IntKind.i64.wrap ((i:Int) + 1)=((i + 1:Nat):Int):=by rw [IntKind.wrap_i64]; omega
   exact jH (by simp only [qL,qI,qS,qB,pK,List.getD_cons_zero,List.getD_cons_succ,DC.bb_b,DC.ii_i,DC.ss_s,DC.ll_sl,List.length_map,beq_self_eq_true,bne_self_eq_false,if_true,eq_self,and_self,Bool.false_eq_true,if_false,ja,j9,Out.bindR_ret,je,jc,h9,decide_true,hk,hW,hw])
theorem j6y {u:List Tk} (hs:Sf t u):jX [.sl (t.map TToken.enc),.i (ix t u),.i e,.i 0,.i 0] = .ret [.i (Zc u:Int),.sl (t.map TToken.enc),.i (ix t u),.i e,.i 0,.i 0]:=by
 have h:=jai (e:=e) hs 8 1 rfl (Nat.le_refl _)
 have h':jy pK [.i (1:Int),.sl (t.map TToken.enc),.i (ix t u),.i e,.i 0,.i 0]=if Zc u=0 then .ex 0 [.sl (t.map TToken.enc),.i (ix t u),.i e,.i 0,.i 0] else .ret [.i (Zc u:Int),.sl (t.map TToken.enc),.i (ix t u),.i e,.i 0,.i 0]:=h
 rw [j0A]
 by_cases h0:Zc u=0
 ·rw [if_pos h0] at h'
  simp only [qL,qI,qS,qB,Ko,List.getD_cons_zero,List.getD_cons_succ,DC.bb_b,DC.ii_i,DC.ss_s,DC.ll_sl,List.length_map,beq_self_eq_true,bne_self_eq_false,if_true,eq_self,and_self,Bool.false_eq_true,if_false,ja,j9,Out.bindR_ret,je,jc,h',h0]
  rfl
 ·rw [if_neg h0] at h'
  simp only [qL,qI,qS,qB,Ko,List.getD_cons_zero,List.getD_cons_succ,DC.bb_b,DC.ii_i,DC.ss_s,DC.ll_sl,List.length_map,beq_self_eq_true,bne_self_eq_false,if_true,eq_self,and_self,Bool.false_eq_true,if_false,ja,j9,Out.bindR_ret,je,jc,h']
theorem j8A {u:List Tk} (h:Zc u ≠ 0):∃ k u1,u=k :: u1:=by
 cases u with
 | nil=>exact absurd rfl h
 | cons k u=>exact ⟨k,u,rfl⟩
theorem jbN {u:List Tk} {desc:List UInt8} (hs:Sf t u) (hx:isW u [101,120,116,101,110,100]=false):kk [.s [101,120,116,101,110,100],.sl (t.map TToken.enc),.i (ix t u),.i e,.i 0,.i 0] = .ret [.b false,.sl (t.map TToken.enc),.i (ix t u),.i e,.i 0,.i 0]:=by
 rw [JU hs,hx]
theorem jbh {u u':List Tk} {desc:List UInt8} {d:TDef} (hs:Sf t u) (hx:isW u [101,120,116,101,110,100]=false) (h:jaO desc u=some (d,u')):JJ [.s desc,.sl (t.map TToken.enc),.i (ix t u),.i e,.i 0,.i 0] = .ret [.i d.kind,.b d.ext,.s d.desc,.s d.name,.sl (d.faces.map S1),.sl (d.fields.map TFieldDef.enc),.sl (d.inputs.map TInDef.enc),.sl (d.values.map TEnumDef.enc),.sl (d.roots.map TRoot.enc),.b d.repeat',.sl (d.dirs.map TDir.enc),.sl (t.map TToken.enc),.i (ix t u'),.i e,.i 0,.i 0] ∧ Sf t u' ∧ d.ext=false ∧ d.kind ≠ 8:=by
 have hE:=jbN (e:=e) (desc:=desc) hs hx
 have hB:=j6y (e:=e) hs
 unfold jaO at h
 have hcons:=fun (h0:Zc u ≠ 0)=>kC hs (j8A h0)
 have hd0:(desc == ([]:List UInt8))=true ∨ (desc == ([]:List UInt8))=false:=by cases desc == ([]:List UInt8) <;> simp
 rw [Xy]
 generalize hk:Zc u=n at h hB hcons
 match n,h with
 | 0,h=>simp at h
 | 1,h =>
  obtain ⟨hw,hs0⟩:=hcons (by decide)
  simp only [Option.bind_eq_some_iff,Option.map_eq_some_iff,ji] at h
  have hB':jX [.sl (t.map TToken.enc),.i (ix t u),.i e,.i 0,.i 0] = .ret [.i 1,.sl (t.map TToken.enc),.i (ix t u),.i e,.i 0,.i 0]:=hB
  obtain ⟨⟨n,u1⟩,h1,⟨ds,u2⟩,h2,rfl,rfl⟩:=h
  obtain ⟨e1,s1⟩:=Js (e:=e) hs0 h1
  obtain ⟨e2,s2⟩:=KY (e:=e) (b:=true) s1 (by decide) h2
  refine ⟨?_,s2,rfl,by simp⟩
  rcases hd0 with hd0 | hd0
  ·simp only [qL,qI,qS,qB,jG,List.getD_cons_zero,List.getD_cons_succ,DC.bb_b,DC.ii_i,DC.ss_s,DC.ll_sl,List.length_map,beq_self_eq_true,bne_self_eq_false,if_true,eq_self,and_self,Bool.false_eq_true,if_false,ja,j9,Out.bindR_ret,je,jc,hd0,hE,hB',hw,Int.reduceBEq,Int.reduceBNe,e1,e2,List.map_nil]
  ·simp only [qL,qI,qS,qB,jG,List.getD_cons_zero,List.getD_cons_succ,DC.bb_b,DC.ii_i,DC.ss_s,DC.ll_sl,List.length_map,beq_self_eq_true,bne_self_eq_false,if_true,eq_self,and_self,Bool.false_eq_true,if_false,ja,j9,Out.bindR_ret,je,jc,hd0,hB',hw,Int.reduceBEq,Int.reduceBNe,e1,e2,List.map_nil]
 | 2,h =>
  obtain ⟨hw,hs0⟩:=hcons (by decide)
  simp only [Option.bind_eq_some_iff,Option.map_eq_some_iff,ji] at h
  have hB':jX [.sl (t.map TToken.enc),.i (ix t u),.i e,.i 0,.i 0] = .ret [.i 2,.sl (t.map TToken.enc),.i (ix t u),.i e,.i 0,.i 0]:=hB
  obtain ⟨⟨n,u1⟩,h1,⟨fc,u2⟩,h2,⟨ds,u3⟩,h3,⟨fd,u4⟩,h4,rfl,rfl⟩:=h
  obtain ⟨e1,s1⟩:=Js (e:=e) hs0 h1
  have hI:=JU (e:=e) s1 [105,109,112,108,101,109,101,110,116,115]
  cases hb:isW u1 [105,109,112,108,101,109,101,110,116,115] with
  | true =>
   rw [hb] at hI
   simp only [hb,if_true] at h2
   obtain ⟨w1,t1⟩:=kC s1 (Ya hb)
   obtain ⟨e2,s2⟩:=j5i (e:=e) t1 h2
   obtain ⟨e3,s3⟩:=KY (e:=e) (b:=true) s2 (by decide) h3
   obtain ⟨e4,s4⟩:=j0J (e:=e) s3 h4
   refine ⟨?_,s4,rfl,by simp⟩
   rcases hd0 with hd0 | hd0
   ·simp only [qL,qI,qS,qB,jG,List.getD_cons_zero,List.getD_cons_succ,DC.bb_b,DC.ii_i,DC.ss_s,DC.ll_sl,List.length_map,beq_self_eq_true,bne_self_eq_false,if_true,eq_self,and_self,Bool.false_eq_true,if_false,ja,j9,Out.bindR_ret,je,jc,hd0,hE,hB',hw,Int.reduceBEq,Int.reduceBNe,e1,hI,w1,e2,e3,e4,List.map_nil]
   ·simp only [qL,qI,qS,qB,jG,List.getD_cons_zero,List.getD_cons_succ,DC.bb_b,DC.ii_i,DC.ss_s,DC.ll_sl,List.length_map,beq_self_eq_true,bne_self_eq_false,if_true,eq_self,and_self,Bool.false_eq_true,if_false,ja,j9,Out.bindR_ret,je,jc,hd0,hB',hw,Int.reduceBEq,Int.reduceBNe,e1,hI,w1,e2,e3,e4,List.map_nil]
  | false =>
   rw [hb] at hI
   simp only [hb,Bool.false_eq_true,if_false,j8,ji] at h2
   obtain ⟨rfl,rfl⟩:=h2
   obtain ⟨e3,s3⟩:=KY (e:=e) (b:=true) s1 (by decide) h3
   obtain ⟨e4,s4⟩:=j0J (e:=e) s3 h4
   refine ⟨?_,s4,rfl,by simp⟩
   rcases hd0 with hd0 | hd0
   ·simp only [qL,qI,qS,qB,jG,List.getD_cons_zero,List.getD_cons_succ,DC.bb_b,DC.ii_i,DC.ss_s,DC.ll_sl,List.length_map,beq_self_eq_true,bne_self_eq_false,if_true,eq_self,and_self,Bool.false_eq_true,if_false,ja,j9,Out.bindR_ret,je,jc,hd0,hE,hB',hw,Int.reduceBEq,Int.reduceBNe,e1,hI,e3,e4,List.map_nil]
   ·simp only [qL,qI,qS,qB,jG,List.getD_cons_zero,List.getD_cons_succ,DC.bb_b,DC.ii_i,DC.ss_s,DC.ll_sl,List.length_map,beq_self_eq_true,bne_self_eq_false,if_true,eq_self,and_self,Bool.false_eq_true,if_false,ja,j9,Out.bindR_ret,je,jc,hd0,hB',hw,Int.reduceBEq,Int.reduceBNe,e1,hI,e3,e4,List.map_nil]
 | 3,h =>
  obtain ⟨hw,hs0⟩:=hcons (by decide)
  simp only [Option.bind_eq_some_iff,Option.map_eq_some_iff,ji] at h
  have hB':jX [.sl (t.map TToken.enc),.i (ix t u),.i e,.i 0,.i 0] = .ret [.i 3,.sl (t.map TToken.enc),.i (ix t u),.i e,.i 0,.i 0]:=hB
  obtain ⟨⟨n,u1⟩,h1,⟨fc,u2⟩,h2,⟨ds,u3⟩,h3,⟨fd,u4⟩,h4,rfl,rfl⟩:=h
  obtain ⟨e1,s1⟩:=Js (e:=e) hs0 h1
  have hI:=JU (e:=e) s1 [105,109,112,108,101,109,101,110,116,115]
  cases hb:isW u1 [105,109,112,108,101,109,101,110,116,115] with
  | true =>
   rw [hb] at hI
   simp only [hb,if_true] at h2
   obtain ⟨w1,t1⟩:=kC s1 (Ya hb)
   obtain ⟨e2,s2⟩:=j5i (e:=e) t1 h2
   obtain ⟨e3,s3⟩:=KY (e:=e) (b:=true) s2 (by decide) h3
   obtain ⟨e4,s4⟩:=j0J (e:=e) s3 h4
   refine ⟨?_,s4,rfl,by simp⟩
   rcases hd0 with hd0 | hd0
   ·simp only [qL,qI,qS,qB,jG,List.getD_cons_zero,List.getD_cons_succ,DC.bb_b,DC.ii_i,DC.ss_s,DC.ll_sl,List.length_map,beq_self_eq_true,bne_self_eq_false,if_true,eq_self,and_self,Bool.false_eq_true,if_false,ja,j9,Out.bindR_ret,je,jc,hd0,hE,hB',hw,Int.reduceBEq,Int.reduceBNe,e1,hI,w1,e2,e3,e4,List.map_nil]
   ·simp only [qL,qI,qS,qB,jG,List.getD_cons_zero,List.getD_cons_succ,DC.bb_b,DC.ii_i,DC.ss_s,DC.ll_sl,List.length_map,beq_self_eq_true,bne_self_eq_false,if_true,eq_self,and_self,Bool.false_eq_true,if_false,ja,j9,Out.bindR_ret,je,jc,hd0,hB',hw,Int.reduceBEq,Int.reduceBNe,e1,hI,w1,e2,e3,e4,List.map_nil]
  | false =>
   rw [hb] at hI
   simp only [hb,Bool.false_eq_true,if_false,j8,ji] at h2
   obtain ⟨rfl,rfl⟩:=h2
   obtain ⟨e3,s3⟩:=KY (e:=e) (b:=true) s1 (by decide) h3
   obtain ⟨e4,s4⟩:=j0J (e:=e) s3 h4
   refine ⟨?_,s4,rfl,by simp⟩
   rcases hd0 with hd0 | hd0
   ·simp only [qL,qI,qS,qB,jG,List.getD_cons_zero,List.getD_cons_succ,DC.bb_b,DC.ii_i,DC.ss_s,DC.ll_sl,List.length_map,beq_self_eq_true,bne_self_eq_false,if_true,eq_self,and_self,Bool.false_eq_true,if_false,ja,j9,Out.bindR_ret,je,jc,hd0,hE,hB',hw,Int.reduceBEq,Int.reduceBNe,e1,hI,e3,e4,List.map_nil]
   ·simp only [qL,qI,qS,qB,jG,List.getD_cons_zero,List.getD_cons_succ,DC.bb_b,DC.ii_i,DC.ss_s,DC.ll_sl,List.length_map,beq_self_eq_true,bne_self_eq_false,if_true,eq_self,and_self,Bool.false_eq_true,if_false,ja,j9,Out.bindR_ret,je,jc,hd0,hB',hw,Int.reduceBEq,Int.reduceBNe,e1,hI,e3,e4,List.map_nil]
 | 4,h =>
  obtain ⟨hw,hs0⟩:=hcons (by decide)
  simp only [Option.bind_eq_some_iff,Option.map_eq_some_iff,ji] at h
  have hB':jX [.sl (t.map TToken.enc),.i (ix t u),.i e,.i 0,.i 0] = .ret [.i 4,.sl (t.map TToken.enc),.i (ix t u),.i e,.i 0,.i 0]:=hB
  obtain ⟨⟨n,u1⟩,h1,⟨ds,u2⟩,h2,⟨fc,u3⟩,h3,rfl,rfl⟩:=h
  obtain ⟨e1,s1⟩:=Js (e:=e) hs0 h1
  obtain ⟨e2,s2⟩:=KY (e:=e) (b:=true) s1 (by decide) h2
  cases hb:Kx u2 [61] with
  | true =>
   simp only [hb,if_true] at h3
   have hO:=Ym (e:=e) s2 hb
   obtain ⟨e3,s3⟩:=j5i (e:=e) (kC s2 (kL hb)).2 h3
   refine ⟨?_,s3,rfl,by simp⟩
   rcases hd0 with hd0 | hd0
   ·simp only [qL,qI,qS,qB,jG,List.getD_cons_zero,List.getD_cons_succ,DC.bb_b,DC.ii_i,DC.ss_s,DC.ll_sl,List.length_map,beq_self_eq_true,bne_self_eq_false,if_true,eq_self,and_self,Bool.false_eq_true,if_false,ja,j9,Out.bindR_ret,je,jc,hd0,hE,hB',hw,Int.reduceBEq,Int.reduceBNe,e1,e2,hO,e3,List.map_nil]
   ·simp only [qL,qI,qS,qB,jG,List.getD_cons_zero,List.getD_cons_succ,DC.bb_b,DC.ii_i,DC.ss_s,DC.ll_sl,List.length_map,beq_self_eq_true,bne_self_eq_false,if_true,eq_self,and_self,Bool.false_eq_true,if_false,ja,j9,Out.bindR_ret,je,jc,hd0,hB',hw,Int.reduceBEq,Int.reduceBNe,e1,e2,hO,e3,List.map_nil]
  | false =>
   simp only [hb,Bool.false_eq_true,if_false,j8,ji] at h3
   obtain ⟨rfl,rfl⟩:=h3
   have hO:=JV (e:=e) s2 hb
   refine ⟨?_,s2,rfl,by simp⟩
   rcases hd0 with hd0 | hd0
   ·simp only [qL,qI,qS,qB,jG,List.getD_cons_zero,List.getD_cons_succ,DC.bb_b,DC.ii_i,DC.ss_s,DC.ll_sl,List.length_map,beq_self_eq_true,bne_self_eq_false,if_true,eq_self,and_self,Bool.false_eq_true,if_false,ja,j9,Out.bindR_ret,je,jc,hd0,hE,hB',hw,Int.reduceBEq,Int.reduceBNe,e1,e2,hO,List.map_nil]
   ·simp only [qL,qI,qS,qB,jG,List.getD_cons_zero,List.getD_cons_succ,DC.bb_b,DC.ii_i,DC.ss_s,DC.ll_sl,List.length_map,beq_self_eq_true,bne_self_eq_false,if_true,eq_self,and_self,Bool.false_eq_true,if_false,ja,j9,Out.bindR_ret,je,jc,hd0,hB',hw,Int.reduceBEq,Int.reduceBNe,e1,e2,hO,List.map_nil]
 | 5,h =>
  obtain ⟨hw,hs0⟩:=hcons (by decide)
  simp only [Option.bind_eq_some_iff,Option.map_eq_some_iff,ji] at h
  have hB':jX [.sl (t.map TToken.enc),.i (ix t u),.i e,.i 0,.i 0] = .ret [.i 5,.sl (t.map TToken.enc),.i (ix t u),.i e,.i 0,.i 0]:=hB
  obtain ⟨⟨n,u1⟩,h1,⟨ds,u2⟩,h2,⟨fc,u3⟩,h3,rfl,rfl⟩:=h
  obtain ⟨e1,s1⟩:=Js (e:=e) hs0 h1
  obtain ⟨e2,s2⟩:=KY (e:=e) (b:=true) s1 (by decide) h2
  obtain ⟨e3,s3⟩:=jb6 (e:=e) s2 h3
  refine ⟨?_,s3,rfl,by simp⟩
  rcases hd0 with hd0 | hd0
  ·simp only [qL,qI,qS,qB,jG,List.getD_cons_zero,List.getD_cons_succ,DC.bb_b,DC.ii_i,DC.ss_s,DC.ll_sl,List.length_map,beq_self_eq_true,bne_self_eq_false,if_true,eq_self,and_self,Bool.false_eq_true,if_false,ja,j9,Out.bindR_ret,je,jc,hd0,hE,hB',hw,Int.reduceBEq,Int.reduceBNe,e1,e2,e3,List.map_nil]
  ·simp only [qL,qI,qS,qB,jG,List.getD_cons_zero,List.getD_cons_succ,DC.bb_b,DC.ii_i,DC.ss_s,DC.ll_sl,List.length_map,beq_self_eq_true,bne_self_eq_false,if_true,eq_self,and_self,Bool.false_eq_true,if_false,ja,j9,Out.bindR_ret,je,jc,hd0,hB',hw,Int.reduceBEq,Int.reduceBNe,e1,e2,e3,List.map_nil]
 | 6,h =>
  obtain ⟨hw,hs0⟩:=hcons (by decide)
  simp only [Option.bind_eq_some_iff,Option.map_eq_some_iff,ji] at h
  have hB':jX [.sl (t.map TToken.enc),.i (ix t u),.i e,.i 0,.i 0] = .ret [.i 6,.sl (t.map TToken.enc),.i (ix t u),.i e,.i 0,.i 0]:=hB
  obtain ⟨⟨n,u1⟩,h1,⟨ds,u2⟩,h2,⟨fc,u3⟩,h3,rfl,rfl⟩:=h
  obtain ⟨e1,s1⟩:=Js (e:=e) hs0 h1
  obtain ⟨e2,s2⟩:=KY (e:=e) (b:=true) s1 (by decide) h2
  obtain ⟨e3,s3⟩:=jad (e:=e) s2 h3
  refine ⟨?_,s3,rfl,by simp⟩
  rcases hd0 with hd0 | hd0
  ·simp only [qL,qI,qS,qB,jG,List.getD_cons_zero,List.getD_cons_succ,DC.bb_b,DC.ii_i,DC.ss_s,DC.ll_sl,List.length_map,beq_self_eq_true,bne_self_eq_false,if_true,eq_self,and_self,Bool.false_eq_true,if_false,ja,j9,Out.bindR_ret,je,jc,hd0,hE,hB',hw,Int.reduceBEq,Int.reduceBNe,e1,e2,e3,List.map_nil]
  ·simp only [qL,qI,qS,qB,jG,List.getD_cons_zero,List.getD_cons_succ,DC.bb_b,DC.ii_i,DC.ss_s,DC.ll_sl,List.length_map,beq_self_eq_true,bne_self_eq_false,if_true,eq_self,and_self,Bool.false_eq_true,if_false,ja,j9,Out.bindR_ret,je,jc,hd0,hB',hw,Int.reduceBEq,Int.reduceBNe,e1,e2,e3,List.map_nil]
 | 7,h =>
  obtain ⟨hw,hs0⟩:=hcons (by decide)
  simp only [Option.bind_eq_some_iff] at h
  have hB':jX [.sl (t.map TToken.enc),.i (ix t u),.i e,.i 0,.i 0] = .ret [.i 7,.sl (t.map TToken.enc),.i (ix t u),.i e,.i 0,.i 0]:=hB
  obtain ⟨u1,h1,⟨n,u2⟩,h2,⟨as',u3⟩,h3,h4⟩:=h
  obtain ⟨q1,rfl⟩:=j5Y h1
  have e1:=j7l (e:=e) hs0 q1
  have s1:=(kC hs0 (kL q1)).2
  obtain ⟨e2,s2⟩:=Js (e:=e) s1 h2
  obtain ⟨e3,s3⟩:=jad (e:=e) s2 h3
  have hR:=JU (e:=e) s3 [114,101,112,101,97,116,97,98,108,101]
  cases hb:isW u3 [114,101,112,101,97,116,97,98,108,101] with
  | true =>
   rw [hb] at hR
   simp only [hb,if_true] at h4
   obtain ⟨w1,t1⟩:=kC s3 (Ya hb)
   split at h4
   ·rename_i ho
    have hO:=JU (e:=e) t1 [111,110]
    rw [ho] at hO
    obtain ⟨w2,t2⟩:=kC t1 (Ya ho)
    simp only [Option.map_eq_some_iff,ji] at h4
    obtain ⟨⟨pl,u4⟩,h5,rfl,rfl⟩:=h4
    obtain ⟨e4,s4⟩:=j6w (e:=e) t2 h5
    refine ⟨?_,s4,rfl,by simp⟩
    rcases hd0 with hd0 | hd0
    ·simp only [qL,qI,qS,qB,jG,List.getD_cons_zero,List.getD_cons_succ,DC.bb_b,DC.ii_i,DC.ss_s,DC.ll_sl,List.length_map,beq_self_eq_true,bne_self_eq_false,if_true,eq_self,and_self,Bool.false_eq_true,if_false,ja,j9,Out.bindR_ret,je,jc,hd0,hE,hB',hw,Int.reduceBEq,Int.reduceBNe,e1,e2,e3,hR,w1,hO,w2,e4,List.map_nil]
    ·simp only [qL,qI,qS,qB,jG,List.getD_cons_zero,List.getD_cons_succ,DC.bb_b,DC.ii_i,DC.ss_s,DC.ll_sl,List.length_map,beq_self_eq_true,bne_self_eq_false,if_true,eq_self,and_self,Bool.false_eq_true,if_false,ja,j9,Out.bindR_ret,je,jc,hd0,hB',hw,Int.reduceBEq,Int.reduceBNe,e1,e2,e3,hR,w1,hO,w2,e4,List.map_nil]
   ·simp at h4
  | false =>
   rw [hb] at hR
   simp only [hb,Bool.false_eq_true,if_false] at h4
   split at h4
   ·rename_i ho
    have hO:=JU (e:=e) s3 [111,110]
    rw [ho] at hO
    obtain ⟨w2,t2⟩:=kC s3 (Ya ho)
    simp only [Option.map_eq_some_iff,ji] at h4
    obtain ⟨⟨pl,u4⟩,h5,rfl,rfl⟩:=h4
    obtain ⟨e4,s4⟩:=j6w (e:=e) t2 h5
    refine ⟨?_,s4,rfl,by simp⟩
    rcases hd0 with hd0 | hd0
    ·simp only [qL,qI,qS,qB,jG,List.getD_cons_zero,List.getD_cons_succ,DC.bb_b,DC.ii_i,DC.ss_s,DC.ll_sl,List.length_map,beq_self_eq_true,bne_self_eq_false,if_true,eq_self,and_self,Bool.false_eq_true,if_false,ja,j9,Out.bindR_ret,je,jc,hd0,hE,hB',hw,Int.reduceBEq,Int.reduceBNe,e1,e2,e3,hR,hO,w2,e4,List.map_nil]
    ·simp only [qL,qI,qS,qB,jG,List.getD_cons_zero,List.getD_cons_succ,DC.bb_b,DC.ii_i,DC.ss_s,DC.ll_sl,List.length_map,beq_self_eq_true,bne_self_eq_false,if_true,eq_self,and_self,Bool.false_eq_true,if_false,ja,j9,Out.bindR_ret,je,jc,hd0,hB',hw,Int.reduceBEq,Int.reduceBNe,e1,e2,e3,hR,hO,w2,e4,List.map_nil]
   ·simp at h4
 | n + 8,h=>simp at h
end
section
variable {t:List TToken} {e:Int}
theorem j5Q {u:List Tk} (hs:Sf t u) (h0:Kx u [123]=false) (h1:j73.any (isW u)=false):Kc [.sl (t.map TToken.enc),.i (ix t u),.i e,.i 0,.i 0] = .ret [.i 0,.sl (t.map TToken.enc),.i (ix t u),.i e,.i 0,.i 0] ∧ isW u [102,114,97,103,109,101,110,116]=false:=by
 have hI:=j6x (e:=e) hs [123]
 rw [h0] at hI
 simp only [j73,List.any_cons,List.any_nil,Bool.or_eq_false_iff,Bool.or_false] at h1
 obtain ⟨a1,a2,a3,a4⟩:=h1
 have w1:=JU (e:=e) hs [113,117,101,114,121]
 have w2:=JU (e:=e) hs [109,117,116,97,116,105,111,110]
 have w3:=JU (e:=e) hs [115,117,98,115,99,114,105,112,116,105,111,110]
 rw [a1] at w1
 rw [a2] at w2
 rw [a3] at w3
 have o1:qq [.i 1] = .ret [.s [113,117,101,114,121]]:=by rw [JT]; rfl
 have o2:qq [.i 2] = .ret [.s [109,117,116,97,116,105,111,110]]:=by rw [JT]; rfl
 have o3:qq [.i 3] = .ret [.s [115,117,98,115,99,114,105,112,116,105,111,110]]:=by rw [JT]; rfl
 have i1:IntKind.i64.wrap ((1:Int) + 1)=2:=by decide
 have i2:IntKind.i64.wrap ((2:Int) + 1)=3:=by decide
 have i3:IntKind.i64.wrap ((3:Int) + 1)=4:=by decide
 have d1:decide ((1:Int) ≤ 3)=true:=by decide
 have d2:decide ((2:Int) ≤ 3)=true:=by decide
 have d3:decide ((3:Int) ≤ 3)=true:=by decide
 have d4:decide ((4:Int) ≤ 3)=false:=by decide
 have l:jy pJ [.i (1:Int),.sl (t.map TToken.enc),.i (ix t u),.i e,.i 0,.i 0] = .ex 0 [.sl (t.map TToken.enc),.i (ix t u),.i e,.i 0,.i 0]:=by
  refine (jH (v':=[.i (2:Int),.sl (t.map TToken.enc),.i (ix t u),.i e,.i 0,.i 0]) ?_).trans ((jH (v':=[.i (3:Int),.sl (t.map TToken.enc),.i (ix t u),.i e,.i 0,.i 0]) ?_).trans ((jH (v':=[.i (4:Int),.sl (t.map TToken.enc),.i (ix t u),.i e,.i 0,.i 0]) ?_).trans (jK ?_)))
  ·simp only [qL,qI,qS,qB,pJ,List.getD_cons_zero,List.getD_cons_succ,DC.bb_b,DC.ii_i,DC.ss_s,DC.ll_sl,List.length_map,beq_self_eq_true,bne_self_eq_false,if_true,eq_self,and_self,Bool.false_eq_true,if_false,ja,j9,Out.bindR_ret,je,jc,d1,o1,w1,i1]
  ·simp only [qL,qI,qS,qB,pJ,List.getD_cons_zero,List.getD_cons_succ,DC.bb_b,DC.ii_i,DC.ss_s,DC.ll_sl,List.length_map,beq_self_eq_true,bne_self_eq_false,if_true,eq_self,and_self,Bool.false_eq_true,if_false,ja,j9,Out.bindR_ret,je,jc,d2,o2,w2,i2]
  ·simp only [qL,qI,qS,qB,pJ,List.getD_cons_zero,List.getD_cons_succ,DC.bb_b,DC.ii_i,DC.ss_s,DC.ll_sl,List.length_map,beq_self_eq_true,bne_self_eq_false,if_true,eq_self,and_self,Bool.false_eq_true,if_false,ja,j9,Out.bindR_ret,je,jc,d3,o3,w3,i3]
  ·simp only [qL,qI,qS,qB,pJ,List.getD_cons_zero,List.getD_cons_succ,DC.bb_b,DC.ii_i,DC.ss_s,DC.ll_sl,List.length_map,beq_self_eq_true,bne_self_eq_false,if_true,eq_self,and_self,Bool.false_eq_true,if_false,ja,j9,Out.bindR_ret,je,jc,d4]
 refine ⟨?_,a4⟩
 rw [j0y]
 simp only [qL,qI,qS,qB,X0,List.getD_cons_zero,List.getD_cons_succ,DC.bb_b,DC.ii_i,DC.ss_s,DC.ll_sl,List.length_map,beq_self_eq_true,bne_self_eq_false,if_true,eq_self,and_self,Bool.false_eq_true,if_false,ja,j9,Out.bindR_ret,je,jc,hI,l]
theorem jbW {u u':List Tk} {d:TDef} (hs:Sf t u) (h:j2T u=some (d,u')):JI [.sl (t.map TToken.enc),.i (ix t u),.i e,.i 0,.i 0] = .ret [.i 3,.i 0,.s [],.sl [],.sl [],.sl [],.s [],.s [],.sl [],.sl [],.i d.kind,.b d.ext,.s d.desc,.s d.name,.sl (d.faces.map S1),.sl (d.fields.map TFieldDef.enc),.sl (d.inputs.map TInDef.enc),.sl (d.values.map TEnumDef.enc),.sl (d.roots.map TRoot.enc),.b d.repeat',.sl (d.dirs.map TDir.enc),.sl (t.map TToken.enc),.i (ix t u'),.i e,.i 0,.i 0] ∧ Sf t u' ∧ d.ext=false ∧ d.kind ≠ 8:=by
 unfold j2T at h
 split at h
 ·simp at h
 rename_i hq
 simp only [Bool.or_eq_true,not_or,Bool.not_eq_true] at hq
 obtain ⟨hB,hF⟩:=j5Q (e:=e) hs hq.1 hq.2
 have hF':=JU (e:=e) hs [102,114,97,103,109,101,110,116]
 rw [hF] at hF'
 have d0:decide ((0:Int) > 0)=false:=by decide
 cases u with
 | nil=>simp at h
 | cons k u1 =>
  simp only at h
  split at h
  ·rename_i hk
   split at h
   ·simp at h
   rename_i hx
   have hx:isW u1 [101,120,116,101,110,100]=false:=by simpa using hx
   obtain ⟨hD,hs1⟩:=j80 (e:=e) hs (show isK (k :: u1) 5=true from hk)
   have hX:=JU (e:=e) hs1 [101,120,116,101,110,100]
   rw [hx] at hX
   obtain ⟨e1,s1,x1,x2⟩:=jbh (e:=e) hs1 hx h
   have hlt:ix t u1 > ix t (k::u1):=by
    obtain ⟨p,q,rfl,e2,hl⟩:=hs
    cases q with
    | nil=>simp at e2
    | cons a q =>
     simp only [js,List.cons.injEq] at e2
     unfold ix
     rw [← e2.2]
     simp only [jb,List.length_map,jj]
     omega
   refine ⟨?_,s1,x1,x2⟩
   rw [KV]
   simp only [qL,qI,qS,qB,JY,List.getD_cons_zero,List.getD_cons_succ,DC.bb_b,DC.ii_i,DC.ss_s,DC.ll_sl,List.length_map,beq_self_eq_true,bne_self_eq_false,if_true,eq_self,and_self,Bool.false_eq_true,if_false,ja,j9,Out.bindR_ret,je,jc,hB,d0,hF',hD,hlt,decide_true,hX,e1]
  ·rename_i hk
   have hk:isK (k :: u1) 5=false:=by simpa [isK] using hk
   split at h
   ·simp at h
   rename_i hx
   have hx:isW (k :: u1) [101,120,116,101,110,100]=false:=by simpa using hx
   have hD:=j2A (e:=e) hs hk
   obtain ⟨e1,s1,x1,x2⟩:=jbh (e:=e) hs hx h
   have hlt:¬ ix t (k::u1) > ix t (k::u1):=by omega
   refine ⟨?_,s1,x1,x2⟩
   rw [KV]
   simp only [qL,qI,qS,qB,JY,List.getD_cons_zero,List.getD_cons_succ,DC.bb_b,DC.ii_i,DC.ss_s,DC.ll_sl,List.length_map,beq_self_eq_true,bne_self_eq_false,if_true,eq_self,and_self,Bool.false_eq_true,if_false,ja,j9,Out.bindR_ret,je,jc,hB,d0,hF',hD,hlt,decide_false,e1]
def itD (d:TDef):TItem:=⟨3,⟨0,[],[],[],[]⟩,⟨[],[],[],[]⟩,d⟩
theorem j58 (d:TDef):TItem.enc (itD d)=[.i 3,.i 0,.s [],.sl [],.sl [],.sl [],.s [],.s [],.sl [],.sl [],.i d.kind,.b d.ext,.s d.desc,.s d.name,.sl (d.faces.map S1),.sl (d.fields.map TFieldDef.enc),.sl (d.inputs.map TInDef.enc),.sl (d.values.map TEnumDef.enc),.sl (d.roots.map TRoot.enc),.b d.repeat',.sl (d.dirs.map TDir.enc)]:=by
 rw [TItem.enc_eq]
 simp only [itD,List.map_nil]
theorem j8C {u u':List Tk} {d:TDef} {acc:List TDef} (hs:Sf t u) (hl:acc.length < 50) (h:j2T u=some (d,u')) :
  jy ky [.i 0,.i 0,.sl (t.map TToken.enc),.i (ix t u),.i e,.i 0,.i 0,.sl ((acc.map itD).map TItem.enc)]=jy ky [.i 0,.i 0,.sl (t.map TToken.enc),.i (ix t u'),.i e,.i 0,.i 0,.sl (((acc ++ [d]).map itD).map TItem.enc)] ∧ Sf t u':=by
 obtain ⟨e1,s1,_,_⟩:=jbW (e:=e) hs h
 have hc:∃ k u1,u=k :: u1:=by
  cases u with
  | nil=>simp [j2T] at h
  | cons k u=>exact ⟨k,u,rfl⟩
 have h1:ix t u < (t.length:Int):=by
  obtain ⟨k,u1,rfl⟩:=hc
  exact (J8 hs).2.1
 have h60:((acc.length:Int) == 60)=false:=by
  have:¬ (acc.length:Int)=60:=by omega
  simpa using this
 have hlim:=Y9 (n:=acc.length) (by omega)
 refine ⟨jH ?_,s1⟩
 simp only [qL,qI,qS,qB,ky,List.getD_cons_zero,List.getD_cons_succ,DC.bb_b,DC.ii_i,DC.ss_s,DC.ll_sl,List.length_map,beq_self_eq_true,bne_self_eq_false,if_true,eq_self,and_self,Bool.false_eq_true,if_false,ja,j9,Out.bindR_ret,je,jc,h1,decide_true,h60,e1,jb,jf,Nat.zero_add,hlim,List.map_append,js,List.map_nil,j58]
theorem j31 {u':List Tk}:∀ (n:Nat) (u:List Tk) (acc ds:List TDef),Sf t u → acc.length + n ≤ 50 → pN n u=some (ds,u') →
  jy ky [.i 0,.i 0,.sl (t.map TToken.enc),.i (ix t u),.i e,.i 0,.i 0,.sl ((acc.map itD).map TItem.enc)]=jy ky [.i 0,.i 0,.sl (t.map TToken.enc),.i (ix t u'),.i e,.i 0,.i 0,.sl (((acc ++ ds).map itD).map TItem.enc)] ∧ Sf t u' ∧ ds.length=n:=by
 intro n
 induction n with
 | zero =>
  intro u acc ds hs hl h
  simp only [pN,j8,ji] at h
  obtain ⟨rfl,rfl⟩:=h
  exact ⟨by rw [jv],hs,rfl⟩
 | succ n ih =>
  intro u acc ds hs hl h
  simp only [pN,Option.bind_eq_some_iff,Option.map_eq_some_iff,ji] at h
  obtain ⟨⟨d,u1⟩,h1,⟨ds1,u2⟩,h2,rfl,rfl⟩:=h
  obtain ⟨e1,s1⟩:=j8C (e:=e) (acc:=acc) hs (by omega) h1
  obtain ⟨e2,s2,l2⟩:=ih u1 (acc ++ [d]) ds1 s1 (by rw [jj]; simp only [jb,jf]; omega) h2
  exact ⟨e1.trans (e2.trans (by simp)),s2,by rw [jb,l2]⟩
theorem j8B {acc:List TDef} (hs:Sf t []) (h:acc ≠ []):jy ky [.i 0,.i 0,.sl (t.map TToken.enc),.i (ix t []),.i e,.i 0,.i 0,.sl ((acc.map itD).map TItem.enc)] = .ex 0 [.i 0,.i 0,.sl (t.map TToken.enc),.i (ix t []),.i e,.i 0,.i 0,.sl ((acc.map itD).map TItem.enc)]:=by
 have h1:=j2L hs
 have h0:((acc.length:Int) == 0)=false:=by
  have:0 < acc.length:=List.length_pos_iff.2 h
  have:¬ (acc.length:Int)=0:=by omega
  simpa using this
 refine jK ?_
 simp only [qL,qI,qS,qB,ky,List.getD_cons_zero,List.getD_cons_succ,DC.bb_b,DC.ii_i,DC.ss_s,DC.ll_sl,List.length_map,beq_self_eq_true,bne_self_eq_false,if_true,eq_self,and_self,Bool.false_eq_true,if_false,ja,j9,Out.bindR_ret,je,jc,h1,decide_false,h0]
theorem jdA {u:List Tk} (hs:Sf t u):∃ z:Int,jL [.i 7,.sl (t.map TToken.enc),.i (ix t u),.i e,.i 0,.i 0] = .ret [.sl (t.map TToken.enc),.i (ix t u),.i e,.i 7,.i z]:=by
 cases u with
 | nil =>
  have h1:=j2L hs
  refine ⟨e,?_⟩
  have hA:Qb [.sl (t.map TToken.enc),.i (ix t ([])),.i e,.i 0,.i 0] = .ret [.i e,.sl (t.map TToken.enc),.i (ix t ([])),.i e,.i 0,.i 0]:=by
   rw [Zg]
   simp only [qL,qI,qS,qB,Xs,List.getD_cons_zero,List.getD_cons_succ,DC.bb_b,DC.ii_i,DC.ss_s,DC.ll_sl,List.length_map,beq_self_eq_true,bne_self_eq_false,if_true,eq_self,and_self,Bool.false_eq_true,if_false,ja,j9,Out.bindR_ret,je,jc,h1,decide_false]
  rw [Yd]
  simp only [qL,qI,qS,qB,VE,List.getD_cons_zero,List.getD_cons_succ,DC.bb_b,DC.ii_i,DC.ss_s,DC.ll_sl,List.length_map,beq_self_eq_true,bne_self_eq_false,if_true,eq_self,and_self,Bool.false_eq_true,if_false,ja,j9,Out.bindR_ret,je,jc,hA]
 | cons k u =>
  obtain ⟨h0,h1,⟨z,hg⟩,hw,hs'⟩:=J8 hs
  refine ⟨z,?_⟩
  have hA:Qb [.sl (t.map TToken.enc),.i (ix t (k::u)),.i e,.i 0,.i 0] = .ret [.i z,.sl (t.map TToken.enc),.i (ix t (k::u)),.i e,.i 0,.i 0]:=by
   rw [Zg]
   simp only [qL,qI,qS,qB,Xs,List.getD_cons_zero,List.getD_cons_succ,DC.bb_b,DC.ii_i,DC.ss_s,DC.ll_sl,List.length_map,beq_self_eq_true,bne_self_eq_false,if_true,eq_self,and_self,Bool.false_eq_true,if_false,ja,j9,Out.bindR_ret,je,jc,h0,h1,decide_true,hg]
  rw [Yd]
  simp only [qL,qI,qS,qB,VE,List.getD_cons_zero,List.getD_cons_succ,DC.bb_b,DC.ii_i,DC.ss_s,DC.ll_sl,List.length_map,beq_self_eq_true,bne_self_eq_false,if_true,eq_self,and_self,Bool.false_eq_true,if_false,ja,j9,Out.bindR_ret,je,jc,hA]
theorem j85 {a b:Tk} {u:List Tk} {acc:List TDef} (hs:Sf t (a :: b :: u)) (ha:a.1=5) (ha2:a.2 ≠ []) (hb:b.1=5) (hl:acc.length < 50) :
  ∃ (i z:Int) (r:List (List DC)),jy ky [.i 0,.i 0,.sl (t.map TToken.enc),.i (ix t (a::b::u)),.i e,.i 0,.i 0,.sl ((acc.map itD).map TItem.enc)] = .ex 0 [.i 0,.i 0,.sl (t.map TToken.enc),.i i,.i e,.i 7,.i z,.sl r]:=by
 have hq0:Kx (a :: b :: u) [123]=false:=by simp [Kx,ha]
 have hqW:∀ x,isW (a :: b :: u) x=false:=fun x=>by simp [isW,ha]
 have hbW:∀ x,isW (b :: u) x=false:=fun x=>by simp [isW,hb]
 obtain ⟨hB,hF⟩:=j5Q (e:=e) hs hq0 (by rw [List.any_eq_false]; intro x _; rw [hqW]; decide)
 have hF':=JU (e:=e) hs [102,114,97,103,109,101,110,116]
 rw [hF] at hF'
 have d0:decide ((0:Int) > 0)=false:=by decide
 obtain ⟨hD,hs1⟩:=j80 (e:=e) hs (show isK (a :: b :: u) 5=true by simp [isK,ha])
 have hX:=JU (e:=e) hs1 [101,120,116,101,110,100]
 rw [hbW] at hX
 obtain ⟨z,hZ⟩:=jdA (e:=e) hs1
 have hK:Zc (b :: u)=0:=by
  unfold Zc
  simp only [ZC,hbW,Bool.false_eq_true,if_false]
 have hBg:=j6y (e:=e) hs1
 rw [hK] at hBg
 have hBg':jX [.sl (t.map TToken.enc),.i (ix t (b::u)),.i e,.i 0,.i 0] = .ret [.i 0,.sl (t.map TToken.enc),.i (ix t (b::u)),.i e,.i 0,.i 0]:=hBg
 have hne:(a.2 == ([]:List UInt8))=false:=by simpa using ha2
 have hR:JJ [.s a.2,.sl (t.map TToken.enc),.i (ix t (b::u)),.i e,.i 0,.i 0] = .ret [.i 0,.b false,.s a.2,.s [],.sl [],.sl [],.sl [],.sl [],.sl [],.b false,.sl [],.sl (t.map TToken.enc),.i (ix t (b::u)),.i e,.i 7,.i z]:=by
  rw [Xy]
  simp only [qL,qI,qS,qB,jG,List.getD_cons_zero,List.getD_cons_succ,DC.bb_b,DC.ii_i,DC.ss_s,DC.ll_sl,List.length_map,beq_self_eq_true,bne_self_eq_false,if_true,eq_self,and_self,Bool.false_eq_true,if_false,ja,j9,Out.bindR_ret,je,jc,hne,hBg',hZ]
 have hlt:ix t (b::u) > ix t (a::b::u):=by
  obtain ⟨p,q,rfl,e2,hl⟩:=hs
  cases q with
  | nil=>simp at e2
  | cons x q =>
   simp only [js,List.cons.injEq] at e2
   unfold ix
   rw [← e2.2]
   simp only [jb,List.length_map,jj]
   omega
 have hI:JI [.sl (t.map TToken.enc),.i (ix t (a::b::u)),.i e,.i 0,.i 0] = .ret [.i 3,.i 0,.s [],.sl [],.sl [],.sl [],.s [],.s [],.sl [],.sl [],.i 0,.b false,.s a.2,.s [],.sl [],.sl [],.sl [],.sl [],.sl [],.b false,.sl [],.sl (t.map TToken.enc),.i (ix t (b::u)),.i e,.i 7,.i z]:=by
  rw [KV]
  simp only [qL,qI,qS,qB,JY,List.getD_cons_zero,List.getD_cons_succ,DC.bb_b,DC.ii_i,DC.ss_s,DC.ll_sl,List.length_map,beq_self_eq_true,bne_self_eq_false,if_true,eq_self,and_self,Bool.false_eq_true,if_false,ja,j9,Out.bindR_ret,je,jc,hB,d0,hF',hD,hlt,decide_true,hX,hR]
 have h1:=(J8 hs).2.1
 have h60:((acc.length:Int) == 60)=false:=by
  have:¬ (acc.length:Int)=60:=by omega
  simpa using this
 have hlim:=Y9 (n:=acc.length) (by omega)
 refine ⟨ix t (b::u),z,((acc.map itD).map TItem.enc ++ [[.i 3,.i 0,.s [],.sl [],.sl [],.sl [],.s [],.s [],.sl [],.sl [],.i 0,.b false,.s a.2,.s [],.sl [],.sl [],.sl [],.sl [],.sl [],.b false,.sl []]]),(jH (v':=[.i 0,.i 0,.sl (t.map TToken.enc),.i (ix t (b::u)),.i e,.i 7,.i z,.sl ((acc.map itD).map TItem.enc ++ [[.i 3,.i 0,.s [],.sl [],.sl [],.sl [],.s [],.s [],.sl [],.sl [],.i 0,.b false,.s a.2,.s [],.sl [],.sl [],.sl [],.sl [],.sl [],.b false,.sl []]])]) ?_).trans (jK ?_)⟩
 ·simp only [qL,qI,qS,qB,ky,List.getD_cons_zero,List.getD_cons_succ,DC.bb_b,DC.ii_i,DC.ss_s,DC.ll_sl,List.length_map,beq_self_eq_true,bne_self_eq_false,if_true,eq_self,and_self,Bool.false_eq_true,if_false,ja,j9,Out.bindR_ret,je,jc,h1,decide_true,h60,hI,jb,jf,Nat.zero_add,hlim]
 ·simp only [qL,qI,qS,qB,ky,List.getD_cons_zero,List.getD_cons_succ,DC.bb_b,DC.ii_i,DC.ss_s,DC.ll_sl,List.length_map,beq_self_eq_true,bne_self_eq_false,if_true,eq_self,and_self,Bool.false_eq_true,if_false,ja,j9,Out.bindR_ret,je,jc,Int.reduceBEq]
end
theorem j5X {s:List UInt8} {res:List Tk} {n:Nat} {ds:List TDef} (hl:s.length ≤ 2000) (ha:∀ c ∈ s,c.toNat < 128) (h:tz s 0 [] []=some res) (hn:n ≤ 50) (hp:pN n res.reverse=some (ds,[])) (hd:ds ≠ []) :
  JN [.s s] = .ret [.sl ((ds.map itD).map TItem.enc),.i 0,.i 0]:=by
 obtain ⟨ts,g1,g2,g3⟩:=j3n hl ha h
 have hN:kI [.s s] = .ret [.sl (ts.map TToken.enc),.i 0,.i (s.length:Int),.i 0,.i 0]:=by
  rw [Xx]
  simp only [qL,qI,qS,qB,VD,List.getD_cons_zero,List.getD_cons_succ,DC.bb_b,DC.ii_i,DC.ss_s,DC.ll_sl,List.length_map,beq_self_eq_true,bne_self_eq_false,if_true,eq_self,and_self,Bool.false_eq_true,if_false,ja,j9,Out.bindR_ret,je,jc,g1]
 have hs:Sf ts res.reverse:=⟨[],ts,rfl,g2,g3⟩
 have hi:ix ts res.reverse=0:=by
  unfold ix
  rw [← g2,List.length_map,Nat.sub_self]
  rfl
 obtain ⟨e1,s1,_⟩:=j31 (e:=(s.length:Int)) n res.reverse [] ds hs (by simpa using hn) hp
 rw [jg,j8B s1 hd,hi] at e1
 simp only [List.map_nil] at e1
 have hL:0 < jT:=by decide
 rw [Zh]
 simp only [qL,qI,qS,qB,Xt,List.getD_cons_zero,List.getD_cons_succ,DC.bb_b,DC.ii_i,DC.ss_s,DC.ll_sl,List.length_map,beq_self_eq_true,bne_self_eq_false,if_true,eq_self,and_self,Bool.false_eq_true,if_false,ja,j9,Out.bindR_ret,je,jc,hN,bsz,XZ,hL,e1]
theorem j8p {s:List UInt8} {res:List Tk} {n:Nat} {ds:List TDef} {a b:Tk} {u:List Tk} (hl:s.length ≤ 2000) (hA:∀ c ∈ s,c.toNat < 128) (h:tz s 0 [] []=some res) (hn:n < 50) (hp:pN n res.reverse=some (ds,a :: b :: u)) (ha:a.1=5) (ha2:a.2 ≠ []) (hb:b.1=5) :
  ∃ z:Int,JN [.s s] = .ret [.sl [],.i 7,.i z]:=by
 obtain ⟨ts,g1,g2,g3⟩:=j3n hl hA h
 have hN:kI [.s s] = .ret [.sl (ts.map TToken.enc),.i 0,.i (s.length:Int),.i 0,.i 0]:=by
  rw [Xx]
  simp only [qL,qI,qS,qB,VD,List.getD_cons_zero,List.getD_cons_succ,DC.bb_b,DC.ii_i,DC.ss_s,DC.ll_sl,List.length_map,beq_self_eq_true,bne_self_eq_false,if_true,eq_self,and_self,Bool.false_eq_true,if_false,ja,j9,Out.bindR_ret,je,jc,g1]
 have hs:Sf ts res.reverse:=⟨[],ts,rfl,g2,g3⟩
 have hi:ix ts res.reverse=0:=by
  unfold ix
  rw [← g2,List.length_map,Nat.sub_self]
  rfl
 obtain ⟨e1,s1,l1⟩:=j31 (e:=(s.length:Int)) n res.reverse [] ds hs (by simp; omega) hp
 obtain ⟨i,z,r,e2⟩:=j85 (e:=(s.length:Int)) (acc:=ds) s1 ha ha2 hb (by omega)
 rw [jg,e2,hi] at e1
 simp only [List.map_nil] at e1
 have hL:0 < jT:=by decide
 refine ⟨z,?_⟩
 rw [Zh]
 simp only [qL,qI,qS,qB,Xt,List.getD_cons_zero,List.getD_cons_succ,DC.bb_b,DC.ii_i,DC.ss_s,DC.ll_sl,List.length_map,beq_self_eq_true,bne_self_eq_false,if_true,eq_self,and_self,Bool.false_eq_true,if_false,ja,j9,Out.bindR_ret,je,jc,hN,bsz,XZ,hL,e1,Int.reduceBNe]
theorem j6g {α:Type} {p:α → Bool} {g:α → Out} {fin:Out}:∀ (l:List α) (i:Nat),goF p (fun _ x=>g x) fin i l=match l.find? p with | some x=>g x | none=>fin
 | [],i=>rfl
 | x :: l,i=>by
  rw [goF,j6g l (i + 1),List.find?_cons]
  cases p x <;> simp
def pu {α:Type} (p:α → Bool) (l:List α):Int:=match l.findIdx? p with | some i=>(i:Int) | none=>-1
def j6Z (l:List TRoot) (k:Int):List UInt8:=match l.find? (fun r=>r.kind == k) with | some r=>r.type' | none=>[]
theorem j5H (t d:List (List DC)) (l:List TRoot) (k:Int) (hl:l.length ≤ 1048576):Vx [.sl t,.sl d,.sl (l.map TRoot.enc),.i k] = .ret [.s (j6Z l k)]:=by
 rw [j3d]
 simp only [qL,qI,qS,qB,Zq,List.getD_cons_zero,List.getD_cons_succ,DC.bb_b,DC.ii_i,DC.ss_s,DC.ll_sl]
 rw [show (0:Int)=((0:Nat):Int) from rfl,yK (l:=l) (st:=fun i=>[.i k,.i (i:Int),.sl t,.sl d,.sl (l.map TRoot.enc)]) (p:=fun r=>r.kind == k) (stop:=fun _ r=>.ret [.s r.type']) (fin:=.ex 0 []) (fun i hi=>?step) (fun _ _=>Out.esc_ret _) ?fin (Out.esc_ex _ _),j6g,j6Z]
 ·cases l.find? fun r=>r.kind == k <;> rfl
 case step =>
  simp only [qL,qI,qS,qB,Q3,List.getD_cons_zero,List.getD_cons_succ,DC.bb_b,DC.ii_i,DC.ss_s,DC.ll_sl,jd,List.length_map,jx hi,TRoot.enc_eq]
  by_cases hp:l[i].kind=k <;> simp [hi,hp,jz hi (show l.length ≤ 9223372036854775807 by omega)]
 case fin=>simp [qL,qI,qS,qB,Q3]
theorem Jx {α:Type} {p:α → Bool} {g:Int → List DC} {fin:Out}:∀ (l:List α) (i:Nat),goF p (fun i _=>.ret (g (i:Int))) fin i l=match l.findIdx? p with | some j=>.ret (g ((i + j:Nat):Int)) | none=>fin
 | [],i=>rfl
 | x :: l,i=>by
  rw [goF,Jx l (i + 1),List.findIdx?_cons]
  cases p x with
  | true=>simp
  | false =>
   simp only [Bool.false_eq_true,if_false]
   cases l.findIdx? p with
   | none=>rfl
   | some j=>simp only [Option.map_some]; congr 3; omega
def XS (l:List TDef) (n:List UInt8):Int:=if 60 < l.length then -1 else pu (fun d=>d.name == n) l
theorem zk (l:List TDef) (d r:List (List DC)) (n:List UInt8) (hl:l.length ≤ 1048576):p9 [.sl (l.map TDef.enc),.sl d,.sl r,.s n] = .ret [.i (XS l n)]:=by
 rw [j3c]
 simp only [qL,qI,qS,qB,Zp,List.getD_cons_zero,List.getD_cons_succ,DC.bb_b,DC.ii_i,DC.ss_s,DC.ll_sl]
 rw [XS]
 by_cases h60:60 < l.length
 ·rw [jK (r:=[]) (id:=0) (by
   have h0:(0:Int) < (l.length:Int):=by omega
   have h1:¬ (l.length:Int) ≤ 60:=by omega
   simp [qL,qI,qS,qB,Jh,h0,h1])]
  simp [h60]
 ·rw [if_neg h60,show (0:Int)=((0:Nat):Int) from rfl,yK (l:=l) (st:=fun i=>[.s n,.i (i:Int),.sl (l.map TDef.enc),.sl d,.sl r]) (p:=fun d=>d.name == n) (stop:=fun i _=>.ret [.i (i:Int)]) (fin:=.ex 0 []) (fun i hi=>?step) (fun _ _=>Out.esc_ret _) ?fin (Out.esc_ex _ _),Jx (g:=fun i=>[.i i]),pu]
  ·cases l.findIdx? fun d=>d.name == n <;> simp
  case step =>
   have h1:(l.length:Int) ≤ 60:=by omega
   simp only [qL,qI,qS,qB,Jh,List.getD_cons_zero,List.getD_cons_succ,DC.bb_b,DC.ii_i,DC.ss_s,DC.ll_sl,jd,List.length_map,jx hi,TDef.enc_eq]
   by_cases hp:l[i].name=n <;> simp [hi,hp,h1,jz hi (show l.length ≤ 9223372036854775807 by omega),jx hi,TDef.enc_eq]
  case fin=>simp [qL,qI,qS,qB,Jh]
theorem j6d (l:List TDef) (n:List UInt8) (hl:l.length ≤ 1048576):ko [.sl (l.map TDef.enc),.s n] = .ret [.i (pu (fun d=>d.name == n) l),.s n]:=by
 rw [yJ]
 simp only [qL,qI,qS,qB,po,List.getD_cons_zero,List.getD_cons_succ,DC.bb_b,DC.ii_i,DC.ss_s,DC.ll_sl,List.length_map]
 rw [show (0:Int)=((0:Nat):Int) from rfl,yK (l:=l) (st:=fun i=>[.sl (l.map TDef.enc),.i (l.length:Int),.i (i:Int),.s n]) (p:=fun d=>d.name == n) (stop:=fun i _=>.ret [.i (i:Int),.s n]) (fin:=.ex 0 [.s n]) (fun i hi=>?step) (fun _ _=>Out.esc_ret _) ?fin (Out.esc_ex _ _),Jx (g:=fun i=>[.i i,.s n]),pu]
 ·cases l.findIdx? fun d=>d.name == n <;> simp
 case step =>
  simp only [qL,qI,qS,qB,kf,List.getD_cons_zero,List.getD_cons_succ,DC.bb_b,DC.ii_i,DC.ss_s,DC.ll_sl,jd,List.length_map,jx hi,TDef.enc_eq,j2q,YK,Out.bindR_ret]
  by_cases hp:l[i].name=n <;> simp [hi,hp,jz hi (show l.length ≤ 9223372036854775807 by omega)]
 case fin=>simp [qL,qI,qS,qB,kf]
theorem j7e (l:List TDef) (n:List UInt8) (hl:l.length ≤ 1048576):Xe [.sl (l.map TDef.enc),.s n] = .ret [.i (XS l n)]:=by
 rw [j3O]
 simp only [qL,qI,qS,qB,j0S,List.getD_cons_zero,List.getD_cons_succ,DC.bb_b,DC.ii_i,DC.ss_s,DC.ll_sl,List.length_map,XS]
 by_cases h60:60 < l.length
 ·have h1:(l.length:Int) > 60:=by omega
  simp [h60,h1]
 ·have h1:¬ (l.length:Int) > 60:=by omega
  simp only [h60,h1,decide_false,Bool.false_eq_true,if_false,j6d l n hl,Out.bindR_ret,List.getD_cons_zero,DC.ii_i]
theorem j6e (l:List TDef) (d r:List (List DC)) (n:List UInt8) (hl:l.length ≤ 1048576):VA [.sl (l.map TDef.enc),.sl d,.sl r,.s n] = .ret [.i (XS l n)]:=by
 rw [j3i]
 simp only [qL,qI,qS,qB,Zu,List.getD_cons_zero,List.getD_cons_succ,DC.bb_b,DC.ii_i,DC.ss_s,DC.ll_sl,j7e l n hl,Out.bindR_ret]
def pZ (l:List TDef) (n:List UInt8):Option TDef:=if 60 < l.length then none else l.find? (fun d=>d.name == n)
theorem Xf {α:Type} (p:α → Bool):∀ (l:List α),(pu p l = -1 ∧ l.find? p=none) ∨ ∃ (i:Nat) (h:i < l.length),pu p l=(i:Int) ∧ l.find? p=some l[i] ∧ p l[i]=true:=by
 intro l
 induction l with
 | nil=>exact .inl ⟨rfl,rfl⟩
 | cons x l ih =>
  simp only [pu,List.findIdx?_cons,List.find?_cons] at ih ⊢
  cases hp:p x with
  | true=>exact .inr ⟨0,by simp,by simp,by simp [hp]⟩
  | false =>
   simp only [Bool.false_eq_true,if_false]
   rcases ih with ⟨h1,h2⟩ | ⟨i,h,h1,h2,h3⟩
   ·left
    refine ⟨?_,h2⟩
    cases hf:l.findIdx? p with
    | none=>rfl
    | some j=>rw [hf] at h1; simp at h1
   ·right
    refine ⟨i + 1,by simp; omega,?_,by simpa using h2,by simpa using h3⟩
    cases hf:l.findIdx? p with
    | none=>rw [hf] at h1; simp at h1
    | some j=>rw [hf] at h1; simp only [Option.map_some] at h1 ⊢; omega
theorem qg (l:List TDef) (n:List UInt8):(XS l n = -1 ∧ pZ l n=none) ∨ ∃ (i:Nat) (h:i < l.length),XS l n=(i:Int) ∧ pZ l n=some l[i] ∧ l.length ≤ 60:=by
 unfold XS pZ
 by_cases h60:60 < l.length
 ·left; simp [h60]
 ·simp only [h60,if_false]
  rcases Xf (fun d:TDef=>d.name == n) l with h | ⟨i,h,h1,h2,h3⟩
  ·exact .inl h
  ·exact .inr ⟨i,h,h1,h2,by omega⟩
def j3x:TDef:=⟨0,false,[],[],[],[],[],[],[],false,[]⟩
theorem Xm (l:List TDef) (d r:List (List DC)) (n:List UInt8) (hl:l.length ≤ 1048576):yn [.sl (l.map TDef.enc),.sl d,.sl r,.s n] = .ret (((pZ l n).getD j3x).enc ++ [.b (pZ l n).isSome]):=by
 rw [j2o]
 simp only [qL,qI,qS,qB,YI,List.getD_cons_zero,List.getD_cons_succ,DC.bb_b,DC.ii_i,DC.ss_s,DC.ll_sl,j6e l d r n hl,Out.bindR_ret]
 rcases qg l n with ⟨h1,h2⟩ | ⟨i,h,h1,h2,_⟩
 ·rw [h1,h2]
  rfl
 ·rw [h1,h2]
  have hn:¬ (i:Int) < 0:=by omega
  simp only [hn,decide_false,Bool.false_eq_true,if_false,jd,jx h,List.length_map,TDef.enc_eq,Option.getD_some,Option.isSome_some,List.getD_cons_zero,List.getD_cons_succ,DC.bb_b,DC.ii_i,DC.ss_s,DC.ll_sl]
  simp [h]
def Jf (n:List UInt8):Bool:=n == [73,110,116] || n == [70,108,111,97,116] || n == [83,116,114,105,110,103] || n == [66,111,111,108,101,97,110] || n == [73,68]
theorem X8 (n:List UInt8):zB [.s n] = .ret [.b (Jf n)]:=by
 rw [j2m]
 simp only [qL,qI,qS,qB,YH,List.getD_cons_zero,DC.ss_s,Jf]
 generalize (n == [73,110,116])=a
 generalize (n == [70,108,111,97,116])=b
 generalize (n == [83,116,114,105,110,103])=c
 generalize (n == [66,111,111,108,101,97,110])=e
 generalize (n == [73,68])=f
 cases a <;> cases b <;> cases c <;> cases e <;> simp
theorem j5b (n:List UInt8):QD [.s n] = .ret [.b (Jf n)]:=by
 rw [j2t]
 simp only [qL,qI,qS,qB,YN,List.getD_cons_zero,DC.ss_s,Jf]
 generalize (n == [73,110,116])=a
 generalize (n == [70,108,111,97,116])=b
 generalize (n == [83,116,114,105,110,103])=c
 generalize (n == [66,111,111,108,101,97,110])=e
 generalize (n == [73,68])=f
 cases a <;> cases b <;> cases c <;> cases e <;> cases f <;> simp
def jI (l:List TDef) (n:List UInt8):Int:=match pZ l n with | some d=>d.kind | none=>if Jf n then 1 else 0
theorem zn (l:List TDef) (d r:List (List DC)) (n:List UInt8) (hl:l.length ≤ 1048576):jU [.sl (l.map TDef.enc),.sl d,.sl r,.s n] = .ret [.i (jI l n)]:=by
 rw [j3f]
 simp only [qL,qI,qS,qB,Zs,List.getD_cons_zero,List.getD_cons_succ,DC.bb_b,DC.ii_i,DC.ss_s,DC.ll_sl,zk l d r n hl,X8,Out.bindR_ret,jI]
 rcases qg l n with ⟨h1,h2⟩ | ⟨i,h,h1,h2,_⟩
 ·rw [h1,h2]
  cases Jf n <;> simp
 ·rw [h1,h2]
  have hn:(i:Int) ≥ 0:=by omega
  simp only [hn,decide_true,if_true,jd,jx h,List.length_map,TDef.enc_eq,List.getD_cons_zero,List.getD_cons_succ,DC.bb_b,DC.ii_i,DC.ss_s,DC.ll_sl]
  simp [h]
theorem KK (l:List TDef) (d r:List (List DC)) (n:List UInt8) (hl:l.length ≤ 1048576):qZ [.sl (l.map TDef.enc),.sl d,.sl r,.s n] = .ret [.i (jI l n)]:=by
 rw [j3j]
 simp only [qL,qI,qS,qB,Zv,List.getD_cons_zero,List.getD_cons_succ,DC.bb_b,DC.ii_i,DC.ss_s,DC.ll_sl,Xm l d r n hl,j5b,Out.bindR_ret,jI]
 cases pZ l n with
 | none=>cases Jf n <;> simp [TDef.enc_eq]
 | some d=>simp [TDef.enc_eq]
theorem j1h (l:List TDef) (d r:List (List DC)) (n:List UInt8) (hl:l.length ≤ 1048576):Jo [.sl (l.map TDef.enc),.sl d,.sl r,.s n] = .ret [.b (jI l n == 2 || jI l n == 3 || jI l n == 4)]:=by
 rw [Z5]
 simp only [qL,qI,qS,qB,QS,List.getD_cons_zero,List.getD_cons_succ,DC.bb_b,DC.ii_i,DC.ss_s,DC.ll_sl,KK l d r n hl,Out.bindR_ret]
 cases jI l n == 2 <;> cases jI l n == 3 <;> simp
theorem j4S (l:List TDef) (d r:List (List DC)) (n:List UInt8) (hl:l.length ≤ 1048576):QA [.sl (l.map TDef.enc),.sl d,.sl r,.s n] = .ret [.b (jI l n == 1 || jI l n == 5 || jI l n == 6)]:=by
 rw [j2k]
 simp only [qL,qI,qS,qB,YG,List.getD_cons_zero,List.getD_cons_succ,DC.bb_b,DC.ii_i,DC.ss_s,DC.ll_sl,zn l d r n hl,Out.bindR_ret]
 cases jI l n == 1 <;> cases jI l n == 5 <;> simp
theorem j0q (l:List TDef) (d r:List (List DC)) (n:List UInt8) (hl:l.length ≤ 1048576):kp [.sl (l.map TDef.enc),.sl d,.sl r,.s n] = .ret [.b (jI l n == 1 || jI l n == 5 || jI l n == 6)]:=by
 rw [j2s]
 simp only [qL,qI,qS,qB,YM,List.getD_cons_zero,List.getD_cons_succ,DC.bb_b,DC.ii_i,DC.ss_s,DC.ll_sl,KK l d r n hl,Out.bindR_ret]
 cases jI l n == 1 <;> cases jI l n == 5 <;> simp
theorem j6f (l:List TDef) (d r:List (List DC)) (n:List UInt8) (hl:l.length ≤ 1048576):Kv [.sl (l.map TDef.enc),.sl d,.sl r,.s n] = .ret [.b (jI l n == 1 || jI l n == 5)]:=by
 rw [j3k]
 simp only [qL,qI,qS,qB,Zw,List.getD_cons_zero,List.getD_cons_succ,DC.bb_b,DC.ii_i,DC.ss_s,DC.ll_sl,KK l d r n hl,Out.bindR_ret]
 cases jI l n == 1 <;> simp
theorem j3B (l:List TDef) (d r:List (List DC)) (n:List UInt8) (hl:l.length ≤ 1048576):KU [.sl (l.map TDef.enc),.sl d,.sl r,.s n] = .ret [.b (jI l n != 0 && jI l n != 6)]:=by
 rw [j1s]
 simp only [qL,qI,qS,qB,XK,List.getD_cons_zero,List.getD_cons_succ,DC.bb_b,DC.ii_i,DC.ss_s,DC.ll_sl,zn l d r n hl,Out.bindR_ret]
 cases jI l n != 0 <;> simp
theorem Ze (l:List TDef) (d r:List (List DC)) (n:List UInt8) (hl:l.length ≤ 1048576):jR [.sl (l.map TDef.enc),.sl d,.sl r,.s n] = .ret [.b (jI l n != 0 && jI l n != 6)]:=by
 rw [j1t]
 simp only [qL,qI,qS,qB,XL,List.getD_cons_zero,List.getD_cons_succ,DC.bb_b,DC.ii_i,DC.ss_s,DC.ll_sl,KK l d r n hl,Out.bindR_ret]
 cases jI l n != 0 <;> simp
theorem yA (l:List (List UInt8)) (n:List UInt8) (hl:l.length ≤ 1048576):jN [.sl (l.map S1),.s n] = .ret [.b (l.any (· == n))]:=by
 rw [j39]
 simp only [qL,qI,qS,qB,Zm,List.getD_cons_zero,List.getD_cons_succ,DC.bb_b,DC.ii_i,DC.ss_s,DC.ll_sl]
 rw [show (0:Int)=((0:Nat):Int) from rfl,yK (l:=l) (st:=fun i=>[.sl (l.map S1),.s n,.i (i:Int)]) (p:=fun d=>d == n) (stop:=fun i _=>.ret [.b true]) (fin:=.ex 0 []) (fun i hi=>?step) (fun _ _=>Out.esc_ret _) ?fin (Out.esc_ex _ _),j7S]
 ·cases l.any fun d=>d == n <;> simp
 case step =>
  simp only [qL,qI,qS,qB,Q1,List.getD_cons_zero,List.getD_cons_succ,DC.bb_b,DC.ii_i,DC.ss_s,DC.ll_sl,jd,List.length_map,jx hi,S1]
  by_cases hp:l[i]=n <;> simp [hi,hp,jz hi (show l.length ≤ 9223372036854775807 by omega)]
 case fin=>simp [qL,qI,qS,qB,Q1]
theorem YZ (l:List (List UInt8)) (n:List UInt8) (hl:l.length ≤ 1048576):yW [.sl (l.map S1),.s n] = .ret [.i (pu (· == n) l)]:=by
 rw [Xp]
 simp only [qL,qI,qS,qB,K5,List.getD_cons_zero,List.getD_cons_succ,DC.bb_b,DC.ii_i,DC.ss_s,DC.ll_sl,List.length_map]
 rw [show (0:Int)=((0:Nat):Int) from rfl,yK (l:=l) (st:=fun i=>[.sl (l.map S1),.s n,.i (l.length:Int),.i (i:Int)]) (p:=fun d=>d == n) (stop:=fun i _=>.ret [.i (i:Int)]) (fin:=.ex 0 []) (fun i hi=>?step) (fun _ _=>Out.esc_ret _) ?fin (Out.esc_ex _ _),Jx (g:=fun i=>[.i i]),pu]
 ·cases l.findIdx? fun d=>d == n <;> simp
 case step =>
  simp only [qL,qI,qS,qB,yv,List.getD_cons_zero,List.getD_cons_succ,DC.bb_b,DC.ii_i,DC.ss_s,DC.ll_sl,jd,List.length_map,jx hi,S1]
  by_cases hp:n=l[i]
  ·simp [hi,← hp,jz hi (show l.length ≤ 9223372036854775807 by omega)]
  ·have hp2:¬ l[i]=n:=fun h=>hp h.symm
   simp [hi,hp,hp2,jz hi (show l.length ≤ 9223372036854775807 by omega)]
 case fin=>simp [qL,qI,qS,qB,yv]
theorem QF {α:Type} (p:α → Bool) (l:List α):decide (pu p l ≥ 0)=l.any p:=by
 rcases Xf p l with ⟨h1,h2⟩ | ⟨i,h,h1,h2,h3⟩
 ·rw [h1,List.any_eq_false.2 (fun x hx=>by simpa using List.find?_eq_none.1 h2 x hx)]
  rfl
 ·rw [h1,List.any_eq_true.2 ⟨l[i],ju h,h3⟩]
  simp
theorem pe (l:List (List UInt8)) (n:List UInt8) (hl:l.length ≤ 1048576):jO [.sl (l.map S1),.s n] = .ret [.b (l.any (· == n))]:=by
 rw [QW]
 simp only [qL,qI,qS,qB,J6,List.getD_cons_zero,List.getD_cons_succ,DC.bb_b,DC.ii_i,DC.ss_s,DC.ll_sl,YZ l n hl,Out.bindR_ret]
 rw [QF]
theorem Yh {l:List TDef} (hw:DC.wt (.sl (l.map TDef.enc)) ≤ 1048576) {d:TDef} (hd:d ∈ l):X4 d.enc ≤ 1048576:=by
 rw [DC.wt] at hw
 have:=Q9 (List.mem_map_of_mem (f:=TDef.enc) hd)
 omega
theorem Yg {l:List TDef} (hw:DC.wt (.sl (l.map TDef.enc)) ≤ 1048576):l.length ≤ 1048576:=by
 rw [DC.wt,List.length_map] at hw
 omega
theorem Jy {d:TDef} (h:X4 d.enc ≤ 1048576):d.faces.length ≤ 1048576:=by
 simp only [TDef.enc_eq,X4,DC.wt,List.length_map] at h
 omega
theorem VR {l:List TDef} {n:List UInt8} {d:TDef} (h:pZ l n=some d):d ∈ l:=by
 unfold pZ at h
 split at h
 ·simp at h
 ·exact List.mem_of_find?_eq_some h
def VS (l:List TDef) (a b:List UInt8):Bool :=
 a == b || match pZ l a,pZ l b with
  | some x,some y=>(y.kind == 3 && (x.kind == 2 || x.kind == 3) && x.faces.any (· == b)) || (y.kind == 4 && x.kind == 2 && y.faces.any (· == a))
  | _,_=>false
theorem Z9 (l:List TDef) (d r:List (List DC)) (a b:List UInt8) (hw:DC.wt (.sl (l.map TDef.enc)) ≤ 1048576):KT [.sl (l.map TDef.enc),.sl d,.sl r,.s a,.s b] = .ret [.b (VS l a b)]:=by
 rw [j1m]
 simp only [qL,qI,qS,qB,XF,List.getD_cons_zero,List.getD_cons_succ,DC.bb_b,DC.ii_i,DC.ss_s,DC.ll_sl,zk l d r _ (Yg hw),Out.bindR_ret,VS]
 by_cases hab:a=b
 ·simp [hab]
 ·have hab':(a == b)=false:=by simpa using hab
  rcases qg l a with ⟨h1,h2⟩ | ⟨i,h,h1,h2,_⟩
  ·simp [h1,h2,hab,hab']
  ·rcases qg l b with ⟨k1,k2⟩ | ⟨j,k,k1,k2,_⟩
   ·simp [h1,h2,k1,k2,hab,hab']
   ·have f1:=Jy (Yh hw (ju h))
    have f2:=Jy (Yh hw (ju k))
    have hi:¬ (i:Int) < 0:=by omega
    have hj:¬ (j:Int) < 0:=by omega
    simp only [h1,h2,k1,k2,hi,hj,decide_false,Bool.false_eq_true,if_false,Out.andThen_norm,List.getD_cons_zero,List.getD_cons_succ,DC.bb_b,DC.ii_i,DC.ss_s,DC.ll_sl,jd,jx h,jx k,TDef.enc_eq,List.length_map]
    have e:=yA l[i].faces b f1
    have e2:=yA l[j].faces a f2
    by_cases y3:l[j].kind=3
    ·by_cases x2:l[i].kind=2
     ·simp [hab,hab',h,k,y3,x2,e,e2]
     ·by_cases x3:l[i].kind=3 <;> simp [hab,hab',h,k,y3,x2,x3,e,e2]
    ·by_cases y4:l[j].kind=4 <;> by_cases x2:l[i].kind=2 <;> simp [hab,hab',h,k,y3,y4,x2,e,e2]
theorem j0o (l:List TDef) (d r:List (List DC)) (a b:List UInt8) (hw:DC.wt (.sl (l.map TDef.enc)) ≤ 1048576):QC [.sl (l.map TDef.enc),.sl d,.sl r,.s a,.s b] = .ret [.b (VS l a b)]:=by
 rw [j2p]
 simp only [qL,qI,qS,qB,YJ,List.getD_cons_zero,List.getD_cons_succ,DC.bb_b,DC.ii_i,DC.ss_s,DC.ll_sl,Xm l d r _ (Yg hw),Out.bindR_ret,VS]
 by_cases hab:a=b
 ·simp [hab]
 ·have hab':(a == b)=false:=by simpa using hab
  cases hx:pZ l a with
  | none =>
   cases hy:pZ l b with
   | none=>simp [hab,hab',TDef.enc_eq,j3x]
   | some y=>by_cases y3:y.kind=3 <;> by_cases y4:y.kind=4 <;> simp [hab,hab',TDef.enc_eq,j3x,y3,y4]
  | some x =>
   cases hy:pZ l b with
   | none=>simp [hab,hab',TDef.enc_eq,j3x]
   | some y =>
    have e:=pe x.faces b (Jy (Yh hw (VR hx)))
    have e2:=pe y.faces a (Jy (Yh hw (VR hy)))
    simp only [Option.getD_some,TDef.enc_eq,jh,jg,List.getD_cons_zero,List.getD_cons_succ,DC.bb_b,DC.ii_i,DC.ss_s,DC.ll_sl,e,e2,Out.bindR_ret]
    by_cases y3:y.kind=3
    ·by_cases x2:x.kind=2
     ·simp [hab,hab',y3,x2]
     ·by_cases x3:x.kind=3 <;> simp [hab,hab',y3,x2,x3]
    ·by_cases y4:y.kind=4 <;> by_cases x2:x.kind=2 <;> simp [hab,hab',y3,y4,x2]
def yh (f:Bool):List UInt8 → List UInt8 → Bool
 | x :: xs,y :: ys=>if y == 33 then x == 33 && yh f xs ys else if x == 33 then yh f xs (y :: ys) else if x == 93 && y == 93 then yh f xs ys else false
 | [],y :: ys=>false
 | x :: xs,[]=>if x == 33 then yh f xs [] else false
 | [],[]=>f
termination_by a b=>a.length + b.length
theorem u8i (x:UInt8) (c:UInt8):((x.toNat:Int) == (c.toNat:Int))=(x == c):=by
 rw [Bool.eq_iff_iff]
 simp only [beq_iff_eq]
 constructor
 ·intro h
  exact UInt8.toNat_inj.1 (by omega)
 ·intro h; rw [h]
theorem j2K (xs:List UInt8) (x:UInt8):(xs ++ [x]).getD xs.length 0=x:=by simp [List.getD_eq_getElem?_getD]
theorem j12 (xs:List UInt8) (x:UInt8):(xs ++ [x]).take xs.length=xs:=by simp
theorem j8m (xs:List UInt8) (x:UInt8):(xs ++ [x]).drop xs.length=[x]:=by simp
theorem pj {n:Nat} (h:n ≤ 1048576):IntKind.i64.wrap (((n + 1:Nat):Int) - 1)=(n:Int):=by
 rw [j0U (by omega) (by omega)]; omega
theorem j3A (l:List TDef) (d r:List (List DC)) (a b:List UInt8) (hw:DC.wt (.sl (l.map TDef.enc)) ≤ 1048576):∀ (n:Nat) (wa wb:List UInt8),wa.length + wb.length ≤ n → n ≤ 1048576 →
  jy jS [.sl (l.map TDef.enc),.sl d,.sl r,.s a,.s wa.reverse,.s b,.s wb.reverse] = .ret [.b (yh (VS l a b) wa wb)]:=by
 intro n
 induction n with
 | zero =>
  intro wa wb hn _
  have h1:wa=[]:=jm (by omega)
  have h2:wb=[]:=jm (by omega)
  subst h1 h2
  refine yS ?_
  simp [qL,qI,qS,qB,jS,yh,Z9 l d r a b hw]
 | succ n ih =>
  intro wa wb hn hm
  have c33:∀ x:UInt8,((x.toNat:Int) == 33)=(x == 33):=fun x=>u8i x 33
  have c93:∀ x:UInt8,((x.toNat:Int) == 93)=(x == 93):=fun x=>u8i x 93
  cases wa with
  | nil =>
   cases wb with
   | nil =>
    refine yS ?_
    simp [qL,qI,qS,qB,jS,yh,Z9 l d r a b hw]
   | cons y ys =>
    refine yS ?_
    have hy:ys.length ≤ 1048576:=by simp only [jb,jf] at hn; omega
    have g:=j2K ys.reverse y
    rw [List.length_reverse] at g
    simp only [qL,qI,qS,qB,jS,List.getD_cons_zero,List.getD_cons_succ,DC.bb_b,DC.ii_i,DC.ss_s,DC.ll_sl,List.reverse_cons,jj,List.length_reverse,List.length_singleton,pj hy,jd,g,c33,c93]
    have q1:(ys.length:Int) < (ys.length:Int) + 1:=by omega
    have q4:¬ ((ys.length:Int) + 1=0):=by omega
    by_cases h33:y=33
    ·simp [h33,yh,q1,q4]
    ·simp [h33,yh,q1,q4]
  | cons x xs =>
   have hx:xs.length ≤ 1048576:=by simp only [jb] at hn; omega
   have gx:=j2K xs.reverse x
   have tx:=j12 xs.reverse x
   have p1:(xs.length:Int) < (xs.length:Int) + 1:=by omega
   have p2:(xs.length:Int) ≤ (xs.length:Int) + 1:=by omega
   have p3:(0:Int) < (xs.length:Int) + 1:=by omega
   have p4:¬ ((xs.length:Int) + 1=0):=by omega
   have p5:IntKind.i64.wrap (xs.length:Int)=(xs.length:Int):=j0U (by omega) (by omega)
   have p6:(xs.reverse ++ [x])[xs.length]? = some x:=by simp
   rw [List.length_reverse] at gx tx
   cases wb with
   | nil =>
    by_cases h33:x=33
    ·subst h33
     have:=ih xs [] (by simp only [jb,jf] at hn ⊢; omega) (by omega)
     rw [jH (v':=[.sl (l.map TDef.enc),.sl d,.sl r,.s a,.s xs.reverse,.s b,.s ([]:List UInt8).reverse])]
     ·rw [this]; simp [yh]
     ·simp only [qL,qI,qS,qB,jS,List.getD_cons_zero,List.getD_cons_succ,DC.bb_b,DC.ii_i,DC.ss_s,DC.ll_sl,List.reverse_cons,jj,List.length_reverse,List.length_singleton,pj hx,jd,gx,tx,c33,c93]
      simp [hx,p1,p2,p3,p4,p5,p6]
    ·refine yS ?_
     simp only [qL,qI,qS,qB,jS,List.getD_cons_zero,List.getD_cons_succ,DC.bb_b,DC.ii_i,DC.ss_s,DC.ll_sl,List.reverse_cons,jj,List.length_reverse,List.length_singleton,pj hx,jd,gx,tx,c33,c93]
     simp [h33,yh,hx,p1,p2,p3,p4,p5,p6]
   | cons y ys =>
    have hy:ys.length ≤ 1048576:=by simp only [jb] at hn; omega
    have gy:=j2K ys.reverse y
    have ty:=j12 ys.reverse y
    rw [List.length_reverse] at gy ty
    have q1:(ys.length:Int) < (ys.length:Int) + 1:=by omega
    have q2:(ys.length:Int) ≤ (ys.length:Int) + 1:=by omega
    have q3:(0:Int) < (ys.length:Int) + 1:=by omega
    have q4:¬ ((ys.length:Int) + 1=0):=by omega
    have q5:IntKind.i64.wrap (ys.length:Int)=(ys.length:Int):=j0U (by omega) (by omega)
    have q6:(ys.reverse ++ [y])[ys.length]? = some y:=by simp
    by_cases y33:y=33
    ·subst y33
     by_cases x33:x=33
     ·subst x33
      rw [jH (v':=[.sl (l.map TDef.enc),.sl d,.sl r,.s a,.s xs.reverse,.s b,.s ys.reverse])]
      ·rw [ih xs ys (by simp only [jb] at hn; omega) (by omega)]
       simp [yh]
      ·simp only [qL,qI,qS,qB,jS,List.getD_cons_zero,List.getD_cons_succ,DC.bb_b,DC.ii_i,DC.ss_s,DC.ll_sl,List.reverse_cons,jj,List.length_reverse,List.length_singleton,pj hx,pj hy,jd,gx,tx,gy,ty,c33,c93]
       simp [p1,p2,p3,p4,p5,p6,q1,q2,q3,q4,q5,q6,pj hx,pj hy,gx,tx,gy,ty]
     ·refine yS ?_
      have nx:¬ ((x.toNat:Int)=33):=by
       intro h
       have:=c33 x
       simp [h,x33] at this
      simp only [qL,qI,qS,qB,jS,List.getD_cons_zero,List.getD_cons_succ,DC.bb_b,DC.ii_i,DC.ss_s,DC.ll_sl,List.reverse_cons,jj,List.length_reverse,List.length_singleton,pj hx,pj hy,jd,gx,tx,gy,ty,c33,c93]
      simp [x33,nx,p1,p2,p3,p4,p5,p6,q1,q2,q3,q4,q5,q6,yh]
    ·by_cases x33:x=33
     ·subst x33
      rw [jH (v':=[.sl (l.map TDef.enc),.sl d,.sl r,.s a,.s xs.reverse,.s b,.s (y :: ys).reverse])]
      ·rw [ih xs (y :: ys) (by simp only [jb] at hn ⊢; omega) (by omega)]
       simp [yh,y33]
      ·simp only [qL,qI,qS,qB,jS,List.getD_cons_zero,List.getD_cons_succ,DC.bb_b,DC.ii_i,DC.ss_s,DC.ll_sl,List.reverse_cons,jj,List.length_reverse,List.length_singleton,pj hx,pj hy,jd,gx,tx,gy,ty,c33,c93]
       simp [y33,p1,p2,p3,p4,p5,p6,q1,q2,q3,q4,q5,q6]
     ·by_cases h93:x=93 ∧ y=93
      ·obtain ⟨x93,y93⟩:=h93
       subst x93 y93
       rw [jH (v':=[.sl (l.map TDef.enc),.sl d,.sl r,.s a,.s xs.reverse,.s b,.s ys.reverse])]
       ·rw [ih xs ys (by simp only [jb] at hn; omega) (by omega)]
        simp [yh]
       ·simp only [qL,qI,qS,qB,jS,List.getD_cons_zero,List.getD_cons_succ,DC.bb_b,DC.ii_i,DC.ss_s,DC.ll_sl,List.reverse_cons,jj,List.length_reverse,List.length_singleton,pj hx,pj hy,jd,gx,tx,gy,ty,c33,c93]
        simp [p1,p2,p3,p4,p5,p6,q1,q2,q3,q4,q5,q6]
      ·refine yS ?_
       simp only [qL,qI,qS,qB,jS,List.getD_cons_zero,List.getD_cons_succ,DC.bb_b,DC.ii_i,DC.ss_s,DC.ll_sl,List.reverse_cons,jj,List.length_reverse,List.length_singleton,pj hx,pj hy,jd,gx,tx,gy,ty,c33,c93]
       by_cases x93:x=93
       ·have y93:¬ y=93:=fun h=>h93 ⟨x93,h⟩
        simp [y33,x33,x93,y93,p1,p2,p3,p4,p5,p6,q1,q2,q3,q4,q5,q6,yh]
       ·simp [y33,x33,x93,p1,p2,p3,p4,p5,p6,q1,q2,q3,q4,q5,q6,yh]
theorem j4R (l:List TDef) (d r:List (List DC)) (a wa b wb:List UInt8) (hw:DC.wt (.sl (l.map TDef.enc)) ≤ 1048576) (h1:wa.length + wb.length ≤ 1048576):Qy [.sl (l.map TDef.enc),.sl d,.sl r,.s a,.s wa,.s b,.s wb] = .ret [.b (yh (VS l a b) wa.reverse wb.reverse)]:=by
 rw [j2i]
 have:=j3A l d r a b hw (wa.length + wb.length) wa.reverse wb.reverse (by simp) h1
 rw [List.reverse_reverse,List.reverse_reverse] at this
 simp only [qL,qI,qS,qB,YF,List.getD_cons_zero,List.getD_cons_succ,DC.bb_b,DC.ii_i,DC.ss_s,DC.ll_sl,this,Out.andThenB_ret]
theorem jb0 (c:UInt8):yb [.s [],.s [c]] = .ret [.s [],.b false]:=by
 rw [KL]
 simp [qL,qI,qS,qB,zY,qF,pi,qE,ph]
theorem ja7 (xs:List UInt8) (x c:UInt8) (hx:xs.length ≤ 1048576):yb [.s (xs ++ [x]),.s [c]] = .ret (if x=c then [.s xs,.b true] else [.s (xs ++ [x]),.b false]):=by
 have h1:=pj hx
 have h2:=j8m xs x
 have h3:=j12 xs x
 have h4:(xs.length:Int) ≤ ((xs.length + 1:Nat):Int):=by omega
 have h5:(((xs.length + 1:Nat):Int) ≥ 1):=by omega
 rw [KL]
 simp only [qL,qI,qS,qB,zY,qF,pi,qE,ph,List.getD_cons_zero,List.getD_cons_succ,DC.ss_s,jj,List.length_singleton,Int.natCast_one,h1,h2,h3,h4,h5,jd,decide_true,if_true,Int.natCast_nonneg,and_true,true_and]
 by_cases hc:x=c <;> simp [hc]
theorem yT (a:List UInt8) (c:UInt8):pC [.s a,.s [],.s [c]] = .ret [.s a,.s [],.b false]:=by
 rw [Vc]
 simp [qL,qI,qS,qB,Kr,jb0]
theorem kj (a xs:List UInt8) (x c:UInt8) (hx:xs.length ≤ 1048576):pC [.s a,.s (xs ++ [x]),.s [c]] = .ret (if x=c then [.s a,.s xs,.b true] else [.s a,.s (xs ++ [x]),.b false]):=by
 rw [Vc]
 simp only [qL,qI,qS,qB,Kr,List.getD_cons_zero,List.getD_cons_succ,DC.ss_s,ja7 xs x c hx,Out.bindR_ret]
 by_cases hc:x=c <;> simp [hc]
theorem j3G (l:List TDef) (d r:List (List DC)) (a b:List UInt8) (hw:DC.wt (.sl (l.map TDef.enc)) ≤ 1048576):∀ (n:Nat) (wa wb:List UInt8),wa.length + wb.length ≤ n → n ≤ 1048576 →
  kJ [.sl (l.map TDef.enc),.sl d,.sl r,.s a,.s wa.reverse,.s b,.s wb.reverse] = .ret [.b (yh (VS l a b) wa wb)]:=by
 intro n
 induction n with
 | zero =>
  intro wa wb hn _
  have h1:wa=[]:=jm (by omega)
  have h2:wb=[]:=jm (by omega)
  subst h1 h2
  rw [XA]
  simp [qL,qI,qS,qB,yy,yh,j0o l d r a b hw,yT]
 | succ n ih =>
  intro wa wb hn hm
  rw [XA]
  cases wa with
  | nil =>
   cases wb with
   | nil=>simp [qL,qI,qS,qB,yy,yh,j0o l d r a b hw,yT]
   | cons y ys =>
    have hy:ys.reverse.length ≤ 1048576:=by simp only [jb,jf,List.length_reverse] at hn ⊢; omega
    simp only [qL,qI,qS,qB,yy,List.getD_cons_zero,List.getD_cons_succ,DC.bb_b,DC.ii_i,DC.ss_s,DC.ll_sl,List.reverse_cons,List.reverse_nil,yT,kj _ _ _ _ hy,Out.bindR_ret]
    by_cases h33:y=33
    ·simp [h33,yh]
    ·by_cases h93:y=93 <;> simp [h33,h93,yh,yT,kj _ _ _ _ hy]
  | cons x xs =>
   have hx:xs.reverse.length ≤ 1048576:=by simp only [jb,List.length_reverse] at hn ⊢; omega
   cases wb with
   | nil =>
    simp only [qL,qI,qS,qB,yy,List.getD_cons_zero,List.getD_cons_succ,DC.bb_b,DC.ii_i,DC.ss_s,DC.ll_sl,List.reverse_cons,List.reverse_nil,yT,kj _ _ _ _ hx,Out.bindR_ret]
    by_cases h33:x=33
    ·have:=ih xs [] (by simp only [jb,jf] at hn ⊢; omega) (by omega)
     rw [List.reverse_nil] at this
     simp [h33,yh,this]
    ·by_cases h93:x=93 <;> simp [h33,h93,yh,yT,kj _ _ _ _ hx]
   | cons y ys =>
    have hy:ys.reverse.length ≤ 1048576:=by simp only [jb,List.length_reverse] at hn ⊢; omega
    have i1:=ih xs ys (by simp only [jb] at hn; omega) (by omega)
    have i2:=ih xs (y :: ys) (by simp only [jb] at hn ⊢; omega) (by omega)
    rw [List.reverse_cons] at i2
    simp only [qL,qI,qS,qB,yy,List.getD_cons_zero,List.getD_cons_succ,DC.bb_b,DC.ii_i,DC.ss_s,DC.ll_sl,List.reverse_cons,kj _ _ _ _ hx,kj _ _ _ _ hy,Out.bindR_ret]
    by_cases y33:y=33
    ·by_cases x33:x=33
     ·simp [y33,x33,yh,i1]
     ·simp [y33,x33,yh]
    ·by_cases x33:x=33
     ·simp [y33,x33,yh,i2]
     ·by_cases x93:x=93
      ·by_cases y93:y=93
       ·simp [x93,y93,yh,kj _ _ _ _ hx,kj _ _ _ _ hy,i1]
       ·simp [y33,x93,y93,yh,kj _ _ _ _ hx,kj _ _ _ _ hy]
      ·by_cases y93:y=93 <;> simp [y33,x33,x93,y93,yh,kj _ _ _ _ hx,kj _ _ _ _ hy]
theorem Qe (l:List TDef) (d r:List (List DC)) (a wa b wb:List UInt8) (hw:DC.wt (.sl (l.map TDef.enc)) ≤ 1048576) (h1:wa.length + wb.length ≤ 1048576):kJ [.sl (l.map TDef.enc),.sl d,.sl r,.s a,.s wa,.s b,.s wb] = .ret [.b (yh (VS l a b) wa.reverse wb.reverse)]:=by
 have:=j3G l d r a b hw (wa.length + wb.length) wa.reverse wb.reverse (by simp) h1
 rwa [List.reverse_reverse,List.reverse_reverse] at this
abbrev Wd:=List UInt8
theorem jah:∀ (x y:Wd),Op.bytesLess x y=decide (x < y)
 | x,[]=>by
  have:¬ x < []:=by simp
  cases x <;> simp [Op.bytesLess]
 | [],b :: y=>by simp [Op.bytesLess]
 | a :: x,b :: y=>by
  rw [Op.bytesLess,jah x y]
  simp only [List.cons_lt_cons_iff]
  by_cases h:a < b
  ·simp [h]
  ·by_cases h':a=b
   ·subst h'; simp
   ·simp [h,h']
theorem jc2 {x y:Wd}:(Op.bytesLess x y || x == y)=decide (x ≤ y):=by
 rw [jah]
 by_cases h:x < y
 ·simp [h,List.le_of_lt h]
 ·by_cases h':x=y
  ·subst h'; simp [List.le_refl]
  ·have:¬ x ≤ y:=fun k=>h (by
    rcases List.not_lt.1 h with k2
    exact absurd (List.le_antisymm k k2) h')
   simp [h,h',this]
theorem XR {x y:Wd} (h:x ≤ y) (hn:x ≠ y):x < y:=by
 by_cases k:x < y
 ·exact k
 ·exact absurd (List.le_antisymm h (List.not_lt.1 k)) hn
theorem j8T {x y z:Wd} (h:x < y) (k:y ≤ z):x < z:=by
 by_cases e:y=z
 ·exact e ▸ h
 ·exact List.lt_trans h (XR k e)
theorem j8U {x y z:Wd} (h:x ≤ y) (k:y < z):x < z:=by
 by_cases e:x=y
 ·exact e ▸ k
 ·exact List.lt_trans (XR h e) k
theorem pR {x y z:Wd} (h:x ≤ y) (k:y ≤ z):x ≤ z:=by
 by_cases e:x=y
 ·exact e ▸ k
 ·exact List.le_of_lt (j8T (XR h e) k)
theorem j5t (x y:Wd):x ≤ y ∨ y ≤ x:=by
 by_cases k:x < y
 ·exact .inl (List.le_of_lt k)
 ·exact .inr (List.not_lt.1 k)
def Up (l:List Wd):Prop:=l.Pairwise (· < ·)
theorem Up.ext:∀ {l m:List Wd},Up l → Up m → (∀ x,x ∈ l ↔ x ∈ m) → l=m
 | [],[],_,_,_=>rfl
 | [],y :: m,_,_,h=>absurd ((h y).2 (by simp)) (by simp)
 | x :: l,[],_,_,h=>absurd ((h x).1 (by simp)) (by simp)
 | x :: l,y :: m,hl,hm,h=>by
  obtain ⟨h1,h2⟩:=List.pairwise_cons.1 hl
  obtain ⟨k1,k2⟩:=List.pairwise_cons.1 hm
  have e:x=y:=by
   rcases List.mem_cons.1 ((h x).1 (by simp)) with e | e
   ·exact e
   ·rcases List.mem_cons.1 ((h y).2 (by simp)) with e' | e'
    ·exact e'.symm
    ·exact absurd (List.lt_trans (h1 y e') (k1 x e)) (List.lt_irrefl _)
  subst e
  congr 1
  refine Up.ext h2 k2 fun z=>⟨fun hz=>?_,fun hz=>?_⟩
  ·rcases List.mem_cons.1 ((h z).1 (by simp [hz])) with e | e
   ·subst e; exact absurd (h1 z hz) (List.lt_irrefl _)
   ·exact e
  ·rcases List.mem_cons.1 ((h z).2 (by simp [hz])) with e | e
   ·subst e; exact absurd (k1 z hz) (List.lt_irrefl _)
   ·exact e
def ups (l:List Wd):List Wd:=Lib.compact (l.mergeSort fun x y=>decide (x ≤ y))
theorem Yj {zs:List Wd} (hs:zs.Pairwise (· ≤ ·)):∀ m,m ≤ zs.length → Up (Lib.compactUpTo zs.toArray m) ∧ (∀ x,x ∈ Lib.compactUpTo zs.toArray m ↔ ∃ j,j < m ∧ zs[j]? = some x)
 | 0,_=>by
  refine ⟨by simp [Up,Lib.compactUpTo],fun x=>by simp [Lib.compactUpTo]⟩
 | m + 1,hm=>by
  obtain ⟨h1,h2⟩:=Yj hs m (by omega)
  have hget:∀ j,j < zs.length → zs.toArray[j]! = zs.getD j []:=fun j hj=>by
   rw [getElem!_pos _ j (by simpa using hj)]
   simp [hj]
  have hgs:∀ j,j < zs.length → zs[j]? = some (zs.getD j []):=fun j hj=>by simp [hj]
  have hle:∀ i j,i < j → j < zs.length → zs.getD i [] ≤ zs.getD j []:=fun i j hij hj=>by
   have:=List.pairwise_iff_getElem.1 hs i j (by omega) hj hij
   simpa [show i < zs.length by omega,hj] using this
  rw [Lib.compactUpTo_succ]
  by_cases hk:Lib.keeps zs.toArray m=true
  ·rw [if_pos hk,hget m (by omega)]
   refine ⟨?_,fun x=>?_⟩
   ·refine List.pairwise_append.2 ⟨h1,by simp,fun x hx y hy=>?_⟩
    simp only [List.mem_singleton] at hy
    subst hy
    obtain ⟨j,hj,hjx⟩:=(h2 x).1 hx
    rw [hgs j (by omega)] at hjx
    obtain rfl:=Option.some.inj hjx
    have hne:zs.getD m [] ≠ zs.getD (m - 1) []:=by
     unfold Lib.keeps at hk
     rw [decide_eq_true_eq,hget m (by omega),hget (m - 1) (by omega)] at hk
     rcases hk with hk | hk
     ·omega
     ·exact hk
    have h3:zs.getD (m - 1) [] < zs.getD m []:=XR (hle (m - 1) m (by omega) (by omega)) fun e=>hne e.symm
    by_cases e:j=m - 1
    ·subst e; exact h3
    ·exact j8U (hle j (m - 1) (by omega) (by omega)) h3
   ·rw [jC,h2 x]
    simp only [List.mem_singleton]
    constructor
    ·rintro (⟨j,hj,e⟩ | rfl)
     ·exact ⟨j,by omega,e⟩
     ·exact ⟨m,by omega,hgs m (by omega)⟩
    ·rintro ⟨j,hj,e⟩
     by_cases hjm:j=m
     ·subst hjm
      right
      rw [hgs j (by omega)] at e
      exact (Option.some.inj e).symm
     ·exact .inl ⟨j,by omega,e⟩
  ·rw [if_neg hk,jv]
   refine ⟨h1,fun x=>?_⟩
   rw [h2 x]
   have hk':0 < m ∧ zs.getD m []=zs.getD (m - 1) []:=by
    unfold Lib.keeps at hk
    rw [decide_eq_true_eq,not_or,hget m (by omega)] at hk
    have hm0:0 < m:=by omega
    rw [hget (m - 1) (by omega)] at hk
    exact ⟨hm0,by simpa using hk.2⟩
   constructor
   ·rintro ⟨j,hj,e⟩
    exact ⟨j,by omega,e⟩
   ·rintro ⟨j,hj,e⟩
    by_cases hjm:j=m
    ·subst hjm
     refine ⟨j - 1,by omega,?_⟩
     rw [← e,hgs j (by omega),hgs (j - 1) (by omega),hk'.2]
    ·exact ⟨j,by omega,e⟩
theorem j0W (l:List Wd):Up (ups l) ∧ ∀ x,x ∈ ups l ↔ x ∈ l:=by
 have hs:(l.mergeSort fun x y=>decide (x ≤ y)).Pairwise (· ≤ ·):=by
  have:=List.pairwise_mergeSort (le:=fun x y:Wd=>decide (x ≤ y)) (fun a b c h1 h2=>by
   simp only [decide_eq_true_eq] at *
   exact pR h1 h2) (fun a b=>by
   rcases j5t a b with h | h <;> simp [h]) l
  exact this.imp fun h=>by simpa using h
 obtain ⟨h1,h2⟩:=Yj hs _ (Nat.le_refl _)
 refine ⟨h1,fun x=>?_⟩
 unfold ups Lib.compact
 rw [h2 x,← List.mem_mergeSort (le:=fun x y:Wd=>decide (x ≤ y)) (l:=l)]
 rw [List.mem_iff_getElem?]
 constructor
 ·rintro ⟨j,_,e⟩; exact ⟨j,e⟩
 ·rintro ⟨j,e⟩
  refine ⟨j,?_,e⟩
  rcases jA j (l.mergeSort fun x y=>decide (x ≤ y)).length with h | h
  ·exact h
  ·rw [List.getElem?_eq_none h] at e; cases e
def push (out:List Wd) (s:Wd):List Wd:=if out.length=0 ∨ out.getD (out.length - 1) [] ≠ s then out ++ [s] else out
def mg:List Wd → List Wd → List Wd → List Wd
 | [],[],out=>out
 | [],y :: b,out=>mg [] b (push out y)
 | x :: a,[],out=>mg a [] (push out x)
 | x :: a,y :: b,out=>if x ≤ y then mg a (y :: b) (push out x) else mg (x :: a) b (push out y)
termination_by a b=>a.length + b.length
theorem j2v {out:List Wd} {s:Wd} (h:Up out) (hs:∀ x ∈ out,x ≤ s):Up (push out s) ∧ (∀ x,x ∈ push out s ↔ x ∈ out ∨ x=s) ∧ ∀ x ∈ push out s,x ≤ s:=by
 unfold push
 by_cases hc:out.length=0 ∨ out.getD (out.length - 1) [] ≠ s
 ·rw [if_pos hc]
  refine ⟨List.pairwise_append.2 ⟨h,by simp,fun x hx y hy=>?_⟩,fun x=>by simp,fun x hx=>?_⟩
  ·simp only [List.mem_singleton] at hy
   subst hy
   refine XR (hs x hx) fun e=>?_
   subst e
   rcases hc with hc | hc
   ·have:=jm hc
    subst this
    cases hx
   ·have hlen:0 < out.length:=List.length_pos_of_mem hx
    obtain ⟨i,hi,hix⟩:=List.mem_iff_getElem.1 hx
    have hl:out.getD (out.length - 1) []=out[out.length - 1]:=by simp [show out.length - 1 < out.length by omega]
    rw [hl] at hc
    by_cases e:i=out.length - 1
    ·subst e; exact hc hix
    ·have h1:=List.pairwise_iff_getElem.1 h i (out.length - 1) hi (by omega) (by omega)
     rw [hix] at h1
     exact hc (List.le_antisymm (hs _ (ju _)) (List.le_of_lt h1))
  ·rcases List.mem_append.1 hx with hx | hx
   ·exact hs x hx
   ·simp only [List.mem_singleton] at hx
    subst hx
    exact List.le_refl _
 ·rw [if_neg hc]
  refine ⟨h,fun x=>⟨.inl,?_⟩,hs⟩
  rintro (hx | rfl)
  ·exact hx
  ·simp only [not_or,Decidable.not_not] at hc
   have hl:out.getD (out.length - 1) []=out[out.length - 1]'(by omega):=by simp [show out.length - 1 < out.length by omega]
   rw [← hc.2,hl]
   exact ju _
theorem j67 (a b out:List Wd) (ha:Up a) (hb:Up b) (ho:Up out) (h1:∀ x ∈ out,∀ y ∈ a,x ≤ y) (h2:∀ x ∈ out,∀ y ∈ b,x ≤ y):Up (mg a b out) ∧ ∀ x,x ∈ mg a b out ↔ x ∈ out ∨ x ∈ a ∨ x ∈ b:=by
 match a,b with
 | [],[] =>
  unfold mg
  exact ⟨ho,fun x=>by simp⟩
 | [],y :: b =>
  unfold mg
  obtain ⟨k1,k2⟩:=List.pairwise_cons.1 hb
  obtain ⟨p1,p2,p3⟩:=j2v ho fun x hx=>h2 x hx y (by simp)
  obtain ⟨q1,q2⟩:=j67 [] b (push out y) ha k2 p1 (fun x hx z hz=>by cases hz) fun x hx z hz=>pR (p3 x hx) (List.le_of_lt (k1 z hz))
  refine ⟨q1,fun x=>?_⟩
  rw [q2 x,p2 x]
  simp only [List.not_mem_nil,false_or,List.mem_cons]
  exact or_assoc
 | x :: a,[] =>
  unfold mg
  obtain ⟨k1,k2⟩:=List.pairwise_cons.1 ha
  obtain ⟨p1,p2,p3⟩:=j2v ho fun z hz=>h1 z hz x (by simp)
  obtain ⟨q1,q2⟩:=j67 a [] (push out x) k2 hb p1 (fun z hz y hy=>pR (p3 z hz) (List.le_of_lt (k1 y hy))) fun x hx z hz=>by cases hz
  refine ⟨q1,fun z=>?_⟩
  rw [q2 z,p2 z]
  simp only [List.not_mem_nil,or_false,List.mem_cons]
  exact or_assoc
 | x :: a,y :: b =>
  unfold mg
  obtain ⟨k1,k2⟩:=List.pairwise_cons.1 ha
  obtain ⟨l1,l2⟩:=List.pairwise_cons.1 hb
  by_cases hxy:x ≤ y
  ·rw [if_pos hxy]
   obtain ⟨p1,p2,p3⟩:=j2v ho fun z hz=>h1 z hz x (by simp)
   obtain ⟨q1,q2⟩:=j67 a (y :: b) (push out x) k2 hb p1 (fun z hz t ht=>pR (p3 z hz) (List.le_of_lt (k1 t ht))) (fun z hz t ht=>by
    rcases List.mem_cons.1 ht with rfl | ht
    ·exact pR (p3 z hz) hxy
    ·exact pR (pR (p3 z hz) hxy) (List.le_of_lt (l1 t ht)))
   refine ⟨q1,fun z=>?_⟩
   rw [q2 z,p2 z]
   simp only [List.mem_cons]
   constructor
   ·rintro ((h | h) | h | h) <;> simp [h]
   ·rintro (h | (h | h) | h) <;> simp [h]
  ·rw [if_neg hxy]
   have hyx:y ≤ x:=(j5t x y).resolve_left hxy
   obtain ⟨p1,p2,p3⟩:=j2v ho fun z hz=>h2 z hz y (by simp)
   obtain ⟨q1,q2⟩:=j67 (x :: a) b (push out y) ha l2 p1 (fun z hz t ht=>by
    rcases List.mem_cons.1 ht with rfl | ht
    ·exact pR (p3 z hz) hyx
    ·exact pR (pR (p3 z hz) hyx) (List.le_of_lt (k1 t ht))) (fun z hz t ht=>pR (p3 z hz) (List.le_of_lt (l1 t ht)))
   refine ⟨q1,fun z=>?_⟩
   rw [q2 z,p2 z]
   simp only [List.mem_cons]
   constructor
   ·rintro ((h | h) | (h | h) | h) <;> simp [h]
   ·rintro (h | (h | h) | h | h) <;> simp [h]
termination_by a.length + b.length
theorem jbF (l m:List Wd):mg (ups l) (ups m) []=ups (l ++ m):=by
 obtain ⟨a1,a2⟩:=j0W l
 obtain ⟨b1,b2⟩:=j0W m
 obtain ⟨c1,c2⟩:=j0W (l ++ m)
 obtain ⟨d1,d2⟩:=j67 (ups l) (ups m) [] a1 b1 (by simp [Up]) (fun x hx=>by cases hx) (fun x hx=>by cases hx)
 refine Up.ext d1 c1 fun x=>?_
 rw [d2,c2,a2,b2]
 simp
theorem j0X {l:List Wd} (h:l.length < 2):ups l=l:=by
 obtain ⟨c1,c2⟩:=j0W l
 refine Up.ext c1 ?_ c2
 match l,h with
 | [],_=>simp [Up]
 | [x],_=>simp [Up]
theorem j4H (l:List Wd):(ups l).length ≤ l.length:=by
 unfold ups
 exact Nat.le_trans (j1N _) (by rw [List.length_mergeSort]; exact Nat.le_refl _)
theorem j7f {l:List Wd} {i:Nat} (h:i < l.length):(l.map S1).getD i []=[.s l[i]]:=by
 rw [jx h]
 rfl
theorem j8V {x y:Wd}:(Op.bytesLess x y || x == y)=decide (x ≤ y):=jc2
theorem j5R (s:Wd):push [] s=[s]:=rfl
theorem j4a {out:List Wd} {s:Wd} (h:0 < out.length) (hs:out[out.length - 1]'(by omega)=s):push out s=out:=by
 unfold push
 have:out.getD (out.length - 1) []=s:=by rw [← hs,List.getD_eq_getElem?_getD,List.getElem?_eq_getElem (by omega)]; rfl
 rw [if_neg]
 rw [this]
 simp
 intro e
 rw [e] at h
 simp at h
theorem j5S {out:List Wd} {s:Wd} (h:0 < out.length) (hs:out[out.length - 1]'(by omega) ≠ s):push out s=out ++ [s]:=by
 unfold push
 have:out.getD (out.length - 1) []=out[out.length - 1]'(by omega):=by rw [List.getD_eq_getElem?_getD,List.getElem?_eq_getElem (by omega)]; rfl
 rw [if_pos (.inr (by rw [this]; exact hs))]
theorem j09 (out:List Wd) (s:Wd):(push out s).length ≤ out.length + 1:=by
 unfold push
 split <;> simp
theorem j8j (A B:List Wd) (hA:A.length ≤ 1048576) (hB:B.length ≤ 1048576):∀ (m i k:Nat) (out:List Wd),(A.length - i) + (B.length - k) ≤ m → i ≤ A.length → k ≤ B.length → out.length ≤ i + k →
  jy jP [.sl (A.map S1),.sl (B.map S1),.sl (out.map S1),.i (i:Int),.i (k:Int)] = .ex 0 [.sl ((mg (A.drop i) (B.drop k) out).map S1)]:=by
 intro m
 induction m with
 | zero =>
  intro i k out hm hi hk ho
  have h1:i=A.length:=by omega
  have h2:k=B.length:=by omega
  subst h1 h2
  rw [List.drop_length,List.drop_length]
  unfold mg
  exact jK (by simp [qL,qI,qS,qB,jP,ja,DC.bb_b,DC.ii_i,DC.ll_sl])
 | succ m ih =>
  intro i k out hm hi hk ho
  have wl:0 < out.length → IntKind.i64.wrap ((out.length:Int) - 1)=((out.length - 1:Nat):Int):=fun h=>by rw [j0U (by omega) (by omega)]; omega
  have hLIM:out.length + 1 < jT:=by unfold jT; omega
  have takeA:∀ (h:i < A.length),(∀ k2:k < B.length,A[i] ≤ B[k]) → jy jP [.sl (A.map S1),.sl (B.map S1),.sl (out.map S1),.i (i:Int),.i (k:Int)]=jy jP [.sl (A.map S1),.sl (B.map S1),.sl ((push out A[i]).map S1),.i ((i + 1:Nat):Int),.i (k:Int)]:=by
   intro h hle
   refine jH ?_
   have hc1:(i:Int) < (A.length:Int):=by omega
   have ws:=jz h (show A.length ≤ 9223372036854775807 by omega)
   have hpre:∀ K:List DC → Out,ja (if (decide ((k:Int) ≥ (B.length:Int)))=true then Out.norm [.sl (A.map S1),.sl (B.map S1),.sl (out.map S1),.i (i:Int),.i (k:Int),.b true] else if (decide ((i:Int) < (A.length:Int)))=true then
     (if 0 ≤ (i:Int) ∧ (i:Int) < (A.length:Int) then (if 0 ≤ (k:Int) ∧ (k:Int) < (B.length:Int) then Out.norm [.sl (A.map S1),.sl (B.map S1),.sl (out.map S1),.i (i:Int),.i (k:Int),.b (Op.bytesLess ((((A.map S1).getD i []).getD 0 d0).ss) ((((B.map S1).getD k []).getD 0 d0).ss) || (((A.map S1).getD i []).getD 0 d0).ss == (((B.map S1).getD k []).getD 0 d0).ss)] else .fail) else .fail) else .norm [.sl (A.map S1),.sl (B.map S1),.sl (out.map S1),.i (i:Int),.i (k:Int),.b false]) K
     = K [.sl (A.map S1),.sl (B.map S1),.sl (out.map S1),.i (i:Int),.i (k:Int),.b true]:=by
    intro K
    by_cases hk2:k < B.length
    ·have e1:¬ ((k:Int) ≥ (B.length:Int)):=by omega
     have e2:(k:Int) < (B.length:Int):=by omega
     simp only [e1,decide_false,Bool.false_eq_true,if_false,hc1,decide_true,if_true]
     rw [if_pos ⟨by omega,trivial⟩,if_pos ⟨by omega,e2⟩,j7f h,j7f hk2]
     simp only [List.getD_cons_zero,DC.ss_s,j8V,hle hk2,decide_true]
     rfl
    ·have e1:((k:Int) ≥ (B.length:Int)):=by omega
     simp only [e1,decide_true,if_true]
     rfl
   simp only [qL,qI,qS,qB,jP,List.getD_cons_zero,List.getD_cons_succ,DC.bb_b,DC.ii_i,DC.ss_s,DC.ll_sl,jd,List.length_map,hc1,decide_true,if_true,eq_self,true_and]
   rw [show ∀ (v:List DC) (K:List DC → Out),ja (.norm v) K=K v from fun _ _=>rfl]
   simp only [List.getD_cons_zero,List.getD_cons_succ,DC.bb_b,DC.ii_i,DC.ss_s,DC.ll_sl,jd,List.length_map,if_true]
   rw [hpre]
   simp only [List.getD_cons_zero,List.getD_cons_succ,DC.bb_b,DC.ii_i,DC.ss_s,DC.ll_sl,jd,List.length_map,if_true,hc1,and_true]
   rw [if_pos (by omega),j7f h,ws]
   by_cases h0:0 < out.length
   ·have hne:((out.length:Int) == 0)=false:=beq_eq_false_iff_ne.2 (by omega)
    have hlt:out.length - 1 < out.length:=by omega
    by_cases hs:out[out.length - 1]'(by omega)=A[i]
    ·rw [j4a h0 hs]
     have hg:out[out.length - 1]? = some (out[out.length - 1]'hlt):=List.getElem?_eq_getElem hlt
     have hs':(S1 (out[out.length - 1]'hlt))=[DC.s (out[out.length - 1]'hlt)]:=rfl
     simp [ja,j9,DC.bb_b,DC.ii_i,DC.ss_s,DC.ll_sl,hne,wl h0,hg,h0,hlt,S1,hs,show out ≠ [] from by rintro rfl; simp at h0]
    ·rw [j5S h0 hs]
     have hg:out[out.length - 1]? = some (out[out.length - 1]'hlt):=List.getElem?_eq_getElem hlt
     simp [ja,j9,DC.bb_b,DC.ii_i,DC.ss_s,DC.ll_sl,hne,wl h0,hg,h0,hlt,S1,hs,hLIM,show out ≠ [] from by rintro rfl; simp at h0]
   ·have he:out=[]:=jm (by omega)
    subst he
    rw [j5R]
    simp [ja,j9,DC.bb_b,DC.ii_i,DC.ss_s,DC.ll_sl,S1,jT]
  have takeB:∀ (h:k < B.length),(∀ k2:i < A.length,¬ A[i] ≤ B[k]) → jy jP [.sl (A.map S1),.sl (B.map S1),.sl (out.map S1),.i (i:Int),.i (k:Int)]=jy jP [.sl (A.map S1),.sl (B.map S1),.sl ((push out B[k]).map S1),.i (i:Int),.i ((k + 1:Nat):Int)]:=by
   intro h hle
   refine jH ?_
   have hc1:(k:Int) < (B.length:Int):=by omega
   have hc2:¬ ((k:Int) ≥ (B.length:Int)):=by omega
   have ws:=jz h (show B.length ≤ 9223372036854775807 by omega)
   have hpre0:∀ K:List DC → Out,ja (if (decide ((i:Int) < (A.length:Int)))=true then Out.norm [.sl (A.map S1),.sl (B.map S1),.sl (out.map S1),.i (i:Int),.i (k:Int),.b true] else .norm [.sl (A.map S1),.sl (B.map S1),.sl (out.map S1),.i (i:Int),.i (k:Int),.b (decide ((k:Int) < (B.length:Int)))]) K
     = K [.sl (A.map S1),.sl (B.map S1),.sl (out.map S1),.i (i:Int),.i (k:Int),.b true]:=fun K=>by
    simp only [hc1,decide_true]
    split <;> rfl
   have hpre:∀ K:List DC → Out,ja (if (decide ((i:Int) < (A.length:Int)))=true then
     (if 0 ≤ (i:Int) ∧ (i:Int) < (A.length:Int) then (if 0 ≤ (k:Int) ∧ (k:Int) < (B.length:Int) then Out.norm [.sl (A.map S1),.sl (B.map S1),.sl (out.map S1),.i (i:Int),.i (k:Int),.b (Op.bytesLess ((((A.map S1).getD i []).getD 0 d0).ss) ((((B.map S1).getD k []).getD 0 d0).ss) || (((A.map S1).getD i []).getD 0 d0).ss == (((B.map S1).getD k []).getD 0 d0).ss)] else .fail) else .fail) else .norm [.sl (A.map S1),.sl (B.map S1),.sl (out.map S1),.i (i:Int),.i (k:Int),.b false]) K
     = K [.sl (A.map S1),.sl (B.map S1),.sl (out.map S1),.i (i:Int),.i (k:Int),.b false]:=by
    intro K
    by_cases hk2:i < A.length
    ·have e2:(i:Int) < (A.length:Int):=by omega
     simp only [e2,decide_true,if_true]
     rw [if_pos ⟨by omega,trivial⟩,if_pos ⟨by omega,hc1⟩,j7f h,j7f hk2]
     simp only [List.getD_cons_zero,DC.ss_s,j8V,hle hk2,decide_false]
     rfl
    ·have e1:¬ ((i:Int) < (A.length:Int)):=by omega
     simp only [e1,decide_false,Bool.false_eq_true,if_false]
     rfl
   simp only [qL,qI,qS,qB,jP,List.getD_cons_zero,List.getD_cons_succ,DC.bb_b,DC.ii_i,DC.ss_s,DC.ll_sl,jd,List.length_map,eq_self,true_and]
   rw [hpre0]
   simp only [List.getD_cons_zero,List.getD_cons_succ,DC.bb_b,DC.ii_i,DC.ss_s,DC.ll_sl,jd,List.length_map,if_true,hc2,decide_false,Bool.false_eq_true,if_false]
   rw [hpre]
   simp only [List.getD_cons_zero,List.getD_cons_succ,DC.bb_b,DC.ii_i,DC.ss_s,DC.ll_sl,jd,List.length_map,Bool.false_eq_true,if_false,hc1,and_true]
   rw [if_pos (by omega),j7f h,ws]
   by_cases h0:0 < out.length
   ·have hne:((out.length:Int) == 0)=false:=beq_eq_false_iff_ne.2 (by omega)
    have hlt:out.length - 1 < out.length:=by omega
    by_cases hs:out[out.length - 1]'(by omega)=B[k]
    ·rw [j4a h0 hs]
     have hg:out[out.length - 1]? = some (out[out.length - 1]'hlt):=List.getElem?_eq_getElem hlt
     have hs':(S1 (out[out.length - 1]'hlt))=[DC.s (out[out.length - 1]'hlt)]:=rfl
     simp [ja,j9,DC.bb_b,DC.ii_i,DC.ss_s,DC.ll_sl,hne,wl h0,hg,h0,hlt,S1,hs,show out ≠ [] from by rintro rfl; simp at h0]
    ·rw [j5S h0 hs]
     have hg:out[out.length - 1]? = some (out[out.length - 1]'hlt):=List.getElem?_eq_getElem hlt
     simp [ja,j9,DC.bb_b,DC.ii_i,DC.ss_s,DC.ll_sl,hne,wl h0,hg,h0,hlt,S1,hs,hLIM,show out ≠ [] from by rintro rfl; simp at h0]
   ·have he:out=[]:=jm (by omega)
    subst he
    rw [j5R]
    simp [ja,j9,DC.bb_b,DC.ii_i,DC.ss_s,DC.ll_sl,S1,jT]
  by_cases h1:i < A.length
  ·by_cases h2:k < B.length
   ·by_cases hle:A[i] ≤ B[k]
    ·rw [takeA h1 fun _=>hle,ih (i + 1) k _ (by omega) (by omega) hk (by have:=j09 out A[i]; omega)]
     conv=>rhs; rw [List.drop_eq_getElem_cons h1,List.drop_eq_getElem_cons h2]; unfold mg
     rw [if_pos hle,← List.drop_eq_getElem_cons h2]
    ·rw [takeB h2 fun _=>hle,ih i (k + 1) _ (by omega) hi (by omega) (by have:=j09 out B[k]; omega)]
     conv=>rhs; rw [List.drop_eq_getElem_cons h1,List.drop_eq_getElem_cons h2]; unfold mg
     rw [if_neg hle,← List.drop_eq_getElem_cons h1]
   ·rw [takeA h1 fun h=>absurd h h2,ih (i + 1) k _ (by omega) (by omega) hk (by have:=j09 out A[i]; omega)]
    have:B.drop k=[]:=List.drop_of_length_le (by omega)
    rw [this]
    conv=>rhs; rw [List.drop_eq_getElem_cons h1]; unfold mg
  ·have hd:A.drop i=[]:=List.drop_of_length_le (by omega)
   by_cases h2:k < B.length
   ·rw [takeB h2 fun h=>absurd h h1,ih i (k + 1) _ (by omega) hi (by omega) (by have:=j09 out B[k]; omega),hd]
    conv=>rhs; rw [List.drop_eq_getElem_cons h2]; unfold mg
   ·have hd2:B.drop k=[]:=List.drop_of_length_le (by omega)
    have e1:i=A.length:=by omega
    have e2:k=B.length:=by omega
    subst e1 e2
    rw [hd,hd2]
    unfold mg
    exact jK (by simp [qL,qI,qS,qB,jP,ja,DC.bb_b,DC.ii_i,DC.ll_sl])
theorem j5G:∀ (m:Nat) (l:List Wd),l.length ≤ m → l.length ≤ 1048576 → yj [.sl (l.map S1)] = .ret [.sl ((ups l).map S1)]:=by
 intro m
 induction m with
 | zero =>
  intro l hl _
  have:l=[]:=jm (by omega)
  subst this
  rw [Va,j0X (by simp)]
  simp [qL,qI,qS,qB,Km,DC.ll_sl,jT]
 | succ m ih =>
  intro l hl hlim
  rw [Va]
  simp only [qL,qI,qS,qB,Km,List.getD_cons_zero,DC.ll_sl,List.length_map]
  by_cases h2:l.length < 2
  ·have h2':(l.length:Int) < 2:=by omega
   have hL:([]:List (List DC)).length + l.length < jT:=by unfold jT; simp; omega
   simp only [h2',decide_true,if_true]
   rw [if_pos hL,jg,j0X h2]
  ·have h2':¬ (l.length:Int) < 2:=by omega
   have hd:(l.length:Int).tdiv 2=((l.length / 2:Nat):Int):=by
    rw [Int.tdiv_eq_ediv_of_nonneg (by omega)]
    omega
   have hw:IntKind.i64.wrap ((l.length:Int).tdiv 2)=((l.length / 2:Nat):Int):=by rw [hd]; exact j0U (by omega) (by omega)
   have h22:¬ ((2:Int)=0):=by decide
   have hle:((l.length / 2:Nat):Int) ≤ (l.length:Int):=by omega
   simp only [h2',decide_false,Bool.false_eq_true,if_false,h22,hw,jd,← List.map_take,← List.map_drop]
   rw [if_pos ⟨by omega,hle⟩,ih (l.take (l.length / 2)) (by rw [List.length_take]; omega) (by rw [List.length_take]; omega)]
   simp only [Out.bindR_ret]
   rw [ih (l.drop (l.length / 2)) (by rw [List.length_drop]; omega) (by rw [List.length_drop]; omega)]
   have u1:=j4H (l.take (l.length / 2))
   have u2:=j4H (l.drop (l.length / 2))
   rw [List.length_take] at u1
   rw [List.length_drop] at u2
   have hlp:=j8j (ups (l.take (l.length / 2))) (ups (l.drop (l.length / 2))) (by omega) (by omega) _ 0 0 [] (Nat.le_refl _) (by omega) (by omega) (by simp)
   simp only [List.drop_zero,jbF,List.take_append_drop] at hlp
   have hlp':jy jP [.sl ((ups (l.take (l.length / 2))).map S1),.sl ((ups (l.drop (l.length / 2))).map S1),.sl [],.i (0:Int),.i (0:Int)] = .ex 0 [.sl ((ups l).map S1)]:=hlp
   simp only [Out.bindR_ret,List.getD_cons_zero,DC.ll_sl,hlp']
   rw [if_pos ⟨by omega,hle⟩]
   simp [j9,DC.ll_sl]
def j1L (K:Int) (F:List Wd) (n:Wd) (x:TDef):Bool:=(x.kind == 2) && (if K=2 then x.name == n else if K=3 then x.faces.any (· == n) else if K=4 then F.any (· == x.name) else false)
def Qd (K:Int) (F:List Wd) (n:Wd) (l:List TDef):List Wd:=l.flatMap fun x=>if j1L K F n x=true then [x.name] else []
theorem VL (K:Int) (F:List Wd) (n:Wd):∀ l:List TDef,(Qd K F n l).length ≤ l.length
 | []=>Nat.le_refl _
 | x :: l=>by
  have:=VL K F n l
  simp only [Qd,jn,jj,jb] at this ⊢
  have h1:(if j1L K F n x=true then [x.name] else []).length ≤ 1:=by split <;> simp
  omega
theorem j4l {K:Int} {F:List Wd} {n:Wd} {l:List TDef} {j:Nat} (h:j < l.length):Qd K F n (l.take (j + 1))=Qd K F n (l.take j) ++ (if j1L K F n (l[j]'h)=true then [(l[j]'h).name] else []):=by
 rw [List.take_succ_eq_append_getElem h,Qd,List.flatMap_append]
 simp [Qd]
def kK (l:List TDef) (n:Wd):List Wd:=match pZ l n with
 | some t=>ups (Qd t.kind t.faces n l)
 | none=>[]
set_option maxHeartbeats 1600000 in
theorem j1U (l:List TDef) (d r:List (List DC)) (n:Wd) (hw:DC.wt (.sl (l.map TDef.enc)) ≤ 1048576):JM [.sl (l.map TDef.enc),.sl d,.sl r,.s n] = .ret [.sl ((kK l n).map S1)]:=by
 have hl:=Yg hw
 have hat:=zk l d r n hl
 rw [ZT]
 simp only [qL,qI,qS,qB,Vo,List.getD_cons_zero,List.getD_cons_succ,DC.bb_b,DC.ii_i,DC.ss_s,DC.ll_sl,hat,Out.bindR_ret,kK]
 rcases qg l n with ⟨h1,h2⟩ | ⟨i,h,h1,h2,_⟩
 ·simp [h1,h2]
 ·have hi0:¬ ((i:Int) < 0):=by omega
  have hic:(i:Int) < (l.length:Int):=by omega
  rw [h2]
  have hfl:=Jy (Yh hw (ju h))
  simp only [h1,hi0,decide_false,Bool.false_eq_true,if_false,jd,jx h,List.length_map,TDef.enc_eq,List.getD_cons_zero,List.getD_cons_succ,DC.bb_b,DC.ii_i,DC.ss_s,DC.ll_sl]
  generalize l[i]'h=t at *
  rw [if_pos ⟨trivial,by omega,hic⟩]
  have hml:=VL t.kind t.faces n l
  have hs:=j5G _ (Qd t.kind t.faces n l) (Nat.le_refl _) (by omega)
  have key:=pE (F:=qd) (st:=fun i=>[.s n,.sl ((Qd t.kind t.faces n (l.take i)).map S1),.i (i:Int),.sl (l.map TDef.enc),.sl d,.sl r,.i t.kind,.b t.ext,.s t.desc,.s t.name,.sl (t.faces.map S1),.sl (t.fields.map TFieldDef.enc),.sl (t.inputs.map TInDef.enc),.sl (t.values.map TEnumDef.enc),.sl (t.roots.map TRoot.enc),.b t.repeat',.sl (t.dirs.map TDir.enc)])
   (o:=.ex 0 [.sl ((Qd t.kind t.faces n l).map S1)]) l.length 0 (fun j _ hj=>?step) ?fin
  ·have key':jy qd [.s n,.sl [],.i (0:Int),.sl (l.map TDef.enc),.sl d,.sl r,.i t.kind,.b t.ext,.s t.desc,.s t.name,.sl (t.faces.map S1),.sl (t.fields.map TFieldDef.enc),.sl (t.inputs.map TInDef.enc),.sl (t.values.map TEnumDef.enc),.sl (t.roots.map TRoot.enc),.b t.repeat',.sl (t.dirs.map TDir.enc)] = .ex 0 [.sl ((Qd t.kind t.faces n l).map S1)]:=key
   rw [key']
   simp only [j9,if_true,List.getD_cons_zero,DC.ll_sl,hs,Out.bindR_ret]
  case step =>
   have hjl:j < l.length:=by omega
   have hc1:(j:Int) < (l.length:Int):=by omega
   have hxf:=Jy (Yh hw (ju hjl))
   have hmt:=VL t.kind t.faces n (l.take j)
   rw [List.length_take] at hmt
   have hL:(Qd t.kind t.faces n (l.take j)).length + 1 < jT:=by unfold jT; omega
   have ws:=jz hjl (show l.length ≤ 9223372036854775807 by omega)
   have e1:=yA (l[j]'hjl).faces n hxf
   have e2:=yA t.faces (l[j]'hjl).name hfl
   rw [j4l hjl]
   generalize Qd t.kind t.faces n (l.take j)=out at *
   unfold j1L
   simp only [qL,qI,qS,qB,qd,List.getD_cons_zero,List.getD_cons_succ,DC.bb_b,DC.ii_i,DC.ss_s,DC.ll_sl,jd,List.length_map,jx hjl,TDef.enc_eq,hc1,decide_true,if_true]
   rw [if_pos ⟨trivial,by omega,trivial⟩]
   generalize l[j]'hjl=x at *
   by_cases x2:x.kind=2
   ·by_cases t2:t.kind=2
    ·by_cases hn:x.name=n <;> simp [x2,t2,hn,hL,ws,ja,j9,DC.bb_b,DC.ii_i,DC.ss_s,DC.ll_sl,S1]
    ·by_cases t3:t.kind=3
     ·simp only [x2,t2,t3,e1,Out.bindR_ret,List.getD_cons_zero,DC.bb_b]
      cases x.faces.any (· == n) <;> simp [hL,ws,ja,j9,DC.bb_b,DC.ii_i,DC.ss_s,DC.ll_sl,S1]
     ·by_cases t4:t.kind=4
      ·simp only [x2,t2,t3,t4,e2,Out.bindR_ret,List.getD_cons_zero,DC.bb_b]
       cases t.faces.any (· == x.name) <;> simp [hL,ws,ja,j9,DC.bb_b,DC.ii_i,DC.ss_s,DC.ll_sl,S1]
      ·simp [x2,t2,t3,t4,hL,ws,ja,j9,DC.bb_b,DC.ii_i,DC.ss_s,DC.ll_sl,S1]
   ·simp [x2,ws,ja,j9,DC.bb_b,DC.ii_i,DC.ss_s,DC.ll_sl,S1]
  case fin =>
   refine jK ?_
   rw [Nat.zero_add,List.take_length]
   simp [qL,qI,qS,qB,qd,DC.ii_i,DC.ll_sl]
theorem j8k (l:List Wd):Zi (Za (l.map S1))=(ups l).map S1:=by
 have h:pa (l.map S1)=l:=Vs l
 unfold Zi Za
 rw [Vs,h]
 rfl
theorem j8l (l:List Wd):(Za (l.map S1)).length=l.length:=by
 have h:pa (l.map S1)=l:=Vs l
 unfold Za
 rw [h]
 simp [Jr]
theorem jau:ups []=[]:=j0X (by simp)
theorem j4m (n:Wd):∀ l:List TDef,Qd 0 [] n l=[]
 | []=>rfl
 | x :: l=>by
  have:=j4m n l
  simp only [Qd,jn] at this ⊢
  rw [this]
  simp [j1L]
set_option maxHeartbeats 1600000 in
theorem Jd (l:List TDef) (d r:List (List DC)) (n:Wd) (hw:DC.wt (.sl (l.map TDef.enc)) ≤ 1048576):pX [.sl (l.map TDef.enc),.sl d,.sl r,.s n] = .ret [.sl ((kK l n).map S1)]:=by
 have hl:=Yg hw
 have htd:=Xm l d r n hl
 have hpos:kK l n=ups (Qd ((pZ l n).getD j3x).kind ((pZ l n).getD j3x).faces n l):=by
  unfold kK
  cases hd:pZ l n with
  | none =>
   show []=ups (Qd 0 [] n l)
   rw [j4m,jau]
  | some t=>rfl
 have hfl:((pZ l n).getD j3x).faces.length ≤ 1048576:=by
  cases hd:pZ l n with
  | none=>simp [j3x]
  | some t=>exact Jy (Yh hw (VR hd))
 rw [ZW,hpos]
 generalize (pZ l n).getD j3x=t at *
 simp only [qL,qI,qS,qB,Vr,List.getD_cons_zero,List.getD_cons_succ,DC.bb_b,DC.ii_i,DC.ss_s,DC.ll_sl,htd,TDef.enc_eq,jh,jg,Out.bindR_ret,List.length_map]
 have hml:=VL t.kind t.faces n l
 have key:=pE (F:=qf) (st:=fun i=>[.s n,.sl ((Qd t.kind t.faces n (l.take i)).map S1),.sl (l.map TDef.enc),.i (l.length:Int),.i (i:Int),.i t.kind,.b t.ext,.s t.desc,.s t.name,.sl (t.faces.map S1),.sl (t.fields.map TFieldDef.enc),.sl (t.inputs.map TInDef.enc),.sl (t.values.map TEnumDef.enc),.sl (t.roots.map TRoot.enc),.b t.repeat',.sl (t.dirs.map TDir.enc)])
  (o:=.ex 0 [.sl ((Qd t.kind t.faces n l).map S1)]) l.length 0 (fun j _ hj=>?step) ?fin
 ·have key':jy qf [.s n,.sl [],.sl (l.map TDef.enc),.i (l.length:Int),.i (0:Int),.i t.kind,.b t.ext,.s t.desc,.s t.name,.sl (t.faces.map S1),.sl (t.fields.map TFieldDef.enc),.sl (t.inputs.map TInDef.enc),.sl (t.values.map TEnumDef.enc),.sl (t.roots.map TRoot.enc),.b t.repeat',.sl (t.dirs.map TDir.enc)] = .ex 0 [.sl ((Qd t.kind t.faces n l).map S1)]:=key
  rw [key']
  have hL1:(Qd t.kind t.faces n l).length < jT:=by unfold jT; omega
  simp only [j9,if_true,List.getD_cons_zero,DC.ll_sl,List.length_map,j8l,hL1,j8k]
 case step =>
  have hjl:j < l.length:=by omega
  have hc1:(j:Int) < (l.length:Int):=by omega
  have hxf:=Jy (Yh hw (ju hjl))
  have hmt:=VL t.kind t.faces n (l.take j)
  rw [List.length_take] at hmt
  have hL:(Qd t.kind t.faces n (l.take j)).length + 1 < jT:=by unfold jT; omega
  have ws:=jz hjl (show l.length ≤ 9223372036854775807 by omega)
  have e1:=pe (l[j]'hjl).faces n hxf
  have e2:=pe t.faces (l[j]'hjl).name hfl
  rw [j4l hjl]
  generalize Qd t.kind t.faces n (l.take j)=out at *
  unfold j1L
  simp only [qL,qI,qS,qB,qf,List.getD_cons_zero,List.getD_cons_succ,DC.bb_b,DC.ii_i,DC.ss_s,DC.ll_sl,jd,List.length_map,jx hjl,TDef.enc_eq,hc1,decide_true,if_true]
  rw [if_pos ⟨trivial,by omega,trivial⟩]
  generalize l[j]'hjl=x at *
  by_cases t2:t.kind=2
  ·by_cases hn:x.name=n <;> by_cases x2:x.kind=2 <;> simp [x2,t2,hn,hL,ws,ja,j9,DC.bb_b,DC.ii_i,DC.ss_s,DC.ll_sl,S1]
  ·by_cases t3:t.kind=3
   ·simp only [t2,t3,e1,Out.bindR_ret,List.getD_cons_zero,DC.bb_b]
    by_cases x2:x.kind=2 <;> cases x.faces.any (· == n) <;> simp [x2,hL,ws,ja,j9,DC.bb_b,DC.ii_i,DC.ss_s,DC.ll_sl,S1]
   ·by_cases t4:t.kind=4
    ·simp only [t2,t3,t4,e2,Out.bindR_ret,List.getD_cons_zero,DC.bb_b]
     by_cases x2:x.kind=2 <;> cases t.faces.any (· == x.name) <;> simp [x2,hL,ws,ja,j9,DC.bb_b,DC.ii_i,DC.ss_s,DC.ll_sl,S1]
    ·by_cases x2:x.kind=2 <;> simp [x2,t2,t3,t4,hL,ws,ja,j9,DC.bb_b,DC.ii_i,DC.ss_s,DC.ll_sl,S1]
 case fin =>
  refine jK ?_
  rw [Nat.zero_add,List.take_length]
  simp [qL,qI,qS,qB,qf,DC.ii_i,DC.ll_sl]
theorem VK (l:List TDef) (n:Wd):(kK l n).length ≤ l.length:=by
 unfold kK
 cases pZ l n with
 | none=>simp
 | some t=>exact Nat.le_trans (j4H _) (VL _ _ _ _)
def over (l:List TDef) (a b:Wd):Bool:=(kK l a).any fun x=>(kK l b).any (· == x)
theorem j0p (l:List TDef) (d r:List (List DC)) (a b:Wd) (hw:DC.wt (.sl (l.map TDef.enc)) ≤ 1048576):JQ [.sl (l.map TDef.enc),.sl d,.sl r,.s a,.s b] = .ret [.b (over l a b)]:=by
 have hl:=Yg hw
 have h1:=Jd l d r a hw
 have h2:=Jd l d r b hw
 have l1:=VK l a
 have l2:=VK l b
 rw [j2r]
 simp only [qL,qI,qS,qB,YL,List.getD_cons_zero,List.getD_cons_succ,DC.bb_b,DC.ii_i,DC.ss_s,DC.ll_sl,h1,h2,Out.bindR_ret,over]
 generalize kK l a=A at *
 generalize kK l b=B at *
 have key:km [.sl (A.map S1),.sl (B.map S1)] = .ret [.i (pu (fun x=>B.any (· == x)) A),.sl (B.map S1)]:=by
  rw [yI]
  simp only [qL,qI,qS,qB,pn,List.getD_cons_zero,List.getD_cons_succ,DC.bb_b,DC.ii_i,DC.ss_s,DC.ll_sl,List.length_map]
  rw [show (0:Int)=((0:Nat):Int) from rfl,yK (l:=A) (st:=fun i=>[.sl (A.map S1),.i (A.length:Int),.i (i:Int),.sl (B.map S1)]) (p:=fun x=>B.any (· == x)) (stop:=fun i _=>.ret [.i (i:Int),.sl (B.map S1)]) (fin:=.ex 0 [.sl (B.map S1)]) (fun i hi=>?step) (fun _ _=>Out.esc_ret _) ?fin (Out.esc_ex _ _),Jx (g:=fun i=>[.i i,.sl (B.map S1)]),pu]
  ·cases A.findIdx? fun x=>B.any (· == x) <;> simp [j9,DC.ll_sl]
  case step =>
   have hh:=pe B A[i] (by omega)
   simp only [qL,qI,qS,qB,ke,j0F,X3,List.getD_cons_zero,List.getD_cons_succ,DC.bb_b,DC.ii_i,DC.ss_s,DC.ll_sl,jd,List.length_map,j7f hi,hh,Out.bindR_ret]
   cases B.any (· == A[i]) <;> simp [hi,j9,DC.bb_b,DC.ii_i,DC.ss_s,DC.ll_sl,jz hi (show A.length ≤ 9223372036854775807 by omega)]
  case fin=>simp [qL,qI,qS,qB,ke,DC.ii_i,DC.ll_sl]
 rw [y8]
 simp only [qL,qI,qS,qB,kZ,List.getD_cons_zero,List.getD_cons_succ,DC.bb_b,DC.ii_i,DC.ss_s,DC.ll_sl,key,Out.bindR_ret,QF]
theorem YT {n:Nat} (h:n ≤ 1048576):n + 1 < jT:=by unfold jT; omega
theorem j2Y {n:Nat} (h:n ≤ 1048576):0 + n < jT:=by unfold jT; omega
theorem Z7 {α β:Type} {f:α → β} {l:List α} {j:Nat} (h:j < l.length):(l.take (j + 1)).map f=(l.take j).map f ++ [f l[j]]:=by
 rw [List.take_succ_eq_append_getElem h,List.map_append]
 rfl
theorem j6p {α:Type} {enc:α → List DC} {vs:List α} {F:List DC → Out} (hF:∀ (i:Nat) (hi:i < vs.length),F [.sl (vs.map enc),.sl ((vs.take i).map enc),.i (i:Int)] = .norm [.sl (vs.map enc),.sl ((vs.take i).map enc ++ [enc vs[i]]),.i ((i + 1:Nat):Int)])
  (hend:F [.sl (vs.map enc),.sl (vs.map enc),.i (vs.length:Int)] = .ex 0 [.sl (vs.map enc)]):jy F [.sl (vs.map enc),.sl [],.i (0:Int)] = .ex 0 [.sl (vs.map enc)]:=by
 have key:=pE (F:=F) (st:=fun i=>[.sl (vs.map enc),.sl ((vs.take i).map enc),.i (i:Int)]) (o:=.ex 0 [.sl (vs.map enc)]) vs.length 0 (fun j _ hj=>by
  have hi:j < vs.length:=by omega
  rw [Z7 hi]
  exact hF j hi) (jK (by rw [Nat.zero_add,List.take_length]; exact hend))
 exact key
theorem XB (v:TValue):X4 (TValue.enc v) ≤ 1048576 → zz [.i v.kind,.s v.text,.sl (v.items.map TValue.enc),.sl (v.names.map S1)] = .ret (TValue.enc v):=by
 induction v using TValue.ind with | h v ih =>
 intro hw
 rw [j6F] at hw
 have hn:v.names.length ≤ 1048576:=by have h:=hw; simp only [DC.wt,List.length_map] at h; omega
 have hl:v.items.length ≤ 1048576:=by have h:=hw; simp only [DC.wt,List.length_map] at h; omega
 rw [j2g]
 simp only [qL,qI,qS,qB,YD,List.getD_cons_zero,List.getD_cons_succ,DC.bb_b,DC.ii_i,DC.ss_s,DC.ll_sl,List.length_map,jf]
 rw [if_pos (j2Y hn)]
 have key:=pE (F:=yu) (st:=fun i=>[.i (i:Int),.i v.kind,.s v.text,.sl (v.items.map TValue.enc),.sl (v.names.map S1),.i 0,.s [],.i v.kind,.s v.text,.sl ((v.items.take i).map TValue.enc),.sl (v.names.map S1)]) (o:=.ex 0 [.i 0,.s [],.i v.kind,.s v.text,.sl (v.items.map TValue.enc),.sl (v.names.map S1)]) v.items.length 0 (fun j _ hj=>?step) ?fin
 ·have key':jy yu [.i 0,.i v.kind,.s v.text,.sl (v.items.map TValue.enc),.sl (v.names.map S1),.i 0,.s [],.i v.kind,.s v.text,.sl [],.sl ([] ++ v.names.map S1)] = .ex 0 [.i 0,.s [],.i v.kind,.s v.text,.sl (v.items.map TValue.enc),.sl (v.names.map S1)]:=key
  rw [key',TValue.enc_eq]
  simp [j9]
 case step =>
  have hi:j < v.items.length:=by omega
  have hc1:(j:Int) < (v.items.length:Int):=by omega
  have hv:=ih v.items[j] (ju hi) (by have:=Q9 (List.mem_map_of_mem (f:=TValue.enc) (ju hi)); rw [DC.wt] at hw; omega)
  have hL:j + 1 < jT:=YT (by omega)
  have hm:min j v.items.length=j:=by omega
  rw [Z7 hi]
  simp only [qL,qI,qS,qB,yu,List.getD_cons_zero,List.getD_cons_succ,DC.bb_b,DC.ii_i,DC.ss_s,DC.ll_sl,jd,List.length_map,jx hi,TValue.enc_eq v.items[j],hv,Out.bindR_ret,List.length_take,hm]
  simp [hi,hc1,hL,j9,jz hi (show v.items.length ≤ 9223372036854775807 by omega),TValue.enc_eq v.items[j]]
 case fin =>
  refine jK ?_
  rw [Nat.zero_add,List.take_length]
  simp [qL,qI,qS,qB,yu]
theorem j1u (vs:List TArg) (hw:DC.wt (.sl (vs.map TArg.enc)) ≤ 1048576):Qx [.sl (vs.map TArg.enc)] = .ret [.sl (vs.map TArg.enc)]:=by
 have hl:vs.length ≤ 1048576:=by rw [DC.wt,List.length_map] at hw; omega
 rw [j2a]
 simp only [qL,qI,qS,qB,Yz,List.getD_cons_zero,DC.ll_sl]
 rw [j6p (F:=zS) (fun j hi=>?step) ?fin]
 ·rfl
 case step =>
  have hwj:X4 (TArg.enc vs[j]) ≤ 1048576:=by have:=Q9 (List.mem_map_of_mem (f:=TArg.enc) (ju hi)); rw [DC.wt] at hw; omega
  rw [j8S] at hwj
  have q0:=XB vs[j].value (by omega)
  rw [TValue.enc_eq] at q0
  have hc1:(j:Int) < (vs.length:Int):=by omega
  have hL:j + 1 < jT:=YT (by omega)
  have hm:min j vs.length=j:=by omega
  simp only [qL,qI,qS,qB,zS,List.getD_cons_zero,List.getD_cons_succ,DC.bb_b,DC.ii_i,DC.ss_s,DC.ll_sl,jd,List.length_map,jx hi,TArg.enc_eq vs[j],q0,Out.bindR_ret,List.length_take,hm]
  simp [hi,hc1,hL,j9,jz hi (show vs.length ≤ 9223372036854775807 by omega),TArg.enc_eq vs[j],jx hi]
 case fin=>simp [qL,qI,qS,qB,zS]
theorem zP (vs:List TDir) (hw:DC.wt (.sl (vs.map TDir.enc)) ≤ 1048576):yl [.sl (vs.map TDir.enc)] = .ret [.sl (vs.map TDir.enc)]:=by
 have hl:vs.length ≤ 1048576:=by rw [DC.wt,List.length_map] at hw; omega
 rw [j29]
 simp only [qL,qI,qS,qB,Yy,List.getD_cons_zero,DC.ll_sl]
 rw [j6p (F:=zR) (fun j hi=>?step) ?fin]
 ·rfl
 case step =>
  have hwj:X4 (TDir.enc vs[j]) ≤ 1048576:=by have:=Q9 (List.mem_map_of_mem (f:=TDir.enc) (ju hi)); rw [DC.wt] at hw; omega
  rw [j8R] at hwj
  have q0:=j1u vs[j].args (by omega)
  have hc1:(j:Int) < (vs.length:Int):=by omega
  have hL:j + 1 < jT:=YT (by omega)
  have hm:min j vs.length=j:=by omega
  simp only [qL,qI,qS,qB,zR,List.getD_cons_zero,List.getD_cons_succ,DC.bb_b,DC.ii_i,DC.ss_s,DC.ll_sl,jd,List.length_map,jx hi,TDir.enc_eq vs[j],q0,Out.bindR_ret,List.length_take,hm]
  simp [hi,hc1,hL,j9,jz hi (show vs.length ≤ 9223372036854775807 by omega),TDir.enc_eq vs[j],jx hi]
 case fin=>simp [qL,qI,qS,qB,zR]
theorem Q7 (vs:List TInDef) (hw:DC.wt (.sl (vs.map TInDef.enc)) ≤ 1048576):zc [.sl (vs.map TInDef.enc)] = .ret [.sl (vs.map TInDef.enc)]:=by
 have hl:vs.length ≤ 1048576:=by rw [DC.wt,List.length_map] at hw; omega
 rw [ZR]
 simp only [qL,qI,qS,qB,Vm,List.getD_cons_zero,DC.ll_sl]
 rw [j6p (F:=yg) (fun j hi=>?step) ?fin]
 ·rfl
 case step =>
  have hwj:X4 (TInDef.enc vs[j]) ≤ 1048576:=by have:=Q9 (List.mem_map_of_mem (f:=TInDef.enc) (ju hi)); rw [DC.wt] at hw; omega
  rw [j6G] at hwj
  have q0:=XB vs[j].default' (by omega)
  rw [TValue.enc_eq] at q0
  have q1:=zP vs[j].dirs (by omega)
  have hc1:(j:Int) < (vs.length:Int):=by omega
  have hL:j + 1 < jT:=YT (by omega)
  have hm:min j vs.length=j:=by omega
  simp only [qL,qI,qS,qB,yg,List.getD_cons_zero,List.getD_cons_succ,DC.bb_b,DC.ii_i,DC.ss_s,DC.ll_sl,jd,List.length_map,jx hi,TInDef.enc_eq vs[j],q0,q1,Out.bindR_ret,List.length_take,hm]
  simp [hi,hc1,hL,j9,jz hi (show vs.length ≤ 9223372036854775807 by omega),TInDef.enc_eq vs[j],jx hi]
 case fin=>simp [qL,qI,qS,qB,yg]
theorem Xq (vs:List TEnumDef) (hw:DC.wt (.sl (vs.map TEnumDef.enc)) ≤ 1048576):zw [.sl (vs.map TEnumDef.enc)] = .ret [.sl (vs.map TEnumDef.enc)]:=by
 have hl:vs.length ≤ 1048576:=by rw [DC.wt,List.length_map] at hw; omega
 rw [XP]
 simp only [qL,qI,qS,qB,KN,List.getD_cons_zero,DC.ll_sl]
 rw [j6p (F:=qo) (fun j hi=>?step) ?fin]
 ·rfl
 case step =>
  have hwj:X4 (TEnumDef.enc vs[j]) ≤ 1048576:=by have:=Q9 (List.mem_map_of_mem (f:=TEnumDef.enc) (ju hi)); rw [DC.wt] at hw; omega
  rw [j4F] at hwj
  have q0:=zP vs[j].dirs (by omega)
  have hc1:(j:Int) < (vs.length:Int):=by omega
  have hL:j + 1 < jT:=YT (by omega)
  have hm:min j vs.length=j:=by omega
  simp only [qL,qI,qS,qB,qo,List.getD_cons_zero,List.getD_cons_succ,DC.bb_b,DC.ii_i,DC.ss_s,DC.ll_sl,jd,List.length_map,jx hi,TEnumDef.enc_eq vs[j],q0,Out.bindR_ret,List.length_take,hm]
  simp [hi,hc1,hL,j9,jz hi (show vs.length ≤ 9223372036854775807 by omega),TEnumDef.enc_eq vs[j],jx hi]
 case fin=>simp [qL,qI,qS,qB,qo]
theorem Xr (vs:List TFieldDef) (hw:DC.wt (.sl (vs.map TFieldDef.enc)) ≤ 1048576):zx [.sl (vs.map TFieldDef.enc)] = .ret [.sl (vs.map TFieldDef.enc)]:=by
 have hl:vs.length ≤ 1048576:=by rw [DC.wt,List.length_map] at hw; omega
 rw [XQ]
 simp only [qL,qI,qS,qB,KP,List.getD_cons_zero,DC.ll_sl]
 rw [j6p (F:=qp) (fun j hi=>?step) ?fin]
 ·rfl
 case step =>
  have hwj:X4 (TFieldDef.enc vs[j]) ≤ 1048576:=by have:=Q9 (List.mem_map_of_mem (f:=TFieldDef.enc) (ju hi)); rw [DC.wt] at hw; omega
  rw [Z6] at hwj
  have q0:=Q7 vs[j].args (by omega)
  have q1:=zP vs[j].dirs (by omega)
  have hc1:(j:Int) < (vs.length:Int):=by omega
  have hL:j + 1 < jT:=YT (by omega)
  have hm:min j vs.length=j:=by omega
  simp only [qL,qI,qS,qB,qp,List.getD_cons_zero,List.getD_cons_succ,DC.bb_b,DC.ii_i,DC.ss_s,DC.ll_sl,jd,List.length_map,jx hi,TFieldDef.enc_eq vs[j],q0,q1,Out.bindR_ret,List.length_take,hm]
  simp [hi,hc1,hL,j9,jz hi (show vs.length ≤ 9223372036854775807 by omega),TFieldDef.enc_eq vs[j],jx hi]
 case fin=>simp [qL,qI,qS,qB,qp]
theorem KX (v:TDef) (hw:X4 (TDef.enc v) ≤ 1048576):zy [.i v.kind,.b v.ext,.s v.desc,.s v.name,.sl (v.faces.map S1),.sl (v.fields.map TFieldDef.enc),.sl (v.inputs.map TInDef.enc),.sl (v.values.map TEnumDef.enc),.sl (v.roots.map TRoot.enc),.b v.repeat',.sl (v.dirs.map TDir.enc)] = .ret (TDef.enc v):=by
 rw [j2D] at hw
 have u0:v.faces.length ≤ 1048576:=by have h:DC.wt (.sl (v.faces.map S1)) ≤ 1048576:=(by omega); rw [DC.wt,List.length_map] at h; omega
 have q0:=j2Y u0
 have q1:=Xr v.fields (by omega)
 have q2:=Q7 v.inputs (by omega)
 have q3:=Xq v.values (by omega)
 have u4:v.roots.length ≤ 1048576:=by have h:DC.wt (.sl (v.roots.map TRoot.enc)) ≤ 1048576:=(by omega); rw [DC.wt,List.length_map] at h; omega
 have q4:=j2Y u4
 have q5:=zP v.dirs (by omega)
 rw [j28,TDef.enc_eq]
 simp only [qL,qI,qS,qB,Yw,List.getD_cons_zero,List.getD_cons_succ,DC.bb_b,DC.ii_i,DC.ss_s,DC.ll_sl,q0,q1,q2,q3,q4,q5,Out.bindR_ret,List.length_map,jf,if_true,jg]
theorem kg {F:List DC → Out} {I:Nat → List DC → Prop} {Q:Out → Prop} {n:Nat}
  (step:∀ i v,i < n → I i v → (∃ v',F v = .norm v' ∧ I (i + 1) v') ∨ ∃ o,F v=o ∧ o.esc ∧ Q o)
  (fin:∀ v,I n v → ∃ o,F v=o ∧ o.esc ∧ Q o):∀ (m i:Nat) (v:List DC),i + m=n → I i v → Q (jy F v)
 | 0,i,v,h,hI=>by
  have:i=n:=by omega
  subst this
  obtain ⟨o,e,he,q⟩:=fin v hI
  rw [j0K e he]
  exact q
 | m + 1,i,v,h,hI=>by
  rcases step i v (by omega) hI with ⟨v',e,h'⟩ | ⟨o,e,he,q⟩
  ·rw [jH e]
   exact kg step fin m (i + 1) v' (by omega) h'
  ·rw [j0K e he]
   exact q
def grp (k:Int):Int:=if k=7 then 1 else if k=8 then 2 else 0
theorem XU (k:Int):qJ [.i k] = .ret [.i (grp k)]:=by
 rw [j1o]
 unfold XH grp
 simp only [List.getD_cons_zero,DC.ii_i]
 by_cases h:k=7
 ·subst h; rfl
 ·have e7:(k == 7)=false:=beq_eq_false_iff_ne.2 h
  by_cases h8:k=8
  ·subst h8; rfl
  ·have e8:(k == 8)=false:=beq_eq_false_iff_ne.2 h8
   simp only [e7,e8,h,h8,Bool.false_eq_true,if_false]
   rfl
def alk (g:Int) (n:List UInt8) (x:TDef):Bool:=(grp x.kind == g) && (g == 2 || x.name == n)
theorem j2J (l:List TDef) (g:Int) (n:List UInt8) (hl:l.length ≤ 1048576):zM [.sl (l.map TDef.enc),.i g,.s n] = .ret [.i (pu (alk g n) l)]:=by
 rw [j3I]
 simp only [qL,qI,qS,qB,j0P,List.getD_cons_zero,List.getD_cons_succ,DC.bb_b,DC.ii_i,DC.ss_s,DC.ll_sl]
 rw [show (0:Int)=((0:Nat):Int) from rfl,yK (l:=l) (st:=fun i=>[.sl (l.map TDef.enc),.i g,.s n,.i (i:Int)]) (p:=alk g n) (stop:=fun i _=>.ret [.i (i:Int)]) (fin:=.ex 0 []) (fun i hi=>?step) (fun _ _=>Out.esc_ret _) ?fin (Out.esc_ex _ _),Jx (g:=fun i=>[.i i]),pu]
 ·cases l.findIdx? (alk g n) <;> simp
 case step =>
  have hc:(i:Int) < (l.length:Int):=by omega
  have hm:(l.map TDef.enc).getD i []=TDef.enc l[i]:=jx hi
  rw [TDef.enc_eq] at hm
  have ws:=jz hi (show l.length ≤ 9223372036854775807 by omega)
  unfold alk
  simp only [qL,qI,qS,qB,QN,List.getD_cons_zero,List.getD_cons_succ,DC.bb_b,DC.ii_i,DC.ss_s,DC.ll_sl,List.length_map,jd,Int.natCast_nonneg,decide_true,decide_false,if_true,if_false,Bool.false_eq_true,and_self,true_and,ja,j9,Out.bindR_ret,jb,jf,Nat.zero_add,beq_self_eq_true,bne_self_eq_false,je,jc,eq_self,jh,jg,hm,hc,XU]
  cases h1:(grp (l[i]).kind == g) with
  | false=>simp [ja,j9,ws,DC.bb]
  | true =>
   cases h2:(g == 2) with
   | true=>simp [ja,j9,ws,DC.bb,DC.ii]
   | false=>cases h3:((l[i]).name == n) <;> simp [ja,j9,ws,DC.bb,DC.ii]
 case fin=>simp [qL,qI,qS,qB,QN]
def apart (x y:TDef):Prop:=¬ (grp x.kind=grp y.kind ∧ x.name=y.name)
theorem j0j {n:Nat} (h:n ≤ 4000000):n + 1 < jT:=by unfold jT; omega
theorem jbV (l:List TDef) (hl:l.length ≤ 60) (hw:∀ d ∈ l,X4 (TDef.enc d) ≤ 1048576) (hx:∀ d ∈ l,d.ext=false ∧ d.kind ≠ 8):∃ (out:List TDef) (bad:List (List DC)),Y0 [.sl (l.map TDef.enc)] = .ret [.sl (out.map TDef.enc),.sl bad] ∧ bad.length ≤ 60 ∧ (bad=[] → out=l ∧ l.Pairwise apart):=by
 have h60:¬ (l.length:Int) > 60:=by omega
 have h1:∃ (out:List TDef) (bad:List (List DC)),jy yU [.sl (l.map TDef.enc),.sl [],.sl [],.i 0] = .ex 0 [.sl (l.map TDef.enc),.sl (out.map TDef.enc),.sl bad] ∧ bad.length ≤ 60 ∧ (bad=[] → out=l ∧ l.Pairwise apart):=by
  refine kg (F:=yU) (n:=l.length) (I:=fun i v=>∃ (out:List TDef) (bad:List (List DC)),v=[.sl (l.map TDef.enc),.sl (out.map TDef.enc),.sl bad,.i (i:Int)] ∧ out.length ≤ i ∧ bad.length ≤ i ∧ (bad=[] → out=l.take i ∧ (l.take i).Pairwise apart))
   (Q:=fun o=>∃ (out:List TDef) (bad:List (List DC)),o = .ex 0 [.sl (l.map TDef.enc),.sl (out.map TDef.enc),.sl bad] ∧ bad.length ≤ 60 ∧ (bad=[] → out=l ∧ l.Pairwise apart)) ?_ ?_ l.length 0 _ (by omega) ⟨[],[],rfl,Nat.le_refl _,Nat.le_refl _,fun _=>⟨rfl,.nil⟩⟩
  ·rintro i v hi ⟨out,bad,rfl,ho,hb,hp⟩
   refine .inl ?_
   have hc:(i:Int) < (l.length:Int):=by omega
   have hm:(l.map TDef.enc).getD i []=TDef.enc l[i]:=jx hi
   have ws:=jz hi (show l.length ≤ 9223372036854775807 by omega)
   have hcp:=KX l[i] (hw _ (ju hi))
   have he:=(hx _ (ju hi)).1
   have h8:=(hx _ (ju hi)).2
   have hat:=j2J out (grp l[i].kind) l[i].name (by omega)
   have hpl:=QF (alk (grp l[i].kind) l[i].name) out
   have f1:=j0j (n:=out.length) (by omega)
   have f2:=j0j (n:=bad.length) (by omega)
   have htk:=List.take_succ_eq_append_getElem hi
   rw [TDef.enc_eq] at hm hcp
   generalize l[i]=d at *
   rw [he] at hm hcp
   cases ha:out.any (alk (grp d.kind) d.name) with
   | true =>
    rw [ha] at hpl
    refine ⟨_,?_,out,bad ++ [[.i 2,.s d.name,.s []]],rfl,by omega,by simp; omega,fun h=>by simp at h⟩
    simp only [qL,qI,qS,qB,yU,List.getD_cons_zero,List.getD_cons_succ,DC.bb_b,DC.ii_i,DC.ss_s,DC.ll_sl,List.length_map,jd,Int.natCast_nonneg,decide_true,decide_false,if_true,if_false,Bool.false_eq_true,and_self,true_and,ja,j9,Out.bindR_ret,jb,jf,Nat.zero_add,beq_self_eq_true,bne_self_eq_false,je,jc,eq_self,jh,jg,hm,hc,XU,hat,hpl,f1,f2,ws]
   | false =>
    rw [ha] at hpl
    refine ⟨_,?_,out ++ [d],bad,rfl,by simp; omega,by omega,fun h=>?_⟩
    ·simp only [qL,qI,qS,qB,yU,List.getD_cons_zero,List.getD_cons_succ,DC.bb_b,DC.ii_i,DC.ss_s,DC.ll_sl,List.length_map,jd,Int.natCast_nonneg,decide_true,decide_false,if_true,if_false,Bool.false_eq_true,and_self,true_and,ja,j9,Out.bindR_ret,jb,jf,Nat.zero_add,beq_self_eq_true,bne_self_eq_false,je,jc,eq_self,jh,jg,hm,hc,XU,hat,hpl,f1,f2,ws,hcp,TDef.enc_eq d,he,List.map_append,js,List.map_nil]
    ·obtain ⟨e1,e2⟩:=hp h
     refine ⟨by rw [htk,e1],?_⟩
     rw [htk,← e1]
     refine List.pairwise_append.2 ⟨e1 ▸ e2,List.pairwise_singleton _ _,fun x hx' y hy=>?_⟩
     rw [List.mem_singleton.1 hy]
     rintro ⟨g1,g2⟩
     have:=List.any_eq_false.1 ha x hx'
     simp [alk,g1,g2] at this
  ·rintro v ⟨out,bad,rfl,ho,hb,hp⟩
   refine ⟨_,?_,Out.esc_ex 0 _,out,bad,rfl,by omega,fun h=>?_⟩
   ·simp [qL,qI,qS,qB,yU]
   ·have:=hp h
    rwa [List.take_length] at this
 obtain ⟨out,bad,e1,hb,hp⟩:=h1
 have h2:jy Kz [.sl (l.map TDef.enc),.sl (out.map TDef.enc),.sl bad,.i 0] = .ex 2 [.sl (out.map TDef.enc),.sl bad]:=by
  refine pE (st:=fun i=>[.sl (l.map TDef.enc),.sl (out.map TDef.enc),.sl bad,.i (i:Int)]) l.length 0 (fun i _ hi=>?_) (jK ?_)
  ·rw [Nat.zero_add] at hi
   have hc:(i:Int) < (l.length:Int):=by omega
   have hm:(l.map TDef.enc).getD i []=TDef.enc l[i]:=jx hi
   have ws:=jz hi (show l.length ≤ 9223372036854775807 by omega)
   have he:=(hx _ (ju hi)).1
   rw [TDef.enc_eq,he] at hm
   simp only [qL,qI,qS,qB,Kz,List.getD_cons_zero,List.getD_cons_succ,DC.bb_b,DC.ii_i,DC.ss_s,DC.ll_sl,List.length_map,jd,Int.natCast_nonneg,decide_true,decide_false,if_true,if_false,Bool.false_eq_true,and_self,true_and,ja,j9,Out.bindR_ret,jb,jf,Nat.zero_add,beq_self_eq_true,bne_self_eq_false,je,jc,eq_self,jh,jg,hm,hc,ws]
  ·simp [qL,qI,qS,qB,Kz]
 refine ⟨out,bad,?_,hb,hp⟩
 rw [j5d]
 simp only [qL,qI,qS,qB,j1Q,List.getD_cons_zero,List.getD_cons_succ,DC.bb_b,DC.ii_i,DC.ss_s,DC.ll_sl,List.length_map,jd,Int.natCast_nonneg,decide_true,decide_false,if_true,if_false,Bool.false_eq_true,and_self,true_and,ja,j9,Out.bindR_ret,jb,jf,Nat.zero_add,beq_self_eq_true,bne_self_eq_false,je,jc,eq_self,jh,jg,h60,e1,h2]
theorem j9B {α:Type} (a b:List α) (x:α):((a ++ b) ++ [x]).Perm ((a ++ [x]) ++ b):=by
 rw [jD,jD]
 exact List.Perm.append_left _ List.perm_append_comm
theorem j8i (A B:List TDef) (hA:A.length ≤ 60) (hB:B.length ≤ 60):∃ out:List TDef,jy kG [.sl (A.map TDef.enc),.sl (B.map TDef.enc),.sl [],.i 0,.i 0] = .ex 2 [.sl (out.map TDef.enc)] ∧ out.Perm (A ++ B):=by
 refine kg (F:=kG) (n:=A.length + B.length) (I:=fun j v=>∃ (i k:Nat) (out:List TDef),v=[.sl (A.map TDef.enc),.sl (B.map TDef.enc),.sl (out.map TDef.enc),.i (i:Int),.i (k:Int)] ∧ i ≤ A.length ∧ k ≤ B.length ∧ i + k=j ∧ out.Perm (A.take i ++ B.take k))
  (Q:=fun o=>∃ out:List TDef,o = .ex 2 [.sl (out.map TDef.enc)] ∧ out.Perm (A ++ B)) ?_ ?_ _ 0 _ (Nat.zero_add _) ⟨0,0,[],rfl,by omega,by omega,rfl,by simp⟩
 ·rintro j v hj ⟨i,k,out,rfl,hi,hk,hik,hp⟩
  refine .inl ?_
  have hol:=hp.length_eq
  rw [jj,List.length_take,List.length_take] at hol
  have f1:=j0j (n:=out.length) (by omega)
  have pA:∀ h:i < A.length,(out ++ [A[i]]).Perm (A.take (i + 1) ++ B.take k):=fun h=>by
   rw [List.take_succ_eq_append_getElem h]
   exact (hp.append_right _).trans (j9B _ _ _)
  have pB:∀ h:k < B.length,(out ++ [B[k]]).Perm (A.take i ++ B.take (k + 1)):=fun h=>by
   rw [List.take_succ_eq_append_getElem h,← jD]
   exact hp.append_right _
  by_cases h1:i < A.length
  ·have c1:(i:Int) < (A.length:Int):=by omega
   have m1:(A.map TDef.enc).getD i []=TDef.enc A[i]:=jx h1
   have w1:=jz h1 (show A.length ≤ 9223372036854775807 by omega)
   have pA:=pA h1
   rw [TDef.enc_eq] at m1
   generalize A[i]=x at *
   by_cases h2:k < B.length
   ·have c2:(k:Int) < (B.length:Int):=by omega
    have c2':¬ (k:Int) ≥ (B.length:Int):=by omega
    have m2:(B.map TDef.enc).getD k []=TDef.enc B[k]:=jx h2
    have w2:=jz h2 (show B.length ≤ 9223372036854775807 by omega)
    have pB:=pB h2
    rw [TDef.enc_eq] at m2
    generalize B[k]=y at *
    cases hc:(Op.bytesLess x.name y.name || x.name == y.name) with
    | true =>
     refine ⟨_,?_,i + 1,k,out ++ [x],rfl,by omega,hk,by omega,pA⟩
     simp only [qL,qI,qS,qB,kG,List.getD_cons_zero,List.getD_cons_succ,DC.bb_b,DC.ii_i,DC.ss_s,DC.ll_sl,List.length_map,jd,Int.natCast_nonneg,decide_true,decide_false,if_true,if_false,Bool.false_eq_true,and_self,true_and,ja,j9,Out.bindR_ret,jb,jf,Nat.zero_add,beq_self_eq_true,bne_self_eq_false,je,jc,eq_self,jh,jg,c1,c2,c2',m1,m2,hc,f1,w1,TDef.enc_eq x,List.map_append,js,List.map_nil]
    | false =>
     refine ⟨_,?_,i,k + 1,out ++ [y],rfl,hi,by omega,by omega,pB⟩
     simp only [qL,qI,qS,qB,kG,List.getD_cons_zero,List.getD_cons_succ,DC.bb_b,DC.ii_i,DC.ss_s,DC.ll_sl,List.length_map,jd,Int.natCast_nonneg,decide_true,decide_false,if_true,if_false,Bool.false_eq_true,and_self,true_and,ja,j9,Out.bindR_ret,jb,jf,Nat.zero_add,beq_self_eq_true,bne_self_eq_false,je,jc,eq_self,jh,jg,c1,c2,c2',m1,m2,hc,f1,w2,TDef.enc_eq y,List.map_append,js,List.map_nil]
   ·have c2':(k:Int) ≥ (B.length:Int):=by omega
    refine ⟨_,?_,i + 1,k,out ++ [x],rfl,by omega,hk,by omega,pA⟩
    simp only [qL,qI,qS,qB,kG,List.getD_cons_zero,List.getD_cons_succ,DC.bb_b,DC.ii_i,DC.ss_s,DC.ll_sl,List.length_map,jd,Int.natCast_nonneg,decide_true,decide_false,if_true,if_false,Bool.false_eq_true,and_self,true_and,ja,j9,Out.bindR_ret,jb,jf,Nat.zero_add,beq_self_eq_true,bne_self_eq_false,je,jc,eq_self,jh,jg,c1,c2',m1,f1,w1,TDef.enc_eq x,List.map_append,js,List.map_nil]
  ·have h2:k < B.length:=by omega
   have c1:¬ (i:Int) < (A.length:Int):=by omega
   have c2:(k:Int) < (B.length:Int):=by omega
   have c2':¬ (k:Int) ≥ (B.length:Int):=by omega
   have m2:(B.map TDef.enc).getD k []=TDef.enc B[k]:=jx h2
   have w2:=jz h2 (show B.length ≤ 9223372036854775807 by omega)
   have pB:=pB h2
   rw [TDef.enc_eq] at m2
   generalize B[k]=y at *
   refine ⟨_,?_,i,k + 1,out ++ [y],rfl,hi,by omega,by omega,pB⟩
   simp only [qL,qI,qS,qB,kG,List.getD_cons_zero,List.getD_cons_succ,DC.bb_b,DC.ii_i,DC.ss_s,DC.ll_sl,List.length_map,jd,Int.natCast_nonneg,decide_true,decide_false,if_true,if_false,Bool.false_eq_true,and_self,true_and,ja,j9,Out.bindR_ret,jb,jf,Nat.zero_add,beq_self_eq_true,bne_self_eq_false,je,jc,eq_self,jh,jg,c1,c2,c2',m2,f1,w2,TDef.enc_eq y,List.map_append,js,List.map_nil]
 ·rintro v ⟨i,k,out,rfl,hi,hk,hik,hp⟩
  have e1:i=A.length:=by omega
  have e2:k=B.length:=by omega
  subst e1 e2
  rw [List.take_length,List.take_length] at hp
  exact ⟨_,by simp [qL,qI,qS,qB,kG,ja,DC.bb_b,DC.ii_i,DC.ll_sl],Out.esc_ex 2 _,out,rfl,hp⟩
theorem j5E (l:List TDef) (hl:l.length ≤ 60) (hw:∀ d ∈ l,X4 (TDef.enc d) ≤ 1048576):jy qX [.sl (l.map TDef.enc),.sl [],.i (0:Int)] = .ex 0 [.sl (l.map TDef.enc)]:=by
 refine pE (st:=fun i=>[.sl (l.map TDef.enc),.sl ((l.take i).map TDef.enc),.i (i:Int)]) l.length 0 (fun i _ hi=>?_) (jK ?_)
 ·rw [Nat.zero_add] at hi
  have hc:(i:Int) < (l.length:Int):=by omega
  have hm:(l.map TDef.enc).getD i []=TDef.enc l[i]:=jx hi
  have ws:=jz hi (show l.length ≤ 9223372036854775807 by omega)
  have hcp:=KX l[i] (hw _ (ju hi))
  have f1:=j0j (n:=min i l.length) (by omega)
  rw [List.take_succ_eq_append_getElem hi]
  rw [TDef.enc_eq] at hm hcp
  generalize l[i]=d at *
  simp only [qL,qI,qS,qB,qX,List.getD_cons_zero,List.getD_cons_succ,DC.bb_b,DC.ii_i,DC.ss_s,DC.ll_sl,List.length_map,jd,Int.natCast_nonneg,decide_true,decide_false,if_true,if_false,Bool.false_eq_true,and_self,true_and,ja,j9,Out.bindR_ret,jb,jf,Nat.zero_add,beq_self_eq_true,bne_self_eq_false,je,jc,eq_self,jh,jg,hm,hc,hcp,ws,f1,List.length_take,TDef.enc_eq d,List.map_append,js,List.map_nil]
 ·simp [qL,qI,qS,qB,qX]
theorem j7m:∀ (m:Nat) (l:List TDef),l.length ≤ m → l.length ≤ 60 → (∀ d ∈ l,X4 (TDef.enc d) ≤ 1048576) → ∃ out:List TDef,yO [.sl (l.map TDef.enc)] = .ret [.sl (out.map TDef.enc)] ∧ out.Perm l:=by
 intro m
 induction m with
 | zero =>
  intro l hm hl hw
  have:l=[]:=jm (by omega)
  subst this
  refine ⟨[],?_,.refl _⟩
  rw [VQ]
  simp only [qL,qI,qS,qB,Ji,List.getD_cons_zero,List.getD_cons_succ,DC.bb_b,DC.ii_i,DC.ss_s,DC.ll_sl,List.length_map,jd,Int.natCast_nonneg,decide_true,decide_false,if_true,if_false,Bool.false_eq_true,and_self,true_and,ja,j9,Out.bindR_ret,jb,jf,Nat.zero_add,beq_self_eq_true,bne_self_eq_false,je,jc,eq_self,jh,jg,show jy qX [.sl (([]:List TDef).map TDef.enc),.sl [],.i (0:Int)]=_ from j5E [] hl hw,show ((0:Nat):Int) < 2 by decide]
 | succ m ih =>
  intro l hm hl hw
  rw [VQ]
  by_cases h2:l.length < 2
  ·have h2':(l.length:Int) < 2:=by omega
   refine ⟨l,?_,.refl _⟩
   simp only [qL,qI,qS,qB,Ji,List.getD_cons_zero,List.getD_cons_succ,DC.bb_b,DC.ii_i,DC.ss_s,DC.ll_sl,List.length_map,jd,Int.natCast_nonneg,decide_true,decide_false,if_true,if_false,Bool.false_eq_true,and_self,true_and,ja,j9,Out.bindR_ret,jb,jf,Nat.zero_add,beq_self_eq_true,bne_self_eq_false,je,jc,eq_self,jh,jg,h2',j5E l hl hw]
  ·have h2':¬ (l.length:Int) < 2:=by omega
   have hw':IntKind.i64.wrap ((l.length:Int).tdiv 2)=((l.length / 2:Nat):Int):=by
    rw [Int.tdiv_eq_ediv_of_nonneg (by omega),IntKind.wrap_i64]
    omega
   have h22:¬ ((2:Int)=0):=by decide
   have hle:((l.length / 2:Nat):Int) ≤ (l.length:Int):=by omega
   obtain ⟨A,eA,pA⟩:=ih (l.take (l.length / 2)) (by rw [List.length_take]; omega) (by rw [List.length_take]; omega) fun d hd=>hw d (List.mem_of_mem_take hd)
   obtain ⟨B,eB,pB⟩:=ih (l.drop (l.length / 2)) (by rw [List.length_drop]; omega) (by rw [List.length_drop]; omega) fun d hd=>hw d (List.mem_of_mem_drop hd)
   have lA:=pA.length_eq
   have lB:=pB.length_eq
   rw [List.length_take] at lA
   rw [List.length_drop] at lB
   obtain ⟨out,eO,pO⟩:=j8i A B (by omega) (by omega)
   refine ⟨out,?_,pO.trans ?_⟩
   ·simp only [qL,qI,qS,qB,Ji,List.getD_cons_zero,List.getD_cons_succ,DC.bb_b,DC.ii_i,DC.ss_s,DC.ll_sl,List.length_map,jd,Int.natCast_nonneg,decide_true,decide_false,if_true,if_false,Bool.false_eq_true,and_self,true_and,ja,j9,Out.bindR_ret,jb,jf,Nat.zero_add,beq_self_eq_true,bne_self_eq_false,je,jc,eq_self,jh,jg,h2',h22,hw',← List.map_take,← List.map_drop,hle,eA,eB,eO]
   ·have:=pA.append pB
    rwa [List.take_append_drop] at this
theorem j7Y (l:List TDef) (g:Int) (hl:l.length ≤ 60) (hw:∀ d ∈ l,X4 (TDef.enc d) ≤ 1048576):∃ out:List TDef,Ja [.sl (l.map TDef.enc),.i g] = .ret [.sl (out.map TDef.enc)] ∧ out.Perm (l.filter fun d=>grp d.kind == g):=by
 have h:jy qV [.sl (l.map TDef.enc),.i g,.sl [],.i (0:Int)] = .ex 0 [.sl ((l.filter fun d=>grp d.kind == g).map TDef.enc)]:=by
  refine pE (st:=fun i=>[.sl (l.map TDef.enc),.i g,.sl (((l.take i).filter fun d=>grp d.kind == g).map TDef.enc),.i (i:Int)]) l.length 0 (fun i _ hi=>?_) (jK ?_)
  ·rw [Nat.zero_add] at hi
   have hc:(i:Int) < (l.length:Int):=by omega
   have hm:(l.map TDef.enc).getD i []=TDef.enc l[i]:=jx hi
   have ws:=jz hi (show l.length ≤ 9223372036854775807 by omega)
   have fl:=List.length_filter_le (fun d:TDef=>grp d.kind == g) (l.take i)
   rw [List.length_take] at fl
   rw [List.take_succ_eq_append_getElem hi,List.filter_append]
   generalize (l.take i).filter (fun d:TDef=>grp d.kind == g)=out at *
   have f1:=j0j (n:=out.length) (by omega)
   rw [TDef.enc_eq] at hm
   generalize l[i]=d at *
   cases hg:(grp d.kind == g) with
   | true=>simp only [qL,qI,qS,qB,qV,List.getD_cons_zero,List.getD_cons_succ,DC.bb_b,DC.ii_i,DC.ss_s,DC.ll_sl,List.length_map,jd,Int.natCast_nonneg,decide_true,decide_false,if_true,if_false,Bool.false_eq_true,and_self,true_and,ja,j9,Out.bindR_ret,jb,jf,Nat.zero_add,beq_self_eq_true,bne_self_eq_false,je,jc,eq_self,jh,jg,hm,hc,ws,f1,XU,hg,List.filter_cons,List.filter_nil,TDef.enc_eq d,List.map_append,js,List.map_nil]
   | false=>simp only [qL,qI,qS,qB,qV,List.getD_cons_zero,List.getD_cons_succ,DC.bb_b,DC.ii_i,DC.ss_s,DC.ll_sl,List.length_map,jd,Int.natCast_nonneg,decide_true,decide_false,if_true,if_false,Bool.false_eq_true,and_self,true_and,ja,j9,Out.bindR_ret,jb,jf,Nat.zero_add,beq_self_eq_true,bne_self_eq_false,je,jc,eq_self,jh,jg,hm,hc,ws,f1,XU,hg,List.filter_cons,List.filter_nil,jv]
  ·rw [Nat.zero_add,List.take_length]
   simp [qL,qI,qS,qB,qV]
 obtain ⟨out,e,p⟩:=j7m _ (l.filter fun d=>grp d.kind == g) (Nat.le_refl _) (Nat.le_trans (List.length_filter_le _ _) hl) fun d hd=>hw d (List.mem_filter.1 hd).1
 refine ⟨out,?_,p⟩
 rw [j1n]
 simp only [qL,qI,qS,qB,XG,List.getD_cons_zero,List.getD_cons_succ,DC.bb_b,DC.ii_i,DC.ss_s,DC.ll_sl,List.length_map,jd,Int.natCast_nonneg,decide_true,decide_false,if_true,if_false,Bool.false_eq_true,and_self,true_and,ja,j9,Out.bindR_ret,jb,jf,Nat.zero_add,beq_self_eq_true,bne_self_eq_false,je,jc,eq_self,jh,jg,h,e]
theorem j3o (l:List TDef) (hl:l.length ≤ 60) (hw:∀ d ∈ l,X4 (TDef.enc d) ≤ 1048576) (h8:∀ d ∈ l,d.kind ≠ 8):∃ (ts ds:List TDef) (rs:List TRoot),Jb [.sl (l.map TDef.enc)] = .ret [.sl (ts.map TDef.enc),.sl (ds.map TDef.enc),.sl (rs.map TRoot.enc)] ∧ ts.Perm (l.filter fun d=>grp d.kind == 0) ∧ ds.Perm (l.filter fun d=>grp d.kind == 1) ∧ rs.length ≤ 3:=by
 obtain ⟨ts,e0,p0⟩:=j7Y l 0 hl hw
 obtain ⟨ds,e1,p1⟩:=j7Y l 1 hl hw
 have lt:ts.length ≤ 60:=by
  have:=p0.length_eq
  have:=List.length_filter_le (fun d:TDef=>grp d.kind == 0) l
  omega
 have e2:zM [.sl (l.map TDef.enc),.i 2,.s []] = .ret [.i (-1)]:=by
  rw [j2J l 2 [] (by omega)]
  have:l.findIdx? (alk 2 [])=none:=by
   rw [List.findIdx?_eq_none_iff]
   intro x hx
   have h:=h8 x hx
   have:¬ grp x.kind=2:=by
    unfold grp
    rw [if_neg h]
    split <;> decide
   simp [alk,this]
  rw [pu,this]
 have e3:∃ rs:List TRoot,jy pg [.sl (l.map TDef.enc),.i (-1),.i 1,.sl (ts.map TDef.enc),.sl (ds.map TDef.enc),.sl []] = .ex 0 [.sl (ts.map TDef.enc),.sl (ds.map TDef.enc),.sl (rs.map TRoot.enc)] ∧ rs.length ≤ 3:=by
  refine kg (F:=pg) (n:=3) (I:=fun i v=>∃ rs:List TRoot,v=[.sl (l.map TDef.enc),.i (-1),.i ((i:Int) + 1),.sl (ts.map TDef.enc),.sl (ds.map TDef.enc),.sl (rs.map TRoot.enc)] ∧ rs.length ≤ i)
   (Q:=fun o=>∃ rs:List TRoot,o = .ex 0 [.sl (ts.map TDef.enc),.sl (ds.map TDef.enc),.sl (rs.map TRoot.enc)] ∧ rs.length ≤ 3) ?_ ?_ 3 0 _ rfl ⟨[],rfl,Nat.le_refl _⟩
  ·rintro i v hi ⟨rs,rfl,hr⟩
   refine .inl ?_
   have f1:=j0j (n:=rs.length) (by omega)
   have hneg:((-1:Int) < 0):=by decide
   have hc:(i:Int) + 1 ≤ 3:=by omega
   have hc4:(i:Int) + 1 < ((0 + 1 + 1 + 1 + 1:Nat):Int):=by omega
   have hc4':(i:Int) + 1 < ((1 + 1 + 1 + 1:Nat):Int):=by omega
   have hnn:0 ≤ (i:Int) + 1:=by omega
   have ws:IntKind.i64.wrap ((i:Int) + 1 + 1)=((i + 1:Nat):Int) + 1:=by rw [IntKind.wrap_i64]; omega
   generalize hnm:(([[DC.s ([]:List UInt8)],[DC.s ([81,117,101,114,121]:List UInt8)],[DC.s ([77,117,116,97,116,105,111,110]:List UInt8)],[DC.s ([83,117,98,115,99,114,105,112,116,105,111,110]:List UInt8)]].getD ((i:Int) + 1).toNat []).getD 0 d0).ss=nm
   have ht:=zk ts (ds.map TDef.enc) (rs.map TRoot.enc) nm (by omega)
   rcases qg ts nm with ⟨h1,_⟩ | ⟨k,hk,h1,_,_⟩
   ·rw [h1] at ht
    refine ⟨_,?_,rs,rfl,by omega⟩
    simp only [qL,qI,qS,qB,pg,List.getD_cons_zero,List.getD_cons_succ,DC.bb_b,DC.ii_i,DC.ss_s,DC.ll_sl,List.length_map,jd,Int.natCast_nonneg,decide_true,decide_false,if_true,if_false,Bool.false_eq_true,and_self,true_and,ja,j9,Out.bindR_ret,jb,jf,Nat.zero_add,beq_self_eq_true,bne_self_eq_false,je,jc,eq_self,jh,jg,hneg,hc,hc4,hc4',hnn,hnm,ht,ws,show ¬ ((-1:Int) ≥ 0) by decide]
   ·rw [h1] at ht
    have hm:(ts.map TDef.enc).getD k []=TDef.enc ts[k]:=jx hk
    have hkc:(k:Int) < (ts.length:Int):=by omega
    have hk0:(k:Int) ≥ 0:=by omega
    rw [TDef.enc_eq] at hm
    cases h2:(ts[k].kind == 2) with
    | true =>
     refine ⟨_,?_,rs ++ [⟨(i:Int) + 1,nm⟩],rfl,by simp; omega⟩
     simp only [qL,qI,qS,qB,pg,List.getD_cons_zero,List.getD_cons_succ,DC.bb_b,DC.ii_i,DC.ss_s,DC.ll_sl,List.length_map,jd,Int.natCast_nonneg,decide_true,decide_false,if_true,if_false,Bool.false_eq_true,and_self,true_and,ja,j9,Out.bindR_ret,jb,jf,Nat.zero_add,beq_self_eq_true,bne_self_eq_false,je,jc,eq_self,jh,jg,hneg,hc,hc4,hc4',hnn,hnm,ht,ws,hm,hkc,hk0,h2,f1,List.map_append,js,List.map_nil,TRoot.enc_eq]
    | false =>
     refine ⟨_,?_,rs,rfl,by omega⟩
     simp only [qL,qI,qS,qB,pg,List.getD_cons_zero,List.getD_cons_succ,DC.bb_b,DC.ii_i,DC.ss_s,DC.ll_sl,List.length_map,jd,Int.natCast_nonneg,decide_true,decide_false,if_true,if_false,Bool.false_eq_true,and_self,true_and,ja,j9,Out.bindR_ret,jb,jf,Nat.zero_add,beq_self_eq_true,bne_self_eq_false,je,jc,eq_self,jh,jg,hneg,hc,hc4,hc4',hnn,hnm,ht,ws,hm,hkc,hk0,h2,f1]
  ·rintro v ⟨rs,rfl,hr⟩
   exact ⟨_,by simp [qL,qI,qS,qB,pg],Out.esc_ex 0 _,rs,rfl,hr⟩
 obtain ⟨rs,e3,hr⟩:=e3
 refine ⟨ts,ds,rs,?_,p0,p1,hr⟩
 rw [j1q]
 simp only [qL,qI,qS,qB,XJ,List.getD_cons_zero,List.getD_cons_succ,DC.bb_b,DC.ii_i,DC.ss_s,DC.ll_sl,List.length_map,jd,Int.natCast_nonneg,decide_true,decide_false,if_true,if_false,Bool.false_eq_true,and_self,true_and,ja,j9,Out.bindR_ret,jb,jf,Nat.zero_add,beq_self_eq_true,bne_self_eq_false,je,jc,eq_self,jh,jg,e0,e1,e2,e3]
end Go.Proofs.QV
