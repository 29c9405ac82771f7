import Derived.Test.YtjmfjemandkfdacGreatDoorMZ8
import Derived.Lib.ValidLaws
import Derived.Lib.TrimUEq
import Derived.Shelf.Strings.Repeat
/- Texts: what both implementations answer. -/
namespace Go.Proofs.QV
open Go
open _root_.Bool renaming not_true → jh, and_eq_true → jj, true_and → jC, and_true → jS, false_or → jW, not_false → jn, and_false → jT, false_and → jP
open _root_.Int renaming toNat_natCast → j7, natCast_zero → jI
open Out renaming andThen_norm → j8, andThenB → ja, andThenB_norm → j9, andThenB_ex → jc, esc_ex → jG, andThenB_ret → jd
open _root_.Nat renaming lt_or_ge → jA
open _root_.List renaming flatMap_cons → jz, length_append → j3, length_cons → j4, length_nil → j6, append_assoc → jO, singleton_append → jU, cons_append → jN, nil_append → jy, map_cons → jL, not_all_eq_any_not → js, getElem_mem → je, mem_map_of_mem → jD, append_nil → jV
set_option linter.unusedVariables false
set_option linter.unusedSimpArgs false
set_option maxRecDepth 100000
theorem YJ (n a b:Int):V5 [.i n,.i a,.i b] = .ret [.b (decide (a ≤ n) && decide (n ≤ b))]:=by
 rw [jbz]
 simp only [j6e,jr,jv,zb,zi]
 by_cases h:a ≤ n
 ·have:decide (n ≥ a)=true:=decide_eq_true h
  simp [this,h]
 ·have:decide (n ≥ a)=false:=decide_eq_false h
  simp [this,h]
def j18 (n:Int):Bool:=decide (0 ≤ n ∧ n ≤ 1114111) && !decide (55296 ≤ n ∧ n ≤ 57343)
theorem j9r (n:Int):VV [.i n] = .ret [.b (j18 n)]:=by
 rw [j5z]
 simp only [j0I,jr,jv,zb,zi,YJ,zr,j18,Bool.decide_and]
 cases (decide (0 ≤ n) && decide (n ≤ 1114111)) <;> simp
def Qk (n:Int):Nat:=if j18 n=true then (if n < 128 then 1 else if n < 2048 then 2 else if n < 65536 then 3 else 4) else 0
theorem jbi (n:Int):∃ t:List UInt8,yV [.i n] = .ret [.s t] ∧ t.length=Qk n:=by
 rw [j6X]
 simp only [j1J,jr,jv,zb,zi,j9r,zr,Qk]
 cases j18 n with
 | false=>exact ⟨[],by simp,by simp⟩
 | true =>
  simp only [jh,zf,if_false,if_true,show ¬ (64:Int)=0 by decide,show ¬ (4096:Int)=0 by decide,show ¬ (262144:Int)=0 by decide]
  by_cases h1:n < 128
  ·exact ⟨_,by simp only [h1,decide_true,if_true]; rfl,by simp [h1,pL]⟩
  ·by_cases h2:n < 2048
   ·exact ⟨_,by simp only [h1,h2,decide_true,decide_false,zf,if_true,if_false]; rfl,by simp [h1,h2,pL]⟩
   ·by_cases h3:n < 65536
    ·exact ⟨_,by simp only [h1,h2,h3,decide_true,decide_false,zf,if_true,if_false]; rfl,by simp [h1,h2,h3,pL]⟩
    ·exact ⟨_,by simp only [h1,h2,h3,decide_true,decide_false,zf,if_true,if_false]; rfl,by simp [h1,h2,h3,pL]⟩
theorem j87 (s:List UInt8) (i m j:Nat) (n:Int) (hs:s.length ≤ 1048576) (hj:j < m) (hi:i + j < s.length) (h0:0 ≤ n) (h1:n < 16777216) :
  yc [.s s,.i (i:Int),.i (m:Int),.i n,.i (j:Int)]=if 128 ≤ (s.getD (i + j) 0).toNat ∧ (s.getD (i + j) 0).toNat ≤ 191 then .norm [.s s,.i (i:Int),.i (m:Int),.i (n * 64 + (s.getD (i + j) 0).toNat - 128),.i ((j + 1:Nat):Int)] else .ret [.i (-1),.i 0]:=by
 have e1:decide ((j:Int) < (m:Int))=true:=decide_eq_true (by omega)
 have w1:IntKind.i64.wrap ((i:Int) + (j:Int))=((i + j:Nat):Int):=by rw [kp (by omega) (by omega)]; omega
 have e2:0 ≤ ((i + j:Nat):Int) ∧ ((i + j:Nat):Int) < (s.length:Int):=by omega
 have hb:=(s.getD (i + j) 0).toNat_lt
 simp only [yc,jr,jv,zb,zi,zs,e1,w1,e2,if_true,and_self,decide_true,j7]
 generalize (s.getD (i + j) 0).toNat=c at *
 have w2:IntKind.i64.wrap (c:Int)=c:=kp (by omega) (by omega)
 have w3:IntKind.i64.wrap (n * 64)=n * 64:=kp (by omega) (by omega)
 have w4:IntKind.i64.wrap (n * 64 + c)=n * 64 + c:=kp (by omega) (by omega)
 have w5:IntKind.i64.wrap (n * 64 + c - 128)=n * 64 + c - 128:=kp (by omega) (by omega)
 have w6:IntKind.i64.wrap ((j:Int) + 1)=((j + 1:Nat):Int):=by rw [kp (by omega) (by omega)]; omega
 rw [w2]
 by_cases h2:c < 128
 ·have d1:decide ((c:Int) < 128)=true:=decide_eq_true (by omega)
  simp only [d1,if_true,j8,jr,jv,zb]
  rw [if_neg (show ¬ (128 ≤ c ∧ c ≤ 191) by omega)]
  rfl
 ·have d1:decide ((c:Int) < 128)=false:=decide_eq_false (by omega)
  simp only [d1,zf,if_false,j8,jr,jv,zb,zi,zs]
  by_cases h3:c ≤ 191
  ·have d2:decide ((c:Int) > 191)=false:=decide_eq_false (by omega)
   rw [if_pos (show 128 ≤ c ∧ c ≤ 191 by omega),d2]
   simp only [zf,if_false,w3,w4,w5]
   show Out.norm _=_
   simp only [jr,jv,zi,zs,w6]
  ·have d2:decide ((c:Int) > 191)=true:=decide_eq_true (by omega)
   rw [if_neg (show ¬ (128 ≤ c ∧ c ≤ 191) by omega),d2]
   rfl
theorem j4W (s:List UInt8) (i m:Nat) (n:Int):yc [.s s,.i (i:Int),.i (m:Int),.i n,.i (m:Int)] = .ex 1 [.i (m:Int),.i n]:=by
 simp [yc]
def ZS (d:Nat × Nat):List DC:=if d.1=65533 ∧ d.2=1 then [.i (-1),.i 0] else [.i (d.1:Int),.i (d.2:Int)]
def j0C (c:Nat):Bool:=decide (128 ≤ c) && decide (c ≤ 191)
def jgd (m:Nat) (n:Int):List DC:=if Qk n=m then [.i n,.i (m:Int)] else [.i (-1),.i 0]
def j7I (N b1 b2 b3 m:Nat) (n0:Int):List DC :=
 if N < m then [.i (-1),.i 0] else
 if j0C b1=false then [.i (-1),.i 0] else
 if m=2 then jgd 2 (n0 * 64 + b1 - 128) else
 if j0C b2=false then [.i (-1),.i 0] else
 if m=3 then jgd 3 ((n0 * 64 + b1 - 128) * 64 + b2 - 128) else
 if j0C b3=false then [.i (-1),.i 0] else
 jgd 4 (((n0 * 64 + b1 - 128) * 64 + b2 - 128) * 64 + b3 - 128)
theorem QU {c:Nat} (h:j0C c=true):c / 64=2 ∧ c % 64=c - 128 ∧ 128 ≤ c ∧ c ≤ 191:=by
 unfold j0C at h
 simp only [jj,decide_eq_true_eq] at h
 omega
theorem X3 {c:Nat} (hc:c < 256) (h:j0C c=false):¬ c / 64=2:=by
 unfold j0C at h
 simp only [Bool.and_eq_false_iff,decide_eq_false_iff_not] at h
 omega
theorem jdy (m:Nat) (n:Int) (k:Nat) (hm:2 ≤ m) (hk:n=(k:Int)) (h:Qk n=m):jgd m n=ZS (k,m):=by
 unfold jgd ZS
 rw [if_pos h,if_neg (by simp only; omega),hk]
theorem jeS (m:Nat) (n:Int) (h:¬ Qk n=m):jgd m n=ZS (65533,1):=by
 unfold jgd
 rw [if_neg h]; rfl
theorem jk4 (N b0 b1 b2 b3:Nat) (h:194 ≤ b0 ∧ b0 < 224) (h1:b1 < 256):j7I N b1 b2 b3 2 ((b0:Int) - 192)=ZS (Lib.decodeN N b0 b1 b2 b3):=by
 have hd:Lib.decodeN N b0 b1 b2 b3=if 1 < N ∧ b1 / 64=2 then (if b0 % 32 * 64 + b1 % 64 ≥ 128 then (b0 % 32 * 64 + b1 % 64,2) else (65533,1)) else (65533,1):=by
  unfold Lib.decodeN
  rw [if_neg (by omega)]
  by_cases hc:1 < N ∧ b1 / 64=2
  ·rw [if_pos ⟨by omega,hc⟩,if_pos hc]
  ·rw [if_neg (fun h=>hc h.2),if_neg hc,if_neg (by omega),if_neg (by omega)]
 rw [hd]
 unfold j7I
 by_cases hN:N < 2
 ·rw [if_pos hN,if_neg (by omega)]; rfl
 rw [if_neg hN]
 cases hc:j0C b1 with
 | false=>rw [if_pos rfl,if_neg (fun h=>X3 h1 hc h.2)]; rfl
 | true =>
  obtain ⟨k1,k2,k3,k4⟩:=QU hc
  rw [if_neg (by simp),if_pos rfl,if_pos ⟨by omega,k1⟩,if_pos (by omega)]
  refine jdy 2 _ _ (by omega) (by omega) ?_
  unfold Qk j18
  rw [if_pos (by simp; omega),if_neg (by omega),if_pos (by omega)]
theorem jk3 (N b0 b1 b2 b3:Nat) (h:224 ≤ b0 ∧ b0 < 240) (h1:b1 < 256) (h2:b2 < 256):j7I N b1 b2 b3 3 ((b0:Int) - 224)=ZS (Lib.decodeN N b0 b1 b2 b3):=by
  have hd:Lib.decodeN N b0 b1 b2 b3=if (1 < N ∧ b1 / 64=2) ∧ (2 < N ∧ b2 / 64=2) then
    (if b0 % 16 * 4096 + b1 % 64 * 64 + b2 % 64 ≥ 2048 ∧ (b0 % 16 * 4096 + b1 % 64 * 64 + b2 % 64 < 55296 ∨ (57344 ≤ b0 % 16 * 4096 + b1 % 64 * 64 + b2 % 64 ∧ b0 % 16 * 4096 + b1 % 64 * 64 + b2 % 64 ≤ 1114111))
     then (b0 % 16 * 4096 + b1 % 64 * 64 + b2 % 64,3) else (65533,1)) else (65533,1):=by
    unfold Lib.decodeN
    rw [if_neg (by omega),if_neg (by omega)]
    by_cases hc:(1 < N ∧ b1 / 64=2) ∧ (2 < N ∧ b2 / 64=2)
    · rw [if_pos ⟨by omega,hc.1,hc.2⟩,if_pos hc]
    · rw [if_neg (fun h=>hc ⟨h.2.1,h.2.2⟩),if_neg hc,if_neg (by omega)]
  rw [hd]
  unfold j7I
  by_cases hN:N < 3
  · rw [if_pos hN,if_neg (by omega)]; rfl
  rw [if_neg hN]
  cases hc:j0C b1 with
  | false=>rw [if_pos rfl,if_neg (fun h=>X3 h1 hc h.1.2)]; rfl
  | true =>
    obtain ⟨k1,k2,k3,k4⟩:=QU hc
    rw [if_neg (by simp),if_neg (by omega)]
    cases hc2:j0C b2 with
    | false=>rw [if_pos rfl,if_neg (fun h=>X3 h2 hc2 h.2.2)]; rfl
    | true =>
      obtain ⟨l1,l2,l3,l4⟩:=QU hc2
      rw [if_neg (by simp),if_pos rfl,if_pos ⟨⟨by omega,k1⟩,by omega,l1⟩]
      by_cases hv:b0 % 16 * 4096 + b1 % 64 * 64 + b2 % 64 ≥ 2048 ∧ (b0 % 16 * 4096 + b1 % 64 * 64 + b2 % 64 < 55296 ∨ (57344 ≤ b0 % 16 * 4096 + b1 % 64 * 64 + b2 % 64 ∧ b0 % 16 * 4096 + b1 % 64 * 64 + b2 % 64 ≤ 1114111))
      · rw [if_pos hv]
        refine jdy 3 _ _ (by omega) (by omega) ?_
        unfold Qk j18
        rw [if_pos (by simp; omega),if_neg (by omega),if_neg (by omega),if_pos (by omega)]
      · rw [if_neg hv]
        refine jeS 3 _ ?_
        unfold Qk j18
        by_cases hsc:(decide (0 ≤ (((b0:Int) - 224) * 64 + b1 - 128) * 64 + b2 - 128 ∧ (((b0:Int) - 224) * 64 + b1 - 128) * 64 + b2 - 128 ≤ 1114111) && !decide (55296 ≤ (((b0:Int) - 224) * 64 + b1 - 128) * 64 + b2 - 128 ∧ (((b0:Int) - 224) * 64 + b1 - 128) * 64 + b2 - 128 ≤ 57343))=true
        · rw [if_pos hsc]
          simp only [jj,decide_eq_true_eq,Bool.not_eq_true',decide_eq_false_iff_not] at hsc
          rcases Int.lt_or_le ((((b0:Int) - 224) * 64 + b1 - 128) * 64 + b2 - 128) 2048 with hq | hq
          · split <;> omega
          · omega
        · rw [if_neg hsc]; omega
theorem jk2 (N b0 b1 b2 b3:Nat) (h:240 ≤ b0 ∧ b0 < 245) (h1:b1 < 256) (h2:b2 < 256) (h3:b3 < 256):j7I N b1 b2 b3 4 ((b0:Int) - 240)=ZS (Lib.decodeN N b0 b1 b2 b3):=by
  have hd:Lib.decodeN N b0 b1 b2 b3=if (1 < N ∧ b1 / 64=2) ∧ (2 < N ∧ b2 / 64=2) ∧ (3 < N ∧ b3 / 64=2) then
    (if b0 % 8 * 262144 + b1 % 64 * 4096 + b2 % 64 * 64 + b3 % 64 ≥ 65536 ∧ (b0 % 8 * 262144 + b1 % 64 * 4096 + b2 % 64 * 64 + b3 % 64 < 55296 ∨ (57344 ≤ b0 % 8 * 262144 + b1 % 64 * 4096 + b2 % 64 * 64 + b3 % 64 ∧ b0 % 8 * 262144 + b1 % 64 * 4096 + b2 % 64 * 64 + b3 % 64 ≤ 1114111))
     then (b0 % 8 * 262144 + b1 % 64 * 4096 + b2 % 64 * 64 + b3 % 64,4) else (65533,1)) else (65533,1):=by
    unfold Lib.decodeN
    rw [if_neg (by omega),if_neg (by omega),if_neg (by omega)]
    by_cases hc:(1 < N ∧ b1 / 64=2) ∧ (2 < N ∧ b2 / 64=2) ∧ (3 < N ∧ b3 / 64=2)
    · rw [if_pos ⟨by omega,hc⟩,if_pos hc]
    · rw [if_neg (fun h=>hc h.2),if_neg hc]
  rw [hd]
  unfold j7I
  by_cases hN:N < 4
  · rw [if_pos hN,if_neg (by omega)]; rfl
  rw [if_neg hN]
  cases hc:j0C b1 with
  | false=>rw [if_pos rfl,if_neg (fun h=>X3 h1 hc h.1.2)]; rfl
  | true =>
    obtain ⟨k1,k2,k3,k4⟩:=QU hc
    rw [if_neg (by simp),if_neg (by omega)]
    cases hc2:j0C b2 with
    | false=>rw [if_pos rfl,if_neg (fun h=>X3 h2 hc2 h.2.1.2)]; rfl
    | true =>
      obtain ⟨l1,l2,l3,l4⟩:=QU hc2
      rw [if_neg (by simp),if_neg (by omega)]
      cases hc3:j0C b3 with
      | false=>rw [if_pos rfl,if_neg (fun h=>X3 h3 hc3 h.2.2.2)]; rfl
      | true =>
        obtain ⟨m1,m2,m3,m4⟩:=QU hc3
        rw [if_neg (by simp),if_pos ⟨⟨by omega,k1⟩,⟨by omega,l1⟩,by omega,m1⟩]
        by_cases hv:b0 % 8 * 262144 + b1 % 64 * 4096 + b2 % 64 * 64 + b3 % 64 ≥ 65536 ∧ (b0 % 8 * 262144 + b1 % 64 * 4096 + b2 % 64 * 64 + b3 % 64 < 55296 ∨ (57344 ≤ b0 % 8 * 262144 + b1 % 64 * 4096 + b2 % 64 * 64 + b3 % 64 ∧ b0 % 8 * 262144 + b1 % 64 * 4096 + b2 % 64 * 64 + b3 % 64 ≤ 1114111))
        · rw [if_pos hv]
          refine jdy 4 _ _ (by omega) (by omega) ?_
          unfold Qk j18
          rw [if_pos (by simp; omega),if_neg (by omega),if_neg (by omega),if_neg (by omega)]
        · rw [if_neg hv]
          refine jeS 4 _ ?_
          generalize hn:((((b0:Int) - 240) * 64 + b1 - 128) * 64 + b2 - 128) * 64 + b3 - 128=n
          unfold Qk j18
          split
          · rename_i hsc
            simp only [jj,decide_eq_true_eq,Bool.not_eq_true',decide_eq_false_iff_not] at hsc
            split
            · omega
            · split
              · omega
              · split <;> omega
          · omega
theorem jk5 (N b0 b1 b2 b3:Nat) (h:128 ≤ b0) (hA:¬ (194 ≤ b0 ∧ b0 < 224)) (hB:¬ (224 ≤ b0 ∧ b0 < 240)) (hC:¬ (240 ≤ b0 ∧ b0 < 245)):ZS (Lib.decodeN N b0 b1 b2 b3)=[.i (-1),.i 0]:=by
 have:Lib.decodeN N b0 b1 b2 b3=(65533,1):=by
  unfold Lib.decodeN
  rw [if_neg (by omega)]
  by_cases h1:b0 / 32=6 ∧ (1 < N ∧ b1 / 64=2)
  ·rw [if_pos h1,if_neg (by omega)]
  ·rw [if_neg h1,if_neg (by omega)]
   by_cases h2:b0 / 8=30 ∧ (1 < N ∧ b1 / 64=2) ∧ (2 < N ∧ b2 / 64=2) ∧ (3 < N ∧ b3 / 64=2)
   ·rw [if_pos h2,if_neg (by omega)]
   ·rw [if_neg h2]
 rw [this]; rfl
theorem jei (s:List UInt8) (i:Nat) (hs:s.length ≤ 1048576) (hi:i < s.length):ZX [.s s,.i (i:Int)] = .ret (ZS (Lib.decodeL (s.drop i))):=by
 rw [jaa,Lib.decodeL_N,List.length_drop,Lib.getD_dropU,Lib.getD_dropU,Lib.getD_dropU,Lib.getD_dropU,Nat.add_zero]
 have e1:decide ((i:Int) < 0)=false:=decide_eq_false (by omega)
 have e2:decide ((i:Int) ≥ (s.length:Int))=false:=decide_eq_false (by omega)
 have e3:0 ≤ (i:Int) ∧ (i:Int) < (s.length:Int):=by omega
 simp only [j3S,jr,jv,zb,zi,zs,e1,e2,e3,zf,if_false,if_true,and_self,j8,j7]
 have hb0:=(s.getD i 0).toNat_lt
 have hb1:=(s.getD (i + 1) 0).toNat_lt
 have hb2:=(s.getD (i + 2) 0).toNat_lt
 have hb3:=(s.getD (i + 3) 0).toNat_lt
 have st:=j87 s i
 generalize hB0:(s.getD i 0).toNat=b0 at *
 have w0:IntKind.i64.wrap (b0:Int)=b0:=kp (by omega) (by omega)
 rw [w0]
 by_cases c0:b0 < 128
 ·have d1:decide ((b0:Int) < 128)=true:=decide_eq_true (by omega)
  simp only [d1,if_true]
  have:Lib.decodeN (s.length - i) b0 (s.getD (i + 1) 0).toNat (s.getD (i + 2) 0).toNat (s.getD (i + 3) 0).toNat=(b0,1):=by unfold Lib.decodeN; rw [if_pos c0]
  rw [this]
  unfold ZS
  rw [if_neg (by simp only; omega)]
  rfl
 have d0':decide ((b0:Int) < 128)=false:=decide_eq_false (by omega)
 have fin:∀ (m:Nat) (n:Int) (o:Out),o = .ex 1 [.i (m:Int),.i n] → ja o 1 (fun v11=>(yV [DC.i (gi v11 1)]).bindR fun r12 =>
     if (((gs r12 0).length:Int) != (gi v11 0))=true then
      .ret [DC.i (-1:Int),DC.i (0:Int)]
     else
      .ret [DC.i (gi v11 1),DC.i (gi v11 0)]) = .ret (if Qk n=m then [.i n,.i (m:Int)] else [.i (-1),.i 0]):=by
  intro m n o ho
  subst ho
  obtain ⟨t,ht,hl⟩:=jbi n
  show Out.bindR (yV [DC.i n]) _=_
  rw [ht,zr]
  show (if (((t.length:Int) != (m:Int))=true) then Out.ret [DC.i (-1),DC.i 0] else Out.ret [DC.i n,DC.i (m:Int)])=_
  rw [hl]
  by_cases h:Qk n=m
  ·rw [if_pos h,h]; simp
  ·rw [if_neg h,if_pos (by simp; omega)]
 have hBk:∀ k,((s.getD (i + k) 0).toNat) < 256:=fun k=>(s.getD (i + k) 0).toNat_lt
 have body:∀ (m:Nat) (n0:Int),m=2 ∨ m=3 ∨ m=4 → 0 ≤ n0 → n0 < 64 → (if decide (((i + m:Nat):Int) > (s.length:Int))=true then Out.ret [DC.i (-1:Int),DC.i (0:Int)] else
    ja (jR yc [DC.s s,DC.i (i:Int),DC.i (m:Int),DC.i n0,DC.i (1:Int)]) 1 (fun v11=>(yV [DC.i (gi v11 1)]).bindR fun r12 =>
     if (((gs r12 0).length:Int) != (gi v11 0))=true then
      .ret [DC.i (-1:Int),DC.i (0:Int)]
     else
      .ret [DC.i (gi v11 1),DC.i (gi v11 0)])) = .ret (j7I (s.length - i) (s.getD (i + 1) 0).toNat (s.getD (i + 2) 0).toNat (s.getD (i + 3) 0).toNat m n0):=by
  intro m n0 hm h0 h1
  unfold j7I
  by_cases hN:s.length - i < m
  ·have e:decide (((i + m:Nat):Int) > (s.length:Int))=true:=decide_eq_true (by omega)
   rw [if_pos e,if_pos hN]
  have e:decide (((i + m:Nat):Int) > (s.length:Int))=false:=decide_eq_false (by omega)
  rw [if_neg hN]
  simp only [e,zf,if_false]
  have hc:∀ k,j0C (s.getD (i + k) 0).toNat=decide (128 ≤ (s.getD (i + k) 0).toNat ∧ (s.getD (i + k) 0).toNat ≤ 191):=fun k=>by unfold j0C; rw [Bool.decide_and]
  have stp:∀ (j:Nat) (n:Int),j < m → 0 ≤ n → n < 16777216 → yc [.s s,.i (i:Int),.i (m:Int),.i n,.i (j:Int)]=if j0C (s.getD (i + j) 0).toNat=false then .ret [.i (-1),.i 0] else .norm [.s s,.i (i:Int),.i (m:Int),.i (n * 64 + (s.getD (i + j) 0).toNat - 128),.i ((j + 1:Nat):Int)]:=by
   intro j n hj a b
   rw [j87 s i m j n hs hj (by omega) a b,hc]
   by_cases hq:128 ≤ (s.getD (i + j) 0).toNat ∧ (s.getD (i + j) 0).toNat ≤ 191
   ·rw [if_pos hq,decide_eq_true hq]; rfl
   ·rw [if_neg hq,decide_eq_false hq]; rfl
  have rng:∀ (j:Nat),j0C (s.getD (i + j) 0).toNat=true → 128 ≤ (s.getD (i + j) 0).toNat ∧ (s.getD (i + j) 0).toNat ≤ 191:=fun j hj=>⟨(QU hj).2.2.1,(QU hj).2.2.2⟩
  have s1:=stp 1 n0 (by omega) h0 (by omega)
  cases c1:j0C (s.getD (i + 1) 0).toNat with
  | false =>
   rw [c1,if_pos rfl] at s1
   rw [if_pos rfl]
   have:=j2E s1
   rw [show ((1:Nat):Int)=1 from rfl] at this
   rw [this]; rfl
  | true =>
   have r1:=rng 1 c1
   rw [c1,if_neg (by simp)] at s1
   rw [if_neg (by simp)]
   have l1:=JQ s1
   rw [show ((1:Nat):Int)=1 from rfl] at l1
   rw [l1]
   by_cases m2:m=2
   ·subst m2
    rw [if_pos rfl]
    exact fin 2 _ _ (qL (j4W s i 2 _))
   rw [if_neg m2]
   have s2:=stp 2 (n0 * 64 + (s.getD (i + 1) 0).toNat - 128) (by omega) (by omega) (by omega)
   cases c2:j0C (s.getD (i + 2) 0).toNat with
   | false =>
    rw [c2,if_pos rfl] at s2
    rw [if_pos rfl]
    show ja (jR _ [_,_,_,_,.i ((2:Nat):Int)]) _ _=_
    rw [j2E s2]; rfl
   | true =>
    have r2:=rng 2 c2
    rw [c2,if_neg (by simp)] at s2
    rw [if_neg (by simp)]
    show ja (jR _ [_,_,_,_,.i ((2:Nat):Int)]) _ _=_
    rw [JQ s2]
    by_cases m3:m=3
    ·subst m3
     rw [if_pos rfl]
     exact fin 3 _ _ (qL (j4W s i 3 _))
    rw [if_neg m3]
    have m4:m=4:=by omega
    subst m4
    have s3:=stp 3 ((n0 * 64 + (s.getD (i + 1) 0).toNat - 128) * 64 + (s.getD (i + 2) 0).toNat - 128) (by omega) (by omega) (by omega)
    cases c3:j0C (s.getD (i + 3) 0).toNat with
    | false =>
     rw [c3,if_pos rfl] at s3
     rw [if_pos rfl]
     show ja (jR _ [_,_,_,_,.i ((3:Nat):Int)]) _ _=_
     rw [j2E s3]; rfl
    | true =>
     rw [c3,if_neg (by simp)] at s3
     rw [if_neg (by simp)]
     show ja (jR _ [_,_,_,_,.i ((3:Nat):Int)]) _ _=_
     rw [JQ s3]
     exact fin 4 _ _ (qL (j4W s i 4 _))
 simp only [d0',zf,if_false]
 by_cases cA:194 ≤ b0 ∧ b0 < 224
 ·have d1:decide ((b0:Int) ≥ 194)=true:=decide_eq_true (by omega)
  have d2:decide ((b0:Int) < 224)=true:=decide_eq_true (by omega)
  have w1:IntKind.i64.wrap ((b0:Int) - 192)=b0 - 192:=kp (by omega) (by omega)
  have w2:IntKind.i64.wrap ((i:Int) + 2)=((i + 2:Nat):Int):=by rw [kp (by omega) (by omega)]; omega
  simp only [d1,d2,if_true,j8,j9,jr,jv,zb,zi,zs,w1,w2]
  exact (body 2 ((b0:Int) - 192) (by omega) (by omega) (by omega)).trans (congrArg Out.ret (jk4 _ _ _ _ _ cA (hBk 1)))
 by_cases cB:224 ≤ b0 ∧ b0 < 240
 ·have d1:decide ((b0:Int) ≥ 194)=true:=decide_eq_true (by omega)
  have d2:decide ((b0:Int) < 224)=false:=decide_eq_false (by omega)
  have d3:decide ((b0:Int) ≥ 224)=true:=decide_eq_true (by omega)
  have d4:decide ((b0:Int) < 240)=true:=decide_eq_true (by omega)
  have w1:IntKind.i64.wrap ((b0:Int) - 224)=b0 - 224:=kp (by omega) (by omega)
  have w2:IntKind.i64.wrap ((i:Int) + 3)=((i + 3:Nat):Int):=by rw [kp (by omega) (by omega)]; omega
  simp only [d1,d2,d3,d4,if_true,zf,if_false,j8,j9,jr,jv,zb,zi,zs,w1,w2]
  exact (body 3 ((b0:Int) - 224) (by omega) (by omega) (by omega)).trans (congrArg Out.ret (jk3 _ _ _ _ _ cB (hBk 1) (hBk 2)))
 by_cases cC:240 ≤ b0 ∧ b0 < 245
 ·have d1:decide ((b0:Int) ≥ 194)=true:=decide_eq_true (by omega)
  have d2:decide ((b0:Int) < 224)=false:=decide_eq_false (by omega)
  have d3:decide ((b0:Int) ≥ 224)=true:=decide_eq_true (by omega)
  have d4:decide ((b0:Int) < 240)=false:=decide_eq_false (by omega)
  have d5:decide ((b0:Int) ≥ 240)=true:=decide_eq_true (by omega)
  have d6:decide ((b0:Int) < 245)=true:=decide_eq_true (by omega)
  have w1:IntKind.i64.wrap ((b0:Int) - 240)=b0 - 240:=kp (by omega) (by omega)
  have w2:IntKind.i64.wrap ((i:Int) + 4)=((i + 4:Nat):Int):=by rw [kp (by omega) (by omega)]; omega
  simp only [d1,d2,d3,d4,d5,d6,if_true,zf,if_false,j8,j9,jr,jv,zb,zi,zs,w1,w2]
  exact (body 4 ((b0:Int) - 240) (by omega) (by omega) (by omega)).trans (congrArg Out.ret (jk2 _ _ _ _ _ cC (hBk 1) (hBk 2) (hBk 3)))
 rw [jk5 _ _ _ _ _ (by omega) cA cB cC]
 rcases jA b0 194 with q | q
 ·have d1:decide ((b0:Int) ≥ 194)=false:=decide_eq_false (by omega)
  have d3:decide ((b0:Int) ≥ 224)=false:=decide_eq_false (by omega)
  have d5:decide ((b0:Int) ≥ 240)=false:=decide_eq_false (by omega)
  simp only [d1,d3,d5,if_true,zf,if_false,j8,j9,jr,jv,zb,zi,zs]
  rfl
 ·have d1:decide ((b0:Int) ≥ 194)=true:=decide_eq_true (by omega)
  have d2:decide ((b0:Int) < 224)=false:=decide_eq_false (by omega)
  have d3:decide ((b0:Int) ≥ 224)=true:=decide_eq_true (by omega)
  have d4:decide ((b0:Int) < 240)=false:=decide_eq_false (by omega)
  have d5:decide ((b0:Int) ≥ 240)=true:=decide_eq_true (by omega)
  have d6:decide ((b0:Int) < 245)=false:=decide_eq_false (by omega)
  simp only [d1,d2,d3,d4,d5,d6,if_true,zf,if_false,j8,j9,jr,jv,zb,zi,zs]
  rfl
theorem jeh (s:List UInt8) (hs:s.length ≤ 1048576):ZW [.s s] = .ret [.b (Lib.validD s)]:=by
 rw [ja9]
 simp only [j3R,jr,jv,zb,zi,zs]
 have key:∀ (k i:Nat),s.length - i ≤ k → i ≤ s.length → jR za [.s s,.i (i:Int)]=if Lib.validD (s.drop i)=true then .ex 0 [] else .ret [.b false]:=by
  intro k
  induction k with
  | zero =>
   intro i hk hi
   have:i=s.length:=by omega
   subst this
   have e:decide ((s.length:Int) < (s.length:Int))=false:=decide_eq_false (by omega)
   rw [qL (r:=[]) (id:=0) (by simp only [za,jr,jv,zi,zs,e,zf,if_false]),List.drop_length]
   rfl
  | succ k ih =>
   intro i hk hi
   rcases jA i s.length with hl | hl
   ·have hne:s.drop i ≠ []:=fun h=>by have:=List.drop_eq_nil_iff.1 h; omega
    rw [Lib.validD_step _ hne]
    have hw:=Lib.decodeL_width (s.drop i)
    have hdl:(s.drop i).length=s.length - i:=List.length_drop
    have hpos:0 < (s.drop i).length:=List.length_pos_iff.2 hne
    have e:decide ((i:Int) < (s.length:Int))=true:=decide_eq_true (by omega)
    have hle:(Lib.decodeL (s.drop i)).2 ≤ s.length - i:=by
     rw [← hdl]
     have:=KU (s.drop i).length ((s.drop i).getD 0 0).toNat ((s.drop i).getD 1 0).toNat ((s.drop i).getD 2 0).toNat ((s.drop i).getD 3 0).toNat hpos
     rw [← Lib.decodeL_N] at this
     exact this.2.1
    have hge:1 ≤ (Lib.decodeL (s.drop i)).2:=by
     have:=KU (s.drop i).length ((s.drop i).getD 0 0).toNat ((s.drop i).getD 1 0).toNat ((s.drop i).getD 2 0).toNat ((s.drop i).getD 3 0).toNat hpos
     rw [← Lib.decodeL_N] at this
     exact this.1
    have hra:=jei s i hs hl
    unfold ZS at hra
    by_cases hb:(Lib.decodeL (s.drop i)).1=65533 ∧ (Lib.decodeL (s.drop i)).2=1
    ·rw [if_pos hb] at hra ⊢
     rw [j2E (r:=[.b false]) (by simp only [za,jr,jv,zi,zs,e,if_true,hra,zr]; rfl)]
     rfl
    ·rw [if_neg hb] at hra ⊢
     have e2:decide (((Lib.decodeL (s.drop i)).1:Int) < 0)=false:=decide_eq_false (by omega)
     have w:IntKind.i64.wrap ((i:Int) + ((Lib.decodeL (s.drop i)).2:Int))=((i + (Lib.decodeL (s.drop i)).2:Nat):Int):=by rw [kp (by omega) (by omega)]; omega
     rw [JQ (v':=[.s s,.i ((i + (Lib.decodeL (s.drop i)).2:Nat):Int)]) (by simp only [za,jr,jv,zi,zs,e,if_true,hra,zr,e2,zf,if_false,w,j9]),
      ih _ (by omega) (by omega),List.drop_drop]
   ·have:i=s.length:=by omega
    subst this
    have e:decide ((s.length:Int) < (s.length:Int))=false:=decide_eq_false (by omega)
    rw [qL (r:=[]) (id:=0) (by simp only [za,jr,jv,zi,zs,e,zf,if_false]),List.drop_length]
    rfl
 have h:=key s.length 0 (by omega) (by omega)
 rw [show ((0:Nat):Int)=0 from rfl,List.drop_zero] at h
 rw [h]
 cases Lib.validD s <;> simp
theorem jeL (s:List UInt8) (hs:s.length ≤ 1048576):j08 [.s s] = .ret [.b (Lib.validD s)]:=by
 rw [jaI]
 simp only [j4o,jr,jv,zb,zi,zs]
 rw [Yv]
 have:yE [.s s] = .ret [.b (Lib.validD s)]:=by
  unfold yE KZ
  have hh:Yt [.s] qs=true:=rfl
  have hq:KQ [.s s]=some [.b (Lib.validD s)]:=by
   unfold KQ
   simp only
   rw [if_pos (by omega)]
  rw [hh,hq]
  rfl
 rw [this]
 rfl
def jjR:List UInt8:=[48,49,50,51,52,53,54,55,56,57,97,98,99,100,101,102]
def hx (n:Nat):UInt8:=jjR.getD n 0
def esc (b:UInt8):List UInt8 :=
 if (b == 34)=true then [92,34] else if (b == 92)=true then [92,92] else if (b == 8)=true then [92,98] else if (b == 9)=true then [92,116] else if (b == 10)=true then [92,110] else
 if (b == 12)=true then [92,102] else if (b == 13)=true then [92,114] else if b.toNat < 32 ∨ (b == 127)=true then [92,117,48,48,hx (b.toNat / 16),hx (b.toNat % 16)] else [b]
theorem jjo (b:UInt8):(esc b).length ≤ 6:=by
 unfold esc
 repeat' split
 all_goals simp
def j0w (s:List UInt8):List UInt8:=s.flatMap esc
theorem j0v:∀ s:List UInt8,(j0w s).length ≤ 6 * s.length
 | []=>Nat.le_refl _
 | b :: s=>by
  have:=j0v s
  have hb:=jjo b
  unfold j0w at *
  rw [jz,j3,j4]
  omega
def qJ (s:List UInt8):List UInt8:=if Lib.validD s=true ∧ s.length ≤ 200 then 34 :: (j0w s ++ [34]) else []
theorem jmE:∀ n:Fin 256,((n.1:Int).fdiv (2 ^ (min (4:Int).toNat (IntKind.u8.bits))))=((n.1 / 16:Nat):Int):=by decide +kernel
theorem jmx:∀ n:Fin 256,(IntKind.u8.wrap (BitVec.ofInt (IntKind.u8.bits) (n.1:Int) &&& BitVec.ofInt (IntKind.u8.bits) (15:Int)).toNat)=((n.1 % 16:Nat):Int):=by decide +kernel
theorem j52 (n:Nat) (hn:n < 256):YN [.i (n:Int)] = .ret [.s [48,48,hx (n / 16),hx (n % 16)]]:=by
 rw [j8q]
 have w:∀ k:Nat,IntKind.i64.wrap ((n:Int).tdiv (k:Int))=((n / k:Nat):Int):=fun k=>by
  have e:((n:Int).tdiv (k:Int))=((n / k:Nat):Int):=rfl
  rw [e]
  have:=Nat.div_le_self n k
  generalize n / k=q at *
  exact kp (by omega) (by omega)
 have w1:IntKind.i64.wrap ((n:Int).tdiv 4096)=((n / 4096:Nat):Int):=w 4096
 have w2:IntKind.i64.wrap ((n:Int).tdiv 256)=((n / 256:Nat):Int):=w 256
 have w3:IntKind.i64.wrap ((n:Int).tdiv 16)=((n / 16:Nat):Int):=w 16
 have t:∀ k:Nat,((k:Int).tmod 16)=((k % 16:Nat):Int):=fun k=>rfl
 have b:∀ k:Nat,(0 ≤ ((k % 16:Nat):Int) ∧ ((k % 16:Nat):Int) < (([48,49,50,51,52,53,54,55,56,57,97,98,99,100,101,102]:List UInt8).length:Int))=True:=fun k=>by
  simp only [j4,j6,eq_iff_iff,iff_true]
  omega
 have h0:n / 4096 % 16=0:=by omega
 have h1:n / 256 % 16=0:=by omega
 have h2:n / 16 % 16=n / 16:=by omega
 simp only [j2H,jr,zi,w1,w2,w3,t,b,if_true,show ¬ (4096:Int)=0 by decide,show ¬ (256:Int)=0 by decide,show ¬ (16:Int)=0 by decide,if_false,j7,h0,h1,h2]
 have b0:(0 ≤ ((0:Nat):Int) ∧ ((0:Nat):Int) < (([48,49,50,51,52,53,54,55,56,57,97,98,99,100,101,102]:List UInt8).length:Int))=True:=b 0
 have b1:(0 ≤ ((n / 16:Nat):Int) ∧ ((n / 16:Nat):Int) < (([48,49,50,51,52,53,54,55,56,57,97,98,99,100,101,102]:List UInt8).length:Int))=True:=by
  have:=b (n / 16)
  rw [h2] at this
  exact this
 simp only [b0,b1,if_true]
 have hh:∀ k:Nat,UInt8.ofNat (((jjR.getD k 0).toNat:Int)).toNat=hx k:=fun k=>by
  rw [j7]
  exact UInt8.ofNat_toNat
 show Out.ret [DC.s [UInt8.ofNat _,UInt8.ofNat _,UInt8.ofNat _,UInt8.ofNat _]]=_
 have e:=hh (n / 16)
 have e':=hh (n % 16)
 unfold jjR at e e'
 simp only [jr,zi,e,e']
 rfl
theorem jbb (s:List UInt8) (i:Nat) (hi:i < s.length):(s.take (i + 1)).drop i=[s.getD i 0]:=by
 rw [List.drop_take,show i + 1 - i=1 by omega,List.drop_eq_getElem_cons hi,List.take_succ_cons,List.take_zero,List.getD_eq_getElem?_getD,List.getElem?_eq_getElem hi]
 rfl
theorem j56 (s out:List UInt8) (i:Nat) (hs:s.length ≤ 200) (hi:i < s.length) (ho:out.length ≤ 2000) :
  yv [.s s,.s out,.i (i:Int)] = .norm [.s s,.s (out ++ esc (s.getD i 0)),.i ((i + 1:Nat):Int)]:=by
 have e1:decide ((i:Int) < (s.length:Int))=true:=decide_eq_true (by omega)
 have e2:0 ≤ (i:Int) ∧ (i:Int) < (s.length:Int):=by omega
 have w:=jp hi (show s.length ≤ 9223372036854775807 by omega)
 have e3:0 ≤ (i:Int) ∧ (i:Int) ≤ ((i + 1:Nat):Int) ∧ ((i + 1:Nat):Int) ≤ (s.length:Int):=by omega
 have L:∀ k,k ≤ 2010 → k < jF:=fun k hk=>Nat.lt_of_le_of_lt hk (by decide)
 have td:=jbb s i hi
 have hb:=(s.getD i 0).toNat_lt
 simp only [yv,jr,jv,zb,zi,zs,e1,e2,if_true,and_self,decide_true,j7,w,e3,td]
 generalize s.getD i 0=b at *
 have u34:((b.toNat:Int) == 34)=(b == 34):=zK b 34 (by omega)
 have u92:((b.toNat:Int) == 92)=(b == 92):=zK b 92 (by omega)
 have u8':((b.toNat:Int) == 8)=(b == 8):=zK b 8 (by omega)
 have u9:((b.toNat:Int) == 9)=(b == 9):=zK b 9 (by omega)
 have u10:((b.toNat:Int) == 10)=(b == 10):=zK b 10 (by omega)
 have u12:((b.toNat:Int) == 12)=(b == 12):=zK b 12 (by omega)
 have u13:((b.toNat:Int) == 13)=(b == 13):=zK b 13 (by omega)
 have u127:((b.toNat:Int) == 127)=(b == 127):=zK b 127 (by omega)
 have wb:IntKind.i64.wrap (b.toNat:Int)=(b.toNat:Int):=kp (by omega) (by omega)
 have u32:decide ((b.toNat:Int) < 32)=decide (b.toNat < 32):=by rw [Bool.eq_iff_iff,decide_eq_true_eq,decide_eq_true_eq]; omega
 have l1:∀ x y:UInt8,out.length + [x,y].length < jF:=fun x y=>L _ (by simp; omega)
 have l2:∀ x:UInt8,out.length + [x].length < jF:=fun x=>L _ (by simp; omega)
 have l3:∀ x y:UInt8,(out ++ [x]).length + [y].length < jF:=fun x y=>L _ (by simp; omega)
 have l4:∀ x y a b c d:UInt8,(out ++ [x,y]).length + [a,b,c,d].length < jF:=fun x y a b c d=>L _ (by simp; omega)
 simp only [u34,u92,u8',u9,u10,u12,u13,u127,u32,wb]
 unfold esc
 cases h34:b == 34 with
 | true =>
  rw [beq_iff_eq] at h34
  subst h34
  simp only [if_true,j8,j9,jr,jv,zb,zi,zs,l2,l3,e3,and_self,w,td,j7,jO,jU,beq_self_eq_true]
 | false =>
 cases h92:b == 92 with
 | true =>
  rw [beq_iff_eq] at h92
  subst h92
  simp only [show ((92:UInt8) == 34)=false from rfl,if_true,zf,if_false,j8,j9,jr,jv,zb,zi,zs,l1,l2,l3,l4,e3,and_self,w,td,j7,jO,jU,jN,jy,beq_self_eq_true,u34,u92,u8',u9,u10,u12,u13,u127,u32,wb]
 | false =>
 cases h8:b == 8 with
 | true =>
  simp only [decide_true,decide_false,h34,h92,h8,if_true,zf,if_false,j8,j9,jr,jv,zb,zi,zs,l1,l2,l3,l4,e3,and_self,w,td,j7,jO,jU,jN,jy,beq_self_eq_true,u34,u92,u8',u9,u10,u12,u13,u127,u32,wb]
 | false =>
 cases h9:b == 9 with
 | true =>
  simp only [decide_true,decide_false,h34,h92,h8,h9,if_true,zf,if_false,j8,j9,jr,jv,zb,zi,zs,l1,l2,l3,l4,e3,and_self,w,td,j7,jO,jU,jN,jy,beq_self_eq_true,u34,u92,u8',u9,u10,u12,u13,u127,u32,wb]
 | false =>
 cases h10:b == 10 with
 | true =>
  simp only [decide_true,decide_false,h34,h92,h8,h9,h10,if_true,zf,if_false,j8,j9,jr,jv,zb,zi,zs,l1,l2,l3,l4,e3,and_self,w,td,j7,jO,jU,jN,jy,beq_self_eq_true,u34,u92,u8',u9,u10,u12,u13,u127,u32,wb]
 | false =>
 cases h12:b == 12 with
 | true =>
  simp only [decide_true,decide_false,h34,h92,h8,h9,h10,h12,if_true,zf,if_false,j8,j9,jr,jv,zb,zi,zs,l1,l2,l3,l4,e3,and_self,w,td,j7,jO,jU,jN,jy,beq_self_eq_true,u34,u92,u8',u9,u10,u12,u13,u127,u32,wb]
 | false =>
 cases h13:b == 13 with
 | true =>
  simp only [decide_true,decide_false,h34,h92,h8,h9,h10,h12,h13,if_true,zf,if_false,j8,j9,jr,jv,zb,zi,zs,l1,l2,l3,l4,e3,and_self,w,td,j7,jO,jU,jN,jy,beq_self_eq_true,u34,u92,u8',u9,u10,u12,u13,u127,u32,wb]
 | false =>
 by_cases h32:b.toNat < 32
 ·have d:decide (b.toNat < 32)=true:=decide_eq_true h32
  simp only [decide_true,decide_false,h34,h92,h8,h9,h10,h12,h13,d,h32,true_or,j52 _ hb,zr,if_true,zf,if_false,j8,j9,jr,jv,zb,zi,zs,l1,l2,l3,l4,e3,and_self,w,td,j7,jO,jU,jN,jy,beq_self_eq_true,u34,u92,u8',u9,u10,u12,u13,u127,u32,wb]
 ·have d:decide (b.toNat < 32)=false:=decide_eq_false h32
  cases h127:b == 127 with
  | true =>
   simp only [decide_true,decide_false,h34,h92,h8,h9,h10,h12,h13,d,h32,h127,or_true,j52 _ hb,zr,if_true,zf,if_false,j8,j9,jr,jv,zb,zi,zs,l1,l2,l3,l4,e3,and_self,w,td,j7,jO,jU,jN,jy,beq_self_eq_true,u34,u92,u8',u9,u10,u12,u13,u127,u32,wb]
  | false =>
   simp only [decide_true,decide_false,h34,h92,h8,h9,h10,h12,h13,d,h32,h127,or_self,if_true,zf,if_false,j8,j9,jr,jv,zb,zi,zs,l1,l2,l3,l4,e3,and_self,w,td,j7,jO,jU,jN,jy,beq_self_eq_true,u34,u92,u8',u9,u10,u12,u13,u127,u32,wb]
theorem Ku (s:List UInt8) (hs:s.length ≤ 1048576):qW [.s s] = .ret [.s (qJ s)]:=by
 rw [j8u]
 simp only [j2L,jr,jv,zb,zi,zs,jeh s hs,zr]
 cases hv:Lib.validD s with
 | false =>
  have he:qJ s=[]:=by unfold qJ; rw [if_neg (by rw [hv]; simp)]
  rw [he]
  simp
 | true =>
  rcases jA 200 s.length with h | h
  ·have e:decide ((s.length:Int) > 200)=true:=decide_eq_true (by omega)
   have he:qJ s=[]:=by unfold qJ; rw [if_neg (by omega)]
   rw [he]
   simp only [e,jh,zf,if_false,if_true,j8,jr,jv,zb]
  ·have e:decide ((s.length:Int) > 200)=false:=decide_eq_false (by omega)
   have he:qJ s=34 :: (j0w s ++ [34]):=by unfold qJ; rw [if_pos ⟨hv,h⟩]
   rw [he]
   simp only [e,jh,zf,if_false,if_true,j8,jr,jv,zb,zs]
   have key:=JP (F:=yv) (st:=fun i=>[.s s,.s (34 :: j0w (s.take i)),.i (i:Int)]) (o:=.ex 0 [.s (34 :: j0w s)]) s.length 0 (fun j _ hj=>?step) ?fin
   ·have k2:jR yv [.s s,.s [34],.i 0] = .ex 0 [.s (34 :: j0w s)]:=key
    have hl:=j0v s
    have L:(34 :: j0w s).length + [(34:UInt8)].length < jF:=Nat.lt_of_le_of_lt (show _ ≤ 2010 by simp; omega) (by decide)
    rw [k2]
    simp only [jc,if_true,jr,zs,L,jN]
   case step =>
    have hj':j < s.length:=by omega
    have hl:=j0v (s.take j)
    rw [List.length_take] at hl
    rw [j56 s _ j h hj' (by simp; omega)]
    congr 4
    rw [List.take_succ_eq_append_getElem hj',j0w,j0w,List.flatMap_append,List.flatMap_singleton,List.getD_eq_getElem?_getD,List.getElem?_eq_getElem hj']
    rfl
   case fin =>
    have e:decide ((s.length:Int) < (s.length:Int))=false:=decide_eq_false (by omega)
    rw [Nat.zero_add]
    refine qL ?_
    simp only [yv,jr,jv,zi,zs,e,zf,if_false,List.take_length]
def jx (l:List UInt8):List (List DC):=l.map fun x=>[.i (x.toNat:Int)]
theorem j7t (l m:List UInt8):jx (l ++ m)=jx l ++ jx m:=List.map_append
theorem jf (l:List UInt8):(jx l).length=l.length:=zm _
theorem zy:∀ l:List UInt8,pL (jx l)=l
 | []=>rfl
 | x :: l=>by
  have:=zy l
  unfold pL jx at *
  rw [jL,jL,this]
  congr 1
  show UInt8.ofNat ((x.toNat:Int)).toNat=x
  rw [j7]
  exact UInt8.ofNat_toNat
theorem strings_IndexByte (l:List UInt8) (b:UInt8):Q1 [.s l,.i (b.toNat:Int)] = .ret [.i (Lib.indexByte l b)]:=by
 rw [j2A]
 simp only [Ye,jr,jv,zb,zi,zs]
 rw [QX]
 have:qy [.s l,.i (b.toNat:Int)] = .ret [.i (Lib.indexByte l ((b.toNat:Int)).toNat.toUInt8)]:=by
  unfold qy KZ
  have hh:Yt [.s,.i .u8] ph=true:=rfl
  have hq:YU [.s l,.i (b.toNat:Int)]=some [.i (Lib.indexByte l ((b.toNat:Int)).toNat.toUInt8)]:=rfl
  rw [hh,hq]
  rfl
 have hb:((b.toNat:Int)).toNat.toUInt8=b:=by simp
 rw [this,hb]
 rfl
theorem j5r (s out:List UInt8) (i:Nat) (hs:s.length ≤ 200) (hi:i < s.length) (ho:out.length ≤ 2000) :
  yw [.s s,.sl (jx out),.i (s.length:Int),.i (i:Int)] = .norm [.s s,.sl (jx (out ++ esc (s.getD i 0))),.i (s.length:Int),.i ((i + 1:Nat):Int)]:=by
 have e1:decide ((i:Int) < (s.length:Int))=true:=decide_eq_true (by omega)
 have e2:0 ≤ (i:Int) ∧ (i:Int) < (s.length:Int):=by omega
 have w:=jp hi (show s.length ≤ 9223372036854775807 by omega)
 have L:∀ k,k ≤ 2010 → k < jF:=fun k hk=>Nat.lt_of_le_of_lt hk (by decide)
 have hb:=(s.getD i 0).toNat_lt
 rw [j7t]
 simp only [yw,jr,jv,zb,zi,zs,zl,e1,e2,if_true,and_self,decide_true,j7,w,strings_IndexByte,zr]
 generalize s.getD i 0=b at *
 have u127:((b.toNat:Int) == 127)=(b == 127):=zK b 127 (by omega)
 have u32:decide ((b.toNat:Int) < 32)=decide (b.toNat < 32):=by rw [Bool.eq_iff_iff,decide_eq_true_eq,decide_eq_true_eq]; omega
 have l1:∀ x:List DC,(jx out).length + [x].length < jF:=fun x=>L _ (by rw [jf]; simp; omega)
 have l2:∀ x y:List DC,(jx out).length + [x,y].length < jF:=fun x y=>L _ (by rw [jf]; simp; omega)
 have l6:∀ x y z u v q:List DC,(jx out).length + [x,y,z,u,v,q].length < jF:=fun x y z u v q=>L _ (by rw [jf]; simp; omega)
 unfold esc
 cases h34:b == 34 with
 | true =>
  rw [beq_iff_eq] at h34
  subst h34
  have g0:Lib.indexByte [34,92,8,9,10,12,13] 34=0:=by decide
  have g1:decide ((0:Int) ≥ 0)=true:=rfl
  have g2:(0 ≤ (0:Int) ∧ (0:Int) < (([34,92,98,116,110,102,114]:List UInt8).length:Int))=True:=by simp
  have g3:([34,92,98,116,110,102,114]:List UInt8).getD (0:Int).toNat 0=34:=rfl
  simp only [g0,g1,g2,g3,if_true,zf,if_false,j8,j9,jr,jv,zb,zi,zs,zl,l1,l2,l6,and_self,w,j7]
  rfl
 | false =>
 cases h92:b == 92 with
 | true =>
  rw [beq_iff_eq] at h92
  subst h92
  have g0:Lib.indexByte [34,92,8,9,10,12,13] 92=1:=by decide
  have g1:decide ((1:Int) ≥ 0)=true:=rfl
  have g2:(0 ≤ (1:Int) ∧ (1:Int) < (([34,92,98,116,110,102,114]:List UInt8).length:Int))=True:=by simp
  have g3:([34,92,98,116,110,102,114]:List UInt8).getD (1:Int).toNat 0=92:=rfl
  simp only [g0,g1,g2,g3,if_true,zf,if_false,j8,j9,jr,jv,zb,zi,zs,zl,l1,l2,l6,and_self,w,j7,h34]
  rfl
 | false =>
 cases h8:b == 8 with
 | true =>
  rw [beq_iff_eq] at h8
  subst h8
  have g0:Lib.indexByte [34,92,8,9,10,12,13] 8=2:=by decide
  have g1:decide ((2:Int) ≥ 0)=true:=rfl
  have g2:(0 ≤ (2:Int) ∧ (2:Int) < (([34,92,98,116,110,102,114]:List UInt8).length:Int))=True:=by simp
  have g3:([34,92,98,116,110,102,114]:List UInt8).getD (2:Int).toNat 0=98:=rfl
  simp only [g0,g1,g2,g3,if_true,zf,if_false,j8,j9,jr,jv,zb,zi,zs,zl,l1,l2,l6,and_self,w,j7,h34,h92]
  rfl
 | false =>
 cases h9:b == 9 with
 | true =>
  rw [beq_iff_eq] at h9
  subst h9
  have g0:Lib.indexByte [34,92,8,9,10,12,13] 9=3:=by decide
  have g1:decide ((3:Int) ≥ 0)=true:=rfl
  have g2:(0 ≤ (3:Int) ∧ (3:Int) < (([34,92,98,116,110,102,114]:List UInt8).length:Int))=True:=by simp
  have g3:([34,92,98,116,110,102,114]:List UInt8).getD (3:Int).toNat 0=116:=rfl
  simp only [g0,g1,g2,g3,if_true,zf,if_false,j8,j9,jr,jv,zb,zi,zs,zl,l1,l2,l6,and_self,w,j7,h34,h92,h8]
  rfl
 | false =>
 cases h10:b == 10 with
 | true =>
  rw [beq_iff_eq] at h10
  subst h10
  have g0:Lib.indexByte [34,92,8,9,10,12,13] 10=4:=by decide
  have g1:decide ((4:Int) ≥ 0)=true:=rfl
  have g2:(0 ≤ (4:Int) ∧ (4:Int) < (([34,92,98,116,110,102,114]:List UInt8).length:Int))=True:=by simp
  have g3:([34,92,98,116,110,102,114]:List UInt8).getD (4:Int).toNat 0=110:=rfl
  simp only [g0,g1,g2,g3,if_true,zf,if_false,j8,j9,jr,jv,zb,zi,zs,zl,l1,l2,l6,and_self,w,j7,h34,h92,h8,h9]
  rfl
 | false =>
 cases h12:b == 12 with
 | true =>
  rw [beq_iff_eq] at h12
  subst h12
  have g0:Lib.indexByte [34,92,8,9,10,12,13] 12=5:=by decide
  have g1:decide ((5:Int) ≥ 0)=true:=rfl
  have g2:(0 ≤ (5:Int) ∧ (5:Int) < (([34,92,98,116,110,102,114]:List UInt8).length:Int))=True:=by simp
  have g3:([34,92,98,116,110,102,114]:List UInt8).getD (5:Int).toNat 0=102:=rfl
  simp only [g0,g1,g2,g3,if_true,zf,if_false,j8,j9,jr,jv,zb,zi,zs,zl,l1,l2,l6,and_self,w,j7,h34,h92,h8,h9,h10]
  rfl
 | false =>
 cases h13:b == 13 with
 | true =>
  rw [beq_iff_eq] at h13
  subst h13
  have g0:Lib.indexByte [34,92,8,9,10,12,13] 13=6:=by decide
  have g1:decide ((6:Int) ≥ 0)=true:=rfl
  have g2:(0 ≤ (6:Int) ∧ (6:Int) < (([34,92,98,116,110,102,114]:List UInt8).length:Int))=True:=by simp
  have g3:([34,92,98,116,110,102,114]:List UInt8).getD (6:Int).toNat 0=114:=rfl
  simp only [g0,g1,g2,g3,if_true,zf,if_false,j8,j9,jr,jv,zb,zi,zs,zl,l1,l2,l6,and_self,w,j7,h34,h92,h8,h9,h10,h12]
  rfl
 | false =>
 have cm:∀ c:UInt8,(c == b)=(b == c):=fun c=>by rw [Bool.eq_iff_iff,beq_iff_eq,beq_iff_eq]; exact ⟨Eq.symm,Eq.symm⟩
 have g0:Lib.indexByte [34,92,8,9,10,12,13] b = -1:=by
  simp only [Lib.indexByte,cm,h34,h92,h8,h9,h10,h12,h13,zf,if_false,beq_self_eq_true,if_true]
 have g1:decide ((-1:Int) ≥ 0)=false:=rfl
 have q1:=jmE ⟨b.toNat,hb⟩
 have q2:=jmx ⟨b.toNat,hb⟩
 have q3:(0 ≤ ((b.toNat / 16:Nat):Int) ∧ ((b.toNat / 16:Nat):Int) < (([48,49,50,51,52,53,54,55,56,57,97,98,99,100,101,102]:List UInt8).length:Int))=True:=by
  simp only [j4,j6,eq_iff_iff,iff_true]
  omega
 have q4:(0 ≤ ((b.toNat % 16:Nat):Int) ∧ ((b.toNat % 16:Nat):Int) < (([48,49,50,51,52,53,54,55,56,57,97,98,99,100,101,102]:List UInt8).length:Int))=True:=by
  simp only [j4,j6,eq_iff_iff,iff_true]
  omega
 have q5:¬ (4:Int) < 0:=by decide
 by_cases h32:b.toNat < 32
 ·have d:decide (b.toNat < 32)=true:=decide_eq_true h32
  simp only [g0,g1,u32,d,h32,decide_true,true_or,q1,q2,q3,q4,q5,h34,h92,h8,h9,h10,h12,h13,if_true,zf,if_false,j8,j9,jr,jv,zb,zi,zs,zl,l1,l2,l6,and_self,w,j7]
  rfl
 ·have d:decide (b.toNat < 32)=false:=decide_eq_false h32
  cases h127:b == 127 with
  | true =>
   simp only [g0,g1,u32,u127,d,h32,h127,decide_false,or_true,q1,q2,q3,q4,q5,h34,h92,h8,h9,h10,h12,h13,if_true,zf,if_false,j8,j9,jr,jv,zb,zi,zs,zl,l1,l2,l6,and_self,w,j7]
   rfl
  | false =>
   simp only [g0,g1,u32,u127,d,h32,h127,decide_false,or_self,h34,h92,h8,h9,h10,h12,h13,if_true,zf,if_false,j8,j9,jr,jv,zb,zi,zs,zl,l1,l2,l6,and_self,w,j7]
   rfl
theorem KS (s:List UInt8) (hs:s.length ≤ 1048576):yC [.s s] = .ret [.s (qJ s)]:=by
 rw [j8Q]
 simp only [j32,jr,jv,zb,zi,zs,jeL s hs,zr]
 cases hv:Lib.validD s with
 | false =>
  have he:qJ s=[]:=by unfold qJ; rw [if_neg (by rw [hv]; simp)]
  rw [he]
  simp
 | true =>
  rcases jA 200 s.length with h | h
  ·have e:decide ((s.length:Int) > 200)=true:=decide_eq_true (by omega)
   have he:qJ s=[]:=by unfold qJ; rw [if_neg (by omega)]
   rw [he]
   simp only [e,jh,zf,if_false,if_true,j8,jr,jv,zb]
  ·have e:decide ((s.length:Int) > 200)=false:=decide_eq_false (by omega)
   have he:qJ s=34 :: (j0w s ++ [34]):=by unfold qJ; rw [if_pos ⟨hv,h⟩]
   rw [he]
   simp only [e,jh,zf,if_false,if_true,j8,jr,jv,zb,zs]
   have key:=JP (F:=yw) (st:=fun i=>[.s s,.sl (jx (34 :: j0w (s.take i))),.i (s.length:Int),.i (i:Int)]) (o:=.ex 0 [.sl (jx (34 :: j0w s))]) s.length 0 (fun j _ hj=>?step) ?fin
   ·have k2:jR yw [.s s,.sl [[.i 34]],.i (s.length:Int),.i 0] = .ex 0 [.sl (jx (34 :: j0w s))]:=key
    have hl:=j0v s
    have L:(jx (34 :: j0w s)).length + [[DC.i (34:Int)]].length < jF:=Nat.lt_of_le_of_lt (show _ ≤ 2010 by rw [jf]; simp; omega) (by decide)
    rw [k2]
    simp only [jc,if_true,jr,zl,L]
    have:jx (34 :: j0w s) ++ [[DC.i (34:Int)]]=jx (34 :: (j0w s ++ [34])):=(j7t (34 :: j0w s) [34]).symm
    rw [this,zy]
   case step =>
    have hj':j < s.length:=by omega
    have hl:=j0v (s.take j)
    rw [List.length_take] at hl
    rw [j5r s _ j h hj' (by simp; omega)]
    congr 5
    rw [List.take_succ_eq_append_getElem hj',j0w,j0w,List.flatMap_append,List.flatMap_singleton,List.getD_eq_getElem?_getD,List.getElem?_eq_getElem hj']
    rfl
   case fin =>
    have e:decide ((s.length:Int) < (s.length:Int))=false:=decide_eq_false (by omega)
    rw [Nat.zero_add]
    refine qL ?_
    simp only [yw,jr,jv,zi,zs,zl,e,zf,if_false,List.take_length]
def jg2 (b:UInt8):Bool:=(decide (97 ≤ b.toNat) && decide (b.toNat ≤ 122)) || (decide (65 ≤ b.toNat) && decide (b.toNat ≤ 90))
def nmC (b:UInt8):Bool:=jg2 b || (qQ b || b == 95)
theorem j9q (b:UInt8):VU [.i (b.toNat:Int)] = .ret [.b (jg2 b || b == 95)]:=by
 rw [j5x]
 have u:((b.toNat:Int) == 95)=(b == 95):=zK b 95 (by omega)
 have a1:decide ((b.toNat:Int) ≥ 97)=decide (97 ≤ b.toNat):=by rw [Bool.eq_iff_iff,decide_eq_true_eq,decide_eq_true_eq]; omega
 have a2:decide ((b.toNat:Int) ≤ 122)=decide (b.toNat ≤ 122):=by rw [Bool.eq_iff_iff,decide_eq_true_eq,decide_eq_true_eq]; omega
 have a3:decide ((b.toNat:Int) ≥ 65)=decide (65 ≤ b.toNat):=by rw [Bool.eq_iff_iff,decide_eq_true_eq,decide_eq_true_eq]; omega
 have a4:decide ((b.toNat:Int) ≤ 90)=decide (b.toNat ≤ 90):=by rw [Bool.eq_iff_iff,decide_eq_true_eq,decide_eq_true_eq]; omega
 simp only [j0G,jr,zi,u,a1,a2,a3,a4,jg2]
 cases decide (97 ≤ b.toNat) <;> cases decide (b.toNat ≤ 122) <;> cases decide (65 ≤ b.toNat) <;> cases decide (b.toNat ≤ 90) <;> rfl
theorem jbt (b:UInt8):XR [.i (b.toNat:Int)] = .ret [.b (jg2 b)]:=by
 rw [j7a]
 have a1:decide ((b.toNat:Int) ≥ 97)=decide (97 ≤ b.toNat):=by rw [Bool.eq_iff_iff,decide_eq_true_eq,decide_eq_true_eq]; omega
 have a2:decide ((b.toNat:Int) ≤ 122)=decide (b.toNat ≤ 122):=by rw [Bool.eq_iff_iff,decide_eq_true_eq,decide_eq_true_eq]; omega
 have a3:decide ((b.toNat:Int) ≥ 65)=decide (65 ≤ b.toNat):=by rw [Bool.eq_iff_iff,decide_eq_true_eq,decide_eq_true_eq]; omega
 have a4:decide ((b.toNat:Int) ≤ 90)=decide (b.toNat ≤ 90):=by rw [Bool.eq_iff_iff,decide_eq_true_eq,decide_eq_true_eq]; omega
 simp only [j1V,jr,zi,a1,a2,a3,a4,jg2]
 cases decide (97 ≤ b.toNat) <;> cases decide (b.toNat ≤ 122) <;> cases decide (65 ≤ b.toNat) <;> cases decide (b.toNat ≤ 90) <;> rfl
theorem jeJ (b:UInt8):j06 [.i (b.toNat:Int)] = .ret [.b (nmC b)]:=by
 rw [jaE]
 have u:((b.toNat:Int) == 95)=(b == 95):=zK b 95 (by omega)
 simp only [j4k,jr,zi,u,jbt,j0d,zr,zb,nmC]
 cases jg2 b <;> cases qQ b <;> simp
theorem j1p (n a b:Int):YA [.i n,.i a,.i b] = .ret [.b (decide (a ≤ n) && decide (n ≤ b))]:=by
 rw [jgf]
 simp only [jcL,jr,jv,zb,zi]
 by_cases h:a ≤ n
 ·have:decide (n ≥ a)=true:=decide_eq_true h
  simp [this,h]
 ·have:decide (n ≥ a)=false:=decide_eq_false h
  simp [this,h]
def jX (s:List UInt8):Bool:=decide (0 < s.length) && (decide (s.length ≤ 30) && (!qQ (s.getD 0 0) && s.all nmC))
theorem kQ (s:List UInt8) (hs:s.length ≤ 1048576):kg [.s s] = .ret [.b (jX s)]:=by
 rw [jad]
 have hl:jR Qx [.s s,.i 0]=if (s.any fun x=>!nmC x)=true then .ret [.b false] else .ex 0 []:=by
  rw [show (0:Int)=((0:Nat):Int) from rfl,kb (l:=s) (st:=fun i=>[.s s,.i (i:Int)]) (p:=fun x=>!nmC x) (stop:=fun i _=>.ret [.b false]) (fin:=.ex 0 []) (fun i hi=>?step) (fun _ _=>Out.esc_ret _) ?fin (jG _ _),qU]
  case step =>
   have hg:s.getD i 0=s[i]:=by rw [List.getD_eq_getElem?_getD,List.getElem?_eq_getElem hi]; rfl
   have d:decide ((i:Int) < (s.length:Int))=true:=decide_eq_true (by omega)
   have c:0 ≤ (i:Int) ∧ (i:Int) < (s.length:Int):=by omega
   simp only [Qx,jr,jv,zb,zi,zs,j7,hg,d,c,if_true,and_self,decide_true,j9q,YI,zr]
   rcases zt (jg2 s[i]) with h1 | h1 <;> rcases zt (s[i] == 95) with h2 | h2 <;> rcases zt (qQ s[i]) with h3 | h3 <;> simp [nmC,h1,h2,h3,jp hi (show s.length ≤ 9223372036854775807 by omega)]
  case fin=>simp [Qx]
 rw [show (s.any fun x=>!nmC x) = !(s.all nmC) by rw [js]] at hl
 unfold jX
 cases s with
 | nil=>simp [j0j]
 | cons a l =>
  have hz:(((a :: l).length:Int) == 0)=false:=beq_eq_false_iff_ne.2 (by rw [j4]; omega)
  have h0:0 ≤ (0:Int) ∧ (0:Int) < ((a :: l).length:Int):=by simp
  have hg:(a :: l).getD (0:Int).toNat 0=a:=rfl
  have hp:decide (0 < (a :: l).length)=true:=by simp
  have hd:decide (((a :: l).length:Int) > 30) = !decide ((a :: l).length ≤ 30):=by
   rw [Bool.eq_iff_iff,Bool.not_eq_true',decide_eq_true_eq,decide_eq_false_iff_not]; omega
  have hg2:(a :: l).getD 0 0=a:=rfl
  simp only [j0j,jr,jv,zb,zi,zs,hz,h0,hg,hp,hd,YI,zr,zf,if_false,if_true,and_self,jC]
  generalize (a :: l).all nmC=q at *
  cases decide ((a :: l).length ≤ 30) with
  | false=>simp
  | true =>
   cases qQ a with
   | true=>simp
   | false =>
    simp only [jh,zf,if_false,j8,jr,jv,zb,zs,hl]
    cases q <;> simp
theorem kR (s:List UInt8) (hs:s.length ≤ 1048576):ki [.s s] = .ret [.b (jX s)]:=by
 rw [jaM]
 have hl:jR Qy [.s s,.i (s.length:Int),.i 0]=if (s.any fun x=>!nmC x)=true then .ret [.b false] else .ex 0 []:=by
  rw [show (0:Int)=((0:Nat):Int) from rfl,kb (l:=s) (st:=fun i=>[.s s,.i (s.length:Int),.i (i:Int)]) (p:=fun x=>!nmC x) (stop:=fun i _=>.ret [.b false]) (fin:=.ex 0 []) (fun i hi=>?step) (fun _ _=>Out.esc_ret _) ?fin (jG _ _),qU]
  case step =>
   have hg:s.getD i 0=s[i]:=by rw [List.getD_eq_getElem?_getD,List.getElem?_eq_getElem hi]; rfl
   have d:decide ((i:Int) < (s.length:Int))=true:=decide_eq_true (by omega)
   have c:0 ≤ (i:Int) ∧ (i:Int) < (s.length:Int):=by omega
   simp only [Qy,jr,jv,zb,zi,zs,j7,hg,d,c,if_true,and_self,decide_true,jeJ,zr]
   cases nmC s[i] <;> simp [jp hi (show s.length ≤ 9223372036854775807 by omega)]
  case fin=>simp [Qy]
 rw [show (s.any fun x=>!nmC x) = !(s.all nmC) by rw [js]] at hl
 unfold jX
 cases s with
 | nil =>
  simp only [j0l,jr,zs,j1p]
  simp
 | cons a l =>
  have h0:0 ≤ (0:Int) ∧ (0:Int) < ((a :: l).length:Int):=by simp
  have hg:(a :: l).getD (0:Int).toNat 0=a:=rfl
  have hp:decide (0 < (a :: l).length)=true:=by simp
  have hp2:decide ((1:Int) ≤ ((a :: l).length:Int))=true:=decide_eq_true (by rw [j4]; omega)
  have hd:decide (((a :: l).length:Int) ≤ 30)=decide ((a :: l).length ≤ 30):=by
   rw [Bool.eq_iff_iff,decide_eq_true_eq,decide_eq_true_eq]; omega
  have hg2:(a :: l).getD 0 0=a:=rfl
  simp only [j0l,jr,jv,zb,zi,zs,j1p,h0,hg,hp,hp2,hd,j0d,zr,zf,if_false,if_true,and_self,jC]
  generalize (a :: l).all nmC=q at *
  cases decide ((a :: l).length ≤ 30) with
  | false=>simp
  | true =>
   cases qQ a with
   | true=>simp
   | false =>
    simp only [jh,zf,if_false,j8,jr,jv,zb,zs,hl]
    cases q <;> simp
def jfl (s:List UInt8):Bool:=s == [116,114,117,101] || (s == [102,97,108,115,101] || s == [110,117,108,108])
theorem jcd (s:List UInt8):Xw [.s s] = .ret [.b (jfl s)]:=by
 rw [jdz]
 simp only [j89,jr,zs,jfl]
 cases s == [116,114,117,101] <;> cases s == [102,97,108,115,101] <;> simp
theorem jcA (s:List UInt8):Xx [.s s] = .ret [.b (jfl s)]:=by
 rw [jdF]
 simp only [j8f,jr,zs,jfl]
 cases s == [116,114,117,101] <;> cases s == [102,97,108,115,101] <;> simp
def wr (c:UInt8):Bool:=c == 93 || c == 33
def adj:List UInt8 → Bool
 | []=>false
 | a :: l=>(a == 33 && l.head? == some 33) || adj l
def jcO (w:List UInt8):Bool:=w.all wr && !adj w
def yx (n w:List UInt8):Bool:=jX n && (decide (w.length ≤ 8) && jcO w)
theorem j60:∀ w:List UInt8,Lib.contains w [33,33]=adj w
 | []=>rfl
 | a :: l=>by
  have ih:=j60 l
  unfold Lib.contains at *
  rw [Lib.index,adj,← ih]
  have hp:[33,33].isPrefixOf (a :: l)=(a == 33 && l.head? == some 33):=by
   cases l with
   | nil=>simp [List.isPrefixOf]
   | cons b l =>
    simp only [List.isPrefixOf,jS,List.head?_cons]
    have cm:∀ c:UInt8,((33:UInt8) == c)=(c == 33):=fun c=>by rw [Bool.eq_iff_iff,beq_iff_eq,beq_iff_eq]; exact ⟨Eq.symm,Eq.symm⟩
    rw [cm,cm]
    rfl
  rw [hp]
  cases (a == 33 && l.head? == some 33) with
  | true=>simp
  | false =>
   simp only [zf,if_false,jW]
   have hge:=Lib.index_ge l [33,33]
   by_cases h:Lib.index l [33,33] = -1
   ·rw [h]; rfl
   ·rw [beq_eq_false_iff_ne.2 h]
    simp only [zf,if_false]
    rw [Bool.eq_iff_iff,decide_eq_true_eq,decide_eq_true_eq]
    omega
theorem jdL {f:UInt8 → Bool}:∀ {l:List UInt8},l.dropWhile f=[] ↔ l.all f=true
 | []=>by simp
 | x :: l=>by
  rw [List.dropWhile_cons,List.all_cons]
  cases hf:f x with
  | true=>simp [jdL (f:=f) (l:=l)]
  | false=>simp
theorem jhO (w:List UInt8):(Lib.trimS w [93,33] == [])=w.all wr:=by
 have hc:∀ c:UInt8,[93,33].contains c=wr c:=fun c=>by
  simp only [List.contains,List.elem,wr]
  cases c == 93 <;> cases c == 33 <;> rfl
 have hw:(fun c:UInt8=>[93,33].contains c)=wr:=funext hc
 rw [Bool.eq_iff_iff,beq_iff_eq]
 unfold Lib.trimS Lib.trimLeftS Lib.trimRightS
 rw [hw,jdL]
 constructor
 ·intro h
  have h2:w.reverse.dropWhile wr=[]:=by
   cases hd:w.reverse.dropWhile wr with
   | nil=>rfl
   | cons c r =>
    have h1:=j91 wr w.reverse c (by rw [hd]; rfl)
    rw [hd] at h
    have:=List.all_eq_true.1 h c (by simp)
    rw [h1] at this
    exact absurd this (by simp)
  have:=jdL.1 h2
  rw [List.all_eq_true] at this ⊢
  exact fun x hx=>this x (List.mem_reverse.2 hx)
 ·intro h
  have:w.reverse.dropWhile wr=[]:=jdL.2 (by
   rw [List.all_eq_true] at h ⊢
   exact fun x hx=>h x (List.mem_reverse.1 hx))
  rw [this]
  rfl
theorem Zv (n w:List UInt8) (hn:n.length ≤ 1048576) (hw:w.length ≤ 1048576):JN [.s n,.s w] = .ret [.b (yx n w)]:=by
 rw [jaH]
 have ht:YL [.s w,.s [93,33]] = .ret [.s (Lib.trimS w [93,33])]:=by
  rw [j8n]
  unfold j2F KZ
  have hh:Yt [.s,.s] Vt=true:=rfl
  have hq:jco [.s w,.s [93,33]]=some [.s (Lib.trimS w [93,33])]:=by
   unfold jco
   simp only
   rw [if_pos ⟨by omega,by decide,by decide⟩]
  rw [hh,hq]
  rfl
 have hc:QC [.s w,.s [33,33]] = .ret [.b (Lib.contains w [33,33])]:=by
  rw [j3m]
  unfold Z7 KZ
  have hh:Yt [.s,.s] Jn=true:=rfl
  have hq:YC [.s w,.s [33,33]]=some [.b (Lib.contains w [33,33])]:=by
   unfold YC
   simp only
   rw [if_pos (by omega)]
  rw [hh,hq]
  rfl
 have hd:decide ((w.length:Int) ≤ 8)=decide (w.length ≤ 8):=by rw [Bool.eq_iff_iff,decide_eq_true_eq,decide_eq_true_eq]; omega
 simp only [j4n,jr,jv,zb,zs,kR n hn,ht,hc,hd,zr,jhO,j60,yx,jcO]
 cases jX n <;> cases decide (w.length ≤ 8) <;> cases w.all wr <;> simp
def chk:UInt8 → List UInt8 → Bool
 | _,[]=>false
 | x,c :: w=>(!wr c || (c == 33 && x == 33)) || chk c w
theorem jiT:∀ (w:List UInt8) (x:UInt8),chk x w = !(w.all wr && !((x == 33 && w.head? == some 33) || adj w))
 | [],x=>by simp [chk,adj]
 | c :: w,x=>by
  rw [chk,jiT w c,List.all_cons,adj,List.head?_cons]
  have e:(some c == some (33:UInt8))=(c == 33):=rfl
  rw [e]
  cases wr c <;> cases c == 33 <;> cases x == 33 <;> cases w.all wr <;> cases w.head? == some 33 <;> cases adj w <;> rfl
theorem Zn (n w:List UInt8) (hn:n.length ≤ 1048576) (hw:w.length ≤ 1048576):JI [.s n,.s w] = .ret [.b (yx n w)]:=by
 rw [ja8]
 have hd:decide ((w.length:Int) > 8) = !decide (w.length ≤ 8):=by rw [Bool.eq_iff_iff,Bool.not_eq_true',decide_eq_true_eq,decide_eq_false_iff_not]; omega
 have hlp:jR Qw [.i 0,.s n,.s w]=if chk 0 w=true then .ret [.b false] else .ex 0 []:=by
  have hz:((0 :: w).zip w).length=w.length:=by rw [List.length_zip,j4]; omega
  rw [show (0:Int)=((0:Nat):Int) from rfl,kb (l:=(0 :: w).zip w) (st:=fun i=>[.i (i:Int),.s n,.s w]) (p:=fun x=>!wr x.2 || (x.2 == 33 && x.1 == 33)) (stop:=fun i _=>.ret [.b false]) (fin:=.ex 0 []) (fun i hi=>?step) (fun _ _=>Out.esc_ret _) ?fin (jG _ _),qU]
  ·have:∀ (w:List UInt8) (x:UInt8),((x :: w).zip w).any (fun x=>!wr x.2 || (x.2 == 33 && x.1 == 33))=chk x w:=by
    intro w
    induction w with
    | nil=>intro x; rfl
    | cons c w ih=>intro x; rw [List.zip_cons_cons,List.any_cons,ih c,chk]
   rw [this]
  case step =>
   have hi2:i < w.length:=by omega
   have hz1:((0 :: w).zip w)[i]=((0 :: w)[i]'(by rw [j4]; omega),w[i]):=List.getElem_zip
   have hg:w.getD i 0=w[i]:=by rw [List.getD_eq_getElem?_getD,List.getElem?_eq_getElem hi2]; rfl
   have d:decide ((i:Int) < (w.length:Int))=true:=decide_eq_true (by omega)
   have c:0 ≤ (i:Int) ∧ (i:Int) < (w.length:Int):=by omega
   have ws:=jp hi2 (show w.length ≤ 9223372036854775807 by omega)
   have u1:((w[i].toNat:Int) != 33) = !(w[i] == 33):=congrArg (!·) (zK w[i] 33 (by omega))
   have u2:((w[i].toNat:Int) != 93) = !(w[i] == 93):=congrArg (!·) (zK w[i] 93 (by omega))
   have u3:((w[i].toNat:Int) == 33)=(w[i] == 33):=zK w[i] 33 (by omega)
   rw [hz1]
   simp only [Qw,jr,jv,zb,zi,zs,j7,hg,d,c,ws,u1,u2,u3,if_true,and_self,decide_true,wr]
   by_cases h0:0 < i
   ·have dz:decide ((i:Int) > 0)=true:=decide_eq_true (by omega)
    have wz:IntKind.i64.wrap ((i:Int) - 1)=((i - 1:Nat):Int):=by rw [kp (by omega) (by omega)]; omega
    have c1:0 ≤ ((i - 1:Nat):Int) ∧ ((i - 1:Nat):Int) < (w.length:Int):=by omega
    have hp:(0 :: w)[i]'(by rw [j4]; omega)=w.getD (i - 1) 0:=by
     obtain ⟨k,rfl⟩:∃ k,i=k + 1:=⟨i - 1,by omega⟩
     rw [List.getElem_cons_succ,List.getD_eq_getElem?_getD,List.getElem?_eq_getElem (by omega)]
     rfl
    rw [hp]
    have u4:(((w.getD (i - 1) 0).toNat:Int) == 33)=(w.getD (i - 1) 0 == 33):=zK _ 33 (by omega)
    simp only [dz,wz,c1,u4,and_self,if_true,j7]
    rcases zt (w[i] == 33) with a1 | a1 <;> rcases zt (w[i] == 93) with a2 | a2 <;> rcases zt (w.getD (i - 1) 0 == 33) with a3 | a3 <;> simp only [a1,a2,a3,jh,jn,zf,if_true,if_false,j8,j9,jr,jv,zb,zi,zs,Bool.or_true,Bool.or_false,Bool.true_or,jW,jS,jT,jC,jP,ws] <;> rfl
   ·have h00:i=0:=by omega
    subst h00
    have dz:decide (((0:Nat):Int) > 0)=false:=by decide
    have hp:(0 :: w)[0]'(by simp)=0:=rfl
    rw [hp]
    have z3:((0:UInt8) == 33)=false:=rfl
    simp only [dz,zf,if_false,z3]
    rcases zt (w[0] == 33) with a1 | a1 <;> rcases zt (w[0] == 93) with a2 | a2 <;> simp only [a1,a2,jh,jn,zf,if_true,if_false,j8,j9,jr,jv,zb,zi,zs,Bool.or_true,Bool.or_false,Bool.true_or,jW,jS,jT,jC,jP,ws] <;> rfl
  case fin=>rw [hz]; simp [Qw]
 rw [jiT] at hlp
 have z3:((0:UInt8) == 33)=false:=rfl
 rw [z3] at hlp
 simp only [jP,jW] at hlp
 simp only [j3Q,jr,jv,zb,zs,kQ n hn,hd,zr,yx]
 unfold jcO
 generalize (w.all wr && !adj w)=q at *
 cases jX n with
 | false=>simp
 | true =>
  cases decide (w.length ≤ 8) with
  | false=>simp
  | true =>
   simp only [jh,zf,if_false,j8,jr,jv,zb,zs,hlp]
   cases q <;> simp
open Classical in
noncomputable def yN (room:Int) (v:TValue):Bool:=decide (ya [.i v.kind,.s v.text,.sl (v.items.map TValue.enc),.sl (v.names.map S1),.i room] = .ret [.b true])
def j3x (room:Int) (v:TValue):Prop:=ya [.i v.kind,.s v.text,.sl (v.items.map TValue.enc),.sl (v.names.map S1),.i room] = .ret [.b (yN room v)] ∧
 Ki [.i v.kind,.s v.text,.sl (v.items.map TValue.enc),.sl (v.names.map S1),.i room] = .ret [.b (yN room v)]
theorem j0r {room:Int} {v:TValue} (b:Bool) (h1:ya [.i v.kind,.s v.text,.sl (v.items.map TValue.enc),.sl (v.names.map S1),.i room] = .ret [.b b])
  (h2:Ki [.i v.kind,.s v.text,.sl (v.items.map TValue.enc),.sl (v.names.map S1),.i room] = .ret [.b b]):j3x room v:=by
 have:yN room v=b:=by
  unfold yN
  rw [h1]
  cases b <;> simp
 unfold j3x
 rw [this]
 exact ⟨h1,h2⟩
theorem jc3 (room K:Int) (hK:K ≠ 8) (T:List UInt8) (I:List TValue) (N:List (List DC)) (hI:I.length ≤ 1048576) (hr:0 < room) (hr2:room ≤ 10) (h:∀ x ∈ I,j3x (room - 1) x) :
  jR pj [.i room,.i 0,.i K,.s T,.sl (I.map TValue.enc),.sl N]=if I.all (yN (room - 1))=true then .ex 0 [] else .ret [.b false]:=by
 rw [show (0:Int)=((0:Nat):Int) from rfl,kb (l:=I) (st:=fun i=>[.i room,.i (i:Int),.i K,.s T,.sl (I.map TValue.enc),.sl N]) (p:=fun x=>!yN (room - 1) x) (stop:=fun i _=>.ret [.b false]) (fin:=.ex 0 []) (fun i hi=>?step) (fun _ _=>Out.esc_ret _) ?fin (jG _ _),qU]
 ·have e:(I.any fun x=>!yN (room - 1) x) = !(I.all (yN (room - 1))):=by rw [js]
  rw [e]
  cases I.all (yN (room - 1)) <;> simp
 case step =>
  have hx:=(h I[i] (je hi)).1
  have w:IntKind.i64.wrap (room - 1)=room - 1:=kp (by omega) (by omega)
  have hk:(K == 8)=false:=beq_eq_false_iff_ne.2 hK
  have c:0 ≤ (i:Int) ∧ (i:Int) < (I.length:Int):=by omega
  have d:decide ((i:Int) < (I.length:Int))=true:=decide_eq_true (by omega)
  simp only [pj,jr,jv,zb,zi,zs,zl,j7,zm,jq hi,TValue.enc_eq,hk,d,c,w,hx,zr,j8,true_and,and_self,zf,if_false,if_true,decide_true]
  cases yN (room - 1) I[i] <;> simp [jp hi (show I.length ≤ 9223372036854775807 by omega)]
 case fin=>simp [pj]
theorem jc2 (room:Int) (T:List UInt8) (I:List TValue) (N:List (List UInt8)) (hI:I.length ≤ 1048576) (hN:N.length=I.length) (hns:∀ n ∈ N,n.length ≤ 1048576) (hr:0 < room) (hr2:room ≤ 10) (h:∀ x ∈ I,j3x (room - 1) x) :
  jR pj [.i room,.i 0,.i 8,.s T,.sl (I.map TValue.enc),.sl (N.map S1)]=if (I.all (yN (room - 1)) && N.all jX)=true then .ex 0 [] else .ret [.b false]:=by
 have hzl:(I.zip N).length=I.length:=by rw [List.length_zip]; omega
 rw [show (0:Int)=((0:Nat):Int) from rfl,kb (l:=I.zip N) (st:=fun i=>[.i room,.i (i:Int),.i 8,.s T,.sl (I.map TValue.enc),.sl (N.map S1)]) (p:=fun x=>!jX x.2 || !yN (room - 1) x.1) (stop:=fun i _=>.ret [.b false]) (fin:=.ex 0 []) (fun i hi=>?step) (fun _ _=>Out.esc_ret _) ?fin (jG _ _),qU]
 ·have e:∀ (I:List TValue) (N:List (List UInt8)),N.length=I.length → ((I.zip N).any fun x=>!jX x.2 || !yN (room - 1) x.1) = !(I.all (yN (room - 1)) && N.all jX):=by
   intro I
   induction I with
   | nil =>
    intro N hl
    cases N with
    | nil=>rfl
    | cons _ _=>simp at hl
   | cons x I ih =>
    intro N hl
    cases N with
    | nil=>simp at hl
    | cons n N =>
     rw [List.zip_cons_cons,List.any_cons,ih N (by simpa using hl),List.all_cons,List.all_cons]
     cases yN (room - 1) x <;> cases jX n <;> cases I.all (yN (room - 1)) <;> cases N.all jX <;> rfl
  rw [e I N hN]
  cases (I.all (yN (room - 1)) && N.all jX) <;> simp
 case step =>
  have hi1:i < I.length:=by omega
  have hi2:i < N.length:=by omega
  have hx:=(h I[i] (je hi1)).1
  have hz:(I.zip N)[i]=(I[i],N[i]):=List.getElem_zip
  have w:IntKind.i64.wrap (room - 1)=room - 1:=kp (by omega) (by omega)
  have c:0 ≤ (i:Int) ∧ (i:Int) < (I.length:Int):=by omega
  have c2:0 ≤ (i:Int) ∧ (i:Int) < (N.length:Int):=by omega
  have d:decide ((i:Int) < (I.length:Int))=true:=decide_eq_true (by omega)
  have he:=kQ N[i] (hns _ (je hi2))
  simp only [pj,jr,jv,zb,zi,zs,zl,j7,zm,jq hi1,jq hi2,S1,TValue.enc_eq,d,c,c2,w,hx,hz,he,zr,j8,true_and,and_self,zf,if_false,if_true,decide_true,beq_self_eq_true]
  cases jX N[i] <;> cases yN (room - 1) I[i] <;> simp [jp hi1 (show I.length ≤ 9223372036854775807 by omega)]
 case fin=>simp [pj,hzl]
theorem jh2 (N:List (List UInt8)) (hl:N.length ≤ 1048576) (hns:∀ n ∈ N,n.length ≤ 1048576):kV [.sl (N.map S1)] = .ret [.b (!(N.all jX))]:=by
 rw [zO]
 simp only [qh,jr,zl]
 rw [Jo]
 simp only [qG,jr,zl,zm]
 rw [show (0:Int)=((0:Nat):Int) from rfl,kb (l:=N) (st:=fun i=>[.sl (N.map S1),.i (N.length:Int),.i (i:Int)]) (p:=fun n=>!jX n) (stop:=fun i _=>.ret [.i (i:Int)]) (fin:=.ex 0 []) (fun i hi=>?step) (fun _ _=>Out.esc_ret _) ?fin (jG _ _),zS]
 ·rw [js]
  cases hf:N.findIdx? fun n=>!jX n with
  | none =>
   have:(N.any fun n=>!jX n)=false:=by
    rw [List.any_eq_false]
    intro x hx
    have:=List.findIdx?_eq_none_iff.1 hf x hx
    simpa using this
   rw [this]
   simp
  | some j =>
   obtain ⟨hj,h1,h2⟩:=List.findIdx?_eq_some_iff_getElem.1 hf
   have:(N.any fun n=>!jX n)=true:=List.any_eq_true.2 ⟨N[j],je hj,h1⟩
   rw [this]
   simp [hj]
 case step =>
  have c2:0 ≤ (i:Int) ∧ (i:Int) < (N.length:Int):=by omega
  have d:decide ((i:Int) < (N.length:Int))=true:=decide_eq_true (by omega)
  have he:VX [.s N[i]] = .ret [.b (!jX N[i])]:=by
   rw [j5L]
   simp only [j0U,jr,zs,kR _ (hns _ (je hi)),zr,zb]
  simp only [p9,jr,jv,zb,zi,zs,zl,j7,zm,jq hi,S1,d,c2,he,zr,true_and,and_self,if_true]
  cases jX N[i] <;> simp [jp hi (show N.length ≤ 9223372036854775807 by omega)]
 case fin=>simp [p9]
theorem jc4 (room:Int) (I:List TValue) (hl:I.length ≤ 1048576) (hr:0 < room) (hr2:room ≤ 10) (h:∀ x ∈ I,j3x (room - 1) x):kA [.sl (I.map TValue.enc),.i room] = .ret [.b (!(I.all (yN (room - 1)))),.i room]:=by
 rw [yJ]
 simp only [pB,jr,jv,zl,zi]
 rw [zE]
 simp only [pY,jr,jv,zl,zi,zm]
 rw [show (0:Int)=((0:Nat):Int) from rfl,kb (l:=I) (st:=fun i=>[.sl (I.map TValue.enc),.i (I.length:Int),.i (i:Int),.i room]) (p:=fun n=>!yN (room - 1) n) (stop:=fun i _=>.ret [.i (i:Int),.i room]) (fin:=.ex 0 [.i room]) (fun i hi=>?step) (fun _ _=>Out.esc_ret _) ?fin (jG _ _),zS]
 ·rw [js]
  cases hf:I.findIdx? fun n=>!yN (room - 1) n with
  | none =>
   have:(I.any fun n=>!yN (room - 1) n)=false:=by
    rw [List.any_eq_false]
    intro x hx
    have:=List.findIdx?_eq_none_iff.1 hf x hx
    simpa using this
   rw [this]
   simp
  | some j =>
   obtain ⟨hj,h1,h2⟩:=List.findIdx?_eq_some_iff_getElem.1 hf
   have:(I.any fun n=>!yN (room - 1) n)=true:=List.any_eq_true.2 ⟨I[j],je hj,h1⟩
   rw [this]
   simp [hj]
 case step =>
  have c2:0 ≤ (i:Int) ∧ (i:Int) < (I.length:Int):=by omega
  have d:decide ((i:Int) < (I.length:Int))=true:=decide_eq_true (by omega)
  have hx:=(h I[i] (je hi)).2
  have w:IntKind.i64.wrap (room - 1)=room - 1:=kp (by omega) (by omega)
  have he:VW [.i I[i].kind,.s I[i].text,.sl (I[i].items.map TValue.enc),.sl (I[i].names.map S1),.i room] = .ret [.b (!yN (room - 1) I[i]),.i room]:=by
   rw [j5K]
   simp only [j0T,jr,jv,zi,zs,zl,w,hx,zr,zb]
  simp only [kE,jr,jv,zb,zi,zs,zl,j7,zm,jq hi,TValue.enc_eq,d,c2,he,zr,true_and,and_self,if_true]
  cases yN (room - 1) I[i] <;> simp [jp hi (show I.length ≤ 9223372036854775807 by omega)]
 case fin=>simp [kE]
theorem YF (v:TValue):jQ v.enc=v.text.length + (DC.wt (.sl (v.items.map TValue.enc)) + DC.wt (.sl (v.names.map S1))):=by
 rw [TValue.enc_eq]
 simp only [jQ,DC.wt]
 omega
theorem j9j {l:List (List UInt8)} (h:DC.wt (.sl (l.map S1)) ≤ 1048576):l.length ≤ 1048576 ∧ ∀ n ∈ l,n.length ≤ 1048576:=by
 rw [DC.wt,zm] at h
 refine ⟨by omega,fun n hn=>?_⟩
 have:=qI (jD (f:=S1) hn)
 have e:jQ (S1 n)=n.length:=by simp [S1,jQ,DC.wt]
 omega
theorem jh3 (room K:Int) (T:List UInt8) (N:List (List DC)):jR pj [.i room,.i 0,.i K,.s T,.sl [],.sl N] = .ex 0 []:=qL (by simp [pj])
def jbr (K:Int) (T:List UInt8):Bool:=(K == 1 && jX T) || ((K == 2 && j3A T) || ((K == 3 && j9V T) || ((K == 4 && !(qJ T == [])) || ((K == 5 && jfl T) || ((K == 6 && (jX T && !jfl T)) || ((K == 7 || K == 8) && T == []))))))
theorem j9t (K:Int) (T:List UInt8) (I N:List (List DC)) (hT:T.length ≤ 1048576):ZV [.i K,.s T,.sl I,.sl N] = .ret [.b (jbr K T)]:=by
 rw [ja5]
 simp only [j3O,jr,jv,zi,zs,zl,zb,kQ T hT,jfJ T hT,jd3 T hT,Ku T hT,jcd,jiH,zr]
 unfold jbr
 by_cases k1:K=1
 ·subst k1; simp
 by_cases k2:K=2
 ·subst k2; simp
 by_cases k3:K=3
 ·subst k3; simp
 by_cases k4:K=4
 ·subst k4; simp
 by_cases k5:K=5
 ·subst k5; simp
 by_cases k6:K=6
 ·subst k6; cases jX T <;> simp
 by_cases k7:K=7
 ·subst k7; simp
 by_cases k8:K=8
 ·subst k8; simp
 simp [k1,k2,k3,k4,k5,k6,k7,k8]
theorem jg7 (K:Int) (T:List UInt8) (I N:List (List DC)):qr [.i K,.s T,.sl I,.sl N] = .ret [.b (I.isEmpty && N.isEmpty)]:=by
 rw [j3I]
 have z1:∀ n:Nat,((n:Int) + 1=0)=False:=fun n=>by simp; omega
 have z2:∀ n:Nat,((n:Int) + 1 == 0)=false:=fun n=>beq_eq_false_iff_ne.2 (by omega)
 cases I <;> cases N <;> simp [j1u,z1,z2]
set_option maxHeartbeats 4000000 in
theorem jh1 (v:TValue) (hw:jQ v.enc ≤ 1048576) (room:Int) (h7:v.kind ≠ 7) (h8:v.kind ≠ 8):j3x room v:=by
 rw [YF] at hw
 have hT:v.text.length ≤ 1048576:=by omega
 have hone:=j9t v.kind v.text (v.items.map TValue.enc) (v.names.map S1) hT
 have hpl:=jg7 v.kind v.text (v.items.map TValue.enc) (v.names.map S1)
 have a1:=kR v.text hT
 have a2:=j9R v.text hT
 have a3:=jdv v.text hT
 have a4:=KS v.text hT
 have a5:=jcA v.text
 obtain ⟨K,T,I,N⟩:=v
 simp only at *
 have z1:∀ n:Nat,((n:Int) + 1=0)=False:=fun n=>by simp; omega
 have z2:∀ n:Nat,((n:Int) + 1 == 0)=false:=fun n=>beq_eq_false_iff_ne.2 (by omega)
 have b7:(K == 7)=false:=beq_eq_false_iff_ne.2 h7
 have b8:(K == 8)=false:=beq_eq_false_iff_ne.2 h8
 refine j0r (jbr K T && (I.isEmpty && N.isEmpty)) ?_ ?_
 ·rw [qN]
  generalize jbr K T=q at *
  cases q <;> cases I <;> cases N <;> simp at hone <;> simp [km,hone,jh3,h7,h8,b7,b8,z1,z2]
 ·rw [yZ]
  have hpl2:qr [.i K,.s T,.sl (I.map TValue.enc),.sl (N.map S1)] = .ret [.b (I.isEmpty && N.isEmpty)]:=by
   rw [hpl]; cases I <;> cases N <;> rfl
  simp only [qz,jr,jv,zi,zs,zl,zb,hpl2,a1,a2,a3,a4,a5,zr]
  generalize (I.isEmpty && N.isEmpty)=p
  unfold jbr
  by_cases k1:K=1
  ·subst k1; cases p <;> simp
  by_cases k2:K=2
  ·subst k2; cases p <;> simp
  by_cases k3:K=3
  ·subst k3; cases p <;> simp
  by_cases k4:K=4
  ·subst k4; cases p <;> simp
  by_cases k5:K=5
  ·subst k5; cases p <;> simp
  by_cases k6:K=6
  ·subst k6; cases p <;> cases jX T <;> simp
  simp [k1,k2,k3,k4,k5,k6,h7,h8]
set_option maxHeartbeats 2000000 in
theorem jhJ (v:TValue) (hw:jQ v.enc ≤ 1048576) (room:Int) (hr:0 ≤ room) (hr2:room ≤ 10) (h:0 < room → ∀ x ∈ v.items,j3x (room - 1) x):j3x room v:=by
 by_cases h78:v.kind ≠ 7 ∧ v.kind ≠ 8
 ·exact jh1 v hw room h78.1 h78.2
 rw [YF] at hw
 obtain ⟨hNl,hNs⟩:=j9j (l:=v.names) (by omega)
 have hIl:v.items.length ≤ 1048576:=by rw [DC.wt,zm] at hw; omega
 have hT:v.text.length ≤ 1048576:=by omega
 have hone:=j9t v.kind v.text (v.items.map TValue.enc) (v.names.map S1) hT
 have hn:=jh2 v.names hNl hNs
 obtain ⟨K,T,I,N⟩:=v
 simp only at *
 have z1:∀ n:Nat,((n:Int) + 1=0)=False:=fun n=>by simp; omega
 have z2:∀ n:Nat,((n:Int) + 1 == 0)=false:=fun n=>beq_eq_false_iff_ne.2 (by omega)
 by_cases k7:K=7
 ·subst k7
  have ho:jbr 7 T=(T == []):=by unfold jbr; simp
  rw [ho] at hone
  rcases Int.lt_or_le 0 room with hp | hp
  ·have hr0:(room == 0)=false:=beq_eq_false_iff_ne.2 (by omega)
   have hr1:¬ room=0:=by omega
   have hlp:=jc3 room 7 (by decide) T I (N.map S1) hIl hp hr2 (h hp)
   have hit:=jc4 room I hIl hp hr2 (h hp)
   refine j0r (T == [] && (N.isEmpty && I.all (yN (room - 1)))) ?_ ?_
   ·rw [qN]
    generalize I.all (yN (room - 1))=A at *
    cases T with
    | nil =>
     cases N with
     | nil =>
      simp at hone hlp
      simp [km,hone,z1,z2,hr0,hr1,hlp]
      cases A <;> simp
     | cons n N=>simp at hone; simp [km,hone,z1,z2]
    | cons a T=>simp at hone; simp [km,hone]
   ·rw [yZ]
    generalize I.all (yN (room - 1))=A at *
    cases T with
    | nil =>
     cases N with
     | nil =>
      simp [qz,z1,z2,hp,hit]
     | cons n N=>simp [qz,z1,z2]
    | cons a T=>cases N <;> simp [qz,z1,z2,hp]
  ·have hr0:room=0:=by omega
   subst hr0
   refine j0r false ?_ ?_
   ·rw [qN]
    cases T <;> cases N <;> simp at hone <;> simp [km,hone,z1,z2]
   ·rw [yZ]
    cases T <;> cases N <;> simp [qz,z1,z2]
 have k8:K=8:=by
  by_cases h8:K=8
  ·exact h8
  ·exact absurd ⟨k7,h8⟩ h78
 subst k8
 have ho:jbr 8 T=(T == []):=by unfold jbr; simp
 rw [ho] at hone
 by_cases hNI:N.length=I.length
 ·have hb1:((N.length:Int) != (I.length:Int))=false:=by simp; omega
  rcases Int.lt_or_le 0 room with hp | hp
  ·have hr0:(room == 0)=false:=beq_eq_false_iff_ne.2 (by omega)
   have hr1:¬ room=0:=by omega
   have hlp:=jc2 room T I N hIl hNI hNs hp hr2 (h hp)
   have hit:=jc4 room I hIl hp hr2 (h hp)
   refine j0r (T == [] && (I.all (yN (room - 1)) && N.all jX)) ?_ ?_
   ·rw [qN]
    generalize (I.all (yN (room - 1)) && N.all jX)=A at *
    cases T with
    | nil =>
     simp at hone
     simp [km,hone,hr0,hr1,hb1,hNI]
     rw [hlp]
     cases A <;> simp
    | cons a T=>simp at hone; simp [km,hone]
   ·rw [yZ]
    generalize I.all (yN (room - 1))=A at *
    generalize N.all jX=B at *
    cases B <;> cases T <;> simp at hn <;> simp [qz,hn,hb1,hNI,hp,hit]
  ·have hr0:room=0:=by omega
   subst hr0
   refine j0r false ?_ ?_
   ·rw [qN]
    cases T <;> simp at hone <;> simp [km,hone,hb1,hNI]
   ·rw [yZ]
    generalize N.all jX=B at *
    cases B <;> cases T <;> simp at hn <;> simp [qz,hn,hb1,hNI]
 ·have hb1:((N.length:Int) != (I.length:Int))=true:=by simp; omega
  have hNI':¬ (N.length:Int)=(I.length:Int):=by omega
  refine j0r false ?_ ?_
  ·rw [qN]
   cases T <;> simp at hone <;> simp [km,hone,hb1,hNI,hNI']
  ·rw [yZ]
   simp [qz,hb1,hNI,hNI']
theorem j4Z (v:TValue):jQ v.enc ≤ 1048576 → ∀ room:Int,0 ≤ room → room ≤ 10 → j3x room v:=by
 induction v using TValue.ind with | h v ih =>
 intro hw room hr hr2
 refine jhJ v hw room hr hr2 fun hp x hx=>ih x hx ?_ (room - 1) (by omega) (by omega)
 rw [YF] at hw
 have:=qI (jD (f:=TValue.enc) hx)
 rw [DC.wt] at hw
 omega
theorem j7p (ok:TArg → Bool) (l:List TArg) (hl:l.length ≤ 1048576) (hc:∀ x ∈ l,Qs [.s x.name,.i x.value.kind,.s x.value.text,.sl (x.value.items.map TValue.enc),.sl (x.value.names.map S1)] = .ret [.b (!ok x)]):kN [.sl (l.map TArg.enc)] = .ret [.b (!(l.all ok))]:=by
 rw [zI]
 simp only [qa,jr,zl]
 rw [Ja]
 simp only [qw,jr,zl,zm]
 rw [show (0:Int)=((0:Nat):Int) from rfl,kb (l:=l) (st:=fun i=>[.sl (l.map TArg.enc),.i (l.length:Int),.i (i:Int)]) (p:=fun n=>!ok n) (stop:=fun i _=>.ret [.i (i:Int)]) (fin:=.ex 0 []) (fun i hi=>?step) (fun _ _=>Out.esc_ret _) ?fin (jG _ _),zS]
 ·rw [js]
  cases hf:l.findIdx? fun n=>!ok n with
  | none =>
   have:(l.any fun n=>!ok n)=false:=by
    rw [List.any_eq_false]
    intro x hx
    have:=List.findIdx?_eq_none_iff.1 hf x hx
    simpa using this
   rw [this]
   simp
  | some j =>
   obtain ⟨hj,h1,h2⟩:=List.findIdx?_eq_some_iff_getElem.1 hf
   have:(l.any fun n=>!ok n)=true:=List.any_eq_true.2 ⟨l[j],je hj,h1⟩
   rw [this]
   simp [hj]
 case step =>
  have c2:0 ≤ (i:Int) ∧ (i:Int) < (l.length:Int):=by omega
  have d:decide ((i:Int) < (l.length:Int))=true:=decide_eq_true (by omega)
  have he:Qs [.s l[i].name,.i l[i].value.kind,.s l[i].value.text,.sl (l[i].value.items.map TValue.enc),.sl (l[i].value.names.map S1)] = .ret [.b (!ok l[i])]:=hc _ (je hi)
  simp only [kZ,jr,jv,zb,zi,zs,zl,j7,zm,jq hi,TArg.enc_eq,d,c2,he,zr,true_and,and_self,if_true]
  cases ok l[i] <;> simp [jp hi (show l.length ≤ 9223372036854775807 by omega)]
 case fin=>simp [kZ]
theorem j7o (ok:TDir → Bool) (l:List TDir) (hl:l.length ≤ 1048576) (hc:∀ x ∈ l,Qq [.s x.name,.sl (x.args.map TArg.enc)] = .ret [.b (!ok x)]):kM [.sl (l.map TDir.enc)] = .ret [.b (!(l.all ok))]:=by
 rw [zH]
 simp only [q9,jr,zl]
 rw [J9]
 simp only [qv,jr,zl,zm]
 rw [show (0:Int)=((0:Nat):Int) from rfl,kb (l:=l) (st:=fun i=>[.sl (l.map TDir.enc),.i (l.length:Int),.i (i:Int)]) (p:=fun n=>!ok n) (stop:=fun i _=>.ret [.i (i:Int)]) (fin:=.ex 0 []) (fun i hi=>?step) (fun _ _=>Out.esc_ret _) ?fin (jG _ _),zS]
 ·rw [js]
  cases hf:l.findIdx? fun n=>!ok n with
  | none =>
   have:(l.any fun n=>!ok n)=false:=by
    rw [List.any_eq_false]
    intro x hx
    have:=List.findIdx?_eq_none_iff.1 hf x hx
    simpa using this
   rw [this]
   simp
  | some j =>
   obtain ⟨hj,h1,h2⟩:=List.findIdx?_eq_some_iff_getElem.1 hf
   have:(l.any fun n=>!ok n)=true:=List.any_eq_true.2 ⟨l[j],je hj,h1⟩
   rw [this]
   simp [hj]
 case step =>
  have c2:0 ≤ (i:Int) ∧ (i:Int) < (l.length:Int):=by omega
  have d:decide ((i:Int) < (l.length:Int))=true:=decide_eq_true (by omega)
  have he:Qq [.s l[i].name,.sl (l[i].args.map TArg.enc)] = .ret [.b (!ok l[i])]:=hc _ (je hi)
  simp only [kY,jr,jv,zb,zi,zs,zl,j7,zm,jq hi,TDir.enc_eq,d,c2,he,zr,true_and,and_self,if_true]
  cases ok l[i] <;> simp [jp hi (show l.length ≤ 9223372036854775807 by omega)]
 case fin=>simp [kY]
noncomputable def j0n (v:TValue):Bool:=yN 10 v
theorem j53 (v:TValue) (hw:jQ v.enc ≤ 1048576):V6 [.i v.kind,.s v.text,.sl (v.items.map TValue.enc),.sl (v.names.map S1)] = .ret [.b (j0n v)]:=by
 obtain ⟨h1,h2⟩:=j4Z v hw 10 (by omega) (by omega)
 rw [j8r]
 simp only [j2I,jr,jv,zi,zs,zl,h1,zr,zb,j0n]
theorem j1r (v:TValue) (hw:jQ v.enc ≤ 1048576):Kj [.i v.kind,.s v.text,.sl (v.items.map TValue.enc),.sl (v.names.map S1)] = .ret [.b (j0n v)]:=by
 obtain ⟨h1,h2⟩:=j4Z v hw 10 (by omega) (by omega)
 rw [j8M]
 simp only [j2Z,jr,jv,zi,zs,zl,h2,zr,zb,j0n]
noncomputable def jfb (a:TArg):Bool:=jX a.name && j0n a.value
noncomputable def yU (l:List TArg):Bool:=l.all jfb
noncomputable def jf2 (d:TDir):Bool:=jX d.name && yU d.args
noncomputable def pP (l:List TDir):Bool:=l.all jf2
theorem j4U (a:TArg):jQ a.enc=a.name.length + jQ a.value.enc:=by
 rw [TArg.enc_eq,TValue.enc_eq]
 simp [jQ,DC.wt]
theorem j4R (d:TDir):jQ d.enc=d.name.length + DC.wt (.sl (d.args.map TArg.enc)):=by
 rw [TDir.enc_eq]
 simp only [jQ,DC.wt,Nat.add_zero]
theorem kH {α:Type} {enc:α → List DC} {l:List α} {n:Nat} (h:DC.wt (.sl (l.map enc)) ≤ n):l.length ≤ n ∧ ∀ x ∈ l,jQ (enc x) ≤ n:=by
 rw [DC.wt,zm] at h
 refine ⟨by omega,fun x hx=>?_⟩
 have:=qI (jD (f:=enc) hx)
 omega
theorem j2w (l:List TArg) (hw:DC.wt (.sl (l.map TArg.enc)) ≤ 1048576):JO [.sl (l.map TArg.enc)] = .ret [.b (yU l)]:=by
 obtain ⟨hl,hx⟩:=kH hw
 rw [jaQ]
 simp only [j4t,jr,zl]
 rw [j7p jfb l hl fun x hm=>?_]
 ·simp only [zr,jr,zb,Bool.not_not,yU]
 ·have hw:=hx x hm
  rw [j4U] at hw
  rw [j7l]
  simp only [j23,jr,jv,zi,zs,zl,zb,kR x.name (by omega),j1r x.value (by omega),zr,jfb]
  cases jX x.name <;> simp
theorem j7H (l:List TArg) (hw:DC.wt (.sl (l.map TArg.enc)) ≤ 1048576):Xf [.sl (l.map TArg.enc)] = .ret [.b (yU l)]:=by
 obtain ⟨hl,hx⟩:=kH hw
 rw [jag]
 simp only [j3W,jr,zl]
 rw [show (0:Int)=((0:Nat):Int) from rfl,kb (l:=l) (st:=fun i=>[.sl (l.map TArg.enc),.i (i:Int)]) (p:=fun n=>!jfb n) (stop:=fun i _=>.ret [.b false]) (fin:=.ex 0 []) (fun i hi=>?step) (fun _ _=>Out.esc_ret _) ?fin (jG _ _),qU]
 ·rw [show (l.any fun n=>!jfb n) = !(yU l) by unfold yU; rw [js]]
  cases yU l <;> simp
 case step =>
  have hw:=hx l[i] (je hi)
  rw [j4U] at hw
  have c2:0 ≤ (i:Int) ∧ (i:Int) < (l.length:Int):=by omega
  have d:decide ((i:Int) < (l.length:Int))=true:=decide_eq_true (by omega)
  simp only [Y0,jr,jv,zb,zi,zs,zl,j7,zm,jq hi,TArg.enc_eq,d,c2,kQ l[i].name (by omega),j53 l[i].value (by omega),zr,true_and,and_self,if_true]
  rcases zt (jX l[i].name) with a1 | a1 <;> rcases zt (j0n l[i].value) with a2 | a2 <;> simp [jfb,a1,a2,jp hi (show l.length ≤ 9223372036854775807 by omega)]
 case fin=>simp [Y0]
theorem XD (l:List TDir) (hw:DC.wt (.sl (l.map TDir.enc)) ≤ 1048576):yp [.sl (l.map TDir.enc)] = .ret [.b (pP l)]:=by
 obtain ⟨hl,hx⟩:=kH hw
 rw [jaP]
 simp only [j4s,jr,zl]
 rw [j7o jf2 l hl fun x hm=>?_]
 ·simp only [zr,jr,zb,Bool.not_not,pP]
 ·have hw:=hx x hm
  rw [j4R] at hw
  rw [j7j]
  simp only [j22,jr,jv,zi,zs,zl,zb,kR x.name (by omega),j2w x.args (by omega),zr,jf2]
  cases jX x.name <;> simp
theorem Zp (l:List TDir) (hw:DC.wt (.sl (l.map TDir.enc)) ≤ 1048576):zC [.sl (l.map TDir.enc)] = .ret [.b (pP l)]:=by
 obtain ⟨hl,hx⟩:=kH hw
 rw [jaf]
 simp only [j3V,jr,zl]
 rw [show (0:Int)=((0:Nat):Int) from rfl,kb (l:=l) (st:=fun i=>[.sl (l.map TDir.enc),.i (i:Int)]) (p:=fun n=>!jf2 n) (stop:=fun i _=>.ret [.b false]) (fin:=.ex 0 []) (fun i hi=>?step) (fun _ _=>Out.esc_ret _) ?fin (jG _ _),qU]
 ·rw [show (l.any fun n=>!jf2 n) = !(pP l) by unfold pP; rw [js]]
  cases pP l <;> simp
 case step =>
  have hw:=hx l[i] (je hi)
  rw [j4R] at hw
  have c2:0 ≤ (i:Int) ∧ (i:Int) < (l.length:Int):=by omega
  have d:decide ((i:Int) < (l.length:Int))=true:=decide_eq_true (by omega)
  simp only [XZ,jr,jv,zb,zi,zs,zl,j7,zm,jq hi,TDir.enc_eq,d,c2,kQ l[i].name (by omega),j7H l[i].args (by omega),zr,true_and,and_self,if_true]
  rcases zt (jX l[i].name) with a1 | a1 <;> rcases zt (yU l[i].args) with a2 | a2 <;> simp [jf2,a1,a2,jp hi (show l.length ≤ 9223372036854775807 by omega)]
 case fin=>simp [XZ]
def kq (v:TSel):Nat:=1 + (v.sels.attach.map fun x=>kq x.1).sum
termination_by SizeOf.sizeOf v
decreasing_by exact TSel.lt x.2
theorem jch (v:TSel):kq v=1 + (v.sels.map kq).sum:=by
 rw [kq]
 simp
def j26 (left:Int) (n:Nat):Int:=if (n:Int) ≤ left then left - n else -1
theorem jaW (ls:List TSel) (hl:ls.length ≤ 1048576) (k:Int) (a b c:List UInt8) (A D:List (List DC))
  (h:∀ x ∈ ls,∀ left:Int,0 ≤ left → left ≤ 1048576 → Ju [.i x.kind,.s x.alias,.s x.name,.s x.on',.sl (x.args.map TArg.enc),.sl (x.dirs.map TDir.enc),.sl (x.sels.map TSel.enc),.i left] = .ret [.i (j26 left (kq x))]) :
  ∀ (m i:Nat) (left:Int),i + m=ls.length → -1 ≤ left → left ≤ 1048576 → jR y7 [.i left,.i (i:Int),.i k,.s a,.s b,.s c,.sl A,.sl D,.sl (ls.map TSel.enc)] = .ex 0 [.i (if left < 0 then -1 else j26 left ((ls.drop i).map kq).sum)]
 | 0,i,left,hi,h0,h1=>by
  have:i=ls.length:=by omega
  subst this
  rw [List.drop_length]
  refine qL ?_
  have d:decide ((ls.length:Int) < (ls.length:Int))=false:=decide_eq_false (by omega)
  simp only [y7,jr,jv,zb,zi,zs,zl,zm,d,zf,if_false,j8,List.map_nil,List.sum_nil]
  congr 3
  unfold j26
  split
  ·omega
  ·rw [if_pos (by omega)]; simp
 | m + 1,i,left,hi,h0,h1=>by
  have hlt:i < ls.length:=by omega
  have d:decide ((i:Int) < (ls.length:Int))=true:=decide_eq_true (by omega)
  by_cases hneg:left < 0
  ·have e:decide (left ≥ 0)=false:=decide_eq_false (by omega)
   have:left = -1:=by omega
   subst this
   rw [if_pos (by omega)]
   refine qL ?_
   simp only [y7,jr,jv,zb,zi,zs,zl,zm,d,e,zf,if_false,if_true,j8]
  ·have e:decide (left ≥ 0)=true:=decide_eq_true (by omega)
   have hx:=h ls[i] (je hlt) left (by omega) h1
   have c2:0 ≤ (i:Int) ∧ (i:Int) < (ls.length:Int):=by omega
   have w:=jp hlt (show ls.length ≤ 9223372036854775807 by omega)
   rw [if_neg hneg]
   have hstep:y7 [.i left,.i (i:Int),.i k,.s a,.s b,.s c,.sl A,.sl D,.sl (ls.map TSel.enc)] = .norm [.i (j26 left (kq ls[i])),.i ((i + 1:Nat):Int),.i k,.s a,.s b,.s c,.sl A,.sl D,.sl (ls.map TSel.enc)]:=by
    simp only [y7,jr,jv,zb,zi,zs,zl,zm,d,e,if_true,j8,j7,jq hlt,TSel.enc_eq,c2,true_and,and_self,decide_true,hx,zr,j9,w]
   rw [JQ hstep]
   have hb:-1 ≤ j26 left (kq ls[i]) ∧ j26 left (kq ls[i]) ≤ 1048576:=by
    unfold j26
    split <;> omega
   rw [jaW ls hl k a b c A D h m (i + 1) _ (by omega) hb.1 hb.2,List.drop_eq_getElem_cons hlt,jL,List.sum_cons]
   congr 3
   unfold j26
   by_cases hc:(kq ls[i]:Int) ≤ left
   ·rw [if_pos hc,if_neg (by omega)]
    by_cases hc2:((((ls.drop (i + 1)).map kq).sum:Nat):Int) ≤ left - (kq ls[i]:Int)
    ·rw [if_pos hc2,if_pos (by omega)]; omega
    ·rw [if_neg hc2,if_neg (by omega)]
   ·rw [if_neg hc,if_pos (by omega),if_neg (by omega)]
theorem jfH (v:TSel):jQ v.enc ≤ 1048576 → ∀ left:Int,0 ≤ left → left ≤ 1048576 → Ju [.i v.kind,.s v.alias,.s v.name,.s v.on',.sl (v.args.map TArg.enc),.sl (v.dirs.map TDir.enc),.sl (v.sels.map TSel.enc),.i left] = .ret [.i (j26 left (kq v))]:=by
 induction v using TSel.ind with | h v ih =>
 intro hw left h0 h1
 rw [TSel.enc_eq] at hw
 simp only [jQ] at hw
 obtain ⟨hl,hx⟩:=kH (l:=v.sels) (enc:=TSel.enc) (n:=1048576) (by omega)
 rw [j6S]
 have w:IntKind.i64.wrap (left - 1)=left - 1:=kp (by omega) (by omega)
 simp only [j1E,jr,jv,zb,zi,zs,zl,w]
 have:=jaW v.sels hl v.kind v.alias v.name v.on' (v.args.map TArg.enc) (v.dirs.map TDir.enc) (fun x hm=>ih x hm (hx x hm)) v.sels.length 0 (left - 1) (by omega) (by omega) (by omega)
 rw [List.drop_zero] at this
 rw [show (0:Int)=((0:Nat):Int) from rfl,this]
 simp only [jc,if_true,jr,zi]
 congr 3
 rw [jch]
 unfold j26
 split
 ·rw [if_neg (by omega)]
 ·by_cases hc:(((v.sels.map kq).sum:Nat):Int) ≤ left - 1
  ·rw [if_pos hc,if_pos (by omega)]; omega
  ·rw [if_neg hc,if_neg (by omega)]
def j2i (v:TSel):Bool:=(v.kind == 1 && (jX v.name && ((v.alias == [] || jX v.alias) && v.on' == []))) ||
 ((v.kind == 2 && (jX v.name && (!(v.name == [111,110]) && (v.alias == [] && (v.on' == [] && (v.args.isEmpty && v.sels.isEmpty)))))) ||
 (v.kind == 3 && (v.name == [] && (v.alias == [] && ((v.on' == [] || jX v.on') && (v.args.isEmpty && !v.sels.isEmpty))))))
set_option maxHeartbeats 4000000 in
theorem jfI (v:TSel) (h1:v.name.length ≤ 1048576) (h2:v.alias.length ≤ 1048576) (h3:v.on'.length ≤ 1048576):XK [.i v.kind,.s v.alias,.s v.name,.s v.on',.sl (v.args.map TArg.enc),.sl (v.dirs.map TDir.enc),.sl (v.sels.map TSel.enc)] = .ret [.b (j2i v)]:=by
 rw [j6R]
 have e1:(((v.args.map TArg.enc).length:Int) == 0)=v.args.isEmpty:=by cases v.args with | nil=>rfl | cons a l=>exact beq_eq_false_iff_ne.2 (by simp; omega)
 have e2:(((v.sels.map TSel.enc).length:Int) == 0)=v.sels.isEmpty:=by cases v.sels with | nil=>rfl | cons a l=>exact beq_eq_false_iff_ne.2 (by simp; omega)
 have e3:decide (((v.sels.map TSel.enc).length:Int) > 0) = !v.sels.isEmpty:=by cases v.sels with | nil=>rfl | cons a l=>exact decide_eq_true (by simp)
 simp only [j1D,jr,jv,zb,zi,zs,zl,kQ _ h1,kQ _ h2,kQ _ h3,zr,e1,e2,e3]
 unfold j2i
 generalize jX v.name=p1
 generalize jX v.alias=p2
 generalize jX v.on'=p3
 generalize (v.alias == ([]:List UInt8))=q1
 generalize (v.on' == ([]:List UInt8))=q2
 generalize (v.name == ([]:List UInt8))=q3
 generalize (v.name == ([111,110]:List UInt8))=q4
 generalize v.args.isEmpty=q5
 generalize v.sels.isEmpty=q6
 by_cases k1:v.kind=1
 ·rw [k1]; cases p1 <;> cases q1 <;> cases p2 <;> simp
 by_cases k2:v.kind=2
 ·rw [k2]; cases p1 <;> cases q4 <;> cases q1 <;> cases q2 <;> cases q5 <;> simp
 by_cases k3:v.kind=3
 ·rw [k3]; cases q3 <;> cases q1 <;> cases q2 <;> cases p3 <;> cases q5 <;> simp
 simp [k1,k2,k3]
set_option maxHeartbeats 4000000 in
theorem jhq (v:TSel) (hw:jQ v.enc ≤ 1048576) (deep left:Int) (hl0:0 ≤ left) (hl1:left ≤ 1048576) :
  po [.i v.kind,.s v.alias,.s v.name,.s v.on',.sl (v.args.map TArg.enc),.sl (v.dirs.map TDir.enc),.sl (v.sels.map TSel.enc),.i deep,.i left] =
   if (decide (left - 1 < 0) || (deep == 0 || (!pP v.dirs || !(j2i v && yU v.args))))=true then .ret [.b false,.i (left - 1)] else
   ja (jR px [.i deep,.sl (v.sels.map TSel.enc),.i (v.sels.length:Int),.i 0,.i (left - 1)]) 1 fun v19=>.ret [.b true,.i (gi v19 0)]:=by
 rw [TSel.enc_eq] at hw
 simp only [jQ] at hw
 rw [j3t]
 have w:IntKind.i64.wrap (left - 1)=left - 1:=kp (by omega) (by omega)
 have n1:v.name.length ≤ 1048576:=by simp only [DC.wt] at hw; omega
 have n2:v.alias.length ≤ 1048576:=by simp only [DC.wt] at hw; omega
 have n3:v.on'.length ≤ 1048576:=by simp only [DC.wt] at hw; omega
 have hA:=j2w v.args (by omega)
 have hD:=XD v.dirs (by omega)
 have e1:(((v.args.map TArg.enc).length:Int) == 0)=v.args.isEmpty:=by cases v.args with | nil=>rfl | cons a l=>exact beq_eq_false_iff_ne.2 (by simp; omega)
 have e2:(((v.sels.map TSel.enc).length:Int) == 0)=v.sels.isEmpty:=by cases v.sels with | nil=>rfl | cons a l=>exact beq_eq_false_iff_ne.2 (by simp; omega)
 have e3:decide (((v.sels.map TSel.enc).length:Int) > 0) = !v.sels.isEmpty:=by cases v.sels with | nil=>rfl | cons a l=>exact decide_eq_true (by simp)
 have hempty:v.args.isEmpty=true → yU v.args=true:=fun h=>by
  cases ha:v.args with
  | nil=>rfl
  | cons a l=>rw [ha] at h; simp at h
 have hN1:=kR _ n1
 have hN2:=kR _ n2
 have hN3:=kR _ n3
 simp only [Zf,jr,jv,zb,zi,zs,zl,hD,zr,w]
 by_cases hn:left - 1 < 0
 ·simp [hn]
 by_cases hd:deep=0
 ·simp [hn,hd]
 have hn':decide (left - 1 < 0)=false:=decide_eq_false hn
 have hd':(deep == 0)=false:=beq_eq_false_iff_ne.2 hd
 rw [hn',hd']
 generalize pP v.dirs=b0
 cases b0 with
 | false=>simp
 | true =>
  simp only [zf,if_false,jh,j8,jr,jv,zb,zi,zs,zl,hN1,hN2,hN3,hA,zr,e1,e2,e3,jW]
  unfold j2i
  generalize jX v.name=p1
  generalize jX v.alias=p2
  generalize jX v.on'=p3
  generalize (v.alias == ([]:List UInt8))=q1
  generalize (v.on' == ([]:List UInt8))=q2
  generalize (v.name == ([]:List UInt8))=q3
  generalize (v.name == ([111,110]:List UInt8))=q4
  generalize v.args.isEmpty=q5 at *
  generalize v.sels.isEmpty=q6
  generalize yU v.args=a0 at *
  by_cases k1:v.kind=1
  ·rw [k1]; cases p1 <;> cases q1 <;> cases p2 <;> cases q2 <;> cases a0 <;> simp
  by_cases k2:v.kind=2
  ·rw [k2]; cases p1 <;> cases q4 <;> cases q1 <;> cases q2 <;> cases q5 <;> cases q6 <;> simp at hempty <;> simp [hempty]
  by_cases k3:v.kind=3
  ·rw [k3]; cases q3 <;> cases q1 <;> cases q2 <;> cases p3 <;> cases q5 <;> cases q6 <;> simp at hempty <;> simp [hempty]
  simp [k1,k2,k3]
open Classical in
noncomputable def zL (room:Int) (v:TSel):Bool:=decide (qC [.i v.kind,.s v.alias,.s v.name,.s v.on',.sl (v.args.map TArg.enc),.sl (v.dirs.map TDir.enc),.sl (v.sels.map TSel.enc),.i room] = .ret [.b true])
theorem jgB {room:Int} {v:TSel} {b:Bool} (h:qC [.i v.kind,.s v.alias,.s v.name,.s v.on',.sl (v.args.map TArg.enc),.sl (v.dirs.map TDir.enc),.sl (v.sels.map TSel.enc),.i room] = .ret [.b b]):zL room v=b:=by
 unfold zL
 rw [h]
 cases b <;> simp
theorem jfR (ls:List TSel) (hl:ls.length ≤ 1048576) (room k:Int) (hr:0 < room) (hr2:room ≤ 10) (a b c:List UInt8) (A D:List (List DC))
  (h:∀ x ∈ ls,qC [.i x.kind,.s x.alias,.s x.name,.s x.on',.sl (x.args.map TArg.enc),.sl (x.dirs.map TDir.enc),.sl (x.sels.map TSel.enc),.i (room - 1)] = .ret [.b (zL (room - 1) x)]) :
  jR K5 [.i room,.i 0,.i k,.s a,.s b,.s c,.sl A,.sl D,.sl (ls.map TSel.enc)]=if ls.all (zL (room - 1))=true then .ex 0 [] else .ret [.b false]:=by
 rw [show (0:Int)=((0:Nat):Int) from rfl,kb (l:=ls) (st:=fun i=>[.i room,.i (i:Int),.i k,.s a,.s b,.s c,.sl A,.sl D,.sl (ls.map TSel.enc)]) (p:=fun x=>!zL (room - 1) x) (stop:=fun i _=>.ret [.b false]) (fin:=.ex 0 []) (fun i hi=>?step) (fun _ _=>Out.esc_ret _) ?fin (jG _ _),qU]
 ·rw [show (ls.any fun x=>!zL (room - 1) x) = !(ls.all (zL (room - 1))) by rw [js]]
  cases ls.all (zL (room - 1)) <;> simp
 case step =>
  have hx:=h ls[i] (je hi)
  have w:IntKind.i64.wrap (room - 1)=room - 1:=kp (by omega) (by omega)
  have c2:0 ≤ (i:Int) ∧ (i:Int) < (ls.length:Int):=by omega
  have d:decide ((i:Int) < (ls.length:Int))=true:=decide_eq_true (by omega)
  simp only [K5,jr,jv,zb,zi,zs,zl,j7,zm,jq hi,TSel.enc_eq,d,c2,w,hx,zr,true_and,and_self,if_true,decide_true]
  cases zL (room - 1) ls[i] <;> simp [jp hi (show ls.length ≤ 9223372036854775807 by omega)]
 case fin=>simp [K5]
noncomputable def jeE (deep left:Int) (v:TSel):Int:=match po [.i v.kind,.s v.alias,.s v.name,.s v.on',.sl (v.args.map TArg.enc),.sl (v.dirs.map TDir.enc),.sl (v.sels.map TSel.enc),.i deep,.i left] with
 | .ret w=>(gi w 1)
 | _=>0
def j8X (v:TSel):Prop:=∀ room:Int,0 ≤ room → room ≤ 10 →
 qC [.i v.kind,.s v.alias,.s v.name,.s v.on',.sl (v.args.map TArg.enc),.sl (v.dirs.map TDir.enc),.sl (v.sels.map TSel.enc),.i room] = .ret [.b (zL room v)] ∧
 ∀ left:Int,0 ≤ left → left ≤ 1048576 →
  po [.i v.kind,.s v.alias,.s v.name,.s v.on',.sl (v.args.map TArg.enc),.sl (v.dirs.map TDir.enc),.sl (v.sels.map TSel.enc),.i room,.i left] = .ret [.b (zL room v && decide ((kq v:Int) ≤ left)),.i (jeE room left v)] ∧
  (zL room v=true → (kq v:Int) ≤ left → jeE room left v=left - kq v)
noncomputable def jge (deep:Int) (i:Nat) (left:Int) (x:TSel):Sum Int Out :=
 if (zL deep x && decide ((kq x:Int) ≤ left))=true then .inl (left - kq x) else .inr (.ret [.b false,.i (jeE deep left x)])
theorem jem (deep:Int):∀ (l:List TSel) (i:Nat) (left:Int),(l.all (zL deep)=true ∧ (((l.map kq).sum:Nat):Int) ≤ left ∧ goE (jge deep) (fun s=>.ex 1 [.i s]) i left l = .ex 1 [.i (left - ((l.map kq).sum:Nat))]) ∨
  ((l.all (zL deep) && decide ((((l.map kq).sum:Nat):Int) ≤ left))=false ∧ ((∃ y,goE (jge deep) (fun s=>.ex 1 [.i s]) i left l = .ret [.b false,.i y]) ∨ (l=[] ∧ left < 0)))
 | [],i,left=>by
  by_cases h:left < 0
  ·exact .inr ⟨by simp; omega,.inr ⟨rfl,h⟩⟩
  ·exact .inl ⟨rfl,by simp; omega,by rw [goE]; simp⟩
 | x :: l,i,left=>by
  rw [goE]
  unfold jge
  rw [List.all_cons,jL,List.sum_cons]
  cases hs:zL deep x with
  | false =>
   right
   exact ⟨by simp,.inl ⟨_,rfl⟩⟩
  | true =>
   by_cases hc:(kq x:Int) ≤ left
   ·rw [if_pos (by simp [hc])]
    have ih:=jem deep l (i + 1) (left - kq x)
    rcases ih with ⟨h1,h2,h3⟩ | ⟨h1,h2⟩
    ·left
     refine ⟨by simpa using h1,by omega,?_⟩
     show goE (jge deep) _ (i + 1) (left - kq x) l=_
     rw [h3]
     congr 3
     omega
    ·right
     refine ⟨?_,?_⟩
     ·rw [jC]
      cases ha:l.all (zL deep) with
      | false=>rfl
      | true =>
       rw [ha] at h1
       simp only [jC,decide_eq_false_iff_not] at h1 ⊢
       omega
     ·rcases h2 with ⟨y,hy⟩ | ⟨_,h2⟩
      ·exact .inl ⟨y,hy⟩
      ·omega
   ·right
    rw [if_neg (by simp [hc])]
    exact ⟨by simp; omega,.inl ⟨_,rfl⟩⟩
theorem jih (ls:List TSel) (hl:ls.length ≤ 1048576) (deep:Int) (hd:0 < deep) (hd2:deep ≤ 10) (h:∀ x ∈ ls,j8X x) (left:Int) (h0:0 ≤ left) (h1:left ≤ 1048576) :
  jR px [.i deep,.sl (ls.map TSel.enc),.i (ls.length:Int),.i 0,.i left]=goE (jge (deep - 1)) (fun s=>.ex 1 [.i s]) 0 left ls:=by
 have:=j7v (l:=ls) (st:=fun i (s:Int)=>[.i deep,.sl (ls.map TSel.enc),.i (ls.length:Int),.i (i:Int),.i s]) (f:=jge (deep - 1)) (fin:=fun s=>.ex 1 [.i s]) (F:=px) (fun i s=>0 ≤ s ∧ s ≤ 1048576) ?step ?fin ls.length 0 left (by omega) ⟨h0,h1⟩
 ·rw [List.drop_zero] at this
  exact this
 case fin =>
  intro s _
  exact ⟨by simp [px],jG _ _⟩
 case step =>
  intro i s hi hs
  have hx:=((h ls[i] (je hi)) (deep - 1) (by omega) (by omega)).2 s hs.1 hs.2
  have w:IntKind.i64.wrap (deep - 1)=deep - 1:=kp (by omega) (by omega)
  have c2:0 ≤ (i:Int) ∧ (i:Int) < (ls.length:Int):=by omega
  have d:decide ((i:Int) < (ls.length:Int))=true:=decide_eq_true (by omega)
  have wi:=jp hi (show ls.length ≤ 9223372036854775807 by omega)
  unfold jge
  cases hb:(zL (deep - 1) ls[i] && decide ((kq ls[i]:Int) ≤ s)) with
  | true =>
   left
   have hb2:=hb
   rw [jj,decide_eq_true_eq] at hb2
   have hle:=hx.2 hb2.1 hb2.2
   have hx1:=hx.1
   rw [hb,hle] at hx1
   refine ⟨s - kq ls[i],rfl,⟨by omega,by omega⟩,?_⟩
   simp only [px,jr,jv,zb,zi,zs,zl,j7,zm,jq hi,TSel.enc_eq,d,c2,w,hx1,zr,true_and,and_self,if_true,decide_true,jh,zf,if_false,j9,wi]
  | false =>
   right
   have hx1:=hx.1
   rw [hb] at hx1
   refine ⟨_,rfl,Out.esc_ret _,?_⟩
   simp only [px,jr,jv,zb,zi,zs,zl,j7,zm,jq hi,TSel.enc_eq,d,c2,w,hx1,zr,true_and,and_self,if_true,decide_true,jn,jd]
theorem j9o (v:TSel) (hw:jQ v.enc ≤ 1048576) (room:Int) (hr:0 ≤ room) (hr2:room ≤ 10) (h:∀ x ∈ v.sels,j8X x) :
  qC [.i v.kind,.s v.alias,.s v.name,.s v.on',.sl (v.args.map TArg.enc),.sl (v.dirs.map TDir.enc),.sl (v.sels.map TSel.enc),.i room] = .ret [.b (!(room == 0) && (j2i v && (yU v.args && (pP v.dirs && v.sels.all (zL (room - 1))))))]:=by
 rw [TSel.enc_eq] at hw
 simp only [jQ] at hw
 have n1:v.name.length ≤ 1048576:=by simp only [DC.wt] at hw; omega
 have n2:v.alias.length ≤ 1048576:=by simp only [DC.wt] at hw; omega
 have n3:v.on'.length ≤ 1048576:=by simp only [DC.wt] at hw; omega
 have hA:=j7H v.args (by omega)
 have hD:=Zp v.dirs (by omega)
 have hN:=jfI v n1 n2 n3
 obtain ⟨hl,_⟩:=kH (l:=v.sels) (enc:=TSel.enc) (n:=1048576) (by omega)
 rw [j6Q]
 simp only [j1C,jr,jv,zb,zi,zs,zl,hA,hD,hN,zr]
 by_cases h0:room=0
 ·subst h0; simp
 ·have e:(room == 0)=false:=beq_eq_false_iff_ne.2 h0
  have hlp:=jfR v.sels hl room v.kind (by omega) hr2 v.alias v.name v.on' (v.args.map TArg.enc) (v.dirs.map TDir.enc) (fun x hx=>(h x hx (room - 1) (by omega) (by omega)).1)
  rw [e]
  generalize v.sels.all (zL (room - 1))=q at *
  cases j2i v with
  | false=>simp
  | true =>
   cases yU v.args with
   | false=>simp
   | true =>
    cases pP v.dirs with
    | false=>simp
    | true =>
     simp only [jh,jn,zf,if_false,j8,jr,jv,zb,zi,zs,zl,hlp,jC]
     cases q <;> simp
theorem j57 (v:TSel):jQ v.enc ≤ 1048576 → j8X v:=by
 induction v using TSel.ind with | h v ih =>
 intro hw room hr hr2
 have hw2:=hw
 rw [TSel.enc_eq] at hw2
 simp only [jQ] at hw2
 obtain ⟨hl,hx⟩:=kH (l:=v.sels) (enc:=TSel.enc) (n:=1048576) (by omega)
 have hs:∀ x ∈ v.sels,j8X x:=fun x hm=>ih x hm (hx x hm)
 have hsp:=j9o v hw room hr hr2 hs
 have hR:=jgB hsp
 refine ⟨by rw [hR]; exact hsp,fun left h0 h1=>?_⟩
 have hnode:=jhq v hw room left h0 h1
 have key:∃ y:Int,po [.i v.kind,.s v.alias,.s v.name,.s v.on',.sl (v.args.map TArg.enc),.sl (v.dirs.map TDir.enc),.sl (v.sels.map TSel.enc),.i room,.i left] = .ret [.b (zL room v && decide ((kq v:Int) ≤ left)),.i y] ∧ (zL room v=true → (kq v:Int) ≤ left → y=left - kq v):=by
  rw [hnode,hR,jch]
  by_cases hn:left - 1 < 0
  ·rw [if_pos (by simp [hn])]
   have e:decide (((1 + (v.sels.map kq).sum:Nat):Int) ≤ left)=false:=decide_eq_false (by omega)
   exact ⟨left - 1,by rw [e,jT],fun _ h=>by omega⟩
  have hn':decide (left - 1 < 0)=false:=decide_eq_false hn
  by_cases hd:room=0
  ·subst hd
   rw [if_pos (by simp)]
   exact ⟨left - 1,by simp,fun h=>by simp at h⟩
  have hd':(room == 0)=false:=beq_eq_false_iff_ne.2 hd
  rw [hn',hd']
  cases pP v.dirs with
  | false=>exact ⟨left - 1,by simp,fun h=>by simp at h⟩
  | true =>
   cases j2i v with
   | false=>exact ⟨left - 1,by simp,fun h=>by simp at h⟩
   | true =>
    cases yU v.args with
    | false=>exact ⟨left - 1,by simp,fun h=>by simp at h⟩
    | true =>
     simp only [jh,jn,jW,Bool.and_self,jC,zf,if_false]
     rw [jih v.sels hl room (by omega) hr2 hs (left - 1) (by omega) (by omega)]
     rcases jem (room - 1) v.sels 0 (left - 1) with ⟨a1,a2,a3⟩ | ⟨a1,a2⟩
     ·rw [a3]
      refine ⟨left - 1 - ((v.sels.map kq).sum:Nat),?_,fun _ _=>by omega⟩
      have e:decide (((1 + (v.sels.map kq).sum:Nat):Int) ≤ left)=true:=decide_eq_true (by omega)
      rw [a1,e]
      simp
     ·rcases a2 with ⟨y,hy⟩ | ⟨_,a2⟩
      ·rw [hy]
       have e:(v.sels.all (zL (room - 1)) && decide (((1 + (v.sels.map kq).sum:Nat):Int) ≤ left))=false:=by
        cases ha:v.sels.all (zL (room - 1)) with
        | false=>rfl
        | true =>
         rw [ha] at a1
         simp only [jC,decide_eq_false_iff_not] at a1 ⊢
         omega
       rw [e]
       refine ⟨y,rfl,fun p q=>?_⟩
       rw [p] at e
       simp only [jC,decide_eq_false_iff_not] at e
       omega
      ·omega
 obtain ⟨y,hy,hy2⟩:=key
 have e:jeE room left v=y:=by unfold jeE; rw [hy]; rfl
 rw [e]
 exact ⟨hy,hy2⟩
noncomputable def j2h (v:TSel):Bool:=zL 10 v && decide ((kq v:Int) ≤ 120)
def pT (l:List TSel):Nat:=(l.map kq).sum
noncomputable def zx (l:List TSel):Bool:=l.all (zL 10) && decide ((pT l:Int) ≤ 120)
theorem j3z (ls:List TSel) (hl:ls.length ≤ 1048576) (hw:∀ x ∈ ls,jQ x.enc ≤ 1048576) :
  ∀ (m i:Nat) (left:Int),i + m=ls.length → -1 ≤ left → left ≤ 1048576 → jR J4 [.sl (ls.map TSel.enc),.i left,.i (i:Int)] = .ex 0 [.sl (ls.map TSel.enc),.i (if left < 0 then -1 else j26 left (pT (ls.drop i)))]
 | 0,i,left,hi,h0,h1=>by
  have:i=ls.length:=by omega
  subst this
  rw [List.drop_length]
  refine qL ?_
  have d:decide ((ls.length:Int) < (ls.length:Int))=false:=decide_eq_false (by omega)
  simp only [J4,jr,jv,zb,zi,zs,zl,zm,d,zf,if_false,j8,List.map_nil,List.sum_nil,pT]
  congr 4
  unfold j26
  split
  ·omega
  ·rw [if_pos (by omega)]; simp
 | m + 1,i,left,hi,h0,h1=>by
  have hlt:i < ls.length:=by omega
  have d:decide ((i:Int) < (ls.length:Int))=true:=decide_eq_true (by omega)
  by_cases hneg:left < 0
  ·have e:decide (left ≥ 0)=false:=decide_eq_false (by omega)
   have:left = -1:=by omega
   subst this
   rw [if_pos (by omega)]
   refine qL ?_
   simp only [J4,jr,jv,zb,zi,zs,zl,zm,d,e,zf,if_false,if_true,j8]
  ·have e:decide (left ≥ 0)=true:=decide_eq_true (by omega)
   have hx:=jfH ls[i] (hw _ (je hlt)) left (by omega) h1
   have c2:0 ≤ (i:Int) ∧ (i:Int) < (ls.length:Int):=by omega
   have w:=jp hlt (show ls.length ≤ 9223372036854775807 by omega)
   rw [if_neg hneg]
   have hstep:J4 [.sl (ls.map TSel.enc),.i left,.i (i:Int)] = .norm [.sl (ls.map TSel.enc),.i (j26 left (kq ls[i])),.i ((i + 1:Nat):Int)]:=by
    simp only [J4,jr,jv,zb,zi,zs,zl,zm,d,e,if_true,j8,j7,jq hlt,TSel.enc_eq,c2,true_and,and_self,decide_true,hx,zr,j9,w]
   rw [JQ hstep]
   have hb:-1 ≤ j26 left (kq ls[i]) ∧ j26 left (kq ls[i]) ≤ 1048576:=by
    unfold j26
    split <;> omega
   rw [j3z ls hl hw m (i + 1) _ (by omega) hb.1 hb.2,List.drop_eq_getElem_cons hlt]
   unfold pT
   rw [jL,List.sum_cons]
   congr 4
   unfold j26
   by_cases hc:(kq ls[i]:Int) ≤ left
   ·rw [if_pos hc,if_neg (by omega)]
    by_cases hc2:((((ls.drop (i + 1)).map kq).sum:Nat):Int) ≤ left - (kq ls[i]:Int)
    ·rw [if_pos hc2,if_pos (by omega)]; omega
    ·rw [if_neg hc2,if_neg (by omega)]
   ·rw [if_neg hc,if_pos (by omega),if_neg (by omega)]
theorem jbs (ls:List TSel) (hl:ls.length ≤ 1048576) (hw:∀ x ∈ ls,jQ x.enc ≤ 1048576) (left:Int) (h0:0 ≤ left) :
  jR J3 [.sl (ls.map TSel.enc),.i left,.i 0]=if ls.all (zL 10)=true then .ex 2 [.i left] else .ret [.b false]:=by
 have e:decide (left ≥ 0)=true:=decide_eq_true (by omega)
 rw [show (0:Int)=((0:Nat):Int) from rfl,kb (l:=ls) (st:=fun i=>[.sl (ls.map TSel.enc),.i left,.i (i:Int)]) (p:=fun x=>!zL 10 x) (stop:=fun i _=>.ret [.b false]) (fin:=.ex 2 [.i left]) (fun i hi=>?step) (fun _ _=>Out.esc_ret _) ?fin (jG _ _),qU]
 ·rw [show (ls.any fun x=>!zL 10 x) = !(ls.all (zL 10)) by rw [js]]
  cases ls.all (zL 10) <;> simp
 case step =>
  have hx:=(j57 ls[i] (hw _ (je hi)) 10 (by omega) (by omega)).1
  have c2:0 ≤ (i:Int) ∧ (i:Int) < (ls.length:Int):=by omega
  have d:decide ((i:Int) < (ls.length:Int))=true:=decide_eq_true (by omega)
  simp only [J3,jr,jv,zb,zi,zs,zl,j7,zm,jq hi,TSel.enc_eq,d,e,c2,hx,j8,zr,true_and,and_self,if_true,decide_true]
  rcases zt (zL 10 ls[i]) with q | q <;> simp [q,jp hi (show ls.length ≤ 9223372036854775807 by omega)]
 case fin=>simp [J3]
theorem j9p (ls:List TSel) (hw:DC.wt (.sl (ls.map TSel.enc)) ≤ 1048576):Yg [.sl (ls.map TSel.enc)] = .ret [.b (zx ls)]:=by
 obtain ⟨hl,hx⟩:=kH hw
 rw [jby]
 simp only [j6d,jr,jv,zb,zi,zs,zl]
 have h1:=j3z ls hl hx ls.length 0 120 (by omega) (by omega) (by omega)
 rw [List.drop_zero,if_neg (by omega),jI] at h1
 rw [h1]
 simp only [jc,if_true,jr,jv,zb,zi,zs,zl]
 unfold j26 zx
 by_cases hc:(pT ls:Int) ≤ 120
 ·rw [if_pos hc,jbs ls hl hx _ (by omega),decide_eq_true hc]
  have e:decide ((120:Int) - (pT ls:Int) ≥ 0)=true:=decide_eq_true (by omega)
  cases ls.all (zL 10)
  ·simp
  ·simp only [if_true,jc,jr,zi,e,Bool.and_self]
 ·rw [if_neg hc,decide_eq_false hc,jT]
  have:jR J3 [.sl (ls.map TSel.enc),.i (-1),.i 0] = .ex 2 [.i (-1)]:=by
   refine qL ?_
   simp only [J3,jr,jv,zb,zi,zs,zl]
   cases decide ((0:Int) < (((ls.map TSel.enc).length:Nat):Int)) <;> simp
  rw [this]
  simp
noncomputable def jeT (i:Nat) (left:Int) (x:TSel):Sum Int Out :=
 if (zL 10 x && decide ((kq x:Int) ≤ left))=true then .inl (left - kq x) else .inr (.ret [.b false])
theorem jcg (fin:Int → Out):∀ (l:List TSel) (i:Nat) (left:Int),0 ≤ left → goE jeT fin i left l=if (l.all (zL 10) && decide ((pT l:Int) ≤ left))=true then fin (left - pT l) else .ret [.b false]
 | [],i,left,h=>by
  rw [goE]
  simp [pT,h]
 | x :: l,i,left,h=>by
  rw [goE]
  have hc:pT (x :: l)=kq x + pT l:=by simp [pT]
  rw [hc,List.all_cons]
  unfold jeT
  cases hs:zL 10 x with
  | false=>simp
  | true =>
   by_cases hle:(kq x:Int) ≤ left
   ·rw [if_pos (by simp [hle])]
    show goE jeT fin (i + 1) (left - kq x) l=_
    rw [jcg fin l (i + 1) (left - kq x) (by omega)]
    rw [show decide ((pT l:Int) ≤ left - (kq x:Int))=decide (((kq x + pT l:Nat):Int) ≤ left) from decide_eq_decide.2 (by omega),show left - (kq x:Int) - (pT l:Int)=left - ((kq x + pT l:Nat):Int) by omega,jC]
   ·rw [if_neg (by simp [hle]),if_neg (by simp; omega)]
theorem j80 (ls:List TSel) (hw:DC.wt (.sl (ls.map TSel.enc)) ≤ 1048576):Qg [.sl (ls.map TSel.enc)] = .ret [.b (zx ls && !ls.isEmpty)]:=by
 obtain ⟨hl,hx⟩:=kH hw
 rw [jaC]
 simp only [j4i,jr,jv,zb,zi,zs,zl,zm]
 have:=j7v (l:=ls) (st:=fun i (s:Int)=>[.sl (ls.map TSel.enc),.sl (ls.map TSel.enc),.i (ls.length:Int),.i (i:Int),.i s]) (f:=jeT) (fin:=fun s=>.ex 0 [.sl (ls.map TSel.enc)]) (F:=JF) (fun i s=>0 ≤ s ∧ s ≤ 1048576) ?step ?fin ls.length 0 120 (by omega) ⟨by omega,by omega⟩
 ·rw [List.drop_zero,jI] at this
  rw [this,jcg _ _ _ _ (by omega)]
  have e3:decide ((ls.length:Int) > 0) = !ls.isEmpty:=by cases ls with | nil=>rfl | cons a l=>exact decide_eq_true (by simp)
  rw [show (ls.all (zL 10) && decide ((pT ls:Int) ≤ 120))=zx ls from rfl]
  cases zx ls
  ·simp
  ·simp only [if_true,jc,jr,zl,zm,e3,jC]
 case fin =>
  intro s _
  exact ⟨by simp [JF],jG _ _⟩
 case step =>
  intro i s hi hs
  have hx:=((j57 ls[i] (hx _ (je hi))) 10 (by omega) (by omega)).2 s hs.1 hs.2
  have c2:0 ≤ (i:Int) ∧ (i:Int) < (ls.length:Int):=by omega
  have d:decide ((i:Int) < (ls.length:Int))=true:=decide_eq_true (by omega)
  have wi:=jp hi (show ls.length ≤ 9223372036854775807 by omega)
  unfold jeT
  cases hb:(zL 10 ls[i] && decide ((kq ls[i]:Int) ≤ s)) with
  | true =>
   left
   have hb2:=hb
   rw [jj,decide_eq_true_eq] at hb2
   have hle:=hx.2 hb2.1 hb2.2
   have hx1:=hx.1
   rw [hb,hle] at hx1
   refine ⟨s - kq ls[i],rfl,⟨by omega,by omega⟩,?_⟩
   simp only [JF,jr,jv,zb,zi,zs,zl,j7,zm,jq hi,TSel.enc_eq,d,c2,hx1,zr,true_and,and_self,if_true,decide_true,jh,zf,if_false,j9,wi]
  | false =>
   right
   have hx1:=hx.1
   rw [hb] at hx1
   refine ⟨_,rfl,Out.esc_ret _,?_⟩
   simp only [JF,jr,jv,zb,zi,zs,zl,j7,zm,jq hi,TSel.enc_eq,d,c2,hx1,zr,true_and,and_self,if_true,decide_true,jn,jd]
theorem j65 (ok:TValue → Bool) (l:List TValue) (hl:l.length ≤ 1048576) (hc:∀ x ∈ l,KP [.i x.kind,.s x.text,.sl (x.items.map TValue.enc),.sl (x.names.map S1)] = .ret [.b (!ok x)]):kr [.sl (l.map TValue.enc)] = .ret [.b (!(l.all ok))]:=by
 rw [yK]
 simp only [pC,jr,zl]
 rw [zF]
 simp only [pZ,jr,zl,zm]
 rw [show (0:Int)=((0:Nat):Int) from rfl,kb (l:=l) (st:=fun i=>[.sl (l.map TValue.enc),.i (l.length:Int),.i (i:Int)]) (p:=fun n=>!ok n) (stop:=fun i _=>.ret [.i (i:Int)]) (fin:=.ex 0 []) (fun i hi=>?step) (fun _ _=>Out.esc_ret _) ?fin (jG _ _),zS]
 ·rw [js]
  cases hf:l.findIdx? fun n=>!ok n with
  | none =>
   have:(l.any fun n=>!ok n)=false:=by
    rw [List.any_eq_false]
    intro x hx
    have:=List.findIdx?_eq_none_iff.1 hf x hx
    simpa using this
   rw [this]
   simp
  | some j =>
   obtain ⟨hj,h1,h2⟩:=List.findIdx?_eq_some_iff_getElem.1 hf
   have:(l.any fun n=>!ok n)=true:=List.any_eq_true.2 ⟨l[j],je hj,h1⟩
   rw [this]
   simp [hj]
 case step =>
  have c2:0 ≤ (i:Int) ∧ (i:Int) < (l.length:Int):=by omega
  have d:decide ((i:Int) < (l.length:Int))=true:=decide_eq_true (by omega)
  have he:KP [.i l[i].kind,.s l[i].text,.sl (l[i].items.map TValue.enc),.sl (l[i].names.map S1)] = .ret [.b (!ok l[i])]:=hc _ (je hi)
  simp only [kF,jr,jv,zb,zi,zs,zl,j7,zm,jq hi,TValue.enc_eq,d,c2,he,zr,true_and,and_self,if_true]
  cases ok l[i] <;> simp [jp hi (show l.length ≤ 9223372036854775807 by omega)]
 case fin=>simp [kF]
theorem j3u (ok:TDir → Bool) (l:List TDir) (hl:l.length ≤ 1048576) (hc:∀ x ∈ l,Ji [.s x.name,.sl (x.args.map TArg.enc)] = .ret [.b (!ok x)]):kf [.sl (l.map TDir.enc)] = .ret [.b (!(l.all ok))]:=by
 rw [yL]
 simp only [pD,jr,zl]
 rw [zG]
 simp only [q8,jr,zl,zm]
 rw [show (0:Int)=((0:Nat):Int) from rfl,kb (l:=l) (st:=fun i=>[.sl (l.map TDir.enc),.i (l.length:Int),.i (i:Int)]) (p:=fun n=>!ok n) (stop:=fun i _=>.ret [.i (i:Int)]) (fin:=.ex 0 []) (fun i hi=>?step) (fun _ _=>Out.esc_ret _) ?fin (jG _ _),zS]
 ·rw [js]
  cases hf:l.findIdx? fun n=>!ok n with
  | none =>
   have:(l.any fun n=>!ok n)=false:=by
    rw [List.any_eq_false]
    intro x hx
    have:=List.findIdx?_eq_none_iff.1 hf x hx
    simpa using this
   rw [this]
   simp
  | some j =>
   obtain ⟨hj,h1,h2⟩:=List.findIdx?_eq_some_iff_getElem.1 hf
   have:(l.any fun n=>!ok n)=true:=List.any_eq_true.2 ⟨l[j],je hj,h1⟩
   rw [this]
   simp [hj]
 case step =>
  have c2:0 ≤ (i:Int) ∧ (i:Int) < (l.length:Int):=by omega
  have d:decide ((i:Int) < (l.length:Int))=true:=decide_eq_true (by omega)
  have he:Ji [.s l[i].name,.sl (l[i].args.map TArg.enc)] = .ret [.b (!ok l[i])]:=hc _ (je hi)
  simp only [kG,jr,jv,zb,zi,zs,zl,j7,zm,jq hi,TDir.enc_eq,d,c2,he,zr,true_and,and_self,if_true]
  cases ok l[i] <;> simp [jp hi (show l.length ≤ 9223372036854775807 by omega)]
 case fin=>simp [kG]
theorem j27 (ok:TArg → Bool) (l:List TArg) (hl:l.length ≤ 1048576) (hc:∀ x ∈ l,ze [.s x.name,.i x.value.kind,.s x.value.text,.sl (x.value.items.map TValue.enc),.sl (x.value.names.map S1)] = .ret [.b (!ok x)]):ko [.sl (l.map TArg.enc)] = .ret [.b (!(l.all ok))]:=by
 rw [yu]
 simp only [pu,jr,zl]
 rw [yR]
 simp only [pI,jr,zl,zm]
 rw [show (0:Int)=((0:Nat):Int) from rfl,kb (l:=l) (st:=fun i=>[.sl (l.map TArg.enc),.i (l.length:Int),.i (i:Int)]) (p:=fun n=>!ok n) (stop:=fun i _=>.ret [.i (i:Int)]) (fin:=.ex 0 []) (fun i hi=>?step) (fun _ _=>Out.esc_ret _) ?fin (jG _ _),zS]
 ·rw [js]
  cases hf:l.findIdx? fun n=>!ok n with
  | none =>
   have:(l.any fun n=>!ok n)=false:=by
    rw [List.any_eq_false]
    intro x hx
    have:=List.findIdx?_eq_none_iff.1 hf x hx
    simpa using this
   rw [this]
   simp
  | some j =>
   obtain ⟨hj,h1,h2⟩:=List.findIdx?_eq_some_iff_getElem.1 hf
   have:(l.any fun n=>!ok n)=true:=List.any_eq_true.2 ⟨l[j],je hj,h1⟩
   rw [this]
   simp [hj]
 case step =>
  have c2:0 ≤ (i:Int) ∧ (i:Int) < (l.length:Int):=by omega
  have d:decide ((i:Int) < (l.length:Int))=true:=decide_eq_true (by omega)
  have he:ze [.s l[i].name,.i l[i].value.kind,.s l[i].value.text,.sl (l[i].value.items.map TValue.enc),.sl (l[i].value.names.map S1)] = .ret [.b (!ok l[i])]:=hc _ (je hi)
  simp only [kz,jr,jv,zb,zi,zs,zl,j7,zm,jq hi,TArg.enc_eq,d,c2,he,zr,true_and,and_self,if_true]
  cases ok l[i] <;> simp [jp hi (show l.length ≤ 9223372036854775807 by omega)]
 case fin=>simp [kz]
def qT (v:TValue):Bool:=(v.items.attach.all fun x=>qT x.1) && v.kind != 1
termination_by SizeOf.sizeOf v
decreasing_by exact TValue.lt x.2
theorem j9M (v:TValue):qT v=(v.items.all qT && v.kind != 1):=by
 rw [qT]
 congr 1
 rw [List.all_subtype (g:=qT) (fun _ _=>rfl)]
 simp
theorem jbg (v:TValue):jQ v.enc ≤ 1048576 → Qm [.i v.kind,.s v.text,.sl (v.items.map TValue.enc),.sl (v.names.map S1)] = .ret [.b (qT v)]:=by
 induction v using TValue.ind with | h v ih =>
 intro hw
 rw [TValue.enc_eq] at hw
 simp only [jQ] at hw
 obtain ⟨hl,hx⟩:=kH (l:=v.items) (enc:=TValue.enc) (n:=1048576) (by omega)
 rw [j6U,j9M]
 simp only [j1G,jr,jv,zb,zi,zs,zl]
 rw [show (0:Int)=((0:Nat):Int) from rfl,kb (l:=v.items) (st:=fun i=>[.i (i:Int),.i v.kind,.s v.text,.sl (v.items.map TValue.enc),.sl (v.names.map S1)]) (p:=fun x=>!qT x) (stop:=fun i _=>.ret [.b false]) (fin:=.ex 0 [.i v.kind,.s v.text,.sl (v.items.map TValue.enc),.sl (v.names.map S1)]) (fun i hi=>?step) (fun _ _=>Out.esc_ret _) ?fin (jG _ _),qU]
 ·rw [show (v.items.any fun x=>!qT x) = !(v.items.all qT) by rw [js]]
  cases v.items.all qT <;> simp
 case step =>
  have hx:=ih v.items[i] (je hi) (hx _ (je hi))
  have c2:0 ≤ (i:Int) ∧ (i:Int) < (v.items.length:Int):=by omega
  have d:decide ((i:Int) < (v.items.length:Int))=true:=decide_eq_true (by omega)
  simp only [Vy,jr,jv,zb,zi,zs,zl,j7,zm,jq hi,TValue.enc_eq,d,c2,hx,zr,true_and,and_self,if_true,decide_true]
  rcases zt (qT v.items[i]) with q | q <;> simp [q,jp hi (show v.items.length ≤ 9223372036854775807 by omega)]
 case fin=>simp [Vy]
theorem j55 (v:TValue) (hw:jQ v.enc ≤ 1048576):V7 [.i v.kind,.s v.text,.sl (v.items.map TValue.enc),.sl (v.names.map S1)] = .ret [.b (qT v)]:=by
 rw [j8s]
 simp only [j2J,jr,jv,zb,zi,zs,zl,jbg v hw,zr]
theorem j5q (v:TValue):jQ v.enc ≤ 1048576 → Kk [.i v.kind,.s v.text,.sl (v.items.map TValue.enc),.sl (v.names.map S1)] = .ret [.b (qT v)]:=by
 induction v using TValue.ind with | h v ih =>
 intro hw
 rw [TValue.enc_eq] at hw
 simp only [jQ] at hw
 obtain ⟨hl,hx⟩:=kH (l:=v.items) (enc:=TValue.enc) (n:=1048576) (by omega)
 have hc:kr [.sl (v.items.map TValue.enc)] = .ret [.b (!(v.items.all qT))]:=j65 qT v.items hl fun x hm=>by
  rw [j5U]
  simp only [j13,jr,jv,zb,zi,zs,zl,ih x hm (hx x hm),zr]
 rw [j8O,j9M]
 simp only [j30,jr,jv,zb,zi,zs,zl,hc,zr]
 generalize v.items.all qT=q
 rcases zt (v.kind != 1) with h | h <;> rw [h] <;> cases q <;> simp
def jaT (v:TValue):Bool:=v.kind == 0 && (v.text == [] && (v.items.isEmpty && v.names.isEmpty))
theorem jg3 {α:Type} (l:List α) (f:α → List DC):(((l.map f).length:Int) == 0)=l.isEmpty:=by
 cases l with
 | nil=>rfl
 | cons a l=>exact beq_eq_false_iff_ne.2 (by simp; omega)
theorem j8m (v:TValue):Vj [.i v.kind,.s v.text,.sl (v.items.map TValue.enc),.sl (v.names.map S1)] = .ret [.b (jaT v)]:=by
 have hp:qr [.i v.kind,.s v.text,.sl (v.items.map TValue.enc),.sl (v.names.map S1)] = .ret [.b (v.items.isEmpty && v.names.isEmpty)]:=by
  rw [j3I]
  simp only [j1u,jr,jv,zb,zi,zs,zl,jg3]
  cases v.items.isEmpty <;> simp
 rw [j4O]
 simp only [ZK,jr,jv,zb,zi,zs,zl,hp,zr,jaT]
 generalize (v.items.isEmpty && v.names.isEmpty)=q
 generalize (v.kind == 0)=p1
 generalize (v.text == ([]:List UInt8))=p2
 cases p1 <;> cases p2 <;> simp
theorem j9s (v:TValue):Ky [.i v.kind,.s v.text,.sl (v.items.map TValue.enc),.sl (v.names.map S1),.i 0,.s [],.sl [],.sl []] = .ret [.b (jaT v)]:=by
 rw [j5A]
 have e0:(v.kind != 0) = !(v.kind == 0):=rfl
 have e1:(((v.items.map TValue.enc).length:Int) != (([]:List (List DC)).length:Int)) = !v.items.isEmpty:=by rw [← jg3 v.items TValue.enc]; rfl
 have e2:(((v.names.map S1).length:Int) != (([]:List (List DC)).length:Int)) = !v.names.isEmpty:=by rw [← jg3 v.names S1]; rfl
 simp only [j0J,jr,jv,zb,zi,zs,zl,e0,e1,e2,jaT]
 generalize hp1:(v.kind == 0)=p1
 generalize hp2:(v.text == ([]:List UInt8))=p2
 cases p1
 ·simp
 cases p2
 ·simp
 cases hi:v.items with
 | cons a l=>simp
 | nil =>
  cases hn:v.names with
  | cons a l=>simp
  | nil =>
   have h1:jR QJ [.i 0,.i v.kind,.s v.text,.sl [],.sl [],.i 0,.s [],.sl [],.sl []] = .ex 0 [.i v.kind,.s v.text,.sl [],.sl [],.i 0,.s [],.sl [],.sl []]:=by
    refine qL ?_
    simp [QJ]
   have h2:jR QI [.i 0,.i v.kind,.s v.text,.sl [],.sl [],.i 0,.s [],.sl [],.sl []] = .ex 2 []:=by
    refine qL ?_
    simp [QI]
   simp [h1,h2]
noncomputable def XG (has:Bool) (v:TValue):Bool:=if has then j0n v && qT v else jaT v
theorem j1w (has:Bool) (v:TValue) (hw:jQ v.enc ≤ 1048576):JW [.b has,.i v.kind,.s v.text,.sl (v.items.map TValue.enc),.sl (v.names.map S1)] = .ret [.b (XG has v)]:=by
 rw [j4F]
 simp only [ZC,jr,jv,zb,zi,zs,zl,j53 v hw,j55 v hw,j9s v,zr,XG]
 generalize j0n v=p1
 generalize qT v=p2
 cases has <;> cases p1 <;> simp
theorem j2v (has:Bool) (v:TValue) (hw:jQ v.enc ≤ 1048576):KN [.b has,.i v.kind,.s v.text,.sl (v.items.map TValue.enc),.sl (v.names.map S1)] = .ret [.b (XG has v)]:=by
 rw [j5R]
 simp only [j10,jr,jv,zb,zi,zs,zl,j1r v hw,j5q v hw,j8m v,zr,XG]
 generalize j0n v=p1
 generalize qT v=p2
 cases has <;> cases p1 <;> simp
def Qi (d:TDir):Bool:=d.args.all fun a=>qT a.value
noncomputable def pi (l:List TDir):Bool:=pP l && l.all Qi
theorem Kp (l:List TDir) (hw:DC.wt (.sl (l.map TDir.enc)) ≤ 1048576):qM [.sl (l.map TDir.enc)] = .ret [.b (pi l)]:=by
 obtain ⟨hl,hx⟩:=kH hw
 have hD:=XD l hw
 have hc:kf [.sl (l.map TDir.enc)] = .ret [.b (!(l.all fun d=>!(Qi d)))] → True:=fun _=>trivial
 have hc:kf [.sl (l.map TDir.enc)] = .ret [.b (!(l.all Qi))]:=j3u Qi l hl fun d hm=>by
  have hd:=hx d hm
  rw [j4R] at hd
  obtain ⟨hl2,hx2⟩:=kH (l:=d.args) (enc:=TArg.enc) (n:=1048576) (by omega)
  have hi:ko [.sl (d.args.map TArg.enc)] = .ret [.b (!(d.args.all fun a=>qT a.value))]:=j27 (fun a=>qT a.value) d.args hl2 fun a ha=>by
   have hv:=hx2 a ha
   rw [j4U] at hv
   rw [j25]
   simp only [XI,jr,jv,zb,zi,zs,zl,j5q a.value (by omega),zr]
  rw [j3s]
  simp only [Ze,jr,jv,zb,zi,zs,zl,hi,zr,Qi]
 rw [j5S]
 simp only [j11,jr,jv,zb,zi,zs,zl,hD,hc,zr,pi]
 cases pP l <;> simp
theorem Ka (l:List TDir) (hw:DC.wt (.sl (l.map TDir.enc)) ≤ 1048576):pe [.sl (l.map TDir.enc)] = .ret [.b (pi l)]:=by
 obtain ⟨hl,hx⟩:=kH hw
 have hD:=Zp l hw
 rw [j5v]
 simp only [j0E,jr,jv,zb,zi,zs,zl]
 rw [show (0:Int)=((0:Nat):Int) from rfl,kb (l:=l) (st:=fun i=>[.sl (l.map TDir.enc),.i (i:Int)]) (p:=fun x=>!Qi x) (stop:=fun i _=>.ret [.b false]) (fin:=.ex 0 [.sl (l.map TDir.enc)]) (fun i hi=>?step) (fun _ _=>Out.esc_ret _) ?fin (jG _ _),qU]
 ·rw [show (l.any fun x=>!Qi x) = !(l.all Qi) by rw [js]]
  unfold pi
  cases l.all Qi
  ·simp
  ·simp [hD]
 case step =>
  have hd:=hx l[i] (je hi)
  rw [j4R] at hd
  obtain ⟨hl2,hx2⟩:=kH (l:=l[i].args) (enc:=TArg.enc) (n:=1048576) (by omega)
  have c2:0 ≤ (i:Int) ∧ (i:Int) < (l.length:Int):=by omega
  have d:decide ((i:Int) < (l.length:Int))=true:=decide_eq_true (by omega)
  have hin:jR Jq [.sl (l.map TDir.enc),.i (i:Int),.i ((0:Nat):Int)]=if l[i].args.any (fun a=>!qT a.value)=true then .ret [.b false] else .ex 2 [.sl (l.map TDir.enc),.i (i:Int)]:=by
   rw [kb (l:=l[i].args) (st:=fun k=>[.sl (l.map TDir.enc),.i (i:Int),.i (k:Int)]) (p:=fun a=>!qT a.value) (stop:=fun i _=>.ret [.b false]) (fin:=.ex 2 [.sl (l.map TDir.enc),.i (i:Int)]) (fun k hk=>?istep) (fun _ _=>Out.esc_ret _) ?ifin (jG _ _),qU]
   case istep =>
    have hv:=hx2 _ (je hk)
    rw [j4U] at hv
    have c3:0 ≤ (k:Int) ∧ (k:Int) < (l[i].args.length:Int):=by omega
    have d3:decide ((k:Int) < (l[i].args.length:Int))=true:=decide_eq_true (by omega)
    have hcst:=j55 l[i].args[k].value (by omega)
    simp only [Jq,jr,jv,zb,zi,zs,zl,j7,zm,jq hi,jq hk,TDir.enc_eq,TArg.enc_eq,d3,c2,c3,hcst,zr,true_and,and_self,if_true,decide_true]
    rcases zt (qT l[i].args[k].value) with q | q <;> simp [q,jp hk (show l[i].args.length ≤ 9223372036854775807 by omega)]
   case ifin=>simp [Jq,jq hi,TDir.enc_eq,c2,hi]
  simp only [QH,jr,jv,zb,zi,zs,zl,j7,zm,d,if_true]
  rw [show (0:Int)=((0:Nat):Int) from rfl,hin]
  have hq:(l[i].args.any fun a=>!qT a.value) = !(Qi l[i]):=by unfold Qi; rw [js]
  rw [hq]
  rcases zt (Qi l[i]) with q | q <;> simp [q,jp hi (show l.length ≤ 9223372036854775807 by omega)]
 case fin=>simp [QH]
noncomputable def VO (v:TVarDef):Bool:=jX v.name && (yx v.type'.name v.type'.wraps && (XG v.has' v.default' && pi v.dirs))
theorem j9a (v:TVarDef):jQ v.enc=v.name.length + v.type'.name.length + v.type'.wraps.length + jQ v.default'.enc + DC.wt (.sl (v.dirs.map TDir.enc)):=by
 rw [TVarDef.enc_eq,TValue.enc_eq]
 simp only [jQ,DC.wt]
 omega
theorem jbh (v:TVarDef) (hw:jQ v.enc ≤ 1048576):XL [.s v.name,.s v.type'.name,.s v.type'.wraps,.b v.has',.i v.default'.kind,.s v.default'.text,.sl (v.default'.items.map TValue.enc),.sl (v.default'.names.map S1),.sl (v.dirs.map TDir.enc)] = .ret [.b (VO v)]:=by
 rw [j9a] at hw
 rw [j6V]
 simp only [j1H,jr,jv,zb,zi,zs,zl,kQ v.name (by omega),Zn v.type'.name v.type'.wraps (by omega) (by omega),j1w v.has' v.default' (by omega),Ka v.dirs (by omega),zr,VO]
 generalize jX v.name=p1
 generalize yx v.type'.name v.type'.wraps=p2
 generalize XG v.has' v.default'=p3
 generalize pi v.dirs=p4
 cases p1 <;> cases p2 <;> cases p3 <;> simp
theorem jbu (v:TVarDef) (hw:jQ v.enc ≤ 1048576):XT [.s v.name,.s v.type'.name,.s v.type'.wraps,.b v.has',.i v.default'.kind,.s v.default'.text,.sl (v.default'.items.map TValue.enc),.sl (v.default'.names.map S1),.sl (v.dirs.map TDir.enc)] = .ret [.b (VO v)]:=by
 rw [j9a] at hw
 rw [j7d]
 simp only [j1X,jr,jv,zb,zi,zs,zl,kR v.name (by omega),Zv v.type'.name v.type'.wraps (by omega) (by omega),j2v v.has' v.default' (by omega),Kp v.dirs (by omega),zr,VO]
 generalize jX v.name=p1
 generalize yx v.type'.name v.type'.wraps=p2
 generalize XG v.has' v.default'=p3
 generalize pi v.dirs=p4
 cases p1 <;> cases p2 <;> cases p3 <;> simp
theorem jaX (ok:TVarDef → Bool) (l:List TVarDef) (hl:l.length ≤ 1048576) (hc:∀ x ∈ l,Xj [.s x.name,.s x.type'.name,.s x.type'.wraps,.b x.has',.i x.default'.kind,.s x.default'.text,.sl (x.default'.items.map TValue.enc),.sl (x.default'.names.map S1),.sl (x.dirs.map TDir.enc)] = .ret [.b (!ok x)]):ku [.sl (l.map TVarDef.enc)] = .ret [.b (!(l.all ok))]:=by
 rw [zj]
 simp only [pQ,jr,zl]
 rw [zZ]
 simp only [qm,jr,zl,zm]
 rw [show (0:Int)=((0:Nat):Int) from rfl,kb (l:=l) (st:=fun i=>[.sl (l.map TVarDef.enc),.i (l.length:Int),.i (i:Int)]) (p:=fun n=>!ok n) (stop:=fun i _=>.ret [.i (i:Int)]) (fin:=.ex 0 []) (fun i hi=>?step) (fun _ _=>Out.esc_ret _) ?fin (jG _ _),zS]
 ·rw [js]
  cases hf:l.findIdx? fun n=>!ok n with
  | none =>
   have:(l.any fun n=>!ok n)=false:=by
    rw [List.any_eq_false]
    intro x hx
    have:=List.findIdx?_eq_none_iff.1 hf x hx
    simpa using this
   rw [this]
   simp
  | some j =>
   obtain ⟨hj,h1,h2⟩:=List.findIdx?_eq_some_iff_getElem.1 hf
   have:(l.any fun n=>!ok n)=true:=List.any_eq_true.2 ⟨l[j],je hj,h1⟩
   rw [this]
   simp [hj]
 case step =>
  have c2:0 ≤ (i:Int) ∧ (i:Int) < (l.length:Int):=by omega
  have d:decide ((i:Int) < (l.length:Int))=true:=decide_eq_true (by omega)
  have he:Xj [.s l[i].name,.s l[i].type'.name,.s l[i].type'.wraps,.b l[i].has',.i l[i].default'.kind,.s l[i].default'.text,.sl (l[i].default'.items.map TValue.enc),.sl (l[i].default'.names.map S1),.sl (l[i].dirs.map TDir.enc)] = .ret [.b (!ok l[i])]:=hc _ (je hi)
  simp only [kO,jr,jv,zb,zi,zs,zl,j7,zm,jq hi,TVarDef.enc_eq,d,c2,he,zr,true_and,and_self,if_true]
  cases ok l[i] <;> simp [jp hi (show l.length ≤ 9223372036854775807 by omega)]
 case fin=>simp [kO]
theorem Zo (k:Int):zB [.i k] = .ret [.s (if k=1 then [113,117,101,114,121] else if k=2 then [109,117,116,97,116,105,111,110] else if k=3 then [115,117,98,115,99,114,105,112,116,105,111,110] else [])]:=by
 rw [jab]
 simp only [j3T,jr,jv,zb,zi,zs,zl]
 by_cases h1:k=1
 ·simp [h1]
 by_cases h2:k=2
 ·simp [h2]
 by_cases h3:k=3
 ·simp [h3]
 simp [h1,h2,h3]
theorem Zw (k:Int):zD [.i k] = .ret [.s (if k=1 then [113,117,101,114,121] else if k=2 then [109,117,116,97,116,105,111,110] else if k=3 then [115,117,98,115,99,114,105,112,116,105,111,110] else [])]:=by
 rw [jaJ]
 simp only [j4p,jr,jv,zb,zi,zs,zl,j4,j6,show IntKind.i64.wrap (((0 + 1 + 1 + 1 + 1:Nat):Int) - 1)=3 from by rw [show (((0 + 1 + 1 + 1 + 1:Nat):Int) - 1)=3 from rfl]; exact kp (by omega) (by omega),j1p,zr]
 by_cases h1:k=1
 ·simp [h1]
 by_cases h2:k=2
 ·simp [h2]
 by_cases h3:k=3
 ·simp [h3]
 have hin:(decide (1 ≤ k) && decide (k ≤ 3))=false:=by
  rw [← Bool.decide_and]
  exact decide_eq_false (by omega)
 simp only [hin,jn,if_true,h1,h2,h3,if_false]
noncomputable def jde (v:TOp):Bool:=(v.kind == 1 || (v.kind == 2 || v.kind == 3)) && ((v.name == [] || jX v.name) && (v.vars.all VO && (pP v.dirs && (zx v.sels && !v.sels.isEmpty))))
theorem jgG (v:TOp):jQ v.enc=v.name.length + DC.wt (.sl (v.vars.map TVarDef.enc)) + DC.wt (.sl (v.dirs.map TDir.enc)) + DC.wt (.sl (v.sels.map TSel.enc)):=by
 rw [TOp.enc_eq]
 simp only [jQ]
 simp only [DC.wt]
 omega
theorem j4Y (k:Int):((if k=1 then [113,117,101,114,121] else if k=2 then [109,117,116,97,116,105,111,110] else if k=3 then [115,117,98,115,99,114,105,112,116,105,111,110] else ([]:List UInt8)) == []) = !(k == 1 || (k == 2 || k == 3)):=by
 by_cases h1:k=1
 ·simp [h1]
 by_cases h2:k=2
 ·simp [h2]
 by_cases h3:k=3
 ·simp [h3]
 simp [h1,h2,h3]
theorem jhr (v:TOp) (hw:jQ v.enc ≤ 1048576):j2p [.i v.kind,.s v.name,.sl (v.vars.map TVarDef.enc),.sl (v.dirs.map TDir.enc),.sl (v.sels.map TSel.enc)] = .ret [.b (jde v)]:=by
 rw [jgG] at hw
 obtain ⟨hl,hx⟩:=kH (l:=v.vars) (enc:=TVarDef.enc) (n:=1048576) (by omega)
 have hc:=jaX VO v.vars hl fun x hm=>by
  rw [jaL]
  simp only [j4q,jr,jv,zb,zi,zs,zl,jbu x (hx x hm),zr]
 rw [jdG]
 simp only [j8g,jr,jv,zb,zi,zs,zl,Zw,j4Y,hc,kR v.name (by omega),XD v.dirs (by omega),j80 v.sels (by omega),zr,jde]
 generalize (v.kind == 1 || (v.kind == 2 || v.kind == 3))=p1
 generalize (v.name == ([]:List UInt8))=p2
 generalize jX v.name=p3
 generalize v.vars.all VO=p4
 generalize pP v.dirs=p5
 generalize (zx v.sels && !v.sels.isEmpty)=p6
 cases p1 <;> cases p2 <;> cases p3 <;> cases p4 <;> cases p5 <;> simp
theorem jhf (v:TOp) (hw:jQ v.enc ≤ 1048576):j2l [.i v.kind,.s v.name,.sl (v.vars.map TVarDef.enc),.sl (v.dirs.map TDir.enc),.sl (v.sels.map TSel.enc)] = .ret [.b (jde v)]:=by
 rw [jgG] at hw
 obtain ⟨hl,hx⟩:=kH (l:=v.vars) (enc:=TVarDef.enc) (n:=1048576) (by omega)
 have hlp:jR Xo [.i 0,.i v.kind,.s v.name,.sl (v.vars.map TVarDef.enc),.sl (v.dirs.map TDir.enc),.sl (v.sels.map TSel.enc)]=if v.vars.all VO=true then .ex 0 [.i v.kind,.s v.name,.sl (v.vars.map TVarDef.enc),.sl (v.dirs.map TDir.enc),.sl (v.sels.map TSel.enc)] else .ret [.b false]:=by
  rw [show (0:Int)=((0:Nat):Int) from rfl,kb (l:=v.vars) (st:=fun i=>[.i (i:Int),.i v.kind,.s v.name,.sl (v.vars.map TVarDef.enc),.sl (v.dirs.map TDir.enc),.sl (v.sels.map TSel.enc)]) (p:=fun x=>!VO x) (stop:=fun i _=>.ret [.b false]) (fin:=.ex 0 [.i v.kind,.s v.name,.sl (v.vars.map TVarDef.enc),.sl (v.dirs.map TDir.enc),.sl (v.sels.map TSel.enc)]) (fun i hi=>?step) (fun _ _=>Out.esc_ret _) ?fin (jG _ _),qU]
  ·rw [show (v.vars.any fun x=>!VO x) = !(v.vars.all VO) by rw [js]]
   cases v.vars.all VO <;> simp
  case step =>
   have hx:=jbh v.vars[i] (hx _ (je hi))
   have c2:0 ≤ (i:Int) ∧ (i:Int) < (v.vars.length:Int):=by omega
   have d:decide ((i:Int) < (v.vars.length:Int))=true:=decide_eq_true (by omega)
   simp only [Xo,jr,jv,zb,zi,zs,zl,j7,zm,jq hi,TVarDef.enc_eq,d,c2,hx,zr,true_and,and_self,if_true,decide_true]
   rcases zt (VO v.vars[i]) with q | q <;> simp [q,jp hi (show v.vars.length ≤ 9223372036854775807 by omega)]
  case fin=>simp [Xo]
 rw [jdA]
 simp only [j8a,jr,jv,zb,zi,zs,zl,Zo,j4Y,kQ v.name (by omega),Zp v.dirs (by omega),zr,jg3]
 unfold jde
 have hS:=j9p v.sels (by omega)
 generalize (v.kind == 1 || (v.kind == 2 || v.kind == 3))=p1
 generalize (v.name == ([]:List UInt8))=p2
 generalize jX v.name=p3
 generalize v.vars.all VO=p4 at *
 generalize pP v.dirs=p5
 generalize zx v.sels=p6 at *
 generalize v.sels.isEmpty=p7
 cases p1 <;> cases p2 <;> cases p3 <;> cases p5 <;> cases p7 <;> cases p4 <;> simp [hlp,hS]
theorem jl (l:List UInt8):jo l=jx l:=rfl
theorem jm (l m:List UInt8):jx l ++ jx m=jx (l ++ m):=(j7t l m).symm
def jt {α:Type} (o sep:List UInt8) (f:α → List UInt8):List α → List UInt8
 | []=>[]
 | x :: l=>o ++ (f x ++ l.flatMap fun y=>sep ++ f y)
theorem jjP {α:Type} (o sep:List UInt8) (f:α → List UInt8) (a b:List α):∃ t,jt o sep f (a ++ b)=jt o sep f a ++ t:=by
 cases a with
 | nil=>exact ⟨jt o sep f b,rfl⟩
 | cons x a=>exact ⟨b.flatMap fun y=>sep ++ f y,by simp [jt,List.flatMap_append]⟩
theorem jjk {α:Type} (o sep:List UInt8) (f:α → List UInt8) (l:List α) (x:α):jt o sep f (l ++ [x])=jt o sep f l ++ ((if l.length=0 then o else sep) ++ f x):=by
 cases l with
 | nil=>simp [jt]
 | cons a l=>simp [jt,List.flatMap_append]
theorem jgO {α:Type} (o sep:List UInt8) (f:α → List UInt8) (l:List α) {i:Nat} (hi:i < l.length):jt o sep f (l.take (i + 1))=jt o sep f (l.take i) ++ ((if i=0 then o else sep) ++ f l[i]):=by
 rw [← List.take_append_getElem hi,jjk,List.length_take,Nat.min_eq_left (by omega)]
theorem j90 {α:Type} (sep:List UInt8) (f:α → List UInt8) (l:List α):jt [] sep f l=Lib.join (l.map f) sep:=by
 cases l with
 | nil=>rfl
 | cons x l =>
  rw [jL,Lib.join_cons,Lib.joinTail,List.map_map,jt,jy,List.flatMap_def]
  rfl
theorem yH {α:Type} {o sep:List UInt8} {f:α → List UInt8} {l:List α} {st:Nat → List UInt8 → List DC} {F:List DC → Out} {res:Out} (out:List UInt8)
  (step:∀ (i:Nat) (hi:i < l.length) (cur:List UInt8),cur.length + ((if i=0 then o else sep) ++ f l[i]).length ≤ out.length + (jt o sep f l).length → F (st i cur) = .norm (st (i + 1) (cur ++ ((if i=0 then o else sep) ++ f l[i]))))
  (fin:F (st l.length (out ++ jt o sep f l))=res) (he:res.esc):jR F (st 0 out)=res:=by
 have h:=JP (F:=F) (st:=fun i=>st i (out ++ jt o sep f (l.take i))) (o:=res) l.length 0 (fun j _ hj=>?_) ?_
 ·simpa [jt] using h
 ·have hj:j < l.length:=by omega
  try dsimp only
  rw [jgO o sep f l hj,← jO]
  refine step j hj _ ?_
  obtain ⟨t,ht⟩:=jjP o sep f (l.take (j + 1)) (l.drop (j + 1))
  rw [List.take_append_drop,jgO o sep f l hj] at ht
  have:=congrArg List.length ht
  simp only [j3] at this ⊢
  omega
 ·try dsimp only
  rw [Nat.zero_add,List.take_length]
  exact Z4 fin he
theorem YE {α:Type} {w:α → List UInt8} {l:List α} {st:Nat → List (List DC) → List DC} {F:List DC → Out} {res:Out}
  (step:∀ (i:Nat) (hi:i < l.length) (cur:List (List DC)),cur.length=i → F (st i cur) = .norm (st (i + 1) (cur ++ [[DC.s (w l[i])]])))
  (fin:F (st l.length (l.map fun x=>[DC.s (w x)]))=res) (he:res.esc):jR F (st 0 [])=res:=by
 have h:=JP (F:=F) (st:=fun i=>st i ((l.take i).map fun x=>[DC.s (w x)])) (o:=res) l.length 0 (fun j _ hj=>?_) ?_
 ·simpa using h
 ·have hj:j < l.length:=by omega
  try dsimp only
  rw [← List.take_append_getElem hj,List.map_append,jL,List.map_nil]
  exact step j hj _ (by rw [zm,List.length_take]; omega)
 ·try dsimp only
  rw [Nat.zero_add,List.take_length]
  exact Z4 fin he
theorem j9L (ws:List (List UInt8)) (sep:List UInt8) (h:ws.length ≤ 140737488355328) (h2:(Lib.join ws sep).length ≤ 140737488355328) :
  j5a (ws.map fun x=>[DC.s x]) sep=some (Lib.join ws sep):=by
 have e:((ws.map fun x=>[DC.s x]).map fun x=>(x.getD 0 d0).ss)=ws:=by
  rw [List.map_map]
  exact List.map_id ws
 unfold j5a
 rw [e,zm,if_pos ⟨h,h2⟩]
theorem j2u (ws:List (List UInt8)):(Lib.join ws [44,32]).length ≤ (ws.map List.length).sum + 2 * ws.length:=by
 cases ws with
 | nil=>simp [Lib.join]
 | cons x l =>
  rw [Lib.join_cons,Lib.joinTail]
  have:((l.map ([44,32] ++ ·)).flatten).length=(l.map List.length).sum + 2 * l.length:=by
   induction l with
   | nil=>rfl
   | cons a l ih=>simp only [jL,List.flatten_cons,j3,List.sum_cons,j4,ih,j6]; omega
  simp only [j3,jL,List.sum_cons,j4,this]
  omega
theorem jgo (g:List UInt8 → List UInt8 → List UInt8) (hg:∀ n t,(g n t).length=n.length + t.length + 2):∀ (ns ws:List (List UInt8)),((List.zipWith g ns ws).map List.length).sum + 2 * (List.zipWith g ns ws).length ≤ (ns.map List.length).sum + (ws.map List.length).sum + 4 * ws.length
 | [],ws=>by simp
 | n :: ns,[]=>by simp
 | n :: ns,w :: ws=>by
  have:=jgo g hg ns ws
  simp only [List.zipWith_cons_cons,jL,List.sum_cons,j4,hg]
  omega
theorem jfh:∀ l:List (List UInt8),wtV (l.map S1)=(l.map List.length).sum
 | []=>rfl
 | x :: l=>by rw [jL,wtV,jfh l,jL,List.sum_cons]; simp [S1,jQ,DC.wt]
theorem j36 {α:Type} {enc:α → List DC} {f:α → List UInt8} {a b:Nat}:∀ (l:List α),(∀ x ∈ l,(f x).length ≤ a * jQ (enc x) + b) → ((l.map f).map List.length).sum ≤ a * wtV (l.map enc) + b * l.length
 | [],_=>by simp
 | x :: l,h=>by
  have h1:=h x (by simp)
  have h2:=j36 (enc:=enc) l fun y hy=>h y (by simp [hy])
  simp only [jL,List.sum_cons,wtV,j4,Nat.mul_add,Nat.mul_one]
  omega
def jhK (k:Int) (t:List UInt8) (ns ws:List (List UInt8)):List UInt8 :=
 if k=1 then 36 :: t else if k=4 then qJ t else if k=7 then 91 :: (Lib.join ws [44,32] ++ [93])
 else if k=8 then 123 :: (Lib.join (List.zipWith (fun n t=>n ++ (58 :: 32 :: t)) ns ws) [44,32] ++ [125]) else t
def VM (v:TValue):List UInt8:=jhK v.kind v.text v.names (v.items.attach.map fun x=>VM x.1)
termination_by SizeOf.sizeOf v
decreasing_by exact TValue.lt x.2
theorem jcP (v:TValue):VM v=jhK v.kind v.text v.names (v.items.map VM):=by
 rw [VM]
 congr 1
 simp
theorem Jc (s:List UInt8):(qJ s).length ≤ 6 * s.length + 2:=by
 unfold qJ
 split
 ·have:=j0v s
  simp only [j4,j3,j6]
  omega
 ·simp
theorem j2a (v:TValue):(VM v).length ≤ 8 * jQ v.enc + 2:=by
 induction v using TValue.ind with | h v ih =>
 rw [jcP,YF]
 have hs:=j36 (enc:=TValue.enc) (f:=VM) v.items ih
 simp only [DC.wt,zm,jfh]
 unfold jhK
 split
 ·simp only [j4]; omega
 split
 ·have:=Jc v.text
  omega
 split
 ·have:=j2u (v.items.map VM)
  simp only [j4,j3,j6,zm] at this ⊢
  omega
 split
 ·have h1:=j2u (List.zipWith (fun n t=>n ++ (58 :: 32 :: t)) v.names (v.items.map VM))
  have h2:=jgo (fun n t=>n ++ (58 :: 32 :: t)) (fun n t=>by simp only [j3,j4]; omega) v.names (v.items.map VM)
  simp only [j4,j3,j6,zm] at h1 h2 ⊢
  omega
 ·omega
def j4V (a:TArg):List UInt8:=a.name ++ (58 :: 32 :: VM a.value)
def j3J (l:List TArg):List UInt8:=jt [40] [44,32] j4V l ++ (if l.isEmpty then [] else [41])
theorem jdo {α:Type} (o sep:List UInt8) (f:α → List UInt8) (x:α) (l:List α):jt o sep f (x :: l)=o ++ Lib.join ((x :: l).map f) sep:=by
 rw [← j90,jt,jt,jy]
theorem jb2 (x:TArg) (l:List TArg):j3J (x :: l)=40 :: (Lib.join ((x :: l).map j4V) [44,32] ++ [41]):=by
 rw [j3J,jdo]
 rfl
theorem j7u:j3J []=[]:=rfl
theorem jgZ (a:TArg):(j4V a).length ≤ 8 * jQ a.enc + 4:=by
 have:=j2a a.value
 rw [j4U]
 unfold j4V
 simp only [j3,j4]
 omega
theorem j2D (l:List TArg):(j3J l).length ≤ 8 * DC.wt (.sl (l.map TArg.enc)):=by
 cases l with
 | nil=>simp [j7u]
 | cons x l =>
  have h1:=j2u ((x :: l).map j4V)
  have h2:=j36 (enc:=TArg.enc) (f:=j4V) (a:=8) (b:=4) (x :: l) fun y _=>jgZ y
  rw [jb2,DC.wt]
  rw [zm] at h1
  simp only [j4,j3,j6,zm] at h1 h2 ⊢
  omega
def jaU (d:TDir):List UInt8:=32 :: 64 :: (d.name ++ j3J d.args)
def XE (l:List TDir):List UInt8:=jt [] [] jaU l
theorem yD {α:Type} {enc:α → List DC} {f:α → List UInt8} {a:Nat} (l:List α) (h:∀ x ∈ l,(f x).length ≤ a * jQ (enc x) + a):(jt [] [] f l).length ≤ a * DC.wt (.sl (l.map enc)):=by
 have e:jt [] [] f l=l.flatMap f:=by
  cases l with
  | nil=>rfl
  | cons x l=>rfl
 have hs:=j36 (enc:=enc) (f:=f) l h
 rw [e,List.length_flatMap,DC.wt,zm,Nat.mul_add]
 rw [List.map_map] at hs
 have:(l.map fun x=>(f x).length)=l.map (List.length ∘ f):=rfl
 rw [this]
 omega
theorem jjt (d:TDir):(jaU d).length ≤ 8 * jQ d.enc + 8:=by
 have:=j2D d.args
 rw [j4R]
 unfold jaU
 simp only [j3,j4]
 omega
theorem yf (l:List TDir):(XE l).length ≤ 8 * DC.wt (.sl (l.map TDir.enc)):=yD l fun x _=>jjt x
def j4X (s:List UInt8) (c:UInt8):List UInt8:=if c=33 then s ++ [33] else 91 :: (s ++ [93])
def QR (n w:List UInt8):List UInt8:=w.foldl j4X n
theorem Xs:∀ (w n:List UInt8),(QR n w).length ≤ n.length + 2 * w.length
 | [],n=>by simp [QR]
 | c :: w,n=>by
  have:=Xs w (j4X n c)
  have h2:(j4X n c).length ≤ n.length + 2:=by unfold j4X; split <;> simp
  show (QR (j4X n c) w).length ≤ _
  rw [j4]
  omega
def zJ (n:Nat):List UInt8:=List.replicate (2 * n) 32
def j3F (s:TSel):List UInt8 :=
 (if s.kind=1 then (if s.alias=[] then [] else s.alias ++ [58,32]) ++ s.name
 else if s.kind=2 then [46,46,46] ++ s.name
 else [46,46,46] ++ (if s.on'=[] then [] else [32,111,110,32] ++ s.on')) ++ (j3J s.args ++ XE s.dirs)
def J2 (n:Nat) (b:List UInt8):List UInt8:=[32,123,10] ++ (b ++ (zJ n ++ [125]))
def jbl (s:TSel) (n:Nat):List UInt8:=zJ n ++ (j3F s ++ ((if s.sels.isEmpty then [] else J2 n ((s.sels.attach.map fun x=>jbl x.1 (n + 1)).flatten)) ++ [10]))
termination_by SizeOf.sizeOf s
decreasing_by exact TSel.lt x.2
def qb (l:List TSel) (n:Nat):List UInt8:=jt [] [] (fun s=>jbl s n) l
theorem jjl {α:Type} (f:α → List UInt8) (l:List α):jt [] [] f l=(l.map f).flatten:=by
 cases l with
 | nil=>rfl
 | cons x l=>simp [jt,List.flatMap_def]
theorem jd7 (s:TSel) (n:Nat):jbl s n=zJ n ++ (j3F s ++ ((if s.sels.isEmpty then [] else J2 n (qb s.sels (n + 1))) ++ [10])):=by
 rw [jbl,qb,jjl]
 simp
theorem Xv (v:TSel):jQ v.enc=v.alias.length + v.name.length + v.on'.length + DC.wt (.sl (v.args.map TArg.enc)) + DC.wt (.sl (v.dirs.map TDir.enc)) + DC.wt (.sl (v.sels.map TSel.enc)):=by
 rw [TSel.enc_eq]
 simp only [jQ]
 simp only [DC.wt]
 omega
theorem jeO (s:TSel):(j3F s).length ≤ 8 * jQ s.enc + 8:=by
 have h1:=j2D s.args
 have h2:=yf s.dirs
 rw [Xv]
 unfold j3F
 simp only [j3]
 split
 ·split <;> simp only [j3,j4,j6] <;> omega
 split
 ·simp only [j3,j4,j6]; omega
 ·split <;> simp only [j3,j4,j6] <;> omega
def j92:Nat → TSel → Prop
 | 0,_=>False
 | r + 1,s=>∀ x ∈ s.sels,j92 r x
theorem jen:∀ (r:Nat) (s:TSel) (n:Nat),j92 r s → n + r ≤ 40 → (jbl s n).length ≤ 200 * jQ s.enc + 200
 | 0,s,n,h,_=>h.elim
 | r + 1,s,n,h,hn=>by
  have hh:=jeO s
  rw [jd7]
  have hw:=Xv s
  have hb:(zJ n).length=2 * n:=by simp [zJ]
  simp only [j3,j4,j6,hb]
  split
  ·simp only [j6]; omega
  ·have hs:=yD (enc:=TSel.enc) (f:=fun x=>jbl x (n + 1)) (a:=200) s.sels fun x hx=>jen r x (n + 1) (h x hx) (by omega)
   have h8:jQ s.enc ≥ DC.wt (.sl (s.sels.map TSel.enc)):=by omega
   unfold J2 qb
   simp only [j3,j4,j6,hb]
   have h3:=j2D s.args
   have h4:=yf s.dirs
   have hh2:(j3F s).length ≤ 8 * (s.alias.length + s.name.length + s.on'.length + DC.wt (.sl (s.args.map TArg.enc)) + DC.wt (.sl (s.dirs.map TDir.enc))) + 8:=by
    unfold j3F
    simp only [j3]
    split
    ·split <;> simp only [j3,j4,j6] <;> omega
    split
    ·simp only [j3,j4,j6]; omega
    ·split <;> simp only [j3,j4,j6] <;> omega
   rw [hw]
   omega
theorem j9T (v:TValue) (hw:jQ v.enc ≤ 1048576) (room:Int) (hr:0 ≤ room) (hr2:room ≤ 10) (hg:yN room v=true) :
  (v.kind ≠ 7 → v.kind ≠ 8 → v.items=[]) ∧ (v.kind=8 → v.names.length=v.items.length) ∧ ∀ x ∈ v.items,0 ≤ room - 1 ∧ yN (room - 1) x=true:=by
 have h1:=(j4Z v hw room hr hr2).1
 rw [hg] at h1
 rw [YF] at hw
 obtain ⟨hNl,hNs⟩:=j9j (l:=v.names) (by omega)
 obtain ⟨hIl,hx⟩:=kH (l:=v.items) (enc:=TValue.enc) (n:=1048576) (by omega)
 have hone:=j9t v.kind v.text (v.items.map TValue.enc) (v.names.map S1) (by omega)
 have hs:0 < room → ∀ x ∈ v.items,j3x (room - 1) x:=fun hp x hm=>j4Z x (hx x hm) (room - 1) (by omega) (by omega)
 obtain ⟨K,T,I,N⟩:=v
 simp only at *
 have z1:∀ n:Nat,((n:Int) + 1=0)=False:=fun n=>by simp; omega
 have z2:∀ n:Nat,((n:Int) + 1 == 0)=false:=fun n=>beq_eq_false_iff_ne.2 (by omega)
 rw [qN] at h1
 cases ho:jbr K T with
 | false=>rw [ho] at hone; simp [km,hone] at h1
 | true =>
  rw [ho] at hone
  by_cases k7:K=7
  ·subst k7
   cases N with
   | cons n N=>(try simp at hone); simp [km,hone,z1,z2] at h1
   | nil =>
    rcases Int.lt_or_le 0 room with hp | hp
    ·have hr0:(room == 0)=false:=beq_eq_false_iff_ne.2 (by omega)
     have hr1:¬ room=0:=by omega
     have hlp:=jc3 room 7 (by decide) T I [] hIl hp hr2 (hs hp)
     refine ⟨fun h=>absurd rfl h,fun h=>by simp at h,?_⟩
     cases hA:I.all (yN (room - 1)) with
     | false=>rw [hA] at hlp; (try simp at hone hlp); simp [km,hone,z1,z2,hr0,hr1,hlp] at h1
     | true=>exact fun x hm=>⟨by omega,List.all_eq_true.1 hA x hm⟩
    ·have hr0:room=0:=by omega
     subst hr0
     (try simp at hone)
     simp [km,hone,z1,z2] at h1
  ·by_cases k8:K=8
   ·subst k8
    by_cases hlen:N.length=I.length
    ·rcases Int.lt_or_le 0 room with hp | hp
     ·have hr0:(room == 0)=false:=beq_eq_false_iff_ne.2 (by omega)
      have hr1:¬ room=0:=by omega
      have hlp:=jc2 room T I N hIl hlen hNs hp hr2 (hs hp)
      refine ⟨fun _ h=>absurd rfl h,fun _=>hlen,?_⟩
      cases hA:I.all (yN (room - 1)) with
      | false=>rw [hA] at hlp; (try simp at hone hlp); simp [km,hone,z1,z2,hr0,hr1,hlp,hlen] at h1
      | true=>exact fun x hm=>⟨by omega,List.all_eq_true.1 hA x hm⟩
     ·have hr0:room=0:=by omega
      subst hr0
      (try simp at hone)
      simp [km,hone,z1,z2,hlen] at h1
    ·have hl2:¬ ((N.length:Int)=(I.length:Int)):=by omega
     (try simp at hone)
     simp [km,hone,z1,z2,hl2] at h1
   ·cases I with
    | nil=>exact ⟨fun _ _=>rfl,fun h=>absurd h k8,fun x hm=>by simp at hm⟩
    | cons a I =>
     (try simp at hone)
     simp [km,hone,z1,z2,k7,k8] at h1
theorem zU (v:TSel) (hw:jQ v.enc ≤ 1048576) (room:Nat) (hr:room ≤ 10) (h:zL room v=true) :
  ∃ r,room=r + 1 ∧ j2i v=true ∧ yU v.args=true ∧ pP v.dirs=true ∧ ∀ x ∈ v.sels,zL r x=true:=by
 have hw2:=hw
 rw [Xv] at hw2
 obtain ⟨hl,hx⟩:=kH (l:=v.sels) (enc:=TSel.enc) (n:=1048576) (by omega)
 have hR:=jgB (j9o v hw (room:Int) (by omega) (by omega) fun x hm=>j57 x (hx x hm))
 rw [hR] at h
 simp only [jj,Bool.not_eq_true',beq_eq_false_iff_ne,ne_eq] at h
 obtain ⟨h0,h1,h2,h3,h4⟩:=h
 refine ⟨room - 1,by omega,h1,h2,h3,fun x hm=>?_⟩
 have:=List.all_eq_true.1 h4 x hm
 rw [show ((room - 1:Nat):Int)=(room:Int) - 1 by omega]
 exact this
theorem VS:∀ (room:Nat) (v:TSel),jQ v.enc ≤ 1048576 → room ≤ 10 → zL room v=true → j92 room v
 | 0,v,hw,hr,h=>by
  obtain ⟨r,h0,_⟩:=zU v hw 0 hr h
  omega
 | room + 1,v,hw,hr,h=>by
  obtain ⟨r,h0,_,_,_,h1⟩:=zU v hw (room + 1) hr h
  have hw2:=hw
  rw [Xv] at hw2
  obtain ⟨hl,hx⟩:=kH (l:=v.sels) (enc:=TSel.enc) (n:=1048576) (by omega)
  intro x hm
  exact VS room x (hx x hm) (by omega) (by rw [show room=r by omega]; exact h1 x hm)
theorem jog (l:List UInt8):[DC.i (44:Int)] :: jx l=jx (44 :: l):=rfl
theorem joe (l:List UInt8):[DC.i (58:Int)] :: jx l=jx (58 :: l):=rfl
theorem jok (l:List UInt8):[DC.i (32:Int)] :: jx l=jx (32 :: l):=rfl
theorem jof (l:List UInt8):[DC.i (46:Int)] :: jx l=jx (46 :: l):=rfl
theorem joa (l:List UInt8):[DC.i (123:Int)] :: jx l=jx (123 :: l):=rfl
theorem jod (l:List UInt8):[DC.i (64:Int)] :: jx l=jx (64 :: l):=rfl
theorem jol (l:List UInt8):[DC.i (10:Int)] :: jx l=jx (10 :: l):=rfl
theorem jo9 (l:List UInt8):[DC.i (125:Int)] :: jx l=jx (125 :: l):=rfl
theorem joi (l:List UInt8):[DC.i (40:Int)] :: jx l=jx (40 :: l):=rfl
theorem joh (l:List UInt8):[DC.i (41:Int)] :: jx l=jx (41 :: l):=rfl
theorem joc (l:List UInt8):[DC.i (91:Int)] :: jx l=jx (91 :: l):=rfl
theorem job (l:List UInt8):[DC.i (93:Int)] :: jx l=jx (93 :: l):=rfl
theorem joj (l:List UInt8):[DC.i (36:Int)] :: jx l=jx (36 :: l):=rfl
theorem b64:([[DC.i (64:Int)]]:List (List DC))=jx [64]:=rfl
theorem b58:([[DC.i (58:Int)]]:List (List DC))=jx [58]:=rfl
theorem b44:([[DC.i (44:Int)]]:List (List DC))=jx [44]:=rfl
theorem b46:([[DC.i (46:Int)]]:List (List DC))=jx [46]:=rfl
theorem b36:([[DC.i (36:Int)]]:List (List DC))=jx [36]:=rfl
theorem b40:([[DC.i (40:Int)]]:List (List DC))=jx [40]:=rfl
theorem b41:([[DC.i (41:Int)]]:List (List DC))=jx [41]:=rfl
theorem b91:([[DC.i (91:Int)]]:List (List DC))=jx [91]:=rfl
theorem b93:([[DC.i (93:Int)]]:List (List DC))=jx [93]:=rfl
theorem jon:([[DC.i (123:Int)]]:List (List DC))=jx [123]:=rfl
theorem jom:([[DC.i (125:Int)]]:List (List DC))=jx [125]:=rfl
theorem b32:([[DC.i (32:Int)]]:List (List DC))=jx [32]:=rfl
theorem b10:([[DC.i (10:Int)]]:List (List DC))=jx [10]:=rfl
theorem bs:(([[DC.i (64:Int)]]:List (List DC))=jx [64]) ∧ (([[DC.i (58:Int)]]:List (List DC))=jx [58]) ∧ (([[DC.i (44:Int)]]:List (List DC))=jx [44]) ∧ (([[DC.i (46:Int)]]:List (List DC))=jx [46]) ∧ (([[DC.i (36:Int)]]:List (List DC))=jx [36]) ∧ (([[DC.i (40:Int)]]:List (List DC))=jx [40]) ∧ (([[DC.i (41:Int)]]:List (List DC))=jx [41]) ∧ (([[DC.i (91:Int)]]:List (List DC))=jx [91]) ∧ (([[DC.i (93:Int)]]:List (List DC))=jx [93]) ∧ (([[DC.i (123:Int)]]:List (List DC))=jx [123]) ∧ (([[DC.i (125:Int)]]:List (List DC))=jx [125]) ∧ (([[DC.i (32:Int)]]:List (List DC))=jx [32]) ∧ (([[DC.i (10:Int)]]:List (List DC))=jx [10]) ∧ (∀ l:List UInt8,[DC.i (44:Int)] :: jx l=jx (44 :: l)) ∧ (∀ l:List UInt8,[DC.i (58:Int)] :: jx l=jx (58 :: l)) ∧ (∀ l:List UInt8,[DC.i (32:Int)] :: jx l=jx (32 :: l)) ∧ (∀ l:List UInt8,[DC.i (46:Int)] :: jx l=jx (46 :: l)) ∧ (∀ l:List UInt8,[DC.i (123:Int)] :: jx l=jx (123 :: l)) ∧ (∀ l:List UInt8,[DC.i (64:Int)] :: jx l=jx (64 :: l)) ∧ (∀ l:List UInt8,[DC.i (10:Int)] :: jx l=jx (10 :: l)) ∧ (∀ l:List UInt8,[DC.i (125:Int)] :: jx l=jx (125 :: l)) ∧ (∀ l:List UInt8,[DC.i (40:Int)] :: jx l=jx (40 :: l)) ∧ (∀ l:List UInt8,[DC.i (41:Int)] :: jx l=jx (41 :: l)) ∧ (∀ l:List UInt8,[DC.i (91:Int)] :: jx l=jx (91 :: l)) ∧ (∀ l:List UInt8,[DC.i (93:Int)] :: jx l=jx (93 :: l)) ∧ (∀ l:List UInt8,[DC.i (36:Int)] :: jx l=jx (36 :: l)):=by
 and_intros <;> intros <;> rfl
theorem jcM {α:Type} (g:List UInt8 → List UInt8 → List UInt8) (h:α → List UInt8):∀ (ns:List (List UInt8)) (l:List α),List.zipWith g ns (l.map h)=(ns.zip l).map fun p=>g p.1 (h p.2)
 | [],l=>by simp
 | n :: ns,[]=>by simp
 | n :: ns,x :: l=>by rw [jL,List.zipWith_cons_cons,List.zip_cons_cons,jL,jcM g h ns l]
theorem Zm (v:TValue):jQ v.enc ≤ 1048576 → ∀ room:Int,0 ≤ room → room ≤ 10 → yN room v=true → ∀ out:List UInt8,out.length + (VM v).length < 1073741824 →
  zA [.sl (jx out),.i v.kind,.s v.text,.sl (v.items.map TValue.enc),.sl (v.names.map S1)] = .ret [.sl (jx (out ++ VM v))]:=by
 induction v using TValue.ind with | h v ih =>
 intro hw room hr hr2 hg out ho
 obtain ⟨hs1,hs2,hs3⟩:=j9T v hw room hr hr2 hg
 rw [YF] at hw
 obtain ⟨hIl,hx⟩:=kH (l:=v.items) (enc:=TValue.enc) (n:=1048576) (by omega)
 rw [ja4]
 rw [jcP] at ho ⊢
 unfold jhK at ho ⊢
 by_cases k1:v.kind=1
 ·have c1:(v.kind == 1)=true:=beq_iff_eq.2 k1
  rw [if_pos k1] at ho ⊢
  simp only [j4] at ho
  simp (disch:=first | omega | (simp only [j3,j4,j6,jf,jF] <;> omega) | fail) only [JR,jr,jv,zb,zi,zs,zl,jl,jm,jf,j3,j4,j6,jF,if_true,if_false,zf,zr,j8,jd,j9,jc,if_pos,j7,zm,true_and,and_self,decide_true,bs,c1]
  rw [jO]
  rfl
 have c1:(v.kind == 1)=false:=beq_eq_false_iff_ne.2 k1
 rw [if_neg k1] at ho ⊢
 by_cases k4:v.kind=4
 ·have c4:(v.kind == 4)=true:=beq_iff_eq.2 k4
  rw [if_pos k4] at ho ⊢
  have he:=Ku v.text (by omega)
  simp (disch:=first | omega | (simp only [j3,j4,j6,jf,jF] <;> omega) | fail) only [JR,jr,jv,zb,zi,zs,zl,jl,jm,jf,j3,j4,j6,jF,if_true,if_false,zf,zr,j8,jd,j9,jc,if_pos,j7,zm,true_and,and_self,decide_true,bs,c1,c4,he]
 have c4:(v.kind == 4)=false:=beq_eq_false_iff_ne.2 k4
 rw [if_neg k4] at ho ⊢
 by_cases k7:v.kind=7
 ·have c7:(v.kind == 7)=true:=beq_iff_eq.2 k7
  have c8:(v.kind == 8)=false:=beq_eq_false_iff_ne.2 (by omega)
  rw [if_pos k7,← j90] at ho ⊢
  simp only [j4,j3,j6] at ho
  have hlp:=yH (o:=[]) (sep:=[44,32]) (f:=VM) (l:=v.items) (st:=fun i cur=>[.sl (jx cur),.i 93,.i (i:Int),.i v.kind,.s v.text,.sl (v.items.map TValue.enc),.sl (v.names.map S1)]) (F:=pU) (res:=.ex 1 [.sl (jx ((out ++ [91]) ++ jt [] [44,32] VM v.items)),.i 93]) (out ++ [91])
   (fun i hi cur hc=>?step) ?fin (jG _ _)
  case fin=>simp [pU]
  case step =>
   have hm:=je hi
   have hv:=ih v.items[i] hm (hx _ hm) (room - 1) (hs3 _ hm).1 (by omega) (hs3 _ hm).2
   have c2:0 ≤ (i:Int) ∧ (i:Int) < (v.items.length:Int):=by omega
   have d:decide ((i:Int) < (v.items.length:Int))=true:=decide_eq_true (by omega)
   have wi:=jp hi (show v.items.length ≤ 9223372036854775807 by omega)
   by_cases h0:i=0
   ·have d0':decide ((i:Int) > 0)=false:=decide_eq_false (by omega)
    rw [if_pos h0] at hc ⊢
    simp only [j3,j4,j6] at hc
    simp (disch:=first | omega | (simp only [j3,j4,j6,jf,jF] <;> omega) | fail) only [pU,jr,jv,zb,zi,zs,zl,jl,jm,jf,j3,j4,j6,jF,if_true,if_false,zf,zr,j8,jd,j9,jc,if_pos,j7,zm,true_and,and_self,decide_true,bs,jq hi,TValue.enc_eq,d,d0',c2,c8,hv,wi]
    simp
   ·have d0':decide ((i:Int) > 0)=true:=decide_eq_true (by omega)
    rw [if_neg h0] at hc ⊢
    simp only [j3,j4,j6] at hc
    simp (disch:=first | omega | (simp only [j3,j4,j6,jf,jF] <;> omega) | fail) only [pU,jr,jv,zb,zi,zs,zl,jl,jm,jf,j3,j4,j6,jF,if_true,if_false,zf,zr,j8,jd,j9,jc,if_pos,j7,zm,true_and,and_self,decide_true,bs,jq hi,TValue.enc_eq,d,d0',c2,c8,hv,wi]
    simp
  rw [jI] at hlp
  simp (disch:=first | omega | (simp only [j3,j4,j6,jf,jF] <;> omega) | fail) only [JR,jr,jv,zb,zi,zs,zl,jl,jm,jf,j3,j4,j6,jF,if_true,if_false,zf,zr,j8,jd,j9,jc,if_pos,j7,zm,true_and,and_self,decide_true,bs,c1,c4,c7,c8,hlp]
  simp
 have c7:(v.kind == 7)=false:=beq_eq_false_iff_ne.2 k7
 rw [if_neg k7] at ho ⊢
 by_cases k8:v.kind=8
 ·have c8:(v.kind == 8)=true:=beq_iff_eq.2 k8
  rw [if_pos k8,jcM,← j90] at ho ⊢
  simp only [j4,j3,j6] at ho
  have hn:=hs2 k8
  have hzl:(v.names.zip v.items).length=v.items.length:=by rw [List.length_zip]; omega
  have hlp:=yH (o:=[]) (sep:=[44,32]) (f:=fun p:List UInt8 × TValue=>p.1 ++ (58 :: 32 :: VM p.2)) (l:=v.names.zip v.items) (st:=fun i cur=>[.sl (jx cur),.i 125,.i (i:Int),.i v.kind,.s v.text,.sl (v.items.map TValue.enc),.sl (v.names.map S1)]) (F:=pU) (res:=.ex 1 [.sl (jx ((out ++ [123]) ++ jt [] [44,32] (fun p:List UInt8 × TValue=>p.1 ++ (58 :: 32 :: VM p.2)) (v.names.zip v.items))),.i 125]) (out ++ [123])
   (fun i hi cur hc=>?step2) ?fin2 (jG _ _)
  case fin2=>simp [pU,hzl]
  case step2 =>
   have hi1:i < v.items.length:=by omega
   have hi2:i < v.names.length:=by omega
   have hz:(v.names.zip v.items)[i]=(v.names[i],v.items[i]):=List.getElem_zip
   have hm:=je hi1
   have hv:=ih v.items[i] hm (hx _ hm) (room - 1) (hs3 _ hm).1 (by omega) (hs3 _ hm).2
   have c2:0 ≤ (i:Int) ∧ (i:Int) < (v.items.length:Int):=by omega
   have c3:0 ≤ (i:Int) ∧ (i:Int) < (v.names.length:Int):=by omega
   have d:decide ((i:Int) < (v.items.length:Int))=true:=decide_eq_true (by omega)
   have wi:=jp hi1 (show v.items.length ≤ 9223372036854775807 by omega)
   rw [hz] at hc ⊢
   by_cases h0:i=0
   ·have d0':decide ((i:Int) > 0)=false:=decide_eq_false (by omega)
    rw [if_pos h0] at hc ⊢
    simp only [j3,j4,j6] at hc
    simp (disch:=first | omega | (simp only [j3,j4,j6,jf,jF] <;> omega) | fail) only [pU,jr,jv,zb,zi,zs,zl,jl,jm,jf,j3,j4,j6,jF,if_true,if_false,zf,zr,j8,jd,j9,jc,if_pos,j7,zm,true_and,and_self,decide_true,bs,jq hi1,jq hi2,S1,TValue.enc_eq,d,d0',c2,c3,c8,hv,wi]
    simp
   ·have d0':decide ((i:Int) > 0)=true:=decide_eq_true (by omega)
    rw [if_neg h0] at hc ⊢
    simp only [j3,j4,j6] at hc
    simp (disch:=first | omega | (simp only [j3,j4,j6,jf,jF] <;> omega) | fail) only [pU,jr,jv,zb,zi,zs,zl,jl,jm,jf,j3,j4,j6,jF,if_true,if_false,zf,zr,j8,jd,j9,jc,if_pos,j7,zm,true_and,and_self,decide_true,bs,jq hi1,jq hi2,S1,TValue.enc_eq,d,d0',c2,c3,c8,hv,wi]
    simp
  rw [jI] at hlp
  simp (disch:=first | omega | (simp only [j3,j4,j6,jf,jF] <;> omega) | fail) only [JR,jr,jv,zb,zi,zs,zl,jl,jm,jf,j3,j4,j6,jF,if_true,if_false,zf,zr,j8,jd,j9,jc,if_pos,j7,zm,true_and,and_self,decide_true,bs,c1,c4,c7,c8,hlp]
  simp
 have c8:(v.kind == 8)=false:=beq_eq_false_iff_ne.2 k8
 rw [if_neg k8] at ho ⊢
 simp (disch:=first | omega | (simp only [j3,j4,j6,jf,jF] <;> omega) | fail) only [JR,jr,jv,zb,zi,zs,zl,jl,jm,jf,j3,j4,j6,jF,if_true,if_false,zf,zr,j8,jd,j9,jc,if_pos,j7,zm,true_and,and_self,decide_true,bs,c1,c4,c7,c8]
theorem j3h (ws:List (List UInt8)) (h:ws.length ≤ 1048576) (h2:(Lib.join ws [44,32]).length ≤ 1073741824):pn [.sl (ws.map fun x=>[DC.s x]),.s [44,32]] = .ret [.s (Lib.join ws [44,32])]:=by
 rw [j1y]
 have:Z5 [.sl (ws.map fun x=>[DC.s x]),.s [44,32]]=(match (match j5a (ws.map fun x=>[DC.s x]) [44,32] with | some r=>some [DC.s r] | none=>none) with | some r=>Out.ret r | none=>.fail):=rfl
 rw [this,j9L ws _ (by omega) (by omega)]
theorem j1x (v:TValue):jQ v.enc ≤ 1048576 → ∀ room:Int,0 ≤ room → room ≤ 10 → yN room v=true → zd [.i v.kind,.s v.text,.sl (v.items.map TValue.enc),.sl (v.names.map S1)] = .ret [.s (VM v)]:=by
 induction v using TValue.ind with | h v ih =>
 intro hw room hr hr2 hg
 obtain ⟨hs1,hs2,hs3⟩:=j9T v hw room hr hr2 hg
 have hlen:=j2a v
 have hb:(VM v).length ≤ 8388610:=by omega
 clear hlen
 rw [YF] at hw
 obtain ⟨hIl,hx⟩:=kH (l:=v.items) (enc:=TValue.enc) (n:=1048576) (by omega)
 have hns:=(j9j (l:=v.names) (by omega)).2
 rw [j4N]
 rw [jcP] at hb ⊢
 unfold jhK at hb ⊢
 have hempty:v.items=[] → jR kS [.sl [],.sl (v.items.map TValue.enc),.i (v.items.length:Int),.i 0,.i v.kind,.s v.text,.sl (v.items.map TValue.enc),.sl (v.names.map S1)] = .ex 0 [.sl ((([]:List (List UInt8))).map fun x=>[DC.s x]),.i v.kind,.s v.text,.sl (v.items.map TValue.enc),.sl (v.names.map S1)]:=by
  intro h
  rw [h]
  refine qL ?_
  simp [kS]
 have hJ0:=j3h [] (by simp) (by simp [Lib.join])
 rw [show Lib.join ([]:List (List UInt8)) [44,32]=[] from rfl] at hJ0
 by_cases k1:v.kind=1
 ·have c1:(v.kind == 1)=true:=beq_iff_eq.2 k1
  have hl:=hempty (hs1 (by omega) (by omega))
  rw [if_pos k1] at hb ⊢
  simp only [j4] at hb
  simp (disch:=first | omega | (simp only [j3,j4,j6,jf,jF] <;> omega) | fail) only [y8,jr,jv,zb,zi,zs,zl,jl,jm,jf,j3,j4,j6,jF,if_true,if_false,zf,zr,j8,jd,j9,jc,if_pos,j7,zm,true_and,and_self,decide_true,bs,hl,hJ0,c1]
  rfl
 have c1:(v.kind == 1)=false:=beq_eq_false_iff_ne.2 k1
 rw [if_neg k1] at hb ⊢
 by_cases k4:v.kind=4
 ·have c4:(v.kind == 4)=true:=beq_iff_eq.2 k4
  have hl:=hempty (hs1 (by omega) (by omega))
  rw [if_pos k4] at hb ⊢
  have he:=KS v.text (by omega)
  simp (disch:=first | omega | (simp only [j3,j4,j6,jf,jF] <;> omega) | fail) only [y8,jr,jv,zb,zi,zs,zl,jl,jm,jf,j3,j4,j6,jF,if_true,if_false,zf,zr,j8,jd,j9,jc,if_pos,j7,zm,true_and,and_self,decide_true,bs,hl,hJ0,c1,c4,he]
 have c4:(v.kind == 4)=false:=beq_eq_false_iff_ne.2 k4
 rw [if_neg k4] at hb ⊢
 by_cases k7:v.kind=7
 ·have c7:(v.kind == 7)=true:=beq_iff_eq.2 k7
  have c8:(v.kind == 8)=false:=beq_eq_false_iff_ne.2 (by omega)
  rw [if_pos k7] at hb ⊢
  simp only [j4,j3,j6] at hb
  have hJ:=j3h (v.items.map VM) (by rw [zm]; exact hIl) (by omega)
  have hlp:=YE (w:=VM) (l:=v.items) (st:=fun i cur=>[.sl cur,.sl (v.items.map TValue.enc),.i (v.items.length:Int),.i (i:Int),.i v.kind,.s v.text,.sl (v.items.map TValue.enc),.sl (v.names.map S1)]) (F:=kS) (res:=.ex 0 [.sl ((v.items.map VM).map fun x=>[DC.s x]),.i v.kind,.s v.text,.sl (v.items.map TValue.enc),.sl (v.names.map S1)])
   (fun i hi cur hc=>?step) ?fin (jG _ _)
  case fin=>simp [kS,Function.comp_def]
  case step =>
   have hm:=je hi
   have hv:=ih v.items[i] hm (hx _ hm) (room - 1) (hs3 _ hm).1 (by omega) (hs3 _ hm).2
   have c2:0 ≤ (i:Int) ∧ (i:Int) < (v.items.length:Int):=by omega
   have d:decide ((i:Int) < (v.items.length:Int))=true:=decide_eq_true (by omega)
   have wi:=jp hi (show v.items.length ≤ 9223372036854775807 by omega)
   simp (disch:=first | omega | (simp only [j3,j4,j6,jf,jF] <;> omega) | fail) only [kS,jr,jv,zb,zi,zs,zl,jl,jm,jf,j3,j4,j6,jF,if_true,if_false,zf,zr,j8,jd,j9,jc,if_pos,j7,zm,true_and,and_self,decide_true,bs,jq hi,TValue.enc_eq,d,c2,c8,hv,wi]
  rw [jI] at hlp
  simp (disch:=first | omega | (simp only [j3,j4,j6,jf,jF] <;> omega) | fail) only [y8,jr,jv,zb,zi,zs,zl,jl,jm,jf,j3,j4,j6,jF,if_true,if_false,zf,zr,j8,jd,j9,jc,if_pos,j7,zm,true_and,and_self,decide_true,bs,c1,c4,c7,c8,hlp,hJ]
  simp
 have c7:(v.kind == 7)=false:=beq_eq_false_iff_ne.2 k7
 rw [if_neg k7] at hb ⊢
 by_cases k8:v.kind=8
 ·have c8:(v.kind == 8)=true:=beq_iff_eq.2 k8
  rw [if_pos k8,jcM] at hb ⊢
  simp only [j4,j3,j6] at hb
  have hn:=hs2 k8
  have hzl:(v.names.zip v.items).length=v.items.length:=by rw [List.length_zip]; omega
  have hJ:=j3h ((v.names.zip v.items).map fun p=>p.1 ++ (58 :: 32 :: VM p.2)) (by rw [zm]; omega) (by omega)
  have hlp:=YE (w:=fun p:List UInt8 × TValue=>p.1 ++ (58 :: 32 :: VM p.2)) (l:=v.names.zip v.items) (st:=fun i cur=>[.sl cur,.sl (v.items.map TValue.enc),.i (v.items.length:Int),.i (i:Int),.i v.kind,.s v.text,.sl (v.items.map TValue.enc),.sl (v.names.map S1)]) (F:=kS) (res:=.ex 0 [.sl (((v.names.zip v.items).map fun p=>p.1 ++ (58 :: 32 :: VM p.2)).map fun x=>[DC.s x]),.i v.kind,.s v.text,.sl (v.items.map TValue.enc),.sl (v.names.map S1)])
   (fun i hi cur hc=>?step2) ?fin2 (jG _ _)
  case fin2=>simp [kS,hzl,Function.comp_def]
  case step2 =>
   have hi1:i < v.items.length:=by omega
   have hi2:i < v.names.length:=by omega
   have hz:(v.names.zip v.items)[i]=(v.names[i],v.items[i]):=List.getElem_zip
   have hm:=je hi1
   have hv:=ih v.items[i] hm (hx _ hm) (room - 1) (hs3 _ hm).1 (by omega) (hs3 _ hm).2
   have hlv:=j2a v.items[i]
   have hwv:=hx _ hm
   have hnl:=hns _ (je hi2)
   have c2:0 ≤ (i:Int) ∧ (i:Int) < (v.items.length:Int):=by omega
   have c3:0 ≤ (i:Int) ∧ (i:Int) < (v.names.length:Int):=by omega
   have d:decide ((i:Int) < (v.items.length:Int))=true:=decide_eq_true (by omega)
   have wi:=jp hi1 (show v.items.length ≤ 9223372036854775807 by omega)
   rw [hz]
   simp (disch:=first | omega | (simp only [j3,j4,j6,jf,jF] <;> omega) | fail) only [kS,jr,jv,zb,zi,zs,zl,jl,jm,jf,j3,j4,j6,jF,if_true,if_false,zf,zr,j8,jd,j9,jc,if_pos,j7,zm,true_and,and_self,decide_true,bs,jq hi1,jq hi2,S1,TValue.enc_eq,d,c2,c3,c8,hv,wi]
   simp
  rw [jI] at hlp
  simp (disch:=first | omega | (simp only [j3,j4,j6,jf,jF] <;> omega) | fail) only [y8,jr,jv,zb,zi,zs,zl,jl,jm,jf,j3,j4,j6,jF,if_true,if_false,zf,zr,j8,jd,j9,jc,if_pos,j7,zm,true_and,and_self,decide_true,bs,c1,c4,c7,c8,hlp,hJ]
  simp
 have c8:(v.kind == 8)=false:=beq_eq_false_iff_ne.2 k8
 have hl:=hempty (hs1 k7 k8)
 rw [if_neg k8] at hb ⊢
 simp (disch:=first | omega | (simp only [j3,j4,j6,jf,jF] <;> omega) | fail) only [y8,jr,jv,zb,zi,zs,zl,jl,jm,jf,j3,j4,j6,jF,if_true,if_false,zf,zr,j8,jd,j9,jc,if_pos,j7,zm,true_and,and_self,decide_true,bs,hl,hJ0,c1,c4,c7,c8]
theorem jfa {l:List TArg} (hg:yU l=true) {a:TArg} (ha:a ∈ l):yN 10 a.value=true:=by
 have:=List.all_eq_true.1 hg a ha
 simp only [jfb,jj] at this
 exact this.2
theorem jf1 {l:List TDir} (hg:pP l=true) {d:TDir} (hd:d ∈ l):yU d.args=true:=by
 have:=List.all_eq_true.1 hg d hd
 simp only [jf2,jj] at this
 exact this.2
theorem j7F (l:List TArg) (hw:DC.wt (.sl (l.map TArg.enc)) ≤ 1048576) (hg:yU l=true) (out:List UInt8) (ho:out.length + (j3J l).length < 1073741824) :
  Xd [.sl (jx out),.sl (l.map TArg.enc)] = .ret [.sl (jx (out ++ j3J l))]:=by
 obtain ⟨hl,hx⟩:=kH hw
 unfold j3J at ho ⊢
 rw [j3] at ho
 have hlp:=yH (o:=[40]) (sep:=[44,32]) (f:=j4V) (l:=l) (st:=fun i cur=>[.sl (jx cur),.sl (l.map TArg.enc),.i (i:Int)]) (F:=JE) (res:=.ex 0 [.sl (jx (out ++ jt [40] [44,32] j4V l)),.sl (l.map TArg.enc)]) out
  (fun i hi cur hc=>?step) ?fin (jG _ _)
 case fin=>simp [JE]
 case step =>
  have hm:=je hi
  have hwv:=hx _ hm
  rw [j4U] at hwv
  have hv:=Zm l[i].value (by omega) 10 (by omega) (by omega) (jfa hg hm)
  have c2:0 ≤ (i:Int) ∧ (i:Int) < (l.length:Int):=by omega
  have d:decide ((i:Int) < (l.length:Int))=true:=decide_eq_true (by omega)
  have wi:=jp hi (show l.length ≤ 9223372036854775807 by omega)
  unfold j4V at hc ⊢
  by_cases h0:i=0
  ·have c0:((i:Int) == 0)=true:=beq_iff_eq.2 (by omega)
   rw [if_pos h0] at hc ⊢
   simp only [j3,j4,j6] at hc
   unfold j4V at ho
   simp (disch:=first | omega | (simp only [j3,j4,j6,jf,jF] <;> omega) | fail) only [JE,jr,jv,zb,zi,zs,zl,jl,jm,jf,j3,j4,j6,jF,if_true,if_false,zf,zr,j8,jd,j9,jc,if_pos,j7,zm,true_and,and_self,decide_true,bs,jq hi,TArg.enc_eq,d,c0,c2,hv,wi]
   simp
  ·have c0:((i:Int) == 0)=false:=beq_eq_false_iff_ne.2 (by omega)
   rw [if_neg h0] at hc ⊢
   simp only [j3,j4,j6] at hc
   unfold j4V at ho
   simp (disch:=first | omega | (simp only [j3,j4,j6,jf,jF] <;> omega) | fail) only [JE,jr,jv,zb,zi,zs,zl,jl,jm,jf,j3,j4,j6,jF,if_true,if_false,zf,zr,j8,jd,j9,jc,if_pos,j7,zm,true_and,and_self,decide_true,bs,jq hi,TArg.enc_eq,d,c0,c2,hv,wi]
   simp
 rw [jI] at hlp
 rw [ja3]
 cases l with
 | nil=>simp at hlp; simp [j0h,hlp]
 | cons a l =>
  have hpos:decide ((((a :: l).map TArg.enc).length:Int) > 0)=true:=decide_eq_true (by simp)
  simp only [List.isEmpty_cons,zf,if_false,j4,j6] at ho
  simp only [zm] at hpos
  simp (disch:=first | omega | (simp only [j3,j4,j6,jf,jF] <;> omega) | fail) only [j0h,jr,jv,zb,zi,zs,zl,jl,jm,jf,j3,j4,j6,jF,if_true,if_false,zf,zr,j8,jd,j9,jc,if_pos,j7,zm,true_and,and_self,decide_true,bs,hlp,hpos,List.isEmpty_cons]
  simp
theorem qB (l:List TDir) (hw:DC.wt (.sl (l.map TDir.enc)) ≤ 1048576) (hg:pP l=true) (out:List UInt8) (ho:out.length + (XE l).length < 1073741824) :
  p8 [.sl (jx out),.sl (l.map TDir.enc)] = .ret [.sl (jx (out ++ XE l))]:=by
 obtain ⟨hl,hx⟩:=kH hw
 unfold XE at ho ⊢
 have hlp:=yH (o:=[]) (sep:=[]) (f:=jaU) (l:=l) (st:=fun i cur=>[.sl (jx cur),.sl (l.map TDir.enc),.i (i:Int)]) (F:=zT) (res:=.ex 0 [.sl (jx (out ++ jt [] [] jaU l))]) out
  (fun i hi cur hc=>?step) ?fin (jG _ _)
 case fin=>simp [zT]
 case step =>
  have hm:=je hi
  have hwv:=hx _ hm
  rw [j4R] at hwv
  have hv:=j7F l[i].args (by omega) (jf1 hg hm)
  have c2:0 ≤ (i:Int) ∧ (i:Int) < (l.length:Int):=by omega
  have d:decide ((i:Int) < (l.length:Int))=true:=decide_eq_true (by omega)
  have wi:=jp hi (show l.length ≤ 9223372036854775807 by omega)
  rw [ite_self,jy] at hc ⊢
  unfold jaU at hc ⊢
  simp only [j3,j4,j6] at hc
  unfold jaU at ho
  simp (disch:=first | omega | (simp only [j3,j4,j6,jf,jF] <;> omega) | fail) only [zT,jr,jv,zb,zi,zs,zl,jl,jm,jf,j3,j4,j6,jF,if_true,if_false,zf,zr,j8,jd,j9,jc,if_pos,j7,zm,true_and,and_self,decide_true,bs,jq hi,TDir.enc_eq,d,c2,hv,wi]
  simp
 rw [jI] at hlp
 rw [j4G]
 simp only [ZD,jr,jv,zb,zi,zs,zl,hlp,jc,if_true]
theorem j3E (l:List TArg) (hw:DC.wt (.sl (l.map TArg.enc)) ≤ 1048576) (hg:yU l=true):Qr [.sl (l.map TArg.enc)] = .ret [.s (j3J l)]:=by
 obtain ⟨hl,hx⟩:=kH hw
 have hb:=j2D l
 have hA:=j2w l hw
 rw [hg] at hA
 rw [j7k]
 cases l with
 | nil=>simp [Yc,j7u]
 | cons a0 l0 =>
  have hz:((((a0 :: l0).map TArg.enc).length:Int) == 0)=false:=beq_eq_false_iff_ne.2 (by simp; omega)
  rw [jb2] at hb ⊢
  generalize hL:a0 :: l0=l at *
  simp only [j4,j3,j6] at hb
  have hJ:=j3h (l.map j4V) (by rw [zm]; exact hl) (by omega)
  have hlp:=YE (w:=j4V) (l:=l) (st:=fun i cur=>[.sl cur,.sl (l.map TArg.enc),.i (l.length:Int),.i (i:Int)]) (F:=K7) (res:=.ex 0 [.sl ((l.map j4V).map fun x=>[DC.s x])])
   (fun i hi cur hc=>?step) ?fin (jG _ _)
  case fin=>simp [K7,Function.comp_def]
  case step =>
   have hm:=je hi
   have hwv:=hx _ hm
   have hla:=jgZ l[i]
   rw [j4U] at hwv hla
   have hv:=j1x l[i].value (by omega) 10 (by omega) (by omega) (jfa hg hm)
   have c2:0 ≤ (i:Int) ∧ (i:Int) < (l.length:Int):=by omega
   have d:decide ((i:Int) < (l.length:Int))=true:=decide_eq_true (by omega)
   have wi:=jp hi (show l.length ≤ 9223372036854775807 by omega)
   unfold j4V at hla ⊢
   simp only [j3,j4] at hla
   simp (disch:=first | omega | (simp only [j3,j4,j6,jf,jF] <;> omega) | fail) only [K7,jr,jv,zb,zi,zs,zl,jl,jm,jf,j3,j4,j6,jF,if_true,if_false,zf,zr,j8,jd,j9,jc,if_pos,j7,zm,true_and,and_self,decide_true,bs,jq hi,TArg.enc_eq,d,c2,hv,wi]
   simp
  rw [jI] at hlp
  simp only [zm] at hz
  simp (disch:=first | omega | (simp only [j3,j4,j6,jf,jF] <;> omega) | fail) only [Yc,jr,jv,zb,zi,zs,zl,jl,jm,jf,j3,j4,j6,jF,if_true,if_false,zf,zr,j8,jd,j9,jc,if_pos,j7,zm,true_and,and_self,decide_true,bs,hz,hA,hlp,hJ,jh]
  simp
theorem yq (l:List TDir) (hw:DC.wt (.sl (l.map TDir.enc)) ≤ 1048576) (hg:pP l=true):kT [.sl (l.map TDir.enc)] = .ret [.s (XE l)]:=by
 obtain ⟨hl,hx⟩:=kH hw
 have hb:=yf l
 have hA:=XD l hw
 rw [hg] at hA
 rw [j7i]
 unfold XE at hb ⊢
 have hlp:=yH (o:=[]) (sep:=[]) (f:=jaU) (l:=l) (st:=fun i cur=>[.s cur,.sl (l.map TDir.enc),.i (l.length:Int),.i (i:Int)]) (F:=K6) (res:=.ex 0 [.s ([] ++ jt [] [] jaU l)]) []
  (fun i hi cur hc=>?step) ?fin (jG _ _)
 case fin=>simp [K6]
 case step =>
  have hm:=je hi
  have hwv:=hx _ hm
  rw [j4R] at hwv
  have hv:=j3E l[i].args (by omega) (jf1 hg hm)
  have hla:=j2D l[i].args
  have c2:0 ≤ (i:Int) ∧ (i:Int) < (l.length:Int):=by omega
  have d:decide ((i:Int) < (l.length:Int))=true:=decide_eq_true (by omega)
  have wi:=jp hi (show l.length ≤ 9223372036854775807 by omega)
  rw [ite_self,jy] at hc ⊢
  unfold jaU at hc ⊢
  simp only [j3,j4,j6] at hc
  unfold jaU at hb
  simp (disch:=first | omega | (simp only [j3,j4,j6,jf,jF] <;> omega) | fail) only [K6,jr,jv,zb,zi,zs,zl,jl,jm,jf,j3,j4,j6,jF,if_true,if_false,zf,zr,j8,jd,j9,jc,if_pos,j7,zm,true_and,and_self,decide_true,bs,jq hi,TDir.enc_eq,d,c2,hv,wi]
  simp
 rw [jI,jy] at hlp
 simp only [j21,jr,jv,zb,zi,zs,zl,hA,hlp,zm,jh,zf,if_false,zr,jc,if_true]
theorem jga (v:TSel) (hw:jQ v.enc ≤ 1048576):j1g [.i v.kind,.s v.alias,.s v.name,.s v.on',.sl (v.args.map TArg.enc),.sl (v.dirs.map TDir.enc),.sl (v.sels.map TSel.enc)] = .ret [.b (j2h v)]:=by
 have h1:=((j57 v hw 10 (by omega) (by omega)).2 120 (by omega) (by omega)).1
 rw [jbP]
 simp only [j6t,jr,jv,zb,zi,zs,zl,h1,zr,j2h]
theorem jZ (n:Nat):(zJ n).length=2 * n:=by simp [zJ]
theorem j2f (n:Nat) (hn:n ≤ 1000) (out:List UInt8) (ho:out.length + 2 * n < 1073741824):Kx [.sl (jx out),.i (n:Int)] = .ret [.sl (jx (out ++ zJ n))]:=by
 have hw:IntKind.i64.wrap (2 * (n:Int))=((2 * n:Nat):Int):=by rw [kp (by omega) (by omega)]; omega
 have h:=JP (F:=Jr) (st:=fun i=>[.sl (jx (out ++ List.replicate i 32)),.i (n:Int),.i (i:Int)]) (o:=.ex 0 [.sl (jx (out ++ zJ n))]) (2 * n) 0 (fun j _ hj=>?step) ?fin
 case step =>
  have d:decide ((j:Int) < ((2 * n:Nat):Int))=true:=decide_eq_true (by omega)
  have wi:IntKind.i64.wrap ((j:Int) + 1)=((j + 1:Nat):Int):=by rw [kp (by omega) (by omega)]; omega
  try dsimp only
  rw [List.replicate_succ',← jO]
  simp (disch:=first | omega | (simp only [j3,j4,j6,List.length_replicate] <;> omega) | fail) only [Jr,jr,jv,zb,zi,zs,zl,jl,jm,jf,j3,j4,j6,jF,if_true,if_false,zf,zr,j8,jd,j9,jc,if_pos,j7,zm,true_and,and_self,decide_true,bs,List.length_replicate,hw,d,wi]
 case fin =>
  refine qL ?_
  rw [Nat.zero_add]
  have d:decide (((2 * n:Nat):Int) < ((2 * n:Nat):Int))=false:=decide_eq_false (by omega)
  simp only [Jr,jr,jv,zb,zi,zs,zl,hw,d,zf,if_false,zJ]
 simp only [jI,List.replicate_zero,jV] at h
 rw [j5w]
 simp only [j0F,jr,jv,zb,zi,zs,zl,h,jc,if_true]
theorem j4x (l:List TSel) (n:Nat) (hn:n ≤ 40) (ih:∀ out:List UInt8,out.length + (qb l (n + 1)).length < 1073741824 → yo [.sl (jx out),.sl (l.map TSel.enc),.i ((n + 1:Nat):Int)] = .ret [.sl (jx (out ++ qb l (n + 1)))])
  (out:List UInt8) (ho:out.length + (J2 n (qb l (n + 1))).length < 1073741824):y9 [.sl (jx out),.sl (l.map TSel.enc),.i (n:Int)] = .ret [.sl (jx (out ++ J2 n (qb l (n + 1))))]:=by
 have hw:IntKind.i64.wrap ((n:Int) + 1)=((n + 1:Nat):Int):=by rw [kp (by omega) (by omega)]; omega
 have hb:=j2f n (by omega)
 unfold J2 at ho ⊢
 simp only [j3,j4,j6,jZ] at ho
 rw [j6T]
 simp (disch:=first | omega | (simp only [j3,j4,j6,jf,jF,jZ] <;> omega) | fail) only [j1F,jr,jv,zb,zi,zs,zl,jl,jm,jf,j3,j4,j6,jF,if_true,if_false,zf,zr,j8,jd,j9,jc,if_pos,j7,zm,true_and,and_self,decide_true,bs,jZ,hw,ih,hb]
 simp
theorem jeo (l:List TSel) (n:Nat) (hn:n ≤ 40) (hw:DC.wt (.sl (l.map TSel.enc)) ≤ 1048576) (hA:∀ x ∈ l,yU x.args=true) (hD:∀ x ∈ l,pP x.dirs=true)
  (ih:∀ x ∈ l,∀ out:List UInt8,out.length + (qb x.sels (n + 1)).length < 1073741824 → yo [.sl (jx out),.sl (x.sels.map TSel.enc),.i ((n + 1:Nat):Int)] = .ret [.sl (jx (out ++ qb x.sels (n + 1)))])
  (out:List UInt8) (ho:out.length + (qb l n).length < 1073741824):yo [.sl (jx out),.sl (l.map TSel.enc),.i (n:Int)] = .ret [.sl (jx (out ++ qb l n))]:=by
 obtain ⟨hl,hx⟩:=kH hw
 have hb:=j2f n (by omega)
 have hlp:=yH (o:=[]) (sep:=[]) (f:=fun s=>jbl s n) (l:=l) (st:=fun i cur=>[.sl (jx cur),.sl (l.map TSel.enc),.i (n:Int),.i (i:Int)]) (F:=kB) (res:=.ex 0 [.sl (jx (out ++ qb l n))]) out
  (fun i hi cur hc=>?step) ?fin (jG _ _)
 case fin=>simp [kB,qb]
 case step =>
  have hm:=je hi
  have hwv:=hx _ hm
  rw [Xv] at hwv
  have h1:=j7F l[i].args (by omega) (hA _ hm)
  have h2:=qB l[i].dirs (by omega) (hD _ hm)
  have h3:=j4x l[i].sels n hn (ih _ hm)
  have c2:0 ≤ (i:Int) ∧ (i:Int) < (l.length:Int):=by omega
  have d:decide ((i:Int) < (l.length:Int))=true:=decide_eq_true (by omega)
  have wi:=jp hi (show l.length ≤ 9223372036854775807 by omega)
  rw [ite_self,jy] at hc ⊢
  change cur.length + (jbl l[i] n).length ≤ out.length + (qb l n).length at hc
  try dsimp only
  rw [jd7] at hc ⊢
  unfold j3F at hc ⊢
  have hs:decide (((l[i].sels.map TSel.enc).length:Int) > 0) = !l[i].sels.isEmpty:=by cases l[i].sels with | nil=>rfl | cons a l=>exact decide_eq_true (by simp)
  simp only [zm] at hs
  simp only [j3,j4,j6,jZ] at hc
  generalize hE:l[i].sels.isEmpty=e at *
  by_cases k1:l[i].kind=1
  ·have c1:(l[i].kind == 1)=true:=beq_iff_eq.2 k1
   rw [if_pos k1] at hc ⊢
   by_cases ka:l[i].alias=[]
   ·have ca:(l[i].alias == ([]:List UInt8))=true:=beq_iff_eq.2 ka
    rw [if_pos ka] at hc ⊢
    cases e
    ·simp only [zf,if_false,j6,j3] at hc
     simp (disch:=first | omega | (simp only [j3,j4,j6,jf,jF,jZ] <;> omega) | fail) only [kB,jr,jv,zb,zi,zs,zl,jl,jm,jf,j3,j4,j6,jF,if_true,if_false,zf,zr,j8,jd,j9,jc,if_pos,j7,zm,true_and,and_self,decide_true,bs,jZ,jq hi,TSel.enc_eq,d,c2,c1,ca,hs,hb,h1,h2,h3,wi,jh,jn]
     simp
    ·simp only [if_true,j6,j3] at hc
     simp (disch:=first | omega | (simp only [j3,j4,j6,jf,jF,jZ] <;> omega) | fail) only [kB,jr,jv,zb,zi,zs,zl,jl,jm,jf,j3,j4,j6,jF,if_true,if_false,zf,zr,j8,jd,j9,jc,if_pos,j7,zm,true_and,and_self,decide_true,bs,jZ,jq hi,TSel.enc_eq,d,c2,c1,ca,hs,hb,h1,h2,h3,wi,jh,jn]
     simp
   ·have ca:(l[i].alias == ([]:List UInt8))=false:=beq_eq_false_iff_ne.2 ka
    rw [if_neg ka] at hc ⊢
    cases e
    ·simp only [zf,if_false,j6,j3,j4] at hc
     simp (disch:=first | omega | (simp only [j3,j4,j6,jf,jF,jZ] <;> omega) | fail) only [kB,jr,jv,zb,zi,zs,zl,jl,jm,jf,j3,j4,j6,jF,if_true,if_false,zf,zr,j8,jd,j9,jc,if_pos,j7,zm,true_and,and_self,decide_true,bs,jZ,jq hi,TSel.enc_eq,d,c2,c1,ca,hs,hb,h1,h2,h3,wi,jh,jn]
     simp
    ·simp only [if_true,j6,j3,j4] at hc
     simp (disch:=first | omega | (simp only [j3,j4,j6,jf,jF,jZ] <;> omega) | fail) only [kB,jr,jv,zb,zi,zs,zl,jl,jm,jf,j3,j4,j6,jF,if_true,if_false,zf,zr,j8,jd,j9,jc,if_pos,j7,zm,true_and,and_self,decide_true,bs,jZ,jq hi,TSel.enc_eq,d,c2,c1,ca,hs,hb,h1,h2,h3,wi,jh,jn]
     simp
  have c1:(l[i].kind == 1)=false:=beq_eq_false_iff_ne.2 k1
  rw [if_neg k1] at hc ⊢
  by_cases k2:l[i].kind=2
  ·have ck:(l[i].kind == 2)=true:=beq_iff_eq.2 k2
   rw [if_pos k2] at hc ⊢
   cases e
   ·simp only [zf,if_false,j6,j3,j4] at hc
    simp (disch:=first | omega | (simp only [j3,j4,j6,jf,jF,jZ] <;> omega) | fail) only [kB,jr,jv,zb,zi,zs,zl,jl,jm,jf,j3,j4,j6,jF,if_true,if_false,zf,zr,j8,jd,j9,jc,if_pos,j7,zm,true_and,and_self,decide_true,bs,jZ,jq hi,TSel.enc_eq,d,c2,c1,ck,hs,hb,h1,h2,h3,wi,jh,jn]
    simp
   ·simp only [if_true,j6,j3,j4] at hc
    simp (disch:=first | omega | (simp only [j3,j4,j6,jf,jF,jZ] <;> omega) | fail) only [kB,jr,jv,zb,zi,zs,zl,jl,jm,jf,j3,j4,j6,jF,if_true,if_false,zf,zr,j8,jd,j9,jc,if_pos,j7,zm,true_and,and_self,decide_true,bs,jZ,jq hi,TSel.enc_eq,d,c2,c1,ck,hs,hb,h1,h2,h3,wi,jh,jn]
    simp
  have ck:(l[i].kind == 2)=false:=beq_eq_false_iff_ne.2 k2
  rw [if_neg k2] at hc ⊢
  by_cases ka:l[i].on'=[]
  ·have ca:(l[i].on' == ([]:List UInt8))=true:=beq_iff_eq.2 ka
   rw [if_pos ka] at hc ⊢
   cases e
   ·simp only [zf,if_false,j6,j3,j4] at hc
    simp (disch:=first | omega | (simp only [j3,j4,j6,jf,jF,jZ] <;> omega) | fail) only [kB,jr,jv,zb,zi,zs,zl,jl,jm,jf,j3,j4,j6,jF,if_true,if_false,zf,zr,j8,jd,j9,jc,if_pos,j7,zm,true_and,and_self,decide_true,bs,jZ,jq hi,TSel.enc_eq,d,c2,c1,ck,ca,hs,hb,h1,h2,h3,wi,jh,jn]
    simp
   ·simp only [if_true,j6,j3,j4] at hc
    simp (disch:=first | omega | (simp only [j3,j4,j6,jf,jF,jZ] <;> omega) | fail) only [kB,jr,jv,zb,zi,zs,zl,jl,jm,jf,j3,j4,j6,jF,if_true,if_false,zf,zr,j8,jd,j9,jc,if_pos,j7,zm,true_and,and_self,decide_true,bs,jZ,jq hi,TSel.enc_eq,d,c2,c1,ck,ca,hs,hb,h1,h2,h3,wi,jh,jn]
    simp
  ·have ca:(l[i].on' == ([]:List UInt8))=false:=beq_eq_false_iff_ne.2 ka
   rw [if_neg ka] at hc ⊢
   cases e
   ·simp only [zf,if_false,j6,j3,j4] at hc
    simp (disch:=first | omega | (simp only [j3,j4,j6,jf,jF,jZ] <;> omega) | fail) only [kB,jr,jv,zb,zi,zs,zl,jl,jm,jf,j3,j4,j6,jF,if_true,if_false,zf,zr,j8,jd,j9,jc,if_pos,j7,zm,true_and,and_self,decide_true,bs,jZ,jq hi,TSel.enc_eq,d,c2,c1,ck,ca,hs,hb,h1,h2,h3,wi,jh,jn]
    simp
   ·simp only [if_true,j6,j3,j4] at hc
    simp (disch:=first | omega | (simp only [j3,j4,j6,jf,jF,jZ] <;> omega) | fail) only [kB,jr,jv,zb,zi,zs,zl,jl,jm,jf,j3,j4,j6,jF,if_true,if_false,zf,zr,j8,jd,j9,jc,if_pos,j7,zm,true_and,and_self,decide_true,bs,jZ,jq hi,TSel.enc_eq,d,c2,c1,ck,ca,hs,hb,h1,h2,h3,wi,jh,jn]
    simp
 rw [jI] at hlp
 rw [ja2]
 simp only [j3N,jr,jv,zb,zi,zs,zl,hlp,jc,if_true]
theorem j2e:∀ (r:Nat) (l:List TSel) (n:Nat),r ≤ 10 → n + r ≤ 40 → DC.wt (.sl (l.map TSel.enc)) ≤ 1048576 → (∀ x ∈ l,zL r x=true) → ∀ out:List UInt8,out.length + (qb l n).length < 1073741824 →
  yo [.sl (jx out),.sl (l.map TSel.enc),.i (n:Int)] = .ret [.sl (jx (out ++ qb l n))]
 | 0,l,n,hr,hn,hw,hok,out,ho=>by
  have hx:=(kH hw).2
  refine jeo l n (by omega) hw (fun x hm=>?_) (fun x hm=>?_) (fun x hm=>?_) out ho
  all_goals
   obtain ⟨r,h0,_⟩:=zU x (hx x hm) 0 (by omega) (hok x hm)
   omega
 | r + 1,l,n,hr,hn,hw,hok,out,ho=>by
  have hx:=(kH hw).2
  refine jeo l n (by omega) hw (fun x hm=>?_) (fun x hm=>?_) (fun x hm=>?_) out ho
  ·obtain ⟨_,_,_,h1,_⟩:=zU x (hx x hm) (r + 1) (by omega) (hok x hm)
   exact h1
  ·obtain ⟨_,_,_,_,h1,_⟩:=zU x (hx x hm) (r + 1) (by omega) (hok x hm)
   exact h1
  ·obtain ⟨r',h0,_,_,_,h1⟩:=zU x (hx x hm) (r + 1) (by omega) (hok x hm)
   have:r'=r:=by omega
   subst this
   have hwx:=hx x hm
   rw [Xv] at hwx
   exact j2e r' x.sels (n + 1) (by omega) (by omega) (by omega) h1
theorem j4S (ok:TSel → Bool) (l:List TSel) (hl:l.length ≤ 1048576) (hc:∀ x ∈ l,K4 [.i x.kind,.s x.alias,.s x.name,.s x.on',.sl (x.args.map TArg.enc),.sl (x.dirs.map TDir.enc),.sl (x.sels.map TSel.enc)] = .ret [.b (!ok x)]):kC [.sl (l.map TSel.enc)] = .ret [.b (!(l.all ok))]:=by
 rw [yS]
 simp only [pJ,jr,zl]
 rw [zM]
 simp only [qf,jr,zl,zm]
 rw [show (0:Int)=((0:Nat):Int) from rfl,kb (l:=l) (st:=fun i=>[.sl (l.map TSel.enc),.i (l.length:Int),.i (i:Int)]) (p:=fun n=>!ok n) (stop:=fun i _=>.ret [.i (i:Int)]) (fin:=.ex 0 []) (fun i hi=>?step) (fun _ _=>Out.esc_ret _) ?fin (jG _ _),zS]
 ·rw [js]
  cases hf:l.findIdx? fun n=>!ok n with
  | none =>
   have:(l.any fun n=>!ok n)=false:=by
    rw [List.any_eq_false]
    intro x hx
    have:=List.findIdx?_eq_none_iff.1 hf x hx
    simpa using this
   rw [this]
   simp
  | some j =>
   obtain ⟨hj,h1,h2⟩:=List.findIdx?_eq_some_iff_getElem.1 hf
   have:(l.any fun n=>!ok n)=true:=List.any_eq_true.2 ⟨l[j],je hj,h1⟩
   rw [this]
   simp [hj]
 case step =>
  have c2:0 ≤ (i:Int) ∧ (i:Int) < (l.length:Int):=by omega
  have d:decide ((i:Int) < (l.length:Int))=true:=decide_eq_true (by omega)
  have he:K4 [.i l[i].kind,.s l[i].alias,.s l[i].name,.s l[i].on',.sl (l[i].args.map TArg.enc),.sl (l[i].dirs.map TDir.enc),.sl (l[i].sels.map TSel.enc)] = .ret [.b (!ok l[i])]:=hc _ (je hi)
  simp only [kJ,jr,jv,zb,zi,zs,zl,j7,zm,jq hi,TSel.enc_eq,d,c2,he,zr,true_and,and_self,if_true]
  cases ok l[i] <;> simp [jp hi (show l.length ≤ 9223372036854775807 by omega)]
 case fin=>simp [kJ]
theorem j3y:∀ n:Nat,Lib.repeatL [32,32] n=zJ n
 | 0=>rfl
 | n + 1=>by
  rw [Lib.repeatL,j3y n,zJ,zJ,show 2 * (n + 1)=2 * n + 1 + 1 by omega,List.replicate_succ,List.replicate_succ]
  rfl
theorem jhG (n:Nat) (h:n ≤ 1000):VT [.s [32,32],.i (n:Int)] = .ret [.s (zJ n)]:=by
 rw [j5t]
 have:j0D [.s [32,32],.i (n:Int)]=(match KZ [.s,.i .i64] [.s] Yr zY [.s [32,32],.i (n:Int)] with | some r=>Out.ret r | none=>.fail):=rfl
 rw [this]
 have hq:Yr [.s [32,32],.i (n:Int)]=some [.s (zJ n)]:=by
  simp only [Yr]
  rw [if_pos ⟨by omega,by omega,by simp; omega⟩,j7,j3y]
 have:KZ [.s,.i .i64] [.s] Yr zY [.s [32,32],.i (n:Int)]=(match Yr [.s [32,32],.i (n:Int)] with | some r=>if jfY [.s] r 0=true then some r else none | none=>none):=rfl
 rw [this,hq]
 rfl
theorem jdr (s:TSel) (hw:jQ s.enc ≤ 1048576) (hn:j2i s=true) (hA:yU s.args=true) (hD:pP s.dirs=true) :
  YQ [.i s.kind,.s s.alias,.s s.name,.s s.on',.sl (s.args.map TArg.enc),.sl (s.dirs.map TDir.enc),.sl (s.sels.map TSel.enc)] = .ret [.s (j3F s)]:=by
 have hb:=jeO s
 have hb2:(j3F s).length ≤ 8388616:=by omega
 clear hb
 rw [Xv] at hw
 have h1:=j3E s.args (by omega) hA
 have h2:=yq s.dirs (by omega) hD
 rw [j8F]
 unfold j3F at hb2 ⊢
 by_cases k1:s.kind=1
 ·have c1:(s.kind == 1)=true:=beq_iff_eq.2 k1
  rw [if_pos k1] at hb2 ⊢
  by_cases ka:s.alias=[]
  ·have ca:(s.alias == ([]:List UInt8))=true:=beq_iff_eq.2 ka
   rw [if_pos ka] at hb2 ⊢
   simp only [j3,j6] at hb2
   simp (disch:=first | omega | (simp only [j3,j4,j6,jf,jF,jZ] <;> omega) | fail) only [J8,jr,jv,zb,zi,zs,zl,jl,jm,jf,j3,j4,j6,jF,if_true,if_false,zf,zr,j8,jd,j9,jc,if_pos,j7,zm,true_and,and_self,decide_true,bs,c1,ca,h1,h2,jh,jn]
   simp
  ·have ca:(s.alias == ([]:List UInt8))=false:=beq_eq_false_iff_ne.2 ka
   rw [if_neg ka] at hb2 ⊢
   simp only [j3,j6,j4] at hb2
   simp (disch:=first | omega | (simp only [j3,j4,j6,jf,jF,jZ] <;> omega) | fail) only [J8,jr,jv,zb,zi,zs,zl,jl,jm,jf,j3,j4,j6,jF,if_true,if_false,zf,zr,j8,jd,j9,jc,if_pos,j7,zm,true_and,and_self,decide_true,bs,c1,ca,h1,h2,jh,jn]
   simp
 have c1:(s.kind == 1)=false:=beq_eq_false_iff_ne.2 k1
 rw [if_neg k1] at hb2 ⊢
 have hargs:s.args=[]:=by
  unfold j2i at hn
  rw [c1] at hn
  simp only [jP,jW,Bool.or_eq_true,jj,List.isEmpty_iff] at hn
  rcases hn with h | h
  ·exact h.2.2.2.2.2.1
  ·exact h.2.2.2.2.1
 rw [hargs,j7u,jy] at hb2 ⊢
 by_cases k2:s.kind=2
 ·have ck:(s.kind == 2)=true:=beq_iff_eq.2 k2
  rw [if_pos k2] at hb2 ⊢
  simp only [j3,j6,j4] at hb2
  simp (disch:=first | omega | (simp only [j3,j4,j6,jf,jF,jZ] <;> omega) | fail) only [J8,jr,jv,zb,zi,zs,zl,jl,jm,jf,j3,j4,j6,jF,if_true,if_false,zf,zr,j8,jd,j9,jc,if_pos,j7,zm,true_and,and_self,decide_true,bs,c1,ck,h2,jh,jn]
 have ck:(s.kind == 2)=false:=beq_eq_false_iff_ne.2 k2
 rw [if_neg k2] at hb2 ⊢
 by_cases ka:s.on'=[]
 ·have ca:(s.on' == ([]:List UInt8))=true:=beq_iff_eq.2 ka
  rw [if_pos ka] at hb2 ⊢
  simp only [j3,j6,j4] at hb2
  simp (disch:=first | omega | (simp only [j3,j4,j6,jf,jF,jZ] <;> omega) | fail) only [J8,jr,jv,zb,zi,zs,zl,jl,jm,jf,j3,j4,j6,jF,if_true,if_false,zf,zr,j8,jd,j9,jc,if_pos,j7,zm,true_and,and_self,decide_true,bs,c1,ck,ca,h2,jh,jn]
 ·have ca:(s.on' == ([]:List UInt8))=false:=beq_eq_false_iff_ne.2 ka
  rw [if_neg ka] at hb2 ⊢
  simp only [j3,j6,j4] at hb2
  simp (disch:=first | omega | (simp only [j3,j4,j6,jf,jF,jZ] <;> omega) | fail) only [J8,jr,jv,zb,zi,zs,zl,jl,jm,jf,j3,j4,j6,jF,if_true,if_false,zf,zr,j8,jd,j9,jc,if_pos,j7,zm,true_and,and_self,decide_true,bs,c1,ck,ca,h2,jh,jn]
theorem jca (l:List TSel) (n:Nat) (hn:n ≤ 40) (hw:DC.wt (.sl (l.map TSel.enc)) ≤ 1048576) (hN:∀ x ∈ l,j2i x=true) (hA:∀ x ∈ l,yU x.args=true) (hD:∀ x ∈ l,pP x.dirs=true)
  (ih:∀ x ∈ l,yW [.sl (x.sels.map TSel.enc),.i ((n + 1:Nat):Int)] = .ret [.s (qb x.sels (n + 1))])
  (ho:(qb l n).length < 1073741824):yW [.sl (l.map TSel.enc),.i (n:Int)] = .ret [.s (qb l n)]:=by
 obtain ⟨hl,hx⟩:=kH hw
 have hlp:=yH (o:=[]) (sep:=[]) (f:=fun s=>jbl s n) (l:=l) (st:=fun i cur=>[.i (n:Int),.s (zJ n),.s cur,.sl (l.map TSel.enc),.i (l.length:Int),.i (i:Int)]) (F:=zv) (res:=.ex 0 [.s ([] ++ qb l n)]) []
  (fun i hi cur hc=>?step) ?fin (jG _ _)
 case fin=>simp [zv,qb]
 case step =>
  have hm:=je hi
  have hwv:=hx _ hm
  have h1:=jdr l[i] hwv (hN _ hm) (hA _ hm) (hD _ hm)
  have h3:=ih _ hm
  have c2:0 ≤ (i:Int) ∧ (i:Int) < (l.length:Int):=by omega
  have d:decide ((i:Int) < (l.length:Int))=true:=decide_eq_true (by omega)
  have wi:=jp hi (show l.length ≤ 9223372036854775807 by omega)
  have hwn:IntKind.i64.wrap ((n:Int) + 1)=((n + 1:Nat):Int):=by rw [kp (by omega) (by omega)]; omega
  rw [ite_self,jy] at hc ⊢
  change cur.length + (jbl l[i] n).length ≤ ([]:List UInt8).length + (qb l n).length at hc
  try dsimp only
  rw [jd7] at hc ⊢
  have hs:decide (((l[i].sels.map TSel.enc).length:Int) > 0) = !l[i].sels.isEmpty:=by cases l[i].sels with | nil=>rfl | cons a l=>exact decide_eq_true (by simp)
  simp only [zm] at hs
  simp only [j3,j4,j6,jZ] at hc
  generalize hE:l[i].sels.isEmpty=e at *
  unfold J2 at hc ⊢
  cases e
  ·simp only [zf,if_false,j6,j3,j4,jZ] at hc
   simp (disch:=first | omega | (simp only [j3,j4,j6,jf,jF,jZ] <;> omega) | fail) only [zv,jr,jv,zb,zi,zs,zl,jl,jm,jf,j3,j4,j6,jF,if_true,if_false,zf,zr,j8,jd,j9,jc,if_pos,j7,zm,true_and,and_self,decide_true,bs,jZ,jq hi,TSel.enc_eq,d,c2,hs,h1,h3,hwn,wi,jh,jn]
   simp
  ·simp only [if_true,j6,j3,j4] at hc
   simp (disch:=first | omega | (simp only [j3,j4,j6,jf,jF,jZ] <;> omega) | fail) only [zv,jr,jv,zb,zi,zs,zl,jl,jm,jf,j3,j4,j6,jF,if_true,if_false,zf,zr,j8,jd,j9,jc,if_pos,j7,zm,true_and,and_self,decide_true,bs,jZ,jq hi,TSel.enc_eq,d,c2,hs,h1,h3,hwn,wi,jh,jn]
   simp
 rw [jI,jy] at hlp
 rw [j79]
 simp only [j1U,jr,jv,zb,zi,zs,zl,jhG n (by omega),zr,zm,hlp,jc,if_true]
theorem j0p (l:List TSel) (r n:Nat) (hd:∀ x ∈ l,j92 r x) (hn:n + r ≤ 40):(qb l n).length ≤ 200 * DC.wt (.sl (l.map TSel.enc)):=yD l fun x hx=>jen r x n (hd x hx) hn
theorem j3B:∀ (r:Nat) (l:List TSel) (n:Nat),r ≤ 10 → n + r ≤ 40 → DC.wt (.sl (l.map TSel.enc)) ≤ 1048576 → (∀ x ∈ l,zL r x=true) → yW [.sl (l.map TSel.enc),.i (n:Int)] = .ret [.s (qb l n)]
 | 0,l,n,hr,hn,hw,hok=>by
  have hx:=(kH hw).2
  have hb:=j0p l 0 n (fun x hm=>VS 0 x (hx x hm) (by omega) (hok x hm)) (by omega)
  refine jca l n (by omega) hw (fun x hm=>?_) (fun x hm=>?_) (fun x hm=>?_) (fun x hm=>?_) (by omega)
  all_goals
   obtain ⟨r,h0,_⟩:=zU x (hx x hm) 0 (by omega) (hok x hm)
   omega
 | r + 1,l,n,hr,hn,hw,hok=>by
  have hx:=(kH hw).2
  have hb:=j0p l (r + 1) n (fun x hm=>VS (r + 1) x (hx x hm) (by omega) (hok x hm)) (by omega)
  refine jca l n (by omega) hw (fun x hm=>?_) (fun x hm=>?_) (fun x hm=>?_) (fun x hm=>?_) (by omega)
  ·obtain ⟨_,_,h1,_⟩:=zU x (hx x hm) (r + 1) (by omega) (hok x hm)
   exact h1
  ·obtain ⟨_,_,_,h1,_⟩:=zU x (hx x hm) (r + 1) (by omega) (hok x hm)
   exact h1
  ·obtain ⟨_,_,_,_,h1,_⟩:=zU x (hx x hm) (r + 1) (by omega) (hok x hm)
   exact h1
  ·obtain ⟨r',h0,_,_,_,h1⟩:=zU x (hx x hm) (r + 1) (by omega) (hok x hm)
   have:r'=r:=by omega
   subst this
   have hwx:=hx x hm
   rw [Xv] at hwx
   exact j3B r' x.sels (n + 1) (by omega) (by omega) (by omega) h1
noncomputable def j0q (l:List TSel) (by':Int):List UInt8:=if ((decide (0 ≤ by') && decide (by' ≤ 20)) && l.all j2h)=true then qb l by'.toNat else []
theorem jii {l:List TSel} (h:l.all j2h=true):∀ x ∈ l,zL ((10:Nat):Int) x=true:=fun x hx=>by
 have:=List.all_eq_true.1 h x hx
 simp only [j2h,jj] at this
 exact this.1
theorem j3D (l:List TSel) (b:Int) (hw:DC.wt (.sl (l.map TSel.enc)) ≤ 1048576):XU [.sl (l.map TSel.enc),.i b] = .ret [.s (j0q l b)]:=by
 obtain ⟨hl,hx⟩:=kH hw
 have hc:=j4S j2h l hl fun x hm=>by
  rw [j4Q]
  simp only [ZM,jr,jv,zb,zi,zs,zl,jga x (hx x hm),zr]
 rw [j7f]
 simp only [j1Z,jr,jv,zb,zi,zs,zl,j1p,hc,zr]
 unfold j0q
 by_cases hb:0 ≤ b ∧ b ≤ 20
 ·have e:(decide (0 ≤ b) && decide (b ≤ 20))=true:=by simp [hb]
  rw [e]
  simp only [jh,zf,if_false,jC,j8,jr,jv,zb,zi,zs,zl]
  cases ho:l.all j2h with
  | false=>simp
  | true =>
   have hR:=jii ho
   have hS:=j3B 10 l b.toNat (by omega) (by omega) hw hR
   rw [show ((b.toNat:Nat):Int)=b by omega] at hS
   simp only [jh,zf,if_false,if_true,hS,zr,jr,jv,zb,zi,zs,zl]
 ·have e:(decide (0 ≤ b) && decide (b ≤ 20))=false:=by
   rw [← Bool.decide_and]
   exact decide_eq_false hb
  rw [e]
  simp
end Go.Proofs.QV
