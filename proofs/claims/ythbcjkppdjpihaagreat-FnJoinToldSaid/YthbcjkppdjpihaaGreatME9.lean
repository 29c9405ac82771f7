import Derived.Test.YthbcjkppdjpihaaGreatME8
import Derived.Test.YthbcjkppdjpihaaGreatProg
import Derived.Shelf.SlSortCmp.KitK
import Derived.Sort.WalkB2
import Derived.Sort.WalkB12
import Derived.Deep.LoopGhost
import Derived.Deep.CutRange
import Derived.Ground.SlsfProg
import Derived.Shelf.SlLaysF0
import Derived.Shelf.SlSortCmp.InsertionK
/- The library's stable sort at elements of k cells,walked: the exchange of two ranges (written as a template: Tryz the seat's program,144 the function,68 33 83 the types of element,slice and closure). -/
namespace Go.Proofs
open Go.Shelf Go.RowKit Go.Lib Go.Sort
set_option linter.unusedVariables false
variable {α:Type} [Inhabited α]
set_option maxHeartbeats 4000000 in
set_option maxRecDepth 1000000 in
theorem QV.swapRange_calls (k:Nat) (aE:∀ w,(isAgg 68).run Tryz.prog w = .ok true w) (zE:∀ w,(Go.sizeOf 68).run Tryz.prog w = .ok k w) (enc:α → List Value) (g:Nat) (cb:Array Value) (blk off cap a b n:Nat) (d0 d:Array α) (w0 w:World)
  (R:RowK enc k w0 blk off d0) (hs:d0.size=d.size) (S:SWK enc k w0 blk off d w) (hab:a + n ≤ b) (hb:b + n ≤ d.size) (hsz:d.size < 4611686018427387904) :
  Calls Tryz.prog 144 #[.slice (some ⟨blk,off,none⟩) d.size cap,.int .i64 a,.int .i64 b,.int .i64 n,.func (.func g) #[] cb] w fun e w'=>e = .returned (.tuple #[]) ∧ SWK enc k w0 blk off (QV.Yo a b n d) w':=by
 have mixed:Tryz.prog.follows .mixedOrders=true:=by kernel_rfl
 have t0:=Tryz.underlying0; have a0:=Tryz.isAgg0; have z0:=Tryz.sizeOf0; have v0:=Tryz.zeroValue0; have t3:=Tryz.underlying3; have a3:=Tryz.isAgg3; have z3:=Tryz.sizeOf3; have v3:=Tryz.zeroValue3; have t4:=Tryz.underlying4; have a4:=Tryz.isAgg4; have z4:=Tryz.sizeOf4; have v4:=Tryz.zeroValue4; have t22:=Tryz.underlying33; have a22:=Tryz.isAgg33; have z22:=Tryz.sizeOf33; have v22:=Tryz.zeroValue33; have t25:=Tryz.underlying83; have a25:=Tryz.isAgg83; have z25:=Tryz.sizeOf83; have v25:=Tryz.zeroValue83
 have FG:=Tryz.func144
 have FN:Tryz.f144.ntmps=38:=rfl
 have S0:Aside (SWK enc k w0 blk off d w):=S
 clear S
 go_enter FG,FN
 go_wp2
 go_loopg [10] n (fun kx s10 wr=>∃ (i:Nat) (dk:Array α),s10 = .int .i64 i ∧ i ≤ n ∧ n - i ≤ kx ∧ dk.size=d.size ∧ Aside (SWK enc k w0 blk off dk wr) ∧ dk=QV.Yo a b i d)
 case atStart=>exact ⟨0,d,rfl,by omega,by omega,rfl,S0,rfl⟩
 case round =>
  clear S0
  obtain ⟨i,dk,rfl,hin,hkx,hds,S1,heq⟩:=hrel
  by_cases hlt:i < n
  ·have hltz:(i:Int) < (n:Int):=by omega
   go_wp2_with fail
   have ea44:((a:Int) + (i:Int)).toNat=a + i:=by omega
   have pa44:(0:Int) ≤ (a:Int) + (i:Int):=by omega
   have ba44:(a:Int) + (i:Int) < (d.size:Int):=by omega
   have ra44:IntKind.i64.wrap ((a:Int) + (i:Int))=(a:Int) + (i:Int):=by rw [IntKind.wrap_i64]; omega
   have ec44:((b:Int) + (i:Int)).toNat=b + i:=by omega
   have pc44:(0:Int) ≤ (b:Int) + (i:Int):=by omega
   have bc44:(b:Int) + (i:Int) < (d.size:Int):=by omega
   have rc44:IntKind.i64.wrap ((b:Int) + (i:Int))=(b:Int) + (i:Int):=by rw [IntKind.wrap_i64]; omega
   have S2:Aside (SWK enc k w0 blk off (swp dk (a + i) (b + i)) ((wr.drew.setCells blk (off + (a + i) * k) (enc dk[b + i]!)).setCells blk (off + (b + i) * k) (enc dk[a + i]!))):=S1.out.swapped R (a + i) (b + i) (by omega) (by omega)
   have l44a:=S1.out.ld1 R (by omega) Tryz.prog (a + i) (by omega)
   have l44b:=S1.out.ld1 R (by omega) Tryz.prog (b + i) (by omega)
   have s44a:=S1.out.st1 R (by omega) Tryz.prog (a + i) (by omega) dk[b + i]!
   have s44b:=S1.out.st2 R (by omega) Tryz.prog (a + i) (b + i) (by omega) (by omega) dk[b + i]! dk[a + i]!
   have n44a:(enc dk[a + i]!).length=k:=R.hk _
   have n44b:(enc dk[b + i]!).length=k:=R.hk _
   generalize enc dk[a + i]! = cI44 at S2 l44a s44b n44a
   generalize enc dk[b + i]! = cJ44 at S2 l44b s44a s44b n44b
   clear S1
   go_wp2_with fail
   go_big_region_o
   clear l44a l44b s44a s44b
   generalize (wr.drew.setCells blk (off + (a + i) * k) cJ44).setCells blk (off + (b + i) * k) cI44=w2 at S2 ⊢
   go_wp2
   go_roundg (n - (i + 1))
   case measure=>omega
   case rel =>
    exact ⟨i + 1,swp dk (a + i) (b + i),by simp,by omega,Nat.le_refl _,by rw [size_swp]; exact hds,S2,by rw [heq]; rfl⟩
  ·have hltz:¬ (i:Int) < (n:Int):=by omega
   have hi:i=n:=by omega
   go_wp2
   go_end0
   refine ⟨rfl,?_⟩
   subst hi
   rw [← heq]
   exact S1.out
end Go.Proofs

namespace Go.Proofs
open Go.Shelf Go.RowKit Go.Lib Go.Sort
set_option linter.unusedVariables false
variable {α:Type} [Inhabited α]
set_option maxHeartbeats 4000000 in
set_option maxRecDepth 1000000 in
theorem QV.rotate_calls (k:Nat) (aE:∀ w,(isAgg 68).run Tryz.prog w = .ok true w) (zE:∀ w,(Go.sizeOf 68).run Tryz.prog w = .ok k w) (enc:α → List Value) (g:Nat) (cb:Array Value) (blk off cap a m b:Nat) (d0 d:Array α) (w0 w:World)
  (R:RowK enc k w0 blk off d0) (hs:d0.size=d.size) (S:SWK enc k w0 blk off d w) (ham:a < m) (hmb:m < b) (hb:b ≤ d.size) (hsz:d.size < 4611686018427387904) :
  Calls Tryz.prog 131 #[.slice (some ⟨blk,off,none⟩) d.size cap,.int .i64 a,.int .i64 m,.int .i64 b,.func (.func g) #[] cb] w fun e w'=>e = .returned (.tuple #[]) ∧ SWK enc k w0 blk off (QV.rot m (m - a) (b - m) d) w':=by
 have mixed:Tryz.prog.follows .mixedOrders=true:=by kernel_rfl
 have t0:=Tryz.underlying0; have a0:=Tryz.isAgg0; have z0:=Tryz.sizeOf0; have v0:=Tryz.zeroValue0; have t3:=Tryz.underlying3; have a3:=Tryz.isAgg3; have z3:=Tryz.sizeOf3; have v3:=Tryz.zeroValue3; have t4:=Tryz.underlying4; have a4:=Tryz.isAgg4; have z4:=Tryz.sizeOf4; have v4:=Tryz.zeroValue4; have t22:=Tryz.underlying33; have a22:=Tryz.isAgg33; have z22:=Tryz.sizeOf33; have v22:=Tryz.zeroValue33; have t25:=Tryz.underlying83; have a25:=Tryz.isAgg83; have z25:=Tryz.sizeOf83; have v25:=Tryz.zeroValue83
 have FG:=Tryz.func131
 have FN:Tryz.f131.ntmps=58:=rfl
 have E190:∀ args w,(callFunc 144 args).run Tryz.prog w = .ok (.enter 144 args) w:=enters_of Tryz.func144 (by kernel_rfl) rfl
 have S0:Aside (SWK enc k w0 blk off d w):=S
 clear S
 go_enter FG,FN
 go_wp2
 go_loopg [10,11] (b - a) (fun kx s10 s11 wr=>∃ (i j:Nat) (dk:Array α),s10 = .int .i64 i ∧ s11 = .int .i64 j ∧ 0 < i ∧ 0 < j ∧ i ≤ m ∧ m + j ≤ d.size ∧ i + j ≤ kx ∧ dk.size=d.size ∧ Aside (SWK enc k w0 blk off dk wr) ∧ Aside (QV.rot m i j dk=QV.rot m (m - a) (b - m) d))
 case atStart=>exact ⟨m - a,b - m,d,by congr 1; omega,by congr 1; omega,by omega,by omega,by omega,by omega,by omega,rfl,S0,rfl⟩
 case round =>
  clear S0
  obtain ⟨i,j,dk,rfl,rfl,hi,hj,him,hmj,hkx,hds,S1,heq⟩:=hrel
  by_cases hij:i=j
  ·subst hij
   have hc:=QV.swapRange_calls k aE zE enc g cb blk off cap (m - i) m i d0 dk w0 wr R (by omega) S1.out (by omega) (by omega) (by omega)
   rw [hds,show ((m - i:Nat):Int)=(m:Int) - (i:Int) by omega] at hc
   clear S1
   go_wp2_with (go_at_fn 144; refine hc.mono ?_; rintro e w1 ⟨rfl,hw1⟩)
   go_end0
   refine ⟨rfl,?_⟩
   rw [← heq.out,QV.rot,if_pos rfl]
   exact hw1
  ·have hijz:¬ (i:Int)=(j:Int):=by omega
   by_cases hji:j < i
   ·have hjiz:(j:Int) < (i:Int):=by omega
    have hc:=QV.swapRange_calls k aE zE enc g cb blk off cap (m - i) m j d0 dk w0 wr R (by omega) S1.out (by omega) (by omega) (by omega)
    rw [hds,show ((m - i:Nat):Int)=(m:Int) - (i:Int) by omega] at hc
    clear S1
    go_wp2_with (go_at_fn 144; refine hc.mono ?_; rintro e w1 ⟨rfl,hw1⟩)
    go_roundg (i - j + j)
    case measure=>omega
    case rel =>
     refine ⟨i - j,j,QV.Yo (m - i) m j dk,by congr 1; omega,rfl,by omega,hj,by omega,hmj,Nat.le_refl _,by rw [QV.p9]; exact hds,hw1,(show _=_ from ?_)⟩
     rw [← heq.out]
     conv=>rhs; rw [QV.rot]
     rw [if_neg hij,dif_pos ⟨hji,hj⟩]
   ·have hjiz:¬ (j:Int) < (i:Int):=by omega
    have hc:=QV.swapRange_calls k aE zE enc g cb blk off cap (m - i) (m + j - i) i d0 dk w0 wr R (by omega) S1.out (by omega) (by omega) (by omega)
    rw [hds,show ((m - i:Nat):Int)=(m:Int) - (i:Int) by omega,show ((m + j - i:Nat):Int)=(m:Int) + (j:Int) - (i:Int) by omega] at hc
    clear S1
    go_wp2_with (go_at_fn 144; refine hc.mono ?_; rintro e w1 ⟨rfl,hw1⟩)
    go_roundg (i + (j - i))
    case measure=>omega
    case rel =>
     refine ⟨i,j - i,QV.Yo (m - i) (m + j - i) i dk,rfl,by congr 1; omega,hi,by omega,him,by omega,Nat.le_refl _,by rw [QV.p9]; exact hds,hw1,(show _=_ from ?_)⟩
     rw [← heq.out]
     conv=>rhs; rw [QV.rot]
     rw [if_neg hij,dif_neg (by omega),dif_pos ⟨by omega,hi⟩]
end Go.Proofs

namespace Go.Proofs
open Go.Shelf Go.RowKit Go.Lib Go.Sort
set_option linter.unusedVariables false
variable {α:Type} [Inhabited α]
theorem QV.size_rot (m:Nat):∀ (g i j:Nat) (d:Array α),i + j ≤ g → (QV.rot m i j d).size=d.size:=by
 intro g
 induction g with
 | zero =>
  intro i j d h
  rw [QV.rot]
  rw [if_pos (by omega),QV.p9]
 | succ g ih =>
  intro i j d h
  rw [QV.rot]
  by_cases e:i=j
  ·rw [if_pos e,QV.p9]
  ·rw [if_neg e]
   by_cases h1:j < i ∧ 0 < j
   ·rw [dif_pos h1,ih _ _ _ (by omega),QV.p9]
   ·rw [dif_neg h1]
    by_cases h2:i < j ∧ 0 < i
    ·rw [dif_pos h2,ih _ _ _ (by omega),QV.p9]
    ·rw [dif_neg h2]
theorem QV.size_symM (lt:α → α → Bool):∀ (g a m b:Nat) (d:Array α),(QV.qn lt g a m b d).size=d.size:=by
 intro g
 induction g with
 | zero=>intro a m b d; rfl
 | succ g ih =>
  intro a m b d
  rw [QV.qn]
  have hr:∀ s,(QV.Jd d a m b s).size=d.size:=fun s=>by
   unfold QV.Jd
   split
   ·exact QV.size_rot _ _ _ _ _ (Nat.le_refl _)
   ·rfl
  split
  ·exact QV.QO ..
  ·split
   ·exact QV.QP ..
   ·dsimp only
    split <;> split <;> simp only [ih,hr]
set_option maxHeartbeats 8000000 in
set_option maxRecDepth 1000000 in
theorem QV.symOne_calls (k:Nat) (aE:∀ w,(isAgg 68).run Tryz.prog w = .ok true w) (zE:∀ w,(Go.sizeOf 68).run Tryz.prog w = .ok k w) (enc:α → List Value) (cf:α → α → Int) (g:Nat) (cb:Array Value) (blk off cap a m b:Nat) (d0 d:Array α) (w0 w:World)
  (eg:∀ args w,(callFunc g args).run Tryz.prog w = .ok (.enter g args) w) (hcmp:CmpLays Tryz.prog g cb enc k cf blk off d0.size w0) (R:RowK enc k w0 blk off d0) (hs:d0.size=d.size) (S:SWK enc k w0 blk off d w) (ham:m=a + 1) (hmb:m < b) (hb:b ≤ d.size) (hsz:d.size < 4611686018427387904) :
  Calls Tryz.prog 100 #[.slice (some ⟨blk,off,none⟩) d.size cap,.int .i64 a,.int .i64 m,.int .i64 b,.func (.func g) #[] cb] w fun e w'=>e = .returned (.tuple #[]) ∧ SWK enc k w0 blk off (QV.shR a (QV.bs (fun h=>ltOf cf d[h]! d[a]!) m b - 1 - a) d) w':=by
 have mixed:Tryz.prog.follows .mixedOrders=true:=by kernel_rfl
 have t0:=Tryz.underlying0; have a0:=Tryz.isAgg0; have z0:=Tryz.sizeOf0; have v0:=Tryz.zeroValue0; have t3:=Tryz.underlying3; have a3:=Tryz.isAgg3; have z3:=Tryz.sizeOf3; have v3:=Tryz.zeroValue3; have t4:=Tryz.underlying4; have a4:=Tryz.isAgg4; have z4:=Tryz.sizeOf4; have v4:=Tryz.zeroValue4; have t22:=Tryz.underlying33; have a22:=Tryz.isAgg33; have z22:=Tryz.sizeOf33; have v22:=Tryz.zeroValue33; have t25:=Tryz.underlying83; have a25:=Tryz.isAgg83; have z25:=Tryz.sizeOf83; have v25:=Tryz.zeroValue83
 have t35:=Tryz.underlying112; have a35:=Tryz.isAgg112; have z35:=Tryz.sizeOf112; have v35:=Tryz.zeroValue112
 have u3:=run_underlying Tryz.underlying3; have u4:=run_underlying Tryz.underlying4; have u35:=run_underlying Tryz.underlying112
 have FG:=Tryz.func100
 have FN:Tryz.f100.ntmps=220:=rfl
 have HC:Aside _:=hcmp
 have S0:Aside (SWK enc k w0 blk off d w):=S
 clear S hcmp
 have hb1:((m:Int) - (a:Int) == 1)=true:=by rw [show (m:Int) - (a:Int)=1 by omega]; rfl
 have HAM:Aside (m=a + 1):=ham
 have ham':a < m:=by omega
 clear ham
 go_enter FG,FN
 go_wp2
 go_loopg [10,11] (b - m) (fun kx s10 s11 wr=>∃ (i j:Nat),s10 = .int .i64 i ∧ s11 = .int .i64 j ∧ m ≤ i ∧ i ≤ j ∧ j ≤ b ∧ j - i ≤ kx ∧ Aside (SWK enc k w0 blk off d wr) ∧ Aside (QV.bs (fun h=>ltOf cf d[h]! d[a]!) i j=QV.bs (fun h=>ltOf cf d[h]! d[a]!) m b))
 case atStart=>exact ⟨m,b,rfl,rfl,by omega,by omega,by omega,by omega,S0,rfl⟩
 case round =>
  clear S0
  obtain ⟨i,j,rfl,rfl,hmi,hij,hjb,hkx,S1,heq⟩:=hrel
  by_cases hlt:i < j
  ·have hltz:(i:Int) < (j:Int):=by omega
   have ea38:(((i:Int) + (j:Int)) / 2).toNat=(i + j) / 2:=by omega
   have pa38:(0:Int) ≤ ((i:Int) + (j:Int)) / 2:=by omega
   have ba38:((i:Int) + (j:Int)) / 2 < (d.size:Int):=by omega
   have ra38:IntKind.i64.wrap (((i:Int) + (j:Int)) / 2)=((i:Int) + (j:Int)) / 2:=by rw [IntKind.wrap_i64]; omega
   have ec38:((a:Int)).toNat=a:=by omega
   have pc38:(0:Int) ≤ (a:Int):=by omega
   have bc38:(a:Int) < (d.size:Int):=by omega
   obtain ⟨x38,hx38⟩:∃ x,x=d[(i + j) / 2]!:=⟨_,rfl⟩
   obtain ⟨y38,hy38⟩:∃ x,x=d[a]!:=⟨_,rfl⟩
   have l38a:=S1.out.ld R (by omega) Tryz.prog ((i + j) / 2) (by omega)
   have l38b:=S1.out.ld R (by omega) Tryz.prog a (by omega)
   rw [← hx38] at l38a
   rw [← hy38] at l38b
   have hc38:=S1.out.cmp HC.out (by omega) x38 y38
   cases hlv:ltOf cf d[(i + j) / 2]! d[a]! with
   | true =>
    have hv38:cf x38 y38 < 0:=by rw [hx38,hy38]; exact of_decide_eq_true hlv
    have hd38:decide (cf x38 y38 < 0)=true:=decide_eq_true hv38
    clear hx38 hy38
    go_wp2_with fail
    go_quiet_grown (first | (go_at_fn g; refine Calls.grown_of (hc38 _ _)))
    have S2:Aside (SWK enc k w0 blk off d (grow (wr.drewN nq) osq)):=S1.out.grown nq osq
    clear l38a l38b hc38 S1
    generalize grow (wr.drewN nq) osq=w2 at S2 ⊢
    clear nq osq
    go_wp2
    go_roundg (j - ((i + j) / 2 + 1))
    case measure=>omega
    case rel =>
     refine ⟨(i + j) / 2 + 1,j,by rw [show ((i:Int) + (j:Int)) / 2 + 1=(((i + j) / 2 + 1:Nat):Int) by omega],rfl,by omega,by omega,by omega,Nat.le_refl _,S2,(show _=_ from ?_)⟩
     rw [← heq.out]
     conv=>rhs; rw [QV.bs]
     rw [dif_pos hlt,hlv,if_pos rfl]
   | false =>
    have hv38:¬ cf x38 y38 < 0:=by rw [hx38,hy38]; exact of_decide_eq_false hlv
    have hd38:decide (cf x38 y38 < 0)=false:=decide_eq_false hv38
    clear hx38 hy38
    go_wp2_with fail
    go_quiet_grown (first | (go_at_fn g; refine Calls.grown_of (hc38 _ _)))
    have S2:Aside (SWK enc k w0 blk off d (grow (wr.drewN nq) osq)):=S1.out.grown nq osq
    clear l38a l38b hc38 S1
    generalize grow (wr.drewN nq) osq=w2 at S2 ⊢
    clear nq osq
    go_wp2
    go_roundg ((i + j) / 2 - i)
    case measure=>omega
    case rel =>
     refine ⟨i,(i + j) / 2,rfl,by rw [show ((i:Int) + (j:Int)) / 2=(((i + j) / 2:Nat):Int) by omega],by omega,by omega,by omega,Nat.le_refl _,S2,(show _=_ from ?_)⟩
     rw [← heq.out]
     conv=>rhs; rw [QV.bs]
     rw [dif_pos hlt,hlv,if_neg (by decide)]
  ·have hltz:¬ (i:Int) < (j:Int):=by omega
   obtain rfl:j=i:=by omega
   have hr:Aside (QV.bs (fun h=>ltOf cf d[h]! d[a]!) m b=j):=by
    show _=_
    rw [← heq.out,QV.bs,dif_neg hlt]
   clear heq
   go_wp2
   go_loopg [13] (j - 1 - a) (fun kx s13 wq=>∃ (t:Nat) (dk:Array α),s13 = .int .i64 (a + t:Nat) ∧ t ≤ j - 1 - a ∧ j - 1 - a - t ≤ kx ∧ dk.size=d.size ∧ Aside (SWK enc k w0 blk off dk wq) ∧ Aside (dk=QV.shR a t d))
   case atStart=>exact ⟨0,d,rfl,by omega,by omega,rfl,S1,rfl⟩
   case round =>
    clear S1
    obtain ⟨t,dk,rfl,ht,hkt,hds,S3,hdk⟩:=hrel
    by_cases htl:t < j - 1 - a
    ·have hz:((a + t:Nat):Int) < (j:Int) - 1:=by omega
     go_wp2_with fail
     have ea44:(((a + t:Nat):Int)).toNat=a + t:=by omega
     have pa44:(0:Int) ≤ ((a + t:Nat):Int):=by omega
     have ba44:((a + t:Nat):Int) < (d.size:Int):=by omega
     have ec44:(((a + t:Nat):Int) + 1).toNat=a + t + 1:=by omega
     have pc44:(0:Int) ≤ ((a + t:Nat):Int) + 1:=by omega
     have bc44:((a + t:Nat):Int) + 1 < (d.size:Int):=by omega
     have rc44:IntKind.i64.wrap (((a + t:Nat):Int) + 1)=((a + t:Nat):Int) + 1:=by rw [IntKind.wrap_i64]; omega
     have S2:Aside (SWK enc k w0 blk off (swp dk (a + t) (a + t + 1)) ((wr.drew.setCells blk (off + (a + t) * k) (enc dk[a + t + 1]!)).setCells blk (off + (a + t + 1) * k) (enc dk[a + t]!))):=S3.out.swapped R (a + t) (a + t + 1) (by omega) (by omega)
     have l44a:=S3.out.ld1 R (by omega) Tryz.prog (a + t) (by omega)
     have l44b:=S3.out.ld1 R (by omega) Tryz.prog (a + t + 1) (by omega)
     have s44a:=S3.out.st1 R (by omega) Tryz.prog (a + t) (by omega) dk[a + t + 1]!
     have s44b:=S3.out.st2 R (by omega) Tryz.prog (a + t) (a + t + 1) (by omega) (by omega) dk[a + t + 1]! dk[a + t]!
     have n44a:(enc dk[a + t]!).length=k:=R.hk _
     have n44b:(enc dk[a + t + 1]!).length=k:=R.hk _
     generalize enc dk[a + t]! = cI44 at S2 l44a s44b n44a
     generalize enc dk[a + t + 1]! = cJ44 at S2 l44b s44a s44b n44b
     clear S3
     go_wp2_with fail
     go_big_region_o
     clear l44a l44b s44a s44b
     generalize (wr.drew.setCells blk (off + (a + t) * k) cJ44).setCells blk (off + (a + t + 1) * k) cI44=w2 at S2 ⊢
     go_wp2
     go_roundg (j - 1 - a - (t + 1))
     case measure=>omega
     case rel=>exact ⟨t + 1,swp dk (a + t) (a + t + 1),by first | rfl | (congr 1; omega),by omega,Nat.le_refl _,by rw [size_swp]; exact hds,S2,by rw [hdk.out]; rfl⟩
    ·have hz:¬ ((a + t:Nat):Int) < (j:Int) - 1:=by omega
     obtain rfl:t=j - 1 - a:=by omega
     go_wp2
     (try simp only [Exit.inBlock,Exit.then]); refine bodyPost_ret (results_none rfl _ _ _) rfl ?_
     refine ⟨rfl,?_⟩
     rw [hr.out,← hdk.out]
     exact S3.out
end Go.Proofs

namespace Go.Proofs
open Go.Shelf Go.RowKit Go.Lib Go.Sort
set_option linter.unusedVariables false
variable {α:Type} [Inhabited α]
set_option maxHeartbeats 8000000 in
set_option maxRecDepth 1000000 in
theorem QV.symLast_calls (k:Nat) (aE:∀ w,(isAgg 68).run Tryz.prog w = .ok true w) (zE:∀ w,(Go.sizeOf 68).run Tryz.prog w = .ok k w) (enc:α → List Value) (cf:α → α → Int) (g:Nat) (cb:Array Value) (blk off cap a m b:Nat) (d0 d:Array α) (w0 w:World)
  (eg:∀ args w,(callFunc g args).run Tryz.prog w = .ok (.enter g args) w) (hcmp:CmpLays Tryz.prog g cb enc k cf blk off d0.size w0) (R:RowK enc k w0 blk off d0) (hs:d0.size=d.size) (S:SWK enc k w0 blk off d w) (ham:a + 1 < m) (hmb:b=m + 1) (hb:b ≤ d.size) (hsz:d.size < 4611686018427387904) :
  Calls Tryz.prog 100 #[.slice (some ⟨blk,off,none⟩) d.size cap,.int .i64 a,.int .i64 m,.int .i64 b,.func (.func g) #[] cb] w fun e w'=>e = .returned (.tuple #[]) ∧ SWK enc k w0 blk off (QV.shL m (m - QV.bs (fun h=>!ltOf cf d[m]! d[h]!) a m) d) w':=by
 have mixed:Tryz.prog.follows .mixedOrders=true:=by kernel_rfl
 have t0:=Tryz.underlying0; have a0:=Tryz.isAgg0; have z0:=Tryz.sizeOf0; have v0:=Tryz.zeroValue0; have t3:=Tryz.underlying3; have a3:=Tryz.isAgg3; have z3:=Tryz.sizeOf3; have v3:=Tryz.zeroValue3; have t4:=Tryz.underlying4; have a4:=Tryz.isAgg4; have z4:=Tryz.sizeOf4; have v4:=Tryz.zeroValue4; have t22:=Tryz.underlying33; have a22:=Tryz.isAgg33; have z22:=Tryz.sizeOf33; have v22:=Tryz.zeroValue33; have t25:=Tryz.underlying83; have a25:=Tryz.isAgg83; have z25:=Tryz.sizeOf83; have v25:=Tryz.zeroValue83
 have t35:=Tryz.underlying112; have a35:=Tryz.isAgg112; have z35:=Tryz.sizeOf112; have v35:=Tryz.zeroValue112
 have u3:=run_underlying Tryz.underlying3; have u4:=run_underlying Tryz.underlying4; have u35:=run_underlying Tryz.underlying112
 have FG:=Tryz.func100
 have FN:Tryz.f100.ntmps=220:=rfl
 have HC:Aside _:=hcmp
 have S0:Aside (SWK enc k w0 blk off d w):=S
 clear S hcmp
 have hb1:((m:Int) - (a:Int) == 1)=false:=beq_eq_false_iff_ne.2 (by omega)
 have hb2:((b:Int) - (m:Int) == 1)=true:=by rw [show (b:Int) - (m:Int)=1 by omega]; rfl
 have HMB:Aside (b=m + 1):=hmb
 have hmb':m < b:=by omega
 clear hmb
 go_enter FG,FN
 go_wp2
 go_loopg [14,15] (m - a) (fun kx s10 s11 wr=>∃ (i j:Nat),s10 = .int .i64 i ∧ s11 = .int .i64 j ∧ a ≤ i ∧ i ≤ j ∧ j ≤ m ∧ j - i ≤ kx ∧ Aside (SWK enc k w0 blk off d wr) ∧ Aside (QV.bs (fun h=>!ltOf cf d[m]! d[h]!) i j=QV.bs (fun h=>!ltOf cf d[m]! d[h]!) a m))
 case atStart=>exact ⟨a,m,rfl,rfl,by omega,by omega,by omega,by omega,S0,rfl⟩
 case round =>
  clear S0
  obtain ⟨i,j,rfl,rfl,hmi,hij,hjb,hkx,S1,heq⟩:=hrel
  by_cases hlt:i < j
  ·have hltz:(i:Int) < (j:Int):=by omega
   have ea38:(((i:Int) + (j:Int)) / 2).toNat=(i + j) / 2:=by omega
   have pa38:(0:Int) ≤ ((i:Int) + (j:Int)) / 2:=by omega
   have ba38:((i:Int) + (j:Int)) / 2 < (d.size:Int):=by omega
   have ra38:IntKind.i64.wrap (((i:Int) + (j:Int)) / 2)=((i:Int) + (j:Int)) / 2:=by rw [IntKind.wrap_i64]; omega
   have ec38:((m:Int)).toNat=m:=by omega
   have pc38:(0:Int) ≤ (m:Int):=by omega
   have bc38:(m:Int) < (d.size:Int):=by omega
   obtain ⟨x38,hx38⟩:∃ x,x=d[m]!:=⟨_,rfl⟩
   obtain ⟨y38,hy38⟩:∃ x,x=d[(i + j) / 2]!:=⟨_,rfl⟩
   have l38a:=S1.out.ld R (by omega) Tryz.prog m (by omega)
   have l38b:=S1.out.ld R (by omega) Tryz.prog ((i + j) / 2) (by omega)
   rw [← hx38] at l38a
   rw [← hy38] at l38b
   have hc38:=S1.out.cmp HC.out (by omega) x38 y38
   cases hlv:ltOf cf d[m]! d[(i + j) / 2]! with
   | true =>
    have hv38:cf x38 y38 < 0:=by rw [hx38,hy38]; exact of_decide_eq_true hlv
    have hd38:decide (cf x38 y38 < 0)=true:=decide_eq_true hv38
    clear hx38 hy38
    go_wp2_with fail
    go_quiet_grown (first | (go_at_fn g; refine Calls.grown_of (hc38 _ _)))
    have S2:Aside (SWK enc k w0 blk off d (grow (wr.drewN nq) osq)):=S1.out.grown nq osq
    clear l38a l38b hc38 S1
    generalize grow (wr.drewN nq) osq=w2 at S2 ⊢
    clear nq osq
    go_wp2
    go_roundg ((i + j) / 2 - i)
    case measure=>omega
    case rel =>
     refine ⟨i,(i + j) / 2,rfl,by rw [show ((i:Int) + (j:Int)) / 2=(((i + j) / 2:Nat):Int) by omega],by omega,by omega,by omega,Nat.le_refl _,S2,(show _=_ from ?_)⟩
     rw [← heq.out]
     conv=>rhs; rw [QV.bs]
     rw [dif_pos hlt,hlv]
     rfl
   | false =>
    have hv38:¬ cf x38 y38 < 0:=by rw [hx38,hy38]; exact of_decide_eq_false hlv
    have hd38:decide (cf x38 y38 < 0)=false:=decide_eq_false hv38
    clear hx38 hy38
    go_wp2_with fail
    go_quiet_grown (first | (go_at_fn g; refine Calls.grown_of (hc38 _ _)))
    have S2:Aside (SWK enc k w0 blk off d (grow (wr.drewN nq) osq)):=S1.out.grown nq osq
    clear l38a l38b hc38 S1
    generalize grow (wr.drewN nq) osq=w2 at S2 ⊢
    clear nq osq
    go_wp2
    go_roundg (j - ((i + j) / 2 + 1))
    case measure=>omega
    case rel =>
     refine ⟨(i + j) / 2 + 1,j,by rw [show ((i:Int) + (j:Int)) / 2 + 1=(((i + j) / 2 + 1:Nat):Int) by omega],rfl,by omega,by omega,by omega,Nat.le_refl _,S2,(show _=_ from ?_)⟩
     rw [← heq.out]
     conv=>rhs; rw [QV.bs]
     rw [dif_pos hlt,hlv]
     rfl
  ·have hltz:¬ (i:Int) < (j:Int):=by omega
   obtain rfl:j=i:=by omega
   have hr:Aside (QV.bs (fun h=>!ltOf cf d[m]! d[h]!) a m=j):=by
    show _=_
    rw [← heq.out,QV.bs,dif_neg hlt]
   clear heq
   go_wp2
   go_loopg [17] (m - j) (fun kx s13 wq=>∃ (t:Nat) (dk:Array α),s13 = .int .i64 (m - t:Nat) ∧ t ≤ m - j ∧ m - j - t ≤ kx ∧ dk.size=d.size ∧ Aside (SWK enc k w0 blk off dk wq) ∧ Aside (dk=QV.shL m t d))
   case atStart=>exact ⟨0,d,rfl,by omega,by omega,rfl,S1,rfl⟩
   case round =>
    clear S1
    obtain ⟨t,dk,rfl,ht,hkt,hds,S3,hdk⟩:=hrel
    by_cases htl:t < m - j
    ·have hz:(j:Int) < ((m - t:Nat):Int):=by omega
     obtain ⟨p,hp⟩:∃ p,m - t=p + 1:=⟨m - t - 1,by omega⟩
     have hsh:Aside (m - t=p + 1):=hp
     rw [hp] at hz ⊢
     have hpd:p + 1 < d.size:=by omega
     have hpj:j ≤ p:=by omega
     clear hp
     go_wp2_with fail
     have ea44:((p:Int) + 1).toNat=p + 1:=by omega
     have pa44:(0:Int) ≤ (p:Int) + 1:=by omega
     have ba44:(p:Int) + 1 < (d.size:Int):=by omega
     have ec44:((p:Int)).toNat=p:=by omega
     have pc44:(0:Int) ≤ (p:Int):=by omega
     have bc44:(p:Int) < (d.size:Int):=by omega
     have rc44:IntKind.i64.wrap (p:Int)=(p:Int):=by rw [IntKind.wrap_i64]; omega
     have S2:Aside (SWK enc k w0 blk off (swp dk (p + 1) p) ((wr.drew.setCells blk (off + (p + 1) * k) (enc dk[p]!)).setCells blk (off + p * k) (enc dk[p + 1]!))):=S3.out.swapped R (p + 1) p (by omega) (by omega)
     have l44a:=S3.out.ld1 R (by omega) Tryz.prog (p + 1) (by omega)
     have l44b:=S3.out.ld1 R (by omega) Tryz.prog p (by omega)
     have s44a:=S3.out.st1 R (by omega) Tryz.prog (p + 1) (by omega) dk[p]!
     have s44b:=S3.out.st2 R (by omega) Tryz.prog (p + 1) p (by omega) (by omega) dk[p]! dk[p + 1]!
     have n44a:(enc dk[p + 1]!).length=k:=R.hk _
     have n44b:(enc dk[p]!).length=k:=R.hk _
     generalize enc dk[p + 1]! = cI44 at S2 l44a s44b n44a
     generalize enc dk[p]! = cJ44 at S2 l44b s44a s44b n44b
     clear S3
     go_wp2_with fail
     go_big_region_o
     clear l44a l44b s44a s44b
     generalize (wr.drew.setCells blk (off + (p + 1) * k) cJ44).setCells blk (off + p * k) cI44=w2 at S2 ⊢
     go_wp2
     go_roundg (m - j - (t + 1))
     case measure=>omega
     case rel=>exact ⟨t + 1,swp dk (p + 1) p,by first | rfl | (have:=hsh.out; congr 1; omega),by omega,Nat.le_refl _,by rw [size_swp]; exact hds,S2,by have h:=hsh.out; show _=swp (QV.shL m t d) (m - t) (m - t - 1); rw [hdk.out,h,Nat.add_sub_cancel]⟩
    ·have hz:¬ (j:Int) < ((m - t:Nat):Int):=by omega
     obtain rfl:t=m - j:=by omega
     go_wp2
     (try simp only [Exit.inBlock,Exit.then]); refine bodyPost_ret (results_none rfl _ _ _) rfl ?_
     refine ⟨rfl,?_⟩
     rw [hr.out,← hdk.out]
     exact S3.out
end Go.Proofs

namespace Go.Proofs
open Go.Shelf Go.RowKit Go.Lib Go.Sort
set_option linter.unusedVariables false
set_option linter.unusedSimpArgs false
variable {α:Type} [Inhabited α]
set_option maxHeartbeats 8000000 in
set_option maxRecDepth 1000000 in
theorem QV.symMany_calls (k:Nat) (aE:∀ w,(isAgg 68).run Tryz.prog w = .ok true w) (zE:∀ w,(Go.sizeOf 68).run Tryz.prog w = .ok k w) (enc:α → List Value) (cf:α → α → Int) (g:Nat) (cb:Array Value) (blk off cap a m b gg:Nat) (d0 d:Array α) (w0 w:World)
  (eg:∀ args w,(callFunc g args).run Tryz.prog w = .ok (.enter g args) w) (hcmp:CmpLays Tryz.prog g cb enc k cf blk off d0.size w0) (R:RowK enc k w0 blk off d0) (hs:d0.size=d.size) (S:SWK enc k w0 blk off d w) (ham:a + 1 < m) (hmb:m + 1 < b) (hb:b ≤ d.size) (hsz:d.size < 4611686018427387904) (hgg:b - a ≤ gg + 1)
  (ih:∀ (a' m' b':Nat) (d':Array α) (w':World),d'.size=d.size → SWK enc k w0 blk off d' w' → b' - a' ≤ gg → a' < m' → m' < b' → b' ≤ d.size →
   Calls Tryz.prog 100 #[.slice (some ⟨blk,off,none⟩) d.size cap,.int .i64 a',.int .i64 m',.int .i64 b',.func (.func g) #[] cb] w' fun e w''=>e = .returned (.tuple #[]) ∧ SWK enc k w0 blk off (QV.qn (ltOf cf) gg a' m' b' d') w'') :
  Calls Tryz.prog 100 #[.slice (some ⟨blk,off,none⟩) d.size cap,.int .i64 a,.int .i64 m,.int .i64 b,.func (.func g) #[] cb] w fun e w'=>e = .returned (.tuple #[]) ∧ SWK enc k w0 blk off (QV.qn (ltOf cf) (gg + 1) a m b d) w':=by
 have mixed:Tryz.prog.follows .mixedOrders=true:=by kernel_rfl
 have t0:=Tryz.underlying0; have a0:=Tryz.isAgg0; have z0:=Tryz.sizeOf0; have v0:=Tryz.zeroValue0; have t3:=Tryz.underlying3; have a3:=Tryz.isAgg3; have z3:=Tryz.sizeOf3; have v3:=Tryz.zeroValue3; have t4:=Tryz.underlying4; have a4:=Tryz.isAgg4; have z4:=Tryz.sizeOf4; have v4:=Tryz.zeroValue4; have t22:=Tryz.underlying33; have a22:=Tryz.isAgg33; have z22:=Tryz.sizeOf33; have v22:=Tryz.zeroValue33; have t25:=Tryz.underlying83; have a25:=Tryz.isAgg83; have z25:=Tryz.sizeOf83; have v25:=Tryz.zeroValue83
 have t35:=Tryz.underlying112; have a35:=Tryz.isAgg112; have z35:=Tryz.sizeOf112; have v35:=Tryz.zeroValue112
 have u3:=run_underlying Tryz.underlying3; have u4:=run_underlying Tryz.underlying4; have u35:=run_underlying Tryz.underlying112
 have FG:=Tryz.func100
 have FN:Tryz.f100.ntmps=220:=rfl
 have E182:∀ args w,(callFunc 131 args).run Tryz.prog w = .ok (.enter 131 args) w:=enters_of Tryz.func131 (by kernel_rfl) rfl
 have E161:∀ args w,(callFunc 100 args).run Tryz.prog w = .ok (.enter 100 args) w:=enters_of Tryz.func100 (by kernel_rfl) rfl
 have HC:Aside _:=hcmp
 have S0:Aside (SWK enc k w0 blk off d w):=S
 have IH:Aside _:=ih
 clear S hcmp ih
 have hb1:((m:Int) - (a:Int) == 1)=false:=beq_eq_false_iff_ne.2 (by omega)
 have hb2:((b:Int) - (m:Int) == 1)=false:=beq_eq_false_iff_ne.2 (by omega)
 obtain ⟨C1,C2,C3,C4,_,_⟩:=QV.j3b (lt:=ltOf cf) (d:=d) (show a < m by omega) (show m < b by omega)
 obtain ⟨sz,hsz0⟩:∃ s,QV.X6 (ltOf cf) d a m b=s:=⟨_,rfl⟩
 rw [hsz0] at C1 C2 C3 C4
 have RES:Aside (QV.qn (ltOf cf) (gg + 1) a m b d=(if (a + b) / 2 < (a + b) / 2 + m - sz ∧ (a + b) / 2 + m - sz < b then QV.qn (ltOf cf) gg ((a + b) / 2) ((a + b) / 2 + m - sz) b (if a < sz ∧ sz < (a + b) / 2 then QV.qn (ltOf cf) gg a sz ((a + b) / 2) (QV.Jd d a m b sz) else QV.Jd d a m b sz) else (if a < sz ∧ sz < (a + b) / 2 then QV.qn (ltOf cf) gg a sz ((a + b) / 2) (QV.Jd d a m b sz) else QV.Jd d a m b sz))):=by
  show _=_
  rw [QV.qn,if_neg (by omega),if_neg (by omega)]
  simp only [hsz0]
 have CUT:Aside (QV.bs (fun c=>!ltOf cf d[(a + b) / 2 + m - 1 - c]! d[c]!) (if (a + b) / 2 < m then (a + b) / 2 + m - b else a) (if (a + b) / 2 < m then (a + b) / 2 else m)=sz):=hsz0
 clear hsz0
 obtain ⟨s0,hs0⟩:∃ s,(if (a + b) / 2 < m then (a + b) / 2 + m - b else a)=s:=⟨_,rfl⟩
 obtain ⟨r0,hr0⟩:∃ s,(if (a + b) / 2 < m then (a + b) / 2 else m)=s:=⟨_,rfl⟩
 have HS:Aside ((if (a + b) / 2 < m then (a + b) / 2 + m - b else a)=s0 ∧ (if (a + b) / 2 < m then (a + b) / 2 else m)=r0):=⟨hs0,hr0⟩
 have CUT':Aside (QV.bs (fun c=>!ltOf cf d[(a + b) / 2 + m - 1 - c]! d[c]!) s0 r0=sz):=by
  have h:=CUT.out
  rw [hs0,hr0] at h
  exact h
 have B1:s0 ≤ r0:=by rw [← hs0,← hr0]; split <;> omega
 have B2:a ≤ s0:=by rw [← hs0]; split <;> omega
 have B3:r0 ≤ m:=by rw [← hr0]; split <;> omega
 have B4:r0 ≤ (a + b) / 2:=by rw [← hr0]; split <;> omega
 have B5:(a + b) / 2 + m - s0 ≤ b:=by rw [← hs0]; split <;> omega
 clear CUT hs0 hr0
 go_enter FG,FN
 go_upto_if 140 with fail
 go_cut [20,21] from 25 (fun s20 s21 wc=>s20 = .int .i64 s0 ∧ s21 = .int .i64 r0 ∧ Aside (SWK enc k w0 blk off d wc))
 case first =>
  as_aux_lemma =>
   by_cases hmm:(a + b) / 2 < m
   ·have hmz:((a:Int) + (b:Int)) / 2 < (m:Int):=by omega
    have h:=HS.out
    rw [if_pos hmm,if_pos hmm] at h
    obtain ⟨h1,h2⟩:=h
    have H12:Aside ((a + b) / 2 + m - b=s0 ∧ (a + b) / 2=r0):=⟨h1,h2⟩
    clear h1 h2
    go_wp2_with fail
    go_meet
    case rel=>exact ⟨by have:=H12.out.1; congr 1; omega,by have:=H12.out.2; congr 1; omega,S0⟩
   ·have hmz:¬ ((a:Int) + (b:Int)) / 2 < (m:Int):=by omega
    have h:=HS.out
    rw [if_neg hmm,if_neg hmm] at h
    obtain ⟨h1,h2⟩:=h
    have H12:Aside (a=s0 ∧ m=r0):=⟨h1,h2⟩
    clear h1 h2
    go_wp2_with fail
    go_meet
    case rel=>exact ⟨by rw [H12.out.1],by rw [H12.out.2],S0⟩
 case rest =>
  clear S0
  obtain ⟨rfl,rfl,S0⟩:=hcut
  go_wp2
  go_loopg [20,21] (r0 - s0) (fun kx s20 s21 wr=>∃ (i j:Nat),s20 = .int .i64 i ∧ s21 = .int .i64 j ∧ s0 ≤ i ∧ i ≤ j ∧ j ≤ r0 ∧ j - i ≤ kx ∧ Aside (SWK enc k w0 blk off d wr) ∧ Aside (QV.bs (fun c=>!ltOf cf d[(a + b) / 2 + m - 1 - c]! d[c]!) i j=sz))
  case atStart=>exact ⟨s0,r0,rfl,rfl,by omega,by omega,by omega,by omega,S0,CUT'⟩
  case round =>
   clear S0
   obtain ⟨i,j,rfl,rfl,hmi,hij,hjb,hkx,S1,heq⟩:=hrel
   by_cases hlt:i < j
   ·have hltz:(i:Int) < (j:Int):=by omega
    have ea38:(((a:Int) + (b:Int)) / 2 + (m:Int) - 1 - ((i:Int) + (j:Int)) / 2).toNat=(a + b) / 2 + m - 1 - (i + j) / 2:=by omega
    have pa38:(0:Int) ≤ ((a:Int) + (b:Int)) / 2 + (m:Int) - 1 - ((i:Int) + (j:Int)) / 2:=by omega
    have ba38:((a:Int) + (b:Int)) / 2 + (m:Int) - 1 - ((i:Int) + (j:Int)) / 2 < (d.size:Int):=by omega
    have pb38:((i:Int) + (j:Int)) / 2 ≤ ((a:Int) + (b:Int)) / 2 + (m:Int) - 1:=by omega
    have ra38:IntKind.i64.wrap (((a:Int) + (b:Int)) / 2 + (m:Int) - 1 - ((i:Int) + (j:Int)) / 2)=((a:Int) + (b:Int)) / 2 + (m:Int) - 1 - ((i:Int) + (j:Int)) / 2:=by rw [IntKind.wrap_i64]; omega
    have ec38:(((i:Int) + (j:Int)) / 2).toNat=(i + j) / 2:=by omega
    have pc38:(0:Int) ≤ ((i:Int) + (j:Int)) / 2:=by omega
    have bc38:((i:Int) + (j:Int)) / 2 < (d.size:Int):=by omega
    obtain ⟨x38,hx38⟩:∃ x,x=d[(a + b) / 2 + m - 1 - (i + j) / 2]!:=⟨_,rfl⟩
    obtain ⟨y38,hy38⟩:∃ x,x=d[(i + j) / 2]!:=⟨_,rfl⟩
    have l38a:=S1.out.ld R (by omega) Tryz.prog ((a + b) / 2 + m - 1 - (i + j) / 2) (by omega)
    have l38b:=S1.out.ld R (by omega) Tryz.prog ((i + j) / 2) (by omega)
    rw [← hx38] at l38a
    rw [← hy38] at l38b
    have hc38:=S1.out.cmp HC.out (by omega) x38 y38
    cases hlv:ltOf cf d[(a + b) / 2 + m - 1 - (i + j) / 2]! d[(i + j) / 2]! with
    | true =>
     as_aux_lemma =>
      have hv38:cf x38 y38 < 0:=by rw [hx38,hy38]; exact of_decide_eq_true hlv
      have hd38:decide (cf x38 y38 < 0)=true:=decide_eq_true hv38
      clear hx38 hy38
      go_wp2_with fail
      go_quiet_grown (first | (go_at_fn g; refine Calls.grown_of (hc38 _ _)))
      have S2:Aside (SWK enc k w0 blk off d (grow (wr.drewN nq) osq)):=S1.out.grown nq osq
      clear l38a l38b hc38 S1
      generalize grow (wr.drewN nq) osq=w2 at S2 ⊢
      clear nq osq
      go_wp2
      go_roundg ((i + j) / 2 - i)
      case measure=>omega
      case rel =>
       refine ⟨i,(i + j) / 2,rfl,by rw [show ((i:Int) + (j:Int)) / 2=(((i + j) / 2:Nat):Int) by omega],by omega,by omega,by omega,Nat.le_refl _,S2,(show _=_ from ?_)⟩
       have h:=heq.out
       rw [QV.bs,dif_pos hlt] at h
       simp only [hlv,Bool.not_true,Bool.not_false,if_true,Bool.false_eq_true,if_false] at h
       exact h
    | false =>
     as_aux_lemma =>
      have hv38:¬ cf x38 y38 < 0:=by rw [hx38,hy38]; exact of_decide_eq_false hlv
      have hd38:decide (cf x38 y38 < 0)=false:=decide_eq_false hv38
      clear hx38 hy38
      go_wp2_with fail
      go_quiet_grown (first | (go_at_fn g; refine Calls.grown_of (hc38 _ _)))
      have S2:Aside (SWK enc k w0 blk off d (grow (wr.drewN nq) osq)):=S1.out.grown nq osq
      clear l38a l38b hc38 S1
      generalize grow (wr.drewN nq) osq=w2 at S2 ⊢
      clear nq osq
      go_wp2
      go_roundg (j - ((i + j) / 2 + 1))
      case measure=>omega
      case rel =>
       refine ⟨(i + j) / 2 + 1,j,by rw [show ((i:Int) + (j:Int)) / 2 + 1=(((i + j) / 2 + 1:Nat):Int) by omega],rfl,by omega,by omega,by omega,Nat.le_refl _,S2,(show _=_ from ?_)⟩
       have h:=heq.out
       rw [QV.bs,dif_pos hlt] at h
       simp only [hlv,Bool.not_true,Bool.not_false,if_true,Bool.false_eq_true,if_false] at h
       exact h
   ·have hltz:¬ (i:Int) < (j:Int):=by omega
    obtain rfl:j=i:=by omega
    have hr:Aside (j=sz):=by
     have h:=heq.out
     rw [QV.bs,dif_neg hlt] at h
     exact h
    clear heq
    have hj:=hr.out
    subst hj
    clear hr
    obtain ⟨md,hmd⟩:∃ x,(a + b) / 2=x:=⟨_,rfl⟩
    obtain ⟨en,hen⟩:∃ x,(a + b) / 2 + m - j=x:=⟨_,rfl⟩
    have z1:(QV.Jd d a m b j).size=d.size:=by
     unfold QV.Jd
     split
     ·exact QV.size_rot _ _ _ _ _ (Nat.le_refl _)
     ·rfl
    have n1:a < md:=by omega
    have n2:md < b:=by omega
    have n3:j ≤ md:=by omega
    have n4:en ≤ b:=by omega
    have n5:md ≤ en:=by omega
    have n6:b - md ≤ gg:=by omega
    have n7:md - a ≤ gg:=by omega
    have n8:b ≤ d.size:=hb
    have n9:a ≤ j:=by omega
    have nm:j ≤ m:=by omega
    have ne:m - j=en - md:=by omega
    have EE:Aside ((en:Int)=((a:Int) + (b:Int)) / 2 + (m:Int) - (j:Int) ∧ (md:Int)=((a:Int) + (b:Int)) / 2):=⟨by omega,by omega⟩
    have e1:QV.Jd d a m b j=if j < m ∧ m < en then QV.rot m (m - j) (en - m) d else d:=by
     unfold QV.Jd
     rw [hen,hmd,show en - m=md - j by omega]
    have RES1:Aside (QV.qn (ltOf cf) (gg + 1) a m b d=if md < en ∧ en < b then QV.qn (ltOf cf) gg md en b (if a < j ∧ j < md then QV.qn (ltOf cf) gg a j md (QV.Jd d a m b j) else QV.Jd d a m b j) else (if a < j ∧ j < md then QV.qn (ltOf cf) gg a j md (QV.Jd d a m b j) else QV.Jd d a m b j)):=by
     have h:=RES.out
     rw [hen,hmd] at h
     exact h
    obtain ⟨D1,hD1⟩:∃ x,QV.Jd d a m b j=x:=⟨_,rfl⟩
    rw [hD1] at z1 e1 RES1
    obtain ⟨D2,hD2⟩:∃ x,(if a < j ∧ j < md then QV.qn (ltOf cf) gg a j md D1 else D1)=x:=⟨_,rfl⟩
    rw [hD2] at RES1
    have RES2:Aside _:=RES1.out
    have z2:D2.size=d.size:=by
     rw [← hD2]
     split
     ·rw [QV.size_symM,z1]
     ·exact z1
    have HD1:Aside _:=e1
    have HD2:Aside ((if a < j ∧ j < md then QV.qn (ltOf cf) gg a j md D1 else D1)=D2):=hD2
    clear RES RES1 CUT' HS hmd hen hD1 hD2 e1 C1 C2 C3 C4 B1 B2 B3 B4 B5 hmi hij hjb hkx hltz hlt
    go_upto_region 39 with fail
    rw [← EE.out.1,← EE.out.2]
    go_cut [185] from 25 (fun st wx=>st = .bool (decide (j < m ∧ m < en)) ∧ wx=wr)
    case first =>
     as_aux_lemma =>
      by_cases hA:j < m
      ·have hy1:((j:Nat):Int) < ((m:Nat):Int):=by omega
       by_cases hB:m < en
       ·have hy2:((m:Nat):Int) < ((en:Nat):Int):=by omega
        have hP:decide (j < m ∧ m < en)=true:=decide_eq_true ⟨hA,hB⟩
        go_wp2_with fail
        go_meet
        case rel=>exact ⟨by rw [hP],rfl⟩
       ·have hy2:¬ ((m:Nat):Int) < ((en:Nat):Int):=by omega
        have hP:decide (j < m ∧ m < en)=false:=decide_eq_false fun h=>hB h.2
        go_wp2_with fail
        go_meet
        case rel=>exact ⟨by rw [hP],rfl⟩
      ·have hy1:¬ ((j:Nat):Int) < ((m:Nat):Int):=by omega
       have hP:decide (j < m ∧ m < en)=false:=decide_eq_false fun h=>hA h.1
       go_wp2_with fail
       go_meet
       case rel=>exact ⟨by rw [hP],rfl⟩
    case rest =>
     obtain ⟨rfl,rfl⟩:=hcut
     go_upto_if 185 with fail
     go_cut [20] from 25 (fun s20 wc=>s20 = .int .i64 j ∧ Aside (SWK enc k w0 blk off D1 wc))
     case first =>
      as_aux_lemma =>
       cases hT:decide (j < m ∧ m < en) with
       | true =>
        have h1:=of_decide_eq_true hT
        have hc:=QV.rotate_calls k aE zE enc g cb blk off cap j m en d0 d w0 wc R hs S1.out h1.1 h1.2 (by omega) hsz
        have e1:=HD1.out
        rw [if_pos h1] at e1
        rw [← e1] at hc
        clear S1 e1 HD1
        go_wp2_with (go_at_fn 131; refine hc.mono ?_; rintro e w1 ⟨rfl,hw1⟩)
        go_meet
        case rel=>exact ⟨rfl,hw1⟩
       | false =>
        have h1:=of_decide_eq_false hT
        have S2:Aside (SWK enc k w0 blk off D1 wc):=by
         rw [HD1.out,if_neg h1]
         exact S1
        clear S1 HD1
        go_wp2_with fail
        go_meet
        case rel=>exact ⟨rfl,S2⟩
     case rest =>
      clear S1 HD1
      obtain ⟨rfl,S1⟩:=hcut
      go_upto_region 41 with fail
      go_cut [199] from 25 (fun st wx=>st = .bool (decide (a < j ∧ j < md)) ∧ wx=wc)
      case first =>
       as_aux_lemma =>
        by_cases hA:a < j
        ·have hy1:((a:Nat):Int) < ((j:Nat):Int):=by omega
         by_cases hB:j < md
         ·have hy2:((j:Nat):Int) < ((md:Nat):Int):=by omega
          have hP:decide (a < j ∧ j < md)=true:=decide_eq_true ⟨hA,hB⟩
          go_wp2_with fail
          go_meet
          case rel=>exact ⟨by rw [hP],rfl⟩
         ·have hy2:¬ ((j:Nat):Int) < ((md:Nat):Int):=by omega
          have hP:decide (a < j ∧ j < md)=false:=decide_eq_false fun h=>hB h.2
          go_wp2_with fail
          go_meet
          case rel=>exact ⟨by rw [hP],rfl⟩
        ·have hy1:¬ ((a:Nat):Int) < ((j:Nat):Int):=by omega
         have hP:decide (a < j ∧ j < md)=false:=decide_eq_false fun h=>hA h.1
         go_wp2_with fail
         go_meet
         case rel=>exact ⟨by rw [hP],rfl⟩
      case rest =>
       obtain ⟨rfl,rfl⟩:=hcut
       go_upto_if 199 with fail
       go_cut [20] from 25 (fun s20 wd=>s20 = .int .i64 j ∧ Aside (SWK enc k w0 blk off D2 wd))
       case first =>
        as_aux_lemma =>
         cases hT:decide (a < j ∧ j < md) with
         | true =>
          have h2:=of_decide_eq_true hT
          have hc:=IH.out a j md D1 wc z1 S1.out n7 h2.1 h2.2 (by omega)
          have e1:=HD2.out
          rw [if_pos h2] at e1
          rw [e1] at hc
          clear S1 e1 HD2
          go_wp2_with (go_at_fn 100; refine hc.mono ?_; rintro e w1 ⟨rfl,hw1⟩)
          go_meet
          case rel=>exact ⟨rfl,hw1⟩
         | false =>
          have h2:=of_decide_eq_false hT
          have S2:Aside (SWK enc k w0 blk off D2 wc):=by
           rw [← HD2.out,if_neg h2]
           exact S1
          clear S1 HD2
          go_wp2_with fail
          go_meet
          case rel=>exact ⟨rfl,S2⟩
       case rest =>
        clear S1 HD2
        obtain ⟨rfl,S1⟩:=hcut
        go_upto_region 43 with fail
        go_cut [213] from 25 (fun st wx=>st = .bool (decide (md < en ∧ en < b)) ∧ wx=wc)
        case first =>
         as_aux_lemma =>
          by_cases hA:md < en
          ·have hy1:((md:Nat):Int) < ((en:Nat):Int):=by omega
           by_cases hB:en < b
           ·have hy2:((en:Nat):Int) < ((b:Nat):Int):=by omega
            have hP:decide (md < en ∧ en < b)=true:=decide_eq_true ⟨hA,hB⟩
            go_wp2_with fail
            go_meet
            case rel=>exact ⟨by rw [hP],rfl⟩
           ·have hy2:¬ ((en:Nat):Int) < ((b:Nat):Int):=by omega
            have hP:decide (md < en ∧ en < b)=false:=decide_eq_false fun h=>hB h.2
            go_wp2_with fail
            go_meet
            case rel=>exact ⟨by rw [hP],rfl⟩
          ·have hy1:¬ ((md:Nat):Int) < ((en:Nat):Int):=by omega
           have hP:decide (md < en ∧ en < b)=false:=decide_eq_false fun h=>hA h.1
           go_wp2_with fail
           go_meet
           case rel=>exact ⟨by rw [hP],rfl⟩
        case rest =>
         obtain ⟨rfl,rfl⟩:=hcut
         cases hT:decide (md < en ∧ en < b) with
         | true =>
          have h3:=of_decide_eq_true hT
          have hc:=IH.out md en b D2 wc z2 S1.out n6 h3.1 h3.2 n8
          have e1:=RES2.out
          rw [if_pos h3] at e1
          rw [← e1] at hc
          clear S1 e1 RES2
          go_wp2_with (go_at_fn 100; refine hc.mono ?_; rintro e w1 ⟨rfl,hw1⟩)
          go_end0
          exact ⟨rfl,hw1⟩
         | false =>
          have h3:=of_decide_eq_false hT
          have S2:Aside (SWK enc k w0 blk off (QV.qn (ltOf cf) (gg + 1) a m b d) wc):=by
           rw [RES2.out,if_neg h3]
           exact S1
          clear S1 RES2
          go_wp2_with fail
          go_end0
          exact ⟨rfl,S2.out⟩
end Go.Proofs

namespace Go.Proofs
open Go.Shelf Go.RowKit Go.Lib Go.Sort
set_option linter.unusedVariables false
variable {α:Type} [Inhabited α]
theorem QV.symMerge_calls (k:Nat) (aE:∀ w,(isAgg 68).run Tryz.prog w = .ok true w) (zE:∀ w,(Go.sizeOf 68).run Tryz.prog w = .ok k w) (enc:α → List Value) (cf:α → α → Int) (g:Nat) (cb:Array Value) (blk off cap:Nat) (d0:Array α) (w0:World)
  (eg:∀ args w,(callFunc g args).run Tryz.prog w = .ok (.enter g args) w) (hcmp:CmpLays Tryz.prog g cb enc k cf blk off d0.size w0) (R:RowK enc k w0 blk off d0) (hsz:d0.size < 4611686018427387904) :
  ∀ (gg a m b:Nat) (d:Array α) (w:World),d.size=d0.size → SWK enc k w0 blk off d w → b - a ≤ gg → a < m → m < b → b ≤ d0.size →
  Calls Tryz.prog 100 #[.slice (some ⟨blk,off,none⟩) d0.size cap,.int .i64 a,.int .i64 m,.int .i64 b,.func (.func g) #[] cb] w fun e w'=>e = .returned (.tuple #[]) ∧ SWK enc k w0 blk off (QV.qn (ltOf cf) gg a m b d) w':=by
 intro gg
 induction gg with
 | zero=>intro a m b d w _ _ h1 h2 h3; omega
 | succ gg ih =>
  intro a m b d w hs S hgg ham hmb hb
  rw [← hs] at hb hsz ⊢
  by_cases c1:m=a + 1
  ·have h:=QV.symOne_calls k aE zE enc cf g cb blk off cap a m b d0 d w0 w eg hcmp R hs.symm S c1 hmb hb hsz
   rw [QV.qn,if_pos (by omega)]
   exact h
  ·by_cases c2:b=m + 1
   ·have h:=QV.symLast_calls k aE zE enc cf g cb blk off cap a m b d0 d w0 w eg hcmp R hs.symm S (by omega) c2 hb hsz
    rw [QV.qn,if_neg (by omega),if_pos (by omega)]
    exact h
   ·refine QV.symMany_calls k aE zE enc cf g cb blk off cap a m b gg d0 d w0 w eg hcmp R hs.symm S (by omega) (by omega) hb hsz (by omega) ?_
    intro a' m' b' d' w' h1 h2 h3 h4 h5 h6
    rw [hs]
    exact ih a' m' b' d' w' (by omega) h2 h3 h4 h5 (by omega)
end Go.Proofs

namespace Go.Proofs
open Go.Shelf
def Tryz.lins_ren:Go.Shelf.Ren:=⟨fun | 20=>99 | n=>n,fun | 24=>68 | 22=>33 | 3=>3 | 25=>83 | 4=>4 | 0=>0 | n=>n,fun | n=>n⟩
theorem Tryz.lins:Go.Proofs.SlLaysF0.n20 Tryz.prog Tryz.lins_ren:={
 mixed:=by kernel_rfl,
 f20:=⟨"slices.insertionSortCmpFunc[loop.example/g00964/impl.Def]",by decide,Tryz.func99.trans (congrArg some (by kernel_rfl))⟩,
 t0:=Tryz.underlying0,
 a0:=Tryz.isAgg0,
 z0:=Tryz.sizeOf0,
 v0:=Tryz.zeroValue0,
 t3:=Tryz.underlying3,
 a3:=Tryz.isAgg3,
 z3:=Tryz.sizeOf3,
 v3:=Tryz.zeroValue3,
 t4:=Tryz.underlying4,
 a4:=Tryz.isAgg4,
 z4:=Tryz.sizeOf4,
 v4:=Tryz.zeroValue4,
 t22:=Tryz.underlying33,
 a22:=Tryz.isAgg33,
 z22:=Tryz.sizeOf33,
 v22:=Tryz.zeroValue33,
 t25:=Tryz.underlying83,
 a25:=Tryz.isAgg83,
 z25:=Tryz.sizeOf83,
 v25:=Tryz.zeroValue83 }
end Go.Proofs

namespace Go.Proofs
open Go.Shelf Go.RowKit Go.Lib Go.Sort
set_option linter.unusedVariables false
variable {α:Type} [Inhabited α]
theorem QV.ins_calls (k:Nat) (aE:∀ w,(isAgg 68).run Tryz.prog w = .ok true w) (zE:∀ w,(Go.sizeOf 68).run Tryz.prog w = .ok k w) (enc:α → List Value) (cf:α → α → Int) (g:Nat) (cb:Array Value) (blk off cap a b:Nat) (d0 d:Array α) (w0 w:World)
  (eg:∀ args w,(callFunc g args).run Tryz.prog w = .ok (.enter g args) w) (hcmp:CmpLays Tryz.prog g cb enc k cf blk off d0.size w0) (R:RowK enc k w0 blk off d0) (hs:d.size=d0.size) (S:SWK enc k w0 blk off d w) (hO:SWO (ltOf cf)) (hab:a ≤ b) (hb:b ≤ d0.size) (hsz:d0.size < 4611686018427387904) :
  Calls Tryz.prog 99 #[.slice (some ⟨blk,off,none⟩) d0.size cap,.int .i64 a,.int .i64 b,.func (.func g) #[] cb] w fun e w'=>e = .returned (.tuple #[]) ∧ SWK enc k w0 blk off (Sort.insertionSort (ltOf cf) d a b) w' ∧ (Sort.insertionSort (ltOf cf) d a b).size=d0.size:=by
 have hz:(Sort.insertionSort (ltOf cf) d a b).size=d.size:=(QV.j1N hO hab (by omega)).size
 have hC:CmpLays Tryz.prog g cb enc k cf blk off d.size w:=by
  intro m os dk hdk x y
  obtain ⟨n1,o1,e1⟩:=S
  have:=sortWorldK_on enc k w0 blk off n1 m d dk o1 os R.hblk hdk
  rw [← e1] at this
  rw [this]
  exact hcmp _ _ dk (hdk.trans hs) x y
 have h:=AnyQ.insertionSortCmpFunc Tryz.lins k aE zE enc R.hk R.h1 cf g cb blk off cap a b d w eg hC (S.holds R.hblk R.hH hs) (S.lt R.hblk) hab (by omega) (by omega)
 rw [hs] at h
 refine h.mono ?_
 rintro e w' ⟨he,n,os,hw⟩
 exact ⟨he,by rw [hw]; exact S.on R.hblk n _ os hz,hz.trans hs⟩
set_option maxHeartbeats 8000000 in
set_option maxRecDepth 1000000 in
theorem QV.stable_calls (k:Nat) (aE:∀ w,(isAgg 68).run Tryz.prog w = .ok true w) (zE:∀ w,(Go.sizeOf 68).run Tryz.prog w = .ok k w) (enc:α → List Value) (cf:α → α → Int) (g:Nat) (cb:Array Value) (blk off cap:Nat) (d:Array α) (w:World)
  (eg:∀ args w,(callFunc g args).run Tryz.prog w = .ok (.enter g args) w) (hcmp:CmpLays Tryz.prog g cb enc k cf blk off d.size w) (R:RowK enc k w blk off d) (S:SWK enc k w blk off d w) (hO:SWO (ltOf cf)) (hsz:d.size < 2305843009213693952) :
  Calls Tryz.prog 67 #[.slice (some ⟨blk,off,none⟩) d.size cap,.int .i64 d.size,.func (.func g) #[] cb] w fun e w'=>e = .returned (.tuple #[]) ∧ SWK enc k w blk off (QV.kt (ltOf cf) d) w':=by
 have mixed:Tryz.prog.follows .mixedOrders=true:=by kernel_rfl
 have t0:=Tryz.underlying0; have a0:=Tryz.isAgg0; have z0:=Tryz.sizeOf0; have v0:=Tryz.zeroValue0; have t3:=Tryz.underlying3; have a3:=Tryz.isAgg3; have z3:=Tryz.sizeOf3; have v3:=Tryz.zeroValue3; have t4:=Tryz.underlying4; have a4:=Tryz.isAgg4; have z4:=Tryz.sizeOf4; have v4:=Tryz.zeroValue4; have t22:=Tryz.underlying33; have a22:=Tryz.isAgg33; have z22:=Tryz.sizeOf33; have v22:=Tryz.zeroValue33; have t25:=Tryz.underlying83; have a25:=Tryz.isAgg83; have z25:=Tryz.sizeOf83; have v25:=Tryz.zeroValue83
 have FG:=Tryz.func67
 have FN:Tryz.f67.ntmps=63:=rfl
 have E98:∀ args w,(callFunc 99 args).run Tryz.prog w = .ok (.enter 99 args) w:=enters_of Tryz.func99 (by kernel_rfl) rfl
 have E99:∀ args w,(callFunc 100 args).run Tryz.prog w = .ok (.enter 100 args) w:=enters_of Tryz.func100 (by kernel_rfl) rfl
 have INS:Aside _:=fun (a b:Nat) (d':Array α) (w':World) (hs:d'.size=d.size) (S':SWK enc k w blk off d' w') (hab:a ≤ b) (hb:b ≤ d.size)=>QV.ins_calls k aE zE enc cf g cb blk off cap a b d d' w w' eg hcmp R hs S' hO hab hb (by omega)
 have SYM:Aside _:=QV.symMerge_calls k aE zE enc cf g cb blk off cap d w eg hcmp R (by omega)
 obtain ⟨n,hn⟩:∃ n,d.size=n:=⟨_,rfl⟩
 have HN:Aside (d.size=n):=hn
 have RES:Aside (QV.kt (ltOf cf) d=QV.yy (ltOf cf) n 20 (QV.j0T (ltOf cf) n 20 0 d)):=by
  show _=_
  rw [QV.kt,hn]
 have S0:Aside (SWK enc k w blk off d w):=S
 rw [hn] at INS SYM hsz ⊢
 clear S hcmp R hO hn
 go_enter FG,FN
 go_wp2
 go_loopg [7,8] n (fun kx s7 s8 wr=>∃ (a:Nat) (dk:Array α),s7 = .int .i64 a ∧ s8 = .int .i64 (a + 20:Nat) ∧ a ≤ n ∧ n - a ≤ kx ∧ dk.size=n ∧ Aside (SWK enc k w blk off dk wr) ∧ Aside (QV.j0T (ltOf cf) n 20 a dk=QV.j0T (ltOf cf) n 20 0 d))
 case atStart=>exact ⟨0,d,rfl,rfl,by omega,by omega,HN.out,S0,rfl⟩
 case round =>
  clear S0
  obtain ⟨a,dk,rfl,rfl,han,hkx,hds,S1,heq⟩:=hrel
  by_cases hl:a + 20 ≤ n
  ·have hlz:((a + 20:Nat):Int) ≤ (n:Int):=by omega
   have hc:=INS.out a (a + 20) dk wr hds S1.out (by omega) hl
   have heq2:Aside (QV.j0T (ltOf cf) n 20 (a + 20) (Sort.insertionSort (ltOf cf) dk a (a + 20))=QV.j0T (ltOf cf) n 20 0 d):=by
    have h:=heq.out
    rw [QV.j0T,dif_pos ⟨hl,by omega⟩] at h
    exact h
   clear S1 heq
   go_wp2_with (go_at_fn 99; refine hc.mono ?_; rintro e w1 ⟨rfl,hw1,hz1⟩)
   go_roundg (n - (a + 20))
   case measure=>omega
   case rel=>exact ⟨a + 20,_,rfl,by first | rfl | (congr 1 <;> omega),hl,Nat.le_refl _,hz1,hw1,heq2⟩
  ·have hlz:¬ ((a + 20:Nat):Int) ≤ (n:Int):=by omega
   have hc:=INS.out a n dk wr hds S1.out han (Nat.le_refl _)
   have RES2:Aside (QV.kt (ltOf cf) d=QV.yy (ltOf cf) n 20 (Sort.insertionSort (ltOf cf) dk a n)):=by
    show _=_
    have h:=heq.out
    rw [QV.j0T,dif_neg (by omega)] at h
    rw [RES.out,← h]
   clear S1 heq RES
   generalize Sort.insertionSort (ltOf cf) dk a n=D at hc RES2
   go_wp2_with (go_at_fn 99; refine hc.mono ?_; rintro e w1 ⟨rfl,hw1,hz1⟩)
   have S3:Aside (SWK enc k w blk off D w1):=hw1
   clear hw1 hc
   go_loopg [6] n (fun kx s6 wq=>∃ (B:Nat) (dq:Array α),s6 = .int .i64 B ∧ 20 ≤ B ∧ B ≤ 2 * n + 20 ∧ n - B ≤ kx ∧ dq.size=n ∧ Aside (SWK enc k w blk off dq wq) ∧ Aside (QV.yy (ltOf cf) n B dq=QV.kt (ltOf cf) d))
   case atStart=>exact ⟨20,D,rfl,by omega,by omega,by omega,hz1,S3,RES2.out.symm⟩
   case round =>
    clear S3 RES2
    obtain ⟨B,dq,rfl,hB,hB2,hkq,hdq,S4,hall⟩:=hrel
    by_cases hBn:B < n
    ·have hBz:(B:Int) < (n:Int):=by omega
     have hall2:Aside (QV.yy (ltOf cf) n (2 * B) (QV.mrg (ltOf cf) n B 0 dq)=QV.kt (ltOf cf) d):=by
      have h:=hall.out
      rw [QV.yy,dif_pos ⟨hBn,by omega⟩] at h
      exact h
     clear hall
     go_wp2
     go_loopg [7,8] n (fun kx s7 s8 wr=>∃ (a:Nat) (dk:Array α),s7 = .int .i64 a ∧ s8 = .int .i64 (a + 2 * B:Nat) ∧ a ≤ n ∧ n - a ≤ kx ∧ dk.size=n ∧ Aside (SWK enc k w blk off dk wr) ∧ Aside (QV.mrg (ltOf cf) n B a dk=QV.mrg (ltOf cf) n B 0 dq))
     case atStart=>exact ⟨0,dq,rfl,by first | rfl | (congr 1 <;> omega),by omega,by omega,hdq,S4,rfl⟩
     case round =>
      clear S4
      obtain ⟨c,dr,rfl,rfl,hcn,hkr,hdr,S5,hm⟩:=hrel
      by_cases hl3:c + 2 * B ≤ n
      ·have hz3:((c + 2 * B:Nat):Int) ≤ (n:Int):=by omega
       have hc:=SYM.out (2 * B) c (c + B) (c + 2 * B) dr wr hdr S5.out (by omega) (by omega) (by omega) hl3
       rw [show ((c + B:Nat):Int)=(c:Int) + (B:Int) by omega] at hc
       have hm2:Aside (QV.mrg (ltOf cf) n B (c + 2 * B) (QV.qn (ltOf cf) (2 * B) c (c + B) (c + 2 * B) dr)=QV.mrg (ltOf cf) n B 0 dq):=by
        have h:=hm.out
        rw [QV.mrg,dif_pos ⟨hl3,by omega⟩] at h
        exact h
       have hz1:(QV.qn (ltOf cf) (2 * B) c (c + B) (c + 2 * B) dr).size=n:=by rw [QV.size_symM,hdr]
       clear S5 hm
       generalize QV.qn (ltOf cf) (2 * B) c (c + B) (c + 2 * B) dr=D3 at hc hm2 hz1
       go_wp2_with (go_at_fn 100; refine hc.mono ?_; rintro e w2 ⟨rfl,hw2⟩)
       go_roundg (n - (c + 2 * B))
       case measure=>omega
       case rel=>exact ⟨c + 2 * B,D3,by first | rfl | (congr 1 <;> omega),by first | rfl | (congr 1 <;> omega),hl3,Nat.le_refl _,hz1,hw2,hm2⟩
      ·have hz3:¬ ((c + 2 * B:Nat):Int) ≤ (n:Int):=by omega
       by_cases hm1:c + B < n
       ·have hz4:(c:Int) + (B:Int) < (n:Int):=by omega
        have hc:=SYM.out (n - c) c (c + B) n dr wr hdr S5.out (by omega) (by omega) (by omega) (Nat.le_refl _)
        rw [show ((c + B:Nat):Int)=(c:Int) + (B:Int) by omega] at hc
        have hz1:(QV.qn (ltOf cf) (n - c) c (c + B) n dr).size=n:=by rw [QV.size_symM,hdr]
        have hm2:Aside (QV.yy (ltOf cf) n (2 * B) (QV.qn (ltOf cf) (n - c) c (c + B) n dr)=QV.kt (ltOf cf) d):=by
         have h:=hm.out
         rw [QV.mrg,dif_neg (by omega),if_pos hm1] at h
         rw [h]
         exact hall2.out
        clear S5 hm hall2
        generalize QV.qn (ltOf cf) (n - c) c (c + B) n dr=D3 at hc hm2 hz1
        go_wp2_with (go_at_fn 100; refine hc.mono ?_; rintro e w2 ⟨rfl,hw2⟩)
        go_roundg (n - 2 * B)
        case measure=>omega
        case rel=>exact ⟨2 * B,D3,by first | rfl | (congr 1 <;> omega),by omega,by omega,Nat.le_refl _,hz1,hw2,hm2⟩
       ·have hz4:¬ (c:Int) + (B:Int) < (n:Int):=by omega
        have hm2:Aside (QV.yy (ltOf cf) n (2 * B) dr=QV.kt (ltOf cf) d):=by
         have h:=hm.out
         rw [QV.mrg,dif_neg (by omega),if_neg hm1] at h
         rw [h]
         exact hall2.out
        clear hm hall2
        go_wp2_with fail
        go_roundg (n - 2 * B)
        case measure=>omega
        case rel=>exact ⟨2 * B,dr,by first | rfl | (congr 1 <;> omega),by omega,by omega,Nat.le_refl _,hdr,S5,hm2⟩
    ·have hBz:¬ (B:Int) < (n:Int):=by omega
     have hall2:QV.kt (ltOf cf) d=dq:=by
      have h:=hall.out
      rw [QV.yy,dif_neg (by omega)] at h
      exact h.symm
     go_wp2
     go_end0
     refine ⟨rfl,?_⟩
     first | exact S4.out | (rw [hall2]; exact S4.out)
end Go.Proofs

namespace Go.Proofs
open Go.Shelf Go.RowKit Go.Lib Go.Sort
set_option linter.unusedVariables false
variable {α:Type} [Inhabited α]
set_option maxHeartbeats 4000000 in
set_option maxRecDepth 1000000 in
theorem QV.sortStable_calls (k:Nat) (aE:∀ w,(isAgg 68).run Tryz.prog w = .ok true w) (zE:∀ w,(Go.sizeOf 68).run Tryz.prog w = .ok k w) (enc:α → List Value) (cf:α → α → Int) (g:Nat) (cb:Array Value) (blk off cap:Nat) (d:Array α) (w:World)
  (eg:∀ args w,(callFunc g args).run Tryz.prog w = .ok (.enter g args) w) (hcmp:CmpLays Tryz.prog g cb enc k cf blk off d.size w) (R:RowK enc k w blk off d) (hO:SWO (ltOf cf)) (hsz:d.size < 2305843009213693952) :
  Calls Tryz.prog 35 #[.slice (some ⟨blk,off,none⟩) d.size cap,.func (.func g) #[] cb] w fun e w'=>e = .returned (.tuple #[]) ∧ SWK enc k w blk off (QV.kt (ltOf cf) d) w':=by
 have mixed:Tryz.prog.follows .mixedOrders=true:=by kernel_rfl
 have t0:=Tryz.underlying0; have a0:=Tryz.isAgg0; have z0:=Tryz.sizeOf0; have v0:=Tryz.zeroValue0; have t3:=Tryz.underlying3; have a3:=Tryz.isAgg3; have z3:=Tryz.sizeOf3; have v3:=Tryz.zeroValue3; have t22:=Tryz.underlying33; have a22:=Tryz.isAgg33; have z22:=Tryz.sizeOf33; have v22:=Tryz.zeroValue33; have t25:=Tryz.underlying83; have a25:=Tryz.isAgg83; have z25:=Tryz.sizeOf83; have v25:=Tryz.zeroValue83
 have FG:=Tryz.func35
 have FN:Tryz.f35.ntmps=9:=rfl
 have E61:∀ args w,(callFunc 67 args).run Tryz.prog w = .ok (.enter 67 args) w:=enters_of Tryz.func67 (by kernel_rfl) rfl
 have hc:=QV.stable_calls k aE zE enc cf g cb blk off cap d w eg hcmp R (SWK.start R.hH) hO hsz
 clear hcmp R hO
 go_enter FG,FN
 go_wp2_with (go_at_fn 67; refine hc.mono ?_; rintro e w1 ⟨rfl,hw1⟩)
 go_end0
 exact ⟨rfl,hw1⟩
set_option maxHeartbeats 4000000 in
set_option maxRecDepth 1000000 in
theorem QV.insNil_calls (fv:Value) (w:World):Calls Tryz.prog 99 #[.slice none 0 0,.int .i64 0,.int .i64 0,fv] w fun e w'=>e = .returned (.tuple #[]) ∧ w'=w:=by
 have mixed:Tryz.prog.follows .mixedOrders=true:=by kernel_rfl
 have t0:=Tryz.underlying0; have a0:=Tryz.isAgg0; have z0:=Tryz.sizeOf0; have v0:=Tryz.zeroValue0; have t3:=Tryz.underlying3; have a3:=Tryz.isAgg3; have z3:=Tryz.sizeOf3; have v3:=Tryz.zeroValue3; have t22:=Tryz.underlying33; have a22:=Tryz.isAgg33; have z22:=Tryz.sizeOf33; have v22:=Tryz.zeroValue33
 have FG:=Tryz.func99
 have FN:Tryz.f99.ntmps=53:=rfl
 go_enter FG,FN
 go_wp2
 go_loopg [8] 0 (fun kx s8 wr=>s8 = .int .i64 1 ∧ wr=w)
 case atStart=>exact ⟨rfl,rfl⟩
 case round =>
  obtain ⟨rfl,rfl⟩:=hrel
  go_wp2
  go_end0
  exact ⟨rfl,rfl⟩
set_option maxHeartbeats 4000000 in
set_option maxRecDepth 1000000 in
theorem QV.stableNil_calls (fv:Value) (w:World):Calls Tryz.prog 67 #[.slice none 0 0,.int .i64 0,fv] w fun e w'=>e = .returned (.tuple #[]) ∧ w'=w:=by
 have mixed:Tryz.prog.follows .mixedOrders=true:=by kernel_rfl
 have t0:=Tryz.underlying0; have a0:=Tryz.isAgg0; have z0:=Tryz.sizeOf0; have v0:=Tryz.zeroValue0; have t3:=Tryz.underlying3; have a3:=Tryz.isAgg3; have z3:=Tryz.sizeOf3; have v3:=Tryz.zeroValue3; have t22:=Tryz.underlying33; have a22:=Tryz.isAgg33; have z22:=Tryz.sizeOf33; have v22:=Tryz.zeroValue33
 have FG:=Tryz.func67
 have FN:Tryz.f67.ntmps=63:=rfl
 have E98:∀ args w,(callFunc 99 args).run Tryz.prog w = .ok (.enter 99 args) w:=enters_of Tryz.func99 (by kernel_rfl) rfl
 go_enter FG,FN
 go_wp2
 go_loopg [7,8] 0 (fun kx s7 s8 wr=>s7 = .int .i64 0 ∧ s8 = .int .i64 20 ∧ wr=w)
 case atStart=>exact ⟨rfl,rfl,rfl⟩
 case round =>
  obtain ⟨rfl,rfl,rfl⟩:=hrel
  have hc:=QV.insNil_calls fv wr
  go_wp2_with (go_at_fn 99; refine hc.mono ?_; rintro e w1 ⟨rfl,rfl⟩)
  go_loopg [6] 0 (fun kx s6 wq=>s6 = .int .i64 20 ∧ wq=w1)
  case atStart=>exact ⟨rfl,rfl⟩
  case round =>
   obtain ⟨rfl,rfl⟩:=hrel
   go_wp2
   go_end0
   exact ⟨rfl,rfl⟩
set_option maxHeartbeats 4000000 in
set_option maxRecDepth 1000000 in
theorem QV.sortStableNil_calls (fv:Value) (w:World):Calls Tryz.prog 35 #[.slice none 0 0,fv] w fun e w'=>e = .returned (.tuple #[]) ∧ w'=w:=by
 have mixed:Tryz.prog.follows .mixedOrders=true:=by kernel_rfl
 have t0:=Tryz.underlying0; have a0:=Tryz.isAgg0; have z0:=Tryz.sizeOf0; have v0:=Tryz.zeroValue0; have t3:=Tryz.underlying3; have a3:=Tryz.isAgg3; have z3:=Tryz.sizeOf3; have v3:=Tryz.zeroValue3; have t22:=Tryz.underlying33; have a22:=Tryz.isAgg33; have z22:=Tryz.sizeOf33; have v22:=Tryz.zeroValue33
 have FG:=Tryz.func35
 have FN:Tryz.f35.ntmps=9:=rfl
 have E61:∀ args w,(callFunc 67 args).run Tryz.prog w = .ok (.enter 67 args) w:=enters_of Tryz.func67 (by kernel_rfl) rfl
 have hc:=QV.stableNil_calls fv w
 go_enter FG,FN
 go_wp2_with (go_at_fn 67; refine hc.mono ?_; rintro e w1 ⟨rfl,rfl⟩)
 go_end0
 exact ⟨rfl,rfl⟩
end Go.Proofs
