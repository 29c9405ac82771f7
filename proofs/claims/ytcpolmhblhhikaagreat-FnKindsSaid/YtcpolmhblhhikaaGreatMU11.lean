import Derived.Test.YtcpolmhblhhikaaGreatMU10
import Derived.Test.YtcpolmhblhhikaaGreatMU5
import Derived.Test.YtcpolmhblhhikaaGreatMU9
/- Small things of a schema's checks: that they answer. -/
namespace Go.Proofs.QV
open Go
open _root_.Bool renaming and_eq_true → jk, not_true → je, not_false → jc
open _root_.Int renaming toNat_natCast → jd
open Out renaming andThen → ja, andThenB → j9
open _root_.List renaming length_cons → jb, length_nil → jf, cons_append → jh, nil_append → jg, getElem_mem → ju, length_append → jj, map_cons → js, flatMap_cons → jn, append_assoc → jD, append_nil → jv
open _root_.Option.some renaming injEq → j8
open _root_.Prod.mk renaming injEq → ji
set_option linter.unusedVariables false
set_option linter.unusedSimpArgs false
set_option maxRecDepth 100000
def j0n (a:TInDef):Bool:=(!a.has' || (a.default'.kind == 2 && decide (0 < a.default'.text.length) && a.default'.items.isEmpty && a.default'.names.isEmpty)) && decide (a.type'.wraps.length ≤ 20) && decide (a.default'.text.length ≤ 20)
def j1M (f:TFieldDef):Bool:=decide (f.type'.wraps.length ≤ 20) && decide (f.args.length ≤ 20) && f.args.all j0n
def j8u:List UInt8:=[73,110,116]
def j66:List UInt8:=[110,111,112,101]
def j0f:List UInt8:=[70,105,110,100]
def j7W (d:TDef):Bool:=!d.ext && decide (1 ≤ d.kind) && decide (d.kind ≤ 7) && decide (X4 (TDef.enc d) ≤ 4000) && decide (d.faces.length ≤ 20) && decide (d.fields.length ≤ 20) && decide (d.inputs.length ≤ 20) && decide (d.values.length ≤ 20) && d.fields.all j1M && d.inputs.all j0n && ((d.kind == 6) == (d.name == j0f)) && !(d.name == j8u) && !(d.name == j66)
structure OkD (d:TDef):Prop where
 ext:d.ext=false
 k1:1 ≤ d.kind
 k7:d.kind ≤ 7
 wt:X4 (TDef.enc d) ≤ 4000
 faces:d.faces.length ≤ 20
 fields:d.fields.length ≤ 20
 inputs:d.inputs.length ≤ 20
 values:d.values.length ≤ 20
 okf:∀ f ∈ d.fields,j1M f=true
 oki:∀ f ∈ d.inputs,j0n f=true
 find:(d.kind == 6)=(d.name == j0f)
 int:d.name ≠ j8u
 nope:d.name ≠ j66
theorem j7V {d:TDef} (h:j7W d=true):OkD d:=by
 simp only [j7W,jk,Bool.not_eq_true',decide_eq_true_eq,List.all_eq_true,beq_iff_eq,beq_eq_false_iff_ne,ne_eq] at h
 obtain ⟨⟨⟨⟨⟨⟨⟨⟨⟨⟨⟨⟨h1,h2⟩,h3⟩,h4⟩,h5⟩,h6⟩,h7⟩,h8⟩,h9⟩,h10⟩,h11⟩,h12⟩,h13⟩:=h
 exact ⟨h1,h2,h3,h4,h5,h6,h7,h8,h9,h10,h11,h12,h13⟩
theorem j0i {n m:Nat} (h:n + m ≤ 1000000000):n + m < jT:=by unfold jT; omega
theorem Ql (n:List UInt8):∃ b,qb [.s n] = .ret [.b b]:=by
 rw [j1r]
 by_cases h:2 ≤ n.length
 ·have h':(n.length:Int) ≥ 2:=by omega
  have h2:(2:Int) ≤ (n.length:Int):=by omega
  exact ⟨_,by simp only [qL,qI,qS,qB,Q4,List.getD_cons_zero,List.getD_cons_succ,DC.bb_b,DC.ii_i,DC.ss_s,DC.ll_sl,List.length_map,jd,Int.natCast_nonneg,decide_true,decide_false,if_true,if_false,Bool.false_eq_true,and_self,true_and,ja,j9,Out.bindR_ret,jb,jf,Nat.zero_add,beq_self_eq_true,bne_self_eq_false,je,jc,eq_self,jh,jg,h',h2,show (0:Int) ≤ 2 by decide]; rfl⟩
 ·have h':¬ (n.length:Int) ≥ 2:=by omega
  exact ⟨_,by simp only [qL,qI,qS,qB,Q4,List.getD_cons_zero,List.getD_cons_succ,DC.bb_b,DC.ii_i,DC.ss_s,DC.ll_sl,List.length_map,jd,Int.natCast_nonneg,decide_true,decide_false,if_true,if_false,Bool.false_eq_true,and_self,true_and,ja,j9,Out.bindR_ret,jb,jf,Nat.zero_add,beq_self_eq_true,bne_self_eq_false,je,jc,eq_self,jh,jg,h']; rfl⟩
theorem j97 (k:Int):∃ w,qq [.i k] = .ret [.s w]:=by
 rw [JT]
 simp only [qL,qI,qS,qB,Zr,List.getD_cons_zero,List.getD_cons_succ,DC.bb_b,DC.ii_i,DC.ss_s,DC.ll_sl,List.length_map,jd,Int.natCast_nonneg,decide_true,decide_false,if_true,if_false,Bool.false_eq_true,and_self,true_and,ja,j9,Out.bindR_ret,jb,jf,Nat.zero_add,beq_self_eq_true,bne_self_eq_false,je,jc,eq_self,jh,jg]
 cases (k == 1) with
 | true=>exact ⟨_,rfl⟩
 | false=>cases (k == 2) with
  | true=>exact ⟨_,rfl⟩
  | false=>cases (k == 3) with
   | true=>exact ⟨_,rfl⟩
   | false=>exact ⟨_,rfl⟩
theorem Qk {n:Nat} (h:0 < n) (h2:n ≤ 4000):IntKind.i64.wrap ((n:Int) - 1)=((n - 1:Nat):Int):=by
 rw [IntKind.wrap_i64]
 omega
theorem j5A (n w:List UInt8) (hw:w.length ≤ 4000):∃ b,J2 [.s n,.s w] = .ret [.b b] ∧ (b=true → 0 < w.length):=by
 rw [j3e]
 by_cases h:0 < w.length
 ·have h':(w.length:Int) > 0:=by omega
  have h2:((w.length - 1:Nat):Int) < (w.length:Int):=by omega
  exact ⟨_,by simp only [qL,qI,qS,qB,VF,List.getD_cons_zero,List.getD_cons_succ,DC.bb_b,DC.ii_i,DC.ss_s,DC.ll_sl,List.length_map,jd,Int.natCast_nonneg,decide_true,decide_false,if_true,if_false,Bool.false_eq_true,and_self,true_and,ja,j9,Out.bindR_ret,jb,jf,Nat.zero_add,beq_self_eq_true,bne_self_eq_false,je,jc,eq_self,jh,jg,h',h2,Qk h hw]; rfl,fun _=>h⟩
 ·have h':¬ (w.length:Int) > 0:=by omega
  exact ⟨false,by simp only [qL,qI,qS,qB,VF,List.getD_cons_zero,List.getD_cons_succ,DC.bb_b,DC.ii_i,DC.ss_s,DC.ll_sl,List.length_map,jd,Int.natCast_nonneg,decide_true,decide_false,if_true,if_false,Bool.false_eq_true,and_self,true_and,ja,j9,Out.bindR_ret,jb,jf,Nat.zero_add,beq_self_eq_true,bne_self_eq_false,je,jc,eq_self,jh,jg,h'],fun e=>by cases e⟩
theorem j7y (n w:List UInt8) (hw:w.length ≤ 4000):∃ w',Qc [.s n,.s w] = .ret [.s n,.s w'] ∧ w'.length ≤ w.length:=by
 obtain ⟨b,e,hb⟩:=j5A n w hw
 rw [j3M]
 cases b with
 | true =>
  have h:=hb rfl
  have h2:((w.length - 1:Nat):Int) ≤ (w.length:Int):=by omega
  exact ⟨w.take (w.length - 1),by simp only [qL,qI,qS,qB,Xu,List.getD_cons_zero,List.getD_cons_succ,DC.bb_b,DC.ii_i,DC.ss_s,DC.ll_sl,List.length_map,jd,Int.natCast_nonneg,decide_true,decide_false,if_true,if_false,Bool.false_eq_true,and_self,true_and,ja,j9,Out.bindR_ret,jb,jf,Nat.zero_add,beq_self_eq_true,bne_self_eq_false,je,jc,eq_self,jh,jg,e,h2,Qk h hw],by rw [List.length_take]; omega⟩
 | false=>exact ⟨w,by simp only [qL,qI,qS,qB,Xu,List.getD_cons_zero,List.getD_cons_succ,DC.bb_b,DC.ii_i,DC.ss_s,DC.ll_sl,List.length_map,jd,Int.natCast_nonneg,decide_true,decide_false,if_true,if_false,Bool.false_eq_true,and_self,true_and,ja,j9,Out.bindR_ret,jb,jf,Nat.zero_add,beq_self_eq_true,bne_self_eq_false,je,jc,eq_self,jh,jg,e],Nat.le_refl _⟩
theorem jax (n w:List UInt8) (hw:w.length ≤ 4000):∃ w',Xc [.s n,.s w] = .ret [.s n,.s w'] ∧ w'.length ≤ w.length - 1:=by
 obtain ⟨u,e,hu⟩:=j7y n w hw
 rw [j3L]
 by_cases h:0 < u.length
 ·have h':(u.length:Int) > 0:=by omega
  have h2:((u.length - 1:Nat):Int) ≤ (u.length:Int):=by omega
  have h3:((u.length - 1:Nat):Int) < (u.length:Int):=by omega
  cases hb:(((u.getD (u.length - 1) 0).toNat:Int) == 93) with
  | true=>exact ⟨u.take (u.length - 1),by simp only [qL,qI,qS,qB,Qi,List.getD_cons_zero,List.getD_cons_succ,DC.bb_b,DC.ii_i,DC.ss_s,DC.ll_sl,List.length_map,jd,Int.natCast_nonneg,decide_true,decide_false,if_true,if_false,Bool.false_eq_true,and_self,true_and,ja,j9,Out.bindR_ret,jb,jf,Nat.zero_add,beq_self_eq_true,bne_self_eq_false,je,jc,eq_self,jh,jg,e,h',h2,h3,hb,Qk h (Nat.le_trans hu hw)],by rw [List.length_take]; omega⟩
  | false=>exact ⟨[],by simp only [qL,qI,qS,qB,Qi,List.getD_cons_zero,List.getD_cons_succ,DC.bb_b,DC.ii_i,DC.ss_s,DC.ll_sl,List.length_map,jd,Int.natCast_nonneg,decide_true,decide_false,if_true,if_false,Bool.false_eq_true,and_self,true_and,ja,j9,Out.bindR_ret,jb,jf,Nat.zero_add,beq_self_eq_true,bne_self_eq_false,je,jc,eq_self,jh,jg,e,h',h2,h3,hb,Qk h (Nat.le_trans hu hw)],Nat.zero_le _⟩
 ·have h':¬ (u.length:Int) > 0:=by omega
  exact ⟨[],by simp only [qL,qI,qS,qB,Qi,List.getD_cons_zero,List.getD_cons_succ,DC.bb_b,DC.ii_i,DC.ss_s,DC.ll_sl,List.length_map,jd,Int.natCast_nonneg,decide_true,decide_false,if_true,if_false,Bool.false_eq_true,and_self,true_and,ja,j9,Out.bindR_ret,jb,jf,Nat.zero_add,beq_self_eq_true,bne_self_eq_false,je,jc,eq_self,jh,jg,e,h'],Nat.zero_le _⟩
theorem j99 (k:Int):∃ b,Ke [.i k] = .ret [.b b]:=by
 rw [j0B]
 by_cases h:k ≥ 48
 ·exact ⟨_,by simp only [qL,qI,qS,qB,Kp,List.getD_cons_zero,List.getD_cons_succ,DC.bb_b,DC.ii_i,DC.ss_s,DC.ll_sl,List.length_map,jd,Int.natCast_nonneg,decide_true,decide_false,if_true,if_false,Bool.false_eq_true,and_self,true_and,ja,j9,Out.bindR_ret,jb,jf,Nat.zero_add,beq_self_eq_true,bne_self_eq_false,je,jc,eq_self,jh,jg,h]; rfl⟩
 ·exact ⟨_,by simp only [qL,qI,qS,qB,Kp,List.getD_cons_zero,List.getD_cons_succ,DC.bb_b,DC.ii_i,DC.ss_s,DC.ll_sl,List.length_map,jd,Int.natCast_nonneg,decide_true,decide_false,if_true,if_false,Bool.false_eq_true,and_self,true_and,ja,j9,Out.bindR_ret,jb,jf,Nat.zero_add,beq_self_eq_true,bne_self_eq_false,je,jc,eq_self,jh,jg,h]; rfl⟩
theorem jb9 (s:List UInt8) (hs:s.length ≤ 4000) (i:Nat) (hi:i ≤ s.length):∃ k:Nat,J1 [.s s,.i (i:Int)] = .ret [.i (k:Int)] ∧ i ≤ k ∧ k ≤ s.length:=by
 have h:∃ k:Nat,jy qN [.s s,.i (i:Int)] = .ex 0 [.i (k:Int)] ∧ i ≤ k ∧ k ≤ s.length:=by
  refine kg (F:=qN) (n:=s.length) (I:=fun j v=>i ≤ j ∧ v=[.s s,.i (j:Int)]) (Q:=fun o=>∃ k:Nat,o = .ex 0 [.i (k:Int)] ∧ i ≤ k ∧ k ≤ s.length) ?_ ?_ (s.length - i) i _ (by omega) ⟨Nat.le_refl _,rfl⟩
  ·rintro j v hj ⟨hij,rfl⟩
   have hc:(j:Int) < (s.length:Int):=by omega
   have ws:=jz hj (show s.length ≤ 9223372036854775807 by omega)
   obtain ⟨b,e⟩:=j99 ((s.getD j 0).toNat:Int)
   cases b with
   | true=>exact .inl ⟨_,by simp only [qL,qI,qS,qB,qN,List.getD_cons_zero,List.getD_cons_succ,DC.bb_b,DC.ii_i,DC.ss_s,DC.ll_sl,List.length_map,jd,Int.natCast_nonneg,decide_true,decide_false,if_true,if_false,Bool.false_eq_true,and_self,true_and,ja,j9,Out.bindR_ret,jb,jf,Nat.zero_add,beq_self_eq_true,bne_self_eq_false,je,jc,eq_self,jh,jg,hc,e,ws],by omega,rfl⟩
   | false=>exact .inr ⟨_,by simp only [qL,qI,qS,qB,qN,List.getD_cons_zero,List.getD_cons_succ,DC.bb_b,DC.ii_i,DC.ss_s,DC.ll_sl,List.length_map,jd,Int.natCast_nonneg,decide_true,decide_false,if_true,if_false,Bool.false_eq_true,and_self,true_and,ja,j9,Out.bindR_ret,jb,jf,Nat.zero_add,beq_self_eq_true,bne_self_eq_false,je,jc,eq_self,jh,jg,hc,e,ws],Out.esc_ex 0 _,j,rfl,hij,by omega⟩
  ·rintro v ⟨hij,rfl⟩
   exact ⟨_,by simp [qL,qI,qS,qB,qN,ja],Out.esc_ex 0 _,s.length,rfl,hi,Nat.le_refl _⟩
 obtain ⟨k,e,h1,h2⟩:=h
 refine ⟨k,?_,h1,h2⟩
 rw [j3a]
 simp only [qL,qI,qS,qB,Zn,List.getD_cons_zero,List.getD_cons_succ,DC.bb_b,DC.ii_i,DC.ss_s,DC.ll_sl,List.length_map,jd,Int.natCast_nonneg,decide_true,decide_false,if_true,if_false,Bool.false_eq_true,and_self,true_and,ja,j9,Out.bindR_ret,jb,jf,Nat.zero_add,beq_self_eq_true,bne_self_eq_false,je,jc,eq_self,jh,jg,e]
theorem jc6 (s:List UInt8) (hs:s.length ≤ 4000) (h0:0 < s.length):∃ k:Int,Vw [.s s] = .ret [.i k]:=by
 have h':(s.length:Int) > 0:=by omega
 have h2:(0:Int) < (s.length:Int):=h'
 rw [j3b]
 cases hb:(((s.getD 0 0).toNat:Int) == 45) with
 | true =>
  obtain ⟨k,e,k1,k2⟩:=jb9 s hs 1 (by omega)
  have e:J1 [.s s,.i 1] = .ret [.i (k:Int)]:=e
  by_cases hk:k=1
  ·subst hk
   exact ⟨0,by simp only [qL,qI,qS,qB,y7,List.getD_cons_zero,List.getD_cons_succ,DC.bb_b,DC.ii_i,DC.ss_s,DC.ll_sl,List.length_map,jd,Int.natCast_nonneg,decide_true,decide_false,if_true,if_false,Bool.false_eq_true,and_self,true_and,ja,j9,Out.bindR_ret,jb,jf,Nat.zero_add,beq_self_eq_true,bne_self_eq_false,je,jc,eq_self,jh,jg,h',h2,Int.le_refl,Int.toNat_zero,hb,e,Int.natCast_zero,Int.natCast_one]⟩
  ·have hk':((k:Int) == 1)=false:=beq_eq_false_iff_ne.2 (by omega)
   have hn:(1:Int) < (s.length:Int):=by omega
   have hz:(0:Int) ≤ 1:=by decide
   have ht:Int.toNat 1=1:=rfl
   cases hc:(((s.getD 1 0).toNat:Int) == 48) with
   | true =>
    simp only [qL,qI,qS,qB,y7,List.getD_cons_zero,List.getD_cons_succ,DC.bb_b,DC.ii_i,DC.ss_s,DC.ll_sl,List.length_map,jd,Int.natCast_nonneg,decide_true,decide_false,if_true,if_false,Bool.false_eq_true,and_self,true_and,ja,j9,Out.bindR_ret,jb,jf,Nat.zero_add,beq_self_eq_true,bne_self_eq_false,je,jc,eq_self,jh,jg,h',h2,Int.le_refl,Int.toNat_zero,hb,e,hk',hn,hz,ht,hc]
    split <;> exact ⟨_,rfl⟩
   | false=>exact ⟨k,by simp only [qL,qI,qS,qB,y7,List.getD_cons_zero,List.getD_cons_succ,DC.bb_b,DC.ii_i,DC.ss_s,DC.ll_sl,List.length_map,jd,Int.natCast_nonneg,decide_true,decide_false,if_true,if_false,Bool.false_eq_true,and_self,true_and,ja,j9,Out.bindR_ret,jb,jf,Nat.zero_add,beq_self_eq_true,bne_self_eq_false,je,jc,eq_self,jh,jg,h',h2,Int.le_refl,Int.toNat_zero,hb,e,hk',hn,hz,ht,hc]⟩
 | false =>
  obtain ⟨k,e,k1,k2⟩:=jb9 s hs 0 (by omega)
  have e:J1 [.s s,.i 0] = .ret [.i (k:Int)]:=e
  by_cases hk:k=0
  ·subst hk
   exact ⟨0,by simp only [qL,qI,qS,qB,y7,List.getD_cons_zero,List.getD_cons_succ,DC.bb_b,DC.ii_i,DC.ss_s,DC.ll_sl,List.length_map,jd,Int.natCast_nonneg,decide_true,decide_false,if_true,if_false,Bool.false_eq_true,and_self,true_and,ja,j9,Out.bindR_ret,jb,jf,Nat.zero_add,beq_self_eq_true,bne_self_eq_false,je,jc,eq_self,jh,jg,h',h2,Int.le_refl,Int.toNat_zero,hb,e,Int.natCast_zero,Int.natCast_one]⟩
  ·have hk':((k:Int) == 0)=false:=beq_eq_false_iff_ne.2 (by omega)
   have hn:(0:Int) < (s.length:Int):=by omega
   have hz:(0:Int) ≤ 0:=by decide
   have ht:Int.toNat 0=0:=rfl
   cases hc:(((s.getD 0 0).toNat:Int) == 48) with
   | true =>
    simp only [qL,qI,qS,qB,y7,List.getD_cons_zero,List.getD_cons_succ,DC.bb_b,DC.ii_i,DC.ss_s,DC.ll_sl,List.length_map,jd,Int.natCast_nonneg,decide_true,decide_false,if_true,if_false,Bool.false_eq_true,and_self,true_and,ja,j9,Out.bindR_ret,jb,jf,Nat.zero_add,beq_self_eq_true,bne_self_eq_false,je,jc,eq_self,jh,jg,h',h2,Int.le_refl,Int.toNat_zero,hb,e,hk',hn,hz,ht,hc]
    split <;> exact ⟨_,rfl⟩
   | false=>exact ⟨k,by simp only [qL,qI,qS,qB,y7,List.getD_cons_zero,List.getD_cons_succ,DC.bb_b,DC.ii_i,DC.ss_s,DC.ll_sl,List.length_map,jd,Int.natCast_nonneg,decide_true,decide_false,if_true,if_false,Bool.false_eq_true,and_self,true_and,ja,j9,Out.bindR_ret,jb,jf,Nat.zero_add,beq_self_eq_true,bne_self_eq_false,je,jc,eq_self,jh,jg,h',h2,Int.le_refl,Int.toNat_zero,hb,e,hk',hn,hz,ht,hc]⟩
theorem jaw (s:List UInt8) (hs:s.length ≤ 4000):∃ b,Xb [.s s] = .ret [.b b]:=by
 rw [j3K]
 by_cases h4:(s.length:Int) ≤ 40
 ·by_cases h0:(s.length:Int) > 0
  ·obtain ⟨k,e⟩:=jc6 s hs (by omega)
   exact ⟨_,by simp only [qL,qI,qS,qB,Qh,List.getD_cons_zero,List.getD_cons_succ,DC.bb_b,DC.ii_i,DC.ss_s,DC.ll_sl,List.length_map,jd,Int.natCast_nonneg,decide_true,decide_false,if_true,if_false,Bool.false_eq_true,and_self,true_and,ja,j9,Out.bindR_ret,jb,jf,Nat.zero_add,beq_self_eq_true,bne_self_eq_false,je,jc,eq_self,jh,jg,h4,h0,e]; rfl⟩
  ·exact ⟨_,by simp only [qL,qI,qS,qB,Qh,List.getD_cons_zero,List.getD_cons_succ,DC.bb_b,DC.ii_i,DC.ss_s,DC.ll_sl,List.length_map,jd,Int.natCast_nonneg,decide_true,decide_false,if_true,if_false,Bool.false_eq_true,and_self,true_and,ja,j9,Out.bindR_ret,jb,jf,Nat.zero_add,beq_self_eq_true,bne_self_eq_false,je,jc,eq_self,jh,jg,h4,h0]; rfl⟩
 ·exact ⟨_,by simp only [qL,qI,qS,qB,Qh,List.getD_cons_zero,List.getD_cons_succ,DC.bb_b,DC.ii_i,DC.ss_s,DC.ll_sl,List.length_map,jd,Int.natCast_nonneg,decide_true,decide_false,if_true,if_false,Bool.false_eq_true,and_self,true_and,ja,j9,Out.bindR_ret,jb,jf,Nat.zero_add,beq_self_eq_true,bne_self_eq_false,je,jc,eq_self,jh,jg,h4]; rfl⟩
theorem j98 (s:List UInt8) (hs:s.length ≤ 4000) (h0:0 < s.length):∃ b,Vy [.s s] = .ret [.b b]:=by
 obtain ⟨b,e⟩:=jaw s hs
 have h0':(0:Int) < (s.length:Int):=by omega
 have hl:∃ x:Int,jy qP [.s s,.i 0,.i 0] = .ex 0 [.s s,.i x]:=by
  refine kg (F:=qP) (n:=s.length) (I:=fun j v=>∃ x:Int,v=[.s s,.i x,.i (j:Int)]) (Q:=fun o=>∃ x:Int,o = .ex 0 [.s s,.i x]) ?_ ?_ s.length 0 _ (by omega) ⟨0,rfl⟩
  ·rintro j v hj ⟨x,rfl⟩
   have hc:(j:Int) < (s.length:Int):=by omega
   have ws:=jz hj (show s.length ≤ 9223372036854775807 by omega)
   cases hb:(((s.getD j 0).toNat:Int) != 45) with
   | true=>exact .inl ⟨_,by simp only [qL,qI,qS,qB,qP,List.getD_cons_zero,List.getD_cons_succ,DC.bb_b,DC.ii_i,DC.ss_s,DC.ll_sl,List.length_map,jd,Int.natCast_nonneg,decide_true,decide_false,if_true,if_false,Bool.false_eq_true,and_self,true_and,ja,j9,Out.bindR_ret,jb,jf,Nat.zero_add,beq_self_eq_true,bne_self_eq_false,je,jc,eq_self,jh,jg,hc,hb,ws]; rfl,_,rfl⟩
   | false=>exact .inl ⟨_,by simp only [qL,qI,qS,qB,qP,List.getD_cons_zero,List.getD_cons_succ,DC.bb_b,DC.ii_i,DC.ss_s,DC.ll_sl,List.length_map,jd,Int.natCast_nonneg,decide_true,decide_false,if_true,if_false,Bool.false_eq_true,and_self,true_and,ja,j9,Out.bindR_ret,jb,jf,Nat.zero_add,beq_self_eq_true,bne_self_eq_false,je,jc,eq_self,jh,jg,hc,hb,ws]; rfl,_,rfl⟩
  ·rintro v ⟨x,rfl⟩
   exact ⟨_,by simp [qL,qI,qS,qB,qP,DC.ii_i,DC.ss_s],Out.esc_ex 0 _,x,rfl⟩
 obtain ⟨x,hl⟩:=hl
 rw [j3g]
 cases b with
 | false=>exact ⟨false,by simp only [qL,qI,qS,qB,J5,List.getD_cons_zero,List.getD_cons_succ,DC.bb_b,DC.ii_i,DC.ss_s,DC.ll_sl,List.length_map,jd,Int.natCast_nonneg,decide_true,decide_false,if_true,if_false,Bool.false_eq_true,and_self,true_and,ja,j9,Out.bindR_ret,jb,jf,Nat.zero_add,beq_self_eq_true,bne_self_eq_false,je,jc,eq_self,jh,jg,e]⟩
 | true =>
  by_cases h11:(s.length:Int) > 11
  ·exact ⟨false,by simp only [qL,qI,qS,qB,J5,List.getD_cons_zero,List.getD_cons_succ,DC.bb_b,DC.ii_i,DC.ss_s,DC.ll_sl,List.length_map,jd,Int.natCast_nonneg,decide_true,decide_false,if_true,if_false,Bool.false_eq_true,and_self,true_and,ja,j9,Out.bindR_ret,jb,jf,Nat.zero_add,beq_self_eq_true,bne_self_eq_false,je,jc,eq_self,jh,jg,e,h11]⟩
  ·cases hb:(((s.getD 0 0).toNat:Int) == 45) with
   | true=>exact ⟨_,by simp only [qL,qI,qS,qB,J5,List.getD_cons_zero,List.getD_cons_succ,DC.bb_b,DC.ii_i,DC.ss_s,DC.ll_sl,List.length_map,jd,Int.natCast_nonneg,decide_true,decide_false,if_true,if_false,Bool.false_eq_true,and_self,true_and,ja,j9,Out.bindR_ret,jb,jf,Nat.zero_add,beq_self_eq_true,bne_self_eq_false,je,jc,eq_self,jh,jg,e,h11,hl,h0',Int.le_refl,Int.toNat_zero,hb]; rfl⟩
   | false=>exact ⟨_,by simp only [qL,qI,qS,qB,J5,List.getD_cons_zero,List.getD_cons_succ,DC.bb_b,DC.ii_i,DC.ss_s,DC.ll_sl,List.length_map,jd,Int.natCast_nonneg,decide_true,decide_false,if_true,if_false,Bool.false_eq_true,and_self,true_and,ja,j9,Out.bindR_ret,jb,jf,Nat.zero_add,beq_self_eq_true,bne_self_eq_false,je,jc,eq_self,jh,jg,e,h11,hl,h0',Int.le_refl,Int.toNat_zero,hb]; rfl⟩
def mx:List Nat:=[30,62,188,153,33,53,94,133,63,45,131,96]
def j8D (l:List TDef):Bool:=l.any fun d=>grp d.kind == 0
def chk (j:Nat) (v:List UInt8):Bool:=decide (v.length ≤ mx.getD j 0) && v.all (fun c=>decide (c.toNat < 128)) && (hdl.getD (j - 1) []).isPrefixOf (X5 v) &&
 (if two v then j == 7 && (match X5 v with | a :: _=>!a.2.isEmpty | []=>false) else (itm j v).all j7W && decide ((itm j v).length ≤ 4) && (j != 0 || j8D (itm j v)))
def itl (p:List UInt8):TDef:=(jbB 0 9 (X5 p)).headD j3x
def Z1:List TDef:=Xh.map itl
def j5l:List TDef → Bool
 | []=>true
 | x :: l=>l.all (fun y=>!((grp x.kind == grp y.kind) && (x.name == y.name))) && j5l l
theorem j4C:∀ {l:List TDef},j5l l=true → l.Pairwise apart
 | [],_=>.nil
 | x :: l,h=>by
  simp only [j5l,jk,List.all_eq_true,Bool.not_eq_true'] at h
  refine .cons (fun y hy=>?_) (j4C h.2)
  rintro ⟨h1,h2⟩
  have:=h.1 y hy
  simp [h1,h2] at this
theorem j9R:(Z1.all j7W && j5l Z1 && j8D Z1 && Xh.all (fun p=>decide (p.length ≤ 200) && p.all (fun c=>decide (c.toNat < 128))))=true:=by kernel_rfl
theorem jbH:Xh.map (fun p=>tz p 0 [] [])=Xh.map (fun p=>some (X5 p).reverse):=by kernel_rfl
theorem jbI:Xh.map (fun p=>pN 1 (X5 p))=Xh.map (fun p=>some ([itl p],[])):=by kernel_rfl
theorem jfv:(vs 0).all (chk 0)=true:=by kernel_rfl
theorem jfu:(vs 1).all (chk 1)=true:=by kernel_rfl
theorem jft:(vs 2).all (chk 2)=true:=by kernel_rfl
theorem jfs:(vs 3).all (chk 3)=true:=by kernel_rfl
theorem jfr:(vs 4).all (chk 4)=true:=by kernel_rfl
theorem jfq:(vs 5).all (chk 5)=true:=by kernel_rfl
theorem jfp:(vs 6).all (chk 6)=true:=by kernel_rfl
theorem jfo:(vs 7).all (chk 7)=true:=by kernel_rfl
theorem jfn:(vs 8).all (chk 8)=true:=by kernel_rfl
theorem jfm:(vs 9).all (chk 9)=true:=by kernel_rfl
theorem jdw:(vs 10).all (chk 10)=true:=by kernel_rfl
theorem jdv:(vs 11).all (chk 11)=true:=by kernel_rfl
theorem j11 (l:List TInDef) (n:List UInt8) (hl:l.length ≤ 1048576):Ju [.sl (l.map TInDef.enc),.s n] = .ret [.i (pu (fun d=>d.name == n) l)]:=by
 rw [j5e]
 simp only [qL,qI,qS,qB,j1R,List.getD_cons_zero,List.getD_cons_succ,DC.bb_b,DC.ii_i,DC.ss_s,DC.ll_sl]
 rw [show (0:Int)=((0:Nat):Int) from rfl,yK (l:=l) (st:=fun i=>[.sl (l.map TInDef.enc),.s n,.i (i:Int)]) (p:=fun d=>d.name == n) (stop:=fun i _=>.ret [.i (i:Int)]) (fin:=.ex 0 []) (fun i hi=>?step) (fun _ _=>Out.esc_ret _) ?fin (Out.esc_ex _ _),Jx (g:=fun i=>[.i i]),pu]
 ·cases l.findIdx? fun d=>d.name == n <;> simp
 case step =>
  simp only [qL,qI,qS,qB,VG,List.getD_cons_zero,List.getD_cons_succ,DC.bb_b,DC.ii_i,DC.ss_s,DC.ll_sl,jd,List.length_map,jx hi,TInDef.enc_eq]
  by_cases hp:l[i].name=n <;> simp [hi,hp,jz hi (show l.length ≤ 9223372036854775807 by omega)]
 case fin=>simp [qL,qI,qS,qB,VG]
theorem j96 (n tx:List UInt8) (h:tx.length ≤ 4000) (h0:0 < tx.length):∃ b,Ka [.s n,.i 2,.s tx,.sl [],.sl []] = .ret [.b b]:=by
 obtain ⟨b,e⟩:=j98 tx h h0
 rw [j0w]
 simp only [qL,qI,qS,qB,VY,List.getD_cons_zero,List.getD_cons_succ,DC.bb_b,DC.ii_i,DC.ss_s,DC.ll_sl,List.length_map,jd,Int.natCast_nonneg,decide_true,decide_false,if_true,if_false,Bool.false_eq_true,and_self,true_and,ja,j9,Out.bindR_ret,jb,jf,Nat.zero_add,beq_self_eq_true,bne_self_eq_false,je,jc,eq_self,jh,jg,e,Int.reduceBEq]
 cases (n == [73,110,116]) with
 | true=>exact ⟨_,rfl⟩
 | false=>cases (n == [70,108,111,97,116]) with
  | true=>exact ⟨_,rfl⟩
  | false=>cases (n == [83,116,114,105,110,103]) with
   | true=>exact ⟨_,rfl⟩
   | false=>cases (n == [66,111,111,108,101,97,110]) with
    | true=>exact ⟨_,rfl⟩
    | false=>exact ⟨_,rfl⟩
theorem jay (tx:List UInt8) (d:TDef) (hv:d.values.length ≤ 20):jy KA [.i 0,.i 2,.s tx,.sl [],.sl [],.i d.kind,.b d.ext,.s d.desc,.s d.name,.sl (d.faces.map S1),.sl (d.fields.map TFieldDef.enc),.sl (d.inputs.map TInDef.enc),.sl (d.values.map TEnumDef.enc),.sl (d.roots.map TRoot.enc),.b d.repeat',.sl (d.dirs.map TDir.enc)] = .ex 3 []:=by
 refine pE (st:=fun i=>[.i (i:Int),.i 2,.s tx,.sl [],.sl [],.i d.kind,.b d.ext,.s d.desc,.s d.name,.sl (d.faces.map S1),.sl (d.fields.map TFieldDef.enc),.sl (d.inputs.map TInDef.enc),.sl (d.values.map TEnumDef.enc),.sl (d.roots.map TRoot.enc),.b d.repeat',.sl (d.dirs.map TDir.enc)]) d.values.length 0 (fun i _ hi=>?_) (jK ?_)
 ·rw [Nat.zero_add] at hi
  have hc:(i:Int) < (d.values.length:Int):=by omega
  have ws:=jz hi (show d.values.length ≤ 9223372036854775807 by omega)
  simp only [qL,qI,qS,qB,KA,List.getD_cons_zero,List.getD_cons_succ,DC.bb_b,DC.ii_i,DC.ss_s,DC.ll_sl,List.length_map,jd,Int.natCast_nonneg,decide_true,decide_false,if_true,if_false,Bool.false_eq_true,and_self,true_and,ja,j9,Out.bindR_ret,jb,jf,Nat.zero_add,beq_self_eq_true,bne_self_eq_false,je,jc,eq_self,jh,jg,hc,ws,Int.reduceBEq]
 ·simp [qL,qI,qS,qB,KA]
theorem jbv (ts:List TDef) (dd rr:List (List DC)) (tx n:List UInt8) (htx:tx.length ≤ 4000) (h0:0 < tx.length) (hl:ts.length ≤ 60) (hk:∀ d ∈ ts,OkD d):∀ (m:Nat) (w:List UInt8),w.length < m → w.length ≤ 4000 →
  ∃ b,zA [.sl (ts.map TDef.enc),.sl dd,.sl rr,.i 2,.s tx,.sl [],.sl [],.s n,.s w] = .ret [.b b]:=by
 intro m
 induction m with
 | zero=>intro w hm _; omega
 | succ m ih =>
  intro w hm hw
  obtain ⟨u,eF,hu⟩:=j7y n w hw
  rw [j5f]
  by_cases h:0 < u.length
  ·have h':(u.length:Int) > 0:=by omega
   have h3:((u.length - 1:Nat):Int) < (u.length:Int):=by omega
   cases hb:(((u.getD (u.length - 1) 0).toNat:Int) == 93) with
   | true =>
    obtain ⟨x,eI,hx⟩:=jax n u (by omega)
    obtain ⟨b,e⟩:=ih x (by omega) (by omega)
    exact ⟨b,by simp only [qL,qI,qS,qB,qY,List.getD_cons_zero,List.getD_cons_succ,DC.bb_b,DC.ii_i,DC.ss_s,DC.ll_sl,List.length_map,jd,Int.natCast_nonneg,decide_true,decide_false,if_true,if_false,Bool.false_eq_true,and_self,true_and,ja,j9,Out.bindR_ret,jb,jf,Nat.zero_add,beq_self_eq_true,bne_self_eq_false,je,jc,eq_self,jh,jg,eF,h',h3,hb,Qk h (Nat.le_trans hu hw),eI,e,Int.reduceBEq,Int.reduceBNe]⟩
   | false=>exact ⟨false,by simp only [qL,qI,qS,qB,qY,List.getD_cons_zero,List.getD_cons_succ,DC.bb_b,DC.ii_i,DC.ss_s,DC.ll_sl,List.length_map,jd,Int.natCast_nonneg,decide_true,decide_false,if_true,if_false,Bool.false_eq_true,and_self,true_and,ja,j9,Out.bindR_ret,jb,jf,Nat.zero_add,beq_self_eq_true,bne_self_eq_false,je,jc,eq_self,jh,jg,eF,h',h3,hb,Qk h (Nat.le_trans hu hw),Int.reduceBEq]⟩
  ·have h':¬ (u.length:Int) > 0:=by omega
   have hT:=zk ts dd rr n (by omega)
   rcases qg ts n with ⟨h1,_⟩ | ⟨k,hkk,h1,_,_⟩
   ·rw [h1] at hT
    obtain ⟨b,e⟩:=j96 n tx htx h0
    have hB:=X8 n
    cases hb:Jf n with
    | true=>rw [hb] at hB; exact ⟨b,by simp only [qL,qI,qS,qB,qY,List.getD_cons_zero,List.getD_cons_succ,DC.bb_b,DC.ii_i,DC.ss_s,DC.ll_sl,List.length_map,jd,Int.natCast_nonneg,decide_true,decide_false,if_true,if_false,Bool.false_eq_true,and_self,true_and,ja,j9,Out.bindR_ret,jb,jf,Nat.zero_add,beq_self_eq_true,bne_self_eq_false,je,jc,eq_self,jh,jg,eF,h',hT,hB,e,Int.reduceBEq,Int.reduceLT]⟩
    | false=>rw [hb] at hB; exact ⟨false,by simp only [qL,qI,qS,qB,qY,List.getD_cons_zero,List.getD_cons_succ,DC.bb_b,DC.ii_i,DC.ss_s,DC.ll_sl,List.length_map,jd,Int.natCast_nonneg,decide_true,decide_false,if_true,if_false,Bool.false_eq_true,and_self,true_and,ja,j9,Out.bindR_ret,jb,jf,Nat.zero_add,beq_self_eq_true,bne_self_eq_false,je,jc,eq_self,jh,jg,eF,h',hT,hB,e,Int.reduceBEq,Int.reduceLT]⟩
   ·rw [h1] at hT
    have hm:(ts.map TDef.enc).getD k []=TDef.enc ts[k]:=jx hkk
    have c1:¬ (k:Int) < 0:=by omega
    have c2:(k:Int) < (ts.length:Int):=by omega
    have hE:=jay tx ts[k] (hk _ (ju hkk)).values
    have hI:KS [.sl (ts.map TDef.enc),.sl dd,.sl rr,.sl (ts[k].inputs.map TInDef.enc),.i 2,.s tx,.sl [],.sl []] = .ret [.b false]:=by
     rw [j1l]
     simp only [qL,qI,qS,qB,XE,List.getD_cons_zero,List.getD_cons_succ,DC.bb_b,DC.ii_i,DC.ss_s,DC.ll_sl,List.length_map,jd,Int.natCast_nonneg,decide_true,decide_false,if_true,if_false,Bool.false_eq_true,and_self,true_and,ja,j9,Out.bindR_ret,jb,jf,Nat.zero_add,beq_self_eq_true,bne_self_eq_false,je,jc,eq_self,jh,jg,Int.reduceBNe]
    rw [TDef.enc_eq] at hm
    generalize ts[k]=d at *
    cases k1:(d.kind == 1) with
    | true=>exact ⟨true,by simp only [qL,qI,qS,qB,qY,List.getD_cons_zero,List.getD_cons_succ,DC.bb_b,DC.ii_i,DC.ss_s,DC.ll_sl,List.length_map,jd,Int.natCast_nonneg,decide_true,decide_false,if_true,if_false,Bool.false_eq_true,and_self,true_and,ja,j9,Out.bindR_ret,jb,jf,Nat.zero_add,beq_self_eq_true,bne_self_eq_false,je,jc,eq_self,jh,jg,eF,h',hT,c1,c2,hm,k1,Int.reduceBEq]⟩
    | false=>cases k5:(d.kind == 5) with
     | true=>exact ⟨false,by simp only [qL,qI,qS,qB,qY,List.getD_cons_zero,List.getD_cons_succ,DC.bb_b,DC.ii_i,DC.ss_s,DC.ll_sl,List.length_map,jd,Int.natCast_nonneg,decide_true,decide_false,if_true,if_false,Bool.false_eq_true,and_self,true_and,ja,j9,Out.bindR_ret,jb,jf,Nat.zero_add,beq_self_eq_true,bne_self_eq_false,je,jc,eq_self,jh,jg,eF,h',hT,c1,c2,hm,k1,k5,hE,Int.reduceBEq]⟩
     | false=>cases k6:(d.kind == 6) with
      | true=>exact ⟨false,by simp only [qL,qI,qS,qB,qY,List.getD_cons_zero,List.getD_cons_succ,DC.bb_b,DC.ii_i,DC.ss_s,DC.ll_sl,List.length_map,jd,Int.natCast_nonneg,decide_true,decide_false,if_true,if_false,Bool.false_eq_true,and_self,true_and,ja,j9,Out.bindR_ret,jb,jf,Nat.zero_add,beq_self_eq_true,bne_self_eq_false,je,jc,eq_self,jh,jg,eF,h',hT,c1,c2,hm,k1,k5,k6,hI,Int.reduceBEq]⟩
      | false=>exact ⟨false,by simp only [qL,qI,qS,qB,qY,List.getD_cons_zero,List.getD_cons_succ,DC.bb_b,DC.ii_i,DC.ss_s,DC.ll_sl,List.length_map,jd,Int.natCast_nonneg,decide_true,decide_false,if_true,if_false,Bool.false_eq_true,and_self,true_and,ja,j9,Out.bindR_ret,jb,jf,Nat.zero_add,beq_self_eq_true,bne_self_eq_false,je,jc,eq_self,jh,jg,eF,h',hT,c1,c2,hm,k1,k5,k6,Int.reduceBEq]⟩
theorem QU {o b:Nat} (h:o ≤ 1000000):o + 1 < jT ∧ o + 1 + 1 < jT ∧ o + 1 + 1 + 1 < jT ∧ o + 1 + 1 + 1 + 1 < jT:=by unfold jT; omega
theorem jbu (ts:List TDef) (dd rr:List (List DC)) (ow:List UInt8) (l:List TInDef) (out:List (List DC)) (hl:ts.length ≤ 60) (hk:∀ d ∈ ts,OkD d) (hn:l.length ≤ 20) (hi:∀ a ∈ l,j0n a=true) (ho:out.length ≤ 900000) :
  ∃ out':List (List DC),JH [.sl (ts.map TDef.enc),.sl dd,.sl rr,.s ow,.sl (l.map TInDef.enc),.sl out] = .ret [.sl out'] ∧ out'.length ≤ out.length + 80:=by
 have key:∃ out':List (List DC),jy zI [.s ow,.sl (l.map TInDef.enc),.sl out,.i 0,.sl (ts.map TDef.enc),.sl dd,.sl rr] = .ex 0 [.sl out'] ∧ out'.length ≤ out.length + 80:=by
  refine kg (F:=zI) (n:=l.length) (I:=fun j v=>∃ out':List (List DC),v=[.s ow,.sl (l.map TInDef.enc),.sl out',.i (j:Int),.sl (ts.map TDef.enc),.sl dd,.sl rr] ∧ out'.length ≤ out.length + 4 * j) (Q:=fun o=>∃ out':List (List DC),o = .ex 0 [.sl out'] ∧ out'.length ≤ out.length + 80) ?_ ?_ l.length 0 _ (by omega) ⟨out,rfl,Nat.le_refl _⟩
  ·rintro j v hj ⟨o,rfl,hoo⟩
   refine .inl ?_
   have hc:(j:Int) < (l.length:Int):=by omega
   have ws:=jz hj (show l.length ≤ 9223372036854775807 by omega)
   have hm:(l.map TInDef.enc).getD j []=TInDef.enc l[j]:=jx hj
   have ha:=hi _ (ju hj)
   have hA:=j11 l l[j].name (by omega)
   obtain ⟨f1,f2,f3,f4⟩:=QU (o:=o.length) (b:=0) (by omega)
   rw [TInDef.enc_eq] at hm
   generalize l[j]=a at *
   simp only [j0n,jk,Bool.or_eq_true,Bool.not_eq_true',decide_eq_true_eq,beq_iff_eq,List.isEmpty_iff] at ha
   obtain ⟨⟨ha,hw⟩,ht⟩:=ha
   obtain ⟨b1,e1⟩:=Ql a.name
   have e3:=j4S ts dd rr a.type'.name (by omega)
   generalize (pu (fun d:TInDef=>d.name == a.name) l)=p at *
   generalize (jI ts a.type'.name == 1 || jI ts a.type'.name == 5 || jI ts a.type'.name == 6)=b3 at *
   have hF:∃ b4,(if a.has'=true then (zA [.sl (ts.map TDef.enc),.sl dd,.sl rr,.i a.default'.kind,.s a.default'.text,.sl (a.default'.items.map TValue.enc),.sl (a.default'.names.map S1),.s a.type'.name,.s a.type'.wraps]) else .ret [.b true]) = .ret [.b b4]:=by
    cases hh:a.has' with
    | false=>exact ⟨true,rfl⟩
    | true =>
     rw [hh] at ha
     obtain ⟨⟨⟨q1,q2⟩,q3⟩,q4⟩:=ha.resolve_left (by decide)
     obtain ⟨b,e⟩:=jbv ts dd rr a.default'.text a.type'.name (by omega) q2 hl hk _ a.type'.wraps (Nat.lt_succ_self _) (by omega)
     rw [q1,q3,q4]
     exact ⟨b,e⟩
   obtain ⟨b4,e4⟩:=hF
   have h1:∀ b:Bool,b=true ∨ b=false:=fun b=>by cases b <;> simp
   cases hb2:(p != (j:Int)) <;> cases hh:a.has' <;> rw [hh] at e4 hm <;> simp only [if_true,Bool.false_eq_true,if_false] at e4 <;> cases b1 <;> cases b3 <;> cases b4 <;>
    exact ⟨_,by simp only [qL,qI,qS,qB,zI,List.getD_cons_zero,List.getD_cons_succ,DC.bb_b,DC.ii_i,DC.ss_s,DC.ll_sl,List.length_map,jd,Int.natCast_nonneg,decide_true,decide_false,if_true,if_false,Bool.false_eq_true,and_self,true_and,ja,j9,Out.bindR_ret,jb,jf,Nat.zero_add,beq_self_eq_true,bne_self_eq_false,je,jc,eq_self,jh,jg,jj,hc,hm,e1,hA,hb2,e3,e4,f1,f2,f3,f4,ws]; rfl,_,rfl,by first | omega | (simp only [jj,jb,jf]; omega)⟩
  ·rintro v ⟨o,rfl,hoo⟩
   exact ⟨_,by simp [qL,qI,qS,qB,zI],Out.esc_ex 0 _,o,rfl,by omega⟩
 obtain ⟨out',e,h⟩:=key
 refine ⟨out',?_,h⟩
 rw [j3H]
 simp only [qL,qI,qS,qB,j0M,List.getD_cons_zero,List.getD_cons_succ,DC.bb_b,DC.ii_i,DC.ss_s,DC.ll_sl,List.length_map,jd,Int.natCast_nonneg,decide_true,decide_false,if_true,if_false,Bool.false_eq_true,and_self,true_and,ja,j9,Out.bindR_ret,jb,jf,Nat.zero_add,beq_self_eq_true,bne_self_eq_false,je,jc,eq_self,jh,jg,e]
theorem j4K (ts:List TDef) (dd rr:List (List DC)) (ow:List UInt8) (l:List TInDef) (hl:ts.length ≤ 60) (hk:∀ d ∈ ts,OkD d) (hn:l.length ≤ 20) (hi:∀ a ∈ l,j0n a=true) :
  ∃ out':List (List DC),JO [.sl (ts.map TDef.enc),.sl dd,.sl rr,.s ow,.sl (l.map TInDef.enc)] = .ret [.sl out'] ∧ out'.length ≤ 80:=by
 obtain ⟨out',e,h⟩:=jbu ts dd rr ow l [] hl hk hn hi (by simp)
 have h1:¬ (l.length:Int) > 100:=by omega
 refine ⟨out',?_,by simpa using h⟩
 rw [ZU]
 simp only [qL,qI,qS,qB,Vp,List.getD_cons_zero,List.getD_cons_succ,DC.bb_b,DC.ii_i,DC.ss_s,DC.ll_sl,List.length_map,jd,Int.natCast_nonneg,decide_true,decide_false,if_true,if_false,Bool.false_eq_true,and_self,true_and,ja,j9,Out.bindR_ret,jb,jf,Nat.zero_add,beq_self_eq_true,bne_self_eq_false,je,jc,eq_self,jh,jg,h1,e]
theorem j7Z (l:List TFieldDef) (n:List UInt8) (hl:l.length ≤ 20):J9 [.sl (l.map TFieldDef.enc),.s n] = .ret [.i (pu (fun d=>d.name == n) l)]:=by
 rw [j1k]
 simp only [qL,qI,qS,qB,XD,List.getD_cons_zero,List.getD_cons_succ,DC.bb_b,DC.ii_i,DC.ss_s,DC.ll_sl,List.length_map,jd,Int.natCast_nonneg,decide_true,decide_false,if_true,if_false,Bool.false_eq_true,and_self,true_and,ja,j9,Out.bindR_ret,jb,jf,Nat.zero_add,beq_self_eq_true,bne_self_eq_false,je,jc,eq_self,jh,jg]
 rw [show (0:Int)=((0:Nat):Int) from rfl,yK (l:=l) (st:=fun i=>[.sl (l.map TFieldDef.enc),.s n,.i (i:Int)]) (p:=fun d=>d.name == n) (stop:=fun i _=>.ret [.i (i:Int)]) (fin:=.ex 0 []) (fun i hi=>?step) (fun _ _=>Out.esc_ret _) ?fin (Out.esc_ex _ _),Jx (g:=fun i=>[.i i]),pu]
 ·cases l.findIdx? (fun d=>d.name == n) <;> simp
 case step =>
  have hc:(i:Int) < (l.length:Int):=by omega
  have hm:(l.map TFieldDef.enc).getD i []=TFieldDef.enc l[i]:=jx hi
  rw [TFieldDef.enc_eq] at hm
  have ws:=jz hi (show l.length ≤ 9223372036854775807 by omega)
  cases h1:(l[i].name == n) with
  | true=>simp only [qL,qI,qS,qB,zh,List.getD_cons_zero,List.getD_cons_succ,DC.bb_b,DC.ii_i,DC.ss_s,DC.ll_sl,List.length_map,jd,Int.natCast_nonneg,decide_true,decide_false,if_true,if_false,Bool.false_eq_true,and_self,true_and,ja,j9,Out.bindR_ret,jb,jf,Nat.zero_add,beq_self_eq_true,bne_self_eq_false,je,jc,eq_self,jh,jg,hm,hc,h1]
  | false=>simp only [qL,qI,qS,qB,zh,List.getD_cons_zero,List.getD_cons_succ,DC.bb_b,DC.ii_i,DC.ss_s,DC.ll_sl,List.length_map,jd,Int.natCast_nonneg,decide_true,decide_false,if_true,if_false,Bool.false_eq_true,and_self,true_and,ja,j9,Out.bindR_ret,jb,jf,Nat.zero_add,beq_self_eq_true,bne_self_eq_false,je,jc,eq_self,jh,jg,hm,hc,h1,ws]
 case fin=>simp [qL,qI,qS,qB,zh]
theorem j9b (d:TDef) (hd:OkD d):∃ b,J0 (TDef.enc d) = .ret [.b b]:=by
 have key:∃ o:Out,jy qM [.i 0,.i d.kind,.b d.ext,.s d.desc,.s d.name,.sl (d.faces.map S1),.sl (d.fields.map TFieldDef.enc),.sl (d.inputs.map TInDef.enc),.sl (d.values.map TEnumDef.enc),.sl (d.roots.map TRoot.enc),.b d.repeat',.sl (d.dirs.map TDir.enc)]=o ∧ (o = .ret [.b true] ∨ o = .ex 0 (TDef.enc d)):=by
  refine ⟨_,rfl,?_⟩
  refine kg (F:=qM) (n:=d.fields.length) (I:=fun j v=>v=[.i (j:Int),.i d.kind,.b d.ext,.s d.desc,.s d.name,.sl (d.faces.map S1),.sl (d.fields.map TFieldDef.enc),.sl (d.inputs.map TInDef.enc),.sl (d.values.map TEnumDef.enc),.sl (d.roots.map TRoot.enc),.b d.repeat',.sl (d.dirs.map TDir.enc)]) (Q:=fun o=>o = .ret [.b true] ∨ o = .ex 0 (TDef.enc d)) ?_ ?_ d.fields.length 0 _ (by omega) rfl
  ·rintro j v hj rfl
   have hc:(j:Int) < (d.fields.length:Int):=by omega
   have ws:=jz hj (show d.fields.length ≤ 9223372036854775807 by have:=hd.fields; omega)
   have hm:(d.fields.map TFieldDef.enc).getD j []=TFieldDef.enc d.fields[j]:=jx hj
   rw [TFieldDef.enc_eq] at hm
   by_cases h:(d.fields[j].args.length:Int) > 100
   ·exact .inr ⟨_,by simp only [qL,qI,qS,qB,qM,List.getD_cons_zero,List.getD_cons_succ,DC.bb_b,DC.ii_i,DC.ss_s,DC.ll_sl,List.length_map,jd,Int.natCast_nonneg,decide_true,decide_false,if_true,if_false,Bool.false_eq_true,and_self,true_and,ja,j9,Out.bindR_ret,jb,jf,Nat.zero_add,beq_self_eq_true,bne_self_eq_false,je,jc,eq_self,jh,jg,hc,hm,h],Out.esc_ret _,.inl rfl⟩
   ·exact .inl ⟨_,by simp only [qL,qI,qS,qB,qM,List.getD_cons_zero,List.getD_cons_succ,DC.bb_b,DC.ii_i,DC.ss_s,DC.ll_sl,List.length_map,jd,Int.natCast_nonneg,decide_true,decide_false,if_true,if_false,Bool.false_eq_true,and_self,true_and,ja,j9,Out.bindR_ret,jb,jf,Nat.zero_add,beq_self_eq_true,bne_self_eq_false,je,jc,eq_self,jh,jg,hc,hm,h,ws],rfl⟩
  ·rintro v rfl
   exact ⟨_,by simp [qL,qI,qS,qB,qM]; rfl,Out.esc_ex 0 _,.inr (by rw [TDef.enc_eq])⟩
 obtain ⟨o,e,h⟩:=key
 rw [j38,TDef.enc_eq]
 simp only [qL,qI,qS,qB,Zl,List.getD_cons_zero,List.getD_cons_succ,DC.bb_b,DC.ii_i,DC.ss_s,DC.ll_sl,List.length_map,jd,Int.natCast_nonneg,decide_true,decide_false,if_true,if_false,Bool.false_eq_true,and_self,true_and,ja,j9,Out.bindR_ret,jb,jf,Nat.zero_add,beq_self_eq_true,bne_self_eq_false,je,jc,eq_self,jh,jg,e]
 rcases h with rfl | rfl
 ·exact ⟨_,rfl⟩
 ·have h1:¬ (d.faces.length:Int) > 100:=by have:=hd.faces; omega
  have h2:¬ (d.fields.length:Int) > 100:=by have:=hd.fields; omega
  have h3:¬ (d.inputs.length:Int) > 100:=by have:=hd.inputs; omega
  rw [TDef.enc_eq]
  exact ⟨_,by simp only [List.getD_cons_zero,List.getD_cons_succ,DC.bb_b,DC.ii_i,DC.ss_s,DC.ll_sl,List.length_map,jd,Int.natCast_nonneg,decide_true,decide_false,if_true,if_false,Bool.false_eq_true,and_self,true_and,ja,j9,Out.bindR_ret,jb,jf,Nat.zero_add,beq_self_eq_true,bne_self_eq_false,je,jc,eq_self,jh,jg,h1,h2,h3]; rfl⟩
theorem jbm {a:TInDef} (h:j0n a=true):a.type'.wraps.length ≤ 4000:=by
 simp only [j0n,jk,decide_eq_true_eq] at h
 omega
theorem j6M (l:List TInDef) (hn:l.length ≤ 20) (hi:∀ a ∈ l,j0n a=true):∃ ws:List (List UInt8),zd [.sl (l.map TInDef.enc)] = .ret [.sl (ws.map S1)] ∧ ws.length ≤ 20:=by
 have key:∃ ws:List (List UInt8),jy kB [.sl (l.map TInDef.enc),.sl [],.i 0] = .ex 0 [.sl (ws.map S1)] ∧ ws.length ≤ 20:=by
  refine kg (F:=kB) (n:=l.length) (I:=fun j v=>∃ ws:List (List UInt8),v=[.sl (l.map TInDef.enc),.sl (ws.map S1),.i (j:Int)] ∧ ws.length ≤ j) (Q:=fun o=>∃ ws:List (List UInt8),o = .ex 0 [.sl (ws.map S1)] ∧ ws.length ≤ 20) ?_ ?_ l.length 0 _ (by omega) ⟨[],rfl,Nat.le_refl _⟩
  ·rintro j v hj ⟨ws,rfl,hw⟩
   have hc:(j:Int) < (l.length:Int):=by omega
   have wz:=jz hj (show l.length ≤ 9223372036854775807 by omega)
   have hm:(l.map TInDef.enc).getD j []=TInDef.enc l[j]:=jx hj
   obtain ⟨b,e,_⟩:=j5A l[j].type'.name l[j].type'.wraps (jbm (hi _ (ju hj)))
   obtain ⟨f1,_⟩:=QU (o:=ws.length) (b:=0) (by omega)
   rw [TInDef.enc_eq] at hm
   generalize l[j]=a at *
   cases b with
   | false=>exact .inl ⟨_,by simp only [qL,qI,qS,qB,kB,List.getD_cons_zero,List.getD_cons_succ,DC.bb_b,DC.ii_i,DC.ss_s,DC.ll_sl,List.length_map,jd,Int.natCast_nonneg,decide_true,decide_false,if_true,if_false,Bool.false_eq_true,and_self,true_and,ja,j9,Out.bindR_ret,jb,jf,Nat.zero_add,beq_self_eq_true,bne_self_eq_false,je,jc,eq_self,jh,jg,hc,hm,e,f1,wz],ws,rfl,by omega⟩
   | true =>
    cases hh:a.has' with
    | true=>rw [hh] at hm; exact .inl ⟨_,by simp only [qL,qI,qS,qB,kB,List.getD_cons_zero,List.getD_cons_succ,DC.bb_b,DC.ii_i,DC.ss_s,DC.ll_sl,List.length_map,jd,Int.natCast_nonneg,decide_true,decide_false,if_true,if_false,Bool.false_eq_true,and_self,true_and,ja,j9,Out.bindR_ret,jb,jf,Nat.zero_add,beq_self_eq_true,bne_self_eq_false,je,jc,eq_self,jh,jg,hc,hm,e,f1,wz],ws,rfl,by omega⟩
    | false=>rw [hh] at hm; exact .inl ⟨_,by simp only [qL,qI,qS,qB,kB,List.getD_cons_zero,List.getD_cons_succ,DC.bb_b,DC.ii_i,DC.ss_s,DC.ll_sl,List.length_map,jd,Int.natCast_nonneg,decide_true,decide_false,if_true,if_false,Bool.false_eq_true,and_self,true_and,ja,j9,Out.bindR_ret,jb,jf,Nat.zero_add,beq_self_eq_true,bne_self_eq_false,je,jc,eq_self,jh,jg,hc,hm,e,f1,wz,List.map_append,js,List.map_nil,S1],ws ++ [a.name],rfl,by rw [jj]; simp; omega⟩
  ·rintro v ⟨ws,rfl,hw⟩
   exact ⟨_,by simp [qL,qI,qS,qB,kB],Out.esc_ex 0 _,ws,rfl,by omega⟩
 obtain ⟨ws,e,h⟩:=key
 refine ⟨ws,?_,h⟩
 rw [ZS]
 simp only [qL,qI,qS,qB,Vn,List.getD_cons_zero,List.getD_cons_succ,DC.bb_b,DC.ii_i,DC.ss_s,DC.ll_sl,List.length_map,jd,Int.natCast_nonneg,decide_true,decide_false,if_true,if_false,Bool.false_eq_true,and_self,true_and,ja,j9,Out.bindR_ret,jb,jf,Nat.zero_add,beq_self_eq_true,bne_self_eq_false,je,jc,eq_self,jh,jg,e]
theorem jbw (nm:List UInt8) (mine own:TFieldDef) (hm:j1M mine=true) (ho:j1M own=true) (out:List (List DC)) (hl:out.length ≤ 900000) :
  ∃ out':List (List DC),Qu (.s nm :: (TFieldDef.enc mine ++ (TFieldDef.enc own ++ [.sl out]))) = .ret [.sl out'] ∧ out'.length ≤ out.length + 40:=by
 simp only [j1M,jk,decide_eq_true_eq,List.all_eq_true] at hm ho
 obtain ⟨ws,eR,hws⟩:=j6M mine.args hm.1.2 hm.2
 have k1:∃ o1:List (List DC),jy pI (.s nm :: .sl out :: .i 0 :: (TFieldDef.enc mine ++ TFieldDef.enc own)) = .ex 0 (.s nm :: .sl o1 :: (TFieldDef.enc mine ++ TFieldDef.enc own)) ∧ o1.length ≤ out.length + 20:=by
  refine kg (F:=pI) (n:=own.args.length) (I:=fun j v=>∃ o1:List (List DC),v = .s nm :: .sl o1 :: .i (j:Int) :: (TFieldDef.enc mine ++ TFieldDef.enc own) ∧ o1.length ≤ out.length + j) (Q:=fun o=>∃ o1:List (List DC),o = .ex 0 (.s nm :: .sl o1 :: (TFieldDef.enc mine ++ TFieldDef.enc own)) ∧ o1.length ≤ out.length + 20) ?_ ?_ own.args.length 0 _ (by omega) ⟨out,rfl,Nat.le_refl _⟩
  ·rintro j v hj ⟨o1,rfl,h1⟩
   have hc:(j:Int) < (own.args.length:Int):=by omega
   have wz:=jz hj (show own.args.length ≤ 9223372036854775807 by omega)
   have hmm:(own.args.map TInDef.enc).getD j []=TInDef.enc own.args[j]:=jx hj
   have hA:=j11 mine.args own.args[j].name (by omega)
   obtain ⟨f1,_⟩:=QU (o:=o1.length) (b:=0) (by omega)
   rw [TInDef.enc_eq] at hmm
   refine .inl ?_
   rcases Xf (fun d:TInDef=>d.name == own.args[j].name) mine.args with ⟨h,_⟩ | ⟨k,hk,h,_⟩
   ·rw [h] at hA
    exact ⟨_,by simp only [qL,qI,qS,qB,pI,List.getD_cons_zero,List.getD_cons_succ,DC.bb_b,DC.ii_i,DC.ss_s,DC.ll_sl,List.length_map,jd,Int.natCast_nonneg,decide_true,decide_false,if_true,if_false,Bool.false_eq_true,and_self,true_and,ja,j9,Out.bindR_ret,jb,jf,Nat.zero_add,beq_self_eq_true,bne_self_eq_false,je,jc,eq_self,jh,jg,TFieldDef.enc_eq mine,TFieldDef.enc_eq own,hc,hmm,hA,f1,wz,show ((-1:Int) < 0) by decide]; rfl,_,by rw [TFieldDef.enc_eq mine,TFieldDef.enc_eq own]; rfl,by simp only [jj,jb,jf]; omega⟩
   ·rw [h] at hA
    have hm2:(mine.args.map TInDef.enc).getD k []=TInDef.enc mine.args[k]:=jx hk
    have hkc:(k:Int) < (mine.args.length:Int):=by omega
    have hk0:¬ (k:Int) < 0:=by omega
    rw [TInDef.enc_eq] at hm2
    cases hb:(!((mine.args[k].type'.name == own.args[j].type'.name) && ((mine.args[k].type'.wraps == own.args[j].type'.wraps) && true))) with
    | true=>exact ⟨_,by simp only [qL,qI,qS,qB,pI,List.getD_cons_zero,List.getD_cons_succ,DC.bb_b,DC.ii_i,DC.ss_s,DC.ll_sl,List.length_map,jd,Int.natCast_nonneg,decide_true,decide_false,if_true,if_false,Bool.false_eq_true,and_self,true_and,ja,j9,Out.bindR_ret,jb,jf,Nat.zero_add,beq_self_eq_true,bne_self_eq_false,je,jc,eq_self,jh,jg,TFieldDef.enc_eq mine,TFieldDef.enc_eq own,hc,hmm,hA,hm2,hkc,hk0,hb,f1,wz]; rfl,_,by rw [TFieldDef.enc_eq mine,TFieldDef.enc_eq own]; rfl,by simp only [jj,jb,jf]; omega⟩
    | false=>exact ⟨_,by simp only [qL,qI,qS,qB,pI,List.getD_cons_zero,List.getD_cons_succ,DC.bb_b,DC.ii_i,DC.ss_s,DC.ll_sl,List.length_map,jd,Int.natCast_nonneg,decide_true,decide_false,if_true,if_false,Bool.false_eq_true,and_self,true_and,ja,j9,Out.bindR_ret,jb,jf,Nat.zero_add,beq_self_eq_true,bne_self_eq_false,je,jc,eq_self,jh,jg,TFieldDef.enc_eq mine,TFieldDef.enc_eq own,hc,hmm,hA,hm2,hkc,hk0,hb,f1,wz]; rfl,_,by rw [TFieldDef.enc_eq mine,TFieldDef.enc_eq own]; rfl,by omega⟩
  ·rintro v ⟨o1,rfl,h1⟩
   exact ⟨_,by simp [qL,qI,qS,qB,pI,TFieldDef.enc_eq mine,TFieldDef.enc_eq own]; rfl,Out.esc_ex 0 _,o1,by rw [TFieldDef.enc_eq mine,TFieldDef.enc_eq own]; rfl,by omega⟩
 obtain ⟨o1,e1,h1⟩:=k1
 have k2:∃ o2:List (List DC),jy qt (.s nm :: .sl o1 :: .sl (ws.map S1) :: .i 0 :: TFieldDef.enc own) = .ex 2 [.sl o2] ∧ o2.length ≤ o1.length + 20:=by
  refine kg (F:=qt) (n:=ws.length) (I:=fun j v=>∃ o2:List (List DC),v = .s nm :: .sl o2 :: .sl (ws.map S1) :: .i (j:Int) :: TFieldDef.enc own ∧ o2.length ≤ o1.length + j) (Q:=fun o=>∃ o2:List (List DC),o = .ex 2 [.sl o2] ∧ o2.length ≤ o1.length + 20) ?_ ?_ ws.length 0 _ (by omega) ⟨o1,rfl,Nat.le_refl _⟩
  ·rintro j v hj ⟨o2,rfl,h2⟩
   have hc:(j:Int) < (ws.length:Int):=by omega
   have wz:=jz hj (show ws.length ≤ 9223372036854775807 by omega)
   have hmm:(ws.map S1).getD j []=[.s ws[j]]:=jx hj
   have hA:=j11 own.args ws[j] (by omega)
   obtain ⟨f1,_⟩:=QU (o:=o2.length) (b:=0) (by omega)
   refine .inl ?_
   generalize pu (fun d:TInDef=>d.name == ws[j]) own.args=p at *
   by_cases hp:p < 0
   ·exact ⟨_,by simp only [qL,qI,qS,qB,qt,List.getD_cons_zero,List.getD_cons_succ,DC.bb_b,DC.ii_i,DC.ss_s,DC.ll_sl,List.length_map,jd,Int.natCast_nonneg,decide_true,decide_false,if_true,if_false,Bool.false_eq_true,and_self,true_and,ja,j9,Out.bindR_ret,jb,jf,Nat.zero_add,beq_self_eq_true,bne_self_eq_false,je,jc,eq_self,jh,jg,TFieldDef.enc_eq own,hc,hmm,hA,hp,f1,wz]; rfl,_,by rw [TFieldDef.enc_eq own],by simp only [jj,jb,jf]; omega⟩
   ·exact ⟨_,by simp only [qL,qI,qS,qB,qt,List.getD_cons_zero,List.getD_cons_succ,DC.bb_b,DC.ii_i,DC.ss_s,DC.ll_sl,List.length_map,jd,Int.natCast_nonneg,decide_true,decide_false,if_true,if_false,Bool.false_eq_true,and_self,true_and,ja,j9,Out.bindR_ret,jb,jf,Nat.zero_add,beq_self_eq_true,bne_self_eq_false,je,jc,eq_self,jh,jg,TFieldDef.enc_eq own,hc,hmm,hA,hp,f1,wz]; rfl,_,by rw [TFieldDef.enc_eq own],by omega⟩
  ·rintro v ⟨o2,rfl,h2⟩
   exact ⟨_,by simp [qL,qI,qS,qB,qt,TFieldDef.enc_eq own],Out.esc_ex 2 _,o2,rfl,by omega⟩
 obtain ⟨o2,e2,h2⟩:=k2
 refine ⟨o2,?_,by omega⟩
 rw [j25]
 rw [TFieldDef.enc_eq mine,TFieldDef.enc_eq own] at e1
 rw [TFieldDef.enc_eq own] at e2
 simp only [jh,jg] at e1
 simp only [qL,qI,qS,qB,Yu,List.getD_cons_zero,List.getD_cons_succ,DC.bb_b,DC.ii_i,DC.ss_s,DC.ll_sl,List.length_map,jd,Int.natCast_nonneg,decide_true,decide_false,if_true,if_false,Bool.false_eq_true,and_self,true_and,ja,j9,Out.bindR_ret,jb,jf,Nat.zero_add,beq_self_eq_true,bne_self_eq_false,je,jc,eq_self,jh,jg,TFieldDef.enc_eq mine,TFieldDef.enc_eq own,e1,eR,e2]
theorem j7N:∀ (ts:List TDef),(∀ d ∈ ts,OkD d) → DC.wt (.sl (ts.map TDef.enc)) ≤ 4001 * ts.length
 | [],_=>by simp [DC.wt,wtV]
 | d :: ts,h=>by
  have h1:=j7N ts fun x hx=>h x (by simp [hx])
  have h2:=(h d (by simp)).wt
  simp only [DC.wt,js,jb,wtV] at h1 ⊢
  omega
theorem j7j {ts:List TDef} (hl:ts.length ≤ 60) (hk:∀ d ∈ ts,OkD d):DC.wt (.sl (ts.map TDef.enc)) ≤ 1048576:=by
 have:=j7N ts hk
 omega
theorem jaC (T D R:List (List DC)) (i:Int) (f:List UInt8) (d fc:TDef) (hd:OkD d) (hf:OkD fc) (o:List (List DC)) (ho:o.length ≤ 800000) :
  ∃ o':List (List DC),jy kH (.sl o :: .i i :: .s f :: .i 0 :: .sl T :: .sl D :: .sl R :: (TDef.enc d ++ TDef.enc fc)) = .ex 2 (.sl o' :: .i i :: .sl T :: .sl D :: .sl R :: (TDef.enc d ++ TDef.enc fc)) ∧ o'.length ≤ o.length + 20:=by
 have hn:=hf.faces
 have hdn:=hd.faces
 refine kg (F:=kH) (n:=fc.faces.length) (I:=fun j v=>∃ o':List (List DC),v = .sl o' :: .i i :: .s f :: .i (j:Int) :: .sl T :: .sl D :: .sl R :: (TDef.enc d ++ TDef.enc fc) ∧ o'.length ≤ o.length + j)
  (Q:=fun r=>∃ o':List (List DC),r = .ex 2 (.sl o' :: .i i :: .sl T :: .sl D :: .sl R :: (TDef.enc d ++ TDef.enc fc)) ∧ o'.length ≤ o.length + 20) ?_ ?_ fc.faces.length 0 _ (by omega) ⟨o,rfl,Nat.le_refl _⟩
 ·rintro j v hj ⟨o',rfl,h1⟩
  have hc:(j:Int) < (fc.faces.length:Int):=by omega
  have wz:=jz hj (show fc.faces.length ≤ 9223372036854775807 by omega)
  have hm:(fc.faces.map S1).getD j []=[.s fc.faces[j]]:=jx hj
  have hH:=yA d.faces fc.faces[j] (by omega)
  obtain ⟨f1,_⟩:=QU (o:=o'.length) (b:=0) (by omega)
  refine .inl ?_
  cases hb:d.faces.any (· == fc.faces[j]) with
  | true=>rw [hb] at hH; exact ⟨_,by simp only [qL,qI,qS,qB,kH,List.getD_cons_zero,List.getD_cons_succ,DC.bb_b,DC.ii_i,DC.ss_s,DC.ll_sl,List.length_map,jd,Int.natCast_nonneg,decide_true,decide_false,if_true,if_false,Bool.false_eq_true,and_self,true_and,ja,j9,Out.bindR_ret,jb,jf,Nat.zero_add,beq_self_eq_true,bne_self_eq_false,je,jc,eq_self,jh,jg,TDef.enc_eq d,TDef.enc_eq fc,hc,hm,hH,f1,wz]; rfl,_,by rw [TDef.enc_eq d,TDef.enc_eq fc]; rfl,by omega⟩
  | false=>rw [hb] at hH; exact ⟨_,by simp only [qL,qI,qS,qB,kH,List.getD_cons_zero,List.getD_cons_succ,DC.bb_b,DC.ii_i,DC.ss_s,DC.ll_sl,List.length_map,jd,Int.natCast_nonneg,decide_true,decide_false,if_true,if_false,Bool.false_eq_true,and_self,true_and,ja,j9,Out.bindR_ret,jb,jf,Nat.zero_add,beq_self_eq_true,bne_self_eq_false,je,jc,eq_self,jh,jg,TDef.enc_eq d,TDef.enc_eq fc,hc,hm,hH,f1,wz]; rfl,_,by rw [TDef.enc_eq d,TDef.enc_eq fc]; rfl,by simp only [jj,jb,jf]; omega⟩
 ·rintro v ⟨o',rfl,h1⟩
  exact ⟨_,by simp [qL,qI,qS,qB,kH,TDef.enc_eq d,TDef.enc_eq fc]; rfl,Out.esc_ex 2 _,o',by rw [TDef.enc_eq d,TDef.enc_eq fc]; rfl,by omega⟩
theorem fdw {f:TFieldDef} (h:j1M f=true):f.type'.wraps.length ≤ 20:=by
 simp only [j1M,jk,decide_eq_true_eq] at h
 exact h.1.1
theorem jaB (ts:List TDef) (D R:List (List DC)) (hl:ts.length ≤ 60) (hk:∀ d ∈ ts,OkD d) (i:Int) (d fc:TDef) (hd:OkD d) (hf:OkD fc) (o:List (List DC)) (ho:o.length ≤ 800000) :
  ∃ o':List (List DC),jy kt (.sl o :: .i i :: .i 0 :: .sl (ts.map TDef.enc) :: .sl D :: .sl R :: (TDef.enc d ++ TDef.enc fc)) = .ex 4 (.sl o' :: .i i :: .sl (ts.map TDef.enc) :: .sl D :: .sl R :: TDef.enc d) ∧ o'.length ≤ o.length + 800:=by
 have hn:=hf.fields
 have hdn:=hd.fields
 have hw:=j7j hl hk
 refine kg (F:=kt) (n:=fc.fields.length) (I:=fun j v=>∃ o':List (List DC),v = .sl o' :: .i i :: .i (j:Int) :: .sl (ts.map TDef.enc) :: .sl D :: .sl R :: (TDef.enc d ++ TDef.enc fc) ∧ o'.length ≤ o.length + 40 * j)
  (Q:=fun r=>∃ o':List (List DC),r = .ex 4 (.sl o' :: .i i :: .sl (ts.map TDef.enc) :: .sl D :: .sl R :: TDef.enc d) ∧ o'.length ≤ o.length + 800) ?_ ?_ fc.fields.length 0 _ (by omega) ⟨o,rfl,Nat.le_refl _⟩
 ·rintro j v hj ⟨o',rfl,h1⟩
  have hc:(j:Int) < (fc.fields.length:Int):=by omega
  have wz:=jz hj (show fc.fields.length ≤ 9223372036854775807 by omega)
  have hm:(fc.fields.map TFieldDef.enc).getD j []=TFieldDef.enc fc.fields[j]:=jx hj
  have hF:=j7Z d.fields fc.fields[j].name hdn
  have hfo:=hf.okf _ (ju hj)
  obtain ⟨f1,_⟩:=QU (o:=o'.length) (b:=0) (by omega)
  rw [TFieldDef.enc_eq] at hm
  refine .inl ?_
  rcases Xf (fun x:TFieldDef=>x.name == fc.fields[j].name) d.fields with ⟨h,_⟩ | ⟨k,hkk,h,_⟩
  ·rw [h] at hF
   exact ⟨_,by simp only [qL,qI,qS,qB,kt,List.getD_cons_zero,List.getD_cons_succ,DC.bb_b,DC.ii_i,DC.ss_s,DC.ll_sl,List.length_map,jd,Int.natCast_nonneg,decide_true,decide_false,if_true,if_false,Bool.false_eq_true,and_self,true_and,ja,j9,Out.bindR_ret,jb,jf,Nat.zero_add,beq_self_eq_true,bne_self_eq_false,je,jc,eq_self,jh,jg,TDef.enc_eq d,TDef.enc_eq fc,hc,hm,hF,f1,wz,show ((-1:Int) < 0) by decide]; rfl,_,by rw [TDef.enc_eq d,TDef.enc_eq fc]; rfl,by simp only [jj,jb,jf]; omega⟩
  ·rw [h] at hF
   have hm2:(d.fields.map TFieldDef.enc).getD k []=TFieldDef.enc d.fields[k]:=jx hkk
   have hdo:=hd.okf _ (ju hkk)
   have hkc:(k:Int) < (d.fields.length:Int):=by omega
   have hk0:¬ (k:Int) < 0:=by omega
   have hS:=j4R ts D R d.fields[k].type'.name d.fields[k].type'.wraps fc.fields[j].type'.name fc.fields[j].type'.wraps hw (by have:=fdw hdo; have:=fdw hfo; omega)
   obtain ⟨o2,eA,hA⟩:=jbw d.name d.fields[k] fc.fields[j] hdo hfo o' (by omega)
   rw [TFieldDef.enc_eq,TFieldDef.enc_eq] at eA
   simp only [jh,jg] at eA
   rw [TFieldDef.enc_eq] at hm2
   generalize yh (VS ts d.fields[k].type'.name fc.fields[j].type'.name) d.fields[k].type'.wraps.reverse fc.fields[j].type'.wraps.reverse=b at *
   cases b with
   | false=>exact ⟨_,by simp only [qL,qI,qS,qB,kt,List.getD_cons_zero,List.getD_cons_succ,DC.bb_b,DC.ii_i,DC.ss_s,DC.ll_sl,List.length_map,jd,Int.natCast_nonneg,decide_true,decide_false,if_true,if_false,Bool.false_eq_true,and_self,true_and,ja,j9,Out.bindR_ret,jb,jf,Nat.zero_add,beq_self_eq_true,bne_self_eq_false,je,jc,eq_self,jh,jg,TDef.enc_eq d,TDef.enc_eq fc,hc,hm,hF,hm2,hkc,hk0,hS,f1,wz]; rfl,_,by rw [TDef.enc_eq d,TDef.enc_eq fc]; rfl,by simp only [jj,jb,jf]; omega⟩
   | true=>exact ⟨_,by simp only [qL,qI,qS,qB,kt,List.getD_cons_zero,List.getD_cons_succ,DC.bb_b,DC.ii_i,DC.ss_s,DC.ll_sl,List.length_map,jd,Int.natCast_nonneg,decide_true,decide_false,if_true,if_false,Bool.false_eq_true,and_self,true_and,ja,j9,Out.bindR_ret,jb,jf,Nat.zero_add,beq_self_eq_true,bne_self_eq_false,je,jc,eq_self,jh,jg,TDef.enc_eq d,TDef.enc_eq fc,hc,hm,hF,hm2,hkc,hk0,hS,eA,f1,wz]; rfl,_,by rw [TDef.enc_eq d,TDef.enc_eq fc]; rfl,by omega⟩
 ·rintro v ⟨o',rfl,h1⟩
  exact ⟨_,by simp [qL,qI,qS,qB,kt,TDef.enc_eq d,TDef.enc_eq fc]; rfl,Out.esc_ex 4 _,o',by rw [TDef.enc_eq d],by omega⟩
theorem jaA (ts:List TDef) (D R:List (List DC)) (hl:ts.length ≤ 60) (hk:∀ d ∈ ts,OkD d) (d:TDef) (hd:OkD d) :
  ∃ o':List (List DC),jy jW (.sl [] :: .i 0 :: .sl (ts.map TDef.enc) :: .sl D :: .sl R :: TDef.enc d) = .ex 0 [.sl o'] ∧ o'.length ≤ 20000:=by
 have hn:=hd.faces
 refine kg (F:=jW) (n:=d.faces.length) (I:=fun j v=>∃ o':List (List DC),v = .sl o' :: .i (j:Int) :: .sl (ts.map TDef.enc) :: .sl D :: .sl R :: TDef.enc d ∧ o'.length ≤ 900 * j)
  (Q:=fun r=>∃ o':List (List DC),r = .ex 0 [.sl o'] ∧ o'.length ≤ 20000) ?_ ?_ d.faces.length 0 _ (by omega) ⟨[],rfl,Nat.le_refl _⟩
 ·rintro j v hj ⟨o',rfl,h1⟩
  have hc:(j:Int) < (d.faces.length:Int):=by omega
  have hc':(j:Int) ≤ (d.faces.length:Int):=by omega
  have wz:=jz hj (show d.faces.length ≤ 9223372036854775807 by omega)
  have hm:(d.faces.map S1).getD j []=[.s d.faces[j]]:=jx hj
  have hH:=yA (d.faces.take j) d.faces[j] (by rw [List.length_take]; omega)
  rw [List.map_take] at hH
  obtain ⟨f1,f2,_⟩:=QU (o:=o'.length) (b:=0) (by omega)
  have hK:=zn ts D R d.faces[j] (by omega)
  have hT:=zk ts D R d.faces[j] (by omega)
  generalize (d.faces.take j).any (· == d.faces[j])=b at *
  have hq:∃ o1:List (List DC),o1=(if b=true then o' ++ [[DC.i 2,DC.s d.name,DC.s d.faces[j]]] else o') ∧ o1.length ≤ o'.length + 1:=by
   refine ⟨_,rfl,?_⟩
   cases b <;> simp
  obtain ⟨o1,ho1,l1⟩:=hq
  have g1:o1.length + 1 < jT:=by unfold jT; omega
  refine .inl ?_
  by_cases hk3:jI ts d.faces[j]=3
  ·by_cases hs:d.faces[j]=d.name
   ·have hs':(d.faces[j] == d.name)=true:=by simpa using hs
    refine ⟨_,?_,o1 ++ [[DC.i 9,DC.s d.name,DC.s d.faces[j]]],rfl,by simp only [jj,jb,jf]; omega⟩
    rw [ho1]
    cases b <;> simp only [qL,qI,qS,qB,jW,List.getD_cons_zero,List.getD_cons_succ,DC.bb_b,DC.ii_i,DC.ss_s,DC.ll_sl,List.length_map,jd,Int.natCast_nonneg,decide_true,decide_false,if_true,if_false,Bool.false_eq_true,and_self,true_and,ja,j9,Out.bindR_ret,jb,jf,Nat.zero_add,beq_self_eq_true,bne_self_eq_false,je,jc,eq_self,jh,jg,jj,TDef.enc_eq d,hc,hc',hm,hH,hK,hk3,hs',f1,f2,wz]
   ·have hs':(d.faces[j] == d.name)=false:=by simpa using hs
    rcases qg ts d.faces[j] with ⟨_,t2⟩ | ⟨k,hkk,t1,_,_⟩
    ·unfold jI at hk3
     rw [t2] at hk3
     cases hb:Jf d.faces[j] <;> simp [hb] at hk3
    ·rw [t1] at hT
     have hm2:(ts.map TDef.enc).getD k []=TDef.enc ts[k]:=jx hkk
     have hkc:(k:Int) < (ts.length:Int):=by omega
     have hfc:=hk _ (ju hkk)
     obtain ⟨bb,eB⟩:=j9b ts[k] hfc
     obtain ⟨o2,e2,l2⟩:=jaC (ts.map TDef.enc) D R (j:Int) d.faces[j] d ts[k] hd hfc o1 (by omega)
     obtain ⟨o3,e3,l3⟩:=jaB ts D R hl hk (j:Int) d ts[k] hd hfc o2 (by omega)
     rw [TDef.enc_eq] at hm2 eB
     rw [TDef.enc_eq d,TDef.enc_eq ts[k]] at e2 e3
     simp only [jh,jg] at e2 e3
     cases bb with
     | true =>
      refine ⟨_,?_,o1 ++ [[DC.i 5,DC.s d.name,DC.s d.faces[j]]],rfl,by simp only [jj,jb,jf]; omega⟩
      rw [ho1]
      cases b <;> simp only [qL,qI,qS,qB,jW,List.getD_cons_zero,List.getD_cons_succ,DC.bb_b,DC.ii_i,DC.ss_s,DC.ll_sl,List.length_map,jd,Int.natCast_nonneg,decide_true,decide_false,if_true,if_false,Bool.false_eq_true,and_self,true_and,ja,j9,Out.bindR_ret,jb,jf,Nat.zero_add,beq_self_eq_true,bne_self_eq_false,je,jc,eq_self,jh,jg,jj,TDef.enc_eq d,hc,hc',hm,hH,hK,hk3,hs',hT,hm2,hkc,eB,f1,f2,wz]
     | false =>
      refine ⟨_,?_,o3,rfl,by omega⟩
      rw [ho1] at e2
      cases b <;> simp only [if_true,Bool.false_eq_true,if_false] at e2 <;> simp only [qL,qI,qS,qB,jW,List.getD_cons_zero,List.getD_cons_succ,DC.bb_b,DC.ii_i,DC.ss_s,DC.ll_sl,List.length_map,jd,Int.natCast_nonneg,decide_true,decide_false,if_true,if_false,Bool.false_eq_true,and_self,true_and,ja,j9,Out.bindR_ret,jb,jf,Nat.zero_add,beq_self_eq_true,bne_self_eq_false,je,jc,eq_self,jh,jg,jj,TDef.enc_eq d,hc,hc',hm,hH,hK,hk3,hs',hT,hm2,hkc,eB,f1,f2,wz,e2,e3]
  ·have hk3':(jI ts d.faces[j] != 3)=true:=by simpa using hk3
   refine ⟨_,?_,o1 ++ [[DC.i 9,DC.s d.name,DC.s d.faces[j]]],rfl,by simp only [jj,jb,jf]; omega⟩
   rw [ho1]
   cases b <;> simp only [qL,qI,qS,qB,jW,List.getD_cons_zero,List.getD_cons_succ,DC.bb_b,DC.ii_i,DC.ss_s,DC.ll_sl,List.length_map,jd,Int.natCast_nonneg,decide_true,decide_false,if_true,if_false,Bool.false_eq_true,and_self,true_and,ja,j9,Out.bindR_ret,jb,jf,Nat.zero_add,beq_self_eq_true,bne_self_eq_false,je,jc,eq_self,jh,jg,jj,TDef.enc_eq d,hc,hc',hm,hH,hK,hk3',f1,f2,wz]
 ·rintro v ⟨o',rfl,h1⟩
  exact ⟨_,by simp [qL,qI,qS,qB,jW,TDef.enc_eq d],Out.esc_ex 0 _,o',rfl,by omega⟩
theorem jaz (ts:List TDef) (D R:List (List DC)) (hl:ts.length ≤ 60) (hk:∀ d ∈ ts,OkD d) (d:TDef) (hd:OkD d) :
  ∃ o':List (List DC),zX (.sl (ts.map TDef.enc) :: .sl D :: .sl R :: TDef.enc d) = .ret [.sl o'] ∧ o'.length ≤ 20000:=by
 obtain ⟨b,eB⟩:=j9b d hd
 obtain ⟨o',e,h⟩:=jaA ts D R hl hk d hd
 have g0:1 < jT:=by decide
 rw [Yf]
 rw [TDef.enc_eq] at eB e ⊢
 cases b with
 | true=>exact ⟨_,by simp only [qL,qI,qS,qB,zZ,List.getD_cons_zero,List.getD_cons_succ,DC.bb_b,DC.ii_i,DC.ss_s,DC.ll_sl,List.length_map,jd,Int.natCast_nonneg,decide_true,decide_false,if_true,if_false,Bool.false_eq_true,and_self,true_and,ja,j9,Out.bindR_ret,jb,jf,Nat.zero_add,beq_self_eq_true,bne_self_eq_false,je,jc,eq_self,jh,jg,eB,g0]; rfl,by simp⟩
 | false=>exact ⟨o',by simp only [qL,qI,qS,qB,zZ,List.getD_cons_zero,List.getD_cons_succ,DC.bb_b,DC.ii_i,DC.ss_s,DC.ll_sl,List.length_map,jd,Int.natCast_nonneg,decide_true,decide_false,if_true,if_false,Bool.false_eq_true,and_self,true_and,ja,j9,Out.bindR_ret,jb,jf,Nat.zero_add,beq_self_eq_true,bne_self_eq_false,je,jc,eq_self,jh,jg,eB,e],h⟩
theorem KE (b:Bool) (x y:List (List DC)) (r:List DC):(if b=true then Out.norm (.sl x :: r) else .norm (.sl y :: r)) = .norm (.sl (if b=true then x else y) :: r):=by cases b <;> rfl
theorem zE (b:Bool) (o:List (List DC)) (p:List DC):∃ o1,(if b=true then o ++ [p] else o)=o1 ∧ o1.length ≤ o.length + 1:=by
 refine ⟨_,rfl,?_⟩
 cases b <;> simp
theorem j8a (ts:List TDef) (D R:List (List DC)) (n:List UInt8) (hl:ts.length ≤ 60) (hk:∀ d ∈ ts,OkD d):∃ b,QB [.sl (ts.map TDef.enc),.sl D,.sl R,.s n] = .ret [.b b]:=by
 have hK:=fun m=>zn ts D R m (by omega:ts.length ≤ 1048576)
 have six:∀ m,jI ts m=6 → m=j0f:=fun m h=>by
  unfold jI at h
  cases hd:pZ ts m with
  | none=>rw [hd] at h; cases hb:Jf m <;> simp [hb] at h
  | some e =>
   rw [hd] at h
   have h6:e.kind=6:=h
   have he:=hk e (VR hd)
   have hn:e.name=m:=by
    unfold pZ at hd
    split at hd
    ·simp at hd
    ·simpa using List.find?_some hd
   have:=he.find
   rw [h6,hn] at this
   simpa using this.symm
 rw [j2l]
 by_cases h6:jI ts n=6
 ·have hT:=zk ts D R n (by omega)
  rcases qg ts n with ⟨_,t2⟩ | ⟨k,hkk,t1,t2,_⟩
  ·unfold jI at h6
   rw [t2] at h6
   cases hb:Jf n <;> simp [hb] at h6
  ·rw [t1] at hT
   have hm2:(ts.map TDef.enc).getD k []=TDef.enc ts[k]:=jx hkk
   have hkc:(k:Int) < (ts.length:Int):=by omega
   have hd:=hk _ (ju hkk)
   have k1:∃ o,jy kY (.s n :: .sl [[.s n]] :: .i 0 :: .i 0 :: .sl (ts.map TDef.enc) :: .sl D :: .sl R :: TDef.enc ts[k])=o ∧ (o = .ret [.b true] ∨ o = .ex 2 [.s n,.sl [[.s n]],.i 0,.sl (ts.map TDef.enc),.sl D,.sl R]):=by
    refine ⟨_,rfl,?_⟩
    generalize ts[k]=d at *
    have hin:=hd.inputs
    refine kg (F:=kY) (n:=d.inputs.length) (I:=fun j v=>v = .s n :: .sl [[.s n]] :: .i 0 :: .i (j:Int) :: .sl (ts.map TDef.enc) :: .sl D :: .sl R :: TDef.enc d)
     (Q:=fun o=>o = .ret [.b true] ∨ o = .ex 2 [.s n,.sl [[.s n]],.i 0,.sl (ts.map TDef.enc),.sl D,.sl R]) ?_ ?_ d.inputs.length 0 _ (by omega) rfl
    ·rintro j v hj rfl
     have hc:(j:Int) < (d.inputs.length:Int):=by omega
     have wz:=jz hj (show d.inputs.length ≤ 9223372036854775807 by omega)
     have hm:(d.inputs.map TInDef.enc).getD j []=TInDef.enc d.inputs[j]:=jx hj
     rw [TInDef.enc_eq] at hm
     generalize d.inputs[j]=a at *
     cases b1:(a.type'.wraps == [33]) with
     | false=>exact .inl ⟨_,by simp only [qL,qI,qS,qB,kY,List.getD_cons_zero,List.getD_cons_succ,DC.bb_b,DC.ii_i,DC.ss_s,DC.ll_sl,List.length_map,jd,Int.natCast_nonneg,decide_true,decide_false,if_true,if_false,Bool.false_eq_true,and_self,true_and,ja,j9,Out.bindR_ret,jb,jf,Nat.zero_add,beq_self_eq_true,bne_self_eq_false,je,jc,eq_self,jh,jg,TDef.enc_eq d,hc,hm,b1,wz]; rfl,by rw [TDef.enc_eq d]⟩
     | true =>
      cases b2:a.has' with
      | true=>rw [b2] at hm; exact .inl ⟨_,by simp only [qL,qI,qS,qB,kY,List.getD_cons_zero,List.getD_cons_succ,DC.bb_b,DC.ii_i,DC.ss_s,DC.ll_sl,List.length_map,jd,Int.natCast_nonneg,decide_true,decide_false,if_true,if_false,Bool.false_eq_true,and_self,true_and,ja,j9,Out.bindR_ret,jb,jf,Nat.zero_add,beq_self_eq_true,bne_self_eq_false,je,jc,eq_self,jh,jg,TDef.enc_eq d,hc,hm,b1,wz]; rfl,by rw [TDef.enc_eq d]⟩
      | false =>
       rw [b2] at hm
       by_cases h7:jI ts a.type'.name=6
       ·have e1:(a.type'.name == n)=true:=by rw [six _ h7,six _ h6]; exact beq_self_eq_true _
        exact .inr ⟨_,by simp only [qL,qI,qS,qB,kY,List.getD_cons_zero,List.getD_cons_succ,DC.bb_b,DC.ii_i,DC.ss_s,DC.ll_sl,List.length_map,jd,Int.natCast_nonneg,decide_true,decide_false,if_true,if_false,Bool.false_eq_true,and_self,true_and,ja,j9,Out.bindR_ret,jb,jf,Nat.zero_add,beq_self_eq_true,bne_self_eq_false,je,jc,eq_self,jh,jg,TDef.enc_eq d,hc,hm,b1,hK,h7,e1],Out.esc_ret _,.inl rfl⟩
       ·have h7':(jI ts a.type'.name != 6)=true:=by simpa using h7
        exact .inl ⟨_,by simp only [qL,qI,qS,qB,kY,List.getD_cons_zero,List.getD_cons_succ,DC.bb_b,DC.ii_i,DC.ss_s,DC.ll_sl,List.length_map,jd,Int.natCast_nonneg,decide_true,decide_false,if_true,if_false,Bool.false_eq_true,and_self,true_and,ja,j9,Out.bindR_ret,jb,jf,Nat.zero_add,beq_self_eq_true,bne_self_eq_false,je,jc,eq_self,jh,jg,TDef.enc_eq d,hc,hm,b1,hK,h7',wz]; rfl,by rw [TDef.enc_eq d]⟩
    ·rintro v rfl
     exact ⟨_,by simp [qL,qI,qS,qB,kY,TDef.enc_eq d],Out.esc_ex 2 _,.inr rfl⟩
   obtain ⟨o,e1,ho⟩:=k1
   rw [TDef.enc_eq] at e1 hm2
   have z1:(0:Int) < ((0 + 1:Nat):Int):=by decide
   have z2:(0:Int) < ((1:Nat):Int):=by decide
   have z3:¬ (1:Int) < ((1:Nat):Int):=by decide
   have w0:IntKind.i64.wrap ((0:Int) + 1)=1:=by decide
   rcases ho with rfl | rfl
   ·have e2:jy qv [.s n,.sl [[.s n]],.i 0,.sl (ts.map TDef.enc),.sl D,.sl R] = .ret [.b true]:=yS (by simp only [qL,qI,qS,qB,qv,List.getD_cons_zero,List.getD_cons_succ,DC.bb_b,DC.ii_i,DC.ss_s,DC.ll_sl,List.length_map,jd,Int.natCast_nonneg,decide_true,decide_false,if_true,if_false,Bool.false_eq_true,and_self,true_and,ja,j9,Out.bindR_ret,jb,jf,Nat.zero_add,beq_self_eq_true,bne_self_eq_false,je,jc,eq_self,jh,jg,Int.toNat_zero,Int.le_refl,z1,z2,hT,hm2,hkc,e1])
    exact ⟨true,by simp only [qL,qI,qS,qB,K2,List.getD_cons_zero,List.getD_cons_succ,DC.bb_b,DC.ii_i,DC.ss_s,DC.ll_sl,List.length_map,jd,Int.natCast_nonneg,decide_true,decide_false,if_true,if_false,Bool.false_eq_true,and_self,true_and,ja,j9,Out.bindR_ret,jb,jf,Nat.zero_add,beq_self_eq_true,bne_self_eq_false,je,jc,eq_self,jh,jg,hK,h6,e2]⟩
   ·have e2:jy qv [.s n,.sl [[.s n]],.i 0,.sl (ts.map TDef.enc),.sl D,.sl R] = .ex 0 [] :=
     (jH (v':=[.s n,.sl [[.s n]],.i 1,.sl (ts.map TDef.enc),.sl D,.sl R]) (by simp only [qL,qI,qS,qB,qv,List.getD_cons_zero,List.getD_cons_succ,DC.bb_b,DC.ii_i,DC.ss_s,DC.ll_sl,List.length_map,jd,Int.natCast_nonneg,decide_true,decide_false,if_true,if_false,Bool.false_eq_true,and_self,true_and,ja,j9,Out.bindR_ret,jb,jf,Nat.zero_add,beq_self_eq_true,bne_self_eq_false,je,jc,eq_self,jh,jg,Int.toNat_zero,Int.le_refl,z1,z2,hT,hm2,hkc,e1,w0])).trans (jK (by simp only [qL,qI,qS,qB,qv,List.getD_cons_zero,List.getD_cons_succ,DC.bb_b,DC.ii_i,DC.ss_s,DC.ll_sl,List.length_map,jd,Int.natCast_nonneg,decide_true,decide_false,if_true,if_false,Bool.false_eq_true,and_self,true_and,ja,j9,Out.bindR_ret,jb,jf,Nat.zero_add,beq_self_eq_true,bne_self_eq_false,je,jc,eq_self,jh,jg,z3]))
    exact ⟨false,by simp only [qL,qI,qS,qB,K2,List.getD_cons_zero,List.getD_cons_succ,DC.bb_b,DC.ii_i,DC.ss_s,DC.ll_sl,List.length_map,jd,Int.natCast_nonneg,decide_true,decide_false,if_true,if_false,Bool.false_eq_true,and_self,true_and,ja,j9,Out.bindR_ret,jb,jf,Nat.zero_add,beq_self_eq_true,bne_self_eq_false,je,jc,eq_self,jh,jg,hK,h6,e2]⟩
 ·have h6':(jI ts n != 6)=true:=by simpa using h6
  exact ⟨false,by simp only [qL,qI,qS,qB,K2,List.getD_cons_zero,List.getD_cons_succ,DC.bb_b,DC.ii_i,DC.ss_s,DC.ll_sl,List.length_map,jd,Int.natCast_nonneg,decide_true,decide_false,if_true,if_false,Bool.false_eq_true,and_self,true_and,ja,j9,Out.bindR_ret,jb,jf,Nat.zero_add,beq_self_eq_true,bne_self_eq_false,je,jc,eq_self,jh,jg,hK,h6']⟩
theorem j65 {d:TDef} (h:OkD d):d.name.length ≤ 4000:=by
 have:=h.wt
 rw [j2D] at this
 omega
theorem j8E {d:TDef} (h:OkD d) {f:TFieldDef} (hf:f ∈ d.fields):f.name.length ≤ 4000:=by
 have h1:=h.wt
 have h2:=Q9 (List.mem_map_of_mem (f:=TFieldDef.enc) hf)
 rw [j2D] at h1
 rw [Z6] at h2
 have h3:DC.wt (.sl (d.fields.map TFieldDef.enc))=(d.fields.map TFieldDef.enc).length + wtV (d.fields.map TFieldDef.enc):=by rw [DC.wt]
 omega
theorem j9a (ts:List TDef) (D R:List (List DC)) (hl:ts.length ≤ 60) (hk:∀ d ∈ ts,OkD d) (d:TDef) (hd:OkD d) (o:List (List DC)) (ho:o.length ≤ 2) :
  ∃ o':List (List DC),K9 (.sl (ts.map TDef.enc) :: .sl D :: .sl R :: (TDef.enc d ++ [.sl o])) = .ret [.sl o'] ∧ o'.length ≤ 30000:=by
 have hn:=hd.fields
 obtain ⟨o1,ho1,l1⟩:=zE ((d.fields.length:Int) == 0) o [DC.i 7,DC.s d.name,DC.s []]
 have k1:∃ o2:List (List DC),jy qA (.sl o1 :: .i 0 :: .sl (ts.map TDef.enc) :: .sl D :: .sl R :: TDef.enc d) = .ex 0 (.sl o2 :: .sl (ts.map TDef.enc) :: .sl D :: .sl R :: TDef.enc d) ∧ o2.length ≤ 2000:=by
  refine kg (F:=qA) (n:=d.fields.length) (I:=fun j v=>∃ o2:List (List DC),v = .sl o2 :: .i (j:Int) :: .sl (ts.map TDef.enc) :: .sl D :: .sl R :: TDef.enc d ∧ o2.length ≤ o1.length + 83 * j)
   (Q:=fun r=>∃ o2:List (List DC),r = .ex 0 (.sl o2 :: .sl (ts.map TDef.enc) :: .sl D :: .sl R :: TDef.enc d) ∧ o2.length ≤ 2000) ?_ ?_ d.fields.length 0 _ (by omega) ⟨o1,rfl,Nat.le_refl _⟩
  ·rintro j v hj ⟨o2,rfl,l2⟩
   refine .inl ?_
   have hc:(j:Int) < (d.fields.length:Int):=by omega
   have wz:=jz hj (show d.fields.length ≤ 9223372036854775807 by omega)
   have hm:(d.fields.map TFieldDef.enc).getD j []=TFieldDef.enc d.fields[j]:=jx hj
   have hF:=j7Z d.fields d.fields[j].name hn
   have hfo:=hd.okf _ (ju hj)
   have n1:=j65 hd
   have n2:=j8E hd (ju hj)
   rw [TFieldDef.enc_eq] at hm
   generalize d.fields[j]=f at *
   simp only [j1M,jk,decide_eq_true_eq,List.all_eq_true] at hfo
   obtain ⟨b1,e1⟩:=Ql f.name
   have e3:=j3B ts D R f.type'.name (by omega)
   generalize pu (fun x:TFieldDef=>x.name == f.name) d.fields=p at *
   obtain ⟨p1,q1,s1⟩:=zE b1 o2 [DC.i 6,DC.s d.name,DC.s f.name]
   obtain ⟨p2,q2,s2⟩:=zE (p != (j:Int)) p1 [DC.i 2,DC.s d.name,DC.s f.name]
   obtain ⟨p3,q3,s3⟩:=zE (!(jI ts f.type'.name != 0 && jI ts f.type'.name != 6)) p2 [DC.i 8,DC.s d.name,DC.s f.name]
   obtain ⟨p4,e4,s4⟩:=jbu ts D R (d.name ++ [46] ++ f.name) f.args p3 hl hk hfo.1.2 hfo.2 (by omega)
   have g1:=(QU (o:=o2.length) (b:=0) (by omega)).1
   have g2:=(QU (o:=p1.length) (b:=0) (by omega)).1
   have g3:=(QU (o:=p2.length) (b:=0) (by omega)).1
   have g4:=(QU (o:=d.name.length) (b:=0) (by omega)).1
   have g5:d.name.length + 1 + f.name.length < jT:=j0i (by omega)
   exact ⟨_,by simp only [qL,qI,qS,qB,qA,List.getD_cons_zero,List.getD_cons_succ,DC.bb_b,DC.ii_i,DC.ss_s,DC.ll_sl,List.length_map,jd,Int.natCast_nonneg,decide_true,decide_false,if_true,if_false,Bool.false_eq_true,and_self,true_and,ja,j9,Out.bindR_ret,jb,jf,Nat.zero_add,beq_self_eq_true,bne_self_eq_false,je,jc,eq_self,jh,jg,jj,TDef.enc_eq d,hc,hm,e1,g1,KE,q1,hF,g2,q2,e3,g3,q3,g4,g5,e4,wz]; rfl,p4,by rw [TDef.enc_eq d],by omega⟩
  ·rintro v ⟨o2,rfl,l2⟩
   exact ⟨_,by simp [qL,qI,qS,qB,qA,TDef.enc_eq d]; rfl,Out.esc_ex 0 _,o2,by rw [TDef.enc_eq d],by omega⟩
 obtain ⟨o2,e2,l2⟩:=k1
 obtain ⟨o3,e3,l3⟩:=jaz ts D R hl hk d hd
 have g1:=(QU (o:=o.length) (b:=0) (by omega)).1
 have g2:o2.length + o3.length < jT:=j0i (by omega)
 refine ⟨o2 ++ o3,?_,by rw [jj]; omega⟩
 rw [j0v]
 rw [TDef.enc_eq] at e2 e3 ⊢
 simp only [qL,qI,qS,qB,VX,List.getD_cons_zero,List.getD_cons_succ,DC.bb_b,DC.ii_i,DC.ss_s,DC.ll_sl,List.length_map,jd,Int.natCast_nonneg,decide_true,decide_false,if_true,if_false,Bool.false_eq_true,and_self,true_and,ja,j9,Out.bindR_ret,jb,jf,Nat.zero_add,beq_self_eq_true,bne_self_eq_false,je,jc,eq_self,jh,jg,g1,KE,ho1,e2,e3,g2]
theorem j89 (ts:List TDef) (D R:List (List DC)) (hl:ts.length ≤ 60) (hk:∀ d ∈ ts,OkD d) (d:TDef) (hd:OkD d) (o:List (List DC)) (ho:o.length ≤ 2) :
  ∃ o':List (List DC),JG (.sl (ts.map TDef.enc) :: .sl D :: .sl R :: (TDef.enc d ++ [.sl o])) = .ret [.sl o'] ∧ o'.length ≤ 30000:=by
 have hn:=hd.faces
 obtain ⟨o1,ho1,l1⟩:=zE ((d.faces.length:Int) == 0) o [DC.i 7,DC.s d.name,DC.s []]
 have k1:∃ o2:List (List DC),jy qc (.sl o1 :: .i 0 :: .sl (ts.map TDef.enc) :: .sl D :: .sl R :: TDef.enc d) = .ex 0 [.sl o2] ∧ o2.length ≤ 2000:=by
  refine kg (F:=qc) (n:=d.faces.length) (I:=fun j v=>∃ o2:List (List DC),v = .sl o2 :: .i (j:Int) :: .sl (ts.map TDef.enc) :: .sl D :: .sl R :: TDef.enc d ∧ o2.length ≤ o1.length + 2 * j)
   (Q:=fun r=>∃ o2:List (List DC),r = .ex 0 [.sl o2] ∧ o2.length ≤ 2000) ?_ ?_ d.faces.length 0 _ (by omega) ⟨o1,rfl,Nat.le_refl _⟩
  ·rintro j v hj ⟨o2,rfl,l2⟩
   refine .inl ?_
   have hc:(j:Int) < (d.faces.length:Int):=by omega
   have hc':(j:Int) ≤ (d.faces.length:Int):=by omega
   have wz:=jz hj (show d.faces.length ≤ 9223372036854775807 by omega)
   have hm:(d.faces.map S1).getD j []=[.s d.faces[j]]:=jx hj
   have hH:=yA (d.faces.take j) d.faces[j] (by rw [List.length_take]; omega)
   rw [List.map_take] at hH
   have hK:=zn ts D R d.faces[j] (by omega)
   generalize d.faces[j]=f at *
   obtain ⟨p1,q1,s1⟩:=zE ((d.faces.take j).any (· == f)) o2 [DC.i 2,DC.s d.name,DC.s f]
   obtain ⟨p2,q2,s2⟩:=zE (jI ts f != 2) p1 [DC.i 8,DC.s d.name,DC.s f]
   have g1:=(QU (o:=o2.length) (b:=0) (by omega)).1
   have g2:=(QU (o:=p1.length) (b:=0) (by omega)).1
   exact ⟨_,by simp only [qL,qI,qS,qB,qc,List.getD_cons_zero,List.getD_cons_succ,DC.bb_b,DC.ii_i,DC.ss_s,DC.ll_sl,List.length_map,jd,Int.natCast_nonneg,decide_true,decide_false,if_true,if_false,Bool.false_eq_true,and_self,true_and,ja,j9,Out.bindR_ret,jb,jf,Nat.zero_add,beq_self_eq_true,bne_self_eq_false,je,jc,eq_self,jh,jg,TDef.enc_eq d,hc,hc',hm,hH,g1,KE,q1,hK,g2,q2,wz]; rfl,p2,by rw [TDef.enc_eq d],by omega⟩
  ·rintro v ⟨o2,rfl,l2⟩
   exact ⟨_,by simp [qL,qI,qS,qB,qc,TDef.enc_eq d],Out.esc_ex 0 _,o2,rfl,by omega⟩
 obtain ⟨o2,e2,l2⟩:=k1
 have g1:=(QU (o:=o.length) (b:=0) (by omega)).1
 refine ⟨o2,?_,by omega⟩
 rw [ZP]
 rw [TDef.enc_eq] at e2 ⊢
 simp only [qL,qI,qS,qB,Vl,List.getD_cons_zero,List.getD_cons_succ,DC.bb_b,DC.ii_i,DC.ss_s,DC.ll_sl,List.length_map,jd,Int.natCast_nonneg,decide_true,decide_false,if_true,if_false,Bool.false_eq_true,and_self,true_and,ja,j9,Out.bindR_ret,jb,jf,Nat.zero_add,beq_self_eq_true,bne_self_eq_false,je,jc,eq_self,jh,jg,g1,KE,ho1,e2]
theorem j94 (d:TDef) (hd:OkD d) (o:List (List DC)) (ho:o.length ≤ 2) :
  ∃ o':List (List DC),K8 (TDef.enc d ++ [.sl o]) = .ret [.sl o'] ∧ o'.length ≤ 30000:=by
 have hn:=hd.values
 obtain ⟨o1,ho1,l1⟩:=zE ((d.values.length:Int) == 0) o [DC.i 7,DC.s d.name,DC.s []]
 have k1:∃ o2:List (List DC),jy qz (.sl o1 :: .sl [] :: .i 0 :: TDef.enc d) = .ex 0 [.sl o2] ∧ o2.length ≤ 2000:=by
  refine kg (F:=qz) (n:=d.values.length) (I:=fun j v=>∃ (o2:List (List DC)) (ns:List (List UInt8)),v = .sl o2 :: .sl (ns.map S1) :: .i (j:Int) :: TDef.enc d ∧ o2.length ≤ o1.length + 2 * j ∧ ns.length ≤ j)
   (Q:=fun r=>∃ o2:List (List DC),r = .ex 0 [.sl o2] ∧ o2.length ≤ 2000) ?_ ?_ d.values.length 0 _ (by omega) ⟨o1,[],rfl,Nat.le_refl _,Nat.le_refl _⟩
  ·rintro j v hj ⟨o2,ns,rfl,l2,l3⟩
   refine .inl ?_
   have hc:(j:Int) < (d.values.length:Int):=by omega
   have wz:=jz hj (show d.values.length ≤ 9223372036854775807 by omega)
   have hm:(d.values.map TEnumDef.enc).getD j []=TEnumDef.enc d.values[j]:=jx hj
   have hH:=yA ns d.values[j].name (by omega)
   rw [TEnumDef.enc_eq] at hm
   generalize d.values[j]=f at *
   obtain ⟨b1,e1⟩:=Ql f.name
   obtain ⟨p1,q1,s1⟩:=zE b1 o2 [DC.i 6,DC.s d.name,DC.s f.name]
   obtain ⟨p2,q2,s2⟩:=zE (ns.any (· == f.name)) p1 [DC.i 2,DC.s d.name,DC.s f.name]
   have g1:=(QU (o:=o2.length) (b:=0) (by omega)).1
   have g2:=(QU (o:=p1.length) (b:=0) (by omega)).1
   have g3:=(QU (o:=ns.length) (b:=0) (by omega)).1
   exact ⟨_,by simp only [qL,qI,qS,qB,qz,List.getD_cons_zero,List.getD_cons_succ,DC.bb_b,DC.ii_i,DC.ss_s,DC.ll_sl,List.length_map,jd,Int.natCast_nonneg,decide_true,decide_false,if_true,if_false,Bool.false_eq_true,and_self,true_and,ja,j9,Out.bindR_ret,jb,jf,Nat.zero_add,beq_self_eq_true,bne_self_eq_false,je,jc,eq_self,jh,jg,TDef.enc_eq d,hc,hm,e1,g1,KE,q1,hH,g2,q2,g3,wz,List.map_append,js,List.map_nil,S1]; rfl,p2,ns ++ [f.name],by rw [TDef.enc_eq d,List.map_append]; rfl,by omega,by rw [jj]; simp; omega⟩
  ·rintro v ⟨o2,ns,rfl,l2,l3⟩
   exact ⟨_,by simp [qL,qI,qS,qB,qz,TDef.enc_eq d],Out.esc_ex 0 _,o2,rfl,by omega⟩
 obtain ⟨o2,e2,l2⟩:=k1
 have g1:=(QU (o:=o.length) (b:=0) (by omega)).1
 refine ⟨o2,?_,by omega⟩
 rw [j0u]
 rw [TDef.enc_eq] at e2 ⊢
 simp only [qL,qI,qS,qB,VW,List.getD_cons_zero,List.getD_cons_succ,DC.bb_b,DC.ii_i,DC.ss_s,DC.ll_sl,List.length_map,jd,Int.natCast_nonneg,decide_true,decide_false,if_true,if_false,Bool.false_eq_true,and_self,true_and,ja,j9,Out.bindR_ret,jb,jf,Nat.zero_add,beq_self_eq_true,bne_self_eq_false,je,jc,eq_self,jh,jg,g1,KE,ho1,e2]
theorem jbt (ts:List TDef) (D R:List (List DC)) (hl:ts.length ≤ 60) (hk:∀ d ∈ ts,OkD d) (d:TDef) (hd:OkD d) :
  ∃ o':List (List DC),zW (.sl (ts.map TDef.enc) :: .sl D :: .sl R :: TDef.enc d) = .ret [.sl o'] ∧ o'.length ≤ 30000:=by
 obtain ⟨b,eB⟩:=j9b d hd
 obtain ⟨b1,e1⟩:=Ql d.name
 have e2:=X8 d.name
 obtain ⟨p1,q1,s1⟩:=zE b1 [] [DC.i 6,DC.s d.name,DC.s []]
 obtain ⟨p2,q2,s2⟩:=zE (Jf d.name) p1 [DC.i 2,DC.s d.name,DC.s []]
 rw [jf] at s1
 have g0:1 < jT:=by decide
 have g1:=(QU (o:=p1.length) (b:=0) (by omega)).1
 obtain ⟨o2,f2,m2⟩:=j9a ts D R hl hk d hd p2 (by omega)
 obtain ⟨o4,f4,m4⟩:=j89 ts D R hl hk d hd p2 (by omega)
 obtain ⟨o5,f5,m5⟩:=j94 d hd p2 (by omega)
 obtain ⟨p3,q3,s3⟩:=zE ((d.inputs.length:Int) == 0) p2 [DC.i 7,DC.s d.name,DC.s []]
 have g2:=(QU (o:=p2.length) (b:=0) (by omega)).1
 obtain ⟨o6,f6,m6⟩:=jbu ts D R d.name d.inputs p3 hl hk hd.inputs hd.oki (by omega)
 obtain ⟨b7,e7⟩:=j8a ts D R d.name hl hk
 obtain ⟨p7,q7,s7⟩:=zE b7 o6 [DC.i 13,DC.s d.name,DC.s []]
 have g3:=(QU (o:=o6.length) (b:=0) (by omega)).1
 rw [jg] at q1
 rw [Ye]
 rw [TDef.enc_eq] at eB f2 f4 f5 ⊢
 simp only [jh,jg] at f2 f4 f5
 cases b with
 | true=>exact ⟨_,by simp only [qL,qI,qS,qB,kr,List.getD_cons_zero,List.getD_cons_succ,DC.bb_b,DC.ii_i,DC.ss_s,DC.ll_sl,List.length_map,jd,Int.natCast_nonneg,decide_true,decide_false,if_true,if_false,Bool.false_eq_true,and_self,true_and,ja,j9,Out.bindR_ret,jb,jf,Nat.zero_add,beq_self_eq_true,bne_self_eq_false,je,jc,eq_self,jh,jg,eB,g0]; rfl,by simp⟩
 | false =>
  cases k2:(d.kind == 2) with
  | true=>exact ⟨o2,by simp only [qL,qI,qS,qB,kr,List.getD_cons_zero,List.getD_cons_succ,DC.bb_b,DC.ii_i,DC.ss_s,DC.ll_sl,List.length_map,jd,Int.natCast_nonneg,decide_true,decide_false,if_true,if_false,Bool.false_eq_true,and_self,true_and,ja,j9,Out.bindR_ret,jb,jf,Nat.zero_add,beq_self_eq_true,bne_self_eq_false,je,jc,eq_self,jh,jg,eB,g0,e1,KE,q1,e2,g1,q2,k2,f2],m2⟩
  | false=>cases k3:(d.kind == 3) with
   | true=>exact ⟨o2,by simp only [qL,qI,qS,qB,kr,List.getD_cons_zero,List.getD_cons_succ,DC.bb_b,DC.ii_i,DC.ss_s,DC.ll_sl,List.length_map,jd,Int.natCast_nonneg,decide_true,decide_false,if_true,if_false,Bool.false_eq_true,and_self,true_and,ja,j9,Out.bindR_ret,jb,jf,Nat.zero_add,beq_self_eq_true,bne_self_eq_false,je,jc,eq_self,jh,jg,eB,g0,e1,KE,q1,e2,g1,q2,k2,k3,f2],m2⟩
   | false=>cases k4:(d.kind == 4) with
    | true=>exact ⟨o4,by simp only [qL,qI,qS,qB,kr,List.getD_cons_zero,List.getD_cons_succ,DC.bb_b,DC.ii_i,DC.ss_s,DC.ll_sl,List.length_map,jd,Int.natCast_nonneg,decide_true,decide_false,if_true,if_false,Bool.false_eq_true,and_self,true_and,ja,j9,Out.bindR_ret,jb,jf,Nat.zero_add,beq_self_eq_true,bne_self_eq_false,je,jc,eq_self,jh,jg,eB,g0,e1,KE,q1,e2,g1,q2,k2,k3,k4,f4],m4⟩
    | false=>cases k5:(d.kind == 5) with
     | true=>exact ⟨o5,by simp only [qL,qI,qS,qB,kr,List.getD_cons_zero,List.getD_cons_succ,DC.bb_b,DC.ii_i,DC.ss_s,DC.ll_sl,List.length_map,jd,Int.natCast_nonneg,decide_true,decide_false,if_true,if_false,Bool.false_eq_true,and_self,true_and,ja,j9,Out.bindR_ret,jb,jf,Nat.zero_add,beq_self_eq_true,bne_self_eq_false,je,jc,eq_self,jh,jg,eB,g0,e1,KE,q1,e2,g1,q2,k2,k3,k4,k5,f5],m5⟩
     | false=>cases k6:(d.kind == 6) with
      | true=>exact ⟨p7,by simp only [qL,qI,qS,qB,kr,List.getD_cons_zero,List.getD_cons_succ,DC.bb_b,DC.ii_i,DC.ss_s,DC.ll_sl,List.length_map,jd,Int.natCast_nonneg,decide_true,decide_false,if_true,if_false,Bool.false_eq_true,and_self,true_and,ja,j9,Out.bindR_ret,jb,jf,Nat.zero_add,beq_self_eq_true,bne_self_eq_false,je,jc,eq_self,jh,jg,eB,g0,e1,KE,q1,e2,g1,q2,k2,k3,k4,k5,k6,g2,q3,f6,e7,g3,q7],by omega⟩
      | false=>exact ⟨p2,by simp only [qL,qI,qS,qB,kr,List.getD_cons_zero,List.getD_cons_succ,DC.bb_b,DC.ii_i,DC.ss_s,DC.ll_sl,List.length_map,jd,Int.natCast_nonneg,decide_true,decide_false,if_true,if_false,Bool.false_eq_true,and_self,true_and,ja,j9,Out.bindR_ret,jb,jf,Nat.zero_add,beq_self_eq_true,bne_self_eq_false,je,jc,eq_self,jh,jg,eB,g0,e1,KE,q1,e2,g1,q2,k2,k3,k4,k5,k6],by omega⟩
theorem j95 (ts ds:List TDef) (rs:List TRoot) (hl:ts.length ≤ 60) (hk:∀ d ∈ ts,OkD d) (hl2:ds.length ≤ 60) (hk2:∀ d ∈ ds,OkD d) (hr:rs.length ≤ 3) :
  ∃ o':List (List DC),yV [.sl (ts.map TDef.enc),.sl (ds.map TDef.enc),.sl (rs.map TRoot.enc)] = .ret [.sl o']:=by
 have k1:∃ o:List (List DC),jy kX [.sl [],.i 0,.sl (ts.map TDef.enc),.sl (ds.map TDef.enc),.sl (rs.map TRoot.enc)] = .ex 0 [.sl o,.sl (ts.map TDef.enc),.sl (ds.map TDef.enc),.sl (rs.map TRoot.enc)] ∧ o.length ≤ 2000000:=by
  refine kg (F:=kX) (n:=ts.length) (I:=fun j v=>∃ o:List (List DC),v=[.sl o,.i (j:Int),.sl (ts.map TDef.enc),.sl (ds.map TDef.enc),.sl (rs.map TRoot.enc)] ∧ o.length ≤ 30000 * j)
   (Q:=fun r=>∃ o:List (List DC),r = .ex 0 [.sl o,.sl (ts.map TDef.enc),.sl (ds.map TDef.enc),.sl (rs.map TRoot.enc)] ∧ o.length ≤ 2000000) ?_ ?_ ts.length 0 _ (by omega) ⟨[],rfl,Nat.le_refl _⟩
  ·rintro j v hj ⟨o,rfl,h⟩
   have hc:(j:Int) < (ts.length:Int):=by omega
   have wz:=jz hj (show ts.length ≤ 9223372036854775807 by omega)
   have hm:(ts.map TDef.enc).getD j []=TDef.enc ts[j]:=jx hj
   obtain ⟨o2,e,h2⟩:=jbt ts (ds.map TDef.enc) (rs.map TRoot.enc) hl hk ts[j] (hk _ (ju hj))
   have g:o.length + o2.length < jT:=j0i (by omega)
   rw [TDef.enc_eq] at hm e
   generalize ts[j]=d at *
   exact .inl ⟨_,by simp only [qL,qI,qS,qB,kX,List.getD_cons_zero,List.getD_cons_succ,DC.bb_b,DC.ii_i,DC.ss_s,DC.ll_sl,List.length_map,jd,Int.natCast_nonneg,decide_true,decide_false,if_true,if_false,Bool.false_eq_true,and_self,true_and,ja,j9,Out.bindR_ret,jb,jf,Nat.zero_add,beq_self_eq_true,bne_self_eq_false,je,jc,eq_self,jh,jg,hc,hm,e,g,wz],o ++ o2,rfl,by rw [jj]; omega⟩
  ·rintro v ⟨o,rfl,h⟩
   exact ⟨_,by simp [qL,qI,qS,qB,kX],Out.esc_ex 0 _,o,rfl,by omega⟩
 obtain ⟨o1,e1,l1⟩:=k1
 have k2:∃ o:List (List DC),jy kW [.sl o1,.i 0,.sl (ts.map TDef.enc),.sl (ds.map TDef.enc),.sl (rs.map TRoot.enc)] = .ex 2 [.sl o,.sl (ts.map TDef.enc),.sl (ds.map TDef.enc),.sl (rs.map TRoot.enc)] ∧ o.length ≤ 3000000:=by
  refine kg (F:=kW) (n:=ds.length) (I:=fun j v=>∃ o:List (List DC),v=[.sl o,.i (j:Int),.sl (ts.map TDef.enc),.sl (ds.map TDef.enc),.sl (rs.map TRoot.enc)] ∧ o.length ≤ o1.length + 100 * j)
   (Q:=fun r=>∃ o:List (List DC),r = .ex 2 [.sl o,.sl (ts.map TDef.enc),.sl (ds.map TDef.enc),.sl (rs.map TRoot.enc)] ∧ o.length ≤ 3000000) ?_ ?_ ds.length 0 _ (by omega) ⟨o1,rfl,Nat.le_refl _⟩
  ·rintro j v hj ⟨o,rfl,h⟩
   have hc:(j:Int) < (ds.length:Int):=by omega
   have wz:=jz hj (show ds.length ≤ 9223372036854775807 by omega)
   have hm:(ds.map TDef.enc).getD j []=TDef.enc ds[j]:=jx hj
   have hd:=hk2 _ (ju hj)
   rw [TDef.enc_eq] at hm
   generalize ds[j]=d at *
   obtain ⟨b1,f1⟩:=Ql d.name
   obtain ⟨p1,q1,s1⟩:=zE b1 o [DC.i 6,DC.s d.name,DC.s []]
   obtain ⟨o2,e,h2⟩:=j4K ts (ds.map TDef.enc) (rs.map TRoot.enc) (64 :: d.name) d.inputs hl hk hd.inputs hd.oki
   have n1:=j65 hd
   have g1:o.length + 1 < jT:=j0i (by omega)
   have g2:1 + d.name.length < jT:=j0i (by omega)
   have g3:p1.length + o2.length < jT:=j0i (by omega)
   exact .inl ⟨_,by simp only [qL,qI,qS,qB,kW,List.getD_cons_zero,List.getD_cons_succ,DC.bb_b,DC.ii_i,DC.ss_s,DC.ll_sl,List.length_map,jd,Int.natCast_nonneg,decide_true,decide_false,if_true,if_false,Bool.false_eq_true,and_self,true_and,ja,j9,Out.bindR_ret,jb,jf,Nat.zero_add,beq_self_eq_true,bne_self_eq_false,je,jc,eq_self,jh,jg,hc,hm,f1,g1,KE,q1,g2,e,g3,wz],p1 ++ o2,rfl,by rw [jj]; omega⟩
  ·rintro v ⟨o,rfl,h⟩
   exact ⟨_,by simp [qL,qI,qS,qB,kW],Out.esc_ex 2 _,o,rfl,by omega⟩
 obtain ⟨o2,e2,l2⟩:=k2
 have eR:=j5H (ts.map TDef.enc) (ds.map TDef.enc) rs 1 (by omega)
 obtain ⟨o3,q3,l3⟩:=zE (j6Z rs 1 == []) o2 [DC.i 14,DC.s [113,117,101,114,121],DC.s []]
 have k4:∃ o:List (List DC),jy jZ [.sl o3,.i 0,.sl (ts.map TDef.enc),.sl (ds.map TDef.enc),.sl (rs.map TRoot.enc)] = .ex 4 [.sl o]:=by
  refine kg (F:=jZ) (n:=rs.length) (I:=fun j v=>∃ o:List (List DC),v=[.sl o,.i (j:Int),.sl (ts.map TDef.enc),.sl (ds.map TDef.enc),.sl (rs.map TRoot.enc)] ∧ o.length ≤ o3.length + 2 * j)
   (Q:=fun r=>∃ o:List (List DC),r = .ex 4 [.sl o]) ?_ ?_ rs.length 0 _ (by omega) ⟨o3,rfl,Nat.le_refl _⟩
  ·rintro j v hj ⟨o,rfl,h⟩
   have hc:(j:Int) < (rs.length:Int):=by omega
   have wz:=jz hj (show rs.length ≤ 9223372036854775807 by omega)
   have hm:(rs.map TRoot.enc).getD j []=TRoot.enc rs[j]:=jx hj
   rw [TRoot.enc_eq] at hm
   generalize rs[j]=r at *
   have k3:∃ b1 b2:Bool,jy kV [.sl o,.i (j:Int),.b false,.b false,.i 0,.sl (ts.map TDef.enc),.sl (ds.map TDef.enc),.sl (rs.map TRoot.enc),.i r.kind,.s r.type'] = .ex 6 [.sl o,.i (j:Int),.b b1,.b b2,.sl (ts.map TDef.enc),.sl (ds.map TDef.enc),.sl (rs.map TRoot.enc),.i r.kind,.s r.type']:=by
    refine kg (F:=kV) (n:=j) (I:=fun k v=>∃ b1 b2:Bool,v=[.sl o,.i (j:Int),.b b1,.b b2,.i (k:Int),.sl (ts.map TDef.enc),.sl (ds.map TDef.enc),.sl (rs.map TRoot.enc),.i r.kind,.s r.type'])
     (Q:=fun x=>∃ b1 b2:Bool,x = .ex 6 [.sl o,.i (j:Int),.b b1,.b b2,.sl (ts.map TDef.enc),.sl (ds.map TDef.enc),.sl (rs.map TRoot.enc),.i r.kind,.s r.type']) ?_ ?_ j 0 _ (by omega) ⟨false,false,rfl⟩
    ·rintro k v hk ⟨b1,b2,rfl⟩
     have c1:(k:Int) < (j:Int):=by omega
     have c2:(k:Int) < (rs.length:Int):=by omega
     have wk:=jz hk (show j ≤ 9223372036854775807 by omega)
     cases b1 <;> cases b2 <;> exact .inl ⟨_,by simp only [qL,qI,qS,qB,kV,List.getD_cons_zero,List.getD_cons_succ,DC.bb_b,DC.ii_i,DC.ss_s,DC.ll_sl,List.length_map,jd,Int.natCast_nonneg,decide_true,decide_false,if_true,if_false,Bool.false_eq_true,and_self,true_and,ja,j9,Out.bindR_ret,jb,jf,Nat.zero_add,beq_self_eq_true,bne_self_eq_false,je,jc,eq_self,jh,jg,c1,c2,wk]; rfl,_,_,rfl⟩
    ·rintro v ⟨b1,b2,rfl⟩
     exact ⟨_,by simp [qL,qI,qS,qB,kV],Out.esc_ex 6 _,b1,b2,rfl⟩
   obtain ⟨b1,b2,e3⟩:=k3
   obtain ⟨w,eW⟩:=j97 r.kind
   have hK:=zn ts (ds.map TDef.enc) (rs.map TRoot.enc) r.type' (by omega)
   obtain ⟨p1,q1,s1⟩:=zE b1 o [DC.i 2,DC.s w,DC.s r.type']
   have g1:o.length + 1 < jT:=j0i (by omega)
   have g2:p1.length + 1 < jT:=j0i (by omega)
   cases hb:(jI ts r.type' != 2) with
   | true=>exact .inl ⟨_,by simp only [qL,qI,qS,qB,jZ,List.getD_cons_zero,List.getD_cons_succ,DC.bb_b,DC.ii_i,DC.ss_s,DC.ll_sl,List.length_map,jd,Int.natCast_nonneg,decide_true,decide_false,if_true,if_false,Bool.false_eq_true,and_self,true_and,ja,j9,Out.bindR_ret,jb,jf,Nat.zero_add,beq_self_eq_true,bne_self_eq_false,je,jc,eq_self,jh,jg,hc,hm,e3,eW,g1,KE,q1,hK,hb,g2,wz],p1 ++ [[DC.i 14,DC.s w,DC.s r.type']],rfl,by simp only [jj,jb,jf]; omega⟩
   | false =>
    cases b2 with
    | true=>exact .inl ⟨_,by simp only [qL,qI,qS,qB,jZ,List.getD_cons_zero,List.getD_cons_succ,DC.bb_b,DC.ii_i,DC.ss_s,DC.ll_sl,List.length_map,jd,Int.natCast_nonneg,decide_true,decide_false,if_true,if_false,Bool.false_eq_true,and_self,true_and,ja,j9,Out.bindR_ret,jb,jf,Nat.zero_add,beq_self_eq_true,bne_self_eq_false,je,jc,eq_self,jh,jg,hc,hm,e3,eW,g1,KE,q1,hK,hb,g2,wz],p1 ++ [[DC.i 14,DC.s w,DC.s r.type']],rfl,by simp only [jj,jb,jf]; omega⟩
    | false=>exact .inl ⟨_,by simp only [qL,qI,qS,qB,jZ,List.getD_cons_zero,List.getD_cons_succ,DC.bb_b,DC.ii_i,DC.ss_s,DC.ll_sl,List.length_map,jd,Int.natCast_nonneg,decide_true,decide_false,if_true,if_false,Bool.false_eq_true,and_self,true_and,ja,j9,Out.bindR_ret,jb,jf,Nat.zero_add,beq_self_eq_true,bne_self_eq_false,je,jc,eq_self,jh,jg,hc,hm,e3,eW,g1,KE,q1,hK,hb,g2,wz],p1,rfl,by omega⟩
  ·rintro v ⟨o,rfl,h⟩
   exact ⟨_,by simp [qL,qI,qS,qB,jZ],Out.esc_ex 4 _,o,rfl⟩
 obtain ⟨o4,e4⟩:=k4
 have c1:¬ (ts.length:Int) > 60:=by omega
 have c2:¬ (ds.length:Int) > 60:=by omega
 have c3:¬ (rs.length:Int) > 60:=by omega
 have g1:o2.length + 1 < jT:=j0i (by omega)
 refine ⟨o4,?_⟩
 rw [Xo]
 simp only [qL,qI,qS,qB,K4,List.getD_cons_zero,List.getD_cons_succ,DC.bb_b,DC.ii_i,DC.ss_s,DC.ll_sl,List.length_map,jd,Int.natCast_nonneg,decide_true,decide_false,if_true,if_false,Bool.false_eq_true,and_self,true_and,ja,j9,Out.bindR_ret,jb,jf,Nat.zero_add,beq_self_eq_true,bne_self_eq_false,je,jc,eq_self,jh,jg,c1,c2,c3,e1,e2,eR,g1,KE,q3,e4]
structure Good (ts:List TDef):Prop where
 len:ts.length ≤ 60
 ok:∀ d ∈ ts,OkD d
 typ:∀ d ∈ ts,grp d.kind=0
 ne:ts ≠ []
 nd:ts.Pairwise fun x y=>x.name ≠ y.name
theorem jbE {d:TDef} (h:OkD d):X4 (TDef.enc d) ≤ 1048576:=by
 have:=h.wt
 omega
theorem j7Q {l ts:List TDef} (hl:l.length ≤ 60) (hk:∀ d ∈ l,OkD d) (ha:l.Pairwise apart) (ht:j8D l=true) (hp:ts.Perm (l.filter fun d=>grp d.kind == 0)):Good ts:=by
 have hm:∀ d ∈ ts,d ∈ l ∧ grp d.kind=0:=fun d hd=>by
  have:=List.mem_filter.1 (hp.mem_iff.1 hd)
  exact ⟨this.1,by simpa using this.2⟩
 have hlen:=hp.length_eq
 have hfl:=List.length_filter_le (fun d:TDef=>grp d.kind == 0) l
 refine ⟨by omega,fun d hd=>hk d (hm d hd).1,fun d hd=>(hm d hd).2,?_,?_⟩
 ·rintro rfl
  obtain ⟨d,hd,h0⟩:=List.any_eq_true.1 ht
  have:d ∈ l.filter fun d=>grp d.kind == 0:=List.mem_filter.2 ⟨hd,h0⟩
  exact absurd (hp.mem_iff.2 this) (by simp)
 ·have h1:(l.filter fun d=>grp d.kind == 0).Pairwise fun x y=>x.name ≠ y.name:=by
   have h2:=ha.filter fun d=>grp d.kind == 0
   refine List.Pairwise.imp_of_mem (fun {x y} hx hy h he=>?_) h2
   have e1:=(List.mem_filter.1 hx).2
   have e2:=(List.mem_filter.1 hy).2
   simp only [beq_iff_eq] at e1 e2
   exact h ⟨by rw [e1,e2],he⟩
  exact hp.symm.pairwise h1 fun h=>h.symm
theorem jae (ds:List TDef) (hl:ds.length ≤ 60) (hk:∀ d ∈ ds,OkD d):Vz [.sl ((ds.map itD).map TItem.enc)] = .ret [.sl (ds.map TDef.enc),.sl []]:=by
 rw [j3h]
 have key:jy Jj [.sl [],.sl [],.i 0,.sl ((ds.map itD).map TItem.enc)] = .ex 0 [.sl (ds.map TDef.enc),.sl []]:=by
  refine pE (st:=fun i=>[.sl ((ds.take i).map TDef.enc),.sl [],.i (i:Int),.sl ((ds.map itD).map TItem.enc)]) ds.length 0 (fun i _ hi=>?_) (jK ?_)
  ·rw [Nat.zero_add] at hi
   have hc:(i:Int) < (ds.length:Int):=by omega
   have hm:((ds.map itD).map TItem.enc).getD i []=TItem.enc (itD ds[i]):=by
    rw [List.map_map]
    exact jx hi
   have ws:=jz hi (show ds.length ≤ 9223372036854775807 by omega)
   have hcp:=KX ds[i] (jbE (hk _ (ju hi)))
   have f1:=j0j (n:=min i ds.length) (by omega)
   rw [List.take_succ_eq_append_getElem hi]
   rw [j58] at hm
   rw [TDef.enc_eq] at hcp
   generalize ds[i]=d at *
   simp only [qL,qI,qS,qB,Jj,List.getD_cons_zero,List.getD_cons_succ,DC.bb_b,DC.ii_i,DC.ss_s,DC.ll_sl,List.length_map,jd,Int.natCast_nonneg,decide_true,decide_false,if_true,if_false,Bool.false_eq_true,and_self,true_and,ja,j9,Out.bindR_ret,jb,jf,Nat.zero_add,beq_self_eq_true,bne_self_eq_false,je,jc,eq_self,jh,jg,hm,hc,hcp,ws,f1,List.length_take,TDef.enc_eq d,List.map_append,js,List.map_nil]
  ·rw [Nat.zero_add,List.take_length]
   simp [qL,qI,qS,qB,Jj]
 simp only [qL,qI,qS,qB,Zt,List.getD_cons_zero,List.getD_cons_succ,DC.bb_b,DC.ii_i,DC.ss_s,DC.ll_sl,List.length_map,jd,Int.natCast_nonneg,decide_true,decide_false,if_true,if_false,Bool.false_eq_true,and_self,true_and,ja,j9,Out.bindR_ret,jb,jf,Nat.zero_add,beq_self_eq_true,bne_self_eq_false,je,jc,eq_self,jh,jg,key]
theorem jb7 (ds:List TDef) (hl:ds.length ≤ 60) (hk:∀ d ∈ ds,OkD d) (ht:j8D ds=true) :
  ∃ T D R bad:List (List DC),Xd [.sl ((ds.map itD).map TItem.enc)] = .ret [.sl T,.sl D,.sl R,.sl bad] ∧ (bad.length=0 → ∃ ts,T=ts.map TDef.enc ∧ Good ts):=by
 have hw:∀ d ∈ ds,X4 (TDef.enc d) ≤ 1048576:=fun d hd=>jbE (hk d hd)
 have h8:∀ d ∈ ds,d.ext=false ∧ d.kind ≠ 8:=fun d hd=>⟨(hk d hd).ext,by have:=(hk d hd).k7; omega⟩
 obtain ⟨out,bad,eJ,lb,hj⟩:=jbV ds hl hw h8
 have eD:=jae ds hl hk
 have g1:bad.length < jT:=by have:=j0i (n:=bad.length) (m:=0) (by omega); omega
 rw [j3N]
 by_cases hb:bad=[]
 ·obtain ⟨rfl,ha⟩:=hj hb
  subst hb
  obtain ⟨ts,dr,rs,eS,pt,pd,lr⟩:=j3o out hl hw fun d hd=>(h8 d hd).2
  have hg:=j7Q hl hk ha ht pt
  have ld:dr.length ≤ 60:=by
   have:=pd.length_eq
   have:=List.length_filter_le (fun d:TDef=>grp d.kind == 1) out
   omega
  obtain ⟨pr,eP⟩:=j95 ts dr rs hg.len hg.ok ld (fun d hd=>hk d (List.mem_filter.1 (pd.mem_iff.1 hd)).1) lr
  have g0:0 < jT:=by decide
  have z:¬ (((0:Nat):Int) > 0):=by decide
  by_cases hp:(pr.length:Int) > 0
  ·exact ⟨[],[],[],pr,by simp only [qL,qI,qS,qB,Qj,List.getD_cons_zero,List.getD_cons_succ,DC.bb_b,DC.ii_i,DC.ss_s,DC.ll_sl,List.length_map,jd,Int.natCast_nonneg,decide_true,decide_false,if_true,if_false,Bool.false_eq_true,and_self,true_and,ja,j9,Out.bindR_ret,jb,jf,Nat.zero_add,beq_self_eq_true,bne_self_eq_false,je,jc,eq_self,jh,jg,eD,eJ,g0,z,eS,eP,hp],fun h=>by omega⟩
  ·exact ⟨_,_,_,pr,by simp only [qL,qI,qS,qB,Qj,List.getD_cons_zero,List.getD_cons_succ,DC.bb_b,DC.ii_i,DC.ss_s,DC.ll_sl,List.length_map,jd,Int.natCast_nonneg,decide_true,decide_false,if_true,if_false,Bool.false_eq_true,and_self,true_and,ja,j9,Out.bindR_ret,jb,jf,Nat.zero_add,beq_self_eq_true,bne_self_eq_false,je,jc,eq_self,jh,jg,eD,eJ,g0,z,eS,eP,hp]; rfl,fun _=>⟨ts,rfl,hg⟩⟩
 ·have hb':(bad.length:Int) > 0:=by
   have:=List.length_pos_iff.2 hb
   omega
  exact ⟨[],[],[],bad,by simp only [qL,qI,qS,qB,Qj,List.getD_cons_zero,List.getD_cons_succ,DC.bb_b,DC.ii_i,DC.ss_s,DC.ll_sl,List.length_map,jd,Int.natCast_nonneg,decide_true,decide_false,if_true,if_false,Bool.false_eq_true,and_self,true_and,ja,j9,Out.bindR_ret,jb,jf,Nat.zero_add,beq_self_eq_true,bne_self_eq_false,je,jc,eq_self,jh,jg,eD,eJ,g1,hb'],fun h=>by omega⟩
theorem j2y {α β:Type} {f g:α → β} {l:List α} (h:l.map f=l.map g) {x:α} (hx:x ∈ l):f x=g x:=List.map_inj_left.1 h x hx
theorem j8N:Qv [] = .ret [.sl (Z1.map TDef.enc)]:=by
 have hP:yk [] = .ret [.sl (Xh.map S1)]:=by
  rw [Vb]
  rfl
 have hok:=j9R
 simp only [jk,List.all_eq_true,decide_eq_true_eq] at hok
 have hL:Xh.length=12:=rfl
 have key:jy zQ [.sl (Xh.map S1),.sl [],.i 0] = .ex 0 [.sl (Z1.map TDef.enc)]:=by
  refine pE (st:=fun i=>[.sl (Xh.map S1),.sl ((Z1.take i).map TDef.enc),.i (i:Int)]) Xh.length 0 (fun i _ hi=>?_) (jK ?_)
  ·rw [Nat.zero_add] at hi
   have hil:i < Z1.length:=by unfold Z1; rw [List.length_map]; exact hi
   have hc:(i:Int) < (Xh.length:Int):=by omega
   have hm:(Xh.map S1).getD i []=[.s Xh[i]]:=jx hi
   have ws:=jz hi (show Xh.length ≤ 9223372036854775807 by omega)
   have f1:=j0j (n:=min i Z1.length) (by omega)
   have hx:=ju hi
   have e1:tz Xh[i] 0 [] []=some (X5 Xh[i]).reverse:=j2y jbH hx
   have e2:pN 1 (X5 Xh[i])=some ([itl Xh[i]],[]):=j2y jbI hx
   have e3:Z1[i]=itl Xh[i]:=List.getElem_map _
   have eP:=j5X (s:=Xh[i]) (n:=1) (ds:=[itl Xh[i]]) (by have:=(hok.2 _ hx).1; omega) (hok.2 _ hx).2 e1 (by omega) (by rw [List.reverse_reverse]; exact e2) (by simp)
   simp only [js,List.map_nil,j58] at eP
   rw [List.take_succ_eq_append_getElem hil,e3]
   generalize itl Xh[i]=d at *
   have z:(0:Int) < ((0 + 1:Nat):Int):=by decide
   have z2:(0:Int) < ((1:Nat):Int):=by decide
   simp only [qL,qI,qS,qB,zQ,List.getD_cons_zero,List.getD_cons_succ,DC.bb_b,DC.ii_i,DC.ss_s,DC.ll_sl,List.length_map,jd,Int.natCast_nonneg,decide_true,decide_false,if_true,if_false,Bool.false_eq_true,and_self,true_and,ja,j9,Out.bindR_ret,jb,jf,Nat.zero_add,beq_self_eq_true,bne_self_eq_false,je,jc,eq_self,jh,jg,hm,hc,eP,ws,z,z2,Int.le_refl,Int.toNat_zero,f1,List.length_take,TDef.enc_eq d,List.map_append,js,List.map_nil]
  ·rw [Nat.zero_add,List.take_of_length_le (show Z1.length ≤ Xh.length by unfold Z1; rw [List.length_map]; exact Nat.le_refl _)]
   simp [qL,qI,qS,qB,zQ]
 rw [j26]
 simp only [qL,qI,qS,qB,Yv,List.getD_cons_zero,List.getD_cons_succ,DC.bb_b,DC.ii_i,DC.ss_s,DC.ll_sl,List.length_map,jd,Int.natCast_nonneg,decide_true,decide_false,if_true,if_false,Bool.false_eq_true,and_self,true_and,ja,j9,Out.bindR_ret,jb,jf,Nat.zero_add,beq_self_eq_true,bne_self_eq_false,je,jc,eq_self,jh,jg,hP,key]
theorem jdz:∃ (ts:List TDef) (D R:List (List DC)),Kb [] = .ret [.sl (ts.map TDef.enc),.sl D,.sl R] ∧ Good ts:=by
 have hok:=j9R
 simp only [jk] at hok
 obtain ⟨⟨⟨h1,h2⟩,h3⟩,_⟩:=hok
 have hk:∀ d ∈ Z1,OkD d:=fun d hd=>j7V (List.all_eq_true.1 h1 d hd)
 have hl:Z1.length ≤ 60:=by unfold Z1; rw [List.length_map]; decide
 obtain ⟨ts,dr,rs,eS,pt,pd,lr⟩:=j3o Z1 hl (fun d hd=>jbE (hk d hd)) fun d hd=>by have:=(hk d hd).k7; omega
 refine ⟨ts,dr.map TDef.enc,rs.map TRoot.enc,?_,j7Q hl hk (j4C h2) h3 pt⟩
 rw [j0x]
 simp only [qL,qI,qS,qB,VZ,List.getD_cons_zero,List.getD_cons_succ,DC.bb_b,DC.ii_i,DC.ss_s,DC.ll_sl,List.length_map,jd,Int.natCast_nonneg,decide_true,decide_false,if_true,if_false,Bool.false_eq_true,and_self,true_and,ja,j9,Out.bindR_ret,jb,jf,Nat.zero_add,beq_self_eq_true,bne_self_eq_false,je,jc,eq_self,jh,jg,j8N,eS]
theorem jbr (r:List UInt8) (out:List Tk):∀ j,j < 12 → (vs j).map (fun v=>tz (v ++ r) 0 [] out)=(vs j).map (fun v=>tz r 0 [] ((X5 v).reverse ++ out))
 | 0,_=>je1 r out
 | 1,_=>je0 r out
 | 2,_=>jdZ r out
 | 3,_=>jdY r out
 | 4,_=>jdX r out
 | 5,_=>jdW r out
 | 6,_=>jdV r out
 | 7,_=>jdU r out
 | 8,_=>jdT r out
 | 9,_=>jdS r out
 | 10,_=>jc5 r out
 | 11,_=>jc4 r out
 | n + 12,h=>by omega
theorem jbK (r:List Tk):∀ j,j < 12 → ((vs j).filter (fun v=>!two v)).map (fun v=>pN (itm j v).length (X5 v ++ (hdl.getD j [] ++ r)))=((vs j).filter (fun v=>!two v)).map (fun v=>some (itm j v,hdl.getD j [] ++ r))
 | 0,_=>jec r
 | 1,_=>jeb r
 | 2,_=>jea r
 | 3,_=>je9 r
 | 4,_=>je8 r
 | 5,_=>je7 r
 | 6,_=>je6 r
 | 7,_=>je5 r
 | 8,_=>je4 r
 | 9,_=>je3 r
 | 10,_=>jcf r
 | 11,_=>jce r
 | n + 12,h=>by omega
theorem ja8 :∀ j,j < 12 → (vs j).all (chk j)=true
 | 0,_=>jfv
 | 1,_=>jfu
 | 2,_=>jft
 | 3,_=>jfs
 | 4,_=>jfr
 | 5,_=>jfq
 | 6,_=>jfp
 | 7,_=>jfo
 | 8,_=>jfn
 | 9,_=>jfm
 | 10,_=>jdw
 | 11,_=>jdv
 | n + 12,h=>by omega
theorem jan {T:List (List UInt8 × List UInt8)} {n:Nat} {p:List UInt8} {ps ws:List (List UInt8)} (h:Tx T n (p :: ps) ws):∃ v us,ws=v :: us ∧ v ∈ vars T p n ∧ Tx T n ps us:=by
 cases h with
 | cons _ v _ us hv h=>exact ⟨v,us,rfl,hv,h⟩
theorem jam {T:List (List UInt8 × List UInt8)} {n:Nat} {ws:List (List UInt8)} (h:Tx T n [] ws):ws=[]:=by
 cases h
 rfl
theorem jaL:pcs.length=12:=rfl
theorem j5W {j:Nat} (h:j < 12):pcs.drop j=pc j :: pcs.drop (j + 1):=by
 have h':j < pcs.length:=by rw [jaL]; exact h
 rw [List.drop_eq_getElem_cons h',pc,List.getD_eq_getElem?_getD,List.getElem?_eq_getElem h']
 rfl
theorem j9C:∀ (n m:Nat) (u u1 u2:List Tk) (a b:List TDef),pN n u=some (a,u1) → pN m u1=some (b,u2) → pN (n + m) u=some (a ++ b,u2)
 | 0,m,u,u1,u2,a,b,h1,h2=>by
  simp only [pN,j8,ji] at h1
  obtain ⟨rfl,rfl⟩:=h1
  rw [Nat.zero_add]
  exact h2
 | n + 1,m,u,u1,u2,a,b,h1,h2=>by
  rw [Nat.add_right_comm]
  rw [pN] at h1 ⊢
  cases hp:j2T u with
  | none=>rw [hp] at h1; cases h1
  | some x =>
   rw [hp] at h1
   simp only [Option.bind_some] at h1 ⊢
   cases hq:pN n x.2 with
   | none=>rw [hq] at h1; cases h1
   | some y =>
    rw [hq] at h1
    simp only [Option.map_some,j8,ji] at h1
    obtain ⟨rfl,e⟩:=h1
    rw [j9C n m x.2 u1 u2 y.1 b (by rw [hq,← e]) h2]
    rfl
def Bad (u:List Tk):Prop:=∃ a b r,u=a :: b :: r ∧ a.1=5 ∧ a.2 ≠ [] ∧ b.1=5
theorem j0Y:∀ (k j:Nat) (ws:List (List UInt8)),j + k=12 → Tx trn 3 (pcs.drop j) ws → (∀ out,tz ws.flatten 0 [] out=some ((ws.flatMap X5).reverse ++ out)) ∧ ws.flatten.length ≤ (mx.drop j).sum ∧ ∀ c ∈ ws.flatten,c.toNat < 128
 | 0,j,ws,hj,h=>by
  have:j=12:=by omega
  subst this
  rw [show pcs.drop 12=[] from rfl] at h
  rw [jam h]
  exact ⟨fun out=>rfl,Nat.le_refl _,fun c hc=>by cases hc⟩
 | k + 1,j,ws,hj,h=>by
  have hj2:j < 12:=by omega
  rw [j5W hj2] at h
  obtain ⟨v,us,rfl,hv,h'⟩:=jan h
  obtain ⟨i1,i2,i3⟩:=j0Y k (j + 1) us (by omega) h'
  have hc:=List.all_eq_true.1 (ja8 j hj2) v hv
  simp only [chk,jk,decide_eq_true_eq,List.all_eq_true] at hc
  obtain ⟨⟨⟨c1,c2⟩,_⟩,_⟩:=hc
  refine ⟨fun out=>?_,?_,fun c hc=>?_⟩
  ·rw [List.flatten_cons,j2y (jbr us.flatten out j hj2) hv,i1,jn,List.reverse_append,jD]
  ·have hm:j < mx.length:=hj2
   have hg:mx.getD j 0=mx[j]:=by rw [List.getD_eq_getElem?_getD,List.getElem?_eq_getElem hm]; rfl
   rw [List.drop_eq_getElem_cons hm,List.sum_cons,List.flatten_cons,jj]
   omega
  ·rw [List.flatten_cons] at hc
   rcases List.mem_append.1 hc with hc | hc
   ·exact c2 c hc
   ·exact i3 c hc
theorem j32:∀ (k j:Nat) (ws:List (List UInt8)),j + k=12 → Tx trn 3 (pcs.drop j) ws → (hdl.getD (j - 1) []).isPrefixOf (ws.flatMap X5)=true ∧
  ∃ n ds rest,n ≤ 4 * k ∧ pN n (ws.flatMap X5)=some (ds,rest) ∧ (∀ d ∈ ds,OkD d) ∧ ds.length ≤ 4 * k ∧ (rest=[] ∨ Bad rest) ∧ (j=0 → j8D ds=true)
 | 0,j,ws,hj,h=>by
  have:j=12:=by omega
  subst this
  rw [show pcs.drop 12=[] from rfl] at h
  rw [jam h]
  exact ⟨rfl,0,[],[],Nat.le_refl _,rfl,fun d hd=>(by cases hd),Nat.le_refl _,.inl rfl,fun h=>by cases h⟩
 | k + 1,j,ws,hj,h=>by
  have hj2:j < 12:=by omega
  rw [j5W hj2] at h
  obtain ⟨v,us,rfl,hv,h'⟩:=jan h
  obtain ⟨i1,n,ds,rest,i2,i3,i4,i5,i6,_⟩:=j32 k (j + 1) us (by omega) h'
  have hc:=List.all_eq_true.1 (ja8 j hj2) v hv
  unfold chk at hc
  rw [jk,jk] at hc
  obtain ⟨⟨_,c3⟩,c4⟩:=hc
  rw [jn]
  refine ⟨List.isPrefixOf_iff_prefix.2 ((List.isPrefixOf_iff_prefix.1 c3).trans (List.prefix_append _ _)),?_⟩
  cases ht:two v with
  | true =>
   rw [ht,if_pos rfl,jk] at c4
   have h7:j=7:=by simpa using c4.1
   have c5:=c4.2
   unfold two at ht
   match hx:X5 v with
   | []=>rw [hx] at ht; cases ht
   | [a]=>rw [hx] at ht; cases ht
   | a :: b :: r =>
    rw [hx] at ht c5
    simp only [jk,beq_iff_eq] at ht
    refine ⟨0,[],_,Nat.zero_le _,rfl,fun d hd=>(by cases hd),Nat.zero_le _,.inr ⟨a,b,r ++ us.flatMap X5,rfl,ht.1,fun h0=>?_,ht.2⟩,fun h0=>by omega⟩
    have c5:(!a.2.isEmpty)=true:=c5
    rw [h0] at c5
    cases c5
  | false =>
   rw [ht,if_neg (by decide),jk,jk,decide_eq_true_eq] at c4
   obtain ⟨⟨d1,d2⟩,d3⟩:=c4
   rw [Nat.add_sub_cancel] at i1
   obtain ⟨r,hr⟩:=List.isPrefixOf_iff_prefix.1 i1
   have e1:=j2y (jbK r j hj2) (List.mem_filter.2 ⟨hv,by rw [ht]; rfl⟩)
   rw [hr] at e1
   refine ⟨_,_,rest,?_,j9C _ _ _ _ _ _ _ e1 i3,fun d hd=>?_,?_,i6,fun h0=>?_⟩
   ·omega
   ·rcases List.mem_append.1 hd with hd | hd
    ·exact j7V (List.all_eq_true.1 d1 d hd)
    ·exact i4 d hd
   ·rw [jj]
    omega
   ·subst h0
    unfold j8D at d3 ⊢
    rw [List.any_append]
    simp only [bne_self_eq_false,Bool.false_or] at d3
    rw [d3,Bool.true_or]
theorem jbU {ws:List (List UInt8)} (h:Tx trn 3 pcs ws) :
  ∃ (T D R bad:List (List DC)) (c z:Int),Kf [.s ws.flatten] = .ret [.sl T,.sl D,.sl R,.sl bad,.i c,.i z] ∧ (c=0 → bad.length=0 → ∃ ts,T=ts.map TDef.enc ∧ Good ts):=by
 obtain ⟨k1,k2,k3⟩:=j0Y 12 0 ws rfl h
 obtain ⟨_,n,ds,rest,i2,i3,i4,i5,i6,i7⟩:=j32 12 0 ws rfl h
 have hl:ws.flatten.length ≤ 2000:=by
  have:(mx.drop 0).sum=1081:=rfl
  omega
 have ht:=i7 rfl
 have e0:=k1 []
 rw [jv] at e0
 rw [j0D]
 rcases i6 with rfl | ⟨a,b,r,rfl,h1,h2,h3⟩
 ·have hne:ds ≠ []:=by
   rintro rfl
   cases ht
  have eP:=j5X hl k3 e0 (n:=n) (ds:=ds) (by omega) (by rw [List.reverse_reverse]; exact i3) hne
  obtain ⟨T,D,R,bad,eB,hB⟩:=jb7 ds (by omega) i4 ht
  exact ⟨T,D,R,bad,0,0,by simp only [qL,qI,qS,qB,Kq,List.getD_cons_zero,List.getD_cons_succ,DC.bb_b,DC.ii_i,DC.ss_s,DC.ll_sl,List.length_map,jd,Int.natCast_nonneg,decide_true,decide_false,if_true,if_false,Bool.false_eq_true,and_self,true_and,ja,j9,Out.bindR_ret,jb,jf,Nat.zero_add,beq_self_eq_true,bne_self_eq_false,je,jc,eq_self,jh,jg,eP,eB],fun _=>hB⟩
 ·obtain ⟨z,eP⟩:=j8p hl k3 e0 (n:=n) (ds:=ds) (by omega) (by rw [List.reverse_reverse]; exact i3) h1 h2 h3
  exact ⟨[],[],[],[],7,z,by simp only [qL,qI,qS,qB,Kq,List.getD_cons_zero,List.getD_cons_succ,DC.bb_b,DC.ii_i,DC.ss_s,DC.ll_sl,List.length_map,jd,Int.natCast_nonneg,decide_true,decide_false,if_true,if_false,Bool.false_eq_true,and_self,true_and,ja,j9,Out.bindR_ret,jb,jf,Nat.zero_add,beq_self_eq_true,bne_self_eq_false,je,jc,eq_self,jh,jg,eP,Int.reduceBNe],fun h=>by cases h⟩
def Cu (b:List (List DC)) (i:Int):Prop:=b.length ≤ 1048576 ∧ 0 ≤ i ∧ i ≤ (b.length:Int)
theorem j5m (a:Int):0 ≤ IntKind.i64.wrap (((BitVec.ofInt IntKind.i64.bits a &&& BitVec.ofInt IntKind.i64.bits (255:Int)).toNat:Nat):Int) ∧ IntKind.i64.wrap (((BitVec.ofInt IntKind.i64.bits a &&& BitVec.ofInt IntKind.i64.bits (255:Int)).toNat:Nat):Int) ≤ 255:=by
 have h:(BitVec.ofInt IntKind.i64.bits a &&& BitVec.ofInt IntKind.i64.bits (255:Int)).toNat ≤ 255:=by
  rw [BitVec.toNat_and]
  exact Nat.le_trans Nat.and_le_right (by decide)
 generalize (BitVec.ofInt IntKind.i64.bits a &&& BitVec.ofInt IntKind.i64.bits (255:Int)).toNat=n at h ⊢
 rw [IntKind.wrap_i64]
 omega
theorem YW {b:List (List DC)} {i:Int} (h:Int) (c:Cu b i):∃ x i' h',pS [.sl b,.i i,.i h] = .ret [.i x,.sl b,.i i',.i h'] ∧ 0 ≤ x ∧ x ≤ 255 ∧ Cu b i':=by
 obtain ⟨c1,c2,c3⟩:=c
 rw [j2h]
 simp only [qL,qI,qS,qB,YE,List.getD_cons_zero,List.getD_cons_succ,DC.ii_i,DC.ll_sl]
 rw [if_neg (by decide),if_neg (by decide)]
 by_cases hi:i < (b.length:Int)
 ·have hw:IntKind.i64.wrap (i + 1)=i + 1:=by rw [IntKind.wrap_i64]; omega
  rw [if_pos (by simpa using hi),if_pos ⟨trivial,c2,hi⟩]
  simp only [ja,List.getD_cons_zero,List.getD_cons_succ,DC.ii_i,DC.ll_sl,hw]
  exact ⟨_,_,_,rfl,(j5m _).1,(j5m _).2,c1,by omega,by omega⟩
 ·rw [if_neg (by simpa using hi)]
  simp only [ja,List.getD_cons_zero,List.getD_cons_succ,DC.ii_i,DC.ll_sl]
  exact ⟨_,_,_,rfl,(j5m _).1,(j5m _).2,c1,c2,c3⟩
theorem j3l {b:List (List DC)} {i:Int} (h n:Int) (hn:0 < n) (hn2:n ≤ 256) (c:Cu b i):∃ x i' h',qK [.i n,.sl b,.i i,.i h] = .ret [.i x,.sl b,.i i',.i h'] ∧ 0 ≤ x ∧ x < n ∧ Cu b i':=by
 obtain ⟨x,i',h',e,x1,x2,c'⟩:=YW h c
 have h1:¬ n ≤ 0:=by omega
 have h2:¬ n=0:=by omega
 rw [VP]
 simp only [qL,qI,qS,qB,Q2,List.getD_cons_zero,List.getD_cons_succ,DC.ii_i,DC.ll_sl,h1,decide_false,Bool.false_eq_true,if_false,hn2,decide_true,if_true,e,Out.bindR_ret,h2]
 exact ⟨_,_,_,rfl,Int.tmod_nonneg _ x1,Int.tmod_lt_of_pos _ hn,c'⟩
theorem ja3 (b:List (List DC)) (hb:b.length ≤ 1048576):∃ h',kv [.sl b] = .ret [.sl b,.i 0,.i h']:=by
 have key:∃ h',jy qO [.sl b,.i (IntKind.i64.wrap ((94701:Int) + (b.length:Int))),.i 0] = .ex 0 [.sl b,.i h']:=by
  refine kg (F:=qO) (n:=b.length) (I:=fun j v=>∃ h:Int,v=[.sl b,.i h,.i (j:Int)]) (Q:=fun o=>∃ h':Int,o = .ex 0 [.sl b,.i h']) ?_ ?_ b.length 0 _ (by omega) ⟨_,rfl⟩
  ·rintro j v hj ⟨h,rfl⟩
   have hc:(j:Int) < (b.length:Int):=by omega
   have wz:=jz hj (show b.length ≤ 9223372036854775807 by omega)
   by_cases h4:(j:Int) < 4000
   ·exact .inl ⟨_,by simp only [qL,qI,qS,qB,qO,List.getD_cons_zero,List.getD_cons_succ,DC.bb_b,DC.ii_i,DC.ss_s,DC.ll_sl,List.length_map,jd,Int.natCast_nonneg,decide_true,decide_false,if_true,if_false,Bool.false_eq_true,and_self,true_and,ja,j9,Out.bindR_ret,jb,jf,Nat.zero_add,beq_self_eq_true,bne_self_eq_false,je,jc,eq_self,jh,jg,hc,h4,wz]; rfl,_,rfl⟩
   ·exact .inr ⟨_,by simp only [qL,qI,qS,qB,qO,List.getD_cons_zero,List.getD_cons_succ,DC.bb_b,DC.ii_i,DC.ss_s,DC.ll_sl,List.length_map,jd,Int.natCast_nonneg,decide_true,decide_false,if_true,if_false,Bool.false_eq_true,and_self,true_and,ja,j9,Out.bindR_ret,jb,jf,Nat.zero_add,beq_self_eq_true,bne_self_eq_false,je,jc,eq_self,jh,jg,hc,h4],Out.esc_ex 0 _,h,rfl⟩
  ·rintro v ⟨h,rfl⟩
   exact ⟨_,by simp [qL,qI,qS,qB,qO,ja],Out.esc_ex 0 _,h,rfl⟩
 obtain ⟨h',e⟩:=key
 refine ⟨h',?_⟩
 rw [j23]
 simp only [qL,qI,qS,qB,Zo,List.getD_cons_zero,List.getD_cons_succ,DC.bb_b,DC.ii_i,DC.ss_s,DC.ll_sl,List.length_map,jd,Int.natCast_nonneg,decide_true,decide_false,if_true,if_false,Bool.false_eq_true,and_self,true_and,ja,j9,Out.bindR_ret,jb,jf,Nat.zero_add,beq_self_eq_true,bne_self_eq_false,je,jc,eq_self,jh,jg,e]
theorem jbQ {b:List (List DC)} {i:Int} (h:Int) (c:Cu b i):∃ x i' h',qK [.i 10000,.sl b,.i i,.i h] = .ret [.i x,.sl b,.i i',.i h'] ∧ 0 ≤ x ∧ Cu b i':=by
 obtain ⟨x1,i1,h1,e1,a1,b1,c1⟩:=YW h c
 obtain ⟨x2,i2,h2,e2,a2,b2,c2⟩:=YW h1 c1
 obtain ⟨x3,i3,h3,e3,a3,b3,c3⟩:=YW h2 c2
 obtain ⟨x4,i4,h4,e4,a4,b4,c4⟩:=YW h3 c3
 have n1:¬ (10000:Int) ≤ 0:=by decide
 have n2:¬ (10000:Int) ≤ 256:=by decide
 have n3:¬ (10000:Int)=0:=by decide
 rw [VP]
 simp only [qL,qI,qS,qB,Q2,List.getD_cons_zero,List.getD_cons_succ,DC.bb_b,DC.ii_i,DC.ss_s,DC.ll_sl,List.length_map,jd,Int.natCast_nonneg,decide_true,decide_false,if_true,if_false,Bool.false_eq_true,and_self,true_and,ja,j9,Out.bindR_ret,jb,jf,Nat.zero_add,beq_self_eq_true,bne_self_eq_false,je,jc,eq_self,jh,jg,n1,n2,n3,e1,e2,e3,e4]
 refine ⟨_,_,_,rfl,Int.tmod_nonneg _ ?_,c4⟩
 simp only [IntKind.wrap_i64]
 omega
theorem j8G (b:List (List DC)) (hb:b.length ≤ 1048576):∃ ps:List Int,JP [.sl b] = .ret [.sl (ps.map fun p=>[DC.i p])] ∧ ps.length=12 ∧ ∀ p ∈ ps,0 ≤ p:=by
 obtain ⟨h0,e0⟩:=ja3 b hb
 obtain ⟨x,i1,h1,e1,_,_,c1⟩:=YW (b:=b) (i:=0) h0 ⟨hb,by omega,by omega⟩
 have key:∃ ps:List Int,jy qe [.sl [],.i 0,.sl b,.i i1,.i h1] = .ex 0 [.sl (ps.map fun p=>[DC.i p])] ∧ ps.length=12 ∧ ∀ p ∈ ps,0 ≤ p:=by
  refine kg (F:=qe) (n:=12) (I:=fun j v=>∃ (ps:List Int) (i h:Int),v=[.sl (ps.map fun p=>[DC.i p]),.i (j:Int),.sl b,.i i,.i h] ∧ ps.length=j ∧ (∀ p ∈ ps,0 ≤ p) ∧ Cu b i)
   (Q:=fun o=>∃ ps:List Int,o = .ex 0 [.sl (ps.map fun p=>[DC.i p])] ∧ ps.length=12 ∧ ∀ p ∈ ps,0 ≤ p) ?_ ?_ 12 0 _ rfl ⟨[],i1,h1,rfl,rfl,fun p hp=>(by cases hp),c1⟩
  ·rintro j v hj ⟨ps,i,h,rfl,hl,hp,c⟩
   have hc:(j:Int) < 12:=by omega
   have wz:=jz hj (show 12 ≤ 9223372036854775807 by omega)
   obtain ⟨x,i',h',e,hx,c'⟩:=jbQ h c
   have f1:=j0j (n:=ps.length) (by omega)
   exact .inl ⟨_,by simp only [qL,qI,qS,qB,qe,List.getD_cons_zero,List.getD_cons_succ,DC.bb_b,DC.ii_i,DC.ss_s,DC.ll_sl,List.length_map,jd,Int.natCast_nonneg,decide_true,decide_false,if_true,if_false,Bool.false_eq_true,and_self,true_and,ja,j9,Out.bindR_ret,jb,jf,Nat.zero_add,beq_self_eq_true,bne_self_eq_false,je,jc,eq_self,jh,jg,hc,e,f1,wz]; rfl,ps ++ [x],i',h',by rw [List.map_append]; rfl,by simp; omega,fun p hq=>by
    rcases List.mem_append.1 hq with hq | hq
    ·exact hp p hq
    ·rw [List.mem_singleton.1 hq]; exact hx,c'⟩
  ·rintro v ⟨ps,i,h,rfl,hl,hp,c⟩
   exact ⟨_,by simp [qL,qI,qS,qB,qe],Out.esc_ex 0 _,ps,rfl,hl,hp⟩
 obtain ⟨ps,e2,hl,hp⟩:=key
 have hL:0 < jT:=by decide
 refine ⟨ps,?_,hl,hp⟩
 rw [ZV]
 simp only [qL,qI,qS,qB,Vq,List.getD_cons_zero,List.getD_cons_succ,DC.bb_b,DC.ii_i,DC.ss_s,DC.ll_sl,List.length_map,jd,Int.natCast_nonneg,decide_true,decide_false,if_true,if_false,Bool.false_eq_true,and_self,true_and,ja,j9,Out.bindR_ret,jb,jf,Nat.zero_add,beq_self_eq_true,bne_self_eq_false,je,jc,eq_self,jh,jg,e0,bsz,hL,XZ,e1,e2]
theorem j5T:∀ (a u:List UInt8),pre a u=(u.take a.length == a)
 | [],u=>by simp [pre]
 | x :: a,[]=>by simp [pre]
 | x :: a,c :: u=>by
  rw [pre,j5T a u,Bool.eq_iff_iff]
  simp only [jb,List.take_succ_cons,jk,beq_iff_eq,List.cons.injEq]
  exact ⟨fun h=>⟨h.1.symm,h.2⟩,fun h=>⟨h.1.symm,h.2⟩⟩
theorem j4q:∀ (a u:List UInt8),u.length < a.length → has a u=false
 | a,[],_=>rfl
 | a,c :: u,h=>by
  rw [has,j4q a u (by simp only [jb] at h; omega),Bool.or_false]
  cases hp:pre a (c :: u) with
  | false=>rfl
  | true=>have:=j4Z a (c :: u) hp; omega
theorem j7n (s a b:List UInt8) (hs:s.length ≤ 5000) (ha:a.length ≤ 5000) (hb:b.length ≤ 5000) (h0:0 < a.length):Jm [.s s,.s a,.s b] = .ret [.s (rep a b s)]:=by
 have key:∃ o,jy kU [.s s,.s a,.s b,.i 0]=o ∧ (o = .ret [.s (rep a b s)] ∨ o = .ex 0 [.s (rep a b s)]):=by
  refine ⟨_,rfl,?_⟩
  refine kg (F:=kU) (n:=s.length + 1 - a.length) (I:=fun j v=>v=[.s s,.s a,.s b,.i (j:Int)] ∧ rep a b s=s.take j ++ rep a b (s.drop j))
   (Q:=fun o=>o = .ret [.s (rep a b s)] ∨ o = .ex 0 [.s (rep a b s)]) ?_ ?_ _ 0 _ (Nat.zero_add _) ⟨rfl,rfl⟩
  ·rintro j v hj ⟨rfl,hr⟩
   have w1:IntKind.i64.wrap ((j:Int) + (a.length:Int))=((j + a.length:Nat):Int):=by rw [IntKind.wrap_i64]; omega
   have hc:((j + a.length:Nat):Int) ≤ (s.length:Int):=by omega
   have hc2:(j:Int) ≤ ((j + a.length:Nat):Int):=by omega
   have hc3:(j:Int) ≤ (s.length:Int):=by omega
   have wz:=jz hj (show s.length + 1 - a.length ≤ 9223372036854775807 by omega)
   have hjs:j < s.length:=by omega
   have hd:=List.drop_eq_getElem_cons hjs
   have ht:(s.take (j + a.length)).drop j=(s.drop j).take a.length:=by rw [List.drop_take,Nat.add_sub_cancel_left]
   have hp:=j5T a (s.drop j)
   have l1:(s.take j).length + b.length < jT:=j0i (by rw [List.length_take]; omega)
   have l2:(s.take j).length + b.length + (s.length - (j + a.length)) < jT:=j0i (by rw [List.length_take]; omega)
   cases hq:((s.drop j).take a.length == a) with
   | true =>
    rw [hq] at hp
    refine .inr ⟨_,by simp only [qL,qI,qS,qB,kU,List.getD_cons_zero,List.getD_cons_succ,DC.bb_b,DC.ii_i,DC.ss_s,DC.ll_sl,List.length_map,jd,Int.natCast_nonneg,decide_true,decide_false,if_true,if_false,Bool.false_eq_true,and_self,true_and,ja,j9,Out.bindR_ret,jb,jf,Nat.zero_add,beq_self_eq_true,bne_self_eq_false,je,jc,eq_self,jh,jg,w1,hc,hc2,hc3,ht,hq,l1,l2,jj,List.length_drop]; rfl,Out.esc_ret _,.inl ?_⟩
    rw [hr,hd,rep,← hd,hp,if_pos rfl,List.drop_drop,jD]
   | false =>
    rw [hq] at hp
    refine .inl ⟨_,by simp only [qL,qI,qS,qB,kU,List.getD_cons_zero,List.getD_cons_succ,DC.bb_b,DC.ii_i,DC.ss_s,DC.ll_sl,List.length_map,jd,Int.natCast_nonneg,decide_true,decide_false,if_true,if_false,Bool.false_eq_true,and_self,true_and,ja,j9,Out.bindR_ret,jb,jf,Nat.zero_add,beq_self_eq_true,bne_self_eq_false,je,jc,eq_self,jh,jg,w1,hc,hc2,hc3,ht,hq,wz],rfl,?_⟩
    rw [hr,hd,rep,← hd,hp,if_neg (by decide),List.take_succ_eq_append_getElem hjs,jD]
    rfl
  ·rintro v ⟨rfl,hr⟩
   have w1:IntKind.i64.wrap (((s.length + 1 - a.length:Nat):Int) + (a.length:Int))=((s.length + 1 - a.length + a.length:Nat):Int):=by rw [IntKind.wrap_i64]; omega
   have hc:¬ ((s.length + 1 - a.length + a.length:Nat):Int) ≤ (s.length:Int):=by omega
   refine ⟨_,by simp only [qL,qI,qS,qB,kU,List.getD_cons_zero,List.getD_cons_succ,DC.bb_b,DC.ii_i,DC.ss_s,DC.ll_sl,List.length_map,jd,Int.natCast_nonneg,decide_true,decide_false,if_true,if_false,Bool.false_eq_true,and_self,true_and,ja,j9,Out.bindR_ret,jb,jf,Nat.zero_add,beq_self_eq_true,bne_self_eq_false,je,jc,eq_self,jh,jg,w1,hc]; rfl,Out.esc_ex 0 _,.inr ?_⟩
   rw [hr,j5N _ (j4q a _ (by rw [List.length_drop]; omega)),List.take_append_drop]
 obtain ⟨o,e,h⟩:=key
 rw [Z2]
 rcases h with rfl | rfl <;> simp only [qL,qI,qS,qB,QM,List.getD_cons_zero,List.getD_cons_succ,DC.bb_b,DC.ii_i,DC.ss_s,DC.ll_sl,List.length_map,jd,Int.natCast_nonneg,decide_true,decide_false,if_true,if_false,Bool.false_eq_true,and_self,true_and,ja,j9,Out.bindR_ret,jb,jf,Nat.zero_add,beq_self_eq_true,bne_self_eq_false,je,jc,eq_self,jh,jg,e]
theorem jbk {T:List (List UInt8 × List UInt8)} {ps vs:List (List UInt8)} {n:Nat} (h:Tx T n ps vs):∀ m,Tx T (n + m) ps vs
 | 0=>h
 | m + 1=>(jbk h m).up
theorem j7u {T:List (List UInt8 × List UInt8)} {p x:List UInt8} {n:Nat} (h:x ∈ vars T p n):∀ m,x ∈ vars T p (n + m)
 | 0=>h
 | m + 1=>j4G (j7u h m)
theorem j82 {T:List (List UInt8 × List UInt8)}:∀ ps:List (List UInt8),Tx T 0 ps ps
 | []=>.nil
 | p :: ps=>.cons p p ps ps (List.mem_singleton.2 rfl) (j82 ps)
theorem jbP {n:Nat} (hn:n ≤ 3):∀ p ∈ pcs,∀ v ∈ vars trn p n,en false v=true:=fun p hp v hv=>by
 obtain ⟨j,hj,rfl⟩:=List.mem_iff_getElem.1 hp
 have hj2:j < 12:=hj
 have h1:=List.all_eq_true.1 jc3 j (List.mem_range.2 hj2)
 have h2:=j7u hv (3 - n)
 rw [Nat.add_sub_cancel' hn] at h2
 refine List.all_eq_true.1 h1 v ?_
 unfold vs pc
 rw [List.getD_eq_getElem?_getD,List.getElem?_eq_getElem hj]
 exact h2
def trE (t:List UInt8 × List UInt8):List DC:=[.sl [[.s t.1],[.s t.2]]]
theorem jbT {b:List (List DC)} {i:Int} (h:Int) (c:Cu b i):∃ ws i' h',Qt [.sl b,.i i,.i h] = .ret [.s ws.flatten,.sl b,.i i',.i h'] ∧ Tx trn 3 pcs ws ∧ Cu b i':=by
 have hP:yk [] = .ret [.sl (Xh.map S1)]:=by
  rw [Vb]
  rfl
 have e1:jy yr [.sl (Xh.map S1),.s [],.i 0,.sl b,.i i,.i h] = .ex 0 [.s pcs.flatten,.sl b,.i i,.i h]:=by
  have hF:pcs.flatten.length=762:=rfl
  refine pE (st:=fun k=>[.sl (Xh.map S1),.s (pcs.take k).flatten,.i (k:Int),.sl b,.i i,.i h]) 12 0 (fun k _ hk=>?_) (jK ?_)
  ·have hk2:k < Xh.length:=by show k < 12; omega
   have hk3:k < pcs.length:=by show k < 12; omega
   have hc:(k:Int) < (Xh.length:Int):=by omega
   have hm:(Xh.map S1).getD k []=[.s Xh[k]]:=jx hk2
   have wz:=jz hk2 (show Xh.length ≤ 9223372036854775807 by decide)
   have h1:pcs[k]=Xh[k] ++ [10]:=List.getElem_map _
   have h2:(pcs.take (k + 1)).flatten=(pcs.take k).flatten ++ (Xh[k] ++ [10]):=by
    rw [List.take_succ_eq_append_getElem hk3,List.flatten_append,h1]
    simp
   have h3:(pcs.take (k + 1)).flatten.length ≤ 762:=by
    rw [← hF]
    conv=>rhs; rw [← List.take_append_drop (k + 1) pcs,List.flatten_append,jj]
    omega
   rw [h2] at h3 ⊢
   simp only [jj,jb,jf] at h3
   have l1:(pcs.take k).flatten.length + Xh[k].length < jT:=j0i (by omega)
   have l2:(pcs.take k).flatten.length + Xh[k].length + 1 < jT:=j0i (by omega)
   simp only [qL,qI,qS,qB,yr,List.getD_cons_zero,List.getD_cons_succ,DC.bb_b,DC.ii_i,DC.ss_s,DC.ll_sl,List.length_map,jd,Int.natCast_nonneg,decide_true,decide_false,if_true,if_false,Bool.false_eq_true,and_self,true_and,ja,j9,Out.bindR_ret,jb,jf,Nat.zero_add,beq_self_eq_true,bne_self_eq_false,je,jc,eq_self,jh,jg,hm,hc,l1,l2,jj,wz,jD]
  ·have hc:¬ ((0 + 12:Nat):Int) < (Xh.length:Int):=by decide
   rw [show pcs.take (0 + 12)=pcs from rfl]
   simp only [qL,qI,qS,qB,yr,List.getD_cons_zero,List.getD_cons_succ,DC.bb_b,DC.ii_i,DC.ss_s,DC.ll_sl,List.length_map,jd,Int.natCast_nonneg,decide_true,decide_false,if_true,if_false,Bool.false_eq_true,and_self,true_and,ja,j9,Out.bindR_ret,jb,jf,Nat.zero_add,beq_self_eq_true,bne_self_eq_false,je,jc,eq_self,jh,jg,hc]
 have e2:∃ ws i' h',jy pH [.s pcs.flatten,.sl (trn.map trE),.i 0,.sl b,.i i,.i h] = .ex 2 [.s ws.flatten,.sl b,.i i',.i h'] ∧ Tx trn 3 pcs ws ∧ Cu b i':=by
  refine kg (F:=pH) (n:=3) (I:=fun k v=>∃ ws i h,v=[.s ws.flatten,.sl (trn.map trE),.i (k:Int),.sl b,.i i,.i h] ∧ Tx trn k pcs ws ∧ Cu b i)
   (Q:=fun o=>∃ ws i' h',o = .ex 2 [.s ws.flatten,.sl b,.i i',.i h'] ∧ Tx trn 3 pcs ws ∧ Cu b i') ?_ ?_ 3 0 _ rfl ⟨pcs,i,h,rfl,j82 pcs,c⟩
  ·rintro k v hk ⟨ws,i,h,rfl,hT,c⟩
   obtain ⟨x,i1,h1,q1,x0,x1,c1⟩:=j3l h 3 (by decide) (by decide) c
   have wx:IntKind.i64.wrap (1 + x)=1 + x:=by rw [IntKind.wrap_i64]; omega
   have hT3:Tx trn 3 pcs ws:=by
    have:=jbk hT (3 - k)
    rwa [Nat.add_sub_cancel' (by omega)] at this
   by_cases hc:(k:Int) < 1 + x
   ·obtain ⟨y,i2,h2,q2,y0,y1,c2⟩:=j3l h1 (trn.length:Int) (by decide) (by decide) c1
    obtain ⟨m,rfl⟩:=Int.eq_ofNat_of_zero_le y0
    have hm:m < trn.length:=by omega
    have hg:(trn.map trE).getD m []=[.sl [[.s trn[m].1],[.s trn[m].2]]]:=jx hm
    have htm:=ju hm
    have hto:=List.all_eq_true.1 jbq trn[m] htm
    simp only [jk,decide_eq_true_eq,Bool.not_eq_true',List.isEmpty_eq_false_iff] at hto
    obtain ⟨⟨⟨⟨o1,o2⟩,o3⟩,o4⟩,o5⟩:=hto
    have hlen:ws.flatten.length ≤ 5000:=by
     have h1:=(j0Y 12 0 ws rfl hT3).2.1
     have h2:(mx.drop 0).sum=1081:=rfl
     omega
    have hR:=j7n ws.flatten trn[m].1 trn[m].2 hlen (by omega) (by omega) (List.length_pos_iff.2 o3)
    obtain ⟨us,hu,hT'⟩:=Tx.turn htm o1 o2 hT (jbP (by omega))
    have wz:=jz hk (show 3 ≤ 9223372036854775807 by omega)
    rw [hu] at hR
    have z1:(0:Int) < ((1 + 1:Nat):Int):=by decide
    have z2:(1:Int) < ((1 + 1:Nat):Int):=by decide
    have z3:(0:Int) ≤ 1:=by decide
    have z4:Int.toNat 1=1:=rfl
    refine .inl ⟨_,by simp only [qL,qI,qS,qB,pH,List.getD_cons_zero,List.getD_cons_succ,DC.bb_b,DC.ii_i,DC.ss_s,DC.ll_sl,List.length_map,jd,Int.natCast_nonneg,decide_true,decide_false,if_true,if_false,Bool.false_eq_true,and_self,true_and,ja,j9,Out.bindR_ret,jb,jf,Nat.zero_add,beq_self_eq_true,bne_self_eq_false,je,jc,eq_self,jh,jg,q1,wx,hc,q2,y1,hg,z1,z2,z3,z4,Int.le_refl,Int.toNat_zero,hR,wz],us,i2,h2,rfl,hT',c2⟩
   ·exact .inr ⟨_,by simp only [qL,qI,qS,qB,pH,List.getD_cons_zero,List.getD_cons_succ,DC.bb_b,DC.ii_i,DC.ss_s,DC.ll_sl,List.length_map,jd,Int.natCast_nonneg,decide_true,decide_false,if_true,if_false,Bool.false_eq_true,and_self,true_and,ja,j9,Out.bindR_ret,jb,jf,Nat.zero_add,beq_self_eq_true,bne_self_eq_false,je,jc,eq_self,jh,jg,q1,wx,hc],Out.esc_ex 2 _,ws,i1,h1,rfl,hT3,c1⟩
  ·rintro v ⟨ws,i,h,rfl,hT,c⟩
   obtain ⟨x,i1,h1,q1,x0,x1,c1⟩:=j3l h 3 (by decide) (by decide) c
   have wx:IntKind.i64.wrap (1 + x)=1 + x:=by rw [IntKind.wrap_i64]; omega
   have hc:¬ ((3:Nat):Int) < 1 + x:=by omega
   exact ⟨_,by simp only [qL,qI,qS,qB,pH,List.getD_cons_zero,List.getD_cons_succ,DC.bb_b,DC.ii_i,DC.ss_s,DC.ll_sl,List.length_map,jd,Int.natCast_nonneg,decide_true,decide_false,if_true,if_false,Bool.false_eq_true,and_self,true_and,ja,j9,Out.bindR_ret,jb,jf,Nat.zero_add,beq_self_eq_true,bne_self_eq_false,je,jc,eq_self,jh,jg,q1,wx,hc],Out.esc_ex 2 _,ws,i1,h1,rfl,hT,c1⟩
 obtain ⟨ws,i',h',e2,hT,c'⟩:=e2
 refine ⟨ws,i',h',?_,hT,c'⟩
 rw [j24]
 unfold Yt
 rw [hP,Out.bindR_ret]
 show j9 (jy yr [.sl (Xh.map S1),.s [],.i 0,.sl b,.i i,.i h]) 0 _=_
 rw [e1]
 show j9 (jy pH [.s pcs.flatten,.sl (trn.map trE),.i 0,.sl b,.i i,.i h]) 2 _=_
 rw [e2]
 rfl
theorem ja2 (b:List (List DC)) (hb:b.length ≤ 1048576):∃ (ts:List TDef) (D R:List (List DC)),zN [.sl b] = .ret [.sl (ts.map TDef.enc),.sl D,.sl R] ∧ Good ts:=by
 obtain ⟨h0,e0⟩:=ja3 b hb
 obtain ⟨ws,i1,h1,e1,hT,c1⟩:=jbT (b:=b) (i:=0) h0 ⟨hb,by omega,by omega⟩
 obtain ⟨T,D,R,bad,cc,z,e2,hB⟩:=jbU hT
 obtain ⟨tl,Dl,Rl,e3,hL⟩:=jdz
 have hL0:0 < jT:=by decide
 have key:∃ (ts:List TDef) (D R:List (List DC)),KR [.sl b,.i 0,.i h0] = .ret [.sl (ts.map TDef.enc),.sl D,.sl R,.sl b,.i i1,.i h1] ∧ Good ts:=by
  rw [j1j]
  by_cases hc:cc=0
  ·subst hc
   by_cases hb:(bad.length:Int) > 0
   ·exact ⟨tl,Dl,Rl,by simp only [qL,qI,qS,qB,Jg,List.getD_cons_zero,List.getD_cons_succ,DC.bb_b,DC.ii_i,DC.ss_s,DC.ll_sl,List.length_map,jd,Int.natCast_nonneg,decide_true,decide_false,if_true,if_false,Bool.false_eq_true,and_self,true_and,ja,j9,Out.bindR_ret,jb,jf,Nat.zero_add,beq_self_eq_true,bne_self_eq_false,je,jc,eq_self,jh,jg,e1,e2,hb,e3],hL⟩
   ·obtain ⟨ts,rfl,hg⟩:=hB rfl (by omega)
    exact ⟨ts,D,R,by simp only [qL,qI,qS,qB,Jg,List.getD_cons_zero,List.getD_cons_succ,DC.bb_b,DC.ii_i,DC.ss_s,DC.ll_sl,List.length_map,jd,Int.natCast_nonneg,decide_true,decide_false,if_true,if_false,Bool.false_eq_true,and_self,true_and,ja,j9,Out.bindR_ret,jb,jf,Nat.zero_add,beq_self_eq_true,bne_self_eq_false,je,jc,eq_self,jh,jg,e1,e2,hb],hg⟩
  ·have hc':(cc != 0)=true:=by simpa using hc
   exact ⟨tl,Dl,Rl,by simp only [qL,qI,qS,qB,Jg,List.getD_cons_zero,List.getD_cons_succ,DC.bb_b,DC.ii_i,DC.ss_s,DC.ll_sl,List.length_map,jd,Int.natCast_nonneg,decide_true,decide_false,if_true,if_false,Bool.false_eq_true,and_self,true_and,ja,j9,Out.bindR_ret,jb,jf,Nat.zero_add,beq_self_eq_true,bne_self_eq_false,je,jc,eq_self,jh,jg,e1,e2,hc',e3],hL⟩
 obtain ⟨ts,D',R',e4,hg⟩:=key
 refine ⟨ts,D',R',?_,hg⟩
 rw [j0C]
 simp only [qL,qI,qS,qB,X1,List.getD_cons_zero,List.getD_cons_succ,DC.bb_b,DC.ii_i,DC.ss_s,DC.ll_sl,List.length_map,jd,Int.natCast_nonneg,decide_true,decide_false,if_true,if_false,Bool.false_eq_true,and_self,true_and,ja,j9,Out.bindR_ret,jb,jf,Nat.zero_add,beq_self_eq_true,bne_self_eq_false,je,jc,eq_self,jh,jg,e0,bsz,hL0,XZ,e4]
theorem j3r (l:List (List DC)):ZB [.sl l] = .ret [.b (decide ((l.length:Int) > 1048576))]:=by
 rw [j6j]
 rfl
theorem jbS (l:List (List UInt8)) (hl:l.length ≤ 1048576):Kg [.sl (l.map S1),.sl (l.map S1)] = .ret [.b true]:=by
 have e:jy yL [.sl (l.map S1),.sl (l.map S1),.i 0] = .ex 0 []:=by
  refine pE (st:=fun k=>[.sl (l.map S1),.sl (l.map S1),.i (k:Int)]) l.length 0 (fun k _ hk=>?_) (jK ?_)
  ·rw [Nat.zero_add] at hk
   have hc:(k:Int) < (l.length:Int):=by omega
   have wz:=jz hk (show l.length ≤ 9223372036854775807 by omega)
   simp only [qL,qI,qS,qB,yL,List.getD_cons_zero,List.getD_cons_succ,DC.bb_b,DC.ii_i,DC.ss_s,DC.ll_sl,List.length_map,jd,Int.natCast_nonneg,decide_true,decide_false,if_true,if_false,Bool.false_eq_true,and_self,true_and,ja,j9,Out.bindR_ret,jb,jf,Nat.zero_add,beq_self_eq_true,bne_self_eq_false,je,jc,eq_self,jh,jg,hc,wz]
  ·simp [qL,qI,qS,qB,yL]
 rw [j0E]
 simp only [qL,qI,qS,qB,X2,List.getD_cons_zero,List.getD_cons_succ,DC.bb_b,DC.ii_i,DC.ss_s,DC.ll_sl,List.length_map,jd,Int.natCast_nonneg,decide_true,decide_false,if_true,if_false,Bool.false_eq_true,and_self,true_and,ja,j9,Out.bindR_ret,jb,jf,Nat.zero_add,beq_self_eq_true,bne_self_eq_false,je,jc,eq_self,jh,jg,e]
theorem ja5 {ts:List TDef} (hg:Good ts) {d:TDef} (hd:d ∈ ts):pZ ts d.name=some d:=by
 unfold pZ
 have:=hg.len
 rw [if_neg (by omega)]
 have nd:=hg.nd
 clear hg this
 induction ts with
 | nil=>cases hd
 | cons x ts ih =>
  rw [List.pairwise_cons] at nd
  rw [List.find?_cons]
  rcases List.mem_cons.1 hd with rfl | hd
  ·rw [beq_self_eq_true]
  ·rw [beq_eq_false_iff_ne.2 (nd.1 d hd)]
   exact ih hd nd.2
theorem j6o {ts:List TDef} {n:List UInt8} (h:∀ d ∈ ts,d.name ≠ n):pZ ts n=none:=by
 unfold pZ
 split
 ·rfl
 ·rw [List.find?_eq_none]
  intro d hd
  simpa using h d hd
theorem j8o {ts:List TDef} (hg:Good ts) (a:List UInt8) {x:List UInt8} (hx:x ∈ kK ts a):jI ts x=2 ∧ VS ts x a=true:=by
 unfold kK at hx
 cases ht:pZ ts a with
 | none=>rw [ht] at hx; cases hx
 | some t =>
  rw [ht] at hx
  have hm:=(j0W _).2 x |>.1 hx
  unfold Qd at hm
  obtain ⟨d,hd,hq⟩:=List.mem_flatMap.1 hm
  cases hb:j1L t.kind t.faces a d with
  | false=>rw [hb] at hq; cases hq
  | true =>
   rw [hb,if_pos rfl] at hq
   have hn:=List.mem_singleton.1 hq
   subst hn
   have hu:=ja5 hg hd
   simp only [j1L,jk,beq_iff_eq] at hb
   obtain ⟨k2,hb⟩:=hb
   refine ⟨by unfold jI; rw [hu]; exact k2,?_⟩
   unfold VS
   rw [hu,ht]
   split at hb
   ·rw [beq_iff_eq] at hb
    rw [hb,beq_self_eq_true,Bool.true_or]
   ·split at hb
    ·rename_i h3
     simp [h3,k2,hb]
    ·split at hb
     ·rename_i h4
      simp [h4,k2,hb]
     ·cases hb
theorem jbA (ts:List TDef) (a:List UInt8):Up (kK ts a):=by
 unfold kK
 cases pZ ts a with
 | none=>exact .nil
 | some t=>exact (j0W _).1
theorem jca (f:Bool):yh f ([93,33]:List UInt8).reverse ([93]:List UInt8).reverse=f:=by simp [yh]
theorem jc9 (f:Bool):yh f ([33]:List UInt8).reverse ([33]:List UInt8).reverse=f:=by simp [yh]
theorem jc8 (f:Bool):yh f ([33]:List UInt8).reverse ([]:List UInt8).reverse=f:=by simp [yh]
theorem jc7 (f:Bool):yh f ([]:List UInt8).reverse ([33]:List UInt8).reverse=false:=by simp [yh]
section
variable {ts:List TDef} {D R:List (List DC)}
theorem jbJ (a b:List UInt8) (X Y:List (List UInt8)) (i:Nat) (hi:i < X.length) (hy:Y.length ≤ 60) (bo:Bool) (A:List DC) (T2 D2 R2:List (List DC)) :
  jy pM [.s a,.s b,.sl (X.map S1),.sl (Y.map S1),.b bo,.i (i:Int),.i 0,.sl (ts.map TDef.enc),.sl D,.sl R,.sl T2,.sl D2,.sl R2] = .ex 2 [.s a,.s b,.sl (X.map S1),.sl (Y.map S1),.b (bo || Y.any (· == X[i])),.i (i:Int),.sl (ts.map TDef.enc),.sl D,.sl R,.sl T2,.sl D2,.sl R2]:=by
 have hci:(i:Int) < (X.length:Int):=by omega
 have hmi:(X.map S1).getD i []=[.s X[i]]:=jx hi
 rw [show jy pM [.s a,.s b,.sl (X.map S1),.sl (Y.map S1),.b bo,.i (i:Int),.i 0,.sl (ts.map TDef.enc),.sl D,.sl R,.sl T2,.sl D2,.sl R2]=jy pM [.s a,.s b,.sl (X.map S1),.sl (Y.map S1),.b (bo || (Y.take 0).any (· == X[i])),.i (i:Int),.i ((0:Nat):Int),.sl (ts.map TDef.enc),.sl D,.sl R,.sl T2,.sl D2,.sl R2] by simp]
 refine pE (st:=fun k=>[.s a,.s b,.sl (X.map S1),.sl (Y.map S1),.b (bo || (Y.take k).any (· == X[i])),.i (i:Int),.i (k:Int),.sl (ts.map TDef.enc),.sl D,.sl R,.sl T2,.sl D2,.sl R2]) Y.length 0 (fun k _ hk=>?_) (jK ?_)
 ·rw [Nat.zero_add] at hk
  have hc:(k:Int) < (Y.length:Int):=by omega
  have hm:(Y.map S1).getD k []=[.s Y[k]]:=jx hk
  have wz:=jz hk (show Y.length ≤ 9223372036854775807 by omega)
  have hsw:(X[i] == Y[k])=(Y[k] == X[i]):=Bool.beq_comm
  rw [List.take_succ_eq_append_getElem hk,List.any_append]
  simp only [List.any_cons,List.any_nil,Bool.or_false]
  rw [← Bool.or_assoc]
  cases hb:(bo || (Y.take k).any (· == X[i])) with
  | true=>simp only [qL,qI,qS,qB,pM,List.getD_cons_zero,List.getD_cons_succ,DC.bb_b,DC.ii_i,DC.ss_s,DC.ll_sl,List.length_map,jd,Int.natCast_nonneg,decide_true,decide_false,if_true,if_false,Bool.false_eq_true,and_self,true_and,ja,j9,Out.bindR_ret,jb,jf,Nat.zero_add,beq_self_eq_true,bne_self_eq_false,je,jc,eq_self,jh,jg,hc,wz,Bool.true_or]
  | false=>simp only [qL,qI,qS,qB,pM,List.getD_cons_zero,List.getD_cons_succ,DC.bb_b,DC.ii_i,DC.ss_s,DC.ll_sl,List.length_map,jd,Int.natCast_nonneg,decide_true,decide_false,if_true,if_false,Bool.false_eq_true,and_self,true_and,ja,j9,Out.bindR_ret,jb,jf,Nat.zero_add,beq_self_eq_true,bne_self_eq_false,je,jc,eq_self,jh,jg,hc,hci,hmi,hm,wz,Bool.false_or,hsw]
 ·rw [Nat.zero_add,List.take_length]
  simp [qL,qI,qS,qB,pM]
theorem jaU (hg:Good ts) (a b:List UInt8) (T2 D2 R2:List (List DC)) :
  jy yw [.s a,.s b,.sl ((kK ts a).map S1),.sl ((kK ts b).map S1),.b false,.i 0,.sl (ts.map TDef.enc),.sl D,.sl R,.sl T2,.sl D2,.sl R2] = .ex 0 [.s a,.s b,.sl ((kK ts a).map S1),.b (over ts a b),.sl (ts.map TDef.enc),.sl D,.sl R,.sl T2,.sl D2,.sl R2]:=by
 have lx:=VK ts a
 have ly:=VK ts b
 have hl:=hg.len
 have hw:=j7j hg.len hg.ok
 have hU:=jbA ts a
 rw [show over ts a b=((kK ts a).take (kK ts a).length).any fun x=>(kK ts b).any (· == x) by rw [List.take_length]; rfl]
 refine pE (st:=fun k=>[.s a,.s b,.sl ((kK ts a).map S1),.sl ((kK ts b).map S1),.b (((kK ts a).take k).any fun x=>(kK ts b).any (· == x)),.i (k:Int),.sl (ts.map TDef.enc),.sl D,.sl R,.sl T2,.sl D2,.sl R2]) (kK ts a).length 0 (fun k _ hk=>?_) (jK ?_)
 ·rw [Nat.zero_add] at hk
  have hc:(k:Int) < ((kK ts a).length:Int):=by omega
  have hm:((kK ts a).map S1).getD k []=[.s (kK ts a)[k]]:=jx hk
  have wz:=jz hk (show (kK ts a).length ≤ 9223372036854775807 by omega)
  obtain ⟨k2,hB⟩:=j8o hg a (ju hk)
  have hK:=KK ts D R (kK ts a)[k] (by omega)
  have hS:=Qe ts D R (kK ts a)[k] [93,33] a [93] hw (by decide)
  have hI:=jbJ (ts:=ts) (D:=D) (R:=R) a b (kK ts a) (kK ts b) k hk (by omega) (((kK ts a).take k).any fun x=>(kK ts b).any (· == x)) [] T2 D2 R2
  rw [k2] at hK
  rw [jca,hB] at hS
  rw [List.take_succ_eq_append_getElem hk,List.any_append]
  simp only [List.any_cons,List.any_nil,Bool.or_false]
  by_cases h0:(k:Int) > 0
  ·have hk1:k - 1 < (kK ts a).length:=by omega
   have w1:IntKind.i64.wrap ((k:Int) - 1)=((k - 1:Nat):Int):=by rw [IntKind.wrap_i64]; omega
   have hc1:((k - 1:Nat):Int) < ((kK ts a).length:Int):=by omega
   have hm1:((kK ts a).map S1).getD (k - 1) []=[.s (kK ts a)[k - 1]]:=jx hk1
   have hlt:Op.bytesLess (kK ts a)[k - 1] (kK ts a)[k]=true:=by
    rw [jah]
    exact decide_eq_true (List.pairwise_iff_getElem.1 hU (k - 1) k hk1 hk (by omega))
   simp only [qL,qI,qS,qB,yw,List.getD_cons_zero,List.getD_cons_succ,DC.bb_b,DC.ii_i,DC.ss_s,DC.ll_sl,List.length_map,jd,Int.natCast_nonneg,decide_true,decide_false,if_true,if_false,Bool.false_eq_true,and_self,true_and,ja,j9,Out.bindR_ret,jb,jf,Nat.zero_add,beq_self_eq_true,bne_self_eq_false,je,jc,eq_self,jh,jg,hc,hm,hK,hS,h0,w1,hc1,hm1,hlt,hI,wz]
  ·simp only [qL,qI,qS,qB,yw,List.getD_cons_zero,List.getD_cons_succ,DC.bb_b,DC.ii_i,DC.ss_s,DC.ll_sl,List.length_map,jd,Int.natCast_nonneg,decide_true,decide_false,if_true,if_false,Bool.false_eq_true,and_self,true_and,ja,j9,Out.bindR_ret,jb,jf,Nat.zero_add,beq_self_eq_true,bne_self_eq_false,je,jc,eq_self,jh,jg,hc,hm,hK,hS,h0,hI,wz]
 ·rw [Nat.zero_add]
  simp [qL,qI,qS,qB,yw]
end
theorem j8q (ts:List TDef) (a b:List UInt8):over ts b a=over ts a b:=by
 rw [Bool.eq_iff_iff]
 unfold over
 simp only [List.any_eq_true,beq_iff_eq]
 exact ⟨fun ⟨x,hx,y,hy,e⟩=>⟨y,hy,x,hx,e.symm⟩,fun ⟨x,hx,y,hy,e⟩=>⟨y,hy,x,hx,e.symm⟩⟩
theorem jas {ty:Nat → Option TI} {k:Nat} {d:List DC} (h:WfL ty [.sl k] d):∃ l,d=[.sl l]:=by
 cases h with
 | cons t ts x xs h1 h2 =>
  cases h2
  cases h1 <;> exact ⟨_,rfl⟩
theorem j69 (d:List DC) (hd:WfL cfg.ty [.sl 5] d):Y1 d = .ret [.b true]:=by
 obtain ⟨l,rfl⟩:=jas hd
 rw [j2n]
 by_cases hb:(l.length:Int) > 1048576
 ·simp only [qL,qI,qS,qB,yx,List.getD_cons_zero,List.getD_cons_succ,DC.bb_b,DC.ii_i,DC.ss_s,DC.ll_sl,List.length_map,jd,Int.natCast_nonneg,decide_true,decide_false,if_true,if_false,Bool.false_eq_true,and_self,true_and,ja,j9,Out.bindR_ret,jb,jf,Nat.zero_add,beq_self_eq_true,bne_self_eq_false,je,jc,eq_self,jh,jg,j3r,hb]
 obtain ⟨ts,D,R,eO,hg⟩:=ja2 l (by omega)
 obtain ⟨ps,eP,pl,pp⟩:=j8G l (by omega)
 have hl:=hg.len
 have hw:=j7j hg.len hg.ok
 have hne:0 < ts.length:=List.length_pos_iff.2 hg.ne
 have hz:¬ (ts.length:Int)=0:=by omega
 have pick:∀ j:Nat,j < 12 → ∃ m:Nat,∃ hm:m < ts.length,((((ps.map fun p=>[DC.i p]).getD j []).getD 0 d0).ii).tmod (ts.length:Int)=(m:Int):=fun j hj=>by
  have hj2:j < ps.length:=by omega
  have h1:(ps.map fun p=>[DC.i p]).getD j []=[DC.i ps[j]]:=jx hj2
  have h2:=pp _ (ju hj2)
  rw [h1]
  have h3:=Int.tmod_nonneg (ts.length:Int) h2
  have h4:=Int.tmod_lt_of_pos ps[j] (show (0:Int) < (ts.length:Int) by omega)
  obtain ⟨m,hm⟩:=Int.eq_ofNat_of_zero_le h3
  exact ⟨m,by omega,hm⟩
 obtain ⟨m0,hm0,q0⟩:=pick 0 (by decide)
 obtain ⟨m1,hm1,q1⟩:=pick 1 (by decide)
 have g0:(ts.map TDef.enc).getD m0 []=TDef.enc ts[m0]:=jx hm0
 have g1:(ts.map TDef.enc).getD m1 []=TDef.enc ts[m1]:=jx hm1
 have i0:(m0:Int) < (ts.length:Int):=by omega
 have i1:(m1:Int) < (ts.length:Int):=by omega
 have z0:(0:Int) < (ps.length:Int):=by omega
 have z1:(1:Int) < (ps.length:Int):=by omega
 rw [TDef.enc_eq] at g0 g1
 generalize ts[m0].name=a at *
 generalize ts[m1].name=b at *
 have fX:=Jd ts D R a hw
 have fY:=Jd ts D R b hw
 have fZ:=j1U ts D R a hw
 have lx:=VK ts a
 have eS:=jbS (kK ts a) (by omega)
 have eL:=jaU (D:=D) (R:=R) hg a b (ts.map TDef.enc) D R
 have o1:=j0p ts D R a b hw
 have o2:=j0p ts D R b a hw
 rw [j8q] at o2
 have s1:=Qe ts D R a [33] a [33] hw (by decide)
 have s2:=Qe ts D R a [33] a [] hw (by decide)
 have s3:=Qe ts D R a [] a [33] hw (by decide)
 have bl:VS ts a a=true:=by unfold VS; rw [beq_self_eq_true,Bool.true_or]
 rw [jc9,bl] at s1
 rw [jc8,bl] at s2
 rw [jc7] at s3
 have c1:=j1h ts D R a (by omega)
 have c2:=zn ts D R a (by omega)
 have c3:=j6f ts D R a (by omega)
 have n1:pZ ts j8u=none:=j6o fun d hd=>(hg.ok d hd).int
 have n2:pZ ts j66=none:=j6o fun d hd=>(hg.ok d hd).nope
 have k1:jI ts j8u=1:=by unfold jI; rw [n1]; rfl
 have k2:jI ts j66=0:=by unfold jI; rw [n2]; rfl
 have k3:jI ts j0f=6 ∨ jI ts j0f=0:=by
  unfold jI
  cases h:pZ ts j0f with
  | none=>exact .inr rfl
  | some e =>
   have he:=(hg.ok e (VR h)).find
   have hn:e.name=j0f:=by
    unfold pZ at h
    split at h
    ·cases h
    ·simpa using List.find?_some h
   rw [hn,beq_self_eq_true,beq_iff_eq] at he
   exact .inl he
 have t1:=j0q ts D R j8u (by omega)
 have t2:=Ze ts D R j8u (by omega)
 have t3:=Ze ts D R j0f (by omega)
 have t4:=j0q ts D R j66 (by omega)
 rw [k1] at t1 t2
 rw [k2] at t4
 have t3:jR [.sl (ts.map TDef.enc),.sl D,.sl R,.s j0f] = .ret [.b false]:=by
  rw [t3]
  rcases k3 with h | h <;> rw [h] <;> rfl
 have t1:kp [.sl (ts.map TDef.enc),.sl D,.sl R,.s [73,110,116]] = .ret [.b true]:=t1
 have t2:jR [.sl (ts.map TDef.enc),.sl D,.sl R,.s [73,110,116]] = .ret [.b true]:=t2
 have t3:jR [.sl (ts.map TDef.enc),.sl D,.sl R,.s [70,105,110,100]] = .ret [.b false]:=t3
 have t4:kp [.sl (ts.map TDef.enc),.sl D,.sl R,.s [110,111,112,101]] = .ret [.b false]:=t4
 generalize jI ts a=k at *
 have z10:(0:Int) ≤ 1:=by decide
 have zt:Int.toNat 1=1:=rfl
 by_cases h2:k ≥ 2
 ·have e1:(k == 1)=false:=beq_eq_false_iff_ne.2 (by omega)
  rw [e1,Bool.false_or] at c3
  by_cases h4:k ≤ 4
  ·have e2:(k == 2 || k == 3 || k == 4)=true:=by
    simp only [Bool.or_eq_true,beq_iff_eq]
    omega
   rw [e2] at c1
   simp only [qL,qI,qS,qB,yx,List.getD_cons_zero,List.getD_cons_succ,DC.bb_b,DC.ii_i,DC.ss_s,DC.ll_sl,List.length_map,jd,Int.natCast_nonneg,decide_true,decide_false,if_true,if_false,Bool.false_eq_true,and_self,true_and,ja,j9,Out.bindR_ret,jb,jf,Nat.zero_add,beq_self_eq_true,bne_self_eq_false,je,jc,eq_self,jh,jg,j3r,hb,eO,eP,z0,z1,z10,zt,Int.le_refl,Int.toNat_zero,hz,q0,q1,i0,i1,g0,g1,fX,fY,eL,fZ,eS,o1,o2,s1,s2,s3,c1,c2,c3,e1,h2,h4,t1,t2,t3,t4]
  ·have e2:(k == 2 || k == 3 || k == 4)=false:=by
    rw [Bool.eq_false_iff]
    simp only [ne_eq,Bool.or_eq_true,beq_iff_eq]
    omega
   rw [e2] at c1
   simp only [qL,qI,qS,qB,yx,List.getD_cons_zero,List.getD_cons_succ,DC.bb_b,DC.ii_i,DC.ss_s,DC.ll_sl,List.length_map,jd,Int.natCast_nonneg,decide_true,decide_false,if_true,if_false,Bool.false_eq_true,and_self,true_and,ja,j9,Out.bindR_ret,jb,jf,Nat.zero_add,beq_self_eq_true,bne_self_eq_false,je,jc,eq_self,jh,jg,j3r,hb,eO,eP,z0,z1,z10,zt,Int.le_refl,Int.toNat_zero,hz,q0,q1,i0,i1,g0,g1,fX,fY,eL,fZ,eS,o1,o2,s1,s2,s3,c1,c2,c3,e1,h2,h4,t1,t2,t3,t4]
 ·have e5:(k == 5)=false:=beq_eq_false_iff_ne.2 (by omega)
  have e2:(k == 2 || k == 3 || k == 4)=false:=by
   rw [Bool.eq_false_iff]
   simp only [ne_eq,Bool.or_eq_true,beq_iff_eq]
   omega
  rw [e5,Bool.or_false] at c3
  rw [e2] at c1
  cases e1:(k == 1) with
  | true =>
   rw [e1] at c3
   simp only [qL,qI,qS,qB,yx,List.getD_cons_zero,List.getD_cons_succ,DC.bb_b,DC.ii_i,DC.ss_s,DC.ll_sl,List.length_map,jd,Int.natCast_nonneg,decide_true,decide_false,if_true,if_false,Bool.false_eq_true,and_self,true_and,ja,j9,Out.bindR_ret,jb,jf,Nat.zero_add,beq_self_eq_true,bne_self_eq_false,je,jc,eq_self,jh,jg,j3r,hb,eO,eP,z0,z1,z10,zt,Int.le_refl,Int.toNat_zero,hz,q0,q1,i0,i1,g0,g1,fX,fY,eL,fZ,eS,o1,o2,s1,s2,s3,c1,c2,c3,e1,h2,t1,t2,t3,t4]
  | false =>
   rw [e1] at c3
   simp only [qL,qI,qS,qB,yx,List.getD_cons_zero,List.getD_cons_succ,DC.bb_b,DC.ii_i,DC.ss_s,DC.ll_sl,List.length_map,jd,Int.natCast_nonneg,decide_true,decide_false,if_true,if_false,Bool.false_eq_true,and_self,true_and,ja,j9,Out.bindR_ret,jb,jf,Nat.zero_add,beq_self_eq_true,bne_self_eq_false,je,jc,eq_self,jh,jg,j3r,hb,eO,eP,z0,z1,z10,zt,Int.le_refl,Int.toNat_zero,hz,q0,q1,i0,i1,g0,g1,fX,fY,eL,fZ,eS,o1,o2,s1,s2,s3,c1,c2,c3,e1,e5,h2,t1,t2,t3,t4]
end Go.Proofs.QV
