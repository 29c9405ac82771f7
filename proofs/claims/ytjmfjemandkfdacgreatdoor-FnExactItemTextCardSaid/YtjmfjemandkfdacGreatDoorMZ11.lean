import Derived.Test.YtjmfjemandkfdacGreatDoorMZ8
import Derived.Test.YtjmfjemandkfdacGreatDoorMZ6
import Derived.Test.YtjmfjemandkfdacGreatDoorMZ9
import Derived.Test.YtjmfjemandkfdacGreatDoorMZ10
/- What the helpers of the laws do (written by a program). -/
namespace Go.Proofs.QV
open Go
open _root_.List renaming mem_map_of_mem → jD, getElem_mem → je, length_append → j3, length_cons → j4, length_nil → j6, map_cons → jL, cons_append → jN, nil_append → jy, append_nil → jV
open _root_.Int renaming toNat_natCast → j7, natCast_zero → jI
open _root_.Bool renaming not_true → jh, and_eq_true → jj, not_false → jn
open Out renaming andThen_norm → j8, andThenB_ret → jd, andThenB_norm → j9, andThenB_ex → jc
set_option linter.unusedVariables false
set_option linter.unusedSimpArgs false
set_option maxRecDepth 100000
theorem j9i (ns:List (List UInt8)) (ok:(DC.sl (ns.map S1)).ok) (left:Int) (h0:0 ≤ left) (h1:left ≤ 1048576):KE [.sl (ns.map S1),.i left] = .ret [.i (VL left (DC.wt (.sl (ns.map S1))))]:=by
 rw [DC.ok,zm] at ok
 obtain ⟨hl,ok⟩:=ok
 rw [j5F]
 simp only [j0O,jr,jv,zb,zi,zs,zl]
 refine Xa hl (fun i hi left h0 h1=>?_) (fun left=>?_) h0 h1
 ·have hn:=Vq ok (S1 ns[i]) (jD (je hi))
  simp only [S1,Xz,DC.ok] at hn
  have hw:IntKind.i64.wrap (left - (ns[i].length:Int))=left - (ns[i].length:Int):=kp (by omega) (by omega)
  have hc1:(i:Int) < (ns.length:Int):=by omega
  simp only [QN,jr,jv,zb,zi,zs,zl,j7,zm,jq hi,S1,jQ,DC.wt,hw]
  by_cases hc:left < (ns[i].length:Int)
  ·simp [hi,hc1,hc,show left - (ns[i].length:Int) < 0 by omega]
  ·simp [hi,hc1,hc,show ¬ left - (ns[i].length:Int) < 0 by omega,jp hi hl]
 ·simp [QN]
theorem j9e (ns:List (List UInt8)) (hl:ns.length ≤ 1048576):KA [.sl (ns.map S1)] = .ret [.sl (ns.map S1)]:=by
 rw [j5C]
 simp only [j0L,jr,jv,zb,zi,zs,zl]
 rw [if_pos ⟨by omega,by rw [zm]; exact j0b hl,trivial,by omega,by omega⟩,j7,zm,show (0:Int)=((0:Nat):Int) from rfl,Q8 hl (fun i hi cur h1 h2=>?_) (fun cur=>?_)]
 ·rfl
 ·have hc1:(i:Int) < (ns.length:Int):=by omega
  simp only [QL,jr,jv,zb,zi,zs,zl,j7,zm,jq hi,h1,h2,S1]
  simp [hi,hc1,jp hi (show ns.length ≤ 9223372036854775807 by omega),pS]
 ·simp [QL]
theorem jaS (ns:List (List UInt8)) (hl:ns.length ≤ 1048576):KH [.sl (ns.map S1),.sl (ns.map S1)] = .ret [.b true]:=by
 rw [j5I]
 simp only [j0R,jr,jv,zb,zi,zs,zl]
 refine Xm (fun i hi=>?_) ?_
 ·rw [zm] at hi
  have hc1:(i:Int) < (ns.length:Int):=by omega
  simp only [QP,jr,jv,zb,zi,zs,zl,j7,zm,jq hi,S1]
  simp [hi,hc1,jp hi (show ns.length ≤ 9223372036854775807 by omega)]
 ·simp [QP]
theorem j4u (v:TValue):jQ (TValue.enc v)=v.text.length + DC.wt (.sl (v.items.map TValue.enc)) + DC.wt (.sl (v.names.map S1)):=by
 simp only [TValue.enc_eq,jQ,DC.wt]
 try omega
theorem jfw (vs:List TValue) (hs:∀ v ∈ vs,Xz (TValue.enc v) → ∀ left:Int,0 ≤ left → left ≤ 1048576 → yA [.i v.kind,.s v.text,.sl (v.items.map TValue.enc),.sl (v.names.map S1),.i left] = .ret [.i (VL left (jQ (TValue.enc v)))]) (ok:(DC.sl (vs.map TValue.enc)).ok) (left:Int) (h0:0 ≤ left) (h1:left ≤ 1048576):XP [.sl (vs.map TValue.enc),.i left] = .ret [.i (VL left (DC.wt (.sl (vs.map TValue.enc))))]:=by
 rw [DC.ok,zm] at ok
 obtain ⟨hl,ok⟩:=ok
 rw [j74]
 simp only [j1P,jr,jv,zb,zi,zs,zl]
 refine Xa hl (fun i hi left h0 h1=>?_) (fun left=>?_) h0 h1
 ·have key:=hs vs[i] (je hi) (Vq ok _ (jD (je hi))) left h0 h1
  generalize jQ (TValue.enc vs[i])=w at key ⊢
  have hc1:(i:Int) < (vs.length:Int):=by omega
  simp only [VG,jr,jv,zb,zi,zs,zl,j7,zm,jq hi,TValue.enc_eq,key,zr]
  by_cases hc:left < (w:Int)
  ·simp [hi,hc1,hc,jK hc]
  ·simp [hi,hc1,hc,kt hc,show ¬ left - (w:Int) < 0 by omega,jp hi hl]
 ·simp [VG]
theorem j9h (v:TValue):Xz (TValue.enc v) → ∀ left:Int,0 ≤ left → left ≤ 1048576 → yA [.i v.kind,.s v.text,.sl (v.items.map TValue.enc),.sl (v.names.map S1),.i left] = .ret [.i (VL left (jQ (TValue.enc v)))]:=by
 induction v using TValue.ind with | h v ih =>
 intro ok left h0 h1
 rw [TValue.enc_eq] at ok
 simp only [Xz] at ok
 rw [j8z]
 simp only [j2P,jr,jv,zb,zi,zs,zl]
 rw [j4u]
 have b0:v.text.length ≤ 9223372036854775807:=by simpa only [DC.ok] using ok.2.1
 rw [show IntKind.i64.wrap (left - (v.text.length:Int))=left - (v.text.length:Int) from kp (by omega) (by omega)]
 by_cases c0:left < ((v.text.length:Nat):Int)
 ·have c0':left - ((v.text.length:Nat):Int) < 0:=by omega
  simp only [c0',decide_true,if_true]
  try rw [jK (by omega)]
 have c0':¬ left - ((v.text.length:Nat):Int) < 0:=by omega
 simp only [c0',decide_false,zf,if_false]
 rw [jfw v.items (fun x hx=>ih x hx) ok.2.2.1 ((left - ((v.text.length:Nat):Int))) (by omega) (by omega)]
 simp only [zr,jr,jv,zb,zi,zs,zl]
 by_cases c1:(left - ((v.text.length:Nat):Int)) < ((DC.wt (.sl (v.items.map TValue.enc)):Nat):Int)
 ·rw [jK c1]
  simp only [show (-1:Int) < 0 by omega,decide_true,if_true]
  try rw [jK (by omega)]
 rw [kt c1]
 have c1':¬ (left - ((v.text.length:Nat):Int)) - ((DC.wt (.sl (v.items.map TValue.enc)):Nat):Int) < 0:=by omega
 simp only [c1',decide_false,zf,if_false]
 rw [j9i v.names ok.2.2.2.1 (((left - ((v.text.length:Nat):Int)) - ((DC.wt (.sl (v.items.map TValue.enc)):Nat):Int))) (by omega) (by omega)]
 simp only [zr,jr,jv,zb,zi,zs,zl]
 by_cases c2:((left - ((v.text.length:Nat):Int)) - ((DC.wt (.sl (v.items.map TValue.enc)):Nat):Int)) < ((DC.wt (.sl (v.names.map S1)):Nat):Int)
 ·rw [jK c2]
  simp only [show (-1:Int) < 0 by omega,decide_true,if_true]
  try rw [jK (by omega)]
 rw [kt c2]
 have c2':¬ ((left - ((v.text.length:Nat):Int)) - ((DC.wt (.sl (v.items.map TValue.enc)):Nat):Int)) - ((DC.wt (.sl (v.names.map S1)):Nat):Int) < 0:=by omega
 simp only [c2',decide_false,zf,if_false]
 first
 | done
 | rw [show VL left (v.text.length + DC.wt (.sl (v.items.map TValue.enc)) + DC.wt (.sl (v.names.map S1)))=(((left - ((v.text.length:Nat):Int)) - ((DC.wt (.sl (v.items.map TValue.enc)):Nat):Int)) - ((DC.wt (.sl (v.names.map S1)):Nat):Int)) from (kt (by omega)).trans (by omega)]
theorem jfr (vs:List TValue) (hs:∀ v ∈ vs,jQ (TValue.enc v) ≤ 1048576 → yz [.i v.kind,.s v.text,.sl (v.items.map TValue.enc),.sl (v.names.map S1)] = .ret (TValue.enc v)) (hw:DC.wt (.sl (vs.map TValue.enc)) ≤ 1048576):XO [.sl (vs.map TValue.enc)] = .ret [.sl (vs.map TValue.enc)]:=by
 rw [DC.wt,zm] at hw
 have hl:vs.length ≤ 1048576:=by omega
 rw [j71]
 simp only [j1M,jr,jv,zb,zi,zs,zl]
 rw [if_pos ⟨by omega,by rw [zm]; exact j0b hl,trivial,by omega,by omega⟩,j7,zm,show (0:Int)=((0:Nat):Int) from rfl,Q8 hl (fun i hi cur h1 h2=>?_) (fun cur=>?_)]
 ·rfl
 ·have key:=hs vs[i] (je hi) (by have:=qI (jD (f:=TValue.enc) (je hi)); omega)
  have hc1:(i:Int) < (vs.length:Int):=by omega
  simp only [VE,jr,jv,zb,zi,zs,zl,j7,zm,jq hi,h1,h2,TValue.enc_eq] at key ⊢
  simp only [key,jr,jv,zb,zi,zs,zl,zr]
  simp [hi,hc1,jp hi (show vs.length ≤ 9223372036854775807 by omega),pS]
 ·simp [VE]
theorem j9d (v:TValue):jQ (TValue.enc v) ≤ 1048576 → yz [.i v.kind,.s v.text,.sl (v.items.map TValue.enc),.sl (v.names.map S1)] = .ret (TValue.enc v):=by
 induction v using TValue.ind with | h v ih =>
 intro hw
 rw [j4u] at hw
 rw [j8w]
 simp only [j2M,jr,jv,zb,zi,zs,zl]
 rw [jfr v.items (fun x hx=>ih x hx) (by omega)]
 simp only [zr,jr,jv,zb,zi,zs,zl]
 rw [j9e v.names (by have h:=hw; simp only [DC.wt,zm] at h; omega)]
 simp only [zr,jr,jv,zb,zi,zs,zl]
 rw [TValue.enc_eq]
theorem jgi (vs:List TValue) (hs:∀ v ∈ vs,jQ (TValue.enc v) ≤ 1048576 → yB [.i v.kind,.s v.text,.sl (v.items.map TValue.enc),.sl (v.names.map S1),.i v.kind,.s v.text,.sl (v.items.map TValue.enc),.sl (v.names.map S1)] = .ret [.b true]) (hw:DC.wt (.sl (vs.map TValue.enc)) ≤ 1048576):XQ [.sl (vs.map TValue.enc),.sl (vs.map TValue.enc)] = .ret [.b true]:=by
 rw [DC.wt,zm] at hw
 have hl:vs.length ≤ 1048576:=by omega
 rw [j77]
 simp only [j1S,jr,jv,zb,zi,zs,zl]
 refine Xm (fun i hi=>?_) ?_
 ·rw [zm] at hi
  have key:=hs vs[i] (je hi) (by have:=qI (jD (f:=TValue.enc) (je hi)); omega)
  have hc1:(i:Int) < (vs.length:Int):=by omega
  simp only [VI,jr,jv,zb,zi,zs,zl,j7,zm,jq hi,TValue.enc_eq] at key ⊢
  simp only [key,jr,jv,zb,zi,zs,zl,zr]
  simp [hi,hc1,jp hi (show vs.length ≤ 9223372036854775807 by omega)]
 ·simp [VI]
theorem jaR (v:TValue):jQ (TValue.enc v) ≤ 1048576 → yB [.i v.kind,.s v.text,.sl (v.items.map TValue.enc),.sl (v.names.map S1),.i v.kind,.s v.text,.sl (v.items.map TValue.enc),.sl (v.names.map S1)] = .ret [.b true]:=by
 induction v using TValue.ind with | h v ih =>
 intro hw
 rw [j4u] at hw
 rw [j8C]
 simp only [j2S,jr,jv,zb,zi,zs,zl,bne_self_eq_false,beq_self_eq_true,jh,zf,if_false]
 rw [jgi v.items (fun x hx=>ih x hx) (by omega)]
 simp only [zr,jr,jv,zb,zi,zs,zl,bne_self_eq_false,beq_self_eq_true,jh,zf,if_false]
 rw [jaS v.names (by have h:=hw; simp only [DC.wt,zm] at h; omega)]
 simp only [zr,jr,jv,zb,zi,zs,zl,bne_self_eq_false,beq_self_eq_true,jh,zf,if_false]
theorem j6w (v:TType):jQ (TType.enc v)=v.name.length + v.wraps.length:=by
 simp only [TType.enc_eq,jQ,DC.wt]
 try omega
theorem jcV (v:TType):Xz (TType.enc v) → ∀ left:Int,0 ≤ left → left ≤ 1048576 → Qc [.s v.name,.s v.wraps,.i left] = .ret [.i (VL left (jQ (TType.enc v)))]:=by
 intro ok left h0 h1
 rw [TType.enc_eq] at ok
 simp only [Xz] at ok
 rw [jao]
 simp only [j44,jr,jv,zb,zi,zs,zl]
 rw [j6w]
 have b0:v.name.length ≤ 9223372036854775807:=by simpa only [DC.ok] using ok.1
 have b1:v.wraps.length ≤ 9223372036854775807:=by simpa only [DC.ok] using ok.2.1
 rw [show IntKind.i64.wrap (left - (v.name.length:Int))=left - (v.name.length:Int) from kp (by omega) (by omega)]
 by_cases c0:left < ((v.name.length:Nat):Int)
 ·have c0':left - ((v.name.length:Nat):Int) < 0:=by omega
  simp only [c0',decide_true,if_true]
  try rw [jK (by omega)]
 have c0':¬ left - ((v.name.length:Nat):Int) < 0:=by omega
 simp only [c0',decide_false,zf,if_false]
 rw [show IntKind.i64.wrap ((left - ((v.name.length:Nat):Int)) - (v.wraps.length:Int))=(left - ((v.name.length:Nat):Int)) - (v.wraps.length:Int) from kp (by omega) (by omega)]
 by_cases c1:(left - ((v.name.length:Nat):Int)) < ((v.wraps.length:Nat):Int)
 ·have c1':(left - ((v.name.length:Nat):Int)) - ((v.wraps.length:Nat):Int) < 0:=by omega
  simp only [c1',decide_true,if_true]
  try rw [jK (by omega)]
 have c1':¬ (left - ((v.name.length:Nat):Int)) - ((v.wraps.length:Nat):Int) < 0:=by omega
 simp only [c1',decide_false,zf,if_false]
 first
 | done
 | rw [show VL left (v.name.length + v.wraps.length)=((left - ((v.name.length:Nat):Int)) - ((v.wraps.length:Nat):Int)) from (kt (by omega)).trans (by omega)]
theorem jcR (v:TType):jQ (TType.enc v) ≤ 1048576 → Q9 [.s v.name,.s v.wraps] = .ret (TType.enc v):=by
 intro hw
 rw [j6w] at hw
 rw [jah]
 simp only [j3X,jr,jv,zb,zi,zs,zl]
 rw [TType.enc_eq]
theorem jdH (v:TType):jQ (TType.enc v) ≤ 1048576 → Qe [.s v.name,.s v.wraps,.s v.name,.s v.wraps] = .ret [.b true]:=by
 intro hw
 rw [j6w] at hw
 rw [jav]
 simp only [j4b,jr,jv,zb,zi,zs,zl,bne_self_eq_false,beq_self_eq_true,jh,zf,if_false]
theorem j98 (v:TArg):jQ (TArg.enc v)=v.name.length + jQ (TValue.enc v.value):=by
 simp only [TArg.enc_eq,jQ,DC.wt,TValue.enc_eq]
 try omega
theorem jjK (v:TArg):Xz (TArg.enc v) → ∀ left:Int,0 ≤ left → left ≤ 1048576 → Ym [.s v.name,.i v.value.kind,.s v.value.text,.sl (v.value.items.map TValue.enc),.sl (v.value.names.map S1),.i left] = .ret [.i (VL left (jQ (TArg.enc v)))]:=by
 intro ok left h0 h1
 rw [TArg.enc_eq] at ok
 simp only [Xz] at ok
 rw [jbJ]
 simp only [j6n,jr,jv,zb,zi,zs,zl]
 rw [j98]
 have b0:v.name.length ≤ 9223372036854775807:=by simpa only [DC.ok] using ok.1
 rw [show IntKind.i64.wrap (left - (v.name.length:Int))=left - (v.name.length:Int) from kp (by omega) (by omega)]
 by_cases c0:left < ((v.name.length:Nat):Int)
 ·have c0':left - ((v.name.length:Nat):Int) < 0:=by omega
  simp only [c0',decide_true,if_true]
  try rw [jK (by omega)]
 have c0':¬ left - ((v.name.length:Nat):Int) < 0:=by omega
 simp only [c0',decide_false,zf,if_false]
 rw [j9h v.value (by rw [TValue.enc_eq]; simp only [Xz]; exact ⟨ok.2.1,ok.2.2.1,ok.2.2.2.1,ok.2.2.2.2.1,trivial⟩) ((left - ((v.name.length:Nat):Int))) (by omega) (by omega)]
 simp only [zr,jr,jv,zb,zi,zs,zl]
 by_cases c1:(left - ((v.name.length:Nat):Int)) < ((jQ (TValue.enc v.value):Nat):Int)
 ·rw [jK c1]
  simp only [show (-1:Int) < 0 by omega,decide_true,if_true]
  try rw [jK (by omega)]
 rw [kt c1]
 have c1':¬ (left - ((v.name.length:Nat):Int)) - ((jQ (TValue.enc v.value):Nat):Int) < 0:=by omega
 simp only [c1',decide_false,zf,if_false]
 first
 | done
 | rw [show VL left (v.name.length + jQ (TValue.enc v.value))=((left - ((v.name.length:Nat):Int)) - ((jQ (TValue.enc v.value):Nat):Int)) from (kt (by omega)).trans (by omega)]
theorem jhY (vs:List TArg) (hs:∀ v ∈ vs,Xz (TArg.enc v) → ∀ left:Int,0 ≤ left → left ≤ 1048576 → Ym [.s v.name,.i v.value.kind,.s v.value.text,.sl (v.value.items.map TValue.enc),.sl (v.value.names.map S1),.i left] = .ret [.i (VL left (jQ (TArg.enc v)))]) (ok:(DC.sl (vs.map TArg.enc)).ok) (left:Int) (h0:0 ≤ left) (h1:left ≤ 1048576):Qd [.sl (vs.map TArg.enc),.i left] = .ret [.i (VL left (DC.wt (.sl (vs.map TArg.enc))))]:=by
 rw [DC.ok,zm] at ok
 obtain ⟨hl,ok⟩:=ok
 rw [jau]
 simp only [j4a,jr,jv,zb,zi,zs,zl]
 refine Xa hl (fun i hi left h0 h1=>?_) (fun left=>?_) h0 h1
 ·have key:=hs vs[i] (je hi) (Vq ok _ (jD (je hi))) left h0 h1
  generalize jQ (TArg.enc vs[i])=w at key ⊢
  have hc1:(i:Int) < (vs.length:Int):=by omega
  simp only [Y6,jr,jv,zb,zi,zs,zl,j7,zm,jq hi,TArg.enc_eq,key,zr]
  by_cases hc:left < (w:Int)
  ·simp [hi,hc1,hc,jK hc]
  ·simp [hi,hc1,hc,kt hc,show ¬ left - (w:Int) < 0 by omega,jp hi hl]
 ·simp [Y6]
theorem jgw (vs:List TArg) (ok:(DC.sl (vs.map TArg.enc)).ok) (left:Int) (h0:0 ≤ left) (h1:left ≤ 1048576):Qd [.sl (vs.map TArg.enc),.i left] = .ret [.i (VL left (DC.wt (.sl (vs.map TArg.enc))))]:=jhY vs (fun v _=>jjK v) ok left h0 h1
theorem jjF (v:TArg):jQ (TArg.enc v) ≤ 1048576 → Yj [.s v.name,.i v.value.kind,.s v.value.text,.sl (v.value.items.map TValue.enc),.sl (v.value.names.map S1)] = .ret (TArg.enc v):=by
 intro hw
 rw [j98] at hw
 rw [jbF]
 simp only [j6j,jr,jv,zb,zi,zs,zl]
 rw [j9d v.value (by omega)]
 simp only [zr,TValue.enc_eq,jr,jv,zb,zi,zs,zl]
 rw [TArg.enc_eq]
theorem jhS (vs:List TArg) (hs:∀ v ∈ vs,jQ (TArg.enc v) ≤ 1048576 → Yj [.s v.name,.i v.value.kind,.s v.value.text,.sl (v.value.items.map TValue.enc),.sl (v.value.names.map S1)] = .ret (TArg.enc v)) (hw:DC.wt (.sl (vs.map TArg.enc)) ≤ 1048576):Qb [.sl (vs.map TArg.enc)] = .ret [.sl (vs.map TArg.enc)]:=by
 rw [DC.wt,zm] at hw
 have hl:vs.length ≤ 1048576:=by omega
 rw [jan]
 simp only [j43,jr,jv,zb,zi,zs,zl]
 rw [if_pos ⟨by omega,by rw [zm]; exact j0b hl,trivial,by omega,by omega⟩,j7,zm,show (0:Int)=((0:Nat):Int) from rfl,Q8 hl (fun i hi cur h1 h2=>?_) (fun cur=>?_)]
 ·rfl
 ·have key:=hs vs[i] (je hi) (by have:=qI (jD (f:=TArg.enc) (je hi)); omega)
  have hc1:(i:Int) < (vs.length:Int):=by omega
  simp only [Y3,jr,jv,zb,zi,zs,zl,j7,zm,jq hi,h1,h2,TArg.enc_eq] at key ⊢
  simp only [key,jr,jv,zb,zi,zs,zl,zr]
  simp [hi,hc1,jp hi (show vs.length ≤ 9223372036854775807 by omega),pS]
 ·simp [Y3]
theorem jgs (vs:List TArg) (hw:DC.wt (.sl (vs.map TArg.enc)) ≤ 1048576):Qb [.sl (vs.map TArg.enc)] = .ret [.sl (vs.map TArg.enc)]:=jhS vs (fun v _=>jjF v) hw
theorem jjV (v:TArg):jQ (TArg.enc v) ≤ 1048576 → Yp [.s v.name,.i v.value.kind,.s v.value.text,.sl (v.value.items.map TValue.enc),.sl (v.value.names.map S1),.s v.name,.i v.value.kind,.s v.value.text,.sl (v.value.items.map TValue.enc),.sl (v.value.names.map S1)] = .ret [.b true]:=by
 intro hw
 rw [j98] at hw
 rw [jbN]
 simp only [j6r,jr,jv,zb,zi,zs,zl,bne_self_eq_false,beq_self_eq_true,jh,zf,if_false]
 rw [jaR v.value (by omega)]
 simp only [zr,jr,jv,zb,zi,zs,zl,bne_self_eq_false,beq_self_eq_true,jh,zf,if_false]
theorem jiM (vs:List TArg) (hs:∀ v ∈ vs,jQ (TArg.enc v) ≤ 1048576 → Yp [.s v.name,.i v.value.kind,.s v.value.text,.sl (v.value.items.map TValue.enc),.sl (v.value.names.map S1),.s v.name,.i v.value.kind,.s v.value.text,.sl (v.value.items.map TValue.enc),.sl (v.value.names.map S1)] = .ret [.b true]) (hw:DC.wt (.sl (vs.map TArg.enc)) ≤ 1048576):Qf [.sl (vs.map TArg.enc),.sl (vs.map TArg.enc)] = .ret [.b true]:=by
 rw [DC.wt,zm] at hw
 have hl:vs.length ≤ 1048576:=by omega
 rw [jaB]
 simp only [j4h,jr,jv,zb,zi,zs,zl]
 refine Xm (fun i hi=>?_) ?_
 ·rw [zm] at hi
  have key:=hs vs[i] (je hi) (by have:=qI (jD (f:=TArg.enc) (je hi)); omega)
  have hc1:(i:Int) < (vs.length:Int):=by omega
  simp only [Y9,jr,jv,zb,zi,zs,zl,j7,zm,jq hi,TArg.enc_eq] at key ⊢
  simp only [key,jr,jv,zb,zi,zs,zl,zr]
  simp [hi,hc1,jp hi (show vs.length ≤ 9223372036854775807 by omega)]
 ·simp [Y9]
theorem jgU (vs:List TArg) (hw:DC.wt (.sl (vs.map TArg.enc)) ≤ 1048576):Qf [.sl (vs.map TArg.enc),.sl (vs.map TArg.enc)] = .ret [.b true]:=jiM vs (fun v _=>jjV v) hw
theorem j96 (v:TDir):jQ (TDir.enc v)=v.name.length + DC.wt (.sl (v.args.map TArg.enc)):=by
 simp only [TDir.enc_eq,jQ,DC.wt]
 try omega
theorem jjI (v:TDir):Xz (TDir.enc v) → ∀ left:Int,0 ≤ left → left ≤ 1048576 → Yl [.s v.name,.sl (v.args.map TArg.enc),.i left] = .ret [.i (VL left (jQ (TDir.enc v)))]:=by
 intro ok left h0 h1
 rw [TDir.enc_eq] at ok
 simp only [Xz] at ok
 rw [jbH]
 simp only [j6l,jr,jv,zb,zi,zs,zl]
 rw [j96]
 have b0:v.name.length ≤ 9223372036854775807:=by simpa only [DC.ok] using ok.1
 rw [show IntKind.i64.wrap (left - (v.name.length:Int))=left - (v.name.length:Int) from kp (by omega) (by omega)]
 by_cases c0:left < ((v.name.length:Nat):Int)
 ·have c0':left - ((v.name.length:Nat):Int) < 0:=by omega
  simp only [c0',decide_true,if_true]
  try rw [jK (by omega)]
 have c0':¬ left - ((v.name.length:Nat):Int) < 0:=by omega
 simp only [c0',decide_false,zf,if_false]
 rw [jgw v.args ok.2.1 ((left - ((v.name.length:Nat):Int))) (by omega) (by omega)]
 simp only [zr,jr,jv,zb,zi,zs,zl]
 by_cases c1:(left - ((v.name.length:Nat):Int)) < ((DC.wt (.sl (v.args.map TArg.enc)):Nat):Int)
 ·rw [jK c1]
  simp only [show (-1:Int) < 0 by omega,decide_true,if_true]
  try rw [jK (by omega)]
 rw [kt c1]
 have c1':¬ (left - ((v.name.length:Nat):Int)) - ((DC.wt (.sl (v.args.map TArg.enc)):Nat):Int) < 0:=by omega
 simp only [c1',decide_false,zf,if_false]
 first
 | done
 | rw [show VL left (v.name.length + DC.wt (.sl (v.args.map TArg.enc)))=((left - ((v.name.length:Nat):Int)) - ((DC.wt (.sl (v.args.map TArg.enc)):Nat):Int)) from (kt (by omega)).trans (by omega)]
theorem jhX (vs:List TDir) (hs:∀ v ∈ vs,Xz (TDir.enc v) → ∀ left:Int,0 ≤ left → left ≤ 1048576 → Yl [.s v.name,.sl (v.args.map TArg.enc),.i left] = .ret [.i (VL left (jQ (TDir.enc v)))]) (ok:(DC.sl (vs.map TDir.enc)).ok) (left:Int) (h0:0 ≤ left) (h1:left ≤ 1048576):pN [.sl (vs.map TDir.enc),.i left] = .ret [.i (VL left (DC.wt (.sl (vs.map TDir.enc))))]:=by
 rw [DC.ok,zm] at ok
 obtain ⟨hl,ok⟩:=ok
 rw [jat]
 simp only [j49,jr,jv,zb,zi,zs,zl]
 refine Xa hl (fun i hi left h0 h1=>?_) (fun left=>?_) h0 h1
 ·have key:=hs vs[i] (je hi) (Vq ok _ (jD (je hi))) left h0 h1
  generalize jQ (TDir.enc vs[i])=w at key ⊢
  have hc1:(i:Int) < (vs.length:Int):=by omega
  simp only [Y5,jr,jv,zb,zi,zs,zl,j7,zm,jq hi,TDir.enc_eq,key,zr]
  by_cases hc:left < (w:Int)
  ·simp [hi,hc1,hc,jK hc]
  ·simp [hi,hc1,hc,kt hc,show ¬ left - (w:Int) < 0 by omega,jp hi hl]
 ·simp [Y5]
theorem Zl (vs:List TDir) (ok:(DC.sl (vs.map TDir.enc)).ok) (left:Int) (h0:0 ≤ left) (h1:left ≤ 1048576):pN [.sl (vs.map TDir.enc),.i left] = .ret [.i (VL left (DC.wt (.sl (vs.map TDir.enc))))]:=jhX vs (fun v _=>jjI v) ok left h0 h1
theorem jjD (v:TDir):jQ (TDir.enc v) ≤ 1048576 → Yi [.s v.name,.sl (v.args.map TArg.enc)] = .ret (TDir.enc v):=by
 intro hw
 rw [j96] at hw
 rw [jbD]
 simp only [j6h,jr,jv,zb,zi,zs,zl]
 rw [jgs v.args (by omega)]
 simp only [zr,jr,jv,zb,zi,zs,zl]
 rw [TDir.enc_eq]
theorem jhR (vs:List TDir) (hs:∀ v ∈ vs,jQ (TDir.enc v) ≤ 1048576 → Yi [.s v.name,.sl (v.args.map TArg.enc)] = .ret (TDir.enc v)) (hw:DC.wt (.sl (vs.map TDir.enc)) ≤ 1048576):pM [.sl (vs.map TDir.enc)] = .ret [.sl (vs.map TDir.enc)]:=by
 rw [DC.wt,zm] at hw
 have hl:vs.length ≤ 1048576:=by omega
 rw [jam]
 simp only [j42,jr,jv,zb,zi,zs,zl]
 rw [if_pos ⟨by omega,by rw [zm]; exact j0b hl,trivial,by omega,by omega⟩,j7,zm,show (0:Int)=((0:Nat):Int) from rfl,Q8 hl (fun i hi cur h1 h2=>?_) (fun cur=>?_)]
 ·rfl
 ·have key:=hs vs[i] (je hi) (by have:=qI (jD (f:=TDir.enc) (je hi)); omega)
  have hc1:(i:Int) < (vs.length:Int):=by omega
  simp only [Y2,jr,jv,zb,zi,zs,zl,j7,zm,jq hi,h1,h2,TDir.enc_eq] at key ⊢
  simp only [key,jr,jv,zb,zi,zs,zl,zr]
  simp [hi,hc1,jp hi (show vs.length ≤ 9223372036854775807 by omega),pS]
 ·simp [Y2]
theorem Zk (vs:List TDir) (hw:DC.wt (.sl (vs.map TDir.enc)) ≤ 1048576):pM [.sl (vs.map TDir.enc)] = .ret [.sl (vs.map TDir.enc)]:=jhR vs (fun v _=>jjD v) hw
theorem jjT (v:TDir):jQ (TDir.enc v) ≤ 1048576 → Yo [.s v.name,.sl (v.args.map TArg.enc),.s v.name,.sl (v.args.map TArg.enc)] = .ret [.b true]:=by
 intro hw
 rw [j96] at hw
 rw [jbL]
 simp only [j6p,jr,jv,zb,zi,zs,zl,bne_self_eq_false,beq_self_eq_true,jh,zf,if_false]
 rw [jgU v.args (by omega)]
 simp only [zr,jr,jv,zb,zi,zs,zl,bne_self_eq_false,beq_self_eq_true,jh,zf,if_false]
theorem jiL (vs:List TDir) (hs:∀ v ∈ vs,jQ (TDir.enc v) ≤ 1048576 → Yo [.s v.name,.sl (v.args.map TArg.enc),.s v.name,.sl (v.args.map TArg.enc)] = .ret [.b true]) (hw:DC.wt (.sl (vs.map TDir.enc)) ≤ 1048576):pO [.sl (vs.map TDir.enc),.sl (vs.map TDir.enc)] = .ret [.b true]:=by
 rw [DC.wt,zm] at hw
 have hl:vs.length ≤ 1048576:=by omega
 rw [jaA]
 simp only [j4g,jr,jv,zb,zi,zs,zl]
 refine Xm (fun i hi=>?_) ?_
 ·rw [zm] at hi
  have key:=hs vs[i] (je hi) (by have:=qI (jD (f:=TDir.enc) (je hi)); omega)
  have hc1:(i:Int) < (vs.length:Int):=by omega
  simp only [Y8,jr,jv,zb,zi,zs,zl,j7,zm,jq hi,TDir.enc_eq] at key ⊢
  simp only [key,jr,jv,zb,zi,zs,zl,zr]
  simp [hi,hc1,jp hi (show vs.length ≤ 9223372036854775807 by omega)]
 ·simp [Y8]
theorem Zy (vs:List TDir) (hw:DC.wt (.sl (vs.map TDir.enc)) ≤ 1048576):pO [.sl (vs.map TDir.enc),.sl (vs.map TDir.enc)] = .ret [.b true]:=jiL vs (fun v _=>jjT v) hw
theorem j95 (v:TSel):jQ (TSel.enc v)=v.alias.length + v.name.length + v.on'.length + DC.wt (.sl (v.args.map TArg.enc)) + DC.wt (.sl (v.dirs.map TDir.enc)) + DC.wt (.sl (v.sels.map TSel.enc)):=by
 simp only [TSel.enc_eq,jQ,DC.wt]
 try omega
theorem jeb (vs:List TSel) (hs:∀ v ∈ vs,Xz (TSel.enc v) → ∀ left:Int,0 ≤ left → left ≤ 1048576 → Yk [.i v.kind,.s v.alias,.s v.name,.s v.on',.sl (v.args.map TArg.enc),.sl (v.dirs.map TDir.enc),.sl (v.sels.map TSel.enc),.i left] = .ret [.i (VL left (jQ (TSel.enc v)))]) (ok:(DC.sl (vs.map TSel.enc)).ok) (left:Int) (h0:0 ≤ left) (h1:left ≤ 1048576):JK [.sl (vs.map TSel.enc),.i left] = .ret [.i (VL left (DC.wt (.sl (vs.map TSel.enc))))]:=by
 rw [DC.ok,zm] at ok
 obtain ⟨hl,ok⟩:=ok
 rw [jap]
 simp only [j45,jr,jv,zb,zi,zs,zl]
 refine Xa hl (fun i hi left h0 h1=>?_) (fun left=>?_) h0 h1
 ·have key:=hs vs[i] (je hi) (Vq ok _ (jD (je hi))) left h0 h1
  generalize jQ (TSel.enc vs[i])=w at key ⊢
  have hc1:(i:Int) < (vs.length:Int):=by omega
  simp only [Y4,jr,jv,zb,zi,zs,zl,j7,zm,jq hi,TSel.enc_eq,key,zr]
  by_cases hc:left < (w:Int)
  ·simp [hi,hc1,hc,jK hc]
  ·simp [hi,hc1,hc,kt hc,show ¬ left - (w:Int) < 0 by omega,jp hi hl]
 ·simp [Y4]
theorem jjH (v:TSel):Xz (TSel.enc v) → ∀ left:Int,0 ≤ left → left ≤ 1048576 → Yk [.i v.kind,.s v.alias,.s v.name,.s v.on',.sl (v.args.map TArg.enc),.sl (v.dirs.map TDir.enc),.sl (v.sels.map TSel.enc),.i left] = .ret [.i (VL left (jQ (TSel.enc v)))]:=by
 induction v using TSel.ind with | h v ih =>
 intro ok left h0 h1
 rw [TSel.enc_eq] at ok
 simp only [Xz] at ok
 rw [jbG]
 simp only [j6k,jr,jv,zb,zi,zs,zl]
 rw [j95]
 have b0:v.alias.length ≤ 9223372036854775807:=by simpa only [DC.ok] using ok.2.1
 have b1:v.name.length ≤ 9223372036854775807:=by simpa only [DC.ok] using ok.2.2.1
 have b2:v.on'.length ≤ 9223372036854775807:=by simpa only [DC.ok] using ok.2.2.2.1
 rw [show IntKind.i64.wrap (left - (v.alias.length:Int))=left - (v.alias.length:Int) from kp (by omega) (by omega)]
 by_cases c0:left < ((v.alias.length:Nat):Int)
 ·have c0':left - ((v.alias.length:Nat):Int) < 0:=by omega
  simp only [c0',decide_true,if_true]
  try rw [jK (by omega)]
 have c0':¬ left - ((v.alias.length:Nat):Int) < 0:=by omega
 simp only [c0',decide_false,zf,if_false]
 rw [show IntKind.i64.wrap ((left - ((v.alias.length:Nat):Int)) - (v.name.length:Int))=(left - ((v.alias.length:Nat):Int)) - (v.name.length:Int) from kp (by omega) (by omega)]
 by_cases c1:(left - ((v.alias.length:Nat):Int)) < ((v.name.length:Nat):Int)
 ·have c1':(left - ((v.alias.length:Nat):Int)) - ((v.name.length:Nat):Int) < 0:=by omega
  simp only [c1',decide_true,if_true]
  try rw [jK (by omega)]
 have c1':¬ (left - ((v.alias.length:Nat):Int)) - ((v.name.length:Nat):Int) < 0:=by omega
 simp only [c1',decide_false,zf,if_false]
 rw [show IntKind.i64.wrap (((left - ((v.alias.length:Nat):Int)) - ((v.name.length:Nat):Int)) - (v.on'.length:Int))=((left - ((v.alias.length:Nat):Int)) - ((v.name.length:Nat):Int)) - (v.on'.length:Int) from kp (by omega) (by omega)]
 by_cases c2:((left - ((v.alias.length:Nat):Int)) - ((v.name.length:Nat):Int)) < ((v.on'.length:Nat):Int)
 ·have c2':((left - ((v.alias.length:Nat):Int)) - ((v.name.length:Nat):Int)) - ((v.on'.length:Nat):Int) < 0:=by omega
  simp only [c2',decide_true,if_true]
  try rw [jK (by omega)]
 have c2':¬ ((left - ((v.alias.length:Nat):Int)) - ((v.name.length:Nat):Int)) - ((v.on'.length:Nat):Int) < 0:=by omega
 simp only [c2',decide_false,zf,if_false]
 rw [jgw v.args ok.2.2.2.2.1 ((((left - ((v.alias.length:Nat):Int)) - ((v.name.length:Nat):Int)) - ((v.on'.length:Nat):Int))) (by omega) (by omega)]
 simp only [zr,jr,jv,zb,zi,zs,zl]
 by_cases c3:(((left - ((v.alias.length:Nat):Int)) - ((v.name.length:Nat):Int)) - ((v.on'.length:Nat):Int)) < ((DC.wt (.sl (v.args.map TArg.enc)):Nat):Int)
 ·rw [jK c3]
  simp only [show (-1:Int) < 0 by omega,decide_true,if_true]
  try rw [jK (by omega)]
 rw [kt c3]
 have c3':¬ (((left - ((v.alias.length:Nat):Int)) - ((v.name.length:Nat):Int)) - ((v.on'.length:Nat):Int)) - ((DC.wt (.sl (v.args.map TArg.enc)):Nat):Int) < 0:=by omega
 simp only [c3',decide_false,zf,if_false]
 rw [Zl v.dirs ok.2.2.2.2.2.1 (((((left - ((v.alias.length:Nat):Int)) - ((v.name.length:Nat):Int)) - ((v.on'.length:Nat):Int)) - ((DC.wt (.sl (v.args.map TArg.enc)):Nat):Int))) (by omega) (by omega)]
 simp only [zr,jr,jv,zb,zi,zs,zl]
 by_cases c4:((((left - ((v.alias.length:Nat):Int)) - ((v.name.length:Nat):Int)) - ((v.on'.length:Nat):Int)) - ((DC.wt (.sl (v.args.map TArg.enc)):Nat):Int)) < ((DC.wt (.sl (v.dirs.map TDir.enc)):Nat):Int)
 ·rw [jK c4]
  simp only [show (-1:Int) < 0 by omega,decide_true,if_true]
  try rw [jK (by omega)]
 rw [kt c4]
 have c4':¬ ((((left - ((v.alias.length:Nat):Int)) - ((v.name.length:Nat):Int)) - ((v.on'.length:Nat):Int)) - ((DC.wt (.sl (v.args.map TArg.enc)):Nat):Int)) - ((DC.wt (.sl (v.dirs.map TDir.enc)):Nat):Int) < 0:=by omega
 simp only [c4',decide_false,zf,if_false]
 rw [jeb v.sels (fun x hx=>ih x hx) ok.2.2.2.2.2.2.1 ((((((left - ((v.alias.length:Nat):Int)) - ((v.name.length:Nat):Int)) - ((v.on'.length:Nat):Int)) - ((DC.wt (.sl (v.args.map TArg.enc)):Nat):Int)) - ((DC.wt (.sl (v.dirs.map TDir.enc)):Nat):Int))) (by omega) (by omega)]
 simp only [zr,jr,jv,zb,zi,zs,zl]
 by_cases c5:(((((left - ((v.alias.length:Nat):Int)) - ((v.name.length:Nat):Int)) - ((v.on'.length:Nat):Int)) - ((DC.wt (.sl (v.args.map TArg.enc)):Nat):Int)) - ((DC.wt (.sl (v.dirs.map TDir.enc)):Nat):Int)) < ((DC.wt (.sl (v.sels.map TSel.enc)):Nat):Int)
 ·rw [jK c5]
  simp only [show (-1:Int) < 0 by omega,decide_true,if_true]
  try rw [jK (by omega)]
 rw [kt c5]
 have c5':¬ (((((left - ((v.alias.length:Nat):Int)) - ((v.name.length:Nat):Int)) - ((v.on'.length:Nat):Int)) - ((DC.wt (.sl (v.args.map TArg.enc)):Nat):Int)) - ((DC.wt (.sl (v.dirs.map TDir.enc)):Nat):Int)) - ((DC.wt (.sl (v.sels.map TSel.enc)):Nat):Int) < 0:=by omega
 simp only [c5',decide_false,zf,if_false]
 first
 | done
 | rw [show VL left (v.alias.length + v.name.length + v.on'.length + DC.wt (.sl (v.args.map TArg.enc)) + DC.wt (.sl (v.dirs.map TDir.enc)) + DC.wt (.sl (v.sels.map TSel.enc)))=((((((left - ((v.alias.length:Nat):Int)) - ((v.name.length:Nat):Int)) - ((v.on'.length:Nat):Int)) - ((DC.wt (.sl (v.args.map TArg.enc)):Nat):Int)) - ((DC.wt (.sl (v.dirs.map TDir.enc)):Nat):Int)) - ((DC.wt (.sl (v.sels.map TSel.enc)):Nat):Int)) from (kt (by omega)).trans (by omega)]
theorem jgv (vs:List TSel) (ok:(DC.sl (vs.map TSel.enc)).ok) (left:Int) (h0:0 ≤ left) (h1:left ≤ 1048576):JK [.sl (vs.map TSel.enc),.i left] = .ret [.i (VL left (DC.wt (.sl (vs.map TSel.enc))))]:=jeb vs (fun v _=>jjH v) ok left h0 h1
theorem je4 (vs:List TSel) (hs:∀ v ∈ vs,jQ (TSel.enc v) ≤ 1048576 → Yh [.i v.kind,.s v.alias,.s v.name,.s v.on',.sl (v.args.map TArg.enc),.sl (v.dirs.map TDir.enc),.sl (v.sels.map TSel.enc)] = .ret (TSel.enc v)) (hw:DC.wt (.sl (vs.map TSel.enc)) ≤ 1048576):JJ [.sl (vs.map TSel.enc)] = .ret [.sl (vs.map TSel.enc)]:=by
 rw [DC.wt,zm] at hw
 have hl:vs.length ≤ 1048576:=by omega
 rw [jai]
 simp only [j3Y,jr,jv,zb,zi,zs,zl]
 rw [if_pos ⟨by omega,by rw [zm]; exact j0b hl,trivial,by omega,by omega⟩,j7,zm,show (0:Int)=((0:Nat):Int) from rfl,Q8 hl (fun i hi cur h1 h2=>?_) (fun cur=>?_)]
 ·rfl
 ·have key:=hs vs[i] (je hi) (by have:=qI (jD (f:=TSel.enc) (je hi)); omega)
  have hc1:(i:Int) < (vs.length:Int):=by omega
  simp only [Y1,jr,jv,zb,zi,zs,zl,j7,zm,jq hi,h1,h2,TSel.enc_eq] at key ⊢
  simp only [key,jr,jv,zb,zi,zs,zl,zr]
  simp [hi,hc1,jp hi (show vs.length ≤ 9223372036854775807 by omega),pS]
 ·simp [Y1]
theorem jjC (v:TSel):jQ (TSel.enc v) ≤ 1048576 → Yh [.i v.kind,.s v.alias,.s v.name,.s v.on',.sl (v.args.map TArg.enc),.sl (v.dirs.map TDir.enc),.sl (v.sels.map TSel.enc)] = .ret (TSel.enc v):=by
 induction v using TSel.ind with | h v ih =>
 intro hw
 rw [j95] at hw
 rw [jbC]
 simp only [j6g,jr,jv,zb,zi,zs,zl]
 rw [jgs v.args (by omega)]
 simp only [zr,jr,jv,zb,zi,zs,zl]
 rw [Zk v.dirs (by omega)]
 simp only [zr,jr,jv,zb,zi,zs,zl]
 rw [je4 v.sels (fun x hx=>ih x hx) (by omega)]
 simp only [zr,jr,jv,zb,zi,zs,zl]
 rw [TSel.enc_eq]
theorem jgr (vs:List TSel) (hw:DC.wt (.sl (vs.map TSel.enc)) ≤ 1048576):JJ [.sl (vs.map TSel.enc)] = .ret [.sl (vs.map TSel.enc)]:=je4 vs (fun v _=>jjC v) hw
theorem jeX (vs:List TSel) (hs:∀ v ∈ vs,jQ (TSel.enc v) ≤ 1048576 → Yn [.i v.kind,.s v.alias,.s v.name,.s v.on',.sl (v.args.map TArg.enc),.sl (v.dirs.map TDir.enc),.sl (v.sels.map TSel.enc),.i v.kind,.s v.alias,.s v.name,.s v.on',.sl (v.args.map TArg.enc),.sl (v.dirs.map TDir.enc),.sl (v.sels.map TSel.enc)] = .ret [.b true]) (hw:DC.wt (.sl (vs.map TSel.enc)) ≤ 1048576):JL [.sl (vs.map TSel.enc),.sl (vs.map TSel.enc)] = .ret [.b true]:=by
 rw [DC.wt,zm] at hw
 have hl:vs.length ≤ 1048576:=by omega
 rw [jaw]
 simp only [j4c,jr,jv,zb,zi,zs,zl]
 refine Xm (fun i hi=>?_) ?_
 ·rw [zm] at hi
  have key:=hs vs[i] (je hi) (by have:=qI (jD (f:=TSel.enc) (je hi)); omega)
  have hc1:(i:Int) < (vs.length:Int):=by omega
  simp only [Y7,jr,jv,zb,zi,zs,zl,j7,zm,jq hi,TSel.enc_eq] at key ⊢
  simp only [key,jr,jv,zb,zi,zs,zl,zr]
  simp [hi,hc1,jp hi (show vs.length ≤ 9223372036854775807 by omega)]
 ·simp [Y7]
theorem jjS (v:TSel):jQ (TSel.enc v) ≤ 1048576 → Yn [.i v.kind,.s v.alias,.s v.name,.s v.on',.sl (v.args.map TArg.enc),.sl (v.dirs.map TDir.enc),.sl (v.sels.map TSel.enc),.i v.kind,.s v.alias,.s v.name,.s v.on',.sl (v.args.map TArg.enc),.sl (v.dirs.map TDir.enc),.sl (v.sels.map TSel.enc)] = .ret [.b true]:=by
 induction v using TSel.ind with | h v ih =>
 intro hw
 rw [j95] at hw
 rw [jbK]
 simp only [j6o,jr,jv,zb,zi,zs,zl,bne_self_eq_false,beq_self_eq_true,jh,zf,if_false]
 rw [jgU v.args (by omega)]
 simp only [zr,jr,jv,zb,zi,zs,zl,bne_self_eq_false,beq_self_eq_true,jh,zf,if_false]
 rw [Zy v.dirs (by omega)]
 simp only [zr,jr,jv,zb,zi,zs,zl,bne_self_eq_false,beq_self_eq_true,jh,zf,if_false]
 rw [jeX v.sels (fun x hx=>ih x hx) (by omega)]
 simp only [zr,jr,jv,zb,zi,zs,zl,bne_self_eq_false,beq_self_eq_true,jh,zf,if_false]
theorem jgT (vs:List TSel) (hw:DC.wt (.sl (vs.map TSel.enc)) ≤ 1048576):JL [.sl (vs.map TSel.enc),.sl (vs.map TSel.enc)] = .ret [.b true]:=jeX vs (fun v _=>jjS v) hw
theorem j28 (v:TVarDef):jQ (TVarDef.enc v)=v.name.length + jQ (TType.enc v.type') + jQ (TValue.enc v.default') + DC.wt (.sl (v.dirs.map TDir.enc)):=by
 simp only [TVarDef.enc_eq,jQ,DC.wt,TType.enc_eq,TValue.enc_eq]
 try omega
theorem jh7 (v:TVarDef):Xz (TVarDef.enc v) → ∀ left:Int,0 ≤ left → left ≤ 1048576 → Qo [.s v.name,.s v.type'.name,.s v.type'.wraps,.b v.has',.i v.default'.kind,.s v.default'.text,.sl (v.default'.items.map TValue.enc),.sl (v.default'.names.map S1),.sl (v.dirs.map TDir.enc),.i left] = .ret [.i (VL left (jQ (TVarDef.enc v)))]:=by
 intro ok left h0 h1
 rw [TVarDef.enc_eq] at ok
 simp only [Xz] at ok
 rw [j73]
 simp only [j1O,jr,jv,zb,zi,zs,zl]
 rw [j28]
 have b0:v.name.length ≤ 9223372036854775807:=by simpa only [DC.ok] using ok.1
 rw [show IntKind.i64.wrap (left - (v.name.length:Int))=left - (v.name.length:Int) from kp (by omega) (by omega)]
 by_cases c0:left < ((v.name.length:Nat):Int)
 ·have c0':left - ((v.name.length:Nat):Int) < 0:=by omega
  simp only [c0',decide_true,if_true]
  try rw [jK (by omega)]
 have c0':¬ left - ((v.name.length:Nat):Int) < 0:=by omega
 simp only [c0',decide_false,zf,if_false]
 rw [jcV v.type' (by rw [TType.enc_eq]; simp only [Xz]; exact ⟨ok.2.1,ok.2.2.1,trivial⟩) ((left - ((v.name.length:Nat):Int))) (by omega) (by omega)]
 simp only [zr,jr,jv,zb,zi,zs,zl]
 by_cases c1:(left - ((v.name.length:Nat):Int)) < ((jQ (TType.enc v.type'):Nat):Int)
 ·rw [jK c1]
  simp only [show (-1:Int) < 0 by omega,decide_true,if_true]
  try rw [jK (by omega)]
 rw [kt c1]
 have c1':¬ (left - ((v.name.length:Nat):Int)) - ((jQ (TType.enc v.type'):Nat):Int) < 0:=by omega
 simp only [c1',decide_false,zf,if_false]
 rw [j9h v.default' (by rw [TValue.enc_eq]; simp only [Xz]; exact ⟨ok.2.2.2.2.1,ok.2.2.2.2.2.1,ok.2.2.2.2.2.2.1,ok.2.2.2.2.2.2.2.1,trivial⟩) (((left - ((v.name.length:Nat):Int)) - ((jQ (TType.enc v.type'):Nat):Int))) (by omega) (by omega)]
 simp only [zr,jr,jv,zb,zi,zs,zl]
 by_cases c2:((left - ((v.name.length:Nat):Int)) - ((jQ (TType.enc v.type'):Nat):Int)) < ((jQ (TValue.enc v.default'):Nat):Int)
 ·rw [jK c2]
  simp only [show (-1:Int) < 0 by omega,decide_true,if_true]
  try rw [jK (by omega)]
 rw [kt c2]
 have c2':¬ ((left - ((v.name.length:Nat):Int)) - ((jQ (TType.enc v.type'):Nat):Int)) - ((jQ (TValue.enc v.default'):Nat):Int) < 0:=by omega
 simp only [c2',decide_false,zf,if_false]
 rw [Zl v.dirs ok.2.2.2.2.2.2.2.2.1 ((((left - ((v.name.length:Nat):Int)) - ((jQ (TType.enc v.type'):Nat):Int)) - ((jQ (TValue.enc v.default'):Nat):Int))) (by omega) (by omega)]
 simp only [zr,jr,jv,zb,zi,zs,zl]
 by_cases c3:(((left - ((v.name.length:Nat):Int)) - ((jQ (TType.enc v.type'):Nat):Int)) - ((jQ (TValue.enc v.default'):Nat):Int)) < ((DC.wt (.sl (v.dirs.map TDir.enc)):Nat):Int)
 ·rw [jK c3]
  simp only [show (-1:Int) < 0 by omega,decide_true,if_true]
  try rw [jK (by omega)]
 rw [kt c3]
 have c3':¬ (((left - ((v.name.length:Nat):Int)) - ((jQ (TType.enc v.type'):Nat):Int)) - ((jQ (TValue.enc v.default'):Nat):Int)) - ((DC.wt (.sl (v.dirs.map TDir.enc)):Nat):Int) < 0:=by omega
 simp only [c3',decide_false,zf,if_false]
 first
 | done
 | rw [show VL left (v.name.length + jQ (TType.enc v.type') + jQ (TValue.enc v.default') + DC.wt (.sl (v.dirs.map TDir.enc)))=((((left - ((v.name.length:Nat):Int)) - ((jQ (TType.enc v.type'):Nat):Int)) - ((jQ (TValue.enc v.default'):Nat):Int)) - ((DC.wt (.sl (v.dirs.map TDir.enc)):Nat):Int)) from (kt (by omega)).trans (by omega)]
theorem jea (vs:List TVarDef) (hs:∀ v ∈ vs,Xz (TVarDef.enc v) → ∀ left:Int,0 ≤ left → left ≤ 1048576 → Qo [.s v.name,.s v.type'.name,.s v.type'.wraps,.b v.has',.i v.default'.kind,.s v.default'.text,.sl (v.default'.items.map TValue.enc),.sl (v.default'.names.map S1),.sl (v.dirs.map TDir.enc),.i left] = .ret [.i (VL left (jQ (TVarDef.enc v)))]) (ok:(DC.sl (vs.map TVarDef.enc)).ok) (left:Int) (h0:0 ≤ left) (h1:left ≤ 1048576):KD [.sl (vs.map TVarDef.enc),.i left] = .ret [.i (VL left (DC.wt (.sl (vs.map TVarDef.enc))))]:=by
 rw [DC.ok,zm] at ok
 obtain ⟨hl,ok⟩:=ok
 rw [j5E]
 simp only [j0N,jr,jv,zb,zi,zs,zl]
 refine Xa hl (fun i hi left h0 h1=>?_) (fun left=>?_) h0 h1
 ·have key:=hs vs[i] (je hi) (Vq ok _ (jD (je hi))) left h0 h1
  generalize jQ (TVarDef.enc vs[i])=w at key ⊢
  have hc1:(i:Int) < (vs.length:Int):=by omega
  simp only [QM,jr,jv,zb,zi,zs,zl,j7,zm,jq hi,TVarDef.enc_eq,key,zr]
  by_cases hc:left < (w:Int)
  ·simp [hi,hc1,hc,jK hc]
  ·simp [hi,hc1,hc,kt hc,show ¬ left - (w:Int) < 0 by omega,jp hi hl]
 ·simp [QM]
theorem jfv (vs:List TVarDef) (ok:(DC.sl (vs.map TVarDef.enc)).ok) (left:Int) (h0:0 ≤ left) (h1:left ≤ 1048576):KD [.sl (vs.map TVarDef.enc),.i left] = .ret [.i (VL left (DC.wt (.sl (vs.map TVarDef.enc))))]:=jea vs (fun v _=>jh7 v) ok left h0 h1
theorem jh5 (v:TVarDef):jQ (TVarDef.enc v) ≤ 1048576 → Qn [.s v.name,.s v.type'.name,.s v.type'.wraps,.b v.has',.i v.default'.kind,.s v.default'.text,.sl (v.default'.items.map TValue.enc),.sl (v.default'.names.map S1),.sl (v.dirs.map TDir.enc)] = .ret (TVarDef.enc v):=by
 intro hw
 rw [j28] at hw
 rw [j70]
 simp only [j1L,jr,jv,zb,zi,zs,zl]
 rw [jcR v.type' (by omega)]
 simp only [zr,TType.enc_eq,jr,jv,zb,zi,zs,zl]
 rw [j9d v.default' (by omega)]
 simp only [zr,TValue.enc_eq,jr,jv,zb,zi,zs,zl]
 rw [Zk v.dirs (by omega)]
 simp only [zr,jr,jv,zb,zi,zs,zl]
 rw [TVarDef.enc_eq]
theorem je3 (vs:List TVarDef) (hs:∀ v ∈ vs,jQ (TVarDef.enc v) ≤ 1048576 → Qn [.s v.name,.s v.type'.name,.s v.type'.wraps,.b v.has',.i v.default'.kind,.s v.default'.text,.sl (v.default'.items.map TValue.enc),.sl (v.default'.names.map S1),.sl (v.dirs.map TDir.enc)] = .ret (TVarDef.enc v)) (hw:DC.wt (.sl (vs.map TVarDef.enc)) ≤ 1048576):Kz [.sl (vs.map TVarDef.enc)] = .ret [.sl (vs.map TVarDef.enc)]:=by
 rw [DC.wt,zm] at hw
 have hl:vs.length ≤ 1048576:=by omega
 rw [j5B]
 simp only [j0K,jr,jv,zb,zi,zs,zl]
 rw [if_pos ⟨by omega,by rw [zm]; exact j0b hl,trivial,by omega,by omega⟩,j7,zm,show (0:Int)=((0:Nat):Int) from rfl,Q8 hl (fun i hi cur h1 h2=>?_) (fun cur=>?_)]
 ·rfl
 ·have key:=hs vs[i] (je hi) (by have:=qI (jD (f:=TVarDef.enc) (je hi)); omega)
  have hc1:(i:Int) < (vs.length:Int):=by omega
  simp only [QK,jr,jv,zb,zi,zs,zl,j7,zm,jq hi,h1,h2,TVarDef.enc_eq] at key ⊢
  simp only [key,jr,jv,zb,zi,zs,zl,zr]
  simp [hi,hc1,jp hi (show vs.length ≤ 9223372036854775807 by omega),pS]
 ·simp [QK]
theorem jfq (vs:List TVarDef) (hw:DC.wt (.sl (vs.map TVarDef.enc)) ≤ 1048576):Kz [.sl (vs.map TVarDef.enc)] = .ret [.sl (vs.map TVarDef.enc)]:=je3 vs (fun v _=>jh5 v) hw
theorem jhu (v:TVarDef):jQ (TVarDef.enc v) ≤ 1048576 → Qp [.s v.name,.s v.type'.name,.s v.type'.wraps,.b v.has',.i v.default'.kind,.s v.default'.text,.sl (v.default'.items.map TValue.enc),.sl (v.default'.names.map S1),.sl (v.dirs.map TDir.enc),.s v.name,.s v.type'.name,.s v.type'.wraps,.b v.has',.i v.default'.kind,.s v.default'.text,.sl (v.default'.items.map TValue.enc),.sl (v.default'.names.map S1),.sl (v.dirs.map TDir.enc)] = .ret [.b true]:=by
 intro hw
 rw [j28] at hw
 rw [j76]
 simp only [j1R,jr,jv,zb,zi,zs,zl,bne_self_eq_false,beq_self_eq_true,jh,zf,if_false]
 rw [jdH v.type' (by omega)]
 simp only [zr,jr,jv,zb,zi,zs,zl,bne_self_eq_false,beq_self_eq_true,jh,zf,if_false]
 rw [jaR v.default' (by omega)]
 simp only [zr,jr,jv,zb,zi,zs,zl,bne_self_eq_false,beq_self_eq_true,jh,zf,if_false]
 rw [Zy v.dirs (by omega)]
 simp only [zr,jr,jv,zb,zi,zs,zl,bne_self_eq_false,beq_self_eq_true,jh,zf,if_false]
theorem jeW (vs:List TVarDef) (hs:∀ v ∈ vs,jQ (TVarDef.enc v) ≤ 1048576 → Qp [.s v.name,.s v.type'.name,.s v.type'.wraps,.b v.has',.i v.default'.kind,.s v.default'.text,.sl (v.default'.items.map TValue.enc),.sl (v.default'.names.map S1),.sl (v.dirs.map TDir.enc),.s v.name,.s v.type'.name,.s v.type'.wraps,.b v.has',.i v.default'.kind,.s v.default'.text,.sl (v.default'.items.map TValue.enc),.sl (v.default'.names.map S1),.sl (v.dirs.map TDir.enc)] = .ret [.b true]) (hw:DC.wt (.sl (vs.map TVarDef.enc)) ≤ 1048576):KG [.sl (vs.map TVarDef.enc),.sl (vs.map TVarDef.enc)] = .ret [.b true]:=by
 rw [DC.wt,zm] at hw
 have hl:vs.length ≤ 1048576:=by omega
 rw [j5H]
 simp only [j0Q,jr,jv,zb,zi,zs,zl]
 refine Xm (fun i hi=>?_) ?_
 ·rw [zm] at hi
  have key:=hs vs[i] (je hi) (by have:=qI (jD (f:=TVarDef.enc) (je hi)); omega)
  have hc1:(i:Int) < (vs.length:Int):=by omega
  simp only [QO,jr,jv,zb,zi,zs,zl,j7,zm,jq hi,TVarDef.enc_eq] at key ⊢
  simp only [key,jr,jv,zb,zi,zs,zl,zr]
  simp [hi,hc1,jp hi (show vs.length ≤ 9223372036854775807 by omega)]
 ·simp [QO]
theorem jgh (vs:List TVarDef) (hw:DC.wt (.sl (vs.map TVarDef.enc)) ≤ 1048576):KG [.sl (vs.map TVarDef.enc),.sl (vs.map TVarDef.enc)] = .ret [.b true]:=jeW vs (fun v _=>jhu v) hw
theorem jcN (v:TOp):jQ (TOp.enc v)=v.name.length + DC.wt (.sl (v.vars.map TVarDef.enc)) + DC.wt (.sl (v.dirs.map TDir.enc)) + DC.wt (.sl (v.sels.map TSel.enc)):=by
 simp only [TOp.enc_eq,jQ,DC.wt]
 try omega
theorem jk1 (v:TOp):Xz (TOp.enc v) → ∀ left:Int,0 ≤ left → left ≤ 1048576 → j2n [.i v.kind,.s v.name,.sl (v.vars.map TVarDef.enc),.sl (v.dirs.map TDir.enc),.sl (v.sels.map TSel.enc),.i left] = .ret [.i (VL left (jQ (TOp.enc v)))]:=by
 intro ok left h0 h1
 rw [TOp.enc_eq] at ok
 simp only [Xz] at ok
 rw [jdC]
 simp only [j8c,jr,jv,zb,zi,zs,zl]
 rw [jcN]
 have b0:v.name.length ≤ 9223372036854775807:=by simpa only [DC.ok] using ok.2.1
 rw [show IntKind.i64.wrap (left - (v.name.length:Int))=left - (v.name.length:Int) from kp (by omega) (by omega)]
 by_cases c0:left < ((v.name.length:Nat):Int)
 ·have c0':left - ((v.name.length:Nat):Int) < 0:=by omega
  simp only [c0',decide_true,if_true]
  try rw [jK (by omega)]
 have c0':¬ left - ((v.name.length:Nat):Int) < 0:=by omega
 simp only [c0',decide_false,zf,if_false]
 rw [jfv v.vars ok.2.2.1 ((left - ((v.name.length:Nat):Int))) (by omega) (by omega)]
 simp only [zr,jr,jv,zb,zi,zs,zl]
 by_cases c1:(left - ((v.name.length:Nat):Int)) < ((DC.wt (.sl (v.vars.map TVarDef.enc)):Nat):Int)
 ·rw [jK c1]
  simp only [show (-1:Int) < 0 by omega,decide_true,if_true]
  try rw [jK (by omega)]
 rw [kt c1]
 have c1':¬ (left - ((v.name.length:Nat):Int)) - ((DC.wt (.sl (v.vars.map TVarDef.enc)):Nat):Int) < 0:=by omega
 simp only [c1',decide_false,zf,if_false]
 rw [Zl v.dirs ok.2.2.2.1 (((left - ((v.name.length:Nat):Int)) - ((DC.wt (.sl (v.vars.map TVarDef.enc)):Nat):Int))) (by omega) (by omega)]
 simp only [zr,jr,jv,zb,zi,zs,zl]
 by_cases c2:((left - ((v.name.length:Nat):Int)) - ((DC.wt (.sl (v.vars.map TVarDef.enc)):Nat):Int)) < ((DC.wt (.sl (v.dirs.map TDir.enc)):Nat):Int)
 ·rw [jK c2]
  simp only [show (-1:Int) < 0 by omega,decide_true,if_true]
  try rw [jK (by omega)]
 rw [kt c2]
 have c2':¬ ((left - ((v.name.length:Nat):Int)) - ((DC.wt (.sl (v.vars.map TVarDef.enc)):Nat):Int)) - ((DC.wt (.sl (v.dirs.map TDir.enc)):Nat):Int) < 0:=by omega
 simp only [c2',decide_false,zf,if_false]
 rw [jgv v.sels ok.2.2.2.2.1 ((((left - ((v.name.length:Nat):Int)) - ((DC.wt (.sl (v.vars.map TVarDef.enc)):Nat):Int)) - ((DC.wt (.sl (v.dirs.map TDir.enc)):Nat):Int))) (by omega) (by omega)]
 simp only [zr,jr,jv,zb,zi,zs,zl]
 by_cases c3:(((left - ((v.name.length:Nat):Int)) - ((DC.wt (.sl (v.vars.map TVarDef.enc)):Nat):Int)) - ((DC.wt (.sl (v.dirs.map TDir.enc)):Nat):Int)) < ((DC.wt (.sl (v.sels.map TSel.enc)):Nat):Int)
 ·rw [jK c3]
  simp only [show (-1:Int) < 0 by omega,decide_true,if_true]
  try rw [jK (by omega)]
 rw [kt c3]
 have c3':¬ (((left - ((v.name.length:Nat):Int)) - ((DC.wt (.sl (v.vars.map TVarDef.enc)):Nat):Int)) - ((DC.wt (.sl (v.dirs.map TDir.enc)):Nat):Int)) - ((DC.wt (.sl (v.sels.map TSel.enc)):Nat):Int) < 0:=by omega
 simp only [c3',decide_false,zf,if_false]
 first
 | done
 | rw [show VL left (v.name.length + DC.wt (.sl (v.vars.map TVarDef.enc)) + DC.wt (.sl (v.dirs.map TDir.enc)) + DC.wt (.sl (v.sels.map TSel.enc)))=((((left - ((v.name.length:Nat):Int)) - ((DC.wt (.sl (v.vars.map TVarDef.enc)):Nat):Int)) - ((DC.wt (.sl (v.dirs.map TDir.enc)):Nat):Int)) - ((DC.wt (.sl (v.sels.map TSel.enc)):Nat):Int)) from (kt (by omega)).trans (by omega)]
theorem jk0 (v:TOp):jQ (TOp.enc v) ≤ 1048576 → j2m [.i v.kind,.s v.name,.sl (v.vars.map TVarDef.enc),.sl (v.dirs.map TDir.enc),.sl (v.sels.map TSel.enc)] = .ret (TOp.enc v):=by
 intro hw
 rw [jcN] at hw
 rw [jdB]
 simp only [j8b,jr,jv,zb,zi,zs,zl]
 rw [jfq v.vars (by omega)]
 simp only [zr,jr,jv,zb,zi,zs,zl]
 rw [Zk v.dirs (by omega)]
 simp only [zr,jr,jv,zb,zi,zs,zl]
 rw [jgr v.sels (by omega)]
 simp only [zr,jr,jv,zb,zi,zs,zl]
 rw [TOp.enc_eq]
theorem jmt (v:TOp):jQ (TOp.enc v) ≤ 1048576 → j2o [.i v.kind,.s v.name,.sl (v.vars.map TVarDef.enc),.sl (v.dirs.map TDir.enc),.sl (v.sels.map TSel.enc),.i v.kind,.s v.name,.sl (v.vars.map TVarDef.enc),.sl (v.dirs.map TDir.enc),.sl (v.sels.map TSel.enc)] = .ret [.b true]:=by
 intro hw
 rw [jcN] at hw
 rw [jdD]
 simp only [j8d,jr,jv,zb,zi,zs,zl,bne_self_eq_false,beq_self_eq_true,jh,zf,if_false]
 rw [jgh v.vars (by omega)]
 simp only [zr,jr,jv,zb,zi,zs,zl,bne_self_eq_false,beq_self_eq_true,jh,zf,if_false]
 rw [Zy v.dirs (by omega)]
 simp only [zr,jr,jv,zb,zi,zs,zl,bne_self_eq_false,beq_self_eq_true,jh,zf,if_false]
 rw [jgT v.sels (by omega)]
 simp only [zr,jr,jv,zb,zi,zs,zl,bne_self_eq_false,beq_self_eq_true,jh,zf,if_false]
theorem j35 (v:TFrag):jQ (TFrag.enc v)=v.name.length + v.on'.length + DC.wt (.sl (v.dirs.map TDir.enc)) + DC.wt (.sl (v.sels.map TSel.enc)):=by
 simp only [TFrag.enc_eq,jQ,DC.wt]
 try omega
theorem jja (v:TFrag):Xz (TFrag.enc v) → ∀ left:Int,0 ≤ left → left ≤ 1048576 → j02 [.s v.name,.s v.on',.sl (v.dirs.map TDir.enc),.sl (v.sels.map TSel.enc),.i left] = .ret [.i (VL left (jQ (TFrag.enc v)))]:=by
 intro ok left h0 h1
 rw [TFrag.enc_eq] at ok
 simp only [Xz] at ok
 rw [jas]
 simp only [j48,jr,jv,zb,zi,zs,zl]
 rw [j35]
 have b0:v.name.length ≤ 9223372036854775807:=by simpa only [DC.ok] using ok.1
 have b1:v.on'.length ≤ 9223372036854775807:=by simpa only [DC.ok] using ok.2.1
 rw [show IntKind.i64.wrap (left - (v.name.length:Int))=left - (v.name.length:Int) from kp (by omega) (by omega)]
 by_cases c0:left < ((v.name.length:Nat):Int)
 ·have c0':left - ((v.name.length:Nat):Int) < 0:=by omega
  simp only [c0',decide_true,if_true]
  try rw [jK (by omega)]
 have c0':¬ left - ((v.name.length:Nat):Int) < 0:=by omega
 simp only [c0',decide_false,zf,if_false]
 rw [show IntKind.i64.wrap ((left - ((v.name.length:Nat):Int)) - (v.on'.length:Int))=(left - ((v.name.length:Nat):Int)) - (v.on'.length:Int) from kp (by omega) (by omega)]
 by_cases c1:(left - ((v.name.length:Nat):Int)) < ((v.on'.length:Nat):Int)
 ·have c1':(left - ((v.name.length:Nat):Int)) - ((v.on'.length:Nat):Int) < 0:=by omega
  simp only [c1',decide_true,if_true]
  try rw [jK (by omega)]
 have c1':¬ (left - ((v.name.length:Nat):Int)) - ((v.on'.length:Nat):Int) < 0:=by omega
 simp only [c1',decide_false,zf,if_false]
 rw [Zl v.dirs ok.2.2.1 (((left - ((v.name.length:Nat):Int)) - ((v.on'.length:Nat):Int))) (by omega) (by omega)]
 simp only [zr,jr,jv,zb,zi,zs,zl]
 by_cases c2:((left - ((v.name.length:Nat):Int)) - ((v.on'.length:Nat):Int)) < ((DC.wt (.sl (v.dirs.map TDir.enc)):Nat):Int)
 ·rw [jK c2]
  simp only [show (-1:Int) < 0 by omega,decide_true,if_true]
  try rw [jK (by omega)]
 rw [kt c2]
 have c2':¬ ((left - ((v.name.length:Nat):Int)) - ((v.on'.length:Nat):Int)) - ((DC.wt (.sl (v.dirs.map TDir.enc)):Nat):Int) < 0:=by omega
 simp only [c2',decide_false,zf,if_false]
 rw [jgv v.sels ok.2.2.2.1 ((((left - ((v.name.length:Nat):Int)) - ((v.on'.length:Nat):Int)) - ((DC.wt (.sl (v.dirs.map TDir.enc)):Nat):Int))) (by omega) (by omega)]
 simp only [zr,jr,jv,zb,zi,zs,zl]
 by_cases c3:(((left - ((v.name.length:Nat):Int)) - ((v.on'.length:Nat):Int)) - ((DC.wt (.sl (v.dirs.map TDir.enc)):Nat):Int)) < ((DC.wt (.sl (v.sels.map TSel.enc)):Nat):Int)
 ·rw [jK c3]
  simp only [show (-1:Int) < 0 by omega,decide_true,if_true]
  try rw [jK (by omega)]
 rw [kt c3]
 have c3':¬ (((left - ((v.name.length:Nat):Int)) - ((v.on'.length:Nat):Int)) - ((DC.wt (.sl (v.dirs.map TDir.enc)):Nat):Int)) - ((DC.wt (.sl (v.sels.map TSel.enc)):Nat):Int) < 0:=by omega
 simp only [c3',decide_false,zf,if_false]
 first
 | done
 | rw [show VL left (v.name.length + v.on'.length + DC.wt (.sl (v.dirs.map TDir.enc)) + DC.wt (.sl (v.sels.map TSel.enc)))=((((left - ((v.name.length:Nat):Int)) - ((v.on'.length:Nat):Int)) - ((DC.wt (.sl (v.dirs.map TDir.enc)):Nat):Int)) - ((DC.wt (.sl (v.sels.map TSel.enc)):Nat):Int)) from (kt (by omega)).trans (by omega)]
theorem jj5 (v:TFrag):jQ (TFrag.enc v) ≤ 1048576 → j00 [.s v.name,.s v.on',.sl (v.dirs.map TDir.enc),.sl (v.sels.map TSel.enc)] = .ret (TFrag.enc v):=by
 intro hw
 rw [j35] at hw
 rw [jal]
 simp only [j41,jr,jv,zb,zi,zs,zl]
 rw [Zk v.dirs (by omega)]
 simp only [zr,jr,jv,zb,zi,zs,zl]
 rw [jgr v.sels (by omega)]
 simp only [zr,jr,jv,zb,zi,zs,zl]
 rw [TFrag.enc_eq]
theorem jjr (v:TFrag):jQ (TFrag.enc v) ≤ 1048576 → j04 [.s v.name,.s v.on',.sl (v.dirs.map TDir.enc),.sl (v.sels.map TSel.enc),.s v.name,.s v.on',.sl (v.dirs.map TDir.enc),.sl (v.sels.map TSel.enc)] = .ret [.b true]:=by
 intro hw
 rw [j35] at hw
 rw [jaz]
 simp only [j4f,jr,jv,zb,zi,zs,zl,bne_self_eq_false,beq_self_eq_true,jh,zf,if_false]
 rw [Zy v.dirs (by omega)]
 simp only [zr,jr,jv,zb,zi,zs,zl,bne_self_eq_false,beq_self_eq_true,jh,zf,if_false]
 rw [jgT v.sels (by omega)]
 simp only [zr,jr,jv,zb,zi,zs,zl,bne_self_eq_false,beq_self_eq_true,jh,zf,if_false]
theorem j4v (v:TInDef):jQ (TInDef.enc v)=v.name.length + v.desc.length + jQ (TType.enc v.type') + jQ (TValue.enc v.default') + DC.wt (.sl (v.dirs.map TDir.enc)):=by
 simp only [TInDef.enc_eq,jQ,DC.wt,TType.enc_eq,TValue.enc_eq]
 try omega
theorem jhV (v:TInDef):Xz (TInDef.enc v) → ∀ left:Int,0 ≤ left → left ≤ 1048576 → Vb [.s v.name,.s v.desc,.s v.type'.name,.s v.type'.wraps,.b v.has',.i v.default'.kind,.s v.default'.text,.sl (v.default'.items.map TValue.enc),.sl (v.default'.names.map S1),.sl (v.dirs.map TDir.enc),.i left] = .ret [.i (VL left (jQ (TInDef.enc v)))]:=by
 intro ok left h0 h1
 rw [TInDef.enc_eq] at ok
 simp only [Xz] at ok
 rw [j8B]
 simp only [j2R,jr,jv,zb,zi,zs,zl]
 rw [j4v]
 have b0:v.name.length ≤ 9223372036854775807:=by simpa only [DC.ok] using ok.1
 have b1:v.desc.length ≤ 9223372036854775807:=by simpa only [DC.ok] using ok.2.1
 rw [show IntKind.i64.wrap (left - (v.name.length:Int))=left - (v.name.length:Int) from kp (by omega) (by omega)]
 by_cases c0:left < ((v.name.length:Nat):Int)
 ·have c0':left - ((v.name.length:Nat):Int) < 0:=by omega
  simp only [c0',decide_true,if_true]
  try rw [jK (by omega)]
 have c0':¬ left - ((v.name.length:Nat):Int) < 0:=by omega
 simp only [c0',decide_false,zf,if_false]
 rw [show IntKind.i64.wrap ((left - ((v.name.length:Nat):Int)) - (v.desc.length:Int))=(left - ((v.name.length:Nat):Int)) - (v.desc.length:Int) from kp (by omega) (by omega)]
 by_cases c1:(left - ((v.name.length:Nat):Int)) < ((v.desc.length:Nat):Int)
 ·have c1':(left - ((v.name.length:Nat):Int)) - ((v.desc.length:Nat):Int) < 0:=by omega
  simp only [c1',decide_true,if_true]
  try rw [jK (by omega)]
 have c1':¬ (left - ((v.name.length:Nat):Int)) - ((v.desc.length:Nat):Int) < 0:=by omega
 simp only [c1',decide_false,zf,if_false]
 rw [jcV v.type' (by rw [TType.enc_eq]; simp only [Xz]; exact ⟨ok.2.2.1,ok.2.2.2.1,trivial⟩) (((left - ((v.name.length:Nat):Int)) - ((v.desc.length:Nat):Int))) (by omega) (by omega)]
 simp only [zr,jr,jv,zb,zi,zs,zl]
 by_cases c2:((left - ((v.name.length:Nat):Int)) - ((v.desc.length:Nat):Int)) < ((jQ (TType.enc v.type'):Nat):Int)
 ·rw [jK c2]
  simp only [show (-1:Int) < 0 by omega,decide_true,if_true]
  try rw [jK (by omega)]
 rw [kt c2]
 have c2':¬ ((left - ((v.name.length:Nat):Int)) - ((v.desc.length:Nat):Int)) - ((jQ (TType.enc v.type'):Nat):Int) < 0:=by omega
 simp only [c2',decide_false,zf,if_false]
 rw [j9h v.default' (by rw [TValue.enc_eq]; simp only [Xz]; exact ⟨ok.2.2.2.2.2.1,ok.2.2.2.2.2.2.1,ok.2.2.2.2.2.2.2.1,ok.2.2.2.2.2.2.2.2.1,trivial⟩) ((((left - ((v.name.length:Nat):Int)) - ((v.desc.length:Nat):Int)) - ((jQ (TType.enc v.type'):Nat):Int))) (by omega) (by omega)]
 simp only [zr,jr,jv,zb,zi,zs,zl]
 by_cases c3:(((left - ((v.name.length:Nat):Int)) - ((v.desc.length:Nat):Int)) - ((jQ (TType.enc v.type'):Nat):Int)) < ((jQ (TValue.enc v.default'):Nat):Int)
 ·rw [jK c3]
  simp only [show (-1:Int) < 0 by omega,decide_true,if_true]
  try rw [jK (by omega)]
 rw [kt c3]
 have c3':¬ (((left - ((v.name.length:Nat):Int)) - ((v.desc.length:Nat):Int)) - ((jQ (TType.enc v.type'):Nat):Int)) - ((jQ (TValue.enc v.default'):Nat):Int) < 0:=by omega
 simp only [c3',decide_false,zf,if_false]
 rw [Zl v.dirs ok.2.2.2.2.2.2.2.2.2.1 (((((left - ((v.name.length:Nat):Int)) - ((v.desc.length:Nat):Int)) - ((jQ (TType.enc v.type'):Nat):Int)) - ((jQ (TValue.enc v.default'):Nat):Int))) (by omega) (by omega)]
 simp only [zr,jr,jv,zb,zi,zs,zl]
 by_cases c4:((((left - ((v.name.length:Nat):Int)) - ((v.desc.length:Nat):Int)) - ((jQ (TType.enc v.type'):Nat):Int)) - ((jQ (TValue.enc v.default'):Nat):Int)) < ((DC.wt (.sl (v.dirs.map TDir.enc)):Nat):Int)
 ·rw [jK c4]
  simp only [show (-1:Int) < 0 by omega,decide_true,if_true]
  try rw [jK (by omega)]
 rw [kt c4]
 have c4':¬ ((((left - ((v.name.length:Nat):Int)) - ((v.desc.length:Nat):Int)) - ((jQ (TType.enc v.type'):Nat):Int)) - ((jQ (TValue.enc v.default'):Nat):Int)) - ((DC.wt (.sl (v.dirs.map TDir.enc)):Nat):Int) < 0:=by omega
 simp only [c4',decide_false,zf,if_false]
 first
 | done
 | rw [show VL left (v.name.length + v.desc.length + jQ (TType.enc v.type') + jQ (TValue.enc v.default') + DC.wt (.sl (v.dirs.map TDir.enc)))=(((((left - ((v.name.length:Nat):Int)) - ((v.desc.length:Nat):Int)) - ((jQ (TType.enc v.type'):Nat):Int)) - ((jQ (TValue.enc v.default'):Nat):Int)) - ((DC.wt (.sl (v.dirs.map TDir.enc)):Nat):Int)) from (kt (by omega)).trans (by omega)]
theorem jfx (vs:List TInDef) (hs:∀ v ∈ vs,Xz (TInDef.enc v) → ∀ left:Int,0 ≤ left → left ≤ 1048576 → Vb [.s v.name,.s v.desc,.s v.type'.name,.s v.type'.wraps,.b v.has',.i v.default'.kind,.s v.default'.text,.sl (v.default'.items.map TValue.enc),.sl (v.default'.names.map S1),.sl (v.dirs.map TDir.enc),.i left] = .ret [.i (VL left (jQ (TInDef.enc v)))]) (ok:(DC.sl (vs.map TInDef.enc)).ok) (left:Int) (h0:0 ≤ left) (h1:left ≤ 1048576):Jx [.sl (vs.map TInDef.enc),.i left] = .ret [.i (VL left (DC.wt (.sl (vs.map TInDef.enc))))]:=by
 rw [DC.ok,zm] at ok
 obtain ⟨hl,ok⟩:=ok
 rw [j75]
 simp only [j1Q,jr,jv,zb,zi,zs,zl]
 refine Xa hl (fun i hi left h0 h1=>?_) (fun left=>?_) h0 h1
 ·have key:=hs vs[i] (je hi) (Vq ok _ (jD (je hi))) left h0 h1
  generalize jQ (TInDef.enc vs[i])=w at key ⊢
  have hc1:(i:Int) < (vs.length:Int):=by omega
  simp only [VH,jr,jv,zb,zi,zs,zl,j7,zm,jq hi,TInDef.enc_eq,key,zr]
  by_cases hc:left < (w:Int)
  ·simp [hi,hc1,hc,jK hc]
  ·simp [hi,hc1,hc,kt hc,show ¬ left - (w:Int) < 0 by omega,jp hi hl]
 ·simp [VH]
theorem jcb (vs:List TInDef) (ok:(DC.sl (vs.map TInDef.enc)).ok) (left:Int) (h0:0 ≤ left) (h1:left ≤ 1048576):Jx [.sl (vs.map TInDef.enc),.i left] = .ret [.i (VL left (DC.wt (.sl (vs.map TInDef.enc))))]:=jfx vs (fun v _=>jhV v) ok left h0 h1
theorem jhP (v:TInDef):jQ (TInDef.enc v) ≤ 1048576 → V9 [.s v.name,.s v.desc,.s v.type'.name,.s v.type'.wraps,.b v.has',.i v.default'.kind,.s v.default'.text,.sl (v.default'.items.map TValue.enc),.sl (v.default'.names.map S1),.sl (v.dirs.map TDir.enc)] = .ret (TInDef.enc v):=by
 intro hw
 rw [j4v] at hw
 rw [j8y]
 simp only [j2O,jr,jv,zb,zi,zs,zl]
 rw [jcR v.type' (by omega)]
 simp only [zr,TType.enc_eq,jr,jv,zb,zi,zs,zl]
 rw [j9d v.default' (by omega)]
 simp only [zr,TValue.enc_eq,jr,jv,zb,zi,zs,zl]
 rw [Zk v.dirs (by omega)]
 simp only [zr,jr,jv,zb,zi,zs,zl]
 rw [TInDef.enc_eq]
theorem jfs (vs:List TInDef) (hs:∀ v ∈ vs,jQ (TInDef.enc v) ≤ 1048576 → V9 [.s v.name,.s v.desc,.s v.type'.name,.s v.type'.wraps,.b v.has',.i v.default'.kind,.s v.default'.text,.sl (v.default'.items.map TValue.enc),.sl (v.default'.names.map S1),.sl (v.dirs.map TDir.enc)] = .ret (TInDef.enc v)) (hw:DC.wt (.sl (vs.map TInDef.enc)) ≤ 1048576):Jw [.sl (vs.map TInDef.enc)] = .ret [.sl (vs.map TInDef.enc)]:=by
 rw [DC.wt,zm] at hw
 have hl:vs.length ≤ 1048576:=by omega
 rw [j72]
 simp only [j1N,jr,jv,zb,zi,zs,zl]
 rw [if_pos ⟨by omega,by rw [zm]; exact j0b hl,trivial,by omega,by omega⟩,j7,zm,show (0:Int)=((0:Nat):Int) from rfl,Q8 hl (fun i hi cur h1 h2=>?_) (fun cur=>?_)]
 ·rfl
 ·have key:=hs vs[i] (je hi) (by have:=qI (jD (f:=TInDef.enc) (je hi)); omega)
  have hc1:(i:Int) < (vs.length:Int):=by omega
  simp only [VF,jr,jv,zb,zi,zs,zl,j7,zm,jq hi,h1,h2,TInDef.enc_eq] at key ⊢
  simp only [key,jr,jv,zb,zi,zs,zl,zr]
  simp [hi,hc1,jp hi (show vs.length ≤ 9223372036854775807 by omega),pS]
 ·simp [VF]
theorem jc6 (vs:List TInDef) (hw:DC.wt (.sl (vs.map TInDef.enc)) ≤ 1048576):Jw [.sl (vs.map TInDef.enc)] = .ret [.sl (vs.map TInDef.enc)]:=jfs vs (fun v _=>jhP v) hw
theorem jiJ (v:TInDef):jQ (TInDef.enc v) ≤ 1048576 → Vd [.s v.name,.s v.desc,.s v.type'.name,.s v.type'.wraps,.b v.has',.i v.default'.kind,.s v.default'.text,.sl (v.default'.items.map TValue.enc),.sl (v.default'.names.map S1),.sl (v.dirs.map TDir.enc),.s v.name,.s v.desc,.s v.type'.name,.s v.type'.wraps,.b v.has',.i v.default'.kind,.s v.default'.text,.sl (v.default'.items.map TValue.enc),.sl (v.default'.names.map S1),.sl (v.dirs.map TDir.enc)] = .ret [.b true]:=by
 intro hw
 rw [j4v] at hw
 rw [j8E]
 simp only [j2U,jr,jv,zb,zi,zs,zl,bne_self_eq_false,beq_self_eq_true,jh,zf,if_false]
 rw [jdH v.type' (by omega)]
 simp only [zr,jr,jv,zb,zi,zs,zl,bne_self_eq_false,beq_self_eq_true,jh,zf,if_false]
 rw [jaR v.default' (by omega)]
 simp only [zr,jr,jv,zb,zi,zs,zl,bne_self_eq_false,beq_self_eq_true,jh,zf,if_false]
 rw [Zy v.dirs (by omega)]
 simp only [zr,jr,jv,zb,zi,zs,zl,bne_self_eq_false,beq_self_eq_true,jh,zf,if_false]
theorem jgj (vs:List TInDef) (hs:∀ v ∈ vs,jQ (TInDef.enc v) ≤ 1048576 → Vd [.s v.name,.s v.desc,.s v.type'.name,.s v.type'.wraps,.b v.has',.i v.default'.kind,.s v.default'.text,.sl (v.default'.items.map TValue.enc),.sl (v.default'.names.map S1),.sl (v.dirs.map TDir.enc),.s v.name,.s v.desc,.s v.type'.name,.s v.type'.wraps,.b v.has',.i v.default'.kind,.s v.default'.text,.sl (v.default'.items.map TValue.enc),.sl (v.default'.names.map S1),.sl (v.dirs.map TDir.enc)] = .ret [.b true]) (hw:DC.wt (.sl (vs.map TInDef.enc)) ≤ 1048576):Jy [.sl (vs.map TInDef.enc),.sl (vs.map TInDef.enc)] = .ret [.b true]:=by
 rw [DC.wt,zm] at hw
 have hl:vs.length ≤ 1048576:=by omega
 rw [j78]
 simp only [j1T,jr,jv,zb,zi,zs,zl]
 refine Xm (fun i hi=>?_) ?_
 ·rw [zm] at hi
  have key:=hs vs[i] (je hi) (by have:=qI (jD (f:=TInDef.enc) (je hi)); omega)
  have hc1:(i:Int) < (vs.length:Int):=by omega
  simp only [VJ,jr,jv,zb,zi,zs,zl,j7,zm,jq hi,TInDef.enc_eq] at key ⊢
  simp only [key,jr,jv,zb,zi,zs,zl,zr]
  simp [hi,hc1,jp hi (show vs.length ≤ 9223372036854775807 by omega)]
 ·simp [VJ]
theorem jcE (vs:List TInDef) (hw:DC.wt (.sl (vs.map TInDef.enc)) ≤ 1048576):Jy [.sl (vs.map TInDef.enc),.sl (vs.map TInDef.enc)] = .ret [.b true]:=jgj vs (fun v _=>jiJ v) hw
theorem ZN (v:TFieldDef):jQ (TFieldDef.enc v)=v.name.length + v.desc.length + DC.wt (.sl (v.args.map TInDef.enc)) + jQ (TType.enc v.type') + DC.wt (.sl (v.dirs.map TDir.enc)):=by
 simp only [TFieldDef.enc_eq,jQ,DC.wt,TType.enc_eq]
 try omega
theorem je8 (v:TFieldDef):Xz (TFieldDef.enc v) → ∀ left:Int,0 ≤ left → left ≤ 1048576 → JZ [.s v.name,.s v.desc,.sl (v.args.map TInDef.enc),.s v.type'.name,.s v.type'.wraps,.sl (v.dirs.map TDir.enc),.i left] = .ret [.i (VL left (jQ (TFieldDef.enc v)))]:=by
 intro ok left h0 h1
 rw [TFieldDef.enc_eq] at ok
 simp only [Xz] at ok
 rw [j4J]
 simp only [ZG,jr,jv,zb,zi,zs,zl]
 rw [ZN]
 have b0:v.name.length ≤ 9223372036854775807:=by simpa only [DC.ok] using ok.1
 have b1:v.desc.length ≤ 9223372036854775807:=by simpa only [DC.ok] using ok.2.1
 rw [show IntKind.i64.wrap (left - (v.name.length:Int))=left - (v.name.length:Int) from kp (by omega) (by omega)]
 by_cases c0:left < ((v.name.length:Nat):Int)
 ·have c0':left - ((v.name.length:Nat):Int) < 0:=by omega
  simp only [c0',decide_true,if_true]
  try rw [jK (by omega)]
 have c0':¬ left - ((v.name.length:Nat):Int) < 0:=by omega
 simp only [c0',decide_false,zf,if_false]
 rw [show IntKind.i64.wrap ((left - ((v.name.length:Nat):Int)) - (v.desc.length:Int))=(left - ((v.name.length:Nat):Int)) - (v.desc.length:Int) from kp (by omega) (by omega)]
 by_cases c1:(left - ((v.name.length:Nat):Int)) < ((v.desc.length:Nat):Int)
 ·have c1':(left - ((v.name.length:Nat):Int)) - ((v.desc.length:Nat):Int) < 0:=by omega
  simp only [c1',decide_true,if_true]
  try rw [jK (by omega)]
 have c1':¬ (left - ((v.name.length:Nat):Int)) - ((v.desc.length:Nat):Int) < 0:=by omega
 simp only [c1',decide_false,zf,if_false]
 rw [jcb v.args ok.2.2.1 (((left - ((v.name.length:Nat):Int)) - ((v.desc.length:Nat):Int))) (by omega) (by omega)]
 simp only [zr,jr,jv,zb,zi,zs,zl]
 by_cases c2:((left - ((v.name.length:Nat):Int)) - ((v.desc.length:Nat):Int)) < ((DC.wt (.sl (v.args.map TInDef.enc)):Nat):Int)
 ·rw [jK c2]
  simp only [show (-1:Int) < 0 by omega,decide_true,if_true]
  try rw [jK (by omega)]
 rw [kt c2]
 have c2':¬ ((left - ((v.name.length:Nat):Int)) - ((v.desc.length:Nat):Int)) - ((DC.wt (.sl (v.args.map TInDef.enc)):Nat):Int) < 0:=by omega
 simp only [c2',decide_false,zf,if_false]
 rw [jcV v.type' (by rw [TType.enc_eq]; simp only [Xz]; exact ⟨ok.2.2.2.1,ok.2.2.2.2.1,trivial⟩) ((((left - ((v.name.length:Nat):Int)) - ((v.desc.length:Nat):Int)) - ((DC.wt (.sl (v.args.map TInDef.enc)):Nat):Int))) (by omega) (by omega)]
 simp only [zr,jr,jv,zb,zi,zs,zl]
 by_cases c3:(((left - ((v.name.length:Nat):Int)) - ((v.desc.length:Nat):Int)) - ((DC.wt (.sl (v.args.map TInDef.enc)):Nat):Int)) < ((jQ (TType.enc v.type'):Nat):Int)
 ·rw [jK c3]
  simp only [show (-1:Int) < 0 by omega,decide_true,if_true]
  try rw [jK (by omega)]
 rw [kt c3]
 have c3':¬ (((left - ((v.name.length:Nat):Int)) - ((v.desc.length:Nat):Int)) - ((DC.wt (.sl (v.args.map TInDef.enc)):Nat):Int)) - ((jQ (TType.enc v.type'):Nat):Int) < 0:=by omega
 simp only [c3',decide_false,zf,if_false]
 rw [Zl v.dirs ok.2.2.2.2.2.1 (((((left - ((v.name.length:Nat):Int)) - ((v.desc.length:Nat):Int)) - ((DC.wt (.sl (v.args.map TInDef.enc)):Nat):Int)) - ((jQ (TType.enc v.type'):Nat):Int))) (by omega) (by omega)]
 simp only [zr,jr,jv,zb,zi,zs,zl]
 by_cases c4:((((left - ((v.name.length:Nat):Int)) - ((v.desc.length:Nat):Int)) - ((DC.wt (.sl (v.args.map TInDef.enc)):Nat):Int)) - ((jQ (TType.enc v.type'):Nat):Int)) < ((DC.wt (.sl (v.dirs.map TDir.enc)):Nat):Int)
 ·rw [jK c4]
  simp only [show (-1:Int) < 0 by omega,decide_true,if_true]
  try rw [jK (by omega)]
 rw [kt c4]
 have c4':¬ ((((left - ((v.name.length:Nat):Int)) - ((v.desc.length:Nat):Int)) - ((DC.wt (.sl (v.args.map TInDef.enc)):Nat):Int)) - ((jQ (TType.enc v.type'):Nat):Int)) - ((DC.wt (.sl (v.dirs.map TDir.enc)):Nat):Int) < 0:=by omega
 simp only [c4',decide_false,zf,if_false]
 first
 | done
 | rw [show VL left (v.name.length + v.desc.length + DC.wt (.sl (v.args.map TInDef.enc)) + jQ (TType.enc v.type') + DC.wt (.sl (v.dirs.map TDir.enc)))=(((((left - ((v.name.length:Nat):Int)) - ((v.desc.length:Nat):Int)) - ((DC.wt (.sl (v.args.map TInDef.enc)):Nat):Int)) - ((jQ (TType.enc v.type'):Nat):Int)) - ((DC.wt (.sl (v.dirs.map TDir.enc)):Nat):Int)) from (kt (by omega)).trans (by omega)]
theorem jbc (vs:List TFieldDef) (hs:∀ v ∈ vs,Xz (TFieldDef.enc v) → ∀ left:Int,0 ≤ left → left ≤ 1048576 → JZ [.s v.name,.s v.desc,.sl (v.args.map TInDef.enc),.s v.type'.name,.s v.type'.wraps,.sl (v.dirs.map TDir.enc),.i left] = .ret [.i (VL left (jQ (TFieldDef.enc v)))]) (ok:(DC.sl (vs.map TFieldDef.enc)).ok) (left:Int) (h0:0 ≤ left) (h1:left ≤ 1048576):Jf [.sl (vs.map TFieldDef.enc),.i left] = .ret [.i (VL left (DC.wt (.sl (vs.map TFieldDef.enc))))]:=by
 rw [DC.ok,zm] at ok
 obtain ⟨hl,ok⟩:=ok
 rw [j3p]
 simp only [Zb,jr,jv,zb,zi,zs,zl]
 refine Xa hl (fun i hi left h0 h1=>?_) (fun left=>?_) h0 h1
 ·have key:=hs vs[i] (je hi) (Vq ok _ (jD (je hi))) left h0 h1
  generalize jQ (TFieldDef.enc vs[i])=w at key ⊢
  have hc1:(i:Int) < (vs.length:Int):=by omega
  simp only [Ks,jr,jv,zb,zi,zs,zl,j7,zm,jq hi,TFieldDef.enc_eq,key,zr]
  by_cases hc:left < (w:Int)
  ·simp [hi,hc1,hc,jK hc]
  ·simp [hi,hc1,hc,kt hc,show ¬ left - (w:Int) < 0 by omega,jp hi hl]
 ·simp [Ks]
theorem jcW (vs:List TFieldDef) (ok:(DC.sl (vs.map TFieldDef.enc)).ok) (left:Int) (h0:0 ≤ left) (h1:left ≤ 1048576):Jf [.sl (vs.map TFieldDef.enc),.i left] = .ret [.i (VL left (DC.wt (.sl (vs.map TFieldDef.enc))))]:=jbc vs (fun v _=>je8 v) ok left h0 h1
theorem je2 (v:TFieldDef):jQ (TFieldDef.enc v) ≤ 1048576 → JX [.s v.name,.s v.desc,.sl (v.args.map TInDef.enc),.s v.type'.name,.s v.type'.wraps,.sl (v.dirs.map TDir.enc)] = .ret (TFieldDef.enc v):=by
 intro hw
 rw [ZN] at hw
 rw [j4H]
 simp only [ZE,jr,jv,zb,zi,zs,zl]
 rw [jc6 v.args (by omega)]
 simp only [zr,jr,jv,zb,zi,zs,zl]
 rw [jcR v.type' (by omega)]
 simp only [zr,TType.enc_eq,jr,jv,zb,zi,zs,zl]
 rw [Zk v.dirs (by omega)]
 simp only [zr,jr,jv,zb,zi,zs,zl]
 rw [TFieldDef.enc_eq]
theorem jba (vs:List TFieldDef) (hs:∀ v ∈ vs,jQ (TFieldDef.enc v) ≤ 1048576 → JX [.s v.name,.s v.desc,.sl (v.args.map TInDef.enc),.s v.type'.name,.s v.type'.wraps,.sl (v.dirs.map TDir.enc)] = .ret (TFieldDef.enc v)) (hw:DC.wt (.sl (vs.map TFieldDef.enc)) ≤ 1048576):Je [.sl (vs.map TFieldDef.enc)] = .ret [.sl (vs.map TFieldDef.enc)]:=by
 rw [DC.wt,zm] at hw
 have hl:vs.length ≤ 1048576:=by omega
 rw [j3o]
 simp only [Za,jr,jv,zb,zi,zs,zl]
 rw [if_pos ⟨by omega,by rw [zm]; exact j0b hl,trivial,by omega,by omega⟩,j7,zm,show (0:Int)=((0:Nat):Int) from rfl,Q8 hl (fun i hi cur h1 h2=>?_) (fun cur=>?_)]
 ·rfl
 ·have key:=hs vs[i] (je hi) (by have:=qI (jD (f:=TFieldDef.enc) (je hi)); omega)
  have hc1:(i:Int) < (vs.length:Int):=by omega
  simp only [Kr,jr,jv,zb,zi,zs,zl,j7,zm,jq hi,h1,h2,TFieldDef.enc_eq] at key ⊢
  simp only [key,jr,jv,zb,zi,zs,zl,zr]
  simp [hi,hc1,jp hi (show vs.length ≤ 9223372036854775807 by omega),pS]
 ·simp [Kr]
theorem jcS (vs:List TFieldDef) (hw:DC.wt (.sl (vs.map TFieldDef.enc)) ≤ 1048576):Je [.sl (vs.map TFieldDef.enc)] = .ret [.sl (vs.map TFieldDef.enc)]:=jba vs (fun v _=>je2 v) hw
theorem jeV (v:TFieldDef):jQ (TFieldDef.enc v) ≤ 1048576 → K2 [.s v.name,.s v.desc,.sl (v.args.map TInDef.enc),.s v.type'.name,.s v.type'.wraps,.sl (v.dirs.map TDir.enc),.s v.name,.s v.desc,.sl (v.args.map TInDef.enc),.s v.type'.name,.s v.type'.wraps,.sl (v.dirs.map TDir.enc)] = .ret [.b true]:=by
 intro hw
 rw [ZN] at hw
 rw [j4L]
 simp only [ZI,jr,jv,zb,zi,zs,zl,bne_self_eq_false,beq_self_eq_true,jh,zf,if_false]
 rw [jcE v.args (by omega)]
 simp only [zr,jr,jv,zb,zi,zs,zl,bne_self_eq_false,beq_self_eq_true,jh,zf,if_false]
 rw [jdH v.type' (by omega)]
 simp only [zr,jr,jv,zb,zi,zs,zl,bne_self_eq_false,beq_self_eq_true,jh,zf,if_false]
 rw [Zy v.dirs (by omega)]
 simp only [zr,jr,jv,zb,zi,zs,zl,bne_self_eq_false,beq_self_eq_true,jh,zf,if_false]
theorem jbS (vs:List TFieldDef) (hs:∀ v ∈ vs,jQ (TFieldDef.enc v) ≤ 1048576 → K2 [.s v.name,.s v.desc,.sl (v.args.map TInDef.enc),.s v.type'.name,.s v.type'.wraps,.sl (v.dirs.map TDir.enc),.s v.name,.s v.desc,.sl (v.args.map TInDef.enc),.s v.type'.name,.s v.type'.wraps,.sl (v.dirs.map TDir.enc)] = .ret [.b true]) (hw:DC.wt (.sl (vs.map TFieldDef.enc)) ≤ 1048576):Jg [.sl (vs.map TFieldDef.enc),.sl (vs.map TFieldDef.enc)] = .ret [.b true]:=by
 rw [DC.wt,zm] at hw
 have hl:vs.length ≤ 1048576:=by omega
 rw [j3q]
 simp only [Zc,jr,jv,zb,zi,zs,zl]
 refine Xm (fun i hi=>?_) ?_
 ·rw [zm] at hi
  have key:=hs vs[i] (je hi) (by have:=qI (jD (f:=TFieldDef.enc) (je hi)); omega)
  have hc1:(i:Int) < (vs.length:Int):=by omega
  simp only [Kt,jr,jv,zb,zi,zs,zl,j7,zm,jq hi,TFieldDef.enc_eq] at key ⊢
  simp only [key,jr,jv,zb,zi,zs,zl,zr]
  simp [hi,hc1,jp hi (show vs.length ≤ 9223372036854775807 by omega)]
 ·simp [Kt]
theorem jdI (vs:List TFieldDef) (hw:DC.wt (.sl (vs.map TFieldDef.enc)) ≤ 1048576):Jg [.sl (vs.map TFieldDef.enc),.sl (vs.map TFieldDef.enc)] = .ret [.b true]:=jbS vs (fun v _=>jeV v) hw
theorem j15 (v:TEnumDef):jQ (TEnumDef.enc v)=v.name.length + v.desc.length + DC.wt (.sl (v.dirs.map TDir.enc)):=by
 simp only [TEnumDef.enc_eq,jQ,DC.wt]
 try omega
theorem jfu (v:TEnumDef):Xz (TEnumDef.enc v) → ∀ left:Int,0 ≤ left → left ≤ 1048576 → KF [.s v.name,.s v.desc,.sl (v.dirs.map TDir.enc),.i left] = .ret [.i (VL left (jQ (TEnumDef.enc v)))]:=by
 intro ok left h0 h1
 rw [TEnumDef.enc_eq] at ok
 simp only [Xz] at ok
 rw [j5G]
 simp only [j0P,jr,jv,zb,zi,zs,zl]
 rw [j15]
 have b0:v.name.length ≤ 9223372036854775807:=by simpa only [DC.ok] using ok.1
 have b1:v.desc.length ≤ 9223372036854775807:=by simpa only [DC.ok] using ok.2.1
 rw [show IntKind.i64.wrap (left - (v.name.length:Int))=left - (v.name.length:Int) from kp (by omega) (by omega)]
 by_cases c0:left < ((v.name.length:Nat):Int)
 ·have c0':left - ((v.name.length:Nat):Int) < 0:=by omega
  simp only [c0',decide_true,if_true]
  try rw [jK (by omega)]
 have c0':¬ left - ((v.name.length:Nat):Int) < 0:=by omega
 simp only [c0',decide_false,zf,if_false]
 rw [show IntKind.i64.wrap ((left - ((v.name.length:Nat):Int)) - (v.desc.length:Int))=(left - ((v.name.length:Nat):Int)) - (v.desc.length:Int) from kp (by omega) (by omega)]
 by_cases c1:(left - ((v.name.length:Nat):Int)) < ((v.desc.length:Nat):Int)
 ·have c1':(left - ((v.name.length:Nat):Int)) - ((v.desc.length:Nat):Int) < 0:=by omega
  simp only [c1',decide_true,if_true]
  try rw [jK (by omega)]
 have c1':¬ (left - ((v.name.length:Nat):Int)) - ((v.desc.length:Nat):Int) < 0:=by omega
 simp only [c1',decide_false,zf,if_false]
 rw [Zl v.dirs ok.2.2.1 (((left - ((v.name.length:Nat):Int)) - ((v.desc.length:Nat):Int))) (by omega) (by omega)]
 simp only [zr,jr,jv,zb,zi,zs,zl]
 by_cases c2:((left - ((v.name.length:Nat):Int)) - ((v.desc.length:Nat):Int)) < ((DC.wt (.sl (v.dirs.map TDir.enc)):Nat):Int)
 ·rw [jK c2]
  simp only [show (-1:Int) < 0 by omega,decide_true,if_true]
  try rw [jK (by omega)]
 rw [kt c2]
 have c2':¬ ((left - ((v.name.length:Nat):Int)) - ((v.desc.length:Nat):Int)) - ((DC.wt (.sl (v.dirs.map TDir.enc)):Nat):Int) < 0:=by omega
 simp only [c2',decide_false,zf,if_false]
 first
 | done
 | rw [show VL left (v.name.length + v.desc.length + DC.wt (.sl (v.dirs.map TDir.enc)))=(((left - ((v.name.length:Nat):Int)) - ((v.desc.length:Nat):Int)) - ((DC.wt (.sl (v.dirs.map TDir.enc)):Nat):Int)) from (kt (by omega)).trans (by omega)]
theorem jcX (vs:List TEnumDef) (hs:∀ v ∈ vs,Xz (TEnumDef.enc v) → ∀ left:Int,0 ≤ left → left ≤ 1048576 → KF [.s v.name,.s v.desc,.sl (v.dirs.map TDir.enc),.i left] = .ret [.i (VL left (jQ (TEnumDef.enc v)))]) (ok:(DC.sl (vs.map TEnumDef.enc)).ok) (left:Int) (h0:0 ≤ left) (h1:left ≤ 1048576):K0 [.sl (vs.map TEnumDef.enc),.i left] = .ret [.i (VL left (DC.wt (.sl (vs.map TEnumDef.enc))))]:=by
 rw [DC.ok,zm] at ok
 obtain ⟨hl,ok⟩:=ok
 rw [j4K]
 simp only [ZH,jr,jv,zb,zi,zs,zl]
 refine Xa hl (fun i hi left h0 h1=>?_) (fun left=>?_) h0 h1
 ·have key:=hs vs[i] (je hi) (Vq ok _ (jD (je hi))) left h0 h1
  generalize jQ (TEnumDef.enc vs[i])=w at key ⊢
  have hc1:(i:Int) < (vs.length:Int):=by omega
  simp only [Q6,jr,jv,zb,zi,zs,zl,j7,zm,jq hi,TEnumDef.enc_eq,key,zr]
  by_cases hc:left < (w:Int)
  ·simp [hi,hc1,hc,jK hc]
  ·simp [hi,hc1,hc,kt hc,show ¬ left - (w:Int) < 0 by omega,jp hi hl]
 ·simp [Q6]
theorem jec (vs:List TEnumDef) (ok:(DC.sl (vs.map TEnumDef.enc)).ok) (left:Int) (h0:0 ≤ left) (h1:left ≤ 1048576):K0 [.sl (vs.map TEnumDef.enc),.i left] = .ret [.i (VL left (DC.wt (.sl (vs.map TEnumDef.enc))))]:=jcX vs (fun v _=>jfu v) ok left h0 h1
theorem jfp (v:TEnumDef):jQ (TEnumDef.enc v) ≤ 1048576 → KB [.s v.name,.s v.desc,.sl (v.dirs.map TDir.enc)] = .ret (TEnumDef.enc v):=by
 intro hw
 rw [j15] at hw
 rw [j5D]
 simp only [j0M,jr,jv,zb,zi,zs,zl]
 rw [Zk v.dirs (by omega)]
 simp only [zr,jr,jv,zb,zi,zs,zl]
 rw [TEnumDef.enc_eq]
theorem jcT (vs:List TEnumDef) (hs:∀ v ∈ vs,jQ (TEnumDef.enc v) ≤ 1048576 → KB [.s v.name,.s v.desc,.sl (v.dirs.map TDir.enc)] = .ret (TEnumDef.enc v)) (hw:DC.wt (.sl (vs.map TEnumDef.enc)) ≤ 1048576):JY [.sl (vs.map TEnumDef.enc)] = .ret [.sl (vs.map TEnumDef.enc)]:=by
 rw [DC.wt,zm] at hw
 have hl:vs.length ≤ 1048576:=by omega
 rw [j4I]
 simp only [ZF,jr,jv,zb,zi,zs,zl]
 rw [if_pos ⟨by omega,by rw [zm]; exact j0b hl,trivial,by omega,by omega⟩,j7,zm,show (0:Int)=((0:Nat):Int) from rfl,Q8 hl (fun i hi cur h1 h2=>?_) (fun cur=>?_)]
 ·rfl
 ·have key:=hs vs[i] (je hi) (by have:=qI (jD (f:=TEnumDef.enc) (je hi)); omega)
  have hc1:(i:Int) < (vs.length:Int):=by omega
  simp only [Q5,jr,jv,zb,zi,zs,zl,j7,zm,jq hi,h1,h2,TEnumDef.enc_eq] at key ⊢
  simp only [key,jr,jv,zb,zi,zs,zl,zr]
  simp [hi,hc1,jp hi (show vs.length ≤ 9223372036854775807 by omega),pS]
 ·simp [Q5]
theorem je5 (vs:List TEnumDef) (hw:DC.wt (.sl (vs.map TEnumDef.enc)) ≤ 1048576):JY [.sl (vs.map TEnumDef.enc)] = .ret [.sl (vs.map TEnumDef.enc)]:=jcT vs (fun v _=>jfp v) hw
theorem jgg (v:TEnumDef):jQ (TEnumDef.enc v) ≤ 1048576 → KI [.s v.name,.s v.desc,.sl (v.dirs.map TDir.enc),.s v.name,.s v.desc,.sl (v.dirs.map TDir.enc)] = .ret [.b true]:=by
 intro hw
 rw [j15] at hw
 rw [j5J]
 simp only [j0S,jr,jv,zb,zi,zs,zl,bne_self_eq_false,beq_self_eq_true,jh,zf,if_false]
 rw [Zy v.dirs (by omega)]
 simp only [zr,jr,jv,zb,zi,zs,zl,bne_self_eq_false,beq_self_eq_true,jh,zf,if_false]
theorem jdJ (vs:List TEnumDef) (hs:∀ v ∈ vs,jQ (TEnumDef.enc v) ≤ 1048576 → KI [.s v.name,.s v.desc,.sl (v.dirs.map TDir.enc),.s v.name,.s v.desc,.sl (v.dirs.map TDir.enc)] = .ret [.b true]) (hw:DC.wt (.sl (vs.map TEnumDef.enc)) ≤ 1048576):K3 [.sl (vs.map TEnumDef.enc),.sl (vs.map TEnumDef.enc)] = .ret [.b true]:=by
 rw [DC.wt,zm] at hw
 have hl:vs.length ≤ 1048576:=by omega
 rw [j4M]
 simp only [ZJ,jr,jv,zb,zi,zs,zl]
 refine Xm (fun i hi=>?_) ?_
 ·rw [zm] at hi
  have key:=hs vs[i] (je hi) (by have:=qI (jD (f:=TEnumDef.enc) (je hi)); omega)
  have hc1:(i:Int) < (vs.length:Int):=by omega
  simp only [Q7,jr,jv,zb,zi,zs,zl,j7,zm,jq hi,TEnumDef.enc_eq] at key ⊢
  simp only [key,jr,jv,zb,zi,zs,zl,zr]
  simp [hi,hc1,jp hi (show vs.length ≤ 9223372036854775807 by omega)]
 ·simp [Q7]
theorem jeY (vs:List TEnumDef) (hw:DC.wt (.sl (vs.map TEnumDef.enc)) ≤ 1048576):K3 [.sl (vs.map TEnumDef.enc),.sl (vs.map TEnumDef.enc)] = .ret [.b true]:=jdJ vs (fun v _=>jgg v) hw
theorem j6x (v:TRoot):jQ (TRoot.enc v)=v.type'.length:=by
 simp only [TRoot.enc_eq,jQ,DC.wt]
 try omega
theorem jj8 (v:TRoot):Xz (TRoot.enc v) → ∀ left:Int,0 ≤ left → left ≤ 1048576 → Xh [.i v.kind,.s v.type',.i left] = .ret [.i (VL left (jQ (TRoot.enc v)))]:=by
 intro ok left h0 h1
 rw [TRoot.enc_eq] at ok
 simp only [Xz] at ok
 rw [jaq]
 simp only [j46,jr,jv,zb,zi,zs,zl]
 rw [j6x]
 have b0:v.type'.length ≤ 9223372036854775807:=by simpa only [DC.ok] using ok.2.1
 rw [show IntKind.i64.wrap (left - (v.type'.length:Int))=left - (v.type'.length:Int) from kp (by omega) (by omega)]
 by_cases c0:left < ((v.type'.length:Nat):Int)
 ·have c0':left - ((v.type'.length:Nat):Int) < 0:=by omega
  simp only [c0',decide_true,if_true]
  try rw [jK (by omega)]
 have c0':¬ left - ((v.type'.length:Nat):Int) < 0:=by omega
 simp only [c0',decide_false,zf,if_false]
 first
 | done
 | rw [show VL left (v.type'.length)=(left - ((v.type'.length:Nat):Int)) from (kt (by omega)).trans (by omega)]
theorem jh8 (vs:List TRoot) (hs:∀ v ∈ vs,Xz (TRoot.enc v) → ∀ left:Int,0 ≤ left → left ≤ 1048576 → Xh [.i v.kind,.s v.type',.i left] = .ret [.i (VL left (jQ (TRoot.enc v)))]) (ok:(DC.sl (vs.map TRoot.enc)).ok) (left:Int) (h0:0 ≤ left) (h1:left ≤ 1048576):Va [.sl (vs.map TRoot.enc),.i left] = .ret [.i (VL left (DC.wt (.sl (vs.map TRoot.enc))))]:=by
 rw [DC.ok,zm] at ok
 obtain ⟨hl,ok⟩:=ok
 rw [j8A]
 simp only [j2Q,jr,jv,zb,zi,zs,zl]
 refine Xa hl (fun i hi left h0 h1=>?_) (fun left=>?_) h0 h1
 ·have key:=hs vs[i] (je hi) (Vq ok _ (jD (je hi))) left h0 h1
  generalize jQ (TRoot.enc vs[i])=w at key ⊢
  have hc1:(i:Int) < (vs.length:Int):=by omega
  simp only [X6,jr,jv,zb,zi,zs,zl,j7,zm,jq hi,TRoot.enc_eq,key,zr]
  by_cases hc:left < (w:Int)
  ·simp [hi,hc1,hc,jK hc]
  ·simp [hi,hc1,hc,kt hc,show ¬ left - (w:Int) < 0 by omega,jp hi hl]
 ·simp [X6]
theorem jhW (vs:List TRoot) (ok:(DC.sl (vs.map TRoot.enc)).ok) (left:Int) (h0:0 ≤ left) (h1:left ≤ 1048576):Va [.sl (vs.map TRoot.enc),.i left] = .ret [.i (VL left (DC.wt (.sl (vs.map TRoot.enc))))]:=jh8 vs (fun v _=>jj8 v) ok left h0 h1
theorem jj3 (v:TRoot):jQ (TRoot.enc v) ≤ 1048576 → Xg [.i v.kind,.s v.type'] = .ret (TRoot.enc v):=by
 intro hw
 rw [j6x] at hw
 rw [jaj]
 simp only [j3Z,jr,jv,zb,zi,zs,zl]
 rw [TRoot.enc_eq]
theorem jh6 (vs:List TRoot) (hs:∀ v ∈ vs,jQ (TRoot.enc v) ≤ 1048576 → Xg [.i v.kind,.s v.type'] = .ret (TRoot.enc v)) (hw:DC.wt (.sl (vs.map TRoot.enc)) ≤ 1048576):V8 [.sl (vs.map TRoot.enc)] = .ret [.sl (vs.map TRoot.enc)]:=by
 rw [DC.wt,zm] at hw
 have hl:vs.length ≤ 1048576:=by omega
 rw [j8x]
 simp only [j2N,jr,jv,zb,zi,zs,zl]
 rw [if_pos ⟨by omega,by rw [zm]; exact j0b hl,trivial,by omega,by omega⟩,j7,zm,show (0:Int)=((0:Nat):Int) from rfl,Q8 hl (fun i hi cur h1 h2=>?_) (fun cur=>?_)]
 ·rfl
 ·have key:=hs vs[i] (je hi) (by have:=qI (jD (f:=TRoot.enc) (je hi)); omega)
  have hc1:(i:Int) < (vs.length:Int):=by omega
  simp only [X5,jr,jv,zb,zi,zs,zl,j7,zm,jq hi,h1,h2,TRoot.enc_eq] at key ⊢
  simp only [key,jr,jv,zb,zi,zs,zl,zr]
  simp [hi,hc1,jp hi (show vs.length ≤ 9223372036854775807 by omega),pS]
 ·simp [X5]
theorem jhQ (vs:List TRoot) (hw:DC.wt (.sl (vs.map TRoot.enc)) ≤ 1048576):V8 [.sl (vs.map TRoot.enc)] = .ret [.sl (vs.map TRoot.enc)]:=jh6 vs (fun v _=>jj3 v) hw
theorem jjp (v:TRoot):jQ (TRoot.enc v) ≤ 1048576 → Xi [.i v.kind,.s v.type',.i v.kind,.s v.type'] = .ret [.b true]:=by
 intro hw
 rw [j6x] at hw
 rw [jax]
 simp only [j4d,jr,jv,zb,zi,zs,zl,bne_self_eq_false,beq_self_eq_true,jh,zf,if_false]
theorem jhv (vs:List TRoot) (hs:∀ v ∈ vs,jQ (TRoot.enc v) ≤ 1048576 → Xi [.i v.kind,.s v.type',.i v.kind,.s v.type'] = .ret [.b true]) (hw:DC.wt (.sl (vs.map TRoot.enc)) ≤ 1048576):Vc [.sl (vs.map TRoot.enc),.sl (vs.map TRoot.enc)] = .ret [.b true]:=by
 rw [DC.wt,zm] at hw
 have hl:vs.length ≤ 1048576:=by omega
 rw [j8D]
 simp only [j2T,jr,jv,zb,zi,zs,zl]
 refine Xm (fun i hi=>?_) ?_
 ·rw [zm] at hi
  have key:=hs vs[i] (je hi) (by have:=qI (jD (f:=TRoot.enc) (je hi)); omega)
  have hc1:(i:Int) < (vs.length:Int):=by omega
  simp only [X7,jr,jv,zb,zi,zs,zl,j7,zm,jq hi,TRoot.enc_eq] at key ⊢
  simp only [key,jr,jv,zb,zi,zs,zl,zr]
  simp [hi,hc1,jp hi (show vs.length ≤ 9223372036854775807 by omega)]
 ·simp [X7]
theorem jiK (vs:List TRoot) (hw:DC.wt (.sl (vs.map TRoot.enc)) ≤ 1048576):Vc [.sl (vs.map TRoot.enc),.sl (vs.map TRoot.enc)] = .ret [.b true]:=jhv vs (fun v _=>jjp v) hw
theorem j97 (v:TDef):jQ (TDef.enc v)=v.desc.length + v.name.length + DC.wt (.sl (v.faces.map S1)) + DC.wt (.sl (v.fields.map TFieldDef.enc)) + DC.wt (.sl (v.inputs.map TInDef.enc)) + DC.wt (.sl (v.values.map TEnumDef.enc)) + DC.wt (.sl (v.roots.map TRoot.enc)) + DC.wt (.sl (v.dirs.map TDir.enc)):=by
 simp only [TDef.enc_eq,jQ,DC.wt]
 try omega
theorem jjJ (v:TDef):Xz (TDef.enc v) → ∀ left:Int,0 ≤ left → left ≤ 1048576 → j1e [.i v.kind,.b v.ext,.s v.desc,.s v.name,.sl (v.faces.map S1),.sl (v.fields.map TFieldDef.enc),.sl (v.inputs.map TInDef.enc),.sl (v.values.map TEnumDef.enc),.sl (v.roots.map TRoot.enc),.b v.repeat',.sl (v.dirs.map TDir.enc),.i left] = .ret [.i (VL left (jQ (TDef.enc v)))]:=by
 intro ok left h0 h1
 rw [TDef.enc_eq] at ok
 simp only [Xz] at ok
 rw [jbI]
 simp only [j6m,jr,jv,zb,zi,zs,zl]
 rw [j97]
 have b0:v.desc.length ≤ 9223372036854775807:=by simpa only [DC.ok] using ok.2.2.1
 have b1:v.name.length ≤ 9223372036854775807:=by simpa only [DC.ok] using ok.2.2.2.1
 rw [show IntKind.i64.wrap (left - (v.desc.length:Int))=left - (v.desc.length:Int) from kp (by omega) (by omega)]
 by_cases c0:left < ((v.desc.length:Nat):Int)
 ·have c0':left - ((v.desc.length:Nat):Int) < 0:=by omega
  simp only [c0',decide_true,if_true]
  try rw [jK (by omega)]
 have c0':¬ left - ((v.desc.length:Nat):Int) < 0:=by omega
 simp only [c0',decide_false,zf,if_false]
 rw [show IntKind.i64.wrap ((left - ((v.desc.length:Nat):Int)) - (v.name.length:Int))=(left - ((v.desc.length:Nat):Int)) - (v.name.length:Int) from kp (by omega) (by omega)]
 by_cases c1:(left - ((v.desc.length:Nat):Int)) < ((v.name.length:Nat):Int)
 ·have c1':(left - ((v.desc.length:Nat):Int)) - ((v.name.length:Nat):Int) < 0:=by omega
  simp only [c1',decide_true,if_true]
  try rw [jK (by omega)]
 have c1':¬ (left - ((v.desc.length:Nat):Int)) - ((v.name.length:Nat):Int) < 0:=by omega
 simp only [c1',decide_false,zf,if_false]
 rw [j9i v.faces ok.2.2.2.2.1 (((left - ((v.desc.length:Nat):Int)) - ((v.name.length:Nat):Int))) (by omega) (by omega)]
 simp only [zr,jr,jv,zb,zi,zs,zl]
 by_cases c2:((left - ((v.desc.length:Nat):Int)) - ((v.name.length:Nat):Int)) < ((DC.wt (.sl (v.faces.map S1)):Nat):Int)
 ·rw [jK c2]
  simp only [show (-1:Int) < 0 by omega,decide_true,if_true]
  try rw [jK (by omega)]
 rw [kt c2]
 have c2':¬ ((left - ((v.desc.length:Nat):Int)) - ((v.name.length:Nat):Int)) - ((DC.wt (.sl (v.faces.map S1)):Nat):Int) < 0:=by omega
 simp only [c2',decide_false,zf,if_false]
 rw [jcW v.fields ok.2.2.2.2.2.1 ((((left - ((v.desc.length:Nat):Int)) - ((v.name.length:Nat):Int)) - ((DC.wt (.sl (v.faces.map S1)):Nat):Int))) (by omega) (by omega)]
 simp only [zr,jr,jv,zb,zi,zs,zl]
 by_cases c3:(((left - ((v.desc.length:Nat):Int)) - ((v.name.length:Nat):Int)) - ((DC.wt (.sl (v.faces.map S1)):Nat):Int)) < ((DC.wt (.sl (v.fields.map TFieldDef.enc)):Nat):Int)
 ·rw [jK c3]
  simp only [show (-1:Int) < 0 by omega,decide_true,if_true]
  try rw [jK (by omega)]
 rw [kt c3]
 have c3':¬ (((left - ((v.desc.length:Nat):Int)) - ((v.name.length:Nat):Int)) - ((DC.wt (.sl (v.faces.map S1)):Nat):Int)) - ((DC.wt (.sl (v.fields.map TFieldDef.enc)):Nat):Int) < 0:=by omega
 simp only [c3',decide_false,zf,if_false]
 rw [jcb v.inputs ok.2.2.2.2.2.2.1 (((((left - ((v.desc.length:Nat):Int)) - ((v.name.length:Nat):Int)) - ((DC.wt (.sl (v.faces.map S1)):Nat):Int)) - ((DC.wt (.sl (v.fields.map TFieldDef.enc)):Nat):Int))) (by omega) (by omega)]
 simp only [zr,jr,jv,zb,zi,zs,zl]
 by_cases c4:((((left - ((v.desc.length:Nat):Int)) - ((v.name.length:Nat):Int)) - ((DC.wt (.sl (v.faces.map S1)):Nat):Int)) - ((DC.wt (.sl (v.fields.map TFieldDef.enc)):Nat):Int)) < ((DC.wt (.sl (v.inputs.map TInDef.enc)):Nat):Int)
 ·rw [jK c4]
  simp only [show (-1:Int) < 0 by omega,decide_true,if_true]
  try rw [jK (by omega)]
 rw [kt c4]
 have c4':¬ ((((left - ((v.desc.length:Nat):Int)) - ((v.name.length:Nat):Int)) - ((DC.wt (.sl (v.faces.map S1)):Nat):Int)) - ((DC.wt (.sl (v.fields.map TFieldDef.enc)):Nat):Int)) - ((DC.wt (.sl (v.inputs.map TInDef.enc)):Nat):Int) < 0:=by omega
 simp only [c4',decide_false,zf,if_false]
 rw [jec v.values ok.2.2.2.2.2.2.2.1 ((((((left - ((v.desc.length:Nat):Int)) - ((v.name.length:Nat):Int)) - ((DC.wt (.sl (v.faces.map S1)):Nat):Int)) - ((DC.wt (.sl (v.fields.map TFieldDef.enc)):Nat):Int)) - ((DC.wt (.sl (v.inputs.map TInDef.enc)):Nat):Int))) (by omega) (by omega)]
 simp only [zr,jr,jv,zb,zi,zs,zl]
 by_cases c5:(((((left - ((v.desc.length:Nat):Int)) - ((v.name.length:Nat):Int)) - ((DC.wt (.sl (v.faces.map S1)):Nat):Int)) - ((DC.wt (.sl (v.fields.map TFieldDef.enc)):Nat):Int)) - ((DC.wt (.sl (v.inputs.map TInDef.enc)):Nat):Int)) < ((DC.wt (.sl (v.values.map TEnumDef.enc)):Nat):Int)
 ·rw [jK c5]
  simp only [show (-1:Int) < 0 by omega,decide_true,if_true]
  try rw [jK (by omega)]
 rw [kt c5]
 have c5':¬ (((((left - ((v.desc.length:Nat):Int)) - ((v.name.length:Nat):Int)) - ((DC.wt (.sl (v.faces.map S1)):Nat):Int)) - ((DC.wt (.sl (v.fields.map TFieldDef.enc)):Nat):Int)) - ((DC.wt (.sl (v.inputs.map TInDef.enc)):Nat):Int)) - ((DC.wt (.sl (v.values.map TEnumDef.enc)):Nat):Int) < 0:=by omega
 simp only [c5',decide_false,zf,if_false]
 rw [jhW v.roots ok.2.2.2.2.2.2.2.2.1 (((((((left - ((v.desc.length:Nat):Int)) - ((v.name.length:Nat):Int)) - ((DC.wt (.sl (v.faces.map S1)):Nat):Int)) - ((DC.wt (.sl (v.fields.map TFieldDef.enc)):Nat):Int)) - ((DC.wt (.sl (v.inputs.map TInDef.enc)):Nat):Int)) - ((DC.wt (.sl (v.values.map TEnumDef.enc)):Nat):Int))) (by omega) (by omega)]
 simp only [zr,jr,jv,zb,zi,zs,zl]
 by_cases c6:((((((left - ((v.desc.length:Nat):Int)) - ((v.name.length:Nat):Int)) - ((DC.wt (.sl (v.faces.map S1)):Nat):Int)) - ((DC.wt (.sl (v.fields.map TFieldDef.enc)):Nat):Int)) - ((DC.wt (.sl (v.inputs.map TInDef.enc)):Nat):Int)) - ((DC.wt (.sl (v.values.map TEnumDef.enc)):Nat):Int)) < ((DC.wt (.sl (v.roots.map TRoot.enc)):Nat):Int)
 ·rw [jK c6]
  simp only [show (-1:Int) < 0 by omega,decide_true,if_true]
  try rw [jK (by omega)]
 rw [kt c6]
 have c6':¬ ((((((left - ((v.desc.length:Nat):Int)) - ((v.name.length:Nat):Int)) - ((DC.wt (.sl (v.faces.map S1)):Nat):Int)) - ((DC.wt (.sl (v.fields.map TFieldDef.enc)):Nat):Int)) - ((DC.wt (.sl (v.inputs.map TInDef.enc)):Nat):Int)) - ((DC.wt (.sl (v.values.map TEnumDef.enc)):Nat):Int)) - ((DC.wt (.sl (v.roots.map TRoot.enc)):Nat):Int) < 0:=by omega
 simp only [c6',decide_false,zf,if_false]
 rw [Zl v.dirs ok.2.2.2.2.2.2.2.2.2.2.1 ((((((((left - ((v.desc.length:Nat):Int)) - ((v.name.length:Nat):Int)) - ((DC.wt (.sl (v.faces.map S1)):Nat):Int)) - ((DC.wt (.sl (v.fields.map TFieldDef.enc)):Nat):Int)) - ((DC.wt (.sl (v.inputs.map TInDef.enc)):Nat):Int)) - ((DC.wt (.sl (v.values.map TEnumDef.enc)):Nat):Int)) - ((DC.wt (.sl (v.roots.map TRoot.enc)):Nat):Int))) (by omega) (by omega)]
 simp only [zr,jr,jv,zb,zi,zs,zl]
 by_cases c7:(((((((left - ((v.desc.length:Nat):Int)) - ((v.name.length:Nat):Int)) - ((DC.wt (.sl (v.faces.map S1)):Nat):Int)) - ((DC.wt (.sl (v.fields.map TFieldDef.enc)):Nat):Int)) - ((DC.wt (.sl (v.inputs.map TInDef.enc)):Nat):Int)) - ((DC.wt (.sl (v.values.map TEnumDef.enc)):Nat):Int)) - ((DC.wt (.sl (v.roots.map TRoot.enc)):Nat):Int)) < ((DC.wt (.sl (v.dirs.map TDir.enc)):Nat):Int)
 ·rw [jK c7]
  simp only [show (-1:Int) < 0 by omega,decide_true,if_true]
  try rw [jK (by omega)]
 rw [kt c7]
 have c7':¬ (((((((left - ((v.desc.length:Nat):Int)) - ((v.name.length:Nat):Int)) - ((DC.wt (.sl (v.faces.map S1)):Nat):Int)) - ((DC.wt (.sl (v.fields.map TFieldDef.enc)):Nat):Int)) - ((DC.wt (.sl (v.inputs.map TInDef.enc)):Nat):Int)) - ((DC.wt (.sl (v.values.map TEnumDef.enc)):Nat):Int)) - ((DC.wt (.sl (v.roots.map TRoot.enc)):Nat):Int)) - ((DC.wt (.sl (v.dirs.map TDir.enc)):Nat):Int) < 0:=by omega
 simp only [c7',decide_false,zf,if_false]
 first
 | done
 | rw [show VL left (v.desc.length + v.name.length + DC.wt (.sl (v.faces.map S1)) + DC.wt (.sl (v.fields.map TFieldDef.enc)) + DC.wt (.sl (v.inputs.map TInDef.enc)) + DC.wt (.sl (v.values.map TEnumDef.enc)) + DC.wt (.sl (v.roots.map TRoot.enc)) + DC.wt (.sl (v.dirs.map TDir.enc)))=((((((((left - ((v.desc.length:Nat):Int)) - ((v.name.length:Nat):Int)) - ((DC.wt (.sl (v.faces.map S1)):Nat):Int)) - ((DC.wt (.sl (v.fields.map TFieldDef.enc)):Nat):Int)) - ((DC.wt (.sl (v.inputs.map TInDef.enc)):Nat):Int)) - ((DC.wt (.sl (v.values.map TEnumDef.enc)):Nat):Int)) - ((DC.wt (.sl (v.roots.map TRoot.enc)):Nat):Int)) - ((DC.wt (.sl (v.dirs.map TDir.enc)):Nat):Int)) from (kt (by omega)).trans (by omega)]
theorem jjE (v:TDef):jQ (TDef.enc v) ≤ 1048576 → j1d [.i v.kind,.b v.ext,.s v.desc,.s v.name,.sl (v.faces.map S1),.sl (v.fields.map TFieldDef.enc),.sl (v.inputs.map TInDef.enc),.sl (v.values.map TEnumDef.enc),.sl (v.roots.map TRoot.enc),.b v.repeat',.sl (v.dirs.map TDir.enc)] = .ret (TDef.enc v):=by
 intro hw
 rw [j97] at hw
 rw [jbE]
 simp only [j6i,jr,jv,zb,zi,zs,zl]
 rw [j9e v.faces (by have h:=hw; simp only [DC.wt,zm] at h; omega)]
 simp only [zr,jr,jv,zb,zi,zs,zl]
 rw [jcS v.fields (by omega)]
 simp only [zr,jr,jv,zb,zi,zs,zl]
 rw [jc6 v.inputs (by omega)]
 simp only [zr,jr,jv,zb,zi,zs,zl]
 rw [je5 v.values (by omega)]
 simp only [zr,jr,jv,zb,zi,zs,zl]
 rw [jhQ v.roots (by omega)]
 simp only [zr,jr,jv,zb,zi,zs,zl]
 rw [Zk v.dirs (by omega)]
 simp only [zr,jr,jv,zb,zi,zs,zl]
 rw [TDef.enc_eq]
theorem jjU (v:TDef):jQ (TDef.enc v) ≤ 1048576 → j1f [.i v.kind,.b v.ext,.s v.desc,.s v.name,.sl (v.faces.map S1),.sl (v.fields.map TFieldDef.enc),.sl (v.inputs.map TInDef.enc),.sl (v.values.map TEnumDef.enc),.sl (v.roots.map TRoot.enc),.b v.repeat',.sl (v.dirs.map TDir.enc),.i v.kind,.b v.ext,.s v.desc,.s v.name,.sl (v.faces.map S1),.sl (v.fields.map TFieldDef.enc),.sl (v.inputs.map TInDef.enc),.sl (v.values.map TEnumDef.enc),.sl (v.roots.map TRoot.enc),.b v.repeat',.sl (v.dirs.map TDir.enc)] = .ret [.b true]:=by
 intro hw
 rw [j97] at hw
 rw [jbM]
 simp only [j6q,jr,jv,zb,zi,zs,zl,bne_self_eq_false,beq_self_eq_true,jh,zf,if_false]
 rw [jaS v.faces (by have h:=hw; simp only [DC.wt,zm] at h; omega)]
 simp only [zr,jr,jv,zb,zi,zs,zl,bne_self_eq_false,beq_self_eq_true,jh,zf,if_false]
 rw [jdI v.fields (by omega)]
 simp only [zr,jr,jv,zb,zi,zs,zl,bne_self_eq_false,beq_self_eq_true,jh,zf,if_false]
 rw [jcE v.inputs (by omega)]
 simp only [zr,jr,jv,zb,zi,zs,zl,bne_self_eq_false,beq_self_eq_true,jh,zf,if_false]
 rw [jeY v.values (by omega)]
 simp only [zr,jr,jv,zb,zi,zs,zl,bne_self_eq_false,beq_self_eq_true,jh,zf,if_false]
 rw [jiK v.roots (by omega)]
 simp only [zr,jr,jv,zb,zi,zs,zl,bne_self_eq_false,beq_self_eq_true,jh,zf,if_false]
 rw [Zy v.dirs (by omega)]
 simp only [zr,jr,jv,zb,zi,zs,zl,bne_self_eq_false,beq_self_eq_true,jh,zf,if_false]
theorem j0m (v:TItem):jQ (TItem.enc v)=jQ (TOp.enc v.op) + jQ (TFrag.enc v.frag) + jQ (TDef.enc v.def'):=by
 simp only [TItem.enc_eq,jQ,DC.wt,TOp.enc_eq,TFrag.enc_eq,TDef.enc_eq]
 try omega
theorem jj9 (v:TItem):Xz (TItem.enc v) → ∀ left:Int,0 ≤ left → left ≤ 1048576 → j01 [.i v.kind,.i v.op.kind,.s v.op.name,.sl (v.op.vars.map TVarDef.enc),.sl (v.op.dirs.map TDir.enc),.sl (v.op.sels.map TSel.enc),.s v.frag.name,.s v.frag.on',.sl (v.frag.dirs.map TDir.enc),.sl (v.frag.sels.map TSel.enc),.i v.def'.kind,.b v.def'.ext,.s v.def'.desc,.s v.def'.name,.sl (v.def'.faces.map S1),.sl (v.def'.fields.map TFieldDef.enc),.sl (v.def'.inputs.map TInDef.enc),.sl (v.def'.values.map TEnumDef.enc),.sl (v.def'.roots.map TRoot.enc),.b v.def'.repeat',.sl (v.def'.dirs.map TDir.enc),.i left] = .ret [.i (VL left (jQ (TItem.enc v)))]:=by
 intro ok left h0 h1
 rw [TItem.enc_eq] at ok
 simp only [Xz] at ok
 rw [jar]
 simp only [j47,jr,jv,zb,zi,zs,zl]
 rw [j0m]
 rw [jk1 v.op (by rw [TOp.enc_eq]; simp only [Xz]; exact ⟨ok.2.1,ok.2.2.1,ok.2.2.2.1,ok.2.2.2.2.1,ok.2.2.2.2.2.1,trivial⟩) (left) (by omega) (by omega)]
 simp only [zr,jr,jv,zb,zi,zs,zl]
 by_cases c0:left < ((jQ (TOp.enc v.op):Nat):Int)
 ·rw [jK c0]
  simp only [show (-1:Int) < 0 by omega,decide_true,if_true]
  try rw [jK (by omega)]
 rw [kt c0]
 have c0':¬ left - ((jQ (TOp.enc v.op):Nat):Int) < 0:=by omega
 simp only [c0',decide_false,zf,if_false]
 rw [jja v.frag (by rw [TFrag.enc_eq]; simp only [Xz]; exact ⟨ok.2.2.2.2.2.2.1,ok.2.2.2.2.2.2.2.1,ok.2.2.2.2.2.2.2.2.1,ok.2.2.2.2.2.2.2.2.2.1,trivial⟩) ((left - ((jQ (TOp.enc v.op):Nat):Int))) (by omega) (by omega)]
 simp only [zr,jr,jv,zb,zi,zs,zl]
 by_cases c1:(left - ((jQ (TOp.enc v.op):Nat):Int)) < ((jQ (TFrag.enc v.frag):Nat):Int)
 ·rw [jK c1]
  simp only [show (-1:Int) < 0 by omega,decide_true,if_true]
  try rw [jK (by omega)]
 rw [kt c1]
 have c1':¬ (left - ((jQ (TOp.enc v.op):Nat):Int)) - ((jQ (TFrag.enc v.frag):Nat):Int) < 0:=by omega
 simp only [c1',decide_false,zf,if_false]
 rw [jjJ v.def' (by rw [TDef.enc_eq]; simp only [Xz]; exact ⟨ok.2.2.2.2.2.2.2.2.2.2.1,ok.2.2.2.2.2.2.2.2.2.2.2.1,ok.2.2.2.2.2.2.2.2.2.2.2.2.1,ok.2.2.2.2.2.2.2.2.2.2.2.2.2.1,ok.2.2.2.2.2.2.2.2.2.2.2.2.2.2.1,ok.2.2.2.2.2.2.2.2.2.2.2.2.2.2.2.1,ok.2.2.2.2.2.2.2.2.2.2.2.2.2.2.2.2.1,ok.2.2.2.2.2.2.2.2.2.2.2.2.2.2.2.2.2.1,ok.2.2.2.2.2.2.2.2.2.2.2.2.2.2.2.2.2.2.1,ok.2.2.2.2.2.2.2.2.2.2.2.2.2.2.2.2.2.2.2.1,ok.2.2.2.2.2.2.2.2.2.2.2.2.2.2.2.2.2.2.2.2.1,trivial⟩) (((left - ((jQ (TOp.enc v.op):Nat):Int)) - ((jQ (TFrag.enc v.frag):Nat):Int))) (by omega) (by omega)]
 simp only [zr,jr,jv,zb,zi,zs,zl]
 by_cases c2:((left - ((jQ (TOp.enc v.op):Nat):Int)) - ((jQ (TFrag.enc v.frag):Nat):Int)) < ((jQ (TDef.enc v.def'):Nat):Int)
 ·rw [jK c2]
  simp only [show (-1:Int) < 0 by omega,decide_true,if_true]
  try rw [jK (by omega)]
 rw [kt c2]
 have c2':¬ ((left - ((jQ (TOp.enc v.op):Nat):Int)) - ((jQ (TFrag.enc v.frag):Nat):Int)) - ((jQ (TDef.enc v.def'):Nat):Int) < 0:=by omega
 simp only [c2',decide_false,zf,if_false]
 first
 | done
 | rw [show VL left (jQ (TOp.enc v.op) + jQ (TFrag.enc v.frag) + jQ (TDef.enc v.def'))=(((left - ((jQ (TOp.enc v.op):Nat):Int)) - ((jQ (TFrag.enc v.frag):Nat):Int)) - ((jQ (TDef.enc v.def'):Nat):Int)) from (kt (by omega)).trans (by omega)]
theorem jj4 (v:TItem):jQ (TItem.enc v) ≤ 1048576 → Qa [.i v.kind,.i v.op.kind,.s v.op.name,.sl (v.op.vars.map TVarDef.enc),.sl (v.op.dirs.map TDir.enc),.sl (v.op.sels.map TSel.enc),.s v.frag.name,.s v.frag.on',.sl (v.frag.dirs.map TDir.enc),.sl (v.frag.sels.map TSel.enc),.i v.def'.kind,.b v.def'.ext,.s v.def'.desc,.s v.def'.name,.sl (v.def'.faces.map S1),.sl (v.def'.fields.map TFieldDef.enc),.sl (v.def'.inputs.map TInDef.enc),.sl (v.def'.values.map TEnumDef.enc),.sl (v.def'.roots.map TRoot.enc),.b v.def'.repeat',.sl (v.def'.dirs.map TDir.enc)] = .ret (TItem.enc v):=by
 intro hw
 rw [j0m] at hw
 rw [jak]
 simp only [j40,jr,jv,zb,zi,zs,zl]
 rw [jk0 v.op (by omega)]
 simp only [zr,TOp.enc_eq,jr,jv,zb,zi,zs,zl]
 rw [jj5 v.frag (by omega)]
 simp only [zr,TFrag.enc_eq,jr,jv,zb,zi,zs,zl]
 rw [jjE v.def' (by omega)]
 simp only [zr,TDef.enc_eq,jr,jv,zb,zi,zs,zl]
 rw [TItem.enc_eq]
theorem jjq (v:TItem):jQ (TItem.enc v) ≤ 1048576 → j03 [.i v.kind,.i v.op.kind,.s v.op.name,.sl (v.op.vars.map TVarDef.enc),.sl (v.op.dirs.map TDir.enc),.sl (v.op.sels.map TSel.enc),.s v.frag.name,.s v.frag.on',.sl (v.frag.dirs.map TDir.enc),.sl (v.frag.sels.map TSel.enc),.i v.def'.kind,.b v.def'.ext,.s v.def'.desc,.s v.def'.name,.sl (v.def'.faces.map S1),.sl (v.def'.fields.map TFieldDef.enc),.sl (v.def'.inputs.map TInDef.enc),.sl (v.def'.values.map TEnumDef.enc),.sl (v.def'.roots.map TRoot.enc),.b v.def'.repeat',.sl (v.def'.dirs.map TDir.enc),.i v.kind,.i v.op.kind,.s v.op.name,.sl (v.op.vars.map TVarDef.enc),.sl (v.op.dirs.map TDir.enc),.sl (v.op.sels.map TSel.enc),.s v.frag.name,.s v.frag.on',.sl (v.frag.dirs.map TDir.enc),.sl (v.frag.sels.map TSel.enc),.i v.def'.kind,.b v.def'.ext,.s v.def'.desc,.s v.def'.name,.sl (v.def'.faces.map S1),.sl (v.def'.fields.map TFieldDef.enc),.sl (v.def'.inputs.map TInDef.enc),.sl (v.def'.values.map TEnumDef.enc),.sl (v.def'.roots.map TRoot.enc),.b v.def'.repeat',.sl (v.def'.dirs.map TDir.enc)] = .ret [.b true]:=by
 intro hw
 rw [j0m] at hw
 rw [jay]
 simp only [j4e,jr,jv,zb,zi,zs,zl,bne_self_eq_false,beq_self_eq_true,jh,zf,if_false]
 rw [jmt v.op (by omega)]
 simp only [zr,jr,jv,zb,zi,zs,zl,bne_self_eq_false,beq_self_eq_true,jh,zf,if_false]
 rw [jjr v.frag (by omega)]
 simp only [zr,jr,jv,zb,zi,zs,zl,bne_self_eq_false,beq_self_eq_true,jh,zf,if_false]
 rw [jjU v.def' (by omega)]
 simp only [zr,jr,jv,zb,zi,zs,zl,bne_self_eq_false,beq_self_eq_true,jh,zf,if_false]
theorem jd6 {l:List TSel} (h:zx l=true):∀ x ∈ l,zL ((10:Nat):Int) x=true:=fun x hx=>by
 simp only [zx,jj] at h
 exact List.all_eq_true.1 h.1 x hx
theorem jjv {l:List TSel}:∀ {x:TSel},x ∈ l → kq x ≤ pT l:=by
 induction l with
 | nil=>intro x h; simp at h
 | cons a l ih =>
  intro x h
  have:pT (a :: l)=kq a + pT l:=by simp [pT]
  rcases List.mem_cons.1 h with rfl | h
  ·omega
  ·have:=ih h; omega
theorem jhg {l:List TSel} (h:zx l=true):l.all j2h=true:=by
 have hR:=jd6 h
 simp only [zx,jj,decide_eq_true_eq] at h
 refine List.all_eq_true.2 fun x hx=>?_
 have:=jjv hx
 simp only [j2h,jj,decide_eq_true_eq]
 exact ⟨hR x hx,by omega⟩
theorem j9U {v:TFrag} (h:j1s v=true):pP v.dirs=true ∧ zx v.sels=true:=by
 simp only [j1s,jj] at h
 exact ⟨h.2.2.2.1,h.2.2.2.2.1⟩
def jiG (v:TFrag):List UInt8:=(((([102,114,97,103,109,101,110,116,32] ++ v.name) ++ [32,111,110,32]) ++ v.on') ++ XE v.dirs) ++ (J2 0 (qb v.sels 1) ++ [10])
noncomputable def j2x (v:TFrag):List UInt8:=if j1s v=true then jiG v else []
theorem jeQ (v:TFrag):jQ v.enc=v.name.length + v.on'.length + DC.wt (.sl (v.dirs.map TDir.enc)) + DC.wt (.sl (v.sels.map TSel.enc)):=j35 v
set_option maxHeartbeats 8000000 in
theorem jbk (v:TFrag) (hw:jQ v.enc ≤ 1048576):XN [.s v.name,.s v.on',.sl (v.dirs.map TDir.enc),.sl (v.sels.map TSel.enc)] = .ret [.s (j2x v)]:=by
 have hk:=jek v hw
 rw [j6Z]
 unfold j2x
 cases hg:j1s v with
 | false=>rw [hg] at hk; simp only [XY,jr,jv,zb,zi,zs,zl,hk,zr,jn,if_true,zf,if_false]
 | true =>
  rw [hg] at hk
  obtain ⟨g2,g3⟩:=j9U hg
  rw [jeQ] at hw
  have hxs:=(kH (l:=v.sels) (enc:=TSel.enc) (n:=1048576) (by omega)).2
  have hR:=jd6 g3
  have l1:=j0p v.sels 10 1 (fun x hm=>VS 10 x (hxs x hm) (by omega) (hR x hm)) (by omega)
  have l3:=yf v.dirs
  have hS:=j2e 10 v.sels 1 (by omega) (by omega) (by omega) hR
  have hB:∀ out:List UInt8,out.length + (J2 0 (qb v.sels 1)).length < 1073741824 → y9 [.sl (jx out),.sl (v.sels.map TSel.enc),.i 0] = .ret [.sl (jx (out ++ J2 0 (qb v.sels 1)))]:=j4x v.sels 0 (by omega) (fun out ho=>hS out ho)
  have hD:=qB v.dirs (by omega) g2
  have lb:(J2 0 (qb v.sels 1)).length=(qb v.sels 1).length + 4:=by simp [J2,zJ]
  simp only [XY,jr,jv,zb,zi,zs,zl,hk,zr,jh,zf,if_false]
  unfold jiG
  simp (disch:=first | omega | (simp only [j3,j4,j6,jf,jF] <;> omega) | fail) only [jr,jv,zb,zi,zs,zl,jl,jm,jf,j3,j4,j6,jF,if_true,if_false,zf,zr,j8,jd,j9,jc,if_pos,j7,zm,true_and,and_self,decide_true,bs,hD,hB,lb,zy,jI]
  simp
set_option maxHeartbeats 8000000 in
theorem jbw (v:TFrag) (hw:jQ v.enc ≤ 1048576):XW [.s v.name,.s v.on',.sl (v.dirs.map TDir.enc),.sl (v.sels.map TSel.enc)] = .ret [.s (j2x v)]:=by
 have hk:=jeN v hw
 rw [j7h]
 unfold j2x
 cases hg:j1s v with
 | false=>rw [hg] at hk; simp only [Yb,jr,jv,zb,zi,zs,zl,hk,zr,jn,if_true,zf,if_false]
 | true =>
  rw [hg] at hk
  obtain ⟨g2,g3⟩:=j9U hg
  rw [jeQ] at hw
  have hxs:=(kH (l:=v.sels) (enc:=TSel.enc) (n:=1048576) (by omega)).2
  have hR:=jd6 g3
  have l1:=j0p v.sels 10 1 (fun x hm=>VS 10 x (hxs x hm) (by omega) (hR x hm)) (by omega)
  have l3:=yf v.dirs
  have hT:=j3D v.sels 1 (by omega)
  have hT2:j0q v.sels 1=qb v.sels 1:=by
   unfold j0q
   rw [jhg g3]
   rfl
  rw [hT2] at hT
  have hB:yY [.sl (v.sels.map TSel.enc)] = .ret [.s ([123,10] ++ qb v.sels 1 ++ [125,10])]:=by
   rw [j0z]
   simp (disch:=first | omega | (simp only [j3,j4,j6,jf,jF] <;> omega) | fail) only [Ya,jr,jv,zb,zi,zs,zl,jl,jm,jf,j3,j4,j6,jF,if_true,if_false,zf,zr,j8,jd,j9,jc,if_pos,j7,zm,true_and,and_self,decide_true,bs,hT]
  have hD:=yq v.dirs (by omega) g2
  simp only [Yb,jr,jv,zb,zi,zs,zl,hk,zr,jh,zf,if_false]
  unfold jiG
  simp (disch:=first | omega | (simp only [j3,j4,j6,jf,jF] <;> omega) | fail) only [jr,jv,zb,zi,zs,zl,jl,jm,jf,j3,j4,j6,jF,if_true,if_false,zf,zr,j8,jd,j9,jc,if_pos,j7,zm,true_and,and_self,decide_true,bs,hD,hB]
  simp [J2,zJ]
noncomputable def j5l (v:TItem):List UInt8:=if v.kind=1 then j9C v.op else if v.kind=2 then j2x v.frag else if v.kind=3 then j5X v.def' else []
theorem jbj (v:TItem) (hw:jQ v.enc ≤ 1048576):XM [.i v.kind,.i v.op.kind,.s v.op.name,.sl (v.op.vars.map TVarDef.enc),.sl (v.op.dirs.map TDir.enc),.sl (v.op.sels.map TSel.enc),.s v.frag.name,.s v.frag.on',.sl (v.frag.dirs.map TDir.enc),.sl (v.frag.sels.map TSel.enc),.i v.def'.kind,.b v.def'.ext,.s v.def'.desc,.s v.def'.name,.sl (v.def'.faces.map S1),.sl (v.def'.fields.map TFieldDef.enc),.sl (v.def'.inputs.map TInDef.enc),.sl (v.def'.values.map TEnumDef.enc),.sl (v.def'.roots.map TRoot.enc),.b v.def'.repeat',.sl (v.def'.dirs.map TDir.enc)] = .ret [.s (j5l v)]:=by
 rw [j0m] at hw
 have h1:=jej v.op (by omega)
 have h2:=jbk v.frag (by omega)
 have h3:=jd4 v.def' (by omega)
 rw [j6Y]
 simp only [j1K,jr,jv,zb,zi,zs,zl,h1,h2,h3,zr,beq_iff_eq]
 unfold j5l
 by_cases k1:v.kind=1
 ·rw [if_pos k1,if_pos k1]; rfl
 rw [if_neg k1,if_neg k1]
 by_cases k2:v.kind=2
 ·rw [if_pos k2,if_pos k2]; rfl
 rw [if_neg k2,if_neg k2]
 by_cases k3:v.kind=3
 ·rw [if_pos k3,if_pos k3]; rfl
 rw [if_neg k3,if_neg k3]; rfl
theorem jbv (v:TItem) (hw:jQ v.enc ≤ 1048576):XV [.i v.kind,.i v.op.kind,.s v.op.name,.sl (v.op.vars.map TVarDef.enc),.sl (v.op.dirs.map TDir.enc),.sl (v.op.sels.map TSel.enc),.s v.frag.name,.s v.frag.on',.sl (v.frag.dirs.map TDir.enc),.sl (v.frag.sels.map TSel.enc),.i v.def'.kind,.b v.def'.ext,.s v.def'.desc,.s v.def'.name,.sl (v.def'.faces.map S1),.sl (v.def'.fields.map TFieldDef.enc),.sl (v.def'.inputs.map TInDef.enc),.sl (v.def'.values.map TEnumDef.enc),.sl (v.def'.roots.map TRoot.enc),.b v.def'.repeat',.sl (v.def'.dirs.map TDir.enc)] = .ret [.s (j5l v)]:=by
 rw [j0m] at hw
 have h1:=jeM v.op (by omega)
 have h2:=jbw v.frag (by omega)
 have h3:=jdw v.def' (by omega)
 rw [j7g]
 simp only [j20,jr,jv,zb,zi,zs,zl,h1,h2,h3,zr,beq_iff_eq]
 unfold j5l
 by_cases k1:v.kind=1
 ·rw [if_pos k1,if_pos k1]; rfl
 rw [if_neg k1,if_neg k1]
 by_cases k2:v.kind=2
 ·rw [if_pos k2,if_pos k2]; rfl
 rw [if_neg k2,if_neg k2]
 by_cases k3:v.kind=3
 ·rw [if_pos k3,if_pos k3]; rfl
 rw [if_neg k3,if_neg k3]; rfl
mutual
theorem jjA {ty:Nat → Option TI}:∀ {t:CT} {c:DC},WfC ty t c → c.ok
 | _,_,.b x=>by simp [DC.ok]
 | _,_,.i k n _ _=>by simp [DC.ok]
 | _,_,.s l h=>by rw [DC.ok]; simpa [maxLen] using h
 | _,_,.sl e te l h1 h2 h3=>by rw [DC.ok]; exact ⟨by simpa [maxLen] using h2,jhI h3⟩
 | _,_,.nil e=>by rw [DC.ok]; exact ⟨by simp,by rw [okV]; trivial⟩
theorem jfm {ty:Nat → Option TI}:∀ {ts:List CT} {x:List DC},WfL ty ts x → Xz x
 | _,_,.nil=>by rw [Xz]; trivial
 | _,_,.cons t ts x xs h1 h2=>by rw [Xz]; exact ⟨jjA h1,jfm h2⟩
theorem jhI {ty:Nat → Option TI}:∀ {ts:List CT} {l:List (List DC)},WfV ty ts l → okV l
 | _,_,.nil ts=>by rw [okV]; trivial
 | _,_,.cons ts x l h1 h2=>by rw [okV]; exact ⟨jfm h1,jhI h2⟩
end
theorem jmu {α:Type} {ty:Nat → Option TI} {enc:α → List DC} {cts:List CT}:∀ {l:List (List DC)},(∀ x ∈ l,WfL ty cts x → ∃ v,x=enc v) → WfV ty cts l → ∃ vs:List α,l=vs.map enc
 | [],_,_=>⟨[],rfl⟩
 | x :: l,h,hw=>by
  cases hw with
  | cons ts x l h1 h2 =>
   obtain ⟨v,hv⟩:=h x (by simp) h1
   obtain ⟨vs,hvs⟩:=jmu (fun y hy=>h y (by simp [hy])) h2
   exact ⟨v :: vs,by rw [jL,hv,hvs]⟩
theorem VN {α:Type} {ty:Nat → Option TI} {enc:α → List DC} {e:Nat} {te:TI} {c:DC} (hte:ty e=some te) (h:∀ l,c = .sl l → ∀ x ∈ l,WfL ty te.cts x → ∃ v,x=enc v) (hw:WfC ty (.sl e) c):∃ vs:List α,c = .sl (vs.map enc):=by
 cases hw with
 | sl e te' l h1 h2 h3 =>
  rw [hte] at h1
  obtain rfl:=Option.some.inj h1
  obtain ⟨vs,hvs⟩:=jmu (h l rfl) h3
  exact ⟨vs,by rw [hvs]⟩
 | nil=>exact ⟨[],rfl⟩
theorem j5Y {ty:Nat → Option TI} {k:IntKind} {c:DC} (h:WfC ty (.i k) c):∃ n,c = .i n ∧ k.min ≤ n ∧ n ≤ k.max:=by
 cases h with
 | i k n h1 h2=>exact ⟨n,rfl,h1,h2⟩
theorem jgW {ty:Nat → Option TI} {c:DC} (h:WfC ty .b c):∃ n,c = .b n:=by cases h; exact ⟨_,rfl⟩
theorem zn {ty:Nat → Option TI} {c:DC} (h:WfC ty .s c):∃ n,c = .s n:=by cases h; exact ⟨_,rfl⟩
theorem jaV {ty:Nat → Option TI} {x:List DC} (h:WfL ty [.s] x):∃ n,x=S1 n:=by
 cases h with
 | cons t ts x xs h1 h2 =>
  cases h2
  obtain ⟨n,rfl⟩:=zn h1
  exact ⟨n,rfl⟩
theorem jH {ty:Nat → Option TI} {t:CT} {ts:List CT} {x:List DC} (h:WfL ty (t :: ts) x):∃ c xs,x=c :: xs ∧ WfC ty t c ∧ WfL ty ts xs:=by
 cases h with
 | cons t ts x xs h1 h2=>exact ⟨x,xs,rfl,h1,h2⟩
theorem QZ {ty:Nat → Option TI} {x:List DC} (h:WfL ty [] x):x=[]:=by cases h; rfl
theorem j9E {l:List (List DC)} {x:List DC} (h:x ∈ l):SizeOf.sizeOf x < SizeOf.sizeOf (DC.sl l):=by
 have:=List.sizeOf_lt_of_mem h
 simp only [DC.sl.sizeOf_spec]
 omega
theorem tyS:ju.ty 9=some ⟨.str,[.s],16,[],false⟩:=by kernel_rfl
theorem j50:ju.ty 135=some ⟨.struct,[.i .i64,.s,.sl 135,.sl 9],72,[(0,1,false),(1,1,false),(2,1,false),(3,1,false)],false⟩:=by kernel_rfl
theorem j3e {x:List DC} (h0:WfL ju.ty [.i .i64,.s,.sl 135,.sl 9] x):∃ v:TValue,x=TValue.enc v:=by
 have h:=h0
 obtain ⟨c0,r0,e0,w0,h⟩:=jH h
 obtain ⟨n0,rfl,_,_⟩:=j5Y w0
 obtain ⟨c1,r1,e1,w1,h⟩:=jH h
 obtain ⟨n1,rfl⟩:=zn w1
 obtain ⟨c2,r2,e2,w2,h⟩:=jH h
 have hrec2:∀ l,c2 = .sl l → ∀ y ∈ l,WfL ju.ty [.i .i64,.s,.sl 135,.sl 9] y → ∃ v:TValue,y=TValue.enc v:=fun l hl y hy hw=>by
  have hlt:SizeOf.sizeOf y < SizeOf.sizeOf x:=by
   have:=j9E hy
   rw [← hl] at this
   subst e0 e1 e2
   simp only [List.cons.sizeOf_spec]
   omega
  exact j3e hw
 obtain ⟨n2,rfl⟩:=VN (enc:=TValue.enc) j50 hrec2 w2
 obtain ⟨c3,r3,e3,w3,h⟩:=jH h
 obtain ⟨n3,rfl⟩:=VN (enc:=S1) tyS (fun l _ y hy hw=>jaV hw) w3
 have hn:=QZ h
 refine ⟨⟨n0,n1,n2,n3⟩,?_⟩
 rw [TValue.enc_eq]
 subst hn
 simp only [e0,e1,e2,e3]
termination_by SizeOf.sizeOf x
theorem jhL:ju.ty 243=some ⟨.struct,[.s,.i .i64,.s,.sl 135,.sl 9],88,[(0,1,false),(1,4,true)],false⟩:=by kernel_rfl
theorem jgX {x:List DC} (h0:WfL ju.ty [.s,.i .i64,.s,.sl 135,.sl 9] x):∃ v:TArg,x=TArg.enc v:=by
 have h:=h0
 obtain ⟨c0,r0,e0,w0,h⟩:=jH h
 obtain ⟨n0,rfl⟩:=zn w0
 obtain ⟨c1,r1,e1,w1,h⟩:=jH h
 obtain ⟨n1,rfl,_,_⟩:=j5Y w1
 obtain ⟨c2,r2,e2,w2,h⟩:=jH h
 obtain ⟨n2,rfl⟩:=zn w2
 obtain ⟨c3,r3,e3,w3,h⟩:=jH h
 obtain ⟨n3,rfl⟩:=VN (enc:=TValue.enc) j50 (fun l _ y hy hw=>j3e hw) w3
 obtain ⟨c4,r4,e4,w4,h⟩:=jH h
 obtain ⟨n4,rfl⟩:=VN (enc:=S1) tyS (fun l _ y hy hw=>jaV hw) w4
 have hn:=QZ h
 refine ⟨⟨n0,⟨n1,n2,n3,n4⟩⟩,?_⟩
 rw [TArg.enc_eq]
 subst hn
 simp only [e0,e1,e2,e3,e4]
theorem j2b:ju.ty 141=some ⟨.struct,[.s,.sl 243],40,[(0,1,false),(1,1,false)],false⟩:=by kernel_rfl
theorem ZA {x:List DC} (h0:WfL ju.ty [.s,.sl 243] x):∃ v:TDir,x=TDir.enc v:=by
 have h:=h0
 obtain ⟨c0,r0,e0,w0,h⟩:=jH h
 obtain ⟨n0,rfl⟩:=zn w0
 obtain ⟨c1,r1,e1,w1,h⟩:=jH h
 obtain ⟨n1,rfl⟩:=VN (enc:=TArg.enc) jhL (fun l _ y hy hw=>jgX hw) w1
 have hn:=QZ h
 refine ⟨⟨n0,n1⟩,?_⟩
 rw [TDir.enc_eq]
 subst hn
 simp only [e0,e1]
theorem jfn:ju.ty 144=some ⟨.struct,[.i .i64,.s,.s,.s,.sl 243,.sl 141,.sl 144],128,[(0,1,false),(1,1,false),(2,1,false),(3,1,false),(4,1,false),(5,1,false),(6,1,false)],false⟩:=by kernel_rfl
theorem jdN {x:List DC} (h0:WfL ju.ty [.i .i64,.s,.s,.s,.sl 243,.sl 141,.sl 144] x):∃ v:TSel,x=TSel.enc v:=by
 have h:=h0
 obtain ⟨c0,r0,e0,w0,h⟩:=jH h
 obtain ⟨n0,rfl,_,_⟩:=j5Y w0
 obtain ⟨c1,r1,e1,w1,h⟩:=jH h
 obtain ⟨n1,rfl⟩:=zn w1
 obtain ⟨c2,r2,e2,w2,h⟩:=jH h
 obtain ⟨n2,rfl⟩:=zn w2
 obtain ⟨c3,r3,e3,w3,h⟩:=jH h
 obtain ⟨n3,rfl⟩:=zn w3
 obtain ⟨c4,r4,e4,w4,h⟩:=jH h
 obtain ⟨n4,rfl⟩:=VN (enc:=TArg.enc) jhL (fun l _ y hy hw=>jgX hw) w4
 obtain ⟨c5,r5,e5,w5,h⟩:=jH h
 obtain ⟨n5,rfl⟩:=VN (enc:=TDir.enc) j2b (fun l _ y hy hw=>ZA hw) w5
 obtain ⟨c6,r6,e6,w6,h⟩:=jH h
 have hrec6:∀ l,c6 = .sl l → ∀ y ∈ l,WfL ju.ty [.i .i64,.s,.s,.s,.sl 243,.sl 141,.sl 144] y → ∃ v:TSel,y=TSel.enc v:=fun l hl y hy hw=>by
  have hlt:SizeOf.sizeOf y < SizeOf.sizeOf x:=by
   have:=j9E hy
   rw [← hl] at this
   subst e0 e1 e2 e3 e4 e5 e6
   simp only [List.cons.sizeOf_spec]
   omega
  exact jdN hw
 obtain ⟨n6,rfl⟩:=VN (enc:=TSel.enc) jfn hrec6 w6
 have hn:=QZ h
 refine ⟨⟨n0,n1,n2,n3,n4,n5,n6⟩,?_⟩
 rw [TSel.enc_eq]
 subst hn
 simp only [e0,e1,e2,e3,e4,e5,e6]
termination_by SizeOf.sizeOf x
theorem jh4:ju.ty 137=some ⟨.struct,[.s,.s,.s,.b,.i .i64,.s,.sl 135,.sl 9,.sl 141],152,[(0,1,false),(1,2,true),(3,1,false),(4,4,true),(8,1,false)],false⟩:=by kernel_rfl
theorem jgl {x:List DC} (h0:WfL ju.ty [.s,.s,.s,.b,.i .i64,.s,.sl 135,.sl 9,.sl 141] x):∃ v:TVarDef,x=TVarDef.enc v:=by
 have h:=h0
 obtain ⟨c0,r0,e0,w0,h⟩:=jH h
 obtain ⟨n0,rfl⟩:=zn w0
 obtain ⟨c1,r1,e1,w1,h⟩:=jH h
 obtain ⟨n1,rfl⟩:=zn w1
 obtain ⟨c2,r2,e2,w2,h⟩:=jH h
 obtain ⟨n2,rfl⟩:=zn w2
 obtain ⟨c3,r3,e3,w3,h⟩:=jH h
 obtain ⟨n3,rfl⟩:=jgW w3
 obtain ⟨c4,r4,e4,w4,h⟩:=jH h
 obtain ⟨n4,rfl,_,_⟩:=j5Y w4
 obtain ⟨c5,r5,e5,w5,h⟩:=jH h
 obtain ⟨n5,rfl⟩:=zn w5
 obtain ⟨c6,r6,e6,w6,h⟩:=jH h
 obtain ⟨n6,rfl⟩:=VN (enc:=TValue.enc) j50 (fun l _ y hy hw=>j3e hw) w6
 obtain ⟨c7,r7,e7,w7,h⟩:=jH h
 obtain ⟨n7,rfl⟩:=VN (enc:=S1) tyS (fun l _ y hy hw=>jaV hw) w7
 obtain ⟨c8,r8,e8,w8,h⟩:=jH h
 obtain ⟨n8,rfl⟩:=VN (enc:=TDir.enc) j2b (fun l _ y hy hw=>ZA hw) w8
 have hn:=QZ h
 refine ⟨⟨n0,⟨n1,n2⟩,n3,⟨n4,n5,n6,n7⟩,n8⟩,?_⟩
 rw [TVarDef.enc_eq]
 subst hn
 simp only [e0,e1,e2,e3,e4,e5,e6,e7,e8]
theorem je0:ju.ty 150=some ⟨.struct,[.s,.s,.s,.s,.b,.i .i64,.s,.sl 135,.sl 9,.sl 141],168,[(0,1,false),(1,1,false),(2,2,true),(4,1,false),(5,4,true),(9,1,false)],false⟩:=by kernel_rfl
theorem jcF {x:List DC} (h0:WfL ju.ty [.s,.s,.s,.s,.b,.i .i64,.s,.sl 135,.sl 9,.sl 141] x):∃ v:TInDef,x=TInDef.enc v:=by
 have h:=h0
 obtain ⟨c0,r0,e0,w0,h⟩:=jH h
 obtain ⟨n0,rfl⟩:=zn w0
 obtain ⟨c1,r1,e1,w1,h⟩:=jH h
 obtain ⟨n1,rfl⟩:=zn w1
 obtain ⟨c2,r2,e2,w2,h⟩:=jH h
 obtain ⟨n2,rfl⟩:=zn w2
 obtain ⟨c3,r3,e3,w3,h⟩:=jH h
 obtain ⟨n3,rfl⟩:=zn w3
 obtain ⟨c4,r4,e4,w4,h⟩:=jH h
 obtain ⟨n4,rfl⟩:=jgW w4
 obtain ⟨c5,r5,e5,w5,h⟩:=jH h
 obtain ⟨n5,rfl,_,_⟩:=j5Y w5
 obtain ⟨c6,r6,e6,w6,h⟩:=jH h
 obtain ⟨n6,rfl⟩:=zn w6
 obtain ⟨c7,r7,e7,w7,h⟩:=jH h
 obtain ⟨n7,rfl⟩:=VN (enc:=TValue.enc) j50 (fun l _ y hy hw=>j3e hw) w7
 obtain ⟨c8,r8,e8,w8,h⟩:=jH h
 obtain ⟨n8,rfl⟩:=VN (enc:=S1) tyS (fun l _ y hy hw=>jaV hw) w8
 obtain ⟨c9,r9,e9,w9,h⟩:=jH h
 obtain ⟨n9,rfl⟩:=VN (enc:=TDir.enc) j2b (fun l _ y hy hw=>ZA hw) w9
 have hn:=QZ h
 refine ⟨⟨n0,n1,⟨n2,n3⟩,n4,⟨n5,n6,n7,n8⟩,n9⟩,?_⟩
 rw [TInDef.enc_eq]
 subst hn
 simp only [e0,e1,e2,e3,e4,e5,e6,e7,e8,e9]
theorem je1:ju.ty 147=some ⟨.struct,[.s,.s,.sl 150,.s,.s,.sl 141],112,[(0,1,false),(1,1,false),(2,1,false),(3,2,true),(5,1,false)],false⟩:=by kernel_rfl
theorem jdO {x:List DC} (h0:WfL ju.ty [.s,.s,.sl 150,.s,.s,.sl 141] x):∃ v:TFieldDef,x=TFieldDef.enc v:=by
 have h:=h0
 obtain ⟨c0,r0,e0,w0,h⟩:=jH h
 obtain ⟨n0,rfl⟩:=zn w0
 obtain ⟨c1,r1,e1,w1,h⟩:=jH h
 obtain ⟨n1,rfl⟩:=zn w1
 obtain ⟨c2,r2,e2,w2,h⟩:=jH h
 obtain ⟨n2,rfl⟩:=VN (enc:=TInDef.enc) je0 (fun l _ y hy hw=>jcF hw) w2
 obtain ⟨c3,r3,e3,w3,h⟩:=jH h
 obtain ⟨n3,rfl⟩:=zn w3
 obtain ⟨c4,r4,e4,w4,h⟩:=jH h
 obtain ⟨n4,rfl⟩:=zn w4
 obtain ⟨c5,r5,e5,w5,h⟩:=jH h
 obtain ⟨n5,rfl⟩:=VN (enc:=TDir.enc) j2b (fun l _ y hy hw=>ZA hw) w5
 have hn:=QZ h
 refine ⟨⟨n0,n1,n2,⟨n3,n4⟩,n5⟩,?_⟩
 rw [TFieldDef.enc_eq]
 subst hn
 simp only [e0,e1,e2,e3,e4,e5]
theorem jfo:ju.ty 153=some ⟨.struct,[.s,.s,.sl 141],56,[(0,1,false),(1,1,false),(2,1,false)],false⟩:=by kernel_rfl
theorem jf3 {x:List DC} (h0:WfL ju.ty [.s,.s,.sl 141] x):∃ v:TEnumDef,x=TEnumDef.enc v:=by
 have h:=h0
 obtain ⟨c0,r0,e0,w0,h⟩:=jH h
 obtain ⟨n0,rfl⟩:=zn w0
 obtain ⟨c1,r1,e1,w1,h⟩:=jH h
 obtain ⟨n1,rfl⟩:=zn w1
 obtain ⟨c2,r2,e2,w2,h⟩:=jH h
 obtain ⟨n2,rfl⟩:=VN (enc:=TDir.enc) j2b (fun l _ y hy hw=>ZA hw) w2
 have hn:=QZ h
 refine ⟨⟨n0,n1,n2⟩,?_⟩
 rw [TEnumDef.enc_eq]
 subst hn
 simp only [e0,e1,e2]
theorem jj2:ju.ty 155=some ⟨.struct,[.i .i64,.s],24,[(0,1,false),(1,1,false)],false⟩:=by kernel_rfl
theorem jiP {x:List DC} (h0:WfL ju.ty [.i .i64,.s] x):∃ v:TRoot,x=TRoot.enc v:=by
 have h:=h0
 obtain ⟨c0,r0,e0,w0,h⟩:=jH h
 obtain ⟨n0,rfl,_,_⟩:=j5Y w0
 obtain ⟨c1,r1,e1,w1,h⟩:=jH h
 obtain ⟨n1,rfl⟩:=zn w1
 have hn:=QZ h
 refine ⟨⟨n0,n1⟩,?_⟩
 rw [TRoot.enc_eq]
 subst hn
 simp only [e0,e1]
theorem jiQ {x:List DC} (h0:WfL ju.ty [.i .i64,.i .i64,.s,.sl 137,.sl 141,.sl 144,.s,.s,.sl 141,.sl 144,.i .i64,.b,.s,.s,.sl 9,.sl 147,.sl 150,.sl 153,.sl 155,.b,.sl 141] x):∃ v:TItem,x=TItem.enc v:=by
 have h:=h0
 obtain ⟨c0,r0,e0,w0,h⟩:=jH h
 obtain ⟨n0,rfl,_,_⟩:=j5Y w0
 obtain ⟨c1,r1,e1,w1,h⟩:=jH h
 obtain ⟨n1,rfl,_,_⟩:=j5Y w1
 obtain ⟨c2,r2,e2,w2,h⟩:=jH h
 obtain ⟨n2,rfl⟩:=zn w2
 obtain ⟨c3,r3,e3,w3,h⟩:=jH h
 obtain ⟨n3,rfl⟩:=VN (enc:=TVarDef.enc) jh4 (fun l _ y hy hw=>jgl hw) w3
 obtain ⟨c4,r4,e4,w4,h⟩:=jH h
 obtain ⟨n4,rfl⟩:=VN (enc:=TDir.enc) j2b (fun l _ y hy hw=>ZA hw) w4
 obtain ⟨c5,r5,e5,w5,h⟩:=jH h
 obtain ⟨n5,rfl⟩:=VN (enc:=TSel.enc) jfn (fun l _ y hy hw=>jdN hw) w5
 obtain ⟨c6,r6,e6,w6,h⟩:=jH h
 obtain ⟨n6,rfl⟩:=zn w6
 obtain ⟨c7,r7,e7,w7,h⟩:=jH h
 obtain ⟨n7,rfl⟩:=zn w7
 obtain ⟨c8,r8,e8,w8,h⟩:=jH h
 obtain ⟨n8,rfl⟩:=VN (enc:=TDir.enc) j2b (fun l _ y hy hw=>ZA hw) w8
 obtain ⟨c9,r9,e9,w9,h⟩:=jH h
 obtain ⟨n9,rfl⟩:=VN (enc:=TSel.enc) jfn (fun l _ y hy hw=>jdN hw) w9
 obtain ⟨c10,r10,e10,w10,h⟩:=jH h
 obtain ⟨n10,rfl,_,_⟩:=j5Y w10
 obtain ⟨c11,r11,e11,w11,h⟩:=jH h
 obtain ⟨n11,rfl⟩:=jgW w11
 obtain ⟨c12,r12,e12,w12,h⟩:=jH h
 obtain ⟨n12,rfl⟩:=zn w12
 obtain ⟨c13,r13,e13,w13,h⟩:=jH h
 obtain ⟨n13,rfl⟩:=zn w13
 obtain ⟨c14,r14,e14,w14,h⟩:=jH h
 obtain ⟨n14,rfl⟩:=VN (enc:=S1) tyS (fun l _ y hy hw=>jaV hw) w14
 obtain ⟨c15,r15,e15,w15,h⟩:=jH h
 obtain ⟨n15,rfl⟩:=VN (enc:=TFieldDef.enc) je1 (fun l _ y hy hw=>jdO hw) w15
 obtain ⟨c16,r16,e16,w16,h⟩:=jH h
 obtain ⟨n16,rfl⟩:=VN (enc:=TInDef.enc) je0 (fun l _ y hy hw=>jcF hw) w16
 obtain ⟨c17,r17,e17,w17,h⟩:=jH h
 obtain ⟨n17,rfl⟩:=VN (enc:=TEnumDef.enc) jfo (fun l _ y hy hw=>jf3 hw) w17
 obtain ⟨c18,r18,e18,w18,h⟩:=jH h
 obtain ⟨n18,rfl⟩:=VN (enc:=TRoot.enc) jj2 (fun l _ y hy hw=>jiP hw) w18
 obtain ⟨c19,r19,e19,w19,h⟩:=jH h
 obtain ⟨n19,rfl⟩:=jgW w19
 obtain ⟨c20,r20,e20,w20,h⟩:=jH h
 obtain ⟨n20,rfl⟩:=VN (enc:=TDir.enc) j2b (fun l _ y hy hw=>ZA hw) w20
 have hn:=QZ h
 refine ⟨⟨n0,⟨n1,n2,n3,n4,n5⟩,⟨n6,n7,n8,n9⟩,⟨n10,n11,n12,n13,n14,n15,n16,n17,n18,n19,n20⟩⟩,?_⟩
 rw [TItem.enc_eq]
 subst hn
 simp only [e0,e1,e2,e3,e4,e5,e6,e7,e8,e9,e10,e11,e12,e13,e14,e15,e16,e17,e18,e19,e20]
theorem jgp {ty:Nat → Option TI}:∀ {ts1 ts2:List CT} {x:List DC},WfL ty (ts1 ++ ts2) x → ∃ y z,x=y ++ z ∧ WfL ty ts1 y ∧ WfL ty ts2 z
 | [],ts2,x,h=>⟨[],x,rfl,.nil,h⟩
 | t :: ts1,ts2,x,h=>by
  obtain ⟨c,xs,rfl,h1,h2⟩:=jH h
  obtain ⟨y,z,rfl,h3,h4⟩:=jgp h2
  exact ⟨c :: y,z,rfl,.cons _ _ _ _ h1 h3,h4⟩
theorem j3k (d:List DC) (hd:WfL ju.ty [.i .i64,.i .i64,.s,.sl 137,.sl 141,.sl 144,.s,.s,.sl 141,.sl 144,.i .i64,.b,.s,.s,.sl 9,.sl 147,.sl 150,.sl 153,.sl 155,.b,.sl 141] d):Ve d = .ret [.b true]:=by
 obtain ⟨y0,z0,e0,w0,hd⟩:=jgp (ts1:=[.i .i64,.i .i64,.s,.sl 137,.sl 141,.sl 144,.s,.s,.sl 141,.sl 144,.i .i64,.b,.s,.s,.sl 9,.sl 147,.sl 150,.sl 153,.sl 155,.b,.sl 141]) (ts2:=[]) hd
 have hz:=QZ hd
 have k0:=jfm w0
 obtain ⟨a0,g0⟩:=jiQ w0
 subst g0
 subst hz
 subst e0
 rw [j0x]
 simp only [VK,TItem.enc_eq,jN,jy,jV,jr,jv,zb,zi,zs,zl]
 rw [jj9 a0 k0 (1048576) (by omega) (by omega)]
 simp only [zr,jr,jv,zb,zi,zs,zl]
 by_cases s0:(1048576:Int) < ((jQ (TItem.enc a0):Nat):Int)
 ·rw [jK s0]
  rfl
 rw [kt s0]
 have s0':¬ (1048576:Int) - ((jQ (TItem.enc a0):Nat):Int) < 0:=by omega
 simp only [s0',decide_false,zf,if_false]
 have W0:jQ (TItem.enc a0) ≤ 1048576:=by omega
 have hs:=jbj a0 W0
 have hi:=jbv a0 W0
 simp only [jj4 a0 W0,jjq a0 W0,hs,hi,TItem.enc_eq,jr,jv,zb,zi,zs,zl,zr,bne_self_eq_false,beq_self_eq_true,jh,zf,if_false]
end Go.Proofs.QV
