import Derived.Test.YtjmfjemandkfdacGreatDoorMZ9
/- What stands in definitions: both implementations answer the same (written by a program in part). -/
namespace Go.Proofs.QV
open Go
open Out renaming esc_ex → jG, andThen_norm → j8, andThenB_ret → jd, andThenB_norm → j9, andThenB_ex → jc, andThen → jb, andThenB → ja
open _root_.List renaming not_all_eq_any_not → js, getElem_mem → je, length_append → j3, length_cons → j4, length_nil → j6, nil_append → jy, map_cons → jL, append_nil → jV
open _root_.Int renaming toNat_natCast → j7, natCast_zero → jI
open _root_.Bool renaming and_eq_true → jj, not_true → jh, not_false → jn, and_true → jS, true_and → jC, and_false → jT, false_and → jP, false_or → jW
set_option linter.unusedVariables false
set_option linter.unusedSimpArgs false
set_option maxRecDepth 100000
noncomputable def Q3 (s:List UInt8):Bool:=s == [] || !(qJ s == [])
theorem Yf (s:List UInt8) (hs:s.length ≤ 1048576):zV [.s s] = .ret [.b (Q3 s)]:=by
 rw [j8p]
 simp only [j2G,jr,jv,zb,zi,zs,zl,Ku s hs,zr,Q3]
 cases (s == ([]:List UInt8)) <;> simp
theorem Zu (s:List UInt8) (hs:s.length ≤ 1048576):JM [.s s] = .ret [.b (Q3 s)]:=by
 rw [jaG]
 simp only [j4m,jr,jv,zb,zi,zs,zl,KS s hs,zr,Q3]
 cases (s == ([]:List UInt8)) <;> simp
noncomputable def j1o (v:TInDef):Bool:=jX v.name && (Q3 v.desc && (yx v.type'.name v.type'.wraps && (XG v.has' v.default' && pi v.dirs)))
theorem jeH (v:TInDef):jQ v.enc=v.name.length + v.desc.length + v.type'.name.length + v.type'.wraps.length + jQ v.default'.enc + DC.wt (.sl (v.dirs.map TDir.enc)):=by
 rw [TInDef.enc_eq,TValue.enc_eq]
 simp only [jQ,DC.wt]
 omega
theorem jfG (v:TInDef) (hw:jQ v.enc ≤ 1048576):j1a [.s v.name,.s v.desc,.s v.type'.name,.s v.type'.wraps,.b v.has',.i v.default'.kind,.s v.default'.text,.sl (v.default'.items.map TValue.enc),.sl (v.default'.names.map S1),.sl (v.dirs.map TDir.enc)] = .ret [.b (j1o v)]:=by
 rw [jeH] at hw
 rw [jbx]
 simp only [j6c,jr,jv,zb,zi,zs,zl,kQ v.name (by omega),Yf v.desc (by omega),Zn v.type'.name v.type'.wraps (by omega) (by omega),j1w v.has' v.default' (by omega),Ka v.dirs (by omega),zr,j1o]
 generalize jX v.name=p1
 generalize Q3 v.desc=p2
 generalize yx v.type'.name v.type'.wraps=p3
 generalize XG v.has' v.default'=p4
 generalize pi v.dirs=p5
 cases p1 <;> cases p2 <;> cases p3 <;> cases p4 <;> simp
theorem jcz (v:TInDef) (hw:jQ v.enc ≤ 1048576):Zr [.s v.name,.s v.desc,.s v.type'.name,.s v.type'.wraps,.b v.has',.i v.default'.kind,.s v.default'.text,.sl (v.default'.items.map TValue.enc),.sl (v.default'.names.map S1),.sl (v.dirs.map TDir.enc)] = .ret [.b (j1o v)]:=by
 rw [jeH] at hw
 rw [jdE]
 simp only [j8e,jr,jv,zb,zi,zs,zl,kR v.name (by omega),Zu v.desc (by omega),Zv v.type'.name v.type'.wraps (by omega) (by omega),j2v v.has' v.default' (by omega),Kp v.dirs (by omega),zr,j1o]
 generalize jX v.name=p1
 generalize Q3 v.desc=p2
 generalize yx v.type'.name v.type'.wraps=p3
 generalize XG v.has' v.default'=p4
 generalize pi v.dirs=p5
 cases p1 <;> cases p2 <;> cases p3 <;> cases p4 <;> simp
noncomputable def XC (l:List TInDef):Bool:=l.all j1o
theorem j8T (ok:TInDef → Bool) (l:List TInDef) (hl:l.length ≤ 1048576) (hc:∀ x ∈ l,Vh [.s x.name,.s x.desc,.s x.type'.name,.s x.type'.wraps,.b x.has',.i x.default'.kind,.s x.default'.text,.sl (x.default'.items.map TValue.enc),.sl (x.default'.names.map S1),.sl (x.dirs.map TDir.enc)] = .ret [.b (!ok x)]):kI [.sl (l.map TInDef.enc)] = .ret [.b (!(l.all ok))]:=by
 rw [zk]
 simp only [pR,jr,zl]
 rw [J0]
 simp only [qn,jr,zl,zm]
 rw [show (0:Int)=((0:Nat):Int) from rfl,kb (l:=l) (st:=fun i=>[.sl (l.map TInDef.enc),.i (l.length:Int),.i (i:Int)]) (p:=fun n=>!ok n) (stop:=fun i _=>.ret [.i (i:Int)]) (fin:=.ex 0 []) (fun i hi=>?step) (fun _ _=>Out.esc_ret _) ?fin (jG _ _),zS]
 ·rw [js]
  cases hf:l.findIdx? fun n=>!ok n with
  | none =>
   have:(l.any fun n=>!ok n)=false:=by
    rw [List.any_eq_false]
    intro x hx
    have:=List.findIdx?_eq_none_iff.1 hf x hx
    simpa using this
   rw [this]
   simp
  | some j =>
   obtain ⟨hj,h1,h2⟩:=List.findIdx?_eq_some_iff_getElem.1 hf
   have:(l.any fun n=>!ok n)=true:=List.any_eq_true.2 ⟨l[j],je hj,h1⟩
   rw [this]
   simp [hj]
 case step =>
  have c2:0 ≤ (i:Int) ∧ (i:Int) < (l.length:Int):=by omega
  have d:decide ((i:Int) < (l.length:Int))=true:=decide_eq_true (by omega)
  have he:Vh [.s l[i].name,.s l[i].desc,.s l[i].type'.name,.s l[i].type'.wraps,.b l[i].has',.i l[i].default'.kind,.s l[i].default'.text,.sl (l[i].default'.items.map TValue.enc),.sl (l[i].default'.names.map S1),.sl (l[i].dirs.map TDir.enc)] = .ret [.b (!ok l[i])]:=hc _ (je hi)
  simp only [kP,jr,jv,zb,zi,zs,zl,j7,zm,jq hi,TInDef.enc_eq,d,c2,he,zr,true_and,and_self,if_true]
  cases ok l[i] <;> simp [jp hi (show l.length ≤ 9223372036854775807 by omega)]
 case fin=>simp [kP]
theorem j9Q (l:List TInDef) (hw:DC.wt (.sl (l.map TInDef.enc)) ≤ 1048576):Yq [.sl (l.map TInDef.enc)] = .ret [.b (XC l)]:=by
 obtain ⟨hl,hx⟩:=kH hw
 rw [jbO]
 simp only [j6s,jr,jv,zb,zi,zs,zl]
 rw [j8T j1o l hl fun x hm=>by
  rw [j8I]
  simp only [j2W,jr,jv,zb,zi,zs,zl,jcz x (hx x hm),zr]]
 simp only [zr,jr,jv,zb,zi,zs,zl,Bool.not_not,XC]
theorem j7E (l:List TInDef) (hw:DC.wt (.sl (l.map TInDef.enc)) ≤ 1048576):zz [.sl (l.map TInDef.enc)] = .ret [.b (XC l)]:=by
 obtain ⟨hl,hx⟩:=kH hw
 rw [ja0]
 simp only [j3L,jr,jv,zb,zi,zs,zl]
 have hlp:jR Qu [.sl (l.map TInDef.enc),.i 0]=if l.all j1o=true then .ex 0 [] else .ret [.b false]:=by
  rw [show (0:Int)=((0:Nat):Int) from rfl,kb (l:=l) (st:=fun i=>[.sl (l.map TInDef.enc),.i (i:Int)]) (p:=fun x=>!j1o x) (stop:=fun i _=>.ret [.b false]) (fin:=.ex 0 []) (fun i hi=>?step) (fun _ _=>Out.esc_ret _) ?fin (jG _ _),qU]
  ·rw [show (l.any fun x=>!j1o x) = !(l.all j1o) by rw [js]]
   cases l.all j1o <;> simp
  case step =>
   have hx:=jfG l[i] (hx _ (je hi))
   have c2:0 ≤ (i:Int) ∧ (i:Int) < (l.length:Int):=by omega
   have d:decide ((i:Int) < (l.length:Int))=true:=decide_eq_true (by omega)
   simp only [Qu,jr,jv,zb,zi,zs,zl,j7,zm,jq hi,d,c2,TInDef.enc_eq,hx,zr,true_and,and_self,if_true,decide_true]
   rcases zt (j1o l[i]) with q | q <;> simp [q,jp hi (show l.length ≤ 9223372036854775807 by omega)]
  case fin=>simp [Qu]
 rw [hlp]
 unfold XC
 cases l.all j1o <;> simp
noncomputable def y5 (v:TFieldDef):Bool:=jX v.name && (Q3 v.desc && (yx v.type'.name v.type'.wraps && (XC v.args && pi v.dirs)))
theorem j2y (v:TFieldDef):jQ v.enc=v.name.length + v.desc.length + DC.wt (.sl (v.args.map TInDef.enc)) + v.type'.name.length + v.type'.wraps.length + DC.wt (.sl (v.dirs.map TDir.enc)):=by
 rw [TFieldDef.enc_eq]
 simp only [jQ]
 simp only [DC.wt]
 omega
theorem jbf (v:TFieldDef) (hw:jQ v.enc ≤ 1048576):XJ [.s v.name,.s v.desc,.sl (v.args.map TInDef.enc),.s v.type'.name,.s v.type'.wraps,.sl (v.dirs.map TDir.enc)] = .ret [.b (y5 v)]:=by
 rw [j2y] at hw
 rw [j6P]
 simp only [j1B,jr,jv,zb,zi,zs,zl,kQ v.name (by omega),Yf v.desc (by omega),Zn v.type'.name v.type'.wraps (by omega) (by omega),j7E v.args (by omega),Ka v.dirs (by omega),zr,y5]
 generalize jX v.name=p1
 generalize Q3 v.desc=p2
 generalize yx v.type'.name v.type'.wraps=p3
 generalize XC v.args=p4
 generalize pi v.dirs=p5
 cases p1 <;> cases p2 <;> cases p3 <;> cases p4 <;> cases p5 <;> simp
theorem j5p (v:TFieldDef) (hw:jQ v.enc ≤ 1048576):Vi [.s v.name,.s v.desc,.sl (v.args.map TInDef.enc),.s v.type'.name,.s v.type'.wraps,.sl (v.dirs.map TDir.enc)] = .ret [.b (y5 v)]:=by
 rw [j2y] at hw
 rw [j8K]
 simp only [j2Y,jr,jv,zb,zi,zs,zl,kR v.name (by omega),Zu v.desc (by omega),Zv v.type'.name v.type'.wraps (by omega) (by omega),j9Q v.args (by omega),Kp v.dirs (by omega),zr,y5]
 generalize jX v.name=p1
 generalize Q3 v.desc=p2
 generalize yx v.type'.name v.type'.wraps=p3
 generalize XC v.args=p4
 generalize pi v.dirs=p5
 cases p1 <;> cases p2 <;> cases p3 <;> cases p4 <;> cases p5 <;> simp
theorem ZR (n w:List UInt8) (hn:n.length ≤ 1048576) (hg:yx n w=true):Jv [.s n,.s w] = .ret [.s (QR n w)]:=by
 have hw8:w.length ≤ 8:=by
  unfold yx at hg
  simp only [jj,decide_eq_true_eq] at hg
  exact hg.2.1
 have hk:=Zn n w hn (by omega)
 rw [hg] at hk
 have h:=JP (F:=zq) (st:=fun i=>[.s (QR n (w.take i)),.i (i:Int),.s n,.s w]) (o:=.ex 0 [.s (QR n w)]) w.length 0 (fun j _ hj=>?step) ?fin
 case step =>
  have hj:j < w.length:=by omega
  have hl:=Xs (w.take j) n
  rw [List.length_take] at hl
  have hg':w.getD j 0=w[j]:=by rw [List.getD_eq_getElem?_getD,List.getElem?_eq_getElem hj]; rfl
  have c2:0 ≤ (j:Int) ∧ (j:Int) < (w.length:Int):=by omega
  have d:decide ((j:Int) < (w.length:Int))=true:=decide_eq_true (by omega)
  have wi:=jp hj (show w.length ≤ 9223372036854775807 by omega)
  have hu:((w[j].toNat:Int) == 33)=(w[j] == 33):=zK w[j] 33 (by omega)
  have ht:QR n (w.take (j + 1))=j4X (QR n (w.take j)) w[j]:=by
   unfold QR
   rw [← List.take_append_getElem hj,List.foldl_append]
   rfl
  try dsimp only
  rw [ht]
  unfold j4X
  by_cases hc:w[j]=33
  ·have hb:(w[j] == 33)=true:=beq_iff_eq.2 hc
   rw [if_pos hc]
   simp (disch:=first | omega | (simp only [j3,j4,j6,jf,jF] <;> omega) | fail) only [zq,jr,jv,zb,zi,zs,zl,jl,jm,jf,j3,j4,j6,jF,if_true,if_false,zf,zr,j8,jd,j9,jc,if_pos,j7,zm,true_and,and_self,decide_true,bs,hg',hu,hb,d,c2,wi]
  ·have hb:(w[j] == 33)=false:=beq_eq_false_iff_ne.2 hc
   rw [if_neg hc]
   simp (disch:=first | omega | (simp only [j3,j4,j6,jf,jF] <;> omega) | fail) only [zq,jr,jv,zb,zi,zs,zl,jl,jm,jf,j3,j4,j6,jF,if_true,if_false,zf,zr,j8,jd,j9,jc,if_pos,j7,zm,true_and,and_self,decide_true,bs,hg',hu,hb,d,c2,wi]
   rfl
 case fin =>
  refine qL ?_
  try dsimp only
  rw [Nat.zero_add,List.take_length]
  simp [zq]
 rw [List.take_zero,jI] at h
 rw [j6W]
 have h':QR n []=n:=rfl
 rw [h'] at h
 simp only [j1I,jr,jv,zb,zi,zs,zl,hk,jh,zf,if_false,if_true,zr,h,jc]
theorem j0e (n w:List UInt8) (hn:n.length ≤ 1048576) (hg:yx n w=true):JA [.s n,.s w] = .ret [.s (QR n w)]:=by
 have hw8:w.length ≤ 8:=by
  unfold yx at hg
  simp only [jj,decide_eq_true_eq] at hg
  exact hg.2.1
 have hk:=Zv n w hn (by omega)
 rw [hg] at hk
 have h:=JP (F:=zw) (st:=fun i=>[.s (QR n (w.take i)),.i (w.length:Int),.i (i:Int),.s n,.s w]) (o:=.ex 0 [.s (QR n w)]) w.length 0 (fun j _ hj=>?step) ?fin
 case step =>
  have hj:j < w.length:=by omega
  have hl:=Xs (w.take j) n
  rw [List.length_take] at hl
  have hg':w.getD j 0=w[j]:=by rw [List.getD_eq_getElem?_getD,List.getElem?_eq_getElem hj]; rfl
  have c2:0 ≤ (j:Int) ∧ (j:Int) < (w.length:Int):=by omega
  have d:decide ((j:Int) < (w.length:Int))=true:=decide_eq_true (by omega)
  have wi:=jp hj (show w.length ≤ 9223372036854775807 by omega)
  have hu:((w[j].toNat:Int) == 33)=(w[j] == 33):=zK w[j] 33 (by omega)
  have ht:QR n (w.take (j + 1))=j4X (QR n (w.take j)) w[j]:=by
   unfold QR
   rw [← List.take_append_getElem hj,List.foldl_append]
   rfl
  try dsimp only
  rw [ht]
  unfold j4X
  by_cases hc:w[j]=33
  ·have hb:(w[j] == 33)=true:=beq_iff_eq.2 hc
   rw [if_pos hc]
   simp (disch:=first | omega | (simp only [j3,j4,j6,jf,jF] <;> omega) | fail) only [zw,jr,jv,zb,zi,zs,zl,jl,jm,jf,j3,j4,j6,jF,if_true,if_false,zf,zr,j8,jd,j9,jc,if_pos,j7,zm,true_and,and_self,decide_true,bs,hg',hu,hb,d,c2,wi]
  ·have hb:(w[j] == 33)=false:=beq_eq_false_iff_ne.2 hc
   rw [if_neg hc]
   simp (disch:=first | omega | (simp only [j3,j4,j6,jf,jF] <;> omega) | fail) only [zw,jr,jv,zb,zi,zs,zl,jl,jm,jf,j3,j4,j6,jF,if_true,if_false,zf,zr,j8,jd,j9,jc,if_pos,j7,zm,true_and,and_self,decide_true,bs,hg',hu,hb,d,c2,wi]
   rfl
 case fin =>
  refine qL ?_
  try dsimp only
  rw [Nat.zero_add,List.take_length]
  simp [zw]
 rw [List.take_zero,jI] at h
 rw [j7e]
 have h':QR n []=n:=rfl
 rw [h'] at h
 simp only [j1Y,jr,jv,zb,zi,zs,zl,hk,jh,zf,if_false,if_true,zr,h,jc]
def JB (has:Bool) (v:TValue):List UInt8:=if has=true then [32,61,32] ++ VM v else []
theorem j0t (has:Bool) (v:TValue) (hw:jQ v.enc ≤ 1048576) (hg:XG has v=true):Jh [.b has,.i v.kind,.s v.text,.sl (v.items.map TValue.enc),.sl (v.names.map S1)] = .ret [.s (JB has v)]:=by
 rw [j3r]
 unfold JB
 cases has with
 | false=>simp [QQ]
 | true =>
  have hv:j0n v=true:=by
   simp only [XG,if_true,jj] at hg
   exact hg.1
  have h1:=j1r v hw
  rw [hv] at h1
  have h2:=j1x v hw 10 (by omega) (by omega) hv
  have hl:=j2a v
  have h3:VZ [.i v.kind,.s v.text,.sl (v.items.map TValue.enc),.sl (v.names.map S1)] = .ret [.s (VM v)]:=by
   rw [j5T]
   simp only [j12,jr,jv,zb,zi,zs,zl,h1,h2,zr,jh,zf,if_false]
  simp (disch:=first | omega | (simp only [j3,j4,j6,jf,jF] <;> omega) | fail) only [QQ,jr,jv,zb,zi,zs,zl,jl,jm,jf,j3,j4,j6,jF,if_true,if_false,zf,zr,j8,jd,j9,jc,if_pos,j7,zm,true_and,and_self,decide_true,bs,h3,jh]
theorem j84 (has:Bool) (v:TValue):(JB has v).length ≤ 8 * jQ v.enc + 5:=by
 have:=j2a v
 unfold JB
 split
 ·simp only [j3,j4,j6]; omega
 ·simp
def inT (v:TInDef):List UInt8:=(if v.desc=[] then [] else qJ v.desc ++ [32]) ++ (v.name ++ ([58,32] ++ (QR v.type'.name v.type'.wraps ++ (JB v.has' v.default' ++ XE v.dirs))))
theorem j9O {v:TInDef} (h:j1o v=true):yx v.type'.name v.type'.wraps=true ∧ XG v.has' v.default'=true ∧ pP v.dirs=true ∧ v.type'.wraps.length ≤ 8:=by
 simp only [j1o,pi,yx,jj,decide_eq_true_eq] at h ⊢
 exact ⟨h.2.2.1,h.2.2.2.1,h.2.2.2.2.1,h.2.2.1.2.1⟩
theorem jg6 (v:TInDef) (h:j1o v=true):(inT v).length ≤ 8 * jQ v.enc + 30:=by
 have h1:=Jc v.desc
 have h2:=Xs v.type'.wraps v.type'.name
 have h3:=j84 v.has' v.default'
 have h4:=yf v.dirs
 have h5:=(j9O h).2.2.2
 rw [jeH]
 unfold inT
 simp only [j3,j4,j6]
 split
 ·simp only [j6]; omega
 ·simp only [j3,j4,j6]; omega
theorem j3w (v:TInDef) (hw:jQ v.enc ≤ 1048576) (hg:j1o v=true) (out:List UInt8) (ho:out.length + (inT v).length < 1073741824):Ql [.sl (jx out),.s v.name,.s v.desc,.s v.type'.name,.s v.type'.wraps,.b v.has',.i v.default'.kind,.s v.default'.text,.sl (v.default'.items.map TValue.enc),.sl (v.default'.names.map S1),.sl (v.dirs.map TDir.enc)] = .ret [.sl (jx (out ++ inT v))]:=by
 obtain ⟨g1,g2,g3,g4⟩:=j9O hg
 rw [jeH] at hw
 have hE:=Ku v.desc (by omega)
 have hT:=ZR v.type'.name v.type'.wraps (by omega) g1
 have hD:=qB v.dirs (by omega) g3
 unfold inT at ho ⊢
 simp only [j3,j4,j6] at ho
 rw [j6N]
 by_cases kd:v.desc=[]
 ·have cd:(v.desc == ([]:List UInt8))=true:=beq_iff_eq.2 kd
  rw [if_pos kd] at ho ⊢
  simp only [j6] at ho
  cases hh:v.has' with
  | false =>
   rw [hh] at ho
   simp only [JB,zf,if_false,j6] at ho ⊢
   simp (disch:=first | omega | (simp only [j3,j4,j6,jf,jF] <;> omega) | fail) only [JD,jr,jv,zb,zi,zs,zl,jl,jm,jf,j3,j4,j6,jF,if_true,if_false,zf,zr,j8,jd,j9,jc,if_pos,j7,zm,true_and,and_self,decide_true,bs,cd,hE,hT,hD,jh,jn]
   simp
  | true =>
   rw [hh] at ho g2
   have hv:j0n v.default'=true:=by
    simp only [XG,if_true,jj] at g2
    exact g2.1
   have hV:=Zm v.default' (by omega) 10 (by omega) (by omega) hv
   simp only [JB,if_true,j3,j4,j6] at ho ⊢
   simp (disch:=first | omega | (simp only [j3,j4,j6,jf,jF] <;> omega) | fail) only [JD,jr,jv,zb,zi,zs,zl,jl,jm,jf,j3,j4,j6,jF,if_true,if_false,zf,zr,j8,jd,j9,jc,if_pos,j7,zm,true_and,and_self,decide_true,bs,cd,hE,hT,hD,hV,jh,jn]
   simp
 ·have cd:(v.desc == ([]:List UInt8))=false:=beq_eq_false_iff_ne.2 kd
  rw [if_neg kd] at ho ⊢
  simp only [j3,j4,j6] at ho
  cases hh:v.has' with
  | false =>
   rw [hh] at ho
   simp only [JB,zf,if_false,j6] at ho ⊢
   simp (disch:=first | omega | (simp only [j3,j4,j6,jf,jF] <;> omega) | fail) only [JD,jr,jv,zb,zi,zs,zl,jl,jm,jf,j3,j4,j6,jF,if_true,if_false,zf,zr,j8,jd,j9,jc,if_pos,j7,zm,true_and,and_self,decide_true,bs,cd,hE,hT,hD,jh,jn]
   simp
  | true =>
   rw [hh] at ho g2
   have hv:j0n v.default'=true:=by
    simp only [XG,if_true,jj] at g2
    exact g2.1
   have hV:=Zm v.default' (by omega) 10 (by omega) (by omega) hv
   simp only [JB,if_true,j3,j4,j6] at ho ⊢
   simp (disch:=first | omega | (simp only [j3,j4,j6,jf,jF] <;> omega) | fail) only [JD,jr,jv,zb,zi,zs,zl,jl,jm,jf,j3,j4,j6,jF,if_true,if_false,zf,zr,j8,jd,j9,jc,if_pos,j7,zm,true_and,and_self,decide_true,bs,cd,hE,hT,hD,hV,jh,jn]
   simp
noncomputable def j6M (v:TInDef):List UInt8:=if j1o v=true then inT v else []
theorem j81 (v:TInDef) (hw:jQ v.enc ≤ 1048576):Xk [.s v.name,.s v.desc,.s v.type'.name,.s v.type'.wraps,.b v.has',.i v.default'.kind,.s v.default'.text,.sl (v.default'.items.map TValue.enc),.sl (v.default'.names.map S1),.sl (v.dirs.map TDir.enc)] = .ret [.s (j6M v)]:=by
 have hk:=jcz v hw
 rw [jaN]
 unfold j6M
 cases hg:j1o v with
 | false=>rw [hg] at hk; simp only [Xp,jr,jv,zb,zi,zs,zl,hk,zr,jn,if_true,zf,if_false]
 | true =>
  have hl:=jg6 v hg
  have hl2:(inT v).length ≤ 8388638:=by omega
  clear hl
  obtain ⟨g1,g2,g3,g4⟩:=j9O hg
  rw [jeH] at hw
  have hE:=KS v.desc (by omega)
  have hT:=j0e v.type'.name v.type'.wraps (by omega) g1
  have hV:=j0t v.has' v.default' (by omega) g2
  have hD:=yq v.dirs (by omega) g3
  rw [hg] at hk
  unfold inT at hl2 ⊢
  simp only [j3,j4,j6] at hl2
  by_cases kd:v.desc=[]
  ·have cd:(v.desc == ([]:List UInt8))=true:=beq_iff_eq.2 kd
   rw [if_pos kd] at hl2 ⊢
   simp only [j6] at hl2
   simp (disch:=first | omega | (simp only [j3,j4,j6,jf,jF] <;> omega) | fail) only [Xp,jr,jv,zb,zi,zs,zl,jl,jm,jf,j3,j4,j6,jF,if_true,if_false,zf,zr,j8,jd,j9,jc,if_pos,j7,zm,true_and,and_self,decide_true,bs,hk,cd,hE,hT,hV,hD,jh,jn]
   simp
  ·have cd:(v.desc == ([]:List UInt8))=false:=beq_eq_false_iff_ne.2 kd
   rw [if_neg kd] at hl2 ⊢
   simp only [j3,j4,j6] at hl2
   simp (disch:=first | omega | (simp only [j3,j4,j6,jf,jF] <;> omega) | fail) only [Xp,jr,jv,zb,zi,zs,zl,jl,jm,jf,j3,j4,j6,jF,if_true,if_false,zf,zr,j8,jd,j9,jc,if_pos,j7,zm,true_and,and_self,decide_true,bs,hk,cd,hE,hT,hV,hD,jh,jn]
   simp
def ZO (v:TVarDef):List UInt8:=36 :: (v.name ++ ([58,32] ++ (QR v.type'.name v.type'.wraps ++ (JB v.has' v.default' ++ XE v.dirs))))
theorem j6z {v:TVarDef} (h:VO v=true):yx v.type'.name v.type'.wraps=true ∧ XG v.has' v.default'=true ∧ pP v.dirs=true ∧ v.type'.wraps.length ≤ 8:=by
 simp only [VO,pi,yx,jj,decide_eq_true_eq] at h ⊢
 exact ⟨h.2.1,h.2.2.1,h.2.2.2.1,h.2.1.2.1⟩
theorem jdZ (v:TVarDef) (h:VO v=true):(ZO v).length ≤ 8 * jQ v.enc + 30:=by
 have h2:=Xs v.type'.wraps v.type'.name
 have h3:=j84 v.has' v.default'
 have h4:=yf v.dirs
 have h5:=(j6z h).2.2.2
 rw [j9a]
 unfold ZO
 simp only [j3,j4,j6]
 omega
def j29 (l:List TVarDef):List UInt8:=jt [40] [44,32] ZO l ++ (if l.isEmpty then [] else [41])
theorem j99 (x:TVarDef) (l:List TVarDef):j29 (x :: l)=40 :: (Lib.join ((x :: l).map ZO) [44,32] ++ [41]):=by
 rw [j29,jdo]
 rfl
theorem jc1 (l:List TVarDef) (h:l.all VO=true):(j29 l).length ≤ 40 * DC.wt (.sl (l.map TVarDef.enc)):=by
 cases l with
 | nil=>simp [j29,jt]
 | cons x l =>
  have h1:=j2u ((x :: l).map ZO)
  have h2:=j36 (enc:=TVarDef.enc) (f:=ZO) (a:=8) (b:=30) (x :: l) fun y hy=>jdZ y (List.all_eq_true.1 h y hy)
  rw [j99,DC.wt]
  rw [zm] at h1
  simp only [j4,j3,j6,zm] at h1 h2 ⊢
  omega
set_option maxHeartbeats 8000000 in
theorem j8j (l:List TVarDef) (hw:DC.wt (.sl (l.map TVarDef.enc)) ≤ 1048576) (hg:l.all VO=true) (out:List UInt8) (ho:out.length + (j29 l).length < 1073741824) :
  V4 [.sl (jx out),.sl (l.map TVarDef.enc)] = .ret [.sl (jx (out ++ j29 l))]:=by
 obtain ⟨hl,hx⟩:=kH hw
 unfold j29 at ho ⊢
 rw [j3] at ho
 have hlp:=yH (o:=[40]) (sep:=[44,32]) (f:=ZO) (l:=l) (st:=fun i cur=>[.sl (jx cur),.sl (l.map TVarDef.enc),.i (i:Int)]) (F:=pE) (res:=.ex 0 [.sl (jx (out ++ jt [40] [44,32] ZO l)),.sl (l.map TVarDef.enc)]) out
  (fun i hi cur hc=>?step) ?fin (jG _ _)
 case fin=>simp [pE]
 case step =>
  have hm:=je hi
  have hwv:=hx _ hm
  rw [j9a] at hwv
  obtain ⟨g1,g2,g3,g4⟩:=j6z (List.all_eq_true.1 hg _ hm)
  have hT:=ZR l[i].type'.name l[i].type'.wraps (by omega) g1
  have hD:=qB l[i].dirs (by omega) g3
  have c2:0 ≤ (i:Int) ∧ (i:Int) < (l.length:Int):=by omega
  have d:decide ((i:Int) < (l.length:Int))=true:=decide_eq_true (by omega)
  have wi:=jp hi (show l.length ≤ 9223372036854775807 by omega)
  change cur.length + ((if i=0 then [40] else [44,32]) ++ ZO l[i]).length ≤ _ at hc
  generalize hJT:(jt [40] [44,32] ZO l).length=J at hc ho
  unfold ZO at hc ⊢
  have hV:l[i].has'=true → ∀ out:List UInt8,out.length + (VM l[i].default').length < 1073741824 → zA [.sl (jx out),.i l[i].default'.kind,.s l[i].default'.text,.sl (l[i].default'.items.map TValue.enc),.sl (l[i].default'.names.map S1)] = .ret [.sl (jx (out ++ VM l[i].default'))]:=by
   intro hh
   rw [hh] at g2
   have hv:j0n l[i].default'=true:=by
    simp only [XG,if_true,jj] at g2
    exact g2.1
   exact Zm l[i].default' (by omega) 10 (by omega) (by omega) hv
  rcases zt l[i].has' with hh | hh
  ·have hV:=hV hh
   rw [hh] at hc ⊢
   simp only [JB,if_true] at hc ⊢
   by_cases h0:i=0
   ·have c0:((i:Int) == 0)=true:=beq_iff_eq.2 (by omega)
    rw [if_pos h0] at hc ⊢
    simp only [j3,j4,j6] at hc
    simp (disch:=first | omega | (simp only [j3,j4,j6,jf,jF] <;> omega) | fail) only [pE,jr,jv,zb,zi,zs,zl,jl,jm,jf,j3,j4,j6,jF,if_true,if_false,zf,zr,j8,jd,j9,jc,if_pos,j7,zm,true_and,and_self,decide_true,bs,jq hi,TVarDef.enc_eq,d,c0,c2,hh,hT,hD,hV,wi]
    simp
   ·have c0:((i:Int) == 0)=false:=beq_eq_false_iff_ne.2 (by omega)
    rw [if_neg h0] at hc ⊢
    simp only [j3,j4,j6] at hc
    simp (disch:=first | omega | (simp only [j3,j4,j6,jf,jF] <;> omega) | fail) only [pE,jr,jv,zb,zi,zs,zl,jl,jm,jf,j3,j4,j6,jF,if_true,if_false,zf,zr,j8,jd,j9,jc,if_pos,j7,zm,true_and,and_self,decide_true,bs,jq hi,TVarDef.enc_eq,d,c0,c2,hh,hT,hD,hV,wi]
    simp
  ·rw [hh] at hc ⊢
   simp only [JB,zf,if_false,jy] at hc ⊢
   by_cases h0:i=0
   ·have c0:((i:Int) == 0)=true:=beq_iff_eq.2 (by omega)
    rw [if_pos h0] at hc ⊢
    simp only [j3,j4,j6] at hc
    simp (disch:=first | omega | (simp only [j3,j4,j6,jf,jF] <;> omega) | fail) only [pE,jr,jv,zb,zi,zs,zl,jl,jm,jf,j3,j4,j6,jF,if_true,if_false,zf,zr,j8,jd,j9,jc,if_pos,j7,zm,true_and,and_self,decide_true,bs,jq hi,TVarDef.enc_eq,d,c0,c2,hh,hT,hD,wi]
    simp
   ·have c0:((i:Int) == 0)=false:=beq_eq_false_iff_ne.2 (by omega)
    rw [if_neg h0] at hc ⊢
    simp only [j3,j4,j6] at hc
    simp (disch:=first | omega | (simp only [j3,j4,j6,jf,jF] <;> omega) | fail) only [pE,jr,jv,zb,zi,zs,zl,jl,jm,jf,j3,j4,j6,jF,if_true,if_false,zf,zr,j8,jd,j9,jc,if_pos,j7,zm,true_and,and_self,decide_true,bs,jq hi,TVarDef.enc_eq,d,c0,c2,hh,hT,hD,wi]
    simp
 rw [jI] at hlp
 rw [j4E]
 cases l with
 | nil=>simp at hlp; simp [Vx,hlp]
 | cons a l =>
  have hpos:decide ((((a :: l).map TVarDef.enc).length:Int) > 0)=true:=decide_eq_true (by simp)
  simp only [List.isEmpty_cons,zf,if_false,j4,j6] at ho
  simp only [zm] at hpos
  simp (disch:=first | omega | (simp only [j3,j4,j6,jf,jF] <;> omega) | fail) only [Vx,jr,jv,zb,zi,zs,zl,jl,jm,jf,j3,j4,j6,jF,if_true,if_false,zf,zr,j8,jd,j9,jc,if_pos,j7,zm,true_and,and_self,decide_true,bs,hlp,hpos,List.isEmpty_cons]
  simp
def j7B (k:Int):List UInt8:=if k=1 then [113,117,101,114,121] else if k=2 then [109,117,116,97,116,105,111,110] else if k=3 then [115,117,98,115,99,114,105,112,116,105,111,110] else []
theorem jc0 (k:Int):(j7B k).length ≤ 12:=by
 unfold j7B
 split
 ·simp
 split
 ·simp
 split <;> simp
def j17 (v:TOp):Bool:=v.kind == 1 && (v.name == [] && (v.vars.isEmpty && v.dirs.isEmpty))
def opT (v:TOp):List UInt8:=if j17 v=true then [123,10] ++ (qb v.sels 1 ++ [125,10]) else j7B v.kind ++ ((if v.name=[] then [] else 32 :: v.name) ++ (j29 v.vars ++ (XE v.dirs ++ (J2 0 (qb v.sels 1) ++ [10]))))
theorem jfO {l:List TSel} (h:zx l=true):∀ x ∈ l,zL ((10:Nat):Int) x=true:=fun x hx=>by
 simp only [zx,jj] at h
 exact List.all_eq_true.1 h.1 x hx
theorem jjZ {l:List TSel}:∀ {x:TSel},x ∈ l → kq x ≤ pT l:=by
 induction l with
 | nil=>intro x h; simp at h
 | cons a l ih =>
  intro x h
  have:pT (a :: l)=kq a + pT l:=by simp [pT]
  rcases List.mem_cons.1 h with rfl | h
  ·omega
  ·have:=ih h; omega
theorem jig {l:List TSel} (h:zx l=true):l.all j2h=true:=by
 have hR:=jfO h
 simp only [zx,jj,decide_eq_true_eq] at h
 refine List.all_eq_true.2 fun x hx=>?_
 have:=jjZ hx
 simp only [j2h,jj,decide_eq_true_eq]
 exact ⟨hR x hx,by omega⟩
theorem jey {v:TOp} (h:jde v=true):v.vars.all VO=true ∧ pP v.dirs=true ∧ zx v.sels=true:=by
 simp only [jde,jj] at h
 exact ⟨h.2.2.1,h.2.2.2.1,h.2.2.2.2.1⟩
noncomputable def j9C (v:TOp):List UInt8:=if jde v=true then opT v else []
set_option maxHeartbeats 8000000 in
theorem jej (v:TOp) (hw:jQ v.enc ≤ 1048576):ZY [.i v.kind,.s v.name,.sl (v.vars.map TVarDef.enc),.sl (v.dirs.map TDir.enc),.sl (v.sels.map TSel.enc)] = .ret [.s (j9C v)]:=by
 have hk:=jhf v hw
 rw [jac]
 unfold j9C
 cases hg:jde v with
 | false=>rw [hg] at hk; simp only [j0i,jr,jv,zb,zi,zs,zl,hk,zr,jn,if_true,zf,if_false]
 | true =>
  rw [hg] at hk
  obtain ⟨g1,g2,g3⟩:=jey hg
  rw [jgG] at hw
  have hxs:=(kH (l:=v.sels) (enc:=TSel.enc) (n:=1048576) (by omega)).2
  have hR:=jfO g3
  have l1:=j0p v.sels 10 1 (fun x hm=>VS 10 x (hxs x hm) (by omega) (hR x hm)) (by omega)
  have l2:=jc1 v.vars g1
  have l3:=yf v.dirs
  have l4:=jc0 v.kind
  have hS:=j2e 10 v.sels 1 (by omega) (by omega) (by omega) hR
  have hB:∀ out:List UInt8,out.length + (J2 0 (qb v.sels 1)).length < 1073741824 → y9 [.sl (jx out),.sl (v.sels.map TSel.enc),.i 0] = .ret [.sl (jx (out ++ J2 0 (qb v.sels 1)))]:=j4x v.sels 0 (by omega) (fun out ho=>hS out ho)
  have hV:=j8j v.vars (by omega) g1
  have hD:=qB v.dirs (by omega) g2
  have hO:=Zo v.kind
  rw [show (if v.kind=1 then [113,117,101,114,121] else if v.kind=2 then [109,117,116,97,116,105,111,110] else if v.kind=3 then [115,117,98,115,99,114,105,112,116,105,111,110] else ([]:List UInt8))=j7B v.kind from rfl] at hO
  have hfl:(if (v.kind == 1)=true then if (v.name == ([]:List UInt8))=true then if v.vars.isEmpty=true then Out.norm [.sl [],.b v.dirs.isEmpty,.i v.kind,.s v.name,.sl (v.vars.map TVarDef.enc),.sl (v.dirs.map TDir.enc),.sl (v.sels.map TSel.enc)] else .norm [.sl [],.b false,.i v.kind,.s v.name,.sl (v.vars.map TVarDef.enc),.sl (v.dirs.map TDir.enc),.sl (v.sels.map TSel.enc)] else .norm [.sl [],.b false,.i v.kind,.s v.name,.sl (v.vars.map TVarDef.enc),.sl (v.dirs.map TDir.enc),.sl (v.sels.map TSel.enc)] else .norm [.sl [],.b false,.i v.kind,.s v.name,.sl (v.vars.map TVarDef.enc),.sl (v.dirs.map TDir.enc),.sl (v.sels.map TSel.enc)])=Out.norm [.sl [],.b (j17 v),.i v.kind,.s v.name,.sl (v.vars.map TVarDef.enc),.sl (v.dirs.map TDir.enc),.sl (v.sels.map TSel.enc)]:=by
   unfold j17
   cases (v.kind == 1) <;> cases (v.name == ([]:List UInt8)) <;> cases v.vars.isEmpty <;> simp
  simp only [j0i,jr,jv,zb,zi,zs,zl,hk,zr,jh,zf,if_false,jg3]
  rw [hfl]
  unfold opT
  have lb:(J2 0 (qb v.sels 1)).length=(qb v.sels 1).length + 4:=by simp [J2,zJ]
  cases hs:j17 v with
  | true =>
   have hS0:yo [.sl [],.sl (v.sels.map TSel.enc),.i 1] = .ret [.sl (jx (qb v.sels 1))]:=hS [] (by simp only [j6]; omega)
   simp (disch:=first | omega | (simp only [j3,j4,j6,jf,jF] <;> omega) | fail) only [jr,jv,zb,zi,zs,zl,jl,jm,jf,j3,j4,j6,jF,if_true,if_false,zf,zr,j8,jd,j9,jc,if_pos,j7,zm,true_and,and_self,decide_true,bs,hS0,zy]
   simp
  | false =>
   by_cases kn:v.name=[]
   ·have cn:(v.name == ([]:List UInt8))=true:=beq_iff_eq.2 kn
    rw [if_pos kn]
    simp (disch:=first | omega | (simp only [j3,j4,j6,jf,jF] <;> omega) | fail) only [jr,jv,zb,zi,zs,zl,jl,jm,jf,j3,j4,j6,jF,if_true,if_false,zf,zr,j8,jd,j9,jc,if_pos,j7,zm,true_and,and_self,decide_true,bs,jy,cn,hO,hV,hD,hB,lb,zy,jh,jI]
    simp
   ·have cn:(v.name == ([]:List UInt8))=false:=beq_eq_false_iff_ne.2 kn
    rw [if_neg kn]
    simp (disch:=first | omega | (simp only [j3,j4,j6,jf,jF] <;> omega) | fail) only [jr,jv,zb,zi,zs,zl,jl,jm,jf,j3,j4,j6,jF,if_true,if_false,zf,zr,j8,jd,j9,jc,if_pos,j7,zm,true_and,and_self,decide_true,bs,jy,cn,hO,hV,hD,hB,lb,zy,jn,jI]
    simp
set_option maxHeartbeats 8000000 in
theorem jeM (v:TOp) (hw:jQ v.enc ≤ 1048576):j09 [.i v.kind,.s v.name,.sl (v.vars.map TVarDef.enc),.sl (v.dirs.map TDir.enc),.sl (v.sels.map TSel.enc)] = .ret [.s (j9C v)]:=by
 have hk:=jhr v hw
 rw [jaK]
 unfold j9C
 cases hg:jde v with
 | false=>rw [hg] at hk; simp only [j0k,jr,jv,zb,zi,zs,zl,hk,zr,jn,if_true,zf,if_false]
 | true =>
  rw [hg] at hk
  obtain ⟨g1,g2,g3⟩:=jey hg
  rw [jgG] at hw
  obtain ⟨hvl,hvx⟩:=kH (l:=v.vars) (enc:=TVarDef.enc) (n:=1048576) (by omega)
  have hxs:=(kH (l:=v.sels) (enc:=TSel.enc) (n:=1048576) (by omega)).2
  have hR:=jfO g3
  have l1:=j0p v.sels 10 1 (fun x hm=>VS 10 x (hxs x hm) (by omega) (hR x hm)) (by omega)
  have l2:=jc1 v.vars g1
  have l3:=yf v.dirs
  have l4:=jc0 v.kind
  have hT:=j3D v.sels 1 (by omega)
  have hT2:j0q v.sels 1=qb v.sels 1:=by
   unfold j0q
   rw [jig g3]
   rfl
  rw [hT2] at hT
  have hB:yY [.sl (v.sels.map TSel.enc)] = .ret [.s ([123,10] ++ qb v.sels 1 ++ [125,10])]:=by
   rw [j0z]
   simp (disch:=first | omega | (simp only [j3,j4,j6,jf,jF] <;> omega) | fail) only [Ya,jr,jv,zb,zi,zs,zl,jl,jm,jf,j3,j4,j6,jF,if_true,if_false,zf,zr,j8,jd,j9,jc,if_pos,j7,zm,true_and,and_self,decide_true,bs,hT]
  have hD:=yq v.dirs (by omega) g2
  have hO:=Zw v.kind
  rw [show (if v.kind=1 then [113,117,101,114,121] else if v.kind=2 then [109,117,116,97,116,105,111,110] else if v.kind=3 then [115,117,98,115,99,114,105,112,116,105,111,110] else ([]:List UInt8))=j7B v.kind from rfl] at hO
  have hlp:∀ w0:List UInt8,jR JH [.s w0,.sl [],.sl (v.vars.map TVarDef.enc),.i (v.vars.length:Int),.i 0,.i v.kind,.s v.name,.sl (v.vars.map TVarDef.enc),.sl (v.dirs.map TDir.enc),.sl (v.sels.map TSel.enc)] = .ex 0 [.s w0,.sl ((v.vars.map ZO).map fun x=>[DC.s x]),.i v.kind,.s v.name,.sl (v.vars.map TVarDef.enc),.sl (v.dirs.map TDir.enc),.sl (v.sels.map TSel.enc)]:=by
   intro w0
   have hlp:=YE (w:=ZO) (l:=v.vars) (st:=fun i cur=>[.s w0,.sl cur,.sl (v.vars.map TVarDef.enc),.i (v.vars.length:Int),.i (i:Int),.i v.kind,.s v.name,.sl (v.vars.map TVarDef.enc),.sl (v.dirs.map TDir.enc),.sl (v.sels.map TSel.enc)]) (F:=JH) (res:=.ex 0 [.s w0,.sl ((v.vars.map ZO).map fun x=>[DC.s x]),.i v.kind,.s v.name,.sl (v.vars.map TVarDef.enc),.sl (v.dirs.map TDir.enc),.sl (v.sels.map TSel.enc)])
    (fun i hi cur hc=>?step) ?fin (jG _ _)
   case fin=>simp [JH,Function.comp_def]
   case step =>
    have hm:=je hi
    have hwv:=hvx _ hm
    have hvo:=List.all_eq_true.1 g1 _ hm
    have hlv:=jdZ _ hvo
    have hlv2:(ZO v.vars[i]).length ≤ 8388638:=by omega
    clear hlv
    rw [j9a] at hwv
    obtain ⟨e1,e2,e3,e4⟩:=j6z hvo
    have hT:=j0e v.vars[i].type'.name v.vars[i].type'.wraps (by omega) e1
    have hDf:=j0t v.vars[i].has' v.vars[i].default' (by omega) e2
    have hDi:=yq v.vars[i].dirs (by omega) e3
    have c2:0 ≤ (i:Int) ∧ (i:Int) < (v.vars.length:Int):=by omega
    have d:decide ((i:Int) < (v.vars.length:Int))=true:=decide_eq_true (by omega)
    have wi:=jp hi (show v.vars.length ≤ 9223372036854775807 by omega)
    unfold ZO at hlv2 ⊢
    simp only [j3,j4,j6] at hlv2
    simp (disch:=first | omega | (simp only [j3,j4,j6,jf,jF] <;> omega) | fail) only [JH,jr,jv,zb,zi,zs,zl,jl,jm,jf,j3,j4,j6,jF,if_true,if_false,zf,zr,j8,jd,j9,jc,if_pos,j7,zm,true_and,and_self,decide_true,bs,jq hi,TVarDef.enc_eq,d,c2,hT,hDf,hDi,wi]
    simp
   rw [jI] at hlp
   exact hlp
  have hfl:(if (v.kind == 1)=true then if (v.name == ([]:List UInt8))=true then if v.vars.isEmpty=true then Out.norm [.b v.dirs.isEmpty,.i v.kind,.s v.name,.sl (v.vars.map TVarDef.enc),.sl (v.dirs.map TDir.enc),.sl (v.sels.map TSel.enc)] else .norm [.b false,.i v.kind,.s v.name,.sl (v.vars.map TVarDef.enc),.sl (v.dirs.map TDir.enc),.sl (v.sels.map TSel.enc)] else .norm [.b false,.i v.kind,.s v.name,.sl (v.vars.map TVarDef.enc),.sl (v.dirs.map TDir.enc),.sl (v.sels.map TSel.enc)] else .norm [.b false,.i v.kind,.s v.name,.sl (v.vars.map TVarDef.enc),.sl (v.dirs.map TDir.enc),.sl (v.sels.map TSel.enc)])=Out.norm [.b (j17 v),.i v.kind,.s v.name,.sl (v.vars.map TVarDef.enc),.sl (v.dirs.map TDir.enc),.sl (v.sels.map TSel.enc)]:=by
   unfold j17
   cases (v.kind == 1) <;> cases (v.name == ([]:List UInt8)) <;> cases v.vars.isEmpty <;> simp
  simp only [j0k,jr,jv,zb,zi,zs,zl,hk,zr,jh,zf,if_false,jg3]
  rw [hfl]
  unfold opT
  cases hs:j17 v with
  | true =>
   simp only [jr,jv,zb,zi,zs,zl,j8,if_true,hB,zr]
   simp
  | false =>
   have hvars:∀ w0:List UInt8,w0.length ≤ 2000000 → (jb (if decide ((((v.vars.map ZO).map fun x=>[DC.s x]).length:Int) > 0)=true then (pn [.sl ((v.vars.map ZO).map fun x=>[DC.s x]),.s [44,32]]).bindR fun r12=>if ([40]:List UInt8).length + (gs r12 0).length < jF then if (([40]:List UInt8) ++ (gs r12 0)).length + ([41]:List UInt8).length < jF then if w0.length + ((([40]:List UInt8) ++ (gs r12 0)) ++ ([41]:List UInt8)).length < jF then .norm [.s (w0 ++ ((([40]:List UInt8) ++ (gs r12 0)) ++ ([41]:List UInt8))),.i v.kind,.s v.name,.sl (v.vars.map TVarDef.enc),.sl (v.dirs.map TDir.enc),.sl (v.sels.map TSel.enc)] else .fail else .fail else .fail else .norm [.s w0,.i v.kind,.s v.name,.sl (v.vars.map TVarDef.enc),.sl (v.dirs.map TDir.enc),.sl (v.sels.map TSel.enc)]) fun v=>.norm v) = .norm [.s (w0 ++ j29 v.vars),.i v.kind,.s v.name,.sl (v.vars.map TVarDef.enc),.sl (v.dirs.map TDir.enc),.sl (v.sels.map TSel.enc)]:=by
    intro w0 h0
    cases hvv:v.vars with
    | nil=>simp [j29,jt]
    | cons a l =>
     have hne:v.vars=a :: l:=hvv
     rw [← hvv]
     have hpos:decide ((((v.vars.map ZO).map fun x=>[DC.s x]).length:Int) > 0)=true:=decide_eq_true (by rw [hne]; simp)
     have hvt:j29 v.vars=40 :: (Lib.join (v.vars.map ZO) [44,32] ++ [41]):=by rw [hne,j99]
     have l2':=l2
     rw [hvt] at l2' ⊢
     simp only [j3,j4,j6] at l2'
     have hJ:=j3h (v.vars.map ZO) (by rw [zm]; exact hvl) (by omega)
     rw [hpos]
     simp (disch:=first | omega | (simp only [j3,j4,j6,jf,jF] <;> omega) | fail) only [jr,jv,zb,zi,zs,zl,jl,jm,jf,j3,j4,j6,jF,if_true,if_false,zf,zr,j8,jd,j9,jc,if_pos,j7,zm,true_and,and_self,decide_true,bs,hJ]
     simp
   have and_norm:∀ (o:Out) (x:List DC),(jb o fun v=>.norm v) = .norm x → ∀ K:List DC → Out,jb o K=K x:=by
    intro o x h K
    cases o <;> simp [jb] at h ⊢
    rw [h]
   by_cases kn:v.name=[]
   ·have cn:(v.name == ([]:List UInt8))=true:=beq_iff_eq.2 kn
    rw [if_pos kn]
    have hv:=and_norm _ _ (hvars (j7B v.kind) (by omega))
    simp only [jr,jv,zb,zi,zs,zl,j8,zf,if_false,hO,zr,cn,jh,if_true,zm,hlp,jc] at hv ⊢
    rw [hv]
    simp (disch:=first | omega | (simp only [j3,j4,j6,jf,jF] <;> omega) | fail) only [jr,jv,zb,zi,zs,zl,jl,jm,jf,j3,j4,j6,jF,if_true,if_false,zf,zr,j8,jd,j9,jc,if_pos,j7,zm,true_and,and_self,decide_true,bs,hD,hB]
    simp [J2,zJ]
   ·have cn:(v.name == ([]:List UInt8))=false:=beq_eq_false_iff_ne.2 kn
    rw [if_neg kn]
    have hv:=and_norm _ _ (hvars (j7B v.kind ++ ([32] ++ v.name)) (by simp only [j3,j4,j6]; omega))
    have q1:([32]:List UInt8).length + v.name.length < jF:=by simp only [jF,j4,j6]; omega
    have q2:(j7B v.kind).length + (([32]:List UInt8) ++ v.name).length < jF:=by simp only [jF,j3,j4,j6]; omega
    simp only [jr,jv,zb,zi,zs,zl,j8,zf,if_false,hO,zr,cn,jn,if_true,q1,q2,zm,hlp,jc] at hv ⊢
    rw [hv]
    simp (disch:=first | omega | (simp only [j3,j4,j6,jf,jF] <;> omega) | fail) only [jr,jv,zb,zi,zs,zl,jl,jm,jf,j3,j4,j6,jF,if_true,if_false,zf,zr,j8,jd,j9,jc,if_pos,j7,zm,true_and,and_self,decide_true,bs,hD,hB]
    simp [J2,zJ]
def j8l (l:List TInDef):List UInt8:=jt [40] [44,32] inT l ++ (if l.isEmpty then [] else [41])
theorem jcy (x:TInDef) (l:List TInDef):j8l (x :: l)=40 :: (Lib.join ((x :: l).map inT) [44,32] ++ [41]):=by
 rw [j8l,jdo]
 rfl
theorem XB {l:List TInDef} (h:XC l=true):∀ x ∈ l,j1o x=true:=fun x hx=>List.all_eq_true.1 h x hx
theorem j5n (l:List TInDef) (h:XC l=true):(j8l l).length ≤ 40 * DC.wt (.sl (l.map TInDef.enc)):=by
 cases l with
 | nil=>simp [j8l,jt]
 | cons x l =>
  have h1:=j2u ((x :: l).map inT)
  have h2:=j36 (enc:=TInDef.enc) (f:=inT) (a:=8) (b:=30) (x :: l) fun y hy=>jg6 y (XB h y hy)
  rw [jcy,DC.wt]
  rw [zm] at h1
  simp only [j4,j3,j6,zm] at h1 h2 ⊢
  omega
theorem j2d (l:List TInDef) (hw:DC.wt (.sl (l.map TInDef.enc)) ≤ 1048576) (hg:XC l=true) (out:List UInt8) (ho:out.length + (j8l l).length < 1073741824) :
  Kw [.sl (jx out),.sl (l.map TInDef.enc)] = .ret [.sl (jx (out ++ j8l l))]:=by
 obtain ⟨hl,hx⟩:=kH hw
 unfold j8l at ho ⊢
 rw [j3] at ho
 have hlp:=yH (o:=[40]) (sep:=[44,32]) (f:=inT) (l:=l) (st:=fun i cur=>[.sl (jx cur),.sl (l.map TInDef.enc),.i (i:Int)]) (F:=yF) (res:=.ex 0 [.sl (jx (out ++ jt [40] [44,32] inT l)),.sl (l.map TInDef.enc)]) out
  (fun i hi cur hc=>?step) ?fin (jG _ _)
 case fin=>simp [yF]
 case step =>
  have hm:=je hi
  have hv:=j3w l[i] (hx _ hm) (XB hg _ hm)
  have c2:0 ≤ (i:Int) ∧ (i:Int) < (l.length:Int):=by omega
  have d:decide ((i:Int) < (l.length:Int))=true:=decide_eq_true (by omega)
  have wi:=jp hi (show l.length ≤ 9223372036854775807 by omega)
  by_cases h0:i=0
  ·have c0:((i:Int) == 0)=true:=beq_iff_eq.2 (by omega)
   rw [if_pos h0] at hc ⊢
   simp only [j3,j4,j6] at hc
   simp (disch:=first | omega | (simp only [j3,j4,j6,jf,jF] <;> omega) | fail) only [yF,jr,jv,zb,zi,zs,zl,jl,jm,jf,j3,j4,j6,jF,if_true,if_false,zf,zr,j8,jd,j9,jc,if_pos,j7,zm,true_and,and_self,decide_true,bs,jq hi,TInDef.enc_eq,d,c0,c2,hv,wi]
   simp
  ·have c0:((i:Int) == 0)=false:=beq_eq_false_iff_ne.2 (by omega)
   rw [if_neg h0] at hc ⊢
   simp only [j3,j4,j6] at hc
   simp (disch:=first | omega | (simp only [j3,j4,j6,jf,jF] <;> omega) | fail) only [yF,jr,jv,zb,zi,zs,zl,jl,jm,jf,j3,j4,j6,jF,if_true,if_false,zf,zr,j8,jd,j9,jc,if_pos,j7,zm,true_and,and_self,decide_true,bs,jq hi,TInDef.enc_eq,d,c0,c2,hv,wi]
   simp
 rw [jI] at hlp
 rw [j5u]
 cases l with
 | nil=>simp at hlp; simp [X4,hlp]
 | cons a l =>
  have hpos:decide ((((a :: l).map TInDef.enc).length:Int) > 0)=true:=decide_eq_true (by simp)
  simp only [List.isEmpty_cons,zf,if_false,j4,j6] at ho
  simp only [zm] at hpos
  simp (disch:=first | omega | (simp only [j3,j4,j6,jf,jF] <;> omega) | fail) only [X4,jr,jv,zb,zi,zs,zl,jl,jm,jf,j3,j4,j6,jF,if_true,if_false,zf,zr,j8,jd,j9,jc,if_pos,j7,zm,true_and,and_self,decide_true,bs,hlp,hpos,List.isEmpty_cons]
  simp
theorem j5o (l:List TInDef) (hw:DC.wt (.sl (l.map TInDef.enc)) ≤ 1048576) (hg:XC l=true):Vg [.sl (l.map TInDef.enc)] = .ret [.s (j8l l)]:=by
 obtain ⟨hl,hx⟩:=kH hw
 have hb:=j5n l hg
 rw [j8H]
 cases l with
 | nil=>simp [Zd,j8l,jt]
 | cons a0 l0 =>
  have hz:((((a0 :: l0).map TInDef.enc).length:Int) == 0)=false:=beq_eq_false_iff_ne.2 (by simp; omega)
  rw [jcy] at hb ⊢
  generalize hL:a0 :: l0=l at *
  simp only [j4,j3,j6] at hb
  have hJ:=j3h (l.map inT) (by rw [zm]; exact hl) (by omega)
  have hlp:=YE (w:=inT) (l:=l) (st:=fun i cur=>[.sl cur,.sl (l.map TInDef.enc),.i (l.length:Int),.i (i:Int)]) (F:=KW) (res:=.ex 0 [.sl ((l.map inT).map fun x=>[DC.s x])])
   (fun i hi cur hc=>?step) ?fin (jG _ _)
  case fin=>simp [KW,Function.comp_def]
  case step =>
   have hm:=je hi
   have hv:=j81 l[i] (hx _ hm)
   have hv2:j6M l[i]=inT l[i]:=by unfold j6M; rw [if_pos (XB hg _ hm)]
   rw [hv2] at hv
   have c2:0 ≤ (i:Int) ∧ (i:Int) < (l.length:Int):=by omega
   have d:decide ((i:Int) < (l.length:Int))=true:=decide_eq_true (by omega)
   have wi:=jp hi (show l.length ≤ 9223372036854775807 by omega)
   simp (disch:=first | omega | (simp only [j3,j4,j6,jf,jF] <;> omega) | fail) only [KW,jr,jv,zb,zi,zs,zl,jl,jm,jf,j3,j4,j6,jF,if_true,if_false,zf,zr,j8,jd,j9,jc,if_pos,j7,zm,true_and,and_self,decide_true,bs,jq hi,TInDef.enc_eq,d,c2,hv,wi]
  rw [jI] at hlp
  simp only [zm] at hz
  simp (disch:=first | omega | (simp only [j3,j4,j6,jf,jF] <;> omega) | fail) only [Zd,jr,jv,zb,zi,zs,zl,jl,jm,jf,j3,j4,j6,jF,if_true,if_false,zf,zr,j8,jd,j9,jc,if_pos,j7,zm,true_and,and_self,decide_true,bs,hz,hlp,hJ,jh]
  simp
def j82 (s:List UInt8):List UInt8:=if s=[] then [] else [32,32] ++ (qJ s ++ [10])
def Kq (v:TFieldDef):List UInt8:=j82 v.desc ++ ([32,32] ++ (v.name ++ (j8l v.args ++ ([58,32] ++ (QR v.type'.name v.type'.wraps ++ (XE v.dirs ++ [10]))))))
theorem j0B (s:List UInt8):(j82 s).length ≤ 6 * s.length + 5:=by
 have:=Jc s
 unfold j82
 split
 ·simp
 ·simp only [j3,j4,j6]; omega
theorem j1v (s:List UInt8) (hs:s.length ≤ 1048576) (out:List UInt8) (ho:out.length + 6 * s.length + 10 < 1073741824):JV [.sl (jx out),.s s] = .ret [.sl (jx (out ++ (j82 s ++ [32,32])))]:=by
 have hE:=Ku s hs
 have hl:=Jc s
 rw [j4D]
 unfold j82
 by_cases k:s=[]
 ·have c:(s == ([]:List UInt8))=true:=beq_iff_eq.2 k
  rw [if_pos k]
  simp (disch:=first | omega | (simp only [j3,j4,j6,jf,jF] <;> omega) | fail) only [Vw,jr,jv,zb,zi,zs,zl,jl,jm,jf,j3,j4,j6,jF,if_true,if_false,zf,zr,j8,jd,j9,jc,if_pos,j7,zm,true_and,and_self,decide_true,bs,c,jh]
  simp
 ·have c:(s == ([]:List UInt8))=false:=beq_eq_false_iff_ne.2 k
  rw [if_neg k]
  simp (disch:=first | omega | (simp only [j3,j4,j6,jf,jF] <;> omega) | fail) only [Vw,jr,jv,zb,zi,zs,zl,jl,jm,jf,j3,j4,j6,jF,if_true,if_false,zf,zr,j8,jd,j9,jc,if_pos,j7,zm,true_and,and_self,decide_true,bs,c,hE,jn]
  simp
theorem j3C (s:List UInt8) (hs:s.length ≤ 1048576):yX [.s [32,32],.s s] = .ret [.s (j82 s)]:=by
 have hE:=KS s hs
 have hl:=Jc s
 rw [j0y]
 unfold j82
 by_cases k:s=[]
 ·have c:(s == ([]:List UInt8))=true:=beq_iff_eq.2 k
  rw [if_pos k]
  simp only [JG,jr,jv,zb,zi,zs,zl,c,if_true]
 ·have c:(s == ([]:List UInt8))=false:=beq_eq_false_iff_ne.2 k
  rw [if_neg k]
  simp (disch:=first | omega | (simp only [j3,j4,j6,jf,jF] <;> omega) | fail) only [JG,jr,jv,zb,zi,zs,zl,jl,jm,jf,j3,j4,j6,jF,if_true,if_false,zf,zr,j8,jd,j9,jc,if_pos,j7,zm,true_and,and_self,decide_true,bs,c,hE,jn]
  simp
theorem j2z {v:TFieldDef} (h:y5 v=true):yx v.type'.name v.type'.wraps=true ∧ XC v.args=true ∧ pP v.dirs=true ∧ v.type'.wraps.length ≤ 8:=by
 simp only [y5,pi,yx,jj,decide_eq_true_eq] at h ⊢
 exact ⟨h.2.2.1,h.2.2.2.1,h.2.2.2.2.1,h.2.2.1.2.1⟩
theorem j4C (v:TFieldDef) (h:y5 v=true):(Kq v).length ≤ 40 * jQ v.enc + 40:=by
 obtain ⟨g1,g2,g3,g4⟩:=j2z h
 have h1:=j0B v.desc
 have h2:=Xs v.type'.wraps v.type'.name
 have h3:=j5n v.args g2
 have h4:=yf v.dirs
 rw [j2y]
 unfold Kq
 simp only [j3,j4,j6]
 omega
theorem j6A (v:TFieldDef) (hw:jQ v.enc ≤ 1048576) (hg:y5 v=true) (out:List UInt8) (ho:out.length + 40 * jQ v.enc + 100 < 1073741824):QD [.sl (jx out),.s v.name,.s v.desc,.sl (v.args.map TInDef.enc),.s v.type'.name,.s v.type'.wraps,.sl (v.dirs.map TDir.enc)] = .ret [.sl (jx (out ++ Kq v))]:=by
 obtain ⟨g1,g2,g3,g4⟩:=j2z hg
 rw [j2y] at hw ho
 have l1:=j0B v.desc
 have l2:=Xs v.type'.wraps v.type'.name
 have l3:=j5n v.args g2
 have l4:=yf v.dirs
 have hDe:=j1v v.desc (by omega) out (by omega)
 have hT:=ZR v.type'.name v.type'.wraps (by omega) g1
 have hI:=j2d v.args (by omega) g2
 have hD:=qB v.dirs (by omega) g3
 rw [j3n]
 unfold Kq
 simp (disch:=first | omega | (simp only [j3,j4,j6,jf,jF] <;> omega) | fail) only [Z8,jr,jv,zb,zi,zs,zl,jl,jm,jf,j3,j4,j6,jF,if_true,if_false,zf,zr,j8,jd,j9,jc,if_pos,j7,zm,true_and,and_self,decide_true,bs,hDe,hT,hI,hD]
 simp
noncomputable def j3d (v:TFieldDef):List UInt8:=if y5 v=true then Kq v else []
set_option maxHeartbeats 8000000 in
theorem j9S (v:TFieldDef) (hw:jQ v.enc ≤ 1048576):X0 [.s v.name,.s v.desc,.sl (v.args.map TInDef.enc),.s v.type'.name,.s v.type'.wraps,.sl (v.dirs.map TDir.enc)] = .ret [.s (j3d v)]:=by
 have hk:=j5p v hw
 rw [j5V]
 unfold j3d
 cases hg:y5 v with
 | false=>rw [hg] at hk; simp only [X9,jr,jv,zb,zi,zs,zl,hk,zr,jn,if_true,zf,if_false]
 | true =>
  obtain ⟨g1,g2,g3,g4⟩:=j2z hg
  rw [j2y] at hw
  have l1:=j0B v.desc
  have l2:=Xs v.type'.wraps v.type'.name
  have l3:=j5n v.args g2
  have l4:=yf v.dirs
  have hDe:=j3C v.desc (by omega)
  have hT:=j0e v.type'.name v.type'.wraps (by omega) g1
  have hI:=j5o v.args (by omega) g2
  have hD:=yq v.dirs (by omega) g3
  rw [hg] at hk
  unfold Kq
  simp (disch:=first | omega | (simp only [j3,j4,j6,jf,jF] <;> omega) | fail) only [X9,jr,jv,zb,zi,zs,zl,jl,jm,jf,j3,j4,j6,jF,if_true,if_false,zf,zr,j8,jd,j9,jc,if_pos,j7,zm,true_and,and_self,decide_true,bs,hk,hDe,hT,hI,hD,jh]
  simp
noncomputable def XX (v:TEnumDef):Bool:=jX v.name && (!jfl v.name && (Q3 v.desc && pi v.dirs))
theorem j5W (v:TEnumDef):jQ v.enc=v.name.length + v.desc.length + DC.wt (.sl (v.dirs.map TDir.enc)):=by
 rw [TEnumDef.enc_eq]
 simp only [jQ]
 simp only [DC.wt]
 omega
theorem jeK (v:TEnumDef) (hw:jQ v.enc ≤ 1048576):j07 [.s v.name,.s v.desc,.sl (v.dirs.map TDir.enc)] = .ret [.b (XX v)]:=by
 rw [j5W] at hw
 rw [jaF]
 simp only [j4l,jr,jv,zb,zi,zs,zl,kR v.name (by omega),jcA,Zu v.desc (by omega),Kp v.dirs (by omega),zr,XX]
 generalize jX v.name=p1
 generalize jfl v.name=p2
 generalize Q3 v.desc=p3
 generalize pi v.dirs=p4
 cases p1 <;> cases p2 <;> cases p3 <;> simp
def jiz (k:Int):Bool:=k == 1 || (k == 2 || k == 3)
noncomputable def YK (v:TRoot):Bool:=jiz v.kind && jX v.type'
theorem jdc (v:TRoot):jQ v.enc=v.type'.length:=by
 rw [TRoot.enc_eq]
 simp only [jQ]
 simp only [DC.wt]
 omega
theorem jeI (v:TRoot) (hw:jQ v.enc ≤ 1048576):j05 [.i v.kind,.s v.type'] = .ret [.b (YK v)]:=by
 rw [jdc] at hw
 rw [jaD]
 simp only [j4j,jr,jv,zb,zi,zs,zl,Zw,j4Y,kR v.type' (by omega),zr,YK,jiz]
 generalize (v.kind == 1 || (v.kind == 2 || v.kind == 3))=p1
 cases p1 <;> simp
theorem j64 (ok:TFieldDef → Bool) (l:List TFieldDef) (hl:l.length ≤ 1048576) (hc:∀ x ∈ l,KM [.s x.name,.s x.desc,.sl (x.args.map TInDef.enc),.s x.type'.name,.s x.type'.wraps,.sl (x.dirs.map TDir.enc)] = .ret [.b (!ok x)]):kv [.sl (l.map TFieldDef.enc)] = .ret [.b (!(l.all ok))]:=by
 rw [yl]
 simp only [pm,jr,zl]
 rw [yI]
 simp only [pA,jr,zl,zm]
 rw [show (0:Int)=((0:Nat):Int) from rfl,kb (l:=l) (st:=fun i=>[.sl (l.map TFieldDef.enc),.i (l.length:Int),.i (i:Int)]) (p:=fun n=>!ok n) (stop:=fun i _=>.ret [.i (i:Int)]) (fin:=.ex 0 []) (fun i hi=>?step) (fun _ _=>Out.esc_ret _) ?fin (jG _ _),zS]
 ·rw [js]
  cases hf:l.findIdx? fun n=>!ok n with
  | none =>
   have:(l.any fun n=>!ok n)=false:=by
    rw [List.any_eq_false]
    intro x hx
    have:=List.findIdx?_eq_none_iff.1 hf x hx
    simpa using this
   rw [this]
   simp
  | some j =>
   obtain ⟨hj,h1,h2⟩:=List.findIdx?_eq_some_iff_getElem.1 hf
   have:(l.any fun n=>!ok n)=true:=List.any_eq_true.2 ⟨l[j],je hj,h1⟩
   rw [this]
   simp [hj]
 case step =>
  have c2:0 ≤ (i:Int) ∧ (i:Int) < (l.length:Int):=by omega
  have d:decide ((i:Int) < (l.length:Int))=true:=decide_eq_true (by omega)
  have he:KM [.s l[i].name,.s l[i].desc,.sl (l[i].args.map TInDef.enc),.s l[i].type'.name,.s l[i].type'.wraps,.sl (l[i].dirs.map TDir.enc)] = .ret [.b (!ok l[i])]:=hc _ (je hi)
  simp only [kx,jr,jv,zb,zi,zs,zl,j7,zm,jq hi,TFieldDef.enc_eq,d,c2,he,zr,true_and,and_self,if_true]
  cases ok l[i] <;> simp [jp hi (show l.length ≤ 9223372036854775807 by omega)]
 case fin=>simp [kx]
theorem j63 (ok:TEnumDef → Bool) (l:List TEnumDef) (hl:l.length ≤ 1048576) (hc:∀ x ∈ l,KL [.s x.name,.s x.desc,.sl (x.dirs.map TDir.enc)] = .ret [.b (!ok x)]):kw [.sl (l.map TEnumDef.enc)] = .ret [.b (!(l.all ok))]:=by
 rw [yr]
 simp only [pq,jr,zl]
 rw [yQ]
 simp only [pH,jr,zl,zm]
 rw [show (0:Int)=((0:Nat):Int) from rfl,kb (l:=l) (st:=fun i=>[.sl (l.map TEnumDef.enc),.i (l.length:Int),.i (i:Int)]) (p:=fun n=>!ok n) (stop:=fun i _=>.ret [.i (i:Int)]) (fin:=.ex 0 []) (fun i hi=>?step) (fun _ _=>Out.esc_ret _) ?fin (jG _ _),zS]
 ·rw [js]
  cases hf:l.findIdx? fun n=>!ok n with
  | none =>
   have:(l.any fun n=>!ok n)=false:=by
    rw [List.any_eq_false]
    intro x hx
    have:=List.findIdx?_eq_none_iff.1 hf x hx
    simpa using this
   rw [this]
   simp
  | some j =>
   obtain ⟨hj,h1,h2⟩:=List.findIdx?_eq_some_iff_getElem.1 hf
   have:(l.any fun n=>!ok n)=true:=List.any_eq_true.2 ⟨l[j],je hj,h1⟩
   rw [this]
   simp [hj]
 case step =>
  have c2:0 ≤ (i:Int) ∧ (i:Int) < (l.length:Int):=by omega
  have d:decide ((i:Int) < (l.length:Int))=true:=decide_eq_true (by omega)
  have he:KL [.s l[i].name,.s l[i].desc,.sl (l[i].dirs.map TDir.enc)] = .ret [.b (!ok l[i])]:=hc _ (je hi)
  simp only [ky,jr,jv,zb,zi,zs,zl,j7,zm,jq hi,TEnumDef.enc_eq,d,c2,he,zr,true_and,and_self,if_true]
  cases ok l[i] <;> simp [jp hi (show l.length ≤ 9223372036854775807 by omega)]
 case fin=>simp [ky]
theorem j62 (ok:TRoot → Bool) (l:List TRoot) (hl:l.length ≤ 1048576) (hc:∀ x ∈ l,KK [.i x.kind,.s x.type'] = .ret [.b (!ok x)]):kD [.sl (l.map TRoot.enc)] = .ret [.b (!(l.all ok))]:=by
 rw [yT]
 simp only [pK,jr,zl]
 rw [zN]
 simp only [qg,jr,zl,zm]
 rw [show (0:Int)=((0:Nat):Int) from rfl,kb (l:=l) (st:=fun i=>[.sl (l.map TRoot.enc),.i (l.length:Int),.i (i:Int)]) (p:=fun n=>!ok n) (stop:=fun i _=>.ret [.i (i:Int)]) (fin:=.ex 0 []) (fun i hi=>?step) (fun _ _=>Out.esc_ret _) ?fin (jG _ _),zS]
 ·rw [js]
  cases hf:l.findIdx? fun n=>!ok n with
  | none =>
   have:(l.any fun n=>!ok n)=false:=by
    rw [List.any_eq_false]
    intro x hx
    have:=List.findIdx?_eq_none_iff.1 hf x hx
    simpa using this
   rw [this]
   simp
  | some j =>
   obtain ⟨hj,h1,h2⟩:=List.findIdx?_eq_some_iff_getElem.1 hf
   have:(l.any fun n=>!ok n)=true:=List.any_eq_true.2 ⟨l[j],je hj,h1⟩
   rw [this]
   simp [hj]
 case step =>
  have c2:0 ≤ (i:Int) ∧ (i:Int) < (l.length:Int):=by omega
  have d:decide ((i:Int) < (l.length:Int))=true:=decide_eq_true (by omega)
  have he:KK [.i l[i].kind,.s l[i].type'] = .ret [.b (!ok l[i])]:=hc _ (je hi)
  simp only [kK,jr,jv,zb,zi,zs,zl,j7,zm,jq hi,TRoot.enc_eq,d,c2,he,zr,true_and,and_self,if_true]
  cases ok l[i] <;> simp [jp hi (show l.length ≤ 9223372036854775807 by omega)]
 case fin=>simp [kK]
theorem j61 (ok:List UInt8 → Bool) (l:List (List UInt8)) (hl:l.length ≤ 1048576) (hc:∀ x ∈ l,KJ [.s x] = .ret [.b (!ok x)]):kW [.sl (l.map S1)] = .ret [.b (!(l.all ok))]:=by
 rw [zP]
 simp only [qi,jr,zl]
 rw [Jp]
 simp only [qH,jr,zl,zm]
 rw [show (0:Int)=((0:Nat):Int) from rfl,kb (l:=l) (st:=fun i=>[.sl (l.map S1),.i (l.length:Int),.i (i:Int)]) (p:=fun n=>!ok n) (stop:=fun i _=>.ret [.i (i:Int)]) (fin:=.ex 0 []) (fun i hi=>?step) (fun _ _=>Out.esc_ret _) ?fin (jG _ _),zS]
 ·rw [js]
  cases hf:l.findIdx? fun n=>!ok n with
  | none =>
   have:(l.any fun n=>!ok n)=false:=by
    rw [List.any_eq_false]
    intro x hx
    have:=List.findIdx?_eq_none_iff.1 hf x hx
    simpa using this
   rw [this]
   simp
  | some j =>
   obtain ⟨hj,h1,h2⟩:=List.findIdx?_eq_some_iff_getElem.1 hf
   have:(l.any fun n=>!ok n)=true:=List.any_eq_true.2 ⟨l[j],je hj,h1⟩
   rw [this]
   simp [hj]
 case step =>
  have c2:0 ≤ (i:Int) ∧ (i:Int) < (l.length:Int):=by omega
  have d:decide ((i:Int) < (l.length:Int))=true:=decide_eq_true (by omega)
  have he:KJ [.s l[i]] = .ret [.b (!ok l[i])]:=hc _ (je hi)
  simp only [pa,jr,jv,zb,zi,zs,zl,j7,zm,jq hi,S1,d,c2,he,zr,true_and,and_self,if_true]
  rcases zt (ok l[i]) with q | q <;> simp [q,jp hi (show l.length ≤ 9223372036854775807 by omega)]
 case fin=>simp [pa]
theorem j8U (ok:List UInt8 → Bool) (l:List (List UInt8)) (hl:l.length ≤ 1048576) (hc:∀ x ∈ l,Vn [.s x] = .ret [.b (!ok x)]):pc [.sl (l.map S1)] = .ret [.b (!(l.all ok))]:=by
 rw [Jb]
 simp only [qx,jr,zl]
 rw [JS]
 simp only [qR,jr,zl,zm]
 rw [show (0:Int)=((0:Nat):Int) from rfl,kb (l:=l) (st:=fun i=>[.sl (l.map S1),.i (l.length:Int),.i (i:Int)]) (p:=fun n=>!ok n) (stop:=fun i _=>.ret [.i (i:Int)]) (fin:=.ex 0 []) (fun i hi=>?step) (fun _ _=>Out.esc_ret _) ?fin (jG _ _),zS]
 ·rw [js]
  cases hf:l.findIdx? fun n=>!ok n with
  | none =>
   have:(l.any fun n=>!ok n)=false:=by
    rw [List.any_eq_false]
    intro x hx
    have:=List.findIdx?_eq_none_iff.1 hf x hx
    simpa using this
   rw [this]
   simp
  | some j =>
   obtain ⟨hj,h1,h2⟩:=List.findIdx?_eq_some_iff_getElem.1 hf
   have:(l.any fun n=>!ok n)=true:=List.any_eq_true.2 ⟨l[j],je hj,h1⟩
   rw [this]
   simp [hj]
 case step =>
  have c2:0 ≤ (i:Int) ∧ (i:Int) < (l.length:Int):=by omega
  have d:decide ((i:Int) < (l.length:Int))=true:=decide_eq_true (by omega)
  have he:Vn [.s l[i]] = .ret [.b (!ok l[i])]:=hc _ (je hi)
  simp only [pd,jr,jv,zb,zi,zs,zl,j7,zm,jq hi,S1,d,c2,he,zr,true_and,and_self,if_true]
  rcases zt (ok l[i]) with q | q <;> simp [q,jp hi (show l.length ≤ 9223372036854775807 by omega)]
 case fin=>simp [pd]
theorem jir {c:Bool} {X:Out} (h:∃ b,X = .norm [.b b]):∃ b,(if c=true then Out.norm [.b c] else jb X fun v=>.norm [.b (gb v 0)]) = .norm [.b b]:=by
 obtain ⟨b,rfl⟩:=h
 cases c <;> exact ⟨_,rfl⟩
theorem jjg {c d:Bool}:∃ b,(if c=true then Out.norm [.b c] else .norm [.b d]) = .norm [.b b]:=by
 cases c <;> exact ⟨_,rfl⟩
theorem jjM {X:Out} (h:∃ b,X = .norm [.b b]):∃ b,ja (jb X fun v=>if (gb v 0)=true then .ret [.b true] else .norm []) 0 (fun _=>.ret [.b false]) = .ret [.b b]:=by
 obtain ⟨b,rfl⟩:=h
 cases b <;> exact ⟨_,rfl⟩
noncomputable def Vp (s:List UInt8):Bool:=match Kg [.s s] with
 | .ret w=>(gb w 0)
 | _=>false
theorem j54 (s:List UInt8):Kg [.s s] = .ret [.b (Vp s)]:=by
 have h:∃ b,Kg [.s s] = .ret [.b b]:=by
  rw [j1z]
  refine jjM (jir ?_)
  repeat refine jir ?_
  exact jjg
 obtain ⟨b,hb⟩:=h
 unfold Vp
 rw [hb]
 rfl
theorem jdu (s:List UInt8):YR [.s s] = .ret [.b (Vp s)]:=by
 rw [← j54,j8N,j1z]
 rfl
def ne {α:Type} (l:List α):Bool:=!l.isEmpty
theorem pg {α:Type} (l:List α) (f:α → List DC):decide (((l.map f).length:Int) > 0)=ne l:=by
 cases l with
 | nil=>rfl
 | cons a l=>exact decide_eq_true (by simp)
theorem pp {α:Type} (l:List α) (f:α → List DC):(((l.map f).length:Int) == 0) = !ne l:=by rw [jg3]; unfold ne; cases l.isEmpty <;> rfl
theorem Q4 (v:TDef):jQ v.enc=v.desc.length + v.name.length + DC.wt (.sl (v.faces.map S1)) + DC.wt (.sl (v.fields.map TFieldDef.enc)) + DC.wt (.sl (v.inputs.map TInDef.enc)) + DC.wt (.sl (v.values.map TEnumDef.enc)) + DC.wt (.sl (v.roots.map TRoot.enc)) + DC.wt (.sl (v.dirs.map TDir.enc)):=by
 rw [TDef.enc_eq]
 simp only [jQ]
 simp only [DC.wt]
 omega
def j9u (v:TDef):Bool:=ne v.faces || (ne v.fields || (ne v.inputs || (ne v.values || (ne v.roots || ne v.dirs))))
theorem jgx (a b c d e f:Nat) (h:a ≤ 1048576 ∧ b ≤ 1048576 ∧ c ≤ 1048576 ∧ d ≤ 1048576 ∧ e ≤ 1048576 ∧ f ≤ 1048576) :
  decide (IntKind.i64.wrap (IntKind.i64.wrap (IntKind.i64.wrap (IntKind.i64.wrap (IntKind.i64.wrap ((a:Int) + b) + c) + d) + e) + f) > 0)=(decide ((a:Int) > 0) || (decide ((b:Int) > 0) || (decide ((c:Int) > 0) || (decide ((d:Int) > 0) || (decide ((e:Int) > 0) || decide ((f:Int) > 0)))))):=by
 rw [kp (n:=(a:Int) + b) (by omega) (by omega),kp (n:=(a:Int) + b + c) (by omega) (by omega),kp (n:=(a:Int) + b + c + d) (by omega) (by omega),kp (n:=(a:Int) + b + c + d + e) (by omega) (by omega),kp (n:=(a:Int) + b + c + d + e + f) (by omega) (by omega)]
 simp only [← Bool.decide_or]
 exact decide_eq_decide.2 (by omega)
theorem XF (v:TDef) (hw:jQ v.enc ≤ 1048576):v.faces.length ≤ 1048576 ∧ v.fields.length ≤ 1048576 ∧ v.inputs.length ≤ 1048576 ∧ v.values.length ≤ 1048576 ∧ v.roots.length ≤ 1048576 ∧ v.dirs.length ≤ 1048576:=by
 rw [Q4] at hw
 simp only [DC.wt,zm] at hw
 omega
theorem jeg (v:TDef) (hw:jQ v.enc ≤ 1048576):ZU [.i v.kind,.b v.ext,.s v.desc,.s v.name,.sl (v.faces.map S1),.sl (v.fields.map TFieldDef.enc),.sl (v.inputs.map TInDef.enc),.sl (v.values.map TEnumDef.enc),.sl (v.roots.map TRoot.enc),.b v.repeat',.sl (v.dirs.map TDir.enc)] = .ret [.b (j9u v)]:=by
 have h:=XF v hw
 rw [ja1]
 simp only [j3M,jr,jv,zb,zi,zs,zl]
 rw [jgx _ _ _ _ _ _ (by simpa only [zm] using h)]
 simp only [pg,j9u]
theorem j9P (v:TDef) (hw:jQ v.enc ≤ 1048576):VY [.i v.kind,.b v.ext,.s v.desc,.s v.name,.sl (v.faces.map S1),.sl (v.fields.map TFieldDef.enc),.sl (v.inputs.map TInDef.enc),.sl (v.values.map TEnumDef.enc),.sl (v.roots.map TRoot.enc),.b v.repeat',.sl (v.dirs.map TDir.enc)] = .ret [.b (j9u v)]:=by
 have h:=XF v hw
 rw [j5M]
 simp only [j0V,jr,jv,zb,zi,zs,zl]
 rw [jgx _ _ _ _ _ _ (by simpa only [zm] using h)]
 simp only [pg,j9u]
def jji (K:Int) (ext nn rep fa f i v r d pl:Bool):Bool :=
 !((!(K == 2 || K == 3) && f) || ((!(K == 2 || K == 3) && (K != 4 && (K != 7 && fa))) || ((K != 6 && (K != 7 && i)) || ((K != 5 && v) || ((K != 8 && r) || (K != 7 && rep)))))) &&
 (if (K == 7)=true then pl && (fa && (!ext && !d)) else (K != 8 || (nn && (ext || r))))
def blB (K:Int) (rep fa f i v r d:Bool):Bool :=
 !((f && !(K == 2 || K == 3)) || (fa && (!(K == 2 || K == 3) && (K != 4 && K != 7)))) && (!((i && (K != 6 && K != 7)) || (v && K != 5)) && ((!r || K == 8) && ((!d || K != 7) && (!rep || K == 7))))
theorem j7X {K:Int} (k:K=2):(K == 2)=true ∧ (K == 3)=false ∧ (K == 4)=false ∧ (K == 5)=false ∧ (K == 6)=false ∧ (K == 7)=false ∧ (K == 8)=false:=by
 subst k; decide
theorem j7W {K:Int} (k:K=3):(K == 2)=false ∧ (K == 3)=true ∧ (K == 4)=false ∧ (K == 5)=false ∧ (K == 6)=false ∧ (K == 7)=false ∧ (K == 8)=false:=by
 subst k; decide
theorem j7V {K:Int} (k:K=4):(K == 2)=false ∧ (K == 3)=false ∧ (K == 4)=true ∧ (K == 5)=false ∧ (K == 6)=false ∧ (K == 7)=false ∧ (K == 8)=false:=by
 subst k; decide
theorem j7U {K:Int} (k:K=5):(K == 2)=false ∧ (K == 3)=false ∧ (K == 4)=false ∧ (K == 5)=true ∧ (K == 6)=false ∧ (K == 7)=false ∧ (K == 8)=false:=by
 subst k; decide
theorem j7T {K:Int} (k:K=6):(K == 2)=false ∧ (K == 3)=false ∧ (K == 4)=false ∧ (K == 5)=false ∧ (K == 6)=true ∧ (K == 7)=false ∧ (K == 8)=false:=by
 subst k; decide
theorem j7S {K:Int} (k:K=7):(K == 2)=false ∧ (K == 3)=false ∧ (K == 4)=false ∧ (K == 5)=false ∧ (K == 6)=false ∧ (K == 7)=true ∧ (K == 8)=false:=by
 subst k; decide
theorem j7R {K:Int} (k:K=8):(K == 2)=false ∧ (K == 3)=false ∧ (K == 4)=false ∧ (K == 5)=false ∧ (K == 6)=false ∧ (K == 7)=false ∧ (K == 8)=true:=by
 subst k; decide
theorem j7Y {K:Int} (k2:¬K=2) (k3:¬K=3) (k4:¬K=4) (k5:¬K=5) (k6:¬K=6) (k7:¬K=7) (k8:¬K=8):(K == 2)=false ∧ (K == 3)=false ∧ (K == 4)=false ∧ (K == 5)=false ∧ (K == 6)=false ∧ (K == 7)=false ∧ (K == 8)=false:=by
 exact ⟨beq_eq_false_iff_ne.2 k2,beq_eq_false_iff_ne.2 k3,beq_eq_false_iff_ne.2 k4,beq_eq_false_iff_ne.2 k5,beq_eq_false_iff_ne.2 k6,beq_eq_false_iff_ne.2 k7,beq_eq_false_iff_ne.2 k8⟩
noncomputable def Vo (l:List (List UInt8)):Bool:=l.all Vp
theorem jef (v:TDef) (hw:jQ v.enc ≤ 1048576):Xc [.i v.kind,.b v.ext,.s v.desc,.s v.name,.sl (v.faces.map S1),.sl (v.fields.map TFieldDef.enc),.sl (v.inputs.map TInDef.enc),.sl (v.values.map TEnumDef.enc),.sl (v.roots.map TRoot.enc),.b v.repeat',.sl (v.dirs.map TDir.enc)] = .ret [.b (jji v.kind v.ext (v.name == []) v.repeat' (ne v.faces) (ne v.fields) (ne v.inputs) (ne v.values) (ne v.roots) (ne v.dirs) (Vo v.faces))]:=by
 have hl:=XF v hw
 have hlp:jR Qt [.i 0,.i v.kind,.b v.ext,.s v.desc,.s v.name,.sl (v.faces.map S1),.sl (v.fields.map TFieldDef.enc),.sl (v.inputs.map TInDef.enc),.sl (v.values.map TEnumDef.enc),.sl (v.roots.map TRoot.enc),.b v.repeat',.sl (v.dirs.map TDir.enc)]=if v.faces.all Vp=true then .ex 0 [.i v.kind,.b v.ext,.s v.desc,.s v.name,.sl (v.faces.map S1),.sl (v.fields.map TFieldDef.enc),.sl (v.inputs.map TInDef.enc),.sl (v.values.map TEnumDef.enc),.sl (v.roots.map TRoot.enc),.b v.repeat',.sl (v.dirs.map TDir.enc)] else .ret [.b false]:=by
  rw [show (0:Int)=((0:Nat):Int) from rfl,kb (l:=v.faces) (st:=fun i=>[.i (i:Int),.i v.kind,.b v.ext,.s v.desc,.s v.name,.sl (v.faces.map S1),.sl (v.fields.map TFieldDef.enc),.sl (v.inputs.map TInDef.enc),.sl (v.values.map TEnumDef.enc),.sl (v.roots.map TRoot.enc),.b v.repeat',.sl (v.dirs.map TDir.enc)]) (p:=fun x=>!Vp x) (stop:=fun i _=>.ret [.b false]) (fin:=.ex 0 [.i v.kind,.b v.ext,.s v.desc,.s v.name,.sl (v.faces.map S1),.sl (v.fields.map TFieldDef.enc),.sl (v.inputs.map TInDef.enc),.sl (v.values.map TEnumDef.enc),.sl (v.roots.map TRoot.enc),.b v.repeat',.sl (v.dirs.map TDir.enc)]) (fun i hi=>?step) (fun _ _=>Out.esc_ret _) ?fin (jG _ _),qU]
  ·rw [show (v.faces.any fun x=>!Vp x) = !(v.faces.all Vp) by rw [js]]
   cases v.faces.all Vp <;> simp
  case step =>
   have hx:=j54 v.faces[i]
   have c2:0 ≤ (i:Int) ∧ (i:Int) < (v.faces.length:Int):=by omega
   have d:decide ((i:Int) < (v.faces.length:Int))=true:=decide_eq_true (by omega)
   simp only [Qt,jr,jv,zb,zi,zs,zl,j7,zm,jq hi,d,c2,S1,hx,zr,true_and,and_self,if_true,decide_true]
   rcases zt (Vp v.faces[i]) with q | q <;> simp [q,jp hi (show v.faces.length ≤ 9223372036854775807 by omega)]
  case fin=>simp [Qt]
 rw [show v.faces.all Vp=Vo v.faces from rfl] at hlp
 rw [j9Z]
 unfold jji
 by_cases k2:v.kind=2
 ·obtain ⟨c2,c3,c4,c5,c6,c7,c8⟩:=j7X k2
  clear k2
  rcases zt (ne v.inputs) with h_i | h_i
  rotate_left
  rcases zt (ne v.values) with h_v | h_v
  rotate_left
  rcases zt (ne v.roots) with h_r | h_r
  rotate_left
  rcases zt (v.repeat') with h_rep | h_rep
  rotate_left
  all_goals simp only [qV,jr,jv,zb,zi,zs,zl,j8,jd,jc,j9,pg,pp,bne,eq_self,if_true,if_false,zf,jh,jn,jS,jC,jT,jP,Bool.or_true,Bool.true_or,Bool.or_false,jW,Bool.or_self,Bool.and_self, *]
 by_cases k3:v.kind=3
 ·obtain ⟨c2,c3,c4,c5,c6,c7,c8⟩:=j7W k3
  clear k2 k3
  rcases zt (ne v.inputs) with h_i | h_i
  rotate_left
  rcases zt (ne v.values) with h_v | h_v
  rotate_left
  rcases zt (ne v.roots) with h_r | h_r
  rotate_left
  rcases zt (v.repeat') with h_rep | h_rep
  rotate_left
  all_goals simp only [qV,jr,jv,zb,zi,zs,zl,j8,jd,jc,j9,pg,pp,bne,eq_self,if_true,if_false,zf,jh,jn,jS,jC,jT,jP,Bool.or_true,Bool.true_or,Bool.or_false,jW,Bool.or_self,Bool.and_self, *]
 by_cases k4:v.kind=4
 ·obtain ⟨c2,c3,c4,c5,c6,c7,c8⟩:=j7V k4
  clear k2 k3 k4
  rcases zt (ne v.fields) with h_f | h_f
  rotate_left
  rcases zt (ne v.inputs) with h_i | h_i
  rotate_left
  rcases zt (ne v.values) with h_v | h_v
  rotate_left
  rcases zt (ne v.roots) with h_r | h_r
  rotate_left
  rcases zt (v.repeat') with h_rep | h_rep
  rotate_left
  all_goals simp only [qV,jr,jv,zb,zi,zs,zl,j8,jd,jc,j9,pg,pp,bne,eq_self,if_true,if_false,zf,jh,jn,jS,jC,jT,jP,Bool.or_true,Bool.true_or,Bool.or_false,jW,Bool.or_self,Bool.and_self, *]
 by_cases k5:v.kind=5
 ·obtain ⟨c2,c3,c4,c5,c6,c7,c8⟩:=j7U k5
  clear k2 k3 k4 k5
  rcases zt (ne v.fields) with h_f | h_f
  rotate_left
  rcases zt (ne v.faces) with h_fa | h_fa
  rotate_left
  rcases zt (ne v.inputs) with h_i | h_i
  rotate_left
  rcases zt (ne v.roots) with h_r | h_r
  rotate_left
  rcases zt (v.repeat') with h_rep | h_rep
  rotate_left
  all_goals simp only [qV,jr,jv,zb,zi,zs,zl,j8,jd,jc,j9,pg,pp,bne,eq_self,if_true,if_false,zf,jh,jn,jS,jC,jT,jP,Bool.or_true,Bool.true_or,Bool.or_false,jW,Bool.or_self,Bool.and_self, *]
 by_cases k6:v.kind=6
 ·obtain ⟨c2,c3,c4,c5,c6,c7,c8⟩:=j7T k6
  clear k2 k3 k4 k5 k6
  rcases zt (ne v.fields) with h_f | h_f
  rotate_left
  rcases zt (ne v.faces) with h_fa | h_fa
  rotate_left
  rcases zt (ne v.values) with h_v | h_v
  rotate_left
  rcases zt (ne v.roots) with h_r | h_r
  rotate_left
  rcases zt (v.repeat') with h_rep | h_rep
  rotate_left
  all_goals simp only [qV,jr,jv,zb,zi,zs,zl,j8,jd,jc,j9,pg,pp,bne,eq_self,if_true,if_false,zf,jh,jn,jS,jC,jT,jP,Bool.or_true,Bool.true_or,Bool.or_false,jW,Bool.or_self,Bool.and_self, *]
 by_cases k7:v.kind=7
 ·obtain ⟨c2,c3,c4,c5,c6,c7,c8⟩:=j7S k7
  clear k2 k3 k4 k5 k6 k7
  rcases zt (ne v.fields) with h_f | h_f
  rotate_left
  rcases zt (ne v.values) with h_v | h_v
  rotate_left
  rcases zt (ne v.roots) with h_r | h_r
  rotate_left
  rcases zt (Vo v.faces) with h_pl | h_pl <;> rcases zt (ne v.faces) with h_fa | h_fa <;> rcases zt (ne v.dirs) with h_d | h_d <;> rcases zt (v.ext) with h_ext | h_ext <;> simp only [h_ext] at hlp
  all_goals simp only [qV,jr,jv,zb,zi,zs,zl,j8,jd,jc,j9,pg,pp,bne,eq_self,if_true,if_false,zf,jh,jn,jS,jC,jT,jP,Bool.or_true,Bool.true_or,Bool.or_false,jW,Bool.or_self,Bool.and_self, *]
 by_cases k8:v.kind=8
 ·obtain ⟨c2,c3,c4,c5,c6,c7,c8⟩:=j7R k8
  clear k2 k3 k4 k5 k6 k7 k8
  rcases zt (ne v.fields) with h_f | h_f
  rotate_left
  rcases zt (ne v.faces) with h_fa | h_fa
  rotate_left
  rcases zt (ne v.inputs) with h_i | h_i
  rotate_left
  rcases zt (ne v.values) with h_v | h_v
  rotate_left
  rcases zt (v.repeat') with h_rep | h_rep
  rotate_left
  rcases zt ((v.name == ([]:List UInt8))) with h_nn | h_nn <;> rcases zt (v.ext) with h_ext | h_ext <;> rcases zt (ne v.roots) with h_r | h_r
  all_goals simp only [qV,jr,jv,zb,zi,zs,zl,j8,jd,jc,j9,pg,pp,bne,eq_self,if_true,if_false,zf,jh,jn,jS,jC,jT,jP,Bool.or_true,Bool.true_or,Bool.or_false,jW,Bool.or_self,Bool.and_self, *]
 obtain ⟨c2,c3,c4,c5,c6,c7,c8⟩:=j7Y k2 k3 k4 k5 k6 k7 k8
 clear k2 k3 k4 k5 k6 k7 k8
 rcases zt (ne v.fields) with h_f | h_f
 rotate_left
 rcases zt (ne v.faces) with h_fa | h_fa
 rotate_left
 rcases zt (ne v.inputs) with h_i | h_i
 rotate_left
 rcases zt (ne v.values) with h_v | h_v
 rotate_left
 rcases zt (ne v.roots) with h_r | h_r
 rotate_left
 rcases zt (v.repeat') with h_rep | h_rep
 rotate_left
 all_goals simp only [qV,jr,jv,zb,zi,zs,zl,j8,jd,jc,j9,pg,pp,bne,eq_self,if_true,if_false,zf,jh,jn,jS,jC,jT,jP,Bool.or_true,Bool.true_or,Bool.or_false,jW,Bool.or_self,Bool.and_self, *]
set_option maxHeartbeats 4000000 in
theorem jdt (v:TDef):Vl [.i v.kind,.b v.ext,.s v.desc,.s v.name,.sl (v.faces.map S1),.sl (v.fields.map TFieldDef.enc),.sl (v.inputs.map TInDef.enc),.sl (v.values.map TEnumDef.enc),.sl (v.roots.map TRoot.enc),.b v.repeat',.sl (v.dirs.map TDir.enc)] = .ret [.b (blB v.kind v.repeat' (ne v.faces) (ne v.fields) (ne v.inputs) (ne v.values) (ne v.roots) (ne v.dirs))]:=by
 rw [j8L]
 unfold blB
 by_cases k2:v.kind=2
 ·obtain ⟨c2,c3,c4,c5,c6,c7,c8⟩:=j7X k2
  clear k2
  rcases zt (ne v.inputs) with h_i | h_i
  rotate_left
  rcases zt (ne v.values) with h_v | h_v
  rotate_left
  rcases zt (ne v.roots) with h_r | h_r <;> rcases zt (ne v.dirs) with h_d | h_d <;> rcases zt (v.repeat') with h_rep | h_rep
  all_goals simp only [qA,jr,jv,zb,zi,zs,zl,j8,jd,jc,j9,pg,pp,bne,eq_self,if_true,if_false,zf,jh,jn,jS,jC,jT,jP,Bool.or_true,Bool.true_or,Bool.or_false,jW,Bool.or_self,Bool.and_self,ite_self, *]
 by_cases k3:v.kind=3
 ·obtain ⟨c2,c3,c4,c5,c6,c7,c8⟩:=j7W k3
  clear k2 k3
  rcases zt (ne v.inputs) with h_i | h_i
  rotate_left
  rcases zt (ne v.values) with h_v | h_v
  rotate_left
  rcases zt (ne v.roots) with h_r | h_r <;> rcases zt (ne v.dirs) with h_d | h_d <;> rcases zt (v.repeat') with h_rep | h_rep
  all_goals simp only [qA,jr,jv,zb,zi,zs,zl,j8,jd,jc,j9,pg,pp,bne,eq_self,if_true,if_false,zf,jh,jn,jS,jC,jT,jP,Bool.or_true,Bool.true_or,Bool.or_false,jW,Bool.or_self,Bool.and_self,ite_self, *]
 by_cases k4:v.kind=4
 ·obtain ⟨c2,c3,c4,c5,c6,c7,c8⟩:=j7V k4
  clear k2 k3 k4
  rcases zt (ne v.fields) with h_f | h_f
  rotate_left
  rcases zt (ne v.inputs) with h_i | h_i
  rotate_left
  rcases zt (ne v.values) with h_v | h_v
  rotate_left
  rcases zt (ne v.roots) with h_r | h_r <;> rcases zt (ne v.dirs) with h_d | h_d <;> rcases zt (v.repeat') with h_rep | h_rep
  all_goals simp only [qA,jr,jv,zb,zi,zs,zl,j8,jd,jc,j9,pg,pp,bne,eq_self,if_true,if_false,zf,jh,jn,jS,jC,jT,jP,Bool.or_true,Bool.true_or,Bool.or_false,jW,Bool.or_self,Bool.and_self,ite_self, *]
 by_cases k5:v.kind=5
 ·obtain ⟨c2,c3,c4,c5,c6,c7,c8⟩:=j7U k5
  clear k2 k3 k4 k5
  rcases zt (ne v.fields) with h_f | h_f
  rotate_left
  rcases zt (ne v.faces) with h_fa | h_fa
  rotate_left
  rcases zt (ne v.inputs) with h_i | h_i
  rotate_left
  rcases zt (ne v.roots) with h_r | h_r <;> rcases zt (ne v.dirs) with h_d | h_d <;> rcases zt (v.repeat') with h_rep | h_rep
  all_goals simp only [qA,jr,jv,zb,zi,zs,zl,j8,jd,jc,j9,pg,pp,bne,eq_self,if_true,if_false,zf,jh,jn,jS,jC,jT,jP,Bool.or_true,Bool.true_or,Bool.or_false,jW,Bool.or_self,Bool.and_self,ite_self, *]
 by_cases k6:v.kind=6
 ·obtain ⟨c2,c3,c4,c5,c6,c7,c8⟩:=j7T k6
  clear k2 k3 k4 k5 k6
  rcases zt (ne v.fields) with h_f | h_f
  rotate_left
  rcases zt (ne v.faces) with h_fa | h_fa
  rotate_left
  rcases zt (ne v.values) with h_v | h_v
  rotate_left
  rcases zt (ne v.roots) with h_r | h_r <;> rcases zt (ne v.dirs) with h_d | h_d <;> rcases zt (v.repeat') with h_rep | h_rep
  all_goals simp only [qA,jr,jv,zb,zi,zs,zl,j8,jd,jc,j9,pg,pp,bne,eq_self,if_true,if_false,zf,jh,jn,jS,jC,jT,jP,Bool.or_true,Bool.true_or,Bool.or_false,jW,Bool.or_self,Bool.and_self,ite_self, *]
 by_cases k7:v.kind=7
 ·obtain ⟨c2,c3,c4,c5,c6,c7,c8⟩:=j7S k7
  clear k2 k3 k4 k5 k6 k7
  rcases zt (ne v.fields) with h_f | h_f
  rotate_left
  rcases zt (ne v.values) with h_v | h_v
  rotate_left
  rcases zt (ne v.roots) with h_r | h_r <;> rcases zt (ne v.dirs) with h_d | h_d <;> rcases zt (v.repeat') with h_rep | h_rep
  all_goals simp only [qA,jr,jv,zb,zi,zs,zl,j8,jd,jc,j9,pg,pp,bne,eq_self,if_true,if_false,zf,jh,jn,jS,jC,jT,jP,Bool.or_true,Bool.true_or,Bool.or_false,jW,Bool.or_self,Bool.and_self,ite_self, *]
 by_cases k8:v.kind=8
 ·obtain ⟨c2,c3,c4,c5,c6,c7,c8⟩:=j7R k8
  clear k2 k3 k4 k5 k6 k7 k8
  rcases zt (ne v.fields) with h_f | h_f
  rotate_left
  rcases zt (ne v.faces) with h_fa | h_fa
  rotate_left
  rcases zt (ne v.inputs) with h_i | h_i
  rotate_left
  rcases zt (ne v.values) with h_v | h_v
  rotate_left
  rcases zt (ne v.roots) with h_r | h_r <;> rcases zt (ne v.dirs) with h_d | h_d <;> rcases zt (v.repeat') with h_rep | h_rep
  all_goals simp only [qA,jr,jv,zb,zi,zs,zl,j8,jd,jc,j9,pg,pp,bne,eq_self,if_true,if_false,zf,jh,jn,jS,jC,jT,jP,Bool.or_true,Bool.true_or,Bool.or_false,jW,Bool.or_self,Bool.and_self,ite_self, *]
 obtain ⟨c2,c3,c4,c5,c6,c7,c8⟩:=j7Y k2 k3 k4 k5 k6 k7 k8
 clear k2 k3 k4 k5 k6 k7 k8
 rcases zt (ne v.fields) with h_f | h_f
 rotate_left
 rcases zt (ne v.faces) with h_fa | h_fa
 rotate_left
 rcases zt (ne v.inputs) with h_i | h_i
 rotate_left
 rcases zt (ne v.values) with h_v | h_v
 rotate_left
 rcases zt (ne v.roots) with h_r | h_r <;> rcases zt (ne v.dirs) with h_d | h_d <;> rcases zt (v.repeat') with h_rep | h_rep
 all_goals simp only [qA,jr,jv,zb,zi,zs,zl,j8,jd,jc,j9,pg,pp,bne,eq_self,if_true,if_false,zf,jh,jn,jS,jC,jT,jP,Bool.or_true,Bool.true_or,Bool.or_false,jW,Bool.or_self,Bool.and_self,ite_self, *]
noncomputable def j1i (v:TDef):Bool:=v.fields.all y5 && (XC v.inputs && (v.values.all XX && (v.roots.all YK && (v.faces.all jX && pi v.dirs))))
theorem jgy {l:List (List UInt8)} {n:Nat} (h:DC.wt (.sl (l.map S1)) ≤ n):∀ x ∈ l,x.length ≤ n:=fun x hx=>by
 have:=(kH h).2 x hx
 simpa [S1,jQ,DC.wt] using this
theorem jds (v:TDef) (hw:jQ v.enc ≤ 1048576):Vf [.i v.kind,.b v.ext,.s v.desc,.s v.name,.sl (v.faces.map S1),.sl (v.fields.map TFieldDef.enc),.sl (v.inputs.map TInDef.enc),.sl (v.values.map TEnumDef.enc),.sl (v.roots.map TRoot.enc),.b v.repeat',.sl (v.dirs.map TDir.enc)] = .ret [.b (j1i v)]:=by
 have hl:=XF v hw
 rw [Q4] at hw
 have h1:=(kH (l:=v.fields) (enc:=TFieldDef.enc) (n:=1048576) (by omega)).2
 have h3:=(kH (l:=v.values) (enc:=TEnumDef.enc) (n:=1048576) (by omega)).2
 have h4:=(kH (l:=v.roots) (enc:=TRoot.enc) (n:=1048576) (by omega)).2
 have h5:=jgy (l:=v.faces) (n:=1048576) (by omega)
 have e1:=j64 y5 v.fields (by omega) fun x hm=>by
  rw [j5Q]; simp only [j0Z,jr,jv,zb,zi,zs,zl,j5p x (h1 x hm),zr]
 have e3:=j63 XX v.values (by omega) fun x hm=>by
  rw [j5P]; simp only [j0Y,jr,jv,zb,zi,zs,zl,jeK x (h3 x hm),zr]
 have e4:=j62 YK v.roots (by omega) fun x hm=>by
  rw [j5O]; simp only [j0X,jr,jv,zb,zi,zs,zl,jeI x (h4 x hm),zr]
 have e5:=j61 jX v.faces (by omega) fun x hm=>by
  rw [j5N]; simp only [j0W,jr,jv,zb,zi,zs,zl,kR x (h5 x hm),zr]
 rw [j8G]
 simp only [j2V,jr,jv,zb,zi,zs,zl,e1,j9Q v.inputs (by omega),e3,e4,e5,Kp v.dirs (by omega),zr,j1i]
 generalize v.fields.all y5=p1
 generalize XC v.inputs=p2
 generalize v.values.all XX=p3
 generalize v.roots.all YK=p4
 generalize v.faces.all jX=p5
 cases p1 <;> cases p2 <;> cases p3 <;> cases p4 <;> cases p5 <;> simp
noncomputable def j0A (v:TDef):Bool:=(decide (1 ≤ v.kind) && decide (v.kind ≤ 8)) && (Q3 v.desc && ((!v.ext || (v.desc == [] && j9u v)) && (j1i v && (blB v.kind v.repeat' (ne v.faces) (ne v.fields) (ne v.inputs) (ne v.values) (ne v.roots) (ne v.dirs) &&
 (if (v.kind == 7)=true then jX v.name && (!v.ext && (ne v.faces && Vo v.faces)) else if (v.kind == 8)=true then v.name == [] && (v.ext || ne v.roots) else jX v.name)))))
theorem jgb (v:TDef) (hw:jQ v.enc ≤ 1048576):j1h [.i v.kind,.b v.ext,.s v.desc,.s v.name,.sl (v.faces.map S1),.sl (v.fields.map TFieldDef.enc),.sl (v.inputs.map TInDef.enc),.sl (v.values.map TEnumDef.enc),.sl (v.roots.map TRoot.enc),.b v.repeat',.sl (v.dirs.map TDir.enc)] = .ret [.b (j0A v)]:=by
 have hl:=XF v hw
 have e1:=jds v hw
 have e2:=jdt v
 have e3:=j9P v hw
 rw [Q4] at hw
 have e4:=j8U Vp v.faces (by omega) fun x hm=>by
  rw [j8S]; simp only [j33,jr,jv,zb,zi,zs,zl,jdu,zr]
 rw [show v.faces.all Vp=Vo v.faces from rfl] at e4
 have hn:=kR v.name (by omega)
 have hd:=Zu v.desc (by omega)
 rw [jbR]
 unfold j0A
 generalize blB v.kind v.repeat' (ne v.faces) (ne v.fields) (ne v.inputs) (ne v.values) (ne v.roots) (ne v.dirs)=bl at e2 ⊢
 rcases (zt ((decide (1 ≤ v.kind) && decide (v.kind ≤ 8)))).symm with h_0 | h_0
 rotate_left
 rcases (zt (Q3 v.desc)).symm with h_1 | h_1
 rotate_left
 rcases zt v.ext with h_ext | h_ext <;> simp only [h_ext] at e1 e2 e3
 ·rcases (zt (v.desc == ([]:List UInt8))).symm with h_2 | h_2
  rotate_left
  rcases (zt (j9u v)).symm with h_3 | h_3
  rotate_left
  rcases (zt (j1i v)).symm with h_4 | h_4
  rotate_left
  rcases (zt (bl)).symm with h_5 | h_5
  rotate_left
  rcases zt (v.kind == 7) with c7 | c7
  rcases zt (jX v.name) with h_n | h_n <;> rcases zt (ne v.faces) with h_f | h_f <;> rcases zt (Vo v.faces) with h_p | h_p
  rotate_left 8
  rcases zt (v.kind == 8) with c8 | c8
  rcases zt (v.name == ([]:List UInt8)) with h_n | h_n <;> rcases zt (ne v.roots) with h_r | h_r
  all_goals simp only [Yz,jr,jv,zb,zi,zs,zl,j8,jd,jc,j9,pg,pp,bne,eq_self,if_true,if_false,zf,jh,jn,jS,jC,jT,jP,Bool.or_true,Bool.true_or,Bool.or_false,jW,Bool.or_self,Bool.and_self,zr,j1p, *]
 ·rcases (zt (j1i v)).symm with h_4 | h_4
  rotate_left
  rcases (zt (bl)).symm with h_5 | h_5
  rotate_left
  rcases zt (v.kind == 7) with c7 | c7
  rcases zt (jX v.name) with h_n | h_n <;> rcases zt (ne v.faces) with h_f | h_f <;> rcases zt (Vo v.faces) with h_p | h_p
  rotate_left 8
  rcases zt (v.kind == 8) with c8 | c8
  rcases zt (v.name == ([]:List UInt8)) with h_n | h_n <;> rcases zt (ne v.roots) with h_r | h_r
  all_goals simp only [Yz,jr,jv,zb,zi,zs,zl,j8,jd,jc,j9,pg,pp,bne,eq_self,if_true,if_false,zf,jh,jn,jS,jC,jT,jP,Bool.or_true,Bool.true_or,Bool.or_false,jW,Bool.or_self,Bool.and_self,zr,j1p, *]
 all_goals simp only [Yz,jr,jv,zb,zi,zs,zl,j8,jd,jc,j9,pg,pp,bne,eq_self,if_true,if_false,zf,jh,jn,jS,jC,jT,jP,Bool.or_true,Bool.true_or,Bool.or_false,jW,Bool.or_self,Bool.and_self,zr,j1p, *]
theorem jeF (K:Int) (ext nn rep fa f i v r d pl nm:Bool) (hK:1 ≤ K ∧ K ≤ 8) :
  (jji K ext nn rep fa f i v r d pl && (K == 8 || nm))=(blB K rep fa f i v r d && (if (K == 7)=true then nm && (!ext && (fa && pl)) else if (K == 8)=true then nn && (ext || r) else nm)):=by
 have:K=1 ∨ K=2 ∨ K=3 ∨ K=4 ∨ K=5 ∨ K=6 ∨ K=7 ∨ K=8:=by omega
 rcases this with rfl | rfl | rfl | rfl | rfl | rfl | rfl | rfl <;> revert ext nn rep fa f i v r d pl nm <;> decide +kernel
theorem jfK (v:TDef) (hw:jQ v.enc ≤ 1048576):j1c [.i v.kind,.b v.ext,.s v.desc,.s v.name,.sl (v.faces.map S1),.sl (v.fields.map TFieldDef.enc),.sl (v.inputs.map TInDef.enc),.sl (v.values.map TEnumDef.enc),.sl (v.roots.map TRoot.enc),.b v.repeat',.sl (v.dirs.map TDir.enc)] = .ret [.b (j0A v)]:=by
 have hl:=XF v hw
 have e2:=jef v hw
 have e3:=jeg v hw
 rw [Q4] at hw
 have h1:=(kH (l:=v.fields) (enc:=TFieldDef.enc) (n:=1048576) (by omega)).2
 have h3:=(kH (l:=v.values) (enc:=TEnumDef.enc) (n:=1048576) (by omega)).2
 have h4:=(kH (l:=v.roots) (enc:=TRoot.enc) (n:=1048576) (by omega)).2
 have h5:=jgy (l:=v.faces) (n:=1048576) (by omega)
 have l1:jR VC [.i 0,.i v.kind,.b v.ext,.s v.desc,.s v.name,.sl (v.faces.map S1),.sl (v.fields.map TFieldDef.enc),.sl (v.inputs.map TInDef.enc),.sl (v.values.map TEnumDef.enc),.sl (v.roots.map TRoot.enc),.b v.repeat',.sl (v.dirs.map TDir.enc)]=if v.faces.all jX=true then .ex 0 [.i v.kind,.b v.ext,.s v.desc,.s v.name,.sl (v.faces.map S1),.sl (v.fields.map TFieldDef.enc),.sl (v.inputs.map TInDef.enc),.sl (v.values.map TEnumDef.enc),.sl (v.roots.map TRoot.enc),.b v.repeat',.sl (v.dirs.map TDir.enc)] else .ret [.b false]:=by
  rw [show (0:Int)=((0:Nat):Int) from rfl,kb (l:=v.faces) (st:=fun i=>[.i (i:Int),.i v.kind,.b v.ext,.s v.desc,.s v.name,.sl (v.faces.map S1),.sl (v.fields.map TFieldDef.enc),.sl (v.inputs.map TInDef.enc),.sl (v.values.map TEnumDef.enc),.sl (v.roots.map TRoot.enc),.b v.repeat',.sl (v.dirs.map TDir.enc)]) (p:=fun x=>!jX x) (stop:=fun i _=>.ret [.b false]) (fin:=.ex 0 [.i v.kind,.b v.ext,.s v.desc,.s v.name,.sl (v.faces.map S1),.sl (v.fields.map TFieldDef.enc),.sl (v.inputs.map TInDef.enc),.sl (v.values.map TEnumDef.enc),.sl (v.roots.map TRoot.enc),.b v.repeat',.sl (v.dirs.map TDir.enc)]) (fun i hi=>?step) (fun _ _=>Out.esc_ret _) ?fin (jG _ _),qU]
  ·rw [show (v.faces.any fun x=>!jX x) = !(v.faces.all jX) by rw [js]]
   cases v.faces.all jX <;> simp
  case step =>
   have hx:=kQ v.faces[i] (h5 _ (je hi))
   have c2:0 ≤ (i:Int) ∧ (i:Int) < (v.faces.length:Int):=by omega
   have d:decide ((i:Int) < (v.faces.length:Int))=true:=decide_eq_true (by omega)
   simp only [VC,jr,jv,zb,zi,zs,zl,j7,zm,jq hi,d,c2,S1,hx,zr,true_and,and_self,if_true,decide_true]
   rcases zt (jX v.faces[i]) with q | q <;> simp [q,jp hi (show v.faces.length ≤ 9223372036854775807 by omega)]
  case fin=>simp [VC]
 have l2:jR VB [.i 0,.i v.kind,.b v.ext,.s v.desc,.s v.name,.sl (v.faces.map S1),.sl (v.fields.map TFieldDef.enc),.sl (v.inputs.map TInDef.enc),.sl (v.values.map TEnumDef.enc),.sl (v.roots.map TRoot.enc),.b v.repeat',.sl (v.dirs.map TDir.enc)]=if v.fields.all y5=true then .ex 2 [.i v.kind,.b v.ext,.s v.desc,.s v.name,.sl (v.faces.map S1),.sl (v.fields.map TFieldDef.enc),.sl (v.inputs.map TInDef.enc),.sl (v.values.map TEnumDef.enc),.sl (v.roots.map TRoot.enc),.b v.repeat',.sl (v.dirs.map TDir.enc)] else .ret [.b false]:=by
  rw [show (0:Int)=((0:Nat):Int) from rfl,kb (l:=v.fields) (st:=fun i=>[.i (i:Int),.i v.kind,.b v.ext,.s v.desc,.s v.name,.sl (v.faces.map S1),.sl (v.fields.map TFieldDef.enc),.sl (v.inputs.map TInDef.enc),.sl (v.values.map TEnumDef.enc),.sl (v.roots.map TRoot.enc),.b v.repeat',.sl (v.dirs.map TDir.enc)]) (p:=fun x=>!y5 x) (stop:=fun i _=>.ret [.b false]) (fin:=.ex 2 [.i v.kind,.b v.ext,.s v.desc,.s v.name,.sl (v.faces.map S1),.sl (v.fields.map TFieldDef.enc),.sl (v.inputs.map TInDef.enc),.sl (v.values.map TEnumDef.enc),.sl (v.roots.map TRoot.enc),.b v.repeat',.sl (v.dirs.map TDir.enc)]) (fun i hi=>?step) (fun _ _=>Out.esc_ret _) ?fin (jG _ _),qU]
  ·rw [show (v.fields.any fun x=>!y5 x) = !(v.fields.all y5) by rw [js]]
   cases v.fields.all y5 <;> simp
  case step =>
   have hx:=jbf v.fields[i] (h1 _ (je hi))
   have c2:0 ≤ (i:Int) ∧ (i:Int) < (v.fields.length:Int):=by omega
   have d:decide ((i:Int) < (v.fields.length:Int))=true:=decide_eq_true (by omega)
   simp only [VB,jr,jv,zb,zi,zs,zl,j7,zm,jq hi,d,c2,TFieldDef.enc_eq,hx,zr,true_and,and_self,if_true,decide_true]
   rcases zt (y5 v.fields[i]) with q | q <;> simp [q,jp hi (show v.fields.length ≤ 9223372036854775807 by omega)]
  case fin=>simp [VB]
 have l3:jR VA [.i 0,.i v.kind,.b v.ext,.s v.desc,.s v.name,.sl (v.faces.map S1),.sl (v.fields.map TFieldDef.enc),.sl (v.inputs.map TInDef.enc),.sl (v.values.map TEnumDef.enc),.sl (v.roots.map TRoot.enc),.b v.repeat',.sl (v.dirs.map TDir.enc)]=if v.values.all XX=true then .ex 4 [.i v.kind,.b v.ext,.s v.desc,.s v.name,.sl (v.faces.map S1),.sl (v.fields.map TFieldDef.enc),.sl (v.inputs.map TInDef.enc),.sl (v.values.map TEnumDef.enc),.sl (v.roots.map TRoot.enc),.b v.repeat',.sl (v.dirs.map TDir.enc)] else .ret [.b false]:=by
  rw [show (0:Int)=((0:Nat):Int) from rfl,kb (l:=v.values) (st:=fun i=>[.i (i:Int),.i v.kind,.b v.ext,.s v.desc,.s v.name,.sl (v.faces.map S1),.sl (v.fields.map TFieldDef.enc),.sl (v.inputs.map TInDef.enc),.sl (v.values.map TEnumDef.enc),.sl (v.roots.map TRoot.enc),.b v.repeat',.sl (v.dirs.map TDir.enc)]) (p:=fun x=>!XX x) (stop:=fun i _=>.ret [.b false]) (fin:=.ex 4 [.i v.kind,.b v.ext,.s v.desc,.s v.name,.sl (v.faces.map S1),.sl (v.fields.map TFieldDef.enc),.sl (v.inputs.map TInDef.enc),.sl (v.values.map TEnumDef.enc),.sl (v.roots.map TRoot.enc),.b v.repeat',.sl (v.dirs.map TDir.enc)]) (fun i hi=>?step) (fun _ _=>Out.esc_ret _) ?fin (jG _ _),qU]
  ·rw [show (v.values.any fun x=>!XX x) = !(v.values.all XX) by rw [js]]
   cases v.values.all XX <;> simp
  case step =>
   have hw3:=h3 _ (je hi)
   rw [j5W] at hw3
   have x1:=kQ v.values[i].name (by omega)
   have x2:=Yf v.values[i].desc (by omega)
   have x3:=Ka v.values[i].dirs (by omega)
   have c2:0 ≤ (i:Int) ∧ (i:Int) < (v.values.length:Int):=by omega
   have d:decide ((i:Int) < (v.values.length:Int))=true:=decide_eq_true (by omega)
   simp only [VA,jr,jv,zb,zi,zs,zl,j7,zm,jq hi,d,c2,TEnumDef.enc_eq,x1,jcd,x2,x3,zr,true_and,and_self,if_true,decide_true]
   unfold XX
   rcases zt (jX v.values[i].name) with a1 | a1 <;> rcases zt (jfl v.values[i].name) with a2 | a2 <;> rcases zt (Q3 v.values[i].desc) with a3 | a3 <;> rcases zt (pi v.values[i].dirs) with a4 | a4 <;> simp [a1,a2,a3,a4,jp hi (show v.values.length ≤ 9223372036854775807 by omega)]
  case fin=>simp [VA]
 have l4:jR Vz [.i 0,.i v.kind,.b v.ext,.s v.desc,.s v.name,.sl (v.faces.map S1),.sl (v.fields.map TFieldDef.enc),.sl (v.inputs.map TInDef.enc),.sl (v.values.map TEnumDef.enc),.sl (v.roots.map TRoot.enc),.b v.repeat',.sl (v.dirs.map TDir.enc)]=if v.roots.all YK=true then .ex 6 [] else .ret [.b false]:=by
  rw [show (0:Int)=((0:Nat):Int) from rfl,kb (l:=v.roots) (st:=fun i=>[.i (i:Int),.i v.kind,.b v.ext,.s v.desc,.s v.name,.sl (v.faces.map S1),.sl (v.fields.map TFieldDef.enc),.sl (v.inputs.map TInDef.enc),.sl (v.values.map TEnumDef.enc),.sl (v.roots.map TRoot.enc),.b v.repeat',.sl (v.dirs.map TDir.enc)]) (p:=fun x=>!YK x) (stop:=fun i _=>.ret [.b false]) (fin:=.ex 6 []) (fun i hi=>?step) (fun _ _=>Out.esc_ret _) ?fin (jG _ _),qU]
  ·rw [show (v.roots.any fun x=>!YK x) = !(v.roots.all YK) by rw [js]]
   cases v.roots.all YK <;> simp
  case step =>
   have hw3:=h4 _ (je hi)
   rw [jdc] at hw3
   have x1:=kQ v.roots[i].type' (by omega)
   have c2:0 ≤ (i:Int) ∧ (i:Int) < (v.roots.length:Int):=by omega
   have d:decide ((i:Int) < (v.roots.length:Int))=true:=decide_eq_true (by omega)
   simp only [Vz,jr,jv,zb,zi,zs,zl,j7,zm,jq hi,d,c2,TRoot.enc_eq,Zo,j4Y,x1,zr,true_and,and_self,if_true,decide_true]
   unfold YK jiz
   rcases zt (v.roots[i].kind == 1 || (v.roots[i].kind == 2 || v.roots[i].kind == 3)) with a1 | a1 <;> rcases zt (jX v.roots[i].type') with a2 | a2 <;> simp only [a1,a2] <;> simp [jp hi (show v.roots.length ≤ 9223372036854775807 by omega)]
  case fin=>simp [Vz]
 have hN:=kQ v.name (by omega)
 have hI:=j7E v.inputs (by omega)
 have hC:=Ka v.dirs (by omega)
 have hd:=Yf v.desc (by omega)
 rw [jbB]
 unfold j0A
 rcases (zt (decide (1 ≤ v.kind) && decide (v.kind ≤ 8))).symm with h_0 | h_0
 ·simp only [VD,jr,jv,zb,zi,zs,zl,j8,jd,jc,j9,pg,pp,bne,eq_self,if_true,if_false,zf,jh,jn,jS,jC,jT,jP,Bool.or_true,Bool.true_or,Bool.or_false,jW,Bool.or_self,Bool.and_self,zr,YJ,h_0]
 have hK:1 ≤ v.kind ∧ v.kind ≤ 8:=by
  rw [← Bool.decide_and] at h_0
  exact of_decide_eq_true h_0
 rw [← jeF v.kind v.ext (v.name == []) v.repeat' (ne v.faces) (ne v.fields) (ne v.inputs) (ne v.values) (ne v.roots) (ne v.dirs) (Vo v.faces) (jX v.name) hK]
 clear hK
 unfold j1i
 generalize jji v.kind v.ext (v.name == []) v.repeat' (ne v.faces) (ne v.fields) (ne v.inputs) (ne v.values) (ne v.roots) (ne v.dirs) (Vo v.faces)=m at *
 rcases (zt (Q3 v.desc)).symm with h_1 | h_1
 rotate_left
 rcases zt v.ext with h_ext | h_ext <;> simp only [h_ext] at e2 e3 l1 l2 l3 l4
 ·rcases (zt (v.desc == ([]:List UInt8))).symm with h_2 | h_2
  rotate_left
  rcases (zt (j9u v)).symm with h_3 | h_3
  rotate_left
  rcases (zt (m)).symm with h_m | h_m
  rotate_left
  rcases (zt (XC v.inputs)).symm with h_i | h_i
  rotate_left
  rcases (zt (pi v.dirs)).symm with h_c | h_c
  rotate_left
  rcases zt (v.kind == 8) with c8 | c8 <;> rcases zt (jX v.name) with h_n | h_n <;> rcases zt (v.faces.all jX) with z1 | z1 <;> rcases zt (v.fields.all y5) with z2 | z2 <;> rcases zt (v.values.all XX) with z3 | z3 <;> rcases zt (v.roots.all YK) with z4 | z4
  all_goals simp only [VD,jr,jv,zb,zi,zs,zl,j8,jd,jc,j9,pg,pp,bne,eq_self,if_true,if_false,zf,jh,jn,jS,jC,jT,jP,Bool.or_true,Bool.true_or,Bool.or_false,jW,Bool.or_self,Bool.and_self,zr,YJ,ite_self, *]
 ·rcases (zt (m)).symm with h_m | h_m
  rotate_left
  rcases (zt (XC v.inputs)).symm with h_i | h_i
  rotate_left
  rcases (zt (pi v.dirs)).symm with h_c | h_c
  rotate_left
  rcases zt (v.kind == 8) with c8 | c8 <;> rcases zt (jX v.name) with h_n | h_n <;> rcases zt (v.faces.all jX) with z1 | z1 <;> rcases zt (v.fields.all y5) with z2 | z2 <;> rcases zt (v.values.all XX) with z3 | z3 <;> rcases zt (v.roots.all YK) with z4 | z4
  all_goals simp only [VD,jr,jv,zb,zi,zs,zl,j8,jd,jc,j9,pg,pp,bne,eq_self,if_true,if_false,zf,jh,jn,jS,jC,jT,jP,Bool.or_true,Bool.true_or,Bool.or_false,jW,Bool.or_self,Bool.and_self,zr,YJ,ite_self, *]
 all_goals simp only [VD,jr,jv,zb,zi,zs,zl,j8,jd,jc,j9,pg,pp,bne,eq_self,if_true,if_false,zf,jh,jn,jS,jC,jT,jP,Bool.or_true,Bool.true_or,Bool.or_false,jW,Bool.or_self,Bool.and_self,zr,YJ,ite_self, *]
theorem JT {o:Out} {K:List DC → Out} {x:List DC} {r:Out} (h:o = .norm x) (k:K x=r):jb o K=r:=by rw [h]; exact k
theorem Yx {o:Out} {n:Nat} {K:List DC → Out} {x:List DC} {r:Out} (h:o = .ex n x) (k:K x=r):ja o n K=r:=by
 rw [h]
 simpa [ja] using k
theorem jh0 {o:Out} {n:Nat} {K:List DC → Out} {x:List DC} {r:Out} (h:o = .norm x) (k:K x=r):ja o n K=r:=by
 rw [h,j9]
 exact k
theorem j3g {o:Out} {K:List DC → Out} {x:List DC} {r:Out} (h:o = .ret x) (k:K x=r):o.bindR K=r:=by rw [h]; exact k
def jdX (k:Int):List UInt8:=if k=1 then [113,117,101,114,121] else if k=2 then [109,117,116,97,116,105,111,110] else if k=3 then [115,117,98,115,99,114,105,112,116,105,111,110] else []
theorem j6y (k:Int):(jdX k).length ≤ 12:=by
 unfold jdX
 split
 ·simp
 split
 ·simp
 split <;> simp
def kwT (k:Int):List UInt8:=if k=1 then [115,99,97,108,97,114] else if k=2 then [116,121,112,101] else if k=3 then [105,110,116,101,114,102,97,99,101] else if k=4 then [117,110,105,111,110] else if k=5 then [101,110,117,109] else if k=6 then [105,110,112,117,116] else if k=7 then [100,105,114,101,99,116,105,118,101] else if k=8 then [115,99,104,101,109,97] else []
theorem jdn (k:Int):(kwT k).length ≤ 12:=by
 unfold kwT
 repeat' split
 all_goals simp
def j83 (s:List UInt8):List UInt8:=if s=[] then [] else qJ s ++ [10]
def VP (v:TEnumDef):List UInt8:=j82 v.desc ++ ([32,32] ++ (v.name ++ (XE v.dirs ++ [10])))
def V1 (v:TRoot):List UInt8:=[32,32] ++ (jdX v.kind ++ ([58,32] ++ (v.type' ++ [10])))
def j0c (v:TInDef):List UInt8:=[32,32] ++ (inT v ++ [10])
def j6J (v:TDef):List UInt8:=jt [] [] Kq v.fields
def j1m (v:TDef):List UInt8:=j6J v ++ jt [] [] VP v.values
def YY (v:TDef):List UInt8:=j1m v ++ jt [] [] V1 v.roots
def yb (v:TDef):List UInt8:=YY v ++ (if v.kind=6 then jt [] [] j0c v.inputs else [])
def j0f (v:TDef):List UInt8 :=
 if v.kind=8 then [] else if v.kind=7 then [32,64] ++ (v.name ++ (j8l v.inputs ++ ((if v.repeat'=true then [32,114,101,112,101,97,116,97,98,108,101] else []) ++ ([32,111,110,32] ++ Lib.join v.faces [32,124,32])))) else 32 :: v.name
def j9W (v:TDef):List UInt8:=if (v.kind=2 ∨ v.kind=3) ∧ v.faces ≠ [] then [32,105,109,112,108,101,109,101,110,116,115,32] ++ Lib.join v.faces [32,38,32] else []
def j9c (v:TDef):List UInt8:=if v.kind=4 ∧ v.faces ≠ [] then [32,61,32] ++ Lib.join v.faces [32,124,32] else []
def d1 (v:TDef):List UInt8:=j83 v.desc
def d2 (v:TDef):List UInt8:=d1 v ++ (if v.ext=true then [101,120,116,101,110,100,32] else [])
def d3 (v:TDef):List UInt8:=d2 v ++ kwT v.kind
def d4 (v:TDef):List UInt8:=d3 v ++ j0f v
def d5 (v:TDef):List UInt8:=d4 v ++ j9W v
def d6 (v:TDef):List UInt8:=d5 v ++ XE v.dirs
def d7 (v:TDef):List UInt8:=d6 v ++ j9c v
def d8 (v:TDef):List UInt8:=d7 v ++ (if yb v=[] then [] else [32,123,10] ++ (yb v ++ [125]))
def jo8 (v:TDef):List UInt8:=d8 v ++ [10]
noncomputable def j5X (v:TDef):List UInt8:=if j0A v=true then jo8 v else []
theorem jho (ws sep:List (List UInt8)) (s:List UInt8) (hs:s.length=3):(Lib.join ws s).length ≤ (ws.map List.length).sum + 3 * ws.length:=by
 cases ws with
 | nil=>simp [Lib.join]
 | cons x l =>
  rw [Lib.join_cons,Lib.joinTail]
  have:((l.map (s ++ ·)).flatten).length=(l.map List.length).sum + 3 * l.length:=by
   induction l with
   | nil=>rfl
   | cons a l ih=>simp only [jL,List.flatten_cons,j3,List.sum_cons,j4,ih,hs]; omega
  simp only [j3,jL,List.sum_cons,j4,this]
  omega
theorem jht (ws:List (List UInt8)) (s:List UInt8) (hs:s.length=3):(Lib.join ws s).length ≤ 3 * DC.wt (.sl (ws.map S1)):=by
 have h:=jho ws [] s hs
 rw [DC.wt,jfh,zm]
 omega
theorem jhw (s:List UInt8):(j83 s).length ≤ 6 * s.length + 3:=by
 have:=Jc s
 unfold j83
 split
 ·simp
 ·simp only [j3,j4,j6]; omega
theorem j7m (v:TEnumDef):(VP v).length ≤ 40 * jQ v.enc + 40:=by
 have h1:=j0B v.desc
 have h4:=yf v.dirs
 rw [j5W]
 unfold VP
 simp only [j3,j4,j6]
 omega
theorem j6C (v:TRoot):(V1 v).length ≤ 40 * jQ v.enc + 40:=by
 have h1:=j6y v.kind
 rw [jdc]
 unfold V1
 simp only [j3,j4,j6]
 omega
theorem j9N (v:TInDef) (h:j1o v=true):(j0c v).length ≤ 40 * jQ v.enc + 40:=by
 have h1:=jg6 v h
 unfold j0c
 simp only [j3,j4,j6]
 omega
theorem z8 {v:TDef} (h:j0A v=true):(1 ≤ v.kind ∧ v.kind ≤ 8) ∧ (∀ x ∈ v.fields,y5 x=true) ∧ XC v.inputs=true ∧ (∀ x ∈ v.values,pP x.dirs=true) ∧ pP v.dirs=true:=by
 simp only [j0A,j1i,jj,decide_eq_true_eq] at h
 obtain ⟨h1,h2,h3,⟨h4,h5,h6,h7,h8,h9⟩,h10⟩:=h
 refine ⟨h1,fun x hx=>List.all_eq_true.1 h4 x hx,h5,fun x hx=>?_,?_⟩
 ·have:=List.all_eq_true.1 h6 x hx
  simp only [XX,pi,jj] at this
  exact this.2.2.2.1
 ·simp only [pi,jj] at h9
  exact h9.1
theorem j6I {v:TDef} (h:j0A v=true):(yb v).length ≤ 40 * jQ v.enc:=by
 obtain ⟨g0,g1,g2,g3,g4⟩:=z8 h
 have h1:=yD (enc:=TFieldDef.enc) (f:=Kq) (a:=40) v.fields fun x hx=>j4C x (g1 x hx)
 have h2:=yD (enc:=TEnumDef.enc) (f:=VP) (a:=40) v.values fun x _=>j7m x
 have h3:=yD (enc:=TRoot.enc) (f:=V1) (a:=40) v.roots fun x _=>j6C x
 have h4:=yD (enc:=TInDef.enc) (f:=j0c) (a:=40) v.inputs fun x hx=>j9N x (XB g2 x hx)
 rw [Q4]
 unfold yb YY j1m j6J
 simp only [j3]
 split
 ·omega
 ·simp only [j6]; omega
theorem jiS {v:TDef} (h:j0A v=true):(d1 v).length ≤ 6 * jQ v.enc + 3 ∧ (d2 v).length ≤ 6 * jQ v.enc + 10 ∧ (d3 v).length ≤ 6 * jQ v.enc + 22 ∧ (j0f v).length ≤ 50 * jQ v.enc + 60 ∧ (d4 v).length ≤ 60 * jQ v.enc + 100 ∧ (j9W v).length ≤ 3 * jQ v.enc + 20 ∧ (j9c v).length ≤ 3 * jQ v.enc + 20 ∧
  (XE v.dirs).length ≤ 8 * jQ v.enc ∧ (j8l v.inputs).length ≤ 40 * jQ v.enc ∧ (∀ s:List UInt8,s.length=3 → (Lib.join v.faces s).length ≤ 3 * jQ v.enc) ∧ v.name.length ≤ jQ v.enc:=by
 obtain ⟨g0,g1,g2,g3,g4⟩:=z8 h
 have l0:=jhw v.desc
 have l1:=jdn v.kind
 have l2:=j5n v.inputs g2
 have l3:=yf v.dirs
 have l4:=fun s hs=>jht v.faces s hs
 have l5:=l4 [32,124,32] rfl
 have l6:=l4 [32,38,32] rfl
 have hw:=Q4 v
 have e1:(d1 v).length ≤ 6 * jQ v.enc + 3:=by unfold d1; omega
 have e2:(d2 v).length ≤ 6 * jQ v.enc + 10:=by
  unfold d2 d1
  rw [j3]
  split <;> simp only [j4,j6] <;> omega
 have e3:(d3 v).length ≤ 6 * jQ v.enc + 22:=by
  unfold d3
  rw [j3]
  omega
 have e4:(j0f v).length ≤ 50 * jQ v.enc + 60:=by
  unfold j0f
  split
  ·simp
  split
  ·simp only [j3,j4,j6]
   split <;> simp only [j4,j6] <;> omega
  ·simp only [j4]; omega
 refine ⟨e1,e2,e3,e4,?_,?_,?_,by omega,by omega,fun s hs=>by have:=l4 s hs; omega,by omega⟩
 ·unfold d4
  rw [j3]
  omega
 ·unfold j9W
  split
  ·simp only [j3,j4,j6]; omega
  ·simp
 ·unfold j9c
  split
  ·simp only [j3,j4,j6]; omega
  ·simp
theorem jfj (k:Int):zB [.i k] = .ret [.s (jdX k)]:=Zo k
theorem jfk (k:Int):zD [.i k] = .ret [.s (jdX k)]:=Zw k
theorem jhe (k:Int) (h:1 ≤ k ∧ k ≤ 8):YM [.i k] = .ret [.s (kwT k)]:=by
 rw [j8o]
 have:k=1 ∨ k=2 ∨ k=3 ∨ k=4 ∨ k=5 ∨ k=6 ∨ k=7 ∨ k=8:=by omega
 rcases this with rfl | rfl | rfl | rfl | rfl | rfl | rfl | rfl <;> rfl
theorem jfF (l:List (List UInt8)) (sep out:List UInt8) (hl:l.length ≤ 1048576) (ho:out.length + (Lib.join l sep).length < 1073741824) :
  Jt [.sl (jx out),.sl (l.map S1),.s sep] = .ret [.sl (jx (out ++ Lib.join l sep))]:=by
 have hj:jt [] sep id l=Lib.join l sep:=by rw [j90,List.map_id]
 rw [← hj] at ho ⊢
 have hlp:=yH (o:=[]) (sep:=sep) (f:=id) (l:=l) (st:=fun i cur=>[.sl (jx cur),.sl (l.map S1),.s sep,.i (i:Int)]) (F:=zp) (res:=.ex 0 [.sl (jx (out ++ jt [] sep id l))]) out
  (fun i hi cur hc=>?step) ?fin (jG _ _)
 case fin=>simp [zp]
 case step =>
  have c2:0 ≤ (i:Int) ∧ (i:Int) < (l.length:Int):=by omega
  have d:decide ((i:Int) < (l.length:Int))=true:=decide_eq_true (by omega)
  have wi:=jp hi (show l.length ≤ 9223372036854775807 by omega)
  by_cases h0:i=0
  ·have c0:decide ((i:Int) > 0)=false:=decide_eq_false (by omega)
   rw [if_pos h0] at hc ⊢
   simp only [j3,j4,j6,id] at hc
   simp (disch:=first | omega | (simp only [j3,j4,j6,jf,jF] <;> omega) | fail) only [jr,jv,zb,zi,zs,zl,jl,jm,jf,j3,j4,j6,jF,if_true,if_false,zf,zr,j8,jd,j9,jc,if_pos,j7,zm,true_and,and_self,decide_true,bs,zp,jq hi,S1,d,c2,c0,wi]
   all_goals simp
  ·have c0:decide ((i:Int) > 0)=true:=decide_eq_true (by omega)
   rw [if_neg h0] at hc ⊢
   simp only [j3,j4,j6,id] at hc
   simp (disch:=first | omega | (simp only [j3,j4,j6,jf,jF] <;> omega) | fail) only [jr,jv,zb,zi,zs,zl,jl,jm,jf,j3,j4,j6,jF,if_true,if_false,zf,zr,j8,jd,j9,jc,if_pos,j7,zm,true_and,and_self,decide_true,bs,zp,jq hi,S1,d,c2,c0,wi]
   all_goals simp
 rw [jI] at hlp
 rw [j6O]
 simp only [j1A,jr,jv,zb,zi,zs,zl]
 exact Yx hlp rfl
theorem jie (v:TDef) (hw:jQ v.enc ≤ 1048576) (hg:j0A v=true) (out ls:List UInt8) (hl:ls.length ≤ 200000000) :
  jR J7 [.sl (jx out),.sl (jx ls),.i 0,.i v.kind,.b v.ext,.s v.desc,.s v.name,.sl (v.faces.map S1),.sl (v.fields.map TFieldDef.enc),.sl (v.inputs.map TInDef.enc),.sl (v.values.map TEnumDef.enc),.sl (v.roots.map TRoot.enc),.b v.repeat',.sl (v.dirs.map TDir.enc)] = .ex 1 [.sl (jx out),.sl (jx (ls ++ jt [] [] Kq v.fields)),.i v.kind,.b v.ext,.s v.desc,.s v.name,.sl (v.faces.map S1),.sl (v.fields.map TFieldDef.enc),.sl (v.inputs.map TInDef.enc),.sl (v.values.map TEnumDef.enc),.sl (v.roots.map TRoot.enc),.b v.repeat',.sl (v.dirs.map TDir.enc)]:=by
 obtain ⟨g0,g1,g2,g3,g4⟩:=z8 hg
 have hwd:=Q4 v
 obtain ⟨hfl,hfx⟩:=kH (l:=v.fields) (enc:=TFieldDef.enc) (n:=1048576) (by omega)
 have hb:=yD (enc:=TFieldDef.enc) (f:=Kq) (a:=40) v.fields fun x hx=>j4C x (g1 x hx)
 have hlp:=yH (o:=[]) (sep:=[]) (f:=Kq) (l:=v.fields) (st:=fun i cur=>[.sl (jx out),.sl (jx cur),.i (i:Int),.i v.kind,.b v.ext,.s v.desc,.s v.name,.sl (v.faces.map S1),.sl (v.fields.map TFieldDef.enc),.sl (v.inputs.map TInDef.enc),.sl (v.values.map TEnumDef.enc),.sl (v.roots.map TRoot.enc),.b v.repeat',.sl (v.dirs.map TDir.enc)]) (F:=J7) (res:=.ex 1 [.sl (jx out),.sl (jx (ls ++ jt [] [] Kq v.fields)),.i v.kind,.b v.ext,.s v.desc,.s v.name,.sl (v.faces.map S1),.sl (v.fields.map TFieldDef.enc),.sl (v.inputs.map TInDef.enc),.sl (v.values.map TEnumDef.enc),.sl (v.roots.map TRoot.enc),.b v.repeat',.sl (v.dirs.map TDir.enc)]) ls
  (fun i hi cur hc=>?step) ?fin (jG _ _)
 case fin=>simp [J7]
 case step =>
  have hm:=je hi
  have hwx:=hfx _ hm
  have c2:0 ≤ (i:Int) ∧ (i:Int) < (v.fields.length:Int):=by omega
  have d:decide ((i:Int) < (v.fields.length:Int))=true:=decide_eq_true (by omega)
  have wi:=jp hi (show v.fields.length ≤ 9223372036854775807 by omega)
  simp only [ite_self,jy] at hc ⊢
  have hv:=j6A v.fields[i] hwx (g1 _ hm) cur (by omega)
  simp (disch:=first | omega | (simp only [j3,j4,j6,jf,jF] <;> omega) | fail) only [jr,jv,zb,zi,zs,zl,jl,jm,jf,j3,j4,j6,jF,if_true,if_false,zf,zr,j8,jd,j9,jc,if_pos,j7,zm,true_and,and_self,decide_true,bs,J7,jq hi,TFieldDef.enc_eq,d,c2,hv,wi]
 rw [jI] at hlp
 exact hlp
theorem jid (v:TDef) (hw:jQ v.enc ≤ 1048576) (hg:j0A v=true) (out ls:List UInt8) (hl:ls.length ≤ 200000000) :
  jR J6 [.sl (jx out),.sl (jx ls),.i 0,.i v.kind,.b v.ext,.s v.desc,.s v.name,.sl (v.faces.map S1),.sl (v.fields.map TFieldDef.enc),.sl (v.inputs.map TInDef.enc),.sl (v.values.map TEnumDef.enc),.sl (v.roots.map TRoot.enc),.b v.repeat',.sl (v.dirs.map TDir.enc)] = .ex 3 [.sl (jx out),.sl (jx (ls ++ jt [] [] VP v.values)),.i v.kind,.b v.ext,.s v.desc,.s v.name,.sl (v.faces.map S1),.sl (v.fields.map TFieldDef.enc),.sl (v.inputs.map TInDef.enc),.sl (v.values.map TEnumDef.enc),.sl (v.roots.map TRoot.enc),.b v.repeat',.sl (v.dirs.map TDir.enc)]:=by
 obtain ⟨g0,g1,g2,g3,g4⟩:=z8 hg
 have hwd:=Q4 v
 obtain ⟨hfl,hfx⟩:=kH (l:=v.values) (enc:=TEnumDef.enc) (n:=1048576) (by omega)
 have hb:=yD (enc:=TEnumDef.enc) (f:=VP) (a:=40) v.values fun x _=>j7m x
 have hlp:=yH (o:=[]) (sep:=[]) (f:=VP) (l:=v.values) (st:=fun i cur=>[.sl (jx out),.sl (jx cur),.i (i:Int),.i v.kind,.b v.ext,.s v.desc,.s v.name,.sl (v.faces.map S1),.sl (v.fields.map TFieldDef.enc),.sl (v.inputs.map TInDef.enc),.sl (v.values.map TEnumDef.enc),.sl (v.roots.map TRoot.enc),.b v.repeat',.sl (v.dirs.map TDir.enc)]) (F:=J6) (res:=.ex 3 [.sl (jx out),.sl (jx (ls ++ jt [] [] VP v.values)),.i v.kind,.b v.ext,.s v.desc,.s v.name,.sl (v.faces.map S1),.sl (v.fields.map TFieldDef.enc),.sl (v.inputs.map TInDef.enc),.sl (v.values.map TEnumDef.enc),.sl (v.roots.map TRoot.enc),.b v.repeat',.sl (v.dirs.map TDir.enc)]) ls
  (fun i hi cur hc=>?step) ?fin (jG _ _)
 case fin=>simp [J6]
 case step =>
  have hm:=je hi
  have hwx:=hfx _ hm
  have c2:0 ≤ (i:Int) ∧ (i:Int) < (v.values.length:Int):=by omega
  have d:decide ((i:Int) < (v.values.length:Int))=true:=decide_eq_true (by omega)
  have wi:=jp hi (show v.values.length ≤ 9223372036854775807 by omega)
  simp only [ite_self,jy] at hc ⊢
  have hwx2:=hwx
  rw [j5W] at hwx2
  have l1:=j0B v.values[i].desc
  have l2:=yf v.values[i].dirs
  have hv:=j1v v.values[i].desc (by omega) cur (by omega)
  have hd:=qB v.values[i].dirs (by omega) (g3 _ hm)
  rw [VP] at hc
  simp only [j3,j4,j6] at hc
  simp (disch:=first | omega | (simp only [j3,j4,j6,jf,jF] <;> omega) | fail) only [jr,jv,zb,zi,zs,zl,jl,jm,jf,j3,j4,j6,jF,if_true,if_false,zf,zr,j8,jd,j9,jc,if_pos,j7,zm,true_and,and_self,decide_true,bs,J6,jq hi,TEnumDef.enc_eq,d,c2,hv,hd,wi]
  simp [VP]
 rw [jI] at hlp
 exact hlp
theorem jic (v:TDef) (hw:jQ v.enc ≤ 1048576) (hg:j0A v=true) (out ls:List UInt8) (hl:ls.length ≤ 200000000) :
  jR J5 [.sl (jx out),.sl (jx ls),.i 0,.i v.kind,.b v.ext,.s v.desc,.s v.name,.sl (v.faces.map S1),.sl (v.fields.map TFieldDef.enc),.sl (v.inputs.map TInDef.enc),.sl (v.values.map TEnumDef.enc),.sl (v.roots.map TRoot.enc),.b v.repeat',.sl (v.dirs.map TDir.enc)] = .ex 5 [.sl (jx out),.sl (jx (ls ++ jt [] [] V1 v.roots)),.i v.kind,.b v.ext,.s v.desc,.s v.name,.sl (v.faces.map S1),.sl (v.fields.map TFieldDef.enc),.sl (v.inputs.map TInDef.enc),.sl (v.values.map TEnumDef.enc),.sl (v.roots.map TRoot.enc),.b v.repeat',.sl (v.dirs.map TDir.enc)]:=by
 obtain ⟨g0,g1,g2,g3,g4⟩:=z8 hg
 have hwd:=Q4 v
 obtain ⟨hfl,hfx⟩:=kH (l:=v.roots) (enc:=TRoot.enc) (n:=1048576) (by omega)
 have hb:=yD (enc:=TRoot.enc) (f:=V1) (a:=40) v.roots fun x _=>j6C x
 have hlp:=yH (o:=[]) (sep:=[]) (f:=V1) (l:=v.roots) (st:=fun i cur=>[.sl (jx out),.sl (jx cur),.i (i:Int),.i v.kind,.b v.ext,.s v.desc,.s v.name,.sl (v.faces.map S1),.sl (v.fields.map TFieldDef.enc),.sl (v.inputs.map TInDef.enc),.sl (v.values.map TEnumDef.enc),.sl (v.roots.map TRoot.enc),.b v.repeat',.sl (v.dirs.map TDir.enc)]) (F:=J5) (res:=.ex 5 [.sl (jx out),.sl (jx (ls ++ jt [] [] V1 v.roots)),.i v.kind,.b v.ext,.s v.desc,.s v.name,.sl (v.faces.map S1),.sl (v.fields.map TFieldDef.enc),.sl (v.inputs.map TInDef.enc),.sl (v.values.map TEnumDef.enc),.sl (v.roots.map TRoot.enc),.b v.repeat',.sl (v.dirs.map TDir.enc)]) ls
  (fun i hi cur hc=>?step) ?fin (jG _ _)
 case fin=>simp [J5]
 case step =>
  have hm:=je hi
  have hwx:=hfx _ hm
  have c2:0 ≤ (i:Int) ∧ (i:Int) < (v.roots.length:Int):=by omega
  have d:decide ((i:Int) < (v.roots.length:Int))=true:=decide_eq_true (by omega)
  have wi:=jp hi (show v.roots.length ≤ 9223372036854775807 by omega)
  simp only [ite_self,jy] at hc ⊢
  have l1:=j6y v.roots[i].kind
  have hv:=jfj v.roots[i].kind
  rw [V1] at hc
  simp only [j3,j4,j6] at hc
  simp (disch:=first | omega | (simp only [j3,j4,j6,jf,jF] <;> omega) | fail) only [jr,jv,zb,zi,zs,zl,jl,jm,jf,j3,j4,j6,jF,if_true,if_false,zf,zr,j8,jd,j9,jc,if_pos,j7,zm,true_and,and_self,decide_true,bs,J5,jq hi,TRoot.enc_eq,d,c2,hv,wi]
  simp [V1]
 rw [jI] at hlp
 exact hlp
theorem jib (v:TDef) (hw:jQ v.enc ≤ 1048576) (hg:j0A v=true) (out ls:List UInt8) (hl:ls.length ≤ 200000000) :
  jR qO [.sl (jx out),.sl (jx ls),.i 0,.i v.kind,.b v.ext,.s v.desc,.s v.name,.sl (v.faces.map S1),.sl (v.fields.map TFieldDef.enc),.sl (v.inputs.map TInDef.enc),.sl (v.values.map TEnumDef.enc),.sl (v.roots.map TRoot.enc),.b v.repeat',.sl (v.dirs.map TDir.enc)] = .ex 7 [.sl (jx out),.sl (jx (ls ++ (if v.kind=6 then jt [] [] j0c v.inputs else [])))]:=by
 obtain ⟨g0,g1,g2,g3,g4⟩:=z8 hg
 have hwd:=Q4 v
 obtain ⟨hfl,hfx⟩:=kH (l:=v.inputs) (enc:=TInDef.enc) (n:=1048576) (by omega)
 by_cases k6:v.kind=6
 ·have c6:(v.kind == 6)=true:=beq_iff_eq.2 k6
  rw [if_pos k6]
  have hb:=yD (enc:=TInDef.enc) (f:=j0c) (a:=40) v.inputs fun x hx=>j9N x (XB g2 x hx)
  have hlp:=yH (o:=[]) (sep:=[]) (f:=j0c) (l:=v.inputs) (st:=fun i cur=>[.sl (jx out),.sl (jx cur),.i (i:Int),.i v.kind,.b v.ext,.s v.desc,.s v.name,.sl (v.faces.map S1),.sl (v.fields.map TFieldDef.enc),.sl (v.inputs.map TInDef.enc),.sl (v.values.map TEnumDef.enc),.sl (v.roots.map TRoot.enc),.b v.repeat',.sl (v.dirs.map TDir.enc)]) (F:=qO) (res:=.ex 7 [.sl (jx out),.sl (jx (ls ++ jt [] [] j0c v.inputs))]) ls
   (fun i hi cur hc=>?step) ?fin (jG _ _)
  case fin=>simp [qO]
  case step =>
   have hm:=je hi
   have hwx:=hfx _ hm
   have c2:0 ≤ (i:Int) ∧ (i:Int) < (v.inputs.length:Int):=by omega
   have d:decide ((i:Int) < (v.inputs.length:Int))=true:=decide_eq_true (by omega)
   have wi:=jp hi (show v.inputs.length ≤ 9223372036854775807 by omega)
   have hv:=j3w v.inputs[i] hwx (XB g2 _ hm)
   simp only [ite_self,jy] at hc ⊢
   rw [j0c] at hc
   simp only [j3,j4,j6] at hc
   simp (disch:=first | omega | (simp only [j3,j4,j6,jf,jF] <;> omega) | fail) only [jr,jv,zb,zi,zs,zl,jl,jm,jf,j3,j4,j6,jF,if_true,if_false,zf,zr,j8,jd,j9,jc,if_pos,j7,zm,true_and,and_self,decide_true,bs,qO,jq hi,TInDef.enc_eq,d,c2,c6,hv,wi]
   simp [j0c]
  rw [jI] at hlp
  exact hlp
 ·have c6:(v.kind == 6)=false:=beq_eq_false_iff_ne.2 k6
  rw [if_neg k6,jV]
  refine Z4 ?_ (jG _ _)
  by_cases hd:(0:Int) < (v.inputs.length:Int)
  ·simp [qO,c6,hd]
  ·simp [qO,c6,hd]
theorem jdk {α:Type} {l:List α} (h:ne l=true):l ≠ []:=by
 rintro rfl
 exact absurd h (by simp [ne])
theorem jdj {α:Type} {l:List α} (h:ne l=false):l=[]:=by
 cases l with
 | nil=>rfl
 | cons a l=>exact absurd h (by simp [ne])
theorem jj7 (v:TDef):decide (((jx (yb v)).length:Int) > 0) = !(yb v == []):=by
 rw [jf]
 cases yb v with
 | nil=>rfl
 | cons a l=>simp
set_option maxHeartbeats 8000000 in
theorem jd4 (v:TDef) (hw:jQ v.enc ≤ 1048576):YP [.i v.kind,.b v.ext,.s v.desc,.s v.name,.sl (v.faces.map S1),.sl (v.fields.map TFieldDef.enc),.sl (v.inputs.map TInDef.enc),.sl (v.values.map TEnumDef.enc),.sl (v.roots.map TRoot.enc),.b v.repeat',.sl (v.dirs.map TDir.enc)] = .ret [.s (j5X v)]:=by
  have hk:=jfK v hw
  rw [j8v]
  unfold j5X
  cases hg:j0A v with
  | false=>rw [hg] at hk; simp only [Z9,jr,jv,zb,zi,zs,zl,hk,zr,jn,if_true,zf,if_false]
  | true =>
    rw [hg] at hk
    obtain ⟨g0,g1,g2,g3,g4⟩:=z8 hg
    obtain ⟨m1,m2,m3,mh,m4,mf,mu,md,mi,mj,mn⟩:=jiS hg
    have ml:=j6I hg
    have hwd:=Q4 v
    have hEs:=Ku v.desc (by omega)
    have hEl:=Jc v.desc
    have hW:=jhe v.kind g0
    have hI:=j2d v.inputs (by omega) g2
    have hD:=qB v.dirs (by omega) g4
    have hfa:v.faces.length ≤ 1048576:=(XF v hw).1
    have hN:=fun sep out=>jfF v.faces sep out hfa
    have mj1:=mj [32,124,32] rfl
    have mj2:=mj [32,38,32] rfl
    have lk:=jdn v.kind
    simp only [Z9,jr,jv,zb,zi,zs,zl,hk,zr,jh,zf,if_false,if_true]
    refine JT (x:=[.sl (jx (d1 v)),.i v.kind,.b v.ext,.s v.desc,.s v.name,.sl (v.faces.map S1),.sl (v.fields.map TFieldDef.enc),.sl (v.inputs.map TInDef.enc),.sl (v.values.map TEnumDef.enc),.sl (v.roots.map TRoot.enc),.b v.repeat',.sl (v.dirs.map TDir.enc)]) (?_:_=_) ?_
    · by_cases k:v.desc=[]
      · have c:(v.desc == ([]:List UInt8))=true:=beq_iff_eq.2 k
        simp [d1,j83,c,k,jx]
      · have c:(v.desc == ([]:List UInt8))=false:=beq_eq_false_iff_ne.2 k
        unfold d1 j83
        rw [if_neg k]
        simp (disch:=first | omega | (simp only [j3,j4,j6,jf,jF] <;> omega) | fail) only [jr,jv,zb,zi,zs,zl,jl,jm,jf,j3,j4,j6,jF,if_true,if_false,zf,zr,j8,jd,j9,jc,if_pos,j7,zm,true_and,and_self,decide_true,bs,c,hEs,jn,jy]
    simp only [jr,jv,zb,zi,zs,zl,zr]
    refine JT (x:=[.sl (jx (d2 v)),.i v.kind,.b v.ext,.s v.desc,.s v.name,.sl (v.faces.map S1),.sl (v.fields.map TFieldDef.enc),.sl (v.inputs.map TInDef.enc),.sl (v.values.map TEnumDef.enc),.sl (v.roots.map TRoot.enc),.b v.repeat',.sl (v.dirs.map TDir.enc)]) (?_:_=_) ?_
    · unfold d2
      cases hx:v.ext with
      | false=>simp
      | true =>
        simp (disch:=first | omega | (simp only [j3,j4,j6,jf,jF] <;> omega) | fail) only [jr,jv,zb,zi,zs,zl,jl,jm,jf,j3,j4,j6,jF,if_true,if_false,zf,zr,j8,jd,j9,jc,if_pos,j7,zm,true_and,and_self,decide_true,bs,hx]
        all_goals simp
    simp only [jr,jv,zb,zi,zs,zl,zr]
    refine j3g hW ?_
    simp only [jr,jv,zb,zi,zs,zl]
    rw [if_pos (by rw [jf,jl,jf]; simp only [jF]; omega)]
    rw [jl,jm,show d2 v ++ kwT v.kind=d3 v from rfl]
    refine jh0 (x:=[.sl (jx (d4 v)),.i v.kind,.b v.ext,.s v.desc,.s v.name,.sl (v.faces.map S1),.sl (v.fields.map TFieldDef.enc),.sl (v.inputs.map TInDef.enc),.sl (v.values.map TEnumDef.enc),.sl (v.roots.map TRoot.enc),.b v.repeat',.sl (v.dirs.map TDir.enc)]) ?_ ?_
    · refine JT (x:=[.sl (jx (d4 v)),.i v.kind,.b v.ext,.s v.desc,.s v.name,.sl (v.faces.map S1),.sl (v.fields.map TFieldDef.enc),.sl (v.inputs.map TInDef.enc),.sl (v.values.map TEnumDef.enc),.sl (v.roots.map TRoot.enc),.b v.repeat',.sl (v.dirs.map TDir.enc)]) ?_ rfl
      unfold d4 j0f
      by_cases k8:v.kind=8
      · have c8:(v.kind == 8)=true:=beq_iff_eq.2 k8
        rw [if_pos c8,if_pos k8,jV]
      · have c8:(v.kind == 8)=false:=beq_eq_false_iff_ne.2 k8
        rw [c8,if_neg (by simp),if_neg k8]
        refine JT (x:=[.sl (jx (d4 v)),.i v.kind,.b v.ext,.s v.desc,.s v.name,.sl (v.faces.map S1),.sl (v.fields.map TFieldDef.enc),.sl (v.inputs.map TInDef.enc),.sl (v.values.map TEnumDef.enc),.sl (v.roots.map TRoot.enc),.b v.repeat',.sl (v.dirs.map TDir.enc)]) ?_ ?_
        · unfold d4 j0f
          rw [if_neg k8]
          by_cases k7:v.kind=7
          · have c7:(v.kind == 7)=true:=beq_iff_eq.2 k7
            rw [if_pos c7,if_pos k7]
            cases hr:v.repeat' with
            | true =>
              simp (disch:=first | omega | (simp only [j3,j4,j6,jf,jF] <;> omega) | fail) only [jr,jv,zb,zi,zs,zl,jl,jm,jf,j3,j4,j6,jF,if_true,if_false,zf,zr,j8,jd,j9,jc,if_pos,j7,zm,true_and,and_self,decide_true,bs,hr,hI,hN]
              all_goals simp
            | false =>
              simp (disch:=first | omega | (simp only [j3,j4,j6,jf,jF] <;> omega) | fail) only [jr,jv,zb,zi,zs,zl,jl,jm,jf,j3,j4,j6,jF,if_true,if_false,zf,zr,j8,jd,j9,jc,if_pos,j7,zm,true_and,and_self,decide_true,bs,hr,hI,hN]
              all_goals simp
          · have c7:(v.kind == 7)=false:=beq_eq_false_iff_ne.2 k7
            rw [c7,if_neg (by simp),if_neg k7]
            simp (disch:=first | omega | (simp only [j3,j4,j6,jf,jF] <;> omega) | fail) only [jr,jv,zb,zi,zs,zl,jl,jm,jf,j3,j4,j6,jF,if_true,if_false,zf,zr,j8,jd,j9,jc,if_pos,j7,zm,true_and,and_self,decide_true,bs,zr]
            all_goals simp
        · unfold d4 j0f
          rw [if_neg k8]
          rfl
    simp only [jr,jv,zb,zi,zs,zl,zr]
    refine JT (x:=[.sl (jx (d4 v)),.b ((v.kind == 2 || v.kind == 3) && ne v.faces),.i v.kind,.b v.ext,.s v.desc,.s v.name,.sl (v.faces.map S1),.sl (v.fields.map TFieldDef.enc),.sl (v.inputs.map TInDef.enc),.sl (v.values.map TEnumDef.enc),.sl (v.roots.map TRoot.enc),.b v.repeat',.sl (v.dirs.map TDir.enc)]) ?_ ?_
    · rw [pg]
      cases (v.kind == 2) <;> cases (v.kind == 3) <;> cases ne v.faces <;> simp
    simp only [jr,jv,zb,zi,zs,zl]
    refine JT (x:=[.sl (jx (d5 v)),.i v.kind,.b v.ext,.s v.desc,.s v.name,.sl (v.faces.map S1),.sl (v.fields.map TFieldDef.enc),.sl (v.inputs.map TInDef.enc),.sl (v.values.map TEnumDef.enc),.sl (v.roots.map TRoot.enc),.b v.repeat',.sl (v.dirs.map TDir.enc)]) ?_ ?_
    · unfold d5 j9W
      cases hf:ne v.faces with
      | false =>
        rw [jdj hf]
        all_goals simp
      | true =>
        have hne:=jdk hf
        by_cases hk2:v.kind=2 ∨ v.kind=3
        · have hc:(v.kind == 2 || v.kind == 3)=true:=by simpa using hk2
          rw [if_pos (c:=(v.kind=2 ∨ v.kind=3) ∧ v.faces ≠ []) ⟨hk2,hne⟩,hc]
          simp (disch:=first | omega | (simp only [j3,j4,j6,jf,jF] <;> omega) | fail) only [jr,jv,zb,zi,zs,zl,jl,jm,jf,j3,j4,j6,jF,if_true,if_false,zf,zr,j8,jd,j9,jc,if_pos,j7,zm,true_and,and_self,decide_true,bs,hN,jC,jS,Bool.and_self]
          all_goals simp
        · have hc:(v.kind == 2 || v.kind == 3)=false:=by simpa using hk2
          rw [if_neg (c:=(v.kind=2 ∨ v.kind=3) ∧ v.faces ≠ []) (fun h=>hk2 h.1),hc]
          all_goals simp
    simp only [jr,jv,zb,zi,zs,zl]
    refine j3g (hD (d5 v) (by unfold d5; rw [j3]; omega)) ?_
    simp only [jr,jv,zb,zi,zs,zl]
    rw [show d5 v ++ XE v.dirs=d6 v from rfl]
    refine JT (x:=[.sl (jx (d6 v)),.b ((v.kind == 4) && ne v.faces),.i v.kind,.b v.ext,.s v.desc,.s v.name,.sl (v.faces.map S1),.sl (v.fields.map TFieldDef.enc),.sl (v.inputs.map TInDef.enc),.sl (v.values.map TEnumDef.enc),.sl (v.roots.map TRoot.enc),.b v.repeat',.sl (v.dirs.map TDir.enc)]) ?_ ?_
    · rw [pg]
      cases (v.kind == 4) <;> cases ne v.faces <;> simp
    simp only [jr,jv,zb,zi,zs,zl]
    have m6:(d6 v).length ≤ 80 * jQ v.enc + 200:=by unfold d6 d5; simp only [j3]; omega
    refine JT (x:=[.sl (jx (d7 v)),.i v.kind,.b v.ext,.s v.desc,.s v.name,.sl (v.faces.map S1),.sl (v.fields.map TFieldDef.enc),.sl (v.inputs.map TInDef.enc),.sl (v.values.map TEnumDef.enc),.sl (v.roots.map TRoot.enc),.b v.repeat',.sl (v.dirs.map TDir.enc)]) ?_ ?_
    · unfold d7 j9c
      cases hf:ne v.faces with
      | false =>
        rw [jdj hf]
        all_goals simp
      | true =>
        have hne:=jdk hf
        by_cases hk2:v.kind=4
        · have hc:(v.kind == 4)=true:=by simpa using hk2
          rw [if_pos (c:=(v.kind=4) ∧ v.faces ≠ []) ⟨hk2,hne⟩,hc]
          simp (disch:=first | omega | (simp only [j3,j4,j6,jf,jF] <;> omega) | fail) only [jr,jv,zb,zi,zs,zl,jl,jm,jf,j3,j4,j6,jF,if_true,if_false,zf,zr,j8,jd,j9,jc,if_pos,j7,zm,true_and,and_self,decide_true,bs,hN,jC,jS,Bool.and_self]
          all_goals simp
        · have hc:(v.kind == 4)=false:=by simpa using hk2
          rw [if_neg (c:=(v.kind=4) ∧ v.faces ≠ []) (fun h=>hk2 h.1),hc]
          all_goals simp
    simp only [jr,jv,zb,zi,zs,zl]
    refine Yx (jie v hw hg (d7 v) [] (by simp only [j6]; omega)) ?_
    simp only [jr,jv,zb,zi,zs,zl]
    rw [jy]
    refine Yx (jid v hw hg (d7 v) (j6J v) (by have:(yb v).length=(j6J v).length + (jt [] [] VP v.values).length + (jt [] [] V1 v.roots).length + (if v.kind=6 then jt [] [] j0c v.inputs else []).length:= (by simp only [yb,YY,j1m,j3]); omega)) ?_
    simp only [jr,jv,zb,zi,zs,zl]
    refine Yx (jic v hw hg (d7 v) (j1m v) (by have:(yb v).length=(j1m v).length + (jt [] [] V1 v.roots).length + (if v.kind=6 then jt [] [] j0c v.inputs else []).length:= (by simp only [yb,YY,j3]); omega)) ?_
    simp only [jr,jv,zb,zi,zs,zl]
    refine Yx (jib v hw hg (d7 v) (YY v) (by have:(yb v).length=(YY v).length + (if v.kind=6 then jt [] [] j0c v.inputs else []).length:= (by simp only [yb,j3]); omega)) ?_
    simp only [jr,jv,zb,zi,zs,zl]
    rw [show YY v ++ (if v.kind=6 then jt [] [] j0c v.inputs else [])=yb v from rfl,jj7]
    have m7:(d7 v).length ≤ 90 * jQ v.enc + 300:=by unfold d7; rw [j3]; omega
    refine JT (x:=[.sl (jx (d8 v))]) ?_ ?_
    · unfold d8
      by_cases k:yb v=[]
      · have c:(yb v == [])=true:=beq_iff_eq.2 k
        rw [if_pos k,c]
        all_goals simp
      · have c:(yb v == [])=false:=beq_eq_false_iff_ne.2 k
        rw [if_neg k,c]
        simp (disch:=first | omega | (simp only [j3,j4,j6,jf,jF] <;> omega) | fail) only [jr,jv,zb,zi,zs,zl,jl,jm,jf,j3,j4,j6,jF,if_true,if_false,zf,zr,j8,jd,j9,jc,if_pos,j7,zm,true_and,and_self,decide_true,bs,jn]
        all_goals simp
    have m8:(d8 v).length ≤ 150 * jQ v.enc + 400:=by
      unfold d8
      rw [j3]
      split <;> simp only [j3,j4,j6] <;> omega
    simp (disch:=first | omega | (simp only [j3,j4,j6,jf,jF] <;> omega) | fail) only [jr,jv,zb,zi,zs,zl,jl,jm,jf,j3,j4,j6,jF,if_true,if_false,zf,zr,j8,jd,j9,jc,if_pos,j7,zm,true_and,and_self,decide_true,bs,zy]
    rfl
theorem jg9 (s:List UInt8) (hs:s.length ≤ 1048576):yX [.s [],.s s] = .ret [.s (j83 s)]:=by
 have hE:=KS s hs
 have hl:=Jc s
 rw [j0y]
 unfold j83
 by_cases k:s=[]
 ·have c:(s == ([]:List UInt8))=true:=beq_iff_eq.2 k
  rw [if_pos k]
  simp only [JG,jr,jv,zb,zi,zs,zl,c,if_true]
 ·have c:(s == ([]:List UInt8))=false:=beq_eq_false_iff_ne.2 k
  rw [if_neg k]
  simp (disch:=first | omega | (simp only [j3,j4,j6,jf,jF] <;> omega) | fail) only [jr,jv,zb,zi,zs,zl,jl,jm,jf,j3,j4,j6,jF,if_true,if_false,zf,zr,j8,jd,j9,jc,if_pos,j7,zm,true_and,and_self,decide_true,bs,JG,c,hE,jy]
theorem jff (ws:List (List UInt8)) (sep:List UInt8) (h:ws.length ≤ 1048576) (h2:(Lib.join ws sep).length ≤ 1073741824):pn [.sl (ws.map S1),.s sep] = .ret [.s (Lib.join ws sep)]:=by
 rw [j1y]
 have:Z5 [.sl (ws.map fun x=>[DC.s x]),.s sep]=(match (match j5a (ws.map fun x=>[DC.s x]) sep with | some r=>some [DC.s r] | none=>none) with | some r=>Out.ret r | none=>.fail):=rfl
 exact this.trans (by rw [j9L ws _ (by omega) (by omega)])
theorem jiE (v:TDef) (hw:jQ v.enc ≤ 1048576) (hg:j0A v=true) (ls:List UInt8) (hl:ls.length ≤ 200000000) :
  jR yj [.s ls,.sl (v.fields.map TFieldDef.enc),.i (v.fields.length:Int),.i 0,.i v.kind,.b v.ext,.s v.desc,.s v.name,.sl (v.faces.map S1),.sl (v.fields.map TFieldDef.enc),.sl (v.inputs.map TInDef.enc),.sl (v.values.map TEnumDef.enc),.sl (v.roots.map TRoot.enc),.b v.repeat',.sl (v.dirs.map TDir.enc)] = .ex 0 [.s (ls ++ jt [] [] Kq v.fields),.i v.kind,.b v.ext,.s v.desc,.s v.name,.sl (v.faces.map S1),.sl (v.fields.map TFieldDef.enc),.sl (v.inputs.map TInDef.enc),.sl (v.values.map TEnumDef.enc),.sl (v.roots.map TRoot.enc),.b v.repeat',.sl (v.dirs.map TDir.enc)]:=by
 obtain ⟨g0,g1,g2,g3,g4⟩:=z8 hg
 have hwd:=Q4 v
 obtain ⟨hfl,hfx⟩:=kH (l:=v.fields) (enc:=TFieldDef.enc) (n:=1048576) (by omega)
 have hb:=yD (enc:=TFieldDef.enc) (f:=Kq) (a:=40) v.fields fun x hx=>j4C x (g1 x hx)
 have hlp:=yH (o:=[]) (sep:=[]) (f:=Kq) (l:=v.fields) (st:=fun i cur=>[.s cur,.sl (v.fields.map TFieldDef.enc),.i (v.fields.length:Int),.i (i:Int),.i v.kind,.b v.ext,.s v.desc,.s v.name,.sl (v.faces.map S1),.sl (v.fields.map TFieldDef.enc),.sl (v.inputs.map TInDef.enc),.sl (v.values.map TEnumDef.enc),.sl (v.roots.map TRoot.enc),.b v.repeat',.sl (v.dirs.map TDir.enc)]) (F:=yj) (res:=.ex 0 [.s (ls ++ jt [] [] Kq v.fields),.i v.kind,.b v.ext,.s v.desc,.s v.name,.sl (v.faces.map S1),.sl (v.fields.map TFieldDef.enc),.sl (v.inputs.map TInDef.enc),.sl (v.values.map TEnumDef.enc),.sl (v.roots.map TRoot.enc),.b v.repeat',.sl (v.dirs.map TDir.enc)]) ls
  (fun i hi cur hc=>?step) ?fin (jG _ _)
 case fin=>simp [yj]
 case step =>
  have hm:=je hi
  have hwx:=hfx _ hm
  have c2:0 ≤ (i:Int) ∧ (i:Int) < (v.fields.length:Int):=by omega
  have d:decide ((i:Int) < (v.fields.length:Int))=true:=decide_eq_true (by omega)
  have wi:=jp hi (show v.fields.length ≤ 9223372036854775807 by omega)
  simp only [ite_self,jy] at hc ⊢
  have hv:=j9S v.fields[i] hwx
  rw [show j3d v.fields[i]=Kq v.fields[i] by unfold j3d; rw [if_pos (g1 _ hm)]] at hv
  simp (disch:=first | omega | (simp only [j3,j4,j6,jf,jF] <;> omega) | fail) only [jr,jv,zb,zi,zs,zl,jl,jm,jf,j3,j4,j6,jF,if_true,if_false,zf,zr,j8,jd,j9,jc,if_pos,j7,zm,true_and,and_self,decide_true,bs,yj,jq hi,TFieldDef.enc_eq,d,c2,hv,wi]
 rw [jI] at hlp
 exact hlp
theorem jiD (v:TDef) (hw:jQ v.enc ≤ 1048576) (hg:j0A v=true) (ls:List UInt8) (hl:ls.length ≤ 200000000) :
  jR yi [.s ls,.sl (v.values.map TEnumDef.enc),.i (v.values.length:Int),.i 0,.i v.kind,.b v.ext,.s v.desc,.s v.name,.sl (v.faces.map S1),.sl (v.fields.map TFieldDef.enc),.sl (v.inputs.map TInDef.enc),.sl (v.values.map TEnumDef.enc),.sl (v.roots.map TRoot.enc),.b v.repeat',.sl (v.dirs.map TDir.enc)] = .ex 2 [.s (ls ++ jt [] [] VP v.values),.i v.kind,.b v.ext,.s v.desc,.s v.name,.sl (v.faces.map S1),.sl (v.fields.map TFieldDef.enc),.sl (v.inputs.map TInDef.enc),.sl (v.values.map TEnumDef.enc),.sl (v.roots.map TRoot.enc),.b v.repeat',.sl (v.dirs.map TDir.enc)]:=by
 obtain ⟨g0,g1,g2,g3,g4⟩:=z8 hg
 have hwd:=Q4 v
 obtain ⟨hfl,hfx⟩:=kH (l:=v.values) (enc:=TEnumDef.enc) (n:=1048576) (by omega)
 have hb:=yD (enc:=TEnumDef.enc) (f:=VP) (a:=40) v.values fun x _=>j7m x
 have hlp:=yH (o:=[]) (sep:=[]) (f:=VP) (l:=v.values) (st:=fun i cur=>[.s cur,.sl (v.values.map TEnumDef.enc),.i (v.values.length:Int),.i (i:Int),.i v.kind,.b v.ext,.s v.desc,.s v.name,.sl (v.faces.map S1),.sl (v.fields.map TFieldDef.enc),.sl (v.inputs.map TInDef.enc),.sl (v.values.map TEnumDef.enc),.sl (v.roots.map TRoot.enc),.b v.repeat',.sl (v.dirs.map TDir.enc)]) (F:=yi) (res:=.ex 2 [.s (ls ++ jt [] [] VP v.values),.i v.kind,.b v.ext,.s v.desc,.s v.name,.sl (v.faces.map S1),.sl (v.fields.map TFieldDef.enc),.sl (v.inputs.map TInDef.enc),.sl (v.values.map TEnumDef.enc),.sl (v.roots.map TRoot.enc),.b v.repeat',.sl (v.dirs.map TDir.enc)]) ls
  (fun i hi cur hc=>?step) ?fin (jG _ _)
 case fin=>simp [yi]
 case step =>
  have hm:=je hi
  have hwx:=hfx _ hm
  have c2:0 ≤ (i:Int) ∧ (i:Int) < (v.values.length:Int):=by omega
  have d:decide ((i:Int) < (v.values.length:Int))=true:=decide_eq_true (by omega)
  have wi:=jp hi (show v.values.length ≤ 9223372036854775807 by omega)
  simp only [ite_self,jy] at hc ⊢
  have hwx2:=hwx
  rw [j5W] at hwx2
  have l1:=j0B v.values[i].desc
  have l2:=yf v.values[i].dirs
  have hv:=j3C v.values[i].desc (by omega)
  have hd:=yq v.values[i].dirs (by omega) (g3 _ hm)
  rw [VP] at hc
  simp only [j3,j4,j6] at hc
  simp (disch:=first | omega | (simp only [j3,j4,j6,jf,jF] <;> omega) | fail) only [jr,jv,zb,zi,zs,zl,jl,jm,jf,j3,j4,j6,jF,if_true,if_false,zf,zr,j8,jd,j9,jc,if_pos,j7,zm,true_and,and_self,decide_true,bs,yi,jq hi,TEnumDef.enc_eq,d,c2,hv,hd,wi]
  simp [VP]
 rw [jI] at hlp
 exact hlp
theorem jiC (v:TDef) (hw:jQ v.enc ≤ 1048576) (hg:j0A v=true) (ls:List UInt8) (hl:ls.length ≤ 200000000) :
  jR yh [.s ls,.sl (v.roots.map TRoot.enc),.i (v.roots.length:Int),.i 0,.i v.kind,.b v.ext,.s v.desc,.s v.name,.sl (v.faces.map S1),.sl (v.fields.map TFieldDef.enc),.sl (v.inputs.map TInDef.enc),.sl (v.values.map TEnumDef.enc),.sl (v.roots.map TRoot.enc),.b v.repeat',.sl (v.dirs.map TDir.enc)] = .ex 4 [.s (ls ++ jt [] [] V1 v.roots),.i v.kind,.b v.ext,.s v.desc,.s v.name,.sl (v.faces.map S1),.sl (v.fields.map TFieldDef.enc),.sl (v.inputs.map TInDef.enc),.sl (v.values.map TEnumDef.enc),.sl (v.roots.map TRoot.enc),.b v.repeat',.sl (v.dirs.map TDir.enc)]:=by
 obtain ⟨g0,g1,g2,g3,g4⟩:=z8 hg
 have hwd:=Q4 v
 obtain ⟨hfl,hfx⟩:=kH (l:=v.roots) (enc:=TRoot.enc) (n:=1048576) (by omega)
 have hb:=yD (enc:=TRoot.enc) (f:=V1) (a:=40) v.roots fun x _=>j6C x
 have hlp:=yH (o:=[]) (sep:=[]) (f:=V1) (l:=v.roots) (st:=fun i cur=>[.s cur,.sl (v.roots.map TRoot.enc),.i (v.roots.length:Int),.i (i:Int),.i v.kind,.b v.ext,.s v.desc,.s v.name,.sl (v.faces.map S1),.sl (v.fields.map TFieldDef.enc),.sl (v.inputs.map TInDef.enc),.sl (v.values.map TEnumDef.enc),.sl (v.roots.map TRoot.enc),.b v.repeat',.sl (v.dirs.map TDir.enc)]) (F:=yh) (res:=.ex 4 [.s (ls ++ jt [] [] V1 v.roots),.i v.kind,.b v.ext,.s v.desc,.s v.name,.sl (v.faces.map S1),.sl (v.fields.map TFieldDef.enc),.sl (v.inputs.map TInDef.enc),.sl (v.values.map TEnumDef.enc),.sl (v.roots.map TRoot.enc),.b v.repeat',.sl (v.dirs.map TDir.enc)]) ls
  (fun i hi cur hc=>?step) ?fin (jG _ _)
 case fin=>simp [yh]
 case step =>
  have hm:=je hi
  have hwx:=hfx _ hm
  have c2:0 ≤ (i:Int) ∧ (i:Int) < (v.roots.length:Int):=by omega
  have d:decide ((i:Int) < (v.roots.length:Int))=true:=decide_eq_true (by omega)
  have wi:=jp hi (show v.roots.length ≤ 9223372036854775807 by omega)
  simp only [ite_self,jy] at hc ⊢
  have l1:=j6y v.roots[i].kind
  have hv:=jfk v.roots[i].kind
  rw [V1] at hc
  simp only [j3,j4,j6] at hc
  simp (disch:=first | omega | (simp only [j3,j4,j6,jf,jF] <;> omega) | fail) only [jr,jv,zb,zi,zs,zl,jl,jm,jf,j3,j4,j6,jF,if_true,if_false,zf,zr,j8,jd,j9,jc,if_pos,j7,zm,true_and,and_self,decide_true,bs,yh,jq hi,TRoot.enc_eq,d,c2,hv,wi]
  simp [V1]
 rw [jI] at hlp
 exact hlp
theorem jiB (v:TDef) (hw:jQ v.enc ≤ 1048576) (hg:j0A v=true) (ls:List UInt8) (hl:ls.length ≤ 200000000) :
  jR yg [.s ls,.sl (v.inputs.map TInDef.enc),.i (v.inputs.length:Int),.i 0] = .ex 6 [.s (ls ++ jt [] [] j0c v.inputs)]:=by
 obtain ⟨g0,g1,g2,g3,g4⟩:=z8 hg
 have hwd:=Q4 v
 obtain ⟨hfl,hfx⟩:=kH (l:=v.inputs) (enc:=TInDef.enc) (n:=1048576) (by omega)
 have hb:=yD (enc:=TInDef.enc) (f:=j0c) (a:=40) v.inputs fun x hx=>j9N x (XB g2 x hx)
 have hlp:=yH (o:=[]) (sep:=[]) (f:=j0c) (l:=v.inputs) (st:=fun i cur=>[.s cur,.sl (v.inputs.map TInDef.enc),.i (v.inputs.length:Int),.i (i:Int)]) (F:=yg) (res:=.ex 6 [.s (ls ++ jt [] [] j0c v.inputs)]) ls
  (fun i hi cur hc=>?step) ?fin (jG _ _)
 case fin=>simp [yg]
 case step =>
  have hm:=je hi
  have hwx:=hfx _ hm
  have c2:0 ≤ (i:Int) ∧ (i:Int) < (v.inputs.length:Int):=by omega
  have d:decide ((i:Int) < (v.inputs.length:Int))=true:=decide_eq_true (by omega)
  have wi:=jp hi (show v.inputs.length ≤ 9223372036854775807 by omega)
  simp only [ite_self,jy] at hc ⊢
  have hv:=j81 v.inputs[i] hwx
  rw [show j6M v.inputs[i]=inT v.inputs[i] by unfold j6M; rw [if_pos (XB g2 _ hm)]] at hv
  rw [j0c] at hc
  simp only [j3,j4,j6] at hc
  simp (disch:=first | omega | (simp only [j3,j4,j6,jf,jF] <;> omega) | fail) only [jr,jv,zb,zi,zs,zl,jl,jm,jf,j3,j4,j6,jF,if_true,if_false,zf,zr,j8,jd,j9,jc,if_pos,j7,zm,true_and,and_self,decide_true,bs,yg,jq hi,TInDef.enc_eq,d,c2,hv,wi]
  simp [j0c]
 rw [jI] at hlp
 exact hlp
theorem jg8 (v:TDef) (hw:jQ v.enc ≤ 1048576) (hg:j0A v=true):Vk [.i v.kind,.b v.ext,.s v.desc,.s v.name,.sl (v.faces.map S1),.sl (v.fields.map TFieldDef.enc),.sl (v.inputs.map TInDef.enc),.sl (v.values.map TEnumDef.enc),.sl (v.roots.map TRoot.enc),.b v.repeat',.sl (v.dirs.map TDir.enc)] = .ret [.s (yb v)]:=by
 have ml:=j6I hg
 have e3:(yb v).length=(YY v).length + (if v.kind=6 then jt [] [] j0c v.inputs else []).length:=by simp only [yb,j3]
 have e2:(YY v).length=(j1m v).length + (jt [] [] V1 v.roots).length:=by simp only [YY,j3]
 have e1:(j1m v).length=(j6J v).length + (jt [] [] VP v.values).length:=by simp only [j1m,j3]
 rw [j4P]
 simp only [ZL,jr,jv,zb,zi,zs,zl,zm]
 refine Yx (jiE v hw hg [] (by simp only [j6]; omega)) ?_
 simp only [jr,jv,zb,zi,zs,zl,zm]
 rw [jy]
 refine Yx (jiD v hw hg (j6J v) (by omega)) ?_
 simp only [jr,jv,zb,zi,zs,zl,zm]
 refine Yx (jiC v hw hg (j1m v) (by omega)) ?_
 simp only [jr,jv,zb,zi,zs,zl,zm]
 refine JT (x:=[.s (yb v)]) ?_ rfl
 unfold yb
 by_cases k6:v.kind=6
 ·have c6:(v.kind == 6)=true:=beq_iff_eq.2 k6
  rw [if_pos c6,if_pos k6]
  exact Yx (jiB v hw hg (YY v) (by omega)) rfl
 ·have c6:(v.kind == 6)=false:=beq_eq_false_iff_ne.2 k6
  rw [c6,if_neg (by simp),if_neg k6,jV]
  rfl
theorem jhp (k:Int) (h:1 ≤ k ∧ k ≤ 8):∃ ws:List (List DC),XS [] = .ret [.sl ws] ∧ (True ∧ 0 ≤ k ∧ k < (ws.length:Int)) ∧ ((ws.getD k.toNat []).getD 0 d0).ss=kwT k:=by
 refine ⟨_,(j7c []).trans rfl,?_,?_⟩
 ·exact ⟨trivial,by omega,by show k < ((9:Nat):Int); omega⟩
 ·have:k=1 ∨ k=2 ∨ k=3 ∨ k=4 ∨ k=5 ∨ k=6 ∨ k=7 ∨ k=8:=by omega
  rcases this with rfl | rfl | rfl | rfl | rfl | rfl | rfl | rfl <;> rfl
set_option maxHeartbeats 8000000 in
theorem jdw (v:TDef) (hw:jQ v.enc ≤ 1048576):YT [.i v.kind,.b v.ext,.s v.desc,.s v.name,.sl (v.faces.map S1),.sl (v.fields.map TFieldDef.enc),.sl (v.inputs.map TInDef.enc),.sl (v.values.map TEnumDef.enc),.sl (v.roots.map TRoot.enc),.b v.repeat',.sl (v.dirs.map TDir.enc)] = .ret [.s (j5X v)]:=by
 have hk:=jgb v hw
 rw [j8R]
 unfold j5X
 cases hg:j0A v with
 | false=>rw [hg] at hk; simp only [Zg,jr,jv,zb,zi,zs,zl,hk,zr,jn,if_true,zf,if_false]
 | true =>
  rw [hg] at hk
  obtain ⟨g0,g1,g2,g3,g4⟩:=z8 hg
  obtain ⟨m1,m2,m3,mh,m4,mf,mu,md,mi,mj,mn⟩:=jiS hg
  have ml:=j6I hg
  have hwd:=Q4 v
  have hE:=jg9 v.desc (by omega)
  obtain ⟨ws,hW,hW2,hW3⟩:=jhp v.kind g0
  have hI:=j5o v.inputs (by omega) g2
  have hD:=yq v.dirs (by omega) g4
  have hB:=jg8 v hw hg
  have hfa:v.faces.length ≤ 1048576:=(XF v hw).1
  have mj1:=mj [32,124,32] rfl
  have mj2:=mj [32,38,32] rfl
  have hJ1:=jff v.faces [32,124,32] hfa (by omega)
  have hJ2:=jff v.faces [32,38,32] hfa (by omega)
  have lk:=jdn v.kind
  simp only [Zg,jr,jv,zb,zi,zs,zl,hk,zr,jh,zf,if_false,if_true]
  refine j3g hE ?_
  simp only [jr,jv,zb,zi,zs,zl]
  rw [show j83 v.desc=d1 v from rfl]
  refine JT (x:=[.s (d2 v),.i v.kind,.b v.ext,.s v.desc,.s v.name,.sl (v.faces.map S1),.sl (v.fields.map TFieldDef.enc),.sl (v.inputs.map TInDef.enc),.sl (v.values.map TEnumDef.enc),.sl (v.roots.map TRoot.enc),.b v.repeat',.sl (v.dirs.map TDir.enc)]) ?_ ?_
  ·unfold d2
   cases hx:v.ext with
   | false=>simp
   | true =>
    simp only [if_true]
    rw [if_pos (by simp only [jF,j4,j6]; omega)]
  simp only [jr,jv,zb,zi,zs,zl]
  refine j3g hW ?_
  simp only [jr,jv,zb,zi,zs,zl]
  rw [if_pos hW2,hW3,if_pos (by simp only [jF]; omega)]
  rw [show d2 v ++ kwT v.kind=d3 v from rfl]
  refine jh0 (x:=[.s (d4 v),.i v.kind,.b v.ext,.s v.desc,.s v.name,.sl (v.faces.map S1),.sl (v.fields.map TFieldDef.enc),.sl (v.inputs.map TInDef.enc),.sl (v.values.map TEnumDef.enc),.sl (v.roots.map TRoot.enc),.b v.repeat',.sl (v.dirs.map TDir.enc)]) ?_ ?_
  ·refine JT (x:=[.s (d4 v),.i v.kind,.b v.ext,.s v.desc,.s v.name,.sl (v.faces.map S1),.sl (v.fields.map TFieldDef.enc),.sl (v.inputs.map TInDef.enc),.sl (v.values.map TEnumDef.enc),.sl (v.roots.map TRoot.enc),.b v.repeat',.sl (v.dirs.map TDir.enc)]) ?_ rfl
   unfold d4 j0f
   by_cases k7:v.kind=7
   ·have c7:(v.kind == 7)=true:=beq_iff_eq.2 k7
    have k8:¬ v.kind=8:=by omega
    rw [if_pos c7,if_neg k8,if_pos k7]
    cases hr:v.repeat' with
    | true =>
     simp (disch:=first | omega | (simp only [j3,j4,j6,jf,jF] <;> omega) | fail) only [jr,jv,zb,zi,zs,zl,jl,jm,jf,j3,j4,j6,jF,if_true,if_false,zf,zr,j8,jd,j9,jc,if_pos,j7,zm,true_and,and_self,decide_true,bs,hr,hI,hJ1]
     all_goals simp
    | false =>
     simp (disch:=first | omega | (simp only [j3,j4,j6,jf,jF] <;> omega) | fail) only [jr,jv,zb,zi,zs,zl,jl,jm,jf,j3,j4,j6,jF,if_true,if_false,zf,zr,j8,jd,j9,jc,if_pos,j7,zm,true_and,and_self,decide_true,bs,hr,hI,hJ1]
     all_goals simp
   ·have c7:(v.kind == 7)=false:=beq_eq_false_iff_ne.2 k7
    rw [c7,if_neg (by simp)]
    refine JT (x:=[.s (d4 v),.i v.kind,.b v.ext,.s v.desc,.s v.name,.sl (v.faces.map S1),.sl (v.fields.map TFieldDef.enc),.sl (v.inputs.map TInDef.enc),.sl (v.values.map TEnumDef.enc),.sl (v.roots.map TRoot.enc),.b v.repeat',.sl (v.dirs.map TDir.enc)]) ?_ ?_
    ·unfold d4 j0f
     by_cases k8:v.kind=8
     ·have c8:(v.kind == 8)=true:=beq_iff_eq.2 k8
      rw [if_pos c8,if_pos k8,jV]
     ·have c8:(v.kind == 8)=false:=beq_eq_false_iff_ne.2 k8
      rw [c8,if_neg (by simp),if_neg k8,if_neg k7]
      simp (disch:=first | omega | (simp only [j3,j4,j6,jf,jF] <;> omega) | fail) only [jr,jv,zb,zi,zs,zl,jl,jm,jf,j3,j4,j6,jF,if_true,if_false,zf,zr,j8,jd,j9,jc,if_pos,j7,zm,true_and,and_self,decide_true,bs,zr]
      all_goals simp
    ·unfold d4 j0f
     rw [if_neg k7]
     rfl
  simp only [jr,jv,zb,zi,zs,zl]
  refine JT (x:=[.s (d4 v),.b ((v.kind == 2 || v.kind == 3) && ne v.faces),.i v.kind,.b v.ext,.s v.desc,.s v.name,.sl (v.faces.map S1),.sl (v.fields.map TFieldDef.enc),.sl (v.inputs.map TInDef.enc),.sl (v.values.map TEnumDef.enc),.sl (v.roots.map TRoot.enc),.b v.repeat',.sl (v.dirs.map TDir.enc)]) ?_ ?_
  ·rw [pg]
   cases (v.kind == 2) <;> cases (v.kind == 3) <;> cases ne v.faces <;> simp
  simp only [jr,jv,zb,zi,zs,zl]
  refine JT (x:=[.s (d5 v),.i v.kind,.b v.ext,.s v.desc,.s v.name,.sl (v.faces.map S1),.sl (v.fields.map TFieldDef.enc),.sl (v.inputs.map TInDef.enc),.sl (v.values.map TEnumDef.enc),.sl (v.roots.map TRoot.enc),.b v.repeat',.sl (v.dirs.map TDir.enc)]) ?_ ?_
  ·unfold d5 j9W
   cases hf:ne v.faces with
   | false =>
    rw [jdj hf]
    all_goals simp
   | true =>
    have hne:=jdk hf
    by_cases hk2:v.kind=2 ∨ v.kind=3
    ·have hc:(v.kind == 2 || v.kind == 3)=true:=by simpa using hk2
     rw [if_pos (c:=(v.kind=2 ∨ v.kind=3) ∧ v.faces ≠ []) ⟨hk2,hne⟩,hc]
     simp (disch:=first | omega | (simp only [j3,j4,j6,jf,jF] <;> omega) | fail) only [jr,jv,zb,zi,zs,zl,jl,jm,jf,j3,j4,j6,jF,if_true,if_false,zf,zr,j8,jd,j9,jc,if_pos,j7,zm,true_and,and_self,decide_true,bs,hJ2,jC,jS,Bool.and_self]
    ·have hc:(v.kind == 2 || v.kind == 3)=false:=by simpa using hk2
     rw [if_neg (c:=(v.kind=2 ∨ v.kind=3) ∧ v.faces ≠ []) (fun h=>hk2 h.1),hc]
     all_goals simp
  simp only [jr,jv,zb,zi,zs,zl]
  have m5:(d5 v).length ≤ 70 * jQ v.enc + 150:=by unfold d5; rw [j3]; omega
  refine j3g hD ?_
  simp only [jr,jv,zb,zi,zs,zl]
  rw [if_pos (by simp only [jF]; omega)]
  rw [show d5 v ++ XE v.dirs=d6 v from rfl]
  refine JT (x:=[.s (d6 v),.b ((v.kind == 4) && ne v.faces),.i v.kind,.b v.ext,.s v.desc,.s v.name,.sl (v.faces.map S1),.sl (v.fields.map TFieldDef.enc),.sl (v.inputs.map TInDef.enc),.sl (v.values.map TEnumDef.enc),.sl (v.roots.map TRoot.enc),.b v.repeat',.sl (v.dirs.map TDir.enc)]) ?_ ?_
  ·rw [pg]
   cases (v.kind == 4) <;> cases ne v.faces <;> simp
  simp only [jr,jv,zb,zi,zs,zl]
  have m6:(d6 v).length ≤ 80 * jQ v.enc + 200:=by unfold d6; rw [j3]; omega
  refine JT (x:=[.s (d7 v),.i v.kind,.b v.ext,.s v.desc,.s v.name,.sl (v.faces.map S1),.sl (v.fields.map TFieldDef.enc),.sl (v.inputs.map TInDef.enc),.sl (v.values.map TEnumDef.enc),.sl (v.roots.map TRoot.enc),.b v.repeat',.sl (v.dirs.map TDir.enc)]) ?_ ?_
  ·unfold d7 j9c
   cases hf:ne v.faces with
   | false =>
    rw [jdj hf]
    all_goals simp
   | true =>
    have hne:=jdk hf
    by_cases hk2:v.kind=4
    ·have hc:(v.kind == 4)=true:=by simpa using hk2
     rw [if_pos (c:=(v.kind=4) ∧ v.faces ≠ []) ⟨hk2,hne⟩,hc]
     simp (disch:=first | omega | (simp only [j3,j4,j6,jf,jF] <;> omega) | fail) only [jr,jv,zb,zi,zs,zl,jl,jm,jf,j3,j4,j6,jF,if_true,if_false,zf,zr,j8,jd,j9,jc,if_pos,j7,zm,true_and,and_self,decide_true,bs,hJ1,jC,jS,Bool.and_self]
    ·have hc:(v.kind == 4)=false:=by simpa using hk2
     rw [if_neg (c:=(v.kind=4) ∧ v.faces ≠ []) (fun h=>hk2 h.1),hc]
     all_goals simp
  simp only [jr,jv,zb,zi,zs,zl]
  refine j3g hB ?_
  simp only [jr,jv,zb,zi,zs,zl]
  have m7:(d7 v).length ≤ 90 * jQ v.enc + 300:=by unfold d7; rw [j3]; omega
  refine JT (x:=[.s (d8 v)]) ?_ ?_
  ·unfold d8
   by_cases k:yb v=[]
   ·have c:(yb v == [])=true:=beq_iff_eq.2 k
    rw [if_pos k,c]
    all_goals simp
   ·have c:(yb v == [])=false:=beq_eq_false_iff_ne.2 k
    rw [if_neg k,c]
    simp (disch:=first | omega | (simp only [j3,j4,j6,jf,jF] <;> omega) | fail) only [jr,jv,zb,zi,zs,zl,jl,jm,jf,j3,j4,j6,jF,if_true,if_false,zf,zr,j8,jd,j9,jc,if_pos,j7,zm,true_and,and_self,decide_true,bs,jn]
    all_goals simp
  have m8:(d8 v).length ≤ 150 * jQ v.enc + 400:=by
   unfold d8
   rw [j3]
   split <;> simp only [j3,j4,j6] <;> omega
  simp (disch:=first | omega | (simp only [j3,j4,j6,jf,jF] <;> omega) | fail) only [jr,jv,zb,zi,zs,zl,jl,jm,jf,j3,j4,j6,jF,if_true,if_false,zf,zr,j8,jd,j9,jc,if_pos,j7,zm,true_and,and_self,decide_true,bs,zr]
  rfl
noncomputable def j1s (v:TFrag):Bool:=jX v.name && (!(v.name == [111,110]) && (jX v.on' && (pP v.dirs && (zx v.sels && !v.sels.isEmpty))))
theorem jek (v:TFrag) (hw:jQ v.enc ≤ 1048576):ZZ [.s v.name,.s v.on',.sl (v.dirs.map TDir.enc),.sl (v.sels.map TSel.enc)] = .ret [.b (j1s v)]:=by
 rw [TFrag.enc_eq] at hw
 simp only [jQ] at hw
 have n1:v.name.length ≤ 1048576:=by simp only [DC.wt] at hw; omega
 have n2:v.on'.length ≤ 1048576:=by simp only [DC.wt] at hw; omega
 have hD:=Zp v.dirs (by omega)
 have hS:=j9p v.sels (by omega)
 have e3:decide (((v.sels.map TSel.enc).length:Int) > 0) = !v.sels.isEmpty:=by cases v.sels with | nil=>rfl | cons a l=>exact decide_eq_true (by simp)
 rw [jae]
 simp only [j3U,jr,jv,zb,zi,zs,zl,kQ _ n1,kQ _ n2,hD,hS,e3,zr]
 unfold j1s
 generalize jX v.name=p1
 generalize jX v.on'=p2
 generalize (v.name == ([111,110]:List UInt8))=p3
 generalize pP v.dirs=p4
 generalize zx v.sels=p5
 generalize v.sels.isEmpty=p6
 cases p1 <;> cases p3 <;> cases p2 <;> cases p4 <;> cases p6 <;> cases p5 <;> simp
theorem jeN (v:TFrag) (hw:jQ v.enc ≤ 1048576):j0a [.s v.name,.s v.on',.sl (v.dirs.map TDir.enc),.sl (v.sels.map TSel.enc)] = .ret [.b (j1s v)]:=by
 rw [TFrag.enc_eq] at hw
 simp only [jQ] at hw
 have n1:v.name.length ≤ 1048576:=by simp only [DC.wt] at hw; omega
 have n2:v.on'.length ≤ 1048576:=by simp only [DC.wt] at hw; omega
 have hD:=XD v.dirs (by omega)
 have hS:=j80 v.sels (by omega)
 rw [jaO]
 simp only [j4r,jr,jv,zb,zi,zs,zl,kR _ n1,kR _ n2,hD,hS,zr]
 unfold j1s
 generalize jX v.name=p1
 generalize jX v.on'=p2
 generalize (v.name == ([111,110]:List UInt8))=p3
 generalize pP v.dirs=p4
 generalize (zx v.sels && !v.sels.isEmpty)=p5
 cases p1 <;> cases p3 <;> cases p2 <;> cases p4 <;> cases p5 <;> simp
end Go.Proofs.QV
