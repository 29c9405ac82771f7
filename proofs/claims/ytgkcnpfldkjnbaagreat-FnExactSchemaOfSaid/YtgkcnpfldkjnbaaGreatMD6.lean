import Derived.Test.YtgkcnpfldkjnbaaGreatMD5
import Derived.WalkKit
import Derived.ProofKit
import Derived.OpenShut
import Derived.ShutString
import Derived.ChangeOld
import Derived.SizedLaws
import Derived.Test.YtgkcnpfldkjnbaaGreatMD2
import Derived.Deep.LoopGhost
/- The input reads as it did. -/
namespace Go.Proofs.QV
open Go
open _root_.Bool renaming and_eq_true → jd
open _root_.List renaming map_cons → jn, append_assoc → jq, mem_append → jv, length_cons → jl, length_nil → jk, length_append → jA
open Out renaming andThenB → ja
open _root_.Nat renaming lt_or_ge → jp
open _root_.Option.some renaming injEq → j8
open _root_.Prod.mk renaming injEq → j9
open _root_.Int renaming toNat_natCast → jb
theorem j2R {H:Type} {enc:TypeId × Value → H} {P:Program} (hl:laidOutB P=true) {W W':World} (hb:RowKit.Below W.heap.size W W'):∀ {ts:List TypeId} {vs:List Value} {ds:List (DataW H)} {ps:List MemPlace},
  (ts.all fun t=>P.readableRec t && Nat.blt t P.types.size)=true → DataW.TrodAll enc P W 0 (fun _=>true) true ts vs ds ps → DataW.TrodAll enc P W' 0 (fun b=>decide (b < W.heap.size)) true ts vs ds ps
 | [],[],[],ps,_,h=>h
 | t :: ts,v :: vs,d :: ds,ps,ht,⟨p,q,h1,h2,h3⟩=>by
  simp only [List.all_cons,jd] at ht
  obtain ⟨⟨k1,k2⟩,k3⟩:=ht
  refine ⟨p,q,RowKit.Below.trod hl k1 (by simpa [Nat.blt_eq] using k2) h1 hb ?_,j2R hl hb k3 h2,h3⟩
  obtain ⟨m,hm⟩:=h1
  exact DataW.trod_lt m _ _ _ hm
 | [],_ :: _,_,_,_,h=>h.elim
 | [],[],_ :: _,_,_,h=>h.elim
 | _ :: _,[],_,_,_,h=>h.elim
 | _ :: _,_ :: _,[],_,_,h=>h.elim
theorem jM {n:Int} (h1:-9223372036854775808 ≤ n) (h2:n ≤ 9223372036854775807):IntKind.i64.wrap n=n:=by
 rw [IntKind.wrap_i64]
 omega
set_option linter.unusedVariables false
set_option linter.unusedSimpArgs false
def Out.esc (o:Out):Prop:=∀ K,o.andThen K=o
theorem Out.esc_ret (v:List DC):(Out.ret v).esc:=fun _=>rfl
theorem Out.esc_ex (id:Nat) (v:List DC):(Out.ex id v).esc:=fun _=>rfl
theorem jO {F:List DC → Out} {v v':List DC} (h:F v = .norm v'):jK F v=jK F v':=by rw [j0v,h]; rfl
theorem j8H {F:List DC → Out} {v r:List DC} (h:F v = .ret r):jK F v = .ret r:=by rw [j0v,h]; rfl
theorem kH {F:List DC → Out} {v r:List DC} {id:Nat} (h:F v = .ex id r):jK F v = .ex id r:=by rw [j0v,h]; rfl
theorem j4L {F:List DC → Out} {v:List DC} {o:Out} (h:F v=o) (he:o.esc):jK F v=o:=by rw [j0v,h,he]
theorem Jd {F:List DC → Out} {st:Nat → List DC} {o:Out}:∀ (m i:Nat),(∀ j,i ≤ j → j < i + m → F (st j) = .norm (st (j + 1))) → jK F (st (i + m))=o → jK F (st i)=o
 | 0,i,_,h2=>by simpa using h2
 | m + 1,i,h1,h2=>by
  rw [jO (h1 i (Nat.le_refl _) (by omega))]
  refine Jd m (i + 1) (fun j hj hj'=>h1 j (by omega) (by omega)) ?_
  rw [show i + 1 + m=i + (m + 1) by omega]
  exact h2
def goF {α:Type} (p:α → Bool) (stop:Nat → α → Out) (fin:Out):Nat → List α → Out
 | _,[]=>fin
 | i,x :: xs=>if p x=true then stop i x else goF p stop fin (i + 1) xs
theorem j2U {α:Type} {l:List α} {st:Nat → List DC} {p:α → Bool} {stop:Nat → α → Out} {fin:Out} {F:List DC → Out}
  (hF:∀ (i:Nat) (hi:i < l.length),F (st i)=if p l[i]=true then stop i l[i] else .norm (st (i + 1)))
  (hs:∀ i x,(stop i x).esc) (hend:F (st l.length)=fin) (hfin:fin.esc):∀ (m i:Nat),i + m=l.length → jK F (st i)=goF p stop fin i (l.drop i)
 | 0,i,hi=>by
  have:i=l.length:=by omega
  subst this
  rw [List.drop_length,goF]
  exact j4L hend hfin
 | m + 1,i,hi=>by
  have hlt:i < l.length:=by omega
  rw [List.drop_eq_getElem_cons hlt,goF]
  by_cases hp:p l[i]=true
  ·rw [if_pos hp]
   exact j4L (by rw [hF i hlt,if_pos hp]) (hs _ _)
  ·rw [if_neg hp,jO (by rw [hF i hlt,if_neg hp])]
   exact j2U hF hs hend hfin m (i + 1) (by omega)
theorem V6 {α:Type} {l:List α} {st:Nat → List DC} {p:α → Bool} {stop:Nat → α → Out} {fin:Out} {F:List DC → Out}
  (hF:∀ (i:Nat) (hi:i < l.length),F (st i)=if p l[i]=true then stop i l[i] else .norm (st (i + 1)))
  (hs:∀ i x,(stop i x).esc) (hend:F (st l.length)=fin) (hfin:fin.esc):jK F (st 0)=goF p stop fin 0 l:=by
 have:=j2U hF hs hend hfin l.length 0 (by omega)
 rwa [List.drop_zero] at this
theorem jr {i n:Nat} (h:i < n) (hn:n ≤ 9223372036854775807):IntKind.i64.wrap ((i:Int) + 1)=((i + 1:Nat):Int):=by
 rw [jM (by omega) (by omega)]
 simp
theorem js {α:Type} {f:α → List DC} {l:List α} {i:Nat} (h:i < l.length):(l.map f).getD i []=f l[i]:=by
 rw [List.getD_eq_getElem?_getD,List.getElem?_map,List.getElem?_eq_getElem h]
 rfl
def KN (left:Int) (w:Nat):Int:=if left < (w:Int) then -1 else left - w
theorem jI {left:Int} {w:Nat} (h:left < (w:Int)):KN left w = -1:=if_pos h
theorem kj {left:Int} {w:Nat} (h:¬ left < (w:Int)):KN left w=left - w:=if_neg h
theorem j3W {α:Type} {enc:α → List DC} {vs:List α} {F:List DC → Out}
  (hF:∀ (i:Nat) (hi:i < vs.length) (left:Int),0 ≤ left → left ≤ 1048576 → F [.sl (vs.map enc),.i left,.i (i:Int)]=if left < (jP (enc vs[i]):Int) then .ret [.i (-1)] else .norm [.sl (vs.map enc),.i (left - jP (enc vs[i])),.i ((i + 1:Nat):Int)])
  (hend:∀ left,F [.sl (vs.map enc),.i left,.i (vs.length:Int)] = .ex 0 [.i left]) :
  ∀ (m i:Nat) (left:Int),i + m=vs.length → 0 ≤ left → left ≤ 1048576 → jK F [.sl (vs.map enc),.i left,.i (i:Int)]=if left < (wtV ((vs.drop i).map enc):Int) then .ret [.i (-1)] else .ex 0 [.i (left - wtV ((vs.drop i).map enc))]
 | 0,i,left,hi,h0,h1=>by
  have:i=vs.length:=by omega
  subst this
  rw [List.drop_length,kH (hend left)]
  simp only [List.map_nil,wtV]
  rw [if_neg (by omega)]
  simp
 | m + 1,i,left,hi,h0,h1=>by
  have hlt:i < vs.length:=by omega
  have hw:wtV ((vs.drop i).map enc)=jP (enc vs[i]) + wtV ((vs.drop (i + 1)).map enc):=by
   rw [List.drop_eq_getElem_cons hlt,jn,wtV]
  by_cases hc:left < (jP (enc vs[i]):Int)
  ·rw [j8H (by rw [hF i hlt left h0 h1,if_pos hc]),if_pos (by omega)]
  ·rw [jO (by rw [hF i hlt left h0 h1,if_neg hc]),j3W hF hend m (i + 1) _ (by omega) (by omega) (by omega),hw]
   by_cases h2:left - (jP (enc vs[i]):Int) < (wtV ((vs.drop (i + 1)).map enc):Int)
   ·rw [if_pos h2,if_pos (by omega)]
   ·rw [if_neg h2,if_neg (by omega)]
    congr 3
    omega
theorem K5 {α:Type} {enc:α → List DC} {vs:List α} {F:List DC → Out} (hl:vs.length ≤ 9223372036854775807)
  (hF:∀ (i:Nat) (hi:i < vs.length) (left:Int),0 ≤ left → left ≤ 1048576 → F [.sl (vs.map enc),.i left,.i (i:Int)]=if left < (jP (enc vs[i]):Int) then .ret [.i (-1)] else .norm [.sl (vs.map enc),.i (left - jP (enc vs[i])),.i ((i + 1:Nat):Int)])
  (hend:∀ left,F [.sl (vs.map enc),.i left,.i (vs.length:Int)] = .ex 0 [.i left]) {left:Int} (h0:0 ≤ left) (h1:left ≤ 1048576) :
  (if (decide ((IntKind.i64.wrap (left - (((vs.map enc).length:Nat):Int))) < (0:Int)))=true then Out.ret [DC.i (-1:Int)]
  else ja (jK F [DC.sl (vs.map enc),DC.i (IntKind.i64.wrap (left - (((vs.map enc).length:Nat):Int))),DC.i (0:Int)]) 0 fun v4=>.ret [DC.i ((v4.getD 0 d0).ii)]) = .ret [.i (KN left (DC.wt (.sl (vs.map enc))))]:=by
 rw [DC.wt,List.length_map,jM (by omega) (by omega)]
 by_cases hc:left - (vs.length:Int) < 0
 ·simp only [hc,decide_true,if_true]
  rw [jI (by omega)]
 ·simp only [hc,decide_false,Bool.false_eq_true,if_false]
  have:=j3W hF hend vs.length 0 (left - vs.length) (by omega) (by omega) (by omega)
  rw [List.drop_zero] at this
  rw [show (0:Int)=((0:Nat):Int) from rfl,this]
  by_cases h2:left - (vs.length:Int) < (wtV (vs.map enc):Int)
  ·rw [if_pos h2,jI (by omega)]
   rfl
  ·rw [if_neg h2,kj (by omega)]
   simp only [Out.andThenB_ex,if_true,List.getD_cons_zero,DC.ii_i]
   congr 3
   omega
theorem zC {α:Type} {enc:α → List DC} {vs:List α} {z:List DC} {F:List DC → Out} (hl:vs.length ≤ 1048576)
  (hF:∀ (i:Nat) (hi:i < vs.length) (cur:List (List DC)),cur.length=vs.length → cur.getD i []=z → F [.sl (vs.map enc),.sl cur,.i (i:Int)] = .norm [.sl (vs.map enc),.sl (cur.set i (enc vs[i])),.i ((i + 1:Nat):Int)])
  (hend:∀ cur,F [.sl (vs.map enc),.sl cur,.i (vs.length:Int)] = .ex 0 [.sl cur]) :
  jK F [.sl (vs.map enc),.sl (List.replicate vs.length z),.i ((0:Nat):Int)] = .ex 0 [.sl (vs.map enc)]:=by
 have hloop:jK F [.sl (vs.map enc),.sl (List.replicate vs.length z),.i ((0:Nat):Int)] = .ex 0 [.sl (vs.map enc)]:=by
  have h:=Jd (F:=F) (st:=fun i=>[.sl (vs.map enc),.sl ((vs.map enc).take i ++ List.replicate (vs.length - i) z),.i (i:Int)]) (o:=.ex 0 [.sl (vs.map enc)]) vs.length 0 (fun i _ hi=>by
   have hlt:i < vs.length:=by omega
   have hlen:((vs.map enc).take i ++ List.replicate (vs.length - i) z).length=vs.length:=by simp; omega
   have hgz:((vs.map enc).take i ++ List.replicate (vs.length - i) z).getD i []=z:=by
    rw [List.getD_eq_getElem?_getD,List.getElem?_append_right (by simp; omega),List.getElem?_replicate,if_pos (by simp; omega)]
    rfl
   have:=hF i hlt _ hlen hgz
   have hset:((vs.map enc).take i ++ List.replicate (vs.length - i) z).set i (enc vs[i])=(vs.map enc).take (i + 1) ++ List.replicate (vs.length - (i + 1)) z:=by
    have ht:(vs.map enc).take (i + 1)=(vs.map enc).take i ++ [enc vs[i]]:=by rw [List.take_add_one,List.getElem?_map,List.getElem?_eq_getElem hlt]; rfl
    rw [List.set_append_right _ _ (by simp; omega),ht]
    obtain ⟨m,hm⟩:∃ m,vs.length - i=m + 1:=⟨vs.length - i - 1,by omega⟩
    have hm2:vs.length - (i + 1)=m:=by omega
    have hm3:i - ((vs.map enc).take i).length=0:=by simp; omega
    rw [hm,hm2,hm3,List.replicate_succ]
    simp only [List.set_cons_zero,jq,List.singleton_append]
   rw [hset] at this
   exact this) (by
    have:=hend (vs.map enc)
    refine kH ?_
    have ht:(vs.map enc).take (0 + vs.length)=vs.map enc:=List.take_of_length_le (by simp)
    rw [ht]
    simpa using this)
  simpa using h
 exact hloop
theorem QY {n:Nat} (h:n ≤ 1048576):(n:Int) < (kC:Int):=by simp only [kC]; omega
theorem Kg {l:List (List DC)} {F:List DC → Out} (hF:∀ (i:Nat),i < l.length → F [.sl l,.sl l,.i (i:Int)] = .norm [.sl l,.sl l,.i ((i + 1:Nat):Int)]) (hend:F [.sl l,.sl l,.i (l.length:Int)] = .ex 0 []) :
  (if ((l.length:Int) != (l.length:Int))=true then Out.ret [DC.b false]
  else ja (jK F [DC.sl l,DC.sl l,DC.i (0:Int)]) 0 fun v4=>.ret [DC.b true]) = .ret [.b true]:=by
 have hloop:jK F [.sl l,.sl l,.i ((0:Nat):Int)] = .ex 0 [] :=
  Jd (st:=fun i=>[.sl l,.sl l,.i (i:Int)]) l.length 0 (fun j _ hj=>hF j (by omega)) (by rw [Nat.zero_add]; exact kH hend)
 rw [show (0:Int)=((0:Nat):Int) from rfl,hloop]
 simp
theorem zz0 {α:Type} {x:α} {l:List α} {d:α}:(x :: l).getD 0 d=x:=List.getD_cons_zero
theorem zz1 {α:Type} {x:α} {l:List α} {i:Nat} {d:α}:(x :: l).getD (i + 1) d=l.getD i d:=List.getD_cons_succ
@[simp] theorem zb (x:Bool):(DC.b x).bb=x:=rfl
@[simp] theorem zi (x:Int):(DC.i x).ii=x:=rfl
@[simp] theorem zs (x:List UInt8):(DC.s x).ss=x:=rfl
@[simp] theorem zl (x:List (List DC)):(DC.sl x).ll=x:=rfl
theorem zt (b:Bool):b=true ∨ b=false:=Bool.eq_false_or_eq_true b
theorem zm {α β:Type} (f:α → β) {l:List α}:(l.map f).length=l.length:=List.length_map f
theorem zf:(false=true)=False:=Bool.false_eq_true
section
variable {P:Program} {ty:Nat → Option TI}
end
section
variable {ty:Nat → Option TI}
theorem j6q {w w':World} {e n cap b off0:Nat} {ti:TI} {l:List (List DC)} {F:List Nat} (hte:ty e=some ti)
  (h:RdC ty w (.sl e) (.sl l) (.slice (some ⟨b,off0,none⟩) n cap) (b :: F)) (ho:Own w (b :: F)) (ix off:Nat) (hix:ix < l.length) (hoff:off < ti.cts.length)
  {t:CT} (ht:ti.cts[off]? = some t) (hflat:∀ e',t ≠ .sl e') {d:DC} {u:Value} (hd:∀ w':World,RdC ty w' t d u [])
  (hne:∀ c,c ≠ b → w'.heap[c]? = w.heap[c]?) (hce:∀ j y,w.cell? ⟨b,j,none⟩=some y → w'.cell? ⟨b,j,none⟩=some (if j=off0 + (ix * ti.cts.length + off) then u else y)) :
  RdC ty w' (.sl e) (.sl (l.set ix ((l.getD ix []).set off d))) (.slice (some ⟨b,off0,none⟩) n cap) (b :: F):=by
 cases h with
 | sl _ ti' _ _ _ _ _ vs _ h1 h0 h2 h3 h4 h5 h6 =>
  have:ti'=ti:=by rw [hte] at h1; exact (Option.some.inj h1).symm
  subst this
  have hnb:b ∉ F:=(List.nodup_cons.1 ho.nodup).1
  obtain ⟨x,v,F1,Fr,F2,e1,e2,e3,hx,hset⟩:=RdV.upd h6 ix hix
  obtain ⟨t',d1,u1,G1,Gc,G2,g1,g2,g3,g4,hc,hcell⟩:=RdL.upd hx off hoff
  have ett:t'=t:=by rw [ht] at g1; exact (Option.some.inj g1).symm
  subst ett
  have hGc:Gc=[]:=by
   cases hc with
   | b=>rfl
   | i=>rfl
   | s=>rfl
   | nil e'=>exact absurd rfl (hflat e')
   | sl e'=>exact absurd rfl (hflat e')
  subst hGc
  have hoth:∀ c ∈ F,w'.heap[c]? = w.heap[c]?:=fun c hc=>hne c (fun e=>hnb (e ▸ hc))
  have hlx:l.getD ix []=x:=by rw [List.getD_eq_getElem?_getD,e1]; rfl
  have hrow:=hcell w' d u [] (fun c hc=>hoth c (by rw [e3,g4]; simp only [jv] at hc ⊢; rcases hc with hc | hc <;> simp [hc])) (hd _)
  have hall:=hset w' (x.set off d) (v.set off u) (G1 ++ ([] ++ G2)) (fun c hc=>hoth c (by rw [e3]; simp only [jv] at hc ⊢; rcases hc with hc | hc <;> simp [hc])) hrow
  have hF:F1 ++ ((G1 ++ ([] ++ G2)) ++ F2)=F:=by rw [e3,g4]
  rw [hF] at hall
  have hvs:vs.length=l.length * ti'.cts.length:=RdV.length h6
  have hv:v.length=ti'.cts.length:=(RdL.length hx).1
  have hm:ix * ti'.cts.length + ti'.cts.length ≤ vs.length:=by rw [hvs,← Nat.succ_mul]; exact Nat.mul_le_mul_right _ hix
  have hsame:vs.take (ix * ti'.cts.length) ++ (v.set off u ++ vs.drop (ix * ti'.cts.length + ti'.cts.length))=vs.set (ix * ti'.cts.length + off) u:=by
   apply List.ext_getElem?
   intro j
   rw [List.getElem?_append,List.getElem?_append,List.length_take,List.length_set,hv,List.getElem?_set,List.getElem?_set]
   subst e2
   by_cases j1:j < min (ix * ti'.cts.length) vs.length
   ·rw [if_pos j1,List.getElem?_take_of_lt (by omega),if_neg (by omega)]
   ·rw [if_neg j1]
    by_cases j2:j - min (ix * ti'.cts.length) vs.length < ti'.cts.length
    ·rw [if_pos j2]
     by_cases j3:j=ix * ti'.cts.length + off
     ·rw [if_pos (by omega),if_pos (by omega),if_pos (by omega),if_pos (by omega)]
     ·rw [if_neg (by omega),if_neg (by omega),List.getElem?_take_of_lt (by omega),List.getElem?_drop]
      congr 1
      omega
    ·rw [if_neg j2,if_neg (by omega),List.getElem?_drop]
     congr 1
     omega
  rw [hsame] at hall
  rw [hlx]
  refine .sl e ti' b off0 n cap _ _ F hte h0 (by rw [List.length_set]; exact h2) (by intro e0; exact h3 (List.length_eq_zero_iff.1 (by rw [← List.length_set (i:=ix) (a:=x.set off d),e0]; rfl))) h4 (fun j y hy=>?_) hall
  rw [List.getElem?_set] at hy
  by_cases j1:ix * ti'.cts.length + off=j
  ·rw [if_pos j1] at hy
   subst j1
   have hlt:ix * ti'.cts.length + off < vs.length:=by omega
   rw [if_pos hlt] at hy
   have:=Option.some.inj hy
   subst this
   have:=hce _ _ (h5 _ _ (List.getElem?_eq_getElem hlt))
   rw [if_pos rfl] at this
   exact this
  ·rw [if_neg j1] at hy
   have:=hce _ _ (h5 _ _ hy)
   rw [if_neg (by omega)] at this
   exact this
end
section
variable {ty:Nat → Option TI}
theorem j0S {w:World} {e n cap b off0:Nat} {ti:TI} {l:List (List DC)} {F:List Nat} (hte:ty e=some ti)
  (h:RdC ty w (.sl e) (.sl l) (.slice (some ⟨b,off0,none⟩) n cap) (b :: F)) (ho:Own w (b :: F)) (ix off:Nat) (hix:ix < l.length) (hoff:off < ti.cts.length) :
  ∃ t d u G,ti.cts[off]? = some t ∧ (l.getD ix []).getD off d0=d ∧ w.cell? ⟨b,off0 + (ix * ti.cts.length + off),none⟩=some u ∧ RdC ty w t d u G ∧ (∀ c ∈ G,c ∈ F) ∧ Own w G ∧
   ∀ (w':World) (d':DC),(∀ c ∈ b :: F,c ∉ G → w'.heap[c]? = w.heap[c]?) → RdC ty w' t d' u G →
    RdC ty w' (.sl e) (.sl (l.set ix ((l.getD ix []).set off d'))) (.slice (some ⟨b,off0,none⟩) n cap) (b :: F):=by
 cases h with
 | sl _ ti' _ _ _ _ _ vs _ h1 h0 h2 h3 h4 h5 h6 =>
  have:ti'=ti:=by rw [hte] at h1; exact (Option.some.inj h1).symm
  subst this
  have hnb:b ∉ F:=(List.nodup_cons.1 ho.nodup).1
  have hnF:F.Nodup:=(List.nodup_cons.1 ho.nodup).2
  obtain ⟨x,v,F1,Fr,F2,e1,e2,e3,hx,hset⟩:=RdV.upd h6 ix hix
  obtain ⟨t,d,u,G1,G,G2,g1,g2,g3,g4,hc,hcell⟩:=RdL.upd hx off hoff
  have hlx:l.getD ix []=x:=by rw [List.getD_eq_getElem?_getD,e1]; rfl
  have hGF:∀ c ∈ G,c ∈ F:=fun c hc=>by rw [e3,g4]; simp [hc]
  rw [e3,g4] at hnF
  have n1:=List.nodup_append.1 hnF
  have n2:=List.nodup_append.1 n1.2.1
  have n3:=List.nodup_append.1 n2.1
  have n4:=List.nodup_append.1 n3.2.1
  have hvs:vs.length=l.length * ti'.cts.length:=RdV.length h6
  have hv:v.length=ti'.cts.length:=(RdL.length hx).1
  have hm:ix * ti'.cts.length + ti'.cts.length ≤ vs.length:=by rw [hvs,← Nat.succ_mul]; exact Nat.mul_le_mul_right _ hix
  have hat:vs[ix * ti'.cts.length + off]? = some u:=by
   rw [← g3,← e2,List.getElem?_take_of_lt hoff,List.getElem?_drop]
  refine ⟨t,d,u,G,g1,by rw [hlx,List.getD_eq_getElem?_getD,g2]; rfl,h5 _ _ hat,hc,hGF,⟨n4.1,fun c hc=>ho.open' c (List.mem_cons_of_mem _ (hGF c hc))⟩,fun w' d' hsame hd=>?_⟩
  have hrow:=hcell w' d' u G (fun c hc=>hsame c (by rw [e3,g4]; simp only [jv,List.mem_cons] at hc ⊢; rcases hc with hc | hc <;> simp [hc]) (fun hG=>by
   rcases List.mem_append.1 hc with hc | hc
   ·exact n3.2.2 c hc c (List.mem_append.2 (.inl hG)) rfl
   ·exact n4.2.2 c hG c hc rfl)) hd
  have hall:=hset w' (x.set off d') (v.set off u) (G1 ++ (G ++ G2)) (fun c hc=>hsame c (by rw [e3]; simp only [jv,List.mem_cons] at hc ⊢; rcases hc with hc | hc <;> simp [hc]) (fun hG=>by
   have hGr:c ∈ G1 ++ (G ++ G2):=by simp [hG]
   rcases List.mem_append.1 hc with hc | hc
   ·exact n1.2.2 c hc c (List.mem_append.2 (.inl hGr)) rfl
   ·exact n2.2.2 c hGr c hc rfl)) hrow
  have hF:F1 ++ ((G1 ++ (G ++ G2)) ++ F2)=F:=by rw [e3,g4]
  rw [hF] at hall
  have hvset:v.set off u=v:=by
   apply List.ext_getElem?
   intro j
   rw [List.getElem?_set]
   by_cases e:off=j
   ·subst e; rw [if_pos rfl,if_pos (by omega),g3]
   ·rw [if_neg e]
  have hvv:vs.take (ix * ti'.cts.length) ++ (v ++ vs.drop (ix * ti'.cts.length + ti'.cts.length))=vs:=by
   rw [← e2,← List.drop_drop,List.take_append_drop,List.take_append_drop]
  rw [hvset,hvv] at hall
  rw [hlx]
  exact .sl e ti' b off0 n cap _ _ F hte h0 (by rw [List.length_set]; exact h2) (by intro e0; exact h3 (List.length_eq_zero_iff.1 (by rw [← List.length_set (i:=ix) (a:=x.set off d'),e0]; rfl))) h4
   (fun j y hy=>by rw [World.cell?_of_block (w:=w) (hsame b (by simp) (fun hG=>hnb (hGF b hG)))]; exact h5 j y hy) hall
end
inductive AV where
 | u | arr | len | idx | idx1 | lt | k | k1 | km | kb | txt | kr
 | ea (off:Nat)
 | part (off:Nat)
deriving DecidableEq
inductive MA where
 | txt (off:Nat)
 | bool (off:Nat)
 | int (off:Nat)
 | sub (off f:Nat)
 | inc
 | upd
structure MC where
 ty:Nat → Option TI
 e:Nat
 cts:List CT
 tf:Nat
 mt:Nat → Option Nat
def Vs (tm:List AV) (dst:Option Tmp) (x:AV):List AV :=
 match dst with
 | some d=>tm.set d x
 | none=>tm
def AV.kill:AV → AV
 | .part _=>.u
 | .kr=>.u
 | x=>x
def QA (tm:List AV):Operand → AV
 | .tmp t=>tm.getD t .u
 | _=>.u
def isC (n:Int):Operand → Bool
 | .const (.int .i64 m)=>decide (m=n)
 | _=>false
def j4A:CT → CT → Bool
 | .s,.s=>true
 | .b,.b=>true
 | .i .i64,.i .i64=>true
 | _,_=>false
def j8j (cts:List CT) (off e':Nat):Bool :=
 match cts[off]? with
 | some (.sl e2)=>Nat.beq e2 e'
 | _=>false
def j4H (c:MC) (body:Bool) (tm:List AV) (o:Oper):Option (List AV × Option MA) :=
 match o.guard with
 | some _=>none
 | none =>
 match o.op with
 | .move x=>some (Vs tm o.dst (QA tm x),none)
 | .assign x=>some (Vs tm o.dst (QA tm x),none)
 | .binOp op _ x y _ =>
  match op with
  | .lss=>if QA tm x = .idx ∧ QA tm y = .len then some (Vs tm o.dst .lt,none) else none
  | .add =>
   if QA tm x = .k ∧ isC 1 y=true then some (Vs tm o.dst .k1,none)
   else if QA tm x = .idx ∧ isC 1 y=true then some (Vs tm o.dst .idx1,none) else none
  | .rem=>if QA tm x = .k ∧ isC 3 y=true then some (Vs tm o.dst .km,none) else none
  | .eql=>if QA tm x = .km ∧ isC 0 y=true then some (Vs tm o.dst .kb,none) else none
  | _=>none
 | .indexAddr t x i=>if body=true ∧ yd (c.ty t)=some c.e ∧ QA tm x = .arr ∧ QA tm i = .idx then some (Vs tm o.dst (.ea 0),none) else none
 | .fieldAddr t x j =>
  match c.ty t,QA tm x with
  | some ti,.ea off =>
   match ti.flds[j]? with
   | some (o',n,_)=>if 0 < n ∧ jL (some ti)=true then some (Vs tm o.dst (.ea (off + o')),none) else none
   | none=>none
  | _,_=>none
 | .load t x =>
  match c.ty t,QA tm x with
  | some ti,.ea off=>if off < c.cts.length ∧ jL (some ti)=false then some (Vs tm o.dst (.part off),none) else none
  | _,_=>none
 | .store t x y =>
  match o.dst,c.ty t,QA tm x with
  | none,some ti,.ea off =>
   match ti.cts,c.cts[off]?,QA tm y with
   | [t1],some t2,.txt=>if j4A t1 t2=true ∧ j4A t2 .s=true then some (tm.map AV.kill,some (.txt off)) else none
   | [t1],some t2,.kb=>if j4A t1 t2=true ∧ j4A t2 .b=true then some (tm.map AV.kill,some (.bool off)) else none
   | [t1],some t2,.k=>if j4A t1 t2=true ∧ j4A t2 (.i .i64)=true then some (tm.map AV.kill,some (.int off)) else none
   | _,_,_=>none
  | _,_,_=>none
 | .call cc =>
  match cc.callee with
  | .builtin .len =>
   match cc.args.toList,cc.argTypes.toList with
   | [x],[t]=>if QA tm x = .arr ∧ yd (c.ty t)=some c.e then some (Vs tm o.dst .len,none) else none
   | _,_=>none
  | .value (.func f) =>
   match cc.args.toList with
   | [x]=>if f=c.tf ∧ QA tm x = .k then some (Vs (tm.map AV.kill) o.dst .txt,none) else none
   | [x,y] =>
    match c.mt f,QA tm x with
    | some e',.part off=>if j8j c.cts off e'=true ∧ QA tm y = .k then some (Vs (tm.map AV.kill) o.dst .kr,some (.sub off f)) else none
    | _,_=>none
   | _=>none
  | _=>none
 | _=>none
def Kh (c:MC) (body:Bool):List Oper → List AV → List MA → Option (List AV × List MA)
 | [],tm,acc=>some (tm,acc)
 | o :: os,tm,acc =>
  match j4H c body tm o with
  | some (tm',none)=>Kh c body os tm' acc
  | some (tm',some m)=>(match acc with | []=>Kh c body os tm' [m] | _=>none)
  | none=>none
structure MD where
 l:List (List DC)
 k:Int
 r:Int
def j1y (l:List (List DC)) (i off:Nat) (d:DC):List (List DC):=l.set i ((l.getD i []).set off d)
def zz (T:Int → Option (List UInt8)) (rec:Nat → List (List DC) → Int → Option (List (List DC) × Int)) (i:Nat):MA → MD → Option MD
 | .txt off,d =>
  match T d.k with
  | some s=>some { d with l:=j1y d.l i off (.s s) }
  | none=>none
 | .bool off,d=>some { d with l:=j1y d.l i off (.b (d.k % 3 == 0)) }
 | .int off,d=>some { d with l:=j1y d.l i off (.i d.k) }
 | .sub off f,d =>
  match rec f ((d.l.getD i []).getD off d0).ll d.k with
  | some (l',k')=>some { d with l:=j1y d.l i off (.sl l'),r:=k' }
  | none=>none
 | .inc,d=>if d.k + 1 < 4611686018427387904 then some { d with k:=d.k + 1 } else none
 | .upd,d=>if 0 ≤ d.r ∧ d.r < 4611686018427387904 then some { d with k:=d.r } else none
def pj (T:Int → Option (List UInt8)) (rec:Nat → List (List DC) → Int → Option (List (List DC) × Int)) (i:Nat):List MA → MD → Option MD
 | [],d=>some d
 | m :: ms,d =>
  match zz T rec i m d with
  | some d'=>pj T rec i ms d'
  | none=>none
section
variable {P:Program} {ty:Nat → Option TI}
def gaV (T:Int → Option (List UInt8)) (sz:Nat) (v:Value) (i n:Nat) (k r:Int) (w:World):AV → Value → Prop
 | .u,_=>True
 | .arr,u=>u=v
 | .len,u=>u = .int .i64 (n:Int)
 | .idx,u=>u = .int .i64 (i:Int)
 | .idx1,u=>u = .int .i64 ((i:Int) + 1)
 | .lt,u=>u = .bool (decide (i < n))
 | .k,u=>u = .int .i64 k
 | .k1,u=>u = .int .i64 (k + 1)
 | .km,u=>u = .int .i64 (k % 3)
 | .kb,u=>u = .bool (k % 3 == 0)
 | .txt,u=>∀ s,T k=some s → u = .string ⟨s.toArray⟩
 | .kr,u=>u = .int .i64 r
 | .ea off,u=>∃ b o cap,v = .slice (some ⟨b,o,none⟩) n cap ∧ i < n ∧ u = .pointer (some ⟨b,o + (i * sz + off),none⟩)
 | .part off,u=>∃ b o cap,v = .slice (some ⟨b,o,none⟩) n cap ∧ i < n ∧ w.cell? ⟨b,o + (i * sz + off),none⟩=some u
structure MS (c:MC) (T:Int → Option (List UInt8)) (v:Value) (F:List Nat) (w0:World) (i n:Nat) (tm:List AV) (d:MD) (a:Act) (w:World):Prop where
 len:tm.length=a.tmps.size
 sl:∀ (t:Nat) (x:AV) (u:Value),tm[t]? = some x → a.tmps[t]? = some u → gaV T c.cts.length v i n d.k d.r w x u
 rd:RdC c.ty w (.sl c.e) (.sl d.l) v F
 own:Own w F
 wr:Wrote w0 w F
 df:a.defers=[]
 ln:d.l.length=n
 nb:n < 4611686018427387904
 ib:i ≤ n
 kb:0 ≤ d.k ∧ d.k < 4611686018427387904
theorem Wrote.refl (w:World) (F:List Nat):Wrote w w F:=⟨rfl,rfl,rfl,Nat.le_refl _,fun _ _ _=>rfl,fun b _ cs t h=>⟨cs,h,rfl⟩⟩
theorem Wrote.trans {w w1 w2:World} {F G:List Nat} (h:Wrote w w1 F) (k:Wrote w1 w2 G) (hG:∀ b ∈ G,b ∈ F):Wrote w w2 F where
 os:=k.os.trans h.os
 tape:=k.tape.trans h.tape
 output:=k.output.trans h.output
 size:=Nat.le_trans h.size k.size
 block b hb hF:=(k.block b (Nat.lt_of_lt_of_le hb h.size) fun hg=>hF (hG b hg)).trans (h.block b hb hF)
 shape b hb cs t hc:=by
  obtain ⟨cs1,h1,h2⟩:=h.shape b hb cs t hc
  by_cases hg:b ∈ G
  ·obtain ⟨cs2,h3,h4⟩:=k.shape b hg cs1 t h1
   exact ⟨cs2,h3,by rw [h4,h2]⟩
  ·exact ⟨cs1,by rw [k.block b (kU h1) hg]; exact h1,h2⟩
theorem Own.wrote {w w':World} {F G:List Nat} (h:Own w F) (k:Wrote w w' G):Own w' F :=
 ⟨h.nodup,fun b hb=>by
  obtain ⟨cs,t,hc⟩:=h.open' b hb
  by_cases hg:b ∈ G
  ·obtain ⟨cs',h1,_⟩:=k.shape b hg cs t hc
   exact ⟨cs',t,h1⟩
  ·exact ⟨cs,t,by rw [k.block b (kU hc) hg]; exact hc⟩⟩
variable {c:MC} {T:Int → Option (List UInt8)} {rec:Nat → List (List DC) → Int → Option (List (List DC) × Int)} {v:Value} {F:List Nat} {w0:World} {i n:Nat} {tm:List AV} {d:MD} {a:Act} {w:World} {o:Oper} {Q:Exit → Act → World → Prop}
theorem MS.av (h:MS c T v F w0 i n tm d a w) (x:Operand):gaV T c.cts.length v i n d.k d.r w (QA tm x) (a.eval x):=by
 cases x with
 | tmp t =>
  show gaV T c.cts.length v i n d.k d.r w (tm.getD t .u) (a.tmps.getD t undef)
  rw [List.getD_eq_getElem?_getD,Array.getD_eq_getD_getElem?]
  cases h1:tm[t]? with
  | none=>trivial
  | some x =>
   have h2:t < tm.length:=by
    rcases jp t tm.length with h' | h'
    ·exact h'
    ·simp [List.getElem?_eq_none h'] at h1
   have h3:t < a.tmps.size:=by rw [← h.len]; exact h2
   have h4:a.tmps[t]? = some a.tmps[t]:=Array.getElem?_eq_getElem h3
   rw [h4]
   exact h.sl t x _ h1 h4
 | const _=>trivial
 | global _=>trivial
 | func _=>trivial
theorem MS.put (h:MS c T v F w0 i n tm d a w) (dst:Option Tmp) {x:AV} {u:Value} (hx:gaV T c.cts.length v i n d.k d.r w x u):MS c T v F w0 i n (Vs tm dst x) d (a.put dst u) w:=by
 cases dst with
 | none=>exact h
 | some t =>
  refine { h with len:=by simpa [Vs,Act.put] using h.len,sl:=fun i' y z h1 h2=>?_,df:=h.df }
  simp only [Vs,Act.put] at h1 h2
  by_cases hd:t=i'
  ·subst hd
   rw [List.getElem?_set] at h1
   rw [Array.getElem?_setIfInBounds] at h2
   by_cases hl:t < tm.length
   ·have hl':t < a.tmps.size:=h.len ▸ hl
    simp [hl] at h1
    simp [hl'] at h2
    subst h1
    subst h2
    exact hx
   ·simp [hl] at h1
  ·rw [List.getElem?_set_ne hd] at h1
   rw [Array.getElem?_setIfInBounds_ne hd] at h2
   exact h.sl i' y z h1 h2
theorem gaV.kill {k r r':Int} {w w':World} {x:AV} {u:Value} {sz:Nat} (h:gaV T sz v i n k r w x u):gaV T sz v i n k r' w' x.kill u:=by
 cases x with
 | part off=>trivial
 | kr=>trivial
 | _=>exact h
end
section
variable {P:Program}
structure MCok (P:Program) (c:MC) (T:Int → Option (List UInt8)) (rec:Nat → List (List DC) → Int → Option (List (List DC) × Int)):Prop where
 ty:pH P c.ty
 te:∃ ti,c.ty c.e=some ti ∧ ti.cts=c.cts
 fd:∀ f,f=c.tf ∨ (∃ e',c.mt f=some e') → ∃ fd,P.funcs[f]? = some fd ∧ (fd.name == "runtime.NumGoroutine")=false ∧ fd.body.isNone=false
 tfc:∀ k s w,0 ≤ k → k < 4611686018427387904 → T k=some s → Calls P c.tf #[.int .i64 k] w fun en w'=>en = .returned (.string ⟨s.toArray⟩) ∧ RowKit.Below w.heap.size w w'
 tfs:∀ k,0 ≤ k → k < 4611686018427387904 → ∃ s,T k=some s
 mtc:∀ f e',c.mt f=some e' → ∀ w v l k l' k' F,RdC c.ty w (.sl e') (.sl l) v F → Own w F → 0 ≤ k → k < 4611686018427387904 → rec f l k=some (l',k') →
  Calls P f #[v,.int .i64 k] w fun en w'=>en = .returned (.int .i64 k') ∧ Wrote w w' F ∧ RdC c.ty w' (.sl e') (.sl l') v F
variable {c:MC} {T:Int → Option (List UInt8)} {rec:Nat → List (List DC) → Int → Option (List (List DC) × Int)} {v:Value} {F:List Nat} {w0:World} {i n:Nat} {tm:List AV} {d:MD} {a:Act} {w:World} {o:Oper} {Q:Exit → Act → World → Prop}
theorem Yx {g:Gh} {H:List HS} {ty:Nat → Option TI} (op:BinOp) (t yt:TypeId) (x y:Operand) (ho:o.op = .binOp op t x y yt) {m k:Int} (hx:a.eval x = .int .i64 m) (hy:a.eval y = .int .i64 k) {u:Value}
  (hu:(binOp op t (.int .i64 m) (.int .i64 k)).run P w = .ok u w) {K:Act → World → Prop} (hk:K (a.put o.dst u) w):o.wp P a w K Q:=by
 refine jE (v:=u) (w':=w) ?_ hk
 simp only [execOp,ho]
 rw [hx,hy,Sem.run_bind,Sem.run_bind,ZY]
 show ((binOp op t (.int .i64 m) (.int .i64 k)).run P w).andThen _=_
 rw [hu]
 rfl
theorem j3q {x:Operand} {n:Int} (h:isC n x=true):a.eval x = .int .i64 n:=by
 unfold isC at h
 split at h
 ·rename_i m
  rw [show m=n from by simpa using h]
  rfl
 ·simp at h
theorem MS.there (h:MS c T v F w0 i n tm d a w) {b o cap:Nat} (hv:v = .slice (some ⟨b,o,none⟩) n cap) (hi:i < n):∃ F',F=b :: F':=by
 have hr:=h.rd
 have hl:=h.ln
 rw [hv] at hr
 generalize d.l=l at hr hl
 cases hr with
 | nil=>simp at hl; omega
 | sl=>exact ⟨_,rfl⟩
theorem MS.store (hc:MCok P c T rec) (h:MS c T v F w0 i n tm d a w) {off t:Nat} {x y:Operand} {ti:TI} {t1 t2:CT} (ho:o.op = .store t x y) (hdst:o.dst=none) (ht:c.ty t=some ti) (hct:ti.cts=[t1]) (ht2:c.cts[off]? = some t2)
  (hx:QA tm x = .ea off) {dd:DC} (hfl:∀ e',t2 ≠ .sl e') (hd:∀ w':World,RdC c.ty w' t2 dd (a.eval y) []) :
  o.wp P a w (fun a' w'=>MS c T v F w0 i n (tm.map AV.kill) { d with l:=j1y d.l i off dd } a' w') Q:=by
 have hea:=h.av x
 rw [hx] at hea
 obtain ⟨b,o0,cap,hv,hi,he⟩:=hea
 obtain ⟨F',rfl⟩:=h.there hv hi
 obtain ⟨te,hte,hcts⟩:=hc.te
 have hlt:i < d.l.length:=by rw [h.ln]; exact hi
 have hoff:off < c.cts.length:=by
  rcases jp off c.cts.length with h' | h'
  ·exact h'
  ·simp [List.getElem?_eq_none h'] at ht2
 obtain ⟨cur,t0,hcur⟩:=h.own.open' b (by simp)
 have hone:=(hd w).one
 have htk:=hc.ty t ti ht
 have hrd:=h.rd
 rw [hv] at hrd
 have hcell:∃ y0,w.cell? ⟨b,o0 + (i * te.cts.length + off),none⟩=some y0:=by
  obtain ⟨_,_,u,_,_,_,hu,_⟩:=j0S hte hrd h.own i off hlt (by rw [hcts]; exact hoff)
  exact ⟨u,hu⟩
 obtain ⟨y0,hy0⟩:=hcell
 have hsz:o0 + (i * te.cts.length + off) < cur.size:=by
  simp only [World.cell?,hcur] at hy0
  rw [if_neg (by simp)] at hy0
  exact (Array.getElem?_eq_some_iff.1 hy0).1
 have hrun:=Ys htk w b (o0 + (i * te.cts.length + off)) t0 cur (a.eval y) [a.eval y] (hd w).cells (by rw [hct]; rfl) hcur (by simp only [jl,jk]; omega) (fun u hu=>by
  simp only [List.mem_singleton] at hu
  subst hu
  exact hone)
 generalize hW:w.setRow b (cur.toList.take (o0 + (i * te.cts.length + off)) ++ [a.eval y] ++ cur.toList.drop (o0 + (i * te.cts.length + off) + [a.eval y].length)).toArray=w' at hrun
 have hne:∀ k,k ≠ b → w'.heap[k]? = w.heap[k]?:=fun k hk=>by rw [← hW]; exact setRow_other _ _ _ _ hk
 have hb':w'.heap[b]? = some (.cells (cur.toList.take (o0 + (i * te.cts.length + off)) ++ [a.eval y] ++ cur.toList.drop (o0 + (i * te.cts.length + off) + [a.eval y].length)).toArray t0 (0,0)):=by
  rw [← hW]; exact setRow_heap _ _ _ _ _ _ hcur
 have hwr:Wrote w w' (b :: F'):=by
  refine ⟨by rw [← hW]; rfl,by rw [← hW]; rfl,by rw [← hW]; rfl,by rw [← hW]; simp [World.setRow],fun k _ hk=>hne k fun e=>hk (by simp [e]),fun k hk cs t hcs=>?_⟩
  by_cases hkb:k=b
  ·subst hkb
   rw [hcur] at hcs
   simp only [j8,Obj.cells.injEq] at hcs
   obtain ⟨rfl,rfl,_⟩:=hcs
   refine ⟨_,hb',?_⟩
   simp only [List.size_toArray,jA,List.length_take,List.length_drop,Array.length_toList,jl,jk]
   omega
  ·exact ⟨cs,by rw [hne k hkb]; exact hcs,rfl⟩
 have hce:∀ j y1,w.cell? ⟨b,j,none⟩=some y1 → w'.cell? ⟨b,j,none⟩=some (if j=o0 + (i * te.cts.length + off) then a.eval y else y1):=by
  intro j y1 hj
  simp only [World.cell?,hcur] at hj
  rw [if_neg (by simp)] at hj
  have hjs:=(Array.getElem?_eq_some_iff.1 hj).1
  simp only [World.cell?,hb']
  rw [if_neg (by simp),List.getElem?_toArray]
  rw [← Array.getElem?_toList] at hj
  by_cases h1:j < o0 + (i * te.cts.length + off)
  ·rw [if_neg (by omega),jq,List.getElem?_append_left (by simp; omega),List.getElem?_take,if_pos h1]
   exact hj
  ·by_cases h2:j=o0 + (i * te.cts.length + off)
   ·rw [if_pos h2,jq,List.getElem?_append_right (by simp; omega)]
    have:j - (List.take (o0 + (i * te.cts.length + off)) cur.toList).length=0:=by simp; omega
    rw [this]
    rfl
   ·rw [if_neg h2,jq,List.getElem?_append_right (by simp; omega),List.getElem?_append_right (by simp; omega),List.getElem?_drop]
    rw [← hj]
    congr 1
    simp
    omega
 have hnew:=j6q hte hrd h.own i off hlt (by rw [hcts]; exact hoff) (t:=t2) (by rw [hcts]; exact ht2) hfl hd hne hce
 refine j0x (w':=w') ?_ ?_
 ·rw [hcts] at hrun
  simp [execOp,ho,Instr.storeAt,he,Instr.sureAddr,hrun]
 ·rw [hdst]
  refine ⟨by simpa [Act.put] using h.len,fun t' x' u h1 h2=>?_,by rw [hv]; exact hnew,h.own.wrote hwr,h.wr.trans hwr fun _ h=>h,h.df,by simp [j1y,h.ln],h.nb,h.ib,h.kb⟩
  simp only [Act.put] at h2
  rw [List.getElem?_map] at h1
  cases hx':tm[t']? with
  | none=>rw [hx'] at h1; simp at h1
  | some z =>
   rw [hx'] at h1
   simp only [Option.map_some,j8] at h1
   subst h1
   exact (h.sl t' z u hx' h2).kill
theorem j3A {x y:CT} (h:j4A x y=true):x=y ∧ (x = .s ∨ x = .b ∨ x = .i .i64):=by
 unfold j4A at h
 split at h <;> first | (simp at h; done) | exact ⟨rfl,by simp⟩
theorem RdC.isSl {ty:Nat → Option TI} {w:World} {e:Nat} {x:DC} {u:Value} {G:List Nat} (h:RdC ty w (.sl e) x u G):∃ l,x = .sl l:=by
 cases h <;> exact ⟨_,rfl⟩
theorem YV (hc:MCok P c T rec) (h:MS c T v F w0 i n tm d a w) {tm':List AV} {m:Option MA} {d':MD} {body:Bool} (e:j4H c body tm o=some (tm',m)) (hbody:body=true → i < n) (hd:(match m with | some m=>zz T rec i m d | none=>some d)=some d') :
  o.guard=none ∧ o.wp P a w (fun a' w'=>MS c T v F w0 i n tm' d' a' w') Q:=by
 unfold j4H at e
 split at e
 ·simp at e
 rename_i hg
 refine ⟨hg,?_⟩
 split at e
 ·-- move
  rename_i x ho
  simp only [j8,j9] at e
  obtain ⟨rfl,rfl⟩:=e
  simp only [j8] at hd
  subst hd
  exact jE (v:=a.eval x) (w':=w) (by simp [execOp,ho]) (h.put o.dst (h.av x))
 ·-- assign
  rename_i x ho
  simp only [j8,j9] at e
  obtain ⟨rfl,rfl⟩:=e
  simp only [j8] at hd
  subst hd
  exact jE (v:=a.eval x) (w':=w) (by simp [execOp,ho]) (h.put o.dst (h.av x))
 ·-- numbers
  rename_i op t x y yt ho
  have hx:=h.av x
  have hy:=h.av y
  have hkb:=h.kb
  have hnb:=h.nb
  split at e
  ·split at e
   ·rename_i hcnd
    simp only [j8,j9] at e
    obtain ⟨rfl,rfl⟩:=e
    simp only [j8] at hd
    subst hd
    rw [hcnd.1] at hx
    rw [hcnd.2] at hy
    refine Yx (g:=⟨fun _=>False,fun _=>0,fun _=>undef,fun _ _=>False⟩) (H:=[]) (ty:=c.ty) .lss t yt x y ho hx hy (u:=.bool (decide (i < n))) ?_ (h.put o.dst rfl)
    simp [binOp,Op.intCmp]
   ·simp at e
  ·split at e
   ·rename_i hcnd
    simp only [j8,j9] at e
    obtain ⟨rfl,rfl⟩:=e
    simp only [j8] at hd
    subst hd
    rw [hcnd.1] at hx
    refine Yx (g:=⟨fun _=>False,fun _=>0,fun _=>undef,fun _ _=>False⟩) (H:=[]) (ty:=c.ty) .add t yt x y ho hx (j3q hcnd.2) (u:=.int .i64 (d.k + 1)) ?_ (h.put o.dst rfl)
    have hw:IntKind.i64.wrap (d.k + 1)=d.k + 1:=jM (by omega) (by omega)
    simp [binOp,Op.intArith,hw]
   ·split at e
    ·rename_i hcnd
     simp only [j8,j9] at e
     obtain ⟨rfl,rfl⟩:=e
     simp only [j8] at hd
     subst hd
     rw [hcnd.1] at hx
     have hib:=h.ib
     refine Yx (g:=⟨fun _=>False,fun _=>0,fun _=>undef,fun _ _=>False⟩) (H:=[]) (ty:=c.ty) .add t yt x y ho hx (j3q hcnd.2) (u:=.int .i64 ((i:Int) + 1)) ?_ (h.put o.dst rfl)
     have hw:IntKind.i64.wrap ((i:Int) + 1)=(i:Int) + 1:=jM (by omega) (by omega)
     simp [binOp,Op.intArith,hw]
    ·simp at e
  ·split at e
   ·rename_i hcnd
    simp only [j8,j9] at e
    obtain ⟨rfl,rfl⟩:=e
    simp only [j8] at hd
    subst hd
    rw [hcnd.1] at hx
    refine Yx (g:=⟨fun _=>False,fun _=>0,fun _=>undef,fun _ _=>False⟩) (H:=[]) (ty:=c.ty) .rem t yt x y ho hx (j3q hcnd.2) (u:=.int .i64 (d.k % 3)) ?_ (h.put o.dst rfl)
    have hw:Int.tmod d.k 3=d.k % 3:=Int.tmod_eq_emod_of_nonneg hkb.1
    simp [binOp,Op.intDiv,hw]
   ·simp at e
  ·split at e
   ·rename_i hcnd
    simp only [j8,j9] at e
    obtain ⟨rfl,rfl⟩:=e
    simp only [j8] at hd
    subst hd
    rw [hcnd.1] at hx
    refine Yx (g:=⟨fun _=>False,fun _=>0,fun _=>undef,fun _ _=>False⟩) (H:=[]) (ty:=c.ty) .eql t yt x y ho hx (j3q hcnd.2) (u:=.bool (d.k % 3 == 0)) ?_ (h.put o.dst rfl)
    simp [binOp,Op.intCmp]
   ·simp at e
  ·simp at e
 ·-- an element's address
  rename_i t x y ho
  split at e
  ·rename_i hcnd
   obtain ⟨h0,h1,h2,h3⟩:=hcnd
   simp only [j8,j9] at e
   obtain ⟨rfl,rfl⟩:=e
   simp only [j8] at hd
   subst hd
   have hx:=h.av x
   have hy:=h.av y
   rw [h2] at hx
   rw [h3] at hy
   have hx':a.eval x=v:=hx
   have hy':a.eval y = .int .i64 (i:Int):=hy
   have hi:=hbody h0
   have hu:=yv hc.ty h1
   obtain ⟨te,hte,hcts⟩:=hc.te
   obtain ⟨inf,z,hinf,hsz,_⟩:=(hc.ty c.e te hte).info
   have hr:=h.rd
   have hl:=h.ln
   generalize d.l=l at hr hl
   obtain ⟨b,o0,cap,hv⟩:∃ b o0 cap,v = .slice (some ⟨b,o0,none⟩) n cap:=by
    cases hr with
    | nil=>simp at hl; omega
    | sl _ _ b off n' cap _ _ _ _ _ k2=>exact ⟨b,off,cap,by rw [k2,hl]⟩
   refine jE (v:=.pointer (some ⟨b,o0 + (i * c.cts.length + 0),none⟩)) (w':=w) ?_ (h.put o.dst ⟨b,o0,cap,hv,hi,rfl⟩)
   have hrun:=ZQ hu hinf b o0 n cap .i64 (i:Int) ⟨by omega,by omega⟩ w
   rw [hsz,hcts,jb] at hrun
   simp [execOp,ho,hx',hv,hy',hrun]
  ·simp at e
 ·-- a field's address
  rename_i t x j ho
  split at e
  ·rename_i ti off ht hx0
   split at e
   ·rename_i o' n' ag hj
    split at e
    ·rename_i hcnd
     obtain ⟨h0,hst⟩:=hcnd
     simp only [j8,j9] at e
     obtain ⟨rfl,rfl⟩:=e
     simp only [j8] at hd
     subst hd
     have hx:=h.av x
     rw [hx0] at hx
     obtain ⟨b,o0,cap,hv,hi,he⟩:=hx
     obtain ⟨fs,hu,hn,hf⟩:=Qv hc.ty ht hst
     have hjl:j < ti.flds.length:=by
      rcases jp j ti.flds.length with h' | h'
      ·exact h'
      ·simp [List.getElem?_eq_none h'] at hj
     have hfj:fs[j]? = some fs[j]:=Array.getElem?_eq_getElem (by omega)
     have hok:=hf j _ _ hfj hj
     have hoff:fs[j].offset=o':=hok.off
     refine jE (v:=.pointer (some ⟨b,o0 + (i * c.cts.length + (off + o')),none⟩)) (w':=w) ?_ (h.put o.dst ⟨b,o0,cap,hv,hi,rfl⟩)
     simp [execOp,ho,Instr.fieldAt,run_underlying hu,hfj,he,Instr.sureAddr,Kp _ _ _ _ hok.size h0,hoff]
    ·simp at e
   ·simp at e
  ·simp at e
 ·-- a part is loaded
  rename_i t x ho
  split at e
  ·rename_i ti off ht hx0
   split at e
   ·rename_i hcnd
    obtain ⟨hoff,hst⟩:=hcnd
    simp only [j8,j9] at e
    obtain ⟨rfl,rfl⟩:=e
    simp only [j8] at hd
    subst hd
    have hx:=h.av x
    rw [hx0] at hx
    obtain ⟨b,o0,cap,hv,hi,he⟩:=hx
    obtain ⟨F',rfl⟩:=h.there hv hi
    obtain ⟨te,hte,hcts⟩:=hc.te
    have hrd:=h.rd
    rw [hv] at hrd
    obtain ⟨_,_,u,_,_,_,hu,_⟩:=j0S hte hrd h.own i off (by rw [h.ln]; exact hi) (by rw [hcts]; exact hoff)
    have htk:=hc.ty t ti ht
    have h1:=htk.one hst
    have hrun:=JA htk w b (o0 + (i * te.cts.length + off)) [u] (by rw [h1]; rfl) (fun j y hy=>by
     cases j with
     | zero =>
      simp only [List.getElem?_cons_zero,j8] at hy
      subst hy
      exact hu
     | succ j=>simp at hy)
    rw [hst] at hrun
    refine jE (v:=u) (w':=w) ?_ (h.put o.dst ⟨b,o0,cap,hv,hi,by rw [← hcts]; exact hu⟩)
    rw [hcts] at hrun
    simp [execOp,ho,Instr.loadAt,he,Instr.sureAddr,hrun]
   ·simp at e
  ·simp at e
 ·-- a store
  rename_i t x y ho
  split at e
  ·rename_i ti off hdst ht hx0
   split at e
   ·rename_i t1 t2 hct ht2 hy0
    split at e
    ·rename_i hcnd
     simp only [j8,j9] at e
     obtain ⟨rfl,rfl⟩:=e
     have hy:=h.av y
     rw [hy0] at hy
     obtain ⟨s,hs⟩:=hc.tfs d.k h.kb.1 h.kb.2
     simp only [zz,hs,j8] at hd
     subst hd
     obtain ⟨rfl,_⟩:=j3A hcnd.2
     exact h.store hc ho hdst ht hct ht2 hx0 (fun e'=>by simp) fun w'=>by rw [hy s hs]; exact .s s
    ·simp at e
   ·rename_i t1 t2 hct ht2 hy0
    split at e
    ·rename_i hcnd
     simp only [j8,j9] at e
     obtain ⟨rfl,rfl⟩:=e
     have hy:=h.av y
     rw [hy0] at hy
     have hy':a.eval y = .bool (d.k % 3 == 0):=hy
     simp only [zz,j8] at hd
     subst hd
     obtain ⟨rfl,_⟩:=j3A hcnd.2
     exact h.store hc ho hdst ht hct ht2 hx0 (fun e'=>by simp) fun w'=>by rw [hy']; exact .b _
    ·simp at e
   ·rename_i t1 t2 hct ht2 hy0
    split at e
    ·rename_i hcnd
     simp only [j8,j9] at e
     obtain ⟨rfl,rfl⟩:=e
     have hy:=h.av y
     rw [hy0] at hy
     have hy':a.eval y = .int .i64 d.k:=hy
     simp only [zz,j8] at hd
     subst hd
     obtain ⟨rfl,_⟩:=j3A hcnd.2
     exact h.store hc ho hdst ht hct ht2 hx0 (fun e'=>by simp) fun w'=>by rw [hy']; exact .i _ _
    ·simp at e
   ·simp at e
  ·simp at e
 ·-- a call
  rename_i cc ho
  split at e
  ·-- len
   rename_i hcal
   split at e
   ·rename_i x t hargs htys
    split at e
    ·rename_i hcnd
     obtain ⟨h1,h2⟩:=hcnd
     simp only [j8,j9] at e
     obtain ⟨rfl,rfl⟩:=e
     simp only [j8] at hd
     subst hd
     have hx:=h.av x
     rw [h1] at hx
     have hx':a.eval x=v:=hx
     have hu:=yv hc.ty h2
     have ha:cc.args.map a.eval = #[v]:=by
      apply Array.toList_inj.1
      simp [hargs,hx']
     have ht':cc.argTypes = #[t]:=by apply Array.toList_inj.1; simpa using htys
     obtain ⟨ad,cap,hv⟩:∃ ad cap,v = .slice ad n cap:=by
      have hr:=h.rd
      have hl:=h.ln
      generalize d.l=l at hr hl
      cases hr with
      | nil=>exact ⟨_,_,by rw [← hl]; rfl⟩
      | sl _ _ b off n' cap _ _ _ _ _ k2=>exact ⟨_,_,by rw [k2,hl]⟩
     refine jE (v:=.int .i64 (n:Int)) (w':=w) ?_ (h.put o.dst rfl)
     obtain ⟨cs,hcs⟩:=zv (P:=P) (ρ:=a.eval) ho hcal w
     rw [hcs,ha,ht']
     simp [builtin,Builtin.len_,run_underlying hu,hv,goInt]
    ·simp at e
   ·simp at e
  ·rename_i f hcal
   have hfe:a.eval (.func f) = .func (.func f) #[] #[]:=rfl
   split at e
   ·-- a number's text
    rename_i x hargs
    split at e
    ·rename_i hcnd
     obtain ⟨hf,h1⟩:=hcnd
     simp only [j8,j9] at e
     obtain ⟨rfl,rfl⟩:=e
     simp only [j8] at hd
     subst hd
     have hx:=h.av x
     rw [h1] at hx
     have hx':a.eval x = .int .i64 d.k:=hx
     have ha:cc.args.map a.eval = #[.int .i64 d.k]:=by
      apply Array.toList_inj.1
      simp [hargs,hx']
     obtain ⟨fd,q1,q2,q3⟩:=hc.fd f (.inl hf)
     have hrun:=Ki (P:=P) ho hcal hfe q1 q2 q3 w
     rw [ha] at hrun
     obtain ⟨s,hs⟩:=hc.tfs d.k h.kb.1 h.kb.2
     have hcall:=hc.tfc d.k s w h.kb.1 h.kb.2 hs
     rw [← hf] at hcall
     unfold Oper.wp
     rw [hrun]
     show Calls P f _ w _
     refine Calls.mono (by simpa using hcall) fun en w' hen=>?_
     obtain ⟨rfl,bel⟩:=hen
     show MS c T v F w0 i n _ d (a.put o.dst _) w'
     have hFw:∀ b ∈ F,w'.heap[b]? = w.heap[b]?:=fun b hb=>by
      obtain ⟨cs,t,hcs⟩:=h.own.open' b hb
      exact bel.block b (kU hcs)
     have hwr:Wrote w w' []:=⟨bel.os,bel.tape,bel.output,bel.size,fun b hb _=>bel.block b hb,fun b hb=>by cases hb⟩
     have h2:MS c T v F w0 i n (tm.map AV.kill) d a w':=by
      refine ⟨by simpa using h.len,fun t' x' u k1 k2=>?_,h.rd.frame hFw,h.own.frame hFw,h.wr.trans hwr fun b hb=>(by cases hb),h.df,h.ln,h.nb,h.ib,h.kb⟩
      rw [List.getElem?_map] at k1
      cases hx':tm[t']? with
      | none=>rw [hx'] at k1; simp at k1
      | some z =>
       rw [hx'] at k1
       simp only [Option.map_some,j8] at k1
       subst k1
       exact (h.sl t' z u hx' k2).kill
     exact h2.put o.dst (x:=.txt) (fun s' hs'=>by rw [hs] at hs'; rw [Option.some.inj hs'])
    ·simp at e
   ·-- a part is written
    rename_i x y hargs
    split at e
    ·rename_i e' off hmt hx0
     split at e
     ·rename_i hcnd
      obtain ⟨hct,h1⟩:=hcnd
      simp only [j8,j9] at e
      obtain ⟨rfl,rfl⟩:=e
      have hx:=h.av x
      have hy:=h.av y
      rw [hx0] at hx
      rw [h1] at hy
      have hy':a.eval y = .int .i64 d.k:=hy
      obtain ⟨b,o0,cap,hv,hi,he⟩:=hx
      obtain ⟨F',rfl⟩:=h.there hv hi
      obtain ⟨te,hte,hcts⟩:=hc.te
      have hrd:=h.rd
      rw [hv] at hrd
      have hsl:c.cts[off]? = some (.sl e'):=by
       unfold j8j at hct
       split at hct
       ·rename_i e2 he2
        rw [he2,Nat.eq_of_beq_eq_true hct]
       ·simp at hct
      have hoff:off < c.cts.length:=by
       rcases jp off c.cts.length with h' | h'
       ·exact h'
       ·rw [List.getElem?_eq_none h'] at hsl; simp at hsl
      obtain ⟨t,dd,u,G,g1,g2,g3,g4,g5,g6,g7⟩:=j0S hte hrd h.own i off (by rw [h.ln]; exact hi) (by rw [hcts]; exact hoff)
      rw [hcts] at g1 g3
      rw [he] at g3
      obtain rfl:=Option.some.inj g3
      have htt:t = .sl e':=by rw [hsl] at g1; exact (Option.some.inj g1).symm
      subst htt
      obtain ⟨lp,hlp⟩:=g4.isSl
      subst hlp
      simp only [zz,g2,DC.ll] at hd
      split at hd
      ·rename_i l' k' hrec
       simp only [j8] at hd
       subst hd
       have hcall:=hc.mtc f e' hmt w (a.eval x) lp d.k l' k' G g4 g6 h.kb.1 h.kb.2 hrec
       have ha:cc.args.map a.eval = #[a.eval x,.int .i64 d.k]:=by
        apply Array.toList_inj.1
        simp [hargs,hy']
       obtain ⟨fd,q1,q2,q3⟩:=hc.fd f (.inr ⟨e',hmt⟩)
       have hrun:=Ki (P:=P) ho hcal hfe q1 q2 q3 w
       rw [ha] at hrun
       unfold Oper.wp
       rw [hrun]
       show Calls P f _ w _
       refine Calls.mono (by simpa using hcall) fun en w' hen=>?_
       obtain ⟨rfl,hwr,hrd'⟩:=hen
       show MS c T v (b :: F') w0 i n _ _ (a.put o.dst _) w'
       have hsub:∀ c ∈ G,c ∈ b :: F':=fun c hc=>by simp [g5 c hc]
       have hnew:=g7 w' (.sl l') (fun c hc hcG=>by
        obtain ⟨cs,t,hcs⟩:=h.own.open' c hc
        exact hwr.block c (kU hcs) hcG) hrd'
       have h2:MS c T v (b :: F') w0 i n (tm.map AV.kill) { d with l:=j1y d.l i off (.sl l'),r:=k' } a w':=by
        refine ⟨by simpa using h.len,fun t' x' u k1 k2=>?_,by rw [hv]; exact hnew,h.own.wrote hwr,h.wr.trans hwr hsub,h.df,by simp [j1y,h.ln],h.nb,h.ib,h.kb⟩
        rw [List.getElem?_map] at k1
        cases hx':tm[t']? with
        | none=>rw [hx'] at k1; simp at k1
        | some z =>
         rw [hx'] at k1
         simp only [Option.map_some,j8] at k1
         subst k1
         exact (h.sl t' z u hx' k2).kill
       exact h2.put o.dst (x:=.kr) rfl
      ·simp at hd
     ·simp at e
    ·simp at e
   ·simp at e
  ·simp at e
 ·simp at e
end
def base (m iT:Nat):List AV:=(List.range m).map fun t=>if t=0 then .arr else if t=1 then .k else if t=iT then .idx else .u
def regEnd (tm:List AV) (iT:Nat) (ms:List MA):Option (List MA) :=
 if tm.getD 0 .u = .arr ∧ tm.getD iT .u = .idx then
  match tm.getD 1 .u with
  | .k=>some ms
  | .k1=>some (ms ++ [.inc])
  | .kr=>some (ms ++ [.upd])
  | _=>none
 else none
def pB (c:MC) (m iT:Nat):Code → Option (List MA)
 | .skip=>some []
 | .region _ ops draw =>
  match draw,Kh c true ops.toList (base m iT) [] with
  | false,some (tm',ms)=>regEnd tm' iT ms
  | _,_=>none
 | .seq x y =>
  match pB c m iT x,pB c m iT y with
  | some a,some b=>some (a ++ b)
  | _,_=>none
 | _=>none
def Qt (ops:Array Oper):Option (Nat × Operand) :=
 match ops.toList with
 | [o] =>
  match o.op,o.dst,o.guard with
  | .assign x,some d,none=>some (d,x)
  | _,_,_=>none
 | _=>none
def isZ:Operand → Bool
 | .const (.int .i64 n)=>decide (n=0)
 | _=>false
def isK:Operand → Bool
 | .const _=>true
 | _=>false
def shape (c:MC) (fd:Func):Option (List MA) :=
 match fd.body with
 | some (.seq (.region _ r0 false) (.seq (.seq (.region _ r1 false) (.block b0 (.loop (.seq (.seq (.region _ r2 false) (.cond (.tmp ct) .skip (.exit b1))) (.seq (.block _ body) (.region _ r3 false)))))) (.seq (.region _ r4 false) .ret))) =>
  match Qt r0,Qt r1,fd.results.toList with
  | some (rT,x0),some (iT,x1),[.tmp rT'] =>
   if isK x0=true ∧ isZ x1=true ∧ rT'=rT ∧ 1 < rT ∧ 1 < iT ∧ rT ≠ iT ∧ iT < fd.ntmps ∧ rT < fd.ntmps ∧ b1=b0 then
    match Kh c false r2.toList (base fd.ntmps iT) [],pB c fd.ntmps iT body,Kh c false r3.toList (base fd.ntmps iT) [],Kh c false r4.toList (base fd.ntmps iT) [] with
    | some (t2,[]),some ms,some (t3,[]),some (t4,[]) =>
     if t2.getD 0 .u = .arr ∧ t2.getD 1 .u = .k ∧ t2.getD iT .u = .idx ∧ t2.getD ct .u = .lt ∧ t3.getD 0 .u = .arr ∧ t3.getD 1 .u = .k ∧ t3.getD iT .u = .idx1 ∧ t4.getD rT .u = .k then some ms else none
    | _,_,_,_=>none
   else none
  | _,_,_=>none
 | _=>none
def KB (T:Int → Option (List UInt8)) (rec:Nat → List (List DC) → Int → Option (List (List DC) × Int)) (ms:List MA):Nat → Nat → MD → Option MD
 | 0,_,d=>some d
 | m + 1,i,d =>
  match pj T rec i ms d with
  | some d'=>KB T rec ms m (i + 1) d'
  | none=>none
def j4g (T:Int → Option (List UInt8)) (rec:Nat → List (List DC) → Int → Option (List (List DC) × Int)) (ms:List MA) (l:List (List DC)) (k:Int):Option (List (List DC) × Int) :=
 if l.length < 4611686018427387904 ∧ 0 ≤ k ∧ k < 4611686018427387904 then
  match KB T rec ms l.length 0 ⟨l,k,0⟩ with
  | some d=>some (d.l,d.k)
  | none=>none
 else none
section
variable {P:Program} {c:MC} {T:Int → Option (List UInt8)} {rec:Nat → List (List DC) → Int → Option (List (List DC) × Int)} {v:Value} {F:List Nat} {w0:World} {i n:Nat} {tm:List AV} {d:MD} {a:Act} {w:World} {o:Oper} {Q:Exit → Act → World → Prop}
theorem jV {ops:Array Oper} {j:Nat} {o:Oper} {rest:List Nat} (ho:ops[j]? = some o) (hg:o.guard=none) (h:o.wp P a w (wpOps P ops Q rest) Q):wpOps P ops Q (j :: rest) a w:=by
 unfold wpOps
 rw [ho]
 simp only [Region.wanted,hg,if_true]
 exact .inl h
theorem j2V {N N':Act → World → Prop} (h:o.wp P a w N Q) (hn:∀ a w,N a w → N' a w):o.wp P a w N' Q:=by
 unfold Oper.wp at h ⊢
 generalize (execOp a.eval o).run P w=r at h ⊢
 unfold Oper.upon at h ⊢
 split at h
 ·exact hn _ _ h
 ·exact hn _ _ h
 ·exact hn _ _ h
 ·refine Calls.mono h fun en w'' hh=>?_
  cases en with
  | returned v=>exact hn _ _ hh
  | panicked ch=>exact hh
  | outgrown=>exact hh
 ·exact Rows.mono h fun v w'' hh=>hn _ _ hh
 ·exact h
 ·exact h.elim
theorem j2Q (hc:MCok P c T rec) {body:Bool} (hbody:body=true → i < n) {ops:Array Oper} {m0:MA}:∀ (os:List Oper) (p q:Nat) (tm tm':List AV) (ms:List MA) (a:Act) (w:World),ops.toList.drop p=os → p + q=ops.size → MS c T v F w0 i n tm d a w → Kh c body os tm [m0]=some (tm',ms) →
  (∀ a' w',MS c T v F w0 i n tm' d a' w' → Q .normal a' w') → ms=[m0] ∧ wpOps P ops Q (List.range' p q) a w
 | [],p,q,tm,tm',ms,a,w,hos,hs,h,e,hQ=>by
  simp only [Kh,j8,j9] at e
  obtain ⟨rfl,rfl⟩:=e
  have:q=0:=by
   have:=congrArg List.length hos
   simp at this
   omega
  subst this
  exact ⟨rfl,hQ a w h⟩
 | o :: os,p,q,tm,tm',ms,a,w,hos,hs,h,e,hQ=>by
  rw [Kh] at e
  have hp:ops[p]? = some o:=by
   have h1:(ops.toList.drop p)[0]? = some o:=by rw [hos]; rfl
   rw [List.getElem?_drop,Nat.add_zero,Array.getElem?_toList] at h1
   exact h1
  have hq:∃ q',q=q' + 1:=by
   have:=congrArg List.length hos
   simp at this
   exact ⟨q - 1,by omega⟩
  obtain ⟨q',rfl⟩:=hq
  have hos':ops.toList.drop (p + 1)=os:=by
   rw [← List.drop_drop,hos]
   rfl
  split at e
  ·rename_i tm1 h1
   have key:=fun a1 w1 h2=>j2Q hc hbody os (p + 1) q' tm1 tm' ms a1 w1 hos' (by omega) h2 e hQ
   obtain ⟨k1,_⟩:=YV (Q:=Q) hc h h1 hbody (d':=d) rfl
   refine ⟨?_,?_⟩
   ·-- no more than one thing
    have:∀ (os:List Oper) (tm:List AV),Kh c body os tm [m0]=some (tm',ms) → ms=[m0]:=by
     intro os
     induction os with
     | nil=>intro tm e; simp only [Kh,j8,j9] at e; exact e.2.symm
     | cons o os ih =>
      intro tm e
      rw [Kh] at e
      split at e
      ·exact ih _ e
      ·simp at e
      ·simp at e
    exact this os tm1 e
   ·rw [List.range'_succ]
    exact jV hp k1 (j2V (YV (Q:=Q) hc h h1 hbody (d':=d) rfl).2 fun a1 w1 h2=>(key a1 w1 h2).2)
  ·simp at e
  ·simp at e
theorem j6a (hc:MCok P c T rec) {body:Bool} (hbody:body=true → i < n) {ops:Array Oper} {d':MD}:∀ (os:List Oper) (p q:Nat) (tm tm':List AV) (ms:List MA) (a:Act) (w:World),ops.toList.drop p=os → p + q=ops.size → MS c T v F w0 i n tm d a w → Kh c body os tm []=some (tm',ms) →
  pj T rec i ms d=some d' → (∀ a' w',MS c T v F w0 i n tm' d' a' w' → Q .normal a' w') → wpOps P ops Q (List.range' p q) a w
 | [],p,q,tm,tm',ms,a,w,hos,hs,h,e,hd,hQ=>by
  simp only [Kh,j8,j9] at e
  obtain ⟨rfl,rfl⟩:=e
  simp only [pj,j8] at hd
  subst hd
  have:q=0:=by
   have:=congrArg List.length hos
   simp at this
   omega
  subst this
  exact hQ a w h
 | o :: os,p,q,tm,tm',ms,a,w,hos,hs,h,e,hd,hQ=>by
  rw [Kh] at e
  have hp:ops[p]? = some o:=by
   have h1:(ops.toList.drop p)[0]? = some o:=by rw [hos]; rfl
   rw [List.getElem?_drop,Nat.add_zero,Array.getElem?_toList] at h1
   exact h1
  have hq:∃ q',q=q' + 1:=by
   have:=congrArg List.length hos
   simp at this
   exact ⟨q - 1,by omega⟩
  obtain ⟨q',rfl⟩:=hq
  have hos':ops.toList.drop (p + 1)=os:=by
   rw [← List.drop_drop,hos]
   rfl
  rw [List.range'_succ]
  split at e
  ·rename_i tm1 h1
   obtain ⟨k1,k2⟩:=YV (Q:=Q) hc h h1 hbody (d':=d) rfl
   exact jV hp k1 (j2V k2 fun a1 w1 h2=>j6a hc hbody os (p + 1) q' tm1 tm' ms a1 w1 hos' (by omega) h2 e hd hQ)
  ·rename_i tm1 m h1
   have hms:ms=[m]:=by
    have:∀ (os:List Oper) (tm:List AV),Kh c body os tm [m]=some (tm',ms) → ms=[m]:=by
     intro os
     induction os with
     | nil=>intro tm e; simp only [Kh,j8,j9] at e; exact e.2.symm
     | cons o os ih =>
      intro tm e
      rw [Kh] at e
      split at e
      ·exact ih _ e
      ·simp at e
      ·simp at e
    exact this os tm1 e
   subst hms
   rw [pj] at hd
   cases hda:zz T rec i m d with
   | none=>rw [hda] at hd; simp at hd
   | some d1 =>
    rw [hda] at hd
    simp only [pj,j8] at hd
    subst hd
    obtain ⟨k1,k2⟩:=YV (Q:=Q) hc h h1 hbody hda
    exact jV hp k1 (j2V k2 fun a1 w1 h2=>(j2Q hc hbody os (p + 1) q' tm1 tm' [m] a1 w1 hos' (by omega) h2 e hQ).2)
  ·simp at e
theorem j7K (tm:List AV) (dst:Option Tmp) (x:AV):(Vs tm dst x).length=tm.length:=by cases dst <;> simp [Vs]
theorem j2P {body:Bool} {tm':List AV} {m:Option MA} (e:j4H c body tm o=some (tm',m)):tm'.length=tm.length:=by
 unfold j4H at e
 repeat' split at e
 all_goals first
  | (simp at e; done)
  | (simp only [j8,j9] at e; obtain ⟨rfl,_⟩:=e; simp [j7K])
theorem KE {body:Bool}:∀ {os:List Oper} {tm tm':List AV} {acc ms:List MA},Kh c body os tm acc=some (tm',ms) → tm'.length=tm.length
 | [],tm,tm',acc,ms,e=>by
  simp only [Kh,j8,j9] at e
  rw [e.1]
 | o :: os,tm,tm',acc,ms,e=>by
  rw [Kh] at e
  split at e
  ·rename_i h1
   rw [KE e,j2P h1]
  ·rename_i h1
   split at e
   ·rw [KE e,j2P h1]
   ·simp at e
  ·simp at e
theorem Xg (hc:MCok P c T rec) {body:Bool} (hbody:body=true → i < n) {id:Nat} {ops:Array Oper} {d':MD} {tm':List AV} {ms:List MA} (h:MS c T v F w0 i n tm d a w) (e:Kh c body ops.toList tm []=some (tm',ms))
  (hd:pj T rec i ms d=some d') (hQ:∀ a' w',MS c T v F w0 i n tm' d' a' w' → Q .normal a' w'):(Code.region id ops false).wp P Q a w:=by
 refine wp_region ?_
 rw [List.range_eq_range']
 exact j6a hc hbody ops.toList 0 ops.size tm tm' ms a w rfl (by simp) h e hd hQ
theorem j4F {m iT t:Nat} {x:AV} (h:(base m iT)[t]? = some x):t < m ∧ x=(if t=0 then .arr else if t=1 then .k else if t=iT then .idx else .u):=by
 unfold base at h
 rw [List.getElem?_map] at h
 cases hr:(List.range m)[t]? with
 | none=>rw [hr] at h; simp at h
 | some y =>
  rw [hr] at h
  have hlt:t < m:=by
   rcases jp t m with h' | h'
   ·exact h'
   ·rw [List.getElem?_eq_none (by simpa using h')] at hr; simp at hr
  rw [List.getElem?_range hlt] at hr
  simp only [j8] at hr
  subst hr
  simp only [Option.map_some,j8] at h
  exact ⟨hlt,h.symm⟩
theorem MS.at (h:MS c T v F w0 i n tm d a w) {t:Nat} {u:Value} (hu:a.tmps[t]? = some u):gaV T c.cts.length v i n d.k d.r w (tm.getD t .u) u:=by
 rw [List.getD_eq_getElem?_getD]
 cases h1:tm[t]? with
 | none=>trivial
 | some x=>exact h.sl t x u h1 hu
theorem MS.rebase (h:MS c T v F w0 i n tm d a w) {iT j:Nat} {k':Int} (h0:tm.getD 0 .u = .arr) (hi:∀ u,a.tmps[iT]? = some u → u = .int .i64 (j:Int)) (hj:j ≤ n) (hk:∀ u,a.tmps[1]? = some u → u = .int .i64 k') (hkb:0 ≤ k' ∧ k' < 4611686018427387904) :
  MS c T v F w0 j n (base a.tmps.size iT) { d with k:=k' } a w:=by
 refine ⟨by simp [base],fun t x u h1 h2=>?_,h.rd,h.own,h.wr,h.df,h.ln,h.nb,hj,hkb⟩
 obtain ⟨_,rfl⟩:=j4F h1
 by_cases t0:t=0
 ·subst t0
  rw [if_pos rfl]
  have:=h.at h2
  rw [h0] at this
  exact this
 ·rw [if_neg t0]
  by_cases t1:t=1
  ·subst t1
   rw [if_pos rfl]
   exact hk u h2
  ·rw [if_neg t1]
   by_cases t2:t=iT
   ·subst t2
    rw [if_pos rfl]
    exact hi u h2
   ·rw [if_neg t2]
    trivial
theorem MS.idxv (h:MS c T v F w0 i n tm d a w) {iT:Nat} (hi:tm.getD iT .u = .idx):∀ u,a.tmps[iT]? = some u → u = .int .i64 (i:Int):=fun u hu=>by
 have:=h.at hu
 rw [hi] at this
 exact this
theorem yV {ms1 ms2:List MA} {d':MD}:pj T rec i (ms1 ++ ms2) d=some d' → ∃ d1,pj T rec i ms1 d=some d1 ∧ pj T rec i ms2 d1=some d':=by
 induction ms1 generalizing d with
 | nil=>exact fun h=>⟨d,rfl,h⟩
 | cons m ms ih =>
  intro h
  rw [List.cons_append,pj] at h
  rw [pj]
  cases hd:zz T rec i m d with
  | none=>rw [hd] at h; simp at h
  | some d1 =>
   rw [hd] at h
   exact ih h
theorem MS.regEnd (h:MS c T v F w0 i n tm d a w) {iT:Nat} {ms ms':List MA} {d0 d':MD} (e:regEnd tm iT ms=some ms') (h1:pj T rec i ms d0=some d) (h2:pj T rec i ms' d0=some d'):MS c T v F w0 i n (base a.tmps.size iT) d' a w:=by
 unfold Go.Proofs.QV.regEnd at e
 split at e
 ·rename_i hc
  have hk0:∀ u,a.tmps[1]? = some u → gaV T c.cts.length v i n d.k d.r w (tm.getD 1 .u) u:=fun u hu=>h.at hu
  split at e
  ·rename_i hk
   simp only [j8] at e
   subst e
   rw [h1] at h2
   obtain rfl:=Option.some.inj h2
   exact h.rebase hc.1 (h.idxv hc.2) h.ib (fun u hu=>by have:=hk0 u hu; rw [hk] at this; exact this) h.kb
  ·rename_i hk
   simp only [j8] at e
   subst e
   obtain ⟨d1,q1,q2⟩:=yV h2
   rw [h1] at q1
   obtain rfl:=Option.some.inj q1
   simp only [pj,zz] at q2
   split at q2
   ·rename_i d2 hd2
    split at hd2
    ·rename_i hlt
     simp only [j8] at hd2 q2
     subst hd2
     subst q2
     exact h.rebase hc.1 (h.idxv hc.2) h.ib (fun u hu=>by have:=hk0 u hu; rw [hk] at this; exact this) ⟨by have:=h.kb; omega,hlt⟩
    ·simp at hd2
   ·simp at q2
  ·rename_i hk
   simp only [j8] at e
   subst e
   obtain ⟨d1,q1,q2⟩:=yV h2
   rw [h1] at q1
   obtain rfl:=Option.some.inj q1
   simp only [pj,zz] at q2
   split at q2
   ·rename_i d2 hd2
    split at hd2
    ·rename_i hlt
     simp only [j8] at hd2 q2
     subst hd2
     subst q2
     exact h.rebase hc.1 (h.idxv hc.2) h.ib (fun u hu=>by have:=hk0 u hu; rw [hk] at this; exact this) hlt
    ·simp at hd2
   ·simp at q2
  ·simp at e
 ·simp at e
theorem j3B (hc:MCok P c T rec) (hi:i < n) {iT:Nat}:∀ (code:Code) (ms:List MA) (d d':MD) (a:Act) (w:World),pB c a.tmps.size iT code=some ms → MS c T v F w0 i n (base a.tmps.size iT) d a w → pj T rec i ms d=some d' →
  code.wp P (fun ex a' w'=>ex = .normal ∧ a'.tmps.size=a.tmps.size ∧ MS c T v F w0 i n (base a'.tmps.size iT) d' a' w') a w
 | .skip,ms,d,d',a,w,e,h,hd=>by
  simp only [pB,j8] at e
  subst e
  simp only [pj,j8] at hd
  subst hd
  exact wp_skip ⟨rfl,rfl,h⟩
 | .region id ops draw,ms,d,d',a,w,e,h,hd=>by
  simp only [pB] at e
  split at e
  ·rename_i tm' ms' hr
   have key:∃ d1,pj T rec i ms' d=some d1:=by
    unfold regEnd at e
    split at e
    ·split at e
     ·simp only [j8] at e
      subst e
      exact ⟨_,hd⟩
     ·simp only [j8] at e
      subst e
      obtain ⟨d1,q1,_⟩:=yV hd
      exact ⟨d1,q1⟩
     ·simp only [j8] at e
      subst e
      obtain ⟨d1,q1,_⟩:=yV hd
      exact ⟨d1,q1⟩
     ·simp at e
    ·simp at e
   obtain ⟨d1,hd1⟩:=key
   refine Xg hc (fun _=>hi) h hr hd1 fun a' w' h'=>?_
   have hsz:a'.tmps.size=a.tmps.size:=by
    have h1:=h'.len
    have h2:tm'.length=(base a.tmps.size iT).length:=KE hr
    rw [← h1,h2]
    simp [base]
   exact ⟨rfl,hsz,h'.regEnd e hd1 hd⟩
  ·simp at e
 | .seq x y,ms,d,d',a,w,e,h,hd=>by
  simp only [pB] at e
  split at e
  ·rename_i m1 m2 e1 e2
   simp only [j8] at e
   subst e
   obtain ⟨d1,q1,q2⟩:=yV hd
   refine wp_seq (wp_mono (j3B hc hi x m1 d d1 a w e1 h q1) fun ex a' w' hq=>?_)
   obtain ⟨rfl,hsz,h'⟩:=hq
   refine wp_mono (j3B hc hi y m2 d1 d' a' w' (by rw [hsz]; exact e2) h' q2) fun ex a2 w2 hq2=>?_
   exact ⟨hq2.1,hq2.2.1.trans hsz,hq2.2.2⟩
  ·simp at e
 | .cond _ _ _,_,_,_,_,_,e,_,_=>by simp [pB] at e
 | .block _ _,_,_,_,_,_,e,_,_=>by simp [pB] at e
 | .loop _,_,_,_,_,_,e,_,_=>by simp [pB] at e
 | .exit _,_,_,_,_,_,e,_,_=>by simp [pB] at e
 | .ret,_,_,_,_,_,e,_,_=>by simp [pB] at e
 | .label _,_,_,_,_,_,e,_,_=>by simp [pB] at e
 | .goto _,_,_,_,_,_,e,_,_=>by simp [pB] at e
end
section
variable {P:Program} {c:MC} {T:Int → Option (List UInt8)} {rec:Nat → List (List DC) → Int → Option (List (List DC) × Int)} {v:Value} {F:List Nat} {w0:World} {i n:Nat} {tm:List AV} {d:MD} {a:Act} {w:World} {o:Oper} {Q:Exit → Act → World → Prop}
theorem j3h {ops:Array Oper} {t:Nat} {x:Operand} (h:Qt ops=some (t,x)):∃ o,ops = #[o] ∧ o.op = .assign x ∧ o.dst=some t ∧ o.guard=none:=by
 unfold Qt at h
 split at h
 ·rename_i o ho
  split at h
  ·rename_i h1 h2 h3
   simp only [j8,j9] at h
   obtain ⟨rfl,rfl⟩:=h
   exact ⟨o,by apply Array.toList_inj.1; simpa using ho,h1,h2,h3⟩
  ·simp at h
 ·simp at h
theorem j20 {ops:Array Oper} {id t:Nat} {x:Operand} (h:Qt ops=some (t,x)) (hQ:Q .normal (a.put (some t) (a.eval x)) w):(Code.region id ops false).wp P Q a w:=by
 obtain ⟨o,rfl,h1,h2,h3⟩:=j3h h
 refine wp_region ?_
 show wpOps P #[o] Q [0] a w
 refine jV (o:=o) rfl h3 (jE (v:=a.eval x) (w':=w) (by simp [execOp,h1]) ?_)
 rw [h2]
 exact hQ
theorem j90 (hc:MCok P c T rec) {m iT ct:Nat} {b0 b2:Nat} {id2 id3:Nat} {r2 r3:Array Oper} {body:Code} {ms:List MA} {t2 t3:List AV} {dEnd:MD}
  (e2:Kh c false r2.toList (base m iT) []=some (t2,[])) (eb:pB c m iT body=some ms) (e3:Kh c false r3.toList (base m iT) []=some (t3,[]))
  (g2:t2.getD 0 .u = .arr ∧ t2.getD 1 .u = .k ∧ t2.getD iT .u = .idx ∧ t2.getD ct .u = .lt) (g3:t3.getD 0 .u = .arr ∧ t3.getD 1 .u = .k ∧ t3.getD iT .u = .idx1)
  (hsz:a.tmps.size=m) (h:MS c T v F w0 0 n (base m iT) d a w) (hd:KB T rec ms n 0 d=some dEnd) (hct:ct < m) (hiT:iT < m) :
  (Code.loop (.seq (.seq (.region id2 r2 false) (.cond (.tmp ct) .skip (.exit b0))) (.seq (.block b2 body) (.region id3 r3 false)))).wp P
   (fun ex a' w'=>ex = .exit b0 ∧ a'.tmps.size=m ∧ MS c T v F w0 n n (base m iT) dEnd a' w') a w:=by
 refine wp_loop_ghost (fun q a w=>∃ i d,q=n - i ∧ a.tmps.size=m ∧ MS c T v F w0 i n (base m iT) d a w ∧ KB T rec ms (n - i) i d=some dEnd) n ⟨0,d,by simp,hsz,h,by simpa using hd⟩ fun q0 a w hI=>?_
 obtain ⟨i,d,rfl,hsz,h,hd⟩:=hI
 refine wp_seq (wp_seq (Xg hc (fun h=>by cases h) h e2 rfl fun a1 w1 h1=>?_))
 have hsz1:a1.tmps.size=m:=by rw [← h1.len,KE e2]; simp [base]
 have hlt1:ct < a1.tmps.size:=by rw [hsz1]; exact hct
 have hcv:a1.tmps[ct]? = some a1.tmps[ct]:=Array.getElem?_eq_getElem hlt1
 have hcond:=h1.at hcv
 rw [g2.2.2.2] at hcond
 have hev:a1.eval (.tmp ct) = .bool (decide (i < n)):=by
  show a1.tmps.getD ct undef=_
  rw [Array.getD_eq_getD_getElem?,hcv]
  exact hcond
 have hb1:MS c T v F w0 i n (base m iT) d a1 w1:=by
  have:=h1.rebase (iT:=iT) (j:=i) (k':=d.k) g2.1 (h1.idxv g2.2.2.1) h1.ib (fun u hu=>by have:=h1.at hu; rw [g2.2.1] at this; exact this) h1.kb
  rw [hsz1] at this
  exact this
 refine wp_cond hev ?_
 by_cases hi:i < n
 ·rw [decide_eq_true hi,if_pos rfl]
  refine wp_skip ?_
  obtain ⟨q,hq⟩:∃ q,n - i=q + 1:=⟨n - i - 1,by omega⟩
  rw [hq,KB] at hd
  split at hd
  ·rename_i d1 hd1
   refine wp_seq (wp_block (wp_mono (j3B hc hi (iT:=iT) body ms d d1 a1 w1 (by rw [hsz1]; exact eb) (by rw [hsz1]; exact hb1) hd1) fun ex a2 w2 hq2=>?_))
   obtain ⟨rfl,hsz2,h2⟩:=hq2
   rw [hsz1] at hsz2
   rw [hsz2] at h2
   refine Xg hc (fun h=>by cases h) h2 e3 rfl fun a3 w3 h3=>?_
   have hsz3:a3.tmps.size=m:=by rw [← h3.len,KE e3]; simp [base]
   have hb3:=h3.rebase (iT:=iT) (j:=i + 1) (k':=d1.k) g3.1 (fun u hu=>by
    have:=h3.at hu
    rw [g3.2.2] at this
    rw [show ((i + 1:Nat):Int)=(i:Int) + 1 by omega]
    exact this) (by omega) (fun u hu=>by have:=h3.at hu; rw [g3.2.1] at this; exact this) h3.kb
   rw [hsz3] at hb3
   exact ⟨n - (i + 1),by omega,i + 1,d1,rfl,hsz3,hb3,by rw [show n - (i + 1)=q by omega]; exact hd⟩
  ·simp at hd
 ·rw [decide_eq_false hi]
  simp only [Bool.false_eq_true,if_false]
  have hin:i=n:=by have:=h1.ib; omega
  subst hin
  rw [Nat.sub_self,KB] at hd
  simp only [j8] at hd
  subst hd
  exact wp_exit ⟨rfl,hsz1,hb1⟩
theorem j8i {x:Operand} (h:isZ x=true) (a:Act):a.eval x = .int .i64 0:=by
 unfold isZ at h
 split at h
 ·rename_i n
  rw [show n=0 from by simpa using h]
  rfl
 ·simp at h
theorem ZP {fd:Func} {tmps:Array Value} {w:World} {t:Nat} (h:fd.results.toList=[.tmp t]):(results fd tmps).run P w = .ok (tmps.getD t undef) w:=by
 have:=ZO (P:=P) (fd:=fd) (tmps:=tmps) (w:=w) (vs:=[tmps.getD t undef]) (by rw [h]; simp [j47])
 exact this
theorem ja8 (hc:MCok P c T rec) {f:Nat} {fd:Func} (hf:P.funcs[f]? = some fd) {ms:List MA} (hs:shape c fd=some ms) {l l':List (List DC)} {k k':Int} (hr:RdC c.ty w (.sl c.e) (.sl l) v F) (ho:Own w F) (hm:j4g T rec ms l k=some (l',k')) :
  Calls P f #[v,.int .i64 k] w fun en w'=>en = .returned (.int .i64 k') ∧ Wrote w w' F ∧ RdC c.ty w' (.sl c.e) (.sl l') v F:=by
 unfold shape at hs
 split at hs
 ·rename_i id0 r0 id1 r1 b0 id2 r2 ct b1 b2 body id3 r3 id4 r4 hbody
  split at hs
  ·rename_i rT x0 iT x1 rT' h0 h1 hres
   split at hs
   ·rename_i hcnd
    obtain ⟨hk0,hz1,rfl,hrT,hiT,hne,hiTm,hrTm,rfl⟩:=hcnd
    split at hs
    ·rename_i t2 ms' t3 t4 e2 eb e3 e4
     split at hs
     ·rename_i hg
      simp only [j8] at hs
      subst hs
      obtain ⟨g21,g22,g23,g24,g31,g32,g33,g4⟩:=hg
      unfold j4g at hm
      split at hm
      ·rename_i hb
       split at hm
       ·rename_i dEnd hrows
        simp only [j8,j9] at hm
        obtain ⟨rfl,rfl⟩:=hm
        refine calls_of_wp hf hbody ?_
        refine wp_seq (j20 h0 (wp_seq (wp_seq (j20 h1 (wp_block ?_)))))
        have hct:ct < fd.ntmps:=by
         have hl:=KE e2
         rcases jp ct t2.length with h' | h'
         ·rw [hl] at h'; simpa [base] using h'
         ·rw [List.getD_eq_getElem?_getD,List.getElem?_eq_none h'] at g24; simp at g24
        rw [j8i hz1]
        generalize ha0:({ tmps:=#[v,.int .i64 k] ++ Array.replicate (fd.ntmps - (#[v,Value.int .i64 k]).size) undef,defers:=[] }:Act)=a0
        have hsz0:a0.tmps.size=fd.ntmps:=by subst ha0; simp; omega
        have q0:a0.tmps[0]? = some v:=by subst ha0; exact (Array.getElem?_append_left (by simp)).trans rfl
        have q1:a0.tmps[1]? = some (.int .i64 k):=by subst ha0; exact (Array.getElem?_append_left (by simp)).trans rfl
        have hd0:a0.defers=[]:=by subst ha0; rfl
        have hMS:MS c T v F w 0 l.length (base fd.ntmps iT) ⟨l,k,0⟩ ((a0.put (some rT') (a0.eval x0)).put (some iT) (.int .i64 0)) w:=by
         refine ⟨by simp [base,Act.put,hsz0],fun t x u p1 p2=>?_,hr,ho,Wrote.refl w F,by simpa [Act.put] using hd0,rfl,hb.1,Nat.zero_le _,hb.2⟩
         obtain ⟨ht,rfl⟩:=j4F p1
         simp only [Act.put] at p2
         by_cases t0:t=0
         ·subst t0
          rw [if_pos rfl]
          rw [Array.getElem?_setIfInBounds_ne (by omega),Array.getElem?_setIfInBounds_ne (by omega),q0] at p2
          exact (Option.some.inj p2).symm
         ·rw [if_neg t0]
          by_cases t1:t=1
          ·subst t1
           rw [if_pos rfl]
           rw [Array.getElem?_setIfInBounds_ne (by omega),Array.getElem?_setIfInBounds_ne (by omega),q1] at p2
           exact (Option.some.inj p2).symm
          ·rw [if_neg t1]
           by_cases t2:t=iT
           ·subst t2
            rw [if_pos rfl]
            rw [Array.getElem?_setIfInBounds_self_of_lt (by simp [hsz0,hiTm])] at p2
            exact (Option.some.inj p2).symm
           ·rw [if_neg t2]
            trivial
        refine wp_mono (j90 hc e2 eb e3 ⟨g21,g22,g23,g24⟩ ⟨g31,g32,g33⟩ (by simp [Act.put,hsz0]) hMS hrows hct hiTm) fun ex a1 w1 hq=>?_
        obtain ⟨rfl,hsz1,h1⟩:=hq
        simp only [Exit.inBlock,if_true,Exit.then]
        refine wp_seq (Xg hc (fun h=>by cases h) h1 e4 rfl fun a2 w2 h2=>?_)
        refine wp_ret ?_
        have hsz2:a2.tmps.size=fd.ntmps:=by rw [← h2.len,KE e4]; simp [base]
        have hlt:rT' < a2.tmps.size:=by rw [hsz2]; exact hrTm
        have hu:a2.tmps[rT']? = some a2.tmps[rT']:=Array.getElem?_eq_getElem hlt
        have hv:=h2.at hu
        rw [g4] at hv
        refine ⟨h2.df,.int .i64 dEnd.k,?_,rfl,h2.wr,h2.rd⟩
        rw [ZP hres,Array.getD_eq_getD_getElem?,hu]
        exact congrArg (fun z=>Result.ok z w2) hv
       ·simp at hm
      ·simp at hm
     ·simp at hs
    ·simp at hs
   ·simp at hs
  ·simp at hs
 ·simp at hs
end
end Go.Proofs.QV
