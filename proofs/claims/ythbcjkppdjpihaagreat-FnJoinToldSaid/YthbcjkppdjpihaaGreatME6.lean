import Derived.Test.YthbcjkppdjpihaaGreatME5
import Derived.WalkKit
import Derived.ProofKit
import Derived.OpenShut
import Derived.ShutString
import Derived.ChangeOld
import Derived.SizedLaws
import Derived.Test.YthbcjkppdjpihaaGreatME2
import Derived.Deep.LoopGhost
/- The input reads as it did. -/
namespace Go.Proofs.QV
open Go
open _root_.Bool renaming and_eq_true → jg
open Out renaming andThenB → j9
open _root_.List renaming mem_append → jr, length_cons → jd, length_nil → je, length_append → js, append_assoc → jy
open _root_.Nat renaming lt_or_ge → jp
open _root_.Option.some renaming injEq → j8
theorem j3j {H:Type} {enc:TypeId × Value → H} {P:Program} (hl:laidOutB P=true) {W W':World} (hb:RowKit.Below W.heap.size W W'):∀ {ts:List TypeId} {vs:List Value} {ds:List (DataW H)} {ps:List MemPlace},
  (ts.all fun t=>P.readableRec t && Nat.blt t P.types.size)=true → DataW.TrodAll enc P W 0 (fun _=>true) true ts vs ds ps → DataW.TrodAll enc P W' 0 (fun b=>decide (b < W.heap.size)) true ts vs ds ps
 | [],[],[],ps,_,h=>h
 | t :: ts,v :: vs,d :: ds,ps,ht,⟨p,q,h1,h2,h3⟩=>by
  simp only [List.all_cons,jg] at ht
  obtain ⟨⟨k1,k2⟩,k3⟩:=ht
  refine ⟨p,q,RowKit.Below.trod hl k1 (by simpa [Nat.blt_eq] using k2) h1 hb ?_,j3j hl hb k3 h2,h3⟩
  obtain ⟨m,hm⟩:=h1
  exact DataW.trod_lt m _ _ _ hm
 | [],_ :: _,_,_,_,h=>h.elim
 | [],[],_ :: _,_,_,h=>h.elim
 | _ :: _,[],_,_,_,h=>h.elim
 | _ :: _,_ :: _,[],_,_,h=>h.elim
theorem j9t {n:Int} (h1:-9223372036854775808 ≤ n) (h2:n ≤ 9223372036854775807):IntKind.i64.wrap n=n:=by
 rw [IntKind.wrap_i64]
 omega
set_option linter.unusedVariables false
set_option linter.unusedSimpArgs false
def Out.esc (o:Out):Prop:=∀ K,o.andThen K=o
theorem Out.esc_ret (v:List DC):(Out.ret v).esc:=fun _=>rfl
theorem Out.esc_ex (id:Nat) (v:List DC):(Out.ex id v).esc:=fun _=>rfl
theorem qU {F:List DC → Out} {v v':List DC} (h:F v = .norm v'):jO F v=jO F v':=by rw [j43,h]; rfl
theorem kD {F:List DC → Out} {v r:List DC} {id:Nat} (h:F v = .ex id r):jO F v = .ex id r:=by rw [j43,h]; rfl
theorem j4X {F:List DC → Out} {v:List DC} {o:Out} (h:F v=o) (he:o.esc):jO F v=o:=by rw [j43,h,he]
theorem pE {F:List DC → Out} {st:Nat → List DC} {o:Out}:∀ (m i:Nat),(∀ j,i ≤ j → j < i + m → F (st j) = .norm (st (j + 1))) → jO F (st (i + m))=o → jO F (st i)=o
 | 0,i,_,h2=>by simpa using h2
 | m + 1,i,h1,h2=>by
  rw [qU (h1 i (Nat.le_refl _) (by omega))]
  refine pE m (i + 1) (fun j hj hj'=>h1 j (by omega) (by omega)) ?_
  rw [show i + 1 + m=i + (m + 1) by omega]
  exact h2
def goF {α:Type} (p:α → Bool) (stop:Nat → α → Out) (fin:Out):Nat → List α → Out
 | _,[]=>fin
 | i,x :: xs=>if p x=true then stop i x else goF p stop fin (i + 1) xs
theorem j3o {α:Type} {l:List α} {st:Nat → List DC} {p:α → Bool} {stop:Nat → α → Out} {fin:Out} {F:List DC → Out}
  (hF:∀ (i:Nat) (hi:i < l.length),F (st i)=if p l[i]=true then stop i l[i] else .norm (st (i + 1)))
  (hs:∀ i x,(stop i x).esc) (hend:F (st l.length)=fin) (hfin:fin.esc):∀ (m i:Nat),i + m=l.length → jO F (st i)=goF p stop fin i (l.drop i)
 | 0,i,hi=>by
  have:i=l.length:=by omega
  subst this
  rw [List.drop_length,goF]
  exact j4X hend hfin
 | m + 1,i,hi=>by
  have hlt:i < l.length:=by omega
  rw [List.drop_eq_getElem_cons hlt,goF]
  by_cases hp:p l[i]=true
  ·rw [if_pos hp]
   exact j4X (by rw [hF i hlt,if_pos hp]) (hs _ _)
  ·rw [if_neg hp,qU (by rw [hF i hlt,if_neg hp])]
   exact j3o hF hs hend hfin m (i + 1) (by omega)
theorem j5L {α:Type} {l:List α} {st:Nat → List DC} {p:α → Bool} {stop:Nat → α → Out} {fin:Out} {F:List DC → Out}
  (hF:∀ (i:Nat) (hi:i < l.length),F (st i)=if p l[i]=true then stop i l[i] else .norm (st (i + 1)))
  (hs:∀ i x,(stop i x).esc) (hend:F (st l.length)=fin) (hfin:fin.esc):jO F (st 0)=goF p stop fin 0 l:=by
 have:=j3o hF hs hend hfin l.length 0 (by omega)
 rwa [List.drop_zero] at this
theorem jJ {i n:Nat} (h:i < n) (hn:n ≤ 9223372036854775807):IntKind.i64.wrap ((i:Int) + 1)=((i + 1:Nat):Int):=by
 rw [j9t (by omega) (by omega)]
 simp
theorem jE {α:Type} {f:α → List DC} {l:List α} {i:Nat} (h:i < l.length):(l.map f).getD i []=f l[i]:=by
 rw [List.getD_eq_getElem?_getD,List.getElem?_map,List.getElem?_eq_getElem h]
 rfl
theorem zH {l:List (List DC)} {F:List DC → Out} (hF:∀ (i:Nat),i < l.length → F [.sl l,.sl l,.i (i:Int)] = .norm [.sl l,.sl l,.i ((i + 1:Nat):Int)]) (hend:F [.sl l,.sl l,.i (l.length:Int)] = .ex 0 []) :
  (if ((l.length:Int) != (l.length:Int))=true then Out.ret [DC.b false]
  else j9 (jO F [DC.sl l,DC.sl l,DC.i (0:Int)]) 0 fun v4=>.ret [DC.b true]) = .ret [.b true]:=by
 have hloop:jO F [.sl l,.sl l,.i ((0:Nat):Int)] = .ex 0 [] :=
  pE (st:=fun i=>[.sl l,.sl l,.i (i:Int)]) l.length 0 (fun j _ hj=>hF j (by omega)) (by rw [Nat.zero_add]; exact kD hend)
 rw [show (0:Int)=((0:Nat):Int) from rfl,hloop]
 simp
theorem zz0 {α:Type} {x:α} {l:List α} {d:α}:(x :: l).getD 0 d=x:=List.getD_cons_zero
theorem zz1 {α:Type} {x:α} {l:List α} {i:Nat} {d:α}:(x :: l).getD (i + 1) d=l.getD i d:=List.getD_cons_succ
@[simp] theorem zb (x:Bool):(DC.b x).bb=x:=rfl
@[simp] theorem zi (x:Int):(DC.i x).ii=x:=rfl
@[simp] theorem zs (x:List UInt8):(DC.s x).ss=x:=rfl
@[simp] theorem zl (x:List (List DC)):(DC.sl x).ll=x:=rfl
theorem zt (b:Bool):b=true ∨ b=false:=Bool.eq_false_or_eq_true b
theorem zm {α β:Type} (f:α → β) {l:List α}:(l.map f).length=l.length:=List.length_map f
theorem zf:(false=true)=False:=Bool.false_eq_true
section
variable {ty:Nat → Option TI}
theorem j6G {w w':World} {e n cap b off0:Nat} {ti:TI} {l:List (List DC)} {F:List Nat} (hte:ty e=some ti)
  (h:RdC ty w (.sl e) (.sl l) (.slice (some ⟨b,off0,none⟩) n cap) (b :: F)) (ho:Own w (b :: F)) (ix off:Nat) (hix:ix < l.length) (hoff:off < ti.cts.length)
  {t:CT} (ht:ti.cts[off]? = some t) (hflat:∀ e',t ≠ .sl e') {d:DC} {u:Value} (hd:∀ w':World,RdC ty w' t d u [])
  (hne:∀ c,c ≠ b → w'.heap[c]? = w.heap[c]?) (hce:∀ j y,w.cell? ⟨b,j,none⟩=some y → w'.cell? ⟨b,j,none⟩=some (if j=off0 + (ix * ti.cts.length + off) then u else y)) :
  RdC ty w' (.sl e) (.sl (l.set ix ((l.getD ix []).set off d))) (.slice (some ⟨b,off0,none⟩) n cap) (b :: F):=by
 cases h with
 | sl _ ti' _ _ _ _ _ vs _ h1 h0 h2 h3 h4 h5 h6 =>
  have:ti'=ti:=by rw [hte] at h1; exact (Option.some.inj h1).symm
  subst this
  have hnb:b ∉ F:=(List.nodup_cons.1 ho.nodup).1
  obtain ⟨x,v,F1,Fr,F2,e1,e2,e3,hx,hset⟩:=RdV.upd h6 ix hix
  obtain ⟨t',d1,u1,G1,Gc,G2,g1,g2,g3,g4,hc,hcell⟩:=RdL.upd hx off hoff
  have ett:t'=t:=by rw [ht] at g1; exact (Option.some.inj g1).symm
  subst ett
  have hGc:Gc=[]:=by
   cases hc with
   | b=>rfl
   | i=>rfl
   | s=>rfl
   | nil e'=>exact absurd rfl (hflat e')
   | sl e'=>exact absurd rfl (hflat e')
  subst hGc
  have hoth:∀ c ∈ F,w'.heap[c]? = w.heap[c]?:=fun c hc=>hne c (fun e=>hnb (e ▸ hc))
  have hlx:l.getD ix []=x:=by rw [List.getD_eq_getElem?_getD,e1]; rfl
  have hrow:=hcell w' d u [] (fun c hc=>hoth c (by rw [e3,g4]; simp only [jr] at hc ⊢; rcases hc with hc | hc <;> simp [hc])) (hd _)
  have hall:=hset w' (x.set off d) (v.set off u) (G1 ++ ([] ++ G2)) (fun c hc=>hoth c (by rw [e3]; simp only [jr] at hc ⊢; rcases hc with hc | hc <;> simp [hc])) hrow
  have hF:F1 ++ ((G1 ++ ([] ++ G2)) ++ F2)=F:=by rw [e3,g4]
  rw [hF] at hall
  have hvs:vs.length=l.length * ti'.cts.length:=RdV.length h6
  have hv:v.length=ti'.cts.length:=(RdL.length hx).1
  have hm:ix * ti'.cts.length + ti'.cts.length ≤ vs.length:=by rw [hvs,← Nat.succ_mul]; exact Nat.mul_le_mul_right _ hix
  have hsame:vs.take (ix * ti'.cts.length) ++ (v.set off u ++ vs.drop (ix * ti'.cts.length + ti'.cts.length))=vs.set (ix * ti'.cts.length + off) u:=by
   apply List.ext_getElem?
   intro j
   rw [List.getElem?_append,List.getElem?_append,List.length_take,List.length_set,hv,List.getElem?_set,List.getElem?_set]
   subst e2
   by_cases j1:j < min (ix * ti'.cts.length) vs.length
   ·rw [if_pos j1,List.getElem?_take_of_lt (by omega),if_neg (by omega)]
   ·rw [if_neg j1]
    by_cases j2:j - min (ix * ti'.cts.length) vs.length < ti'.cts.length
    ·rw [if_pos j2]
     by_cases j3:j=ix * ti'.cts.length + off
     ·rw [if_pos (by omega),if_pos (by omega),if_pos (by omega),if_pos (by omega)]
     ·rw [if_neg (by omega),if_neg (by omega),List.getElem?_take_of_lt (by omega),List.getElem?_drop]
      congr 1
      omega
    ·rw [if_neg j2,if_neg (by omega),List.getElem?_drop]
     congr 1
     omega
  rw [hsame] at hall
  rw [hlx]
  refine .sl e ti' b off0 n cap _ _ F hte h0 (by rw [List.length_set]; exact h2) (by intro e0; exact h3 (List.length_eq_zero_iff.1 (by rw [← List.length_set (i:=ix) (a:=x.set off d),e0]; rfl))) h4 (fun j y hy=>?_) hall
  rw [List.getElem?_set] at hy
  by_cases j1:ix * ti'.cts.length + off=j
  ·rw [if_pos j1] at hy
   subst j1
   have hlt:ix * ti'.cts.length + off < vs.length:=by omega
   rw [if_pos hlt] at hy
   have:=Option.some.inj hy
   subst this
   have:=hce _ _ (h5 _ _ (List.getElem?_eq_getElem hlt))
   rw [if_pos rfl] at this
   exact this
  ·rw [if_neg j1] at hy
   have:=hce _ _ (h5 _ _ hy)
   rw [if_neg (by omega)] at this
   exact this
end
section
variable {ty:Nat → Option TI}
theorem j7Q {w:World} {e n cap b off0:Nat} {ti:TI} {l:List (List DC)} {F:List Nat} (hte:ty e=some ti)
  (h:RdC ty w (.sl e) (.sl l) (.slice (some ⟨b,off0,none⟩) n cap) (b :: F)) (ho:Own w (b :: F)) (ix off:Nat) (hix:ix < l.length) (hoff:off < ti.cts.length) :
  ∃ t d u G,ti.cts[off]? = some t ∧ (l.getD ix []).getD off d0=d ∧ w.cell? ⟨b,off0 + (ix * ti.cts.length + off),none⟩=some u ∧ RdC ty w t d u G ∧ (∀ c ∈ G,c ∈ F) ∧ Own w G ∧
   ∀ (w':World) (d':DC),(∀ c ∈ b :: F,c ∉ G → w'.heap[c]? = w.heap[c]?) → RdC ty w' t d' u G →
    RdC ty w' (.sl e) (.sl (l.set ix ((l.getD ix []).set off d'))) (.slice (some ⟨b,off0,none⟩) n cap) (b :: F):=by
 cases h with
 | sl _ ti' _ _ _ _ _ vs _ h1 h0 h2 h3 h4 h5 h6 =>
  have:ti'=ti:=by rw [hte] at h1; exact (Option.some.inj h1).symm
  subst this
  have hnb:b ∉ F:=(List.nodup_cons.1 ho.nodup).1
  have hnF:F.Nodup:=(List.nodup_cons.1 ho.nodup).2
  obtain ⟨x,v,F1,Fr,F2,e1,e2,e3,hx,hset⟩:=RdV.upd h6 ix hix
  obtain ⟨t,d,u,G1,G,G2,g1,g2,g3,g4,hc,hcell⟩:=RdL.upd hx off hoff
  have hlx:l.getD ix []=x:=by rw [List.getD_eq_getElem?_getD,e1]; rfl
  have hGF:∀ c ∈ G,c ∈ F:=fun c hc=>by rw [e3,g4]; simp [hc]
  rw [e3,g4] at hnF
  have n1:=List.nodup_append.1 hnF
  have n2:=List.nodup_append.1 n1.2.1
  have n3:=List.nodup_append.1 n2.1
  have n4:=List.nodup_append.1 n3.2.1
  have hvs:vs.length=l.length * ti'.cts.length:=RdV.length h6
  have hv:v.length=ti'.cts.length:=(RdL.length hx).1
  have hm:ix * ti'.cts.length + ti'.cts.length ≤ vs.length:=by rw [hvs,← Nat.succ_mul]; exact Nat.mul_le_mul_right _ hix
  have hat:vs[ix * ti'.cts.length + off]? = some u:=by
   rw [← g3,← e2,List.getElem?_take_of_lt hoff,List.getElem?_drop]
  refine ⟨t,d,u,G,g1,by rw [hlx,List.getD_eq_getElem?_getD,g2]; rfl,h5 _ _ hat,hc,hGF,⟨n4.1,fun c hc=>ho.open' c (List.mem_cons_of_mem _ (hGF c hc))⟩,fun w' d' hsame hd=>?_⟩
  have hrow:=hcell w' d' u G (fun c hc=>hsame c (by rw [e3,g4]; simp only [jr,List.mem_cons] at hc ⊢; rcases hc with hc | hc <;> simp [hc]) (fun hG=>by
   rcases List.mem_append.1 hc with hc | hc
   ·exact n3.2.2 c hc c (List.mem_append.2 (.inl hG)) rfl
   ·exact n4.2.2 c hG c hc rfl)) hd
  have hall:=hset w' (x.set off d') (v.set off u) (G1 ++ (G ++ G2)) (fun c hc=>hsame c (by rw [e3]; simp only [jr,List.mem_cons] at hc ⊢; rcases hc with hc | hc <;> simp [hc]) (fun hG=>by
   have hGr:c ∈ G1 ++ (G ++ G2):=by simp [hG]
   rcases List.mem_append.1 hc with hc | hc
   ·exact n1.2.2 c hc c (List.mem_append.2 (.inl hGr)) rfl
   ·exact n2.2.2 c hGr c hc rfl)) hrow
  have hF:F1 ++ ((G1 ++ (G ++ G2)) ++ F2)=F:=by rw [e3,g4]
  rw [hF] at hall
  have hvset:v.set off u=v:=by
   apply List.ext_getElem?
   intro j
   rw [List.getElem?_set]
   by_cases e:off=j
   ·subst e; rw [if_pos rfl,if_pos (by omega),g3]
   ·rw [if_neg e]
  have hvv:vs.take (ix * ti'.cts.length) ++ (v ++ vs.drop (ix * ti'.cts.length + ti'.cts.length))=vs:=by
   rw [← e2,← List.drop_drop,List.take_append_drop,List.take_append_drop]
  rw [hvset,hvv] at hall
  rw [hlx]
  exact .sl e ti' b off0 n cap _ _ F hte h0 (by rw [List.length_set]; exact h2) (by intro e0; exact h3 (List.length_eq_zero_iff.1 (by rw [← List.length_set (i:=ix) (a:=x.set off d'),e0]; rfl))) h4
   (fun j y hy=>by rw [World.cell?_of_block (w:=w) (hsame b (by simp) (fun hG=>hnb (hGF b hG)))]; exact h5 j y hy) hall
end
inductive AV where
 | u | arr | len | idx | idx1 | lt | k | k1 | km | kb | txt | kr
 | ea (off:Nat)
 | part (off:Nat)
deriving DecidableEq
inductive MA where
 | txt (off:Nat)
 | bool (off:Nat)
 | int (off:Nat)
 | sub (off f:Nat)
 | inc
 | upd
structure MC where
 ty:Nat → Option TI
 e:Nat
 cts:List CT
 tf:Nat
 mt:Nat → Option Nat
def X1 (tm:List AV) (dst:Option Tmp) (x:AV):List AV :=
 match dst with
 | some d=>tm.set d x
 | none=>tm
def AV.kill:AV → AV
 | .part _=>.u
 | .kr=>.u
 | x=>x
def Ky (tm:List AV):Operand → AV
 | .tmp t=>tm.getD t .u
 | _=>.u
def isC (n:Int):Operand → Bool
 | .const (.int .i64 m)=>decide (m=n)
 | _=>false
def j6Z:CT → CT → Bool
 | .s,.s=>true
 | .b,.b=>true
 | .i .i64,.i .i64=>true
 | _,_=>false
def j9R (cts:List CT) (off e':Nat):Bool :=
 match cts[off]? with
 | some (.sl e2)=>Nat.beq e2 e'
 | _=>false
def jbj (c:MC) (body:Bool) (tm:List AV) (o:Oper):Option (List AV × Option MA) :=
 match o.guard with
 | some _=>none
 | none =>
 match o.op with
 | .move x=>some (X1 tm o.dst (Ky tm x),none)
 | .assign x=>some (X1 tm o.dst (Ky tm x),none)
 | .binOp op _ x y _ =>
  match op with
  | .lss=>if Ky tm x = .idx ∧ Ky tm y = .len then some (X1 tm o.dst .lt,none) else none
  | .add =>
   if Ky tm x = .k ∧ isC 1 y=true then some (X1 tm o.dst .k1,none)
   else if Ky tm x = .idx ∧ isC 1 y=true then some (X1 tm o.dst .idx1,none) else none
  | .rem=>if Ky tm x = .k ∧ isC 3 y=true then some (X1 tm o.dst .km,none) else none
  | .eql=>if Ky tm x = .km ∧ isC 0 y=true then some (X1 tm o.dst .kb,none) else none
  | _=>none
 | .indexAddr t x i=>if body=true ∧ qx (c.ty t)=some c.e ∧ Ky tm x = .arr ∧ Ky tm i = .idx then some (X1 tm o.dst (.ea 0),none) else none
 | .fieldAddr t x j =>
  match c.ty t,Ky tm x with
  | some ti,.ea off =>
   match ti.flds[j]? with
   | some (o',n,_)=>if 0 < n ∧ jL (some ti)=true then some (X1 tm o.dst (.ea (off + o')),none) else none
   | none=>none
  | _,_=>none
 | .load t x =>
  match c.ty t,Ky tm x with
  | some ti,.ea off=>if off < c.cts.length ∧ jL (some ti)=false then some (X1 tm o.dst (.part off),none) else none
  | _,_=>none
 | .store t x y =>
  match o.dst,c.ty t,Ky tm x with
  | none,some ti,.ea off =>
   match ti.cts,c.cts[off]?,Ky tm y with
   | [t1],some t2,.txt=>if j6Z t1 t2=true ∧ j6Z t2 .s=true then some (tm.map AV.kill,some (.txt off)) else none
   | [t1],some t2,.kb=>if j6Z t1 t2=true ∧ j6Z t2 .b=true then some (tm.map AV.kill,some (.bool off)) else none
   | [t1],some t2,.k=>if j6Z t1 t2=true ∧ j6Z t2 (.i .i64)=true then some (tm.map AV.kill,some (.int off)) else none
   | _,_,_=>none
  | _,_,_=>none
 | .call cc =>
  match cc.callee with
  | .builtin .len =>
   match cc.args.toList,cc.argTypes.toList with
   | [x],[t]=>if Ky tm x = .arr ∧ qx (c.ty t)=some c.e then some (X1 tm o.dst .len,none) else none
   | _,_=>none
  | .value (.func f) =>
   match cc.args.toList with
   | [x]=>if f=c.tf ∧ Ky tm x = .k then some (X1 (tm.map AV.kill) o.dst .txt,none) else none
   | [x,y] =>
    match c.mt f,Ky tm x with
    | some e',.part off=>if j9R c.cts off e'=true ∧ Ky tm y = .k then some (X1 (tm.map AV.kill) o.dst .kr,some (.sub off f)) else none
    | _,_=>none
   | _=>none
  | _=>none
 | _=>none
def j78 (c:MC) (body:Bool):List Oper → List AV → List MA → Option (List AV × List MA)
 | [],tm,acc=>some (tm,acc)
 | o :: os,tm,acc =>
  match jbj c body tm o with
  | some (tm',none)=>j78 c body os tm' acc
  | some (tm',some m)=>(match acc with | []=>j78 c body os tm' [m] | _=>none)
  | none=>none
structure MD where
 l:List (List DC)
 k:Int
 r:Int
def j6q (l:List (List DC)) (i off:Nat) (d:DC):List (List DC):=l.set i ((l.getD i []).set off d)
def j1Z (T:Int → Option (List UInt8)) (rec:Nat → List (List DC) → Int → Option (List (List DC) × Int)) (i:Nat):MA → MD → Option MD
 | .txt off,d =>
  match T d.k with
  | some s=>some { d with l:=j6q d.l i off (.s s) }
  | none=>none
 | .bool off,d=>some { d with l:=j6q d.l i off (.b (d.k % 3 == 0)) }
 | .int off,d=>some { d with l:=j6q d.l i off (.i d.k) }
 | .sub off f,d =>
  match rec f ((d.l.getD i []).getD off d0).ll d.k with
  | some (l',k')=>some { d with l:=j6q d.l i off (.sl l'),r:=k' }
  | none=>none
 | .inc,d=>if d.k + 1 < 4611686018427387904 then some { d with k:=d.k + 1 } else none
 | .upd,d=>if 0 ≤ d.r ∧ d.r < 4611686018427387904 then some { d with k:=d.r } else none
def yS (T:Int → Option (List UInt8)) (rec:Nat → List (List DC) → Int → Option (List (List DC) × Int)) (i:Nat):List MA → MD → Option MD
 | [],d=>some d
 | m :: ms,d =>
  match j1Z T rec i m d with
  | some d'=>yS T rec i ms d'
  | none=>none
section
variable {P:Program} {ty:Nat → Option TI}
def gaV (T:Int → Option (List UInt8)) (sz:Nat) (v:Value) (i n:Nat) (k r:Int) (w:World):AV → Value → Prop
 | .u,_=>True
 | .arr,u=>u=v
 | .len,u=>u = .int .i64 (n:Int)
 | .idx,u=>u = .int .i64 (i:Int)
 | .idx1,u=>u = .int .i64 ((i:Int) + 1)
 | .lt,u=>u = .bool (decide (i < n))
 | .k,u=>u = .int .i64 k
 | .k1,u=>u = .int .i64 (k + 1)
 | .km,u=>u = .int .i64 (k % 3)
 | .kb,u=>u = .bool (k % 3 == 0)
 | .txt,u=>∀ s,T k=some s → u = .string ⟨s.toArray⟩
 | .kr,u=>u = .int .i64 r
 | .ea off,u=>∃ b o cap,v = .slice (some ⟨b,o,none⟩) n cap ∧ i < n ∧ u = .pointer (some ⟨b,o + (i * sz + off),none⟩)
 | .part off,u=>∃ b o cap,v = .slice (some ⟨b,o,none⟩) n cap ∧ i < n ∧ w.cell? ⟨b,o + (i * sz + off),none⟩=some u
structure MS (c:MC) (T:Int → Option (List UInt8)) (v:Value) (F:List Nat) (w0:World) (i n:Nat) (tm:List AV) (d:MD) (a:Act) (w:World):Prop where
 len:tm.length=a.tmps.size
 sl:∀ (t:Nat) (x:AV) (u:Value),tm[t]? = some x → a.tmps[t]? = some u → gaV T c.cts.length v i n d.k d.r w x u
 rd:RdC c.ty w (.sl c.e) (.sl d.l) v F
 own:Own w F
 wr:Wrote w0 w F
 df:a.defers=[]
 ln:d.l.length=n
 nb:n < 4611686018427387904
 ib:i ≤ n
 kb:0 ≤ d.k ∧ d.k < 4611686018427387904
theorem Wrote.refl (w:World) (F:List Nat):Wrote w w F:=⟨rfl,rfl,rfl,Nat.le_refl _,fun _ _ _=>rfl,fun b _ cs t h=>⟨cs,h,rfl⟩⟩
theorem Wrote.trans {w w1 w2:World} {F G:List Nat} (h:Wrote w w1 F) (k:Wrote w1 w2 G) (hG:∀ b ∈ G,b ∈ F):Wrote w w2 F where
 os:=k.os.trans h.os
 tape:=k.tape.trans h.tape
 output:=k.output.trans h.output
 size:=Nat.le_trans h.size k.size
 block b hb hF:=(k.block b (Nat.lt_of_lt_of_le hb h.size) fun hg=>hF (hG b hg)).trans (h.block b hb hF)
 shape b hb cs t hc:=by
  obtain ⟨cs1,h1,h2⟩:=h.shape b hb cs t hc
  by_cases hg:b ∈ G
  ·obtain ⟨cs2,h3,h4⟩:=k.shape b hg cs1 t h1
   exact ⟨cs2,h3,by rw [h4,h2]⟩
  ·exact ⟨cs1,by rw [k.block b (kM h1) hg]; exact h1,h2⟩
theorem Own.wrote {w w':World} {F G:List Nat} (h:Own w F) (k:Wrote w w' G):Own w' F :=
 ⟨h.nodup,fun b hb=>by
  obtain ⟨cs,t,hc⟩:=h.open' b hb
  by_cases hg:b ∈ G
  ·obtain ⟨cs',h1,_⟩:=k.shape b hg cs t hc
   exact ⟨cs',t,h1⟩
  ·exact ⟨cs,t,by rw [k.block b (kM hc) hg]; exact hc⟩⟩
variable {c:MC} {T:Int → Option (List UInt8)} {rec:Nat → List (List DC) → Int → Option (List (List DC) × Int)} {v:Value} {F:List Nat} {w0:World} {i n:Nat} {tm:List AV} {d:MD} {a:Act} {w:World} {o:Oper} {Q:Exit → Act → World → Prop}
theorem MS.av (h:MS c T v F w0 i n tm d a w) (x:Operand):gaV T c.cts.length v i n d.k d.r w (Ky tm x) (a.eval x):=by
 cases x with
 | tmp t =>
  show gaV T c.cts.length v i n d.k d.r w (tm.getD t .u) (a.tmps.getD t undef)
  rw [List.getD_eq_getElem?_getD,Array.getD_eq_getD_getElem?]
  cases h1:tm[t]? with
  | none=>trivial
  | some x =>
   have h2:t < tm.length:=by
    rcases jp t tm.length with h' | h'
    ·exact h'
    ·simp [List.getElem?_eq_none h'] at h1
   have h3:t < a.tmps.size:=by rw [← h.len]; exact h2
   have h4:a.tmps[t]? = some a.tmps[t]:=Array.getElem?_eq_getElem h3
   rw [h4]
   exact h.sl t x _ h1 h4
 | const _=>trivial
 | global _=>trivial
 | func _=>trivial
theorem MS.put (h:MS c T v F w0 i n tm d a w) (dst:Option Tmp) {x:AV} {u:Value} (hx:gaV T c.cts.length v i n d.k d.r w x u):MS c T v F w0 i n (X1 tm dst x) d (a.put dst u) w:=by
 cases dst with
 | none=>exact h
 | some t =>
  refine { h with len:=by simpa [X1,Act.put] using h.len,sl:=fun i' y z h1 h2=>?_,df:=h.df }
  simp only [X1,Act.put] at h1 h2
  by_cases hd:t=i'
  ·subst hd
   rw [List.getElem?_set] at h1
   rw [Array.getElem?_setIfInBounds] at h2
   by_cases hl:t < tm.length
   ·have hl':t < a.tmps.size:=h.len ▸ hl
    simp [hl] at h1
    simp [hl'] at h2
    subst h1
    subst h2
    exact hx
   ·simp [hl] at h1
  ·rw [List.getElem?_set_ne hd] at h1
   rw [Array.getElem?_setIfInBounds_ne hd] at h2
   exact h.sl i' y z h1 h2
theorem gaV.kill {k r r':Int} {w w':World} {x:AV} {u:Value} {sz:Nat} (h:gaV T sz v i n k r w x u):gaV T sz v i n k r' w' x.kill u:=by
 cases x with
 | part off=>trivial
 | kr=>trivial
 | _=>exact h
end
section
variable {P:Program}
structure MCok (P:Program) (c:MC) (T:Int → Option (List UInt8)) (rec:Nat → List (List DC) → Int → Option (List (List DC) × Int)):Prop where
 ty:p6 P c.ty
 te:∃ ti,c.ty c.e=some ti ∧ ti.cts=c.cts
 fd:∀ f,f=c.tf ∨ (∃ e',c.mt f=some e') → ∃ fd,P.funcs[f]? = some fd ∧ (fd.name == "runtime.NumGoroutine")=false ∧ fd.body.isNone=false
 tfc:∀ k s w,0 ≤ k → k < 4611686018427387904 → T k=some s → Calls P c.tf #[.int .i64 k] w fun en w'=>en = .returned (.string ⟨s.toArray⟩) ∧ RowKit.Below w.heap.size w w'
 tfs:∀ k,0 ≤ k → k < 4611686018427387904 → ∃ s,T k=some s
 mtc:∀ f e',c.mt f=some e' → ∀ w v l k l' k' F,RdC c.ty w (.sl e') (.sl l) v F → Own w F → 0 ≤ k → k < 4611686018427387904 → rec f l k=some (l',k') →
  Calls P f #[v,.int .i64 k] w fun en w'=>en = .returned (.int .i64 k') ∧ Wrote w w' F ∧ RdC c.ty w' (.sl e') (.sl l') v F
variable {c:MC} {T:Int → Option (List UInt8)} {rec:Nat → List (List DC) → Int → Option (List (List DC) × Int)} {v:Value} {F:List Nat} {w0:World} {i n:Nat} {tm:List AV} {d:MD} {a:Act} {w:World} {o:Oper} {Q:Exit → Act → World → Prop}
theorem MS.there (h:MS c T v F w0 i n tm d a w) {b o cap:Nat} (hv:v = .slice (some ⟨b,o,none⟩) n cap) (hi:i < n):∃ F',F=b :: F':=by
 have hr:=h.rd
 have hl:=h.ln
 rw [hv] at hr
 generalize d.l=l at hr hl
 cases hr with
 | nil=>simp at hl; omega
 | sl=>exact ⟨_,rfl⟩
theorem MS.store (hc:MCok P c T rec) (h:MS c T v F w0 i n tm d a w) {off t:Nat} {x y:Operand} {ti:TI} {t1 t2:CT} (ho:o.op = .store t x y) (hdst:o.dst=none) (ht:c.ty t=some ti) (hct:ti.cts=[t1]) (ht2:c.cts[off]? = some t2)
  (hx:Ky tm x = .ea off) {dd:DC} (hfl:∀ e',t2 ≠ .sl e') (hd:∀ w':World,RdC c.ty w' t2 dd (a.eval y) []) :
  o.wp P a w (fun a' w'=>MS c T v F w0 i n (tm.map AV.kill) { d with l:=j6q d.l i off dd } a' w') Q:=by
 have hea:=h.av x
 rw [hx] at hea
 obtain ⟨b,o0,cap,hv,hi,he⟩:=hea
 obtain ⟨F',rfl⟩:=h.there hv hi
 obtain ⟨te,hte,hcts⟩:=hc.te
 have hlt:i < d.l.length:=by rw [h.ln]; exact hi
 have hoff:off < c.cts.length:=by
  rcases jp off c.cts.length with h' | h'
  ·exact h'
  ·simp [List.getElem?_eq_none h'] at ht2
 obtain ⟨cur,t0,hcur⟩:=h.own.open' b (by simp)
 have hone:=(hd w).one
 have htk:=hc.ty t ti ht
 have hrd:=h.rd
 rw [hv] at hrd
 have hcell:∃ y0,w.cell? ⟨b,o0 + (i * te.cts.length + off),none⟩=some y0:=by
  obtain ⟨_,_,u,_,_,_,hu,_⟩:=j7Q hte hrd h.own i off hlt (by rw [hcts]; exact hoff)
  exact ⟨u,hu⟩
 obtain ⟨y0,hy0⟩:=hcell
 have hsz:o0 + (i * te.cts.length + off) < cur.size:=by
  simp only [World.cell?,hcur] at hy0
  rw [if_neg (by simp)] at hy0
  exact (Array.getElem?_eq_some_iff.1 hy0).1
 have hrun:=Yr htk w b (o0 + (i * te.cts.length + off)) t0 cur (a.eval y) [a.eval y] (hd w).cells (by rw [hct]; rfl) hcur (by simp only [jd,je]; omega) (fun u hu=>by
  simp only [List.mem_singleton] at hu
  subst hu
  exact hone)
 generalize hW:w.setRow b (cur.toList.take (o0 + (i * te.cts.length + off)) ++ [a.eval y] ++ cur.toList.drop (o0 + (i * te.cts.length + off) + [a.eval y].length)).toArray=w' at hrun
 have hne:∀ k,k ≠ b → w'.heap[k]? = w.heap[k]?:=fun k hk=>by rw [← hW]; exact setRow_other _ _ _ _ hk
 have hb':w'.heap[b]? = some (.cells (cur.toList.take (o0 + (i * te.cts.length + off)) ++ [a.eval y] ++ cur.toList.drop (o0 + (i * te.cts.length + off) + [a.eval y].length)).toArray t0 (0,0)):=by
  rw [← hW]; exact setRow_heap _ _ _ _ _ _ hcur
 have hwr:Wrote w w' (b :: F'):=by
  refine ⟨by rw [← hW]; rfl,by rw [← hW]; rfl,by rw [← hW]; rfl,by rw [← hW]; simp [World.setRow],fun k _ hk=>hne k fun e=>hk (by simp [e]),fun k hk cs t hcs=>?_⟩
  by_cases hkb:k=b
  ·subst hkb
   rw [hcur] at hcs
   simp only [j8,Obj.cells.injEq] at hcs
   obtain ⟨rfl,rfl,_⟩:=hcs
   refine ⟨_,hb',?_⟩
   simp only [List.size_toArray,js,List.length_take,List.length_drop,Array.length_toList,jd,je]
   omega
  ·exact ⟨cs,by rw [hne k hkb]; exact hcs,rfl⟩
 have hce:∀ j y1,w.cell? ⟨b,j,none⟩=some y1 → w'.cell? ⟨b,j,none⟩=some (if j=o0 + (i * te.cts.length + off) then a.eval y else y1):=by
  intro j y1 hj
  simp only [World.cell?,hcur] at hj
  rw [if_neg (by simp)] at hj
  have hjs:=(Array.getElem?_eq_some_iff.1 hj).1
  simp only [World.cell?,hb']
  rw [if_neg (by simp),List.getElem?_toArray]
  rw [← Array.getElem?_toList] at hj
  by_cases h1:j < o0 + (i * te.cts.length + off)
  ·rw [if_neg (by omega),jy,List.getElem?_append_left (by simp; omega),List.getElem?_take,if_pos h1]
   exact hj
  ·by_cases h2:j=o0 + (i * te.cts.length + off)
   ·rw [if_pos h2,jy,List.getElem?_append_right (by simp; omega)]
    have:j - (List.take (o0 + (i * te.cts.length + off)) cur.toList).length=0:=by simp; omega
    rw [this]
    rfl
   ·rw [if_neg h2,jy,List.getElem?_append_right (by simp; omega),List.getElem?_append_right (by simp; omega),List.getElem?_drop]
    rw [← hj]
    congr 1
    simp
    omega
 have hnew:=j6G hte hrd h.own i off hlt (by rw [hcts]; exact hoff) (t:=t2) (by rw [hcts]; exact ht2) hfl hd hne hce
 refine j1h (w':=w') ?_ ?_
 ·rw [hcts] at hrun
  simp [execOp,ho,Instr.storeAt,he,Instr.sureAddr,hrun]
 ·rw [hdst]
  refine ⟨by simpa [Act.put] using h.len,fun t' x' u h1 h2=>?_,by rw [hv]; exact hnew,h.own.wrote hwr,h.wr.trans hwr fun _ h=>h,h.df,by simp [j6q,h.ln],h.nb,h.ib,h.kb⟩
  simp only [Act.put] at h2
  rw [List.getElem?_map] at h1
  cases hx':tm[t']? with
  | none=>rw [hx'] at h1; simp at h1
  | some z =>
   rw [hx'] at h1
   simp only [Option.map_some,j8] at h1
   subst h1
   exact (h.sl t' z u hx' h2).kill
end
def base (m iT:Nat):List AV:=(List.range m).map fun t=>if t=0 then .arr else if t=1 then .k else if t=iT then .idx else .u
def regEnd (tm:List AV) (iT:Nat) (ms:List MA):Option (List MA) :=
 if tm.getD 0 .u = .arr ∧ tm.getD iT .u = .idx then
  match tm.getD 1 .u with
  | .k=>some ms
  | .k1=>some (ms ++ [.inc])
  | .kr=>some (ms ++ [.upd])
  | _=>none
 else none
def j27 (c:MC) (m iT:Nat):Code → Option (List MA)
 | .skip=>some []
 | .region _ ops draw =>
  match draw,j78 c true ops.toList (base m iT) [] with
  | false,some (tm',ms)=>regEnd tm' iT ms
  | _,_=>none
 | .seq x y =>
  match j27 c m iT x,j27 c m iT y with
  | some a,some b=>some (a ++ b)
  | _,_=>none
 | _=>none
def j2Q (ops:Array Oper):Option (Nat × Operand) :=
 match ops.toList with
 | [o] =>
  match o.op,o.dst,o.guard with
  | .assign x,some d,none=>some (d,x)
  | _,_,_=>none
 | _=>none
def isZ:Operand → Bool
 | .const (.int .i64 n)=>decide (n=0)
 | _=>false
def isK:Operand → Bool
 | .const _=>true
 | _=>false
def shape (c:MC) (fd:Func):Option (List MA) :=
 match fd.body with
 | some (.seq (.region _ r0 false) (.seq (.seq (.region _ r1 false) (.block b0 (.loop (.seq (.seq (.region _ r2 false) (.cond (.tmp ct) .skip (.exit b1))) (.seq (.block _ body) (.region _ r3 false)))))) (.seq (.region _ r4 false) .ret))) =>
  match j2Q r0,j2Q r1,fd.results.toList with
  | some (rT,x0),some (iT,x1),[.tmp rT'] =>
   if isK x0=true ∧ isZ x1=true ∧ rT'=rT ∧ 1 < rT ∧ 1 < iT ∧ rT ≠ iT ∧ iT < fd.ntmps ∧ rT < fd.ntmps ∧ b1=b0 then
    match j78 c false r2.toList (base fd.ntmps iT) [],j27 c fd.ntmps iT body,j78 c false r3.toList (base fd.ntmps iT) [],j78 c false r4.toList (base fd.ntmps iT) [] with
    | some (t2,[]),some ms,some (t3,[]),some (t4,[]) =>
     if t2.getD 0 .u = .arr ∧ t2.getD 1 .u = .k ∧ t2.getD iT .u = .idx ∧ t2.getD ct .u = .lt ∧ t3.getD 0 .u = .arr ∧ t3.getD 1 .u = .k ∧ t3.getD iT .u = .idx1 ∧ t4.getD rT .u = .k then some ms else none
    | _,_,_,_=>none
   else none
  | _,_,_=>none
 | _=>none
def j1Y (T:Int → Option (List UInt8)) (rec:Nat → List (List DC) → Int → Option (List (List DC) × Int)) (ms:List MA):Nat → Nat → MD → Option MD
 | 0,_,d=>some d
 | m + 1,i,d =>
  match yS T rec i ms d with
  | some d'=>j1Y T rec ms m (i + 1) d'
  | none=>none
def j9h (T:Int → Option (List UInt8)) (rec:Nat → List (List DC) → Int → Option (List (List DC) × Int)) (ms:List MA) (l:List (List DC)) (k:Int):Option (List (List DC) × Int) :=
 if l.length < 4611686018427387904 ∧ 0 ≤ k ∧ k < 4611686018427387904 then
  match j1Y T rec ms l.length 0 ⟨l,k,0⟩ with
  | some d=>some (d.l,d.k)
  | none=>none
 else none
section
variable {P:Program} {c:MC} {T:Int → Option (List UInt8)} {rec:Nat → List (List DC) → Int → Option (List (List DC) × Int)} {v:Value} {F:List Nat} {w0:World} {i n:Nat} {tm:List AV} {d:MD} {a:Act} {w:World} {o:Oper} {Q:Exit → Act → World → Prop}
theorem KY {ops:Array Oper} {j:Nat} {o:Oper} {rest:List Nat} (ho:ops[j]? = some o) (hg:o.guard=none) (h:o.wp P a w (wpOps P ops Q rest) Q):wpOps P ops Q (j :: rest) a w:=by
 unfold wpOps
 rw [ho]
 simp only [Region.wanted,hg,if_true]
 exact .inl h
theorem j8t {m iT t:Nat} {x:AV} (h:(base m iT)[t]? = some x):t < m ∧ x=(if t=0 then .arr else if t=1 then .k else if t=iT then .idx else .u):=by
 unfold base at h
 rw [List.getElem?_map] at h
 cases hr:(List.range m)[t]? with
 | none=>rw [hr] at h; simp at h
 | some y =>
  rw [hr] at h
  have hlt:t < m:=by
   rcases jp t m with h' | h'
   ·exact h'
   ·rw [List.getElem?_eq_none (by simpa using h')] at hr; simp at hr
  rw [List.getElem?_range hlt] at hr
  simp only [j8] at hr
  subst hr
  simp only [Option.map_some,j8] at h
  exact ⟨hlt,h.symm⟩
theorem MS.at (h:MS c T v F w0 i n tm d a w) {t:Nat} {u:Value} (hu:a.tmps[t]? = some u):gaV T c.cts.length v i n d.k d.r w (tm.getD t .u) u:=by
 rw [List.getD_eq_getElem?_getD]
 cases h1:tm[t]? with
 | none=>trivial
 | some x=>exact h.sl t x u h1 hu
theorem MS.rebase (h:MS c T v F w0 i n tm d a w) {iT j:Nat} {k':Int} (h0:tm.getD 0 .u = .arr) (hi:∀ u,a.tmps[iT]? = some u → u = .int .i64 (j:Int)) (hj:j ≤ n) (hk:∀ u,a.tmps[1]? = some u → u = .int .i64 k') (hkb:0 ≤ k' ∧ k' < 4611686018427387904) :
  MS c T v F w0 j n (base a.tmps.size iT) { d with k:=k' } a w:=by
 refine ⟨by simp [base],fun t x u h1 h2=>?_,h.rd,h.own,h.wr,h.df,h.ln,h.nb,hj,hkb⟩
 obtain ⟨_,rfl⟩:=j8t h1
 by_cases t0:t=0
 ·subst t0
  rw [if_pos rfl]
  have:=h.at h2
  rw [h0] at this
  exact this
 ·rw [if_neg t0]
  by_cases t1:t=1
  ·subst t1
   rw [if_pos rfl]
   exact hk u h2
  ·rw [if_neg t1]
   by_cases t2:t=iT
   ·subst t2
    rw [if_pos rfl]
    exact hi u h2
   ·rw [if_neg t2]
    trivial
theorem MS.idxv (h:MS c T v F w0 i n tm d a w) {iT:Nat} (hi:tm.getD iT .u = .idx):∀ u,a.tmps[iT]? = some u → u = .int .i64 (i:Int):=fun u hu=>by
 have:=h.at hu
 rw [hi] at this
 exact this
theorem Xo {ms1 ms2:List MA} {d':MD}:yS T rec i (ms1 ++ ms2) d=some d' → ∃ d1,yS T rec i ms1 d=some d1 ∧ yS T rec i ms2 d1=some d':=by
 induction ms1 generalizing d with
 | nil=>exact fun h=>⟨d,rfl,h⟩
 | cons m ms ih =>
  intro h
  rw [List.cons_append,yS] at h
  rw [yS]
  cases hd:j1Z T rec i m d with
  | none=>rw [hd] at h; simp at h
  | some d1 =>
   rw [hd] at h
   exact ih h
theorem MS.regEnd (h:MS c T v F w0 i n tm d a w) {iT:Nat} {ms ms':List MA} {d0 d':MD} (e:regEnd tm iT ms=some ms') (h1:yS T rec i ms d0=some d) (h2:yS T rec i ms' d0=some d'):MS c T v F w0 i n (base a.tmps.size iT) d' a w:=by
 unfold Go.Proofs.QV.regEnd at e
 split at e
 ·rename_i hc
  have hk0:∀ u,a.tmps[1]? = some u → gaV T c.cts.length v i n d.k d.r w (tm.getD 1 .u) u:=fun u hu=>h.at hu
  split at e
  ·rename_i hk
   simp only [j8] at e
   subst e
   rw [h1] at h2
   obtain rfl:=Option.some.inj h2
   exact h.rebase hc.1 (h.idxv hc.2) h.ib (fun u hu=>by have:=hk0 u hu; rw [hk] at this; exact this) h.kb
  ·rename_i hk
   simp only [j8] at e
   subst e
   obtain ⟨d1,q1,q2⟩:=Xo h2
   rw [h1] at q1
   obtain rfl:=Option.some.inj q1
   simp only [yS,j1Z] at q2
   split at q2
   ·rename_i d2 hd2
    split at hd2
    ·rename_i hlt
     simp only [j8] at hd2 q2
     subst hd2
     subst q2
     exact h.rebase hc.1 (h.idxv hc.2) h.ib (fun u hu=>by have:=hk0 u hu; rw [hk] at this; exact this) ⟨by have:=h.kb; omega,hlt⟩
    ·simp at hd2
   ·simp at q2
  ·rename_i hk
   simp only [j8] at e
   subst e
   obtain ⟨d1,q1,q2⟩:=Xo h2
   rw [h1] at q1
   obtain rfl:=Option.some.inj q1
   simp only [yS,j1Z] at q2
   split at q2
   ·rename_i d2 hd2
    split at hd2
    ·rename_i hlt
     simp only [j8] at hd2 q2
     subst hd2
     subst q2
     exact h.rebase hc.1 (h.idxv hc.2) h.ib (fun u hu=>by have:=hk0 u hu; rw [hk] at this; exact this) hlt
    ·simp at hd2
   ·simp at q2
  ·simp at e
 ·simp at e
end
section
variable {P:Program} {c:MC} {T:Int → Option (List UInt8)} {rec:Nat → List (List DC) → Int → Option (List (List DC) × Int)} {v:Value} {F:List Nat} {w0:World} {i n:Nat} {tm:List AV} {d:MD} {a:Act} {w:World} {o:Oper} {Q:Exit → Act → World → Prop}
end
section
variable {P:Program}
end
def mkF (T:Int → Option (List UInt8)) (tab:Nat → Option (List MA)):Nat → Nat → List (List DC) → Int → Option (List (List DC) × Int)
 | 0,_,_,_=>none
 | n + 1,f,l,k =>
  match tab f with
  | some ms=>j9h T (mkF T tab n) ms l k
  | none=>none
section
variable {P:Program} {T:Int → Option (List UInt8)} {tab:Nat → Option (List MA)} {mt:Nat → Option Nat} {tf:Nat} {ty:Nat → Option TI}
structure TabOk (P:Program) (ty:Nat → Option TI) (T:Int → Option (List UInt8)) (tf:Nat) (mt:Nat → Option Nat) (tab:Nat → Option (List MA)):Prop where
 tyo:p6 P ty
 fd:∀ f,f=tf ∨ (∃ e',mt f=some e') → ∃ fd,P.funcs[f]? = some fd ∧ (fd.name == "runtime.NumGoroutine")=false ∧ fd.body.isNone=false
 tfc:∀ k s w,0 ≤ k → k < 4611686018427387904 → T k=some s → Calls P tf #[.int .i64 k] w fun en w'=>en = .returned (.string ⟨s.toArray⟩) ∧ RowKit.Below w.heap.size w w'
 tfs:∀ k,0 ≤ k → k < 4611686018427387904 → ∃ s,T k=some s
 sh:∀ f e',mt f=some e' → ∃ ti fd ms,ty e'=some ti ∧ P.funcs[f]? = some fd ∧ tab f=some ms ∧ shape ⟨ty,e',ti.cts,tf,mt⟩ fd=some ms
open Classical in
noncomputable def mkV (T:Int → Option (List UInt8)) (tab:Nat → Option (List MA)) (f:Nat) (ls:List (List (List DC))) (k:Int):Option (List (List (List DC)) × Int) :=
 if h:∃ l r,ls=[l] ∧ ∃ n,mkF T tab n f l k=some r then some ([(Classical.choose (Classical.choose_spec h)).1],(Classical.choose (Classical.choose_spec h)).2) else none
theorem j8l {rec rec':Nat → List (List DC) → Int → Option (List (List DC) × Int)} (hr:∀ f l k r,rec f l k=some r → rec' f l k=some r) {i:Nat} {m:MA} {d d':MD} (h:j1Z T rec i m d=some d'):j1Z T rec' i m d=some d':=by
 cases m with
 | sub off f =>
  simp only [j1Z] at h ⊢
  split at h
  ·rename_i l' k' hq
   rw [hr _ _ _ _ hq]
   exact h
  ·simp at h
 | _=>exact h
theorem j3a {rec rec':Nat → List (List DC) → Int → Option (List (List DC) × Int)} (hr:∀ f l k r,rec f l k=some r → rec' f l k=some r) {i:Nat}:∀ {ms:List MA} {d d':MD},yS T rec i ms d=some d' → yS T rec' i ms d=some d'
 | [],d,d',h=>h
 | m :: ms,d,d',h=>by
  rw [yS] at h ⊢
  split at h
  ·rename_i d1 h1
   rw [j8l hr h1]
   exact j3a hr h
  ·simp at h
theorem j39 {rec rec':Nat → List (List DC) → Int → Option (List (List DC) × Int)} (hr:∀ f l k r,rec f l k=some r → rec' f l k=some r) {ms:List MA}:∀ {n i:Nat} {d d':MD},j1Y T rec ms n i d=some d' → j1Y T rec' ms n i d=some d'
 | 0,i,d,d',h=>h
 | n + 1,i,d,d',h=>by
  rw [j1Y] at h ⊢
  split at h
  ·rename_i d1 h1
   rw [j3a hr h1]
   exact j39 hr h
  ·simp at h
theorem j80:∀ {n:Nat} {f:Nat} {l:List (List DC)} {k:Int} {r:List (List DC) × Int},mkF T tab n f l k=some r → mkF T tab (n + 1) f l k=some r
 | 0,f,l,k,r,h=>by simp [mkF] at h
 | n + 1,f,l,k,r,h=>by
  rw [mkF] at h ⊢
  split at h
  ·rename_i ms hms
   unfold j9h at h ⊢
   split at h
   ·rename_i hb
    rw [if_pos hb]
    split at h
    ·rename_i d hd
     rw [j39 (fun f l k r hq=>j80 hq) hd]
     exact h
    ·simp at h
   ·simp at h
  ·simp at h
theorem j7Z {n m:Nat} (hnm:n ≤ m) {f:Nat} {l:List (List DC)} {k:Int} {r:List (List DC) × Int} (h:mkF T tab n f l k=some r):mkF T tab m f l k=some r:=by
 obtain ⟨d,rfl⟩:=Nat.exists_eq_add_of_le hnm
 induction d with
 | zero=>exact h
 | succ d ih=>exact j80 (ih (by omega))
theorem j8R {f n:Nat} {l l':List (List DC)} {k k':Int} (h:mkF T tab n f l k=some (l',k')):mkV T tab f [l] k=some ([l'],k'):=by
 unfold mkV
 have hx:∃ l1 r,[l]=[l1] ∧ ∃ n,mkF T tab n f l1 k=some r:=⟨l,(l',k'),rfl,n,h⟩
 rw [dif_pos hx]
 have h2:=Classical.choose_spec (Classical.choose_spec hx)
 generalize Classical.choose (Classical.choose_spec hx)=r at h2 ⊢
 generalize Classical.choose hx=l1 at h2
 obtain ⟨h3,m,h4⟩:=h2
 simp only [List.cons.injEq,and_true] at h3
 subst h3
 have a:=j7Z (Nat.le_max_left n m) h
 have b:=j7Z (Nat.le_max_right n m) h4
 rw [a] at b
 obtain rfl:=Option.some.inj b
 rfl
end
section
variable {T:Int → Option (List UInt8)} {rec:Nat → List (List DC) → Int → Option (List (List DC) × Int)} {tab:Nat → Option (List MA)}
inductive Chain {α:Type} (R:α → Int → α → Int → Prop):List α → Int → List α → Int → Prop
 | nil (k:Int):Chain R [] k [] k
 | cons {x x':α} {xs xs':List α} {k k1 k':Int}:R x k x' k1 → Chain R xs k1 xs' k' → Chain R (x :: xs) k (x' :: xs') k'
theorem Chain.len {α:Type} {R:α → Int → α → Int → Prop} {vs vs':List α} {k k':Int} (h:Chain R vs k vs' k'):vs'.length=vs.length:=by
 induction h with
 | nil=>rfl
 | cons _ _ ih=>simp [ih]
theorem Chain.mono {α:Type} {R S:α → Int → α → Int → Prop} (hRS:∀ x k x' k',R x k x' k' → S x k x' k') {vs vs':List α} {k k':Int} (h:Chain R vs k vs' k'):Chain S vs k vs' k':=by
 induction h with
 | nil k=>exact .nil k
 | cons h1 _ ih=>exact .cons (hRS _ _ _ _ h1) ih
def Mk (T:Int → Option (List UInt8)) (tab:Nat → Option (List MA)) (f:Nat) (l:List (List DC)) (k:Int) (l':List (List DC)) (k':Int):Prop:=∃ n,mkF T tab n f l k=some (l',k')
theorem Mk.at {f:Nat} {l l':List (List DC)} {k k':Int} (h:Mk T tab f l k l' k'):mkV T tab f [l] k=some ([l'],k'):=j8R h.choose_spec
end
section
variable {P:Program} {T:Int → Option (List UInt8)} {tab:Nat → Option (List MA)} {mt:Nat → Option Nat} {tf:Nat} {ty:Nat → Option TI} {a:Act} {w:World} {o:Oper} {Q:Exit → Act → World → Prop}
theorem Rds.frame {w':World} {vs:List Value} {ps:List (Nat × Nat)} {ls:List (List (List DC))} {Fs:List (List Nat)} (h:Rds ty w vs ps ls Fs) (hb:∀ b ∈ Fs.flatten,w'.heap[b]? = w.heap[b]?):Rds ty w' vs ps ls Fs:=by
 induction h with
 | nil=>exact .nil
 | cons off e v l F ps ls Fs hv hr _ ih =>
  exact .cons _ _ _ _ _ _ _ _ hv (hr.frame fun b h=>hb b (by simp [h])) (ih fun b h=>hb b (by rw [List.flatten_cons]; exact List.mem_append_right _ h))
structure BS (ty:Nat → Option TI) (b m:Nat) (ps:List (Nat × Nat)) (vs:List Value) (Fs:List (List Nat)) (w0:World) (ls:List (List (List DC))) (k:Int) (a:Act) (w:World):Prop where
 sz:a.tmps.size=m
 s1:a.eval (.tmp 1) = .int .i64 k
 sb:∃ blk t,a.eval (.tmp b) = .pointer (some ⟨blk,0,none⟩) ∧ w.heap[blk]? = some (.cells vs.toArray t (0,0)) ∧ blk ∉ Fs.flatten
 rd:Rds ty w vs ps ls Fs
 own:Own w Fs.flatten
 wr:Wrote w0 w Fs.flatten
 df:a.defers=[]
end
section
variable {P:Program} {ty:Nat → Option TI}
end
end Go.Proofs.QV
