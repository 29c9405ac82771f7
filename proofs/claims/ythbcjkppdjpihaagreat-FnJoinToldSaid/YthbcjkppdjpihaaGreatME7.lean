import Derived.Test.YthbcjkppdjpihaaGreatME6
import Derived.Lib.SliceRun
import Derived.Test.YthbcjkppdjpihaaGreatME5
import Derived.Test.YthbcjkppdjpihaaGreatProg
import Derived.Sort.Grow
import Derived.Sort.EncStr
import Derived.Lib.SlicesCompact
import Derived.Shelf.SlicesQ.IndexFunc
/- A function that is met by a contract and gives a copy of a slice (slices.Clone). -/
namespace Go.Proofs.QV
open Go
open _root_.Option.some renaming injEq → j8
open _root_.List renaming flatMap_cons → jh, eq_nil_of_length_eq_zero → jn, nil_append → ju, map_cons → jc
open _root_.Nat renaming lt_or_ge → jp
open _root_.Bool renaming and_eq_true → jg
open _root_.Prod.mk renaming injEq → jb
open Out renaming andThen → ja
set_option linter.unusedVariables false
set_option linter.unusedSimpArgs false
def j01 (e:Nat):Hint → List DC → Option (List DC):=fun h v =>
 match h.tm,h.ob,v with
 | [.one (.sl e')],[],[.sl l]=>if e'=e ∧ l.length < jN then some [.sl l] else none
 | _,_,_=>none
def j8p:Code → Code
 | .seq _ (.seq (.seq _ x) _)=>x
 | _=>.skip
def j8o:Code → Code
 | .seq _ (.seq _ y)=>y
 | _=>.skip
def j9K:Nat → Option FI:=fun _=>none
def j9L:Nat → Hint → List DC → Out:=fun _ _ _=>.fail
def j3d (ty:Nat → Option TI) (fi:FI) (e:Nat) (ac ar:AC) (b:Bool) (l:List (List DC)):Out :=
 let h:Hint:=⟨[.one (.sl e)],[]⟩
 let st:=pd fi h [.sl l]
 exec ty j9K j9L 0 0 (qF ty fi h) (.seq ac ar) (fun _=>none) { tm:=jP (jP (jP st.tm (some 2) (.one .nil)) (some 3) (.one (.sl e l))) (some 4) (.one (.bool b)),H:=st.H } (qF ty fi h)
structure ClShape (P:Program) (fd:Func) (e:Nat) (ac ar:AC):Prop where
 ex:∃ (i0 i1:Nat) (o0 om ob:Oper) (t t':Nat),fd.body=some (.seq (.region i0 #[o0] false) (.seq (.seq (.region i1 #[om,ob] false) ac.code) ar.code)) ∧
  (o0.op = .assign (.const (.slice none 0 0)) ∧ o0.dst=some 2 ∧ o0.guard=none) ∧ (om.op = .move (.tmp 0) ∧ om.dst=some 3 ∧ om.guard=none) ∧
  (ob.op = .binOp .eql t (.tmp 3) (.const (.slice none 0 0)) t' ∧ ob.dst=some 4 ∧ ob.guard=none) ∧ P.underlying t=some (.slice e)
section
variable {P:Program} {ty:Nat → Option TI}
theorem j3Q {a:Act} {d e:Nat} {u:Value} (h:d ≠ e):(a.put (some d) u).eval (.tmp e)=a.eval (.tmp e):=by
 show (a.tmps.setIfInBounds d u).getD e undef=a.tmps.getD e undef
 rw [Array.getD_eq_getD_getElem?,Array.getD_eq_getD_getElem?,Array.getElem?_setIfInBounds_ne h]
theorem j1A {G:Glob} {f:Nat} {fi:FI} {fd:Func} {e:Nat} {ac ar:AC} (hty:p6 P ty) (hmix:P.follows .mixedOrders=true) (h1:P.funcs[f]? = some fd) (h2:(fd.name == "runtime.NumGoroutine")=false) (h3:fd.body.isNone=false)
  (hmk:fi.mark=none) (hp:fi.prim=some (j01 e)) (hsh:ClShape P fd e ac ar) (hres:fd.results.toList=fi.res) (hnt:fd.ntmps=fi.ntmps) (hlen:4 < fi.ntmps)
  (hrun:∀ b l,(b=true → l=[]) → l.length < jN → j3d ty fi e ac ar b l = .ret [.sl l]) (hstf:fi.stf=none:=by rfl):FnOk P G ty f fi:=by
 refine ⟨⟨fd,h1,h2,h3,fun h=>by rw [hp] at h; simp at h⟩,fun p hpp h v r en=>?_,fun m hm=>(by rw [hmk] at hm; cases hm),fun m hm=>(by rw [hstf] at hm; cases hm)⟩
 rw [hp] at hpp
 simp only [j8] at hpp
 subst hpp
 unfold j01 at en
 split at en
 ·rename_i e' l htm hob
  split at en
  ·rename_i hc
   obtain ⟨rfl,hlim⟩:=hc
   simp only [j8] at en
   subst en
   obtain ⟨tm,ob⟩:=h
   dsimp only at htm hob
   subst htm hob
   intro A g vals w hA hr hs hw hm
   have hs1:vals.size=1:=by simpa using hs
   obtain ⟨i0,i1,o0,om,ob,t,t',hbody,⟨x1,x2,x3⟩,⟨y1,y2,y3⟩,⟨z1,z2,z3⟩,hu⟩:=hsh.ex
   have t0:=hr.tm 0 _ (vals[0]'(by omega)) (show (pd fi ⟨[.one (.sl e')],[]⟩ [.sl l]).tm[0]? = some (.one (.sl e' l)) from rfl) (by
    dsimp only
    rw [Array.getElem?_append_left (by omega),Array.getElem?_eq_getElem (by omega)])
   obtain ⟨F,t0,t1⟩:=t0
   have hv0:∀ v0,RdC ty w (.sl e') (.sl l) v0 F → ∃ ad n cap,v0 = .slice ad n cap ∧ (ad.isNone=true → l=[]):=by
    intro v0 h0
    generalize hl0:l=l0 at h0
    cases h0 with
    | nil _ a c=>exact ⟨a,0,c,rfl,fun _=>rfl⟩
    | sl _ _ b off n cap=>exact ⟨_,n,cap,rfl,fun h=>by simp at h⟩
   obtain ⟨ad,n,cap,hv0,hnil⟩:=hv0 _ t0
   refine calls_of_wp h1 hbody ?_
   rw [hnt]
   generalize ha0:({ tmps:=vals ++ Array.replicate (fi.ntmps - vals.size) undef,defers:=[] }:Act)=a0 at hr ⊢
   have e0:a0.eval (.tmp 0) = .slice ad n cap:=by
    subst ha0
    show Array.getD _ 0 undef=_
    rw [Array.getD_eq_getD_getElem?,Array.getElem?_append_left (by omega),Array.getElem?_eq_getElem (by omega),hv0]
    rfl
   have n1:4 < a0.tmps.size:=by subst ha0; simp; omega
   refine wp_seq (wp_region ?_)
   show wpOps P #[o0] _ [0] a0 w
   refine KY (o:=o0) rfl x3 (jM (v:=.slice none 0 0) (w':=w) (by simp [execOp,x1,Act.eval]) ?_)
   rw [x2]
   have r1:=hr.put (some 2) (c:=.one .nil) (v:=.slice none 0 0) rfl
   refine wp_seq (wp_seq (wp_region ?_))
   show wpOps P #[om,ob] _ [0,1] _ w
   have e1:(a0.put (some 2) (.slice none 0 0)).eval (.tmp 0) = .slice ad n cap:=by rw [j3Q (by decide)]; exact e0
   refine KY (o:=om) rfl y3 (jM (v:=.slice ad n cap) (w':=w) (by simp only [execOp,y1,Sem.run_pure]; rw [e1]) ?_)
   rw [y2]
   have r2:=r1.put (some 3) (c:=.one (.sl e' l)) (v:=.slice ad n cap) ⟨F,by rw [← hv0]; exact t0,t1⟩
   refine KY (o:=ob) rfl z3 (jM (v:=.bool ad.isNone) (w':=w) ?_ ?_)
   ·have e2:((a0.put (some 2) (.slice none 0 0)).put (some 3) (.slice ad n cap)).eval (.tmp 3) = .slice ad n cap:=by
     show Array.getD _ 3 undef=_
     rw [Array.getD_eq_getD_getElem?]
     simp only [Act.put]
     rw [Array.getElem?_setIfInBounds_self_of_lt (by simp; omega)]
     rfl
    simp only [execOp,z1]
    rw [e2]
    simp [eqGuard,Act.eval,Lib.run_eql_slice_nil w t e' ad n cap 0 0 hu]
   rw [z2]
   have r3:=r2.put (some 4) (c:=.one (.bool ad.isNone)) (v:=.bool ad.isNone) rfl
   have hcall:qP P ty j9K j9L A:=ZH (G:=G) (fun f fi h=>by simp [j9K] at h) (fun f fi h v r hf e=>by simp [j9L] at e) A hA
   have hex:=hrun ad.isNone l hnil hlim
   unfold j3d at hex
   dsimp only at hex
   rw [exec] at hex
   have hm0:A.m=0:=by rw [hm]; rfl
   have fin:∀ g' st' a' w',Rel ty A g' st' a' w' → qF ty fi ⟨[.one (.sl e')],[]⟩ st' = .ret [.sl l] → a'.defers=[] ∧ ∃ v,(results fd a'.tmps).run P w' = .ok v w' ∧ ∃ vs,v=Kj vs ∧ Res ty A (KO.vars []) fi.rk [.sl l] vs w':=by
    intro g' st' a' w' hr' hk
    obtain ⟨vs,q1,q2⟩:=j7G hty hr' (hn:=⟨[.one (.sl e')],[]⟩) hm hk hres
    exact ⟨hr'.df,_,q1,vs,rfl,q2⟩
   refine wp_mono (yp hty hcall hmix hm0 (fun st v=>(Ji fi ⟨[.one (.sl e')],[]⟩ st).1 v) (fun st id v=>(Ji fi ⟨[.one (.sl e')],[]⟩ st).2 id v) ac _ _ _ (.ret [.sl l]) g _ w r3 hex (by simp)) fun ex a' w' hq=>?_
   cases ex with
   | normal =>
    obtain ⟨g',st',hr',hk⟩:=hq
    refine wp_mono (yp hty hcall hmix hm0 (fun st v=>(Ji fi ⟨[.one (.sl e')],[]⟩ st).1 v) (fun st id v=>(Ji fi ⟨[.one (.sl e')],[]⟩ st).2 id v) ar _ _ _ (.ret [.sl l]) g' _ w' hr' hk (by simp)) fun ex a2 w2 hq2=>?_
    cases ex with
    | normal =>
     obtain ⟨g2,st2,hr2,hk2⟩:=hq2
     exact fin g2 st2 a2 w2 hr2 hk2
    | ret =>
     obtain ⟨g2,st2,hr2,hk2⟩:=hq2
     exact fin g2 st2 a2 w2 hr2 hk2
    | exit id =>
     obtain ⟨_,_,_,hk,_⟩:=hq2
     simp at hk
    | goto l=>exact hq2.elim
    | panic c=>exact hq2.elim
    | outgrown=>exact hq2.elim
   | ret =>
    obtain ⟨g2,st2,hr2,hk2⟩:=hq
    exact fin g2 st2 a' w' hr2 hk2
   | exit id =>
    obtain ⟨_,_,_,hk,_⟩:=hq
    simp at hk
   | goto l=>exact hq.elim
   | panic c=>exact hq.elim
   | outgrown=>exact hq.elim
  ·simp at en
 ·simp at en
end
set_option maxRecDepth 100000
abbrev ou:KC:=.one .u
abbrev ob:KC:=.one .b
abbrev os:KC:=.one .s
abbrev oi:KC:=.one (.i .i64)
abbrev ol (e:Nat):KC:=.one (.sl e)
def uu (n:Nat) (l:List KC):List KC:=List.replicate n (.one .u) ++ l
def vv (n:Nat) (l:List KO):List KO:=List.replicate n .u ++ l
noncomputable def tyL:List (Nat × TI):=[(3,⟨.int .i64,[.i .i64],8,[],false⟩),
 (4,⟨.bool,[.b],1,[],false⟩),
 (5,⟨.int .u8,[.i .u8],1,[],false⟩),
 (9,⟨.str,[.s],16,[],false⟩),
 (22,⟨.slice 5,[.sl 5],24,[],false⟩),
 (26,⟨.slice 70,[.sl 70],24,[],false⟩),
 (28,⟨.struct,[.sl 70],24,[(0,1,false)],false⟩),
 (30,⟨.struct,[.i .i64,.i .i64],16,[(0,1,false),(1,1,false)],false⟩),
 (33,⟨.slice 68,[.sl 68],24,[],false⟩),
 (34,⟨.slice 42,[.sl 42],24,[],false⟩),
 (42,⟨.struct,[.i .i64,.s,.s],40,[(0,1,false),(1,1,false),(2,1,false)],true⟩),
 (44,⟨.slice 9,[.sl 9],24,[],false⟩),
 (51,⟨.slice 117,[.sl 117],24,[],false⟩),
 (53,⟨.struct,[.sl 117,.i .i64,.i .i64,.i .i64,.i .i64],56,[(0,1,false),(1,1,false),(2,1,false),(3,2,true)],false⟩),
 (56,⟨.slice 164,[.sl 164],24,[],false⟩),
 (57,⟨.slice 146,[.sl 146],24,[],false⟩),
 (58,⟨.slice 169,[.sl 169],24,[],false⟩),
 (60,⟨.struct,[.i .i64,.s,.sl 164,.sl 146,.sl 169],96,[(0,1,false),(1,1,false),(2,1,false),(3,1,false),(4,1,false)],false⟩),
 (62,⟨.struct,[.s,.s,.sl 146,.sl 169],80,[(0,1,false),(1,1,false),(2,1,false),(3,1,false)],false⟩),
 (63,⟨.slice 135,[.sl 135],24,[],false⟩),
 (64,⟨.slice 140,[.sl 140],24,[],false⟩),
 (65,⟨.slice 143,[.sl 143],24,[],false⟩),
 (66,⟨.slice 102,[.sl 102],24,[],false⟩),
 (68,⟨.struct,[.i .i64,.b,.s,.s,.sl 9,.sl 135,.sl 140,.sl 143,.sl 102,.b,.sl 146],200,[(0,1,false),(1,1,false),(2,1,false),(3,1,false),(4,1,false),(5,1,false),(6,1,false),(7,1,false),(8,1,false),(9,1,false),(10,1,false)],false⟩),
 (70,⟨.struct,[.i .i64,.i .i64,.s,.sl 164,.sl 146,.sl 169,.s,.s,.sl 146,.sl 169,.i .i64,.b,.s,.s,.sl 9,.sl 135,.sl 140,.sl 143,.sl 102,.b,.sl 146],384,[(0,1,false),(1,5,true),(6,4,true),(10,11,true)],false⟩),
 (85,⟨.struct,[.sl 5,.i .i64,.i .i64],40,[(0,1,false),(1,1,false),(2,1,false)],false⟩),
 (102,⟨.struct,[.i .i64,.s],24,[(0,1,false),(1,1,false)],true⟩),
 (117,⟨.struct,[.i .i64,.s,.i .i64],32,[(0,1,false),(1,1,false),(2,1,false)],false⟩),
 (133,⟨.struct,[.s,.s],32,[(0,1,false),(1,1,false)],true⟩),
 (135,⟨.struct,[.s,.s,.sl 140,.s,.s,.sl 146],112,[(0,1,false),(1,1,false),(2,1,false),(3,2,true),(5,1,false)],false⟩),
 (136,⟨.slice 138,[.sl 138],24,[],false⟩),
 (138,⟨.struct,[.i .i64,.s,.sl 138,.sl 9],72,[(0,1,false),(1,1,false),(2,1,false),(3,1,false)],false⟩),
 (140,⟨.struct,[.s,.s,.s,.s,.b,.i .i64,.s,.sl 138,.sl 9,.sl 146],168,[(0,1,false),(1,1,false),(2,2,true),(4,1,false),(5,4,true),(9,1,false)],false⟩),
 (143,⟨.struct,[.s,.s,.sl 146],56,[(0,1,false),(1,1,false),(2,1,false)],false⟩),
 (144,⟨.slice 151,[.sl 151],24,[],false⟩),
 (146,⟨.struct,[.s,.sl 151],40,[(0,1,false),(1,1,false)],false⟩),
 (151,⟨.struct,[.s,.i .i64,.s,.sl 138,.sl 9],88,[(0,1,false),(1,4,true)],false⟩),
 (164,⟨.struct,[.s,.s,.s,.b,.i .i64,.s,.sl 138,.sl 9,.sl 146],152,[(0,1,false),(1,2,true),(3,1,false),(4,4,true),(8,1,false)],false⟩),
 (169,⟨.struct,[.i .i64,.s,.s,.s,.sl 151,.sl 146,.sl 169],128,[(0,1,false),(1,1,false),(2,1,false),(3,1,false),(4,1,false),(5,1,false),(6,1,false)],false⟩),
 (190,⟨.slice 3,[.sl 3],24,[],false⟩)]
theorem tys:tyB Tryz.prog tyL=true:=by kernel_rfl
section
variable {P:Program} {ty:Nat → Option TI}
end
end Go.Proofs.QV

namespace Go.Proofs.QV
open Go Go.Sort
open _root_.Option.some renaming injEq → j8
open _root_.List renaming flatMap_cons → jh, eq_nil_of_length_eq_zero → jn, nil_append → ju, map_cons → jc
open _root_.Nat renaming lt_or_ge → jp
open _root_.Bool renaming and_eq_true → jg
open _root_.Prod.mk renaming injEq → jb
open Out renaming andThen → ja
set_option linter.unusedVariables false
set_option linter.unusedSimpArgs false
section
variable {P:Program} {ty:Nat → Option TI} {A:An} {g:Gh} {tm:List C} {H:List HS} {a:Act} {w:World}
theorem j53 {G:Glob} {f:Nat} {fi:FI} {q:Nat → List HS → List C → Option (Nat × List HS × C)} (h:FnOk P G ty f fi) (hs:j4W P G ty f q):FnOk P G ty f { fi with stf:=some q } :=
 ⟨h.ex,h.prim,h.mark,fun q' e=>by (cases e; exact hs)⟩
end
section
variable {P:Program} {ty:Nat → Option TI} {A:An} {g:Gh} {tm:List C} {H:List HS} {a:Act} {w:World}
theorem j4S {cfg:Cfg} {G:Glob} (hty:p6 P cfg.ty) (hm:P.follows .mixedOrders=true) (hfn:∀ f fi,cfg.fn f=some fi → FnOk P G cfg.ty f fi) {f:Nat} {fi:FI} (hf:cfg.fn f=some fi) {w:World}
  (hG:G.ok w ∧ ∀ b,G.gb b → b < w.heap.size) {cts:List CT} (hpk:fi.pk=[.ag cts,.ag cts]) (hrk:fi.rk=[(false,[.ct .b])]) {x d:List DC} {u1 u2:List Value} {F1 F2:List Nat} {r:Bool}
  (h1:RdL cfg.ty w cts x u1 F1) (h2:RdL cfg.ty w cts d u2 F2) (hF1:∀ b ∈ F1,b < w.heap.size) (hF2:∀ b ∈ F2,b < w.heap.size)
  (hev:Evt (fun n=>jC cfg n f ⟨fi.pk.map Ko,[]⟩ (x ++ d)) (.ret [.b r])) :
  Calls P f #[.agg u1.toArray,.agg u2.toArray] w fun e w'=>e = .returned (.bool r) ∧ RowKit.Below w.heap.size w w':=by
 have hrd:RdL cfg.ty w (fi.pk.flatMap PK.cts) (x ++ d) (u1 ++ u2) (F1 ++ F2):=by
  rw [hpk]
  simpa [PK.cts] using h1.append h2
 obtain ⟨A,g,h2',h3,h4,h5,h6,h7⟩:=j29 (ty:=cfg.ty) (w:=w) (vals:=#[.agg u1.toArray,.agg u2.toArray]) (d:=x ++ d) (us:=u1 ++ u2) (F:=F1 ++ F2) fi (by rw [hpk]; rfl)
  hrd (fun b hb=>by rcases List.mem_append.1 hb with hb | hb; exact hF1 b hb; exact hF2 b hb) (by
   rw [hpk]
   exact ⟨u1,u2,rfl,by simp [(RdL.length h1).1],rfl,u2,[],rfl,by simp [(RdL.length h2).1],by simp,rfl⟩)
 obtain ⟨N,hN⟩:=hev
 have hcalls:=K3 hty hm hfn N f fi ⟨fi.pk.map Ko,[]⟩ (x ++ d) [.b r] hf (hN N (Nat.le_refl _)) A g #[.agg u1.toArray,.agg u2.toArray] w ⟨by rw [h4]; exact hG.1,fun b hb=>⟨by rw [h4]; exact hG.2 b hb,h6 b,h7 b⟩⟩ h2' h3 h4 h5
 refine Calls.mono hcalls fun e w' he=>?_
 cases e with
 | returned rv =>
  obtain ⟨vs,rfl,hres⟩:=he
  obtain ⟨⟨gr,H0,H1,us1,us2,q1,q2,q3,_⟩,hkeep⟩:=hres
  rw [hrk] at q1 q3
  match vs,q1 with
  | [v],⟨u1',u2',z1,z2,z3,z4,z5⟩ =>
   have z5':u2'=[]:=z5
   subst z5'
   have:=z4 rfl
   subst this
   rw [List.append_nil] at z1
   subst z1
   have hus2:us2=[]:=q2
   subst hus2
   obtain ⟨⟨dd,y1,y2,y3⟩,_⟩:=q3
   obtain ⟨b,rfl,rfl⟩:=y3
   have:=y2 0 (by simp [RK.k1,CT.k1,K1.cnt])
   simp only [Nat.add_zero,List.getD_cons_zero] at this
   have hx:b=r:=by
    have:DC.b r=DC.b b:=this
    simpa using this.symm
   subst hx
   refine ⟨rfl,⟨by rw [hkeep.os,h4],by rw [hkeep.tape,h4],by rw [hkeep.output,h4],by have:=hkeep.size; rwa [h4] at this,fun b hb=>?_⟩⟩
   have:=hkeep.block b (by rw [h4]; exact hb) (h6 b) (h7 b)
   rwa [h4] at this
  | [],q1=>exact q1.elim
  | _ :: _ :: _,⟨_,_,_,_,_,_,h⟩=>exact h.elim
 | panicked ch=>exact he.elim
 | outgrown=>exact he.elim
theorem Rel.below (h:Rel ty A g ⟨tm,H⟩ a w) {w':World} (hb:RowKit.Below w.heap.size w w'):Rel ty A g ⟨tm,H⟩ a w':=by
 have hch:Ch g g H H w w':=⟨fun _ h=>h,fun b hb'=>hb.block b (h.lt b hb'),fun _ h=>h,fun _ _ h=>⟨h,rfl⟩,fun _ _ h=>⟨h,rfl⟩⟩
 exact h.ch hch (fun id o ho=>OR.mono hch rfl rfl rfl (fun b hb'=>⟨hb.block b (h.oblk_lt ho hb'),pc h ho hb'⟩) (h.ob id o ho)) h.sep (fun b hb'=>Nat.lt_of_lt_of_le (h.lt b hb') hb.size) h.inI h.ow h.pb
  (h.keep.trans hb.os hb.tape hb.output hb.size fun b hb' _ _=>hb.block b (Nat.lt_of_lt_of_le hb' h.keep.size))
structure El (ty:Nat → Option TI) (w:World) (cts:List CT) where
 v:List Value
 d:List DC
 F:List Nat
 rd:RdL ty w cts d v F
 lt:∀ b ∈ F,b < w.heap.size
def zV:CT → Value
 | .b=>.bool false
 | .i k=>.int k 0
 | .s=>.string ⟨#[]⟩
 | .sl _=>.slice none 0 0
theorem zRd (ty:Nat → Option TI) (w:World):∀ cts:List CT,RdL ty w cts (cts.map j1f) (cts.map zV) []
 | []=>.nil
 | .b :: l=>.cons _ _ _ _ _ _ [] [] (.b false) (zRd ty w l)
 | .i k :: l=>.cons _ _ _ _ _ _ [] [] (.i k 0) (zRd ty w l)
 | .s :: l=>.cons _ _ _ _ _ _ [] [] (.s []) (zRd ty w l)
 | .sl e :: l=>.cons _ _ _ _ _ _ [] [] (.nil e none 0) (zRd ty w l)
instance (ty:Nat → Option TI) (w:World) (cts:List CT):Inhabited (El ty w cts):=⟨⟨_,_,[],zRd ty w cts,fun b hb=>by cases hb⟩⟩
theorem els {cts:List CT}:∀ {l:List (List DC)} {vs:List Value} {F:List Nat},RdV ty w cts l vs F → (∀ b ∈ F,b < w.heap.size) → ∃ zs:List (El ty w cts),zs.map El.d=l ∧ zs.flatMap El.v=vs
 | _,_,_,.nil _,_=>⟨[],rfl,rfl⟩
 | _,_,_,.cons _ x l v vs F G h1 h2,h=>by
  obtain ⟨zs,a,b⟩:=els h2 fun c hc=>h c (by simp [hc])
  exact ⟨⟨v,x,F,h1,fun c hc=>h c (by simp [hc])⟩ :: zs,by simp [a],by simp [b]⟩
theorem j3V {cts:List CT}:∀ (zs:List (El ty w cts)) (j i:Nat) (v:Value),j < zs.length → (zs[j]!).v[i]? = some v → (zs.flatMap El.v)[j * cts.length + i]? = some v
 | [],j,i,v,h,_=>by simp at h
 | z :: zs,0,i,v,_,hv=>by
  have hv:z.v[i]? = some v:=by simpa using hv
  rw [Nat.zero_mul,Nat.zero_add,jh,List.getElem?_append_left]
  ·exact hv
  ·rcases jp i z.v.length with h' | h'
   ·exact h'
   ·simp [List.getElem?_eq_none h'] at hv
 | z :: zs,j + 1,i,v,h,hv=>by
  have hl:=(RdL.length z.rd).1
  have:=j3V zs j i v (by simpa using h) (by simpa using hv)
  rw [jh,List.getElem?_append_right (by rw [hl,Nat.succ_mul]; omega),hl]
  rw [show (j + 1) * cts.length + i - cts.length=j * cts.length + i by rw [Nat.succ_mul]; omega]
  exact this
def j7K:CT → S → Option DC
 | .b,.bool b=>some (.b b)
 | .i k,.int k' n=>if k'=k then some (.i n) else none
 | .s,.str l=>some (.s l)
 | .sl e,.sl e' l=>if e'=e then some (.sl l) else none
 | .sl _,.nil=>some (.sl [])
 | _,_=>none
def XK:List CT → List S → Option (List DC)
 | [],[]=>some []
 | t :: ts,s :: ss =>
  match j7K t s with
  | some d=>(match XK ts ss with | some ds=>some (d :: ds) | none=>none)
  | none=>none
 | _,_=>none
theorem j2N:∀ {ts:List CT} {ss:List S} {vs:List Value} {ds:List DC},kQ ty g H w ss vs → XK ts ss=some ds → ∃ F,RdL ty w ts ds vs F ∧ ∀ b ∈ F,g.I b
 | [],[],[],ds,_,e=>by
  simp only [XK,j8] at e
  subst e
  exact ⟨[],.nil,fun b hb=>by cases hb⟩
 | t :: ts,s :: ss,v :: vs,ds,⟨hs,hss⟩,e=>by
  simp only [XK] at e
  split at e
  ·rename_i d hd
   split at e
   ·rename_i ds' hds
    simp only [j8] at e
    subst e
    obtain ⟨G,h1,h2⟩:=j2N hss hds
    have hc:∃ F,RdC ty w t d v F ∧ ∀ b ∈ F,g.I b:=by
     unfold j7K at hd
     split at hd
     ·simp only [j8] at hd
      subst hd
      exact ⟨[],by rw [show v=_ from hs]; exact .b _,fun b hb=>by cases hb⟩
     ·split at hd
      ·rename_i hk
       simp only [j8] at hd
       subst hd hk
       exact ⟨[],by rw [show v=_ from hs]; exact .i _ _,fun b hb=>by cases hb⟩
      ·simp at hd
     ·simp only [j8] at hd
      subst hd
      exact ⟨[],by rw [show v=_ from hs]; exact .s _,fun b hb=>by cases hb⟩
     ·split at hd
      ·rename_i hk
       simp only [j8] at hd
       subst hd hk
       exact hs
      ·simp at hd
     ·simp only [j8] at hd
      subst hd
      exact ⟨[],by rw [show v=_ from hs]; exact .nil _ _ _,fun b hb=>by cases hb⟩
     ·simp at hd
    obtain ⟨F,h3,h4⟩:=hc
    exact ⟨F ++ G,.cons _ _ _ _ _ _ _ _ h3 h1,fun b hb=>by rcases List.mem_append.1 hb with hb | hb; exact h4 b hb; exact h2 b hb⟩
   ·simp at e
  ·simp at e
 | [],_ :: _,_,_,_,e=>by simp [XK] at e
 | _ :: _,[],_,_,_,e=>by simp [XK] at e
 | [],[],_ :: _,_,h,_=>h.elim
 | _ :: _,_ :: _,[],_,h,_=>h.elim
def ze (p:List DC → Bool) (l:List (List DC)):Int:=match l.findIdx? p with | some i=>(i:Int) | none=>-1
def j6C (R:(List DC → Bool) → List (List DC) → C) (e cf:Nat) (cts:List CT) (Pd:List DC → List DC → Bool):Nat → List HS → List C → Option (Nat × List HS × C):=fun _ H args =>
 match args with
 | [.one (.own id),.one (.fn f [vid])] =>
  match ji H id,ji H vid with
  | .live (.row e' l),.live (.var t cs) =>
   match Nat.beq (po e') e && !(hq e'),Nat.beq f cf,Nat.beq t e,XK cts cs with
   | true,true,true,some d=>some (l.length,H,R (fun x=>Pd x d) l)
   | _,_,_,_=>none
  | _,_=>none
 | _=>none
def jaj (p:List DC → Bool) (l:List (List DC)):C:=.one (.bool (l.any p))
def jai (p:List DC → Bool) (l:List (List DC)):C:=.one (.int .i64 (ze p l))
theorem j8c {R:(List DC → Bool) → List (List DC) → C} {V:(cts:List CT) → (w:World) → (El ty w cts → Bool) → List (El ty w cts) → Value} {f e cf:Nat} {cts:List CT} {Pd:List DC → List DC → Bool} (hd0:dp e=false)
  (hte:∀ te,ty e=some te → te.cts=cts) (hcl:cts.length=cts.length)
  (hC:∀ (w:World) (p:El ty w cts → Bool) (lb:Array Value) (b c:Nat) (zs:List (El ty w cts)),PredBelow P cf lb (fun x=>.agg x.v.toArray) p w → zs.length ≤ 9223372036854775807 → b < w.heap.size →
   (∀ j,j < zs.length → ∀ i v,(zs[j]!).v[i]? = some v → w.cell? ⟨b,0 + j * cts.length + i,none⟩=some v) →
   Calls P f #[.slice (some ⟨b,0,none⟩) zs.length c,.func (.func cf) #[] lb] w fun e w'=>e = .returned (V cts w p zs) ∧ RowKit.Below w.heap.size w w')
  (hN:∀ (fv:Value) (w:World),Calls P f #[.slice none 0 0,fv] w fun e w'=>e = .returned (V cts w (fun _=>false) []) ∧ w'=w)
  (hV:∀ (w:World) (p:El ty w cts → Bool) (q:List DC → Bool) (zs:List (El ty w cts)),(∀ z ∈ zs,p z=q z.d) → ∀ {g:Gh} {H:List HS} {w':World},CR ty g H w' (R q (zs.map El.d)) (V cts w p zs))
  (hP:∀ (W:World) (x d:List DC) (u1 u2:List Value) (F1 F2:List Nat) (B:Nat),RdL ty W cts x u1 F1 → RdL ty W cts d u2 F2 → (∀ b ∈ F1,b < W.heap.size) → (∀ b ∈ F2,b < W.heap.size) → W.heap[B]? = some (.cells u2.toArray e (0,0)) →
   Calls P cf (#[.agg u1.toArray] ++ #[.pointer (some ⟨B,0,none⟩)]) W fun e w'=>e = .returned (.bool (Pd x d)) ∧ RowKit.Below W.heap.size W w'):j4W P Glob.none ty f (j6C R e cf cts Pd):=by
 intro A g tm H H' a w base n args vals c hA h hlen hcr hq hlim
 unfold j6C at hq
 split at hq
 ·rename_i id f' vid
  split at hq
  ·rename_i e' l t cs hr hvr
   split at hq
   ·rename_i d b1 b2 b3 hpl
    rw [jg,Bool.not_eq_true'] at b1
    obtain ⟨b1,hh⟩:=b1
    obtain rfl:=Nat.eq_of_beq_eq_true b1
    obtain rfl:=Nat.eq_of_beq_eq_true b2
    obtain rfl:=Nat.eq_of_beq_eq_true b3
    simp only [j8,jb] at hq
    obtain ⟨rfl,rfl,rfl⟩:=hq
    match vals,hlen with
    | [v1,v2],_ =>
     have hv1:=hcr 0 _ v1 rfl rfl
     have hv2:=hcr 1 _ v2 rfl rfl
     have e1:v1=g.val id:=hv1.2.2 ⟨_,_,.inl hr⟩
     obtain ⟨lb,e2,hl2,hc2⟩:=hv2
     obtain ⟨_,hc3⟩:=hc2 0 vid rfl
     have hlb:=hc3 ⟨_,_,hvr⟩
     have hlbe:lb = #[.pointer (some ⟨g.blk vid,0,none⟩)]:=by
      apply Array.ext_getElem?
      intro i
      match i with
      | 0=>rw [hlb]; rfl
      | i + 1=>rw [Array.getElem?_eq_none (by rw [hl2]; simp),Array.getElem?_eq_none (by simp)]
     obtain ⟨us,g1,g2,g3,g4⟩:=h.ob vid _ hvr
     obtain ⟨F2,r2,i2⟩:=j2N g2 hpl
     have l2:∀ b ∈ F2,b < w.heap.size:=fun b hb=>h.lt b (i2 b hb)
     obtain ⟨ti,vs,F,k1,k0,k2,k3,k4,k5⟩:=h.ob id _ hr
     have k3:=k3.v hh
     have hct:=hte ti k1
     rw [hct] at k2 k3
     have lF:∀ b ∈ F,b < w.heap.size:=fun b hb=>by
      rcases k4.all b hb with hb | hb
      ·exact h.lt b hb
      ·exact h.oblk_lt hr hb
     obtain ⟨zs,z1,z2⟩:=els k3 lF
     have hzl:zs.length=l.length:=by rw [← z1,List.length_map]
     have fin:∀ (p:El ty w cts → Bool) (zs':List (El ty w cts)) (w':World),zs'=zs → (∀ z ∈ zs',p z=Pd z.d d) → RowKit.Below w.heap.size w w' →
       ∃ v g',Ending.returned (V cts w p zs') = .returned v ∧ Rel ty A g' ⟨tm,H⟩ a w' ∧ (∀ b,g.I b → g'.I b) ∧ CR ty g' H w' (R (fun x=>Pd x d) l) v:=by
      intro p zs' w' hz hp hb
      subst hz
      refine ⟨_,g,rfl,h.below hb,fun _ h=>h,?_⟩
      rw [← z1]
      exact hV w p _ zs' hp
     subst e1 e2
     rcases k2.2 with ⟨hv,hn⟩ | ⟨b,cap,cur,hv,hk,hg,hnc,hcm,hcs,htake⟩
     ·have hz0:zs=[]:=jn (by omega)
      show Calls P f #[g.val id,_] w _
      rw [hv]
      refine Calls.mono (hN _ w) fun en w' hen=>?_
      obtain ⟨rfl,rfl⟩:=hen
      have:=fin (fun _=>false) [] w' hz0.symm (fun z hz=>by cases hz) (.refl _ _)
      obtain ⟨v,g',q1,q2,q3,q4⟩:=this
      exact ⟨v,g',by simpa using q1,q2,q3,q4⟩
     ·show Calls P f #[g.val id,.func (.func f') #[] lb] w _
      rw [hv,hlbe]
      have hbl:b < w.heap.size:=kM hg
      have hpb:PredBelow P f' #[.pointer (some ⟨g.blk vid,0,none⟩)] (fun x:El ty w cts=>.agg x.v.toArray) (fun x=>Pd x.d d) w:=by
       intro W x hW
       refine Calls.mono (hP W x.d d x.v us x.F F2 (g.blk vid) (x.rd.frame fun b hb=>hW.block b (x.lt b hb)) (r2.frame fun b hb=>hW.block b (l2 b hb)) (fun b hb=>Nat.lt_of_lt_of_le (x.lt b hb) hW.size) (fun b hb=>Nat.lt_of_lt_of_le (l2 b hb) hW.size)
        (by rw [hW.block _ (kM g1)]; exact g1)) fun en w' hen=>?_
       obtain ⟨rfl,hb⟩:=hen
       exact ⟨rfl,hW.os ▸ hb.os,hb.tape.trans hW.tape,hb.output.trans hW.output,Nat.le_trans hW.size hb.size,fun k hk=>(hb.block k (Nat.lt_of_lt_of_le hk hW.size)).trans (hW.block k hk)⟩
      have:=hC w (fun x=>Pd x.d d) #[.pointer (some ⟨g.blk vid,0,none⟩)] b cap zs hpb (by rw [hzl]; simp only [jN] at hlim; omega) hbl (fun j hj i v hi=>by
       have h1:=j3V zs j i v hj hi
       rw [z2] at h1
       have hlt:j * cts.length + i < l.length * cts.length:=by
        have h2:=k3.length
        rcases jp (j * cts.length + i) vs.length with h' | h'
        ·omega
        ·simp [List.getElem?_eq_none h'] at h1
       rw [Nat.zero_add,World.ownsRow.cellAt (w:=w) (g:=b) (n:=l.length) (cap:=cap) (xs:=vs) (base:=0) (e:=po e') (size:=cts.length) (by rw [← hv]; exact k2) _ hlt]
       exact h1)
      rw [hzl] at this
      refine Calls.mono this fun en w' hen=>?_
      obtain ⟨rfl,hb⟩:=hen
      exact fin _ zs w' rfl (fun z _=>rfl) hb
   ·simp at hq
  ·simp at hq
 ·simp at hq
end
end Go.Proofs.QV

namespace Go.Proofs
open Go.Shelf
open _root_.Option.some renaming injEq → j8
open _root_.List renaming flatMap_cons → jh, eq_nil_of_length_eq_zero → jn, nil_append → ju, map_cons → jc
open _root_.Nat renaming lt_or_ge → jp
open _root_.Bool renaming and_eq_true → jg
open _root_.Prod.mk renaming injEq → jb
set_option maxRecDepth 100000
def Tryz.lidx_ren:Go.Shelf.Ren:=⟨fun | 6=>25 | n=>n,fun | 22=>33 | 23=>68 | 25=>75 | 3=>3 | 0=>0 | 4=>4 | n=>n,fun | n=>n⟩
theorem Tryz.lidx:Go.Proofs.SlLaysH0.n6 Tryz.prog Tryz.lidx_ren:={
 mixed:=by kernel_rfl,
 f6:=⟨"slices.IndexFunc[[]loop.example/g00964/impl.Def,loop.example/g00964/impl.Def]",by decide,Tryz.func25.trans (congrArg some (by kernel_rfl))⟩,
 t0:=Tryz.underlying0,
 a0:=Tryz.isAgg0,
 z0:=Tryz.sizeOf0,
 v0:=Tryz.zeroValue0,
 t3:=Tryz.underlying3,
 a3:=Tryz.isAgg3,
 z3:=Tryz.sizeOf3,
 v3:=Tryz.zeroValue3,
 t4:=Tryz.underlying4,
 a4:=Tryz.isAgg4,
 z4:=Tryz.sizeOf4,
 v4:=Tryz.zeroValue4,
 t22:=Tryz.underlying33,
 a22:=Tryz.isAgg33,
 z22:=Tryz.sizeOf33,
 v22:=Tryz.zeroValue33,
 t25:=Tryz.underlying75,
 a25:=Tryz.isAgg75,
 z25:=Tryz.sizeOf75,
 v25:=Tryz.zeroValue75 }
def Tryz.lany_ren:Go.Shelf.Ren:=⟨fun | 8=>22 | 6=>25 | n=>n,fun | 22=>33 | 23=>68 | 25=>75 | 4=>4 | 3=>3 | 0=>0 | n=>n,fun | n=>n⟩
theorem Tryz.lany:Go.Proofs.SlLaysH0.n8 Tryz.prog Tryz.lany_ren:={
 mixed:=by kernel_rfl,
 f6:=⟨"slices.IndexFunc[[]loop.example/g00964/impl.Def,loop.example/g00964/impl.Def]",by decide,Tryz.func25.trans (congrArg some (by kernel_rfl))⟩,
 f8:=⟨"slices.ContainsFunc[[]loop.example/g00964/impl.Def,loop.example/g00964/impl.Def]",by decide,Tryz.func22.trans (congrArg some (by kernel_rfl))⟩,
 t0:=Tryz.underlying0,
 a0:=Tryz.isAgg0,
 z0:=Tryz.sizeOf0,
 v0:=Tryz.zeroValue0,
 t3:=Tryz.underlying3,
 a3:=Tryz.isAgg3,
 z3:=Tryz.sizeOf3,
 v3:=Tryz.zeroValue3,
 t4:=Tryz.underlying4,
 a4:=Tryz.isAgg4,
 z4:=Tryz.sizeOf4,
 v4:=Tryz.zeroValue4,
 t22:=Tryz.underlying33,
 a22:=Tryz.isAgg33,
 z22:=Tryz.sizeOf33,
 v22:=Tryz.zeroValue33,
 t25:=Tryz.underlying75,
 a25:=Tryz.isAgg75,
 z25:=Tryz.sizeOf75,
 v25:=Tryz.zeroValue75 }
end Go.Proofs
namespace Go.Proofs.QV
open Go Go.RowKit Go.Lib
open _root_.Option.some renaming injEq → j8
open _root_.List renaming flatMap_cons → jh, eq_nil_of_length_eq_zero → jn, nil_append → ju, map_cons → jc
open _root_.Nat renaming lt_or_ge → jp
open _root_.Bool renaming and_eq_true → jg
open _root_.Prod.mk renaming injEq → jb
open Out renaming andThen → ja
set_option linter.unusedVariables false
set_option linter.unusedSimpArgs false
set_option maxRecDepth 100000
noncomputable def jar:FI:=jB Tryz.f24 2 [.ag [.i .i64,.b,.s,.s,.sl 9,.sl 135,.sl 140,.sl 143,.sl 102,.b,.sl 146],.ag [.i .i64,.b,.s,.s,.sl 9,.sl 135,.sl 140,.sl 143,.sl 102,.b,.sl 146]] [(false,[.ct .b])] (fun _=>(.s (.r [0,1,0] none) (.s (.s (.r [] (some ⟨ou :: ou :: .one (.ptr 0 0) :: .one (.ptr 1 0) :: uu 8 (ob :: uu 17 []),.var 68 [.i .i64,.b,.s,.s,.sl 9,.sl 135,.sl 140,.sl 143,.sl 102,.b,.sl 146] :: .var 68 [.i .i64,.b,.s,.s,.sl 9,.sl 135,.sl 140,.sl 143,.sl 102,.b,.sl 146] :: []⟩)) .n) (.s (.r [] (some ⟨uu 4 (ob :: uu 25 []),.u :: .u :: []⟩)) .n))))
noncomputable def jbG:FI:=jB Tryz.f55 1 [.ag [.i .i64,.b,.s,.s,.sl 9,.sl 135,.sl 140,.sl 143,.sl 102,.b,.sl 146]] [(false,[.ct .b])] (fun _=>(.s (.r [0,0] none) (.s (.r [] (some ⟨ou :: ou :: ob :: uu 8 [],.u :: []⟩)) .n)))
noncomputable def fnJ:List (Nat × FI):=[(24,jar),(55,jbG)]
noncomputable def j0y:Cfg:=⟨fun t=>qd t tyL,fun f=>qd f fnJ⟩
theorem jbF:∀ x ∈ fnJ,FnOk Tryz.prog Glob.none j0y.ty x.1 x.2 :=
 all_cons (jf Tryz.func24 (by kernel_rfl)) <|
 all_cons (jf Tryz.func55 (by kernel_rfl)) <| j42
noncomputable def j4q (a:List DC):Out:=pw j0y 24 ⟨.agg [.i .i64,.b,.s,.s,.sl 9,.sl 135,.sl 140,.sl 143,.sl 102,.b,.sl 146] :: .agg [.i .i64,.b,.s,.s,.sl 9,.sl 135,.sl 140,.sl 143,.sl 102,.b,.sl 146] :: [],[]⟩ a
noncomputable def VP (a:List DC):Out:=pw j0y 55 ⟨.agg [.i .i64,.b,.s,.s,.sl 9,.sl 135,.sl 140,.sl 143,.sl 102,.b,.sl 146] :: [],[]⟩ a
noncomputable def j4Z (a:List DC):Out :=
 ja (if ((a.getD 0 d0).ii == (8:Int))=true then
 .norm [.b true,.i ((a.getD 0 d0).ii),.b ((a.getD 1 d0).bb),.s ((a.getD 2 d0).ss),.s ((a.getD 3 d0).ss),.sl ((a.getD 4 d0).ll),.sl ((a.getD 5 d0).ll),.sl ((a.getD 6 d0).ll),.sl ((a.getD 7 d0).ll),.sl ((a.getD 8 d0).ll),.b ((a.getD 9 d0).bb),.sl ((a.getD 10 d0).ll),.i ((a.getD 11 d0).ii),.b ((a.getD 12 d0).bb),.s ((a.getD 13 d0).ss),.s ((a.getD 14 d0).ss),.sl ((a.getD 15 d0).ll),.sl ((a.getD 16 d0).ll),.sl ((a.getD 17 d0).ll),.sl ((a.getD 18 d0).ll),.sl ((a.getD 19 d0).ll),.b ((a.getD 20 d0).bb),.sl ((a.getD 21 d0).ll)]
 else
 .norm [.b ((a.getD 11 d0).ii == (8:Int)),.i ((a.getD 0 d0).ii),.b ((a.getD 1 d0).bb),.s ((a.getD 2 d0).ss),.s ((a.getD 3 d0).ss),.sl ((a.getD 4 d0).ll),.sl ((a.getD 5 d0).ll),.sl ((a.getD 6 d0).ll),.sl ((a.getD 7 d0).ll),.sl ((a.getD 8 d0).ll),.b ((a.getD 9 d0).bb),.sl ((a.getD 10 d0).ll),.i ((a.getD 11 d0).ii),.b ((a.getD 12 d0).bb),.s ((a.getD 13 d0).ss),.s ((a.getD 14 d0).ss),.sl ((a.getD 15 d0).ll),.sl ((a.getD 16 d0).ll),.sl ((a.getD 17 d0).ll),.sl ((a.getD 18 d0).ll),.sl ((a.getD 19 d0).ll),.b ((a.getD 20 d0).bb),.sl ((a.getD 21 d0).ll)]) fun v1 =>
 if (v1.getD 0 d0).bb=true then
 .ret [.b ((v1.getD 1 d0).ii == (v1.getD 12 d0).ii)]
 else
 ja ((VP [.i ((v1.getD 1 d0).ii),.b ((v1.getD 2 d0).bb),.s ((v1.getD 3 d0).ss),.s ((v1.getD 4 d0).ss),.sl ((v1.getD 5 d0).ll),.sl ((v1.getD 6 d0).ll),.sl ((v1.getD 7 d0).ll),.sl ((v1.getD 8 d0).ll),.sl ((v1.getD 9 d0).ll),.b ((v1.getD 10 d0).bb),.sl ((v1.getD 11 d0).ll)]).bindR fun r2 =>
 (VP [.i ((v1.getD 12 d0).ii),.b ((v1.getD 13 d0).bb),.s ((v1.getD 14 d0).ss),.s ((v1.getD 15 d0).ss),.sl ((v1.getD 16 d0).ll),.sl ((v1.getD 17 d0).ll),.sl ((v1.getD 18 d0).ll),.sl ((v1.getD 19 d0).ll),.sl ((v1.getD 20 d0).ll),.b ((v1.getD 21 d0).bb),.sl ((v1.getD 22 d0).ll)]).bindR fun r3 =>
 if ((r2.getD 0 d0).bb == (r3.getD 0 d0).bb)=true then
 .norm [.b ((v1.getD 4 d0).ss == (v1.getD 15 d0).ss)]
 else
 .norm [.b false]) fun v4 =>
 .ret [.b ((v4.getD 0 d0).bb)]
theorem j6S (a:List DC):j4q a=j4Z a:=(jA j0y 24 _ a).trans (by kernel_rfl)
noncomputable def j3p (a:List DC):Out :=
 ja (if ((a.getD 0 d0).ii != (7:Int))=true then
 .norm [.b ((a.getD 0 d0).ii != (8:Int))]
 else
 .norm [.b false]) fun v1 =>
 .ret [.b ((v1.getD 0 d0).bb)]
theorem j5E (a:List DC):VP a=j3p a:=(jA j0y 55 _ a).trans (by kernel_rfl)
def ctD:List CT:=[.i .i64,.b,.s,.s,.sl 9,.sl 135,.sl 140,.sl 143,.sl 102,.b,.sl 146]
def j3O (k:Int):Bool:=k != 7 && k != 8
def pM (x d:List DC):Bool :=
 if (x.getD 0 d0).ii=8 ∨ (d.getD 0 d0).ii=8 then (x.getD 0 d0).ii == (d.getD 0 d0).ii
 else (j3O (x.getD 0 d0).ii == j3O (d.getD 0 d0).ii) && ((x.getD 3 d0).ss == (d.getD 3 d0).ss)
theorem j9Q (a:List DC):VP a = .ret [.b (j3O (a.getD 0 d0).ii)]:=by
 rw [j5E]
 unfold j3p j3O
 generalize (a.getD 0 d0).ii=k
 by_cases h:k=7
 ·subst h; rfl
 ·have e7:(k != 7)=true:=bne_iff_ne.2 h
  simp only [e7,if_true,Out.andThen_norm,List.getD_cons_zero,DC.bb_b,Bool.true_and]
theorem ja5 (x d:List DC) (hx:x.length=11) (hd:d.length=11):j4q (x ++ d) = .ret [.b (pM x d)]:=by
 match x,hx with
 | [x0,x1,x2,x3,x4,x5,x6,x7,x8,x9,x10],_ =>
 match d,hd with
 | [y0,y1,y2,y3,y4,y5,y6,y7,y8,y9,y10],_ =>
 rw [j6S]
 unfold j4Z pM
 simp only [List.cons_append,ju,List.getD_cons_zero,List.getD_cons_succ]
 generalize x0.ii=k
 generalize y0.ii=m
 generalize x3.ss=s
 generalize y3.ss=t
 by_cases h1:k=8
 ·subst h1
  simp only [beq_self_eq_true,if_true,Out.andThen_norm,List.getD_cons_zero,List.getD_cons_succ,DC.bb_b,DC.ii_i,true_or]
 ·have e1:(k == 8)=false:=beq_eq_false_iff_ne.2 h1
  by_cases h2:m=8
  ·subst h2
   simp only [e1,beq_self_eq_true,if_true,Bool.false_eq_true,if_false,Out.andThen_norm,List.getD_cons_zero,List.getD_cons_succ,DC.bb_b,DC.ii_i,or_true]
  ·have e2:(m == 8)=false:=beq_eq_false_iff_ne.2 h2
   simp only [e1,e2,Bool.false_eq_true,if_false,Out.andThen_norm,List.getD_cons_zero,List.getD_cons_succ,DC.bb_b,DC.ii_i,DC.ss_s,h1,h2,or_self,j9Q,Out.bindR_ret]
   cases hq:(j3O k == j3O m) <;> simp only [Bool.false_eq_true,if_true,if_false,Out.andThen_norm,List.getD_cons_zero,DC.bb_b,Bool.true_and,Bool.false_and]
theorem jbs {ty:Nat → Option TI} {w:World} {k:IntKind} {ts:List CT} {x:List DC} {u:List Value} {F:List Nat} (h:RdL ty w (.i k :: ts) x u F):∃ n u' x' F',u = .int k n :: u' ∧ RdL ty w ts x' u' F':=by
 cases h with
 | cons _ _ d xs v vs F G h1 h2=>cases h1; exact ⟨_,_,_,_,rfl,h2⟩
theorem jab {ty:Nat → Option TI} {w:World} {ts:List CT} {x:List DC} {u:List Value} {F:List Nat} (h:RdL ty w (.b :: ts) x u F):∃ n u' x' F',u = .bool n :: u' ∧ RdL ty w ts x' u' F':=by
 cases h with
 | cons _ _ d xs v vs F G h1 h2=>cases h1; exact ⟨_,_,_,_,rfl,h2⟩
theorem jaa {ty:Nat → Option TI} {w:World} {ts:List CT} {x:List DC} {u:List Value} {F:List Nat} (h:RdL ty w (.s :: ts) x u F):∃ n u' x' F',u = .string n :: u' ∧ RdL ty w ts x' u' F':=by
 cases h with
 | cons _ _ d xs v vs F G h1 h2=>cases h1; exact ⟨_,_,_,_,rfl,h2⟩
theorem j6s {ty:Nat → Option TI} {w:World} {e:Nat} {ts:List CT} {x:List DC} {u:List Value} {F:List Nat} (h:RdL ty w (.sl e :: ts) x u F):∃ a n c u' x' F',u = .slice a n c :: u' ∧ RdL ty w ts x' u' F':=by
 cases h with
 | cons _ _ d xs v vs F G h1 h2=>cases h1 <;> exact ⟨_,_,_,_,_,_,rfl,h2⟩
theorem jbr {ty:Nat → Option TI} {w:World} {x:List DC} {u:List Value} {F:List Nat} (h:RdL ty w [] x u F):u=[]:=by cases h; rfl
theorem j3t {ty:Nat → Option TI} {w:World} {x:List DC} {u:List Value} {F:List Nat} (h:RdL ty w ctD x u F):∃ k b s n a4 n4 c4 a5 n5 c5 a6 n6 c6 a7 n7 c7 a8 n8 c8 r a9 n9 c9,
  u=[.int .i64 k,.bool b,.string s,.string n,.slice a4 n4 c4,.slice a5 n5 c5,.slice a6 n6 c6,.slice a7 n7 c7,.slice a8 n8 c8,.bool r,.slice a9 n9 c9]:=by
 obtain ⟨k,_,_,_,rfl,h0⟩:=jbs h
 obtain ⟨b,_,_,_,rfl,h1⟩:=jab h0
 obtain ⟨s,_,_,_,rfl,h2⟩:=jaa h1
 obtain ⟨n,_,_,_,rfl,h3⟩:=jaa h2
 obtain ⟨a4,n4,c4,_,_,_,rfl,h4⟩:=j6s h3
 obtain ⟨a5,n5,c5,_,_,_,rfl,h5⟩:=j6s h4
 obtain ⟨a6,n6,c6,_,_,_,rfl,h6⟩:=j6s h5
 obtain ⟨a7,n7,c7,_,_,_,rfl,h7⟩:=j6s h6
 obtain ⟨a8,n8,c8,_,_,_,rfl,h8⟩:=j6s h7
 obtain ⟨r,_,_,_,rfl,h9⟩:=jab h8
 obtain ⟨a9,n9,c9,_,_,_,rfl,h10⟩:=j6s h9
 rw [jbr h10]
 exact ⟨_,_,_,_,_,_,_,_,_,_,_,_,_,_,_,_,_,_,_,_,_,_,_,rfl⟩
theorem j3m {W:World} {x d:List DC} {u1 u2:List Value} {F1 F2:List Nat} (h1:RdL j0y.ty W ctD x u1 F1) (h2:RdL j0y.ty W ctD d u2 F2) (l1:∀ b ∈ F1,b < W.heap.size) (l2:∀ b ∈ F2,b < W.heap.size) :
  Calls Tryz.prog 24 #[.agg u1.toArray,.agg u2.toArray] W fun e w'=>e = .returned (.bool (pM x d)) ∧ RowKit.Below W.heap.size W w' :=
 j4S (cfg:=j0y) (G:=Glob.none) (Z9 tys).1 (by kernel_rfl) (j6e jbF) (f:=24) (fi:=jar) (by kernel_rfl) ⟨trivial,fun _ h=>h.elim⟩ (cts:=ctD) rfl rfl h1 h2 l1 l2
  (pw.evt (ja5 x d (RdL.length h1).2 (RdL.length h2).2))
set_option maxHeartbeats 4000000 in
theorem ja0 (W:World) (x d:List DC) (u1 u2:List Value) (F1 F2:List Nat) (B:Nat) (h1:RdL j0y.ty W ctD x u1 F1) (h2:RdL j0y.ty W ctD d u2 F2) (l1:∀ b ∈ F1,b < W.heap.size) (l2:∀ b ∈ F2,b < W.heap.size) (hB:W.heap[B]? = some (.cells u2.toArray 68 (0,0))) :
  Calls Tryz.prog 23 (#[.agg u1.toArray] ++ #[.pointer (some ⟨B,0,none⟩)]) W fun e w'=>e = .returned (.bool (pM x d)) ∧ RowKit.Below W.heap.size W w':=by
 have hcall:∀ W',RowKit.Below W.heap.size W W' → Calls Tryz.prog 24 #[.agg u1.toArray,.agg u2.toArray] W' fun e w'=>e = .returned (.bool (pM x d)) ∧ RowKit.Below W'.heap.size W' w':=fun W' hb =>
  j3m (h1.frame fun b k=>hb.block b (l1 b k)) (h2.frame fun b k=>hb.block b (l2 b k)) (fun b k=>Nat.lt_of_lt_of_le (l1 b k) hb.size) (fun b k=>Nat.lt_of_lt_of_le (l2 b k) hb.size)
 obtain ⟨k,b,s,n,a4,n4,c4,a5,n5,c5,a6,n6,c6,a7,n7,c7,a8,n8,c8,r,a9,n9,c9,rfl⟩:=j3t h1
 obtain ⟨yk,yb,ys,yn,y4,m4,z4,y5,m5,z5,y6,m6,z6,y7,m7,z7,y8,m8,z8,yr,y9,m9,z9,rfl⟩:=j3t h2
 generalize pM x d=res at hcall ⊢
 clear h1 h2 l1 l2
 have hBW:B < W.heap.size:=kM hB
 have hne:B ≠ W.heap.size:=by omega
 have q0:W.cell? ⟨B,0,none⟩=some (.int .i64 yk):=by simp [World.cell?,hB]
 have q1:W.cell? ⟨B,1,none⟩=some (.bool yb):=by simp [World.cell?,hB]
 have q2:W.cell? ⟨B,2,none⟩=some (.string ys):=by simp [World.cell?,hB]
 have q3:W.cell? ⟨B,3,none⟩=some (.string yn):=by simp [World.cell?,hB]
 have q4:W.cell? ⟨B,4,none⟩=some (.slice y4 m4 z4):=by simp [World.cell?,hB]
 have q5:W.cell? ⟨B,5,none⟩=some (.slice y5 m5 z5):=by simp [World.cell?,hB]
 have q6:W.cell? ⟨B,6,none⟩=some (.slice y6 m6 z6):=by simp [World.cell?,hB]
 have q7:W.cell? ⟨B,7,none⟩=some (.slice y7 m7 z7):=by simp [World.cell?,hB]
 have q8:W.cell? ⟨B,8,none⟩=some (.slice y8 m8 z8):=by simp [World.cell?,hB]
 have q9:W.cell? ⟨B,9,none⟩=some (.bool yr):=by simp [World.cell?,hB]
 have q10:W.cell? ⟨B,10,none⟩=some (.slice y9 m9 z9):=by simp [World.cell?,hB]
 clear hB
 show Calls Tryz.prog 23 #[.agg #[_,_,_,_,_,_,_,_,_,_,_],.pointer (some ⟨B,0,none⟩)] W _
 go_enter Tryz.func23,Tryz.ntmps23
 go_wp2_with (go_at_call 24; refine (hcall _ ((Below.refl _ W).alloc (Nat.le_refl _) _)).mono ?_; rintro e w' ⟨rfl,hb'⟩)
 go_ret
 exact ⟨rfl,((Below.refl _ W).alloc (Nat.le_refl _) _).trans (hb'.mono (by simp))⟩
set_option maxHeartbeats 4000000 in
theorem j9Z (W:World) (x d:List DC) (u1 u2:List Value) (F1 F2:List Nat) (B:Nat) (h1:RdL j0y.ty W ctD x u1 F1) (h2:RdL j0y.ty W ctD d u2 F2) (l1:∀ b ∈ F1,b < W.heap.size) (l2:∀ b ∈ F2,b < W.heap.size) (hB:W.heap[B]? = some (.cells u2.toArray 68 (0,0))) :
  Calls Tryz.prog 26 (#[.agg u1.toArray] ++ #[.pointer (some ⟨B,0,none⟩)]) W fun e w'=>e = .returned (.bool (pM x d)) ∧ RowKit.Below W.heap.size W w':=by
 have hcall:∀ W',RowKit.Below W.heap.size W W' → Calls Tryz.prog 24 #[.agg u1.toArray,.agg u2.toArray] W' fun e w'=>e = .returned (.bool (pM x d)) ∧ RowKit.Below W'.heap.size W' w':=fun W' hb =>
  j3m (h1.frame fun b k=>hb.block b (l1 b k)) (h2.frame fun b k=>hb.block b (l2 b k)) (fun b k=>Nat.lt_of_lt_of_le (l1 b k) hb.size) (fun b k=>Nat.lt_of_lt_of_le (l2 b k) hb.size)
 obtain ⟨k,b,s,n,a4,n4,c4,a5,n5,c5,a6,n6,c6,a7,n7,c7,a8,n8,c8,r,a9,n9,c9,rfl⟩:=j3t h1
 obtain ⟨yk,yb,ys,yn,y4,m4,z4,y5,m5,z5,y6,m6,z6,y7,m7,z7,y8,m8,z8,yr,y9,m9,z9,rfl⟩:=j3t h2
 generalize pM x d=res at hcall ⊢
 clear h1 h2 l1 l2
 have hBW:B < W.heap.size:=kM hB
 have hne:B ≠ W.heap.size:=by omega
 have q0:W.cell? ⟨B,0,none⟩=some (.int .i64 yk):=by simp [World.cell?,hB]
 have q1:W.cell? ⟨B,1,none⟩=some (.bool yb):=by simp [World.cell?,hB]
 have q2:W.cell? ⟨B,2,none⟩=some (.string ys):=by simp [World.cell?,hB]
 have q3:W.cell? ⟨B,3,none⟩=some (.string yn):=by simp [World.cell?,hB]
 have q4:W.cell? ⟨B,4,none⟩=some (.slice y4 m4 z4):=by simp [World.cell?,hB]
 have q5:W.cell? ⟨B,5,none⟩=some (.slice y5 m5 z5):=by simp [World.cell?,hB]
 have q6:W.cell? ⟨B,6,none⟩=some (.slice y6 m6 z6):=by simp [World.cell?,hB]
 have q7:W.cell? ⟨B,7,none⟩=some (.slice y7 m7 z7):=by simp [World.cell?,hB]
 have q8:W.cell? ⟨B,8,none⟩=some (.slice y8 m8 z8):=by simp [World.cell?,hB]
 have q9:W.cell? ⟨B,9,none⟩=some (.bool yr):=by simp [World.cell?,hB]
 have q10:W.cell? ⟨B,10,none⟩=some (.slice y9 m9 z9):=by simp [World.cell?,hB]
 clear hB
 show Calls Tryz.prog 26 #[.agg #[_,_,_,_,_,_,_,_,_,_,_],.pointer (some ⟨B,0,none⟩)] W _
 go_enter Tryz.func26,Tryz.ntmps26
 go_wp2_with (go_at_call 24; refine (hcall _ ((Below.refl _ W).alloc (Nat.le_refl _) _)).mono ?_; rintro e w' ⟨rfl,hb'⟩)
 go_ret
 exact ⟨rfl,((Below.refl _ W).alloc (Nat.le_refl _) _).trans (hb'.mono (by simp))⟩
set_option maxHeartbeats 1000000 in
theorem j6b {P:Program} {ρ:Go.Shelf.Ren} (L:SlLaysH0.n6 P ρ) (a:Option Addr) (c:Nat) (fv:Value) (w:World) :
  Calls P (ρ.f 6) #[.slice a 0 c,fv] w fun e w'=>e = .returned (.int .i64 (-1)) ∧ w'=w:=by
 have mixed:=L.mixed; have t0:=L.t0; have a0:=L.a0; have z0:=L.z0; have v0:=L.v0; have t3:=L.t3; have a3:=L.a3; have z3:=L.z3; have v3:=L.v3; have t4:=L.t4; have a4:=L.a4; have z4:=L.z4; have v4:=L.v4; have t22:=L.t22; have a22:=L.a22; have z22:=L.z22; have v22:=L.v22; have t25:=L.t25; have a25:=L.a25; have z25:=L.z25; have v25:=L.v25
 obtain ⟨_,_,FG⟩:=L.f6
 go_enter FG,SlBodyH.n6_ntmps ρ
 go_wp2
 go_loopg [5,8] 0 (fun _ _ s8 wr=>s8 = .int .i64 0 ∧ wr=w)
 case atStart=>exact ⟨rfl,rfl⟩
 case round =>
  obtain ⟨rfl,rfl⟩:=hrel
  go_wp2
  go_ret
  exact ⟨rfl,rfl⟩
theorem j9a {P:Program} {ρ:Go.Shelf.Ren} (L:SlLaysH0.n8 P ρ) (a:Option Addr) (c:Nat) (fv:Value) (w:World) :
  Calls P (ρ.f 8) #[.slice a 0 c,fv] w fun e w'=>e = .returned (.bool false) ∧ w'=w:=by
 have mixed:=L.mixed; have t0:=L.t0; have a0:=L.a0; have z0:=L.z0; have v0:=L.v0; have t3:=L.t3; have a3:=L.a3; have z3:=L.z3; have v3:=L.v3; have t4:=L.t4; have a4:=L.a4; have z4:=L.z4; have v4:=L.v4; have t22:=L.t22; have a22:=L.a22; have z22:=L.z22; have v22:=L.v22; have t25:=L.t25; have a25:=L.a25; have z25:=L.z25; have v25:=L.v25
 have e6:∀ args w,(callFunc (ρ.f 6) args).run P w = .ok (.enter (ρ.f 6) args) w:=L.f6.enters rfl
 obtain ⟨_,_,FG⟩:=L.f8
 go_enter FG,SlBodyH.n8_ntmps ρ
 go_wp2_with (go_at_fn (ρ.f 6); refine (j6b { L with } a c fv _).mono ?_; rintro e w' ⟨rfl,rfl⟩)
 go_ret
 exact ⟨rfl,rfl⟩
theorem j6o {ty:Nat → Option TI} {w:World} {cts:List CT} {p:El ty w cts → Bool} {q:List DC → Bool}:∀ {zs:List (El ty w cts)},(∀ z ∈ zs,p z=q z.d) → zs.any p=(zs.map El.d).any q
 | [],_=>rfl
 | z :: zs,h=>by
  rw [List.any_cons,jc,List.any_cons,h z (by simp),j6o fun y hy=>h y (by simp [hy])]
theorem j6c {ty:Nat → Option TI} {w:World} {cts:List CT} {p:El ty w cts → Bool} {q:List DC → Bool} {x:El ty w cts}:∀ {zs:List (El ty w cts)} {i:Nat},(∀ z ∈ zs,p z=q z.d) →
  Lib.idxByFrom (fun _ y=>p y) x zs i=match (zs.map El.d).findIdx? q with | some j=>((i + j:Nat):Int) | none=>-1
 | [],i,_=>rfl
 | z :: zs,i,h=>by
  rw [Lib.idxByFrom,jc,List.findIdx?_cons,h z (by simp)]
  cases hq:q z.d with
  | true=>simp
  | false =>
   simp only [Bool.false_eq_true,if_false]
   rw [j6c fun y hy=>h y (by simp [hy])]
   cases (zs.map El.d).findIdx? q with
   | none=>rfl
   | some j=>simp only [Option.map_some]; congr 1; omega
theorem j8U {ty:Nat → Option TI} {w:World} {cts:List CT} {p:El ty w cts → Bool} {q:List DC → Bool} {x:El ty w cts} {zs:List (El ty w cts)} (h:∀ z ∈ zs,p z=q z.d) :
  Lib.idxBy (fun _ y=>p y) zs x=ze q (zs.map El.d):=by
 unfold Lib.idxBy ze
 rw [j6c h]
 cases (zs.map El.d).findIdx? q <;> simp
theorem jan:∀ te,qd 68 tyL=some te → te.cts=ctD:=fun te h=>by
 injection (show qd 68 tyL=some te from h) with h
 subst h
 rfl
theorem jah:j4W Tryz.prog Glob.none (fun t=>qd t tyL) 22 (j6C jaj 68 23 ctD pM) :=
 j8c (V:=fun cts w p zs=>.bool (zs.any p)) (by kernel_rfl) jan rfl
  (fun w p lb b c zs hp hbig hb hc=>by
   have:=AnyQ.slices_ContainsFunc Tryz.lany ctD.length Tryz.isAgg68 Tryz.sizeOf68 El.v (fun x=>(RdL.length x.rd).1) p 23 lb (enters_of Tryz.func23 (by kernel_rfl) rfl) b 0 zs.length c zs w hp (Nat.le_refl _) hbig hb hc
   rw [List.take_length] at this
   exact this)
  (fun fv w=>j9a Tryz.lany none 0 fv w)
  (fun w p q zs h {g H w'}=>by
   show SR (fun t=>qd t tyL) g H w' (.bool ((zs.map El.d).any q)) (.bool (zs.any p))
   rw [j6o h]
   rfl)
  (fun W x d u1 u2 F1 F2 B h1 h2 l1 l2 hB=>ja0 W x d u1 u2 F1 F2 B h1 h2 l1 l2 hB)
theorem jag:j4W Tryz.prog Glob.none (fun t=>qd t tyL) 25 (j6C jai 68 26 ctD pM) :=
 j8c (V:=fun cts w p zs=>.int .i64 (Lib.idxBy (fun _ y=>p y) zs default)) (by kernel_rfl) jan rfl
  (fun w p lb b c zs hp hbig hb hc=>by
   have:=AnyQ.slices_IndexFunc Tryz.lidx ctD.length Tryz.isAgg68 Tryz.sizeOf68 El.v (fun x=>(RdL.length x.rd).1) p 26 lb (enters_of Tryz.func26 (by kernel_rfl) rfl) b 0 zs.length c zs w hp (Nat.le_refl _) hbig hb hc
   rw [List.take_length] at this
   exact this)
  (fun fv w=>j6b Tryz.lidx none 0 fv w)
  (fun w p q zs h {g H w'}=>by
   show SR (fun t=>qd t tyL) g H w' (.int .i64 (ze q (zs.map El.d))) (.int .i64 (Lib.idxBy (fun _ y=>p y) zs default))
   rw [j8U h]
   rfl)
  (fun W x d u1 u2 F1 F2 B h1 h2 l1 l2 hB=>j9Z W x d u1 u2 F1 F2 B h1 h2 l1 l2 hB)
end Go.Proofs.QV
