import Derived.Test.YtgkcnpfldkjnbaaGreatMD6
import Derived.Lib.SliceRun
import Derived.Sort.Grow
import Derived.Sort.EncStr
import Derived.Lib.SlicesCompact
import Derived.Shelf.SlicesQ.IndexFunc
import Derived.Sort.LotA
/- A function that is met by a contract and gives a copy of a slice (slices.Clone). -/
namespace Go.Proofs.QV
open Go
open _root_.Option.some renaming injEq → j8
open _root_.List renaming append_nil → jC, flatMap_cons → jf, append_assoc → jq
open _root_.Prod.mk renaming injEq → j9
open _root_.Nat renaming lt_or_ge → jp
open _root_.Bool renaming and_eq_true → jd
set_option linter.unusedVariables false
set_option linter.unusedSimpArgs false
def ZU (e:Nat):Hint → List DC → Option (List DC):=fun h v =>
 match h.tm,h.ob,v with
 | [.one (.sl e')],[],[.sl l]=>if e'=e ∧ l.length < kC then some [.sl l] else none
 | _,_,_=>none
def j8C:Code → Code
 | .seq _ (.seq (.seq _ x) _)=>x
 | _=>.skip
def j8B:Code → Code
 | .seq _ (.seq _ y)=>y
 | _=>.skip
def ja0:Nat → Option FI:=fun _=>none
def ja1:Nat → Hint → List DC → Out:=fun _ _ _=>.fail
def j2J (ty:Nat → Option TI) (fi:FI) (e:Nat) (ac ar:AC) (b:Bool) (l:List (List DC)):Out :=
 let h:Hint:=⟨[.one (.sl e)],[]⟩
 let st:=yY fi h [.sl l]
 exec ty ja0 ja1 0 0 (yl ty fi h) (.seq ac ar) (fun _=>none) { tm:=jW (jW (jW st.tm (some 2) (.one .nil)) (some 3) (.one (.sl e l))) (some 4) (.one (.bool b)),H:=st.H } (yl ty fi h)
structure ClShape (P:Program) (fd:Func) (e:Nat) (ac ar:AC):Prop where
 ex:∃ (i0 i1:Nat) (o0 om ob:Oper) (t t':Nat),fd.body=some (.seq (.region i0 #[o0] false) (.seq (.seq (.region i1 #[om,ob] false) ac.code) ar.code)) ∧
  (o0.op = .assign (.const (.slice none 0 0)) ∧ o0.dst=some 2 ∧ o0.guard=none) ∧ (om.op = .move (.tmp 0) ∧ om.dst=some 3 ∧ om.guard=none) ∧
  (ob.op = .binOp .eql t (.tmp 3) (.const (.slice none 0 0)) t' ∧ ob.dst=some 4 ∧ ob.guard=none) ∧ P.underlying t=some (.slice e)
section
variable {P:Program} {ty:Nat → Option TI}
theorem j3s {a:Act} {d e:Nat} {u:Value} (h:d ≠ e):(a.put (some d) u).eval (.tmp e)=a.eval (.tmp e):=by
 show (a.tmps.setIfInBounds d u).getD e undef=a.tmps.getD e undef
 rw [Array.getD_eq_getD_getElem?,Array.getD_eq_getD_getElem?,Array.getElem?_setIfInBounds_ne h]
theorem j0R {G:Glob} {f:Nat} {fi:FI} {fd:Func} {e:Nat} {ac ar:AC} (hty:pH P ty) (hmix:P.follows .mixedOrders=true) (h1:P.funcs[f]? = some fd) (h2:(fd.name == "runtime.NumGoroutine")=false) (h3:fd.body.isNone=false)
  (hmk:fi.mark=none) (hp:fi.prim=some (ZU e)) (hsh:ClShape P fd e ac ar) (hres:fd.results.toList=fi.res) (hnt:fd.ntmps=fi.ntmps) (hlen:4 < fi.ntmps)
  (hrun:∀ b l,(b=true → l=[]) → l.length < kC → j2J ty fi e ac ar b l = .ret [.sl l]) (hstf:fi.stf=none:=by rfl):FnOk P G ty f fi:=by
 refine ⟨⟨fd,h1,h2,h3,fun h=>by rw [hp] at h; simp at h⟩,fun p hpp h v r en=>?_,fun m hm=>(by rw [hmk] at hm; cases hm),fun m hm=>(by rw [hstf] at hm; cases hm)⟩
 rw [hp] at hpp
 simp only [j8] at hpp
 subst hpp
 unfold ZU at en
 split at en
 ·rename_i e' l htm hob
  split at en
  ·rename_i hc
   obtain ⟨rfl,hlim⟩:=hc
   simp only [j8] at en
   subst en
   obtain ⟨tm,ob⟩:=h
   dsimp only at htm hob
   subst htm hob
   intro A g vals w hA hr hs hw hm
   have hs1:vals.size=1:=by simpa using hs
   obtain ⟨i0,i1,o0,om,ob,t,t',hbody,⟨x1,x2,x3⟩,⟨y1,y2,y3⟩,⟨z1,z2,z3⟩,hu⟩:=hsh.ex
   have t0:=hr.tm 0 _ (vals[0]'(by omega)) (show (yY fi ⟨[.one (.sl e')],[]⟩ [.sl l]).tm[0]? = some (.one (.sl e' l)) from rfl) (by
    dsimp only
    rw [Array.getElem?_append_left (by omega),Array.getElem?_eq_getElem (by omega)])
   obtain ⟨F,t0,t1⟩:=t0
   have hv0:∀ v0,RdC ty w (.sl e') (.sl l) v0 F → ∃ ad n cap,v0 = .slice ad n cap ∧ (ad.isNone=true → l=[]):=by
    intro v0 h0
    generalize hl0:l=l0 at h0
    cases h0 with
    | nil _ a c=>exact ⟨a,0,c,rfl,fun _=>rfl⟩
    | sl _ _ b off n cap=>exact ⟨_,n,cap,rfl,fun h=>by simp at h⟩
   obtain ⟨ad,n,cap,hv0,hnil⟩:=hv0 _ t0
   refine calls_of_wp h1 hbody ?_
   rw [hnt]
   generalize ha0:({ tmps:=vals ++ Array.replicate (fi.ntmps - vals.size) undef,defers:=[] }:Act)=a0 at hr ⊢
   have e0:a0.eval (.tmp 0) = .slice ad n cap:=by
    subst ha0
    show Array.getD _ 0 undef=_
    rw [Array.getD_eq_getD_getElem?,Array.getElem?_append_left (by omega),Array.getElem?_eq_getElem (by omega),hv0]
    rfl
   have n1:4 < a0.tmps.size:=by subst ha0; simp; omega
   refine wp_seq (wp_region ?_)
   show wpOps P #[o0] _ [0] a0 w
   refine jV (o:=o0) rfl x3 (jE (v:=.slice none 0 0) (w':=w) (by simp [execOp,x1,Act.eval]) ?_)
   rw [x2]
   have r1:=hr.put (some 2) (c:=.one .nil) (v:=.slice none 0 0) rfl
   refine wp_seq (wp_seq (wp_region ?_))
   show wpOps P #[om,ob] _ [0,1] _ w
   have e1:(a0.put (some 2) (.slice none 0 0)).eval (.tmp 0) = .slice ad n cap:=by rw [j3s (by decide)]; exact e0
   refine jV (o:=om) rfl y3 (jE (v:=.slice ad n cap) (w':=w) (by simp only [execOp,y1,Sem.run_pure]; rw [e1]) ?_)
   rw [y2]
   have r2:=r1.put (some 3) (c:=.one (.sl e' l)) (v:=.slice ad n cap) ⟨F,by rw [← hv0]; exact t0,t1⟩
   refine jV (o:=ob) rfl z3 (jE (v:=.bool ad.isNone) (w':=w) ?_ ?_)
   ·have e2:((a0.put (some 2) (.slice none 0 0)).put (some 3) (.slice ad n cap)).eval (.tmp 3) = .slice ad n cap:=by
     show Array.getD _ 3 undef=_
     rw [Array.getD_eq_getD_getElem?]
     simp only [Act.put]
     rw [Array.getElem?_setIfInBounds_self_of_lt (by simp; omega)]
     rfl
    simp only [execOp,z1]
    rw [e2]
    simp [eqGuard,Act.eval,Lib.run_eql_slice_nil w t e' ad n cap 0 0 hu]
   rw [z2]
   have r3:=r2.put (some 4) (c:=.one (.bool ad.isNone)) (v:=.bool ad.isNone) rfl
   have hcall:yA P ty ja0 ja1 A:=j2K (G:=G) (fun f fi h=>by simp [ja0] at h) (fun f fi h v r hf e=>by simp [ja1] at e) A hA
   have hex:=hrun ad.isNone l hnil hlim
   unfold j2J at hex
   dsimp only at hex
   rw [exec] at hex
   have hm0:A.m=0:=by rw [hm]; rfl
   have fin:∀ g' st' a' w',Rel ty A g' st' a' w' → yl ty fi ⟨[.one (.sl e')],[]⟩ st' = .ret [.sl l] → a'.defers=[] ∧ ∃ v,(results fd a'.tmps).run P w' = .ok v w' ∧ ∃ vs,v=Qd vs ∧ Res ty A (KO.vars []) fi.rk [.sl l] vs w':=by
    intro g' st' a' w' hr' hk
    obtain ⟨vs,q1,q2⟩:=j7G hty hr' (hn:=⟨[.one (.sl e')],[]⟩) hm hk hres
    exact ⟨hr'.df,_,q1,vs,rfl,q2⟩
   refine wp_mono (zO hty hcall hmix hm0 (fun st v=>(Kj fi ⟨[.one (.sl e')],[]⟩ st).1 v) (fun st id v=>(Kj fi ⟨[.one (.sl e')],[]⟩ st).2 id v) ac _ _ _ (.ret [.sl l]) g _ w r3 hex (by simp)) fun ex a' w' hq=>?_
   cases ex with
   | normal =>
    obtain ⟨g',st',hr',hk⟩:=hq
    refine wp_mono (zO hty hcall hmix hm0 (fun st v=>(Kj fi ⟨[.one (.sl e')],[]⟩ st).1 v) (fun st id v=>(Kj fi ⟨[.one (.sl e')],[]⟩ st).2 id v) ar _ _ _ (.ret [.sl l]) g' _ w' hr' hk (by simp)) fun ex a2 w2 hq2=>?_
    cases ex with
    | normal =>
     obtain ⟨g2,st2,hr2,hk2⟩:=hq2
     exact fin g2 st2 a2 w2 hr2 hk2
    | ret =>
     obtain ⟨g2,st2,hr2,hk2⟩:=hq2
     exact fin g2 st2 a2 w2 hr2 hk2
    | exit id =>
     obtain ⟨_,_,_,hk,_⟩:=hq2
     simp at hk
    | goto l=>exact hq2.elim
    | panic c=>exact hq2.elim
    | outgrown=>exact hq2.elim
   | ret =>
    obtain ⟨g2,st2,hr2,hk2⟩:=hq
    exact fin g2 st2 a' w' hr2 hk2
   | exit id =>
    obtain ⟨_,_,_,hk,_⟩:=hq
    simp at hk
   | goto l=>exact hq.elim
   | panic c=>exact hq.elim
   | outgrown=>exact hq.elim
  ·simp at en
 ·simp at en
end
section
variable {P:Program}
theorem j6B {cfg:Cfg} {G:Glob} (hty:pH P cfg.ty) (hm:P.follows .mixedOrders=true) (hfn:∀ f fi,cfg.fn f=some fi → FnOk P G cfg.ty f fi) {f:Nat} {fi:FI} (hf:cfg.fn f=some fi) {w:World}
  (hG:G.ok w ∧ ∀ b,G.gb b → b < w.heap.size) (hpk:fi.pk=[.ct (.i .i64)]) (hrk:fi.rk=[(false,[.ct .s])]) {k:Int} {s:List UInt8}
  (hev:Evt (fun n=>ye cfg n f ⟨[.one (.i .i64)],[]⟩ [.i k]) (.ret [.s s])) :
  Calls P f #[.int .i64 k] w fun e w'=>e = .returned (.string ⟨s.toArray⟩) ∧ RowKit.Below w.heap.size w w':=by
 obtain ⟨A,g,h2,h3,h4,h5,h6,h7⟩:=j1u (ty:=cfg.ty) (w:=w) (vals:=#[.int .i64 k]) (d:=[.i k]) (us:=[.int .i64 k]) (F:=[]) fi (by rw [hpk]; rfl)
  (by rw [hpk]; exact RdL.cons _ _ _ _ _ _ [] [] (RdC.i _ _) RdL.nil) (fun b hb=>by cases hb) (by rw [hpk]; exact ⟨_,rfl,rfl⟩)
 obtain ⟨N,hN⟩:=hev
 have hh:(⟨fi.pk.map Qr,[]⟩:Hint)=⟨[.one (.i .i64)],[]⟩:=by rw [hpk]; rfl
 rw [hh] at h2
 have hcalls:=VT hty hm hfn N f fi ⟨[.one (.i .i64)],[]⟩ [.i k] [.s s] hf (hN N (Nat.le_refl _)) A g #[.int .i64 k] w ⟨by rw [h4]; exact hG.1,fun b hb=>⟨by rw [h4]; exact hG.2 b hb,h6 b,h7 b⟩⟩ h2 rfl h4 h5
 refine Calls.mono hcalls fun e w' he=>?_
 cases e with
 | returned rv =>
  obtain ⟨vs,rfl,hres⟩:=he
  obtain ⟨⟨gr,H0,H1,us1,us2,q1,q2,q3,_⟩,hkeep⟩:=hres
  rw [hrk] at q1 q3
  match vs,q1 with
  | [v],⟨u1,u2,z1,z2,z3,z4,z5⟩ =>
   have z5':u2=[]:=z5
   subst z5'
   have:=z4 rfl
   subst this
   rw [jC] at z1
   subst z1
   have hus2:us2=[]:=q2
   subst hus2
   obtain ⟨⟨dd,y1,y2,y3⟩,_⟩:=q3
   obtain ⟨x,rfl,rfl⟩:=y3
   have:=y2 0 (by simp [RK.k1,CT.k1,K1.cnt])
   simp only [Nat.add_zero,List.getD_cons_zero] at this
   have hx:x=s:=by
    have:DC.s s=DC.s x:=this
    simpa using this.symm
   subst hx
   refine ⟨rfl,⟨by rw [hkeep.os,h4],by rw [hkeep.tape,h4],by rw [hkeep.output,h4],by have:=hkeep.size; rwa [h4] at this,fun b hb=>?_⟩⟩
   have:=hkeep.block b (by rw [h4]; exact hb) (h6 b) (h7 b)
   rwa [h4] at this
  | [],q1=>exact q1.elim
  | _ :: _ :: _,⟨_,_,_,_,_,_,h⟩=>exact h.elim
 | panicked ch=>exact he.elim
 | outgrown=>exact he.elim
end
def mkF (T:Int → Option (List UInt8)) (tab:Nat → Option (List MA)):Nat → Nat → List (List DC) → Int → Option (List (List DC) × Int)
 | 0,_,_,_=>none
 | n + 1,f,l,k =>
  match tab f with
  | some ms=>j4g T (mkF T tab n) ms l k
  | none=>none
section
variable {P:Program} {T:Int → Option (List UInt8)} {tab:Nat → Option (List MA)} {mt:Nat → Option Nat} {tf:Nat} {ty:Nat → Option TI}
structure TabOk (P:Program) (ty:Nat → Option TI) (T:Int → Option (List UInt8)) (tf:Nat) (mt:Nat → Option Nat) (tab:Nat → Option (List MA)):Prop where
 tyo:pH P ty
 fd:∀ f,f=tf ∨ (∃ e',mt f=some e') → ∃ fd,P.funcs[f]? = some fd ∧ (fd.name == "runtime.NumGoroutine")=false ∧ fd.body.isNone=false
 tfc:∀ k s w,0 ≤ k → k < 4611686018427387904 → T k=some s → Calls P tf #[.int .i64 k] w fun en w'=>en = .returned (.string ⟨s.toArray⟩) ∧ RowKit.Below w.heap.size w w'
 tfs:∀ k,0 ≤ k → k < 4611686018427387904 → ∃ s,T k=some s
 sh:∀ f e',mt f=some e' → ∃ ti fd ms,ty e'=some ti ∧ P.funcs[f]? = some fd ∧ tab f=some ms ∧ shape ⟨ty,e',ti.cts,tf,mt⟩ fd=some ms
theorem j5k (h:TabOk P ty T tf mt tab):∀ (n:Nat) (f e':Nat),mt f=some e' → ∀ w v l k l' k' F,RdC ty w (.sl e') (.sl l) v F → Own w F → mkF T tab n f l k=some (l',k') →
  Calls P f #[v,.int .i64 k] w fun en w'=>en = .returned (.int .i64 k') ∧ Wrote w w' F ∧ RdC ty w' (.sl e') (.sl l') v F
 | 0,f,e',hf,w,v,l,k,l',k',F,hr,ho,hm=>by simp [mkF] at hm
 | n + 1,f,e',hf,w,v,l,k,l',k',F,hr,ho,hm=>by
  obtain ⟨ti,fd,ms,h1,h2,h3,h4⟩:=h.sh f e' hf
  rw [mkF,h3] at hm
  exact ja8 (c:=⟨ty,e',ti.cts,tf,mt⟩) (T:=T) (rec:=mkF T tab n) ⟨h.tyo,⟨ti,h1,rfl⟩,h.fd,h.tfc,h.tfs,fun f e' hf w v l k l' k' F hr ho _ _ hm=>j5k h n f e' hf w v l k l' k' F hr ho hm⟩ h2 h4 hr ho hm
open Classical in
noncomputable def mkV (T:Int → Option (List UInt8)) (tab:Nat → Option (List MA)) (f:Nat) (ls:List (List (List DC))) (k:Int):Option (List (List (List DC)) × Int) :=
 if h:∃ l r,ls=[l] ∧ ∃ n,mkF T tab n f l k=some r then some ([(Classical.choose (Classical.choose_spec h)).1],(Classical.choose (Classical.choose_spec h)).2) else none
theorem j9a {f:Nat} {ls ls':List (List (List DC))} {k k':Int} (h:mkV T tab f ls k=some (ls',k')):∃ l l' n,ls=[l] ∧ ls'=[l'] ∧ mkF T tab n f l k=some (l',k'):=by
 unfold mkV at h
 split at h
 ·rename_i hx
  have h2:=Classical.choose_spec (Classical.choose_spec hx)
  simp only [j8,j9] at h
  obtain ⟨rfl,rfl⟩:=h
  obtain ⟨h3,n,h4⟩:=h2
  exact ⟨_,_,n,h3,rfl,h4⟩
 ·simp at h
noncomputable def mkI (T:Int → Option (List UInt8)) (tab:Nat → Option (List MA)) (f e:Nat):MK:=⟨false,1,[(0,e)],mkV T tab f⟩
theorem QW (h:TabOk P ty T tf mt tab) {f e:Nat} (hf:mt f=some e):j3D P ty f (mkI T tab f e):=by
 intro w arg vs k ls ls' k' Fs hagg hone hlen hcell hr ho hm
 have hvs:vs=[arg]:=hone rfl
 subst hvs
 obtain ⟨l,l',n,rfl,rfl,hm'⟩:=j9a hm
 cases hr with
 | cons off e1 v l1 F ps ls1 Fs1 hv hrd hrest =>
  cases hrest
  simp only [List.getElem?_cons_zero,j8] at hv
  subst hv
  have hF:[F].flatten=F:=by simp
  rw [hF] at ho ⊢
  refine Calls.mono (j5k h n f e hf w arg l k l' k' F hrd ho hm') fun en w' hen=>?_
  exact ⟨hen.1,hen.2.1,.cons _ _ _ _ _ _ _ _ rfl hen.2.2 .nil⟩
theorem Jw {G:Glob} {f:Nat} {fi:FI} {m:MK} (h:FnOk P G ty f fi) (hp:fi.prim=none) (hm:j3D P ty f m):FnOk P G ty f { fi with mark:=some m } :=
 ⟨h.ex,fun p hq=>by (have hq':fi.prim=some p:=hq; rw [hp] at hq'; cases hq'),fun m' e=>by (cases e; exact hm),h.stf⟩
theorem j8v {rec rec':Nat → List (List DC) → Int → Option (List (List DC) × Int)} (hr:∀ f l k r,rec f l k=some r → rec' f l k=some r) {i:Nat} {m:MA} {d d':MD} (h:zz T rec i m d=some d'):zz T rec' i m d=some d':=by
 cases m with
 | sub off f =>
  simp only [zz] at h ⊢
  split at h
  ·rename_i l' k' hq
   rw [hr _ _ _ _ hq]
   exact h
  ·simp at h
 | _=>exact h
theorem j2F {rec rec':Nat → List (List DC) → Int → Option (List (List DC) × Int)} (hr:∀ f l k r,rec f l k=some r → rec' f l k=some r) {i:Nat}:∀ {ms:List MA} {d d':MD},pj T rec i ms d=some d' → pj T rec' i ms d=some d'
 | [],d,d',h=>h
 | m :: ms,d,d',h=>by
  rw [pj] at h ⊢
  split at h
  ·rename_i d1 h1
   rw [j8v hr h1]
   exact j2F hr h
  ·simp at h
theorem j2E {rec rec':Nat → List (List DC) → Int → Option (List (List DC) × Int)} (hr:∀ f l k r,rec f l k=some r → rec' f l k=some r) {ms:List MA}:∀ {n i:Nat} {d d':MD},KB T rec ms n i d=some d' → KB T rec' ms n i d=some d'
 | 0,i,d,d',h=>h
 | n + 1,i,d,d',h=>by
  rw [KB] at h ⊢
  split at h
  ·rename_i d1 h1
   rw [j2F hr h1]
   exact j2E hr h
  ·simp at h
theorem j81:∀ {n:Nat} {f:Nat} {l:List (List DC)} {k:Int} {r:List (List DC) × Int},mkF T tab n f l k=some r → mkF T tab (n + 1) f l k=some r
 | 0,f,l,k,r,h=>by simp [mkF] at h
 | n + 1,f,l,k,r,h=>by
  rw [mkF] at h ⊢
  split at h
  ·rename_i ms hms
   unfold j4g at h ⊢
   split at h
   ·rename_i hb
    rw [if_pos hb]
    split at h
    ·rename_i d hd
     rw [j2E (fun f l k r hq=>j81 hq) hd]
     exact h
    ·simp at h
   ·simp at h
  ·simp at h
theorem pA {n m:Nat} (hnm:n ≤ m) {f:Nat} {l:List (List DC)} {k:Int} {r:List (List DC) × Int} (h:mkF T tab n f l k=some r):mkF T tab m f l k=some r:=by
 obtain ⟨d,rfl⟩:=Nat.exists_eq_add_of_le hnm
 induction d with
 | zero=>exact h
 | succ d ih=>exact j81 (ih (by omega))
theorem j99 {f n:Nat} {l l':List (List DC)} {k k':Int} (h:mkF T tab n f l k=some (l',k')):mkV T tab f [l] k=some ([l'],k'):=by
 unfold mkV
 have hx:∃ l1 r,[l]=[l1] ∧ ∃ n,mkF T tab n f l1 k=some r:=⟨l,(l',k'),rfl,n,h⟩
 rw [dif_pos hx]
 have h2:=Classical.choose_spec (Classical.choose_spec hx)
 generalize Classical.choose (Classical.choose_spec hx)=r at h2 ⊢
 generalize Classical.choose hx=l1 at h2
 obtain ⟨h3,m,h4⟩:=h2
 simp only [List.cons.injEq,and_true] at h3
 subst h3
 have a:=pA (Nat.le_max_left n m) h
 have b:=pA (Nat.le_max_right n m) h4
 rw [a] at b
 obtain rfl:=Option.some.inj b
 rfl
end
section
variable {P:Program} {ty:Nat → Option TI}
end
end Go.Proofs.QV

namespace Go.Proofs.QV
open Go Go.Sort
open _root_.Option.some renaming injEq → j8
open _root_.List renaming append_nil → jC, flatMap_cons → jf, append_assoc → jq
open _root_.Prod.mk renaming injEq → j9
open _root_.Nat renaming lt_or_ge → jp
open _root_.Bool renaming and_eq_true → jd
set_option linter.unusedVariables false
set_option linter.unusedSimpArgs false
section
variable {P:Program} {ty:Nat → Option TI} {A:An} {g:Gh} {tm:List C} {H:List HS} {a:Act} {w:World}
theorem j7f {G:Glob} {f:Nat} {fi:FI} {q:Nat → List HS → List C → Option (Nat × List HS × C)} (h:FnOk P G ty f fi) (hs:j6Q P G ty f q):FnOk P G ty f { fi with stf:=some q } :=
 ⟨h.ex,h.prim,h.mark,fun q' e=>by (cases e; exact hs)⟩
end
section
variable {P:Program} {ty:Nat → Option TI} {A:An} {g:Gh} {tm:List C} {H:List HS} {a:Act} {w:World}
theorem Rel.below (h:Rel ty A g ⟨tm,H⟩ a w) {w':World} (hb:RowKit.Below w.heap.size w w'):Rel ty A g ⟨tm,H⟩ a w':=by
 have hch:Ch g g H H w w':=⟨fun _ h=>h,fun b hb'=>hb.block b (h.lt b hb'),fun _ h=>h,fun _ _ h=>⟨h,rfl⟩,fun _ _ h=>⟨h,rfl⟩⟩
 exact h.ch hch (fun id o ho=>OR.mono hch rfl rfl rfl (fun b hb'=>⟨hb.block b (h.oblk_lt ho hb'),qQ h ho hb'⟩) (h.ob id o ho)) h.sep (fun b hb'=>Nat.lt_of_lt_of_le (h.lt b hb') hb.size) h.inI h.ow h.pb
  (h.keep.trans hb.os hb.tape hb.output hb.size fun b hb' _ _=>hb.block b (Nat.lt_of_lt_of_le hb' h.keep.size))
structure El (ty:Nat → Option TI) (w:World) (cts:List CT) where
 v:List Value
 d:List DC
 F:List Nat
 rd:RdL ty w cts d v F
 lt:∀ b ∈ F,b < w.heap.size
def zV:CT → Value
 | .b=>.bool false
 | .i k=>.int k 0
 | .s=>.string ⟨#[]⟩
 | .sl _=>.slice none 0 0
theorem zRd (ty:Nat → Option TI) (w:World):∀ cts:List CT,RdL ty w cts (cts.map Ym) (cts.map zV) []
 | []=>.nil
 | .b :: l=>.cons _ _ _ _ _ _ [] [] (.b false) (zRd ty w l)
 | .i k :: l=>.cons _ _ _ _ _ _ [] [] (.i k 0) (zRd ty w l)
 | .s :: l=>.cons _ _ _ _ _ _ [] [] (.s []) (zRd ty w l)
 | .sl e :: l=>.cons _ _ _ _ _ _ [] [] (.nil e none 0) (zRd ty w l)
instance (ty:Nat → Option TI) (w:World) (cts:List CT):Inhabited (El ty w cts):=⟨⟨_,_,[],zRd ty w cts,fun b hb=>by cases hb⟩⟩
theorem j67 {cts:List CT}:∀ (zs:List (El ty w cts)) (j i:Nat) (v:Value),j < zs.length → (zs[j]!).v[i]? = some v → (zs.flatMap El.v)[j * cts.length + i]? = some v
 | [],j,i,v,h,_=>by simp at h
 | z :: zs,0,i,v,_,hv=>by
  have hv:z.v[i]? = some v:=by simpa using hv
  rw [Nat.zero_mul,Nat.zero_add,jf,List.getElem?_append_left]
  ·exact hv
  ·rcases jp i z.v.length with h' | h'
   ·exact h'
   ·simp [List.getElem?_eq_none h'] at hv
 | z :: zs,j + 1,i,v,h,hv=>by
  have hl:=(RdL.length z.rd).1
  have:=j67 zs j i v (by simpa using h) (by simpa using hv)
  rw [jf,List.getElem?_append_right (by rw [hl,Nat.succ_mul]; omega),hl]
  rw [show (j + 1) * cts.length + i - cts.length=j * cts.length + i by rw [Nat.succ_mul]; omega]
  exact this
end
end Go.Proofs.QV

namespace Go.Proofs.QV
open Go Go.Sort
open _root_.Option.some renaming injEq → j8
open _root_.List renaming append_nil → jC, flatMap_cons → jf, append_assoc → jq
open _root_.Prod.mk renaming injEq → j9
open _root_.Nat renaming lt_or_ge → jp
open _root_.Bool renaming and_eq_true → jd
set_option linter.unusedVariables false
set_option linter.unusedSimpArgs false
set_option linter.unusedSectionVars false
section
variable {α:Type} [Inhabited α]
theorem j0l (d:Array α) {i j:Nat} (hi:i < d.size) (hj:j < d.size) (x:Nat):(swp d i j)[x]! = if x=i then d[j]! else if x=j then d[i]! else d[x]!:=by
 by_cases h1:x=i
 ·subst h1
  rw [if_pos rfl]
  by_cases h2:x=j
  ·subst h2; exact swp_right d x x hj
  ·exact swp_left d x j hi h2
 ·rw [if_neg h1]
  by_cases h2:x=j
  ·subst h2; rw [if_pos rfl]; exact swp_right d i x hj
  ·rw [if_neg h2]; exact swp_other d i j x h1 h2
def Vr (a b:Nat):Nat → Array α → Array α
 | 0,d=>d
 | n + 1,d=>swp (Vr a b n d) (a + n) (b + n)
theorem p7 (a b:Nat):∀ (n:Nat) (d:Array α),(Vr a b n d).size=d.size
 | 0,d=>rfl
 | n + 1,d=>by rw [Vr,size_swp,p7 a b n d]
theorem Yp (a b:Nat):∀ (n:Nat) (d:Array α),a + n ≤ b → b + n ≤ d.size → ∀ x,(Vr a b n d)[x]! = if a ≤ x ∧ x < a + n then d[x + (b - a)]! else if b ≤ x ∧ x < b + n then d[x - (b - a)]! else d[x]!
 | 0,d,_,_,x=>by rw [if_neg (by omega),if_neg (by omega)]; rfl
 | n + 1,d,h1,h2,x=>by
  have ih:=Yp a b n d (by omega) (by omega)
  rw [Vr,j0l _ (by rw [p7]; omega) (by rw [p7]; omega),ih,ih,ih]
  ((repeat' split) <;> first | rfl | (exfalso; omega) | (congr 1; omega))
def rot (m i j:Nat) (d:Array α):Array α :=
 if i=j then Vr (m - i) m i d
 else if h:j < i ∧ 0 < j then rot m (i - j) j (Vr (m - i) m j d)
 else if h:i < j ∧ 0 < i then rot m i (j - i) (Vr (m - i) (m + j - i) i d)
 else d
termination_by i + j
theorem j91 (m:Nat):∀ (g i j:Nat) (d:Array α),i + j ≤ g → 0 < i → 0 < j → i ≤ m → m + j ≤ d.size → (rot m i j d).size=d.size ∧ ∀ x,(rot m i j d)[x]! = if m - i ≤ x ∧ x < m - i + j then d[x + i]! else if m - i + j ≤ x ∧ x < m + j then d[x - j]! else d[x]!:=by
 intro g
 induction g with
 | zero=>intro i j d h; omega
 | succ g ih =>
  intro i j d h hi hj him hm
  rw [rot]
  by_cases e:i=j
  ·subst e
   rw [if_pos rfl]
   refine ⟨p7 _ _ _ _,fun x=>?_⟩
   rw [Yp _ _ _ _ (by omega) (by omega)]
   ((repeat' split) <;> first | rfl | (exfalso; omega) | (congr 1; omega))
  ·rw [if_neg e]
   by_cases hji:j < i
   ·rw [dif_pos ⟨hji,hj⟩]
    have s:=p7 (m - i) m j d
    obtain ⟨r1,r2⟩:=ih (i - j) j (Vr (m - i) m j d) (by omega) (by omega) hj (by omega) (by omega)
    have q:=Yp (m - i) m j d (by omega) (by omega)
    refine ⟨by rw [r1,s],fun x=>?_⟩
    rw [r2,q,q,q]
    ((repeat' split) <;> first | rfl | (exfalso; omega) | (congr 1; omega))
   ·rw [dif_neg (by omega),dif_pos ⟨by omega,hi⟩]
    have s:=p7 (m - i) (m + j - i) i d
    obtain ⟨r1,r2⟩:=ih i (j - i) (Vr (m - i) (m + j - i) i d) (by omega) hi (by omega) him (by omega)
    have q:=Yp (m - i) (m + j - i) i d (by omega) (by omega)
    refine ⟨by rw [r1,s],fun x=>?_⟩
    rw [r2,q,q,q]
    ((repeat' split) <;> first | rfl | (exfalso; omega) | (congr 1; omega))
def shR (a:Nat):Nat → Array α → Array α
 | 0,d=>d
 | n + 1,d=>swp (shR a n d) (a + n) (a + n + 1)
theorem VB (a:Nat):∀ (n:Nat) (d:Array α),(shR a n d).size=d.size
 | 0,d=>rfl
 | n + 1,d=>by rw [shR,size_swp,VB a n d]
theorem j5N (a:Nat):∀ (n:Nat) (d:Array α),a + n < d.size → ∀ x,(shR a n d)[x]! = if a ≤ x ∧ x < a + n then d[x + 1]! else if x=a + n then d[a]! else d[x]!
 | 0,d,_,x=>by
  rw [if_neg (by omega)]
  split
  ·rename_i h; rw [h]; rfl
  ·rfl
 | n + 1,d,h,x=>by
  have ih:=j5N a n d (by omega)
  rw [shR,j0l _ (by rw [VB]; omega) (by rw [VB]; omega),ih,ih,ih]
  ((repeat' split) <;> first | rfl | (exfalso; omega) | (congr 1; omega))
def shL (m:Nat):Nat → Array α → Array α
 | 0,d=>d
 | n + 1,d=>swp (shL m n d) (m - n) (m - n - 1)
theorem VC (m:Nat):∀ (n:Nat) (d:Array α),(shL m n d).size=d.size
 | 0,d=>rfl
 | n + 1,d=>by rw [shL,size_swp,VC m n d]
theorem j5O (m:Nat):∀ (n:Nat) (d:Array α),n ≤ m → m < d.size → ∀ x,(shL m n d)[x]! = if m - n < x ∧ x ≤ m then d[x - 1]! else if x=m - n then d[m]! else d[x]!
 | 0,d,_,_,x=>by
  rw [if_neg (by omega)]
  split
  ·rename_i h; rw [h]; rfl
  ·rfl
 | n + 1,d,h,h2,x=>by
  have ih:=j5O m n d (by omega) (by omega)
  rw [shL,j0l _ (by rw [VC]; omega) (by rw [VC]; omega),ih,ih,ih]
  ((repeat' split) <;> first | rfl | (exfalso; omega) | (congr 1; omega))
def bs (p:Nat → Bool) (i j:Nat):Nat :=
 if h:i < j then (if p ((i + j) / 2) then bs p ((i + j) / 2 + 1) j else bs p i ((i + j) / 2)) else i
termination_by j - i
theorem j0u (p:Nat → Bool):∀ (g i j:Nat),j - i ≤ g → i ≤ j → i ≤ bs p i j ∧ bs p i j ≤ j ∧ (i < bs p i j → p (bs p i j - 1)=true) ∧ (bs p i j < j → p (bs p i j)=false):=by
 intro g
 induction g with
 | zero =>
  intro i j h1 h2
  rw [bs,dif_neg (by omega)]
  exact ⟨by omega,by omega,by omega,by omega⟩
 | succ g ih =>
  intro i j h1 h2
  rw [bs]
  by_cases h:i < j
  ·rw [dif_pos h]
   cases hp:p ((i + j) / 2) with
   | true =>
    rw [if_pos rfl]
    obtain ⟨r1,r2,r3,r4⟩:=ih ((i + j) / 2 + 1) j (by omega) (by omega)
    refine ⟨by omega,r2,fun _=>?_,r4⟩
    by_cases e:bs p ((i + j) / 2 + 1) j=(i + j) / 2 + 1
    ·rw [e]; exact hp
    ·exact r3 (by omega)
   | false =>
    rw [if_neg (by decide)]
    obtain ⟨r1,r2,r3,r4⟩:=ih i ((i + j) / 2) (by omega) (by omega)
    refine ⟨r1,by omega,r3,fun _=>?_⟩
    by_cases e:bs p i ((i + j) / 2)=(i + j) / 2
    ·rw [e]; exact hp
    ·exact r4 (by omega)
  ·rw [dif_neg h]
   exact ⟨by omega,by omega,by omega,by omega⟩
def J2 (d:Array α) (a b:Nat):List α:=(List.range' a (b - a)).map fun x=>d[x]!
theorem j0n (d:Array α) (a b:Nat):(J2 d a b).length=b - a:=by simp [J2]
theorem pW (d:Array α) {a b c:Nat} (h1:a ≤ b) (h2:b ≤ c):J2 d a c=J2 d a b ++ J2 d b c:=by
 unfold J2
 rw [← List.map_append]
 congr 1
 have e:List.range' b (c - b)=List.range' (a + (b - a)) (c - b):=by congr 1; omega
 rw [e,List.range'_append_1]
 congr 1
 omega
theorem Zc (d e:Array α) {a b a' b':Nat} (hl:b - a=b' - a') (h:∀ t,t < b - a → d[a + t]! = e[a' + t]!):J2 d a b=J2 e a' b':=by
 apply List.ext_getElem
 ·rw [j0n,j0n,hl]
 ·intro n h1 h2
  rw [j0n] at h1
  simp only [J2,List.getElem_map,List.getElem_range',Nat.one_mul]
  exact h n h1
theorem zu (d e:Array α) {a b:Nat} (h:∀ x,a ≤ x → x < b → d[x]! = e[x]!):J2 d a b=J2 e a b :=
 Zc d e rfl fun t ht=>h _ (by omega) (by omega)
theorem Xi {d:Array α} {a b:Nat} {y:α}:y ∈ J2 d a b ↔ ∃ x,a ≤ x ∧ x < b ∧ d[x]! = y:=by
 unfold J2
 rw [List.mem_map]
 constructor
 ·rintro ⟨x,h,rfl⟩
  have:=List.mem_range'_1.1 h
  exact ⟨x,by omega,by omega,rfl⟩
 ·rintro ⟨x,h1,h2,rfl⟩
  exact ⟨x,List.mem_range'_1.2 ⟨by omega,by omega⟩,rfl⟩
variable (lt:α → α → Bool)
def flt (k:α) (l:List α):List α:=l.filter fun x=>!lt x k && !lt k x
variable {lt}
theorem yJ (k:α) (u v:List α):flt lt k (u ++ v)=flt lt k u ++ flt lt k v:=List.filter_append ..
theorem Xk (hS:SWO lt) {l l':List α} (h:∀ k,flt lt k l=flt lt k l') {x:α} (hx:x ∈ l):x ∈ l':=by
 have:x ∈ flt lt x l:=List.mem_filter.2 ⟨hx,by simp [hS.irrefl]⟩
 rw [h] at this
 exact (List.mem_filter.1 this).1
theorem Zo (hS:SWO lt) {u v:List α} (h:∀ x ∈ u,∀ y ∈ v,lt y x=true) (k:α):flt lt k (v ++ u)=flt lt k (u ++ v):=by
 rw [yJ,yJ]
 by_cases hu:flt lt k u=[]
 ·rw [hu]; simp
 ·obtain ⟨x,hx⟩:=List.exists_mem_of_ne_nil _ hu
  obtain ⟨hx1,hx2⟩:=List.mem_filter.1 hx
  have hv:flt lt k v=[]:=by
   refine List.filter_eq_nil_iff.2 fun y hy hc=>?_
   simp only [jd,Bool.not_eq_true'] at hc hx2
   have:=hS.ntrans y k x hc.1 hx2.2
   rw [h x hx1 y hy] at this
   cases this
  rw [hv]; simp
theorem Kz (hS:SWO lt):∀ {l l':List α},l.Pairwise (fun x y=>lt y x=false) → l'.Pairwise (fun x y=>lt y x=false) → (∀ k,flt lt k l=flt lt k l') → l=l'
 | [],[],_,_,_=>rfl
 | [],y :: l',_,_,h=>by
  have:=Xk hS (fun k=>(h k).symm) (List.mem_cons_self (a:=y) (l:=l'))
  cases this
 | x :: l,[],_,_,h=>by
  have:=Xk hS h (List.mem_cons_self (a:=x) (l:=l))
  cases this
 | x :: l,y :: l',h1,h2,h=>by
  obtain ⟨p1,p2⟩:=List.pairwise_cons.1 h1
  obtain ⟨q1,q2⟩:=List.pairwise_cons.1 h2
  have e1:lt y x=false:=by
   rcases List.mem_cons.1 (Xk hS (fun k=>(h k).symm) (List.mem_cons_self (a:=y) (l:=l'))) with e | e
   ·subst e; exact hS.irrefl _
   ·exact p1 _ e
  have e2:lt x y=false:=by
   rcases List.mem_cons.1 (Xk hS h (List.mem_cons_self (a:=x) (l:=l))) with e | e
   ·subst e; exact hS.irrefl _
   ·exact q1 _ e
  have hx:=h x
  simp only [flt,List.filter_cons,hS.irrefl,e1,e2,Bool.not_false,Bool.and_self,if_true] at hx
  obtain ⟨rfl,_⟩:=List.cons.inj hx
  congr 1
  refine Kz hS p2 q2 fun k=>?_
  have hk:=h k
  simp only [flt,List.filter_cons] at hk ⊢
  split at hk
  ·exact (List.cons.inj hk).2
  ·exact hk
end
end Go.Proofs.QV

namespace Go.Proofs.QV
open Go Go.Sort
open _root_.Option.some renaming injEq → j8
open _root_.List renaming append_nil → jC, flatMap_cons → jf, append_assoc → jq
open _root_.Prod.mk renaming injEq → j9
open _root_.Nat renaming lt_or_ge → jp
open _root_.Bool renaming and_eq_true → jd
set_option linter.unusedVariables false
set_option linter.unusedSimpArgs false
set_option linter.unusedSectionVars false
section
variable {α:Type} [Inhabited α] {lt:α → α → Bool}
structure SPost (lt:α → α → Bool) (d d':Array α) (a b:Nat):Prop where
 size:d'.size=d.size
 out:∀ x,x < a ∨ b ≤ x → d'[x]! = d[x]!
 srt:SortedIn lt a b d'
 flt:∀ k,flt lt k (J2 d' a b)=flt lt k (J2 d a b)
theorem SPost.refl {d:Array α} {a b:Nat} (h:SortedIn lt a b d):SPost lt d d a b:=⟨rfl,fun _ _=>rfl,h,fun _=>rfl⟩
theorem Qc (hS:SWO lt) {d:Array α} {a b:Nat} (h:SortedIn lt a b d) {p q:Nat} (h1:a ≤ p) (h2:p ≤ q) (h3:q < b):lt d[q]! d[p]! = false:=by
 by_cases e:p=q
 ·subst e; exact hS.irrefl _
 ·exact h p q h1 (by omega) h3
theorem XZ (hS:SWO lt) {d d1 d2 d3:Array α} {a s m mid e b:Nat} (h1:a ≤ s) (h2:s ≤ m) (h3:m ≤ e) (h4:e ≤ b) (hmid:mid=s + (e - m))
  (U:SortedIn lt a m d) (V:SortedIn lt m b d) (F1:a < s → e < b → lt d[e]! d[s - 1]! = false) (F2:s < m → m < e → lt d[e - 1]! d[s]! = true)
  (hs:d1.size=d.size) (hg:∀ x,d1[x]! = if s ≤ x ∧ x < mid then d[x + (m - s)]! else if mid ≤ x ∧ x < e then d[x - (mid - s)]! else d[x]!)
  (H1:SPost lt d1 d2 a mid) (H2:SPost lt d2 d3 mid b):SPost lt d d3 a b:=by
 have cross:∀ x y,a ≤ x → x < mid → mid ≤ y → y < b → lt d1[y]! d1[x]! = false:=by
  intro x y x1 x2 y1 y2
  have Y1:y < e → d1[y]! = d[y - (mid - s)]!:=fun hy=>by rw [hg,if_neg (by omega),if_pos (by omega)]
  have Y2:¬ y < e → d1[y]! = d[y]!:=fun hy=>by rw [hg,if_neg (by omega),if_neg (by omega)]
  by_cases hx:s ≤ x
  ·have X:d1[x]! = d[x + (m - s)]!:=by rw [hg,if_pos (by omega)]
   rw [X]
   by_cases hy:y < e
   ·rw [Y1 hy]
    have f2:=F2 (by omega) (by omega)
    have g1:=Qc hS U (p:=s) (q:=y - (mid - s)) h1 (by omega) (by omega)
    have g2:=Qc hS V (p:=x + (m - s)) (q:=e - 1) (by omega) (by omega) (by omega)
    exact hS.ntrans _ _ _ (hS.ntrans _ _ _ g1 (hS.asymmA f2)) g2
   ·rw [Y2 hy]
    exact Qc hS V (by omega) (by omega) y2
  ·have X:d1[x]! = d[x]!:=by rw [hg,if_neg (by omega),if_neg (by omega)]
   rw [X]
   by_cases hy:y < e
   ·rw [Y1 hy]
    exact Qc hS U x1 (by omega) (by omega)
   ·rw [Y2 hy]
    have f1:=F1 (by omega) (by omega)
    have g1:=Qc hS V (p:=e) (q:=y) h3 (by omega) y2
    have g2:=Qc hS U (p:=x) (q:=s - 1) x1 (by omega) (by omega)
    exact hS.ntrans _ _ _ (hS.ntrans _ _ _ g1 f1) g2
 have e12:J2 d2 mid b=J2 d1 mid b:=zu _ _ fun x x1 x2=>H1.out x (.inr x1)
 have e32:J2 d3 a mid=J2 d2 a mid:=zu _ _ fun x x1 x2=>H2.out x (.inl x2)
 refine ⟨by rw [H2.size,H1.size,hs],fun x hx=>?_,fun p q p1 p2 p3=>?_,fun k=>?_⟩
 ·rw [H2.out x (by omega),H1.out x (by omega),hg,if_neg (by omega),if_neg (by omega)]
 ·by_cases hq:q < mid
  ·rw [H2.out p (.inl (by omega)),H2.out q (.inl hq)]
   exact H1.srt p q p1 p2 hq
  ·by_cases hp:mid ≤ p
   ·exact H2.srt p q hp p2 p3
   ·rw [H2.out p (.inl (by omega))]
    have i1:d2[p]! ∈ J2 d1 a mid:=Xk hS H1.flt (Xi.2 ⟨p,p1,by omega,rfl⟩)
    have i2:d3[q]! ∈ J2 d1 mid b:=by rw [← e12]; exact Xk hS H2.flt (Xi.2 ⟨q,by omega,p3,rfl⟩)
    obtain ⟨x,x1,x2,x3⟩:=Xi.1 i1
    obtain ⟨y,y1,y2,y3⟩:=Xi.1 i2
    rw [← x3,← y3]
    exact cross x y x1 x2 y1 y2
 ·have s1:J2 d1 a s=J2 d a s:=zu _ _ fun x x1 x2=>by rw [hg,if_neg (by omega),if_neg (by omega)]
  have s2:J2 d1 s mid=J2 d m e:=Zc _ _ (by omega) fun t ht=>by rw [hg,if_pos (by omega)]; congr 1; omega
  have s3:J2 d1 mid e=J2 d s m:=Zc _ _ (by omega) fun t ht=>by rw [hg,if_neg (by omega),if_pos (by omega)]; congr 1; omega
  have s4:J2 d1 e b=J2 d e b:=zu _ _ fun x x1 x2=>by rw [hg,if_neg (by omega),if_neg (by omega)]
  rw [pW d3 (show a ≤ mid by omega) (show mid ≤ b by omega),e32,yJ,H1.flt,H2.flt,e12,← yJ,pW d1 h1 (show s ≤ mid by omega),pW d1 (show mid ≤ e by omega) h4,s1,s2,s3,s4,
   pW d (show a ≤ m by omega) (show m ≤ b by omega),pW d h1 h2,pW d h3 h4]
  have hc:flt lt k (J2 d m e ++ J2 d s m)=flt lt k (J2 d s m ++ J2 d m e):=by
   refine Zo hS (fun x hx y hy=>?_) k
   obtain ⟨i,i1,i2,rfl⟩:=Xi.1 hx
   obtain ⟨j,j1,j2,rfl⟩:=Xi.1 hy
   cases hl:lt d[j]! d[i]! with
   | true=>rfl
   | false =>
    have f2:=F2 (by omega) (by omega)
    have g1:=Qc hS V (p:=j) (q:=e - 1) j1 (by omega) (by omega)
    have g2:=Qc hS U (p:=s) (q:=i) h1 i1 i2
    rw [hS.ntrans _ _ _ (hS.ntrans _ _ _ g1 hl) g2] at f2
    cases f2
  simp only [yJ,jq] at hc ⊢
  rw [← jq (flt lt k (J2 d m e)),hc,jq]
def VP (lt:α → α → Bool) (d:Array α) (a m b:Nat):Nat :=
 bs (fun c=>!lt d[(a + b) / 2 + m - 1 - c]! d[c]!) (if (a + b) / 2 < m then (a + b) / 2 + m - b else a) (if (a + b) / 2 < m then (a + b) / 2 else m)
def qR (d:Array α) (a m b s:Nat):Array α:=if s < m ∧ m < (a + b) / 2 + m - s then rot m (m - s) ((a + b) / 2 - s) d else d
def kE (lt:α → α → Bool):Nat → Nat → Nat → Nat → Array α → Array α
 | 0,_,_,_,d=>d
 | g + 1,a,m,b,d =>
  if m - a=1 then shR a (bs (fun h=>lt d[h]! d[a]!) m b - 1 - a) d
  else if b - m=1 then shL m (m - bs (fun h=>!lt d[m]! d[h]!) a m) d
  else
   let s:=VP lt d a m b
   let d1:=qR d a m b s
   let d2:=if a < s ∧ s < (a + b) / 2 then kE lt g a s ((a + b) / 2) d1 else d1
   if (a + b) / 2 < (a + b) / 2 + m - s ∧ (a + b) / 2 + m - s < b then kE lt g ((a + b) / 2) ((a + b) / 2 + m - s) b d2 else d2
theorem ZH {d:Array α} {a m b:Nat} (h1:a < m) (h2:m < b):a ≤ VP lt d a m b ∧ VP lt d a m b ≤ m ∧ VP lt d a m b ≤ (a + b) / 2 ∧ (a + b) / 2 + m - VP lt d a m b ≤ b ∧
  (a < VP lt d a m b → (a + b) / 2 + m - VP lt d a m b < b → lt d[(a + b) / 2 + m - VP lt d a m b]! d[VP lt d a m b - 1]! = false) ∧
  (VP lt d a m b < m → m < (a + b) / 2 + m - VP lt d a m b → lt d[(a + b) / 2 + m - VP lt d a m b - 1]! d[VP lt d a m b]! = true):=by
 unfold VP
 by_cases h:(a + b) / 2 < m
 ·rw [if_pos h,if_pos h]
  obtain ⟨r1,r2,r3,r4⟩:=j0u (fun c=>!lt d[(a + b) / 2 + m - 1 - c]! d[c]!) _ ((a + b) / 2 + m - b) ((a + b) / 2) (Nat.le_refl _) (by omega)
  generalize bs _ _ _=s at *
  simp only [Bool.not_eq_true',Bool.not_eq_false'] at r3 r4
  refine ⟨by omega,by omega,by omega,by omega,fun q1 q2=>?_,fun q1 q2=>?_⟩
  ·have:=r3 (by omega)
   rwa [show (a + b) / 2 + m - 1 - (s - 1)=(a + b) / 2 + m - s by omega] at this
  ·have:=r4 (by omega)
   rwa [show (a + b) / 2 + m - 1 - s=(a + b) / 2 + m - s - 1 by omega] at this
 ·rw [if_neg h,if_neg h]
  obtain ⟨r1,r2,r3,r4⟩:=j0u (fun c=>!lt d[(a + b) / 2 + m - 1 - c]! d[c]!) _ a m (Nat.le_refl _) (by omega)
  generalize bs _ _ _=s at *
  simp only [Bool.not_eq_true',Bool.not_eq_false'] at r3 r4
  refine ⟨by omega,by omega,by omega,by omega,fun q1 q2=>?_,fun q1 q2=>?_⟩
  ·have:=r3 (by omega)
   rwa [show (a + b) / 2 + m - 1 - (s - 1)=(a + b) / 2 + m - s by omega] at this
  ·have:=r4 (by omega)
   rwa [show (a + b) / 2 + m - 1 - s=(a + b) / 2 + m - s - 1 by omega] at this
theorem j7D {d:Array α} {a m b s:Nat} (h1:a < m) (h2:m < b) (hb:b ≤ d.size) (q1:a ≤ s) (q2:s ≤ m) (q3:s ≤ (a + b) / 2) (q4:(a + b) / 2 + m - s ≤ b):(qR d a m b s).size=d.size ∧
  ∀ x,(qR d a m b s)[x]! = if s ≤ x ∧ x < (a + b) / 2 then d[x + (m - s)]! else if (a + b) / 2 ≤ x ∧ x < (a + b) / 2 + m - s then d[x - ((a + b) / 2 - s)]! else d[x]!:=by
 unfold qR
 by_cases h:s < m ∧ m < (a + b) / 2 + m - s
 ·rw [if_pos h]
  obtain ⟨r1,r2⟩:=j91 m _ (m - s) ((a + b) / 2 - s) d (Nat.le_refl _) (by omega) (by omega) (by omega) (by omega)
  refine ⟨r1,fun x=>?_⟩
  rw [r2]
  ((repeat' split) <;> first | rfl | (exfalso; omega) | (congr 1; omega))
 ·rw [if_neg h]
  refine ⟨rfl,fun x=>?_⟩
  ((repeat' split) <;> first | rfl | (exfalso; omega) | (congr 1; omega))
theorem j28 (hS:SWO lt):∀ (g a m b:Nat) (d:Array α),b - a ≤ g → a < m → m < b → b ≤ d.size → SortedIn lt a m d → SortedIn lt m b d → SPost lt d (kE lt g a m b d) a b:=by
 intro g
 induction g with
 | zero=>intro a m b d h; omega
 | succ g ih =>
  intro a m b d hg h1 h2 hb U V
  rw [kE]
  by_cases c1:m - a=1
  ·rw [if_pos c1]
   obtain ⟨r1,r2,r3,r4⟩:=j0u (fun h=>lt d[h]! d[a]!) _ m b (Nat.le_refl _) (by omega)
   generalize bs _ _ _=r at *
   have q:=j5N a (r - 1 - a) d (by omega)
   have qs:=VB a (r - 1 - a) d
   generalize shR a (r - 1 - a) d=d1 at *
   refine XZ hS (d1:=d1) (d2:=d1) (s:=a) (m:=m) (mid:=a + (r - m)) (e:=r) (Nat.le_refl _) (by omega) r1 r2 rfl U V (by omega) (fun _ h=>r3 h) qs (fun x=>by rw [q]; ((repeat' split) <;> first | rfl | (exfalso; omega) | (congr 1; omega)))
    (SPost.refl fun x y x1 x2 x3=>?_) (SPost.refl fun x y x1 x2 x3=>?_)
   ·rw [q,q,if_pos (by omega),if_pos (by omega)]
    exact V _ _ (by omega) (by omega) (by omega)
   ·rw [q y,if_neg (by omega),if_neg (by omega),q x,if_neg (by omega)]
    by_cases hx:x=a + (r - 1 - a)
    ·rw [if_pos hx]
     exact hS.ntrans _ _ _ (Qc hS V (p:=r) (q:=y) r1 (by omega) x3) (r4 (by omega))
    ·rw [if_neg hx]
     exact V _ _ (by omega) x2 x3
  ·rw [if_neg c1]
   by_cases c2:b - m=1
   ·rw [if_pos c2]
    obtain ⟨r1,r2,r3,r4⟩:=j0u (fun h=>!lt d[m]! d[h]!) _ a m (Nat.le_refl _) (by omega)
    generalize bs _ _ _=r at *
    simp only [Bool.not_eq_true',Bool.not_eq_false'] at r3 r4
    have q:=j5O m (m - r) d (by omega) (by omega)
    have qs:=VC m (m - r) d
    generalize shL m (m - r) d=d1 at *
    refine XZ hS (d1:=d1) (d2:=d1) (s:=r) (m:=m) (mid:=r + (b - m)) (e:=b) r1 r2 (by omega) (Nat.le_refl _) rfl U V (by omega) (fun h _=>by rw [show b - 1=m by omega]; exact r4 h) qs (fun x=>by rw [q]; ((repeat' split) <;> first | rfl | (exfalso; omega) | (congr 1; omega)))
     (SPost.refl fun x y x1 x2 x3=>?_) (SPost.refl fun x y x1 x2 x3=>?_)
    ·rw [q x,if_neg (by omega),if_neg (by omega),q y,if_neg (by omega)]
     by_cases hy:y=m - (m - r)
     ·rw [if_pos hy]
      exact hS.ntrans _ _ _ (r3 (by omega)) (Qc hS U (p:=x) (q:=r - 1) x1 (by omega) (by omega))
     ·rw [if_neg hy]
      exact U _ _ x1 x2 (by omega)
    ·rw [q,q,if_pos (by omega),if_pos (by omega)]
     exact U _ _ (by omega) (by omega) (by omega)
   ·rw [if_neg c2]
    obtain ⟨q1,q2,q3,q4,q5,q6⟩:=ZH (lt:=lt) (d:=d) h1 h2
    generalize VP lt d a m b=s at *
    obtain ⟨k1,k2⟩:=j7D h1 h2 hb q1 q2 q3 q4
    show SPost lt d (if (a + b) / 2 < (a + b) / 2 + m - s ∧ (a + b) / 2 + m - s < b then kE lt g ((a + b) / 2) ((a + b) / 2 + m - s) b (if a < s ∧ s < (a + b) / 2 then kE lt g a s ((a + b) / 2) (qR d a m b s) else qR d a m b s) else (if a < s ∧ s < (a + b) / 2 then kE lt g a s ((a + b) / 2) (qR d a m b s) else qR d a m b s)) a b
    generalize qR d a m b s=d1 at *
    have S1:SortedIn lt a s d1:=fun x y x1 x2 x3=>by
     rw [k2,k2,if_neg (by omega),if_neg (by omega),if_neg (by omega),if_neg (by omega)]
     exact U _ _ x1 x2 (by omega)
    have S2:SortedIn lt s ((a + b) / 2) d1:=fun x y x1 x2 x3=>by
     rw [k2,k2,if_pos (by omega),if_pos (by omega)]
     exact V _ _ (by omega) (by omega) (by omega)
    have S3:SortedIn lt ((a + b) / 2) ((a + b) / 2 + m - s) d1:=fun x y x1 x2 x3=>by
     rw [k2,k2,if_neg (by omega),if_pos (by omega),if_neg (by omega),if_pos (by omega)]
     exact U _ _ (by omega) (by omega) (by omega)
    have S4:SortedIn lt ((a + b) / 2 + m - s) b d1:=fun x y x1 x2 x3=>by
     rw [k2,k2,if_neg (by omega),if_neg (by omega),if_neg (by omega),if_neg (by omega)]
     exact V _ _ (by omega) x2 x3
    have H1:SPost lt d1 (if a < s ∧ s < (a + b) / 2 then kE lt g a s ((a + b) / 2) d1 else d1) a ((a + b) / 2):=by
     by_cases c:a < s ∧ s < (a + b) / 2
     ·rw [if_pos c]
      exact ih a s ((a + b) / 2) d1 (by omega) c.1 c.2 (by omega) S1 S2
     ·rw [if_neg c]
      refine SPost.refl ?_
      by_cases e:a=s
      ·rw [e]; rw [e] at S2; exact S2
      ·have:s=(a + b) / 2:=by omega
       rw [← this]; exact S1
    generalize (if a < s ∧ s < (a + b) / 2 then kE lt g a s ((a + b) / 2) d1 else d1)=d2 at *
    refine XZ hS (d1:=d1) (d2:=d2) (s:=s) (m:=m) (mid:=(a + b) / 2) (e:=(a + b) / 2 + m - s) q1 q2 (by omega) q4 (by omega) U V q5 q6 k1 k2 H1 ?_
    have S3':SortedIn lt ((a + b) / 2) ((a + b) / 2 + m - s) d2:=fun x y x1 x2 x3=>by
     rw [H1.out x (.inr x1),H1.out y (.inr (by omega))]
     exact S3 x y x1 x2 x3
    have S4':SortedIn lt ((a + b) / 2 + m - s) b d2:=fun x y x1 x2 x3=>by
     rw [H1.out x (.inr (by omega)),H1.out y (.inr (by omega))]
     exact S4 x y x1 x2 x3
    by_cases c:(a + b) / 2 < (a + b) / 2 + m - s ∧ (a + b) / 2 + m - s < b
    ·rw [if_pos c]
     exact ih ((a + b) / 2) ((a + b) / 2 + m - s) b d2 (by omega) c.1 c.2 (by rw [H1.size,k1]; exact hb) S3' S4'
    ·rw [if_neg c]
     refine SPost.refl ?_
     by_cases e:(a + b) / 2=(a + b) / 2 + m - s
     ·rw [e]; exact S4'
     ·have:(a + b) / 2 + m - s=b:=by omega
      rw [this] at S3'; exact S3'
end
end Go.Proofs.QV

namespace Go.Proofs.QV
open Go Go.Sort
open _root_.Option.some renaming injEq → j8
open _root_.List renaming append_nil → jC, flatMap_cons → jf, append_assoc → jq
open _root_.Prod.mk renaming injEq → j9
open _root_.Nat renaming lt_or_ge → jp
open _root_.Bool renaming and_eq_true → jd
set_option linter.unusedVariables false
set_option linter.unusedSimpArgs false
set_option linter.unusedSectionVars false
section
variable {α:Type} [Inhabited α] {lt:α → α → Bool}
theorem j0m (d:Array α) (a:Nat):J2 d a (a + 1)=[d[a]!]:=by simp [J2]
theorem j9x (hS:SWO lt) {d:Array α} {a b j:Nat} (h1:a ≤ j) (h2:j + 1 < b) (hb:b ≤ d.size) (hl:lt d[j + 1]! d[j]! = true) (k:α):flt lt k (J2 (swp d (j + 1) j) a b)=flt lt k (J2 d a b):=by
 have q:=j0l d (i:=j + 1) (j:=j) (by omega) (by omega)
 rw [pW _ h1 (show j ≤ b by omega),pW _ (show j ≤ j + 1 by omega) (show j + 1 ≤ b by omega),pW _ (show j + 1 ≤ j + 1 + 1 by omega) (show j + 1 + 1 ≤ b by omega),j0m,j0m]
 rw [pW d h1 (show j ≤ b by omega),pW d (show j ≤ j + 1 by omega) (show j + 1 ≤ b by omega),pW d (show j + 1 ≤ j + 1 + 1 by omega) (show j + 1 + 1 ≤ b by omega),j0m,j0m]
 have e1:J2 (swp d (j + 1) j) a j=J2 d a j:=zu _ _ fun x x1 x2=>by rw [q,if_neg (by omega),if_neg (by omega)]
 have e2:J2 (swp d (j + 1) j) (j + 1 + 1) b=J2 d (j + 1 + 1) b:=zu _ _ fun x x1 x2=>by rw [q,if_neg (by omega),if_neg (by omega)]
 have e3:(swp d (j + 1) j)[j]! = d[j + 1]!:=by rw [q,if_neg (by omega),if_pos rfl]
 have e4:(swp d (j + 1) j)[j + 1]! = d[j]!:=by rw [q,if_pos rfl]
 rw [e1,e2,e3,e4]
 have hc:flt lt k ([d[j + 1]!] ++ [d[j]!])=flt lt k ([d[j]!] ++ [d[j + 1]!]):=Zo hS (fun x hx y hy=>by
  rw [List.mem_singleton.1 hx,List.mem_singleton.1 hy]; exact hl) k
 simp only [yJ] at hc ⊢
 rw [← jq (flt lt k [d[j + 1]!]),hc,jq]
theorem j2y (hS:SWO lt) (a b i:Nat) (hib:i < b) (k:α):∀ (j:Nat) (d:Array α),j ≤ i → b ≤ d.size → (insInner lt a j d).size=d.size ∧ flt lt k (J2 (insInner lt a j d) a b)=flt lt k (J2 d a b)
 | 0,d,_,_=>⟨rfl,rfl⟩
 | j + 1,d,hj,hb=>by
  unfold insInner
  split
  ·rename_i hc
   simp only [jd,decide_eq_true_eq] at hc
   obtain ⟨r1,r2⟩:=j2y hS a b i hib k j (swp d (j + 1) j) (by omega) (by rw [size_swp]; exact hb)
   exact ⟨by rw [r1,size_swp],by rw [r2]; exact j9x hS (by omega) (by omega) hb hc.2 k⟩
  ·exact ⟨rfl,rfl⟩
theorem j2k (hS:SWO lt) (a b:Nat) (k:α):∀ (n i:Nat) (d:Array α),b - i=n → b ≤ d.size → flt lt k (J2 (insOuter lt a b i d) a b)=flt lt k (J2 d a b)
 | 0,i,d,hn,hb=>by rw [insOuter,if_neg (by omega)]
 | n + 1,i,d,hn,hb=>by
  obtain ⟨r1,r2⟩:=j2y hS a b i (by omega) k i d (Nat.le_refl _) hb
  rw [insOuter,if_pos (by omega),j2k hS a b k n (i + 1) _ (by omega) (by rw [r1]; exact hb),r2]
theorem YG (hS:SWO lt) {d:Array α} {a b:Nat} (hab:a ≤ b) (hb:b ≤ d.size):SPost lt d (insertionSort lt d a b) a b:=by
 obtain ⟨⟨p1,p2,_⟩,p3⟩:=insertionSort_holds hS d a b hab hb
 exact ⟨p1,p2,p3,fun k=>j2k hS a b k _ (a + 1) d rfl hb⟩
theorem Xh {d d':Array α} {a b n:Nat} (h:SPost lt d d' a b) (hab:a ≤ b) (hb:b ≤ n) (k:α):flt lt k (J2 d' 0 n)=flt lt k (J2 d 0 n):=by
 rw [pW d' (Nat.zero_le a) (show a ≤ n by omega),pW d' hab hb,pW d (Nat.zero_le a) (show a ≤ n by omega),pW d hab hb]
 have e1:J2 d' 0 a=J2 d 0 a:=zu _ _ fun x _ x2=>h.out x (.inl x2)
 have e2:J2 d' b n=J2 d b n:=zu _ _ fun x x1 _=>h.out x (.inr x1)
 rw [e1,e2]
 simp only [yJ,h.flt]
theorem zP {B c a:Nat} (h1:B ∣ c) (h2:B ∣ a) (h:c < a):c + B ≤ a:=by
 obtain ⟨x,rfl⟩:=h1
 obtain ⟨y,rfl⟩:=h2
 have:x < y:=by
  refine Nat.lt_of_not_le fun hh=>?_
  have:=Nat.mul_le_mul_left B hh
  omega
 have:=Nat.mul_le_mul_left B (show x + 1 ≤ y from this)
 rwa [Nat.mul_add,Nat.mul_one] at this
def V4 (lt:α → α → Bool) (n B a:Nat) (d:Array α):Array α :=
 if h:a + B ≤ n ∧ 0 < B then V4 lt n B (a + B) (insertionSort lt d a (a + B)) else insertionSort lt d a n
termination_by n - a
def mrg (lt:α → α → Bool) (n B a:Nat) (d:Array α):Array α :=
 if h:a + 2 * B ≤ n ∧ 0 < B then mrg lt n B (a + 2 * B) (kE lt (2 * B) a (a + B) (a + 2 * B) d) else if a + B < n then kE lt (n - a) a (a + B) n d else d
termination_by n - a
def pz (lt:α → α → Bool) (n B:Nat) (d:Array α):Array α :=
 if h:B < n ∧ 0 < B then pz lt n (2 * B) (mrg lt n B 0 d) else d
termination_by n - B
def jQ (lt:α → α → Bool) (d:Array α):Array α:=pz lt d.size 20 (V4 lt d.size 20 0 d)
structure Done (lt:α → α → Bool) (n B:Nat) (d d':Array α):Prop where
 size:d'.size=d.size
 flt:∀ k,flt lt k (J2 d' 0 n)=flt lt k (J2 d 0 n)
 blk:∀ c,B ∣ c → SortedIn lt c (min (c + B) n) d'
theorem j6M (hS:SWO lt) (n B:Nat) (hB:0 < B):∀ (g a:Nat) (d:Array α),n - a ≤ g → B ∣ a → a ≤ n → n ≤ d.size → (∀ c,B ∣ c → c < a → SortedIn lt c (c + B) d) → Done lt n B d (V4 lt n B a d):=by
 intro g
 have fin:∀ (a:Nat) (d:Array α),¬ a + B ≤ n → B ∣ a → a ≤ n → n ≤ d.size → (∀ c,B ∣ c → c < a → SortedIn lt c (c + B) d) → Done lt n B d (insertionSort lt d a n):=by
  intro a d h ha han hn hc
  have P:=YG hS han hn
  refine ⟨P.size,fun k=>Xh P han (Nat.le_refl _) k,fun c c1=>?_⟩
  by_cases h1:c < a
  ·have:=zP c1 ha h1
   intro p q p1 p2 p3
   rw [P.out p (.inl (by omega)),P.out q (.inl (by omega))]
   exact hc c c1 h1 p q p1 p2 (by omega)
  ·by_cases h2:a < c
   ·have:=zP ha c1 h2
    intro p q p1 p2 p3
    omega
   ·intro p q p1 p2 p3
    exact P.srt p q (by omega) p2 (by omega)
 induction g with
 | zero =>
  intro a d h ha han hn hc
  rw [V4,dif_neg (by omega)]
  exact fin a d (by omega) ha han hn hc
 | succ g ih =>
  intro a d h ha han hn hc
  rw [V4]
  by_cases hl:a + B ≤ n
  ·rw [dif_pos ⟨hl,hB⟩]
   have P:=YG (lt:=lt) hS (d:=d) (a:=a) (b:=a + B) (by omega) (by omega)
   obtain ⟨r1,r2,r3⟩:=ih (a + B) (insertionSort lt d a (a + B)) (by omega) (Nat.dvd_add ha (Nat.dvd_refl _)) hl (by rw [P.size]; exact hn) (fun c c1 c2=>by
    by_cases h1:c < a
    ·have:=zP c1 ha h1
     intro p q p1 p2 p3
     rw [P.out p (.inl (by omega)),P.out q (.inl (by omega))]
     exact hc c c1 h1 p q p1 p2 p3
    ·by_cases h2:a < c
     ·have:=zP ha c1 h2
      omega
     ·have:c=a:=by omega
      subst this
      exact P.srt)
   exact ⟨by rw [r1,P.size],fun k=>by rw [r2,Xh P (by omega) hl],r3⟩
  ·rw [dif_neg (by omega)]
   exact fin a d hl ha han hn hc
theorem j7Z (hS:SWO lt) (n B:Nat) (hB:0 < B):∀ (g a:Nat) (d:Array α),n - a ≤ g → 2 * B ∣ a → n ≤ d.size → (∀ c,2 * B ∣ c → c < a → SortedIn lt c (min (c + 2 * B) n) d) → (∀ c,B ∣ c → a ≤ c → SortedIn lt c (min (c + B) n) d) → Done lt n (2 * B) d (mrg lt n B a d):=by
 intro g
 have hB2:B ∣ 2 * B:=⟨2,by omega⟩
 have fin:∀ (a:Nat) (d:Array α),¬ a + 2 * B ≤ n → 2 * B ∣ a → n ≤ d.size → (∀ c,2 * B ∣ c → c < a → SortedIn lt c (min (c + 2 * B) n) d) → (∀ c,B ∣ c → a ≤ c → SortedIn lt c (min (c + B) n) d) → Done lt n (2 * B) d (if a + B < n then kE lt (n - a) a (a + B) n d else d):=by
  intro a d h ha hn hc he
  have haB:B ∣ a:=Nat.dvd_trans hB2 ha
  have s1:=he a haB (Nat.le_refl _)
  by_cases hm:a + B < n
  ·rw [if_pos hm]
   have s2:=he (a + B) (Nat.dvd_add haB (Nat.dvd_refl _)) (by omega)
   rw [show min (a + B) n=a + B by omega] at s1
   rw [show min (a + B + B) n=n by omega] at s2
   have P:=j28 hS (n - a) a (a + B) n d (Nat.le_refl _) (by omega) hm hn s1 s2
   refine ⟨P.size,fun k=>Xh P (by omega) (Nat.le_refl _) k,fun c c1=>?_⟩
   by_cases h1:c < a
   ·have:=zP c1 ha h1
    intro p q p1 p2 p3
    rw [P.out p (.inl (by omega)),P.out q (.inl (by omega))]
    exact hc c c1 h1 p q p1 p2 p3
   ·by_cases h2:a < c
    ·have:=zP ha c1 h2
     intro p q p1 p2 p3
     omega
    ·intro p q p1 p2 p3
     exact P.srt p q (by omega) p2 (by omega)
  ·rw [if_neg hm]
   refine ⟨rfl,fun _=>rfl,fun c c1=>?_⟩
   by_cases h1:c < a
   ·exact hc c c1 h1
   ·by_cases h2:a < c
    ·have:=zP ha c1 h2
     intro p q p1 p2 p3
     omega
    ·intro p q p1 p2 p3
     exact s1 p q (by omega) p2 (by omega)
 induction g with
 | zero =>
  intro a d h ha hn hc he
  rw [mrg,dif_neg (by omega)]
  exact fin a d (by omega) ha hn hc he
 | succ g ih =>
  intro a d h ha hn hc he
  rw [mrg]
  by_cases hl:a + 2 * B ≤ n
  ·rw [dif_pos ⟨hl,hB⟩]
   have haB:B ∣ a:=Nat.dvd_trans hB2 ha
   have s1:=he a haB (Nat.le_refl _)
   have s2:=he (a + B) (Nat.dvd_add haB (Nat.dvd_refl _)) (by omega)
   rw [show min (a + B) n=a + B by omega] at s1
   rw [show min (a + B + B) n=a + 2 * B by omega] at s2
   have P:=j28 hS (2 * B) a (a + B) (a + 2 * B) d (by omega) (by omega) (by omega) (by omega) s1 s2
   obtain ⟨r1,r2,r3⟩:=ih (a + 2 * B) _ (by omega) (Nat.dvd_add ha (Nat.dvd_refl _)) (by rw [P.size]; exact hn) (fun c c1 c2=>by
    by_cases h1:c < a
    ·have:=zP c1 ha h1
     intro p q p1 p2 p3
     rw [P.out p (.inl (by omega)),P.out q (.inl (by omega))]
     exact hc c c1 h1 p q p1 p2 p3
    ·by_cases h2:a < c
     ·have:=zP ha c1 h2
      omega
     ·intro p q p1 p2 p3
      exact P.srt p q (by omega) p2 (by omega)) (fun c c1 c2 p q p1 p2 p3=>by
    rw [P.out p (.inr (by omega)),P.out q (.inr (by omega))]
    exact he c c1 (by omega) p q p1 p2 p3)
   exact ⟨by rw [r1,P.size],fun k=>by rw [r2,Xh P (by omega) hl],r3⟩
  ·rw [dif_neg (by omega)]
   exact fin a d hl ha hn hc he
theorem j4f (hS:SWO lt) (n:Nat):∀ (g B:Nat) (d:Array α),0 < B → n - B ≤ g → n ≤ d.size → (∀ c,B ∣ c → SortedIn lt c (min (c + B) n) d) → (pz lt n B d).size=d.size ∧ (∀ k,flt lt k (J2 (pz lt n B d) 0 n)=flt lt k (J2 d 0 n)) ∧ SortedIn lt 0 n (pz lt n B d):=by
 intro g
 induction g with
 | zero =>
  intro B d hB hg hn hc
  rw [pz,dif_neg (by omega)]
  have:=hc 0 (Nat.dvd_zero _)
  rw [show min (0 + B) n=n by omega] at this
  exact ⟨rfl,fun _=>rfl,this⟩
 | succ g ih =>
  intro B d hB hg hn hc
  rw [pz]
  by_cases hl:B < n
  ·rw [dif_pos ⟨hl,hB⟩]
   obtain ⟨r1,r2,r3⟩:=j7Z hS n B hB n 0 d (by omega) (Nat.dvd_zero _) hn (fun c _ h=>by omega) (fun c c1 _=>hc c c1)
   obtain ⟨q1,q2,q3⟩:=ih (2 * B) (mrg lt n B 0 d) (by omega) (by omega) (by rw [r1]; exact hn) r3
   exact ⟨by rw [q1,r1],fun k=>by rw [q2,r2],q3⟩
  ·rw [dif_neg (by omega)]
   have:=hc 0 (Nat.dvd_zero _)
   rw [show min (0 + B) n=n by omega] at this
   exact ⟨rfl,fun _=>rfl,this⟩
theorem j5P (d:Array α):J2 d 0 d.size=d.toList:=by
 apply List.ext_getElem
 ·rw [j0n]; simp
 ·intro i h1 h2
  have hi:i < d.size:=by simpa using h2
  simp [J2,getElem!_pos d i hi]
theorem j0G (hS:SWO lt) (d:Array α) {l:List α} (h1:l.Pairwise fun x y=>lt y x=false) (h2:∀ k,flt lt k l=flt lt k d.toList):(jQ lt d).toList=l:=by
 obtain ⟨r1,r2,r3⟩:=j6M hS d.size 20 (by omega) d.size 0 d (by omega) (Nat.dvd_zero _) (Nat.zero_le _) (Nat.le_refl _) (fun c _ h=>by omega)
 obtain ⟨q1,q2,q3⟩:=j4f hS d.size d.size 20 _ (by omega) (by omega) (by rw [r1]; exact Nat.le_refl _) r3
 have hs:(jQ lt d).size=d.size:=by unfold jQ; rw [q1,r1]
 have hf:∀ k,flt lt k (jQ lt d).toList=flt lt k d.toList:=fun k=>by
  rw [← j5P,← j5P d,hs]
  unfold jQ
  rw [q2,r2]
 refine Kz hS ?_ h1 fun k=>by rw [hf,h2]
 rw [List.pairwise_iff_getElem]
 intro i j hi hj hij
 have hi':i < (jQ lt d).size:=by simpa using hi
 have hj':j < (jQ lt d).size:=by simpa using hj
 have this:lt (jQ lt d)[j]! (jQ lt d)[i]! = false:=q3 i j (Nat.zero_le _) hij (by rw [← hs]; exact hj')
 rw [getElem!_pos _ i hi',getElem!_pos _ j hj'] at this
 rw [Array.getElem_toList,Array.getElem_toList]
 exact this
end
end Go.Proofs.QV
