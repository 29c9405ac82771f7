import Derived.Test.YthbcjkppdjpihaaGreatME9
import Derived.Shelf.Small.Strs
import Derived.Shelf.Lays
import Derived.Test.YthbcjkppdjpihaaGreatME8
import Derived.Test.YthbcjkppdjpihaaGreatProg
import Derived.Test.YthbcjkppdjpihaaGreatME4
import Derived.Test.YthbcjkppdjpihaaGreatME5
import Derived.Test.YthbcjkppdjpihaaGreatME7
/- What SortDefs compares by: the names' bytes (printed by w9.py; a template: 36 the closure). -/
namespace Go.Proofs
open Go.Shelf Go.RowKit Go.Lib Go.Sort
open _root_.List renaming nil_append → ju, length_nil → je
open _root_.Option.some renaming injEq → j8
open _root_.Prod.mk renaming injEq → jb
set_option linter.unusedVariables false
def Tryz.lays106_ren:Go.Shelf.Ren:=⟨fun | 106=>37 | 213=>68 | 265=>101 | n=>n,fun | 9=>9 | 3=>3 | n=>n,fun | n=>n⟩
theorem Tryz.lays106:Go.Proofs.Lays.n106 Tryz.prog Tryz.lays106_ren:={
 mixed:=by kernel_rfl,
 f106:=Tryz.func37.trans (congrArg some (by kernel_rfl)),
 f213:=Tryz.func68.trans (congrArg some (by kernel_rfl)),
 f265:=Tryz.func101.trans (congrArg some (by kernel_rfl)),
 t3:=Tryz.underlying3,
 a3:=Tryz.isAgg3,
 z3:=Tryz.sizeOf3,
 v3:=Tryz.zeroValue3,
 t9:=Tryz.underlying9,
 a9:=Tryz.isAgg9,
 z9:=Tryz.sizeOf9,
 v9:=Tryz.zeroValue9 }
set_option maxHeartbeats 4000000 in
set_option maxRecDepth 1000000 in
theorem QV.cmpDef_calls (x0 x1 x2 x4 x5 x6 x7 x8 x9 x10 y0 y1 y2 y4 y5 y6 y7 y8 y9 y10:Value) (ax ay:ByteArray) (hx0:x0.oneCell'=true) (hx1:x1.oneCell'=true) (hx2:x2.oneCell'=true) (hx4:x4.oneCell'=true) (hx5:x5.oneCell'=true) (hx6:x6.oneCell'=true) (hx7:x7.oneCell'=true) (hx8:x8.oneCell'=true) (hx9:x9.oneCell'=true) (hx10:x10.oneCell'=true) (hy0:y0.oneCell'=true) (hy1:y1.oneCell'=true) (hy2:y2.oneCell'=true) (hy4:y4.oneCell'=true) (hy5:y5.oneCell'=true) (hy6:y6.oneCell'=true) (hy7:y7.oneCell'=true) (hy8:y8.oneCell'=true) (hy9:y9.oneCell'=true) (hy10:y10.oneCell'=true) (w:World) :
  Calls Tryz.prog 36 #[.agg #[x0,x1,x2,.string ax,x4,x5,x6,x7,x8,x9,x10],.agg #[y0,y1,y2,.string ay,y4,y5,y6,y7,y8,y9,y10]] w fun e w'=>e = .returned (.int .i64 (Lib.compareBytes ax.data.toList ay.data.toList)) ∧ ∃ q os',w'=grow (w.drewN q) os':=by
 have mixed:Tryz.prog.follows .mixedOrders=true:=by kernel_rfl
 have t0:=Tryz.underlying0; have a0:=Tryz.isAgg0; have z0:=Tryz.sizeOf0; have v0:=Tryz.zeroValue0; have t3:=Tryz.underlying3; have a3:=Tryz.isAgg3; have z3:=Tryz.sizeOf3; have v3:=Tryz.zeroValue3; have t9:=Tryz.underlying9; have a9:=Tryz.isAgg9; have z9:=Tryz.sizeOf9; have v9:=Tryz.zeroValue9; have t50:=Tryz.underlying68; have a50:=Tryz.isAgg68; have z50:=Tryz.sizeOf68; have v50:=Tryz.zeroValue68
 have hcon:=fun W'=>Any.strings_Compare Tryz.lays106 ax ay W'
 change ∀ W',Calls Tryz.prog 37 _ _ _ at hcon
 have E23:∀ args w,(callFunc 37 args).run Tryz.prog w = .ok (.enter 37 args) w:=enters_of Tryz.func37 (by kernel_rfl) rfl
 have FG:=Tryz.func36
 have FN:Tryz.f36.ntmps=10:=rfl
 generalize Lib.compareBytes ax.data.toList ay.data.toList=r at hcon ⊢
 go_enter FG,FN
 go_wp2_with (go_at_fn 37; refine (hcon _).mono ?_; rintro e w' ⟨rfl,rfl⟩)
 go_ret
 exact ⟨rfl,0,_,by rw [alloc_eq_grow,alloc_eq_grow,grow_grow]; rfl⟩
end Go.Proofs

namespace Go.Proofs.QV
open Go Go.Sort Go.Lib
open _root_.List renaming nil_append → ju, length_nil → je
open _root_.Option.some renaming injEq → j8
open _root_.Prod.mk renaming injEq → jb
open Out renaming andThenB → j9, andThen → ja
set_option linter.unusedVariables false
set_option maxRecDepth 100000
def j6Y:List CT:=[.i .i64,.b,.s,.s,.sl 9,.sl 135,.sl 140,.sl 143,.sl 102,.b,.sl 146]
theorem j9f {ty:Nat → Option TI} {w:World} {x:List DC} {v:List Value} {F:List Nat} (h:RdL ty w j6Y x v F):v[3]? = some (.string ⟨(nmD 3 x).toArray⟩):=by
 unfold j6Y at h
 cases h with
 | cons _ _ _ _ _ _ _ _ _ h =>
 cases h with
 | cons _ _ _ _ _ _ _ _ _ h =>
 cases h with
 | cons _ _ _ _ _ _ _ _ _ h =>
 cases h with
 | cons _ _ _ _ _ _ _ _ h3 h =>
 cases h3 with
 | s l=>rfl
theorem j8n {ty:Nat → Option TI} {w:World} (blk size:Nat):CmpLays Tryz.prog 36 #[] (El.v (ty:=ty) (w:=w) (cts:=j6Y)) 11 (fun x y=>compareBytes (nmD 3 x.d) (nmD 3 y.d)) blk 0 size w:=by
 intro m os dk _ x y
 have hx:=j9f x.rd
 have hy:=j9f y.rd
 have lx:=(RdL.length x.rd).1
 have ly:=(RdL.length y.rd).1
 have ox:=RdL.one x.rd
 have oy:=RdL.one y.rd
 generalize x.v=u at *
 generalize y.v=t at *
 generalize sortWorldK (El.v (ty:=ty) (w:=w) (cts:=j6Y)) 11 w blk 0 m dk os=W
 match u,lx with
 | [x0,x1,x2,x3,x4,x5,x6,x7,x8,x9,x10],_ =>
 match t,ly with
 | [y0,y1,y2,y3,y4,y5,y6,y7,y8,y9,y10],_ =>
 obtain rfl:x3=_:=Option.some.inj hx
 obtain rfl:y3=_:=Option.some.inj hy
 exact cmpDef_calls x0 x1 x2 x4 x5 x6 x7 x8 x9 x10 y0 y1 y2 y4 y5 y6 y7 y8 y9 y10 _ _ (ox _ (by simp)) (ox _ (by simp)) (ox _ (by simp)) (ox _ (by simp)) (ox _ (by simp)) (ox _ (by simp)) (ox _ (by simp)) (ox _ (by simp)) (ox _ (by simp)) (ox _ (by simp)) (oy _ (by simp)) (oy _ (by simp)) (oy _ (by simp)) (oy _ (by simp)) (oy _ (by simp)) (oy _ (by simp)) (oy _ (by simp)) (oy _ (by simp)) (oy _ (by simp)) (oy _ (by simp)) W
theorem jaf {G:Glob} {ty:Nat → Option TI} (hty:∀ te,ty 68=some te → te.cts=j6Y):j4W Tryz.prog G ty 35 (j8N 68 36 3) :=
 j9z hty (fun w blk cap d hH hb hs=>by
  simp only [jN] at hs
  exact sortStable_calls 11 Tryz.isAgg68 Tryz.sizeOf68 El.v (fun x y=>compareBytes (nmD 3 x.d) (nmD 3 y.d)) 36 #[] blk 0 cap d w (enters_of Tryz.func36 (by kernel_rfl) rfl) (j8n blk d.size)
   ⟨fun x=>(RdL.length x.rd).1,fun x=>RdL.one x.rd,hH,hb⟩ (jad fun x:El ty w j6Y=>nmD 3 x.d) (by omega))
  (fun fv w=>sortStableNil_calls fv w)
set_option linter.unusedSimpArgs false
def zy (ty:Nat → Option TI) (tv:Nat) (cts:List CT) (t:Nat) (st:St):Out :=
 match st.tm.getD t (.one .undef) with
 | .one (.ptr id 0) =>
  (match ji st.H id with
  | .live (.var tv' cs) =>
   (match Nat.beq tv' tv with
   | true =>
    (match kE ty st.H (cts.map CT.k1) cs with
    | some (v,_)=>.ret v
    | none=>.fail)
   | false=>.fail)
  | _=>.fail)
 | _=>.fail
def j08 (cfg:Cfg) (fi:FI) (tv:Nat) (cts:List CT) (t:Nat) (h:Hint) (v:List DC) (k:Nat):Out :=
 exec cfg.ty cfg.fn (jC cfg k) 0 k (zy cfg.ty tv cts t) (fi.body h) (fun _=>none) (pd fi h v) (zy cfg.ty tv cts t)
noncomputable def ja8 (cfg:Cfg) (fi:FI) (tv:Nat) (cts:List CT) (t:Nat) (h:Hint) (v:List DC):Out:=lim (j08 cfg fi tv cts t h v)
theorem ZI (cfg:Cfg) (fi:FI) (tv:Nat) (cts:List CT) (t:Nat) (h:Hint) (v:List DC) :
  kT (j08 cfg fi tv cts t h v) (yc (pw cfg) jO cfg.ty cfg.fn 0 (zy cfg.ty tv cts t) (fi.body h) (fun _=>none) (pd fi h v) (zy cfg.ty tv cts t)) :=
 kT.exec (ty:=cfg.ty) (fn:=cfg.fn) (mm:=0) (rt:=zy cfg.ty tv cts t) (fun f h v=>V8 cfg f h v) (fi.body h) (fun _=>none) (pd fi h v) (K:=fun _=>zy cfg.ty tv cts t) (fun st=>kT.const _)
theorem j9d (cfg:Cfg) (fi:FI) (tv:Nat) (cts:List CT) (t:Nat) (h:Hint) (v:List DC) :
  ja8 cfg fi tv cts t h v=yc (pw cfg) jO cfg.ty cfg.fn 0 (zy cfg.ty tv cts t) (fi.body h) (fun _=>none) (pd fi h v) (zy cfg.ty tv cts t) :=
 (ZK.lim (ZI cfg fi tv cts t h v).1).uniq (ZI cfg fi tv cts t h v).2
theorem j8v {cfg:Cfg} {fi:FI} {tv:Nat} {cts:List CT} {t:Nat} {h:Hint} {v r:List DC} (e:ja8 cfg fi tv cts t h v = .ret r):∃ k,j08 cfg fi tv cts t h v k = .ret r:=by
 obtain ⟨N,hN⟩:=ZK.lim (ZI cfg fi tv cts t h v).1
 exact ⟨N,(hN N (Nat.le_refl _)).trans e⟩
theorem j3g (ty:Nat → Option TI) (tv:Nat) (cts:List CT) (t:Nat) (st:St):(∀ v,zy ty tv cts t st ≠ .norm v) ∧ ∀ id v,zy ty tv cts t st ≠ .ex id v:=by
 unfold zy
 constructor
 ·intro v
  repeat' split
  all_goals simp
 ·intro id v
  repeat' split
  all_goals simp
section
variable {P:Program} {G:Glob}
theorem j8q {cfg:Cfg} (hty:p6 P cfg.ty) (hm:P.follows .mixedOrders=true) (hfn:∀ f fi,cfg.fn f=some fi → FnOk P G cfg.ty f fi) {f:Nat} {fi:FI} {fd:Func} (h1:P.funcs[f]? = some fd) (h2:∀ h,fd.body=some (fi.body h).code) (h3:fd.ntmps=fi.ntmps)
  {t:Nat} (h4:fd.results.toList=[.tmp t]) {tv:Nat} {cts:List CT} {h:Hint} {k:Nat} {v r:List DC} (e:j08 cfg fi tv cts t h v k = .ret r) {A:An} {g:Gh} {vals:Array Value} {w:World} (hA:AOk G A)
  (hr:Rel cfg.ty A g (pd fi h v) { tmps:=vals ++ Array.replicate (fi.ntmps - vals.size) undef,defers:=[] } w) (hvs:vals.size=h.tm.length) (hw:A.w0=w) (hmm:A.m=0) :
  Calls P f vals w fun
   | .returned rv,w'=>∃ (b:Nat) (us:List Value) (gr:Gh) (H0 H1:List HS),rv = .pointer (some ⟨b,0,none⟩) ∧ w'.heap[b]? = some (.cells us.toArray tv (0,0)) ∧ (∀ u ∈ us,u.oneCell'=true) ∧ FL cfg.ty A gr H0 H1 w' r 0 (cts.map CT.k1) us ∧
     ¬ gr.I b ∧ (A.w0.heap.size ≤ b ∨ A.Pv b) ∧ (∀ b,gr.I b → b < w'.heap.size ∧ (A.I0 b ∨ A.w0.heap.size ≤ b ∨ A.Pm b)) ∧ Keep A w'
   | _,_=>False:=by
 unfold j08 at e
 refine calls_of_wp h1 (h2 h) ?_
 rw [h3]
 refine wp_mono (yp hty (ZH hfn (K3 hty hm hfn k) A hA) hm hmm (fun st v=>(j3g _ _ _ _ st).1 v) (fun st id v=>(j3g _ _ _ _ st).2 id v) (fi.body h) _ _ _ (.ret r) g _ w hr e (by simp)) fun ex a' w' hq=>?_
 have fin:∀ g' st',Rel cfg.ty A g' st' a' w' → zy cfg.ty tv cts t st' = .ret r → a'.defers=[] ∧ ∃ v,(results fd a'.tmps).run P w' = .ok v w' ∧
   ∃ (b:Nat) (us:List Value) (gr:Gh) (H0 H1:List HS),v = .pointer (some ⟨b,0,none⟩) ∧ w'.heap[b]? = some (.cells us.toArray tv (0,0)) ∧ (∀ u ∈ us,u.oneCell'=true) ∧ FL cfg.ty A gr H0 H1 w' r 0 (cts.map CT.k1) us ∧
     ¬ gr.I b ∧ (A.w0.heap.size ≤ b ∨ A.Pv b) ∧ (∀ b,gr.I b → b < w'.heap.size ∧ (A.I0 b ∨ A.w0.heap.size ≤ b ∨ A.Pm b)) ∧ Keep A w':=by
  intro g' st' hr' hk
  obtain ⟨tm',H'⟩:=st'
  unfold zy at hk
  dsimp only at hk
  have hg:=hr'.getD t
  split at hk
  ·rename_i id hid
   split at hk
   ·rename_i tv' cs hv
    split at hk
    ·rename_i htv
     have htv:=Nat.eq_of_beq_eq_true htv
     subst htv
     split at hk
     ·rename_i v' H1 hn
      simp only [Out.ret.injEq] at hk
      subst hk
      rw [hid] at hg
      obtain ⟨z1,z2,z3⟩:=hg
      have hp:=z3 ⟨_,_,hv⟩
      obtain ⟨us,o1,o2,o3,o4⟩:=hr'.ob id _ hv
      obtain ⟨g1,r1,s1,f1,ap,l1,_⟩:=QY (H0:=H') [] [] hr' (fun _ h=>h) (Yp hr') (j12 hr') o2 hn
      simp only [ju,List.append_nil,je] at f1
      obtain ⟨t',cs',hv1⟩:=s1.var id ⟨_,_,hv⟩
      refine ⟨hr'.df,a'.tmps.getD t undef,ZW (vs:=[a'.tmps.getD t undef]) (by rw [h4]; rfl),g'.blk id,us,g1,H',H1,hp,o1,o4,f1,?_,hr'.ow id _ _ hv rfl,fun b hb=>⟨r1.lt b hb,r1.inI b hb⟩,hr'.keep⟩
      have:=pc r1 hv1 (b:=g1.blk id) rfl
      rwa [s1.blk] at this
     ·simp at hk
    ·simp at hk
   ·simp at hk
  ·simp at hk
 cases ex with
 | normal =>
  obtain ⟨g',st',hr',hk⟩:=hq
  exact fin g' st' hr' hk
 | ret =>
  obtain ⟨g',st',hr',hk⟩:=hq
  exact fin g' st' hr' hk
 | exit id =>
  obtain ⟨_,_,_,hk,_⟩:=hq
  simp at hk
 | goto l=>exact hq.elim
 | panic c=>exact hq.elim
 | outgrown=>exact hq.elim
def pkK:PK → KC
 | .ct c=>.one c.k1
 | .ag ts=>.agg (ts.map CT.k1)
 | _=>.one .u
def bsz:Out → Nat
 | .ret _=>0
 | _=>jN
def X0:Out → List DC
 | .ret r=>r
 | _=>[]
theorem j40:∀ {ps:List PK} {cs:List C} {n r:Nat} {l:List KC},ps.all PK.plain=true → qo n r ps cs=some l → l=ps.map pkK
 | [],[],n,r,l,_,e=>by
  simp only [qo,j8] at e
  exact e.symm
 | .ct c :: ps,x :: cs,n,r,l,h,e=>by
  simp only [qo] at e
  split at e
  ·rename_i l' hl
   simp only [j8] at e
   subst e
   rw [j40 (by simpa [PK.plain] using h) hl]
   rfl
  ·simp at e
 | .ag ts :: ps,x :: cs,n,r,l,h,e=>by
  simp only [qo] at e
  split at e
  ·rename_i l' hl
   simp only [j8] at e
   subst e
   rw [j40 (by simpa [PK.plain] using h) hl]
   rfl
  ·simp at e
 | .mv _ :: _,_,_,_,_,h,_=>by simp [PK.plain] at h
 | .ptr :: _,_,_,_,_,h,_=>by simp [PK.plain] at h
 | .fn :: _,_,_,_,_,h,_=>by simp [PK.plain] at h
 | [],_ :: _,_,_,_,_,e=>by simp [qo] at e
 | .ct _ :: _,[],_,_,_,_,e=>by simp [qo] at e
 | .ag _ :: _,[],_,_,_,_,e=>by simp [qo] at e
def j7J (ty:Nat → Option TI) (pk:List PK) (R:List DC → Out) (tv:Nat) (cts:List CT) (base:Nat) (H:List HS) (args:List C):Option (Nat × List HS × C) :=
 match qo 0 0 pk args with
 | some kcs =>
  (match yG (kcs.map KC.data) args with
  | some p =>
   (match kE ty H (kcs.flatMap fun k=>k.data.kinds) p with
   | some (v,H1) =>
    (match ji H1 base,({ tm:=kcs,ob:=[] }:Hint).ok with
    | .free,true=>some (bsz (R v),jv H1 base (.live (.var tv (mkL (X0 (R v)) 0 (cts.map CT.k1)))),.one (.ptr base 0))
    | _,_=>none)
   | none=>none)
  | none=>none)
 | none=>none
theorem ja1 {cfg:Cfg} (hty:p6 P cfg.ty) (hm:P.follows .mixedOrders=true) (hfn:∀ f fi,cfg.fn f=some fi → FnOk P G cfg.ty f fi) {f:Nat} {fi:FI} {fd:Func} (h1:P.funcs[f]? = some fd) (h2:∀ h,fd.body=some (fi.body h).code) (h3:fd.ntmps=fi.ntmps)
  {t:Nat} (h4:fd.results.toList=[.tmp t]) (hpl:fi.pk.all PK.plain=true) {tv:Nat} {cts:List CT} {R:List DC → Out} (hRR:∀ v r,R v = .ret r → ∃ k,j08 cfg fi tv cts t ⟨fi.pk.map pkK,[]⟩ v k = .ret r):j4W P G cfg.ty f (j7J cfg.ty fi.pk R tv cts):=by
 intro A g tm H H' a w base n args vals c hA h hl hc e hn
 unfold j7J at e
 split at e
 ·rename_i kcs e1
  split at e
  ·rename_i p e3
   split at e
   ·rename_i v0 H1 e5
    split at e
    ·rename_i hfree hok
     simp only [j8,jb] at e
     obtain ⟨rfl,rfl,rfl⟩:=e
     have hR:∃ r,R v0 = .ret r:=by
      cases hx:R v0 with
      | ret r=>exact ⟨r,rfl⟩
      | _=>rw [hx] at hn; exact absurd hn (Nat.lt_irrefl _)
     obtain ⟨r,hR⟩:=hR
     obtain ⟨k,hk⟩:=hRR _ _ hR
     rw [← j40 hpl e1] at hk
     rw [hR]
     simp only [X0]
     obtain ⟨hidn,hct⟩:=Jz hpl e1
     obtain ⟨g1,Ac,gc,r1,s1,hbeg,hI0,hplain,hrel,hlen⟩:=j4i h (fi:=fi) (vals:=vals) (kcs:=kcs) (kos:=[]) (p:=p) (q:=[]) (v0:=v0) (H1:=H1) (nr:=0) hl hc (by rw [hidn]; exact e1) (by rw [hidn]; rfl) e3 (by rw [hidn]; rfl) (by simpa using e5) (by rw [hidn]; rfl) (by simpa using hok)
     rw [hidn] at hbeg
     have hPm:=hplain hpl
     have hPv:∀ b,¬ Ac.Pv b:=fun b hb=>by
      obtain ⟨id,hid,_⟩:=hbeg.Pv b hb
      simp at hid
     have hw0:=hbeg.w0
     have hAc:AOk G Ac:=by
      refine ⟨?_,fun b hb=>?_⟩
      ·rw [hw0]
       refine G.dep A.w0 w (fun b hb=>?_) hA.1
       obtain ⟨z1,z2,z3⟩:=hA.2 b hb
       exact h.keep.block b z1 z2 z3
      ·obtain ⟨z1,z2,z3⟩:=hA.2 b hb
       exact ⟨by rw [hw0]; exact Nat.lt_of_lt_of_le z1 h.keep.size,hPv b,hPm b⟩
     have hcalls:=j8q hty hm hfn h1 h2 h3 h4 hk (vals:=vals.toArray) hAc hrel (by simpa using hlen) hw0 hbeg.m
     refine Calls.mono hcalls fun en w' hen=>?_
     cases en with
     | returned rv =>
      obtain ⟨b,us,gr,H0r,H1r,rfl,o1,o4,f1,hnI,how,hI,hkeep⟩:=hen
      have hsz:w.heap.size ≤ w'.heap.size:=by have:=hkeep.size; rwa [hw0] at this
      have hbw:w.heap.size ≤ b:=by
       rcases how with hh | hh
       ·rwa [hw0] at hh
       ·exact absurd hh (hPv b)
      have hbl:∀ x,x < w.heap.size → w'.heap[x]? = w.heap[x]?:=fun x hx=>by
       have:=hkeep.block x (by rw [hw0]; exact hx) (hPv x) (hPm x)
       rwa [hw0] at this
      have hIr:∀ x,gr.I x → x < w.heap.size → g1.I x:=fun x hx hlt=>by
       rcases (hI x hx).2 with hh | hh | hh
       ·rwa [hI0] at hh
       ·rw [hw0] at hh; omega
       ·exact absurd hh (hPm x)
      let g2:Gh:={ g1 with I:=fun x=>g1.I x ∨ gr.I x }
      have hch:Ch g1 g2 H1 H1 w w':=⟨fun x hx=>.inl hx,fun x hx=>hbl x (r1.lt x hx),fun _ hn=>hn,fun _ _ hr=>⟨hr,rfl⟩,fun _ _ hr=>⟨hr,rfl⟩⟩
      have hosame:∀ i o,jK g2 i o=jK g1 i o:=fun i o=>zu rfl rfl rfl i o
      have hold:∀ i o x,ji H1 i = .live o → jK g1 i o x → x < w.heap.size ∧ ¬ g2.I x:=fun i o x hi hx=>by
       have hlt:=r1.oblk_lt hi hx
       have hn1:=pc r1 hi hx
       refine ⟨hlt,fun hh=>?_⟩
       rcases hh with hh | hh
       ·exact hn1 hh
       ·exact hn1 (hIr x hh hlt)
      have r2:Rel cfg.ty A g2 ⟨tm,H1⟩ a w':=by
       refine r1.ch hch (fun id o ho=>OR.mono hch rfl rfl rfl (fun x hx=>⟨hbl x (hold id o x ho hx).1,(hold id o x ho hx).2⟩) (r1.ob id o ho)) (fun i j o p x hij hi hj hx hx'=>?_) (fun x hx=>?_) (fun x hx=>?_) (fun id o x ho hx=>?_) (fun j hj hv=>r1.pb j hj hv) ?_
       ·rw [hosame] at hx hx'
        exact r1.sep i j o p x hij hi hj hx hx'
       ·rcases hx with hx | hx
        ·exact Nat.lt_of_lt_of_le (r1.lt x hx) hsz
        ·exact (hI x hx).1
       ·rcases hx with hx | hx
        ·exact r1.inI x hx
        ·rcases (hI x hx).2 with hh | hh | hh
         ·rw [hI0] at hh; exact r1.inI x hh
         ·rw [hw0] at hh; exact .inr (.inl (Nat.le_trans h.keep.size hh))
         ·exact absurd hh (hPm x)
       ·rw [hosame] at hx
        exact r1.ow id o x ho hx
       ·exact r1.keep.trans (by rw [hkeep.os,hw0]) (by rw [hkeep.tape,hw0]) (by rw [hkeep.output,hw0]) hsz fun x hx _ _=>hbl x (Nat.lt_of_lt_of_le hx r1.keep.size)
      let g3:Gh:={ I:=g2.I,blk:=fun i=>if i=base then b else g2.blk i,val:=g2.val,dom:=g2.dom }
      have hb3:g3.blk base=b:=by simp [g3]
      have hlt:=kB hfree
      have hnb:¬ g2.I b:=fun hh=>by
       rcases hh with hh | hh
       ·exact absurd (r1.lt b hh) (by omega)
       ·exact hnI hh
      have hks:(cts.map CT.k1).map K1.data=cts.map CT.k1:=JY fun k hk=>by
       obtain ⟨c,_,rfl⟩:=List.mem_map.1 hk
       exact ⟨c,rfl⟩
      have hkc:∀ {i:Nat} {k:K1},(cts.map CT.k1)[i]? = some k → ∃ c:CT,k=c.k1:=fun {i k} hk=>by
       obtain ⟨c,_,hc⟩:=List.mem_map.1 (List.mem_of_getElem? hk)
       exact ⟨c,hc.symm⟩
      have hu:=r2.upd (id:=base) (x:=.live (.var tv (mkL r 0 (cts.map CT.k1)))) (g':=g3) (w':=w') hlt (by simp) rfl (fun i hi=>by simp [g3,hi]) (fun hn=>absurd hn (jV hfree)) (fun hn=>absurd hn (jV hfree))
       (fun x hx=>rfl) (Nat.le_refl _)
       (fun hch3 p hp=>by
        obtain rfl:Obj'.var tv (mkL r 0 (cts.map CT.k1))=p:=by simpa using hp
        refine ⟨⟨us,by rw [hb3]; exact o1,?_,by rw [hb3]; exact hnb,o4⟩,fun x hx=>?_⟩
        ·refine VZ (g:=gr) (g':=g3) (fun x hx=>.inr hx) (by rw [hks]; exact f1) (fun i e id u h1 h2=>?_) (fun i m off u h1 h2=>?_) (fun i f caps u h1 h2=>?_)
         ·obtain ⟨c,hc⟩:=hkc h1
          cases c <;> simp [CT.k1] at hc
         ·obtain ⟨c,hc⟩:=hkc h1
          cases c <;> simp [CT.k1] at hc
         ·obtain ⟨c,hc⟩:=hkc h1
          cases c <;> simp [CT.k1] at hc
        ·have hx:g3.blk base=x:=hx
         rw [hb3] at hx
         subst hx
         refine ⟨hnb,.inl (Nat.le_trans h.keep.size hbw),fun i p _ hi hp'=>?_⟩
         rw [hosame] at hp'
         have:=(hold i p b hi hp').1
         omega)
       (fun hm _=>absurd (r2.nfm base hm) (jV hfree)) r2.keep
      exact ⟨_,g3,rfl,hu.1,fun x hx=>.inl (s1.I x hx),⟨ph (jm _ hlt),rfl,fun _=>by rw [hb3]⟩⟩
     | panicked ch=>exact hen.elim
     | outgrown=>exact hen.elim
    ·simp at e
   ·simp at e
  ·simp at e
 ·simp at e
theorem j8s {cfg:Cfg} (hty:p6 P cfg.ty) (hm:P.follows .mixedOrders=true) (hfn:∀ f fi,cfg.fn f=some fi → FnOk P G cfg.ty f fi) {f:Nat} {fi:FI} (hfi:FnOk P G cfg.ty f fi) (hp:fi.prim=none)
  {t:Nat} (h4:fi.res=[.tmp t]) (hpl:fi.pk.all PK.plain=true) {tv:Nat} {cts:List CT} {R:List DC → Out} (hRR:∀ v r,R v = .ret r → ∃ k,j08 cfg fi tv cts t ⟨fi.pk.map pkK,[]⟩ v k = .ret r) :
  FnOk P G cfg.ty f { fi with stf:=some (j7J cfg.ty fi.pk R tv cts) }:=by
 obtain ⟨fd,h1,_,_,h2⟩:=hfi.ex
 obtain ⟨k1,k2,k3⟩:=h2 hp
 exact ⟨hfi.ex,hfi.prim,hfi.mark,fun q' e=>by (cases e; exact ja1 hty hm hfn h1 k1 k2 (k3.trans h4) hpl hRR)⟩
end
abbrev Stp:=(Nat → List DC → Out) → Nat → List DC → Out
def zc (L:List (Nat × Nat × Hint × Stp)):Nat → Nat → List DC → Out
 | 0,_,_=>.fail
 | n + 1,i,v =>
  match qd i L with
  | some x=>x.2.2 (zc L n) n v
  | none=>.fail
def jT (cfg:Cfg) (L:List (Nat × Nat × Hint × Stp)) (n i:Nat) (v:List DC):Out :=
 match qd i L with
 | some x=>jC cfg n x.1 x.2.1 v
 | none=>.fail
def j09 (cfg:Cfg) (L:List (Nat × Nat × Hint × Stp)) (x:Nat × Nat × Hint × Stp):Prop:=∀ n v,jC cfg (n + 1) x.2.1 x.2.2.1 v=x.2.2.2 (jT cfg L n) n v
theorem j5P {cfg:Cfg} {L:List (Nat × Nat × Hint × Stp)}:∀ x ∈ ([]:List (Nat × Nat × Hint × Stp)),j09 cfg L x:=fun _ h=>by cases h
theorem jq {cfg:Cfg} {L l:List (Nat × Nat × Hint × Stp)} {y:Nat × Nat × Hint × Stp} (h:j09 cfg L y) (hl:∀ x ∈ l,j09 cfg L x):∀ x ∈ y :: l,j09 cfg L x:=fun x hx=>by
 rcases List.mem_cons.1 hx with rfl | hx
 ·exact h
 ·exact hl x hx
theorem j5D {cfg:Cfg} {L:List (Nat × Nat × Hint × Stp)} (h:∀ x ∈ L,j09 cfg L x):∀ n,zc L n=jT cfg L n
 | 0=>by
  funext i v
  unfold jT
  cases qd i L with
  | none=>rfl
  | some x=>rfl
 | n + 1=>by
  funext i v
  unfold jT
  rw [zc]
  cases hx:qd i L with
  | none=>rfl
  | some x =>
   dsimp only
   rw [j5D h n,h _ (Yz hx) n v]
theorem j8W {cfg:Cfg} {L:List (Nat × Nat × Hint × Stp)} (h:∀ x ∈ L,j09 cfg L x) {n i f:Nat} {hn:Hint} {v r:List DC} (hf:(qd i L).map (fun x=>(x.1,x.2.1))=some (f,hn)) (e:zc L n i v = .ret r):pw cfg f hn v = .ret r:=by
 rw [j5D h] at e
 unfold jT at e
 cases hx:qd i L with
 | none=>rw [hx] at hf; simp at hf
 | some x =>
  rw [hx] at hf e
  simp only [Option.map_some,j8,jb] at hf
  obtain ⟨rfl,rfl⟩:=hf
  dsimp only at e
  refine (V8 cfg x.1 x.2.1 v).2.uniq ⟨n,fun k hk=>?_⟩
  have key:∀ j,jC cfg (n + j) x.1 x.2.1 v = .ret r:=by
   intro j
   induction j with
   | zero=>exact e
   | succ j ih =>
    rcases Qd cfg (n + j) x.1 x.2.1 v with hm | hm
    ·rw [ih] at hm; simp at hm
    ·exact hm.trans ih
  have:=key (k - n)
  rwa [show n + (k - n)=k by omega] at this
def zI (R:Nat → List DC → Out) (n:Nat) (a:List DC):Out :=
 (R 35 [.s ((a.getD 0 d0).ss)]).bindR fun r1 =>
 .ret [.sl ((r1.getD 0 d0).ll),.i (0:Int),.i (((a.getD 0 d0).ss).length:Int),.i ((r1.getD 1 d0).ii),.i ((r1.getD 2 d0).ii)]
def jI (R:Nat → List DC → Out) (n:Nat):List DC → Out:=fun v1 =>
 if (decide ((v1.getD 2 d0).ii < (((v1.getD 0 d0).ss).length:Int)))=true then
 j9 ((R 36 [.s ((v1.getD 0 d0).ss),.i ((v1.getD 2 d0).ii)]).bindR fun r2 =>
 if (decide ((r2.getD 0 d0).ii < (0:Int)))=true then
 .ret [.sl ((v1.getD 1 d0).ll),.i (2:Int),.i ((v1.getD 2 d0).ii)]
 else
 .norm [.s ((v1.getD 0 d0).ss),.sl ((v1.getD 1 d0).ll),.i (IntKind.i64.wrap ((v1.getD 2 d0).ii + (r2.getD 1 d0).ii)),.i ((v1.getD 3 d0).ii),.i ((v1.getD 4 d0).ii)]) 1 fun v3 =>
 .norm [.s ((v3.getD 0 d0).ss),.sl ((v3.getD 1 d0).ll),.i ((v3.getD 2 d0).ii),.i ((v3.getD 3 d0).ii),.i ((v3.getD 4 d0).ii)]
 else
 .ex 0 [.s ((v1.getD 0 d0).ss),.sl ((v1.getD 1 d0).ll),.i ((v1.getD 3 d0).ii),.i ((v1.getD 4 d0).ii)]
def jF (R:Nat → List DC → Out) (n:Nat):List DC → Out:=fun v6 =>
 if (decide ((v6.getD 3 d0).ii < (((v6.getD 0 d0).ss).length:Int)))=true then
 j9 ((R 38 [.s ((v6.getD 0 d0).ss),.i ((v6.getD 3 d0).ii)]).bindR fun r7 =>
 ja (if ((r7.getD 4 d0).ii == (0:Int))=true then
 .norm [.s ((v6.getD 0 d0).ss),.sl ((v6.getD 1 d0).ll),.sl ((v6.getD 2 d0).ll),.i ((v6.getD 3 d0).ii),.i ((r7.getD 3 d0).ii),.i ((r7.getD 4 d0).ii),.b ((((v6.getD 2 d0).ll).length:Int) == (2500:Int)),.i ((v6.getD 4 d0).ii),.i ((v6.getD 5 d0).ii),.i ((r7.getD 0 d0).ii),.s ((r7.getD 1 d0).ss),.i ((r7.getD 2 d0).ii)]
 else
 .norm [.s ((v6.getD 0 d0).ss),.sl ((v6.getD 1 d0).ll),.sl ((v6.getD 2 d0).ll),.i ((v6.getD 3 d0).ii),.i ((r7.getD 3 d0).ii),.i ((r7.getD 4 d0).ii),.b false,.i ((v6.getD 4 d0).ii),.i ((v6.getD 5 d0).ii),.i ((r7.getD 0 d0).ii),.s ((r7.getD 1 d0).ss),.i ((r7.getD 2 d0).ii)]) fun v8 =>
 ja (if (v8.getD 6 d0).bb=true then
 .norm [.s ((v8.getD 0 d0).ss),.sl ((v8.getD 1 d0).ll),.sl ((v8.getD 2 d0).ll),.i ((v8.getD 3 d0).ii),.i ((v8.getD 4 d0).ii),.i (6:Int),.i ((v8.getD 7 d0).ii),.i ((v8.getD 8 d0).ii),.i ((v8.getD 9 d0).ii),.s ((v8.getD 10 d0).ss),.i ((v8.getD 11 d0).ii)]
 else
 .norm [.s ((v8.getD 0 d0).ss),.sl ((v8.getD 1 d0).ll),.sl ((v8.getD 2 d0).ll),.i ((v8.getD 3 d0).ii),.i ((v8.getD 4 d0).ii),.i ((v8.getD 5 d0).ii),.i ((v8.getD 7 d0).ii),.i ((v8.getD 8 d0).ii),.i ((v8.getD 9 d0).ii),.s ((v8.getD 10 d0).ss),.i ((v8.getD 11 d0).ii)]) fun v9 =>
 if ((v9.getD 5 d0).ii != (0:Int))=true then
 .ret [.sl ((v9.getD 1 d0).ll),.i ((v9.getD 5 d0).ii),.i ((v9.getD 3 d0).ii)]
 else
 if ((v9.getD 2 d0).ll).length + [[DC.i ((v9.getD 8 d0).ii),DC.s ((v9.getD 9 d0).ss),DC.i ((v9.getD 10 d0).ii)]].length < jN then
 .norm [.s ((v9.getD 0 d0).ss),.sl ((v9.getD 1 d0).ll),.sl (((v9.getD 2 d0).ll) ++ [[DC.i ((v9.getD 8 d0).ii),DC.s ((v9.getD 9 d0).ss),DC.i ((v9.getD 10 d0).ii)]]),.i ((v9.getD 4 d0).ii),.i ((v9.getD 6 d0).ii),.i ((v9.getD 7 d0).ii)]
 else
 .fail) 3 fun v10 =>
 (R 37 [.s ((v10.getD 0 d0).ss),.i ((v10.getD 3 d0).ii)]).bindR fun r11 =>
 .norm [.s ((v10.getD 0 d0).ss),.sl ((v10.getD 1 d0).ll),.sl ((v10.getD 2 d0).ll),.i ((r11.getD 0 d0).ii),.i ((v10.getD 4 d0).ii),.i ((v10.getD 5 d0).ii)]
 else
 .ex 2 [.sl ((v6.getD 2 d0).ll),.i ((v6.getD 4 d0).ii),.i ((v6.getD 5 d0).ii)]
def qi (R:Nat → List DC → Out) (n:Nat) (a:List DC):Out :=
 if (decide ((((a.getD 0 d0).ss).length:Int) > (12000:Int)))=true then
 .ret [.sl [],.i (1:Int),.i (0:Int)]
 else
 j9 (jG (jI R n) n [.s ((a.getD 0 d0).ss),.sl [],.i (0:Int),.i (0:Int),.i (0:Int)]) 0 fun v4 =>
 (R 37 [.s ((v4.getD 0 d0).ss),.i (0:Int)]).bindR fun r5 =>
 j9 (jG (jF R n) n [.s ((v4.getD 0 d0).ss),.sl ((v4.getD 1 d0).ll),.sl [],.i ((r5.getD 0 d0).ii),.i ((v4.getD 2 d0).ii),.i ((v4.getD 3 d0).ii)]) 2 fun v12 =>
 .ret [.sl ((v12.getD 0 d0).ll),.i (0:Int),.i (0:Int)]
def j0X (R:Nat → List DC → Out) (n:Nat):List DC → Out:=fun v8 =>
 if (decide ((v8.getD 4 d0).ii < (v8.getD 2 d0).ii))=true then
 j9 (if 0 ≤ (IntKind.i64.wrap ((v8.getD 1 d0).ii + (v8.getD 4 d0).ii)) ∧ (IntKind.i64.wrap ((v8.getD 1 d0).ii + (v8.getD 4 d0).ii)) < (((v8.getD 0 d0).ss).length:Int) then
 ja (if (decide ((IntKind.i64.wrap ((((v8.getD 0 d0).ss).getD (IntKind.i64.wrap ((v8.getD 1 d0).ii + (v8.getD 4 d0).ii)).toNat 0).toNat:Int)) < (128:Int)))=true then
 .norm [.s ((v8.getD 0 d0).ss),.i ((v8.getD 1 d0).ii),.i ((v8.getD 2 d0).ii),.i ((v8.getD 3 d0).ii),.i ((v8.getD 4 d0).ii),.i (IntKind.i64.wrap ((((v8.getD 0 d0).ss).getD (IntKind.i64.wrap ((v8.getD 1 d0).ii + (v8.getD 4 d0).ii)).toNat 0).toNat:Int)),.b true]
 else
 .norm [.s ((v8.getD 0 d0).ss),.i ((v8.getD 1 d0).ii),.i ((v8.getD 2 d0).ii),.i ((v8.getD 3 d0).ii),.i ((v8.getD 4 d0).ii),.i (IntKind.i64.wrap ((((v8.getD 0 d0).ss).getD (IntKind.i64.wrap ((v8.getD 1 d0).ii + (v8.getD 4 d0).ii)).toNat 0).toNat:Int)),.b (decide ((IntKind.i64.wrap ((((v8.getD 0 d0).ss).getD (IntKind.i64.wrap ((v8.getD 1 d0).ii + (v8.getD 4 d0).ii)).toNat 0).toNat:Int)) > (191:Int)))]) fun v9 =>
 if (v9.getD 6 d0).bb=true then
 .ret [.i (-1:Int),.i (0:Int)]
 else
 .norm [.s ((v9.getD 0 d0).ss),.i ((v9.getD 1 d0).ii),.i ((v9.getD 2 d0).ii),.i (IntKind.i64.wrap ((IntKind.i64.wrap ((IntKind.i64.wrap ((v9.getD 3 d0).ii * (64:Int))) + (v9.getD 5 d0).ii)) - (128:Int))),.i ((v9.getD 4 d0).ii)]
 else
 .fail) 2 fun v10 =>
 .norm [.s ((v10.getD 0 d0).ss),.i ((v10.getD 1 d0).ii),.i ((v10.getD 2 d0).ii),.i ((v10.getD 3 d0).ii),.i (IntKind.i64.wrap ((v10.getD 4 d0).ii + (1:Int)))]
 else
 .ex 1 [.i ((v8.getD 2 d0).ii),.i ((v8.getD 3 d0).ii)]
def XC (R:Nat → List DC → Out) (n:Nat) (a:List DC):Out :=
 ja (if (decide ((a.getD 1 d0).ii < (0:Int)))=true then
 .norm [.s ((a.getD 0 d0).ss),.i ((a.getD 1 d0).ii),.b true]
 else
 .norm [.s ((a.getD 0 d0).ss),.i ((a.getD 1 d0).ii),.b (decide ((a.getD 1 d0).ii ≥ (((a.getD 0 d0).ss).length:Int)))]) fun v1 =>
 if (v1.getD 2 d0).bb=true then
 .ret [.i (-1:Int),.i (0:Int)]
 else
 if 0 ≤ (v1.getD 1 d0).ii ∧ (v1.getD 1 d0).ii < (((v1.getD 0 d0).ss).length:Int) then
 j9 (if (decide ((IntKind.i64.wrap ((((v1.getD 0 d0).ss).getD ((v1.getD 1 d0).ii).toNat 0).toNat:Int)) < (128:Int)))=true then
 .ret [.i (IntKind.i64.wrap ((((v1.getD 0 d0).ss).getD ((v1.getD 1 d0).ii).toNat 0).toNat:Int)),.i (1:Int)]
 else
 ja (if (decide ((IntKind.i64.wrap ((((v1.getD 0 d0).ss).getD ((v1.getD 1 d0).ii).toNat 0).toNat:Int)) ≥ (194:Int)))=true then
 .norm [.s ((v1.getD 0 d0).ss),.i ((v1.getD 1 d0).ii),.i (IntKind.i64.wrap ((((v1.getD 0 d0).ss).getD ((v1.getD 1 d0).ii).toNat 0).toNat:Int)),.b (decide ((IntKind.i64.wrap ((((v1.getD 0 d0).ss).getD ((v1.getD 1 d0).ii).toNat 0).toNat:Int)) < (224:Int)))]
 else
 .norm [.s ((v1.getD 0 d0).ss),.i ((v1.getD 1 d0).ii),.i (IntKind.i64.wrap ((((v1.getD 0 d0).ss).getD ((v1.getD 1 d0).ii).toNat 0).toNat:Int)),.b false]) fun v2 =>
 ja (if (v2.getD 3 d0).bb=true then
 .norm [.s ((v2.getD 0 d0).ss),.i ((v2.getD 1 d0).ii),.i (2:Int),.i (IntKind.i64.wrap ((v2.getD 2 d0).ii - (192:Int)))]
 else
 ja (if (decide ((v2.getD 2 d0).ii ≥ (224:Int)))=true then
 .norm [.s ((v2.getD 0 d0).ss),.i ((v2.getD 1 d0).ii),.i ((v2.getD 2 d0).ii),.b (decide ((v2.getD 2 d0).ii < (240:Int)))]
 else
 .norm [.s ((v2.getD 0 d0).ss),.i ((v2.getD 1 d0).ii),.i ((v2.getD 2 d0).ii),.b false]) fun v3 =>
 ja (if (v3.getD 3 d0).bb=true then
 .norm [.s ((v3.getD 0 d0).ss),.i ((v3.getD 1 d0).ii),.i (3:Int),.i (IntKind.i64.wrap ((v3.getD 2 d0).ii - (224:Int)))]
 else
 ja (if (decide ((v3.getD 2 d0).ii ≥ (240:Int)))=true then
 .norm [.s ((v3.getD 0 d0).ss),.i ((v3.getD 1 d0).ii),.i ((v3.getD 2 d0).ii),.b (decide ((v3.getD 2 d0).ii < (245:Int)))]
 else
 .norm [.s ((v3.getD 0 d0).ss),.i ((v3.getD 1 d0).ii),.i ((v3.getD 2 d0).ii),.b false]) fun v4 =>
 if (v4.getD 3 d0).bb=true then
 .norm [.s ((v4.getD 0 d0).ss),.i ((v4.getD 1 d0).ii),.i (4:Int),.i (IntKind.i64.wrap ((v4.getD 2 d0).ii - (240:Int)))]
 else
 .ret [.i (-1:Int),.i (0:Int)]) fun v5 =>
 .norm [.s ((v5.getD 0 d0).ss),.i ((v5.getD 1 d0).ii),.i ((v5.getD 2 d0).ii),.i ((v5.getD 3 d0).ii)]) fun v6 =>
 .norm [.s ((v6.getD 0 d0).ss),.i ((v6.getD 1 d0).ii),.i ((v6.getD 2 d0).ii),.i ((v6.getD 3 d0).ii)]) 0 fun v7 =>
 if (decide ((IntKind.i64.wrap ((v7.getD 1 d0).ii + (v7.getD 2 d0).ii)) > (((v7.getD 0 d0).ss).length:Int)))=true then
 .ret [.i (-1:Int),.i (0:Int)]
 else
 j9 (jG (j0X R n) n [.s ((v7.getD 0 d0).ss),.i ((v7.getD 1 d0).ii),.i ((v7.getD 2 d0).ii),.i ((v7.getD 3 d0).ii),.i (1:Int)]) 1 fun v11 =>
 (R 39 [.i ((v11.getD 1 d0).ii)]).bindR fun r12 =>
 if ((((r12.getD 0 d0).ss).length:Int) != (v11.getD 0 d0).ii)=true then
 .ret [.i (-1:Int),.i (0:Int)]
 else
 .ret [.i ((v11.getD 1 d0).ii),.i ((v11.getD 0 d0).ii)]
 else
 .fail
def Xw (R:Nat → List DC → Out) (n:Nat) (a:List DC):Out :=
 j9 (if 0 ≤ (a.getD 1 d0).ii ∧ (a.getD 1 d0).ii < (((a.getD 0 d0).ss).length:Int) then
 (R 40 [.i ((((a.getD 0 d0).ss).getD ((a.getD 1 d0).ii).toNat 0).toNat:Int)]).bindR fun r1 =>
 if (r1.getD 0 d0).bb=true then
 (R 41 [.s ((a.getD 0 d0).ss),.i ((a.getD 1 d0).ii)]).bindR fun r2 =>
 if 0 ≤ (a.getD 1 d0).ii ∧ (a.getD 1 d0).ii ≤ (r2.getD 0 d0).ii ∧ (r2.getD 0 d0).ii ≤ (((a.getD 0 d0).ss).length:Int) then
 (R 42 [.s ((((a.getD 0 d0).ss).take ((r2.getD 0 d0).ii).toNat).drop ((a.getD 1 d0).ii).toNat)]).bindR fun r3 =>
 if (!((r3.getD 0 d0).bb))=true then
 .ret [.i (2:Int),.s ((((a.getD 0 d0).ss).take ((r2.getD 0 d0).ii).toNat).drop ((a.getD 1 d0).ii).toNat),.i ((a.getD 1 d0).ii),.i ((a.getD 1 d0).ii),.i (3:Int)]
 else
 .ret [.i (2:Int),.s ((((a.getD 0 d0).ss).take ((r2.getD 0 d0).ii).toNat).drop ((a.getD 1 d0).ii).toNat),.i ((a.getD 1 d0).ii),.i ((r2.getD 0 d0).ii),.i (0:Int)]
 else
 .fail
 else
 ja (if 0 ≤ (a.getD 1 d0).ii ∧ (a.getD 1 d0).ii < (((a.getD 0 d0).ss).length:Int) then
 (R 43 [.i ((((a.getD 0 d0).ss).getD ((a.getD 1 d0).ii).toNat 0).toNat:Int)]).bindR fun r4 =>
 if (r4.getD 0 d0).bb=true then
 .norm [.s ((a.getD 0 d0).ss),.i ((a.getD 1 d0).ii),.b true,.i (0:Int),.s [],.i (0:Int),.i (0:Int),.s [],.i ((a.getD 1 d0).ii)]
 else
 if 0 ≤ (a.getD 1 d0).ii ∧ (a.getD 1 d0).ii < (((a.getD 0 d0).ss).length:Int) then
 .norm [.s ((a.getD 0 d0).ss),.i ((a.getD 1 d0).ii),.b (((((a.getD 0 d0).ss).getD ((a.getD 1 d0).ii).toNat 0).toNat:Int) == (45:Int)),.i (0:Int),.s [],.i (0:Int),.i (0:Int),.s [],.i ((a.getD 1 d0).ii)]
 else
 .fail
 else
 .fail) fun v5 =>
 if (v5.getD 2 d0).bb=true then
 (R 44 [.s ((v5.getD 0 d0).ss),.i ((v5.getD 1 d0).ii)]).bindR fun r6 =>
 if 0 ≤ (v5.getD 1 d0).ii ∧ (v5.getD 1 d0).ii ≤ (r6.getD 0 d0).ii ∧ (r6.getD 0 d0).ii ≤ (((v5.getD 0 d0).ss).length:Int) then
 (R 45 [.s ((((v5.getD 0 d0).ss).take ((r6.getD 0 d0).ii).toNat).drop ((v5.getD 1 d0).ii).toNat)]).bindR fun r7 =>
 if (r7.getD 0 d0).bb=true then
 .ret [.i (3:Int),.s ((((v5.getD 0 d0).ss).take ((r6.getD 0 d0).ii).toNat).drop ((v5.getD 1 d0).ii).toNat),.i ((v5.getD 8 d0).ii),.i ((r6.getD 0 d0).ii),.i (0:Int)]
 else
 (R 46 [.s ((((v5.getD 0 d0).ss).take ((r6.getD 0 d0).ii).toNat).drop ((v5.getD 1 d0).ii).toNat)]).bindR fun r8 =>
 if (!((r8.getD 0 d0).bb))=true then
 .ret [.i (4:Int),.s ((((v5.getD 0 d0).ss).take ((r6.getD 0 d0).ii).toNat).drop ((v5.getD 1 d0).ii).toNat),.i ((v5.getD 8 d0).ii),.i ((v5.getD 1 d0).ii),.i (4:Int)]
 else
 .ret [.i (4:Int),.s ((((v5.getD 0 d0).ss).take ((r6.getD 0 d0).ii).toNat).drop ((v5.getD 1 d0).ii).toNat),.i ((v5.getD 8 d0).ii),.i ((r6.getD 0 d0).ii),.i (0:Int)]
 else
 .fail
 else
 if 0 ≤ (v5.getD 1 d0).ii ∧ (v5.getD 1 d0).ii < (((v5.getD 0 d0).ss).length:Int) then
 if (((((v5.getD 0 d0).ss).getD ((v5.getD 1 d0).ii).toNat 0).toNat:Int) == (34:Int))=true then
 (R 47 [.s ((v5.getD 0 d0).ss),.i ((v5.getD 1 d0).ii)]).bindR fun r9 =>
 ja (if (r9.getD 0 d0).bb=true then
 (R 48 [.s ((v5.getD 0 d0).ss),.i ((v5.getD 1 d0).ii)]).bindR fun r10 =>
 ja (if (decide ((r10.getD 0 d0).ii ≥ (0:Int)))=true then
 if 0 ≤ (v5.getD 1 d0).ii ∧ (v5.getD 1 d0).ii ≤ (r10.getD 0 d0).ii ∧ (r10.getD 0 d0).ii ≤ (((v5.getD 0 d0).ss).length:Int) then
 (R 49 [.s ((((v5.getD 0 d0).ss).take ((r10.getD 0 d0).ii).toNat).drop ((v5.getD 1 d0).ii).toNat)]).bindR fun r11 =>
 .norm [.i ((v5.getD 1 d0).ii),.b ((r11.getD 1 d0).bb),.i ((r10.getD 0 d0).ii),.i ((v5.getD 3 d0).ii),.s ((v5.getD 4 d0).ss),.i ((v5.getD 5 d0).ii),.i (5:Int),.s ((r11.getD 0 d0).ss),.i ((v5.getD 8 d0).ii)]
 else
 .fail
 else
 .norm [.i ((v5.getD 1 d0).ii),.b false,.i ((r10.getD 0 d0).ii),.i ((v5.getD 3 d0).ii),.s ((v5.getD 4 d0).ss),.i ((v5.getD 5 d0).ii),.i (5:Int),.s ((v5.getD 7 d0).ss),.i ((v5.getD 8 d0).ii)]) fun v12 =>
 .norm [.i ((v12.getD 0 d0).ii),.b ((v12.getD 1 d0).bb),.i ((v12.getD 2 d0).ii),.i ((v12.getD 3 d0).ii),.s ((v12.getD 4 d0).ss),.i ((v12.getD 5 d0).ii),.i ((v12.getD 6 d0).ii),.s ((v12.getD 7 d0).ss),.i ((v12.getD 8 d0).ii)]
 else
 (R 50 [.s ((v5.getD 0 d0).ss),.i ((v5.getD 1 d0).ii)]).bindR fun r13 =>
 ja (if (decide ((r13.getD 0 d0).ii ≥ (0:Int)))=true then
 if 0 ≤ (v5.getD 1 d0).ii ∧ (v5.getD 1 d0).ii ≤ (r13.getD 0 d0).ii ∧ (r13.getD 0 d0).ii ≤ (((v5.getD 0 d0).ss).length:Int) then
 (R 51 [.s ((((v5.getD 0 d0).ss).take ((r13.getD 0 d0).ii).toNat).drop ((v5.getD 1 d0).ii).toNat)]).bindR fun r14 =>
 .norm [.i ((v5.getD 1 d0).ii),.b ((r14.getD 1 d0).bb),.i ((r13.getD 0 d0).ii),.i ((v5.getD 3 d0).ii),.s ((v5.getD 4 d0).ss),.i ((v5.getD 5 d0).ii),.i (5:Int),.s ((r14.getD 0 d0).ss),.i ((v5.getD 8 d0).ii)]
 else
 .fail
 else
 .norm [.i ((v5.getD 1 d0).ii),.b false,.i ((r13.getD 0 d0).ii),.i ((v5.getD 3 d0).ii),.s ((v5.getD 4 d0).ss),.i ((v5.getD 5 d0).ii),.i (5:Int),.s ((v5.getD 7 d0).ss),.i ((v5.getD 8 d0).ii)]) fun v15 =>
 .norm [.i ((v15.getD 0 d0).ii),.b ((v15.getD 1 d0).bb),.i ((v15.getD 2 d0).ii),.i ((v15.getD 3 d0).ii),.s ((v15.getD 4 d0).ss),.i ((v15.getD 5 d0).ii),.i ((v15.getD 6 d0).ii),.s ((v15.getD 7 d0).ss),.i ((v15.getD 8 d0).ii)]) fun v16 =>
 if (!((v16.getD 1 d0).bb))=true then
 .ret [.i ((v16.getD 6 d0).ii),.s ((v16.getD 7 d0).ss),.i ((v16.getD 8 d0).ii),.i ((v16.getD 0 d0).ii),.i (5:Int)]
 else
 .ret [.i ((v16.getD 6 d0).ii),.s ((v16.getD 7 d0).ss),.i ((v16.getD 8 d0).ii),.i ((v16.getD 2 d0).ii),.i (0:Int)]
 else
 .norm [.s ((v5.getD 0 d0).ss),.i ((v5.getD 1 d0).ii),.i ((v5.getD 3 d0).ii),.s ((v5.getD 4 d0).ss),.i ((v5.getD 5 d0).ii),.i ((v5.getD 6 d0).ii),.s ((v5.getD 7 d0).ss),.i ((v5.getD 8 d0).ii)]
 else
 .fail
 else
 .fail) 0 fun v17 =>
 ja (if (decide ((IntKind.i64.wrap ((v17.getD 1 d0).ii + (3:Int))) ≤ (((v17.getD 0 d0).ss).length:Int)))=true then
 if 0 ≤ (v17.getD 1 d0).ii ∧ (v17.getD 1 d0).ii ≤ (IntKind.i64.wrap ((v17.getD 1 d0).ii + (3:Int))) ∧ (IntKind.i64.wrap ((v17.getD 1 d0).ii + (3:Int))) ≤ (((v17.getD 0 d0).ss).length:Int) then
 .norm [.s ((v17.getD 0 d0).ss),.i ((v17.getD 1 d0).ii),.i (IntKind.i64.wrap ((v17.getD 1 d0).ii + (1:Int))),.b (((((v17.getD 0 d0).ss).take (IntKind.i64.wrap ((v17.getD 1 d0).ii + (3:Int))).toNat).drop ((v17.getD 1 d0).ii).toNat) == ([46,46,46]:List UInt8)),.i ((v17.getD 2 d0).ii),.s ((v17.getD 3 d0).ss),.i ((v17.getD 4 d0).ii),.i ((v17.getD 5 d0).ii),.s ((v17.getD 6 d0).ss),.i ((v17.getD 7 d0).ii)]
 else
 .fail
 else
 .norm [.s ((v17.getD 0 d0).ss),.i ((v17.getD 1 d0).ii),.i (IntKind.i64.wrap ((v17.getD 1 d0).ii + (1:Int))),.b false,.i ((v17.getD 2 d0).ii),.s ((v17.getD 3 d0).ss),.i ((v17.getD 4 d0).ii),.i ((v17.getD 5 d0).ii),.s ((v17.getD 6 d0).ss),.i ((v17.getD 7 d0).ii)]) fun v18 =>
 ja (if (v18.getD 3 d0).bb=true then
 .norm [.s ((v18.getD 0 d0).ss),.i ((v18.getD 1 d0).ii),.i (IntKind.i64.wrap ((v18.getD 1 d0).ii + (3:Int))),.i ((v18.getD 4 d0).ii),.s ((v18.getD 5 d0).ss),.i ((v18.getD 6 d0).ii),.i ((v18.getD 7 d0).ii),.s ((v18.getD 8 d0).ss),.i ((v18.getD 9 d0).ii)]
 else
 .norm [.s ((v18.getD 0 d0).ss),.i ((v18.getD 1 d0).ii),.i ((v18.getD 2 d0).ii),.i ((v18.getD 4 d0).ii),.s ((v18.getD 5 d0).ss),.i ((v18.getD 6 d0).ii),.i ((v18.getD 7 d0).ii),.s ((v18.getD 8 d0).ss),.i ((v18.getD 9 d0).ii)]) fun v19 =>
 if 0 ≤ (v19.getD 1 d0).ii ∧ (v19.getD 1 d0).ii ≤ (v19.getD 2 d0).ii ∧ (v19.getD 2 d0).ii ≤ (((v19.getD 0 d0).ss).length:Int) then
 (R 52 [.s ((((v19.getD 0 d0).ss).take ((v19.getD 2 d0).ii).toNat).drop ((v19.getD 1 d0).ii).toNat)]).bindR fun r20 =>
 if (!((r20.getD 0 d0).bb))=true then
 .ret [.i (1:Int),.s ((((v19.getD 0 d0).ss).take ((v19.getD 2 d0).ii).toNat).drop ((v19.getD 1 d0).ii).toNat),.i ((v19.getD 8 d0).ii),.i ((v19.getD 1 d0).ii),.i (3:Int)]
 else
 .ret [.i (1:Int),.s ((((v19.getD 0 d0).ss).take ((v19.getD 2 d0).ii).toNat).drop ((v19.getD 1 d0).ii).toNat),.i ((v19.getD 8 d0).ii),.i ((v19.getD 2 d0).ii),.i (0:Int)]
 else
 .fail
def ZQ (R:Nat → List DC → Out) (n:Nat):List DC → Out:=fun v4 =>
 ja (if (decide ((v4.getD 1 d0).ii < (((v4.getD 0 d0).ss).length:Int)))=true then
 if 0 ≤ (v4.getD 1 d0).ii ∧ (v4.getD 1 d0).ii < (((v4.getD 0 d0).ss).length:Int) then
 if (((((v4.getD 0 d0).ss).getD ((v4.getD 1 d0).ii).toNat 0).toNat:Int) != (10:Int))=true then
 if 0 ≤ (v4.getD 1 d0).ii ∧ (v4.getD 1 d0).ii < (((v4.getD 0 d0).ss).length:Int) then
 .norm [.s ((v4.getD 0 d0).ss),.i ((v4.getD 1 d0).ii),.b (((((v4.getD 0 d0).ss).getD ((v4.getD 1 d0).ii).toNat 0).toNat:Int) != (13:Int))]
 else
 .fail
 else
 .norm [.s ((v4.getD 0 d0).ss),.i ((v4.getD 1 d0).ii),.b false]
 else
 .fail
 else
 .norm [.s ((v4.getD 0 d0).ss),.i ((v4.getD 1 d0).ii),.b false]) fun v5 =>
 if (v5.getD 2 d0).bb=true then
 j9 (.norm [.s ((v5.getD 0 d0).ss),.i (IntKind.i64.wrap ((v5.getD 1 d0).ii + (1:Int)))]) 4 fun v6 =>
 .norm [.s ((v6.getD 0 d0).ss),.i ((v6.getD 1 d0).ii)]
 else
 .ex 3 [.s ((v5.getD 0 d0).ss),.i ((v5.getD 1 d0).ii)]
def ZP (R:Nat → List DC → Out) (n:Nat):List DC → Out:=fun v1 =>
 if (decide ((v1.getD 1 d0).ii < (((v1.getD 0 d0).ss).length:Int)))=true then
 j9 (j9 (ja (if 0 ≤ (v1.getD 1 d0).ii ∧ (v1.getD 1 d0).ii < (((v1.getD 0 d0).ss).length:Int) then
 if (((((v1.getD 0 d0).ss).getD ((v1.getD 1 d0).ii).toNat 0).toNat:Int) == (32:Int))=true then
 .norm [.s ((v1.getD 0 d0).ss),.i ((v1.getD 1 d0).ii),.b true]
 else
 if 0 ≤ (v1.getD 1 d0).ii ∧ (v1.getD 1 d0).ii < (((v1.getD 0 d0).ss).length:Int) then
 if (((((v1.getD 0 d0).ss).getD ((v1.getD 1 d0).ii).toNat 0).toNat:Int) == (9:Int))=true then
 .norm [.s ((v1.getD 0 d0).ss),.i ((v1.getD 1 d0).ii),.b true]
 else
 if 0 ≤ (v1.getD 1 d0).ii ∧ (v1.getD 1 d0).ii < (((v1.getD 0 d0).ss).length:Int) then
 if (((((v1.getD 0 d0).ss).getD ((v1.getD 1 d0).ii).toNat 0).toNat:Int) == (10:Int))=true then
 .norm [.s ((v1.getD 0 d0).ss),.i ((v1.getD 1 d0).ii),.b true]
 else
 if 0 ≤ (v1.getD 1 d0).ii ∧ (v1.getD 1 d0).ii < (((v1.getD 0 d0).ss).length:Int) then
 if (((((v1.getD 0 d0).ss).getD ((v1.getD 1 d0).ii).toNat 0).toNat:Int) == (13:Int))=true then
 .norm [.s ((v1.getD 0 d0).ss),.i ((v1.getD 1 d0).ii),.b true]
 else
 if 0 ≤ (v1.getD 1 d0).ii ∧ (v1.getD 1 d0).ii < (((v1.getD 0 d0).ss).length:Int) then
 .norm [.s ((v1.getD 0 d0).ss),.i ((v1.getD 1 d0).ii),.b (((((v1.getD 0 d0).ss).getD ((v1.getD 1 d0).ii).toNat 0).toNat:Int) == (44:Int))]
 else
 .fail
 else
 .fail
 else
 .fail
 else
 .fail
 else
 .fail) fun v2 =>
 ja (if (v2.getD 2 d0).bb=true then
 .norm [.s ((v2.getD 0 d0).ss),.i (IntKind.i64.wrap ((v2.getD 1 d0).ii + (1:Int)))]
 else
 ja (if ((v2.getD 1 d0).ii == (0:Int))=true then
 if (decide ((((v2.getD 0 d0).ss).length:Int) ≥ (3:Int)))=true then
 if 0 ≤ (3:Int) ∧ (3:Int) ≤ (((v2.getD 0 d0).ss).length:Int) then
 .norm [.s ((v2.getD 0 d0).ss),.i ((v2.getD 1 d0).ii),.b ((((v2.getD 0 d0).ss).take (3:Int).toNat) == ([239,187,191]:List UInt8))]
 else
 .fail
 else
 .norm [.s ((v2.getD 0 d0).ss),.i ((v2.getD 1 d0).ii),.b false]
 else
 .norm [.s ((v2.getD 0 d0).ss),.i ((v2.getD 1 d0).ii),.b false]) fun v3 =>
 ja (if (v3.getD 2 d0).bb=true then
 .norm [.s ((v3.getD 0 d0).ss),.i (3:Int)]
 else
 if 0 ≤ (v3.getD 1 d0).ii ∧ (v3.getD 1 d0).ii < (((v3.getD 0 d0).ss).length:Int) then
 if (((((v3.getD 0 d0).ss).getD ((v3.getD 1 d0).ii).toNat 0).toNat:Int) == (35:Int))=true then
 j9 (jG (ZQ R n) n [.s ((v3.getD 0 d0).ss),.i ((v3.getD 1 d0).ii)]) 3 fun v7 =>
 .norm [.s ((v7.getD 0 d0).ss),.i ((v7.getD 1 d0).ii)]
 else
 .ret [.i ((v3.getD 1 d0).ii)]
 else
 .fail) fun v8 =>
 .norm [.s ((v8.getD 0 d0).ss),.i ((v8.getD 1 d0).ii)]) fun v9 =>
 .norm [.s ((v9.getD 0 d0).ss),.i ((v9.getD 1 d0).ii)]) 2 fun v10 =>
 .norm [.s ((v10.getD 0 d0).ss),.i ((v10.getD 1 d0).ii)]) 1 fun v11 =>
 .norm [.s ((v11.getD 0 d0).ss),.i ((v11.getD 1 d0).ii)]
 else
 .ex 0 [.i ((v1.getD 1 d0).ii)]
def VF (R:Nat → List DC → Out) (n:Nat) (a:List DC):Out :=
 j9 (jG (ZP R n) n [.s ((a.getD 0 d0).ss),.i ((a.getD 1 d0).ii)]) 0 fun v12 =>
 .ret [.i ((v12.getD 0 d0).ii)]
def Qz (R:Nat → List DC → Out) (n:Nat) (a:List DC):Out :=
 (R 53 [.i ((a.getD 0 d0).ii)]).bindR fun r1 =>
 if (!((r1.getD 0 d0).bb))=true then
 .ret [.s ([]:List UInt8)]
 else
 j9 (if (decide ((a.getD 0 d0).ii < (128:Int)))=true then
 .ret [.s (kL [[DC.i (IntKind.u8.wrap ((a.getD 0 d0).ii))]])]
 else
 if (decide ((a.getD 0 d0).ii < (2048:Int)))=true then
 if (64:Int)=0 then
 .fail
 else
 if (64:Int)=0 then
 .fail
 else
 .ret [.s (kL [[DC.i (IntKind.u8.wrap (IntKind.i64.wrap ((192:Int) + (IntKind.i64.wrap (((a.getD 0 d0).ii).tdiv (64:Int))))))],[DC.i (IntKind.u8.wrap (IntKind.i64.wrap ((128:Int) + (((a.getD 0 d0).ii).tmod (64:Int)))))]])]
 else
 if (decide ((a.getD 0 d0).ii < (65536:Int)))=true then
 if (4096:Int)=0 then
 .fail
 else
 if (64:Int)=0 then
 .fail
 else
 if (64:Int)=0 then
 .fail
 else
 if (64:Int)=0 then
 .fail
 else
 .ret [.s (kL [[DC.i (IntKind.u8.wrap (IntKind.i64.wrap ((224:Int) + (IntKind.i64.wrap (((a.getD 0 d0).ii).tdiv (4096:Int))))))],[DC.i (IntKind.u8.wrap (IntKind.i64.wrap ((128:Int) + ((IntKind.i64.wrap (((a.getD 0 d0).ii).tdiv (64:Int))).tmod (64:Int)))))],[DC.i (IntKind.u8.wrap (IntKind.i64.wrap ((128:Int) + (((a.getD 0 d0).ii).tmod (64:Int)))))]])]
 else
 .norm [.i ((a.getD 0 d0).ii)]) 0 fun v2 =>
 if (262144:Int)=0 then
 .fail
 else
 if (4096:Int)=0 then
 .fail
 else
 if (64:Int)=0 then
 .fail
 else
 if (64:Int)=0 then
 .fail
 else
 if (64:Int)=0 then
 .fail
 else
 if (64:Int)=0 then
 .fail
 else
 .ret [.s (kL [[DC.i (IntKind.u8.wrap (IntKind.i64.wrap ((240:Int) + (IntKind.i64.wrap (((v2.getD 0 d0).ii).tdiv (262144:Int))))))],[DC.i (IntKind.u8.wrap (IntKind.i64.wrap ((128:Int) + ((IntKind.i64.wrap (((v2.getD 0 d0).ii).tdiv (4096:Int))).tmod (64:Int)))))],[DC.i (IntKind.u8.wrap (IntKind.i64.wrap ((128:Int) + ((IntKind.i64.wrap (((v2.getD 0 d0).ii).tdiv (64:Int))).tmod (64:Int)))))],[DC.i (IntKind.u8.wrap (IntKind.i64.wrap ((128:Int) + (((v2.getD 0 d0).ii).tmod (64:Int)))))]])]
def Z7 (R:Nat → List DC → Out) (n:Nat):List DC → Out:=fun v3 =>
 if (decide ((v3.getD 1 d0).ii < (((v3.getD 0 d0).ss).length:Int)))=true then
 j9 (ja (if 0 ≤ (v3.getD 1 d0).ii ∧ (v3.getD 1 d0).ii < (((v3.getD 0 d0).ss).length:Int) then
 if (((((v3.getD 0 d0).ss).getD ((v3.getD 1 d0).ii).toNat 0).toNat:Int) == (92:Int))=true then
 (R 47 [.s ((v3.getD 0 d0).ss),.i (IntKind.i64.wrap ((v3.getD 1 d0).ii + (1:Int)))]).bindR fun r4 =>
 .norm [.s ((v3.getD 0 d0).ss),.i ((v3.getD 1 d0).ii),.b ((r4.getD 0 d0).bb)]
 else
 .norm [.s ((v3.getD 0 d0).ss),.i ((v3.getD 1 d0).ii),.b false]
 else
 .fail) fun v5 =>
 if (v5.getD 2 d0).bb=true then
 .ex 1 [.s ((v5.getD 0 d0).ss),.i (IntKind.i64.wrap ((v5.getD 1 d0).ii + (3:Int)))]
 else
 (R 47 [.s ((v5.getD 0 d0).ss),.i ((v5.getD 1 d0).ii)]).bindR fun r6 =>
 if (r6.getD 0 d0).bb=true then
 .ret [.i (IntKind.i64.wrap ((v5.getD 1 d0).ii + (3:Int)))]
 else
 .norm [.s ((v5.getD 0 d0).ss),.i ((v5.getD 1 d0).ii)]) 1 fun v7 =>
 .norm [.s ((v7.getD 0 d0).ss),.i (IntKind.i64.wrap ((v7.getD 1 d0).ii + (1:Int)))]
 else
 .ex 0 []
def QA (R:Nat → List DC → Out) (n:Nat) (a:List DC):Out :=
 ja (if (decide ((a.getD 1 d0).ii < (0:Int)))=true then
 .norm [.s ((a.getD 0 d0).ss),.i ((a.getD 1 d0).ii),.b true]
 else
 if (decide ((a.getD 1 d0).ii ≥ (((a.getD 0 d0).ss).length:Int)))=true then
 .norm [.s ((a.getD 0 d0).ss),.i ((a.getD 1 d0).ii),.b true]
 else
 (R 47 [.s ((a.getD 0 d0).ss),.i ((a.getD 1 d0).ii)]).bindR fun r1 =>
 .norm [.s ((a.getD 0 d0).ss),.i ((a.getD 1 d0).ii),.b (!((r1.getD 0 d0).bb))]) fun v2 =>
 if (v2.getD 2 d0).bb=true then
 .ret [.i (-1:Int)]
 else
 j9 (jG (Z7 R n) n [.s ((v2.getD 0 d0).ss),.i (IntKind.i64.wrap ((v2.getD 1 d0).ii + (3:Int)))]) 0 fun v8 =>
 .ret [.i (-1:Int)]
def Yk (R:Nat → List DC → Out) (n:Nat):List DC → Out:=fun v4 =>
 if (decide ((v4.getD 2 d0).ii < (IntKind.i64.wrap ((((v4.getD 0 d0).ss).length:Int) - (3:Int)))))=true then
 j9 (ja (if 0 ≤ (v4.getD 2 d0).ii ∧ (v4.getD 2 d0).ii < (((v4.getD 0 d0).ss).length:Int) then
 if (decide (((((v4.getD 0 d0).ss).getD ((v4.getD 2 d0).ii).toNat 0).toNat:Int) < (32:Int)))=true then
 if 0 ≤ (v4.getD 2 d0).ii ∧ (v4.getD 2 d0).ii < (((v4.getD 0 d0).ss).length:Int) then
 if (((((v4.getD 0 d0).ss).getD ((v4.getD 2 d0).ii).toNat 0).toNat:Int) != (9:Int))=true then
 if 0 ≤ (v4.getD 2 d0).ii ∧ (v4.getD 2 d0).ii < (((v4.getD 0 d0).ss).length:Int) then
 if (((((v4.getD 0 d0).ss).getD ((v4.getD 2 d0).ii).toNat 0).toNat:Int) != (10:Int))=true then
 if 0 ≤ (v4.getD 2 d0).ii ∧ (v4.getD 2 d0).ii < (((v4.getD 0 d0).ss).length:Int) then
 .norm [.s ((v4.getD 0 d0).ss),.sl ((v4.getD 1 d0).ll),.i ((v4.getD 2 d0).ii),.b (((((v4.getD 0 d0).ss).getD ((v4.getD 2 d0).ii).toNat 0).toNat:Int) != (13:Int))]
 else
 .fail
 else
 .norm [.s ((v4.getD 0 d0).ss),.sl ((v4.getD 1 d0).ll),.i ((v4.getD 2 d0).ii),.b false]
 else
 .fail
 else
 .norm [.s ((v4.getD 0 d0).ss),.sl ((v4.getD 1 d0).ll),.i ((v4.getD 2 d0).ii),.b false]
 else
 .fail
 else
 .norm [.s ((v4.getD 0 d0).ss),.sl ((v4.getD 1 d0).ll),.i ((v4.getD 2 d0).ii),.b false]
 else
 .fail) fun v5 =>
 if (v5.getD 3 d0).bb=true then
 .ret [.s ([]:List UInt8),.b false]
 else
 ja (if 0 ≤ (v5.getD 2 d0).ii ∧ (v5.getD 2 d0).ii < (((v5.getD 0 d0).ss).length:Int) then
 if (((((v5.getD 0 d0).ss).getD ((v5.getD 2 d0).ii).toNat 0).toNat:Int) == (92:Int))=true then
 (R 47 [.s ((v5.getD 0 d0).ss),.i (IntKind.i64.wrap ((v5.getD 2 d0).ii + (1:Int)))]).bindR fun r6 =>
 .norm [.s ((v5.getD 0 d0).ss),.sl ((v5.getD 1 d0).ll),.i ((v5.getD 2 d0).ii),.b ((r6.getD 0 d0).bb)]
 else
 .norm [.s ((v5.getD 0 d0).ss),.sl ((v5.getD 1 d0).ll),.i ((v5.getD 2 d0).ii),.b false]
 else
 .fail) fun v7 =>
 if (v7.getD 3 d0).bb=true then
 .ex 1 [.s ((v7.getD 0 d0).ss),.sl ((v7.getD 1 d0).ll),.i ((v7.getD 2 d0).ii)]
 else
 if 0 ≤ (v7.getD 2 d0).ii ∧ (v7.getD 2 d0).ii < (((v7.getD 0 d0).ss).length:Int) then
 if ((v7.getD 1 d0).ll).length + [[DC.i ((((v7.getD 0 d0).ss).getD ((v7.getD 2 d0).ii).toNat 0).toNat:Int)]].length < jN then
 .norm [.s ((v7.getD 0 d0).ss),.sl (((v7.getD 1 d0).ll) ++ [[DC.i ((((v7.getD 0 d0).ss).getD ((v7.getD 2 d0).ii).toNat 0).toNat:Int)]]),.i ((v7.getD 2 d0).ii)]
 else
 .fail
 else
 .fail) 1 fun v8 =>
 .norm [.s ((v8.getD 0 d0).ss),.sl ((v8.getD 1 d0).ll),.i (IntKind.i64.wrap ((v8.getD 2 d0).ii + (1:Int)))]
 else
 .ex 0 [.sl ((v4.getD 1 d0).ll)]
def KV (R:Nat → List DC → Out) (n:Nat) (a:List DC):Out :=
 ja (if (decide ((((a.getD 0 d0).ss).length:Int) > (1000:Int)))=true then
 .norm [.s ((a.getD 0 d0).ss),.b true]
 else
 (R 48 [.s ((a.getD 0 d0).ss),.i (0:Int)]).bindR fun r1 =>
 if ((r1.getD 0 d0).ii != (((a.getD 0 d0).ss).length:Int))=true then
 .norm [.s ((a.getD 0 d0).ss),.b true]
 else
 (R 54 [.s ((a.getD 0 d0).ss)]).bindR fun r2 =>
 .norm [.s ((a.getD 0 d0).ss),.b (!((r2.getD 0 d0).bb))]) fun v3 =>
 if (v3.getD 1 d0).bb=true then
 .ret [.s ([]:List UInt8),.b false]
 else
 j9 (jG (Yk R n) n [.s ((v3.getD 0 d0).ss),.sl [],.i (3:Int)]) 0 fun v9 =>
 (R 55 [.s (kL ((v9.getD 0 d0).ll))]).bindR fun r10 =>
 if (decide ((((r10.getD 0 d0).ss).length:Int) > (200:Int)))=true then
 .ret [.s ([]:List UInt8),.b false]
 else
 .ret [.s ((r10.getD 0 d0).ss),.b true]
def VK (R:Nat → List DC → Out) (n:Nat) (a:List DC):Out :=
 (R 56 [.s ((a.getD 0 d0).ss)]).bindR fun r1 =>
 ja (if (decide ((((a.getD 0 d0).ss).length:Int) > (40:Int)))=true then
 .norm [.s ((a.getD 0 d0).ss),.i ((r1.getD 0 d0).ii),.b true]
 else
 if ((r1.getD 0 d0).ii == (0:Int))=true then
 .norm [.s ((a.getD 0 d0).ss),.i ((r1.getD 0 d0).ii),.b true]
 else
 .norm [.s ((a.getD 0 d0).ss),.i ((r1.getD 0 d0).ii),.b ((r1.getD 0 d0).ii == (((a.getD 0 d0).ss).length:Int))]) fun v2 =>
 if (v2.getD 2 d0).bb=true then
 .ret [.b false]
 else
 if 0 ≤ (v2.getD 1 d0).ii ∧ (v2.getD 1 d0).ii < (((v2.getD 0 d0).ss).length:Int) then
 ja (if (((((v2.getD 0 d0).ss).getD ((v2.getD 1 d0).ii).toNat 0).toNat:Int) == (46:Int))=true then
 (R 57 [.s ((v2.getD 0 d0).ss),.i (IntKind.i64.wrap ((v2.getD 1 d0).ii + (1:Int)))]).bindR fun r3 =>
 if ((r3.getD 0 d0).ii == (IntKind.i64.wrap ((v2.getD 1 d0).ii + (1:Int))))=true then
 .ret [.b false]
 else
 .norm [.s ((v2.getD 0 d0).ss),.i ((r3.getD 0 d0).ii)]
 else
 .norm [.s ((v2.getD 0 d0).ss),.i ((v2.getD 1 d0).ii)]) fun v4 =>
 ja (if (decide ((v4.getD 1 d0).ii < (((v4.getD 0 d0).ss).length:Int)))=true then
 if 0 ≤ (v4.getD 1 d0).ii ∧ (v4.getD 1 d0).ii < (((v4.getD 0 d0).ss).length:Int) then
 if (((((v4.getD 0 d0).ss).getD ((v4.getD 1 d0).ii).toNat 0).toNat:Int) == (101:Int))=true then
 .norm [.s ((v4.getD 0 d0).ss),.i ((v4.getD 1 d0).ii),.b true]
 else
 if 0 ≤ (v4.getD 1 d0).ii ∧ (v4.getD 1 d0).ii < (((v4.getD 0 d0).ss).length:Int) then
 .norm [.s ((v4.getD 0 d0).ss),.i ((v4.getD 1 d0).ii),.b (((((v4.getD 0 d0).ss).getD ((v4.getD 1 d0).ii).toNat 0).toNat:Int) == (69:Int))]
 else
 .fail
 else
 .fail
 else
 .norm [.s ((v4.getD 0 d0).ss),.i ((v4.getD 1 d0).ii),.b false]) fun v5 =>
 ja (if (v5.getD 2 d0).bb=true then
 ja (if (decide ((IntKind.i64.wrap ((v5.getD 1 d0).ii + (1:Int))) < (((v5.getD 0 d0).ss).length:Int)))=true then
 if 0 ≤ (IntKind.i64.wrap ((v5.getD 1 d0).ii + (1:Int))) ∧ (IntKind.i64.wrap ((v5.getD 1 d0).ii + (1:Int))) < (((v5.getD 0 d0).ss).length:Int) then
 if (((((v5.getD 0 d0).ss).getD (IntKind.i64.wrap ((v5.getD 1 d0).ii + (1:Int))).toNat 0).toNat:Int) == (43:Int))=true then
 .norm [.s ((v5.getD 0 d0).ss),.i (IntKind.i64.wrap ((v5.getD 1 d0).ii + (1:Int))),.b true]
 else
 if 0 ≤ (IntKind.i64.wrap ((v5.getD 1 d0).ii + (1:Int))) ∧ (IntKind.i64.wrap ((v5.getD 1 d0).ii + (1:Int))) < (((v5.getD 0 d0).ss).length:Int) then
 .norm [.s ((v5.getD 0 d0).ss),.i (IntKind.i64.wrap ((v5.getD 1 d0).ii + (1:Int))),.b (((((v5.getD 0 d0).ss).getD (IntKind.i64.wrap ((v5.getD 1 d0).ii + (1:Int))).toNat 0).toNat:Int) == (45:Int))]
 else
 .fail
 else
 .fail
 else
 .norm [.s ((v5.getD 0 d0).ss),.i (IntKind.i64.wrap ((v5.getD 1 d0).ii + (1:Int))),.b false]) fun v6 =>
 ja (if (v6.getD 2 d0).bb=true then
 .norm [.s ((v6.getD 0 d0).ss),.i (IntKind.i64.wrap ((v6.getD 1 d0).ii + (1:Int)))]
 else
 .norm [.s ((v6.getD 0 d0).ss),.i ((v6.getD 1 d0).ii)]) fun v7 =>
 (R 57 [.s ((v7.getD 0 d0).ss),.i ((v7.getD 1 d0).ii)]).bindR fun r8 =>
 if ((r8.getD 0 d0).ii == (v7.getD 1 d0).ii)=true then
 .ret [.b false]
 else
 .norm [.s ((v7.getD 0 d0).ss),.i ((r8.getD 0 d0).ii)]
 else
 .norm [.s ((v5.getD 0 d0).ss),.i ((v5.getD 1 d0).ii)]) fun v9 =>
 .ret [.b ((v9.getD 1 d0).ii == (((v9.getD 0 d0).ss).length:Int))]
 else
 .fail
def Z6 (R:Nat → List DC → Out) (n:Nat) (a:List DC):Out :=
 ja (if (decide ((((a.getD 0 d0).ss).length:Int) ≤ (40:Int)))=true then
 if (decide ((((a.getD 0 d0).ss).length:Int) > (0:Int)))=true then
 (R 56 [.s ((a.getD 0 d0).ss)]).bindR fun r1 =>
 .norm [.b ((r1.getD 0 d0).ii == (((a.getD 0 d0).ss).length:Int))]
 else
 .norm [.b false]
 else
 .norm [.b false]) fun v2 =>
 .ret [.b ((v2.getD 0 d0).bb)]
def j0Y (R:Nat → List DC → Out) (n:Nat):List DC → Out:=fun v3 =>
 if (decide ((v3.getD 1 d0).ii < (((v3.getD 0 d0).ss).length:Int)))=true then
 j9 (ja (if 0 ≤ (v3.getD 1 d0).ii ∧ (v3.getD 1 d0).ii < (((v3.getD 0 d0).ss).length:Int) then
 (R 40 [.i ((((v3.getD 0 d0).ss).getD ((v3.getD 1 d0).ii).toNat 0).toNat:Int)]).bindR fun r4 =>
 if (!((r4.getD 0 d0).bb))=true then
 if 0 ≤ (v3.getD 1 d0).ii ∧ (v3.getD 1 d0).ii < (((v3.getD 0 d0).ss).length:Int) then
 (R 43 [.i ((((v3.getD 0 d0).ss).getD ((v3.getD 1 d0).ii).toNat 0).toNat:Int)]).bindR fun r5 =>
 .norm [.s ((v3.getD 0 d0).ss),.i ((v3.getD 1 d0).ii),.b (!((r5.getD 0 d0).bb))]
 else
 .fail
 else
 .norm [.s ((v3.getD 0 d0).ss),.i ((v3.getD 1 d0).ii),.b false]
 else
 .fail) fun v6 =>
 if (v6.getD 2 d0).bb=true then
 .ret [.b false]
 else
 .norm [.s ((v6.getD 0 d0).ss),.i ((v6.getD 1 d0).ii)]) 1 fun v7 =>
 .norm [.s ((v7.getD 0 d0).ss),.i (IntKind.i64.wrap ((v7.getD 1 d0).ii + (1:Int)))]
 else
 .ex 0 []
def XE (R:Nat → List DC → Out) (n:Nat) (a:List DC):Out :=
 ja (if ((((a.getD 0 d0).ss).length:Int) == (0:Int))=true then
 .norm [.s ((a.getD 0 d0).ss),.b true]
 else
 if (decide ((((a.getD 0 d0).ss).length:Int) > (30:Int)))=true then
 .norm [.s ((a.getD 0 d0).ss),.b true]
 else
 if 0 ≤ (0:Int) ∧ (0:Int) < (((a.getD 0 d0).ss).length:Int) then
 (R 43 [.i ((((a.getD 0 d0).ss).getD (0:Int).toNat 0).toNat:Int)]).bindR fun r1 =>
 .norm [.s ((a.getD 0 d0).ss),.b ((r1.getD 0 d0).bb)]
 else
 .fail) fun v2 =>
 if (v2.getD 1 d0).bb=true then
 .ret [.b false]
 else
 j9 (jG (j0Y R n) n [.s ((v2.getD 0 d0).ss),.i (0:Int)]) 0 fun v8 =>
 .ret [.b true]
def XB (R:Nat → List DC → Out) (n:Nat) (a:List DC):Out :=
 j9 (ja (if ((a.getD 0 d0).ss == ([33]:List UInt8))=true then
 .norm [.b ((a.getD 0 d0).ss == ([33]:List UInt8))]
 else
 ja (if ((a.getD 0 d0).ss == ([36]:List UInt8))=true then
 .norm [.b ((a.getD 0 d0).ss == ([36]:List UInt8))]
 else
 ja (if ((a.getD 0 d0).ss == ([38]:List UInt8))=true then
 .norm [.b ((a.getD 0 d0).ss == ([38]:List UInt8))]
 else
 ja (if ((a.getD 0 d0).ss == ([40]:List UInt8))=true then
 .norm [.b ((a.getD 0 d0).ss == ([40]:List UInt8))]
 else
 ja (if ((a.getD 0 d0).ss == ([41]:List UInt8))=true then
 .norm [.b ((a.getD 0 d0).ss == ([41]:List UInt8))]
 else
 ja (if ((a.getD 0 d0).ss == ([46,46,46]:List UInt8))=true then
 .norm [.b ((a.getD 0 d0).ss == ([46,46,46]:List UInt8))]
 else
 ja (if ((a.getD 0 d0).ss == ([58]:List UInt8))=true then
 .norm [.b ((a.getD 0 d0).ss == ([58]:List UInt8))]
 else
 ja (if ((a.getD 0 d0).ss == ([61]:List UInt8))=true then
 .norm [.b ((a.getD 0 d0).ss == ([61]:List UInt8))]
 else
 ja (if ((a.getD 0 d0).ss == ([64]:List UInt8))=true then
 .norm [.b ((a.getD 0 d0).ss == ([64]:List UInt8))]
 else
 ja (if ((a.getD 0 d0).ss == ([91]:List UInt8))=true then
 .norm [.b ((a.getD 0 d0).ss == ([91]:List UInt8))]
 else
 ja (if ((a.getD 0 d0).ss == ([93]:List UInt8))=true then
 .norm [.b ((a.getD 0 d0).ss == ([93]:List UInt8))]
 else
 ja (if ((a.getD 0 d0).ss == ([123]:List UInt8))=true then
 .norm [.b ((a.getD 0 d0).ss == ([123]:List UInt8))]
 else
 ja (if ((a.getD 0 d0).ss == ([124]:List UInt8))=true then
 .norm [.b ((a.getD 0 d0).ss == ([124]:List UInt8))]
 else
 .norm [.b ((a.getD 0 d0).ss == ([125]:List UInt8))]) fun v1 =>
 .norm [.b ((v1.getD 0 d0).bb)]) fun v2 =>
 .norm [.b ((v2.getD 0 d0).bb)]) fun v3 =>
 .norm [.b ((v3.getD 0 d0).bb)]) fun v4 =>
 .norm [.b ((v4.getD 0 d0).bb)]) fun v5 =>
 .norm [.b ((v5.getD 0 d0).bb)]) fun v6 =>
 .norm [.b ((v6.getD 0 d0).bb)]) fun v7 =>
 .norm [.b ((v7.getD 0 d0).bb)]) fun v8 =>
 .norm [.b ((v8.getD 0 d0).bb)]) fun v9 =>
 .norm [.b ((v9.getD 0 d0).bb)]) fun v10 =>
 .norm [.b ((v10.getD 0 d0).bb)]) fun v11 =>
 .norm [.b ((v11.getD 0 d0).bb)]) fun v12 =>
 .norm [.b ((v12.getD 0 d0).bb)]) fun v13 =>
 if (v13.getD 0 d0).bb=true then
 .ret [.b true]
 else
 .norm []) 0 fun v14 =>
 .ret [.b false]
def Yj (R:Nat → List DC → Out) (n:Nat):List DC → Out:=fun v2 =>
 if (decide ((v2.getD 1 d0).ii < (((v2.getD 0 d0).ss).length:Int)))=true then
 j9 (if 0 ≤ (v2.getD 1 d0).ii ∧ (v2.getD 1 d0).ii < (((v2.getD 0 d0).ss).length:Int) then
 j9 (if (((((v2.getD 0 d0).ss).getD ((v2.getD 1 d0).ii).toNat 0).toNat:Int) == (34:Int))=true then
 .ret [.i (IntKind.i64.wrap ((v2.getD 1 d0).ii + (1:Int)))]
 else
 ja (if (((((v2.getD 0 d0).ss).getD ((v2.getD 1 d0).ii).toNat 0).toNat:Int) == (10:Int))=true then
 .norm [.s ((v2.getD 0 d0).ss),.i ((v2.getD 1 d0).ii),.i ((((v2.getD 0 d0).ss).getD ((v2.getD 1 d0).ii).toNat 0).toNat:Int),.b (((((v2.getD 0 d0).ss).getD ((v2.getD 1 d0).ii).toNat 0).toNat:Int) == (10:Int))]
 else
 .norm [.s ((v2.getD 0 d0).ss),.i ((v2.getD 1 d0).ii),.i ((((v2.getD 0 d0).ss).getD ((v2.getD 1 d0).ii).toNat 0).toNat:Int),.b (((((v2.getD 0 d0).ss).getD ((v2.getD 1 d0).ii).toNat 0).toNat:Int) == (13:Int))]) fun v3 =>
 if (v3.getD 3 d0).bb=true then
 .ret [.i (-1:Int)]
 else
 ja (if ((v3.getD 2 d0).ii == (92:Int))=true then
 ja (if (decide ((IntKind.i64.wrap ((v3.getD 1 d0).ii + (1:Int))) < (((v3.getD 0 d0).ss).length:Int)))=true then
 if 0 ≤ (IntKind.i64.wrap ((v3.getD 1 d0).ii + (1:Int))) ∧ (IntKind.i64.wrap ((v3.getD 1 d0).ii + (1:Int))) < (((v3.getD 0 d0).ss).length:Int) then
 if (((((v3.getD 0 d0).ss).getD (IntKind.i64.wrap ((v3.getD 1 d0).ii + (1:Int))).toNat 0).toNat:Int) == (10:Int))=true then
 .norm [.s ((v3.getD 0 d0).ss),.i (IntKind.i64.wrap ((v3.getD 1 d0).ii + (1:Int))),.b true]
 else
 if 0 ≤ (IntKind.i64.wrap ((v3.getD 1 d0).ii + (1:Int))) ∧ (IntKind.i64.wrap ((v3.getD 1 d0).ii + (1:Int))) < (((v3.getD 0 d0).ss).length:Int) then
 .norm [.s ((v3.getD 0 d0).ss),.i (IntKind.i64.wrap ((v3.getD 1 d0).ii + (1:Int))),.b (((((v3.getD 0 d0).ss).getD (IntKind.i64.wrap ((v3.getD 1 d0).ii + (1:Int))).toNat 0).toNat:Int) == (13:Int))]
 else
 .fail
 else
 .fail
 else
 .norm [.s ((v3.getD 0 d0).ss),.i (IntKind.i64.wrap ((v3.getD 1 d0).ii + (1:Int))),.b false]) fun v4 =>
 if (v4.getD 2 d0).bb=true then
 .ret [.i (-1:Int)]
 else
 .norm [.s ((v4.getD 0 d0).ss),.i ((v4.getD 1 d0).ii)]
 else
 .norm [.s ((v3.getD 0 d0).ss),.i ((v3.getD 1 d0).ii)]) fun v5 =>
 .norm [.s ((v5.getD 0 d0).ss),.i ((v5.getD 1 d0).ii)]) 2 fun v6 =>
 .norm [.s ((v6.getD 0 d0).ss),.i ((v6.getD 1 d0).ii)]
 else
 .fail) 1 fun v7 =>
 .norm [.s ((v7.getD 0 d0).ss),.i (IntKind.i64.wrap ((v7.getD 1 d0).ii + (1:Int)))]
 else
 .ex 0 []
def KU (R:Nat → List DC → Out) (n:Nat) (a:List DC):Out :=
 ja (if (decide ((a.getD 1 d0).ii < (0:Int)))=true then
 .norm [.s ((a.getD 0 d0).ss),.i ((a.getD 1 d0).ii),.b true]
 else
 if (decide ((a.getD 1 d0).ii ≥ (((a.getD 0 d0).ss).length:Int)))=true then
 .norm [.s ((a.getD 0 d0).ss),.i ((a.getD 1 d0).ii),.b true]
 else
 if 0 ≤ (a.getD 1 d0).ii ∧ (a.getD 1 d0).ii < (((a.getD 0 d0).ss).length:Int) then
 .norm [.s ((a.getD 0 d0).ss),.i ((a.getD 1 d0).ii),.b (((((a.getD 0 d0).ss).getD ((a.getD 1 d0).ii).toNat 0).toNat:Int) != (34:Int))]
 else
 .fail) fun v1 =>
 if (v1.getD 2 d0).bb=true then
 .ret [.i (-1:Int)]
 else
 j9 (jG (Yj R n) n [.s ((v1.getD 0 d0).ss),.i (IntKind.i64.wrap ((v1.getD 1 d0).ii + (1:Int)))]) 0 fun v8 =>
 .ret [.i (-1:Int)]
def Yi (R:Nat → List DC → Out) (n:Nat):List DC → Out:=fun v2 =>
 if (decide ((v2.getD 2 d0).ii < (((v2.getD 0 d0).ss).length:Int)))=true then
 j9 (if 0 ≤ (v2.getD 2 d0).ii ∧ (v2.getD 2 d0).ii < (((v2.getD 0 d0).ss).length:Int) then
 ja (if (((((v2.getD 0 d0).ss).getD ((v2.getD 2 d0).ii).toNat 0).toNat:Int) == (92:Int))=true then
 (R 58 [.s ((v2.getD 0 d0).ss),.i ((v2.getD 2 d0).ii)]).bindR fun r3 =>
 .norm [.s ((v2.getD 0 d0).ss),.sl ((v2.getD 1 d0).ll),.i ((r3.getD 0 d0).ii),.i ((r3.getD 1 d0).ii)]
 else
 (R 36 [.s ((v2.getD 0 d0).ss),.i ((v2.getD 2 d0).ii)]).bindR fun r4 =>
 ja (if ((r4.getD 0 d0).ii == (34:Int))=true then
 .norm [.s ((v2.getD 0 d0).ss),.sl ((v2.getD 1 d0).ll),.i ((r4.getD 0 d0).ii),.i (IntKind.i64.wrap ((v2.getD 2 d0).ii + (r4.getD 1 d0).ii)),.b true]
 else
 if (decide ((r4.getD 0 d0).ii < (32:Int)))=true then
 .norm [.s ((v2.getD 0 d0).ss),.sl ((v2.getD 1 d0).ll),.i ((r4.getD 0 d0).ii),.i (IntKind.i64.wrap ((v2.getD 2 d0).ii + (r4.getD 1 d0).ii)),.b ((r4.getD 0 d0).ii != (9:Int))]
 else
 .norm [.s ((v2.getD 0 d0).ss),.sl ((v2.getD 1 d0).ll),.i ((r4.getD 0 d0).ii),.i (IntKind.i64.wrap ((v2.getD 2 d0).ii + (r4.getD 1 d0).ii)),.b false]) fun v5 =>
 ja (if (v5.getD 4 d0).bb=true then
 .norm [.s ((v5.getD 0 d0).ss),.sl ((v5.getD 1 d0).ll),.i (-1:Int),.i ((v5.getD 3 d0).ii)]
 else
 .norm [.s ((v5.getD 0 d0).ss),.sl ((v5.getD 1 d0).ll),.i ((v5.getD 2 d0).ii),.i ((v5.getD 3 d0).ii)]) fun v6 =>
 .norm [.s ((v6.getD 0 d0).ss),.sl ((v6.getD 1 d0).ll),.i ((v6.getD 2 d0).ii),.i ((v6.getD 3 d0).ii)]) fun v7 =>
 if (decide ((v7.getD 2 d0).ii < (0:Int)))=true then
 .ret [.s ([]:List UInt8),.b false]
 else
 (R 39 [.i ((v7.getD 2 d0).ii)]).bindR fun r8 =>
 if ((v7.getD 1 d0).ll).length + (yT ((r8.getD 0 d0).ss)).length < jN then
 .norm [.s ((v7.getD 0 d0).ss),.sl (((v7.getD 1 d0).ll) ++ (yT ((r8.getD 0 d0).ss))),.i ((v7.getD 3 d0).ii)]
 else
 .fail
 else
 .fail) 1 fun v9 =>
 .norm [.s ((v9.getD 0 d0).ss),.sl ((v9.getD 1 d0).ll),.i ((v9.getD 2 d0).ii)]
 else
 .ex 0 [.sl ((v2.getD 1 d0).ll)]
def KT (R:Nat → List DC → Out) (n:Nat) (a:List DC):Out :=
 ja (if (decide ((((a.getD 0 d0).ss).length:Int) < (2:Int)))=true then
 .norm [.s ((a.getD 0 d0).ss),.b true]
 else
 if (decide ((((a.getD 0 d0).ss).length:Int) > (1300:Int)))=true then
 .norm [.s ((a.getD 0 d0).ss),.b true]
 else
 if 0 ≤ (0:Int) ∧ (0:Int) < (((a.getD 0 d0).ss).length:Int) then
 if (((((a.getD 0 d0).ss).getD (0:Int).toNat 0).toNat:Int) != (34:Int))=true then
 .norm [.s ((a.getD 0 d0).ss),.b true]
 else
 if 0 ≤ (IntKind.i64.wrap ((((a.getD 0 d0).ss).length:Int) - (1:Int))) ∧ (IntKind.i64.wrap ((((a.getD 0 d0).ss).length:Int) - (1:Int))) < (((a.getD 0 d0).ss).length:Int) then
 .norm [.s ((a.getD 0 d0).ss),.b (((((a.getD 0 d0).ss).getD (IntKind.i64.wrap ((((a.getD 0 d0).ss).length:Int) - (1:Int))).toNat 0).toNat:Int) != (34:Int))]
 else
 .fail
 else
 .fail) fun v1 =>
 if (v1.getD 1 d0).bb=true then
 .ret [.s ([]:List UInt8),.b false]
 else
 if 0 ≤ (1:Int) ∧ (1:Int) ≤ (IntKind.i64.wrap ((((v1.getD 0 d0).ss).length:Int) - (1:Int))) ∧ (IntKind.i64.wrap ((((v1.getD 0 d0).ss).length:Int) - (1:Int))) ≤ (((v1.getD 0 d0).ss).length:Int) then
 j9 (jG (Yi R n) n [.s ((((v1.getD 0 d0).ss).take (IntKind.i64.wrap ((((v1.getD 0 d0).ss).length:Int) - (1:Int))).toNat).drop (1:Int).toNat),.sl [],.i (0:Int)]) 0 fun v10 =>
 if (decide ((((v10.getD 0 d0).ll).length:Int) > (200:Int)))=true then
 .ret [.s ([]:List UInt8),.b false]
 else
 .ret [.s (kL ((v10.getD 0 d0).ll)),.b true]
 else
 .fail
def KR (R:Nat → List DC → Out) (n:Nat) (a:List DC):Out :=
 ja (if (decide ((a.getD 0 d0).ii ≥ (48:Int)))=true then
 .norm [.b (decide ((a.getD 0 d0).ii ≤ (57:Int)))]
 else
 .norm [.b false]) fun v1 =>
 .ret [.b ((v1.getD 0 d0).bb)]
def KQ (R:Nat → List DC → Out) (n:Nat) (a:List DC):Out :=
 ja (if (decide ((a.getD 0 d0).ii ≥ (97:Int)))=true then
 if (decide ((a.getD 0 d0).ii ≤ (122:Int)))=true then
 .norm [.b true]
 else
 if (decide ((a.getD 0 d0).ii ≥ (65:Int)))=true then
 if (decide ((a.getD 0 d0).ii ≤ (90:Int)))=true then
 .norm [.b true]
 else
 .norm [.b ((a.getD 0 d0).ii == (95:Int))]
 else
 .norm [.b ((a.getD 0 d0).ii == (95:Int))]
 else
 if (decide ((a.getD 0 d0).ii ≥ (65:Int)))=true then
 if (decide ((a.getD 0 d0).ii ≤ (90:Int)))=true then
 .norm [.b true]
 else
 .norm [.b ((a.getD 0 d0).ii == (95:Int))]
 else
 .norm [.b ((a.getD 0 d0).ii == (95:Int))]) fun v1 =>
 .ret [.b ((v1.getD 0 d0).bb)]
def Qx (R:Nat → List DC → Out) (n:Nat) (a:List DC):Out :=
 ja (if (decide ((IntKind.i64.wrap ((a.getD 1 d0).ii + (3:Int))) ≤ (((a.getD 0 d0).ss).length:Int)))=true then
 if 0 ≤ (a.getD 1 d0).ii ∧ (a.getD 1 d0).ii ≤ (IntKind.i64.wrap ((a.getD 1 d0).ii + (3:Int))) ∧ (IntKind.i64.wrap ((a.getD 1 d0).ii + (3:Int))) ≤ (((a.getD 0 d0).ss).length:Int) then
 .norm [.b (((((a.getD 0 d0).ss).take (IntKind.i64.wrap ((a.getD 1 d0).ii + (3:Int))).toNat).drop ((a.getD 1 d0).ii).toNat) == ([34,34,34]:List UInt8))]
 else
 .fail
 else
 .norm [.b false]) fun v1 =>
 .ret [.b ((v1.getD 0 d0).bb)]
def ZR (R:Nat → List DC → Out) (n:Nat):List DC → Out:=fun v1 =>
 ja (if (decide ((v1.getD 1 d0).ii < (((v1.getD 0 d0).ss).length:Int)))=true then
 if 0 ≤ (v1.getD 1 d0).ii ∧ (v1.getD 1 d0).ii < (((v1.getD 0 d0).ss).length:Int) then
 (R 40 [.i ((((v1.getD 0 d0).ss).getD ((v1.getD 1 d0).ii).toNat 0).toNat:Int)]).bindR fun r2 =>
 if (r2.getD 0 d0).bb=true then
 .norm [.s ((v1.getD 0 d0).ss),.i ((v1.getD 1 d0).ii),.b true]
 else
 if 0 ≤ (v1.getD 1 d0).ii ∧ (v1.getD 1 d0).ii < (((v1.getD 0 d0).ss).length:Int) then
 (R 43 [.i ((((v1.getD 0 d0).ss).getD ((v1.getD 1 d0).ii).toNat 0).toNat:Int)]).bindR fun r3 =>
 .norm [.s ((v1.getD 0 d0).ss),.i ((v1.getD 1 d0).ii),.b ((r3.getD 0 d0).bb)]
 else
 .fail
 else
 .fail
 else
 .norm [.s ((v1.getD 0 d0).ss),.i ((v1.getD 1 d0).ii),.b false]) fun v4 =>
 if (v4.getD 2 d0).bb=true then
 j9 (.norm [.s ((v4.getD 0 d0).ss),.i (IntKind.i64.wrap ((v4.getD 1 d0).ii + (1:Int)))]) 1 fun v5 =>
 .norm [.s ((v5.getD 0 d0).ss),.i ((v5.getD 1 d0).ii)]
 else
 .ex 0 [.i ((v4.getD 1 d0).ii)]
def VG (R:Nat → List DC → Out) (n:Nat) (a:List DC):Out :=
 j9 (jG (ZR R n) n [.s ((a.getD 0 d0).ss),.i ((a.getD 1 d0).ii)]) 0 fun v6 =>
 .ret [.i ((v6.getD 0 d0).ii)]
def Yh (R:Nat → List DC → Out) (n:Nat):List DC → Out:=fun v1 =>
 ja (if (decide ((v1.getD 1 d0).ii < (((v1.getD 0 d0).ss).length:Int)))=true then
 if 0 ≤ (v1.getD 1 d0).ii ∧ (v1.getD 1 d0).ii < (((v1.getD 0 d0).ss).length:Int) then
 (R 40 [.i ((((v1.getD 0 d0).ss).getD ((v1.getD 1 d0).ii).toNat 0).toNat:Int)]).bindR fun r2 =>
 if (r2.getD 0 d0).bb=true then
 .norm [.s ((v1.getD 0 d0).ss),.i ((v1.getD 1 d0).ii),.b true]
 else
 if 0 ≤ (v1.getD 1 d0).ii ∧ (v1.getD 1 d0).ii < (((v1.getD 0 d0).ss).length:Int) then
 (R 43 [.i ((((v1.getD 0 d0).ss).getD ((v1.getD 1 d0).ii).toNat 0).toNat:Int)]).bindR fun r3 =>
 if (r3.getD 0 d0).bb=true then
 .norm [.s ((v1.getD 0 d0).ss),.i ((v1.getD 1 d0).ii),.b true]
 else
 if 0 ≤ (v1.getD 1 d0).ii ∧ (v1.getD 1 d0).ii < (((v1.getD 0 d0).ss).length:Int) then
 if (((((v1.getD 0 d0).ss).getD ((v1.getD 1 d0).ii).toNat 0).toNat:Int) == (46:Int))=true then
 .norm [.s ((v1.getD 0 d0).ss),.i ((v1.getD 1 d0).ii),.b true]
 else
 if 0 ≤ (v1.getD 1 d0).ii ∧ (v1.getD 1 d0).ii < (((v1.getD 0 d0).ss).length:Int) then
 if (((((v1.getD 0 d0).ss).getD ((v1.getD 1 d0).ii).toNat 0).toNat:Int) == (43:Int))=true then
 if 0 ≤ (IntKind.i64.wrap ((v1.getD 1 d0).ii - (1:Int))) ∧ (IntKind.i64.wrap ((v1.getD 1 d0).ii - (1:Int))) < (((v1.getD 0 d0).ss).length:Int) then
 if (((((v1.getD 0 d0).ss).getD (IntKind.i64.wrap ((v1.getD 1 d0).ii - (1:Int))).toNat 0).toNat:Int) == (101:Int))=true then
 .norm [.s ((v1.getD 0 d0).ss),.i ((v1.getD 1 d0).ii),.b true]
 else
 if 0 ≤ (IntKind.i64.wrap ((v1.getD 1 d0).ii - (1:Int))) ∧ (IntKind.i64.wrap ((v1.getD 1 d0).ii - (1:Int))) < (((v1.getD 0 d0).ss).length:Int) then
 .norm [.s ((v1.getD 0 d0).ss),.i ((v1.getD 1 d0).ii),.b (((((v1.getD 0 d0).ss).getD (IntKind.i64.wrap ((v1.getD 1 d0).ii - (1:Int))).toNat 0).toNat:Int) == (69:Int))]
 else
 .fail
 else
 .fail
 else
 if 0 ≤ (v1.getD 1 d0).ii ∧ (v1.getD 1 d0).ii < (((v1.getD 0 d0).ss).length:Int) then
 if (((((v1.getD 0 d0).ss).getD ((v1.getD 1 d0).ii).toNat 0).toNat:Int) == (45:Int))=true then
 if 0 ≤ (IntKind.i64.wrap ((v1.getD 1 d0).ii - (1:Int))) ∧ (IntKind.i64.wrap ((v1.getD 1 d0).ii - (1:Int))) < (((v1.getD 0 d0).ss).length:Int) then
 if (((((v1.getD 0 d0).ss).getD (IntKind.i64.wrap ((v1.getD 1 d0).ii - (1:Int))).toNat 0).toNat:Int) == (101:Int))=true then
 .norm [.s ((v1.getD 0 d0).ss),.i ((v1.getD 1 d0).ii),.b true]
 else
 if 0 ≤ (IntKind.i64.wrap ((v1.getD 1 d0).ii - (1:Int))) ∧ (IntKind.i64.wrap ((v1.getD 1 d0).ii - (1:Int))) < (((v1.getD 0 d0).ss).length:Int) then
 .norm [.s ((v1.getD 0 d0).ss),.i ((v1.getD 1 d0).ii),.b (((((v1.getD 0 d0).ss).getD (IntKind.i64.wrap ((v1.getD 1 d0).ii - (1:Int))).toNat 0).toNat:Int) == (69:Int))]
 else
 .fail
 else
 .fail
 else
 .norm [.s ((v1.getD 0 d0).ss),.i ((v1.getD 1 d0).ii),.b false]
 else
 .fail
 else
 .fail
 else
 .fail
 else
 .fail
 else
 .fail
 else
 .norm [.s ((v1.getD 0 d0).ss),.i ((v1.getD 1 d0).ii),.b false]) fun v4 =>
 if (v4.getD 2 d0).bb=true then
 j9 (.norm [.s ((v4.getD 0 d0).ss),.i (IntKind.i64.wrap ((v4.getD 1 d0).ii + (1:Int)))]) 1 fun v5 =>
 .norm [.s ((v5.getD 0 d0).ss),.i ((v5.getD 1 d0).ii)]
 else
 .ex 0 [.i ((v4.getD 1 d0).ii)]
def KP (R:Nat → List DC → Out) (n:Nat) (a:List DC):Out :=
 j9 (jG (Yh R n) n [.s ((a.getD 0 d0).ss),.i (IntKind.i64.wrap ((a.getD 1 d0).ii + (1:Int)))]) 0 fun v6 =>
 .ret [.i ((v6.getD 0 d0).ii)]
def KS (R:Nat → List DC → Out) (n:Nat) (a:List DC):Out :=
 ja ((R 59 [.i ((a.getD 0 d0).ii),.i (0:Int),.i (1114111:Int)]).bindR fun r1 =>
 if (r1.getD 0 d0).bb=true then
 (R 59 [.i ((a.getD 0 d0).ii),.i (55296:Int),.i (57343:Int)]).bindR fun r2 =>
 .norm [.b (!((r2.getD 0 d0).bb))]
 else
 .norm [.b false]) fun v3 =>
 .ret [.b ((v3.getD 0 d0).bb)]
def Xj (R:Nat → List DC → Out) (n:Nat):List DC → Out:=fun v2 =>
 if (decide ((v2.getD 2 d0).ii < (((v2.getD 0 d0).ll).length:Int)))=true then
 j9 (if 9=9 ∧ 0 ≤ (v2.getD 2 d0).ii ∧ (v2.getD 2 d0).ii < (((v2.getD 0 d0).ll).length:Int) then
 (R 61 [.s (((((v2.getD 0 d0).ll).getD ((v2.getD 2 d0).ii).toNat []).getD 0 d0).ss)]).bindR fun r3 =>
 ja (if 9=9 ∧ 0 ≤ (v2.getD 2 d0).ii ∧ (v2.getD 2 d0).ii < (((v2.getD 0 d0).ll).length:Int) then
 if (decide ((r3.getD 0 d0).ii < ((((((v2.getD 0 d0).ll).getD ((v2.getD 2 d0).ii).toNat []).getD 0 d0).ss).length:Int)))=true then
 if (decide ((v2.getD 1 d0).ii < (0:Int)))=true then
 .norm [.sl ((v2.getD 0 d0).ll),.i ((v2.getD 1 d0).ii),.i ((v2.getD 2 d0).ii),.i ((r3.getD 0 d0).ii),.b true]
 else
 .norm [.sl ((v2.getD 0 d0).ll),.i ((v2.getD 1 d0).ii),.i ((v2.getD 2 d0).ii),.i ((r3.getD 0 d0).ii),.b (decide ((r3.getD 0 d0).ii < (v2.getD 1 d0).ii))]
 else
 .norm [.sl ((v2.getD 0 d0).ll),.i ((v2.getD 1 d0).ii),.i ((v2.getD 2 d0).ii),.i ((r3.getD 0 d0).ii),.b false]
 else
 .fail) fun v4 =>
 ja (if (v4.getD 4 d0).bb=true then
 .norm [.sl ((v4.getD 0 d0).ll),.i ((v4.getD 3 d0).ii),.i ((v4.getD 2 d0).ii)]
 else
 .norm [.sl ((v4.getD 0 d0).ll),.i ((v4.getD 1 d0).ii),.i ((v4.getD 2 d0).ii)]) fun v5 =>
 .norm [.sl ((v5.getD 0 d0).ll),.i ((v5.getD 1 d0).ii),.i ((v5.getD 2 d0).ii)]
 else
 .fail) 1 fun v6 =>
 .norm [.sl ((v6.getD 0 d0).ll),.i ((v6.getD 1 d0).ii),.i (IntKind.i64.wrap ((v6.getD 2 d0).ii + (1:Int)))]
 else
 .ex 0 [.sl ((v2.getD 0 d0).ll),.i ((v2.getD 1 d0).ii)]
def Xi (R:Nat → List DC → Out) (n:Nat):List DC → Out:=fun v8 =>
 if (decide ((v8.getD 2 d0).ii < (((v8.getD 0 d0).ll).length:Int)))=true then
 j9 (if 9=9 ∧ 0 ≤ (v8.getD 2 d0).ii ∧ (v8.getD 2 d0).ii < (((v8.getD 0 d0).ll).length:Int) then
 (R 61 [.s (((((v8.getD 0 d0).ll).getD ((v8.getD 2 d0).ii).toNat []).getD 0 d0).ss)]).bindR fun r9 =>
 ja (if (decide ((v8.getD 1 d0).ii ≥ (0:Int)))=true then
 .norm [.sl ((v8.getD 0 d0).ll),.i ((v8.getD 1 d0).ii),.i ((v8.getD 2 d0).ii),.i ((r9.getD 0 d0).ii),.b (decide ((r9.getD 0 d0).ii > (v8.getD 1 d0).ii))]
 else
 .norm [.sl ((v8.getD 0 d0).ll),.i ((v8.getD 1 d0).ii),.i ((v8.getD 2 d0).ii),.i ((r9.getD 0 d0).ii),.b false]) fun v10 =>
 ja (if (v10.getD 4 d0).bb=true then
 .norm [.sl ((v10.getD 0 d0).ll),.i ((v10.getD 1 d0).ii),.i ((v10.getD 2 d0).ii),.i ((v10.getD 1 d0).ii)]
 else
 .norm [.sl ((v10.getD 0 d0).ll),.i ((v10.getD 1 d0).ii),.i ((v10.getD 2 d0).ii),.i ((v10.getD 3 d0).ii)]) fun v11 =>
 ja (if (decide ((v11.getD 1 d0).ii < (0:Int)))=true then
 .norm [.sl ((v11.getD 0 d0).ll),.i ((v11.getD 1 d0).ii),.i ((v11.getD 2 d0).ii),.i (0:Int)]
 else
 .norm [.sl ((v11.getD 0 d0).ll),.i ((v11.getD 1 d0).ii),.i ((v11.getD 2 d0).ii),.i ((v11.getD 3 d0).ii)]) fun v12 =>
 if 9=9 ∧ 0 ≤ (v12.getD 2 d0).ii ∧ (v12.getD 2 d0).ii < (((v12.getD 0 d0).ll).length:Int) then
 if 0 ≤ (v12.getD 3 d0).ii ∧ (v12.getD 3 d0).ii ≤ ((((((v12.getD 0 d0).ll).getD ((v12.getD 2 d0).ii).toNat []).getD 0 d0).ss).length:Int) then
 if 9=9 ∧ 0 ≤ (v12.getD 2 d0).ii ∧ (v12.getD 2 d0).ii < (((v12.getD 0 d0).ll).length:Int) then
 .norm [.sl (((v12.getD 0 d0).ll).set (((v12.getD 2 d0).ii).toNat) (VM (((v12.getD 0 d0).ll).getD (((v12.getD 2 d0).ii).toNat) []) 0 [DC.s ((((((v12.getD 0 d0).ll).getD ((v12.getD 2 d0).ii).toNat []).getD 0 d0).ss).drop ((v12.getD 3 d0).ii).toNat)])),.i ((v12.getD 1 d0).ii),.i ((v12.getD 2 d0).ii)]
 else
 .fail
 else
 .fail
 else
 .fail
 else
 .fail) 3 fun v13 =>
 .norm [.sl ((v13.getD 0 d0).ll),.i ((v13.getD 1 d0).ii),.i (IntKind.i64.wrap ((v13.getD 2 d0).ii + (1:Int)))]
 else
 .ex 2 [.sl ((v8.getD 0 d0).ll)]
def Xh (R:Nat → List DC → Out) (n:Nat):List DC → Out:=fun v15 =>
 ja (if (decide ((v15.getD 1 d0).ii < (((v15.getD 0 d0).ll).length:Int)))=true then
 if 9=9 ∧ 0 ≤ (v15.getD 1 d0).ii ∧ (v15.getD 1 d0).ii < (((v15.getD 0 d0).ll).length:Int) then
 (R 61 [.s (((((v15.getD 0 d0).ll).getD ((v15.getD 1 d0).ii).toNat []).getD 0 d0).ss)]).bindR fun r16 =>
 if 9=9 ∧ 0 ≤ (v15.getD 1 d0).ii ∧ (v15.getD 1 d0).ii < (((v15.getD 0 d0).ll).length:Int) then
 .norm [.sl ((v15.getD 0 d0).ll),.i ((v15.getD 1 d0).ii),.b ((r16.getD 0 d0).ii == ((((((v15.getD 0 d0).ll).getD ((v15.getD 1 d0).ii).toNat []).getD 0 d0).ss).length:Int))]
 else
 .fail
 else
 .fail
 else
 .norm [.sl ((v15.getD 0 d0).ll),.i ((v15.getD 1 d0).ii),.b false]) fun v17 =>
 if (v17.getD 2 d0).bb=true then
 j9 (.norm [.sl ((v17.getD 0 d0).ll),.i (IntKind.i64.wrap ((v17.getD 1 d0).ii + (1:Int)))]) 5 fun v18 =>
 .norm [.sl ((v18.getD 0 d0).ll),.i ((v18.getD 1 d0).ii)]
 else
 .ex 4 [.sl ((v17.getD 0 d0).ll),.i ((v17.getD 1 d0).ii)]
def Xg (R:Nat → List DC → Out) (n:Nat):List DC → Out:=fun v20 =>
 ja (if (decide ((v20.getD 2 d0).ii > (v20.getD 1 d0).ii))=true then
 if 9=9 ∧ 0 ≤ (IntKind.i64.wrap ((v20.getD 2 d0).ii - (1:Int))) ∧ (IntKind.i64.wrap ((v20.getD 2 d0).ii - (1:Int))) < (((v20.getD 0 d0).ll).length:Int) then
 (R 61 [.s (((((v20.getD 0 d0).ll).getD (IntKind.i64.wrap ((v20.getD 2 d0).ii - (1:Int))).toNat []).getD 0 d0).ss)]).bindR fun r21 =>
 if 9=9 ∧ 0 ≤ (IntKind.i64.wrap ((v20.getD 2 d0).ii - (1:Int))) ∧ (IntKind.i64.wrap ((v20.getD 2 d0).ii - (1:Int))) < (((v20.getD 0 d0).ll).length:Int) then
 .norm [.sl ((v20.getD 0 d0).ll),.i ((v20.getD 1 d0).ii),.i ((v20.getD 2 d0).ii),.b ((r21.getD 0 d0).ii == ((((((v20.getD 0 d0).ll).getD (IntKind.i64.wrap ((v20.getD 2 d0).ii - (1:Int))).toNat []).getD 0 d0).ss).length:Int))]
 else
 .fail
 else
 .fail
 else
 .norm [.sl ((v20.getD 0 d0).ll),.i ((v20.getD 1 d0).ii),.i ((v20.getD 2 d0).ii),.b false]) fun v22 =>
 if (v22.getD 3 d0).bb=true then
 j9 (.norm [.sl ((v22.getD 0 d0).ll),.i ((v22.getD 1 d0).ii),.i (IntKind.i64.wrap ((v22.getD 2 d0).ii - (1:Int)))]) 7 fun v23 =>
 .norm [.sl ((v23.getD 0 d0).ll),.i ((v23.getD 1 d0).ii),.i ((v23.getD 2 d0).ii)]
 else
 .ex 6 [.sl ((v22.getD 0 d0).ll),.i ((v22.getD 1 d0).ii),.i ((v22.getD 2 d0).ii)]
def Xf (R:Nat → List DC → Out) (n:Nat):List DC → Out:=fun v25 =>
 if (decide ((v25.getD 4 d0).ii < (v25.getD 2 d0).ii))=true then
 j9 (ja (if (decide ((v25.getD 4 d0).ii > (v25.getD 1 d0).ii))=true then
 if ((v25.getD 3 d0).ll).length + [[DC.i (10:Int)]].length < jN then
 .norm [.sl ((v25.getD 0 d0).ll),.i ((v25.getD 1 d0).ii),.i ((v25.getD 2 d0).ii),.sl (((v25.getD 3 d0).ll) ++ [[DC.i (10:Int)]]),.i ((v25.getD 4 d0).ii)]
 else
 .fail
 else
 .norm [.sl ((v25.getD 0 d0).ll),.i ((v25.getD 1 d0).ii),.i ((v25.getD 2 d0).ii),.sl ((v25.getD 3 d0).ll),.i ((v25.getD 4 d0).ii)]) fun v26 =>
 if 9=9 ∧ 0 ≤ (v26.getD 4 d0).ii ∧ (v26.getD 4 d0).ii < (((v26.getD 0 d0).ll).length:Int) then
 if ((v26.getD 3 d0).ll).length + (yT (((((v26.getD 0 d0).ll).getD ((v26.getD 4 d0).ii).toNat []).getD 0 d0).ss)).length < jN then
 .norm [.sl ((v26.getD 0 d0).ll),.i ((v26.getD 1 d0).ii),.i ((v26.getD 2 d0).ii),.sl (((v26.getD 3 d0).ll) ++ (yT (((((v26.getD 0 d0).ll).getD ((v26.getD 4 d0).ii).toNat []).getD 0 d0).ss))),.i ((v26.getD 4 d0).ii)]
 else
 .fail
 else
 .fail) 9 fun v27 =>
 .norm [.sl ((v27.getD 0 d0).ll),.i ((v27.getD 1 d0).ii),.i ((v27.getD 2 d0).ii),.sl ((v27.getD 3 d0).ll),.i (IntKind.i64.wrap ((v27.getD 4 d0).ii + (1:Int)))]
 else
 .ex 8 [.sl ((v25.getD 3 d0).ll)]
def Kf (R:Nat → List DC → Out) (n:Nat) (a:List DC):Out :=
 (R 60 [.s ((a.getD 0 d0).ss)]).bindR fun r1 =>
 j9 (jG (Xj R n) n [.sl ((r1.getD 0 d0).ll),.i (-1:Int),.i (1:Int)]) 0 fun v7 =>
 j9 (jG (Xi R n) n [.sl ((v7.getD 0 d0).ll),.i ((v7.getD 1 d0).ii),.i (1:Int)]) 2 fun v14 =>
 j9 (jG (Xh R n) n [.sl ((v14.getD 0 d0).ll),.i (0:Int)]) 4 fun v19 =>
 j9 (jG (Xg R n) n [.sl ((v19.getD 0 d0).ll),.i ((v19.getD 1 d0).ii),.i (((v19.getD 0 d0).ll).length:Int)]) 6 fun v24 =>
 j9 (jG (Xf R n) n [.sl ((v24.getD 0 d0).ll),.i ((v24.getD 1 d0).ii),.i ((v24.getD 2 d0).ii),.sl [],.i ((v24.getD 1 d0).ii)]) 8 fun v28 =>
 .ret [.s (kL ((v28.getD 0 d0).ll))]
def j0W (R:Nat → List DC → Out) (n:Nat):List DC → Out:=fun v1 =>
 if (decide ((v1.getD 1 d0).ii < (((v1.getD 0 d0).ss).length:Int)))=true then
 j9 ((R 36 [.s ((v1.getD 0 d0).ss),.i ((v1.getD 1 d0).ii)]).bindR fun r2 =>
 if (decide ((r2.getD 0 d0).ii < (0:Int)))=true then
 .ret [.b false]
 else
 .norm [.s ((v1.getD 0 d0).ss),.i (IntKind.i64.wrap ((v1.getD 1 d0).ii + (r2.getD 1 d0).ii))]) 1 fun v3 =>
 .norm [.s ((v3.getD 0 d0).ss),.i ((v3.getD 1 d0).ii)]
 else
 .ex 0 []
def XA (R:Nat → List DC → Out) (n:Nat) (a:List DC):Out :=
 j9 (jG (j0W R n) n [.s ((a.getD 0 d0).ss),.i (0:Int)]) 0 fun v4 =>
 .ret [.b true]
def Xz (R:Nat → List DC → Out) (n:Nat) (a:List DC):Out :=
 ja (if (decide ((((a.getD 0 d0).ss).length:Int) > (0:Int)))=true then
 if 0 ≤ (0:Int) ∧ (0:Int) < (((a.getD 0 d0).ss).length:Int) then
 .norm [.s ((a.getD 0 d0).ss),.i (0:Int),.b (((((a.getD 0 d0).ss).getD (0:Int).toNat 0).toNat:Int) == (45:Int))]
 else
 .fail
 else
 .norm [.s ((a.getD 0 d0).ss),.i (0:Int),.b false]) fun v1 =>
 ja (if (v1.getD 2 d0).bb=true then
 .norm [.s ((v1.getD 0 d0).ss),.i (1:Int)]
 else
 .norm [.s ((v1.getD 0 d0).ss),.i ((v1.getD 1 d0).ii)]) fun v2 =>
 (R 57 [.s ((v2.getD 0 d0).ss),.i ((v2.getD 1 d0).ii)]).bindR fun r3 =>
 ja (if ((r3.getD 0 d0).ii == (v2.getD 1 d0).ii)=true then
 .norm [.i ((r3.getD 0 d0).ii),.b true]
 else
 if 0 ≤ (v2.getD 1 d0).ii ∧ (v2.getD 1 d0).ii < (((v2.getD 0 d0).ss).length:Int) then
 if (((((v2.getD 0 d0).ss).getD ((v2.getD 1 d0).ii).toNat 0).toNat:Int) == (48:Int))=true then
 .norm [.i ((r3.getD 0 d0).ii),.b (decide ((r3.getD 0 d0).ii > (IntKind.i64.wrap ((v2.getD 1 d0).ii + (1:Int)))))]
 else
 .norm [.i ((r3.getD 0 d0).ii),.b false]
 else
 .fail) fun v4 =>
 if (v4.getD 1 d0).bb=true then
 .ret [.i (0:Int)]
 else
 .ret [.i ((v4.getD 0 d0).ii)]
def j0V (R:Nat → List DC → Out) (n:Nat):List DC → Out:=fun v1 =>
 ja (if (decide ((v1.getD 1 d0).ii < (((v1.getD 0 d0).ss).length:Int)))=true then
 if 0 ≤ (v1.getD 1 d0).ii ∧ (v1.getD 1 d0).ii < (((v1.getD 0 d0).ss).length:Int) then
 (R 43 [.i ((((v1.getD 0 d0).ss).getD ((v1.getD 1 d0).ii).toNat 0).toNat:Int)]).bindR fun r2 =>
 .norm [.s ((v1.getD 0 d0).ss),.i ((v1.getD 1 d0).ii),.b ((r2.getD 0 d0).bb)]
 else
 .fail
 else
 .norm [.s ((v1.getD 0 d0).ss),.i ((v1.getD 1 d0).ii),.b false]) fun v3 =>
 if (v3.getD 2 d0).bb=true then
 j9 (.norm [.s ((v3.getD 0 d0).ss),.i (IntKind.i64.wrap ((v3.getD 1 d0).ii + (1:Int)))]) 1 fun v4 =>
 .norm [.s ((v4.getD 0 d0).ss),.i ((v4.getD 1 d0).ii)]
 else
 .ex 0 [.i ((v3.getD 1 d0).ii)]
def Xy (R:Nat → List DC → Out) (n:Nat) (a:List DC):Out :=
 j9 (jG (j0V R n) n [.s ((a.getD 0 d0).ss),.i ((a.getD 1 d0).ii)]) 0 fun v5 =>
 .ret [.i ((v5.getD 0 d0).ii)]
def ZS (R:Nat → List DC → Out) (n:Nat):List DC → Out:=fun v5 =>
 ja (if (decide ((v5.getD 2 d0).ii < (((v5.getD 0 d0).ss).length:Int)))=true then
 if (decide ((v5.getD 2 d0).ii < (IntKind.i64.wrap ((v5.getD 1 d0).ii + (10:Int)))))=true then
 if 0 ≤ (v5.getD 2 d0).ii ∧ (v5.getD 2 d0).ii < (((v5.getD 0 d0).ss).length:Int) then
 (R 62 [.i ((((v5.getD 0 d0).ss).getD ((v5.getD 2 d0).ii).toNat 0).toNat:Int)]).bindR fun r6 =>
 .norm [.s ((v5.getD 0 d0).ss),.i ((v5.getD 1 d0).ii),.i ((v5.getD 2 d0).ii),.b (decide ((r6.getD 0 d0).ii ≥ (0:Int)))]
 else
 .fail
 else
 .norm [.s ((v5.getD 0 d0).ss),.i ((v5.getD 1 d0).ii),.i ((v5.getD 2 d0).ii),.b false]
 else
 .norm [.s ((v5.getD 0 d0).ss),.i ((v5.getD 1 d0).ii),.i ((v5.getD 2 d0).ii),.b false]) fun v7 =>
 if (v7.getD 3 d0).bb=true then
 j9 (.norm [.s ((v7.getD 0 d0).ss),.i ((v7.getD 1 d0).ii),.i (IntKind.i64.wrap ((v7.getD 2 d0).ii + (1:Int)))]) 2 fun v8 =>
 .norm [.s ((v8.getD 0 d0).ss),.i ((v8.getD 1 d0).ii),.i ((v8.getD 2 d0).ii)]
 else
 .ex 1 [.s ((v7.getD 0 d0).ss),.i ((v7.getD 1 d0).ii),.i ((v7.getD 2 d0).ii)]
def VH (R:Nat → List DC → Out) (n:Nat) (a:List DC):Out :=
 if (decide ((IntKind.i64.wrap ((a.getD 1 d0).ii + (1:Int))) ≥ (((a.getD 0 d0).ss).length:Int)))=true then
 .ret [.i (-1:Int),.i ((a.getD 1 d0).ii)]
 else
 if 0 ≤ (IntKind.i64.wrap ((a.getD 1 d0).ii + (1:Int))) ∧ (IntKind.i64.wrap ((a.getD 1 d0).ii + (1:Int))) < (((a.getD 0 d0).ss).length:Int) then
 j9 (ja (if (((((a.getD 0 d0).ss).getD (IntKind.i64.wrap ((a.getD 1 d0).ii + (1:Int))).toNat 0).toNat:Int) == (34:Int))=true then
 .norm [.s ((a.getD 0 d0).ss),.i ((a.getD 1 d0).ii),.i ((((a.getD 0 d0).ss).getD (IntKind.i64.wrap ((a.getD 1 d0).ii + (1:Int))).toNat 0).toNat:Int),.b (((((a.getD 0 d0).ss).getD (IntKind.i64.wrap ((a.getD 1 d0).ii + (1:Int))).toNat 0).toNat:Int) == (34:Int))]
 else
 ja (if (((((a.getD 0 d0).ss).getD (IntKind.i64.wrap ((a.getD 1 d0).ii + (1:Int))).toNat 0).toNat:Int) == (92:Int))=true then
 .norm [.s ((a.getD 0 d0).ss),.i ((a.getD 1 d0).ii),.i ((((a.getD 0 d0).ss).getD (IntKind.i64.wrap ((a.getD 1 d0).ii + (1:Int))).toNat 0).toNat:Int),.b (((((a.getD 0 d0).ss).getD (IntKind.i64.wrap ((a.getD 1 d0).ii + (1:Int))).toNat 0).toNat:Int) == (92:Int))]
 else
 .norm [.s ((a.getD 0 d0).ss),.i ((a.getD 1 d0).ii),.i ((((a.getD 0 d0).ss).getD (IntKind.i64.wrap ((a.getD 1 d0).ii + (1:Int))).toNat 0).toNat:Int),.b (((((a.getD 0 d0).ss).getD (IntKind.i64.wrap ((a.getD 1 d0).ii + (1:Int))).toNat 0).toNat:Int) == (47:Int))]) fun v1 =>
 .norm [.s ((v1.getD 0 d0).ss),.i ((v1.getD 1 d0).ii),.i ((v1.getD 2 d0).ii),.b ((v1.getD 3 d0).bb)]) fun v2 =>
 if (v2.getD 3 d0).bb=true then
 if 0 ≤ (IntKind.i64.wrap ((v2.getD 1 d0).ii + (1:Int))) ∧ (IntKind.i64.wrap ((v2.getD 1 d0).ii + (1:Int))) < (((v2.getD 0 d0).ss).length:Int) then
 .ret [.i (IntKind.i64.wrap ((((v2.getD 0 d0).ss).getD (IntKind.i64.wrap ((v2.getD 1 d0).ii + (1:Int))).toNat 0).toNat:Int)),.i (IntKind.i64.wrap ((v2.getD 1 d0).ii + (2:Int)))]
 else
 .fail
 else
 if ((v2.getD 2 d0).ii == (98:Int))=true then
 .ret [.i (8:Int),.i (IntKind.i64.wrap ((v2.getD 1 d0).ii + (2:Int)))]
 else
 if ((v2.getD 2 d0).ii == (116:Int))=true then
 .ret [.i (9:Int),.i (IntKind.i64.wrap ((v2.getD 1 d0).ii + (2:Int)))]
 else
 if ((v2.getD 2 d0).ii == (110:Int))=true then
 .ret [.i (10:Int),.i (IntKind.i64.wrap ((v2.getD 1 d0).ii + (2:Int)))]
 else
 if ((v2.getD 2 d0).ii == (102:Int))=true then
 .ret [.i (12:Int),.i (IntKind.i64.wrap ((v2.getD 1 d0).ii + (2:Int)))]
 else
 if ((v2.getD 2 d0).ii == (114:Int))=true then
 .ret [.i (13:Int),.i (IntKind.i64.wrap ((v2.getD 1 d0).ii + (2:Int)))]
 else
 if ((v2.getD 2 d0).ii == (117:Int))=true then
 .norm [.s ((v2.getD 0 d0).ss),.i ((v2.getD 1 d0).ii)]
 else
 .ret [.i (-1:Int),.i ((v2.getD 1 d0).ii)]) 0 fun v3 =>
 ja (if (decide ((IntKind.i64.wrap ((v3.getD 1 d0).ii + (2:Int))) < (((v3.getD 0 d0).ss).length:Int)))=true then
 if 0 ≤ (IntKind.i64.wrap ((v3.getD 1 d0).ii + (2:Int))) ∧ (IntKind.i64.wrap ((v3.getD 1 d0).ii + (2:Int))) < (((v3.getD 0 d0).ss).length:Int) then
 .norm [.s ((v3.getD 0 d0).ss),.i ((v3.getD 1 d0).ii),.b (((((v3.getD 0 d0).ss).getD (IntKind.i64.wrap ((v3.getD 1 d0).ii + (2:Int))).toNat 0).toNat:Int) == (123:Int))]
 else
 .fail
 else
 .norm [.s ((v3.getD 0 d0).ss),.i ((v3.getD 1 d0).ii),.b false]) fun v4 =>
 if (v4.getD 2 d0).bb=true then
 j9 (jG (ZS R n) n [.s ((v4.getD 0 d0).ss),.i ((v4.getD 1 d0).ii),.i (IntKind.i64.wrap ((v4.getD 1 d0).ii + (3:Int)))]) 1 fun v9 =>
 (R 63 [.s ((v9.getD 0 d0).ss),.i (IntKind.i64.wrap ((v9.getD 1 d0).ii + (3:Int))),.i ((v9.getD 2 d0).ii)]).bindR fun r10 =>
 ja (if ((v9.getD 2 d0).ii == (IntKind.i64.wrap ((v9.getD 1 d0).ii + (3:Int))))=true then
 .norm [.i ((v9.getD 1 d0).ii),.i ((v9.getD 2 d0).ii),.i ((r10.getD 0 d0).ii),.b true]
 else
 if (decide ((v9.getD 2 d0).ii > (IntKind.i64.wrap ((v9.getD 1 d0).ii + (9:Int)))))=true then
 .norm [.i ((v9.getD 1 d0).ii),.i ((v9.getD 2 d0).ii),.i ((r10.getD 0 d0).ii),.b true]
 else
 if (decide ((v9.getD 2 d0).ii ≥ (((v9.getD 0 d0).ss).length:Int)))=true then
 .norm [.i ((v9.getD 1 d0).ii),.i ((v9.getD 2 d0).ii),.i ((r10.getD 0 d0).ii),.b true]
 else
 if 0 ≤ (v9.getD 2 d0).ii ∧ (v9.getD 2 d0).ii < (((v9.getD 0 d0).ss).length:Int) then
 if (((((v9.getD 0 d0).ss).getD ((v9.getD 2 d0).ii).toNat 0).toNat:Int) != (125:Int))=true then
 .norm [.i ((v9.getD 1 d0).ii),.i ((v9.getD 2 d0).ii),.i ((r10.getD 0 d0).ii),.b true]
 else
 (R 53 [.i ((r10.getD 0 d0).ii)]).bindR fun r11 =>
 .norm [.i ((v9.getD 1 d0).ii),.i ((v9.getD 2 d0).ii),.i ((r10.getD 0 d0).ii),.b (!((r11.getD 0 d0).bb))]
 else
 .fail) fun v12 =>
 if (v12.getD 3 d0).bb=true then
 .ret [.i (-1:Int),.i ((v12.getD 0 d0).ii)]
 else
 .ret [.i ((v12.getD 2 d0).ii),.i (IntKind.i64.wrap ((v12.getD 1 d0).ii + (1:Int)))]
 else
 (R 63 [.s ((v4.getD 0 d0).ss),.i (IntKind.i64.wrap ((v4.getD 1 d0).ii + (2:Int))),.i (IntKind.i64.wrap ((v4.getD 1 d0).ii + (6:Int)))]).bindR fun r13 =>
 if (decide ((r13.getD 0 d0).ii < (0:Int)))=true then
 .ret [.i (-1:Int),.i ((v4.getD 1 d0).ii)]
 else
 ja ((R 59 [.i ((r13.getD 0 d0).ii),.i (55296:Int),.i (56319:Int)]).bindR fun r14 =>
 if (r14.getD 0 d0).bb=true then
 if (decide ((IntKind.i64.wrap ((v4.getD 1 d0).ii + (7:Int))) < (((v4.getD 0 d0).ss).length:Int)))=true then
 if 0 ≤ (IntKind.i64.wrap ((v4.getD 1 d0).ii + (6:Int))) ∧ (IntKind.i64.wrap ((v4.getD 1 d0).ii + (6:Int))) < (((v4.getD 0 d0).ss).length:Int) then
 if (((((v4.getD 0 d0).ss).getD (IntKind.i64.wrap ((v4.getD 1 d0).ii + (6:Int))).toNat 0).toNat:Int) == (92:Int))=true then
 if 0 ≤ (IntKind.i64.wrap ((v4.getD 1 d0).ii + (7:Int))) ∧ (IntKind.i64.wrap ((v4.getD 1 d0).ii + (7:Int))) < (((v4.getD 0 d0).ss).length:Int) then
 .norm [.s ((v4.getD 0 d0).ss),.i ((v4.getD 1 d0).ii),.i ((r13.getD 0 d0).ii),.b (((((v4.getD 0 d0).ss).getD (IntKind.i64.wrap ((v4.getD 1 d0).ii + (7:Int))).toNat 0).toNat:Int) == (117:Int))]
 else
 .fail
 else
 .norm [.s ((v4.getD 0 d0).ss),.i ((v4.getD 1 d0).ii),.i ((r13.getD 0 d0).ii),.b false]
 else
 .fail
 else
 .norm [.s ((v4.getD 0 d0).ss),.i ((v4.getD 1 d0).ii),.i ((r13.getD 0 d0).ii),.b false]
 else
 .norm [.s ((v4.getD 0 d0).ss),.i ((v4.getD 1 d0).ii),.i ((r13.getD 0 d0).ii),.b false]) fun v15 =>
 if (v15.getD 3 d0).bb=true then
 (R 63 [.s ((v15.getD 0 d0).ss),.i (IntKind.i64.wrap ((v15.getD 1 d0).ii + (8:Int))),.i (IntKind.i64.wrap ((v15.getD 1 d0).ii + (12:Int)))]).bindR fun r16 =>
 (R 59 [.i ((r16.getD 0 d0).ii),.i (56320:Int),.i (57343:Int)]).bindR fun r17 =>
 if (!((r17.getD 0 d0).bb))=true then
 .ret [.i (-1:Int),.i ((v15.getD 1 d0).ii)]
 else
 .ret [.i (IntKind.i64.wrap ((IntKind.i64.wrap ((IntKind.i64.wrap ((65536:Int) + (IntKind.i64.wrap ((1024:Int) * (IntKind.i64.wrap ((v15.getD 2 d0).ii - (55296:Int))))))) + (r16.getD 0 d0).ii)) - (56320:Int))),.i (IntKind.i64.wrap ((v15.getD 1 d0).ii + (12:Int)))]
 else
 (R 53 [.i ((v15.getD 2 d0).ii)]).bindR fun r18 =>
 if (!((r18.getD 0 d0).bb))=true then
 .ret [.i (-1:Int),.i ((v15.getD 1 d0).ii)]
 else
 .ret [.i ((v15.getD 2 d0).ii),.i (IntKind.i64.wrap ((v15.getD 1 d0).ii + (6:Int)))]
 else
 .fail
def Z5 (R:Nat → List DC → Out) (n:Nat) (a:List DC):Out :=
 ja (if (decide ((a.getD 0 d0).ii ≥ (a.getD 1 d0).ii))=true then
 .norm [.b (decide ((a.getD 0 d0).ii ≤ (a.getD 2 d0).ii))]
 else
 .norm [.b false]) fun v1 =>
 .ret [.b ((v1.getD 0 d0).bb)]
def j0Z (R:Nat → List DC → Out) (n:Nat):List DC → Out:=fun v1 =>
 ja (if (decide ((v1.getD 1 d0).ii < (((v1.getD 0 d0).ss).length:Int)))=true then
 if 0 ≤ (v1.getD 1 d0).ii ∧ (v1.getD 1 d0).ii < (((v1.getD 0 d0).ss).length:Int) then
 if (((((v1.getD 0 d0).ss).getD ((v1.getD 1 d0).ii).toNat 0).toNat:Int) == (32:Int))=true then
 .norm [.s ((v1.getD 0 d0).ss),.i ((v1.getD 1 d0).ii),.b true]
 else
 if 0 ≤ (v1.getD 1 d0).ii ∧ (v1.getD 1 d0).ii < (((v1.getD 0 d0).ss).length:Int) then
 .norm [.s ((v1.getD 0 d0).ss),.i ((v1.getD 1 d0).ii),.b (((((v1.getD 0 d0).ss).getD ((v1.getD 1 d0).ii).toNat 0).toNat:Int) == (9:Int))]
 else
 .fail
 else
 .fail
 else
 .norm [.s ((v1.getD 0 d0).ss),.i ((v1.getD 1 d0).ii),.b false]) fun v2 =>
 if (v2.getD 2 d0).bb=true then
 j9 (.norm [.s ((v2.getD 0 d0).ss),.i (IntKind.i64.wrap ((v2.getD 1 d0).ii + (1:Int)))]) 1 fun v3 =>
 .norm [.s ((v3.getD 0 d0).ss),.i ((v3.getD 1 d0).ii)]
 else
 .ex 0 [.i ((v2.getD 1 d0).ii)]
def XF (R:Nat → List DC → Out) (n:Nat) (a:List DC):Out :=
 j9 (jG (j0Z R n) n [.s ((a.getD 0 d0).ss),.i (0:Int)]) 0 fun v4 =>
 .ret [.i ((v4.getD 0 d0).ii)]
def ZT (R:Nat → List DC → Out) (n:Nat):List DC → Out:=fun v1 =>
 if (decide ((v1.getD 3 d0).ii < (((v1.getD 0 d0).ss).length:Int)))=true then
 j9 (ja (if 0 ≤ (v1.getD 3 d0).ii ∧ (v1.getD 3 d0).ii < (((v1.getD 0 d0).ss).length:Int) then
 if (((((v1.getD 0 d0).ss).getD ((v1.getD 3 d0).ii).toNat 0).toNat:Int) == (13:Int))=true then
 .norm [.s ((v1.getD 0 d0).ss),.sl ((v1.getD 1 d0).ll),.i ((v1.getD 2 d0).ii),.i ((v1.getD 3 d0).ii),.b true]
 else
 if 0 ≤ (v1.getD 3 d0).ii ∧ (v1.getD 3 d0).ii < (((v1.getD 0 d0).ss).length:Int) then
 .norm [.s ((v1.getD 0 d0).ss),.sl ((v1.getD 1 d0).ll),.i ((v1.getD 2 d0).ii),.i ((v1.getD 3 d0).ii),.b (((((v1.getD 0 d0).ss).getD ((v1.getD 3 d0).ii).toNat 0).toNat:Int) == (10:Int))]
 else
 .fail
 else
 .fail) fun v2 =>
 ja (if (v2.getD 4 d0).bb=true then
 if 0 ≤ (v2.getD 2 d0).ii ∧ (v2.getD 2 d0).ii ≤ (v2.getD 3 d0).ii ∧ (v2.getD 3 d0).ii ≤ (((v2.getD 0 d0).ss).length:Int) then
 if ((v2.getD 1 d0).ll).length + [[DC.s ((((v2.getD 0 d0).ss).take ((v2.getD 3 d0).ii).toNat).drop ((v2.getD 2 d0).ii).toNat)]].length < jN then
 ja (if 0 ≤ (v2.getD 3 d0).ii ∧ (v2.getD 3 d0).ii < (((v2.getD 0 d0).ss).length:Int) then
 if (((((v2.getD 0 d0).ss).getD ((v2.getD 3 d0).ii).toNat 0).toNat:Int) == (13:Int))=true then
 if (decide ((IntKind.i64.wrap ((v2.getD 3 d0).ii + (1:Int))) < (((v2.getD 0 d0).ss).length:Int)))=true then
 if 0 ≤ (IntKind.i64.wrap ((v2.getD 3 d0).ii + (1:Int))) ∧ (IntKind.i64.wrap ((v2.getD 3 d0).ii + (1:Int))) < (((v2.getD 0 d0).ss).length:Int) then
 .norm [.s ((v2.getD 0 d0).ss),.sl (((v2.getD 1 d0).ll) ++ [[DC.s ((((v2.getD 0 d0).ss).take ((v2.getD 3 d0).ii).toNat).drop ((v2.getD 2 d0).ii).toNat)]]),.i ((v2.getD 3 d0).ii),.b (((((v2.getD 0 d0).ss).getD (IntKind.i64.wrap ((v2.getD 3 d0).ii + (1:Int))).toNat 0).toNat:Int) == (10:Int))]
 else
 .fail
 else
 .norm [.s ((v2.getD 0 d0).ss),.sl (((v2.getD 1 d0).ll) ++ [[DC.s ((((v2.getD 0 d0).ss).take ((v2.getD 3 d0).ii).toNat).drop ((v2.getD 2 d0).ii).toNat)]]),.i ((v2.getD 3 d0).ii),.b false]
 else
 .norm [.s ((v2.getD 0 d0).ss),.sl (((v2.getD 1 d0).ll) ++ [[DC.s ((((v2.getD 0 d0).ss).take ((v2.getD 3 d0).ii).toNat).drop ((v2.getD 2 d0).ii).toNat)]]),.i ((v2.getD 3 d0).ii),.b false]
 else
 .fail) fun v3 =>
 ja (if (v3.getD 3 d0).bb=true then
 .norm [.s ((v3.getD 0 d0).ss),.sl ((v3.getD 1 d0).ll),.i (IntKind.i64.wrap ((v3.getD 2 d0).ii + (1:Int)))]
 else
 .norm [.s ((v3.getD 0 d0).ss),.sl ((v3.getD 1 d0).ll),.i ((v3.getD 2 d0).ii)]) fun v4 =>
 .norm [.s ((v4.getD 0 d0).ss),.sl ((v4.getD 1 d0).ll),.i (IntKind.i64.wrap ((v4.getD 2 d0).ii + (1:Int))),.i ((v4.getD 2 d0).ii)]
 else
 .fail
 else
 .fail
 else
 .norm [.s ((v2.getD 0 d0).ss),.sl ((v2.getD 1 d0).ll),.i ((v2.getD 2 d0).ii),.i ((v2.getD 3 d0).ii)]) fun v5 =>
 .norm [.s ((v5.getD 0 d0).ss),.sl ((v5.getD 1 d0).ll),.i ((v5.getD 2 d0).ii),.i ((v5.getD 3 d0).ii)]) 1 fun v6 =>
 .norm [.s ((v6.getD 0 d0).ss),.sl ((v6.getD 1 d0).ll),.i ((v6.getD 2 d0).ii),.i (IntKind.i64.wrap ((v6.getD 3 d0).ii + (1:Int)))]
 else
 .ex 0 [.s ((v1.getD 0 d0).ss),.sl ((v1.getD 1 d0).ll),.i ((v1.getD 2 d0).ii)]
def VJ (R:Nat → List DC → Out) (n:Nat) (a:List DC):Out :=
 j9 (jG (ZT R n) n [.s ((a.getD 0 d0).ss),.sl [],.i (0:Int),.i (0:Int)]) 0 fun v7 =>
 if 0 ≤ (v7.getD 2 d0).ii ∧ (v7.getD 2 d0).ii ≤ (((v7.getD 0 d0).ss).length:Int) then
 if ((v7.getD 1 d0).ll).length + [[DC.s (((v7.getD 0 d0).ss).drop ((v7.getD 2 d0).ii).toNat)]].length < jN then
 .ret [.sl (((v7.getD 1 d0).ll) ++ [[DC.s (((v7.getD 0 d0).ss).drop ((v7.getD 2 d0).ii).toNat)]])]
 else
 .fail
 else
 .fail
def Qy (R:Nat → List DC → Out) (n:Nat) (a:List DC):Out :=
 j9 (ja (if (decide ((a.getD 0 d0).ii ≥ (48:Int)))=true then
 .norm [.i ((a.getD 0 d0).ii),.b (decide ((a.getD 0 d0).ii ≤ (57:Int)))]
 else
 .norm [.i ((a.getD 0 d0).ii),.b false]) fun v1 =>
 if (v1.getD 1 d0).bb=true then
 .ret [.i (IntKind.i64.wrap ((IntKind.i64.wrap ((v1.getD 0 d0).ii)) - (48:Int)))]
 else
 ja (if (decide ((v1.getD 0 d0).ii ≥ (97:Int)))=true then
 .norm [.i ((v1.getD 0 d0).ii),.b (decide ((v1.getD 0 d0).ii ≤ (102:Int)))]
 else
 .norm [.i ((v1.getD 0 d0).ii),.b false]) fun v2 =>
 if (v2.getD 1 d0).bb=true then
 .ret [.i (IntKind.i64.wrap ((IntKind.i64.wrap ((v2.getD 0 d0).ii)) - (87:Int)))]
 else
 ja (if (decide ((v2.getD 0 d0).ii ≥ (65:Int)))=true then
 .norm [.i ((v2.getD 0 d0).ii),.b (decide ((v2.getD 0 d0).ii ≤ (70:Int)))]
 else
 .norm [.i ((v2.getD 0 d0).ii),.b false]) fun v3 =>
 if (v3.getD 1 d0).bb=true then
 .ret [.i (IntKind.i64.wrap ((IntKind.i64.wrap ((v3.getD 0 d0).ii)) - (55:Int)))]
 else
 .norm []) 0 fun v4 =>
 .ret [.i (-1:Int)]
def j0U (R:Nat → List DC → Out) (n:Nat):List DC → Out:=fun v1 =>
 if (decide ((v1.getD 3 d0).ii < (v1.getD 1 d0).ii))=true then
 j9 (ja (if (decide ((v1.getD 3 d0).ii ≥ (((v1.getD 0 d0).ss).length:Int)))=true then
 .norm [.s ((v1.getD 0 d0).ss),.i ((v1.getD 1 d0).ii),.i ((v1.getD 2 d0).ii),.i ((v1.getD 3 d0).ii),.b true]
 else
 if 0 ≤ (v1.getD 3 d0).ii ∧ (v1.getD 3 d0).ii < (((v1.getD 0 d0).ss).length:Int) then
 (R 62 [.i ((((v1.getD 0 d0).ss).getD ((v1.getD 3 d0).ii).toNat 0).toNat:Int)]).bindR fun r2 =>
 .norm [.s ((v1.getD 0 d0).ss),.i ((v1.getD 1 d0).ii),.i ((v1.getD 2 d0).ii),.i ((v1.getD 3 d0).ii),.b (decide ((r2.getD 0 d0).ii < (0:Int)))]
 else
 .fail) fun v3 =>
 if (v3.getD 4 d0).bb=true then
 .ret [.i (-1:Int)]
 else
 if 0 ≤ (v3.getD 3 d0).ii ∧ (v3.getD 3 d0).ii < (((v3.getD 0 d0).ss).length:Int) then
 (R 62 [.i ((((v3.getD 0 d0).ss).getD ((v3.getD 3 d0).ii).toNat 0).toNat:Int)]).bindR fun r4 =>
 .norm [.s ((v3.getD 0 d0).ss),.i ((v3.getD 1 d0).ii),.i (IntKind.i64.wrap ((IntKind.i64.wrap ((v3.getD 2 d0).ii * (16:Int))) + (r4.getD 0 d0).ii)),.i ((v3.getD 3 d0).ii)]
 else
 .fail) 1 fun v5 =>
 .norm [.s ((v5.getD 0 d0).ss),.i ((v5.getD 1 d0).ii),.i ((v5.getD 2 d0).ii),.i (IntKind.i64.wrap ((v5.getD 3 d0).ii + (1:Int)))]
 else
 .ex 0 [.i ((v1.getD 2 d0).ii)]
def Xx (R:Nat → List DC → Out) (n:Nat) (a:List DC):Out :=
 j9 (jG (j0U R n) n [.s ((a.getD 0 d0).ss),.i ((a.getD 2 d0).ii),.i (0:Int),.i ((a.getD 1 d0).ii)]) 0 fun v6 =>
 .ret [.i ((v6.getD 0 d0).ii)]
def kg:List (Nat × Nat × Hint × Stp):=[(35,39,⟨os :: [],[]⟩,qi),(36,69,⟨os :: oi :: [],[]⟩,XC),(38,71,⟨os :: oi :: [],[]⟩,Xw),(37,70,⟨os :: oi :: [],[]⟩,VF),(39,102,⟨oi :: [],[]⟩,Qz),(48,111,⟨os :: oi :: [],[]⟩,QA),(49,112,⟨os :: [],[]⟩,KV),(46,109,⟨os :: [],[]⟩,VK),(45,108,⟨os :: [],[]⟩,Z6),(42,105,⟨os :: [],[]⟩,XE),(52,115,⟨os :: [],[]⟩,XB),(50,113,⟨os :: oi :: [],[]⟩,KU),(51,114,⟨os :: [],[]⟩,KT),(43,106,⟨.one (.i .u8) :: [],[]⟩,KR),(40,103,⟨.one (.i .u8) :: [],[]⟩,KQ),(47,110,⟨os :: oi :: [],[]⟩,Qx),(41,104,⟨os :: oi :: [],[]⟩,VG),(44,107,⟨os :: oi :: [],[]⟩,KP),(53,132,⟨oi :: [],[]⟩,KS),(55,136,⟨os :: [],[]⟩,Kf),(54,135,⟨os :: [],[]⟩,XA),(56,133,⟨os :: [],[]⟩,Xz),(57,134,⟨os :: oi :: [],[]⟩,Xy),(58,137,⟨os :: oi :: [],[]⟩,VH),(59,145,⟨oi :: oi :: oi :: [],[]⟩,Z5),(61,147,⟨os :: [],[]⟩,XF),(60,146,⟨os :: [],[]⟩,VJ),(62,148,⟨.one (.i .u8) :: [],[]⟩,Qy),(63,149,⟨os :: oi :: oi :: [],[]⟩,Xx)]
def kk (v:List DC):Out:=zI (zc kg 5000) 5000 v
def jD (R:Nat → List DC → Out) (n:Nat):List DC → Out:=fun v8 =>
 ja (if ((v8.getD 5 d0).ii == (0:Int))=true then
 if (decide ((v8.getD 3 d0).ii < (((v8.getD 2 d0).ll).length:Int)))=true then
 .norm [.b true,.i ((v8.getD 0 d0).ii),.i ((v8.getD 1 d0).ii),.sl ((v8.getD 2 d0).ll),.i ((v8.getD 3 d0).ii),.i ((v8.getD 4 d0).ii),.i ((v8.getD 5 d0).ii),.i ((v8.getD 6 d0).ii),.sl ((v8.getD 7 d0).ll)]
 else
 .norm [.b ((((v8.getD 7 d0).ll).length:Int) == (0:Int)),.i ((v8.getD 0 d0).ii),.i ((v8.getD 1 d0).ii),.sl ((v8.getD 2 d0).ll),.i ((v8.getD 3 d0).ii),.i ((v8.getD 4 d0).ii),.i ((v8.getD 5 d0).ii),.i ((v8.getD 6 d0).ii),.sl ((v8.getD 7 d0).ll)]
 else
 .norm [.b false,.i ((v8.getD 0 d0).ii),.i ((v8.getD 1 d0).ii),.sl ((v8.getD 2 d0).ll),.i ((v8.getD 3 d0).ii),.i ((v8.getD 4 d0).ii),.i ((v8.getD 5 d0).ii),.i ((v8.getD 6 d0).ii),.sl ((v8.getD 7 d0).ll)]) fun v9 =>
 if (v9.getD 0 d0).bb=true then
 j9 (ja (if ((((v9.getD 8 d0).ll).length:Int) == (60:Int))=true then
 (R 0 [.sl ((v9.getD 3 d0).ll),.i ((v9.getD 4 d0).ii),.i ((v9.getD 5 d0).ii),.i ((v9.getD 6 d0).ii),.i ((v9.getD 7 d0).ii)]).bindR fun r10 =>
 .norm [.b ((r10.getD 0 d0).bb),.i ((v9.getD 1 d0).ii),.i ((v9.getD 2 d0).ii),.sl ((r10.getD 1 d0).ll),.i ((r10.getD 2 d0).ii),.i ((r10.getD 3 d0).ii),.i ((r10.getD 4 d0).ii),.i ((r10.getD 5 d0).ii),.sl ((v9.getD 8 d0).ll)]
 else
 .norm [.b false,.i ((v9.getD 1 d0).ii),.i ((v9.getD 2 d0).ii),.sl ((v9.getD 3 d0).ll),.i ((v9.getD 4 d0).ii),.i ((v9.getD 5 d0).ii),.i ((v9.getD 6 d0).ii),.i ((v9.getD 7 d0).ii),.sl ((v9.getD 8 d0).ll)]) fun v11 =>
 if (v11.getD 0 d0).bb=true then
 (R 1 [.i (6:Int),.sl ((v11.getD 3 d0).ll),.i ((v11.getD 4 d0).ii),.i ((v11.getD 5 d0).ii),.i ((v11.getD 6 d0).ii),.i ((v11.getD 7 d0).ii)]).bindR fun r12 =>
 .ex 0 [.i ((v11.getD 1 d0).ii),.i ((v11.getD 2 d0).ii),.sl ((r12.getD 0 d0).ll),.i ((r12.getD 1 d0).ii),.i ((r12.getD 2 d0).ii),.i ((r12.getD 3 d0).ii),.i ((r12.getD 4 d0).ii),.sl ((v11.getD 8 d0).ll)]
 else
 (R 2 [.sl ((v11.getD 3 d0).ll),.i ((v11.getD 4 d0).ii),.i ((v11.getD 5 d0).ii),.i ((v11.getD 6 d0).ii),.i ((v11.getD 7 d0).ii)]).bindR fun r13 =>
 if ((v11.getD 8 d0).ll).length + [[DC.i ((r13.getD 0 d0).ii),DC.i ((r13.getD 1 d0).ii),DC.s ((r13.getD 2 d0).ss),DC.sl ((r13.getD 3 d0).ll),DC.sl ((r13.getD 4 d0).ll),DC.sl ((r13.getD 5 d0).ll),DC.s ((r13.getD 6 d0).ss),DC.s ((r13.getD 7 d0).ss),DC.sl ((r13.getD 8 d0).ll),DC.sl ((r13.getD 9 d0).ll),DC.i ((r13.getD 10 d0).ii),DC.b ((r13.getD 11 d0).bb),DC.s ((r13.getD 12 d0).ss),DC.s ((r13.getD 13 d0).ss),DC.sl ((r13.getD 14 d0).ll),DC.sl ((r13.getD 15 d0).ll),DC.sl ((r13.getD 16 d0).ll),DC.sl ((r13.getD 17 d0).ll),DC.sl ((r13.getD 18 d0).ll),DC.b ((r13.getD 19 d0).bb),DC.sl ((r13.getD 20 d0).ll)]].length < jN then
 .norm [.i ((v11.getD 1 d0).ii),.i ((v11.getD 2 d0).ii),.sl ((r13.getD 21 d0).ll),.i ((r13.getD 22 d0).ii),.i ((r13.getD 23 d0).ii),.i ((r13.getD 24 d0).ii),.i ((r13.getD 25 d0).ii),.sl (((v11.getD 8 d0).ll) ++ [[DC.i ((r13.getD 0 d0).ii),DC.i ((r13.getD 1 d0).ii),DC.s ((r13.getD 2 d0).ss),DC.sl ((r13.getD 3 d0).ll),DC.sl ((r13.getD 4 d0).ll),DC.sl ((r13.getD 5 d0).ll),DC.s ((r13.getD 6 d0).ss),DC.s ((r13.getD 7 d0).ss),DC.sl ((r13.getD 8 d0).ll),DC.sl ((r13.getD 9 d0).ll),DC.i ((r13.getD 10 d0).ii),DC.b ((r13.getD 11 d0).bb),DC.s ((r13.getD 12 d0).ss),DC.s ((r13.getD 13 d0).ss),DC.sl ((r13.getD 14 d0).ll),DC.sl ((r13.getD 15 d0).ll),DC.sl ((r13.getD 16 d0).ll),DC.sl ((r13.getD 17 d0).ll),DC.sl ((r13.getD 18 d0).ll),DC.b ((r13.getD 19 d0).bb),DC.sl ((r13.getD 20 d0).ll)]])]
 else
 .fail) 1 fun v14 =>
 .norm [.i ((v14.getD 0 d0).ii),.i ((v14.getD 1 d0).ii),.sl ((v14.getD 2 d0).ll),.i ((v14.getD 3 d0).ii),.i ((v14.getD 4 d0).ii),.i ((v14.getD 5 d0).ii),.i ((v14.getD 6 d0).ii),.sl ((v14.getD 7 d0).ll)]
 else
 .ex 0 [.i ((v9.getD 1 d0).ii),.i ((v9.getD 2 d0).ii),.sl ((v9.getD 3 d0).ll),.i ((v9.getD 4 d0).ii),.i ((v9.getD 5 d0).ii),.i ((v9.getD 6 d0).ii),.i ((v9.getD 7 d0).ii),.sl ((v9.getD 8 d0).ll)]
def yZ (R:Nat → List DC → Out) (n:Nat) (a:List DC):Out :=
 if bsz (kk [.s ((a.getD 0 d0).ss)]) < jN then
 j9 (jG (jD R n) n [.i (0:Int),.i (0:Int),.sl (((X0 (kk [.s ((a.getD 0 d0).ss)])).getD 0 d0).ll),.i (((X0 (kk [.s ((a.getD 0 d0).ss)])).getD 1 d0).ii),.i (((X0 (kk [.s ((a.getD 0 d0).ss)])).getD 2 d0).ii),.i (((X0 (kk [.s ((a.getD 0 d0).ss)])).getD 3 d0).ii),.i (((X0 (kk [.s ((a.getD 0 d0).ss)])).getD 4 d0).ii),.sl []]) 0 fun v15 =>
 if ((v15.getD 5 d0).ii != (0:Int))=true then
 .ret [.sl [],.i ((v15.getD 5 d0).ii),.i ((v15.getD 6 d0).ii)]
 else
 .ret [.sl ((v15.getD 7 d0).ll),.i (0:Int),.i (0:Int)]
 else
 .fail
def Xv (R:Nat → List DC → Out) (n:Nat) (a:List DC):Out :=
 ja (if ((a.getD 4 d0).ii == (0:Int))=true then
 (R 3 [.sl ((a.getD 1 d0).ll),.i ((a.getD 2 d0).ii),.i ((a.getD 3 d0).ii),.i ((a.getD 4 d0).ii),.i ((a.getD 5 d0).ii)]).bindR fun r1 =>
 .norm [.sl ((r1.getD 1 d0).ll),.i ((r1.getD 2 d0).ii),.i ((r1.getD 3 d0).ii),.i ((a.getD 0 d0).ii),.i ((r1.getD 0 d0).ii)]
 else
 .norm [.sl ((a.getD 1 d0).ll),.i ((a.getD 2 d0).ii),.i ((a.getD 3 d0).ii),.i ((a.getD 4 d0).ii),.i ((a.getD 5 d0).ii)]) fun v2 =>
 .ret [.sl ((v2.getD 0 d0).ll),.i ((v2.getD 1 d0).ii),.i ((v2.getD 2 d0).ii),.i ((v2.getD 3 d0).ii),.i ((v2.getD 4 d0).ii)]
def Vs (R:Nat → List DC → Out) (n:Nat) (a:List DC):Out :=
 (R 4 [.sl ((a.getD 0 d0).ll),.i ((a.getD 1 d0).ii),.i ((a.getD 2 d0).ii),.i ((a.getD 3 d0).ii),.i ((a.getD 4 d0).ii)]).bindR fun r1 =>
 if (decide ((r1.getD 0 d0).ii > (0:Int)))=true then
 (R 5 [.i ((r1.getD 0 d0).ii),.sl ((r1.getD 1 d0).ll),.i ((r1.getD 2 d0).ii),.i ((r1.getD 3 d0).ii),.i ((r1.getD 4 d0).ii),.i ((r1.getD 5 d0).ii)]).bindR fun r2 =>
 .ret [.i (1:Int),.i ((r2.getD 0 d0).ii),.s ((r2.getD 1 d0).ss),.sl ((r2.getD 2 d0).ll),.sl ((r2.getD 3 d0).ll),.sl ((r2.getD 4 d0).ll),.s [],.s [],.sl [],.sl [],.i (0:Int),.b false,.s [],.s [],.sl [],.sl [],.sl [],.sl [],.sl [],.b false,.sl [],.sl ((r2.getD 5 d0).ll),.i ((r2.getD 6 d0).ii),.i ((r2.getD 7 d0).ii),.i ((r2.getD 8 d0).ii),.i ((r2.getD 9 d0).ii)]
 else
 (R 6 [.s ([102,114,97,103,109,101,110,116]:List UInt8),.sl ((r1.getD 1 d0).ll),.i ((r1.getD 2 d0).ii),.i ((r1.getD 3 d0).ii),.i ((r1.getD 4 d0).ii),.i ((r1.getD 5 d0).ii)]).bindR fun r3 =>
 if (r3.getD 0 d0).bb=true then
 (R 7 [.sl ((r3.getD 1 d0).ll),.i ((r3.getD 2 d0).ii),.i ((r3.getD 3 d0).ii),.i ((r3.getD 4 d0).ii),.i ((r3.getD 5 d0).ii)]).bindR fun r4 =>
 .ret [.i (2:Int),.i (0:Int),.s [],.sl [],.sl [],.sl [],.s ((r4.getD 0 d0).ss),.s ((r4.getD 1 d0).ss),.sl ((r4.getD 2 d0).ll),.sl ((r4.getD 3 d0).ll),.i (0:Int),.b false,.s [],.s [],.sl [],.sl [],.sl [],.sl [],.sl [],.b false,.sl [],.sl ((r4.getD 4 d0).ll),.i ((r4.getD 5 d0).ii),.i ((r4.getD 6 d0).ii),.i ((r4.getD 7 d0).ii),.i ((r4.getD 8 d0).ii)]
 else
 (R 8 [.sl ((r3.getD 1 d0).ll),.i ((r3.getD 2 d0).ii),.i ((r3.getD 3 d0).ii),.i ((r3.getD 4 d0).ii),.i ((r3.getD 5 d0).ii)]).bindR fun r5 =>
 ja (if (decide ((r5.getD 2 d0).ii > (r3.getD 2 d0).ii))=true then
 (R 6 [.s ([101,120,116,101,110,100]:List UInt8),.sl ((r5.getD 1 d0).ll),.i ((r5.getD 2 d0).ii),.i ((r5.getD 3 d0).ii),.i ((r5.getD 4 d0).ii),.i ((r5.getD 5 d0).ii)]).bindR fun r6 =>
 .norm [.s ((r5.getD 0 d0).ss),.b ((r6.getD 0 d0).bb),.sl ((r6.getD 1 d0).ll),.i ((r6.getD 2 d0).ii),.i ((r6.getD 3 d0).ii),.i ((r6.getD 4 d0).ii),.i ((r6.getD 5 d0).ii),.i (0:Int),.i (0:Int),.s [],.s [],.s [],.i (0:Int),.b false,.s [],.s [],.b false,.i (0:Int),.b false,.s [],.s [],.b false]
 else
 .norm [.s ((r5.getD 0 d0).ss),.b false,.sl ((r5.getD 1 d0).ll),.i ((r5.getD 2 d0).ii),.i ((r5.getD 3 d0).ii),.i ((r5.getD 4 d0).ii),.i ((r5.getD 5 d0).ii),.i (0:Int),.i (0:Int),.s [],.s [],.s [],.i (0:Int),.b false,.s [],.s [],.b false,.i (0:Int),.b false,.s [],.s [],.b false]) fun v7 =>
 ja (if (v7.getD 1 d0).bb=true then
 (R 1 [.i (7:Int),.sl ((v7.getD 2 d0).ll),.i ((v7.getD 3 d0).ii),.i ((v7.getD 4 d0).ii),.i ((v7.getD 5 d0).ii),.i ((v7.getD 6 d0).ii)]).bindR fun r8 =>
 .norm [.sl ((r8.getD 0 d0).ll),.i ((r8.getD 1 d0).ii),.i ((r8.getD 2 d0).ii),.i ((r8.getD 3 d0).ii),.i ((r8.getD 4 d0).ii),.i ((v7.getD 7 d0).ii),.i ((v7.getD 8 d0).ii),.s ((v7.getD 9 d0).ss),.s ((v7.getD 10 d0).ss),.s ((v7.getD 11 d0).ss),.i ((v7.getD 12 d0).ii),.b ((v7.getD 13 d0).bb),.s ((v7.getD 14 d0).ss),.s ((v7.getD 15 d0).ss),.b ((v7.getD 16 d0).bb),.i ((v7.getD 17 d0).ii),.b ((v7.getD 18 d0).bb),.s ((v7.getD 19 d0).ss),.s ((v7.getD 20 d0).ss),.sl [],.sl [],.sl [],.sl [],.sl [],.b ((v7.getD 21 d0).bb),.sl []]
 else
 (R 9 [.s ((v7.getD 0 d0).ss),.sl ((v7.getD 2 d0).ll),.i ((v7.getD 3 d0).ii),.i ((v7.getD 4 d0).ii),.i ((v7.getD 5 d0).ii),.i ((v7.getD 6 d0).ii)]).bindR fun r9 =>
 .norm [.sl ((r9.getD 11 d0).ll),.i ((r9.getD 12 d0).ii),.i ((r9.getD 13 d0).ii),.i ((r9.getD 14 d0).ii),.i ((r9.getD 15 d0).ii),.i ((v7.getD 7 d0).ii),.i ((v7.getD 8 d0).ii),.s ((v7.getD 9 d0).ss),.s ((v7.getD 10 d0).ss),.s ((v7.getD 11 d0).ss),.i ((v7.getD 12 d0).ii),.b ((v7.getD 13 d0).bb),.s ((v7.getD 14 d0).ss),.s ((v7.getD 15 d0).ss),.b ((v7.getD 16 d0).bb),.i ((r9.getD 0 d0).ii),.b ((r9.getD 1 d0).bb),.s ((r9.getD 2 d0).ss),.s ((r9.getD 3 d0).ss),.sl ((r9.getD 4 d0).ll),.sl ((r9.getD 5 d0).ll),.sl ((r9.getD 6 d0).ll),.sl ((r9.getD 7 d0).ll),.sl ((r9.getD 8 d0).ll),.b ((r9.getD 9 d0).bb),.sl ((r9.getD 10 d0).ll)]) fun v10 =>
 .ret [.i (3:Int),.i (0:Int),.s [],.sl [],.sl [],.sl [],.s [],.s [],.sl [],.sl [],.i ((v10.getD 15 d0).ii),.b ((v10.getD 16 d0).bb),.s ((v10.getD 17 d0).ss),.s ((v10.getD 18 d0).ss),.sl ((v10.getD 19 d0).ll),.sl ((v10.getD 20 d0).ll),.sl ((v10.getD 21 d0).ll),.sl ((v10.getD 22 d0).ll),.sl ((v10.getD 23 d0).ll),.b ((v10.getD 24 d0).bb),.sl ((v10.getD 25 d0).ll),.sl ((v10.getD 0 d0).ll),.i ((v10.getD 1 d0).ii),.i ((v10.getD 2 d0).ii),.i ((v10.getD 3 d0).ii),.i ((v10.getD 4 d0).ii)]
def KJ (R:Nat → List DC → Out) (n:Nat) (a:List DC):Out :=
 ja ((R 4 [.sl ((a.getD 0 d0).ll),.i ((a.getD 1 d0).ii),.i ((a.getD 2 d0).ii),.i ((a.getD 3 d0).ii),.i ((a.getD 4 d0).ii)]).bindR fun r1 =>
 if (decide ((r1.getD 0 d0).ii > (0:Int)))=true then
 .norm [.b true,.sl ((r1.getD 1 d0).ll),.i ((r1.getD 2 d0).ii),.i ((r1.getD 3 d0).ii),.i ((r1.getD 4 d0).ii),.i ((r1.getD 5 d0).ii)]
 else
 (R 6 [.s ([102,114,97,103,109,101,110,116]:List UInt8),.sl ((r1.getD 1 d0).ll),.i ((r1.getD 2 d0).ii),.i ((r1.getD 3 d0).ii),.i ((r1.getD 4 d0).ii),.i ((r1.getD 5 d0).ii)]).bindR fun r2 =>
 if (r2.getD 0 d0).bb=true then
 .norm [.b true,.sl ((r2.getD 1 d0).ll),.i ((r2.getD 2 d0).ii),.i ((r2.getD 3 d0).ii),.i ((r2.getD 4 d0).ii),.i ((r2.getD 5 d0).ii)]
 else
 (R 10 [.i (5:Int),.sl ((r2.getD 1 d0).ll),.i ((r2.getD 2 d0).ii),.i ((r2.getD 3 d0).ii),.i ((r2.getD 4 d0).ii),.i ((r2.getD 5 d0).ii)]).bindR fun r3 =>
 if (r3.getD 0 d0).bb=true then
 .norm [.b true,.sl ((r3.getD 1 d0).ll),.i ((r3.getD 2 d0).ii),.i ((r3.getD 3 d0).ii),.i ((r3.getD 4 d0).ii),.i ((r3.getD 5 d0).ii)]
 else
 (R 6 [.s ([101,120,116,101,110,100]:List UInt8),.sl ((r3.getD 1 d0).ll),.i ((r3.getD 2 d0).ii),.i ((r3.getD 3 d0).ii),.i ((r3.getD 4 d0).ii),.i ((r3.getD 5 d0).ii)]).bindR fun r4 =>
 if (r4.getD 0 d0).bb=true then
 .norm [.b true,.sl ((r4.getD 1 d0).ll),.i ((r4.getD 2 d0).ii),.i ((r4.getD 3 d0).ii),.i ((r4.getD 4 d0).ii),.i ((r4.getD 5 d0).ii)]
 else
 (R 11 [.sl ((r4.getD 1 d0).ll),.i ((r4.getD 2 d0).ii),.i ((r4.getD 3 d0).ii),.i ((r4.getD 4 d0).ii),.i ((r4.getD 5 d0).ii)]).bindR fun r5 =>
 .norm [.b (decide ((r5.getD 0 d0).ii > (0:Int))),.sl ((r5.getD 1 d0).ll),.i ((r5.getD 2 d0).ii),.i ((r5.getD 3 d0).ii),.i ((r5.getD 4 d0).ii),.i ((r5.getD 5 d0).ii)]) fun v6 =>
 .ret [.b ((v6.getD 0 d0).bb),.sl ((v6.getD 1 d0).ll),.i ((v6.getD 2 d0).ii),.i ((v6.getD 3 d0).ii),.i ((v6.getD 4 d0).ii),.i ((v6.getD 5 d0).ii)]
def Z4 (R:Nat → List DC → Out) (n:Nat) (a:List DC):Out :=
 if (decide ((a.getD 1 d0).ii < (((a.getD 0 d0).ll).length:Int)))=true then
 if 117=117 ∧ 0 ≤ (a.getD 1 d0).ii ∧ (a.getD 1 d0).ii < (((a.getD 0 d0).ll).length:Int) then
 .ret [.i (((((a.getD 0 d0).ll).getD ((a.getD 1 d0).ii).toNat []).getD 2 d0).ii),.sl ((a.getD 0 d0).ll),.i ((a.getD 1 d0).ii),.i ((a.getD 2 d0).ii),.i ((a.getD 3 d0).ii),.i ((a.getD 4 d0).ii)]
 else
 .fail
 else
 .ret [.i ((a.getD 2 d0).ii),.sl ((a.getD 0 d0).ll),.i ((a.getD 1 d0).ii),.i ((a.getD 2 d0).ii),.i ((a.getD 3 d0).ii),.i ((a.getD 4 d0).ii)]
def VB (R:Nat → List DC → Out) (n:Nat) (a:List DC):Out :=
 ja (if ((a.getD 4 d0).ii == (0:Int))=true then
 if (decide ((a.getD 2 d0).ii < (((a.getD 1 d0).ll).length:Int)))=true then
 if 117=117 ∧ 0 ≤ (a.getD 2 d0).ii ∧ (a.getD 2 d0).ii < (((a.getD 1 d0).ll).length:Int) then
 if (((((a.getD 1 d0).ll).getD ((a.getD 2 d0).ii).toNat []).getD 0 d0).ii == (2:Int))=true then
 if 117=117 ∧ 0 ≤ (a.getD 2 d0).ii ∧ (a.getD 2 d0).ii < (((a.getD 1 d0).ll).length:Int) then
 .norm [.b (((((a.getD 1 d0).ll).getD ((a.getD 2 d0).ii).toNat []).getD 1 d0).ss == (a.getD 0 d0).ss),.sl ((a.getD 1 d0).ll),.i ((a.getD 2 d0).ii),.i ((a.getD 3 d0).ii),.i ((a.getD 4 d0).ii),.i ((a.getD 5 d0).ii)]
 else
 .fail
 else
 .norm [.b false,.sl ((a.getD 1 d0).ll),.i ((a.getD 2 d0).ii),.i ((a.getD 3 d0).ii),.i ((a.getD 4 d0).ii),.i ((a.getD 5 d0).ii)]
 else
 .fail
 else
 .norm [.b false,.sl ((a.getD 1 d0).ll),.i ((a.getD 2 d0).ii),.i ((a.getD 3 d0).ii),.i ((a.getD 4 d0).ii),.i ((a.getD 5 d0).ii)]
 else
 .norm [.b false,.sl ((a.getD 1 d0).ll),.i ((a.getD 2 d0).ii),.i ((a.getD 3 d0).ii),.i ((a.getD 4 d0).ii),.i ((a.getD 5 d0).ii)]) fun v1 =>
 .ret [.b ((v1.getD 0 d0).bb),.sl ((v1.getD 1 d0).ll),.i ((v1.getD 2 d0).ii),.i ((v1.getD 3 d0).ii),.i ((v1.getD 4 d0).ii),.i ((v1.getD 5 d0).ii)]
def JJ (R:Nat → List DC → Out) (n:Nat) (a:List DC):Out :=
 (R 6 [.s ([111,110]:List UInt8),.sl ((a.getD 0 d0).ll),.i (IntKind.i64.wrap ((a.getD 1 d0).ii + (1:Int))),.i ((a.getD 2 d0).ii),.i ((a.getD 3 d0).ii),.i ((a.getD 4 d0).ii)]).bindR fun r1 =>
 ja (if (r1.getD 0 d0).bb=true then
 (R 1 [.i (7:Int),.sl ((r1.getD 1 d0).ll),.i ((r1.getD 2 d0).ii),.i ((r1.getD 3 d0).ii),.i ((r1.getD 4 d0).ii),.i ((r1.getD 5 d0).ii)]).bindR fun r2 =>
 .norm [.sl ((r2.getD 0 d0).ll),.i ((r2.getD 1 d0).ii),.i ((r2.getD 2 d0).ii),.i ((r2.getD 3 d0).ii),.i ((r2.getD 4 d0).ii),.s [],.s [],.s [],.s []]
 else
 .norm [.sl ((r1.getD 1 d0).ll),.i ((r1.getD 2 d0).ii),.i ((r1.getD 3 d0).ii),.i ((r1.getD 4 d0).ii),.i ((r1.getD 5 d0).ii),.s [],.s [],.s [],.s []]) fun v3 =>
 (R 12 [.sl ((v3.getD 0 d0).ll),.i ((v3.getD 1 d0).ii),.i ((v3.getD 2 d0).ii),.i ((v3.getD 3 d0).ii),.i ((v3.getD 4 d0).ii)]).bindR fun r4 =>
 (R 6 [.s ([111,110]:List UInt8),.sl ((r4.getD 1 d0).ll),.i ((r4.getD 2 d0).ii),.i ((r4.getD 3 d0).ii),.i ((r4.getD 4 d0).ii),.i ((r4.getD 5 d0).ii)]).bindR fun r5 =>
 ja (if (!((r5.getD 0 d0).bb))=true then
 (R 1 [.i (7:Int),.sl ((r5.getD 1 d0).ll),.i ((r5.getD 2 d0).ii),.i ((r5.getD 3 d0).ii),.i ((r5.getD 4 d0).ii),.i ((r5.getD 5 d0).ii)]).bindR fun r6 =>
 .norm [.sl ((r6.getD 0 d0).ll),.i ((r6.getD 1 d0).ii),.i ((r6.getD 2 d0).ii),.i ((r6.getD 3 d0).ii),.i ((r6.getD 4 d0).ii),.s ((v3.getD 5 d0).ss),.s ((v3.getD 6 d0).ss),.s ((r4.getD 0 d0).ss),.s ((v3.getD 8 d0).ss)]
 else
 .norm [.sl ((r5.getD 1 d0).ll),.i ((r5.getD 2 d0).ii),.i ((r5.getD 3 d0).ii),.i ((r5.getD 4 d0).ii),.i ((r5.getD 5 d0).ii),.s ((v3.getD 5 d0).ss),.s ((v3.getD 6 d0).ss),.s ((r4.getD 0 d0).ss),.s ((v3.getD 8 d0).ss)]) fun v7 =>
 (R 12 [.sl ((v7.getD 0 d0).ll),.i (IntKind.i64.wrap ((v7.getD 1 d0).ii + (1:Int))),.i ((v7.getD 2 d0).ii),.i ((v7.getD 3 d0).ii),.i ((v7.getD 4 d0).ii)]).bindR fun r8 =>
 (R 13 [.b false,.sl ((r8.getD 1 d0).ll),.i ((r8.getD 2 d0).ii),.i ((r8.getD 3 d0).ii),.i ((r8.getD 4 d0).ii),.i ((r8.getD 5 d0).ii)]).bindR fun r9 =>
 (R 14 [.i (10:Int),.sl ((r9.getD 1 d0).ll),.i ((r9.getD 2 d0).ii),.i ((r9.getD 3 d0).ii),.i ((r9.getD 4 d0).ii),.i ((r9.getD 5 d0).ii),.i (120:Int)]).bindR fun r10 =>
 .ret [.s ((v7.getD 7 d0).ss),.s ((r8.getD 0 d0).ss),.sl ((r9.getD 0 d0).ll),.sl ((r10.getD 0 d0).ll),.sl ((r10.getD 1 d0).ll),.i ((r10.getD 2 d0).ii),.i ((r10.getD 3 d0).ii),.i ((r10.getD 4 d0).ii),.i ((r10.getD 5 d0).ii)]
def KN (R:Nat → List DC → Out) (n:Nat) (a:List DC):Out :=
 (R 15 [.s ([123]:List UInt8),.sl ((a.getD 1 d0).ll),.i ((a.getD 2 d0).ii),.i ((a.getD 3 d0).ii),.i ((a.getD 4 d0).ii),.i ((a.getD 5 d0).ii)]).bindR fun r1 =>
 ja (if (!((r1.getD 0 d0).bb))=true then
 (R 10 [.i (2:Int),.sl ((r1.getD 1 d0).ll),.i (IntKind.i64.wrap ((r1.getD 2 d0).ii + (1:Int))),.i ((r1.getD 3 d0).ii),.i ((r1.getD 4 d0).ii),.i ((r1.getD 5 d0).ii)]).bindR fun r2 =>
 ja (if (r2.getD 0 d0).bb=true then
 (R 12 [.sl ((r2.getD 1 d0).ll),.i ((r2.getD 2 d0).ii),.i ((r2.getD 3 d0).ii),.i ((r2.getD 4 d0).ii),.i ((r2.getD 5 d0).ii)]).bindR fun r3 =>
 .norm [.sl ((r3.getD 1 d0).ll),.i ((r3.getD 2 d0).ii),.i ((r3.getD 3 d0).ii),.i ((r3.getD 4 d0).ii),.i ((r3.getD 5 d0).ii),.i (0:Int),.s [],.i ((a.getD 0 d0).ii),.s ((r3.getD 0 d0).ss)]
 else
 .norm [.sl ((r2.getD 1 d0).ll),.i ((r2.getD 2 d0).ii),.i ((r2.getD 3 d0).ii),.i ((r2.getD 4 d0).ii),.i ((r2.getD 5 d0).ii),.i (0:Int),.s [],.i ((a.getD 0 d0).ii),.s []]) fun v4 =>
 (R 16 [.sl ((v4.getD 0 d0).ll),.i ((v4.getD 1 d0).ii),.i ((v4.getD 2 d0).ii),.i ((v4.getD 3 d0).ii),.i ((v4.getD 4 d0).ii)]).bindR fun r5 =>
 (R 13 [.b false,.sl ((r5.getD 1 d0).ll),.i ((r5.getD 2 d0).ii),.i ((r5.getD 3 d0).ii),.i ((r5.getD 4 d0).ii),.i ((r5.getD 5 d0).ii)]).bindR fun r6 =>
 .norm [.sl ((r6.getD 1 d0).ll),.i ((r6.getD 2 d0).ii),.i ((r6.getD 3 d0).ii),.i ((r6.getD 4 d0).ii),.i ((r6.getD 5 d0).ii),.i ((v4.getD 5 d0).ii),.s ((v4.getD 6 d0).ss),.i ((v4.getD 7 d0).ii),.s ((v4.getD 8 d0).ss),.sl ((r5.getD 0 d0).ll),.sl ((r6.getD 0 d0).ll)]
 else
 .norm [.sl ((r1.getD 1 d0).ll),.i ((r1.getD 2 d0).ii),.i ((r1.getD 3 d0).ii),.i ((r1.getD 4 d0).ii),.i ((r1.getD 5 d0).ii),.i (0:Int),.s [],.i ((a.getD 0 d0).ii),.s [],.sl [],.sl []]) fun v7 =>
 (R 14 [.i (10:Int),.sl ((v7.getD 0 d0).ll),.i ((v7.getD 1 d0).ii),.i ((v7.getD 2 d0).ii),.i ((v7.getD 3 d0).ii),.i ((v7.getD 4 d0).ii),.i (120:Int)]).bindR fun r8 =>
 .ret [.i ((v7.getD 7 d0).ii),.s ((v7.getD 8 d0).ss),.sl ((v7.getD 9 d0).ll),.sl ((v7.getD 10 d0).ll),.sl ((r8.getD 0 d0).ll),.sl ((r8.getD 1 d0).ll),.i ((r8.getD 2 d0).ii),.i ((r8.getD 3 d0).ii),.i ((r8.getD 4 d0).ii),.i ((r8.getD 5 d0).ii)]
def Vu (R:Nat → List DC → Out) (n:Nat) (a:List DC):Out :=
 ja (if ((a.getD 0 d0).ss == ([]:List UInt8))=true then
 (R 6 [.s ([101,120,116,101,110,100]:List UInt8),.sl ((a.getD 1 d0).ll),.i ((a.getD 2 d0).ii),.i ((a.getD 3 d0).ii),.i ((a.getD 4 d0).ii),.i ((a.getD 5 d0).ii)]).bindR fun r1 =>
 .norm [.b ((r1.getD 0 d0).bb),.sl ((r1.getD 1 d0).ll),.i ((r1.getD 2 d0).ii),.i ((r1.getD 3 d0).ii),.i ((r1.getD 4 d0).ii),.i ((r1.getD 5 d0).ii),.i (0:Int),.b false,.s [],.s [],.b false,.i (0:Int),.b false,.s ((a.getD 0 d0).ss),.s [],.b false]
 else
 .norm [.b false,.sl ((a.getD 1 d0).ll),.i ((a.getD 2 d0).ii),.i ((a.getD 3 d0).ii),.i ((a.getD 4 d0).ii),.i ((a.getD 5 d0).ii),.i (0:Int),.b false,.s [],.s [],.b false,.i (0:Int),.b false,.s ((a.getD 0 d0).ss),.s [],.b false]) fun v2 =>
 ja (if (v2.getD 0 d0).bb=true then
 .norm [.sl ((v2.getD 1 d0).ll),.i (IntKind.i64.wrap ((v2.getD 2 d0).ii + (1:Int))),.i ((v2.getD 3 d0).ii),.i ((v2.getD 4 d0).ii),.i ((v2.getD 5 d0).ii),.i ((v2.getD 6 d0).ii),.b ((v2.getD 7 d0).bb),.s ((v2.getD 8 d0).ss),.s ((v2.getD 9 d0).ss),.b ((v2.getD 10 d0).bb),.i ((v2.getD 11 d0).ii),.b true,.s ((v2.getD 13 d0).ss),.s ((v2.getD 14 d0).ss),.b ((v2.getD 15 d0).bb)]
 else
 .norm [.sl ((v2.getD 1 d0).ll),.i ((v2.getD 2 d0).ii),.i ((v2.getD 3 d0).ii),.i ((v2.getD 4 d0).ii),.i ((v2.getD 5 d0).ii),.i ((v2.getD 6 d0).ii),.b ((v2.getD 7 d0).bb),.s ((v2.getD 8 d0).ss),.s ((v2.getD 9 d0).ss),.b ((v2.getD 10 d0).bb),.i ((v2.getD 11 d0).ii),.b ((v2.getD 12 d0).bb),.s ((v2.getD 13 d0).ss),.s ((v2.getD 14 d0).ss),.b ((v2.getD 15 d0).bb)]) fun v3 =>
 (R 11 [.sl ((v3.getD 0 d0).ll),.i ((v3.getD 1 d0).ii),.i ((v3.getD 2 d0).ii),.i ((v3.getD 3 d0).ii),.i ((v3.getD 4 d0).ii)]).bindR fun r4 =>
 ja (if ((r4.getD 0 d0).ii == (0:Int))=true then
 .norm [.b true,.sl ((r4.getD 1 d0).ll),.i ((r4.getD 2 d0).ii),.i ((r4.getD 3 d0).ii),.i ((r4.getD 4 d0).ii),.i ((r4.getD 5 d0).ii),.i ((v3.getD 5 d0).ii),.b ((v3.getD 6 d0).bb),.s ((v3.getD 7 d0).ss),.s ((v3.getD 8 d0).ss),.b ((v3.getD 9 d0).bb),.i ((r4.getD 0 d0).ii),.b ((v3.getD 11 d0).bb),.s ((v3.getD 12 d0).ss),.s ((v3.getD 13 d0).ss),.b ((v3.getD 14 d0).bb)]
 else
 if (v3.getD 11 d0).bb=true then
 .norm [.b ((r4.getD 0 d0).ii == (7:Int)),.sl ((r4.getD 1 d0).ll),.i ((r4.getD 2 d0).ii),.i ((r4.getD 3 d0).ii),.i ((r4.getD 4 d0).ii),.i ((r4.getD 5 d0).ii),.i ((v3.getD 5 d0).ii),.b ((v3.getD 6 d0).bb),.s ((v3.getD 7 d0).ss),.s ((v3.getD 8 d0).ss),.b ((v3.getD 9 d0).bb),.i ((r4.getD 0 d0).ii),.b ((v3.getD 11 d0).bb),.s ((v3.getD 12 d0).ss),.s ((v3.getD 13 d0).ss),.b ((v3.getD 14 d0).bb)]
 else
 .norm [.b false,.sl ((r4.getD 1 d0).ll),.i ((r4.getD 2 d0).ii),.i ((r4.getD 3 d0).ii),.i ((r4.getD 4 d0).ii),.i ((r4.getD 5 d0).ii),.i ((v3.getD 5 d0).ii),.b ((v3.getD 6 d0).bb),.s ((v3.getD 7 d0).ss),.s ((v3.getD 8 d0).ss),.b ((v3.getD 9 d0).bb),.i ((r4.getD 0 d0).ii),.b ((v3.getD 11 d0).bb),.s ((v3.getD 12 d0).ss),.s ((v3.getD 13 d0).ss),.b ((v3.getD 14 d0).bb)]) fun v5 =>
 if (v5.getD 0 d0).bb=true then
 (R 1 [.i (7:Int),.sl ((v5.getD 1 d0).ll),.i ((v5.getD 2 d0).ii),.i ((v5.getD 3 d0).ii),.i ((v5.getD 4 d0).ii),.i ((v5.getD 5 d0).ii)]).bindR fun r6 =>
 .ret [.i ((v5.getD 11 d0).ii),.b ((v5.getD 12 d0).bb),.s ((v5.getD 13 d0).ss),.s ((v5.getD 14 d0).ss),.sl [],.sl [],.sl [],.sl [],.sl [],.b ((v5.getD 15 d0).bb),.sl [],.sl ((r6.getD 0 d0).ll),.i ((r6.getD 1 d0).ii),.i ((r6.getD 2 d0).ii),.i ((r6.getD 3 d0).ii),.i ((r6.getD 4 d0).ii)]
 else
 ja (if ((v5.getD 11 d0).ii == (7:Int))=true then
 (R 17 [.s ([64]:List UInt8),.sl ((v5.getD 1 d0).ll),.i (IntKind.i64.wrap ((v5.getD 2 d0).ii + (1:Int))),.i ((v5.getD 3 d0).ii),.i ((v5.getD 4 d0).ii),.i ((v5.getD 5 d0).ii)]).bindR fun r7 =>
 .norm [.sl ((r7.getD 0 d0).ll),.i ((r7.getD 1 d0).ii),.i ((r7.getD 2 d0).ii),.i ((r7.getD 3 d0).ii),.i ((r7.getD 4 d0).ii),.i ((v5.getD 6 d0).ii),.b ((v5.getD 7 d0).bb),.s ((v5.getD 8 d0).ss),.s ((v5.getD 9 d0).ss),.b ((v5.getD 10 d0).bb),.i ((v5.getD 11 d0).ii),.b ((v5.getD 12 d0).bb),.s ((v5.getD 13 d0).ss),.s ((v5.getD 14 d0).ss),.b ((v5.getD 15 d0).bb)]
 else
 .norm [.sl ((v5.getD 1 d0).ll),.i (IntKind.i64.wrap ((v5.getD 2 d0).ii + (1:Int))),.i ((v5.getD 3 d0).ii),.i ((v5.getD 4 d0).ii),.i ((v5.getD 5 d0).ii),.i ((v5.getD 6 d0).ii),.b ((v5.getD 7 d0).bb),.s ((v5.getD 8 d0).ss),.s ((v5.getD 9 d0).ss),.b ((v5.getD 10 d0).bb),.i ((v5.getD 11 d0).ii),.b ((v5.getD 12 d0).bb),.s ((v5.getD 13 d0).ss),.s ((v5.getD 14 d0).ss),.b ((v5.getD 15 d0).bb)]) fun v8 =>
 ja (if ((v8.getD 10 d0).ii != (8:Int))=true then
 (R 12 [.sl ((v8.getD 0 d0).ll),.i ((v8.getD 1 d0).ii),.i ((v8.getD 2 d0).ii),.i ((v8.getD 3 d0).ii),.i ((v8.getD 4 d0).ii)]).bindR fun r9 =>
 .norm [.sl ((r9.getD 1 d0).ll),.i ((r9.getD 2 d0).ii),.i ((r9.getD 3 d0).ii),.i ((r9.getD 4 d0).ii),.i ((r9.getD 5 d0).ii),.i ((v8.getD 5 d0).ii),.b ((v8.getD 6 d0).bb),.s ((v8.getD 7 d0).ss),.s ((v8.getD 8 d0).ss),.b ((v8.getD 9 d0).bb),.i ((v8.getD 10 d0).ii),.b ((v8.getD 11 d0).bb),.s ((v8.getD 12 d0).ss),.s ((r9.getD 0 d0).ss),.b ((v8.getD 14 d0).bb)]
 else
 .norm [.sl ((v8.getD 0 d0).ll),.i ((v8.getD 1 d0).ii),.i ((v8.getD 2 d0).ii),.i ((v8.getD 3 d0).ii),.i ((v8.getD 4 d0).ii),.i ((v8.getD 5 d0).ii),.b ((v8.getD 6 d0).bb),.s ((v8.getD 7 d0).ss),.s ((v8.getD 8 d0).ss),.b ((v8.getD 9 d0).bb),.i ((v8.getD 10 d0).ii),.b ((v8.getD 11 d0).bb),.s ((v8.getD 12 d0).ss),.s ((v8.getD 13 d0).ss),.b ((v8.getD 14 d0).bb)]) fun v10 =>
 if ((v10.getD 10 d0).ii == (7:Int))=true then
 (R 18 [.s ([40]:List UInt8),.s ([41]:List UInt8),.sl ((v10.getD 0 d0).ll),.i ((v10.getD 1 d0).ii),.i ((v10.getD 2 d0).ii),.i ((v10.getD 3 d0).ii),.i ((v10.getD 4 d0).ii)]).bindR fun r11 =>
 (R 6 [.s ([114,101,112,101,97,116,97,98,108,101]:List UInt8),.sl ((r11.getD 1 d0).ll),.i ((r11.getD 2 d0).ii),.i ((r11.getD 3 d0).ii),.i ((r11.getD 4 d0).ii),.i ((r11.getD 5 d0).ii)]).bindR fun r12 =>
 ja (if (r12.getD 0 d0).bb=true then
 .norm [.sl ((r12.getD 1 d0).ll),.i (IntKind.i64.wrap ((r12.getD 2 d0).ii + (1:Int))),.i ((r12.getD 3 d0).ii),.i ((r12.getD 4 d0).ii),.i ((r12.getD 5 d0).ii),.i ((v10.getD 5 d0).ii),.b ((v10.getD 6 d0).bb),.s ((v10.getD 7 d0).ss),.s ((v10.getD 8 d0).ss),.b ((v10.getD 9 d0).bb),.i ((v10.getD 10 d0).ii),.b ((v10.getD 11 d0).bb),.s ((v10.getD 12 d0).ss),.s ((v10.getD 13 d0).ss),.sl ((r11.getD 0 d0).ll),.b true]
 else
 .norm [.sl ((r12.getD 1 d0).ll),.i ((r12.getD 2 d0).ii),.i ((r12.getD 3 d0).ii),.i ((r12.getD 4 d0).ii),.i ((r12.getD 5 d0).ii),.i ((v10.getD 5 d0).ii),.b ((v10.getD 6 d0).bb),.s ((v10.getD 7 d0).ss),.s ((v10.getD 8 d0).ss),.b ((v10.getD 9 d0).bb),.i ((v10.getD 10 d0).ii),.b ((v10.getD 11 d0).bb),.s ((v10.getD 12 d0).ss),.s ((v10.getD 13 d0).ss),.sl ((r11.getD 0 d0).ll),.b ((v10.getD 14 d0).bb)]) fun v13 =>
 (R 6 [.s ([111,110]:List UInt8),.sl ((v13.getD 0 d0).ll),.i ((v13.getD 1 d0).ii),.i ((v13.getD 2 d0).ii),.i ((v13.getD 3 d0).ii),.i ((v13.getD 4 d0).ii)]).bindR fun r14 =>
 ja (if (!((r14.getD 0 d0).bb))=true then
 (R 1 [.i (7:Int),.sl ((r14.getD 1 d0).ll),.i ((r14.getD 2 d0).ii),.i ((r14.getD 3 d0).ii),.i ((r14.getD 4 d0).ii),.i ((r14.getD 5 d0).ii)]).bindR fun r15 =>
 .norm [.sl ((r15.getD 0 d0).ll),.i ((r15.getD 1 d0).ii),.i ((r15.getD 2 d0).ii),.i ((r15.getD 3 d0).ii),.i ((r15.getD 4 d0).ii),.i ((v13.getD 5 d0).ii),.b ((v13.getD 6 d0).bb),.s ((v13.getD 7 d0).ss),.s ((v13.getD 8 d0).ss),.b ((v13.getD 9 d0).bb),.i ((v13.getD 10 d0).ii),.b ((v13.getD 11 d0).bb),.s ((v13.getD 12 d0).ss),.s ((v13.getD 13 d0).ss),.sl ((v13.getD 14 d0).ll),.b ((v13.getD 15 d0).bb)]
 else
 .norm [.sl ((r14.getD 1 d0).ll),.i ((r14.getD 2 d0).ii),.i ((r14.getD 3 d0).ii),.i ((r14.getD 4 d0).ii),.i ((r14.getD 5 d0).ii),.i ((v13.getD 5 d0).ii),.b ((v13.getD 6 d0).bb),.s ((v13.getD 7 d0).ss),.s ((v13.getD 8 d0).ss),.b ((v13.getD 9 d0).bb),.i ((v13.getD 10 d0).ii),.b ((v13.getD 11 d0).bb),.s ((v13.getD 12 d0).ss),.s ((v13.getD 13 d0).ss),.sl ((v13.getD 14 d0).ll),.b ((v13.getD 15 d0).bb)]) fun v16 =>
 (R 19 [.sl ((v16.getD 0 d0).ll),.i (IntKind.i64.wrap ((v16.getD 1 d0).ii + (1:Int))),.i ((v16.getD 2 d0).ii),.i ((v16.getD 3 d0).ii),.i ((v16.getD 4 d0).ii)]).bindR fun r17 =>
 .ret [.i ((v16.getD 10 d0).ii),.b ((v16.getD 11 d0).bb),.s ((v16.getD 12 d0).ss),.s ((v16.getD 13 d0).ss),.sl ((r17.getD 0 d0).ll),.sl [],.sl ((v16.getD 14 d0).ll),.sl [],.sl [],.b ((v16.getD 15 d0).bb),.sl [],.sl ((r17.getD 1 d0).ll),.i ((r17.getD 2 d0).ii),.i ((r17.getD 3 d0).ii),.i ((r17.getD 4 d0).ii),.i ((r17.getD 5 d0).ii)]
 else
 ja (if ((v10.getD 10 d0).ii == (2:Int))=true then
 (R 6 [.s ([105,109,112,108,101,109,101,110,116,115]:List UInt8),.sl ((v10.getD 0 d0).ll),.i ((v10.getD 1 d0).ii),.i ((v10.getD 2 d0).ii),.i ((v10.getD 3 d0).ii),.i ((v10.getD 4 d0).ii)]).bindR fun r18 =>
 .norm [.b ((r18.getD 0 d0).bb),.sl ((r18.getD 1 d0).ll),.i ((r18.getD 2 d0).ii),.i ((r18.getD 3 d0).ii),.i ((r18.getD 4 d0).ii),.i ((r18.getD 5 d0).ii),.i ((v10.getD 5 d0).ii),.b ((v10.getD 6 d0).bb),.s ((v10.getD 7 d0).ss),.s ((v10.getD 8 d0).ss),.b ((v10.getD 9 d0).bb),.i ((v10.getD 10 d0).ii),.b ((v10.getD 11 d0).bb),.s ((v10.getD 12 d0).ss),.s ((v10.getD 13 d0).ss),.b ((v10.getD 14 d0).bb)]
 else
 if ((v10.getD 10 d0).ii == (3:Int))=true then
 (R 6 [.s ([105,109,112,108,101,109,101,110,116,115]:List UInt8),.sl ((v10.getD 0 d0).ll),.i ((v10.getD 1 d0).ii),.i ((v10.getD 2 d0).ii),.i ((v10.getD 3 d0).ii),.i ((v10.getD 4 d0).ii)]).bindR fun r19 =>
 .norm [.b ((r19.getD 0 d0).bb),.sl ((r19.getD 1 d0).ll),.i ((r19.getD 2 d0).ii),.i ((r19.getD 3 d0).ii),.i ((r19.getD 4 d0).ii),.i ((r19.getD 5 d0).ii),.i ((v10.getD 5 d0).ii),.b ((v10.getD 6 d0).bb),.s ((v10.getD 7 d0).ss),.s ((v10.getD 8 d0).ss),.b ((v10.getD 9 d0).bb),.i ((v10.getD 10 d0).ii),.b ((v10.getD 11 d0).bb),.s ((v10.getD 12 d0).ss),.s ((v10.getD 13 d0).ss),.b ((v10.getD 14 d0).bb)]
 else
 .norm [.b false,.sl ((v10.getD 0 d0).ll),.i ((v10.getD 1 d0).ii),.i ((v10.getD 2 d0).ii),.i ((v10.getD 3 d0).ii),.i ((v10.getD 4 d0).ii),.i ((v10.getD 5 d0).ii),.b ((v10.getD 6 d0).bb),.s ((v10.getD 7 d0).ss),.s ((v10.getD 8 d0).ss),.b ((v10.getD 9 d0).bb),.i ((v10.getD 10 d0).ii),.b ((v10.getD 11 d0).bb),.s ((v10.getD 12 d0).ss),.s ((v10.getD 13 d0).ss),.b ((v10.getD 14 d0).bb)]) fun v20 =>
 ja (if (v20.getD 0 d0).bb=true then
 (R 20 [.s ([38]:List UInt8),.sl ((v20.getD 1 d0).ll),.i (IntKind.i64.wrap ((v20.getD 2 d0).ii + (1:Int))),.i ((v20.getD 3 d0).ii),.i ((v20.getD 4 d0).ii),.i ((v20.getD 5 d0).ii)]).bindR fun r21 =>
 .norm [.sl ((r21.getD 1 d0).ll),.i ((r21.getD 2 d0).ii),.i ((r21.getD 3 d0).ii),.i ((r21.getD 4 d0).ii),.i ((r21.getD 5 d0).ii),.i ((v20.getD 6 d0).ii),.b ((v20.getD 7 d0).bb),.s ((v20.getD 8 d0).ss),.s ((v20.getD 9 d0).ss),.b ((v20.getD 10 d0).bb),.i ((v20.getD 11 d0).ii),.b ((v20.getD 12 d0).bb),.s ((v20.getD 13 d0).ss),.s ((v20.getD 14 d0).ss),.sl ((r21.getD 0 d0).ll),.b ((v20.getD 15 d0).bb)]
 else
 .norm [.sl ((v20.getD 1 d0).ll),.i ((v20.getD 2 d0).ii),.i ((v20.getD 3 d0).ii),.i ((v20.getD 4 d0).ii),.i ((v20.getD 5 d0).ii),.i ((v20.getD 6 d0).ii),.b ((v20.getD 7 d0).bb),.s ((v20.getD 8 d0).ss),.s ((v20.getD 9 d0).ss),.b ((v20.getD 10 d0).bb),.i ((v20.getD 11 d0).ii),.b ((v20.getD 12 d0).bb),.s ((v20.getD 13 d0).ss),.s ((v20.getD 14 d0).ss),.sl [],.b ((v20.getD 15 d0).bb)]) fun v22 =>
 (R 13 [.b true,.sl ((v22.getD 0 d0).ll),.i ((v22.getD 1 d0).ii),.i ((v22.getD 2 d0).ii),.i ((v22.getD 3 d0).ii),.i ((v22.getD 4 d0).ii)]).bindR fun r23 =>
 j9 (ja (if ((v22.getD 10 d0).ii == (2:Int))=true then
 .norm [.i ((v22.getD 10 d0).ii),.b ((v22.getD 10 d0).ii == (2:Int)),.sl ((r23.getD 1 d0).ll),.i ((r23.getD 2 d0).ii),.i ((r23.getD 3 d0).ii),.i ((r23.getD 4 d0).ii),.i ((r23.getD 5 d0).ii),.i ((v22.getD 5 d0).ii),.b ((v22.getD 6 d0).bb),.s ((v22.getD 7 d0).ss),.s ((v22.getD 8 d0).ss),.b ((v22.getD 9 d0).bb),.i ((v22.getD 10 d0).ii),.b ((v22.getD 11 d0).bb),.s ((v22.getD 12 d0).ss),.s ((v22.getD 13 d0).ss),.sl ((v22.getD 14 d0).ll),.b ((v22.getD 15 d0).bb),.sl ((r23.getD 0 d0).ll)]
 else
 .norm [.i ((v22.getD 10 d0).ii),.b ((v22.getD 10 d0).ii == (3:Int)),.sl ((r23.getD 1 d0).ll),.i ((r23.getD 2 d0).ii),.i ((r23.getD 3 d0).ii),.i ((r23.getD 4 d0).ii),.i ((r23.getD 5 d0).ii),.i ((v22.getD 5 d0).ii),.b ((v22.getD 6 d0).bb),.s ((v22.getD 7 d0).ss),.s ((v22.getD 8 d0).ss),.b ((v22.getD 9 d0).bb),.i ((v22.getD 10 d0).ii),.b ((v22.getD 11 d0).bb),.s ((v22.getD 12 d0).ss),.s ((v22.getD 13 d0).ss),.sl ((v22.getD 14 d0).ll),.b ((v22.getD 15 d0).bb),.sl ((r23.getD 0 d0).ll)]) fun v24 =>
 ja (if (v24.getD 1 d0).bb=true then
 (R 21 [.sl ((v24.getD 2 d0).ll),.i ((v24.getD 3 d0).ii),.i ((v24.getD 4 d0).ii),.i ((v24.getD 5 d0).ii),.i ((v24.getD 6 d0).ii)]).bindR fun r25 =>
 .norm [.sl ((r25.getD 1 d0).ll),.i ((r25.getD 2 d0).ii),.i ((r25.getD 3 d0).ii),.i ((r25.getD 4 d0).ii),.i ((r25.getD 5 d0).ii),.i ((v24.getD 7 d0).ii),.b ((v24.getD 8 d0).bb),.s ((v24.getD 9 d0).ss),.s ((v24.getD 10 d0).ss),.b ((v24.getD 11 d0).bb),.i ((v24.getD 12 d0).ii),.b ((v24.getD 13 d0).bb),.s ((v24.getD 14 d0).ss),.s ((v24.getD 15 d0).ss),.sl ((v24.getD 16 d0).ll),.sl ((r25.getD 0 d0).ll),.sl [],.sl [],.sl [],.b ((v24.getD 17 d0).bb),.sl ((v24.getD 18 d0).ll)]
 else
 ja (if ((v24.getD 0 d0).ii == (4:Int))=true then
 (R 22 [.s ([61]:List UInt8),.sl ((v24.getD 2 d0).ll),.i ((v24.getD 3 d0).ii),.i ((v24.getD 4 d0).ii),.i ((v24.getD 5 d0).ii),.i ((v24.getD 6 d0).ii)]).bindR fun r26 =>
 ja (if (r26.getD 0 d0).bb=true then
 (R 20 [.s ([124]:List UInt8),.sl ((r26.getD 1 d0).ll),.i ((r26.getD 2 d0).ii),.i ((r26.getD 3 d0).ii),.i ((r26.getD 4 d0).ii),.i ((r26.getD 5 d0).ii)]).bindR fun r27 =>
 .norm [.sl ((r27.getD 1 d0).ll),.i ((r27.getD 2 d0).ii),.i ((r27.getD 3 d0).ii),.i ((r27.getD 4 d0).ii),.i ((r27.getD 5 d0).ii),.i ((v24.getD 7 d0).ii),.b ((v24.getD 8 d0).bb),.s ((v24.getD 9 d0).ss),.s ((v24.getD 10 d0).ss),.b ((v24.getD 11 d0).bb),.i ((v24.getD 12 d0).ii),.b ((v24.getD 13 d0).bb),.s ((v24.getD 14 d0).ss),.s ((v24.getD 15 d0).ss),.sl ((r27.getD 0 d0).ll),.b ((v24.getD 17 d0).bb),.sl ((v24.getD 18 d0).ll)]
 else
 .norm [.sl ((r26.getD 1 d0).ll),.i ((r26.getD 2 d0).ii),.i ((r26.getD 3 d0).ii),.i ((r26.getD 4 d0).ii),.i ((r26.getD 5 d0).ii),.i ((v24.getD 7 d0).ii),.b ((v24.getD 8 d0).bb),.s ((v24.getD 9 d0).ss),.s ((v24.getD 10 d0).ss),.b ((v24.getD 11 d0).bb),.i ((v24.getD 12 d0).ii),.b ((v24.getD 13 d0).bb),.s ((v24.getD 14 d0).ss),.s ((v24.getD 15 d0).ss),.sl ((v24.getD 16 d0).ll),.b ((v24.getD 17 d0).bb),.sl ((v24.getD 18 d0).ll)]) fun v28 =>
 .norm [.sl ((v28.getD 0 d0).ll),.i ((v28.getD 1 d0).ii),.i ((v28.getD 2 d0).ii),.i ((v28.getD 3 d0).ii),.i ((v28.getD 4 d0).ii),.i ((v28.getD 5 d0).ii),.b ((v28.getD 6 d0).bb),.s ((v28.getD 7 d0).ss),.s ((v28.getD 8 d0).ss),.b ((v28.getD 9 d0).bb),.i ((v28.getD 10 d0).ii),.b ((v28.getD 11 d0).bb),.s ((v28.getD 12 d0).ss),.s ((v28.getD 13 d0).ss),.sl ((v28.getD 14 d0).ll),.sl [],.sl [],.sl [],.b ((v28.getD 15 d0).bb),.sl ((v28.getD 16 d0).ll)]
 else
 ja (if ((v24.getD 0 d0).ii == (5:Int))=true then
 (R 23 [.sl ((v24.getD 2 d0).ll),.i ((v24.getD 3 d0).ii),.i ((v24.getD 4 d0).ii),.i ((v24.getD 5 d0).ii),.i ((v24.getD 6 d0).ii)]).bindR fun r29 =>
 .norm [.sl ((r29.getD 1 d0).ll),.i ((r29.getD 2 d0).ii),.i ((r29.getD 3 d0).ii),.i ((r29.getD 4 d0).ii),.i ((r29.getD 5 d0).ii),.i ((v24.getD 7 d0).ii),.b ((v24.getD 8 d0).bb),.s ((v24.getD 9 d0).ss),.s ((v24.getD 10 d0).ss),.b ((v24.getD 11 d0).bb),.i ((v24.getD 12 d0).ii),.b ((v24.getD 13 d0).bb),.s ((v24.getD 14 d0).ss),.s ((v24.getD 15 d0).ss),.sl ((v24.getD 16 d0).ll),.sl [],.sl ((r29.getD 0 d0).ll),.sl [],.b ((v24.getD 17 d0).bb),.sl ((v24.getD 18 d0).ll)]
 else
 ja (if ((v24.getD 0 d0).ii == (6:Int))=true then
 (R 18 [.s ([123]:List UInt8),.s ([125]:List UInt8),.sl ((v24.getD 2 d0).ll),.i ((v24.getD 3 d0).ii),.i ((v24.getD 4 d0).ii),.i ((v24.getD 5 d0).ii),.i ((v24.getD 6 d0).ii)]).bindR fun r30 =>
 .norm [.sl ((r30.getD 1 d0).ll),.i ((r30.getD 2 d0).ii),.i ((r30.getD 3 d0).ii),.i ((r30.getD 4 d0).ii),.i ((r30.getD 5 d0).ii),.i ((v24.getD 7 d0).ii),.b ((v24.getD 8 d0).bb),.s ((v24.getD 9 d0).ss),.s ((v24.getD 10 d0).ss),.b ((v24.getD 11 d0).bb),.i ((v24.getD 12 d0).ii),.b ((v24.getD 13 d0).bb),.s ((v24.getD 14 d0).ss),.s ((v24.getD 15 d0).ss),.sl ((v24.getD 16 d0).ll),.sl ((r30.getD 0 d0).ll),.sl [],.b ((v24.getD 17 d0).bb),.sl ((v24.getD 18 d0).ll)]
 else
 ja (if ((v24.getD 0 d0).ii == (8:Int))=true then
 ja (if (!((v24.getD 13 d0).bb))=true then
 (R 15 [.s ([123]:List UInt8),.sl ((v24.getD 2 d0).ll),.i ((v24.getD 3 d0).ii),.i ((v24.getD 4 d0).ii),.i ((v24.getD 5 d0).ii),.i ((v24.getD 6 d0).ii)]).bindR fun r31 =>
 .norm [.b (!((r31.getD 0 d0).bb)),.sl ((r31.getD 1 d0).ll),.i ((r31.getD 2 d0).ii),.i ((r31.getD 3 d0).ii),.i ((r31.getD 4 d0).ii),.i ((r31.getD 5 d0).ii),.i ((v24.getD 7 d0).ii),.b ((v24.getD 8 d0).bb),.s ((v24.getD 9 d0).ss),.s ((v24.getD 10 d0).ss),.b ((v24.getD 11 d0).bb),.i ((v24.getD 12 d0).ii),.b ((v24.getD 13 d0).bb),.s ((v24.getD 14 d0).ss),.s ((v24.getD 15 d0).ss),.sl ((v24.getD 16 d0).ll),.b ((v24.getD 17 d0).bb),.sl ((v24.getD 18 d0).ll)]
 else
 .norm [.b false,.sl ((v24.getD 2 d0).ll),.i ((v24.getD 3 d0).ii),.i ((v24.getD 4 d0).ii),.i ((v24.getD 5 d0).ii),.i ((v24.getD 6 d0).ii),.i ((v24.getD 7 d0).ii),.b ((v24.getD 8 d0).bb),.s ((v24.getD 9 d0).ss),.s ((v24.getD 10 d0).ss),.b ((v24.getD 11 d0).bb),.i ((v24.getD 12 d0).ii),.b ((v24.getD 13 d0).bb),.s ((v24.getD 14 d0).ss),.s ((v24.getD 15 d0).ss),.sl ((v24.getD 16 d0).ll),.b ((v24.getD 17 d0).bb),.sl ((v24.getD 18 d0).ll)]) fun v32 =>
 ja (if (v32.getD 0 d0).bb=true then
 (R 1 [.i (7:Int),.sl ((v32.getD 1 d0).ll),.i ((v32.getD 2 d0).ii),.i ((v32.getD 3 d0).ii),.i ((v32.getD 4 d0).ii),.i ((v32.getD 5 d0).ii)]).bindR fun r33 =>
 .norm [.sl ((r33.getD 0 d0).ll),.i ((r33.getD 1 d0).ii),.i ((r33.getD 2 d0).ii),.i ((r33.getD 3 d0).ii),.i ((r33.getD 4 d0).ii),.i ((v32.getD 6 d0).ii),.b ((v32.getD 7 d0).bb),.s ((v32.getD 8 d0).ss),.s ((v32.getD 9 d0).ss),.b ((v32.getD 10 d0).bb),.i ((v32.getD 11 d0).ii),.b ((v32.getD 12 d0).bb),.s ((v32.getD 13 d0).ss),.s ((v32.getD 14 d0).ss),.sl ((v32.getD 15 d0).ll),.b ((v32.getD 16 d0).bb),.sl ((v32.getD 17 d0).ll)]
 else
 .norm [.sl ((v32.getD 1 d0).ll),.i ((v32.getD 2 d0).ii),.i ((v32.getD 3 d0).ii),.i ((v32.getD 4 d0).ii),.i ((v32.getD 5 d0).ii),.i ((v32.getD 6 d0).ii),.b ((v32.getD 7 d0).bb),.s ((v32.getD 8 d0).ss),.s ((v32.getD 9 d0).ss),.b ((v32.getD 10 d0).bb),.i ((v32.getD 11 d0).ii),.b ((v32.getD 12 d0).bb),.s ((v32.getD 13 d0).ss),.s ((v32.getD 14 d0).ss),.sl ((v32.getD 15 d0).ll),.b ((v32.getD 16 d0).bb),.sl ((v32.getD 17 d0).ll)]) fun v34 =>
 (R 24 [.sl ((v34.getD 0 d0).ll),.i ((v34.getD 1 d0).ii),.i ((v34.getD 2 d0).ii),.i ((v34.getD 3 d0).ii),.i ((v34.getD 4 d0).ii)]).bindR fun r35 =>
 .norm [.sl ((r35.getD 1 d0).ll),.i ((r35.getD 2 d0).ii),.i ((r35.getD 3 d0).ii),.i ((r35.getD 4 d0).ii),.i ((r35.getD 5 d0).ii),.i ((v34.getD 5 d0).ii),.b ((v34.getD 6 d0).bb),.s ((v34.getD 7 d0).ss),.s ((v34.getD 8 d0).ss),.b ((v34.getD 9 d0).bb),.i ((v34.getD 10 d0).ii),.b ((v34.getD 11 d0).bb),.s ((v34.getD 12 d0).ss),.s ((v34.getD 13 d0).ss),.sl ((v34.getD 14 d0).ll),.sl ((r35.getD 0 d0).ll),.b ((v34.getD 15 d0).bb),.sl ((v34.getD 16 d0).ll)]
 else
 .norm [.sl ((v24.getD 2 d0).ll),.i ((v24.getD 3 d0).ii),.i ((v24.getD 4 d0).ii),.i ((v24.getD 5 d0).ii),.i ((v24.getD 6 d0).ii),.i ((v24.getD 7 d0).ii),.b ((v24.getD 8 d0).bb),.s ((v24.getD 9 d0).ss),.s ((v24.getD 10 d0).ss),.b ((v24.getD 11 d0).bb),.i ((v24.getD 12 d0).ii),.b ((v24.getD 13 d0).bb),.s ((v24.getD 14 d0).ss),.s ((v24.getD 15 d0).ss),.sl ((v24.getD 16 d0).ll),.sl [],.b ((v24.getD 17 d0).bb),.sl ((v24.getD 18 d0).ll)]) fun v36 =>
 .norm [.sl ((v36.getD 0 d0).ll),.i ((v36.getD 1 d0).ii),.i ((v36.getD 2 d0).ii),.i ((v36.getD 3 d0).ii),.i ((v36.getD 4 d0).ii),.i ((v36.getD 5 d0).ii),.b ((v36.getD 6 d0).bb),.s ((v36.getD 7 d0).ss),.s ((v36.getD 8 d0).ss),.b ((v36.getD 9 d0).bb),.i ((v36.getD 10 d0).ii),.b ((v36.getD 11 d0).bb),.s ((v36.getD 12 d0).ss),.s ((v36.getD 13 d0).ss),.sl ((v36.getD 14 d0).ll),.sl [],.sl ((v36.getD 15 d0).ll),.b ((v36.getD 16 d0).bb),.sl ((v36.getD 17 d0).ll)]) fun v37 =>
 .norm [.sl ((v37.getD 0 d0).ll),.i ((v37.getD 1 d0).ii),.i ((v37.getD 2 d0).ii),.i ((v37.getD 3 d0).ii),.i ((v37.getD 4 d0).ii),.i ((v37.getD 5 d0).ii),.b ((v37.getD 6 d0).bb),.s ((v37.getD 7 d0).ss),.s ((v37.getD 8 d0).ss),.b ((v37.getD 9 d0).bb),.i ((v37.getD 10 d0).ii),.b ((v37.getD 11 d0).bb),.s ((v37.getD 12 d0).ss),.s ((v37.getD 13 d0).ss),.sl ((v37.getD 14 d0).ll),.sl ((v37.getD 15 d0).ll),.sl [],.sl ((v37.getD 16 d0).ll),.b ((v37.getD 17 d0).bb),.sl ((v37.getD 18 d0).ll)]) fun v38 =>
 .norm [.sl ((v38.getD 0 d0).ll),.i ((v38.getD 1 d0).ii),.i ((v38.getD 2 d0).ii),.i ((v38.getD 3 d0).ii),.i ((v38.getD 4 d0).ii),.i ((v38.getD 5 d0).ii),.b ((v38.getD 6 d0).bb),.s ((v38.getD 7 d0).ss),.s ((v38.getD 8 d0).ss),.b ((v38.getD 9 d0).bb),.i ((v38.getD 10 d0).ii),.b ((v38.getD 11 d0).bb),.s ((v38.getD 12 d0).ss),.s ((v38.getD 13 d0).ss),.sl ((v38.getD 14 d0).ll),.sl ((v38.getD 15 d0).ll),.sl ((v38.getD 16 d0).ll),.sl ((v38.getD 17 d0).ll),.b ((v38.getD 18 d0).bb),.sl ((v38.getD 19 d0).ll)]) fun v39 =>
 .norm [.sl ((v39.getD 0 d0).ll),.i ((v39.getD 1 d0).ii),.i ((v39.getD 2 d0).ii),.i ((v39.getD 3 d0).ii),.i ((v39.getD 4 d0).ii),.i ((v39.getD 5 d0).ii),.b ((v39.getD 6 d0).bb),.s ((v39.getD 7 d0).ss),.s ((v39.getD 8 d0).ss),.b ((v39.getD 9 d0).bb),.i ((v39.getD 10 d0).ii),.b ((v39.getD 11 d0).bb),.s ((v39.getD 12 d0).ss),.s ((v39.getD 13 d0).ss),.sl ((v39.getD 14 d0).ll),.sl [],.sl ((v39.getD 15 d0).ll),.sl ((v39.getD 16 d0).ll),.sl ((v39.getD 17 d0).ll),.b ((v39.getD 18 d0).bb),.sl ((v39.getD 19 d0).ll)]) fun v40 =>
 .norm [.sl ((v40.getD 0 d0).ll),.i ((v40.getD 1 d0).ii),.i ((v40.getD 2 d0).ii),.i ((v40.getD 3 d0).ii),.i ((v40.getD 4 d0).ii),.i ((v40.getD 5 d0).ii),.b ((v40.getD 6 d0).bb),.s ((v40.getD 7 d0).ss),.s ((v40.getD 8 d0).ss),.b ((v40.getD 9 d0).bb),.i ((v40.getD 10 d0).ii),.b ((v40.getD 11 d0).bb),.s ((v40.getD 12 d0).ss),.s ((v40.getD 13 d0).ss),.sl ((v40.getD 14 d0).ll),.sl ((v40.getD 15 d0).ll),.sl ((v40.getD 16 d0).ll),.sl ((v40.getD 17 d0).ll),.sl ((v40.getD 18 d0).ll),.b ((v40.getD 19 d0).bb),.sl ((v40.getD 20 d0).ll)]) 0 fun v41 =>
 ja (if (v41.getD 11 d0).bb=true then
 (R 25 [.i ((v41.getD 10 d0).ii),.b ((v41.getD 11 d0).bb),.s ((v41.getD 12 d0).ss),.s ((v41.getD 13 d0).ss),.sl ((v41.getD 14 d0).ll),.sl ((v41.getD 15 d0).ll),.sl ((v41.getD 16 d0).ll),.sl ((v41.getD 17 d0).ll),.sl ((v41.getD 18 d0).ll),.b ((v41.getD 19 d0).bb),.sl ((v41.getD 20 d0).ll)]).bindR fun r42 =>
 .norm [.b (!((r42.getD 0 d0).bb)),.sl ((v41.getD 0 d0).ll),.i ((v41.getD 1 d0).ii),.i ((v41.getD 2 d0).ii),.i ((v41.getD 3 d0).ii),.i ((v41.getD 4 d0).ii),.i ((v41.getD 5 d0).ii),.b ((v41.getD 6 d0).bb),.s ((v41.getD 7 d0).ss),.s ((v41.getD 8 d0).ss),.b ((v41.getD 9 d0).bb),.i ((v41.getD 10 d0).ii),.b ((v41.getD 11 d0).bb),.s ((v41.getD 12 d0).ss),.s ((v41.getD 13 d0).ss),.sl ((v41.getD 14 d0).ll),.sl ((v41.getD 15 d0).ll),.sl ((v41.getD 16 d0).ll),.sl ((v41.getD 17 d0).ll),.sl ((v41.getD 18 d0).ll),.b ((v41.getD 19 d0).bb),.sl ((v41.getD 20 d0).ll)]
 else
 .norm [.b false,.sl ((v41.getD 0 d0).ll),.i ((v41.getD 1 d0).ii),.i ((v41.getD 2 d0).ii),.i ((v41.getD 3 d0).ii),.i ((v41.getD 4 d0).ii),.i ((v41.getD 5 d0).ii),.b ((v41.getD 6 d0).bb),.s ((v41.getD 7 d0).ss),.s ((v41.getD 8 d0).ss),.b ((v41.getD 9 d0).bb),.i ((v41.getD 10 d0).ii),.b ((v41.getD 11 d0).bb),.s ((v41.getD 12 d0).ss),.s ((v41.getD 13 d0).ss),.sl ((v41.getD 14 d0).ll),.sl ((v41.getD 15 d0).ll),.sl ((v41.getD 16 d0).ll),.sl ((v41.getD 17 d0).ll),.sl ((v41.getD 18 d0).ll),.b ((v41.getD 19 d0).bb),.sl ((v41.getD 20 d0).ll)]) fun v43 =>
 ja (if (v43.getD 0 d0).bb=true then
 (R 1 [.i (7:Int),.sl ((v43.getD 1 d0).ll),.i ((v43.getD 2 d0).ii),.i ((v43.getD 3 d0).ii),.i ((v43.getD 4 d0).ii),.i ((v43.getD 5 d0).ii)]).bindR fun r44 =>
 .norm [.sl ((r44.getD 0 d0).ll),.i ((r44.getD 1 d0).ii),.i ((r44.getD 2 d0).ii),.i ((r44.getD 3 d0).ii),.i ((r44.getD 4 d0).ii),.i ((v43.getD 6 d0).ii),.b ((v43.getD 7 d0).bb),.s ((v43.getD 8 d0).ss),.s ((v43.getD 9 d0).ss),.b ((v43.getD 10 d0).bb),.i ((v43.getD 11 d0).ii),.b ((v43.getD 12 d0).bb),.s ((v43.getD 13 d0).ss),.s ((v43.getD 14 d0).ss),.sl ((v43.getD 15 d0).ll),.sl ((v43.getD 16 d0).ll),.sl ((v43.getD 17 d0).ll),.sl ((v43.getD 18 d0).ll),.sl ((v43.getD 19 d0).ll),.b ((v43.getD 20 d0).bb),.sl ((v43.getD 21 d0).ll)]
 else
 .norm [.sl ((v43.getD 1 d0).ll),.i ((v43.getD 2 d0).ii),.i ((v43.getD 3 d0).ii),.i ((v43.getD 4 d0).ii),.i ((v43.getD 5 d0).ii),.i ((v43.getD 6 d0).ii),.b ((v43.getD 7 d0).bb),.s ((v43.getD 8 d0).ss),.s ((v43.getD 9 d0).ss),.b ((v43.getD 10 d0).bb),.i ((v43.getD 11 d0).ii),.b ((v43.getD 12 d0).bb),.s ((v43.getD 13 d0).ss),.s ((v43.getD 14 d0).ss),.sl ((v43.getD 15 d0).ll),.sl ((v43.getD 16 d0).ll),.sl ((v43.getD 17 d0).ll),.sl ((v43.getD 18 d0).ll),.sl ((v43.getD 19 d0).ll),.b ((v43.getD 20 d0).bb),.sl ((v43.getD 21 d0).ll)]) fun v45 =>
 .ret [.i ((v45.getD 10 d0).ii),.b ((v45.getD 11 d0).bb),.s ((v45.getD 12 d0).ss),.s ((v45.getD 13 d0).ss),.sl ((v45.getD 14 d0).ll),.sl ((v45.getD 15 d0).ll),.sl ((v45.getD 16 d0).ll),.sl ((v45.getD 17 d0).ll),.sl ((v45.getD 18 d0).ll),.b ((v45.getD 19 d0).bb),.sl ((v45.getD 20 d0).ll),.sl ((v45.getD 0 d0).ll),.i ((v45.getD 1 d0).ii),.i ((v45.getD 2 d0).ii),.i ((v45.getD 3 d0).ii),.i ((v45.getD 4 d0).ii)]
def JH (R:Nat → List DC → Out) (n:Nat) (a:List DC):Out :=
 (R 10 [.i (5:Int),.sl ((a.getD 0 d0).ll),.i ((a.getD 1 d0).ii),.i ((a.getD 2 d0).ii),.i ((a.getD 3 d0).ii),.i ((a.getD 4 d0).ii)]).bindR fun r1 =>
 if (!((r1.getD 0 d0).bb))=true then
 .ret [.s ([]:List UInt8),.sl ((r1.getD 1 d0).ll),.i ((r1.getD 2 d0).ii),.i ((r1.getD 3 d0).ii),.i ((r1.getD 4 d0).ii),.i ((r1.getD 5 d0).ii)]
 else
 if 117=117 ∧ 0 ≤ (IntKind.i64.wrap ((IntKind.i64.wrap ((r1.getD 2 d0).ii + (1:Int))) - (1:Int))) ∧ (IntKind.i64.wrap ((IntKind.i64.wrap ((r1.getD 2 d0).ii + (1:Int))) - (1:Int))) < (((r1.getD 1 d0).ll).length:Int) then
 .ret [.s (((((r1.getD 1 d0).ll).getD (IntKind.i64.wrap ((IntKind.i64.wrap ((r1.getD 2 d0).ii + (1:Int))) - (1:Int))).toNat []).getD 1 d0).ss),.sl ((r1.getD 1 d0).ll),.i (IntKind.i64.wrap ((r1.getD 2 d0).ii + (1:Int))),.i ((r1.getD 3 d0).ii),.i ((r1.getD 4 d0).ii),.i ((r1.getD 5 d0).ii)]
 else
 .fail
def Yf (R:Nat → List DC → Out) (n:Nat):List DC → Out:=fun v2 =>
 if (decide ((v2.getD 0 d0).ii ≤ (3:Int)))=true then
 j9 ((R 26 [.i ((v2.getD 0 d0).ii)]).bindR fun r3 =>
 (R 6 [.s ((r3.getD 0 d0).ss),.sl ((v2.getD 1 d0).ll),.i ((v2.getD 2 d0).ii),.i ((v2.getD 3 d0).ii),.i ((v2.getD 4 d0).ii),.i ((v2.getD 5 d0).ii)]).bindR fun r4 =>
 if (r4.getD 0 d0).bb=true then
 .ret [.i ((v2.getD 0 d0).ii),.sl ((r4.getD 1 d0).ll),.i ((r4.getD 2 d0).ii),.i ((r4.getD 3 d0).ii),.i ((r4.getD 4 d0).ii),.i ((r4.getD 5 d0).ii)]
 else
 .norm [.i ((v2.getD 0 d0).ii),.sl ((r4.getD 1 d0).ll),.i ((r4.getD 2 d0).ii),.i ((r4.getD 3 d0).ii),.i ((r4.getD 4 d0).ii),.i ((r4.getD 5 d0).ii)]) 1 fun v5 =>
 .norm [.i (IntKind.i64.wrap ((v5.getD 0 d0).ii + (1:Int))),.sl ((v5.getD 1 d0).ll),.i ((v5.getD 2 d0).ii),.i ((v5.getD 3 d0).ii),.i ((v5.getD 4 d0).ii),.i ((v5.getD 5 d0).ii)]
 else
 .ex 0 [.sl ((v2.getD 1 d0).ll),.i ((v2.getD 2 d0).ii),.i ((v2.getD 3 d0).ii),.i ((v2.getD 4 d0).ii),.i ((v2.getD 5 d0).ii)]
def KK (R:Nat → List DC → Out) (n:Nat) (a:List DC):Out :=
 (R 15 [.s ([123]:List UInt8),.sl ((a.getD 0 d0).ll),.i ((a.getD 1 d0).ii),.i ((a.getD 2 d0).ii),.i ((a.getD 3 d0).ii),.i ((a.getD 4 d0).ii)]).bindR fun r1 =>
 if (r1.getD 0 d0).bb=true then
 .ret [.i (1:Int),.sl ((r1.getD 1 d0).ll),.i ((r1.getD 2 d0).ii),.i ((r1.getD 3 d0).ii),.i ((r1.getD 4 d0).ii),.i ((r1.getD 5 d0).ii)]
 else
 j9 (jG (Yf R n) n [.i (1:Int),.sl ((r1.getD 1 d0).ll),.i ((r1.getD 2 d0).ii),.i ((r1.getD 3 d0).ii),.i ((r1.getD 4 d0).ii),.i ((r1.getD 5 d0).ii)]) 0 fun v6 =>
 .ret [.i (0:Int),.sl ((v6.getD 0 d0).ll),.i ((v6.getD 1 d0).ii),.i ((v6.getD 2 d0).ii),.i ((v6.getD 3 d0).ii),.i ((v6.getD 4 d0).ii)]
def VE (R:Nat → List DC → Out) (n:Nat) (a:List DC):Out :=
 ja (if ((a.getD 4 d0).ii == (0:Int))=true then
 if (decide ((a.getD 2 d0).ii < (((a.getD 1 d0).ll).length:Int)))=true then
 if 117=117 ∧ 0 ≤ (a.getD 2 d0).ii ∧ (a.getD 2 d0).ii < (((a.getD 1 d0).ll).length:Int) then
 .norm [.b (((((a.getD 1 d0).ll).getD ((a.getD 2 d0).ii).toNat []).getD 0 d0).ii == (a.getD 0 d0).ii),.sl ((a.getD 1 d0).ll),.i ((a.getD 2 d0).ii),.i ((a.getD 3 d0).ii),.i ((a.getD 4 d0).ii),.i ((a.getD 5 d0).ii)]
 else
 .fail
 else
 .norm [.b false,.sl ((a.getD 1 d0).ll),.i ((a.getD 2 d0).ii),.i ((a.getD 3 d0).ii),.i ((a.getD 4 d0).ii),.i ((a.getD 5 d0).ii)]
 else
 .norm [.b false,.sl ((a.getD 1 d0).ll),.i ((a.getD 2 d0).ii),.i ((a.getD 3 d0).ii),.i ((a.getD 4 d0).ii),.i ((a.getD 5 d0).ii)]) fun v1 =>
 .ret [.b ((v1.getD 0 d0).bb),.sl ((v1.getD 1 d0).ll),.i ((v1.getD 2 d0).ii),.i ((v1.getD 3 d0).ii),.i ((v1.getD 4 d0).ii),.i ((v1.getD 5 d0).ii)]
def Yg (R:Nat → List DC → Out) (n:Nat):List DC → Out:=fun v1 =>
 if (decide ((v1.getD 0 d0).ii ≤ (8:Int)))=true then
 j9 ((R 27 [.i ((v1.getD 0 d0).ii)]).bindR fun r2 =>
 (R 6 [.s ((r2.getD 0 d0).ss),.sl ((v1.getD 1 d0).ll),.i ((v1.getD 2 d0).ii),.i ((v1.getD 3 d0).ii),.i ((v1.getD 4 d0).ii),.i ((v1.getD 5 d0).ii)]).bindR fun r3 =>
 if (r3.getD 0 d0).bb=true then
 .ret [.i ((v1.getD 0 d0).ii),.sl ((r3.getD 1 d0).ll),.i ((r3.getD 2 d0).ii),.i ((r3.getD 3 d0).ii),.i ((r3.getD 4 d0).ii),.i ((r3.getD 5 d0).ii)]
 else
 .norm [.i ((v1.getD 0 d0).ii),.sl ((r3.getD 1 d0).ll),.i ((r3.getD 2 d0).ii),.i ((r3.getD 3 d0).ii),.i ((r3.getD 4 d0).ii),.i ((r3.getD 5 d0).ii)]) 1 fun v4 =>
 .norm [.i (IntKind.i64.wrap ((v4.getD 0 d0).ii + (1:Int))),.sl ((v4.getD 1 d0).ll),.i ((v4.getD 2 d0).ii),.i ((v4.getD 3 d0).ii),.i ((v4.getD 4 d0).ii),.i ((v4.getD 5 d0).ii)]
 else
 .ex 0 [.sl ((v1.getD 1 d0).ll),.i ((v1.getD 2 d0).ii),.i ((v1.getD 3 d0).ii),.i ((v1.getD 4 d0).ii),.i ((v1.getD 5 d0).ii)]
def KM (R:Nat → List DC → Out) (n:Nat) (a:List DC):Out :=
 j9 (jG (Yg R n) n [.i (1:Int),.sl ((a.getD 0 d0).ll),.i ((a.getD 1 d0).ii),.i ((a.getD 2 d0).ii),.i ((a.getD 3 d0).ii),.i ((a.getD 4 d0).ii)]) 0 fun v5 =>
 .ret [.i (0:Int),.sl ((v5.getD 0 d0).ll),.i ((v5.getD 1 d0).ii),.i ((v5.getD 2 d0).ii),.i ((v5.getD 3 d0).ii),.i ((v5.getD 4 d0).ii)]
def VD (R:Nat → List DC → Out) (n:Nat) (a:List DC):Out :=
 (R 10 [.i (2:Int),.sl ((a.getD 0 d0).ll),.i ((a.getD 1 d0).ii),.i ((a.getD 2 d0).ii),.i ((a.getD 3 d0).ii),.i ((a.getD 4 d0).ii)]).bindR fun r1 =>
 if (!((r1.getD 0 d0).bb))=true then
 (R 1 [.i (7:Int),.sl ((r1.getD 1 d0).ll),.i ((r1.getD 2 d0).ii),.i ((r1.getD 3 d0).ii),.i ((r1.getD 4 d0).ii),.i ((r1.getD 5 d0).ii)]).bindR fun r2 =>
 .ret [.s ([]:List UInt8),.sl ((r2.getD 0 d0).ll),.i ((r2.getD 1 d0).ii),.i ((r2.getD 2 d0).ii),.i ((r2.getD 3 d0).ii),.i ((r2.getD 4 d0).ii)]
 else
 if 117=117 ∧ 0 ≤ (IntKind.i64.wrap ((IntKind.i64.wrap ((r1.getD 2 d0).ii + (1:Int))) - (1:Int))) ∧ (IntKind.i64.wrap ((IntKind.i64.wrap ((r1.getD 2 d0).ii + (1:Int))) - (1:Int))) < (((r1.getD 1 d0).ll).length:Int) then
 .ret [.s (((((r1.getD 1 d0).ll).getD (IntKind.i64.wrap ((IntKind.i64.wrap ((r1.getD 2 d0).ii + (1:Int))) - (1:Int))).toNat []).getD 1 d0).ss),.sl ((r1.getD 1 d0).ll),.i (IntKind.i64.wrap ((r1.getD 2 d0).ii + (1:Int))),.i ((r1.getD 3 d0).ii),.i ((r1.getD 4 d0).ii),.i ((r1.getD 5 d0).ii)]
 else
 .fail
def Vx (R:Nat → List DC → Out) (n:Nat):List DC → Out:=fun v1 =>
 (R 22 [.s ([64]:List UInt8),.sl ((v1.getD 2 d0).ll),.i ((v1.getD 3 d0).ii),.i ((v1.getD 4 d0).ii),.i ((v1.getD 5 d0).ii),.i ((v1.getD 6 d0).ii)]).bindR fun r2 =>
 if (r2.getD 0 d0).bb=true then
 j9 ((R 12 [.sl ((r2.getD 1 d0).ll),.i ((r2.getD 2 d0).ii),.i ((r2.getD 3 d0).ii),.i ((r2.getD 4 d0).ii),.i ((r2.getD 5 d0).ii)]).bindR fun r3 =>
 (R 28 [.b ((v1.getD 0 d0).bb),.sl ((r3.getD 1 d0).ll),.i ((r3.getD 2 d0).ii),.i ((r3.getD 3 d0).ii),.i ((r3.getD 4 d0).ii),.i ((r3.getD 5 d0).ii)]).bindR fun r4 =>
 if ((v1.getD 1 d0).ll).length + [[DC.s ((r3.getD 0 d0).ss),DC.sl ((r4.getD 0 d0).ll)]].length < jN then
 .norm [.b ((v1.getD 0 d0).bb),.sl (((v1.getD 1 d0).ll) ++ [[DC.s ((r3.getD 0 d0).ss),DC.sl ((r4.getD 0 d0).ll)]]),.sl ((r4.getD 1 d0).ll),.i ((r4.getD 2 d0).ii),.i ((r4.getD 3 d0).ii),.i ((r4.getD 4 d0).ii),.i ((r4.getD 5 d0).ii)]
 else
 .fail) 1 fun v5 =>
 .norm [.b ((v5.getD 0 d0).bb),.sl ((v5.getD 1 d0).ll),.sl ((v5.getD 2 d0).ll),.i ((v5.getD 3 d0).ii),.i ((v5.getD 4 d0).ii),.i ((v5.getD 5 d0).ii),.i ((v5.getD 6 d0).ii)]
 else
 .ex 0 [.sl ((v1.getD 1 d0).ll),.sl ((r2.getD 1 d0).ll),.i ((r2.getD 2 d0).ii),.i ((r2.getD 3 d0).ii),.i ((r2.getD 4 d0).ii),.i ((r2.getD 5 d0).ii)]
def JK (R:Nat → List DC → Out) (n:Nat) (a:List DC):Out :=
 j9 (jG (Vx R n) n [.b ((a.getD 0 d0).bb),.sl [],.sl ((a.getD 1 d0).ll),.i ((a.getD 2 d0).ii),.i ((a.getD 3 d0).ii),.i ((a.getD 4 d0).ii),.i ((a.getD 5 d0).ii)]) 0 fun v6 =>
 .ret [.sl ((v6.getD 0 d0).ll),.sl ((v6.getD 1 d0).ll),.i ((v6.getD 2 d0).ii),.i ((v6.getD 3 d0).ii),.i ((v6.getD 4 d0).ii),.i ((v6.getD 5 d0).ii)]
def ZM (R:Nat → List DC → Out) (n:Nat):List DC → Out:=fun v6 =>
 if ((v6.getD 5 d0).ii == (0:Int))=true then
 j9 (ja (if ((v6.getD 7 d0).ii == (0:Int))=true then
 (R 10 [.i (2:Int),.sl ((v6.getD 2 d0).ll),.i ((v6.getD 3 d0).ii),.i ((v6.getD 4 d0).ii),.i ((v6.getD 5 d0).ii),.i ((v6.getD 6 d0).ii)]).bindR fun r7 =>
 if (r7.getD 0 d0).bb=true then
 .norm [.i ((v6.getD 0 d0).ii),.sl ((v6.getD 1 d0).ll),.b true,.sl ((r7.getD 1 d0).ll),.i ((r7.getD 2 d0).ii),.i ((r7.getD 3 d0).ii),.i ((r7.getD 4 d0).ii),.i ((r7.getD 5 d0).ii),.i ((v6.getD 7 d0).ii)]
 else
 (R 15 [.s ([46,46,46]:List UInt8),.sl ((r7.getD 1 d0).ll),.i ((r7.getD 2 d0).ii),.i ((r7.getD 3 d0).ii),.i ((r7.getD 4 d0).ii),.i ((r7.getD 5 d0).ii)]).bindR fun r8 =>
 .norm [.i ((v6.getD 0 d0).ii),.sl ((v6.getD 1 d0).ll),.b ((r8.getD 0 d0).bb),.sl ((r8.getD 1 d0).ll),.i ((r8.getD 2 d0).ii),.i ((r8.getD 3 d0).ii),.i ((r8.getD 4 d0).ii),.i ((r8.getD 5 d0).ii),.i ((v6.getD 7 d0).ii)]
 else
 .norm [.i ((v6.getD 0 d0).ii),.sl ((v6.getD 1 d0).ll),.b false,.sl ((v6.getD 2 d0).ll),.i ((v6.getD 3 d0).ii),.i ((v6.getD 4 d0).ii),.i ((v6.getD 5 d0).ii),.i ((v6.getD 6 d0).ii),.i ((v6.getD 7 d0).ii)]) fun v9 =>
 if (v9.getD 2 d0).bb=true then
 (R 1 [.i (6:Int),.sl ((v9.getD 3 d0).ll),.i ((v9.getD 4 d0).ii),.i ((v9.getD 5 d0).ii),.i ((v9.getD 6 d0).ii),.i ((v9.getD 7 d0).ii)]).bindR fun r10 =>
 .ret [.sl ((v9.getD 1 d0).ll),.sl ((r10.getD 0 d0).ll),.i ((r10.getD 1 d0).ii),.i ((r10.getD 2 d0).ii),.i ((r10.getD 3 d0).ii),.i ((r10.getD 4 d0).ii),.i ((v9.getD 8 d0).ii)]
 else
 (R 22 [.s ([46,46,46]:List UInt8),.sl ((v9.getD 3 d0).ll),.i ((v9.getD 4 d0).ii),.i ((v9.getD 5 d0).ii),.i ((v9.getD 6 d0).ii),.i ((v9.getD 7 d0).ii)]).bindR fun r11 =>
 ja (if (r11.getD 0 d0).bb=true then
 (R 6 [.s ([111,110]:List UInt8),.sl ((r11.getD 1 d0).ll),.i ((r11.getD 2 d0).ii),.i ((r11.getD 3 d0).ii),.i ((r11.getD 4 d0).ii),.i ((r11.getD 5 d0).ii)]).bindR fun r12 =>
 ja (if (r12.getD 0 d0).bb=true then
 (R 12 [.sl ((r12.getD 1 d0).ll),.i (IntKind.i64.wrap ((r12.getD 2 d0).ii + (1:Int))),.i ((r12.getD 3 d0).ii),.i ((r12.getD 4 d0).ii),.i ((r12.getD 5 d0).ii)]).bindR fun r13 =>
 .norm [.i ((v9.getD 0 d0).ii),.sl ((v9.getD 1 d0).ll),.sl ((r13.getD 1 d0).ll),.i ((r13.getD 2 d0).ii),.i ((r13.getD 3 d0).ii),.i ((r13.getD 4 d0).ii),.i ((r13.getD 5 d0).ii),.i (IntKind.i64.wrap ((v9.getD 8 d0).ii - (1:Int))),.i (3:Int),.s [],.s [],.s ((r13.getD 0 d0).ss)]
 else
 (R 10 [.i (2:Int),.sl ((r12.getD 1 d0).ll),.i ((r12.getD 2 d0).ii),.i ((r12.getD 3 d0).ii),.i ((r12.getD 4 d0).ii),.i ((r12.getD 5 d0).ii)]).bindR fun r14 =>
 ja (if (r14.getD 0 d0).bb=true then
 (R 12 [.sl ((r14.getD 1 d0).ll),.i ((r14.getD 2 d0).ii),.i ((r14.getD 3 d0).ii),.i ((r14.getD 4 d0).ii),.i ((r14.getD 5 d0).ii)]).bindR fun r15 =>
 .norm [.i ((v9.getD 0 d0).ii),.sl ((v9.getD 1 d0).ll),.sl ((r15.getD 1 d0).ll),.i ((r15.getD 2 d0).ii),.i ((r15.getD 3 d0).ii),.i ((r15.getD 4 d0).ii),.i ((r15.getD 5 d0).ii),.i (IntKind.i64.wrap ((v9.getD 8 d0).ii - (1:Int))),.i (2:Int),.s [],.s ((r15.getD 0 d0).ss),.s []]
 else
 .norm [.i ((v9.getD 0 d0).ii),.sl ((v9.getD 1 d0).ll),.sl ((r14.getD 1 d0).ll),.i ((r14.getD 2 d0).ii),.i ((r14.getD 3 d0).ii),.i ((r14.getD 4 d0).ii),.i ((r14.getD 5 d0).ii),.i (IntKind.i64.wrap ((v9.getD 8 d0).ii - (1:Int))),.i (3:Int),.s [],.s [],.s []]) fun v16 =>
 .norm [.i ((v16.getD 0 d0).ii),.sl ((v16.getD 1 d0).ll),.sl ((v16.getD 2 d0).ll),.i ((v16.getD 3 d0).ii),.i ((v16.getD 4 d0).ii),.i ((v16.getD 5 d0).ii),.i ((v16.getD 6 d0).ii),.i ((v16.getD 7 d0).ii),.i ((v16.getD 8 d0).ii),.s ((v16.getD 9 d0).ss),.s ((v16.getD 10 d0).ss),.s ((v16.getD 11 d0).ss)]) fun v17 =>
 .norm [.i ((v17.getD 0 d0).ii),.sl ((v17.getD 1 d0).ll),.sl ((v17.getD 2 d0).ll),.i ((v17.getD 3 d0).ii),.i ((v17.getD 4 d0).ii),.i ((v17.getD 5 d0).ii),.i ((v17.getD 6 d0).ii),.i ((v17.getD 7 d0).ii),.i ((v17.getD 8 d0).ii),.s ((v17.getD 9 d0).ss),.s ((v17.getD 10 d0).ss),.s ((v17.getD 11 d0).ss),.sl []]
 else
 (R 12 [.sl ((r11.getD 1 d0).ll),.i ((r11.getD 2 d0).ii),.i ((r11.getD 3 d0).ii),.i ((r11.getD 4 d0).ii),.i ((r11.getD 5 d0).ii)]).bindR fun r18 =>
 (R 22 [.s ([58]:List UInt8),.sl ((r18.getD 1 d0).ll),.i ((r18.getD 2 d0).ii),.i ((r18.getD 3 d0).ii),.i ((r18.getD 4 d0).ii),.i ((r18.getD 5 d0).ii)]).bindR fun r19 =>
 ja (if (r19.getD 0 d0).bb=true then
 (R 12 [.sl ((r19.getD 1 d0).ll),.i ((r19.getD 2 d0).ii),.i ((r19.getD 3 d0).ii),.i ((r19.getD 4 d0).ii),.i ((r19.getD 5 d0).ii)]).bindR fun r20 =>
 .norm [.i ((v9.getD 0 d0).ii),.sl ((v9.getD 1 d0).ll),.sl ((r20.getD 1 d0).ll),.i ((r20.getD 2 d0).ii),.i ((r20.getD 3 d0).ii),.i ((r20.getD 4 d0).ii),.i ((r20.getD 5 d0).ii),.i (IntKind.i64.wrap ((v9.getD 8 d0).ii - (1:Int))),.i (1:Int),.s ((r18.getD 0 d0).ss),.s ((r20.getD 0 d0).ss),.s []]
 else
 .norm [.i ((v9.getD 0 d0).ii),.sl ((v9.getD 1 d0).ll),.sl ((r19.getD 1 d0).ll),.i ((r19.getD 2 d0).ii),.i ((r19.getD 3 d0).ii),.i ((r19.getD 4 d0).ii),.i ((r19.getD 5 d0).ii),.i (IntKind.i64.wrap ((v9.getD 8 d0).ii - (1:Int))),.i (1:Int),.s [],.s ((r18.getD 0 d0).ss),.s []]) fun v21 =>
 (R 28 [.b false,.sl ((v21.getD 2 d0).ll),.i ((v21.getD 3 d0).ii),.i ((v21.getD 4 d0).ii),.i ((v21.getD 5 d0).ii),.i ((v21.getD 6 d0).ii)]).bindR fun r22 =>
 .norm [.i ((v21.getD 0 d0).ii),.sl ((v21.getD 1 d0).ll),.sl ((r22.getD 1 d0).ll),.i ((r22.getD 2 d0).ii),.i ((r22.getD 3 d0).ii),.i ((r22.getD 4 d0).ii),.i ((r22.getD 5 d0).ii),.i ((v21.getD 7 d0).ii),.i ((v21.getD 8 d0).ii),.s ((v21.getD 9 d0).ss),.s ((v21.getD 10 d0).ss),.s ((v21.getD 11 d0).ss),.sl ((r22.getD 0 d0).ll)]) fun v23 =>
 (R 13 [.b false,.sl ((v23.getD 2 d0).ll),.i ((v23.getD 3 d0).ii),.i ((v23.getD 4 d0).ii),.i ((v23.getD 5 d0).ii),.i ((v23.getD 6 d0).ii)]).bindR fun r24 =>
 ja (if ((v23.getD 8 d0).ii == (3:Int))=true then
 .norm [.i ((v23.getD 0 d0).ii),.sl ((v23.getD 1 d0).ll),.b true,.sl ((r24.getD 1 d0).ll),.i ((r24.getD 2 d0).ii),.i ((r24.getD 3 d0).ii),.i ((r24.getD 4 d0).ii),.i ((r24.getD 5 d0).ii),.i ((v23.getD 7 d0).ii),.i ((v23.getD 8 d0).ii),.s ((v23.getD 9 d0).ss),.s ((v23.getD 10 d0).ss),.s ((v23.getD 11 d0).ss),.sl ((v23.getD 12 d0).ll),.sl ((r24.getD 0 d0).ll)]
 else
 if ((v23.getD 8 d0).ii == (1:Int))=true then
 (R 15 [.s ([123]:List UInt8),.sl ((r24.getD 1 d0).ll),.i ((r24.getD 2 d0).ii),.i ((r24.getD 3 d0).ii),.i ((r24.getD 4 d0).ii),.i ((r24.getD 5 d0).ii)]).bindR fun r25 =>
 .norm [.i ((v23.getD 0 d0).ii),.sl ((v23.getD 1 d0).ll),.b ((r25.getD 0 d0).bb),.sl ((r25.getD 1 d0).ll),.i ((r25.getD 2 d0).ii),.i ((r25.getD 3 d0).ii),.i ((r25.getD 4 d0).ii),.i ((r25.getD 5 d0).ii),.i ((v23.getD 7 d0).ii),.i ((v23.getD 8 d0).ii),.s ((v23.getD 9 d0).ss),.s ((v23.getD 10 d0).ss),.s ((v23.getD 11 d0).ss),.sl ((v23.getD 12 d0).ll),.sl ((r24.getD 0 d0).ll)]
 else
 .norm [.i ((v23.getD 0 d0).ii),.sl ((v23.getD 1 d0).ll),.b false,.sl ((r24.getD 1 d0).ll),.i ((r24.getD 2 d0).ii),.i ((r24.getD 3 d0).ii),.i ((r24.getD 4 d0).ii),.i ((r24.getD 5 d0).ii),.i ((v23.getD 7 d0).ii),.i ((v23.getD 8 d0).ii),.s ((v23.getD 9 d0).ss),.s ((v23.getD 10 d0).ss),.s ((v23.getD 11 d0).ss),.sl ((v23.getD 12 d0).ll),.sl ((r24.getD 0 d0).ll)]) fun v26 =>
 ja (if (v26.getD 2 d0).bb=true then
 (R 14 [.i (IntKind.i64.wrap ((v26.getD 0 d0).ii - (1:Int))),.sl ((v26.getD 3 d0).ll),.i ((v26.getD 4 d0).ii),.i ((v26.getD 5 d0).ii),.i ((v26.getD 6 d0).ii),.i ((v26.getD 7 d0).ii),.i ((v26.getD 8 d0).ii)]).bindR fun r27 =>
 .norm [.i ((v26.getD 0 d0).ii),.sl ((v26.getD 1 d0).ll),.sl ((r27.getD 1 d0).ll),.i ((r27.getD 2 d0).ii),.i ((r27.getD 3 d0).ii),.i ((r27.getD 4 d0).ii),.i ((r27.getD 5 d0).ii),.i ((r27.getD 6 d0).ii),.i ((v26.getD 9 d0).ii),.s ((v26.getD 10 d0).ss),.s ((v26.getD 11 d0).ss),.s ((v26.getD 12 d0).ss),.sl ((v26.getD 13 d0).ll),.sl ((v26.getD 14 d0).ll),.sl ((r27.getD 0 d0).ll)]
 else
 .norm [.i ((v26.getD 0 d0).ii),.sl ((v26.getD 1 d0).ll),.sl ((v26.getD 3 d0).ll),.i ((v26.getD 4 d0).ii),.i ((v26.getD 5 d0).ii),.i ((v26.getD 6 d0).ii),.i ((v26.getD 7 d0).ii),.i ((v26.getD 8 d0).ii),.i ((v26.getD 9 d0).ii),.s ((v26.getD 10 d0).ss),.s ((v26.getD 11 d0).ss),.s ((v26.getD 12 d0).ss),.sl ((v26.getD 13 d0).ll),.sl ((v26.getD 14 d0).ll),.sl []]) fun v28 =>
 if ((v28.getD 1 d0).ll).length + [[DC.i ((v28.getD 8 d0).ii),DC.s ((v28.getD 9 d0).ss),DC.s ((v28.getD 10 d0).ss),DC.s ((v28.getD 11 d0).ss),DC.sl ((v28.getD 12 d0).ll),DC.sl ((v28.getD 13 d0).ll),DC.sl ((v28.getD 14 d0).ll)]].length < jN then
 (R 22 [.s ([125]:List UInt8),.sl ((v28.getD 2 d0).ll),.i ((v28.getD 3 d0).ii),.i ((v28.getD 4 d0).ii),.i ((v28.getD 5 d0).ii),.i ((v28.getD 6 d0).ii)]).bindR fun r29 =>
 if (r29.getD 0 d0).bb=true then
 .ex 0 [.sl (((v28.getD 1 d0).ll) ++ [[DC.i ((v28.getD 8 d0).ii),DC.s ((v28.getD 9 d0).ss),DC.s ((v28.getD 10 d0).ss),DC.s ((v28.getD 11 d0).ss),DC.sl ((v28.getD 12 d0).ll),DC.sl ((v28.getD 13 d0).ll),DC.sl ((v28.getD 14 d0).ll)]]),.sl ((r29.getD 1 d0).ll),.i ((r29.getD 2 d0).ii),.i ((r29.getD 3 d0).ii),.i ((r29.getD 4 d0).ii),.i ((r29.getD 5 d0).ii),.i ((v28.getD 7 d0).ii)]
 else
 .norm [.i ((v28.getD 0 d0).ii),.sl (((v28.getD 1 d0).ll) ++ [[DC.i ((v28.getD 8 d0).ii),DC.s ((v28.getD 9 d0).ss),DC.s ((v28.getD 10 d0).ss),DC.s ((v28.getD 11 d0).ss),DC.sl ((v28.getD 12 d0).ll),DC.sl ((v28.getD 13 d0).ll),DC.sl ((v28.getD 14 d0).ll)]]),.sl ((r29.getD 1 d0).ll),.i ((r29.getD 2 d0).ii),.i ((r29.getD 3 d0).ii),.i ((r29.getD 4 d0).ii),.i ((r29.getD 5 d0).ii),.i ((v28.getD 7 d0).ii)]
 else
 .fail) 1 fun v30 =>
 .norm [.i ((v30.getD 0 d0).ii),.sl ((v30.getD 1 d0).ll),.sl ((v30.getD 2 d0).ll),.i ((v30.getD 3 d0).ii),.i ((v30.getD 4 d0).ii),.i ((v30.getD 5 d0).ii),.i ((v30.getD 6 d0).ii),.i ((v30.getD 7 d0).ii)]
 else
 .ex 0 [.sl ((v6.getD 1 d0).ll),.sl ((v6.getD 2 d0).ll),.i ((v6.getD 3 d0).ii),.i ((v6.getD 4 d0).ii),.i ((v6.getD 5 d0).ii),.i ((v6.getD 6 d0).ii),.i ((v6.getD 7 d0).ii)]
def Vw (R:Nat → List DC → Out) (n:Nat) (a:List DC):Out :=
 ja ((R 15 [.s ([123]:List UInt8),.sl ((a.getD 1 d0).ll),.i ((a.getD 2 d0).ii),.i ((a.getD 3 d0).ii),.i ((a.getD 4 d0).ii),.i ((a.getD 5 d0).ii)]).bindR fun r1 =>
 if (r1.getD 0 d0).bb=true then
 .norm [.i ((a.getD 0 d0).ii),.sl [],.b ((a.getD 0 d0).ii == (0:Int)),.sl ((r1.getD 1 d0).ll),.i ((r1.getD 2 d0).ii),.i ((r1.getD 3 d0).ii),.i ((r1.getD 4 d0).ii),.i ((r1.getD 5 d0).ii),.i ((a.getD 6 d0).ii)]
 else
 .norm [.i ((a.getD 0 d0).ii),.sl [],.b false,.sl ((r1.getD 1 d0).ll),.i ((r1.getD 2 d0).ii),.i ((r1.getD 3 d0).ii),.i ((r1.getD 4 d0).ii),.i ((r1.getD 5 d0).ii),.i ((a.getD 6 d0).ii)]) fun v2 =>
 ja (if (v2.getD 2 d0).bb=true then
 (R 1 [.i (8:Int),.sl ((v2.getD 3 d0).ll),.i ((v2.getD 4 d0).ii),.i ((v2.getD 5 d0).ii),.i ((v2.getD 6 d0).ii),.i ((v2.getD 7 d0).ii)]).bindR fun r3 =>
 .norm [.i ((v2.getD 0 d0).ii),.sl ((v2.getD 1 d0).ll),.sl ((r3.getD 0 d0).ll),.i ((r3.getD 1 d0).ii),.i ((r3.getD 2 d0).ii),.i ((r3.getD 3 d0).ii),.i ((r3.getD 4 d0).ii),.i ((v2.getD 8 d0).ii)]
 else
 .norm [.i ((v2.getD 0 d0).ii),.sl ((v2.getD 1 d0).ll),.sl ((v2.getD 3 d0).ll),.i ((v2.getD 4 d0).ii),.i ((v2.getD 5 d0).ii),.i ((v2.getD 6 d0).ii),.i ((v2.getD 7 d0).ii),.i ((v2.getD 8 d0).ii)]) fun v4 =>
 (R 17 [.s ([123]:List UInt8),.sl ((v4.getD 2 d0).ll),.i ((v4.getD 3 d0).ii),.i ((v4.getD 4 d0).ii),.i ((v4.getD 5 d0).ii),.i ((v4.getD 6 d0).ii)]).bindR fun r5 =>
 j9 (jG (ZM R n) n [.i ((v4.getD 0 d0).ii),.sl ((v4.getD 1 d0).ll),.sl ((r5.getD 0 d0).ll),.i ((r5.getD 1 d0).ii),.i ((r5.getD 2 d0).ii),.i ((r5.getD 3 d0).ii),.i ((r5.getD 4 d0).ii),.i ((v4.getD 7 d0).ii)]) 0 fun v31 =>
 .ret [.sl ((v31.getD 0 d0).ll),.sl ((v31.getD 1 d0).ll),.i ((v31.getD 2 d0).ii),.i ((v31.getD 3 d0).ii),.i ((v31.getD 4 d0).ii),.i ((v31.getD 5 d0).ii),.i ((v31.getD 6 d0).ii)]
def Z3 (R:Nat → List DC → Out) (n:Nat) (a:List DC):Out :=
 ja (if ((a.getD 4 d0).ii == (0:Int))=true then
 if (decide ((a.getD 2 d0).ii < (((a.getD 1 d0).ll).length:Int)))=true then
 if 117=117 ∧ 0 ≤ (a.getD 2 d0).ii ∧ (a.getD 2 d0).ii < (((a.getD 1 d0).ll).length:Int) then
 if (((((a.getD 1 d0).ll).getD ((a.getD 2 d0).ii).toNat []).getD 0 d0).ii == (1:Int))=true then
 if 117=117 ∧ 0 ≤ (a.getD 2 d0).ii ∧ (a.getD 2 d0).ii < (((a.getD 1 d0).ll).length:Int) then
 .norm [.b (((((a.getD 1 d0).ll).getD ((a.getD 2 d0).ii).toNat []).getD 1 d0).ss == (a.getD 0 d0).ss),.sl ((a.getD 1 d0).ll),.i ((a.getD 2 d0).ii),.i ((a.getD 3 d0).ii),.i ((a.getD 4 d0).ii),.i ((a.getD 5 d0).ii)]
 else
 .fail
 else
 .norm [.b false,.sl ((a.getD 1 d0).ll),.i ((a.getD 2 d0).ii),.i ((a.getD 3 d0).ii),.i ((a.getD 4 d0).ii),.i ((a.getD 5 d0).ii)]
 else
 .fail
 else
 .norm [.b false,.sl ((a.getD 1 d0).ll),.i ((a.getD 2 d0).ii),.i ((a.getD 3 d0).ii),.i ((a.getD 4 d0).ii),.i ((a.getD 5 d0).ii)]
 else
 .norm [.b false,.sl ((a.getD 1 d0).ll),.i ((a.getD 2 d0).ii),.i ((a.getD 3 d0).ii),.i ((a.getD 4 d0).ii),.i ((a.getD 5 d0).ii)]) fun v1 =>
 .ret [.b ((v1.getD 0 d0).bb),.sl ((v1.getD 1 d0).ll),.i ((v1.getD 2 d0).ii),.i ((v1.getD 3 d0).ii),.i ((v1.getD 4 d0).ii),.i ((v1.getD 5 d0).ii)]
def Vv (R:Nat → List DC → Out) (n:Nat):List DC → Out:=fun v2 =>
 if ((v2.getD 4 d0).ii == (0:Int))=true then
 j9 ((R 17 [.s ([36]:List UInt8),.sl ((v2.getD 1 d0).ll),.i ((v2.getD 2 d0).ii),.i ((v2.getD 3 d0).ii),.i ((v2.getD 4 d0).ii),.i ((v2.getD 5 d0).ii)]).bindR fun r3 =>
 (R 12 [.sl ((r3.getD 0 d0).ll),.i ((r3.getD 1 d0).ii),.i ((r3.getD 2 d0).ii),.i ((r3.getD 3 d0).ii),.i ((r3.getD 4 d0).ii)]).bindR fun r4 =>
 (R 17 [.s ([58]:List UInt8),.sl ((r4.getD 1 d0).ll),.i ((r4.getD 2 d0).ii),.i ((r4.getD 3 d0).ii),.i ((r4.getD 4 d0).ii),.i ((r4.getD 5 d0).ii)]).bindR fun r5 =>
 (R 29 [.sl ((r5.getD 0 d0).ll),.i ((r5.getD 1 d0).ii),.i ((r5.getD 2 d0).ii),.i ((r5.getD 3 d0).ii),.i ((r5.getD 4 d0).ii)]).bindR fun r6 =>
 (R 22 [.s ([61]:List UInt8),.sl ((r6.getD 2 d0).ll),.i ((r6.getD 3 d0).ii),.i ((r6.getD 4 d0).ii),.i ((r6.getD 5 d0).ii),.i ((r6.getD 6 d0).ii)]).bindR fun r7 =>
 ja (if (r7.getD 0 d0).bb=true then
 (R 30 [.b true,.i (10:Int),.sl ((r7.getD 1 d0).ll),.i ((r7.getD 2 d0).ii),.i ((r7.getD 3 d0).ii),.i ((r7.getD 4 d0).ii),.i ((r7.getD 5 d0).ii)]).bindR fun r8 =>
 .norm [.sl ((v2.getD 0 d0).ll),.sl ((r8.getD 4 d0).ll),.i ((r8.getD 5 d0).ii),.i ((r8.getD 6 d0).ii),.i ((r8.getD 7 d0).ii),.i ((r8.getD 8 d0).ii),.s ((r4.getD 0 d0).ss),.s ((r6.getD 0 d0).ss),.s ((r6.getD 1 d0).ss),.b true,.i ((r8.getD 0 d0).ii),.s ((r8.getD 1 d0).ss),.sl ((r8.getD 2 d0).ll),.sl ((r8.getD 3 d0).ll)]
 else
 .norm [.sl ((v2.getD 0 d0).ll),.sl ((r7.getD 1 d0).ll),.i ((r7.getD 2 d0).ii),.i ((r7.getD 3 d0).ii),.i ((r7.getD 4 d0).ii),.i ((r7.getD 5 d0).ii),.s ((r4.getD 0 d0).ss),.s ((r6.getD 0 d0).ss),.s ((r6.getD 1 d0).ss),.b false,.i (0:Int),.s [],.sl [],.sl []]) fun v9 =>
 (R 13 [.b true,.sl ((v9.getD 1 d0).ll),.i ((v9.getD 2 d0).ii),.i ((v9.getD 3 d0).ii),.i ((v9.getD 4 d0).ii),.i ((v9.getD 5 d0).ii)]).bindR fun r10 =>
 if ((v9.getD 0 d0).ll).length + [[DC.s ((v9.getD 6 d0).ss),DC.s ((v9.getD 7 d0).ss),DC.s ((v9.getD 8 d0).ss),DC.b ((v9.getD 9 d0).bb),DC.i ((v9.getD 10 d0).ii),DC.s ((v9.getD 11 d0).ss),DC.sl ((v9.getD 12 d0).ll),DC.sl ((v9.getD 13 d0).ll),DC.sl ((r10.getD 0 d0).ll)]].length < jN then
 (R 22 [.s ([41]:List UInt8),.sl ((r10.getD 1 d0).ll),.i ((r10.getD 2 d0).ii),.i ((r10.getD 3 d0).ii),.i ((r10.getD 4 d0).ii),.i ((r10.getD 5 d0).ii)]).bindR fun r11 =>
 if (r11.getD 0 d0).bb=true then
 .ex 0 [.sl (((v9.getD 0 d0).ll) ++ [[DC.s ((v9.getD 6 d0).ss),DC.s ((v9.getD 7 d0).ss),DC.s ((v9.getD 8 d0).ss),DC.b ((v9.getD 9 d0).bb),DC.i ((v9.getD 10 d0).ii),DC.s ((v9.getD 11 d0).ss),DC.sl ((v9.getD 12 d0).ll),DC.sl ((v9.getD 13 d0).ll),DC.sl ((r10.getD 0 d0).ll)]]),.sl ((r11.getD 1 d0).ll),.i ((r11.getD 2 d0).ii),.i ((r11.getD 3 d0).ii),.i ((r11.getD 4 d0).ii),.i ((r11.getD 5 d0).ii)]
 else
 .norm [.sl (((v9.getD 0 d0).ll) ++ [[DC.s ((v9.getD 6 d0).ss),DC.s ((v9.getD 7 d0).ss),DC.s ((v9.getD 8 d0).ss),DC.b ((v9.getD 9 d0).bb),DC.i ((v9.getD 10 d0).ii),DC.s ((v9.getD 11 d0).ss),DC.sl ((v9.getD 12 d0).ll),DC.sl ((v9.getD 13 d0).ll),DC.sl ((r10.getD 0 d0).ll)]]),.sl ((r11.getD 1 d0).ll),.i ((r11.getD 2 d0).ii),.i ((r11.getD 3 d0).ii),.i ((r11.getD 4 d0).ii),.i ((r11.getD 5 d0).ii)]
 else
 .fail) 1 fun v12 =>
 .norm [.sl ((v12.getD 0 d0).ll),.sl ((v12.getD 1 d0).ll),.i ((v12.getD 2 d0).ii),.i ((v12.getD 3 d0).ii),.i ((v12.getD 4 d0).ii),.i ((v12.getD 5 d0).ii)]
 else
 .ex 0 [.sl ((v2.getD 0 d0).ll),.sl ((v2.getD 1 d0).ll),.i ((v2.getD 2 d0).ii),.i ((v2.getD 3 d0).ii),.i ((v2.getD 4 d0).ii),.i ((v2.getD 5 d0).ii)]
def JI (R:Nat → List DC → Out) (n:Nat) (a:List DC):Out :=
 (R 22 [.s ([40]:List UInt8),.sl ((a.getD 0 d0).ll),.i ((a.getD 1 d0).ii),.i ((a.getD 2 d0).ii),.i ((a.getD 3 d0).ii),.i ((a.getD 4 d0).ii)]).bindR fun r1 =>
 if (!((r1.getD 0 d0).bb))=true then
 .ret [.sl [],.sl ((r1.getD 1 d0).ll),.i ((r1.getD 2 d0).ii),.i ((r1.getD 3 d0).ii),.i ((r1.getD 4 d0).ii),.i ((r1.getD 5 d0).ii)]
 else
 j9 (jG (Vv R n) n [.sl [],.sl ((r1.getD 1 d0).ll),.i ((r1.getD 2 d0).ii),.i ((r1.getD 3 d0).ii),.i ((r1.getD 4 d0).ii),.i ((r1.getD 5 d0).ii)]) 0 fun v13 =>
 .ret [.sl ((v13.getD 0 d0).ll),.sl ((v13.getD 1 d0).ll),.i ((v13.getD 2 d0).ii),.i ((v13.getD 3 d0).ii),.i ((v13.getD 4 d0).ii),.i ((v13.getD 5 d0).ii)]
def Xu (R:Nat → List DC → Out) (n:Nat) (a:List DC):Out :=
 (R 15 [.s ((a.getD 0 d0).ss),.sl ((a.getD 1 d0).ll),.i ((a.getD 2 d0).ii),.i ((a.getD 3 d0).ii),.i ((a.getD 4 d0).ii),.i ((a.getD 5 d0).ii)]).bindR fun r1 =>
 if (!((r1.getD 0 d0).bb))=true then
 .ret [.b false,.sl ((r1.getD 1 d0).ll),.i ((r1.getD 2 d0).ii),.i ((r1.getD 3 d0).ii),.i ((r1.getD 4 d0).ii),.i ((r1.getD 5 d0).ii)]
 else
 .ret [.b true,.sl ((r1.getD 1 d0).ll),.i (IntKind.i64.wrap ((r1.getD 2 d0).ii + (1:Int))),.i ((r1.getD 3 d0).ii),.i ((r1.getD 4 d0).ii),.i ((r1.getD 5 d0).ii)]
def VC (R:Nat → List DC → Out) (n:Nat) (a:List DC):Out :=
 (R 15 [.s ((a.getD 0 d0).ss),.sl ((a.getD 1 d0).ll),.i ((a.getD 2 d0).ii),.i ((a.getD 3 d0).ii),.i ((a.getD 4 d0).ii),.i ((a.getD 5 d0).ii)]).bindR fun r1 =>
 if (!((r1.getD 0 d0).bb))=true then
 (R 1 [.i (7:Int),.sl ((r1.getD 1 d0).ll),.i ((r1.getD 2 d0).ii),.i ((r1.getD 3 d0).ii),.i ((r1.getD 4 d0).ii),.i ((r1.getD 5 d0).ii)]).bindR fun r2 =>
 .ret [.sl ((r2.getD 0 d0).ll),.i ((r2.getD 1 d0).ii),.i ((r2.getD 2 d0).ii),.i ((r2.getD 3 d0).ii),.i ((r2.getD 4 d0).ii)]
 else
 .ret [.sl ((r1.getD 1 d0).ll),.i (IntKind.i64.wrap ((r1.getD 2 d0).ii + (1:Int))),.i ((r1.getD 3 d0).ii),.i ((r1.getD 4 d0).ii),.i ((r1.getD 5 d0).ii)]
def Xt (R:Nat → List DC → Out) (n:Nat) (a:List DC):Out :=
 .ret [.b (decide ((IntKind.i64.wrap ((IntKind.i64.wrap ((IntKind.i64.wrap ((IntKind.i64.wrap ((IntKind.i64.wrap ((((a.getD 4 d0).ll).length:Int) + (((a.getD 5 d0).ll).length:Int))) + (((a.getD 6 d0).ll).length:Int))) + (((a.getD 7 d0).ll).length:Int))) + (((a.getD 8 d0).ll).length:Int))) + (((a.getD 10 d0).ll).length:Int))) > (0:Int)))]
def Qh (R:Nat → List DC → Out) (n:Nat):List DC → Out:=fun v2 =>
 if ((v2.getD 4 d0).ii == (0:Int))=true then
 j9 ((R 8 [.sl ((v2.getD 1 d0).ll),.i ((v2.getD 2 d0).ii),.i ((v2.getD 3 d0).ii),.i ((v2.getD 4 d0).ii),.i ((v2.getD 5 d0).ii)]).bindR fun r3 =>
 (R 12 [.sl ((r3.getD 1 d0).ll),.i ((r3.getD 2 d0).ii),.i ((r3.getD 3 d0).ii),.i ((r3.getD 4 d0).ii),.i ((r3.getD 5 d0).ii)]).bindR fun r4 =>
 (R 18 [.s ([40]:List UInt8),.s ([41]:List UInt8),.sl ((r4.getD 1 d0).ll),.i ((r4.getD 2 d0).ii),.i ((r4.getD 3 d0).ii),.i ((r4.getD 4 d0).ii),.i ((r4.getD 5 d0).ii)]).bindR fun r5 =>
 (R 17 [.s ([58]:List UInt8),.sl ((r5.getD 1 d0).ll),.i ((r5.getD 2 d0).ii),.i ((r5.getD 3 d0).ii),.i ((r5.getD 4 d0).ii),.i ((r5.getD 5 d0).ii)]).bindR fun r6 =>
 (R 29 [.sl ((r6.getD 0 d0).ll),.i ((r6.getD 1 d0).ii),.i ((r6.getD 2 d0).ii),.i ((r6.getD 3 d0).ii),.i ((r6.getD 4 d0).ii)]).bindR fun r7 =>
 (R 13 [.b true,.sl ((r7.getD 2 d0).ll),.i ((r7.getD 3 d0).ii),.i ((r7.getD 4 d0).ii),.i ((r7.getD 5 d0).ii),.i ((r7.getD 6 d0).ii)]).bindR fun r8 =>
 if ((v2.getD 0 d0).ll).length + [[DC.s ((r4.getD 0 d0).ss),DC.s ((r3.getD 0 d0).ss),DC.sl ((r5.getD 0 d0).ll),DC.s ((r7.getD 0 d0).ss),DC.s ((r7.getD 1 d0).ss),DC.sl ((r8.getD 0 d0).ll)]].length < jN then
 (R 22 [.s ([125]:List UInt8),.sl ((r8.getD 1 d0).ll),.i ((r8.getD 2 d0).ii),.i ((r8.getD 3 d0).ii),.i ((r8.getD 4 d0).ii),.i ((r8.getD 5 d0).ii)]).bindR fun r9 =>
 if (r9.getD 0 d0).bb=true then
 .ex 0 [.sl (((v2.getD 0 d0).ll) ++ [[DC.s ((r4.getD 0 d0).ss),DC.s ((r3.getD 0 d0).ss),DC.sl ((r5.getD 0 d0).ll),DC.s ((r7.getD 0 d0).ss),DC.s ((r7.getD 1 d0).ss),DC.sl ((r8.getD 0 d0).ll)]]),.sl ((r9.getD 1 d0).ll),.i ((r9.getD 2 d0).ii),.i ((r9.getD 3 d0).ii),.i ((r9.getD 4 d0).ii),.i ((r9.getD 5 d0).ii)]
 else
 .norm [.sl (((v2.getD 0 d0).ll) ++ [[DC.s ((r4.getD 0 d0).ss),DC.s ((r3.getD 0 d0).ss),DC.sl ((r5.getD 0 d0).ll),DC.s ((r7.getD 0 d0).ss),DC.s ((r7.getD 1 d0).ss),DC.sl ((r8.getD 0 d0).ll)]]),.sl ((r9.getD 1 d0).ll),.i ((r9.getD 2 d0).ii),.i ((r9.getD 3 d0).ii),.i ((r9.getD 4 d0).ii),.i ((r9.getD 5 d0).ii)]
 else
 .fail) 1 fun v10 =>
 .norm [.sl ((v10.getD 0 d0).ll),.sl ((v10.getD 1 d0).ll),.i ((v10.getD 2 d0).ii),.i ((v10.getD 3 d0).ii),.i ((v10.getD 4 d0).ii),.i ((v10.getD 5 d0).ii)]
 else
 .ex 0 [.sl ((v2.getD 0 d0).ll),.sl ((v2.getD 1 d0).ll),.i ((v2.getD 2 d0).ii),.i ((v2.getD 3 d0).ii),.i ((v2.getD 4 d0).ii),.i ((v2.getD 5 d0).ii)]
def zW (R:Nat → List DC → Out) (n:Nat) (a:List DC):Out :=
 (R 22 [.s ([123]:List UInt8),.sl ((a.getD 0 d0).ll),.i ((a.getD 1 d0).ii),.i ((a.getD 2 d0).ii),.i ((a.getD 3 d0).ii),.i ((a.getD 4 d0).ii)]).bindR fun r1 =>
 if (!((r1.getD 0 d0).bb))=true then
 .ret [.sl [],.sl ((r1.getD 1 d0).ll),.i ((r1.getD 2 d0).ii),.i ((r1.getD 3 d0).ii),.i ((r1.getD 4 d0).ii),.i ((r1.getD 5 d0).ii)]
 else
 j9 (jG (Qh R n) n [.sl [],.sl ((r1.getD 1 d0).ll),.i ((r1.getD 2 d0).ii),.i ((r1.getD 3 d0).ii),.i ((r1.getD 4 d0).ii),.i ((r1.getD 5 d0).ii)]) 0 fun v11 =>
 .ret [.sl ((v11.getD 0 d0).ll),.sl ((v11.getD 1 d0).ll),.i ((v11.getD 2 d0).ii),.i ((v11.getD 3 d0).ii),.i ((v11.getD 4 d0).ii),.i ((v11.getD 5 d0).ii)]
def Xe (R:Nat → List DC → Out) (n:Nat):List DC → Out:=fun v2 =>
 if ((v2.getD 5 d0).ii == (0:Int))=true then
 j9 ((R 31 [.sl ((v2.getD 2 d0).ll),.i ((v2.getD 3 d0).ii),.i ((v2.getD 4 d0).ii),.i ((v2.getD 5 d0).ii),.i ((v2.getD 6 d0).ii)]).bindR fun r3 =>
 if ((v2.getD 1 d0).ll).length + [[DC.s ((r3.getD 0 d0).ss),DC.s ((r3.getD 1 d0).ss),DC.s ((r3.getD 2 d0).ss),DC.s ((r3.getD 3 d0).ss),DC.b ((r3.getD 4 d0).bb),DC.i ((r3.getD 5 d0).ii),DC.s ((r3.getD 6 d0).ss),DC.sl ((r3.getD 7 d0).ll),DC.sl ((r3.getD 8 d0).ll),DC.sl ((r3.getD 9 d0).ll)]].length < jN then
 (R 22 [.s ((v2.getD 0 d0).ss),.sl ((r3.getD 10 d0).ll),.i ((r3.getD 11 d0).ii),.i ((r3.getD 12 d0).ii),.i ((r3.getD 13 d0).ii),.i ((r3.getD 14 d0).ii)]).bindR fun r4 =>
 if (r4.getD 0 d0).bb=true then
 .ex 0 [.sl (((v2.getD 1 d0).ll) ++ [[DC.s ((r3.getD 0 d0).ss),DC.s ((r3.getD 1 d0).ss),DC.s ((r3.getD 2 d0).ss),DC.s ((r3.getD 3 d0).ss),DC.b ((r3.getD 4 d0).bb),DC.i ((r3.getD 5 d0).ii),DC.s ((r3.getD 6 d0).ss),DC.sl ((r3.getD 7 d0).ll),DC.sl ((r3.getD 8 d0).ll),DC.sl ((r3.getD 9 d0).ll)]]),.sl ((r4.getD 1 d0).ll),.i ((r4.getD 2 d0).ii),.i ((r4.getD 3 d0).ii),.i ((r4.getD 4 d0).ii),.i ((r4.getD 5 d0).ii)]
 else
 .norm [.s ((v2.getD 0 d0).ss),.sl (((v2.getD 1 d0).ll) ++ [[DC.s ((r3.getD 0 d0).ss),DC.s ((r3.getD 1 d0).ss),DC.s ((r3.getD 2 d0).ss),DC.s ((r3.getD 3 d0).ss),DC.b ((r3.getD 4 d0).bb),DC.i ((r3.getD 5 d0).ii),DC.s ((r3.getD 6 d0).ss),DC.sl ((r3.getD 7 d0).ll),DC.sl ((r3.getD 8 d0).ll),DC.sl ((r3.getD 9 d0).ll)]]),.sl ((r4.getD 1 d0).ll),.i ((r4.getD 2 d0).ii),.i ((r4.getD 3 d0).ii),.i ((r4.getD 4 d0).ii),.i ((r4.getD 5 d0).ii)]
 else
 .fail) 1 fun v5 =>
 .norm [.s ((v5.getD 0 d0).ss),.sl ((v5.getD 1 d0).ll),.sl ((v5.getD 2 d0).ll),.i ((v5.getD 3 d0).ii),.i ((v5.getD 4 d0).ii),.i ((v5.getD 5 d0).ii),.i ((v5.getD 6 d0).ii)]
 else
 .ex 0 [.sl ((v2.getD 1 d0).ll),.sl ((v2.getD 2 d0).ll),.i ((v2.getD 3 d0).ii),.i ((v2.getD 4 d0).ii),.i ((v2.getD 5 d0).ii),.i ((v2.getD 6 d0).ii)]
def Ke (R:Nat → List DC → Out) (n:Nat) (a:List DC):Out :=
 (R 22 [.s ((a.getD 0 d0).ss),.sl ((a.getD 2 d0).ll),.i ((a.getD 3 d0).ii),.i ((a.getD 4 d0).ii),.i ((a.getD 5 d0).ii),.i ((a.getD 6 d0).ii)]).bindR fun r1 =>
 if (!((r1.getD 0 d0).bb))=true then
 .ret [.sl [],.sl ((r1.getD 1 d0).ll),.i ((r1.getD 2 d0).ii),.i ((r1.getD 3 d0).ii),.i ((r1.getD 4 d0).ii),.i ((r1.getD 5 d0).ii)]
 else
 j9 (jG (Xe R n) n [.s ((a.getD 1 d0).ss),.sl [],.sl ((r1.getD 1 d0).ll),.i ((r1.getD 2 d0).ii),.i ((r1.getD 3 d0).ii),.i ((r1.getD 4 d0).ii),.i ((r1.getD 5 d0).ii)]) 0 fun v6 =>
 .ret [.sl ((v6.getD 0 d0).ll),.sl ((v6.getD 1 d0).ll),.i ((v6.getD 2 d0).ii),.i ((v6.getD 3 d0).ii),.i ((v6.getD 4 d0).ii),.i ((v6.getD 5 d0).ii)]
def QJ (R:Nat → List DC → Out) (n:Nat):List DC → Out:=fun v2 =>
 if ((v2.getD 5 d0).ii == (0:Int))=true then
 j9 ((R 12 [.sl ((v2.getD 2 d0).ll),.i ((v2.getD 3 d0).ii),.i ((v2.getD 4 d0).ii),.i ((v2.getD 5 d0).ii),.i ((v2.getD 6 d0).ii)]).bindR fun r3 =>
 if ((v2.getD 1 d0).ll).length + [[DC.s ((r3.getD 0 d0).ss)]].length < jN then
 (R 22 [.s ((v2.getD 0 d0).ss),.sl ((r3.getD 1 d0).ll),.i ((r3.getD 2 d0).ii),.i ((r3.getD 3 d0).ii),.i ((r3.getD 4 d0).ii),.i ((r3.getD 5 d0).ii)]).bindR fun r4 =>
 if (!((r4.getD 0 d0).bb))=true then
 .ex 0 [.sl (((v2.getD 1 d0).ll) ++ [[DC.s ((r3.getD 0 d0).ss)]]),.sl ((r4.getD 1 d0).ll),.i ((r4.getD 2 d0).ii),.i ((r4.getD 3 d0).ii),.i ((r4.getD 4 d0).ii),.i ((r4.getD 5 d0).ii)]
 else
 .norm [.s ((v2.getD 0 d0).ss),.sl (((v2.getD 1 d0).ll) ++ [[DC.s ((r3.getD 0 d0).ss)]]),.sl ((r4.getD 1 d0).ll),.i ((r4.getD 2 d0).ii),.i ((r4.getD 3 d0).ii),.i ((r4.getD 4 d0).ii),.i ((r4.getD 5 d0).ii)]
 else
 .fail) 1 fun v5 =>
 .norm [.s ((v5.getD 0 d0).ss),.sl ((v5.getD 1 d0).ll),.sl ((v5.getD 2 d0).ll),.i ((v5.getD 3 d0).ii),.i ((v5.getD 4 d0).ii),.i ((v5.getD 5 d0).ii),.i ((v5.getD 6 d0).ii)]
 else
 .ex 0 [.sl ((v2.getD 1 d0).ll),.sl ((v2.getD 2 d0).ll),.i ((v2.getD 3 d0).ii),.i ((v2.getD 4 d0).ii),.i ((v2.getD 5 d0).ii),.i ((v2.getD 6 d0).ii)]
def Jb (R:Nat → List DC → Out) (n:Nat) (a:List DC):Out :=
 (R 22 [.s ((a.getD 0 d0).ss),.sl ((a.getD 1 d0).ll),.i ((a.getD 2 d0).ii),.i ((a.getD 3 d0).ii),.i ((a.getD 4 d0).ii),.i ((a.getD 5 d0).ii)]).bindR fun r1 =>
 j9 (jG (QJ R n) n [.s ((a.getD 0 d0).ss),.sl [],.sl ((r1.getD 1 d0).ll),.i ((r1.getD 2 d0).ii),.i ((r1.getD 3 d0).ii),.i ((r1.getD 4 d0).ii),.i ((r1.getD 5 d0).ii)]) 0 fun v6 =>
 .ret [.sl ((v6.getD 0 d0).ll),.sl ((v6.getD 1 d0).ll),.i ((v6.getD 2 d0).ii),.i ((v6.getD 3 d0).ii),.i ((v6.getD 4 d0).ii),.i ((v6.getD 5 d0).ii)]
def Qg (R:Nat → List DC → Out) (n:Nat):List DC → Out:=fun v2 =>
 if ((v2.getD 4 d0).ii == (0:Int))=true then
 j9 (ja ((R 10 [.i (2:Int),.sl ((v2.getD 1 d0).ll),.i ((v2.getD 2 d0).ii),.i ((v2.getD 3 d0).ii),.i ((v2.getD 4 d0).ii),.i ((v2.getD 5 d0).ii)]).bindR fun r3 =>
 if (!((r3.getD 0 d0).bb))=true then
 .norm [.sl ((v2.getD 0 d0).ll),.b true,.sl ((r3.getD 1 d0).ll),.i ((r3.getD 2 d0).ii),.i ((r3.getD 3 d0).ii),.i ((r3.getD 4 d0).ii),.i ((r3.getD 5 d0).ii)]
 else
 if 117=117 ∧ 0 ≤ (r3.getD 2 d0).ii ∧ (r3.getD 2 d0).ii < (((r3.getD 1 d0).ll).length:Int) then
 (R 32 [.s (((((r3.getD 1 d0).ll).getD ((r3.getD 2 d0).ii).toNat []).getD 1 d0).ss)]).bindR fun r4 =>
 .norm [.sl ((v2.getD 0 d0).ll),.b (!((r4.getD 0 d0).bb)),.sl ((r3.getD 1 d0).ll),.i ((r3.getD 2 d0).ii),.i ((r3.getD 3 d0).ii),.i ((r3.getD 4 d0).ii),.i ((r3.getD 5 d0).ii)]
 else
 .fail) fun v5 =>
 ja (if (v5.getD 1 d0).bb=true then
 (R 1 [.i (7:Int),.sl ((v5.getD 2 d0).ll),.i ((v5.getD 3 d0).ii),.i ((v5.getD 4 d0).ii),.i ((v5.getD 5 d0).ii),.i ((v5.getD 6 d0).ii)]).bindR fun r6 =>
 .norm [.sl ((v5.getD 0 d0).ll),.sl ((r6.getD 0 d0).ll),.i ((r6.getD 1 d0).ii),.i ((r6.getD 2 d0).ii),.i ((r6.getD 3 d0).ii),.i ((r6.getD 4 d0).ii)]
 else
 .norm [.sl ((v5.getD 0 d0).ll),.sl ((v5.getD 2 d0).ll),.i ((v5.getD 3 d0).ii),.i ((v5.getD 4 d0).ii),.i ((v5.getD 5 d0).ii),.i ((v5.getD 6 d0).ii)]) fun v7 =>
 (R 12 [.sl ((v7.getD 1 d0).ll),.i ((v7.getD 2 d0).ii),.i ((v7.getD 3 d0).ii),.i ((v7.getD 4 d0).ii),.i ((v7.getD 5 d0).ii)]).bindR fun r8 =>
 if ((v7.getD 0 d0).ll).length + [[DC.s ((r8.getD 0 d0).ss)]].length < jN then
 (R 22 [.s ([124]:List UInt8),.sl ((r8.getD 1 d0).ll),.i ((r8.getD 2 d0).ii),.i ((r8.getD 3 d0).ii),.i ((r8.getD 4 d0).ii),.i ((r8.getD 5 d0).ii)]).bindR fun r9 =>
 if (!((r9.getD 0 d0).bb))=true then
 .ex 0 [.sl (((v7.getD 0 d0).ll) ++ [[DC.s ((r8.getD 0 d0).ss)]]),.sl ((r9.getD 1 d0).ll),.i ((r9.getD 2 d0).ii),.i ((r9.getD 3 d0).ii),.i ((r9.getD 4 d0).ii),.i ((r9.getD 5 d0).ii)]
 else
 .norm [.sl (((v7.getD 0 d0).ll) ++ [[DC.s ((r8.getD 0 d0).ss)]]),.sl ((r9.getD 1 d0).ll),.i ((r9.getD 2 d0).ii),.i ((r9.getD 3 d0).ii),.i ((r9.getD 4 d0).ii),.i ((r9.getD 5 d0).ii)]
 else
 .fail) 1 fun v10 =>
 .norm [.sl ((v10.getD 0 d0).ll),.sl ((v10.getD 1 d0).ll),.i ((v10.getD 2 d0).ii),.i ((v10.getD 3 d0).ii),.i ((v10.getD 4 d0).ii),.i ((v10.getD 5 d0).ii)]
 else
 .ex 0 [.sl ((v2.getD 0 d0).ll),.sl ((v2.getD 1 d0).ll),.i ((v2.getD 2 d0).ii),.i ((v2.getD 3 d0).ii),.i ((v2.getD 4 d0).ii),.i ((v2.getD 5 d0).ii)]
def zU (R:Nat → List DC → Out) (n:Nat) (a:List DC):Out :=
 (R 22 [.s ([124]:List UInt8),.sl ((a.getD 0 d0).ll),.i ((a.getD 1 d0).ii),.i ((a.getD 2 d0).ii),.i ((a.getD 3 d0).ii),.i ((a.getD 4 d0).ii)]).bindR fun r1 =>
 j9 (jG (Qg R n) n [.sl [],.sl ((r1.getD 1 d0).ll),.i ((r1.getD 2 d0).ii),.i ((r1.getD 3 d0).ii),.i ((r1.getD 4 d0).ii),.i ((r1.getD 5 d0).ii)]) 0 fun v11 =>
 .ret [.sl ((v11.getD 0 d0).ll),.sl ((v11.getD 1 d0).ll),.i ((v11.getD 2 d0).ii),.i ((v11.getD 3 d0).ii),.i ((v11.getD 4 d0).ii),.i ((v11.getD 5 d0).ii)]
def QI (R:Nat → List DC → Out) (n:Nat):List DC → Out:=fun v3 =>
 if (decide ((v3.getD 1 d0).ii ≤ (3:Int)))=true then
 j9 ((R 26 [.i ((v3.getD 1 d0).ii)]).bindR fun r4 =>
 (R 6 [.s ((r4.getD 0 d0).ss),.sl ((v3.getD 2 d0).ll),.i ((v3.getD 3 d0).ii),.i ((v3.getD 4 d0).ii),.i ((v3.getD 5 d0).ii),.i ((v3.getD 6 d0).ii)]).bindR fun r5 =>
 ja (if (r5.getD 0 d0).bb=true then
 .norm [.sl ((v3.getD 0 d0).ll),.i ((v3.getD 1 d0).ii),.sl ((r5.getD 1 d0).ll),.i ((r5.getD 2 d0).ii),.i ((r5.getD 3 d0).ii),.i ((r5.getD 4 d0).ii),.i ((r5.getD 5 d0).ii),.i ((v3.getD 1 d0).ii),.s ((v3.getD 8 d0).ss)]
 else
 .norm [.sl ((v3.getD 0 d0).ll),.i ((v3.getD 1 d0).ii),.sl ((r5.getD 1 d0).ll),.i ((r5.getD 2 d0).ii),.i ((r5.getD 3 d0).ii),.i ((r5.getD 4 d0).ii),.i ((r5.getD 5 d0).ii),.i ((v3.getD 7 d0).ii),.s ((v3.getD 8 d0).ss)]) fun v6 =>
 .norm [.sl ((v6.getD 0 d0).ll),.i ((v6.getD 1 d0).ii),.sl ((v6.getD 2 d0).ll),.i ((v6.getD 3 d0).ii),.i ((v6.getD 4 d0).ii),.i ((v6.getD 5 d0).ii),.i ((v6.getD 6 d0).ii),.i ((v6.getD 7 d0).ii),.s ((v6.getD 8 d0).ss)]) 3 fun v7 =>
 .norm [.sl ((v7.getD 0 d0).ll),.i (IntKind.i64.wrap ((v7.getD 1 d0).ii + (1:Int))),.sl ((v7.getD 2 d0).ll),.i ((v7.getD 3 d0).ii),.i ((v7.getD 4 d0).ii),.i ((v7.getD 5 d0).ii),.i ((v7.getD 6 d0).ii),.i ((v7.getD 7 d0).ii),.s ((v7.getD 8 d0).ss)]
 else
 .ex 2 [.sl ((v3.getD 0 d0).ll),.sl ((v3.getD 2 d0).ll),.i ((v3.getD 3 d0).ii),.i ((v3.getD 4 d0).ii),.i ((v3.getD 5 d0).ii),.i ((v3.getD 6 d0).ii),.i ((v3.getD 7 d0).ii),.s ((v3.getD 8 d0).ss)]
def QH (R:Nat → List DC → Out) (n:Nat):List DC → Out:=fun v2 =>
 if ((v2.getD 4 d0).ii == (0:Int))=true then
 j9 (j9 (jG (QI R n) n [.sl ((v2.getD 0 d0).ll),.i (1:Int),.sl ((v2.getD 1 d0).ll),.i ((v2.getD 2 d0).ii),.i ((v2.getD 3 d0).ii),.i ((v2.getD 4 d0).ii),.i ((v2.getD 5 d0).ii),.i (0:Int),.s []]) 2 fun v8 =>
 ja (if ((v8.getD 6 d0).ii == (0:Int))=true then
 (R 1 [.i (7:Int),.sl ((v8.getD 1 d0).ll),.i ((v8.getD 2 d0).ii),.i ((v8.getD 3 d0).ii),.i ((v8.getD 4 d0).ii),.i ((v8.getD 5 d0).ii)]).bindR fun r9 =>
 .norm [.sl ((v8.getD 0 d0).ll),.sl ((r9.getD 0 d0).ll),.i ((r9.getD 1 d0).ii),.i ((r9.getD 2 d0).ii),.i ((r9.getD 3 d0).ii),.i ((r9.getD 4 d0).ii),.i ((v8.getD 6 d0).ii),.s ((v8.getD 7 d0).ss)]
 else
 .norm [.sl ((v8.getD 0 d0).ll),.sl ((v8.getD 1 d0).ll),.i ((v8.getD 2 d0).ii),.i ((v8.getD 3 d0).ii),.i ((v8.getD 4 d0).ii),.i ((v8.getD 5 d0).ii),.i ((v8.getD 6 d0).ii),.s ((v8.getD 7 d0).ss)]) fun v10 =>
 (R 12 [.sl ((v10.getD 1 d0).ll),.i ((v10.getD 2 d0).ii),.i ((v10.getD 3 d0).ii),.i ((v10.getD 4 d0).ii),.i ((v10.getD 5 d0).ii)]).bindR fun r11 =>
 (R 17 [.s ([58]:List UInt8),.sl ((r11.getD 1 d0).ll),.i ((r11.getD 2 d0).ii),.i ((r11.getD 3 d0).ii),.i ((r11.getD 4 d0).ii),.i ((r11.getD 5 d0).ii)]).bindR fun r12 =>
 (R 12 [.sl ((r12.getD 0 d0).ll),.i ((r12.getD 1 d0).ii),.i ((r12.getD 2 d0).ii),.i ((r12.getD 3 d0).ii),.i ((r12.getD 4 d0).ii)]).bindR fun r13 =>
 if ((v10.getD 0 d0).ll).length + [[DC.i ((v10.getD 6 d0).ii),DC.s ((r13.getD 0 d0).ss)]].length < jN then
 (R 22 [.s ([125]:List UInt8),.sl ((r13.getD 1 d0).ll),.i ((r13.getD 2 d0).ii),.i ((r13.getD 3 d0).ii),.i ((r13.getD 4 d0).ii),.i ((r13.getD 5 d0).ii)]).bindR fun r14 =>
 if (r14.getD 0 d0).bb=true then
 .ex 0 [.sl (((v10.getD 0 d0).ll) ++ [[DC.i ((v10.getD 6 d0).ii),DC.s ((r13.getD 0 d0).ss)]]),.sl ((r14.getD 1 d0).ll),.i ((r14.getD 2 d0).ii),.i ((r14.getD 3 d0).ii),.i ((r14.getD 4 d0).ii),.i ((r14.getD 5 d0).ii)]
 else
 .norm [.sl (((v10.getD 0 d0).ll) ++ [[DC.i ((v10.getD 6 d0).ii),DC.s ((r13.getD 0 d0).ss)]]),.sl ((r14.getD 1 d0).ll),.i ((r14.getD 2 d0).ii),.i ((r14.getD 3 d0).ii),.i ((r14.getD 4 d0).ii),.i ((r14.getD 5 d0).ii)]
 else
 .fail) 1 fun v15 =>
 .norm [.sl ((v15.getD 0 d0).ll),.sl ((v15.getD 1 d0).ll),.i ((v15.getD 2 d0).ii),.i ((v15.getD 3 d0).ii),.i ((v15.getD 4 d0).ii),.i ((v15.getD 5 d0).ii)]
 else
 .ex 0 [.sl ((v2.getD 0 d0).ll),.sl ((v2.getD 1 d0).ll),.i ((v2.getD 2 d0).ii),.i ((v2.getD 3 d0).ii),.i ((v2.getD 4 d0).ii),.i ((v2.getD 5 d0).ii)]
def Ja (R:Nat → List DC → Out) (n:Nat) (a:List DC):Out :=
 (R 22 [.s ([123]:List UInt8),.sl ((a.getD 0 d0).ll),.i ((a.getD 1 d0).ii),.i ((a.getD 2 d0).ii),.i ((a.getD 3 d0).ii),.i ((a.getD 4 d0).ii)]).bindR fun r1 =>
 if (!((r1.getD 0 d0).bb))=true then
 .ret [.sl [],.sl ((r1.getD 1 d0).ll),.i ((r1.getD 2 d0).ii),.i ((r1.getD 3 d0).ii),.i ((r1.getD 4 d0).ii),.i ((r1.getD 5 d0).ii)]
 else
 j9 (jG (QH R n) n [.sl [],.sl ((r1.getD 1 d0).ll),.i ((r1.getD 2 d0).ii),.i ((r1.getD 3 d0).ii),.i ((r1.getD 4 d0).ii),.i ((r1.getD 5 d0).ii)]) 0 fun v16 =>
 .ret [.sl ((v16.getD 0 d0).ll),.sl ((v16.getD 1 d0).ll),.i ((v16.getD 2 d0).ii),.i ((v16.getD 3 d0).ii),.i ((v16.getD 4 d0).ii),.i ((v16.getD 5 d0).ii)]
def Qf (R:Nat → List DC → Out) (n:Nat):List DC → Out:=fun v2 =>
 if ((v2.getD 4 d0).ii == (0:Int))=true then
 j9 ((R 8 [.sl ((v2.getD 1 d0).ll),.i ((v2.getD 2 d0).ii),.i ((v2.getD 3 d0).ii),.i ((v2.getD 4 d0).ii),.i ((v2.getD 5 d0).ii)]).bindR fun r3 =>
 ja ((R 10 [.i (2:Int),.sl ((r3.getD 1 d0).ll),.i ((r3.getD 2 d0).ii),.i ((r3.getD 3 d0).ii),.i ((r3.getD 4 d0).ii),.i ((r3.getD 5 d0).ii)]).bindR fun r4 =>
 if (r4.getD 0 d0).bb=true then
 if 117=117 ∧ 0 ≤ (r4.getD 2 d0).ii ∧ (r4.getD 2 d0).ii < (((r4.getD 1 d0).ll).length:Int) then
 (R 33 [.s (((((r4.getD 1 d0).ll).getD ((r4.getD 2 d0).ii).toNat []).getD 1 d0).ss)]).bindR fun r5 =>
 .norm [.sl ((v2.getD 0 d0).ll),.b ((r5.getD 0 d0).bb),.sl ((r4.getD 1 d0).ll),.i ((r4.getD 2 d0).ii),.i ((r4.getD 3 d0).ii),.i ((r4.getD 4 d0).ii),.i ((r4.getD 5 d0).ii),.s [],.s ((r3.getD 0 d0).ss)]
 else
 .fail
 else
 .norm [.sl ((v2.getD 0 d0).ll),.b false,.sl ((r4.getD 1 d0).ll),.i ((r4.getD 2 d0).ii),.i ((r4.getD 3 d0).ii),.i ((r4.getD 4 d0).ii),.i ((r4.getD 5 d0).ii),.s [],.s ((r3.getD 0 d0).ss)]) fun v6 =>
 ja (if (v6.getD 1 d0).bb=true then
 (R 1 [.i (7:Int),.sl ((v6.getD 2 d0).ll),.i ((v6.getD 3 d0).ii),.i ((v6.getD 4 d0).ii),.i ((v6.getD 5 d0).ii),.i ((v6.getD 6 d0).ii)]).bindR fun r7 =>
 .norm [.sl ((v6.getD 0 d0).ll),.sl ((r7.getD 0 d0).ll),.i ((r7.getD 1 d0).ii),.i ((r7.getD 2 d0).ii),.i ((r7.getD 3 d0).ii),.i ((r7.getD 4 d0).ii),.s ((v6.getD 7 d0).ss),.s ((v6.getD 8 d0).ss)]
 else
 .norm [.sl ((v6.getD 0 d0).ll),.sl ((v6.getD 2 d0).ll),.i ((v6.getD 3 d0).ii),.i ((v6.getD 4 d0).ii),.i ((v6.getD 5 d0).ii),.i ((v6.getD 6 d0).ii),.s ((v6.getD 7 d0).ss),.s ((v6.getD 8 d0).ss)]) fun v8 =>
 (R 12 [.sl ((v8.getD 1 d0).ll),.i ((v8.getD 2 d0).ii),.i ((v8.getD 3 d0).ii),.i ((v8.getD 4 d0).ii),.i ((v8.getD 5 d0).ii)]).bindR fun r9 =>
 (R 13 [.b true,.sl ((r9.getD 1 d0).ll),.i ((r9.getD 2 d0).ii),.i ((r9.getD 3 d0).ii),.i ((r9.getD 4 d0).ii),.i ((r9.getD 5 d0).ii)]).bindR fun r10 =>
 if ((v8.getD 0 d0).ll).length + [[DC.s ((r9.getD 0 d0).ss),DC.s ((v8.getD 7 d0).ss),DC.sl ((r10.getD 0 d0).ll)]].length < jN then
 (R 22 [.s ([125]:List UInt8),.sl ((r10.getD 1 d0).ll),.i ((r10.getD 2 d0).ii),.i ((r10.getD 3 d0).ii),.i ((r10.getD 4 d0).ii),.i ((r10.getD 5 d0).ii)]).bindR fun r11 =>
 if (r11.getD 0 d0).bb=true then
 .ex 0 [.sl (((v8.getD 0 d0).ll) ++ [[DC.s ((r9.getD 0 d0).ss),DC.s ((v8.getD 7 d0).ss),DC.sl ((r10.getD 0 d0).ll)]]),.sl ((r11.getD 1 d0).ll),.i ((r11.getD 2 d0).ii),.i ((r11.getD 3 d0).ii),.i ((r11.getD 4 d0).ii),.i ((r11.getD 5 d0).ii)]
 else
 .norm [.sl (((v8.getD 0 d0).ll) ++ [[DC.s ((r9.getD 0 d0).ss),DC.s ((v8.getD 7 d0).ss),DC.sl ((r10.getD 0 d0).ll)]]),.sl ((r11.getD 1 d0).ll),.i ((r11.getD 2 d0).ii),.i ((r11.getD 3 d0).ii),.i ((r11.getD 4 d0).ii),.i ((r11.getD 5 d0).ii)]
 else
 .fail) 1 fun v12 =>
 .norm [.sl ((v12.getD 0 d0).ll),.sl ((v12.getD 1 d0).ll),.i ((v12.getD 2 d0).ii),.i ((v12.getD 3 d0).ii),.i ((v12.getD 4 d0).ii),.i ((v12.getD 5 d0).ii)]
 else
 .ex 0 [.sl ((v2.getD 0 d0).ll),.sl ((v2.getD 1 d0).ll),.i ((v2.getD 2 d0).ii),.i ((v2.getD 3 d0).ii),.i ((v2.getD 4 d0).ii),.i ((v2.getD 5 d0).ii)]
def zT (R:Nat → List DC → Out) (n:Nat) (a:List DC):Out :=
 (R 22 [.s ([123]:List UInt8),.sl ((a.getD 0 d0).ll),.i ((a.getD 1 d0).ii),.i ((a.getD 2 d0).ii),.i ((a.getD 3 d0).ii),.i ((a.getD 4 d0).ii)]).bindR fun r1 =>
 if (!((r1.getD 0 d0).bb))=true then
 .ret [.sl [],.sl ((r1.getD 1 d0).ll),.i ((r1.getD 2 d0).ii),.i ((r1.getD 3 d0).ii),.i ((r1.getD 4 d0).ii),.i ((r1.getD 5 d0).ii)]
 else
 j9 (jG (Qf R n) n [.sl [],.sl ((r1.getD 1 d0).ll),.i ((r1.getD 2 d0).ii),.i ((r1.getD 3 d0).ii),.i ((r1.getD 4 d0).ii),.i ((r1.getD 5 d0).ii)]) 0 fun v13 =>
 .ret [.sl ((v13.getD 0 d0).ll),.sl ((v13.getD 1 d0).ll),.i ((v13.getD 2 d0).ii),.i ((v13.getD 3 d0).ii),.i ((v13.getD 4 d0).ii),.i ((v13.getD 5 d0).ii)]
def XD (R:Nat → List DC → Out) (n:Nat) (a:List DC):Out :=
 j9 (if ((a.getD 0 d0).ii == (1:Int))=true then
 .ret [.s ([113,117,101,114,121]:List UInt8)]
 else
 if ((a.getD 0 d0).ii == (2:Int))=true then
 .ret [.s ([109,117,116,97,116,105,111,110]:List UInt8)]
 else
 if ((a.getD 0 d0).ii == (3:Int))=true then
 .ret [.s ([115,117,98,115,99,114,105,112,116,105,111,110]:List UInt8)]
 else
 .norm []) 0 fun v1 =>
 .ret [.s ([]:List UInt8)]
def Vt (R:Nat → List DC → Out) (n:Nat) (a:List DC):Out :=
 if 9=9 ∧ 0 ≤ (a.getD 0 d0).ii ∧ (a.getD 0 d0).ii < ([[DC.s ([]:List UInt8)],[DC.s ([115,99,97,108,97,114]:List UInt8)],[DC.s ([116,121,112,101]:List UInt8)],[DC.s ([105,110,116,101,114,102,97,99,101]:List UInt8)],[DC.s ([117,110,105,111,110]:List UInt8)],[DC.s ([101,110,117,109]:List UInt8)],[DC.s ([105,110,112,117,116]:List UInt8)],[DC.s ([100,105,114,101,99,116,105,118,101]:List UInt8)],[DC.s ([115,99,104,101,109,97]:List UInt8)]].length:Int) then
 .ret [.s ((([[DC.s ([]:List UInt8)],[DC.s ([115,99,97,108,97,114]:List UInt8)],[DC.s ([116,121,112,101]:List UInt8)],[DC.s ([105,110,116,101,114,102,97,99,101]:List UInt8)],[DC.s ([117,110,105,111,110]:List UInt8)],[DC.s ([101,110,117,109]:List UInt8)],[DC.s ([105,110,112,117,116]:List UInt8)],[DC.s ([100,105,114,101,99,116,105,118,101]:List UInt8)],[DC.s ([115,99,104,101,109,97]:List UInt8)]].getD ((a.getD 0 d0).ii).toNat []).getD 0 d0).ss)]
 else
 .fail
def Vy (R:Nat → List DC → Out) (n:Nat):List DC → Out:=fun v2 =>
 if ((v2.getD 5 d0).ii == (0:Int))=true then
 j9 ((R 12 [.sl ((v2.getD 2 d0).ll),.i ((v2.getD 3 d0).ii),.i ((v2.getD 4 d0).ii),.i ((v2.getD 5 d0).ii),.i ((v2.getD 6 d0).ii)]).bindR fun r3 =>
 (R 17 [.s ([58]:List UInt8),.sl ((r3.getD 1 d0).ll),.i ((r3.getD 2 d0).ii),.i ((r3.getD 3 d0).ii),.i ((r3.getD 4 d0).ii),.i ((r3.getD 5 d0).ii)]).bindR fun r4 =>
 (R 30 [.b ((v2.getD 0 d0).bb),.i (10:Int),.sl ((r4.getD 0 d0).ll),.i ((r4.getD 1 d0).ii),.i ((r4.getD 2 d0).ii),.i ((r4.getD 3 d0).ii),.i ((r4.getD 4 d0).ii)]).bindR fun r5 =>
 if ((v2.getD 1 d0).ll).length + [[DC.s ((r3.getD 0 d0).ss),DC.i ((r5.getD 0 d0).ii),DC.s ((r5.getD 1 d0).ss),DC.sl ((r5.getD 2 d0).ll),DC.sl ((r5.getD 3 d0).ll)]].length < jN then
 (R 22 [.s ([41]:List UInt8),.sl ((r5.getD 4 d0).ll),.i ((r5.getD 5 d0).ii),.i ((r5.getD 6 d0).ii),.i ((r5.getD 7 d0).ii),.i ((r5.getD 8 d0).ii)]).bindR fun r6 =>
 if (r6.getD 0 d0).bb=true then
 .ex 0 [.sl (((v2.getD 1 d0).ll) ++ [[DC.s ((r3.getD 0 d0).ss),DC.i ((r5.getD 0 d0).ii),DC.s ((r5.getD 1 d0).ss),DC.sl ((r5.getD 2 d0).ll),DC.sl ((r5.getD 3 d0).ll)]]),.sl ((r6.getD 1 d0).ll),.i ((r6.getD 2 d0).ii),.i ((r6.getD 3 d0).ii),.i ((r6.getD 4 d0).ii),.i ((r6.getD 5 d0).ii)]
 else
 .norm [.b ((v2.getD 0 d0).bb),.sl (((v2.getD 1 d0).ll) ++ [[DC.s ((r3.getD 0 d0).ss),DC.i ((r5.getD 0 d0).ii),DC.s ((r5.getD 1 d0).ss),DC.sl ((r5.getD 2 d0).ll),DC.sl ((r5.getD 3 d0).ll)]]),.sl ((r6.getD 1 d0).ll),.i ((r6.getD 2 d0).ii),.i ((r6.getD 3 d0).ii),.i ((r6.getD 4 d0).ii),.i ((r6.getD 5 d0).ii)]
 else
 .fail) 1 fun v7 =>
 .norm [.b ((v7.getD 0 d0).bb),.sl ((v7.getD 1 d0).ll),.sl ((v7.getD 2 d0).ll),.i ((v7.getD 3 d0).ii),.i ((v7.getD 4 d0).ii),.i ((v7.getD 5 d0).ii),.i ((v7.getD 6 d0).ii)]
 else
 .ex 0 [.sl ((v2.getD 1 d0).ll),.sl ((v2.getD 2 d0).ll),.i ((v2.getD 3 d0).ii),.i ((v2.getD 4 d0).ii),.i ((v2.getD 5 d0).ii),.i ((v2.getD 6 d0).ii)]
def JL (R:Nat → List DC → Out) (n:Nat) (a:List DC):Out :=
 (R 22 [.s ([40]:List UInt8),.sl ((a.getD 1 d0).ll),.i ((a.getD 2 d0).ii),.i ((a.getD 3 d0).ii),.i ((a.getD 4 d0).ii),.i ((a.getD 5 d0).ii)]).bindR fun r1 =>
 if (!((r1.getD 0 d0).bb))=true then
 .ret [.sl [],.sl ((r1.getD 1 d0).ll),.i ((r1.getD 2 d0).ii),.i ((r1.getD 3 d0).ii),.i ((r1.getD 4 d0).ii),.i ((r1.getD 5 d0).ii)]
 else
 j9 (jG (Vy R n) n [.b ((a.getD 0 d0).bb),.sl [],.sl ((r1.getD 1 d0).ll),.i ((r1.getD 2 d0).ii),.i ((r1.getD 3 d0).ii),.i ((r1.getD 4 d0).ii),.i ((r1.getD 5 d0).ii)]) 0 fun v8 =>
 .ret [.sl ((v8.getD 0 d0).ll),.sl ((v8.getD 1 d0).ll),.i ((v8.getD 2 d0).ii),.i ((v8.getD 3 d0).ii),.i ((v8.getD 4 d0).ii),.i ((v8.getD 5 d0).ii)]
def Z2 (R:Nat → List DC → Out) (n:Nat):List DC → Out:=fun v22 =>
 ja (if ((v22.getD 6 d0).ii == (0:Int))=true then
 (R 22 [.s ((v22.getD 2 d0).ss),.sl ((v22.getD 3 d0).ll),.i ((v22.getD 4 d0).ii),.i ((v22.getD 5 d0).ii),.i ((v22.getD 6 d0).ii),.i ((v22.getD 7 d0).ii)]).bindR fun r23 =>
 .norm [.b ((v22.getD 0 d0).bb),.i ((v22.getD 1 d0).ii),.s ((v22.getD 2 d0).ss),.b (!((r23.getD 0 d0).bb)),.sl ((r23.getD 1 d0).ll),.i ((r23.getD 2 d0).ii),.i ((r23.getD 3 d0).ii),.i ((r23.getD 4 d0).ii),.i ((r23.getD 5 d0).ii),.i ((v22.getD 8 d0).ii),.s ((v22.getD 9 d0).ss),.i ((v22.getD 10 d0).ii),.s ((v22.getD 11 d0).ss),.sl ((v22.getD 12 d0).ll),.sl ((v22.getD 13 d0).ll)]
 else
 .norm [.b ((v22.getD 0 d0).bb),.i ((v22.getD 1 d0).ii),.s ((v22.getD 2 d0).ss),.b false,.sl ((v22.getD 3 d0).ll),.i ((v22.getD 4 d0).ii),.i ((v22.getD 5 d0).ii),.i ((v22.getD 6 d0).ii),.i ((v22.getD 7 d0).ii),.i ((v22.getD 8 d0).ii),.s ((v22.getD 9 d0).ss),.i ((v22.getD 10 d0).ii),.s ((v22.getD 11 d0).ss),.sl ((v22.getD 12 d0).ll),.sl ((v22.getD 13 d0).ll)]) fun v24 =>
 if (v24.getD 3 d0).bb=true then
 j9 (ja (if ((v24.getD 11 d0).ii == (8:Int))=true then
 (R 12 [.sl ((v24.getD 4 d0).ll),.i ((v24.getD 5 d0).ii),.i ((v24.getD 6 d0).ii),.i ((v24.getD 7 d0).ii),.i ((v24.getD 8 d0).ii)]).bindR fun r25 =>
 if ((v24.getD 14 d0).ll).length + [[DC.s ((r25.getD 0 d0).ss)]].length < jN then
 (R 17 [.s ([58]:List UInt8),.sl ((r25.getD 1 d0).ll),.i ((r25.getD 2 d0).ii),.i ((r25.getD 3 d0).ii),.i ((r25.getD 4 d0).ii),.i ((r25.getD 5 d0).ii)]).bindR fun r26 =>
 .norm [.b ((v24.getD 0 d0).bb),.i ((v24.getD 1 d0).ii),.s ((v24.getD 2 d0).ss),.sl ((r26.getD 0 d0).ll),.i ((r26.getD 1 d0).ii),.i ((r26.getD 2 d0).ii),.i ((r26.getD 3 d0).ii),.i ((r26.getD 4 d0).ii),.i ((v24.getD 9 d0).ii),.s ((v24.getD 10 d0).ss),.i ((v24.getD 11 d0).ii),.s ((v24.getD 12 d0).ss),.sl ((v24.getD 13 d0).ll),.sl (((v24.getD 14 d0).ll) ++ [[DC.s ((r25.getD 0 d0).ss)]])]
 else
 .fail
 else
 .norm [.b ((v24.getD 0 d0).bb),.i ((v24.getD 1 d0).ii),.s ((v24.getD 2 d0).ss),.sl ((v24.getD 4 d0).ll),.i ((v24.getD 5 d0).ii),.i ((v24.getD 6 d0).ii),.i ((v24.getD 7 d0).ii),.i ((v24.getD 8 d0).ii),.i ((v24.getD 9 d0).ii),.s ((v24.getD 10 d0).ss),.i ((v24.getD 11 d0).ii),.s ((v24.getD 12 d0).ss),.sl ((v24.getD 13 d0).ll),.sl ((v24.getD 14 d0).ll)]) fun v27 =>
 (R 30 [.b ((v27.getD 0 d0).bb),.i (IntKind.i64.wrap ((v27.getD 1 d0).ii - (1:Int))),.sl ((v27.getD 3 d0).ll),.i ((v27.getD 4 d0).ii),.i ((v27.getD 5 d0).ii),.i ((v27.getD 6 d0).ii),.i ((v27.getD 7 d0).ii)]).bindR fun r28 =>
 if ((v27.getD 12 d0).ll).length + [[DC.i ((r28.getD 0 d0).ii),DC.s ((r28.getD 1 d0).ss),DC.sl ((r28.getD 2 d0).ll),DC.sl ((r28.getD 3 d0).ll)]].length < jN then
 .norm [.b ((v27.getD 0 d0).bb),.i ((v27.getD 1 d0).ii),.s ((v27.getD 2 d0).ss),.sl ((r28.getD 4 d0).ll),.i ((r28.getD 5 d0).ii),.i ((r28.getD 6 d0).ii),.i ((r28.getD 7 d0).ii),.i ((r28.getD 8 d0).ii),.i ((v27.getD 8 d0).ii),.s ((v27.getD 9 d0).ss),.i ((v27.getD 10 d0).ii),.s ((v27.getD 11 d0).ss),.sl (((v27.getD 12 d0).ll) ++ [[DC.i ((r28.getD 0 d0).ii),DC.s ((r28.getD 1 d0).ss),DC.sl ((r28.getD 2 d0).ll),DC.sl ((r28.getD 3 d0).ll)]]),.sl ((v27.getD 13 d0).ll)]
 else
 .fail) 3 fun v29 =>
 .norm [.b ((v29.getD 0 d0).bb),.i ((v29.getD 1 d0).ii),.s ((v29.getD 2 d0).ss),.sl ((v29.getD 3 d0).ll),.i ((v29.getD 4 d0).ii),.i ((v29.getD 5 d0).ii),.i ((v29.getD 6 d0).ii),.i ((v29.getD 7 d0).ii),.i ((v29.getD 8 d0).ii),.s ((v29.getD 9 d0).ss),.i ((v29.getD 10 d0).ii),.s ((v29.getD 11 d0).ss),.sl ((v29.getD 12 d0).ll),.sl ((v29.getD 13 d0).ll)]
 else
 .ex 2 [.sl ((v24.getD 4 d0).ll),.i ((v24.getD 5 d0).ii),.i ((v24.getD 6 d0).ii),.i ((v24.getD 7 d0).ii),.i ((v24.getD 8 d0).ii),.i ((v24.getD 9 d0).ii),.s ((v24.getD 10 d0).ss),.i ((v24.getD 11 d0).ii),.s ((v24.getD 12 d0).ss),.sl ((v24.getD 13 d0).ll),.sl ((v24.getD 14 d0).ll)]
def Qw (R:Nat → List DC → Out) (n:Nat) (a:List DC):Out :=
 if ((a.getD 5 d0).ii != (0:Int))=true then
 .ret [.i (0:Int),.s [],.sl [],.sl [],.sl ((a.getD 2 d0).ll),.i ((a.getD 3 d0).ii),.i ((a.getD 4 d0).ii),.i ((a.getD 5 d0).ii),.i ((a.getD 6 d0).ii)]
 else
 if (decide ((a.getD 3 d0).ii ≥ (((a.getD 2 d0).ll).length:Int)))=true then
 (R 1 [.i (7:Int),.sl ((a.getD 2 d0).ll),.i ((a.getD 3 d0).ii),.i ((a.getD 4 d0).ii),.i ((a.getD 5 d0).ii),.i ((a.getD 6 d0).ii)]).bindR fun r1 =>
 .ret [.i (0:Int),.s [],.sl [],.sl [],.sl ((r1.getD 0 d0).ll),.i ((r1.getD 1 d0).ii),.i ((r1.getD 2 d0).ii),.i ((r1.getD 3 d0).ii),.i ((r1.getD 4 d0).ii)]
 else
 if 117=117 ∧ 0 ≤ (a.getD 3 d0).ii ∧ (a.getD 3 d0).ii < (((a.getD 2 d0).ll).length:Int) then
 j9 (ja (if (((((a.getD 2 d0).ll).getD ((a.getD 3 d0).ii).toNat []).getD 0 d0).ii == (3:Int))=true then
 .norm [.b ((a.getD 0 d0).bb),.i ((a.getD 1 d0).ii),.i (((((a.getD 2 d0).ll).getD ((a.getD 3 d0).ii).toNat []).getD 0 d0).ii),.b (((((a.getD 2 d0).ll).getD ((a.getD 3 d0).ii).toNat []).getD 0 d0).ii == (3:Int)),.sl ((a.getD 2 d0).ll),.i ((a.getD 3 d0).ii),.i ((a.getD 4 d0).ii),.i ((a.getD 5 d0).ii),.i ((a.getD 6 d0).ii),.i (0:Int),.s [],.i (0:Int),.s [],.i (((((a.getD 2 d0).ll).getD ((a.getD 3 d0).ii).toNat []).getD 0 d0).ii),.s (((((a.getD 2 d0).ll).getD ((a.getD 3 d0).ii).toNat []).getD 1 d0).ss),.i (((((a.getD 2 d0).ll).getD ((a.getD 3 d0).ii).toNat []).getD 2 d0).ii)]
 else
 ja (if (((((a.getD 2 d0).ll).getD ((a.getD 3 d0).ii).toNat []).getD 0 d0).ii == (4:Int))=true then
 .norm [.b ((a.getD 0 d0).bb),.i ((a.getD 1 d0).ii),.i (((((a.getD 2 d0).ll).getD ((a.getD 3 d0).ii).toNat []).getD 0 d0).ii),.b (((((a.getD 2 d0).ll).getD ((a.getD 3 d0).ii).toNat []).getD 0 d0).ii == (4:Int)),.sl ((a.getD 2 d0).ll),.i ((a.getD 3 d0).ii),.i ((a.getD 4 d0).ii),.i ((a.getD 5 d0).ii),.i ((a.getD 6 d0).ii),.i (0:Int),.s [],.i (0:Int),.s [],.i (((((a.getD 2 d0).ll).getD ((a.getD 3 d0).ii).toNat []).getD 0 d0).ii),.s (((((a.getD 2 d0).ll).getD ((a.getD 3 d0).ii).toNat []).getD 1 d0).ss),.i (((((a.getD 2 d0).ll).getD ((a.getD 3 d0).ii).toNat []).getD 2 d0).ii)]
 else
 .norm [.b ((a.getD 0 d0).bb),.i ((a.getD 1 d0).ii),.i (((((a.getD 2 d0).ll).getD ((a.getD 3 d0).ii).toNat []).getD 0 d0).ii),.b (((((a.getD 2 d0).ll).getD ((a.getD 3 d0).ii).toNat []).getD 0 d0).ii == (5:Int)),.sl ((a.getD 2 d0).ll),.i ((a.getD 3 d0).ii),.i ((a.getD 4 d0).ii),.i ((a.getD 5 d0).ii),.i ((a.getD 6 d0).ii),.i (0:Int),.s [],.i (0:Int),.s [],.i (((((a.getD 2 d0).ll).getD ((a.getD 3 d0).ii).toNat []).getD 0 d0).ii),.s (((((a.getD 2 d0).ll).getD ((a.getD 3 d0).ii).toNat []).getD 1 d0).ss),.i (((((a.getD 2 d0).ll).getD ((a.getD 3 d0).ii).toNat []).getD 2 d0).ii)]) fun v2 =>
 .norm [.b ((v2.getD 0 d0).bb),.i ((v2.getD 1 d0).ii),.i ((v2.getD 2 d0).ii),.b ((v2.getD 3 d0).bb),.sl ((v2.getD 4 d0).ll),.i ((v2.getD 5 d0).ii),.i ((v2.getD 6 d0).ii),.i ((v2.getD 7 d0).ii),.i ((v2.getD 8 d0).ii),.i ((v2.getD 9 d0).ii),.s ((v2.getD 10 d0).ss),.i ((v2.getD 11 d0).ii),.s ((v2.getD 12 d0).ss),.i ((v2.getD 13 d0).ii),.s ((v2.getD 14 d0).ss),.i ((v2.getD 15 d0).ii)]) fun v3 =>
 if (v3.getD 3 d0).bb=true then
 ja (if ((v3.getD 13 d0).ii == (4:Int))=true then
 .norm [.sl ((v3.getD 4 d0).ll),.i (IntKind.i64.wrap ((v3.getD 5 d0).ii + (1:Int))),.i ((v3.getD 6 d0).ii),.i ((v3.getD 7 d0).ii),.i ((v3.getD 8 d0).ii),.i ((v3.getD 9 d0).ii),.s ((v3.getD 10 d0).ss),.i (3:Int),.s ((v3.getD 14 d0).ss),.i ((v3.getD 13 d0).ii),.s ((v3.getD 14 d0).ss),.i ((v3.getD 15 d0).ii)]
 else
 .norm [.sl ((v3.getD 4 d0).ll),.i (IntKind.i64.wrap ((v3.getD 5 d0).ii + (1:Int))),.i ((v3.getD 6 d0).ii),.i ((v3.getD 7 d0).ii),.i ((v3.getD 8 d0).ii),.i ((v3.getD 9 d0).ii),.s ((v3.getD 10 d0).ss),.i (2:Int),.s ((v3.getD 14 d0).ss),.i ((v3.getD 13 d0).ii),.s ((v3.getD 14 d0).ss),.i ((v3.getD 15 d0).ii)]) fun v4 =>
 ja (if ((v4.getD 9 d0).ii == (5:Int))=true then
 .norm [.sl ((v4.getD 0 d0).ll),.i ((v4.getD 1 d0).ii),.i ((v4.getD 2 d0).ii),.i ((v4.getD 3 d0).ii),.i ((v4.getD 4 d0).ii),.i ((v4.getD 5 d0).ii),.s ((v4.getD 6 d0).ss),.i (4:Int),.s ((v4.getD 8 d0).ss)]
 else
 .norm [.sl ((v4.getD 0 d0).ll),.i ((v4.getD 1 d0).ii),.i ((v4.getD 2 d0).ii),.i ((v4.getD 3 d0).ii),.i ((v4.getD 4 d0).ii),.i ((v4.getD 5 d0).ii),.s ((v4.getD 6 d0).ss),.i ((v4.getD 7 d0).ii),.s ((v4.getD 8 d0).ss)]) fun v5 =>
 .ret [.i ((v5.getD 7 d0).ii),.s ((v5.getD 8 d0).ss),.sl [],.sl [],.sl ((v5.getD 0 d0).ll),.i ((v5.getD 1 d0).ii),.i ((v5.getD 2 d0).ii),.i ((v5.getD 3 d0).ii),.i ((v5.getD 4 d0).ii)]
 else
 if ((v3.getD 2 d0).ii == (2:Int))=true then
 (R 33 [.s ((v3.getD 14 d0).ss)]).bindR fun r6 =>
 ja (if (r6.getD 0 d0).bb=true then
 .norm [.sl ((v3.getD 4 d0).ll),.i (IntKind.i64.wrap ((v3.getD 5 d0).ii + (1:Int))),.i ((v3.getD 6 d0).ii),.i ((v3.getD 7 d0).ii),.i ((v3.getD 8 d0).ii),.i ((v3.getD 9 d0).ii),.s ((v3.getD 10 d0).ss),.i (5:Int),.s ((v3.getD 14 d0).ss)]
 else
 .norm [.sl ((v3.getD 4 d0).ll),.i (IntKind.i64.wrap ((v3.getD 5 d0).ii + (1:Int))),.i ((v3.getD 6 d0).ii),.i ((v3.getD 7 d0).ii),.i ((v3.getD 8 d0).ii),.i ((v3.getD 9 d0).ii),.s ((v3.getD 10 d0).ss),.i (6:Int),.s ((v3.getD 14 d0).ss)]) fun v7 =>
 .ret [.i ((v7.getD 7 d0).ii),.s ((v7.getD 8 d0).ss),.sl [],.sl [],.sl ((v7.getD 0 d0).ll),.i ((v7.getD 1 d0).ii),.i ((v7.getD 2 d0).ii),.i ((v7.getD 3 d0).ii),.i ((v7.getD 4 d0).ii)]
 else
 .norm [.b ((v3.getD 0 d0).bb),.i ((v3.getD 1 d0).ii),.sl ((v3.getD 4 d0).ll),.i ((v3.getD 5 d0).ii),.i ((v3.getD 6 d0).ii),.i ((v3.getD 7 d0).ii),.i ((v3.getD 8 d0).ii),.i ((v3.getD 9 d0).ii),.s ((v3.getD 10 d0).ss),.i ((v3.getD 11 d0).ii),.s ((v3.getD 12 d0).ss),.i ((v3.getD 13 d0).ii),.s ((v3.getD 14 d0).ss),.i ((v3.getD 15 d0).ii)]) 0 fun v8 =>
 j9 (ja (if ((v8.getD 12 d0).ss == ([36]:List UInt8))=true then
 .norm [.b ((v8.getD 0 d0).bb),.i ((v8.getD 1 d0).ii),.b (!((v8.getD 0 d0).bb)),.sl ((v8.getD 2 d0).ll),.i ((v8.getD 3 d0).ii),.i ((v8.getD 4 d0).ii),.i ((v8.getD 5 d0).ii),.i ((v8.getD 6 d0).ii),.i ((v8.getD 7 d0).ii),.s ((v8.getD 8 d0).ss),.i ((v8.getD 9 d0).ii),.s ((v8.getD 10 d0).ss),.i ((v8.getD 11 d0).ii),.s ((v8.getD 12 d0).ss),.i ((v8.getD 13 d0).ii)]
 else
 .norm [.b ((v8.getD 0 d0).bb),.i ((v8.getD 1 d0).ii),.b false,.sl ((v8.getD 2 d0).ll),.i ((v8.getD 3 d0).ii),.i ((v8.getD 4 d0).ii),.i ((v8.getD 5 d0).ii),.i ((v8.getD 6 d0).ii),.i ((v8.getD 7 d0).ii),.s ((v8.getD 8 d0).ss),.i ((v8.getD 9 d0).ii),.s ((v8.getD 10 d0).ss),.i ((v8.getD 11 d0).ii),.s ((v8.getD 12 d0).ss),.i ((v8.getD 13 d0).ii)]) fun v9 =>
 if (v9.getD 2 d0).bb=true then
 (R 12 [.sl ((v9.getD 3 d0).ll),.i (IntKind.i64.wrap ((v9.getD 4 d0).ii + (1:Int))),.i ((v9.getD 5 d0).ii),.i ((v9.getD 6 d0).ii),.i ((v9.getD 7 d0).ii)]).bindR fun r10 =>
 .ret [.i (1:Int),.s ((r10.getD 0 d0).ss),.sl [],.sl [],.sl ((r10.getD 1 d0).ll),.i ((r10.getD 2 d0).ii),.i ((r10.getD 3 d0).ii),.i ((r10.getD 4 d0).ii),.i ((r10.getD 5 d0).ii)]
 else
 ja (if ((v9.getD 13 d0).ss == ([91]:List UInt8))=true then
 .norm [.b ((v9.getD 0 d0).bb),.i ((v9.getD 1 d0).ii),.b true,.sl ((v9.getD 3 d0).ll),.i ((v9.getD 4 d0).ii),.i ((v9.getD 5 d0).ii),.i ((v9.getD 6 d0).ii),.i ((v9.getD 7 d0).ii),.i ((v9.getD 8 d0).ii),.s ((v9.getD 9 d0).ss),.i ((v9.getD 10 d0).ii),.s ((v9.getD 11 d0).ss),.i ((v9.getD 12 d0).ii),.s ((v9.getD 13 d0).ss),.i ((v9.getD 14 d0).ii)]
 else
 .norm [.b ((v9.getD 0 d0).bb),.i ((v9.getD 1 d0).ii),.b ((v9.getD 13 d0).ss == ([123]:List UInt8)),.sl ((v9.getD 3 d0).ll),.i ((v9.getD 4 d0).ii),.i ((v9.getD 5 d0).ii),.i ((v9.getD 6 d0).ii),.i ((v9.getD 7 d0).ii),.i ((v9.getD 8 d0).ii),.s ((v9.getD 9 d0).ss),.i ((v9.getD 10 d0).ii),.s ((v9.getD 11 d0).ss),.i ((v9.getD 12 d0).ii),.s ((v9.getD 13 d0).ss),.i ((v9.getD 14 d0).ii)]) fun v11 =>
 if (v11.getD 2 d0).bb=true then
 if ((v11.getD 1 d0).ii == (0:Int))=true then
 (R 1 [.i (8:Int),.sl ((v11.getD 3 d0).ll),.i ((v11.getD 4 d0).ii),.i ((v11.getD 5 d0).ii),.i ((v11.getD 6 d0).ii),.i ((v11.getD 7 d0).ii)]).bindR fun r12 =>
 .ret [.i ((v11.getD 10 d0).ii),.s ((v11.getD 11 d0).ss),.sl [],.sl [],.sl ((r12.getD 0 d0).ll),.i ((r12.getD 1 d0).ii),.i ((r12.getD 2 d0).ii),.i ((r12.getD 3 d0).ii),.i ((r12.getD 4 d0).ii)]
 else
 ja (if ((v11.getD 13 d0).ss == ([123]:List UInt8))=true then
 .norm [.b ((v11.getD 0 d0).bb),.i ((v11.getD 1 d0).ii),.s ([125]:List UInt8),.sl ((v11.getD 3 d0).ll),.i (IntKind.i64.wrap ((v11.getD 4 d0).ii + (1:Int))),.i ((v11.getD 5 d0).ii),.i ((v11.getD 6 d0).ii),.i ((v11.getD 7 d0).ii),.i ((v11.getD 8 d0).ii),.s ((v11.getD 9 d0).ss),.i (8:Int),.s ((v11.getD 11 d0).ss)]
 else
 .norm [.b ((v11.getD 0 d0).bb),.i ((v11.getD 1 d0).ii),.s ([93]:List UInt8),.sl ((v11.getD 3 d0).ll),.i (IntKind.i64.wrap ((v11.getD 4 d0).ii + (1:Int))),.i ((v11.getD 5 d0).ii),.i ((v11.getD 6 d0).ii),.i ((v11.getD 7 d0).ii),.i ((v11.getD 8 d0).ii),.s ((v11.getD 9 d0).ss),.i (7:Int),.s ((v11.getD 11 d0).ss)]) fun v13 =>
 j9 (jG (Z2 R n) n [.b ((v13.getD 0 d0).bb),.i ((v13.getD 1 d0).ii),.s ((v13.getD 2 d0).ss),.sl ((v13.getD 3 d0).ll),.i ((v13.getD 4 d0).ii),.i ((v13.getD 5 d0).ii),.i ((v13.getD 6 d0).ii),.i ((v13.getD 7 d0).ii),.i ((v13.getD 8 d0).ii),.s ((v13.getD 9 d0).ss),.i ((v13.getD 10 d0).ii),.s ((v13.getD 11 d0).ss),.sl [],.sl []]) 2 fun v30 =>
 .ret [.i ((v30.getD 7 d0).ii),.s ((v30.getD 8 d0).ss),.sl ((v30.getD 9 d0).ll),.sl ((v30.getD 10 d0).ll),.sl ((v30.getD 0 d0).ll),.i ((v30.getD 1 d0).ii),.i ((v30.getD 2 d0).ii),.i ((v30.getD 3 d0).ii),.i ((v30.getD 4 d0).ii)]
 else
 .norm [.sl ((v11.getD 3 d0).ll),.i ((v11.getD 4 d0).ii),.i ((v11.getD 5 d0).ii),.i ((v11.getD 6 d0).ii),.i ((v11.getD 7 d0).ii),.i ((v11.getD 8 d0).ii),.s ((v11.getD 9 d0).ss),.i ((v11.getD 10 d0).ii),.s ((v11.getD 11 d0).ss)]) 1 fun v31 =>
 (R 1 [.i (7:Int),.sl ((v31.getD 0 d0).ll),.i ((v31.getD 1 d0).ii),.i ((v31.getD 2 d0).ii),.i ((v31.getD 3 d0).ii),.i ((v31.getD 4 d0).ii)]).bindR fun r32 =>
 .ret [.i ((v31.getD 7 d0).ii),.s ((v31.getD 8 d0).ss),.sl [],.sl [],.sl ((r32.getD 0 d0).ll),.i ((r32.getD 1 d0).ii),.i ((r32.getD 2 d0).ii),.i ((r32.getD 3 d0).ii),.i ((r32.getD 4 d0).ii)]
 else
 .fail
def ZO (R:Nat → List DC → Out) (n:Nat):List DC → Out:=fun v1 =>
 (R 15 [.s ([91]:List UInt8),.sl ((v1.getD 1 d0).ll),.i ((v1.getD 2 d0).ii),.i ((v1.getD 3 d0).ii),.i ((v1.getD 4 d0).ii),.i ((v1.getD 5 d0).ii)]).bindR fun r2 =>
 if (r2.getD 0 d0).bb=true then
 j9 (if ((v1.getD 0 d0).ii == (8:Int))=true then
 (R 1 [.i (8:Int),.sl ((r2.getD 1 d0).ll),.i ((r2.getD 2 d0).ii),.i ((r2.getD 3 d0).ii),.i ((r2.getD 4 d0).ii),.i ((r2.getD 5 d0).ii)]).bindR fun r3 =>
 .ret [.s ((v1.getD 8 d0).ss),.s ((v1.getD 9 d0).ss),.sl ((r3.getD 0 d0).ll),.i ((r3.getD 1 d0).ii),.i ((r3.getD 2 d0).ii),.i ((r3.getD 3 d0).ii),.i ((r3.getD 4 d0).ii)]
 else
 .norm [.i (IntKind.i64.wrap ((v1.getD 0 d0).ii + (1:Int))),.sl ((r2.getD 1 d0).ll),.i (IntKind.i64.wrap ((r2.getD 2 d0).ii + (1:Int))),.i ((r2.getD 3 d0).ii),.i ((r2.getD 4 d0).ii),.i ((r2.getD 5 d0).ii),.s ((v1.getD 6 d0).ss),.s ((v1.getD 7 d0).ss),.s ((v1.getD 8 d0).ss),.s ((v1.getD 9 d0).ss)]) 1 fun v4 =>
 .norm [.i ((v4.getD 0 d0).ii),.sl ((v4.getD 1 d0).ll),.i ((v4.getD 2 d0).ii),.i ((v4.getD 3 d0).ii),.i ((v4.getD 4 d0).ii),.i ((v4.getD 5 d0).ii),.s ((v4.getD 6 d0).ss),.s ((v4.getD 7 d0).ss),.s ((v4.getD 8 d0).ss),.s ((v4.getD 9 d0).ss)]
 else
 .ex 0 [.i ((v1.getD 0 d0).ii),.sl ((r2.getD 1 d0).ll),.i ((r2.getD 2 d0).ii),.i ((r2.getD 3 d0).ii),.i ((r2.getD 4 d0).ii),.i ((r2.getD 5 d0).ii),.s ((v1.getD 6 d0).ss),.s ((v1.getD 7 d0).ss),.s ((v1.getD 8 d0).ss),.s ((v1.getD 9 d0).ss)]
def ZN (R:Nat → List DC → Out) (n:Nat):List DC → Out:=fun v7 =>
 if ((v7.getD 4 d0).ii == (0:Int))=true then
 j9 (ja ((R 15 [.s ([33]:List UInt8),.sl ((v7.getD 1 d0).ll),.i ((v7.getD 2 d0).ii),.i ((v7.getD 3 d0).ii),.i ((v7.getD 4 d0).ii),.i ((v7.getD 5 d0).ii)]).bindR fun r8 =>
 if (r8.getD 0 d0).bb=true then
 if ((v7.getD 9 d0).ss == ([]:List UInt8))=true then
 .norm [.i ((v7.getD 0 d0).ii),.b true,.sl ((r8.getD 1 d0).ll),.i ((r8.getD 2 d0).ii),.i ((r8.getD 3 d0).ii),.i ((r8.getD 4 d0).ii),.i ((r8.getD 5 d0).ii),.s ((v7.getD 6 d0).ss),.s ((v7.getD 7 d0).ss),.s ((v7.getD 8 d0).ss),.s ((v7.getD 9 d0).ss)]
 else
 if 0 ≤ (IntKind.i64.wrap ((((v7.getD 9 d0).ss).length:Int) - (1:Int))) ∧ (IntKind.i64.wrap ((((v7.getD 9 d0).ss).length:Int) - (1:Int))) < (((v7.getD 9 d0).ss).length:Int) then
 .norm [.i ((v7.getD 0 d0).ii),.b (((((v7.getD 9 d0).ss).getD (IntKind.i64.wrap ((((v7.getD 9 d0).ss).length:Int) - (1:Int))).toNat 0).toNat:Int) != (33:Int)),.sl ((r8.getD 1 d0).ll),.i ((r8.getD 2 d0).ii),.i ((r8.getD 3 d0).ii),.i ((r8.getD 4 d0).ii),.i ((r8.getD 5 d0).ii),.s ((v7.getD 6 d0).ss),.s ((v7.getD 7 d0).ss),.s ((v7.getD 8 d0).ss),.s ((v7.getD 9 d0).ss)]
 else
 .fail
 else
 .norm [.i ((v7.getD 0 d0).ii),.b false,.sl ((r8.getD 1 d0).ll),.i ((r8.getD 2 d0).ii),.i ((r8.getD 3 d0).ii),.i ((r8.getD 4 d0).ii),.i ((r8.getD 5 d0).ii),.s ((v7.getD 6 d0).ss),.s ((v7.getD 7 d0).ss),.s ((v7.getD 8 d0).ss),.s ((v7.getD 9 d0).ss)]) fun v9 =>
 if (v9.getD 1 d0).bb=true then
 (R 34 [.s ((v9.getD 9 d0).ss),.s ((v9.getD 10 d0).ss),.s ([33]:List UInt8),.sl ((v9.getD 2 d0).ll),.i ((v9.getD 3 d0).ii),.i ((v9.getD 4 d0).ii),.i ((v9.getD 5 d0).ii),.i ((v9.getD 6 d0).ii)]).bindR fun r10 =>
 .ex 3 [.i ((v9.getD 0 d0).ii),.sl ((r10.getD 2 d0).ll),.i ((r10.getD 3 d0).ii),.i ((r10.getD 4 d0).ii),.i ((r10.getD 5 d0).ii),.i ((r10.getD 6 d0).ii),.s ((v9.getD 7 d0).ss),.s ((v9.getD 8 d0).ss),.s ((r10.getD 0 d0).ss),.s ((r10.getD 1 d0).ss)]
 else
 if ((v9.getD 0 d0).ii == (0:Int))=true then
 .ret [.s ((v9.getD 9 d0).ss),.s ((v9.getD 10 d0).ss),.sl ((v9.getD 2 d0).ll),.i ((v9.getD 3 d0).ii),.i ((v9.getD 4 d0).ii),.i ((v9.getD 5 d0).ii),.i ((v9.getD 6 d0).ii)]
 else
 (R 15 [.s ([93]:List UInt8),.sl ((v9.getD 2 d0).ll),.i ((v9.getD 3 d0).ii),.i ((v9.getD 4 d0).ii),.i ((v9.getD 5 d0).ii),.i ((v9.getD 6 d0).ii)]).bindR fun r11 =>
 if (!((r11.getD 0 d0).bb))=true then
 (R 1 [.i (7:Int),.sl ((r11.getD 1 d0).ll),.i ((r11.getD 2 d0).ii),.i ((r11.getD 3 d0).ii),.i ((r11.getD 4 d0).ii),.i ((r11.getD 5 d0).ii)]).bindR fun r12 =>
 .ret [.s ((v9.getD 9 d0).ss),.s ((v9.getD 10 d0).ss),.sl ((r12.getD 0 d0).ll),.i ((r12.getD 1 d0).ii),.i ((r12.getD 2 d0).ii),.i ((r12.getD 3 d0).ii),.i ((r12.getD 4 d0).ii)]
 else
 (R 34 [.s ((v9.getD 9 d0).ss),.s ((v9.getD 10 d0).ss),.s ([93]:List UInt8),.sl ((r11.getD 1 d0).ll),.i ((r11.getD 2 d0).ii),.i ((r11.getD 3 d0).ii),.i ((r11.getD 4 d0).ii),.i ((r11.getD 5 d0).ii)]).bindR fun r13 =>
 .norm [.i (IntKind.i64.wrap ((v9.getD 0 d0).ii - (1:Int))),.sl ((r13.getD 2 d0).ll),.i ((r13.getD 3 d0).ii),.i ((r13.getD 4 d0).ii),.i ((r13.getD 5 d0).ii),.i ((r13.getD 6 d0).ii),.s ((v9.getD 7 d0).ss),.s ((v9.getD 8 d0).ss),.s ((r13.getD 0 d0).ss),.s ((r13.getD 1 d0).ss)]) 3 fun v14 =>
 .norm [.i ((v14.getD 0 d0).ii),.sl ((v14.getD 1 d0).ll),.i ((v14.getD 2 d0).ii),.i ((v14.getD 3 d0).ii),.i ((v14.getD 4 d0).ii),.i ((v14.getD 5 d0).ii),.s ((v14.getD 6 d0).ss),.s ((v14.getD 7 d0).ss),.s ((v14.getD 8 d0).ss),.s ((v14.getD 9 d0).ss)]
 else
 .ex 2 [.sl ((v7.getD 1 d0).ll),.i ((v7.getD 2 d0).ii),.i ((v7.getD 3 d0).ii),.i ((v7.getD 4 d0).ii),.i ((v7.getD 5 d0).ii),.s ((v7.getD 6 d0).ss),.s ((v7.getD 7 d0).ss),.s ((v7.getD 8 d0).ss),.s ((v7.getD 9 d0).ss)]
def VA (R:Nat → List DC → Out) (n:Nat) (a:List DC):Out :=
 j9 (jG (ZO R n) n [.i (0:Int),.sl ((a.getD 0 d0).ll),.i ((a.getD 1 d0).ii),.i ((a.getD 2 d0).ii),.i ((a.getD 3 d0).ii),.i ((a.getD 4 d0).ii),.s [],.s [],.s [],.s []]) 0 fun v5 =>
 (R 12 [.sl ((v5.getD 1 d0).ll),.i ((v5.getD 2 d0).ii),.i ((v5.getD 3 d0).ii),.i ((v5.getD 4 d0).ii),.i ((v5.getD 5 d0).ii)]).bindR fun r6 =>
 j9 (jG (ZN R n) n [.i ((v5.getD 0 d0).ii),.sl ((r6.getD 1 d0).ll),.i ((r6.getD 2 d0).ii),.i ((r6.getD 3 d0).ii),.i ((r6.getD 4 d0).ii),.i ((r6.getD 5 d0).ii),.s ((v5.getD 6 d0).ss),.s ((v5.getD 7 d0).ss),.s ((r6.getD 0 d0).ss),.s ((v5.getD 9 d0).ss)]) 2 fun v15 =>
 .ret [.s ((v15.getD 7 d0).ss),.s ((v15.getD 8 d0).ss),.sl ((v15.getD 0 d0).ll),.i ((v15.getD 1 d0).ii),.i ((v15.getD 2 d0).ii),.i ((v15.getD 3 d0).ii),.i ((v15.getD 4 d0).ii)]
def KL (R:Nat → List DC → Out) (n:Nat) (a:List DC):Out :=
 (R 8 [.sl ((a.getD 0 d0).ll),.i ((a.getD 1 d0).ii),.i ((a.getD 2 d0).ii),.i ((a.getD 3 d0).ii),.i ((a.getD 4 d0).ii)]).bindR fun r1 =>
 (R 12 [.sl ((r1.getD 1 d0).ll),.i ((r1.getD 2 d0).ii),.i ((r1.getD 3 d0).ii),.i ((r1.getD 4 d0).ii),.i ((r1.getD 5 d0).ii)]).bindR fun r2 =>
 (R 17 [.s ([58]:List UInt8),.sl ((r2.getD 1 d0).ll),.i ((r2.getD 2 d0).ii),.i ((r2.getD 3 d0).ii),.i ((r2.getD 4 d0).ii),.i ((r2.getD 5 d0).ii)]).bindR fun r3 =>
 (R 29 [.sl ((r3.getD 0 d0).ll),.i ((r3.getD 1 d0).ii),.i ((r3.getD 2 d0).ii),.i ((r3.getD 3 d0).ii),.i ((r3.getD 4 d0).ii)]).bindR fun r4 =>
 (R 22 [.s ([61]:List UInt8),.sl ((r4.getD 2 d0).ll),.i ((r4.getD 3 d0).ii),.i ((r4.getD 4 d0).ii),.i ((r4.getD 5 d0).ii),.i ((r4.getD 6 d0).ii)]).bindR fun r5 =>
 ja (if (r5.getD 0 d0).bb=true then
 (R 30 [.b true,.i (10:Int),.sl ((r5.getD 1 d0).ll),.i ((r5.getD 2 d0).ii),.i ((r5.getD 3 d0).ii),.i ((r5.getD 4 d0).ii),.i ((r5.getD 5 d0).ii)]).bindR fun r6 =>
 .norm [.sl ((r6.getD 4 d0).ll),.i ((r6.getD 5 d0).ii),.i ((r6.getD 6 d0).ii),.i ((r6.getD 7 d0).ii),.i ((r6.getD 8 d0).ii),.s [],.s [],.s [],.s [],.b false,.i (0:Int),.s [],.s ((r2.getD 0 d0).ss),.s ((r1.getD 0 d0).ss),.s ((r4.getD 0 d0).ss),.s ((r4.getD 1 d0).ss),.b true,.i ((r6.getD 0 d0).ii),.s ((r6.getD 1 d0).ss),.sl ((r6.getD 2 d0).ll),.sl ((r6.getD 3 d0).ll)]
 else
 .norm [.sl ((r5.getD 1 d0).ll),.i ((r5.getD 2 d0).ii),.i ((r5.getD 3 d0).ii),.i ((r5.getD 4 d0).ii),.i ((r5.getD 5 d0).ii),.s [],.s [],.s [],.s [],.b false,.i (0:Int),.s [],.s ((r2.getD 0 d0).ss),.s ((r1.getD 0 d0).ss),.s ((r4.getD 0 d0).ss),.s ((r4.getD 1 d0).ss),.b false,.i (0:Int),.s [],.sl [],.sl []]) fun v7 =>
 (R 13 [.b true,.sl ((v7.getD 0 d0).ll),.i ((v7.getD 1 d0).ii),.i ((v7.getD 2 d0).ii),.i ((v7.getD 3 d0).ii),.i ((v7.getD 4 d0).ii)]).bindR fun r8 =>
 .ret [.s ((v7.getD 12 d0).ss),.s ((v7.getD 13 d0).ss),.s ((v7.getD 14 d0).ss),.s ((v7.getD 15 d0).ss),.b ((v7.getD 16 d0).bb),.i ((v7.getD 17 d0).ii),.s ((v7.getD 18 d0).ss),.sl ((v7.getD 19 d0).ll),.sl ((v7.getD 20 d0).ll),.sl ((r8.getD 0 d0).ll),.sl ((r8.getD 1 d0).ll),.i ((r8.getD 2 d0).ii),.i ((r8.getD 3 d0).ii),.i ((r8.getD 4 d0).ii),.i ((r8.getD 5 d0).ii)]
def VI (R:Nat → List DC → Out) (n:Nat) (a:List DC):Out :=
 j9 (ja (if ((a.getD 0 d0).ss == ([81,85,69,82,89]:List UInt8))=true then
 .norm [.b ((a.getD 0 d0).ss == ([81,85,69,82,89]:List UInt8))]
 else
 ja (if ((a.getD 0 d0).ss == ([77,85,84,65,84,73,79,78]:List UInt8))=true then
 .norm [.b ((a.getD 0 d0).ss == ([77,85,84,65,84,73,79,78]:List UInt8))]
 else
 ja (if ((a.getD 0 d0).ss == ([83,85,66,83,67,82,73,80,84,73,79,78]:List UInt8))=true then
 .norm [.b ((a.getD 0 d0).ss == ([83,85,66,83,67,82,73,80,84,73,79,78]:List UInt8))]
 else
 ja (if ((a.getD 0 d0).ss == ([70,73,69,76,68]:List UInt8))=true then
 .norm [.b ((a.getD 0 d0).ss == ([70,73,69,76,68]:List UInt8))]
 else
 ja (if ((a.getD 0 d0).ss == ([70,82,65,71,77,69,78,84,95,68,69,70,73,78,73,84,73,79,78]:List UInt8))=true then
 .norm [.b ((a.getD 0 d0).ss == ([70,82,65,71,77,69,78,84,95,68,69,70,73,78,73,84,73,79,78]:List UInt8))]
 else
 ja (if ((a.getD 0 d0).ss == ([70,82,65,71,77,69,78,84,95,83,80,82,69,65,68]:List UInt8))=true then
 .norm [.b ((a.getD 0 d0).ss == ([70,82,65,71,77,69,78,84,95,83,80,82,69,65,68]:List UInt8))]
 else
 ja (if ((a.getD 0 d0).ss == ([73,78,76,73,78,69,95,70,82,65,71,77,69,78,84]:List UInt8))=true then
 .norm [.b ((a.getD 0 d0).ss == ([73,78,76,73,78,69,95,70,82,65,71,77,69,78,84]:List UInt8))]
 else
 ja (if ((a.getD 0 d0).ss == ([86,65,82,73,65,66,76,69,95,68,69,70,73,78,73,84,73,79,78]:List UInt8))=true then
 .norm [.b ((a.getD 0 d0).ss == ([86,65,82,73,65,66,76,69,95,68,69,70,73,78,73,84,73,79,78]:List UInt8))]
 else
 ja (if ((a.getD 0 d0).ss == ([83,67,72,69,77,65]:List UInt8))=true then
 .norm [.b ((a.getD 0 d0).ss == ([83,67,72,69,77,65]:List UInt8))]
 else
 ja (if ((a.getD 0 d0).ss == ([83,67,65,76,65,82]:List UInt8))=true then
 .norm [.b ((a.getD 0 d0).ss == ([83,67,65,76,65,82]:List UInt8))]
 else
 ja (if ((a.getD 0 d0).ss == ([79,66,74,69,67,84]:List UInt8))=true then
 .norm [.b ((a.getD 0 d0).ss == ([79,66,74,69,67,84]:List UInt8))]
 else
 ja (if ((a.getD 0 d0).ss == ([70,73,69,76,68,95,68,69,70,73,78,73,84,73,79,78]:List UInt8))=true then
 .norm [.b ((a.getD 0 d0).ss == ([70,73,69,76,68,95,68,69,70,73,78,73,84,73,79,78]:List UInt8))]
 else
 ja (if ((a.getD 0 d0).ss == ([65,82,71,85,77,69,78,84,95,68,69,70,73,78,73,84,73,79,78]:List UInt8))=true then
 .norm [.b ((a.getD 0 d0).ss == ([65,82,71,85,77,69,78,84,95,68,69,70,73,78,73,84,73,79,78]:List UInt8))]
 else
 ja (if ((a.getD 0 d0).ss == ([73,78,84,69,82,70,65,67,69]:List UInt8))=true then
 .norm [.b ((a.getD 0 d0).ss == ([73,78,84,69,82,70,65,67,69]:List UInt8))]
 else
 ja (if ((a.getD 0 d0).ss == ([85,78,73,79,78]:List UInt8))=true then
 .norm [.b ((a.getD 0 d0).ss == ([85,78,73,79,78]:List UInt8))]
 else
 ja (if ((a.getD 0 d0).ss == ([69,78,85,77]:List UInt8))=true then
 .norm [.b ((a.getD 0 d0).ss == ([69,78,85,77]:List UInt8))]
 else
 ja (if ((a.getD 0 d0).ss == ([69,78,85,77,95,86,65,76,85,69]:List UInt8))=true then
 .norm [.b ((a.getD 0 d0).ss == ([69,78,85,77,95,86,65,76,85,69]:List UInt8))]
 else
 ja (if ((a.getD 0 d0).ss == ([73,78,80,85,84,95,79,66,74,69,67,84]:List UInt8))=true then
 .norm [.b ((a.getD 0 d0).ss == ([73,78,80,85,84,95,79,66,74,69,67,84]:List UInt8))]
 else
 .norm [.b ((a.getD 0 d0).ss == ([73,78,80,85,84,95,70,73,69,76,68,95,68,69,70,73,78,73,84,73,79,78]:List UInt8))]) fun v1 =>
 .norm [.b ((v1.getD 0 d0).bb)]) fun v2 =>
 .norm [.b ((v2.getD 0 d0).bb)]) fun v3 =>
 .norm [.b ((v3.getD 0 d0).bb)]) fun v4 =>
 .norm [.b ((v4.getD 0 d0).bb)]) fun v5 =>
 .norm [.b ((v5.getD 0 d0).bb)]) fun v6 =>
 .norm [.b ((v6.getD 0 d0).bb)]) fun v7 =>
 .norm [.b ((v7.getD 0 d0).bb)]) fun v8 =>
 .norm [.b ((v8.getD 0 d0).bb)]) fun v9 =>
 .norm [.b ((v9.getD 0 d0).bb)]) fun v10 =>
 .norm [.b ((v10.getD 0 d0).bb)]) fun v11 =>
 .norm [.b ((v11.getD 0 d0).bb)]) fun v12 =>
 .norm [.b ((v12.getD 0 d0).bb)]) fun v13 =>
 .norm [.b ((v13.getD 0 d0).bb)]) fun v14 =>
 .norm [.b ((v14.getD 0 d0).bb)]) fun v15 =>
 .norm [.b ((v15.getD 0 d0).bb)]) fun v16 =>
 .norm [.b ((v16.getD 0 d0).bb)]) fun v17 =>
 .norm [.b ((v17.getD 0 d0).bb)]) fun v18 =>
 if (v18.getD 0 d0).bb=true then
 .ret [.b true]
 else
 .norm []) 0 fun v19 =>
 .ret [.b false]
def j0d (R:Nat → List DC → Out) (n:Nat) (a:List DC):Out :=
 ja (if ((a.getD 0 d0).ss == ([116,114,117,101]:List UInt8))=true then
 .norm [.b true]
 else
 if ((a.getD 0 d0).ss == ([102,97,108,115,101]:List UInt8))=true then
 .norm [.b true]
 else
 .norm [.b ((a.getD 0 d0).ss == ([110,117,108,108]:List UInt8))]) fun v1 =>
 .ret [.b ((v1.getD 0 d0).bb)]
def Vz (R:Nat → List DC → Out) (n:Nat) (a:List DC):Out :=
 if (decide ((((a.getD 1 d0).ss).length:Int) ≥ (8:Int)))=true then
 (R 1 [.i (8:Int),.sl ((a.getD 3 d0).ll),.i ((a.getD 4 d0).ii),.i ((a.getD 5 d0).ii),.i ((a.getD 6 d0).ii),.i ((a.getD 7 d0).ii)]).bindR fun r1 =>
 .ret [.s ((a.getD 0 d0).ss),.s ((a.getD 1 d0).ss),.sl ((r1.getD 0 d0).ll),.i ((r1.getD 1 d0).ii),.i ((r1.getD 2 d0).ii),.i ((r1.getD 3 d0).ii),.i ((r1.getD 4 d0).ii)]
 else
 if ((a.getD 1 d0).ss).length + ((a.getD 2 d0).ss).length < jN then
 .ret [.s ((a.getD 0 d0).ss),.s (((a.getD 1 d0).ss) ++ ((a.getD 2 d0).ss)),.sl ((a.getD 3 d0).ll),.i (IntKind.i64.wrap ((a.getD 4 d0).ii + (1:Int))),.i ((a.getD 5 d0).ii),.i ((a.getD 6 d0).ii),.i ((a.getD 7 d0).ii)]
 else
 .fail
def yQ:List (Nat × Nat × Hint × Stp):=[(64,6,⟨os :: [],[]⟩,yZ),(1,19,⟨.one (.ptr 0 0) :: oi :: [],.var 53 [.sl 117,.i .i64,.i .i64,.i .i64,.i .i64] :: []⟩,Xv),(2,20,⟨.one (.ptr 0 0) :: [],.var 53 [.sl 117,.i .i64,.i .i64,.i .i64,.i .i64] :: []⟩,Vs),(0,18,⟨.one (.ptr 0 0) :: [],.var 53 [.sl 117,.i .i64,.i .i64,.i .i64,.i .i64] :: []⟩,KJ),(3,44,⟨.one (.ptr 0 0) :: [],.var 53 [.sl 117,.i .i64,.i .i64,.i .i64,.i .i64] :: []⟩,Z4),(6,41,⟨.one (.ptr 0 0) :: os :: [],.var 53 [.sl 117,.i .i64,.i .i64,.i .i64,.i .i64] :: []⟩,VB),(7,46,⟨.one (.ptr 0 0) :: [],.var 53 [.sl 117,.i .i64,.i .i64,.i .i64,.i .i64] :: []⟩,JJ),(5,45,⟨.one (.ptr 0 0) :: oi :: [],.var 53 [.sl 117,.i .i64,.i .i64,.i .i64,.i .i64] :: []⟩,KN),(9,48,⟨.one (.ptr 0 0) :: os :: [],.var 53 [.sl 117,.i .i64,.i .i64,.i .i64,.i .i64] :: []⟩,Vu),(8,47,⟨.one (.ptr 0 0) :: [],.var 53 [.sl 117,.i .i64,.i .i64,.i .i64,.i .i64] :: []⟩,JH),(4,40,⟨.one (.ptr 0 0) :: [],.var 53 [.sl 117,.i .i64,.i .i64,.i .i64,.i .i64] :: []⟩,KK),(10,42,⟨.one (.ptr 0 0) :: oi :: [],.var 53 [.sl 117,.i .i64,.i .i64,.i .i64,.i .i64] :: []⟩,VE),(11,43,⟨.one (.ptr 0 0) :: [],.var 53 [.sl 117,.i .i64,.i .i64,.i .i64,.i .i64] :: []⟩,KM),(12,75,⟨.one (.ptr 0 0) :: [],.var 53 [.sl 117,.i .i64,.i .i64,.i .i64,.i .i64] :: []⟩,VD),(13,77,⟨.one (.ptr 0 0) :: ob :: [],.var 53 [.sl 117,.i .i64,.i .i64,.i .i64,.i .i64] :: []⟩,JK),(14,78,⟨.one (.ptr 0 0) :: oi :: .one (.ptr 1 0) :: [],.var 53 [.sl 117,.i .i64,.i .i64,.i .i64,.i .i64] :: .var 3 [.i .i64] :: []⟩,Vw),(15,72,⟨.one (.ptr 0 0) :: os :: [],.var 53 [.sl 117,.i .i64,.i .i64,.i .i64,.i .i64] :: []⟩,Z3),(16,76,⟨.one (.ptr 0 0) :: [],.var 53 [.sl 117,.i .i64,.i .i64,.i .i64,.i .i64] :: []⟩,JI),(22,84,⟨.one (.ptr 0 0) :: os :: [],.var 53 [.sl 117,.i .i64,.i .i64,.i .i64,.i .i64] :: []⟩,Xu),(17,79,⟨.one (.ptr 0 0) :: os :: [],.var 53 [.sl 117,.i .i64,.i .i64,.i .i64,.i .i64] :: []⟩,VC),(25,87,⟨.agg [.i .i64,.b,.s,.s,.sl 9,.sl 135,.sl 140,.sl 143,.sl 102,.b,.sl 146] :: [],[]⟩,Xt),(21,83,⟨.one (.ptr 0 0) :: [],.var 53 [.sl 117,.i .i64,.i .i64,.i .i64,.i .i64] :: []⟩,zW),(18,80,⟨.one (.ptr 0 0) :: os :: os :: [],.var 53 [.sl 117,.i .i64,.i .i64,.i .i64,.i .i64] :: []⟩,Ke),(20,82,⟨.one (.ptr 0 0) :: os :: [],.var 53 [.sl 117,.i .i64,.i .i64,.i .i64,.i .i64] :: []⟩,Jb),(19,81,⟨.one (.ptr 0 0) :: [],.var 53 [.sl 117,.i .i64,.i .i64,.i .i64,.i .i64] :: []⟩,zU),(24,86,⟨.one (.ptr 0 0) :: [],.var 53 [.sl 117,.i .i64,.i .i64,.i .i64,.i .i64] :: []⟩,Ja),(23,85,⟨.one (.ptr 0 0) :: [],.var 53 [.sl 117,.i .i64,.i .i64,.i .i64,.i .i64] :: []⟩,zT),(26,73,⟨oi :: [],[]⟩,XD),(27,74,⟨oi :: [],[]⟩,Vt),(28,118,⟨.one (.ptr 0 0) :: ob :: [],.var 53 [.sl 117,.i .i64,.i .i64,.i .i64,.i .i64] :: []⟩,JL),(30,117,⟨.one (.ptr 0 0) :: ob :: oi :: [],.var 53 [.sl 117,.i .i64,.i .i64,.i .i64,.i .i64] :: []⟩,Qw),(29,116,⟨.one (.ptr 0 0) :: [],.var 53 [.sl 117,.i .i64,.i .i64,.i .i64,.i .i64] :: []⟩,VA),(31,119,⟨.one (.ptr 0 0) :: [],.var 53 [.sl 117,.i .i64,.i .i64,.i .i64,.i .i64] :: []⟩,KL),(32,120,⟨os :: [],[]⟩,VI),(33,121,⟨os :: [],[]⟩,j0d),(34,138,⟨.one (.ptr 0 0) :: .agg [.s,.s] :: os :: [],.var 53 [.sl 117,.i .i64,.i .i64,.i .i64,.i .i64] :: []⟩,Vz)]
end Go.Proofs.QV
