import Derived.Test.YtjmfjemandkfdacGreatDoorMZ1
import Derived.Laws.Tables
import Derived.Laws.StructEq
import Derived.Laws.BytesArg
import Derived.Laws.IdiomStrings
import Derived.Laws.Slices
/- The types' table; loads,stores and freezing,at the level of one run. -/
namespace Go.Proofs.QV
open Go
open _root_.Option.some renaming injEq → j5
open _root_.Prod.mk renaming injEq → jg
open _root_.Bool renaming and_eq_true → jj
open _root_.List renaming map_cons → jL, append_assoc → jO, length_append → j3, eq_nil_of_length_eq_zero → jY
open _root_.Nat renaming lt_or_ge → jA
def Yd:CT → Value
 | .b=>.bool false
 | .i k=>.int k 0
 | .s=>.string ⟨#[]⟩
 | .sl _=>.slice none 0 0
def j1n:TypeDesc → Bool
 | .struct _=>true
 | .array _ _=>true
 | _=>false
structure FldOk (P:Program) (n:Nat) (f:Go.Field) (x:Nat × Nat × Bool):Prop where
 off:f.offset=x.1
 size:∃ inf,P.info? f.type=some inf ∧ inf.size=x.2.1
 agg:∃ d,P.underlying f.type=some d ∧ j1n d=x.2.2
 fit:x.1 + x.2.1 ≤ n
def jdR (P:Program) (ti:TI):TypeDesc → Prop
 | .bool=>ti.kd = .bool ∧ ti.cts=[.b]
 | .int k=>ti.kd = .int k ∧ ti.cts=[.i k]
 | .string=>ti.kd = .str ∧ ti.cts=[.s]
 | .slice e=>ti.kd = .slice e ∧ ti.cts=[.sl e]
 | .struct fs=>ti.kd = .struct ∧ fs.size=ti.flds.length ∧ ∀ (j:Nat) (f:Go.Field) (x:Nat × Nat × Bool),fs[j]? = some f → ti.flds[j]? = some x → FldOk P ti.cts.length f x
 | _=>False
def jmz (P:Program) (t:Nat) (ti:TI):Prop :=
 ∀ (xs ys:List Value) (l m:List S) (r:Bool),ti.eq=true → KT l m=some r → Q0 ti.cts l=true → Q0 ti.cts m=true → (∀ (g:Gh) (H:List HS) (w:World) (ty:Nat → Option TI),zo ty g H w l xs → zo ty g H w m ys →
  xs.length=ti.cts.length → ys.length=ti.cts.length →
  (∀ (x y:Operand),(do eqGuard .eql t x y (.agg xs.toArray) (.agg ys.toArray); binOp .eql t (.agg xs.toArray) (.agg ys.toArray):Sem Value).run P w = .ok (.bool r) w ∧
   (do eqGuard .neq t x y (.agg xs.toArray) (.agg ys.toArray); binOp .neq t (.agg xs.toArray) (.agg ys.toArray):Sem Value).run P w = .ok (.bool (!r)) w))
structure TIok (P:Program) (t:Nat) (ti:TI):Prop where
 info:∃ inf z,P.info? t=some inf ∧ inf.size=ti.cts.length ∧ inf.bytes=ti.bytes ∧ inf.zero=some z ∧ z.cells=(ti.cts.map Yd).toArray
 kd:∃ d,P.underlying t=some d ∧ jdR P ti d
 zero1:kL (some ti)=false → ∃ inf,P.info? t=some inf ∧ inf.zero=some (Yd (ti.cts.headD .b))
 eq:jmz P t ti
def K9 (P:Program) (ty:Nat → Option TI):Prop:=∀ t ti,ty t=some ti → TIok P t ti
section
variable {P:Program} {ty:Nat → Option TI}
theorem Qz {t:Nat} {inf:TypeInfo} (h:P.info? t=some inf) (w:World):(sizeOf t).run P w = .ok inf.size w:=by
 simp [sizeOf,typeInfo,h]
theorem jbm {t:Nat} {inf:TypeInfo} {z:Value} (h:P.info? t=some inf) (hz:inf.zero=some z) (w:World):(zeroValue t).run P w = .ok z w:=by
 simp [zeroValue,typeInfo,h,hz]
theorem j39 {t:Nat} {d:TypeDesc} (h:P.underlying t=some d) (w:World):(isAgg t).run P w = .ok (j1n d) w:=by
 unfold isAgg
 rw [Sem.run_bind,run_underlying h]
 cases d <;> rfl
theorem TIok.struct {t:Nat} {ti:TI} (h:TIok P t ti):∃ d,P.underlying t=some d ∧ j1n d=kL (some ti):=by
 obtain ⟨d,hd,hk⟩:=h.kd
 refine ⟨d,hd,?_⟩
 cases d <;> simp [jdR,j1n,kL] at hk ⊢ <;> simp [hk]
theorem TIok.one {t:Nat} {ti:TI} (h:TIok P t ti) (hs:kL (some ti)=false):ti.cts.length=1:=by
 obtain ⟨d,hd,hk⟩:=h.kd
 cases d <;> simp [jdR] at hk <;> simp [kL,hk] at hs ⊢
theorem j7J {t:Nat} {ti:TI} (h:TIok P t ti) (w:World) (b off:Nat) (vs:List Value) (hl:vs.length=ti.cts.length)
  (hc:∀ (j:Nat) (v:Value),vs[j]? = some v → w.cell? ⟨b,off + j,none⟩=some v) :
  (loadVar t ⟨b,off,none⟩).run P w = .ok (if kL (some ti) then .agg vs.toArray else vs.headD undef) w:=by
 obtain ⟨d,hd,hs⟩:=h.struct
 obtain ⟨inf,z,hi,hsz,_⟩:=h.info
 unfold loadVar
 rw [Sem.run_bind,j39 hd,Result.andThen_ok,hs]
 cases hst:kL (some ti) with
 | true =>
  have hr:=run_loadCells_list (P:=P) w ⟨b,off,none⟩ vs (fun j v hj=>by rw [Addr.add_lit]; exact hc j v hj)
  rw [hl,← hsz] at hr
  simp [Qz hi,hr]
 | false =>
  have h1:=h.one hst
  match vs,hl with
  | [v],_ =>
   have:=hc 0 v rfl
   simp only [Nat.add_zero] at this
   simp [this]
  | [],hl=>simp [h1] at hl
  | _ :: _ :: _,hl=>simp [h1] at hl
theorem jd8 {t:Nat} {ti:TI} (h:TIok P t ti) (w:World) (b off:Nat) (e:TypeId) (cur:Array Value) (v:Value) (vs:List Value) (hv:v.cells=vs.toArray) (hl:vs.length=ti.cts.length)
  {fz:Nat × Nat} (hg:w.heap[b]? = some (.cells cur e fz)) (hfr:frE fz cur.size) (hfit:off + vs.length ≤ cur.size) (h1:∀ u ∈ vs,u.oneCell'=true) :
  (storeVar t ⟨b,off,none⟩ v).run P w = .ok () (w.setRow b (cur.toList.take off ++ vs ++ cur.toList.drop (off + vs.length)).toArray):=by
 obtain ⟨inf,z,hi,hsz,_⟩:=h.info
 have hst:=Kv P b off e fz vs 0 cur w hg hfr (by simpa using hfit) h1
 simp only [Nat.add_zero] at hst
 simp [storeVar,Qz hi,hv,hl,hsz,hst]
variable {A:An} {g:Gh} {tm:List C} {H:List HS} {a:Act} {w:World}
theorem Rel.read_fz (h:Rel ty A g ⟨tm,H⟩ a w) {id e:Nat} {l:List (List DC)} (hr:jJ H id = .live (.fz e l)) :
  ∃ F,RdC ty w (.sl e) (.sl l) (g.val id) F ∧ ∀ b ∈ F,g.I b:=h.ob id _ hr
theorem jj6 (h:Rel ty A g ⟨tm,H⟩ a w) {t:CT} {s:S} {v:Value} {d:DC} {H':List HS} (hs:SR ty g H w s v) (e:ZP H t s=some (d,H')) :
  ∃ g' F,Rel ty A g' ⟨tm,H'⟩ a w ∧ Ch g g' H H' w w ∧ RdC ty w t d v F ∧ ∀ b ∈ F,g'.I b:=by
 unfold ZP at e
 split at e
 ·simp only [j5,jg] at e
  obtain ⟨rfl,rfl⟩:=e
  exact ⟨g,[],h,.refl _ _ _,by rw [show v=_ from hs]; exact .b _,fun _ h=>by cases h⟩
 ·split at e
  ·rename_i hk
   simp only [j5,jg] at e
   obtain ⟨rfl,rfl⟩:=e
   subst hk
   exact ⟨g,[],h,.refl _ _ _,by rw [show v=_ from hs]; exact .i _ _,fun _ h=>by cases h⟩
  ·simp at e
 ·simp only [j5,jg] at e
  obtain ⟨rfl,rfl⟩:=e
  exact ⟨g,[],h,.refl _ _ _,by rw [show v=_ from hs]; exact .s _,fun _ h=>by cases h⟩
 ·split at e
  ·rename_i hk
   simp only [j5,jg] at e
   obtain ⟨rfl,rfl⟩:=e
   subst hk
   obtain ⟨F,h1,h2⟩:=hs
   exact ⟨g,F,h,.refl _ _ _,h1,h2⟩
  ·simp at e
 ·simp only [j5,jg] at e
  obtain ⟨rfl,rfl⟩:=e
  exact ⟨g,[],h,.refl _ _ _,by rw [show v=_ from hs]; exact .nil _ _ _,fun _ h=>by cases h⟩
 ·obtain ⟨hn,_,hv⟩:=hs
  split at e
  ·rename_i e2 l hr
   split at e
   ·rename_i hk
    simp only [j5,jg] at e
    obtain ⟨rfl,rfl⟩:=e
    subst hk
    obtain ⟨g',h1,h2,F,h3,h4⟩:=h.freeze hr
    have hval:=(h2.row _ hn ⟨e2,l,.inr (ke _ (py hr))⟩).2
    exact ⟨g',F,h1,h2,by rw [hv ⟨_,_,.inl hr⟩,← hval]; exact h3,h4⟩
   ·simp at e
  ·rename_i e2 l hr
   split at e
   ·rename_i hk
    simp only [j5,jg] at e
    obtain ⟨rfl,rfl⟩:=e
    subst hk
    obtain ⟨F,h3,h4⟩:=h.read_fz hr
    exact ⟨g,F,h,.refl _ _ _,by rw [hv ⟨_,_,.inr hr⟩]; exact h3,h4⟩
   ·simp at e
  ·simp at e
 ·simp at e
theorem j9f:∀ {ts:List CT} {ss:List S} {vs:List Value} {ds:List DC} {g:Gh} {H H':List HS},Rel ty A g ⟨tm,H⟩ a w → zo ty g H w ss vs → Js H ts ss=some (ds,H') →
  ∃ g' F,Rel ty A g' ⟨tm,H'⟩ a w ∧ Ch g g' H H' w w ∧ RdL ty w ts ds vs F ∧ ∀ b ∈ F,g'.I b
 | [],[],[],_,g,H,_,h,_,e=>by
  simp only [Js,j5,jg] at e
  obtain ⟨rfl,rfl⟩:=e
  exact ⟨g,[],h,.refl _ _ _,.nil,fun _ h=>by cases h⟩
 | t :: ts,s :: ss,v :: vs,ds,g,H,H',h,hs,e=>by
  simp only [Js] at e
  split at e
  ·rename_i d H1 e1
   split at e
   ·rename_i ds' H2 e2
    simp only [j5,jg] at e
    obtain ⟨rfl,rfl⟩:=e
    obtain ⟨g1,F,h1,c1,r1,i1⟩:=jj6 h hs.1 e1
    obtain ⟨g2,G,h2,c2,r2,i2⟩:=j9f h1 (hs.2.mono c1) e2
    refine ⟨g2,F ++ G,h2,c1.trans c2,.cons _ _ _ _ _ _ _ _ r1 r2,fun b hb=>?_⟩
    rcases List.mem_append.1 hb with hb | hb
    ·exact c2.I b (i1 b hb)
    ·exact i2 b hb
   ·simp at e
  ·simp at e
 | [],_ :: _,_,_,_,_,_,_,_,e=>by simp [Js] at e
 | _ :: _,[],_,_,_,_,_,_,_,e=>by simp [Js] at e
 | [],[],_ :: _,_,_,_,_,_,hs,_=>hs.elim
 | _ :: _,_ :: _,[],_,_,_,_,_,hs,_=>hs.elim
theorem jjh {t:CT} {d:DC} {v:Value} {F:List Nat} (h:RdC ty w t d v F) (hF:∀ b ∈ F,g.I b):SR ty g H w (jk7 t d) v:=by
 cases h with
 | b x=>rfl
 | i k n=>rfl
 | s l=>rfl
 | nil e a c=>exact ⟨[],.nil e a c,fun _ h=>by cases h⟩
 | sl e ti b off n cap l vs F h1 h0 h2 h3 h4 h5 h6=>exact ⟨_,.sl e ti b off n cap l vs F h1 h0 h2 h3 h4 h5 h6,hF⟩
theorem jez:∀ {ts:List CT} {ds:List DC} {vs:List Value} {F:List Nat} (x:List DC) (j:Nat),RdL ty w ts ds vs F → (∀ b ∈ F,g.I b) → (∀ i,i < ts.length → x.getD (j + i) d0=ds.getD i d0) →
  zo ty g H w (jcs ts x j) vs
 | _,_,_,_,_,_,.nil,_,_=>trivial
 | _,_,_,_,x,j,.cons t ts d ds v vs F G h1 h2,hF,hx=>by
  refine ⟨?_,?_⟩
  ·have:=hx 0 (by simp)
   simp only [Nat.add_zero,List.getD_cons_zero] at this
   rw [this]
   exact jjh h1 fun b hb=>hF b (by simp [hb])
  ·refine jez x (j + 1) h2 (fun b hb=>hF b (by simp [hb])) fun i hi=>?_
   have:=hx (i + 1) (by simp; omega)
   rw [show j + 1 + i=j + (i + 1) from by omega,this]
   simp
theorem CT.same_eq {x y:CT} (h:CT.same x y=true):x=y:=by
 cases x <;> cases y <;> simp [CT.same] at h <;> simp [h]
theorem CT.sameL_eq:∀ {x y:List CT},CT.sameL x y=true → x=y
 | [],[],_=>rfl
 | x :: l,y :: m,h=>by
  simp only [CT.sameL,jj] at h
  rw [CT.same_eq h.1,CT.sameL_eq h.2]
 | [],_ :: _,h=>by simp [CT.sameL] at h
 | _ :: _,[],h=>by simp [CT.sameL] at h
theorem RdL.drop:∀ {ts:List CT} {x:List DC} {vs:List Value} {F:List Nat} (n:Nat),RdL ty w ts x vs F → ∃ F',RdL ty w (ts.drop n) (x.drop n) (vs.drop n) F' ∧ ∀ b ∈ F',b ∈ F
 | _,_,_,_,n,.nil=>⟨[],by simp; exact .nil,fun _ h=>h⟩
 | _,_,_,_,0,.cons t ts x xs v vs F G h1 h2=>⟨F ++ G,.cons t ts x xs v vs F G h1 h2,fun _ h=>h⟩
 | _,_,_,_,n + 1,.cons t ts x xs v vs F G h1 h2=>by
  obtain ⟨F',h3,h4⟩:=RdL.drop n h2
  exact ⟨F',h3,fun b hb=>by simp [h4 b hb]⟩
theorem RdL.take:∀ {ts:List CT} {x:List DC} {vs:List Value} {F:List Nat} (n:Nat),RdL ty w ts x vs F → ∃ F',RdL ty w (ts.take n) (x.take n) (vs.take n) F' ∧ ∀ b ∈ F',b ∈ F
 | _,_,_,_,n,.nil=>⟨[],by simp; exact .nil,fun _ h=>h⟩
 | _,_,_,_,0,.cons t ts x xs v vs F G h1 h2=>⟨[],.nil,fun _ h=>by cases h⟩
 | _,_,_,_,n + 1,.cons t ts x xs v vs F G h1 h2=>by
  obtain ⟨F',h3,h4⟩:=RdL.take n h2
  refine ⟨F ++ F',.cons t _ x _ v _ _ _ h1 h3,fun b hb=>?_⟩
  rcases List.mem_append.1 hb with hb | hb
  ·simp [hb]
  ·simp [h4 b hb]
theorem jdd {ts us:List CT} {x:List DC} {vs:List Value} {F:List Nat} {off:Nat} (h:RdL ty w ts x vs F) (hF:∀ b ∈ F,g.I b) (he:(ts.drop off).take us.length=us) :
  zo ty g H w (jcs us x off) ((vs.drop off).take us.length) ∧ ((vs.drop off).take us.length).length=us.length:=by
 obtain ⟨F1,h1,i1⟩:=h.drop off
 obtain ⟨F2,h2,i2⟩:=h1.take us.length
 rw [he] at h2
 refine ⟨jez x off h2 (fun b hb=>hF b (i1 b (i2 b hb))) (fun i hi=>?_),h2.length.1⟩
 rw [List.getD_eq_getElem?_getD,List.getD_eq_getElem?_getD,List.getElem?_take,if_pos hi,List.getElem?_drop]
end
set_option linter.unusedVariables false
theorem kU {P:Program} {o:Oper} {a:Act} {w w':World} {K:Act → World → Prop} {Q:Exit → Act → World → Prop} {v:Value}
  (hr:(execOp a.eval o).run P w = .ok (.value v) w') (hk:K (a.put o.dst v) w'):o.wp P a w K Q:=by
 unfold Oper.wp
 rw [hr]
 exact hk
theorem jfi {P:Program} {o:Oper} {a:Act} {w w':World} {K:Act → World → Prop} {Q:Exit → Act → World → Prop}
  (hr:(execOp a.eval o).run P w = .ok .skip w') (hk:K (a.put o.dst undef) w'):o.wp P a w K Q:=by
 unfold Oper.wp
 rw [hr]
 exact hk
section
variable {P:Program} {ty:Nat → Option TI} {A:An} {g:Gh} {tm:List C} {H:List HS} {a:Act} {w:World} {o:Oper} {Q:Exit → Act → World → Prop}
def yn (ty:Nat → Option TI) (A:An) (g:Gh) (H:List HS) (w:World) (st':St) (a':Act) (w':World):Prop :=
 ∃ g',Rel ty A g' st' a' w' ∧ ∀ b,g.I b → g'.I b
theorem qe (h:Rel ty A g ⟨tm,H⟩ a w) {c:C} {v:Value} (hc:CR ty g H w c v):yn ty A g H w ⟨pf tm o.dst c,H⟩ (a.put o.dst v) w :=
 ⟨g,h.put o.dst hc,fun _ h=>h⟩
theorem SR.one {s:S} {v:Value} (h:SR ty g H w s v) (hd:s.isDef=true):v.oneCell'=true:=by
 cases s with
 | undef=>simp [S.isDef] at hd
 | nil=>rw [show v=_ from h]; rfl
 | bool b=>rw [show v=_ from h]; rfl
 | int k n=>rw [show v=_ from h]; rfl
 | str l=>rw [show v=_ from h]; rfl
 | sl e l=>obtain ⟨F,h1,_⟩:=h; exact h1.one
 | own id=>exact h.2.1
 | ptr id off=>exact h.2.1
 | fn f caps=>obtain ⟨vs,h1,_⟩:=h; rw [h1]; rfl
theorem jcr {v:Value} (h:v.oneCell'=true):v.cells = #[v]:=by
 cases v <;> first | rfl | simp [Value.oneCell'] at h
theorem zo.one:∀ {ss:List S} {vs:List Value},zo ty g H w ss vs → ss.all S.isDef=true → ∀ u ∈ vs,u.oneCell'=true
 | [],[],_,_=>fun _ h=>by cases h
 | s :: ss,v :: vs,⟨a,b⟩,hd=>fun u hu=>by
  simp only [List.all_cons,jj] at hd
  rcases List.mem_cons.1 hu with rfl | hu
  ·exact a.one hd.1
  ·exact zo.one b hd.2 u hu
 | [],_ :: _,h,_=>h.elim
 | _ :: _,[],h,_=>h.elim
theorem j66 {c:C} {v:Value} {ss:List S} (h:CR ty g H w c v) (e:c.cells=some ss) :
  ∃ vs:List Value,v.cells=vs.toArray ∧ zo ty g H w ss vs ∧ (∀ u ∈ vs,u.oneCell'=true) ∧ vs.length=ss.length:=by
 cases c with
 | one s =>
  simp only [C.cells] at e
  split at e
  ·rename_i hd
   simp only [j5] at e
   subst e
   have h1:=SR.one h hd
   exact ⟨[v],jcr h1,⟨h,trivial⟩,fun u hu=>by simp at hu; subst hu; exact h1,rfl⟩
  ·simp at e
 | agg l =>
  simp only [C.cells] at e
  split at e
  ·rename_i hd
   simp only [j5] at e
   subst e
   obtain ⟨vs,h1,h2⟩:=h
   exact ⟨vs,by rw [h1]; rfl,h2,h2.one hd,h2.length⟩
  ·simp at e
 | tup l=>simp [C.cells] at e
 | elS e x off=>simp [C.cells] at e
 | elO id ix e off=>simp [C.cells] at e
theorem zo.take:∀ {ss:List S} {vs:List Value} (n:Nat),zo ty g H w ss vs → zo ty g H w (ss.take n) (vs.take n)
 | [],[],n,_=>by simp [zo]
 | _ :: _,_ :: _,0,_=>trivial
 | _ :: _,_ :: _,n + 1,⟨a,b⟩=>⟨a,zo.take n b⟩
 | [],_ :: _,_,h=>h.elim
 | _ :: _,[],_,h=>h.elim
theorem zo.drop:∀ {ss:List S} {vs:List Value} (n:Nat),zo ty g H w ss vs → zo ty g H w (ss.drop n) (vs.drop n)
 | [],[],n,_=>by simp [zo]
 | _ :: _,_ :: _,0,h=>h
 | _ :: _,_ :: _,n + 1,⟨_,b⟩=>zo.drop n b
 | [],_ :: _,_,h=>h.elim
 | _ :: _,[],_,h=>h.elim
theorem zo.append:∀ {ss:List S} {vs:List Value} {ss':List S} {vs':List Value},zo ty g H w ss vs → zo ty g H w ss' vs' → zo ty g H w (ss ++ ss') (vs ++ vs')
 | [],[],_,_,_,h=>h
 | _ :: _,_ :: _,_,_,⟨a,b⟩,h=>⟨a,zo.append b h⟩
 | [],_ :: _,_,_,h,_=>h.elim
 | _ :: _,[],_,_,h,_=>h.elim
theorem zo.head {ss:List S} {vs:List Value} (h:zo ty g H w ss vs):SR ty g H w (ss.headD .undef) (vs.headD undef):=by
 match ss,vs,h with
 | [],[],_=>trivial
 | _ :: _,_ :: _,h=>exact h.1
theorem jiu {st:Bool} {ss:List S} {vs:List Value} (h:zo ty g H w ss vs):CR ty g H w (mkC st ss) (if st then .agg vs.toArray else vs.headD undef):=by
 cases st with
 | true=>exact ⟨vs,rfl,h⟩
 | false=>exact h.head
theorem jcc (x:Operand) (ho:o.op = .move x ∨ o.op = .assign x) (h:Rel ty A g ⟨tm,H⟩ a w) :
  o.wp P a w (yn ty A g H w ⟨pf tm o.dst (opd tm x),H⟩) Q:=by
 refine kU (v:=a.eval x) (w':=w) ?_ (qe h (h.opd x))
 rcases ho with ho | ho <;> simp [execOp,ho]
theorem jh9 (c x y:Operand) (ho:o.op = .pick c x y) (h:Rel ty A g ⟨tm,H⟩ a w) {b:Bool} {s t:S} (hc:opd tm c = .one (.bool b)) (hx:opd tm x = .one s) (hy:opd tm y = .one t) :
  o.wp P a w (yn ty A g H w ⟨pf tm o.dst (match jio b s t with | some r=>.one r | none=>if b=true then .one s else .one t),H⟩) Q:=by
 have rc:a.eval c = .bool b:=by have:=h.opd c; rw [hc] at this; exact this
 have rx:=h.opd x
 have ry:=h.opd y
 rw [hx] at rx
 rw [hy] at ry
 refine kU (v:=if b=true then a.eval x else a.eval y) (w':=w) (by simp [execOp,ho,rc,asBool]) (qe h ?_)
 unfold jio
 split
 ·rename_i r hr
  split at hr
  ·rename_i p q
   simp only [j5] at hr
   subst hr
   rw [show a.eval x=_ from rx,show a.eval y=_ from ry]
   cases b <;> rfl
  ·rename_i k p k' q
   split at hr
   ·rename_i hk
    simp only [j5] at hr
    subst hr
    subst hk
    rw [show a.eval x=_ from rx,show a.eval y=_ from ry]
    cases b <;> rfl
   ·simp at hr
  ·rename_i p q
   simp only [j5] at hr
   subst hr
   rw [show a.eval x=_ from rx,show a.eval y=_ from ry]
   cases b <;> rfl
  ·simp at hr
 ·cases b
  ·exact ry
  ·exact rx
theorem jfA (c x y:Operand) (ho:o.op = .pick c x y) (h:Rel ty A g ⟨tm,H⟩ a w) {b:Bool} (hc:opd tm c = .one (.bool b)) :
  o.wp P a w (yn ty A g H w ⟨pf tm o.dst (if b=true then opd tm x else opd tm y),H⟩) Q:=by
 have rc:a.eval c = .bool b:=by have:=h.opd c; rw [hc] at this; exact this
 refine kU (v:=if b=true then a.eval x else a.eval y) (w':=w) (by simp [execOp,ho,rc,asBool]) (qe h ?_)
 cases b
 ·exact h.opd y
 ·exact h.opd x
theorem jcK (h:Rel ty A g ⟨tm,H⟩ a w) {base t:Nat} {ss:List S} {vs:List Value} (hf:jJ H base = .free) (hs:zo ty g H w ss vs) (h1:∀ u ∈ vs,u.oneCell'=true) :
  yn ty A g H w ⟨pf tm o.dst (.one (.ptr base 0)),kk H base (.live (.var t ss))⟩ (a.put o.dst (.pointer (some ⟨w.heap.size,0,none⟩))) (w.alloc (.cells vs.toArray t)):=by
 obtain ⟨g',r,c,_,hb,hI⟩:=h.new (o:=.var t ss) (obj:=.cells vs.toArray t) hf undef fun g' hv hb hI c=>by
  refine ⟨⟨vs,by rw [hb]; exact heap_alloc_new w _,hs.mono c,?_,h1⟩,fun b hb'=>by simp only [kX,j5] at hb'; rw [← hb',hb]⟩
  rw [hb,hI]
  intro hi
  exact absurd (h.lt _ hi) (Nat.lt_irrefl _)
 refine ⟨g',r.put o.dst (c:=.one (.ptr base 0)) ⟨?_,rfl,fun _=>by rw [hb]⟩,c.I⟩
 exact KR (ke _ (zh hf))
theorem j94:∀ (ts:List CT),zo ty g H w (ts.map jdU) (ts.map Yd) ∧ ∀ u ∈ ts.map Yd,u.oneCell'=true
 | []=>⟨trivial,fun _ h=>by cases h⟩
 | t :: ts=>by
  obtain ⟨h1,h2⟩:=j94 ts
  refine ⟨⟨?_,h1⟩,fun u hu=>?_⟩
  ·cases t <;> rfl
  ·simp only [jL,List.mem_cons] at hu
   rcases hu with rfl | hu
   ·cases t <;> rfl
   ·exact h2 u (by simpa using hu)
theorem jfE (hty:K9 P ty) (t base:Nat) (ti:TI) (ho:o.op = .alloc t) (h:Rel ty A g ⟨tm,H⟩ a w) (ht:ty t=some ti) (hf:jJ H base = .free) :
  o.wp P a w (yn ty A g H w ⟨pf tm o.dst (.one (.ptr base 0)),kk H base (.live (.var t (ti.cts.map jdU)))⟩) Q:=by
 obtain ⟨inf,z,hi,hsz,hby,hz,hzc⟩:=(hty t ti ht).info
 obtain ⟨h1,h2⟩:=j94 (ty:=ty) (g:=g) (H:=H) (w:=w) ti.cts
 refine kU (v:=.pointer (some ⟨w.heap.size,0,none⟩)) (w':=w.alloc (.cells (ti.cts.map Yd).toArray t)) ?_ (jcK h hf h1 h2)
 simp [execOp,ho,Instr.alloc,jbm hi hz,newVar,newRow,hzc]
theorem ji4 (t base:Nat) (ss:List S) (x:Operand) (ho:o.op = .box t x) (h:Rel ty A g ⟨tm,H⟩ a w) (hx:(opd tm x).cells=some ss) (hf:jJ H base = .free) :
  o.wp P a w (yn ty A g H w ⟨pf tm o.dst (.one (.ptr base 0)),kk H base (.live (.var t ss))⟩) Q:=by
 obtain ⟨vs,h1,h2,h3,_⟩:=j66 (h.opd x) hx
 refine kU (v:=.pointer (some ⟨w.heap.size,0,none⟩)) (w':=w.alloc (.cells vs.toArray t)) ?_ (jcK h hf h2 h3)
 simp [execOp,ho,Instr.box,newVar,newRow,h1]
theorem List.getElem?_drop_take {α:Type} (l:List α) (off n j:Nat) (hj:j < n):((l.drop off).take n)[j]? = l[off + j]?:=by
 rw [List.getElem?_take,if_pos hj,List.getElem?_drop]
theorem jha (hty:K9 P ty) (t:Nat) (x:Operand) (ho:o.op = .load t x) (h:Rel ty A g ⟨tm,H⟩ a w) {c:Cls} {v:C}
  (e:Vr (ρ:=Option (Cls × C)) ty none t ⟨tm,H⟩ (opd tm x) (fun c v=>some (c,v))=some (c,v)) :
  o.wp P a w (yn ty A g H w ⟨pf tm o.dst v,H⟩) Q:=by
 unfold Vr at e
 have hx:=h.opd x
 split at e
 ·simp at e
 ·rename_i ti ht
  have htk:=hty t ti ht
  have fin:∀ (b off:Nat) (vs:List Value) (ss:List S),a.eval x = .pointer (some ⟨b,off,none⟩) → vs.length=ti.cts.length → (∀ (j:Nat) (u:Value),vs[j]? = some u → w.cell? ⟨b,off + j,none⟩=some u) →
    zo ty g H w ss vs → v=mkC (kL (some ti)) ss → o.wp P a w (yn ty A g H w ⟨pf tm o.dst v,H⟩) Q:=by
   intro b off vs ss hp hl hc hs hv
   refine kU (v:=if kL (some ti) then .agg vs.toArray else vs.headD undef) (w':=w) ?_ (qe h (by rw [hv]; exact jiu hs))
   simp [execOp,ho,Instr.loadAt,hp,Instr.sureAddr,j7J htk w b off vs hl hc]
  split at e
  ·rename_i id off hid
   rw [hid] at hx
   split at e
   ·rename_i t' cs hv
    split at e
    ·rename_i hfit
     simp only [j5,jg] at e
     obtain ⟨vs,h1,h2,_⟩:=h.ob id _ hv
     have hlen:=h2.length
     refine fin (g.blk id) off ((vs.drop off).take ti.cts.length) _ (hx.2.2 ⟨_,_,hv⟩) (by simp; omega) (fun j u hu=>?_) ((h2.drop off).take ti.cts.length) e.2.symm
     have hj:j < ti.cts.length:=by
      rcases jA j ti.cts.length with h' | h'
      ·exact h'
      ·rw [List.getElem?_take,if_neg (by omega)] at hu; simp at hu
     rw [List.getElem?_drop_take _ _ _ _ hj] at hu
     simp [World.cell?,h1,hu]
    ·simp at e
   ·simp at e
  ·rename_i el y off hid
   rw [hid] at hx
   split at e
   ·rename_i te hte
    split at e
    ·rename_i hsame
     simp only [j5,jg] at e
     obtain ⟨ti',b,o',vs,F,h1,h2,h3,h4,h5,h6⟩:=hx
     obtain rfl:te=ti':=by rw [hte] at h1; exact Option.some.inj h1
     obtain ⟨p1,p2⟩:=jdd (H:=H) h4 h5 (CT.sameL_eq hsame)
     refine fin b (o' + off) _ _ h2 p2 (fun j u hu=>?_) p1 e.2.symm
     have hj:j < ti.cts.length:=by
      rcases jA j ti.cts.length with h' | h'
      ·exact h'
      ·rw [List.getElem?_take,if_neg (by omega)] at hu; simp at hu
     rw [List.getElem?_drop_take _ _ _ _ hj] at hu
     rw [Nat.add_assoc]
     exact h3 _ u hu
    ·simp at e
   ·simp at e
  ·rename_i el id ix off hid
   rw [hid] at hx
   split at e
   ·rename_i te e' l hte hrow
    split at e
    ·rename_i hc
     obtain ⟨hee,hsame⟩:=hc
     simp only [j5,jg] at e
     subst hee
     obtain ⟨ti',b,len,cap,h1,h2,h3,h4⟩:=hx.2 ⟨_,_,.inl hrow⟩
     obtain rfl:te=ti':=by rw [hte] at h1; exact Option.some.inj h1
     obtain ⟨ti'',vs,F,k1,k0,k2,k3,k4,k5⟩:=h.ob id _ hrow
     obtain rfl:te=ti'':=by rw [hte] at k1; exact Option.some.inj k1
     have hlen:l.length=len:=by
      rcases k2.2 with ⟨hv,_⟩ | ⟨_,_,_,hv,_⟩
      ·rw [h2] at hv; simp at hv
      ·rw [h2] at hv; simp at hv; exact hv.2.1.symm
     obtain ⟨u,G,q1,q2,q3⟩:=k3.at ix (by omega)
     obtain ⟨p1,p2⟩:=jdd (H:=H) q1 (fun b hb=>k4 b (q2 b hb)) (CT.sameL_eq hsame)
     refine fin b (ix * te.cts.length + off) _ _ h4 p2 (fun j x hu=>?_) p1 e.2.symm
     have hj:j < ti.cts.length:=by
      rcases jA j ti.cts.length with h' | h'
      ·exact h'
      ·rw [List.getElem?_take,if_neg (by omega)] at hu; simp at hu
     rw [List.getElem?_drop_take _ _ _ _ hj] at hu
     have hjl:off + j < te.cts.length:=by
      have:=(RdL.length q1).1
      rcases jA (off + j) u.length with h' | h'
      ·omega
      ·simp [List.getElem?_eq_none h'] at hu
     have hk:ix * te.cts.length + off + j < l.length * te.cts.length:=by
      have:=Nat.mul_le_mul_right te.cts.length (show ix + 1 ≤ l.length by omega)
      rw [Nat.succ_mul] at this
      omega
     rw [Ys (w:=w) (g:=b) (n:=l.length) (cap:=cap) (xs:=vs) (base:=0) (e:=e') (size:=te.cts.length) (by rw [hlen,← h2,← hlen]; exact k2) _ hk,Nat.add_assoc,q3 _ hjl]
     exact hu
    ·simp at e
   ·rename_i te e' l hte hrow
    split at e
    ·rename_i hc
     obtain ⟨hee,hsame⟩:=hc
     simp only [j5,jg] at e
     subst hee
     obtain ⟨ti',b,len,cap,h1,h2,h3,h4⟩:=hx.2 ⟨_,_,.inr hrow⟩
     obtain rfl:te=ti':=by rw [hte] at h1; exact Option.some.inj h1
     obtain ⟨F,k2,k4⟩:=h.ob id _ hrow
     rw [h2] at k2
     cases k2 with
     | nil=>omega
     | sl _ ti'' _ _ _ _ _ vs F k1 k0 kn kne kcap kc k3 =>
      obtain rfl:te=ti'':=by rw [hte] at k1; exact Option.some.inj k1
      obtain ⟨u,G,q1,q2,q3⟩:=k3.at ix (by omega)
      obtain ⟨p1,p2⟩:=jdd (H:=H) q1 (fun c hb=>k4 c (by simp [q2 c hb])) (CT.sameL_eq hsame)
      refine fin b (ix * te.cts.length + off) _ _ h4 p2 (fun j x hu=>?_) p1 e.2.symm
      have hj:j < ti.cts.length:=by
       rcases jA j ti.cts.length with h' | h'
       ·exact h'
       ·rw [List.getElem?_take,if_neg (by omega)] at hu; simp at hu
      rw [List.getElem?_drop_take _ _ _ _ hj] at hu
      have hjl:off + j < te.cts.length:=by
       have:=(RdL.length q1).1
       rcases jA (off + j) u.length with h' | h'
       ·omega
       ·simp [List.getElem?_eq_none h'] at hu
      have:=kc (ix * te.cts.length + (off + j)) x (by rw [q3 _ hjl]; exact hu)
      rw [Nat.zero_add] at this
      rw [Nat.add_assoc]
      exact this
    ·simp at e
   ·simp at e
  ·simp at e
end
section
variable {P:Program} {ty:Nat → Option TI} {A:An} {g:Gh} {tm:List C} {H:List HS} {a:Act} {w:World} {o:Oper} {Q:Exit → Act → World → Prop}
theorem j1k (h:Rel ty A g ⟨tm,H⟩ a w) {id i b:Nat} {x p:Obj'} (hi:jJ H id = .live x) (hb:kX g id x=some b) (hne:i ≠ id) (hp:jJ H i = .live p):kX g i p ≠ some b :=
 fun hk=>h.sep i id p x b hne hp hi hk hb
theorem X1 (h:Rel ty A g ⟨tm,H⟩ a w) {id b:Nat} {x:Obj'} (hi:jJ H id = .live x) (hb:kX g id x=some b):¬ g.I b:=by
 cases x with
 | var t cs=>obtain ⟨_,_,_,k,_⟩:=h.ob id _ hi; simp only [kX,j5] at hb; subst hb; exact k
 | row e l=>obtain ⟨_,_,_,_,_,_,_,_,k⟩:=h.ob id _ hi; exact k b hb
 | fz e l=>simp [kX] at hb
theorem jgE {A:An} {b c:Nat} {x:Obj'} (h:jiq A b x) (hc:c < A.w0.heap.size) (hv:¬ A.Pv c) (hm:¬ A.Pm c):c ≠ b:=by
 rintro rfl
 cases x <;> simp only [jiq] at h <;> rcases h with h | h <;> first | omega | exact hv h | exact hm h
theorem Rel.setVar (h:Rel ty A g ⟨tm,H⟩ a w) {id t off:Nat} {cs ss:List S} {vs:List Value} (hv:jJ H id = .live (.var t cs)) (hs:zo ty g H w ss vs) (h1:∀ u ∈ vs,u.oneCell'=true)
  (hfit:off + ss.length ≤ cs.length):∃ cur,w.heap[g.blk id]? = some (.cells cur t (0,0)) ∧ cur.size=cs.length ∧
   Rel ty A g ⟨tm,kk H id (.live (.var t (j2g cs off ss)))⟩ a (w.setRow (g.blk id) (cur.toList.take off ++ vs ++ cur.toList.drop (off + vs.length)).toArray):=by
 obtain ⟨us,k1,k2,k3,k4⟩:=h.ob id _ hv
 have hlen:=k2.length
 have hsl:=hs.length
 refine ⟨us.toArray,k1,by simp [hlen],(h.upd (id:=id) (g':=g) (x:=.live (.var t (j2g cs off ss))) (py hv) (by simp) rfl (fun _ _=>⟨rfl,rfl⟩) (fun _ hr=>?_) (fun _ hr=>⟨⟨_,_,hv⟩,rfl⟩) (fun b hb=>?_) ?_ (fun c o ho=>?_) (fun hm hr=>h.pb id hm ⟨_,_,hv⟩) ?_).1⟩
 ·obtain ⟨e,l,hr⟩:=hr; simp [ke _ (py hv)] at hr
 ·refine setRow_other _ _ _ _ ?_
  rintro rfl
  rcases hb with hb | ⟨i,p,hne,hi,hb⟩
  ·exact k3 hb
  ·exact j1k h hv rfl hne hi hb
 ·simp [World.setRow]
 ·obtain rfl:Obj'.var t (j2g cs off ss)=o:=by simpa using ho
  refine ⟨⟨us.take off ++ vs ++ us.drop (off + vs.length),setRow_heap _ _ _ _ _ _ k1,?_,k3,fun u hu=>?_⟩,fun b hb=>?_⟩
  ·have:=(k2.take off).append (hs.append (k2.drop (off + ss.length)))
   have:=zo.mono c this
   rw [jO]
   rw [← hsl] at this
   simpa [j2g,hsl] using this
  ·simp only [List.mem_append] at hu
   rcases hu with (hu | hu) | hu
   ·exact k4 u (List.mem_of_mem_take hu)
   ·exact h1 u hu
   ·exact k4 u (List.mem_of_mem_drop hu)
  ·simp only [kX,j5] at hb
   subst hb
   exact ⟨k3,h.ow id (.var t cs) _ hv rfl,fun i p hne hi=>j1k h hv rfl hne hi⟩
 ·refine h.keep.trans rfl rfl rfl (by simp [World.setRow]) fun b hb hp hm=>setRow_other _ _ _ _ (jgE (h.ow id _ _ hv rfl) hb hp hm)
theorem jiv {α:Type} (P u R:List α) (off:Nat) (new:List α) (h:off + new.length ≤ u.length) :
  (P ++ (u ++ R)).take (P.length + off) ++ (new ++ (P ++ (u ++ R)).drop (P.length + off + new.length))=P ++ ((u.take off ++ (new ++ u.drop (off + new.length))) ++ R):=by
 have e1:(P ++ (u ++ R)).take (P.length + off)=P ++ u.take off:=by
  rw [List.take_append,List.take_of_length_le (by omega),Nat.add_sub_cancel_left,List.take_append,show off - u.length=0 by omega]
  simp
 have e2:(P ++ (u ++ R)).drop (P.length + off + new.length)=u.drop (off + new.length) ++ R:=by
  rw [List.drop_append,List.drop_of_length_le (by omega),show P.length + off + new.length - P.length=off + new.length by omega,List.drop_append,show off + new.length - u.length=0 by omega]
  simp
 rw [e1,e2]
 simp
theorem jhU {α:Type} (X vs:List α) (m p:Nat) (h:p + vs.length ≤ m) (hm:m ≤ X.length) :
  (X.take p ++ vs ++ X.drop (p + vs.length)).take m=(X.take m).take p ++ (vs ++ (X.take m).drop (p + vs.length)):=by
 apply List.ext_getElem?
 intro j
 rw [jO,List.getElem?_take]
 by_cases h1:j < p
 ·rw [if_pos (by omega),List.getElem?_append_left (by simp; omega),List.getElem?_append_left (by simp; omega),List.getElem?_take,if_pos h1,List.getElem?_take,if_pos h1,List.getElem?_take,if_pos (by omega)]
 ·have hp:(X.take p).length=p:=by simp; omega
  have hp':((X.take m).take p).length=p:=by simp; omega
  by_cases h2:j < p + vs.length
  ·rw [if_pos (by omega),List.getElem?_append_right (by omega),List.getElem?_append_left (by omega),List.getElem?_append_right (by omega),List.getElem?_append_left (by omega),hp,hp']
  ·by_cases h3:j < m
   ·rw [if_pos h3,List.getElem?_append_right (by omega),List.getElem?_append_right (by omega),List.getElem?_append_right (by omega),List.getElem?_append_right (by omega),hp,hp',
     List.getElem?_drop,List.getElem?_drop,List.getElem?_take,if_pos (by omega)]
   ·rw [if_neg h3,List.getElem?_eq_none]
    simp
    omega
theorem Rel.setElem (h:Rel ty A g ⟨tm,H⟩ a w) {id e ix off:Nat} {te:TI} {l:List (List DC)} {ts:List CT} {ds:List DC} {vs:List Value} {F:List Nat} (hte:ty e=some te)
  (hr:jJ H id = .live (.row e l)) (hd:RdL ty w ts ds vs F) (hF:∀ b ∈ F,g.I b) (hts:(te.cts.drop off).take ts.length=ts) (hix:ix < l.length) (h0:0 < ts.length)
  {b len cap:Nat} (hval:g.val id = .slice (some ⟨b,0,none⟩) len cap) :
  ∃ cur,(∃ fz,w.heap[b]? = some (.cells cur e fz) ∧ frE fz cur.size) ∧ ix * te.cts.length + off + vs.length ≤ cur.size ∧
   Rel ty A g ⟨tm,kk H id (.live (.row e (l.set ix (pS (l.getD ix []) off ds))))⟩ a
    (w.setRow b (cur.toList.take (ix * te.cts.length + off) ++ vs ++ cur.toList.drop (ix * te.cts.length + off + vs.length)).toArray):=by
 obtain ⟨te',us,G,k1,k0,k2,k3,k4,k5⟩:=h.ob id _ hr
 obtain rfl:te=te':=by rw [hte] at k1; exact Option.some.inj k1
 have hvl:=hd.length
 have hsub:off + ts.length ≤ te.cts.length:=by
  have:=congrArg List.length hts
  simp at this
  omega
 obtain ⟨u,G1,q1,q2,q3⟩:=k3.at ix hix
 have hul:=q1.length
 have hmul:ix * te.cts.length + te.cts.length ≤ l.length * te.cts.length:=by
  have:=Nat.mul_le_mul_right te.cts.length (show ix + 1 ≤ l.length by omega)
  rw [Nat.succ_mul] at this
  exact this
 have husl:=k3.length
 obtain ⟨F1,r1,i1⟩:=q1.take off
 obtain ⟨F2,r2,i2⟩:=q1.drop (off + ts.length)
 have hrow:∃ F3,RdL ty w te.cts (pS (l.getD ix []) off ds) (u.take off ++ (vs ++ u.drop (off + vs.length))) F3 ∧ ∀ c ∈ F3,g.I c:=by
  refine ⟨F1 ++ (F ++ F2),?_,fun c hc=>?_⟩
  ·have:=r1.append (hd.append r2)
   have e:te.cts.take off ++ (ts ++ te.cts.drop (off + ts.length))=te.cts:=by
    rw [← hts,List.length_take,List.length_drop,Nat.min_eq_left (by omega),← List.drop_drop,List.take_append_drop,List.take_append_drop]
   rw [e] at this
   simpa [pS,hvl.1,hvl.2] using this
  ·simp only [List.mem_append] at hc
   rcases hc with hc | hc | hc
   ·exact k4 c (q2 c (i1 c hc))
   ·exact hF c hc
   ·exact k4 c (q2 c (i2 c hc))
 obtain ⟨F3,hrow,hF3⟩:=hrow
 obtain ⟨F4,hset,i4⟩:=k3.set ix _ _ _ hrow hix
 have huR:us=us.take (ix * te.cts.length) ++ (u ++ us.drop (ix * te.cts.length + te.cts.length)):=by
  apply List.ext_getElem?
  intro j
  by_cases h1:j < ix * te.cts.length
  ·rw [List.getElem?_append_left (by simp; omega),List.getElem?_take,if_pos h1]
  ·rw [List.getElem?_append_right (by simp; omega),List.length_take,Nat.min_eq_left (by omega)]
   by_cases h2:j - ix * te.cts.length < te.cts.length
   ·rw [List.getElem?_append_left (by omega),← q3 _ h2]
    congr 1
    omega
   ·rw [List.getElem?_append_right (by omega),List.getElem?_drop]
    congr 1
    omega
 have hmid:=jiv (us.take (ix * te.cts.length)) u (us.drop (ix * te.cts.length + te.cts.length)) off vs (by omega)
 rw [List.length_take,Nat.min_eq_left (by omega),← huR] at hmid
 rcases k2.2 with ⟨hv,_⟩ | ⟨k,cap',cur,hv,hk,hg,hnc,hcm,hcs,htake⟩
 ·rw [hval] at hv; simp at hv
 ·rw [hval] at hv
  simp only [Value.slice.injEq,j5,Addr.mk.injEq,and_true] at hv
  obtain ⟨rfl,rfl,rfl⟩:=hv
  have hcap:l.length * te.cts.length ≤ cap * te.cts.length:=Nat.mul_le_mul_right _ hnc
  refine ⟨cur,hg,by omega,(h.upd (id:=id) (g':=g) (x:=.live (.row e _)) (py hr) (by simp) rfl (fun _ _=>⟨rfl,rfl⟩) (fun _ _=>⟨⟨_,_,.inl hr⟩,rfl⟩) (fun _ hx=>?_) (fun c hc=>?_) ?_ (fun ch x hx=>?_) (fun hm hx=>?_) ?_).1⟩
  ·obtain ⟨t,cs,hx⟩:=hx; simp [ke _ (py hr)] at hx
  ·refine setRow_other _ _ _ _ ?_
   rintro rfl
   rcases hc with hc | ⟨i,p,hne,hi,hc⟩
   ·exact k5 c (by rw [hval]; rfl) hc
   ·exact j1k h hr (show kX g id (.row e l)=some c by simp only [kX,hval]; rfl) hne hi hc
  ·simp [World.setRow]
  ·obtain rfl:Obj'.row e (l.set ix (pS (l.getD ix []) off ds))=x:=by simpa using hx
   refine ⟨⟨te,_,F4,hte,k0,?_,hset.frame fun c hc=>?_,fun c hc=>?_,k5⟩,fun c hc=>?_⟩
   ·rw [hval]
    refine ⟨?_,.inr ⟨b,cap,_,?_,Nat.zero_le _,⟨_,setRow_heap _ _ _ _ _ _ hg.choose_spec.1,?_⟩,?_,hcm,?_,?_⟩⟩
    ·have:=hset.length; exact this
    ·simp
    ·simp only [List.size_toArray,j3,List.length_take,List.length_drop,Array.length_toList]
     rw [show min (ix * te.cts.length + off) cur.size + vs.length + (cur.size - (ix * te.cts.length + off + vs.length))=cur.size by omega]
     exact hg.choose_spec.2
    ·simpa using hnc
    ·simp only [List.size_toArray,j3,List.length_take,List.length_drop,Array.length_toList]
     omega
    ·rw [List.length_set,← hmid,← htake]
     exact jhU _ _ _ _ (by omega) (by simp; omega)
   ·refine ch.Iw _ ?_
    rcases i4 c hc with hc | hc
    ·exact k4 c hc
    ·exact hF3 c hc
   ·rcases i4 c hc with hc | hc
    ·exact k4 c hc
    ·exact hF3 c hc
   ·exact ⟨X1 h hr (show kX g id (.row e l)=some c from hc),h.ow id (.row e l) _ hr hc,fun i p hne hi=>j1k h hr (show kX g id (.row e l)=some c from hc) hne hi⟩
  ·obtain ⟨t,cs,hx⟩:=hx; simp [ke _ (py hr)] at hx
  ·refine h.keep.trans rfl rfl rfl (by simp [World.setRow]) fun c hc hp hm=>setRow_other _ _ _ _ (jgE (h.ow id (.row e l) b hr (by simp only [kX,hval]; rfl)) hc hp hm)
theorem jfy (hty:K9 P ty) (t:Nat) (x y:Operand) (ho:o.op = .store t x y) (hd:o.dst=none) (h:Rel ty A g ⟨tm,H⟩ a w) {H':List HS}
  (e:Jd (ρ:=Option (List HS)) ty none t ⟨tm,H⟩ (opd tm x) (opd tm y) (fun H=>some H)=some H') :
  o.wp P a w (yn ty A g H w ⟨tm,H'⟩) Q:=by
 unfold Jd at e
 have hx:=h.opd x
 have hy:=h.opd y
 split at e
 ·rename_i ti ss ht hss
  have htk:=hty t ti ht
  obtain ⟨vs,v1,v2,v3,v4⟩:=j66 hy hss
  split at e
  ·rename_i hlen
   have fin:∀ (b off:Nat) (e':TypeId) (cur:Array Value) (g':Gh) (H2:List HS),a.eval x = .pointer (some ⟨b,off,none⟩) → (∃ fz,w.heap[b]? = some (.cells cur e' fz) ∧ frE fz cur.size) → off + vs.length ≤ cur.size →
     (∀ k,g.I k → g'.I k) → Rel ty A g' ⟨tm,H2⟩ a (w.setRow b (cur.toList.take off ++ vs ++ cur.toList.drop (off + vs.length)).toArray) → H2=H' → o.wp P a w (yn ty A g H w ⟨tm,H'⟩) Q:=by
    intro b off e' cur g' H2 hp hg hfit hI hrel hH
    subst hH
    obtain ⟨fz,hg,hfr⟩:=hg
    refine jfi (w':=w.setRow b (cur.toList.take off ++ vs ++ cur.toList.drop (off + vs.length)).toArray) ?_ ⟨g',by rw [hd]; exact hrel,hI⟩
    simp [execOp,ho,Instr.storeAt,hp,Instr.sureAddr,jd8 htk w b off e' cur (a.eval y) vs v1 (by rw [v4]; exact hlen.1) hg hfr hfit v3]
   split at e
   ·rename_i id off hid
    rw [hid] at hx
    split at e
    ·rename_i t' cs hv
     split at e
     ·rename_i hfit
      obtain ⟨cur,k1,k2,k3⟩:=h.setVar hv v2 v3 hfit
      exact fin _ off _ cur g _ (hx.2.2 ⟨_,_,hv⟩) ⟨_,k1,.inl rfl⟩ (by omega) (fun _ h=>h) k3 (by simpa using e)
     ·simp at e
    ·simp at e
   ·rename_i el id ix off hid
    rw [hid] at hx
    split at e
    ·rename_i te ds H1 hte hds
     split at e
     ·rename_i hsame
      split at e
      ·rename_i e' l hrow
       split at e
       ·rename_i hee
        subst hee
        obtain ⟨g1,F,r1,c1,d1,i1⟩:=j9f h v2 hds
        have hx1:=CR.mono c1 hx
        obtain ⟨ti',b,len,cap,h1,h2,h3,h4⟩:=hx1.2 ⟨_,_,.inl hrow⟩
        obtain rfl:te=ti':=by rw [hte] at h1; exact Option.some.inj h1
        have hll:l.length=len:=by
         obtain ⟨_,_,_,_,_,k2,_⟩:=r1.ob id _ hrow
         rcases k2.2 with ⟨hv,_⟩ | ⟨_,_,_,hv,_⟩
         ·rw [h2] at hv; simp at hv
         ·rw [h2] at hv; simp at hv; exact hv.2.1.symm
        have hixl:ix < l.length:=by omega
        have h0:0 < ti.cts.length:=by omega
        obtain ⟨cur,k1,k2,k3⟩:=r1.setElem hte hrow d1 i1 (CT.sameL_eq hsame) hixl h0 h2
        exact fin b _ _ cur g1 _ h4 k1 k2 c1.I k3 (by simpa using e)
       ·simp at e
      ·simp at e
     ·simp at e
    ·simp at e
   ·simp at e
  ·simp at e
 ·simp at e
end
section
variable {P:Program} {ty:Nat → Option TI} {A:An} {g:Gh} {tm:List C} {H:List HS} {a:Act} {w:World} {o:Oper} {Q:Exit → Act → World → Prop}
theorem jf0 (op:BinOp) (t:TypeId) (x y:Operand) (k:IntKind) (n:Int) (v:Value):(eqGuard op t x y (.int k n) v).run P w = .ok () w:=by
 unfold eqGuard
 cases op <;> simp
theorem jeZ (op:BinOp) (t:TypeId) (x y:Operand) (s:ByteArray) (v:Value):(eqGuard op t x y (.string s) v).run P w = .ok () w:=by
 unfold eqGuard
 cases op <;> simp
theorem jdK (op:BinOp) (t:TypeId) (x y:Operand) (s:Bool) (v:Value):(eqGuard op t x y (.bool s) v).run P w = .ok () w:=by
 unfold eqGuard
 cases op <;> simp
theorem jfQ {op:BinOp} {k:IntKind} {m n:Int} {s:S} (t:TypeId) (e:jdq op k m n=some s) (v:Value) (hv:SR ty g H w s v) :
  (binOp op t (.int k m) (.int k n)).run P w = .ok v w:=by
 unfold jdq at e
 cases op <;> simp only [j5,reduceCtorEq] at e <;> subst e <;> rw [show v=_ from hv] <;> simp [binOp,Op.intArith,Op.intBits,Op.intCmp]
theorem jfP {op:BinOp} {m n:List UInt8} {s:S} (t:TypeId) (e:jcY op m n=some s) (v:Value) (hv:SR ty g H w s v) :
  (binOp op t (.string ⟨m.toArray⟩) (.string ⟨n.toArray⟩)).run P w = .ok v w:=by
 unfold jcY at e
 cases op <;> simp only [j5,reduceCtorEq] at e <;> subst e <;> rw [show v=_ from hv] <;> simp [binOp,Op.stringOp]
theorem j2j {t:TypeId} (m n:Bool) (hu:P.underlying t=some .bool):(Op.equal t (.bool m) (.bool n)).run P w = .ok (m == n) w:=by
 have:∀ d,(Op.equalIn (d + 1) t (.bool m) (.bool n)).run P w = .ok (m == n) w:=fun d=>by simp [Op.equalIn,run_underlying hu]
 exact this 9999
theorem ji5 (hty:K9 P ty) (op:BinOp) (t yt:TypeId) (x y:Operand) (ho:o.op = .binOp op t x y yt) (h:Rel ty A g ⟨tm,H⟩ a w) {c:C}
  (e:j2C (ρ:=Option C) ty none op t (opd tm x) (opd tm y) some=some c) :
  o.wp P a w (yn ty A g H w ⟨pf tm o.dst c,H⟩) Q:=by
 have hx:=h.opd x
 have hy:=h.opd y
 have fin:∀ v:Value,(do eqGuard op t x y (a.eval x) (a.eval y); binOp op t (a.eval x) (a.eval y):Sem Value).run P w = .ok v w → CR ty g H w c v → o.wp P a w (yn ty A g H w ⟨pf tm o.dst c,H⟩) Q:=by
  intro v hr hc
  refine kU (v:=v) (w':=w) ?_ (qe h hc)
  simp only [execOp,ho]
  rw [Sem.run_bind,hr]
  rfl
 unfold j2C at e
 split at e
 ·rename_i k m k' n hm hn
  rw [hm] at hx
  rw [hn] at hy
  have ex:a.eval x = .int k m:=hx
  have ey:a.eval y = .int k' n:=hy
  rw [ex,ey] at fin
  have fin':∀ v:Value,(binOp op t (.int k m) (.int k' n)).run P w = .ok v w → CR ty g H w c v → o.wp P a w (yn ty A g H w ⟨pf tm o.dst c,H⟩) Q :=
   fun v hr hc=>fin v (by rw [Sem.run_bind,jf0]; exact hr) hc
  split at e
  ·split at e
   ·simp at e
   ·rename_i hb
    simp only [j5] at e
    subst e
    exact fin' _ (by simp [binOp,Op.shift,hb]) rfl
  ·split at e
   ·simp at e
   ·rename_i hb
    simp only [j5] at e
    subst e
    exact fin' _ (by simp [binOp,Op.shift,hb]) rfl
  ·split at e
   ·rename_i hk
    subst hk
    split at e
    ·simp at e
    ·rename_i hb
     simp only [j5] at e
     subst e
     exact fin' _ (by simp [binOp,Op.intDiv,hb]) rfl
   ·simp at e
  ·split at e
   ·rename_i hk
    subst hk
    split at e
    ·simp at e
    ·rename_i hb
     simp only [j5] at e
     subst e
     exact fin' _ (by simp [binOp,Op.intDiv,hb]) rfl
   ·simp at e
  ·split at e
   ·rename_i hk
    subst hk
    split at e
    ·rename_i s hs
     simp only [j5] at e
     subst e
     obtain ⟨v,hv⟩:∃ v,SR ty g H w s v:=by
      unfold jdq at hs
      cases op <;> simp only [j5,reduceCtorEq] at hs <;> subst hs <;> exact ⟨_,rfl⟩
     exact fin' v (jfQ t hs v hv) hv
    ·simp at e
   ·simp at e
 ·rename_i m n hm hn
  rw [hm] at hx
  rw [hn] at hy
  have ex:a.eval x = .string ⟨m.toArray⟩:=hx
  have ey:a.eval y = .string ⟨n.toArray⟩:=hy
  rw [ex,ey] at fin
  have fin':∀ v:Value,(binOp op t (.string ⟨m.toArray⟩) (.string ⟨n.toArray⟩)).run P w = .ok v w → CR ty g H w c v → o.wp P a w (yn ty A g H w ⟨pf tm o.dst c,H⟩) Q :=
   fun v hr hc=>fin v (by rw [Sem.run_bind,jeZ]; exact hr) hc
  split at e
  ·split at e
   ·rename_i hb
    simp only [j5] at e
    subst e
    refine fin' (.string ⟨(m ++ n).toArray⟩) ?_ rfl
    have hs:∀ l:List UInt8,(ByteArray.mk l.toArray).size=l.length:=fun l=>by simp [ByteArray.size]
    have hcat:(ByteArray.mk m.toArray) ++ (ByteArray.mk n.toArray)=ByteArray.mk (m ++ n).toArray:=by
     apply ByteArray.ext
     simp
    have hlim:¬ (((m.length + n.length:Nat):Int) > IntKind.i64.max):=by
     simp only [jF] at hb
     have:IntKind.i64.max=9223372036854775807:=by decide
     rw [this]
     omega
    simp only [binOp,Op.stringOp,hs]
    rw [if_neg hlim,hcat]
    rfl
   ·simp at e
  ·split at e
   ·rename_i s hs
    simp only [j5] at e
    subst e
    obtain ⟨v,hv⟩:∃ v,SR ty g H w s v:=by
     unfold jcY at hs
     cases op <;> simp only [j5,reduceCtorEq] at hs <;> subst hs <;> exact ⟨_,rfl⟩
    exact fin' v (jfP t hs v hv) hv
   ·simp at e
 ·rename_i m n hm hn
  rw [hm] at hx
  rw [hn] at hy
  have ex:a.eval x = .bool m:=hx
  have ey:a.eval y = .bool n:=hy
  rw [ex,ey] at fin
  have fin':∀ v:Value,(binOp op t (.bool m) (.bool n)).run P w = .ok v w → CR ty g H w c v → o.wp P a w (yn ty A g H w ⟨pf tm o.dst c,H⟩) Q :=
   fun v hr hc=>fin v (by rw [Sem.run_bind,jdK]; exact hr) hc
  have hu:∀ ti:TI,ty t=some ti → ti.kd = .bool → P.underlying t=some .bool:=by
   intro ti ht hk
   obtain ⟨d,hd,hkd⟩:=(hty t ti ht).kd
   rw [hd]
   cases d <;> simp [jdR,hk] at hkd <;> rfl
  split at e
  ·rename_i ti ht
   simp only [j5] at e
   subst e
   exact fin' _ (by simp only [binOp]; rw [Sem.run_bind,j2j m n (hu _ ht rfl)]; rfl) rfl
  ·rename_i ti ht
   simp only [j5] at e
   subst e
   exact fin' _ (by simp only [binOp]; rw [Sem.run_bind,j2j m n (hu _ ht rfl)]; rfl) rfl
  ·simp at e
 ·rename_i l m hm hn
  rw [hm] at hx
  rw [hn] at hy
  obtain ⟨xs,ex,sx⟩:=hx
  obtain ⟨ys,ey,sy⟩:=hy
  rw [ex,ey] at fin
  split at e
  ·rename_i r ti hr ht
   split at e
   ·rename_i hc
    simp only [j5] at e
    subst e
    exact fin _ ((hty t ti ht).eq xs ys l m r hc.1 hr hc.2.2.2.1 hc.2.2.2.2 g H w ty sx sy (by rw [sx.length]; exact hc.2.1) (by rw [sy.length]; exact hc.2.2.1) x y).1 rfl
   ·simp at e
  ·rename_i r ti hr ht
   split at e
   ·rename_i hc
    simp only [j5] at e
    subst e
    exact fin _ ((hty t ti ht).eq xs ys l m r hc.1 hr hc.2.2.2.1 hc.2.2.2.2 g H w ty sx sy (by rw [sx.length]; exact hc.2.1) (by rw [sy.length]; exact hc.2.2.1) x y).2 rfl
   ·simp at e
  ·simp at e
 ·simp at e
end
section
variable {P:Program} {ty:Nat → Option TI} {A:An} {g:Gh} {tm:List C} {H:List HS} {a:Act} {w:World} {o:Oper} {Q:Exit → Act → World → Prop}
theorem j6L (hty:K9 P ty) {t:Nat} {ti:TI} (ht:ty t=some ti) {k:IntKind} (hk:ti.kd = .int k):P.underlying t=some (.int k) ∧ ti.cts=[.i k]:=by
 obtain ⟨d,hd,hkd⟩:=(hty t ti ht).kd
 rw [hd]
 cases d <;> simp [jdR,hk] at hkd
 simp [hkd]
theorem j2s (hty:K9 P ty) {t:Nat} {ti:TI} (ht:ty t=some ti) (hk:ti.kd = .str):P.underlying t=some .string:=by
 obtain ⟨d,hd,hkd⟩:=(hty t ti ht).kd
 rw [hd]
 cases d <;> simp [jdR,hk] at hkd
 rfl
theorem j2t (hty:K9 P ty) {t:Nat} {ti:TI} (ht:ty t=some ti) {e:Nat} (hk:ti.kd = .slice e):P.underlying t=some (.slice e):=by
 obtain ⟨d,hd,hkd⟩:=(hty t ti ht).kd
 rw [hd]
 cases d <;> simp [jdR,hk] at hkd
 simp [hkd]
theorem YZ (hty:K9 P ty) {t e:Nat} (h:Vs (ty t)=some e):P.underlying t=some (.slice e):=by
 unfold Vs at h
 split at h
 ·rename_i ti ht
  split at h
  ·rename_i e' hk
   simp only [j5] at h
   subst h
   exact j2t hty ht hk
  ·simp at h
 ·simp at h
theorem j6K (hty:K9 P ty) {t:Nat} {ti:TI} (ht:ty t=some ti) (hk:kL (some ti)=true):∃ fs,P.underlying t=some (.struct fs) ∧ fs.size=ti.flds.length ∧
  ∀ (j:Nat) (f:Go.Field) (x:Nat × Nat × Bool),fs[j]? = some f → ti.flds[j]? = some x → FldOk P ti.cts.length f x:=by
 obtain ⟨d,hd,hkd⟩:=(hty t ti ht).kd
 rw [hd]
 cases d with
 | struct fs=>exact ⟨fs,rfl,hkd.2.1,hkd.2.2⟩
 | _=>simp [jdR] at hkd <;> simp [kL,hkd] at hk
theorem jhZ (t:TypeId) (x:Operand) (ho:o.op = .unOp .not t x) (h:Rel ty A g ⟨tm,H⟩ a w) {b:Bool} (hx:opd tm x = .one (.bool b)) :
  o.wp P a w (yn ty A g H w ⟨pf tm o.dst (.one (.bool (!b))),H⟩) Q:=by
 have rx:=h.opd x
 rw [hx] at rx
 have ex:a.eval x = .bool b:=rx
 exact kU (v:=.bool (!b)) (w':=w) (by simp [execOp,ho,ex,Op.unary]) (qe h rfl)
theorem ji0 (t:TypeId) (x:Operand) (ho:o.op = .unOp .neg t x) (h:Rel ty A g ⟨tm,H⟩ a w) {k:IntKind} {n:Int} (hx:opd tm x = .one (.int k n)) :
  o.wp P a w (yn ty A g H w ⟨pf tm o.dst (.one (.int k (k.wrap (0 - n)))),H⟩) Q:=by
 have rx:=h.opd x
 rw [hx] at rx
 have ex:a.eval x = .int k n:=rx
 exact kU (v:=.int k (k.wrap (0 - n))) (w':=w) (by simp [execOp,ho,ex,Op.unary,Op.intArith]) (qe h rfl)
theorem j4y (h:Rel ty A g ⟨tm,H⟩ a w) {s:S} {v:Value} {e:Nat} {l:List (List DC)} (hs:SR ty g H w s v) (e1:zQ H s=some (e,l)) :
  (∃ F,RdC ty w (.sl e) (.sl l) v F ∧ ∀ b ∈ F,g.I b) ∨
  (∃ (ti:TI) (vs:List Value) (F:List Nat) (id:Nat),s = .own id ∧ jJ H id = .live (.row e l) ∧ v=g.val id ∧ ty e=some ti ∧ 0 < ti.cts.length ∧ QS w 0 e ti.cts.length v l.length vs ∧ RdV ty w ti.cts l vs F ∧ ∀ b ∈ F,g.I b):=by
 unfold zQ at e1
 split at e1
 ·simp only [j5,jg] at e1
  obtain ⟨rfl,rfl⟩:=e1
  exact .inl hs
 ·rename_i id
  split at e1
  ·rename_i e' l' hr
   simp only [j5,jg] at e1
   obtain ⟨rfl,rfl⟩:=e1
   obtain ⟨ti,vs,F,h1,h0,h2,h3,h4,h5⟩:=h.ob id _ hr
   have hv:=hs.2.2 ⟨_,_,.inl hr⟩
   exact .inr ⟨ti,vs,F,id,rfl,hr,hv,h1,h0,by rw [hv]; exact h2,h3,h4⟩
  ·rename_i e' l' hr
   simp only [j5,jg] at e1
   obtain ⟨rfl,rfl⟩:=e1
   obtain ⟨F,h1,h2⟩:=h.ob id _ hr
   exact .inl ⟨F,by rw [hs.2.2 ⟨_,_,.inr hr⟩]; exact h1,h2⟩
  ·simp at e1
 ·simp at e1
theorem j38 {v:Value} {e:Nat} {l:List (List DC)}
  (h:(∃ F,RdC ty w (.sl e) (.sl l) v F ∧ ∀ b ∈ F,g.I b) ∨
  (∃ (ti:TI) (vs:List Value) (F:List Nat),ty e=some ti ∧ 0 < ti.cts.length ∧ QS w 0 e ti.cts.length v l.length vs ∧ RdV ty w ti.cts l vs F ∧ ∀ b ∈ F,g.I b)) :
  ∃ (ad:Option Addr) (cap:Nat),v = .slice ad l.length cap ∧ (l=[] ∨ ∃ (ti:TI) (vs:List Value) (F:List Nat) (b off:Nat),ty e=some ti ∧ 0 < ti.cts.length ∧ ad=some ⟨b,off,none⟩ ∧
   (∀ (j:Nat) (u:Value),vs[j]? = some u → w.cell? ⟨b,off + j,none⟩=some u) ∧ RdV ty w ti.cts l vs F ∧ ∀ b ∈ F,g.I b) ∧ (l ≠ [] → ad ≠ none):=by
 rcases h with ⟨F,h1,h2⟩ | ⟨ti,vs,F,h1,h0,h2,h3,h4⟩
 ·cases h1 with
  | nil e a c=>exact ⟨a,c,rfl,.inl rfl,fun h=>absurd rfl h⟩
  | sl e ti b off n cap l vs F k1 k0 k2 k3 k4 k5 k6 =>
   subst k2
   exact ⟨_,_,rfl,.inr ⟨ti,vs,F,b,off,k1,k0,rfl,k5,k6,fun c hc=>h2 c (by simp [hc])⟩,fun _=>by simp⟩
 ·rcases h2.2 with ⟨hv,hn⟩ | ⟨k,cap,cur,hv,hk,hg,hnc,hcm,hcs,htake⟩
  ·have:l=[]:=jY hn
   subst this
   exact ⟨none,0,by rw [hv]; rfl,.inl rfl,fun h=>absurd rfl h⟩
  ·refine ⟨_,_,hv,.inr ⟨ti,vs,F,k,0,h1,h0,rfl,fun j u hu=>?_,h3,h4⟩,fun _=>by simp⟩
   have hjl:j < vs.length:=by
    rcases jA j vs.length with h' | h'
    ·exact h'
    ·simp [List.getElem?_eq_none h'] at hu
   rw [Nat.zero_add,Ys (w:=w) (g:=k) (n:=l.length) (cap:=cap) (xs:=vs) (base:=0) (e:=e) (size:=ti.cts.length) (by rw [← hv]; exact h2) j (by have:=h2.1; omega)]
   exact hu
theorem jcG {l:List (List DC)} {vs:List Value} {F:List Nat}:RdV ty w [.i .u8] l vs F → vs=(l.map fun x=>(x.getD 0 d0).ii).map (Value.int .u8)
 | .nil _=>rfl
 | .cons _ x l v vs F G h1 h2=>by
  have ih:=jcG h2
  cases h1 with
  | cons t ts x xs v' vs' F' G' k1 k2 =>
   cases k1
   cases k2
   simp [ih,DC.ii]
end
section
variable {P:Program} {ty:Nat → Option TI} {A:An} {g:Gh} {tm:List C} {H:List HS} {a:Act} {w:World} {o:Oper} {Q:Exit → Act → World → Prop}
theorem jbd (x:Operand) (ho:o.op = .nilCheck x) (h:Rel ty A g ⟨tm,H⟩ a w) {id off t:Nat} {cs:List S} (hx:opd tm x = .one (.ptr id off)) (hv:jJ H id = .live (.var t cs)) :
  o.wp P a w (yn ty A g H w ⟨pf tm o.dst (.one (.ptr id off)),H⟩) Q:=by
 have rx:=h.opd x
 rw [hx] at rx
 have ex:=rx.2.2 ⟨_,_,hv⟩
 exact kU (v:=a.eval x) (w':=w) (by simp [execOp,ho,ex]) (qe h rx)
theorem j9w {P:Program} (b off:Nat) (f:Go.Field) (w:World) {n:Nat} (hi:∃ inf,P.info? f.type=some inf ∧ inf.size=n) (h0:0 < n) :
  (fieldPlace ⟨b,off,none⟩ f).run P w = .ok ⟨b,off + f.offset,none⟩ w:=by
 obtain ⟨inf,hi,hs⟩:=hi
 have:¬ inf.size=0:=by omega
 simp [fieldPlace,Qz hi,this,Addr.add_lit]
theorem YG (hty:K9 P ty) (t:TypeId) (x:Operand) (j:Nat) (ho:o.op = .fieldAddr t x j) (h:Rel ty A g ⟨tm,H⟩ a w) {ti:TI} (ht:ty t=some ti) (hst:kL (some ti)=true)
  {off n:Nat} {ag:Bool} (hj:ti.flds[j]? = some (off,n,ag)) (h0:0 < n) {c:C}
  (hc:(∃ id o' t' cs,opd tm x = .one (.ptr id o') ∧ jJ H id = .live (.var t' cs) ∧ c = .one (.ptr id (o' + off))) ∨ (∃ e y o',opd tm x = .elS e y o' ∧ c = .elS e y (o' + off)) ∨
   (∃ e id ix o' e' l,opd tm x = .elO e id ix o' ∧ jJ H id = .live (.row e' l) ∧ c = .elO e id ix (o' + off))) :
  o.wp P a w (yn ty A g H w ⟨pf tm o.dst c,H⟩) Q:=by
 have rx:=h.opd x
 obtain ⟨fs,hu,hn,hf⟩:=j6K hty ht hst
 have hjl:j < ti.flds.length:=by
  rcases jA j ti.flds.length with h' | h'
  ·exact h'
  ·simp [List.getElem?_eq_none h'] at hj
 have hfj:fs[j]? = some fs[j]:=Array.getElem?_eq_getElem (by omega)
 have hok:=hf j _ _ hfj hj
 have fin:∀ (b o':Nat),a.eval x = .pointer (some ⟨b,o',none⟩) → CR ty g H w c (.pointer (some ⟨b,o' + off,none⟩)) → o.wp P a w (yn ty A g H w ⟨pf tm o.dst c,H⟩) Q:=by
  intro b o' he hcr
  refine kU (v:=.pointer (some ⟨b,o' + off,none⟩)) (w':=w) ?_ (qe h hcr)
  have:fs[j].offset=off:=hok.off
  simp [execOp,ho,Instr.fieldAt,run_underlying hu,hfj,he,Instr.sureAddr,j9w _ _ _ _ hok.size h0,this]
 rcases hc with ⟨id,o',t',cs,hx,hv,rfl⟩ | ⟨e,y,o',hx,rfl⟩ | ⟨e,id,ix,o',e',l,hx,hv,rfl⟩
 ·rw [hx] at rx
  exact fin _ _ (rx.2.2 ⟨_,_,hv⟩) ⟨rx.1,rfl,fun hr=>by
   obtain ⟨t2,cs2,hr⟩:=hr
   rfl⟩
 ·rw [hx] at rx
  obtain ⟨ti',b,o2,vs,F,h1,h2,h3,h4,h5,h6⟩:=rx
  exact fin _ _ h2 ⟨ti',b,o2,vs,F,h1,by rw [Nat.add_assoc],h3,h4,h5,h6⟩
 ·rw [hx] at rx
  obtain ⟨ti',b,len,cap,h1,h2,h3,h4⟩:=rx.2 ⟨_,_,.inl hv⟩
  exact fin _ _ h4 ⟨rx.1,fun _=>⟨ti',b,len,cap,h1,h2,h3,by rw [Nat.add_assoc]⟩⟩
theorem jik {P:Program} {f n:Nat} {ag:Bool} (hok:∃ d,P.underlying f=some d ∧ j1n d=ag) (hi:∃ inf,P.info? f=some inf ∧ inf.size=n) (vs:List Value) (off:Nat)
  (hfit:off + n ≤ vs.length) (h0:0 < n) (w:World) :
  (part f vs.toArray off).run P w = .ok (if ag then .agg ((vs.drop off).take n).toArray else ((vs.drop off).take n).headD undef) w:=by
 obtain ⟨d,hd,hs⟩:=hok
 obtain ⟨inf,hi,hsz⟩:=hi
 unfold part
 rw [Sem.run_bind,j39 hd,Result.andThen_ok,hs]
 cases ag with
 | true =>
  simp [Qz hi,hsz,List.extract_eq_take_drop]
 | false =>
  have h1:vs[off]? = some vs[off]:=List.getElem?_eq_getElem (by omega)
  have h2:((vs.drop off).take n).headD undef=vs[off]:=by
   cases n with
   | zero=>omega
   | succ m =>
    rw [List.drop_eq_getElem_cons (by omega)]
    rfl
  simp only [List.getElem?_toArray,h1,h2]
  simp
theorem jfC (hty:K9 P ty) (t:TypeId) (x:Operand) (j:Nat) (ho:o.op = .field t x j) (h:Rel ty A g ⟨tm,H⟩ a w) {ti:TI} (ht:ty t=some ti) (hst:kL (some ti)=true)
  {off n:Nat} {ag:Bool} (hj:ti.flds[j]? = some (off,n,ag)) (h0:0 < n) {l:List S} (hx:opd tm x = .agg l) (hfit:off + n ≤ l.length) :
  o.wp P a w (yn ty A g H w ⟨pf tm o.dst (mkC ag ((l.drop off).take n)),H⟩) Q:=by
 have rx:=h.opd x
 rw [hx] at rx
 obtain ⟨vs,hv,hs⟩:=rx
 obtain ⟨fs,hu,hn,hf⟩:=j6K hty ht hst
 have hjl:j < ti.flds.length:=by
  rcases jA j ti.flds.length with h' | h'
  ·exact h'
  ·simp [List.getElem?_eq_none h'] at hj
 have hfj:fs[j]? = some fs[j]:=Array.getElem?_eq_getElem (by omega)
 have hok:=hf j _ _ hfj hj
 have e1:fs[j].offset=off:=hok.off
 have:=hs.length
 refine kU (v:=if ag then .agg ((vs.drop off).take n).toArray else ((vs.drop off).take n).headD undef) (w':=w) ?_ (qe h (jiu ((hs.drop off).take n)))
 simp [execOp,ho,Instr.field,run_underlying hu,hfj,hv,asAgg,e1,jik (n:=n) (ag:=ag) hok.agg hok.size vs off (by omega) h0]
theorem jil {ti:TI} {e:Nat} {l:List (List DC)} {vs:List Value} {F:List Nat} {b off:Nat} (h1:ty e=some ti)
  (h2:∀ (j:Nat) (u:Value),vs[j]? = some u → w.cell? ⟨b,off + j,none⟩=some u) (h3:RdV ty w ti.cts l vs F) (h4:∀ c ∈ F,g.I c) (hb:g.I b) (ix:Nat) (hix:ix < l.length) :
  CR ty g H w (.elS e (l.getD ix []) 0) (.pointer (some ⟨b,off + ix * ti.cts.length,none⟩)):=by
 obtain ⟨u,G,q1,q2,q3⟩:=h3.at ix hix
 refine ⟨ti,b,off + ix * ti.cts.length,u,G,h1,rfl,fun j x hx=>?_,q1,fun c hc=>h4 c (q2 c hc),hb⟩
 have hj:j < ti.cts.length:=by
  have:=(RdL.length q1).1
  rcases jA j u.length with h' | h'
  ·omega
  ·simp [List.getElem?_eq_none h'] at hx
 rw [Nat.add_assoc]
 exact h2 _ x (by rw [q3 j hj]; exact hx)
theorem jeq {P:Program} {t e:Nat} (hu:P.underlying t=some (.slice e)) {inf:TypeInfo} (hi:P.info? e=some inf) (b off n cap:Nat) (k:IntKind) (i:Int) (h:0 ≤ i ∧ i < (n:Int)) (w:World) :
  (Instr.indexAt t (.slice (some ⟨b,off,none⟩) n cap) (.int k i)).run P w = .ok (.pointer (some ⟨b,off + i.toNat * inf.size,none⟩)) w:=by
 simp [Instr.indexAt,asIntOf,run_underlying hu,h.1,h.2,Qz hi,Addr.add_lit]
theorem j9m (hty:K9 P ty) (t:TypeId) (x i:Operand) (ho:o.op = .indexAddr t x i) (h:Rel ty A g ⟨tm,H⟩ a w) {e0:Nat} (ht:Vs (ty t)=some e0) {cl:Cls} {c:C}
  (e:Jl (ρ:=Option (Cls × C)) none e0 ⟨tm,H⟩ (opd tm x) (opd tm i) (fun cl c=>some (cl,c))=some (cl,c)) :
  o.wp P a w (yn ty A g H w ⟨pf tm o.dst c,H⟩) Q:=by
 have hu:=YZ hty ht
 unfold Jl at e
 have rx:=h.opd x
 have ri:=h.opd i
 split at e
 ·rename_i k n hi
  rw [hi] at ri
  have ei:a.eval i = .int k n:=ri
  have fin:∀ (ti:TI) (b off len cap:Nat),ty e0=some ti → a.eval x = .slice (some ⟨b,off,none⟩) len cap → 0 ≤ n → n < (len:Int) →
    CR ty g H w c (.pointer (some ⟨b,off + n.toNat * ti.cts.length,none⟩)) → o.wp P a w (yn ty A g H w ⟨pf tm o.dst c,H⟩) Q:=by
   intro ti b off len cap h1 h2 h3 h4 h5
   obtain ⟨inf,z,hinf,hsz,_⟩:=(hty e0 ti h1).info
   refine kU (v:=.pointer (some ⟨b,off + n.toNat * ti.cts.length,none⟩)) (w':=w) ?_ (qe h h5)
   rw [← hsz]
   simp [execOp,ho,h2,ei,jeq hu hinf b off len cap k n ⟨h3,h4⟩]
  have fz:∀ (l:List (List DC)) (F:List Nat),RdC ty w (.sl e0) (.sl l) (a.eval x) F → (∀ b ∈ F,g.I b) → 0 ≤ n → n < (l.length:Int) → c = .elS e0 (l.getD n.toNat []) 0 →
    o.wp P a w (yn ty A g H w ⟨pf tm o.dst c,H⟩) Q:=by
   intro l F h1 h2 h3 h4 h5
   generalize hv:a.eval x=v at h1
   cases h1 with
   | nil=>simp at h4; omega
   | sl _ ti b off len cap _ vs F' k1 k0 k2 k3 k4 k5 k6 =>
    rw [h5] at fin ⊢
    exact fin ti b off len cap k1 hv h3 (by omega) (jil k1 k5 k6 (fun c hc=>h2 c (by simp [hc])) (h2 b (by simp)) _ (by omega))
  split at e
  ·rename_i e' l hx
   rw [hx] at rx
   split at e
   ·rename_i hc
    obtain ⟨rfl,hc⟩:=hc
    obtain ⟨F,h1,h2⟩:=rx
    simp only [j5,jg] at e
    exact fz l F h1 h2 hc.1 hc.2 e.2.symm
   ·simp at e
  ·rename_i id hx
   rw [hx] at rx
   split at e
   ·rename_i e' l hr
    split at e
    ·rename_i hc
     obtain ⟨rfl,hc⟩:=hc
     simp only [j5,jg] at e
     obtain ⟨ti,vs,F,h1,h0,h2,h3,h4,h5⟩:=h.ob id _ hr
     have hv:=rx.2.2 ⟨_,_,.inl hr⟩
     rcases h2.2 with ⟨_,hn⟩ | ⟨b,cap,cur,hval,_⟩
     ·omega
     ·have:=fin ti b 0 l.length cap h1 (hv.trans hval) hc.1 hc.2
      rw [← e.2] at this ⊢
      exact this ⟨KR hr,fun _=>⟨ti,b,l.length,cap,h1,hval,by omega,by simp⟩⟩
    ·simp at e
   ·rename_i e' l hr
    split at e
    ·rename_i hc
     obtain ⟨rfl,hc⟩:=hc
     simp only [j5,jg] at e
     obtain ⟨F,h1,h2⟩:=h.ob id _ hr
     exact fz l F (by rw [rx.2.2 ⟨_,_,.inr hr⟩]; exact h1) h2 hc.1 hc.2 e.2.symm
    ·simp at e
   ·simp at e
  ·simp at e
 ·simp at e
theorem jfB (hty:K9 P ty) (t:TypeId) (x i:Operand) (ho:o.op = .index t x i) (h:Rel ty A g ⟨tm,H⟩ a w) {ti:TI} (ht:ty t=some ti) (hk:ti.kd = .str) {l:List UInt8} {k:IntKind} {n:Int}
  (hx:opd tm x = .one (.str l)) (hi:opd tm i = .one (.int k n)) (hc:0 ≤ n ∧ n < (l.length:Int)) :
  o.wp P a w (yn ty A g H w ⟨pf tm o.dst (.one (.int .u8 ((l.getD n.toNat 0).toNat:Int))),H⟩) Q:=by
 have rx:=h.opd x
 have ri:=h.opd i
 rw [hx] at rx
 rw [hi] at ri
 have ex:a.eval x = .string ⟨l.toArray⟩:=rx
 have ei:a.eval i = .int k n:=ri
 have hs:(ByteArray.mk l.toArray).size=l.length:=by simp [ByteArray.size]
 have hn:n.toNat < l.length:=by omega
 refine kU (v:=.int .u8 ((l.getD n.toNat 0).toNat:Int)) (w':=w) ?_ (qe h rfl)
 have hg:(ByteArray.mk l.toArray)[n.toNat]'(by rw [hs]; exact hn)=l.getD n.toNat 0:=by
  rw [List.getD_eq_getElem?_getD,List.getElem?_eq_getElem hn]
  rfl
 simp only [execOp,ho,ex,ei]
 rw [Sem.run_bind,run_index_string w t _ k n (j2s hty ht hk),dif_pos (by rw [hs]; exact hc),hg]
 rfl
theorem jcZ (x:Operand) (j:Nat) (ho:o.op = .extract x j) (h:Rel ty A g ⟨tm,H⟩ a w) {l:List (Bool × List S)} {ag:Bool} {ss:List S} (hx:opd tm x = .tup l) (hj:l[j]? = some (ag,ss)) :
  o.wp P a w (yn ty A g H w ⟨pf tm o.dst (mkC ag ss),H⟩) Q:=by
 have rx:=h.opd x
 rw [hx] at rx
 obtain ⟨vs,h1,h2,h3⟩:=rx
 have hjl:j < vs.length:=by
  rw [h2]
  rcases jA j l.length with h' | h'
  ·exact h'
  ·simp [List.getElem?_eq_none h'] at hj
 have hv:vs[j]? = some vs[j]:=List.getElem?_eq_getElem hjl
 obtain ⟨h4,h5⟩:=h3 j ag ss _ hj hv
 refine kU (v:=vs[j]) (w':=w) (by simp [execOp,ho,Instr.extract,h1,hv]) (qe h ?_)
 cases ag with
 | true =>
  obtain ⟨us,h6,h7⟩:=h4 rfl
  rw [h6]
  exact ⟨us,rfl,h7⟩
 | false=>exact h5 rfl
theorem Zq {P:Program} {ρ:Operand → Value} {o:Oper} {c:Call} {b:Builtin} (ho:o.op = .call c) (hc:c.callee = .builtin b) (w:World) :
  ∃ consts,(execOp ρ o).run P w=(builtin b c.argTypes o.type consts (c.args.map ρ)).run P w:=by
 simp only [execOp,ho,resolve,hc,invoke,Sem.run_bind,Sem.run_pure,Result.andThen_ok]
 exact ⟨_,rfl⟩
theorem j5e (h:Rel ty A g ⟨tm,H⟩ a w):∀ (l:List Operand) (cs:List C),K8 tm l=cs → ∃ vs:List Value,l.map a.eval=vs ∧ vs.length=cs.length ∧ ∀ (i:Nat) (c:C) (v:Value),cs[i]? = some c → vs[i]? = some v → CR ty g H w c v
 | [],_,rfl=>⟨[],rfl,rfl,fun i c v h=>by simp [K8] at h⟩
 | x :: l,_,rfl=>by
  obtain ⟨vs,h1,h2,h3⟩:=j5e h l _ rfl
  refine ⟨a.eval x :: vs,by simp [h1],by simp [K8,h2],fun i c v hi hv=>?_⟩
  cases i with
  | zero =>
   simp only [K8,List.getElem?_cons_zero,j5] at hi hv
   subst hi
   subst hv
   exact h.opd x
  | succ i =>
   simp only [K8,List.getElem?_cons_succ] at hi hv
   exact h3 i c v hi hv
theorem jiW (h:Rel ty A g ⟨tm,H⟩ a w) {args:Array Operand} {c:C} (he:K8 tm args.toList=[c]):∃ v,args.map a.eval = #[v] ∧ CR ty g H w c v:=by
 obtain ⟨vs,h1,h2,h3⟩:=j5e h args.toList _ he
 match vs,h2 with
 | [v],_ =>
  refine ⟨v,?_,h3 0 c v rfl rfl⟩
  apply Array.toList_inj.1
  simpa using h1
theorem jb1 (h:Rel ty A g ⟨tm,H⟩ a w) {args:Array Operand} {c d:C} (he:K8 tm args.toList=[c,d]):∃ u v,args.map a.eval = #[u,v] ∧ CR ty g H w c u ∧ CR ty g H w d v:=by
 obtain ⟨vs,h1,h2,h3⟩:=j5e h args.toList _ he
 match vs,h2 with
 | [u,v],_ =>
  refine ⟨u,v,?_,h3 0 c u rfl rfl,h3 1 d v rfl rfl⟩
  apply Array.toList_inj.1
  simpa using h1
theorem j9v (h:Rel ty A g ⟨tm,H⟩ a w) {s:S} {v:Value} {e:Nat} {l:List (List DC)} (hs:SR ty g H w s v) (e1:zQ H s=some (e,l)):∃ ad cap,v = .slice ad l.length cap:=by
 rcases j4y h hs e1 with h1 | ⟨ti,vs,F,id,_,_,_,h1⟩
 ·obtain ⟨ad,cap,hv,_⟩:=j38 (.inl h1)
  exact ⟨ad,cap,hv⟩
 ·obtain ⟨ad,cap,hv,_⟩:=j38 (.inr ⟨ti,vs,F,h1⟩)
  exact ⟨ad,cap,hv⟩
theorem ji3 (hty:K9 P ty) {c:Call} (ho:o.op = .call c) (hb:c.callee = .builtin .len) {t:TypeId} (hat:c.argTypes.toList=[t]) {x r:C} {ti:TI} {cl:Cls} (h:Rel ty A g ⟨tm,H⟩ a w) (ht:ty t=some ti)
  (hx:K8 tm c.args.toList=[x])
  (hk:(ti.kd = .str ∧ ∃ l,x = .one (.str l)) ∨ ((∃ e,ti.kd = .slice e) ∧ ∀ l,x ≠ .one (.str l)))
  (e:QE (ρ:=Option (Cls × C)) none ⟨tm,H⟩ x (fun cl c=>some (cl,c))=some (cl,r)) :
  o.wp P a w (yn ty A g H w ⟨pf tm o.dst r,H⟩) Q:=by
 obtain ⟨v,hv,rv⟩:=jiW h hx
 have hat':c.argTypes = #[t]:=by apply Array.toList_inj.1; simpa using hat
 have fin:∀ n:Nat,(Builtin.len_ #[t] o.type #[v]).run P w = .ok (.int .i64 (n:Int)) w → r = .one (.int .i64 (n:Int)) → o.wp P a w (yn ty A g H w ⟨pf tm o.dst r,H⟩) Q:=by
  intro n hr hn
  refine kU (v:=.int .i64 (n:Int)) (w':=w) ?_ (qe h (by rw [hn]; rfl))
  obtain ⟨cs,hcs⟩:=Zq (ρ:=a.eval) ho hb w
  rw [hcs,hv,hat']
  simp only [builtin]
  rw [Sem.run_bind,hr]
  rfl
 have sl:∀ (e:Nat) (ad:Option Addr) (n cap:Nat),ti.kd = .slice e → v = .slice ad n cap → (Builtin.len_ #[t] o.type #[v]).run P w = .ok (.int .i64 (n:Int)) w:=by
  intro e ad n cap hk hv
  simp [Builtin.len_,run_underlying (j2t hty ht hk),hv,goInt]
 unfold QE at e
 split at e
 ·rename_i l
  simp only [j5,jg] at e
  have ev:v = .string ⟨l.toArray⟩:=rv
  rcases hk with ⟨hk,_⟩ | ⟨_,hk⟩
  ·refine fin l.length ?_ e.2.symm
   rw [ev,run_len_string w t _ _ (j2s hty ht hk)]
   simp [goInt,ByteArray.size]
  ·exact absurd rfl (hk l)
 ·simp only [j5,jg] at e
  rcases hk with ⟨_,l,hk⟩ | ⟨⟨e',hk⟩,_⟩
  ·simp at hk
  ·exact fin 0 (sl e' none 0 0 hk rv) e.2.symm
 ·rename_i e1 l
  simp only [j5,jg] at e
  rcases hk with ⟨_,l,hk⟩ | ⟨⟨e',hk⟩,_⟩
  ·simp at hk
  ·obtain ⟨ad,cap,hv⟩:=j9v h (s:=.sl e1 l) rv rfl
   exact fin l.length (sl e' ad _ cap hk hv) e.2.symm
 ·rename_i id
  split at e
  ·rename_i e1 l hsl
   simp only [j5,jg] at e
   rcases hk with ⟨_,l,hk⟩ | ⟨⟨e',hk⟩,_⟩
   ·simp at hk
   ·obtain ⟨ad,cap,hv⟩:=j9v (s:=.own id) h rv hsl
    exact fin l.length (sl e' ad _ cap hk hv) e.2.symm
  ·simp at e
 ·simp at e
theorem ji1 {c:Call} (ho:o.op = .call c) (hb:c.callee = .builtin .min) {k k':IntKind} {m n:Int} (h:Rel ty A g ⟨tm,H⟩ a w) (hx:K8 tm c.args.toList=[.one (.int k m),.one (.int k' n)]) :
  o.wp P a w (yn ty A g H w ⟨pf tm o.dst (.one (.int k (if n < m then n else m))),H⟩) Q:=by
 obtain ⟨u,v,hv,ru,rv⟩:=jb1 h hx
 have eu:u = .int k m:=ru
 have ev:v = .int k' n:=rv
 refine kU (v:=.int k (if n < m then n else m)) (w':=w) ?_ (qe h rfl)
 obtain ⟨cs,hcs⟩:=Zq (ρ:=a.eval) ho hb w
 rw [hcs,hv,eu,ev]
 simp [builtin,Builtin.min_,Builtin.min2]
theorem ji2 {c:Call} (ho:o.op = .call c) (hb:c.callee = .builtin .max) {k k':IntKind} {m n:Int} (h:Rel ty A g ⟨tm,H⟩ a w) (hx:K8 tm c.args.toList=[.one (.int k m),.one (.int k' n)]) :
  o.wp P a w (yn ty A g H w ⟨pf tm o.dst (.one (.int k (if m < n then n else m))),H⟩) Q:=by
 obtain ⟨u,v,hv,ru,rv⟩:=jb1 h hx
 have eu:u = .int k m:=ru
 have ev:v = .int k' n:=rv
 refine kU (v:=.int k (if m < n then n else m)) (w':=w) ?_ (qe h rfl)
 obtain ⟨cs,hcs⟩:=Zq (ρ:=a.eval) ho hb w
 rw [hcs,hv,eu,ev]
 simp [builtin,Builtin.max_,Builtin.max2]
theorem jgY (h:Rel ty A g ⟨tm,H⟩ a w):∀ (l:List Operand) (ids:List Nat),(K8 tm l).mapM (fun c=>match c with | C.one (.ptr id 0)=>some id | _=>none)=some ids →
  (l.map a.eval).length=ids.length ∧ ∀ (i id:Nat),ids[i]? = some id → nf H id ∧ (ql H id → (l.map a.eval)[i]? = some (.pointer (some ⟨g.blk id,0,none⟩)))
 | [],ids,e=>by
  simp [K8] at e
  subst e
  exact ⟨rfl,fun i id h=>by simp at h⟩
 | x :: l,ids,e=>by
  simp only [K8,List.mapM_cons,Option.bind_eq_bind] at e
  have rx:=h.opd x
  split at e
  ·rename_i id hx
   rw [hx] at rx
   cases hm:(K8 tm l).mapM (fun c=>match c with | C.one (.ptr id 0)=>some id | _=>none) with
   | none=>rw [hm] at e; simp at e
   | some ids' =>
    rw [hm] at e
    simp at e
    subst e
    obtain ⟨h1,h2⟩:=jgY h l ids' hm
    refine ⟨by simpa using h1,fun i id' hi=>?_⟩
    cases i with
    | zero =>
     simp only [List.getElem?_cons_zero,j5] at hi
     subst hi
     exact ⟨rx.1,fun hv=>by simp [rx.2.2 hv]⟩
    | succ i =>
     simp only [List.getElem?_cons_succ] at hi
     simpa using h2 i id' hi
  ·simp at e
theorem jbe (f:FuncId) (first captured:Array Operand) (ho:o.op = .makeFunc (.func f) first captured) (hf:first.toList=[]) (h:Rel ty A g ⟨tm,H⟩ a w) {ids:List Nat}
  (e:(K8 tm captured.toList).mapM (fun c=>match c with | C.one (.ptr id 0)=>some id | _=>none)=some ids) :
  o.wp P a w (yn ty A g H w ⟨pf tm o.dst (.one (.fn f ids)),H⟩) Q:=by
 obtain ⟨h1,h2⟩:=jgY h _ _ e
 have hf':first = #[]:=by apply Array.toList_inj.1; simpa using hf
 refine kU (v:=.func (.func f) #[] (captured.map a.eval)) (w':=w) (by simp [execOp,ho,Instr.makeFunc,hf']) (qe h ?_)
 refine ⟨captured.map a.eval,rfl,by simpa using h1,fun i id hi=>?_⟩
 obtain ⟨h3,h4⟩:=h2 i id hi
 exact ⟨h3,fun hv=>by simpa using h4 hv⟩
end
end Go.Proofs.QV
