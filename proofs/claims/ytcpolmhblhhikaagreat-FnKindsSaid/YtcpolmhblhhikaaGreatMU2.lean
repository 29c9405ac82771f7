import Derived.Test.YtcpolmhblhhikaaGreatMU1
import Derived.Laws.Tables
import Derived.Laws.StructEq
/- The types' table; loads,stores and freezing,at the level of one run. -/
namespace Go.Proofs.QV
open Go
open _root_.Option.some renaming injEq → j8
open _root_.Prod.mk renaming injEq → ji
open _root_.Bool renaming and_eq_true → jk
open _root_.List renaming eq_nil_of_length_eq_zero → jm, map_cons → js, nil_append → jg, append_assoc → jD, mem_append → jC, length_append → jj
open _root_.Nat renaming lt_or_ge → jA
def Q5:CT → Value
 | .b=>.bool false
 | .i k=>.int k 0
 | .s=>.string ⟨#[]⟩
 | .sl _=>.slice none 0 0
def Xl:TypeDesc → Bool
 | .struct _=>true
 | .array _ _=>true
 | _=>false
structure FldOk (P:Program) (n:Nat) (f:Go.Field) (x:Nat × Nat × Bool):Prop where
 off:f.offset=x.1
 size:∃ inf,P.info? f.type=some inf ∧ inf.size=x.2.1
 agg:∃ d,P.underlying f.type=some d ∧ Xl d=x.2.2
 fit:x.1 + x.2.1 ≤ n
def j5n (P:Program) (ti:TI):TypeDesc → Prop
 | .bool=>ti.kd = .bool ∧ ti.cts=[.b]
 | .int k=>ti.kd = .int k ∧ ti.cts=[.i k]
 | .string=>ti.kd = .str ∧ ti.cts=[.s]
 | .slice e=>ti.kd = .slice e ∧ ti.cts=[.sl e]
 | .struct fs=>ti.kd = .struct ∧ fs.size=ti.flds.length ∧ ∀ (j:Nat) (f:Go.Field) (x:Nat × Nat × Bool),fs[j]? = some f → ti.flds[j]? = some x → FldOk P ti.cts.length f x
 | _=>False
def jdN (P:Program) (t:Nat) (ti:TI):Prop :=
 ∀ (xs ys:List Value) (l m:List S) (r:Bool),ti.eq=true → zO l m=some r → zU ti.cts l=true → zU ti.cts m=true → (∀ (g:Gh) (H:List HS) (w:World) (ty:Nat → Option TI),qr ty g H w l xs → qr ty g H w m ys →
  xs.length=ti.cts.length → ys.length=ti.cts.length →
  (∀ (x y:Operand),(do eqGuard .eql t x y (.agg xs.toArray) (.agg ys.toArray); binOp .eql t (.agg xs.toArray) (.agg ys.toArray):Sem Value).run P w = .ok (.bool r) w ∧
   (do eqGuard .neq t x y (.agg xs.toArray) (.agg ys.toArray); binOp .neq t (.agg xs.toArray) (.agg ys.toArray):Sem Value).run P w = .ok (.bool (!r)) w))
structure TIok (P:Program) (t:Nat) (ti:TI):Prop where
 info:∃ inf z,P.info? t=some inf ∧ inf.size=ti.cts.length ∧ inf.bytes=ti.bytes ∧ inf.zero=some z ∧ z.cells=(ti.cts.map Q5).toArray
 kd:∃ d,P.underlying t=some d ∧ j5n P ti d
 zero1:jQ (some ti)=false → ∃ inf,P.info? t=some inf ∧ inf.zero=some (Q5 (ti.cts.headD .b))
 eq:jdN P t ti
def y9 (P:Program) (ty:Nat → Option TI):Prop:=∀ t ti,ty t=some ti → TIok P t ti
section
variable {P:Program} {ty:Nat → Option TI}
theorem Jk {t:Nat} {inf:TypeInfo} (h:P.info? t=some inf) (w:World):(sizeOf t).run P w = .ok inf.size w:=by
 simp [sizeOf,typeInfo,h]
theorem j3C {t:Nat} {inf:TypeInfo} {z:Value} (h:P.info? t=some inf) (hz:inf.zero=some z) (w:World):(zeroValue t).run P w = .ok z w:=by
 simp [zeroValue,typeInfo,h,hz]
theorem YP {t:Nat} {d:TypeDesc} (h:P.underlying t=some d) (w:World):(isAgg t).run P w = .ok (Xl d) w:=by
 unfold isAgg
 rw [Sem.run_bind,run_underlying h]
 cases d <;> rfl
theorem TIok.struct {t:Nat} {ti:TI} (h:TIok P t ti):∃ d,P.underlying t=some d ∧ Xl d=jQ (some ti):=by
 obtain ⟨d,hd,hk⟩:=h.kd
 refine ⟨d,hd,?_⟩
 cases d <;> simp [j5n,Xl,jQ] at hk ⊢ <;> simp [hk]
theorem TIok.one {t:Nat} {ti:TI} (h:TIok P t ti) (hs:jQ (some ti)=false):ti.cts.length=1:=by
 obtain ⟨d,hd,hk⟩:=h.kd
 cases d <;> simp [j5n] at hk <;> simp [jQ,hk] at hs ⊢
theorem XW {t:Nat} {ti:TI} (h:TIok P t ti) (w:World) (b off:Nat) (vs:List Value) (hl:vs.length=ti.cts.length)
  (hc:∀ (j:Nat) (v:Value),vs[j]? = some v → w.cell? ⟨b,off + j,none⟩=some v) :
  (loadVar t ⟨b,off,none⟩).run P w = .ok (if jQ (some ti) then .agg vs.toArray else vs.headD undef) w:=by
 obtain ⟨d,hd,hs⟩:=h.struct
 obtain ⟨inf,z,hi,hsz,_⟩:=h.info
 unfold loadVar
 rw [Sem.run_bind,YP hd,Result.andThen_ok,hs]
 cases hst:jQ (some ti) with
 | true =>
  have hr:=run_loadCells_list (P:=P) w ⟨b,off,none⟩ vs (fun j v hj=>by rw [Addr.add_lit]; exact hc j v hj)
  rw [hl,← hsz] at hr
  simp [Jk hi,hr]
 | false =>
  have h1:=h.one hst
  match vs,hl with
  | [v],_ =>
   have:=hc 0 v rfl
   simp only [Nat.add_zero] at this
   simp [this]
  | [],hl=>simp [h1] at hl
  | _ :: _ :: _,hl=>simp [h1] at hl
theorem j4U {t:Nat} {ti:TI} (h:TIok P t ti) (w:World) (b off:Nat) (e:TypeId) (cur:Array Value) (v:Value) (vs:List Value) (hv:v.cells=vs.toArray) (hl:vs.length=ti.cts.length)
  (hg:w.heap[b]? = some (.cells cur e (0,0))) (hfit:off + vs.length ≤ cur.size) (h1:∀ u ∈ vs,u.oneCell'=true) :
  (storeVar t ⟨b,off,none⟩ v).run P w = .ok () (w.setRow b (cur.toList.take off ++ vs ++ cur.toList.drop (off + vs.length)).toArray):=by
 obtain ⟨inf,z,hi,hsz,_⟩:=h.info
 have hst:=run_storeCells_at P b off e vs 0 cur w hg (by simpa using hfit) h1
 simp only [Nat.add_zero] at hst
 simp [storeVar,Jk hi,hv,hl,hsz,hst]
variable {A:An} {g:Gh} {tm:List C} {H:List HS} {a:Act} {w:World}
theorem Rel.read_fz (h:Rel ty A g ⟨tm,H⟩ a w) {id e:Nat} {l:List (List DC)} (hr:jp H id = .live (.fz e l)) :
  ∃ F,RdC ty w (.sl e) (.sl l) (g.val id) F ∧ ∀ b ∈ F,g.I b:=h.ob id _ hr
theorem jav (h:Rel ty A g ⟨tm,H⟩ a w) {t:CT} {s:S} {v:Value} {d:DC} {H':List HS} (hs:SR ty g H w s v) (e:Vt H t s=some (d,H')) :
  ∃ g' F,Rel ty A g' ⟨tm,H'⟩ a w ∧ Ch g g' H H' w w ∧ RdC ty w t d v F ∧ ∀ b ∈ F,g'.I b:=by
 unfold Vt at e
 split at e
 ·simp only [j8,ji] at e
  obtain ⟨rfl,rfl⟩:=e
  exact ⟨g,[],h,.refl _ _ _,by rw [show v=_ from hs]; exact .b _,fun _ h=>by cases h⟩
 ·split at e
  ·rename_i hk
   simp only [j8,ji] at e
   obtain ⟨rfl,rfl⟩:=e
   subst hk
   exact ⟨g,[],h,.refl _ _ _,by rw [show v=_ from hs]; exact .i _ _,fun _ h=>by cases h⟩
  ·simp at e
 ·simp only [j8,ji] at e
  obtain ⟨rfl,rfl⟩:=e
  exact ⟨g,[],h,.refl _ _ _,by rw [show v=_ from hs]; exact .s _,fun _ h=>by cases h⟩
 ·split at e
  ·rename_i hk
   simp only [j8,ji] at e
   obtain ⟨rfl,rfl⟩:=e
   subst hk
   obtain ⟨F,h1,h2⟩:=hs
   exact ⟨g,F,h,.refl _ _ _,h1,h2⟩
  ·simp at e
 ·simp only [j8,ji] at e
  obtain ⟨rfl,rfl⟩:=e
  exact ⟨g,[],h,.refl _ _ _,by rw [show v=_ from hs]; exact .nil _ _ _,fun _ h=>by cases h⟩
 ·obtain ⟨hn,_,hv⟩:=hs
  split at e
  ·rename_i e2 l hr
   split at e
   ·rename_i hk
    simp only [j8,ji] at e
    obtain ⟨rfl,rfl⟩:=e
    obtain ⟨rfl,hh⟩:=hk
    obtain ⟨g',h1,h2,F,h3,h4⟩:=h.freeze hr hh
    have hval:=(h2.row _ hn ⟨_,l,.inr (.inl (jt _ (jF hr)))⟩).2
    exact ⟨g',F,h1,h2,by rw [hv ⟨_,_,.inl hr⟩,← hval]; exact h3,h4⟩
   ·simp at e
  ·rename_i e2 l hr
   split at e
   ·rename_i hk
    simp only [j8,ji] at e
    obtain ⟨rfl,rfl⟩:=e
    subst hk
    obtain ⟨F,h3,h4⟩:=h.read_fz hr
    exact ⟨g,F,h,.refl _ _ _,by rw [hv ⟨_,_,.inr (.inl hr)⟩]; exact h3,h4⟩
   ·simp at e
  ·rename_i e2 l hr
   split at e
   ·rename_i hk
    simp only [j8,ji] at e
    obtain ⟨rfl,rfl⟩:=e
    subst hk
    obtain ⟨g',h1,h2,⟨F,h3,h4⟩,_⟩:=h.freezeP hr
    have hval:=(h2.row _ hn ⟨_,l,.inr (.inl (jt _ (jF hr)))⟩).2
    exact ⟨g',F,h1,h2,by rw [hv ⟨_,_,.inr (.inr (.inl hr))⟩,← hval]; exact h3,h4⟩
   ·simp at e
  ·simp at e
 ·simp at e
theorem j00:∀ {ts:List CT} {ss:List S} {vs:List Value} {ds:List DC} {g:Gh} {H H':List HS},Rel ty A g ⟨tm,H⟩ a w → qr ty g H w ss vs → yZ H ts ss=some (ds,H') →
  ∃ g' F,Rel ty A g' ⟨tm,H'⟩ a w ∧ Ch g g' H H' w w ∧ RdL ty w ts ds vs F ∧ ∀ b ∈ F,g'.I b
 | [],[],[],_,g,H,_,h,_,e=>by
  simp only [yZ,j8,ji] at e
  obtain ⟨rfl,rfl⟩:=e
  exact ⟨g,[],h,.refl _ _ _,.nil,fun _ h=>by cases h⟩
 | t :: ts,s :: ss,v :: vs,ds,g,H,H',h,hs,e=>by
  simp only [yZ] at e
  split at e
  ·rename_i d H1 e1
   split at e
   ·rename_i ds' H2 e2
    simp only [j8,ji] at e
    obtain ⟨rfl,rfl⟩:=e
    obtain ⟨g1,F,h1,c1,r1,i1⟩:=jav h hs.1 e1
    obtain ⟨g2,G,h2,c2,r2,i2⟩:=j00 h1 (hs.2.mono c1) e2
    refine ⟨g2,F ++ G,h2,c1.trans c2,.cons _ _ _ _ _ _ _ _ r1 r2,fun b hb=>?_⟩
    rcases List.mem_append.1 hb with hb | hb
    ·exact c2.I b (i1 b hb)
    ·exact i2 b hb
   ·simp at e
  ·simp at e
 | [],_ :: _,_,_,_,_,_,_,_,e=>by simp [yZ] at e
 | _ :: _,[],_,_,_,_,_,_,_,e=>by simp [yZ] at e
 | [],[],_ :: _,_,_,_,_,_,hs,_=>hs.elim
 | _ :: _,_ :: _,[],_,_,_,_,_,hs,_=>hs.elim
theorem RdC.flat {t:CT} {d:DC} {v:Value} {F:List Nat} (h:RdC ty w t d v F) (ht:t.flat=true):F=[]:=by
 cases h <;> first | rfl | simp [CT.flat] at ht
theorem RdL.flat:∀ {ts:List CT} {x:List DC} {v:List Value} {F:List Nat},RdL ty w ts x v F → ts.all CT.flat=true → F=[]
 | _,_,_,_,.nil,_=>rfl
 | _,_,_,_,.cons t ts x xs v vs F G h1 h2,ht=>by
  simp only [List.all_cons,jk] at ht
  rw [h1.flat ht.1,RdL.flat h2 ht.2]
  rfl
theorem RdV.flat:∀ {ts:List CT} {x:List (List DC)} {v:List Value} {F:List Nat},RdV ty w ts x v F → ts.all CT.flat=true → F=[]
 | _,_,_,_,.nil _,_=>rfl
 | _,_,_,_,.cons ts x l v vs F G h1 h2,ht=>by rw [h1.flat ht,RdV.flat h2 ht]; rfl
structure Mv (g:Gh) (H H':List HS) (w:World) (F:List Nat):Prop where
 own:Own w F
 src:∀ b ∈ F,∃ id o,jp H id = .live o ∧ jM g id o b ∧ ∀ t cs,o ≠ .var t cs
 gone:∀ b ∈ F,∀ i p,jp H' i = .live p → ¬ jM g i p b
 sub:∀ i p,jp H' i = .live p → jp H i = .live p
theorem Mv.nil (g:Gh) (H:List HS) (w:World):Mv g H H w [] :=
 ⟨⟨List.nodup_nil,fun b hb=>by cases hb⟩,fun b hb=>(by cases hb),fun b hb=>(by cases hb),fun _ _ h=>h⟩
theorem Mv.trans {H1 H2:List HS} {F G:List Nat} (h:Mv g H H1 w F) (k:Mv g H1 H2 w G):Mv g H H2 w (F ++ G) where
 own:=⟨List.nodup_append.2 ⟨h.own.nodup,k.own.nodup,fun a ha b hb e=>by
  subst e
  obtain ⟨id,o,h1,h2,_⟩:=k.src a hb
  exact h.gone a ha id _ h1 h2⟩,fun b hb=>by
  rcases List.mem_append.1 hb with hb | hb
  ·exact h.own.open' b hb
  ·exact k.own.open' b hb⟩
 src b hb:=by
  rcases List.mem_append.1 hb with hb | hb
  ·exact h.src b hb
  ·obtain ⟨id,o,h1,h2,h3⟩:=k.src b hb
   exact ⟨id,o,h.sub _ _ h1,h2,h3⟩
 gone b hb i p hi:=by
  rcases List.mem_append.1 hb with hb | hb
  ·exact h.gone b hb i p (k.sub _ _ hi)
  ·exact k.gone b hb i p hi
 sub i p hi:=h.sub i p (k.sub i p hi)
theorem OR.whole2 {id e:Nat} {l:List (List DC)} (h:OR ty g H w id (.row e l)) (hh:hq e=false) (hd:dp e=true ∨ Xw ty (yz e)=true) :
  ∃ F,RdC ty w (.sl (yz e)) (.sl l) (g.val id) F ∧ Own w F ∧ (∀ b ∈ F,zq g id e b) ∧ (l ≠ [] → ∀ b,(g.val id).ownBlock=some b → b ∈ F) ∧ (dp e=true → ∀ b,g.dom id b ↔ b ∈ F.tail):=by
 obtain ⟨ti,vs,F,h1,h0,h2,h3,h4,h5⟩:=h
 have h3:=h3.v hh
 have hF:Own w F ∧ (∀ b ∈ F,dp e=true ∧ g.dom id b) ∧ (∀ b ∈ F,(g.val id).ownBlock ≠ some b) ∧ (dp e=true → ∀ b,g.dom id b ↔ b ∈ F):=by
  cases he:dp e with
  | true =>
   obtain ⟨k1,k2,k3⟩:=(kz.deep he).1 h4
   exact ⟨k1,fun b hb=>⟨rfl,(k2 b).2 hb⟩,k3,fun _=>k2⟩
  | false =>
   rcases hd with hd | hd
   ·rw [he] at hd; cases hd
   ·unfold Xw at hd
    rw [h1] at hd
    obtain rfl:=h3.flat hd
    exact ⟨⟨List.nodup_nil,fun b hb=>by cases hb⟩,fun b hb=>(by cases hb),fun b hb=>(by cases hb),fun h=>by cases h⟩
 obtain ⟨o1,o2,o3,o4⟩:=hF
 rcases h2.2 with ⟨hv,hn⟩ | ⟨k,cap,cur,hv,hk,hg,hnc,hcm,hcs,htake⟩
 ·have:l=[]:=jm hn
  subst this
  cases h3
  exact ⟨[],by rw [hv]; exact .nil (yz e) none 0,⟨List.nodup_nil,fun b hb=>by cases hb⟩,fun _ h=>by (cases h),fun h=>absurd rfl h,o4⟩
 ·by_cases hl:l=[]
  ·subst hl
   cases h3
   refine ⟨[],?_,⟨List.nodup_nil,fun b hb=>by cases hb⟩,fun _ h=>by (cases h),fun h=>absurd rfl h,o4⟩
   rw [hv]
   exact RdC.nil (yz e) _ cap
  ·refine ⟨k :: F,?_,⟨List.nodup_cons.2 ⟨fun hk=>o3 k hk (by rw [hv]; rfl),o1.nodup⟩,fun b hb=>?_⟩,fun b hb=>?_,fun _ b hb=>?_,o4⟩
   ·rw [hv]
    refine .sl (yz e) ti k 0 _ cap l vs F h1 h0 rfl hl hnc (fun j v hj=>?_) h3
    have hjl:j < vs.length:=by
     rcases jA j vs.length with h' | h'
     ·exact h'
     ·simp [List.getElem?_eq_none h'] at hj
    have:=World.ownsRow.cellAt (w:=w) (g:=k) (n:=l.length) (cap:=cap) (xs:=vs) (base:=0) (e:=yz e) (size:=ti.cts.length) (by rw [← hv]; exact h2) j (by have:=h2.1; omega)
    rw [Nat.zero_add,this]
    exact hj
   ·rcases List.mem_cons.1 hb with rfl | hb
    ·exact ⟨cur,yz e,hg⟩
    ·exact o1.open' b hb
   ·rcases List.mem_cons.1 hb with rfl | hb
    ·exact .inl (by rw [hv]; rfl)
    ·exact .inr (o2 b hb)
   ·rw [hv] at hb
    simp only [Value.ownBlock,j8] at hb
    subst hb
    simp
theorem OR.whole {id e:Nat} {l:List (List DC)} (h:OR ty g H w id (.row e l)) (hh:hq e=false) (hd:dp e=true ∨ Xw ty e=true) :
  ∃ F,RdC ty w (.sl (yz e)) (.sl l) (g.val id) F ∧ Own w F ∧ (∀ b ∈ F,zq g id e b) ∧ (l ≠ [] → ∀ b,(g.val id).ownBlock=some b → b ∈ F):=by
 have hd':dp e=true ∨ Xw ty (yz e)=true:=by
  cases he:dp e with
  | true=>exact .inl rfl
  | false =>
   rcases hd with hd | hd
   ·rw [he] at hd; cases hd
   ·exact .inr (by rw [ku he]; exact hd)
 obtain ⟨F,h1,h2,h3,h4,_⟩:=h.whole2 hh hd'
 exact ⟨F,h1,h2,h3,h4⟩
theorem jaT (h:Rel ty A g ⟨tm,H⟩ a w) {t:CT} {s:S} {v:Value} {d:DC} {H':List HS} (hs:SR ty g H w s v) (e:j1c ty H t s=some (d,H')) :
  ∃ F,Rel ty A g ⟨tm,H'⟩ a w ∧ Ch g g H H' w w ∧ RdC ty w t d v F ∧ Mv g H H' w F:=by
 unfold j1c at e
 split at e
 ·simp only [j8,ji] at e
  obtain ⟨rfl,rfl⟩:=e
  exact ⟨[],h,.refl _ _ _,by rw [show v=_ from hs]; exact .b _,.nil _ _ _⟩
 ·split at e
  ·rename_i hk
   simp only [j8,ji] at e
   obtain ⟨rfl,rfl⟩:=e
   subst hk
   exact ⟨[],h,.refl _ _ _,by rw [show v=_ from hs]; exact .i _ _,.nil _ _ _⟩
  ·simp at e
 ·simp only [j8,ji] at e
  obtain ⟨rfl,rfl⟩:=e
  exact ⟨[],h,.refl _ _ _,by rw [show v=_ from hs]; exact .s _,.nil _ _ _⟩
 ·simp only [j8,ji] at e
  obtain ⟨rfl,rfl⟩:=e
  exact ⟨[],h,.refl _ _ _,by rw [show v=_ from hs]; exact .nil _ _ _,.nil _ _ _⟩
 ·rename_i e0 id
  obtain ⟨hn,_,hv⟩:=hs
  split at e
  ·rename_i e2 l hr
   split at e
   ·rename_i hk
    obtain ⟨rfl,hh,hk⟩:=hk
    simp only [j8,ji] at e
    obtain ⟨rfl,rfl⟩:=e
    obtain ⟨r1,c1⟩:=h.kill hr
    obtain ⟨F,k1,k2,k3,_⟩:=(h.ob id _ hr).whole hh (by simpa using hk)
    have hsub:∀ i p,jp (jB H id .dead) i = .live p → i ≠ id ∧ jp H i = .live p:=by
     intro i p hi
     by_cases e:id=i
     ·subst e
      rw [jt _ (jF hr)] at hi
      cases hi
     ·rw [jo _ e] at hi
      exact ⟨fun k=>e k.symm,hi⟩
    exact ⟨F,r1,c1,by rw [hv ⟨_,_,.inl hr⟩]; exact k1,k2,fun b hb=>⟨id,.row e2 l,hr,k3 b hb,fun _ _ k=>by cases k⟩,
     fun b hb i p hi=>h.sep id i _ p b (fun k=>(hsub i p hi).1 k.symm) hr (hsub i p hi).2 (k3 b hb),fun i p hi=>(hsub i p hi).2⟩
   ·simp at e
  ·rename_i e2 l hr
   split at e
   ·rename_i hk
    subst hk
    simp only [j8,ji] at e
    obtain ⟨rfl,rfl⟩:=e
    obtain ⟨r1,c1⟩:=h.kill hr
    obtain ⟨F,k1,k2,k3,k5⟩:=h.ob id _ hr
    have hsub:∀ i p,jp (jB H id .dead) i = .live p → i ≠ id ∧ jp H i = .live p:=by
     intro i p hi
     by_cases e:id=i
     ·subst e
      rw [jt _ (jF hr)] at hi
      cases hi
     ·rw [jo _ e] at hi
      exact ⟨fun k=>e k.symm,hi⟩
    have hb':∀ b ∈ F,jM g id (.pt e2 l) b:=fun b hb=>(k3 b).2 hb
    exact ⟨F,r1,c1,by rw [hv ⟨_,_,.inr (.inr (.inl hr))⟩]; exact k1,k2,fun b hb=>⟨id,.pt e2 l,hr,hb' b hb,fun _ _ k=>by cases k⟩,
     fun b hb i p hi=>h.sep id i _ p b (fun k=>(hsub i p hi).1 k.symm) hr (hsub i p hi).2 (hb' b hb),fun i p hi=>(hsub i p hi).2⟩
   ·simp at e
  ·simp at e
 ·simp at e
theorem j0g:∀ {ts:List CT} {ss:List S} {vs:List Value} {ds:List DC} {H H':List HS},Rel ty A g ⟨tm,H⟩ a w → qr ty g H w ss vs → ze ty H ts ss=some (ds,H') →
  ∃ F,Rel ty A g ⟨tm,H'⟩ a w ∧ Ch g g H H' w w ∧ RdL ty w ts ds vs F ∧ Mv g H H' w F
 | [],[],[],_,H,_,h,_,e=>by
  simp only [ze,j8,ji] at e
  obtain ⟨rfl,rfl⟩:=e
  exact ⟨[],h,.refl _ _ _,.nil,.nil _ _ _⟩
 | t :: ts,s :: ss,v :: vs,ds,H,H',h,hs,e=>by
  simp only [ze] at e
  split at e
  ·rename_i d H1 e1
   split at e
   ·rename_i ds' H2 e2
    simp only [j8,ji] at e
    obtain ⟨rfl,rfl⟩:=e
    obtain ⟨F,h1,c1,r1,i1⟩:=jaT h hs.1 e1
    obtain ⟨G,h2,c2,r2,i2⟩:=j0g h1 (hs.2.mono c1) e2
    exact ⟨F ++ G,h2,c1.trans c2,.cons _ _ _ _ _ _ _ _ r1 r2,i1.trans i2⟩
   ·simp at e
  ·simp at e
 | [],_ :: _,_,_,_,_,_,_,e=>by simp [ze] at e
 | _ :: _,[],_,_,_,_,_,_,e=>by simp [ze] at e
 | [],[],_ :: _,_,_,_,_,hs,_=>hs.elim
 | _ :: _,_ :: _,[],_,_,_,_,hs,_=>hs.elim
theorem jaR {t:CT} {d:DC} {v:Value} {F:List Nat} (h:RdC ty w t d v F) (hF:∀ b ∈ F,g.I b):SR ty g H w (j8s t d) v:=by
 cases h with
 | b x=>rfl
 | i k n=>rfl
 | s l=>rfl
 | nil e a c=>exact ⟨[],.nil e a c,fun _ h=>by cases h⟩
 | sl e ti b off n cap l vs F h1 h0 h2 h3 h4 h5 h6=>exact ⟨_,.sl e ti b off n cap l vs F h1 h0 h2 h3 h4 h5 h6,hF⟩
theorem j60:∀ {ts:List CT} {ds:List DC} {vs:List Value} {F:List Nat} (x:List DC) (j:Nat),RdL ty w ts ds vs F → (∀ b ∈ F,g.I b) → (∀ i,i < ts.length → x.getD (j + i) d0=ds.getD i d0) →
  qr ty g H w (j4d ts x j) vs
 | _,_,_,_,_,_,.nil,_,_=>trivial
 | _,_,_,_,x,j,.cons t ts d ds v vs F G h1 h2,hF,hx=>by
  refine ⟨?_,?_⟩
  ·have:=hx 0 (by simp)
   simp only [Nat.add_zero,List.getD_cons_zero] at this
   rw [this]
   exact jaR h1 fun b hb=>hF b (by simp [hb])
  ·refine j60 x (j + 1) h2 (fun b hb=>hF b (by simp [hb])) fun i hi=>?_
   have:=hx (i + 1) (by simp; omega)
   rw [show j + 1 + i=j + (i + 1) from by omega,this]
   simp
theorem CT.same_eq {x y:CT} (h:CT.same x y=true):x=y:=by
 cases x <;> cases y <;> simp [CT.same] at h <;> simp [h]
theorem CT.sameL_eq:∀ {x y:List CT},CT.sameL x y=true → x=y
 | [],[],_=>rfl
 | x :: l,y :: m,h=>by
  simp only [CT.sameL,jk] at h
  rw [CT.same_eq h.1,CT.sameL_eq h.2]
 | [],_ :: _,h=>by simp [CT.sameL] at h
 | _ :: _,[],h=>by simp [CT.sameL] at h
theorem RdL.drop:∀ {ts:List CT} {x:List DC} {vs:List Value} {F:List Nat} (n:Nat),RdL ty w ts x vs F → ∃ F',RdL ty w (ts.drop n) (x.drop n) (vs.drop n) F' ∧ ∀ b ∈ F',b ∈ F
 | _,_,_,_,n,.nil=>⟨[],by simp; exact .nil,fun _ h=>h⟩
 | _,_,_,_,0,.cons t ts x xs v vs F G h1 h2=>⟨F ++ G,.cons t ts x xs v vs F G h1 h2,fun _ h=>h⟩
 | _,_,_,_,n + 1,.cons t ts x xs v vs F G h1 h2=>by
  obtain ⟨F',h3,h4⟩:=RdL.drop n h2
  exact ⟨F',h3,fun b hb=>by simp [h4 b hb]⟩
theorem RdL.take:∀ {ts:List CT} {x:List DC} {vs:List Value} {F:List Nat} (n:Nat),RdL ty w ts x vs F → ∃ F',RdL ty w (ts.take n) (x.take n) (vs.take n) F' ∧ ∀ b ∈ F',b ∈ F
 | _,_,_,_,n,.nil=>⟨[],by simp; exact .nil,fun _ h=>h⟩
 | _,_,_,_,0,.cons t ts x xs v vs F G h1 h2=>⟨[],.nil,fun _ h=>by cases h⟩
 | _,_,_,_,n + 1,.cons t ts x xs v vs F G h1 h2=>by
  obtain ⟨F',h3,h4⟩:=RdL.take n h2
  refine ⟨F ++ F',.cons t _ x _ v _ _ _ h1 h3,fun b hb=>?_⟩
  rcases List.mem_append.1 hb with hb | hb
  ·simp [hb]
  ·simp [h4 b hb]
theorem j51 {ts us:List CT} {x:List DC} {vs:List Value} {F:List Nat} {off:Nat} (h:RdL ty w ts x vs F) (hF:(∀ b ∈ F,g.I b) ∨ us.all CT.flat=true) (he:(ts.drop off).take us.length=us) :
  qr ty g H w (j4d us x off) ((vs.drop off).take us.length) ∧ ((vs.drop off).take us.length).length=us.length:=by
 obtain ⟨F1,h1,i1⟩:=h.drop off
 obtain ⟨F2,h2,i2⟩:=h1.take us.length
 rw [he] at h2
 refine ⟨j60 x off h2 (fun b hb=>by
  rcases hF with hF | hF
  ·exact hF b (i1 b (i2 b hb))
  ·rw [h2.flat hF] at hb
   cases hb) (fun i hi=>?_),h2.length.1⟩
 rw [List.getD_eq_getElem?_getD,List.getD_eq_getElem?_getD,List.getElem?_take,if_pos hi,List.getElem?_drop]
end
set_option linter.unusedVariables false
theorem jV {P:Program} {o:Oper} {a:Act} {w w':World} {K:Act → World → Prop} {Q:Exit → Act → World → Prop} {v:Value}
  (hr:(execOp a.eval o).run P w = .ok (.value v) w') (hk:K (a.put o.dst v) w'):o.wp P a w K Q:=by
 unfold Oper.wp
 rw [hr]
 exact hk
theorem j6H {P:Program} {o:Oper} {a:Act} {w w':World} {K:Act → World → Prop} {Q:Exit → Act → World → Prop}
  (hr:(execOp a.eval o).run P w = .ok .skip w') (hk:K (a.put o.dst undef) w'):o.wp P a w K Q:=by
 unfold Oper.wp
 rw [hr]
 exact hk
section
variable {P:Program} {ty:Nat → Option TI} {A:An} {g:Gh} {tm:List C} {H:List HS} {a:Act} {w:World} {o:Oper} {Q:Exit → Act → World → Prop}
def pD (ty:Nat → Option TI) (A:An) (g:Gh) (H:List HS) (w:World) (st':St) (a':Act) (w':World):Prop :=
 ∃ g',Rel ty A g' st' a' w' ∧ ∀ b,g.I b → g'.I b
theorem kR (h:Rel ty A g ⟨tm,H⟩ a w) {c:C} {v:Value} (hc:CR ty g H w c v):pD ty A g H w ⟨ka tm o.dst c,H⟩ (a.put o.dst v) w :=
 ⟨g,h.put o.dst hc,fun _ h=>h⟩
theorem SR.one {s:S} {v:Value} (h:SR ty g H w s v) (hd:s.isDef=true):v.oneCell'=true:=by
 cases s with
 | undef=>simp [S.isDef] at hd
 | nil=>rw [show v=_ from h]; rfl
 | bool b=>rw [show v=_ from h]; rfl
 | int k n=>rw [show v=_ from h]; rfl
 | str l=>rw [show v=_ from h]; rfl
 | sl e l=>obtain ⟨F,h1,_⟩:=h; exact h1.one
 | own id=>exact h.2.1
 | ptr id off=>exact h.2.1
 | fn f caps=>obtain ⟨vs,h1,_⟩:=h; rw [h1]; rfl
theorem j4c {v:Value} (h:v.oneCell'=true):v.cells = #[v]:=by
 cases v <;> first | rfl | simp [Value.oneCell'] at h
theorem qr.one:∀ {ss:List S} {vs:List Value},qr ty g H w ss vs → ss.all S.isDef=true → ∀ u ∈ vs,u.oneCell'=true
 | [],[],_,_=>fun _ h=>by cases h
 | s :: ss,v :: vs,⟨a,b⟩,hd=>fun u hu=>by
  simp only [List.all_cons,jk] at hd
  rcases List.mem_cons.1 hu with rfl | hu
  ·exact a.one hd.1
  ·exact qr.one b hd.2 u hu
 | [],_ :: _,h,_=>h.elim
 | _ :: _,[],h,_=>h.elim
theorem Yk {c:C} {v:Value} {ss:List S} (h:CR ty g H w c v) (e:c.cells=some ss) :
  ∃ vs:List Value,v.cells=vs.toArray ∧ qr ty g H w ss vs ∧ (∀ u ∈ vs,u.oneCell'=true) ∧ vs.length=ss.length:=by
 cases c with
 | one s =>
  simp only [C.cells] at e
  split at e
  ·rename_i hd
   simp only [j8] at e
   subst e
   have h1:=SR.one h hd
   exact ⟨[v],j4c h1,⟨h,trivial⟩,fun u hu=>by simp at hu; subst hu; exact h1,rfl⟩
  ·simp at e
 | agg l =>
  simp only [C.cells] at e
  split at e
  ·rename_i hd
   simp only [j8] at e
   subst e
   obtain ⟨vs,h1,h2⟩:=h
   exact ⟨vs,by rw [h1]; rfl,h2,h2.one hd,h2.length⟩
  ·simp at e
 | tup l=>simp [C.cells] at e
 | elS e x off=>simp [C.cells] at e
 | elO id ix e off=>simp [C.cells] at e
theorem qr.take:∀ {ss:List S} {vs:List Value} (n:Nat),qr ty g H w ss vs → qr ty g H w (ss.take n) (vs.take n)
 | [],[],n,_=>by simp [qr]
 | _ :: _,_ :: _,0,_=>trivial
 | _ :: _,_ :: _,n + 1,⟨a,b⟩=>⟨a,qr.take n b⟩
 | [],_ :: _,_,h=>h.elim
 | _ :: _,[],_,h=>h.elim
theorem qr.drop:∀ {ss:List S} {vs:List Value} (n:Nat),qr ty g H w ss vs → qr ty g H w (ss.drop n) (vs.drop n)
 | [],[],n,_=>by simp [qr]
 | _ :: _,_ :: _,0,h=>h
 | _ :: _,_ :: _,n + 1,⟨_,b⟩=>qr.drop n b
 | [],_ :: _,_,h=>h.elim
 | _ :: _,[],_,h=>h.elim
theorem qr.append:∀ {ss:List S} {vs:List Value} {ss':List S} {vs':List Value},qr ty g H w ss vs → qr ty g H w ss' vs' → qr ty g H w (ss ++ ss') (vs ++ vs')
 | [],[],_,_,_,h=>h
 | _ :: _,_ :: _,_,_,⟨a,b⟩,h=>⟨a,qr.append b h⟩
 | [],_ :: _,_,_,h,_=>h.elim
 | _ :: _,[],_,_,h,_=>h.elim
theorem qr.head {ss:List S} {vs:List Value} (h:qr ty g H w ss vs):SR ty g H w (ss.headD .undef) (vs.headD undef):=by
 match ss,vs,h with
 | [],[],_=>trivial
 | _ :: _,_ :: _,h=>exact h.1
theorem j9N {st:Bool} {ss:List S} {vs:List Value} (h:qr ty g H w ss vs):CR ty g H w (mkC st ss) (if st then .agg vs.toArray else vs.headD undef):=by
 cases st with
 | true=>exact ⟨vs,rfl,h⟩
 | false=>exact h.head
theorem j3X (x:Operand) (ho:o.op = .move x ∨ o.op = .assign x) (h:Rel ty A g ⟨tm,H⟩ a w) :
  o.wp P a w (pD ty A g H w ⟨ka tm o.dst (opd tm x),H⟩) Q:=by
 refine jV (v:=a.eval x) (w':=w) ?_ (kR h (h.opd x))
 rcases ho with ho | ho <;> simp [execOp,ho]
theorem j8c (c x y:Operand) (ho:o.op = .pick c x y) (h:Rel ty A g ⟨tm,H⟩ a w) {b:Bool} {s t:S} (hc:opd tm c = .one (.bool b)) (hx:opd tm x = .one s) (hy:opd tm y = .one t) :
  o.wp P a w (pD ty A g H w ⟨ka tm o.dst (match j9A b s t with | some r=>.one r | none=>if b=true then .one s else .one t),H⟩) Q:=by
 have rc:a.eval c = .bool b:=by have:=h.opd c; rw [hc] at this; exact this
 have rx:=h.opd x
 have ry:=h.opd y
 rw [hx] at rx
 rw [hy] at ry
 refine jV (v:=if b=true then a.eval x else a.eval y) (w':=w) (by simp [execOp,ho,rc,asBool]) (kR h ?_)
 unfold j9A
 split
 ·rename_i r hr
  split at hr
  ·rename_i p q
   simp only [j8] at hr
   subst hr
   rw [show a.eval x=_ from rx,show a.eval y=_ from ry]
   cases b <;> rfl
  ·rename_i k p k' q
   split at hr
   ·rename_i hk
    simp only [j8] at hr
    subst hr
    subst hk
    rw [show a.eval x=_ from rx,show a.eval y=_ from ry]
    cases b <;> rfl
   ·simp at hr
  ·rename_i p q
   simp only [j8] at hr
   subst hr
   rw [show a.eval x=_ from rx,show a.eval y=_ from ry]
   cases b <;> rfl
  ·simp at hr
 ·cases b
  ·exact ry
  ·exact rx
theorem j6P (c x y:Operand) (ho:o.op = .pick c x y) (h:Rel ty A g ⟨tm,H⟩ a w) {b:Bool} (hc:opd tm c = .one (.bool b)) :
  o.wp P a w (pD ty A g H w ⟨ka tm o.dst (if b=true then opd tm x else opd tm y),H⟩) Q:=by
 have rc:a.eval c = .bool b:=by have:=h.opd c; rw [hc] at this; exact this
 refine jV (v:=if b=true then a.eval x else a.eval y) (w':=w) (by simp [execOp,ho,rc,asBool]) (kR h ?_)
 cases b
 ·exact h.opd y
 ·exact h.opd x
theorem j4D (h:Rel ty A g ⟨tm,H⟩ a w) {base t:Nat} {ss:List S} {vs:List Value} (hf:jp H base = .free) (hs:qr ty g H w ss vs) (h1:∀ u ∈ vs,u.oneCell'=true) :
  pD ty A g H w ⟨ka tm o.dst (.one (.ptr base 0)),jB H base (.live (.var t ss))⟩ (a.put o.dst (.pointer (some ⟨w.heap.size,0,none⟩))) (w.alloc (.cells vs.toArray t)):=by
 obtain ⟨g',r,c,_,hb,hI⟩:=h.new (o:=.var t ss) (obj:=.cells vs.toArray t) hf undef fun g' hv hb hI c=>by
  refine ⟨⟨vs,by rw [hb]; exact heap_alloc_new w _,hs.mono c,?_,h1⟩,fun b hb'=>by simp only [jM] at hb'; rw [← hb',hb]⟩
  rw [hb,hI]
  intro hi
  exact absurd (h.lt _ hi) (Nat.lt_irrefl _)
 refine ⟨g',r.put o.dst (c:=.one (.ptr base 0)) ⟨?_,rfl,fun _=>by rw [hb]⟩,c.I⟩
 exact qj (jt _ (kM hf))
theorem j2C:∀ (ts:List CT),qr ty g H w (ts.map j5q) (ts.map Q5) ∧ ∀ u ∈ ts.map Q5,u.oneCell'=true
 | []=>⟨trivial,fun _ h=>by cases h⟩
 | t :: ts=>by
  obtain ⟨h1,h2⟩:=j2C ts
  refine ⟨⟨?_,h1⟩,fun u hu=>?_⟩
  ·cases t <;> rfl
  ·simp only [js,List.mem_cons] at hu
   rcases hu with rfl | hu
   ·cases t <;> rfl
   ·exact h2 u (by simpa using hu)
theorem j6T (hty:y9 P ty) (t base:Nat) (ti:TI) (ho:o.op = .alloc t) (h:Rel ty A g ⟨tm,H⟩ a w) (ht:ty t=some ti) (hf:jp H base = .free) :
  o.wp P a w (pD ty A g H w ⟨ka tm o.dst (.one (.ptr base 0)),jB H base (.live (.var t (ti.cts.map j5q)))⟩) Q:=by
 obtain ⟨inf,z,hi,hsz,hby,hz,hzc⟩:=(hty t ti ht).info
 obtain ⟨h1,h2⟩:=j2C (ty:=ty) (g:=g) (H:=H) (w:=w) ti.cts
 refine jV (v:=.pointer (some ⟨w.heap.size,0,none⟩)) (w':=w.alloc (.cells (ti.cts.map Q5).toArray t)) ?_ (j4D h hf h1 h2)
 simp [execOp,ho,Instr.alloc,j3C hi hz,newVar,newRow,hzc]
theorem j9j (t base:Nat) (ss:List S) (x:Operand) (ho:o.op = .box t x) (h:Rel ty A g ⟨tm,H⟩ a w) (hx:(opd tm x).cells=some ss) (hf:jp H base = .free) :
  o.wp P a w (pD ty A g H w ⟨ka tm o.dst (.one (.ptr base 0)),jB H base (.live (.var t ss))⟩) Q:=by
 obtain ⟨vs,h1,h2,h3,_⟩:=Yk (h.opd x) hx
 refine jV (v:=.pointer (some ⟨w.heap.size,0,none⟩)) (w':=w.alloc (.cells vs.toArray t)) ?_ (j4D h hf h2 h3)
 simp [execOp,ho,Instr.box,newVar,newRow,h1]
theorem List.getElem?_drop_take {α:Type} (l:List α) (off n j:Nat) (hj:j < n):((l.drop off).take n)[j]? = l[off + j]?:=by
 rw [List.getElem?_take,if_pos hj,List.getElem?_drop]
theorem j8d (hty:y9 P ty) (t:Nat) (x:Operand) (ho:o.op = .load t x) (h:Rel ty A g ⟨tm,H⟩ a w) {c:Cls} {v:C}
  (e:JS (ρ:=Option (Cls × C)) ty none t ⟨tm,H⟩ (opd tm x) (fun c v=>some (c,v))=some (c,v)) :
  o.wp P a w (pD ty A g H w ⟨ka tm o.dst v,H⟩) Q:=by
 unfold JS at e
 have hx:=h.opd x
 split at e
 ·simp at e
 ·rename_i ti ht
  have htk:=hty t ti ht
  have fin:∀ (b off:Nat) (vs:List Value) (ss:List S),a.eval x = .pointer (some ⟨b,off,none⟩) → vs.length=ti.cts.length → (∀ (j:Nat) (u:Value),vs[j]? = some u → w.cell? ⟨b,off + j,none⟩=some u) →
    qr ty g H w ss vs → v=mkC (jQ (some ti)) ss → o.wp P a w (pD ty A g H w ⟨ka tm o.dst v,H⟩) Q:=by
   intro b off vs ss hp hl hc hs hv
   refine jV (v:=if jQ (some ti) then .agg vs.toArray else vs.headD undef) (w':=w) ?_ (kR h (by rw [hv]; exact j9N hs))
   simp [execOp,ho,Instr.loadAt,hp,Instr.sureAddr,XW htk w b off vs hl hc]
  split at e
  ·rename_i id off hid
   rw [hid] at hx
   split at e
   ·rename_i t' cs hv
    split at e
    ·rename_i hfit
     simp only [j8,ji] at e
     obtain ⟨vs,h1,h2,_⟩:=h.ob id _ hv
     have hlen:=h2.length
     refine fin (g.blk id) off ((vs.drop off).take ti.cts.length) _ (hx.2.2 ⟨_,_,hv⟩) (by simp; omega) (fun j u hu=>?_) ((h2.drop off).take ti.cts.length) e.2.symm
     have hj:j < ti.cts.length:=by
      rcases jA j ti.cts.length with h' | h'
      ·exact h'
      ·rw [List.getElem?_take,if_neg (by omega)] at hu; simp at hu
     rw [List.getElem?_drop_take _ _ _ _ hj] at hu
     simp [World.cell?,h1,hu]
    ·simp at e
   ·simp at e
  ·rename_i el y off hid
   rw [hid] at hx
   split at e
   ·rename_i te hte
    split at e
    ·rename_i hsame
     simp only [j8,ji] at e
     obtain ⟨ti',b,o',vs,F,h1,h2,h3,h4,h5,h6⟩:=hx
     obtain rfl:te=ti':=by rw [hte] at h1; exact Option.some.inj h1
     obtain ⟨p1,p2⟩:=j51 (H:=H) h4 (.inl h5) (CT.sameL_eq hsame)
     refine fin b (o' + off) _ _ h2 p2 (fun j u hu=>?_) p1 e.2.symm
     have hj:j < ti.cts.length:=by
      rcases jA j ti.cts.length with h' | h'
      ·exact h'
      ·rw [List.getElem?_take,if_neg (by omega)] at hu; simp at hu
     rw [List.getElem?_drop_take _ _ _ _ hj] at hu
     rw [Nat.add_assoc]
     exact h3 _ u hu
    ·simp at e
   ·simp at e
  ·rename_i el id ix off hid
   rw [hid] at hx
   split at e
   ·rename_i te e' l hte hrow
    split at e
    ·rename_i hc
     obtain ⟨hee,hh,hsame⟩:=hc
     simp only [j8,ji] at e
     subst hee
     obtain ⟨ti',b,len,cap,h1,h2,h3,h4⟩:=hx.2 ⟨_,_,.inl hrow⟩
     obtain rfl:te=ti':=by rw [hte] at h1; exact Option.some.inj h1
     obtain ⟨ti'',vs,F,k1,k0,k2,k3,k4,k5⟩:=h.ob id _ hrow
     obtain rfl:te=ti'':=by rw [hte] at k1; exact Option.some.inj k1
     have hlen:l.length=len:=by
      rcases k2.2 with ⟨hv,_⟩ | ⟨_,_,_,hv,_⟩
      ·rw [h2] at hv; simp at hv
      ·rw [h2] at hv; simp at hv; exact hv.2.1.symm
     obtain ⟨u,G,q1,q2,q3⟩:=(k3.v hh).at ix (by omega)
     have hfl:(∀ b ∈ G,g.I b) ∨ ti.cts.all CT.flat=true:=by
      cases he:dp e' with
      | false=>exact .inl fun b hb=>(kz.shallow he).1 k4 b (q2 b hb)
      | true=>right; simpa [he] using hsame.2
     obtain ⟨p1,p2⟩:=j51 (H:=H) q1 hfl (CT.sameL_eq hsame.1)
     refine fin b (ix * te.cts.length + off) _ _ h4 p2 (fun j x hu=>?_) p1 e.2.symm
     have hj:j < ti.cts.length:=by
      rcases jA j ti.cts.length with h' | h'
      ·exact h'
      ·rw [List.getElem?_take,if_neg (by omega)] at hu; simp at hu
     rw [List.getElem?_drop_take _ _ _ _ hj] at hu
     have hjl:off + j < te.cts.length:=by
      have:=(RdL.length q1).1
      rcases jA (off + j) u.length with h' | h'
      ·omega
      ·simp [List.getElem?_eq_none h'] at hu
     have hk:ix * te.cts.length + off + j < l.length * te.cts.length:=by
      have:=Nat.mul_le_mul_right te.cts.length (show ix + 1 ≤ l.length by omega)
      rw [Nat.succ_mul] at this
      omega
     rw [World.ownsRow.cellAt (w:=w) (g:=b) (n:=l.length) (cap:=cap) (xs:=vs) (base:=0) (e:=yz e') (size:=te.cts.length) (by rw [hlen,← h2,← hlen]; exact k2) _ hk,Nat.add_assoc,q3 _ hjl]
     exact hu
    ·simp at e
   ·rename_i te e' l hte hrow
    split at e
    ·rename_i hc
     obtain ⟨hee,hde,hsame⟩:=hc
     simp only [j8,ji] at e
     subst hee
     obtain ⟨ti',b,len,cap,h1,h2,h3,h4⟩:=hx.2 ⟨_,_,.inr (.inl hrow)⟩
     obtain rfl:te=ti':=by rw [hte] at h1; exact Option.some.inj h1
     obtain ⟨F,k2,k4⟩:=h.ob id _ hrow
     rw [h2] at k2
     cases k2 with
     | nil=>omega
     | sl _ ti'' _ _ _ _ _ vs F k1 k0 kn kne kcap kc k3 =>
      obtain rfl:te=ti'':=by rw [ku hde,k1] at hte; exact (Option.some.inj hte).symm
      obtain ⟨u,G,q1,q2,q3⟩:=k3.at ix (by omega)
      obtain ⟨p1,p2⟩:=j51 (H:=H) q1 (.inl fun c hb=>k4 c (by simp [q2 c hb])) (CT.sameL_eq hsame)
      refine fin b (ix * te.cts.length + off) _ _ h4 p2 (fun j x hu=>?_) p1 e.2.symm
      have hj:j < ti.cts.length:=by
       rcases jA j ti.cts.length with h' | h'
       ·exact h'
       ·rw [List.getElem?_take,if_neg (by omega)] at hu; simp at hu
      rw [List.getElem?_drop_take _ _ _ _ hj] at hu
      have hjl:off + j < te.cts.length:=by
       have:=(RdL.length q1).1
       rcases jA (off + j) u.length with h' | h'
       ·omega
       ·simp [List.getElem?_eq_none h'] at hu
      have:=kc (ix * te.cts.length + (off + j)) x (by rw [q3 _ hjl]; exact hu)
      rw [Nat.zero_add] at this
      rw [Nat.add_assoc]
      exact this
    ·simp at e
   ·simp at e
  ·simp at e
end
section
variable {ty:Nat → Option TI}
theorem RdL.upd {w:World}:∀ {ts:List CT} {x:List DC} {v:List Value} {F:List Nat},RdL ty w ts x v F → ∀ (off:Nat),off < ts.length →
  ∃ t d u F1 Fc F2,ts[off]? = some t ∧ x[off]? = some d ∧ v[off]? = some u ∧ F=F1 ++ (Fc ++ F2) ∧ RdC ty w t d u Fc ∧
   ∀ (w':World) (d':DC) (u':Value) (Fc':List Nat),(∀ b ∈ F1 ++ F2,w'.heap[b]? = w.heap[b]?) → RdC ty w' t d' u' Fc' →
    RdL ty w' ts (x.set off d') (v.set off u') (F1 ++ (Fc' ++ F2))
 | _,_,_,_,.nil,_,h=>absurd h (Nat.not_lt_zero _)
 | _,_,_,_,.cons t ts x xs v vs F G h1 h2,0,_ =>
  ⟨t,x,v,[],F,G,rfl,rfl,rfl,rfl,h1,fun _ _ _ _ ha hc=>by rw [jg]; exact .cons _ _ _ _ _ _ _ _ hc (RdL.frame h2 fun b hb=>ha b (by rw [jg]; exact hb))⟩
 | _,_,_,_,.cons t ts x xs v vs F G h1 h2,off + 1,h=>by
  obtain ⟨t',d,u,F1,Fc,F2,e1,e2,e3,e4,h3,h4⟩:=RdL.upd h2 off (by simpa using h)
  refine ⟨t',d,u,F ++ F1,Fc,F2,by simpa using e1,by simpa using e2,by simpa using e3,by rw [e4,jD],h3,fun w' d' u' Fc' ha hc=>?_⟩
  rw [jD]
  exact .cons _ _ _ _ _ _ _ _ (RdC.frame h1 fun b hb=>ha b (by simp [hb])) (h4 w' d' u' Fc' (fun b hb=>ha b (by
   rcases List.mem_append.1 hb with hb | hb <;> simp [hb])) hc)
theorem RdV.upd {w:World} {ts:List CT}:∀ {l:List (List DC)} {vs:List Value} {F:List Nat},RdV ty w ts l vs F → ∀ (ix:Nat),ix < l.length →
  ∃ x v F1 Fr F2,l[ix]? = some x ∧ (vs.drop (ix * ts.length)).take ts.length=v ∧ F=F1 ++ (Fr ++ F2) ∧ RdL ty w ts x v Fr ∧
   ∀ (w':World) (x':List DC) (v':List Value) (Fr':List Nat),(∀ b ∈ F1 ++ F2,w'.heap[b]? = w.heap[b]?) → RdL ty w' ts x' v' Fr' →
    RdV ty w' ts (l.set ix x') (vs.take (ix * ts.length) ++ (v' ++ vs.drop (ix * ts.length + ts.length))) (F1 ++ (Fr' ++ F2))
 | _,_,_,.nil _,_,h=>absurd h (Nat.not_lt_zero _)
 | _,_,_,.cons _ x l v vs F G h1 h2,0,_=>by
  have hl:=(RdL.length h1).1
  refine ⟨x,v,[],F,G,rfl,by rw [Nat.zero_mul,List.drop_zero,List.take_append_of_le_length (by omega),List.take_of_length_le (by omega)],rfl,h1,fun w' x' v' Fr' ha hc=>?_⟩
  rw [Nat.zero_mul,List.take_zero,jg,Nat.zero_add,List.drop_append,List.drop_of_length_le (by omega),jg,hl,Nat.sub_self,List.drop_zero,jg]
  exact .cons _ _ _ _ _ _ _ hc (RdV.frame h2 fun b hb=>ha b (by rw [jg]; exact hb))
 | _,_,_,.cons _ x l v vs F G h1 h2,ix + 1,h=>by
  have hl:=(RdL.length h1).1
  obtain ⟨y,u,F1,Fr,F2,e1,e2,e3,h3,h4⟩:=RdV.upd h2 ix (by simpa using h)
  have ed:∀ k,(v ++ vs).drop ((ix + 1) * ts.length + k)=vs.drop (ix * ts.length + k):=fun k=>by
   rw [List.drop_append,List.drop_of_length_le (by rw [hl,Nat.succ_mul]; omega),jg]
   congr 1
   rw [hl,Nat.succ_mul]; omega
  have et:(v ++ vs).take ((ix + 1) * ts.length)=v ++ vs.take (ix * ts.length):=by
   rw [List.take_append,hl,List.take_of_length_le (by rw [hl,Nat.succ_mul]; omega)]
   congr 2
   rw [Nat.succ_mul]; omega
  refine ⟨y,u,F ++ F1,Fr,F2,by simpa using e1,by rw [show (ix + 1) * ts.length=(ix + 1) * ts.length + 0 from rfl,ed 0]; exact e2,by rw [e3,jD],h3,fun w' x' v' Fr' ha hc=>?_⟩
  rw [et,ed ts.length,jD,jD]
  exact .cons _ _ _ _ _ _ _ (RdL.frame h1 fun b hb=>ha b (by simp [hb])) (h4 w' x' v' Fr' (fun b hb=>ha b (by
   rcases List.mem_append.1 hb with hb | hb <;> simp [hb])) hc)
end
section
variable {P:Program} {ty:Nat → Option TI} {A:An} {g:Gh} {tm:List C} {H:List HS} {a:Act} {w:World} {o:Oper} {Q:Exit → Act → World → Prop}
theorem Ki (h:Rel ty A g ⟨tm,H⟩ a w) {id i b:Nat} {x p:Obj'} (hi:jp H id = .live x) (hb:jM g id x b) (hne:i ≠ id) (hp:jp H i = .live p):¬ jM g i p b :=
 fun hk=>h.sep i id p x b hne hp hi hk hb
theorem yo (h:Rel ty A g ⟨tm,H⟩ a w) {id b:Nat} {x:Obj'} (hi:jp H id = .live x) (hb:jM g id x b):¬ g.I b:=by
 cases x with
 | var t cs=>obtain ⟨_,_,_,k,_⟩:=h.ob id _ hi; have hb:g.blk id=b:=hb; subst hb; exact k
 | row e l=>obtain ⟨_,_,_,_,_,_,_,_,k⟩:=h.ob id _ hi; exact k b hb
 | fz e l=>simp [jM] at hb
 | pt e l=>obtain ⟨_,_,_,_,k⟩:=h.ob id _ hi; exact k b hb
 | hl e l ix=>obtain ⟨_,_,_,_,_,_,_,_,_,_,_,_,_,_,k⟩:=h.ob id _ hi; exact k b hb
theorem j0c {A:An} {b c:Nat} {x:Obj'} (h:j19 A b x) (hc:c < A.w0.heap.size) (hv:¬ A.Pv c) (hm:¬ A.Pm c):c ≠ b:=by
 rintro rfl
 cases x <;> simp only [j19] at h <;> rcases h with h | h <;> first | omega | exact hv h | exact hm h
theorem Rel.setVar (h:Rel ty A g ⟨tm,H⟩ a w) {id t off:Nat} {cs ss:List S} {vs:List Value} (hv:jp H id = .live (.var t cs)) (hs:qr ty g H w ss vs) (h1:∀ u ∈ vs,u.oneCell'=true)
  (hfit:off + ss.length ≤ cs.length):∃ cur,w.heap[g.blk id]? = some (.cells cur t (0,0)) ∧ cur.size=cs.length ∧
   Rel ty A g ⟨tm,jB H id (.live (.var t (XV cs off ss)))⟩ a (w.setRow (g.blk id) (cur.toList.take off ++ vs ++ cur.toList.drop (off + vs.length)).toArray):=by
 obtain ⟨us,k1,k2,k3,k4⟩:=h.ob id _ hv
 have hlen:=k2.length
 have hsl:=hs.length
 refine ⟨us.toArray,k1,by simp [hlen],(h.upd (id:=id) (g':=g) (x:=.live (.var t (XV cs off ss))) (jF hv) (by simp) rfl (fun _ _=>⟨rfl,rfl,rfl⟩) (fun _ hr=>?_) (fun _ hr=>⟨⟨_,_,hv⟩,rfl⟩) (fun b hb=>?_) ?_ (fun c o ho=>?_) (fun hm hr=>h.pb id hm ⟨_,_,hv⟩) ?_).1⟩
 ·obtain ⟨e,l,hr⟩:=hr; simp [jt _ (jF hv)] at hr
 ·refine setRow_other _ _ _ _ ?_
  rintro rfl
  rcases hb with hb | ⟨i,p,hne,hi,hb⟩
  ·exact k3 hb
  ·exact Ki h hv rfl hne hi hb
 ·simp [World.setRow]
 ·obtain rfl:Obj'.var t (XV cs off ss)=o:=by simpa using ho
  refine ⟨⟨us.take off ++ vs ++ us.drop (off + vs.length),setRow_heap _ _ _ _ _ _ k1,?_,k3,fun u hu=>?_⟩,fun b hb=>?_⟩
  ·have:=(k2.take off).append (hs.append (k2.drop (off + ss.length)))
   have:=qr.mono c this
   rw [jD]
   rw [← hsl] at this
   simpa [XV,hsl] using this
  ·simp only [jC] at hu
   rcases hu with (hu | hu) | hu
   ·exact k4 u (List.mem_of_mem_take hu)
   ·exact h1 u hu
   ·exact k4 u (List.mem_of_mem_drop hu)
  ·have hb:g.blk id=b:=hb
   subst hb
   exact ⟨k3,h.ow id (.var t cs) _ hv rfl,fun i p hne hi=>Ki h hv rfl hne hi⟩
 ·refine h.keep.trans rfl rfl rfl (by simp [World.setRow]) fun b hb hp hm=>setRow_other _ _ _ _ (j0c (h.ow id _ _ hv rfl) hb hp hm)
theorem j9O {α:Type} (P u R:List α) (off:Nat) (new:List α) (h:off + new.length ≤ u.length) :
  (P ++ (u ++ R)).take (P.length + off) ++ (new ++ (P ++ (u ++ R)).drop (P.length + off + new.length))=P ++ ((u.take off ++ (new ++ u.drop (off + new.length))) ++ R):=by
 have e1:(P ++ (u ++ R)).take (P.length + off)=P ++ u.take off:=by
  rw [List.take_append,List.take_of_length_le (by omega),Nat.add_sub_cancel_left,List.take_append,show off - u.length=0 by omega]
  simp
 have e2:(P ++ (u ++ R)).drop (P.length + off + new.length)=u.drop (off + new.length) ++ R:=by
  rw [List.drop_append,List.drop_of_length_le (by omega),show P.length + off + new.length - P.length=off + new.length by omega,List.drop_append,show off + new.length - u.length=0 by omega]
  simp
 rw [e1,e2]
 simp
theorem j5z {α:Type} (X vs:List α) (m p:Nat) (h:p + vs.length ≤ m) (hm:m ≤ X.length) :
  (X.take p ++ vs ++ X.drop (p + vs.length)).take m=(X.take m).take p ++ (vs ++ (X.take m).drop (p + vs.length)):=by
 apply List.ext_getElem?
 intro j
 rw [jD,List.getElem?_take]
 by_cases h1:j < p
 ·rw [if_pos (by omega),List.getElem?_append_left (by simp; omega),List.getElem?_append_left (by simp; omega),List.getElem?_take,if_pos h1,List.getElem?_take,if_pos h1,List.getElem?_take,if_pos (by omega)]
 ·have hp:(X.take p).length=p:=by simp; omega
  have hp':((X.take m).take p).length=p:=by simp; omega
  by_cases h2:j < p + vs.length
  ·rw [if_pos (by omega),List.getElem?_append_right (by omega),List.getElem?_append_left (by omega),List.getElem?_append_right (by omega),List.getElem?_append_left (by omega),hp,hp']
  ·by_cases h3:j < m
   ·rw [if_pos h3,List.getElem?_append_right (by omega),List.getElem?_append_right (by omega),List.getElem?_append_right (by omega),List.getElem?_append_right (by omega),hp,hp',
     List.getElem?_drop,List.getElem?_drop,List.getElem?_take,if_pos (by omega)]
   ·rw [if_neg h3,List.getElem?_eq_none]
    simp
    omega
theorem RdL.split:∀ {ts:List CT} {x:List DC} {vs:List Value} {F:List Nat} (n:Nat),RdL ty w ts x vs F →
  ∃ F1 F2,F=F1 ++ F2 ∧ RdL ty w (ts.take n) (x.take n) (vs.take n) F1 ∧ RdL ty w (ts.drop n) (x.drop n) (vs.drop n) F2
 | _,_,_,_,n,.nil=>⟨[],[],rfl,by simp; exact .nil,by simp; exact .nil⟩
 | _,_,_,_,0,.cons t ts x xs v vs F G h1 h2=>⟨[],F ++ G,rfl,.nil,.cons t ts x xs v vs F G h1 h2⟩
 | _,_,_,_,n + 1,.cons t ts x xs v vs F G h1 h2=>by
  obtain ⟨F1,F2,e,h3,h4⟩:=RdL.split n h2
  exact ⟨F ++ F1,F2,by rw [e,jD],.cons t _ x _ v _ _ _ h1 h3,h4⟩
def Ve (A:An) (g:Gh) (H:List HS) (w:World) (e:Nat) (F:List Nat):Prop :=
 match dp e with
 | false=>∀ b ∈ F,g.I b
 | true=>Own w F ∧ ∀ b ∈ F,¬ g.I b ∧ (A.w0.heap.size ≤ b ∨ A.Pm b) ∧ ∀ i p,jp H i = .live p → ¬ jM g i p b
theorem Ve.shallow {e:Nat} {F:List Nat} (h:dp e=false):Ve A g H w e F ↔ ∀ b ∈ F,g.I b:=by unfold Ve; rw [h]
theorem Ve.deep {e:Nat} {F:List Nat} (h:dp e=true):Ve A g H w e F ↔ (Own w F ∧ ∀ b ∈ F,¬ g.I b ∧ (A.w0.heap.size ≤ b ∨ A.Pm b) ∧ ∀ i p,jp H i = .live p → ¬ jM g i p b):=by unfold Ve; rw [h]
theorem Mv.new {H0:List HS} {e:Nat} {F:List Nat} (h0:Rel ty A g ⟨tm,H0⟩ a w) (hd:dp e=true) (m:Mv g H0 H w F):Ve A g H w e F :=
 (Ve.deep hd).2 ⟨m.own,fun b hb=>by
  obtain ⟨id,o,h1,h2,h3⟩:=m.src b hb
  refine ⟨yo h0 h1 h2,?_,m.gone b hb⟩
  have hw:=h0.ow id _ b h1 h2
  cases o with
  | var t cs=>exact absurd rfl (h3 t cs)
  | row e l=>exact hw
  | fz e l=>exact hw
  | pt e l=>exact hw
  | hl e l ix=>exact hw⟩
theorem Rel.setElem (h:Rel ty A g ⟨tm,H⟩ a w) {id e ix off:Nat} {te:TI} {l:List (List DC)} {ts:List CT} {ds:List DC} {vs:List Value} {F:List Nat} (hte:ty (yz e)=some te)
  (hr:jp H id = .live (.row e l)) (hh:hq e=false) (hd:RdL ty w ts ds vs F) (hF:Ve A g H w e F) (hts:(te.cts.drop off).take ts.length=ts) (hix:ix < l.length) (h0:0 < ts.length)
  {b len cap:Nat} (hval:g.val id = .slice (some ⟨b,0,none⟩) len cap) :
  ∃ cur g',w.heap[b]? = some (.cells cur (yz e) (0,0)) ∧ ix * te.cts.length + off + vs.length ≤ cur.size ∧
   Rel ty A g' ⟨tm,jB H id (.live (.row e (l.set ix (j03 (l.getD ix []) off ds))))⟩ a
    (w.setRow b (cur.toList.take (ix * te.cts.length + off) ++ vs ++ cur.toList.drop (ix * te.cts.length + off + vs.length)).toArray) ∧ g'.I=g.I:=by
 obtain ⟨te',us,G,k1,k0,k2,k3,k4,k5⟩:=h.ob id _ hr
 have k3:=k3.v hh
 obtain rfl:te=te':=by rw [hte] at k1; exact Option.some.inj k1
 have hvl:=hd.length
 have hsub:off + ts.length ≤ te.cts.length:=by
  have:=congrArg List.length hts
  simp at this
  omega
 obtain ⟨x,u,A1,Ar,A2,q0,q3,eG,q1,hset⟩:=RdV.upd k3 ix hix
 have hlx:l.getD ix []=x:=by rw [List.getD_eq_getElem?_getD,q0]; rfl
 have hul:=q1.length
 have hmul:ix * te.cts.length + te.cts.length ≤ l.length * te.cts.length:=by
  have:=Nat.mul_le_mul_right te.cts.length (show ix + 1 ≤ l.length by omega)
  rw [Nat.succ_mul] at this
  exact this
 have husl:=k3.length
 obtain ⟨F1,B2,eA,r1,r23⟩:=q1.split off
 obtain ⟨Fm,F2,eB,_,r2⟩:=r23.split ts.length
 rw [List.drop_drop,List.drop_drop,List.drop_drop] at r2
 have hrow:RdL ty w te.cts (j03 x off ds) (u.take off ++ (vs ++ u.drop (off + vs.length))) (F1 ++ (F ++ F2)):=by
  have:=r1.append (hd.append r2)
  have e:te.cts.take off ++ (ts ++ te.cts.drop (off + ts.length))=te.cts:=by
   rw [← hts,List.length_take,List.length_drop,Nat.min_eq_left (by omega),← List.drop_drop,List.take_append_drop,List.take_append_drop]
  rw [e] at this
  simpa [j03,hvl.1,hvl.2] using this
 have hset:=hset w _ _ _ (fun _ _=>rfl) hrow
 generalize hF4:A1 ++ ((F1 ++ (F ++ F2)) ++ A2)=F4 at hset
 have i4:∀ c ∈ F4,c ∈ G ∨ c ∈ F:=by
  intro c hc
  rw [← hF4] at hc
  rw [eG,eA,eB]
  simp only [jC] at hc ⊢
  rcases hc with hc | ((hc | hc | hc) | hc) <;> simp [hc]
 have huR:us=us.take (ix * te.cts.length) ++ (u ++ us.drop (ix * te.cts.length + te.cts.length)):=by
  rw [← q3,← List.drop_drop,List.take_append_drop,List.take_append_drop]
 have hmid:=j9O (us.take (ix * te.cts.length)) u (us.drop (ix * te.cts.length + te.cts.length)) off vs (by omega)
 rw [List.length_take,Nat.min_eq_left (by omega),← huR] at hmid
 rcases k2.2 with ⟨hv,_⟩ | ⟨k,cap',cur,hv,hk,hg,hnc,hcm,hcs,htake⟩
 ·rw [hval] at hv; simp at hv
 ·rw [hval] at hv
  simp only [Value.slice.injEq,j8,Addr.mk.injEq,and_true] at hv
  obtain ⟨rfl,rfl,rfl⟩:=hv
  have hcap:l.length * te.cts.length ≤ cap * te.cts.length:=Nat.mul_le_mul_right _ hnc
  have hob:(g.val id).ownBlock=some b:=by rw [hval]; rfl
  have hbI:¬ g.I b:=k5 b (.inl hob)
  let g':Gh:={ g with dom:=fun i=>if i=id then (fun c=>c ∈ F4) else g.dom i }
  have hdom:∀ c,g'.dom id c ↔ c ∈ F4:=fun c=>by simp [g']
  have hne:∀ c ∈ F4,c ≠ b:=by
   intro c hc e
   subst e
   cases he:dp e with
   | false =>
    rw [kz.shallow he] at k4
    rw [Ve.shallow he] at hF
    rcases i4 c hc with hc | hc
    ·exact hbI (k4 c hc)
    ·exact hbI (hF c hc)
   | true =>
    rw [kz.deep he] at k4
    rw [Ve.deep he] at hF
    rcases i4 c hc with hc | hc
    ·exact k4.2.2 c hc hob
    ·exact (hF.2 c hc).2.2 id _ hr (.inl hob)
  have hnb:∀ c,zq g' id e c → ¬ g.I c ∧ j19 A c (.row e l) ∧ ∀ i p,i ≠ id → jp H i = .live p → ¬ jM g i p c:=by
   intro c hc
   have old:zq g id e c → ¬ g.I c ∧ j19 A c (.row e l) ∧ ∀ i p,i ≠ id → jp H i = .live p → ¬ jM g i p c :=
    fun hc=>⟨k5 c hc,h.ow id (.row e l) _ hr hc,fun i p hne hi=>Ki h hr (show jM g id (.row e l) c from hc) hne hi⟩
   rcases hc with hc | ⟨he,hc⟩
   ·exact old (.inl hc)
   ·rcases i4 c ((hdom c).1 hc) with hc | hc
    ·exact old (.inr ⟨he,(((kz.deep he).1 k4).2.1 c).2 hc⟩)
    ·obtain ⟨m1,m2,m3⟩:=((Ve.deep he).1 hF).2 c hc
     exact ⟨m1,m2,fun i p _ hi=>m3 i p hi⟩
  refine ⟨cur,g',hg,by omega,(h.upd (id:=id) (g':=g') (x:=.live (.row e _)) (jF hr) (by simp) rfl (fun i hi=>⟨rfl,rfl,by simp [g',hi]⟩) (fun _ _=>⟨⟨_,_,.inl hr⟩,rfl⟩) (fun _ hx=>?_) (fun c hc=>?_) ?_ (fun ch x hx=>?_) (fun hm hx=>?_) ?_).1,rfl⟩
  ·obtain ⟨t,cs,hx⟩:=hx; simp [jt _ (jF hr)] at hx
  ·refine setRow_other _ _ _ _ ?_
   rintro rfl
   rcases hc with hc | ⟨i,p,hne,hi,hc⟩
   ·exact hbI hc
   ·exact Ki h hr (show jM g id (.row e l) c from .inl hob) hne hi hc
  ·simp [World.setRow]
  ·obtain rfl:Obj'.row e (l.set ix (j03 (l.getD ix []) off ds))=x:=by simpa using hx
   rw [hlx]
   have hheap:∀ c ∈ F4,(w.setRow b (cur.toList.take (ix * te.cts.length + off) ++ vs ++ cur.toList.drop (ix * te.cts.length + off + vs.length)).toArray).heap[c]? = w.heap[c]? :=
    fun c hc=>setRow_other _ _ _ _ (hne c hc)
   refine ⟨⟨te,_,F4,hte,k0,?_,.of (hset.frame hheap),?_,fun c hc=>(hnb c hc).1⟩,fun c hc=>hnb c hc⟩
   ·rw [show g'.val id=g.val id from rfl,hval]
    refine ⟨?_,.inr ⟨b,cap,_,?_,Nat.zero_le _,setRow_heap _ _ _ _ _ _ hg,?_,hcm,?_,?_⟩⟩
    ·have:=hset.length; exact this
    ·simp
    ·simpa using hnc
    ·simp only [List.size_toArray,jj,List.length_take,List.length_drop,Array.length_toList]
     omega
    ·rw [List.length_set,← hmid,← htake]
     exact j5z _ _ _ _ (by omega) (by simp; omega)
   ·cases he:dp e with
    | false =>
     rw [kz.shallow he] at k4 ⊢
     rw [Ve.shallow he] at hF
     intro c hc
     rcases i4 c hc with hc | hc
     ·exact k4 c hc
     ·exact hF c hc
    | true =>
     rw [kz.deep he] at k4 ⊢
     rw [Ve.deep he] at hF
     have hop:Own w F4:=by
      refine ⟨?_,fun c hc=>?_⟩
      ·have hsl:(A1 ++ ((F1 ++ F2) ++ A2)).Sublist G:=by
        rw [eG,eA,eB]
        refine List.Sublist.append (List.Sublist.refl _) (List.Sublist.append (List.Sublist.append (List.Sublist.refl _) ?_) (List.Sublist.refl _))
        exact List.sublist_append_right _ _
       have hp:(F ++ (A1 ++ ((F1 ++ F2) ++ A2))).Perm F4:=by
        rw [← hF4]
        simp only [jD]
        refine (List.perm_append_comm_assoc _ _ _).trans (List.Perm.append_left _ ?_)
        exact List.perm_append_comm_assoc _ _ _
       refine hp.nodup_iff.1 (List.nodup_append.2 ⟨hF.1.nodup,k4.1.nodup.sublist hsl,fun y hy z hz e'=>?_⟩)
       subst e'
       exact (hF.2 y hy).2.2 id _ hr (.inr ⟨he,(k4.2.1 y).2 (hsl.subset hz)⟩)
      ·rcases i4 c hc with hc | hc
       ·exact k4.1.open' c hc
       ·exact hF.1.open' c hc
     exact ⟨hop.frame hheap,hdom,fun c hc hc'=>hne c hc (by rw [show g'.val id=g.val id from rfl,hob] at hc'; exact (Option.some.inj hc').symm)⟩
  ·obtain ⟨t,cs,hx⟩:=hx; simp [jt _ (jF hr)] at hx
  ·refine h.keep.trans rfl rfl rfl (by simp [World.setRow]) fun c hc hp hm=>setRow_other _ _ _ _ (j0c (h.ow id (.row e l) b hr (.inl hob)) hc hp hm)
theorem Rel.setHole (h:Rel ty A g ⟨tm,H⟩ a w) {id e ix:Nat} {te:TI} {l:List (List DC)} {ds:List DC} {vs:List Value} {F:List Nat} (hte:ty (yz e)=some te)
  (hr:jp H id = .live (.hl e l ix)) (hd:RdL ty w te.cts ds vs F) (hF0:Ve A g H w e F) {b len cap:Nat} (hval:g.val id = .slice (some ⟨b,0,none⟩) len cap) :
  ∃ cur g',w.heap[b]? = some (.cells cur (yz e) (0,0)) ∧ ix * te.cts.length + vs.length ≤ cur.size ∧
   Rel ty A g' ⟨tm,jB H id (.live (.row e (l.set ix ds)))⟩ a
    (w.setRow b (cur.toList.take (ix * te.cts.length) ++ vs ++ cur.toList.drop (ix * te.cts.length + vs.length)).toArray) ∧ g'.I=g.I:=by
 obtain ⟨he,hix,te',us,F1,F2,k1,k0,k2,k2',k3,k4,k5,k6,k7⟩:=h.ob id _ hr
 obtain rfl:te=te':=by rw [hte] at k1; exact Option.some.inj k1
 have hF:=(Ve.deep he).1 hF0
 have hvl:=hd.length
 have hmul:ix * te.cts.length + te.cts.length ≤ l.length * te.cts.length:=by
  have:=Nat.mul_le_mul_right te.cts.length (show ix + 1 ≤ l.length by omega)
  rw [Nat.succ_mul] at this
  exact this
 have hset:=k3 w ds vs F (fun _ _=>rfl) hd
 generalize hF4:F1 ++ (F ++ F2)=F4 at hset
 have i4:∀ c ∈ F4,c ∈ F1 ++ F2 ∨ c ∈ F:=by
  intro c hc
  rw [← hF4] at hc
  simp only [jC] at hc ⊢
  rcases hc with hc | hc | hc <;> simp [hc]
 rcases k2.2 with ⟨hv,_⟩ | ⟨k,cap',cur,hv,hk,hg,hnc,hcm,hcs,htake⟩
 ·rw [hval] at hv; simp at hv
 ·rw [hval] at hv
  simp only [Value.slice.injEq,j8,Addr.mk.injEq,and_true] at hv
  obtain ⟨rfl,rfl,rfl⟩:=hv
  have hcap:l.length * te.cts.length ≤ cap * te.cts.length:=Nat.mul_le_mul_right _ hnc
  have hob:(g.val id).ownBlock=some b:=by rw [hval]; rfl
  have hbI:¬ g.I b:=k7 b (.inl hob)
  let g':Gh:={ g with dom:=fun i=>if i=id then (fun c=>c ∈ F4) else g.dom i }
  have hdom:∀ c,g'.dom id c ↔ c ∈ F4:=fun c=>by simp [g']
  have hne:∀ c ∈ F4,c ≠ b:=by
   intro c hc e
   subst e
   rcases i4 c hc with hc | hc
   ·exact k6 c hc hob
   ·exact (hF.2 c hc).2.2 id _ hr (.inl hob)
  have hnb:∀ c,zq g' id e c → ¬ g.I c ∧ j19 A c (.row e l) ∧ ∀ i p,i ≠ id → jp H i = .live p → ¬ jM g i p c:=by
   intro c hc
   have old:zq g id e c → ¬ g.I c ∧ j19 A c (.row e l) ∧ ∀ i p,i ≠ id → jp H i = .live p → ¬ jM g i p c :=
    fun hc=>⟨k7 c hc,h.ow id (.hl e l ix) _ hr hc,fun i p hne hi=>Ki h hr (show jM g id (.hl e l ix) c from hc) hne hi⟩
   rcases hc with hc | ⟨_,hc⟩
   ·exact old (.inl hc)
   ·rcases i4 c ((hdom c).1 hc) with hc | hc
    ·exact old (.inr ⟨he,(k5 c).2 hc⟩)
    ·obtain ⟨m1,m2,m3⟩:=hF.2 c hc
     exact ⟨m1,m2,fun i p _ hi=>m3 i p hi⟩
  refine ⟨cur,g',hg,by omega,(h.upd (id:=id) (g':=g') (x:=.live (.row e _)) (jF hr) (by simp) rfl (fun i hi=>⟨rfl,rfl,by simp [g',hi]⟩) (fun _ _=>⟨⟨_,_,.inr (.inr (.inr ⟨_,hr⟩))⟩,rfl⟩) (fun _ hx=>?_) (fun c hc=>?_) ?_ (fun ch x hx=>?_) (fun _ hx=>?_) ?_).1,rfl⟩
  ·obtain ⟨t,cs,hx⟩:=hx; simp [jt _ (jF hr)] at hx
  ·refine setRow_other _ _ _ _ ?_
   rintro rfl
   rcases hc with hc | ⟨i,p,hne,hi,hc⟩
   ·exact hbI hc
   ·exact Ki h hr (show jM g id (.hl e l ix) c from .inl hob) hne hi hc
  ·simp [World.setRow]
  ·obtain rfl:Obj'.row e (l.set ix ds)=x:=by simpa using hx
   have hheap:∀ c ∈ F4,(w.setRow b (cur.toList.take (ix * te.cts.length) ++ vs ++ cur.toList.drop (ix * te.cts.length + vs.length)).toArray).heap[c]? = w.heap[c]? :=
    fun c hc=>setRow_other _ _ _ _ (hne c hc)
   refine ⟨⟨te,_,F4,hte,k0,?_,.of (hset.frame hheap),?_,fun c hc=>(hnb c hc).1⟩,fun c hc=>hnb c hc⟩
   ·rw [show g'.val id=g.val id from rfl,hval]
    refine ⟨?_,.inr ⟨b,cap,_,?_,Nat.zero_le _,setRow_heap _ _ _ _ _ _ hg,?_,hcm,?_,?_⟩⟩
    ·have:=hset.length; exact this
    ·simp
    ·simpa using hnc
    ·simp only [List.size_toArray,jj,List.length_take,List.length_drop,Array.length_toList]
     omega
    ·have hq:ix * te.cts.length + te.cts.length=ix * te.cts.length + vs.length:=by omega
     rw [List.length_set,hq,← htake]
     exact j5z _ _ _ _ (by omega) (by have hx:cur.toList.length=cur.size:=Array.length_toList; omega)
   ·rw [kz.deep he]
    have hop:Own w F4:=by
     refine ⟨?_,fun c hc=>?_⟩
     ·have hp:(F ++ (F1 ++ F2)).Perm F4:=by
       rw [← hF4]
       exact List.perm_append_comm_assoc _ _ _
      refine hp.nodup_iff.1 (List.nodup_append.2 ⟨hF.1.nodup,k4.nodup,fun y hy z hz e'=>?_⟩)
      subst e'
      exact (hF.2 y hy).2.2 id _ hr (.inr ⟨he,(k5 y).2 hz⟩)
     ·rcases i4 c hc with hc | hc
      ·exact k4.open' c hc
      ·exact hF.1.open' c hc
    exact ⟨hop.frame hheap,hdom,fun c hc hc'=>hne c hc (by rw [show g'.val id=g.val id from rfl,hob] at hc'; exact (Option.some.inj hc').symm)⟩
  ·obtain ⟨t,cs,hx⟩:=hx; simp [jt _ (jF hr)] at hx
  ·refine h.keep.trans rfl rfl rfl (by simp [World.setRow]) fun c hc hp hm=>setRow_other _ _ _ _ (j0c (h.ow id (.hl e l ix) b hr (.inl hob)) hc hp hm)
theorem j6N (hty:y9 P ty) (t:Nat) (x y:Operand) (ho:o.op = .store t x y) (hd:o.dst=none) (h:Rel ty A g ⟨tm,H⟩ a w) {H':List HS}
  (e:yC (ρ:=Option (List HS)) ty none t ⟨tm,H⟩ (opd tm x) (opd tm y) (fun H=>some H)=some H') :
  o.wp P a w (pD ty A g H w ⟨tm,H'⟩) Q:=by
 unfold yC at e
 have hx:=h.opd x
 have hy:=h.opd y
 split at e
 ·rename_i ti ss ht hss
  have htk:=hty t ti ht
  obtain ⟨vs,v1,v2,v3,v4⟩:=Yk hy hss
  split at e
  ·rename_i hlen
   have fin:∀ (b off:Nat) (e':TypeId) (cur:Array Value) (g':Gh) (H2:List HS),a.eval x = .pointer (some ⟨b,off,none⟩) → w.heap[b]? = some (.cells cur e' (0,0)) → off + vs.length ≤ cur.size →
     (∀ k,g.I k → g'.I k) → Rel ty A g' ⟨tm,H2⟩ a (w.setRow b (cur.toList.take off ++ vs ++ cur.toList.drop (off + vs.length)).toArray) → H2=H' → o.wp P a w (pD ty A g H w ⟨tm,H'⟩) Q:=by
    intro b off e' cur g' H2 hp hg hfit hI hrel hH
    subst hH
    refine j6H (w':=w.setRow b (cur.toList.take off ++ vs ++ cur.toList.drop (off + vs.length)).toArray) ?_ ⟨g',by rw [hd]; exact hrel,hI⟩
    simp [execOp,ho,Instr.storeAt,hp,Instr.sureAddr,j4U htk w b off e' cur (a.eval y) vs v1 (by rw [v4]; exact hlen.1) hg hfit v3]
   split at e
   ·rename_i id off hid
    rw [hid] at hx
    split at e
    ·rename_i t' cs hv
     split at e
     ·rename_i hfit
      obtain ⟨cur,k1,k2,k3⟩:=h.setVar hv v2 v3 hfit
      exact fin _ off _ cur g _ (hx.2.2 ⟨_,_,hv⟩) k1 (by omega) (fun _ h=>h) k3 (by simpa using e)
     ·simp at e
    ·simp at e
   ·rename_i el id ix off hid
    rw [hid] at hx
    split at e
    ·rename_i te ds H1 hte hds
     split at e
     ·rename_i hsame
      split at e
      ·rename_i e' l hrow
       split at e
       ·rename_i hee
        obtain ⟨hee,hh⟩:=hee
        subst hee
        obtain ⟨g1,F,r1,c1,d1,i1⟩:∃ g1 F,Rel ty A g1 ⟨tm,H1⟩ a w ∧ Ch g g1 H H1 w w ∧ RdL ty w ti.cts ds vs F ∧ Ve A g1 H1 w e' F:=by
         unfold QE at hds
         cases he:dp e' with
         | false =>
          rw [he] at hds
          obtain ⟨g1,F,r1,c1,d1,i1⟩:=j00 h v2 hds
          exact ⟨g1,F,r1,c1,d1,(Ve.shallow he).2 i1⟩
         | true =>
          rw [he] at hds
          obtain ⟨F,r1,c1,d1,i1⟩:=j0g h v2 hds
          exact ⟨g,F,r1,c1,d1,i1.new h he⟩
        have hx1:=CR.mono c1 hx
        obtain ⟨ti',b,len,cap,h1,h2,h3,h4⟩:=hx1.2 ⟨_,_,.inl hrow⟩
        obtain rfl:te=ti':=by rw [hte] at h1; exact Option.some.inj h1
        have hll:l.length=len:=by
         obtain ⟨_,_,_,_,_,k2,_⟩:=r1.ob id _ hrow
         rcases k2.2 with ⟨hv,_⟩ | ⟨_,_,_,hv,_⟩
         ·rw [h2] at hv; simp at hv
         ·rw [h2] at hv; simp at hv; exact hv.2.1.symm
        have hixl:ix < l.length:=by omega
        have h0:0 < ti.cts.length:=by omega
        obtain ⟨cur,g2,k1,k2,k3,k4⟩:=r1.setElem hte hrow hh d1 i1 (CT.sameL_eq hsame) hixl h0 h2
        exact fin b _ _ cur g2 _ h4 k1 k2 (fun b hb=>by rw [k4]; exact c1.I b hb) k3 (by simpa using e)
       ·simp at e
      ·rename_i e' l ix' hrow
       split at e
       ·rename_i hee
        obtain ⟨hee,hii,rfl,hcl⟩:=hee
        subst hee
        subst hii
        have hfull:te.cts=ti.cts:=by
         have h1:=CT.sameL_eq hsame
         rw [List.drop_zero,← hcl,List.take_length] at h1
         exact h1
        obtain ⟨g1,F,r1,c1,d1,i1⟩:∃ g1 F,Rel ty A g1 ⟨tm,H1⟩ a w ∧ Ch g g1 H H1 w w ∧ RdL ty w ti.cts ds vs F ∧ Ve A g1 H1 w e' F:=by
         unfold QE at hds
         cases he:dp e' with
         | false =>
          rw [he] at hds
          obtain ⟨g1,F,r1,c1,d1,i1⟩:=j00 h v2 hds
          exact ⟨g1,F,r1,c1,d1,(Ve.shallow he).2 i1⟩
         | true =>
          rw [he] at hds
          obtain ⟨F,r1,c1,d1,i1⟩:=j0g h v2 hds
          exact ⟨g,F,r1,c1,d1,i1.new h he⟩
        have hx1:=CR.mono c1 hx
        obtain ⟨ti',b,len,cap,h1,h2,h3,h4⟩:=hx1.2 ⟨_,_,.inr (.inr (.inr ⟨_,hrow⟩))⟩
        obtain rfl:te=ti':=by rw [hte] at h1; exact Option.some.inj h1
        rw [← hfull] at d1
        obtain ⟨cur,g2,k1,k2,k3,k4⟩:=r1.setHole hte hrow d1 i1 h2
        exact fin b _ _ cur g2 _ h4 k1 k2 (fun b hb=>by rw [k4]; exact c1.I b hb) k3 (by simpa using e)
       ·simp at e
      ·simp at e
     ·simp at e
    ·simp at e
   ·simp at e
  ·simp at e
 ·simp at e
end
end Go.Proofs.QV
