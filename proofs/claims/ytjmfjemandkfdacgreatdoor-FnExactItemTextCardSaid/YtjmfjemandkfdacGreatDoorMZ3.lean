import Derived.Test.YtjmfjemandkfdacGreatDoorMZ2
import Derived.Great.BuildSlice
import Derived.Lib.AppendStr
import Derived.Lib.Strings
/- One operation: cuts; rows that are made,put together,grown. -/
namespace Go.Proofs.QV
open Go
open _root_.Option.some renaming injEq → j5
open _root_.Prod.mk renaming injEq → jg
open _root_.List renaming map_cons → jL, flatMap_cons → jz, eq_nil_of_length_eq_zero → jY, append_assoc → jO, length_append → j3, singleton_append → jU, nil_append → jy, append_nil → jV, length_nil → j6, cons_append → jN, length_cons → j4
open _root_.Nat renaming lt_or_ge → jA
open _root_.Bool renaming and_eq_true → jj, true_and → jC
open Out renaming andThenB → ja
set_option linter.unusedVariables false
section
variable {P:Program} {ty:Nat → Option TI} {A:An} {g:Gh} {tm:List C} {H:List HS} {a:Act} {w:World} {o:Oper} {Q:Exit → Act → World → Prop}
theorem j3f {α ρ:Type} {lo hi:Option C} {l:List α} {k:List α → Option ρ} {r:ρ} (e:j2B none lo hi l k=some r) :
  ∃ m n:Nat,m ≤ n ∧ n ≤ l.length ∧ k ((l.take n).drop m)=some r ∧ ((lo=none ∧ m=0) ∨ ∃ kd,lo=some (.one (.int kd (m:Int)))) ∧ ((hi=none ∧ n=l.length) ∨ ∃ kd,hi=some (.one (.int kd (n:Int)))):=by
 unfold j2B at e
 split at e
 ·exact ⟨0,l.length,Nat.zero_le _,Nat.le_refl _,by simpa using e,.inl ⟨rfl,rfl⟩,.inl ⟨rfl,rfl⟩⟩
 ·rename_i kd m
  split at e
  ·rename_i hc
   exact ⟨m.toNat,l.length,by omega,Nat.le_refl _,by simpa using e,.inr ⟨kd,by rw [Int.toNat_of_nonneg hc.1]⟩,.inl ⟨rfl,rfl⟩⟩
  ·simp at e
 ·rename_i kd n
  split at e
  ·rename_i hc
   exact ⟨0,n.toNat,Nat.zero_le _,by omega,by simpa using e,.inl ⟨rfl,rfl⟩,.inr ⟨kd,by rw [Int.toNat_of_nonneg hc.1]⟩⟩
  ·simp at e
 ·rename_i kd m kd' n
  split at e
  ·rename_i hc
   exact ⟨m.toNat,n.toNat,by omega,by omega,e,.inr ⟨kd,by rw [Int.toNat_of_nonneg hc.1]⟩,.inr ⟨kd',by rw [Int.toNat_of_nonneg (by omega)]⟩⟩
  ·simp at e
 ·simp at e
theorem j9x {P:Program} (sl:Bool) (len cap m n:Nat) (lo hi:Option Value) (h1:m ≤ n) (h2:n ≤ len) (h3:len ≤ cap)
  (hl:(lo=none ∧ m=0) ∨ ∃ kd,lo=some (.int kd (m:Int))) (hh:(hi=none ∧ n=len) ∨ ∃ kd,hi=some (.int kd (n:Int))) (w:World) :
  (Instr.sliceBounds sl len cap lo hi none).run P w = .ok (m,n,cap) w:=by
 have a1:(m:Int) ≤ (n:Int):=by omega
 have a2:(n:Int) ≤ (cap:Int):=by omega
 rcases hl with ⟨rfl,rfl⟩ | ⟨kl,rfl⟩ <;> rcases hh with ⟨rfl,rfl⟩ | ⟨kh,rfl⟩ <;>
  simp [Instr.sliceBounds,run_sliceBound,a1,a2]
theorem j5k (h:Rel ty A g ⟨tm,H⟩ a w) {lo:Option Operand} {m:Nat} {d:Nat} (hl:(lo.map (opd tm)=none ∧ m=d) ∨ ∃ kd,lo.map (opd tm)=some (.one (.int kd (m:Int)))) :
  (lo.map a.eval=none ∧ m=d) ∨ ∃ kd,lo.map a.eval=some (.int kd (m:Int)):=by
 cases lo with
 | none =>
  rcases hl with ⟨_,hl⟩ | ⟨_,hl⟩
  ·exact .inl ⟨rfl,hl⟩
  ·simp at hl
 | some x =>
  rcases hl with ⟨hl,_⟩ | ⟨kd,hl⟩
  ·simp at hl
  ·simp only [Option.map_some,j5] at hl ⊢
   have:=h.opd x
   rw [hl] at this
   exact .inr ⟨kd,this⟩
theorem jjY {e:Nat} {ti:TI} {l:List (List DC)} {v:Value} {F:List Nat} (hr:RdC ty w (.sl e) (.sl l) v F) (ht:ty e=some ti) {m n:Nat} (h1:m ≤ n) (h2:n ≤ l.length) :
  ∃ ad cap,v = .slice ad l.length cap ∧ (l.length ≤ cap) ∧ ∃ F',RdC ty w (.sl e) (.sl ((l.take n).drop m)) (sliced ad m n cap ti.cts.length) F' ∧ ∀ b ∈ F',b ∈ F:=by
 cases hr with
 | nil =>
  rename_i ad cap
  simp at h2
  obtain rfl:n=0:=h2
  obtain rfl:m=0:=by omega
  refine ⟨ad,cap,rfl,Nat.zero_le _,[],?_,fun _ h=>by cases h⟩
  simp only [List.take_nil,List.drop_nil,sliced,Nat.sub_self]
  exact .nil _ _ _
 | sl _ ti' b off k cap _ vs F k1 k0 k2 k3 k4 k5 k6 =>
  obtain rfl:ti=ti':=by rw [ht] at k1; exact Option.some.inj k1
  subst k2
  refine ⟨_,_,rfl,k4,?_⟩
  by_cases hmn:m=n
  ·subst hmn
   refine ⟨[],?_,fun _ h=>by cases h⟩
   have:(l.take m).drop m=[]:=by apply List.drop_of_length_le; simp; omega
   rw [this,sliced,Nat.sub_self]
   exact .nil _ _ _
  ·obtain ⟨F1,r1,i1⟩:=k6.take n
   obtain ⟨F2,r2,i2⟩:=r1.drop m
   have hne:(l.take n).drop m ≠ []:=by
    intro h
    have:=congrArg List.length h
    simp at this
    omega
   refine ⟨b :: F2,?_,fun c hc=>?_⟩
   ·have hcap:¬ cap=m:=by omega
    simp only [sliced,if_neg hcap,Option.map_some,Addr.add_lit]
    refine .sl e ti b _ _ _ _ _ F2 ht k0 (by simp; omega) hne (by omega) (fun j v hj=>?_) r2
    rw [List.getElem?_drop] at hj
    have:v=v ∧ vs[m * ti.cts.length + j]? = some v:=by
     refine ⟨rfl,?_⟩
     rw [List.getElem?_take] at hj
     split at hj
     ·exact hj
     ·simp at hj
    rw [Nat.add_assoc]
    exact k5 _ v this.2
   ·rcases List.mem_cons.1 hc with rfl | hc
    ·simp
    ·simp [i1 c (i2 c hc)]
theorem jbn {P:Program} {t e:Nat} (hu:P.underlying t=some (.slice e)) {inf:TypeInfo} (hi:P.info? e=some inf) (ad:Option Addr) (len cap m n:Nat) (lo hi':Option Value) (h1:m ≤ n) (h2:n ≤ len) (h3:len ≤ cap)
  (hl:(lo=none ∧ m=0) ∨ ∃ kd,lo=some (.int kd (m:Int))) (hh:(hi'=none ∧ n=len) ∨ ∃ kd,hi'=some (.int kd (n:Int))) (w:World) :
  (Instr.sliceAt t (.slice ad len cap) lo hi' none).run P w = .ok (sliced ad m n cap inf.size) w:=by
 have he:P.elem t=e:=by simp [Program.elem,hu]
 have hu':P.underlying t=some (.slice (P.elem t)):=by rw [he]; exact hu
 rw [run_sliceAt_slice w t _ _ _ _ hu',run_slice_any w t _ _ _ hu',j9x true len cap m n lo hi' h1 h2 h3 hl hh,Result.andThen_ok,he,Qz hi,Result.andThen_ok]
theorem jfz (hty:K9 P ty) (t:TypeId) (x:Operand) (lo hi:Option Operand) (ho:o.op = .slice t x lo hi none) (h:Rel ty A g ⟨tm,H⟩ a w) {cl:Cls} {H':List HS} {c:C}
  (e:Kb (ρ:=Option (Cls × List HS × C)) ty none t ⟨tm,H⟩ (opd tm x) (lo.map (opd tm)) (hi.map (opd tm)) (fun cl H c=>some (cl,H,c))=some (cl,H',c)) :
  o.wp P a w (yn ty A g H w ⟨pf tm o.dst c,H'⟩) Q:=by
 have rx:=h.opd x
 unfold Kb at e
 have sl:∀ (ti te:TI) (el:Nat) (g':Gh) (H1:List HS) (l:List (List DC)) (F:List Nat) (m n:Nat),ty t=some ti → ti.kd = .slice el → ty el=some te → Rel ty A g' ⟨tm,H1⟩ a w → (∀ b,g.I b → g'.I b) →
   RdC ty w (.sl el) (.sl l) (a.eval x) F → (∀ b ∈ F,g'.I b) → m ≤ n → n ≤ l.length →
   ((lo.map (opd tm)=none ∧ m=0) ∨ ∃ kd,lo.map (opd tm)=some (.one (.int kd (m:Int)))) → ((hi.map (opd tm)=none ∧ n=l.length) ∨ ∃ kd,hi.map (opd tm)=some (.one (.int kd (n:Int)))) →
   c = .one (.sl el ((l.take n).drop m)) → H'=H1 → o.wp P a w (yn ty A g H w ⟨pf tm o.dst c,H'⟩) Q:=by
  intro ti te el g' H1 l F m n ht hk hte hr hI hrd hF h1 h2 hlo hhi hc hH
  subst hH
  obtain ⟨inf,z,hinf,hsz,_⟩:=(hty el te hte).info
  obtain ⟨ad,cap,hv,hcap,F',r',i'⟩:=jjY hrd hte h1 h2
  refine kU (v:=sliced ad m n cap te.cts.length) (w':=w) ?_ ⟨g',hr.put o.dst (by rw [hc]; exact ⟨F',r',fun b hb=>hF b (i' b hb)⟩),hI⟩
  have:=jbn (j2t hty ht hk) hinf ad l.length cap m n _ _ h1 h2 hcap (j5k h hlo) (j5k h hhi) w
  simp only [execOp,ho,hv,Option.map_none]
  rw [Sem.run_bind,this,hsz]
  rfl
 split at e
 ·rename_i ti ht
  split at e
  ·rename_i l hk hx
   rw [hx] at rx
   have ex:a.eval x = .string ⟨l.toArray⟩:=rx
   obtain ⟨m,n,h1,h2,h3,h4,h5⟩:=j3f e
   simp only [j5,jg] at h3
   obtain ⟨_,rfl,rfl⟩:=h3
   have hs:(ByteArray.mk l.toArray).size=l.length:=by simp [ByteArray.size]
   refine kU (v:=.string ⟨((l.take n).drop m).toArray⟩) (w':=w) ?_ (qe h rfl)
   have hu:=j2s hty ht hk
   have hb:=j9x (P:=P) false l.length l.length m n _ _ h1 h2 (Nat.le_refl _) (j5k h h4) (j5k h h5) w
   have hcut:(ByteArray.mk l.toArray).extract m n=⟨((l.take n).drop m).toArray⟩:=by
    apply ByteArray.ext
    apply Array.toList_inj.1
    rw [Lib.extract_data]
    simp [List.drop_take]
   simp only [execOp,ho,ex,Option.map_none]
   rw [Sem.run_bind,run_sliceAt_string w t _ _ _ _ hu]
   simp [Instr.slice,run_underlying hu,hs,hb,hcut]
  ·rename_i el el' l hk hx
   rw [hx] at rx
   split at e
   ·rename_i hee
    obtain ⟨rfl,hte⟩:=hee
    obtain ⟨te,hte⟩:=Option.isSome_iff_exists.1 hte
    obtain ⟨m,n,h1,h2,h3,h4,h5⟩:=j3f e
    simp only [j5,jg] at h3
    obtain ⟨_,h3,h3'⟩:=h3
    obtain ⟨F,r1,r2⟩:=rx
    exact sl ti te el' g H l F m n ht hk hte h (fun _ h=>h) r1 r2 h1 h2 h4 h5 h3'.symm h3.symm
   ·simp at e
  ·rename_i el id hk hx
   rw [hx] at rx
   split at e
   ·rename_i e' l hr
    split at e
    ·rename_i hee
     obtain ⟨rfl,hte⟩:=hee
     obtain ⟨te,hte⟩:=Option.isSome_iff_exists.1 hte
     obtain ⟨m,n,h1,h2,h3,h4,h5⟩:=j3f e
     simp only [j5,jg] at h3
     obtain ⟨_,h3,h3'⟩:=h3
     obtain ⟨g',r1,c1,F,r2,i2⟩:=h.freeze hr
     have hval:=(c1.row id (KR hr) ⟨e',l,.inr (ke _ (py hr))⟩).2
     exact sl ti te e' g' _ l F m n ht hk hte r1 c1.I (by rw [rx.2.2 ⟨_,_,.inl hr⟩,← hval]; exact r2) i2 h1 h2 h4 h5 h3'.symm h3.symm
    ·simp at e
   ·rename_i e' l hr
    split at e
    ·rename_i hee
     obtain ⟨rfl,hte⟩:=hee
     obtain ⟨te,hte⟩:=Option.isSome_iff_exists.1 hte
     obtain ⟨m,n,h1,h2,h3,h4,h5⟩:=j3f e
     simp only [j5,jg] at h3
     obtain ⟨_,h3,h3'⟩:=h3
     obtain ⟨F,r1,r2⟩:=h.ob id _ hr
     exact sl ti te e' g H l F m n ht hk hte h (fun _ h=>h) (by rw [rx.2.2 ⟨_,_,.inr hr⟩]; exact r1) r2 h1 h2 h4 h5 h3'.symm h3.symm
    ·simp at e
   ·simp at e
  ·simp at e
 ·simp at e
end
section
variable {P:Program} {ty:Nat → Option TI} {A:An} {g:Gh} {tm:List C} {H:List HS} {a:Act} {w:World} {o:Oper} {Q:Exit → Act → World → Prop}
theorem Rel.grow (h:Rel ty A g ⟨tm,H⟩ a w) {base e:Nat} {te:TI} {l:List (List DC)} {v':Value} {vs:List Value} {F:List Nat} {w':World} {vo:Option Nat} (hf:jJ H base = .free)
  (hte:ty e=some te) (h0:0 < te.cts.length) (hg:w.grownBy w' vo)
  (hvo:∀ b,vo=some b → ¬ g.I b ∧ (A.w0.heap.size ≤ b ∨ A.Pm b) ∧ ∀ i p,jJ H i = .live p → kX g i p ≠ some b)
  (hown:QS w' 0 e te.cts.length v' l.length vs) (hrd:RdV ty w te.cts l vs F) (hF:∀ b ∈ F,g.I b) (hv':∀ b,v'.ownBlock=some b → vo=some b ∨ w.heap.size ≤ b) :
  ∃ g',Rel ty A g' ⟨tm,kk H base (.live (.row e l))⟩ a w' ∧ Ch g g' H (kk H base (.live (.row e l))) w w' ∧ g'.val base=v':=by
 have hlt:=zh hf
 let g':Gh:={ g with val:=fun i=>if i=base then v' else g.val i }
 have hval:g'.val base=v':=by simp [g']
 have hnot:∀ b,v'.ownBlock=some b → ¬ g.I b ∧ (A.w0.heap.size ≤ b ∨ A.Pm b) ∧ ∀ i p,jJ H i = .live p → kX g i p ≠ some b:=by
  intro b hb
  rcases hv' b hb with hb | hb
  ·exact hvo b hb
  ·exact ⟨fun hI=>absurd (h.lt b hI) (by omega),.inl (Nat.le_trans h.keep.size hb),fun i p hi hp=>absurd (h.oblk_lt hi hp) (by omega)⟩
 have hold:∀ b,b < w.heap.size → (∀ c,vo=some c → b ≠ c) → w'.heap[b]? = w.heap[b]?:=fun b hb hne=>hg.block b hb fun e=>hne b e.symm rfl
 have r:=h.upd (id:=base) (x:=.live (.row e l)) (g':=g') (w':=w') hlt (by simp) rfl (fun i hi=>by simp [g',hi]) (fun hn=>absurd hn (zg hf)) (fun hn=>absurd hn (zg hf))
  (fun b hb=>by
   rcases hb with hb | ⟨i,p,_,hi,hb⟩
   ·exact hold b (h.lt b hb) fun c hc=>by rintro rfl; exact (hvo b hc).1 hb
   ·exact hold b (h.oblk_lt hi hb) fun c hc=>by rintro rfl; exact (hvo b hc).2.2 i p hi hb) hg.size
  (fun hch p hp=>by
   obtain rfl:Obj'.row e l=p:=by simpa using hp
   refine ⟨⟨te,vs,F,hte,h0,by rw [hval]; exact hown,hrd.frame fun b hb=>hch.Iw b (hF b hb),hF,fun b hb=>(hnot b (by rw [← hval]; exact hb)).1⟩,fun b hb=>?_⟩
   have:=hnot b (by rw [← hval]; exact hb)
   exact ⟨this.1,this.2.1,fun i p _ hi=>this.2.2 i p hi⟩)
  (fun hm _=>absurd (h.nfm base hm) (zg hf))
  (h.keep.trans hg.os hg.tape hg.output hg.size fun b hb hp hm=>hold b (Nat.lt_of_lt_of_le hb h.keep.size) fun c hc=>by
   rintro rfl
   rcases (hvo b hc).2.1 with h1 | h1
   ·omega
   ·exact hm h1)
 exact ⟨g',r.1,r.2,hval⟩
theorem j5b {g':Gh} {H':List HS} {w':World} {base e:Nat} {l:List (List DC)} {v':Value} (hr:Rel ty A g' ⟨tm,H'⟩ a w') (hI:∀ b,g.I b → g'.I b) (hb:jJ H' base = .live (.row e l)) (hv:g'.val base=v') (h1:v'.oneCell'=true) :
  yn ty A g H w ⟨pf tm o.dst (.one (.own base)),H'⟩ (a.put o.dst v') w' :=
 ⟨g',hr.put o.dst (c:=.one (.own base)) ⟨KR hb,h1,fun _=>hv.symm⟩,hI⟩
theorem j6E {w:World} {b e s n:Nat} {v:Value} {xs:List Value} (h:QS w b e s v n xs):v.oneCell'=true:=by
 rcases h.2 with ⟨rfl,_⟩ | ⟨_,_,_,rfl,_⟩ <;> rfl
theorem j7r:∀ l:List UInt8,RdV ty w [.i .u8] (jo l) (l.map fun b=>Value.int .u8 b.toNat) []
 | []=>.nil _
 | c :: l=>by
  have:=RdV.cons (ty:=ty) (w:=w) [.i .u8] [DC.i c.toNat] (jo l) [Value.int .u8 c.toNat] _ _ _ (.cons _ _ _ _ _ _ _ _ (.i .u8 c.toNat) .nil) (j7r l)
  exact this
theorem jhk (h:Rel ty A g ⟨tm,H⟩ a w) {e:Nat} {te:TI} (hte:ty e=some te) {x:C} {v:Value} {l:List (List DC)} {H1:List HS} (hx:CR ty g H w x v) (e1:j6G H e x=some (l,H1)) :
  Rel ty A g ⟨tm,H1⟩ a w ∧ Ch g g H H1 w w ∧ ∃ (xs:List Value) (F:List Nat),QS w 0 e te.cts.length v l.length xs ∧ RdV ty w te.cts l xs F ∧ (∀ b ∈ F,g.I b) ∧
   ∀ b,v.ownBlock=some b → ¬ g.I b ∧ (A.w0.heap.size ≤ b ∨ A.Pm b) ∧ ∀ i p,jJ H1 i = .live p → kX g i p ≠ some b:=by
 unfold j6G at e1
 split at e1
 ·simp only [j5,jg] at e1
  obtain ⟨rfl,rfl⟩:=e1
  have hv:v = .slice none 0 0:=hx
  subst hv
  exact ⟨h,.refl _ _ _,[],[],jcq _ _ _ _,.nil _,fun _ h=>by (cases h),fun b hb=>by simp [Value.ownBlock] at hb⟩
 ·rename_i id
  split at e1
  ·rename_i e' l' hr
   split at e1
   ·rename_i hee
    subst hee
    simp only [j5,jg] at e1
    obtain ⟨rfl,rfl⟩:=e1
    obtain ⟨r1,c1⟩:=h.kill hr
    obtain ⟨ti,vs,F,h1,h0,h2,h3,h4,h5⟩:=h.ob id _ hr
    obtain rfl:te=ti:=by rw [hte] at h1; exact Option.some.inj h1
    have hv:v=g.val id:=hx.2.2 ⟨_,_,.inl hr⟩
    subst hv
    refine ⟨r1,c1,vs,F,h2,h3,h4,fun b hb=>⟨h5 b hb,h.ow id _ b hr hb,fun i p hi hp=>?_⟩⟩
    by_cases hid:id=i
    ·subst hid
     rw [ke _ (py hr)] at hi
     simp at hi
    ·rw [jM _ hid] at hi
     exact h.sep i id p _ b (fun k=>hid k.symm) hi hr hp hb
   ·simp at e1
  ·simp at e1
 ·simp at e1
theorem jed (hty:K9 P ty) {c:Call} (ho:o.op = .call c) (hb:c.callee = .builtin .append) {t u base:Nat} (hat:c.argTypes.toList=[t,u]) {x y r:C} (h:Rel ty A g ⟨tm,H⟩ a w)
  (hx:K8 tm c.args.toList=[x,y]) {H':List HS}
  (e:qK (ρ:=Option (List HS × C)) ty none t u base ⟨tm,H⟩ x y (fun H c=>some (H,c))=some (H',r)) :
  o.wp P a w (yn ty A g H w ⟨pf tm o.dst r,H'⟩) Q:=by
 obtain ⟨v1,v2,hv,r1,r2⟩:=jb1 h hx
 have hat':c.argTypes = #[t,u]:=by apply Array.toList_inj.1; simpa using hat
 unfold qK at e
 split at e
 ·simp at e
 ·rename_i el ht
  split at e
  ·simp at e
  ·rename_i te hte
   have hu:=YZ hty ht
   split at e
   ·rename_i hc
    obtain ⟨inf,z,hinf,hsz,hby,hz,hzc⟩:=(hty el te hte).info
    split at e
    ·rename_i l H1 m ho1 hn1
     split at e
     ·rename_i hf
      split at e
      ·rename_i hlim
       simp only [j5,jg] at e
       obtain ⟨rfl,rfl⟩:=e
       obtain ⟨k1,c1,xs,F,k2,k3,k4,k5⟩:=jhk h hte r1 ho1
       have hzs:z.cells.size=inf.size:=by rw [hzc,hsz]; simp
       have hn:l.length + m.length ≤ maxLen:=by simp only [jF] at hlim; simp only [maxLen]; omega
       have hbb:(l.length + m.length) * inf.bytes ≤ 140737488355328:=by
        rw [hby]
        refine Nat.le_trans (Nat.mul_le_mul (Nat.le_of_lt hlim) hc.1) ?_
        simp [jF]
       have fin:∀ (v':Value) (w':World) (ms:List Value) (G:List Nat),(Builtin.append_ #[t,u] o.type #[v1,v2]).run P w = .ok v' w' → QS w' 0 el te.cts.length v' (l.length + m.length) (xs ++ ms) → w.grownBy w' v1.ownBlock →
         (∀ b,v'.ownBlock=some b → v1.ownBlock=some b ∨ w.heap.size ≤ b) → RdV ty w te.cts m ms G → (∀ b ∈ G,g.I b) →
         o.wp P a w (yn ty A g H w ⟨pf tm o.dst (.one (.own base)),kk H1 base (.live (.row el (l ++ m)))⟩) Q:=by
        intro v' w' ms G hr hown hgr hv' hrd hG
        obtain ⟨g',q1,q2,q3⟩:=k1.grow (base:=base) (e:=el) (l:=l ++ m) hf hte hc.2 hgr k5 (by simpa using hown) (k3.append hrd) (fun b hb=>by
         rcases List.mem_append.1 hb with hb | hb
         ·exact k4 b hb
         ·exact hG b hb) hv'
        refine kU (v:=v') (w':=w') ?_ (j5b q1 q2.I (ke _ (zh hf)) q3 (j6E hown))
        obtain ⟨cs,hcs⟩:=Zq (ρ:=a.eval) ho hb w
        rw [hcs,hv,hat']
        simp only [builtin]
        rw [Sem.run_bind,hr]
        rfl
       rw [← hsz] at k2
       have nothing:∀ (cc:Nat),m=[] → u=t → v2 = .slice none 0 cc → o.wp P a w (yn ty A g H w ⟨pf tm o.dst (.one (.own base)),kk H1 base (.live (.row el (l ++ m)))⟩) Q:=by
        intro cc hm hut hv2
        subst hm
        subst hut
        refine fin v1 w [] [] ?_ (by rw [← hsz]; simpa using k2) ⟨rfl,rfl,rfl,Nat.le_refl _,fun _ _ _=>rfl⟩ (fun b hb=>.inl hb) (.nil _) (fun _ h=>by cases h)
        rw [hv2]
        exact j4z hu hinf w cc k2
       unfold j5h at hn1
       split at hn1
       ·split at hn1
        ·rename_i hut
         simp only [j5] at hn1
         exact nothing 0 hn1.symm hut r2
        ·simp at hn1
       ·rename_i s
        split at hn1
        ·rename_i tu hk hu'
         split at hn1
         ·rename_i hb1
          simp only [j5] at hn1
          subst hn1
          have huu:=j2s hty hu' rfl
          have hei:=j6L hty hte hk
          have hst:kL (some te)=false:=by simp [kL,hk]
          obtain ⟨inf',hinf',hz'⟩:=(hty el te hte).zero1 hst
          obtain rfl:inf=inf':=by rw [hinf] at hinf'; exact Option.some.inj hinf'
          rw [hei.2] at hz'
          have hs1:inf.size=1:=by rw [hsz,hei.2]; rfl
          have hbs:(ByteArray.mk s.toArray).size=s.length:=by simp [ByteArray.size]
          have hml:(jo s).length=s.length:=by simp [jo]
          rw [hml] at hn hlim hbb
          obtain ⟨v',w',q1,q2,q3,q4⟩:=j2k (P:=P) (t:=t) (u:=u) (e:=el) (oty:=o.type) (inf:=inf) hu huu hinf hz' hs1 (by rw [hby]; exact hb1) w (by rw [← hs1]; exact k2) ⟨s.toArray⟩ (by rw [hbs]; exact hn) (by rw [hbs]; simp only [jF] at hlim; omega)
          have ev:v2 = .string ⟨s.toArray⟩:=r2
          refine fin v' w' (s.map fun b=>Value.int .u8 b.toNat) [] (by rw [ev]; exact q1) ?_ q3 q4 (by rw [hei.2]; exact j7r s) (fun _ h=>by cases h)
          rw [← hsz,hs1,hml]
          rw [hbs] at q2
          simpa [Lib.strCells] using q2
         ·simp at hn1
        ·simp at hn1
       ·rename_i s _ _
        split at hn1
        ·rename_i e'' l2 hsl
         split at hn1
         ·rename_i hee
          obtain ⟨rfl,rfl⟩:=hee
          simp only [j5] at hn1
          subst hn1
          have hm:=j38 (v:=v2) (by
           rcases j4y h r2 hsl with h1 | ⟨ti,vs,F,id,_,_,_,h1⟩
           ·exact .inl h1
           ·exact .inr ⟨ti,vs,F,h1⟩)
          obtain ⟨ad,cap,hv2,hm,hne⟩:=hm
          have some_case:∀ (b':Addr) (ms:List Value) (G:List Nat),ad=some b' → ms.length=l2.length * inf.size → (∀ j q,ms[j]? = some q → w.cell? (b'.add j)=some q) → RdV ty w te.cts l2 ms G → (∀ b ∈ G,g.I b) →
            o.wp P a w (yn ty A g H w ⟨pf tm o.dst (.one (.own base)),kk H1 base (.live (.row e'' (l ++ l2)))⟩) Q:=by
           intro b' ms G hb' hml hcell hrd hG
           obtain ⟨v',w',q1,q2,q3,q4⟩:=jbp (P:=P) (oty:=o.type) hu hinf hz hzs (by omega) w k2 b' l2.length cap ms hml hcell hrd.one hn hbb
           exact fin v' w' ms G (by rw [hv2,hb']; exact q1) (by rw [← hsz]; exact q2) q3 q4 hrd hG
          rcases hm with rfl | ⟨ti,vs,F',b,off,p1,p0,rfl,p2,p3,p4⟩
          ·cases ad with
           | none=>exact nothing cap rfl rfl hv2
           | some b'=>exact some_case b' [] [] rfl (by simp) (fun j q hj=>by simp at hj) (.nil _) (fun _ h=>by cases h)
          ·obtain rfl:=Option.some.inj (hte.symm.trans p1)
           exact some_case ⟨b,off,none⟩ vs F' rfl (by rw [hsz]; exact p3.length) (fun j q hj=>by rw [Addr.add_lit]; exact p2 j q hj) p3 p4
         ·simp at hn1
        ·simp at hn1
       ·simp at hn1
      ·simp at e
     ·simp at e
    ·simp at e
   ·simp at e
end
section
variable {P:Program} {ty:Nat → Option TI} {A:An} {g:Gh} {tm:List C} {H:List HS} {a:Act} {w:World} {o:Oper} {Q:Exit → Act → World → Prop}
theorem jhH (t:CT):RdC ty w t (jbZ t) (Yd t) []:=by
 cases t
 ·exact .b _
 ·exact .i _ _
 ·exact .s _
 ·exact .nil _ _ _
theorem jdW:∀ ts:List CT,RdL ty w ts (ts.map jbZ) (ts.map Yd) []
 | []=>.nil
 | t :: ts=>RdL.cons t ts _ _ _ _ [] [] (jhH t) (jdW ts)
theorem jdV (ts:List CT):∀ n:Nat,RdV ty w ts (List.replicate n (ts.map jbZ)) (List.replicate n (ts.map Yd)).flatten []
 | 0=>.nil _
 | n + 1=>by
  rw [List.replicate_succ,List.replicate_succ,List.flatten_cons]
  exact RdV.cons ts _ _ _ _ [] [] (jdW ts) (jdV ts n)
theorem j9F (z:Value) (zs:List Value) (hz:z.cells=zs.toArray) (h0:0 < zs.length) (n:Nat):(madeCells z.cells (n * zs.length)).toList=(List.replicate n zs).flatten:=by
 have h1:(List.replicate n zs).flatten=(List.replicate n z).flatMap fun v=>v.cells.toList:=by
  induction n with
  | zero=>rfl
  | succ n ih=>simp [List.replicate_succ,ih,hz]
 rw [h1]
 have hs:∀ v ∈ List.replicate n z,v.cells.size=zs.length:=by
  intro v hv
  rw [List.eq_of_mem_replicate hv,hz]
  simp
 apply List.ext_getElem?
 intro k
 rw [Great.flat_get h0 _ hs k]
 have hsz:z.cells.size=zs.length:=by rw [hz]; simp
 by_cases hk:k < n * zs.length
 ·have hd:k / zs.length < n:=Nat.div_lt_of_lt_mul (by rw [Nat.mul_comm]; exact hk)
  have hm:k % zs.length < z.cells.size:=by rw [hsz]; exact Nat.mod_lt _ h0
  simp [madeCells,hk,hd,hsz]
  rw [Array.getElem?_eq_getElem hm]
  simp [getElem!_pos,hm]
 ·have hd:¬ k / zs.length < n:=by
   intro h
   have:=(Nat.div_lt_iff_lt_mul h0).1 h
   omega
  simp [madeCells,hk,hd]
theorem j9l (hty:K9 P ty) (t:TypeId) (x y:Operand) (base:Nat) (ho:o.op = .makeSlice t x y) (h:Rel ty A g ⟨tm,H⟩ a w) {e:Nat} {te:TI} (ht:Vs (ty t)=some e) (hte:ty e=some te) {m:Int}
  (hx:opd tm x = .one (.int .i64 m)) (hy:opd tm y = .one (.int .i64 m)) (hf:jJ H base = .free) (hc:0 ≤ m ∧ m < (jF:Int)) (hb:te.bytes ≤ 1024) (h0:0 < te.cts.length) :
  o.wp P a w (yn ty A g H w ⟨pf tm o.dst (.one (.own base)),kk H base (.live (.row e (List.replicate m.toNat (te.cts.map jbZ))))⟩) Q:=by
 have rx:=h.opd x
 have ry:=h.opd y
 rw [hx] at rx
 rw [hy] at ry
 obtain ⟨n,rfl⟩:=Int.eq_ofNat_of_zero_le hc.1
 have hn:n < jF:=by exact Int.ofNat_lt.1 hc.2
 obtain ⟨inf,z,hinf,hsz,hby,hz,hzc⟩:=(hty e te hte).info
 have hzl:z.cells=(te.cts.map Yd).toArray:=hzc
 obtain ⟨w',h1,h2,h3⟩:=run_make_full (P:=P) w 0 t e inf z te.cts.length (YZ hty ht) hinf hz hsz .i64 .i64 n (by
  rw [hby]
  refine Nat.le_trans (Nat.mul_le_mul hb (Nat.le_of_lt hn)) ?_
  simp [jF]) (by simp only [jF] at hn; simp only [maxLen]; omega) (Nat.zero_le _)
 have hcell:=j9F z (te.cts.map Yd) hzl (by simpa using h0) n
 rw [List.length_map] at hcell
 rw [hcell] at h2
 obtain ⟨g',q1,q2,q3⟩:=h.grow (base:=base) (e:=e) (l:=List.replicate n (te.cts.map jbZ)) hf hte h0 h3 (fun b hb=>by simp at hb) (j5d (by simpa using h2)) (jdV te.cts n) (fun _ h=>by cases h)
  (fun b hb=>.inr (by simp only [Value.ownBlock,j5] at hb; omega))
 refine kU (v:=.slice (some ⟨w.heap.size,0,none⟩) n n) (w':=w') ?_ (j5b q1 q2.I (ke _ (zh hf)) q3 rfl)
 simp only [execOp,ho]
 rw [show a.eval x=_ from rx,show a.eval y=_ from ry,Sem.run_bind,h1]
 rfl
theorem jcl:∀ (parts:List (Nat × Operand)) {j:Nat} {ts:List CT} {l:List (List DC)} {g:Gh} {H H1:List HS},Rel ty A g ⟨tm,H⟩ a w → Kc H ts j (parts.map fun p=>(p.1,opd tm p.2))=some (l,H1) →
  ∃ (g':Gh) (F:List Nat) (vs:List Value),Rel ty A g' ⟨tm,H1⟩ a w ∧ Ch g g' H H1 w w ∧ RdV ty w ts l (vs.flatMap fun v=>v.cells.toList) F ∧ (∀ b ∈ F,g'.I b) ∧ (∀ v ∈ vs,v.cells.size=ts.length) ∧
   parts.map (fun p=>(p.1,a.eval p.2))=(vs.zipIdx j).map (fun x=>(x.2,x.1)) ∧ vs.length=l.length
 | [],j,ts,l,g,H,H1,h,e=>by
  simp only [List.map_nil,Kc,j5,jg] at e
  obtain ⟨rfl,rfl⟩:=e
  exact ⟨g,[],[],h,.refl _ _ _,.nil _,fun _ h=>by (cases h),fun _ h=>by (cases h),rfl,rfl⟩
 | (i,x) :: parts,j,ts,l,g,H,H1,h,e=>by
  simp only [jL,Kc] at e
  split at e
  ·rename_i hij
   subst hij
   split at e
   ·rename_i ss hss
    split at e
    ·rename_i d H2 hd
     split at e
     ·rename_i ds H3 hds
      simp only [j5,jg] at e
      obtain ⟨rfl,rfl⟩:=e
      obtain ⟨us,u1,u2,u3,u4⟩:=j66 (h.opd x) hss
      obtain ⟨g1,F1,r1,c1,d1,i1⟩:=j9f h u2 hd
      obtain ⟨g2,F2,vs,r2,c2,d2,i2,k1,k2,k3⟩:=jcl parts r1 hds
      refine ⟨g2,F1 ++ F2,a.eval x :: vs,r2,c1.trans c2,?_,fun b hb=>?_,fun v hv=>?_,?_,by simp [k3]⟩
      ·rw [jz,u1]
       exact .cons _ _ _ _ _ _ _ d1 d2
      ·rcases List.mem_append.1 hb with hb | hb
       ·exact c2.I b (i1 b hb)
       ·exact i2 b hb
      ·rcases List.mem_cons.1 hv with rfl | hv
       ·rw [u1]; simpa using d1.length.1
       ·exact k1 v hv
      ·simp [k2]
     ·simp at e
    ·simp at e
   ·simp at e
  ·simp at e
theorem j8i (hty:K9 P ty) (t:TypeId) (n:Nat) (parts:Array (Nat × Operand)) (base:Nat) (ho:o.op = .buildSlice t n parts) (h:Rel ty A g ⟨tm,H⟩ a w) {e:Nat} {te:TI} (ht:Vs (ty t)=some e) (hte:ty e=some te)
  {l:List (List DC)} {H1:List HS} (hr:Kc H te.cts 0 (parts.toList.map fun p=>(p.1,opd tm p.2))=some (l,H1)) (hf:jJ H1 base = .free)
  (hc:l.length=n ∧ n ≤ 10000 ∧ 0 < te.cts.length ∧ te.cts.length ≤ 1024) :
  o.wp P a w (yn ty A g H w ⟨pf tm o.dst (.one (.own base)),kk H1 base (.live (.row e l))⟩) Q:=by
 obtain ⟨g1,F,vs,r1,c1,d1,i1,k1,k2,k3⟩:=jcl parts.toList h hr
 obtain ⟨hn,h10,h0,h1024⟩:=hc
 obtain ⟨inf,z,hinf,hsz,hby,hz,hzc⟩:=(hty e te hte).info
 have hcl:(vs.flatMap fun v=>v.cells.toList).length=n * te.cts.length:=by rw [d1.length,hn]
 have hrun:(Instr.buildSlice t n (parts.map fun x=>(x.1,a.eval x.2))).run P w = .ok (.slice (some ⟨w.heap.size,0,none⟩) n n) (w.alloc (.cells (vs.flatMap fun v=>v.cells.toList).toArray e)):=by
  have hp:(parts.map fun x=>(x.1,a.eval x.2)).toList=(vs.zipIdx 0).map (fun x=>(x.2,x.1)):=by simpa using k2
  by_cases hz0:n=0
  ·subst hz0
   have hv:vs=[]:=jY (by omega)
   subst hv
   simp at hp
   simp [Instr.buildSlice,run_underlying (YZ hty ht),Qz hinf,Instr.fill,newRow,hp]
   rw [show Array.range 0 = #[] from by simp [Array.range]]
   simp
  ·have hm:n * te.cts.length ≤ 10000 * 1024:=Nat.mul_le_mul h10 h1024
   have hpos:0 < n * te.cts.length:=Nat.mul_pos (by omega) h0
   refine run_buildSlice w t e n _ _ inf z (YZ hty ht) hinf hz (by rw [hsz]; omega) (by rw [hsz]; omega) ?_
   rw [hp,hsz]
   exact Great.fill_whole h0 vs _ k1 (by rw [k3,hn]; simp)
 have hown:=World.ownsRow_lit (base:=0) (e:=e) (size:=te.cts.length) w (vs.flatMap fun v=>v.cells.toList).toArray n (Nat.zero_le _) (by simp only [maxLen]; omega) (by simpa using hcl)
 obtain ⟨g',q1,q2,q3⟩:=r1.grow (base:=base) (e:=e) (l:=l) hf hte h0 (World.grownBy_alloc w _ none) (fun b hb=>by simp at hb) (by rw [hn]; exact j5d (by simpa using hown)) d1 i1
  (fun b hb=>.inr (by simp only [Value.ownBlock,j5] at hb; omega))
 refine kU (v:=.slice (some ⟨w.heap.size,0,none⟩) n n) ?_ (j5b q1 (fun b hb=>q2.I b (c1.I b hb)) (ke _ (zh hf)) q3 rfl)
 simp only [execOp,ho]
 rw [Sem.run_bind,hrun]
 rfl
theorem jgc (cs:List Value) (off:Nat) (cells:List Value) (hfit:off + cs.length ≤ cells.length) :
  (cs.toArray.zipIdx.foldl (fun (acc:Array Value) (x:Value × Nat)=>acc.setIfInBounds (off + x.2) x.1) cells.toArray)=(cells.take off ++ (cs ++ cells.drop (off + cs.length))).toArray:=by
 have h:=Great.foldl_set off cs 0 cells.toArray
 rw [← Array.foldl_toList,Array.toList_zipIdx]
 apply Array.ext_getElem?
 intro k
 rw [h.2 k]
 simp only [Nat.add_zero,List.size_toArray,List.getElem?_toArray]
 by_cases hk:off ≤ k ∧ k < off + cs.length
 ·rw [if_pos ⟨hk.1,hk.2,by omega⟩,List.getElem?_append_right (by simp; omega),List.getElem?_append_left (by simp; omega)]
  congr 1
  simp
  omega
 ·rw [if_neg (by omega)]
  by_cases h2:k < off
  ·rw [List.getElem?_append_left (by simp; omega),List.getElem?_take,if_pos h2]
  ·rw [List.getElem?_append_right (by simp; omega),List.getElem?_append_right (by simp; omega),List.getElem?_drop]
   congr 1
   simp
   omega
theorem jgR (h:Rel ty A g ⟨tm,H⟩ a w) (place:Nat → Option (Nat × Nat)) (flds:List (Nat × Nat × Bool)) (hpl:∀ (j:Nat) (x:Nat × Nat × Bool),flds[j]? = some x → place j=some (x.1,x.2.1)) (n:Nat)
  (hfit:∀ (j:Nat) (x:Nat × Nat × Bool),flds[j]? = some x → x.1 + x.2.1 ≤ n) :
  ∀ (parts:List (Nat × Operand)) (z r:List S) (zs:List Value),j7s flds z (parts.map fun p=>(p.1,opd tm p.2))=some r → zo ty g H w z zs → z.length=n →
  ∃ rs:List Value,Instr.fill place zs.toArray (parts.map fun p=>(p.1,a.eval p.2))=some rs.toArray ∧ zo ty g H w r rs ∧ r.length=n
 | [],z,r,zs,e,hz,hn=>by
  simp only [List.map_nil,j7s,j5] at e
  subst e
  exact ⟨zs,rfl,hz,hn⟩
 | (j,x) :: parts,z,r,zs,e,hz,hn=>by
  simp only [jL,j7s] at e
  split at e
  ·rename_i off k ag ss hj hss
   split at e
   ·rename_i hk
    obtain ⟨us,u1,u2,u3,u4⟩:=j66 (h.opd x) hss
    have hf:=hfit j _ hj
    have hzl:=hz.length
    simp only at hf
    have hs:zo ty g H w (j2g z off ss) (zs.take off ++ (us ++ zs.drop (off + us.length))):=by
     rw [u4]
     exact (hz.take off).append (u2.append (hz.drop (off + ss.length)))
    obtain ⟨rs,q1,q2,q3⟩:=jgR h place flds hpl n hfit parts _ _ _ e hs (by simp [j2g]; omega)
    refine ⟨rs,?_,q2,q3⟩
    rw [← q1]
    simp only [jL]
    rw [Instr.fill,hpl j _ hj]
    simp only [u1,List.size_toArray]
    rw [if_neg (by simp; omega)]
    congr 1
    exact jgc us off zs (by omega)
   ·simp at e
  ·simp at e
theorem jfD (hty:K9 P ty) (t:TypeId) (parts:Array (Nat × Operand)) (ho:o.op = .build t parts) (h:Rel ty A g ⟨tm,H⟩ a w) {ti:TI} (ht:ty t=some ti) (hst:kL (some ti)=true) {ss:List S}
  (hb:j7s ti.flds (ti.cts.map jdU) (parts.toList.map fun p=>(p.1,opd tm p.2))=some ss) :
  o.wp P a w (yn ty A g H w ⟨pf tm o.dst (.agg ss),H⟩) Q:=by
 obtain ⟨fs,hu,hn,hf⟩:=j6K hty ht hst
 obtain ⟨inf,z,hinf,hsz,hby,hz,hzc⟩:=(hty t ti ht).info
 have hpl:∀ (j:Nat) (x:Nat × Nat × Bool),ti.flds[j]? = some x → (fs.toList.map fun f=>(f.offset,((P.info? f.type).map (·.size)).getD 0))[j]? = some (x.1,x.2.1):=by
  intro j x hj
  have hjl:j < ti.flds.length:=by
   rcases jA j ti.flds.length with h' | h'
   ·exact h'
   ·simp [List.getElem?_eq_none h'] at hj
  have hfj:fs[j]? = some fs[j]:=Array.getElem?_eq_getElem (by omega)
  have hok:=hf j _ _ hfj hj
  obtain ⟨i',hi',hs'⟩:=hok.size
  have:=hok.off
  simp [hfj,hi',hs',this]
 have hplaces:fs.toList.mapM (fun f=>(P.info? f.type).map fun i=>(f.offset,i.size))=some (fs.toList.map fun f=>(f.offset,((P.info? f.type).map (·.size)).getD 0)):=by
  have:∀ l:List Go.Field,(∀ f ∈ l,∃ i,P.info? f.type=some i) → l.mapM (fun f=>(P.info? f.type).map fun i=>(f.offset,i.size))=some (l.map fun f=>(f.offset,((P.info? f.type).map (·.size)).getD 0)):=by
   intro l
   induction l with
   | nil=>intro _; rfl
   | cons f l ih =>
    intro hl
    obtain ⟨i,hi⟩:=hl f (by simp)
    rw [List.mapM_cons,ih (fun f hf=>hl f (by simp [hf]))]
    simp [hi]
  refine this _ fun f hfm=>?_
  obtain ⟨j,hj,rfl⟩:=List.getElem_of_mem hfm
  have hj':j < fs.size:=by simpa using hj
  obtain ⟨i',hi',_⟩:=(hf j fs[j] (ti.flds[j]'(by omega)) (Array.getElem?_eq_getElem hj') (List.getElem?_eq_getElem (by omega))).size
  exact ⟨i',by simpa using hi'⟩
 obtain ⟨rs,q1,q2,q3⟩:=jgR h (fun x=>(fs.toList.map fun f=>(f.offset,((P.info? f.type).map (·.size)).getD 0)).toArray[x]?) ti.flds (fun j x hj=>by simpa using hpl j x hj) ti.cts.length (fun j x hj=>by
  have hjl:j < ti.flds.length:=by
   rcases jA j ti.flds.length with h' | h'
   ·exact h'
   ·simp [List.getElem?_eq_none h'] at hj
  exact (hf j _ _ (Array.getElem?_eq_getElem (show j < fs.size by omega)) hj).fit) parts.toList _ _ _ hb (j94 (ty:=ty) (g:=g) (H:=H) (w:=w) ti.cts).1 (by simp)
 have hbuilt:P.built t (parts.map fun x=>(x.1,a.eval x.2)).toList=some rs.toArray:=by
  unfold Program.built
  simp only [hinf,hu,hz,hplaces]
  rw [hzc]
  have:(parts.map fun x=>(x.1,a.eval x.2)).toList=parts.toList.map fun p=>(p.1,a.eval p.2):=by simp
  rw [this]
  exact q1
 refine kU (v:=.agg rs.toArray) (w':=w) ?_ (qe h ⟨rs,rfl,q2⟩)
 simp only [execOp,ho]
 rw [Sem.run_bind,run_build w t _ _ hbuilt]
 rfl
theorem jhb (hty:K9 P ty) (src dst:TypeId) (x:Operand) (ho:o.op = .convert src dst x) (h:Rel ty A g ⟨tm,H⟩ a w) {c:C} {cl:Cls} {H':List HS} {base:Nat}
  (e:VQ (ρ:=Option (Cls × List HS × C)) ty none src dst base ⟨tm,H⟩ (opd tm x) (fun cl H c=>some (cl,H,c))=some (cl,H',c)) :
  o.wp P a w (yn ty A g H w ⟨pf tm o.dst c,H'⟩) Q:=by
 have rx:=h.opd x
 have fin:∀ v:Value,(convert src dst (a.eval x)).run P w = .ok v w → CR ty g H w c v → o.wp P a w (yn ty A g H w ⟨pf tm o.dst c,H⟩) Q :=
  fun v hr hc=>kU (v:=v) (w':=w) (by simp only [execOp,ho]; rw [Sem.run_bind,hr]; rfl) (qe h hc)
 unfold VQ at e
 split at e
 ·rename_i tx ty' hs hd
  split at e
  ·rename_i k k' k'' n hk hk' hx
   simp only [j5,jg] at e
   obtain ⟨_,rfl,rfl⟩:=e
   rw [hx] at rx
   refine (fin (.int k' (k'.wrap n)) ?_ rfl)
   rw [show a.eval x=_ from rx]
   simp [convert,run_underlying (j6L hty hs hk).1,run_underlying (j6L hty hd hk').1,Conv.intToInt]
  ·rename_i l hk hk' hx
   simp only [j5,jg] at e
   obtain ⟨_,rfl,rfl⟩:=e
   rw [hx] at rx
   refine (fin (.string ⟨l.toArray⟩) ?_ rfl)
   rw [show a.eval x=_ from rx]
   simp [convert,run_underlying (j2s hty hs hk),run_underlying (j2s hty hd hk')]
  ·rename_i el s hk hk' hx
   rw [hx] at rx
   have hsu:=j2t hty hs hk
   have hdu:=j2s hty hd hk'
   split at e
   ·rename_i te e' l hte hsl
    split at e
    ·rename_i hee
     subst hee
     simp only [j5,jg] at e
     obtain ⟨_,rfl,rfl⟩:=e
     have heu:=j6L hty hte rfl
     refine (fin (.string ⟨(pL l).toArray⟩) ?_ rfl)
     have hm:=j38 (v:=a.eval x) (by
      rcases j4y h rx hsl with h1 | ⟨ti,vs,F,id,_,_,_,h1⟩
      ·exact .inl h1
      ·exact .inr ⟨ti,vs,F,h1⟩)
     obtain ⟨ad,cap,hv,hm,hne⟩:=hm
     rw [hv]
     rcases hm with rfl | ⟨ti,vs,F,b,off,h1,h0,rfl,h2,h3,h4⟩
     ·cases ad with
      | none=>exact run_convert_bytes_nil w src e' hsu heu.1 _ _ dst hdu
      | some ad=>exact run_convert_bytes_back w src dst e' ad cap [] hsu heu.1 hdu (fun j hj=>by simp at hj)
     ·obtain rfl:=Option.some.inj (hte.symm.trans h1)
      have h3':RdV ty w [.i .u8] l vs F:=heu.2 ▸ h3
      have hvs:=jcG h3'
      have:=run_convert_bytes_arg (P:=P) w src e' hsu heu.1 b off l.length cap (l.map fun x=>(x.getD 0 d0).ii) (by simp) (fun i hi=>by
       refine h2 i _ ?_
       rw [hvs,List.getElem?_map,List.getD_eq_getElem?_getD]
       simp [hi]) dst hdu
      rw [this]
      simp [strOfNums,pL]
    ·simp at e
   ·rename_i hte hsl
    split at e
    ·simp only [j5,jg] at e
     obtain ⟨_,rfl,rfl⟩:=e
     have heu:=j6L hty hte rfl
     refine (fin (.string ⟨([]:List UInt8).toArray⟩) ?_ rfl)
     rw [show a.eval x=_ from rx]
     exact run_convert_bytes_nil w src el hsu heu.1 _ _ dst hdu
    ·simp at e
   ·simp at e
  ·rename_i el l hk hk' hx
   split at e
   ·rename_i te hte hf
    split at e
    ·rename_i hlim
     simp only [j5,jg] at e
     obtain ⟨_,rfl,rfl⟩:=e
     rw [hx] at rx
     have ex:a.eval x = .string ⟨l.toArray⟩:=rx
     have heu:=j6L hty hte rfl
     have hbs:(ByteArray.mk l.toArray).size=l.length:=by simp [ByteArray.size]
     have hml:(jo l).length=l.length:=by simp [jo]
     obtain ⟨hown,hgr⟩:=j8V w el ⟨l.toArray⟩ (by rw [hbs]; simp only [jF] at hlim; simp only [maxLen]; omega)
     have hrd:=j7r (ty:=ty) (w:=w) l
     obtain ⟨g',q1,q2,q3⟩:=h.grow (base:=base) (e:=el) (l:=jo l) (vs:=l.map fun b=>Value.int .u8 b.toNat) (F:=[]) hf hte (by rw [heu.2]; decide) hgr (fun b hb=>by cases hb) (by rw [heu.2,hml]; rw [hbs] at hown; simpa [Lib.strCells] using hown) (by rw [heu.2]; exact hrd) (fun _ h=>by cases h) (fun b hb=>by
      simp only [Value.ownBlock,j5] at hb
      exact .inr (by omega))
     refine kU (v:=.slice (some ⟨w.heap.size,0,none⟩) (ByteArray.mk l.toArray).size (grownCap w (ByteArray.mk l.toArray).size 0 el)) (w':=Lib.bytesWorld w el ⟨l.toArray⟩) ?_ (j5b q1 q2.I (ke _ (zh hf)) q3 rfl)
     simp only [execOp,ho,ex]
     rw [Sem.run_bind,Lib.run_convert_string_bytes w src dst el ⟨l.toArray⟩ (j2s hty hs hk) (j2t hty hd hk') heu.1]
     rfl
    ·simp at e
   ·simp at e
  ·simp at e
 ·simp at e
end
section
variable {P:Program} {ty:Nat → Option TI} {A:An} {tm:List C} {a:Act} {w:World}
structure Loose (ty:Nat → Option TI) (A:An) (g:Gh) (H:List HS) (w:World) (e:Nat) (l:List (List DC)) (v:Value):Prop where
 row:∃ (ti:TI) (vs:List Value) (F:List Nat),ty e=some ti ∧ 0 < ti.cts.length ∧ QS w 0 e ti.cts.length v l.length vs ∧ RdV ty w ti.cts l vs F ∧ ∀ b ∈ F,g.I b
 own:∀ b,v.ownBlock=some b → ¬ g.I b ∧ (A.w0.heap.size ≤ b ∨ A.Pm b) ∧ ∀ i p,jJ H i = .live p → kX g i p ≠ some b
def NF (ty:Nat → Option TI) (A:An) (g:Gh) (H0 H:List HS) (w:World) (k:K1) (dd:List DC) (v:Value):Prop :=
 match k with
 | .u=>dd=[]
 | .b=>∃ x,dd=[.b x] ∧ v = .bool x
 | .i k=>∃ n,dd=[.i n] ∧ v = .int k n
 | .s=>∃ l,dd=[.s l] ∧ v = .string ⟨l.toArray⟩
 | .sl e=>∃ l F,dd=[.sl l] ∧ RdC ty w (.sl e) (.sl l) v F ∧ ∀ b ∈ F,g.I b
 | .own e _=>∃ l,dd=[.sl l] ∧ Loose ty A g H w e l v
 | .ptr id off=>dd=[] ∧ v.oneCell'=true ∧ (ql H0 id → v = .pointer (some ⟨g.blk id,off,none⟩))
 | .fn f caps=>dd=[] ∧ ∃ vs:Array Value,v = .func (.func f) #[] vs ∧ vs.size=caps.length ∧ ∀ (i id:Nat),caps[i]? = some id → (ql H0 id → vs[i]? = some (.pointer (some ⟨g.blk id,0,none⟩)))
 | .nil=>dd=[] ∧ v = .slice none 0 0
def FL (ty:Nat → Option TI) (A:An) (g:Gh) (H0 H:List HS) (w:World) (v:List DC):Nat → List K1 → List Value → Prop
 | _,[],[]=>True
 | n,k :: ks,u :: us=>(∃ dd,dd.length=k.cnt ∧ (∀ i,i < k.cnt → v.getD (n + i) d0=dd.getD i d0) ∧ NF ty A g H0 H w k dd u) ∧ FL ty A g H0 H w v (n + k.cnt) ks us
 | _,_,_=>False
def j34:List K1 → List Value → Prop
 | .own _ _ :: ks,u :: us=>(∀ b,u.ownBlock=some b → ∀ (i:Nat) (e id:Nat) (x:Value),ks[i]? = some (.own e id) → us[i]? = some x → x.ownBlock ≠ some b) ∧ j34 ks us
 | _ :: ks,_ :: us=>j34 ks us
 | _,_=>True
theorem Loose.mono {g g':Gh} {H H':List HS} {e:Nat} {l:List (List DC)} {v:Value} (h:Loose ty A g H w e l v) (hI:∀ b,g.I b → g'.I b)
  (hn:∀ b,g'.I b → g.I b ∨ ∃ i p,jJ H i = .live p ∧ kX g i p=some b) (hH:∀ i p,jJ H' i = .live p → (∃ q,jJ H i = .live q ∧ ∀ b,kX g' i p=some b → kX g i q=some b)):Loose ty A g' H' w e l v:=by
 obtain ⟨ti,vs,F,h1,h2,h3,h4,h5⟩:=h.row
 refine ⟨⟨ti,vs,F,h1,h2,h3,h4,fun b hb=>hI b (h5 b hb)⟩,fun b hb=>?_⟩
 obtain ⟨k1,k2,k3⟩:=h.own b hb
 refine ⟨fun hI'=>?_,k2,fun i p hi hp=>?_⟩
 ·rcases hn b hI' with h' | ⟨i,p,hi,hp⟩
  ·exact k1 h'
  ·exact k3 i p hi hp
 ·obtain ⟨q,hq,hb'⟩:=hH i p hi
  exact k3 i q hq (hb' b hp)
theorem YD {g g':Gh} (hb:g'.blk=g.blk) (hv:g'.val=g.val) (i:Nat) (p:Obj'):kX g' i p=kX g i p:=by
 cases p <;> simp [kX,hb,hv]
structure Src (g g':Gh) (H H':List HS):Prop where
 I:∀ b,g.I b → g'.I b
 new:∀ b,g'.I b → g.I b ∨ ∃ i e l,jJ H i = .live (.row e l) ∧ kX g i (.row e l)=some b
 blk:g'.blk=g.blk
 val:g'.val=g.val
 old:∀ i p,jJ H' i = .live p → jJ H i = .live p ∨ ∃ e l q,p = .fz e l ∧ jJ H i = .live q
 var:∀ id,ql H id → ql H' id
theorem Src.refl (g:Gh) (H:List HS):Src g g H H:=⟨fun _ h=>h,fun _ h=>.inl h,rfl,rfl,fun i p h=>.inl h,fun _ h=>h⟩
theorem Src.trans {g g' g'':Gh} {H H' H'':List HS} (h:Src g g' H H') (k:Src g' g'' H' H''):Src g g'' H H'':=by
 refine ⟨fun b hb=>k.I b (h.I b hb),fun b hb=>?_,k.blk.trans h.blk,k.val.trans h.val,fun i p hi=>?_,fun id hv=>k.var id (h.var id hv)⟩
 ·rcases k.new b hb with hb | ⟨i,e,l,hi,hp⟩
  ·exact h.new b hb
  ·rcases h.old i _ hi with hq | ⟨e',l',q,hq,_⟩
   ·exact .inr ⟨i,e,l,hq,by rw [← YD h.blk h.val]; exact hp⟩
   ·simp at hq
 ·rcases k.old i p hi with hq | ⟨e,l,q,rfl,hq⟩
  ·exact h.old i p hq
  ·rcases h.old i q hq with hr | ⟨_,_,r,_,hr⟩
   ·exact .inr ⟨e,l,q,rfl,hr⟩
   ·exact .inr ⟨e,l,r,rfl,hr⟩
theorem Src.live {g g':Gh} {H H':List HS} (s:Src g g' H H') (i:Nat) (p:Obj') (hi:jJ H' i = .live p):∃ q,jJ H i = .live q ∧ ∀ b,kX g' i p=some b → kX g i q=some b:=by
 rcases s.old i p hi with hq | ⟨e,l,q,rfl,hq⟩
 ·exact ⟨p,hq,fun b hb=>by rw [← YD s.blk s.val]; exact hb⟩
 ·exact ⟨q,hq,fun b hb=>by simp [kX] at hb⟩
theorem Src.newI {g g':Gh} {H H':List HS} (s:Src g g' H H') (b:Nat) (hb:g'.I b):g.I b ∨ ∃ i p,jJ H i = .live p ∧ kX g i p=some b:=by
 rcases s.new b hb with h | ⟨i,e,l,h1,h2⟩
 ·exact .inl h
 ·exact .inr ⟨i,_,h1,h2⟩
theorem NF.mono {g g':Gh} {H0 H H':List HS} {k:K1} {dd:List DC} {v:Value} (s:Src g g' H H') (h:NF ty A g H0 H w k dd v):NF ty A g' H0 H' w k dd v:=by
 cases k with
 | sl e=>obtain ⟨l,F,h1,h2,h3⟩:=h; exact ⟨l,F,h1,h2,fun b hb=>s.I b (h3 b hb)⟩
 | own e id=>obtain ⟨l,h1,h2⟩:=h; exact ⟨l,h1,h2.mono s.I s.newI s.live⟩
 | ptr id off=>obtain ⟨h1,h2,h3⟩:=h; exact ⟨h1,h2,fun hv=>by rw [s.blk]; exact h3 hv⟩
 | fn f caps=>obtain ⟨h1,vs,h2,h3,h4⟩:=h; exact ⟨h1,vs,h2,h3,fun i id hi hv=>by rw [s.blk]; exact h4 i id hi hv⟩
 | _=>exact h
theorem j9I {H:List HS} {id:Nat} {x:HS} (hlt:id < H.length) {i:Nat} {p:Obj'} (hi:jJ (kk H id x) i = .live p):(i=id ∧ x = .live p) ∨ (i ≠ id ∧ jJ H i = .live p):=by
 by_cases e:id=i
 ·subst e; rw [ke _ hlt] at hi; exact .inl ⟨rfl,hi⟩
 ·rw [jM _ e] at hi; exact .inr ⟨fun h=>e h.symm,hi⟩
theorem jhT {g:Gh} {H:List HS} (h:Rel ty A g ⟨tm,H⟩ a w) {e:Nat} {s:S} {v:Value} {d:DC} {H':List HS} (hs:SR ty g H w s v) (e1:ZP H (.sl e) s=some (d,H')) :
  ∃ g' F l,d = .sl l ∧ Rel ty A g' ⟨tm,H'⟩ a w ∧ Ch g g' H H' w w ∧ Src g g' H H' ∧ RdC ty w (.sl e) (.sl l) v F ∧ ∀ b ∈ F,g'.I b:=by
 cases s with
 | sl e2 l =>
  simp only [ZP] at e1
  split at e1
  ·rename_i hk
   subst hk
   simp only [j5,jg] at e1
   obtain ⟨rfl,rfl⟩:=e1
   obtain ⟨F,h1,h2⟩:=hs
   exact ⟨g,F,l,rfl,h,.refl _ _ _,.refl _ _,h1,h2⟩
  ·simp at e1
 | nil =>
  simp only [ZP,j5,jg] at e1
  obtain ⟨rfl,rfl⟩:=e1
  exact ⟨g,[],[],rfl,h,.refl _ _ _,.refl _ _,by rw [show v=_ from hs]; exact .nil _ _ _,fun _ h=>by (cases h)⟩
 | own id =>
  obtain ⟨hn,_,hv⟩:=hs
  simp only [ZP] at e1
  split at e1
  ·rename_i e2 l hr
   split at e1
   ·rename_i hk
    subst hk
    simp only [j5,jg] at e1
    obtain ⟨rfl,rfl⟩:=e1
    obtain ⟨g',h1,h2,⟨F,h3,h4⟩,h5,h6,h7⟩:=h.freeze2 hr
    refine ⟨g',F,l,rfl,h1,h2,⟨h2.I,fun b hb=>?_,h5,h6,fun i p hi=>?_,fun i hvi=>?_⟩,by rw [hv ⟨_,_,.inl hr⟩,← h6]; exact h3,h4⟩
    ·rcases h7 b hb with hb | hb
     ·exact .inl hb
     ·exact .inr ⟨id,e2,l,hr,hb⟩
    ·rcases j9I (py hr) hi with ⟨rfl,hx⟩ | ⟨_,hi⟩
     ·exact .inr ⟨e2,l,_,by simpa using hx.symm,hr⟩
     ·exact .inl hi
    ·obtain ⟨t,cs,hc⟩:=hvi
     have:id ≠ i:=by rintro rfl; rw [hr] at hc; simp at hc
     exact ⟨t,cs,by rw [jM _ this]; exact hc⟩
   ·simp at e1
  ·rename_i e2 l hr
   split at e1
   ·rename_i hk
    subst hk
    simp only [j5,jg] at e1
    obtain ⟨rfl,rfl⟩:=e1
    obtain ⟨F,h3,h4⟩:=h.read_fz hr
    exact ⟨g,F,l,rfl,h,.refl _ _ _,.refl _ _,by rw [hv ⟨_,_,.inr hr⟩]; exact h3,h4⟩
   ·simp at e1
  ·simp at e1
 | _=>simp [ZP] at e1
theorem jhl {g:Gh} {H H0:List HS} (h:Rel ty A g ⟨tm,H⟩ a w) (h0:∀ id,ql H0 id → ql H id) {k:K1} {s:S} {v:Value} {d:List DC} {H':List HS} (hs:SR ty g H w s v) (e1:Kn ty H k s=some (d,H')) :
  ∃ g',Rel ty A g' ⟨tm,H'⟩ a w ∧ Ch g g' H H' w w ∧ Src g g' H H' ∧ NF ty A g' H0 H' w k d v ∧ d.length=k.cnt ∧
   (∀ e id,k = .own e id → ∀ b,v.ownBlock=some b → ∃ i p,jJ H i = .live p ∧ kX g i p=some b):=by
 have triv:∀ {d'},NF ty A g H0 H w k d' v → d'=d → H=H' → d.length=k.cnt → (∀ e id,k ≠ .own e id) → ∃ g',Rel ty A g' ⟨tm,H'⟩ a w ∧ Ch g g' H H' w w ∧ Src g g' H H' ∧ NF ty A g' H0 H' w k d v ∧ d.length=k.cnt ∧
   (∀ e id,k = .own e id → ∀ b,v.ownBlock=some b → ∃ i p,jJ H i = .live p ∧ kX g i p=some b):=by
  intro d' h1 h2 h3 h4 h5
  subst h2
  subst h3
  exact ⟨g,h,.refl _ _ _,.refl _ _,h1,h4,fun e id hk=>absurd hk (h5 e id)⟩
 unfold Kn at e1
 split at e1
 ·simp only [j5,jg] at e1
  obtain ⟨rfl,rfl⟩:=e1
  exact triv (show NF ty A g H0 H w .u [] v from rfl) rfl rfl rfl (by simp)
 ·simp only [j5,jg] at e1
  obtain ⟨rfl,rfl⟩:=e1
  exact triv (show NF ty A g H0 H w .b _ v from ⟨_,rfl,hs⟩) rfl rfl rfl (by simp)
 ·split at e1
  ·rename_i hk
   subst hk
   simp only [j5,jg] at e1
   obtain ⟨rfl,rfl⟩:=e1
   exact triv (show NF ty A g H0 H w (.i _) _ v from ⟨_,rfl,hs⟩) rfl rfl rfl (by simp)
  ·simp at e1
 ·simp only [j5,jg] at e1
  obtain ⟨rfl,rfl⟩:=e1
  exact triv (show NF ty A g H0 H w .s _ v from ⟨_,rfl,hs⟩) rfl rfl rfl (by simp)
 ·split at e1
  ·rename_i d' H1 hd
   simp only [j5,jg] at e1
   obtain ⟨rfl,rfl⟩:=e1
   obtain ⟨g',F,l,rfl,h1,h2,h3,h4,h5⟩:=jhT h hs hd
   exact ⟨g',h1,h2,h3,⟨l,F,rfl,h4,h5⟩,rfl,by simp⟩
  ·simp at e1
 ·rename_i e id0 id
  split at e1
  ·rename_i e' l hr
   split at e1
   ·rename_i hk
    subst hk
    simp only [j5,jg] at e1
    obtain ⟨rfl,rfl⟩:=e1
    obtain ⟨h1,h2⟩:=h.kill hr
    obtain ⟨ti,vs,F,k1,k0,k2,k3,k4,k5⟩:=h.ob id _ hr
    have hv:=hs.2.2 ⟨_,_,.inl hr⟩
    have hlt:=py hr
    refine ⟨g,h1,h2,⟨fun _ h=>h,fun _ h=>.inl h,rfl,rfl,fun i p hi=>?_,fun i hvi=>?_⟩,⟨l,rfl,⟨⟨ti,vs,F,k1,k0,by rw [hv]; exact k2,k3,k4⟩,fun b hb=>?_⟩⟩,rfl,fun _ _ _ b hb=>⟨id,_,hr,by rw [hv] at hb; exact hb⟩⟩
    ·rcases j9I hlt hi with ⟨_,hx⟩ | ⟨_,hi⟩
     ·simp at hx
     ·exact .inl hi
    ·obtain ⟨t,cs,hc⟩:=hvi
     have:id ≠ i:=by rintro rfl; rw [hr] at hc; simp at hc
     exact ⟨t,cs,by rw [jM _ this]; exact hc⟩
    ·rw [hv] at hb
     refine ⟨k5 b hb,h.ow id _ b hr hb,fun i p hi hp=>?_⟩
     rcases j9I hlt hi with ⟨_,hx⟩ | ⟨hne,hi⟩
     ·simp at hx
     ·exact h.sep i id p _ b hne hi hr hp hb
   ·simp at e1
  ·simp at e1
 ·rename_i e id
  split at e1
  ·rename_i ti hti
   split at e1
   ·rename_i h0'
    simp only [j5,jg] at e1
    obtain ⟨rfl,rfl⟩:=e1
    have hv:v = .slice none 0 0:=hs
    subst hv
    refine ⟨g,h,.refl _ _ _,.refl _ _,⟨[],rfl,⟨⟨ti,[],[],hti,h0',jcq _ _ _ _,.nil _,fun _ h=>by cases h⟩,fun b hb=>by simp [Value.ownBlock] at hb⟩⟩,rfl,fun _ _ _ b hb=>by simp [Value.ownBlock] at hb⟩
   ·simp at e1
  ·simp at e1
 ·split at e1
  ·rename_i hk
   obtain ⟨rfl,rfl⟩:=hk
   simp only [j5,jg] at e1
   obtain ⟨rfl,rfl⟩:=e1
   exact triv (show NF ty A g H0 H w (.ptr _ _) [] v from ⟨rfl,hs.2.1,fun hv=>hs.2.2 (h0 _ hv)⟩) rfl rfl rfl (by simp)
  ·simp at e1
 ·split at e1
  ·rename_i hk
   obtain ⟨rfl,rfl⟩:=hk
   simp only [j5,jg] at e1
   obtain ⟨rfl,rfl⟩:=e1
   obtain ⟨vs,h1,h2,h3⟩:=hs
   exact triv (show NF ty A g H0 H w (.fn _ _) [] v from ⟨rfl,vs,h1,h2,fun i id hi hv=>(h3 i id hi).2 (h0 _ hv)⟩) rfl rfl rfl (by simp)
  ·simp at e1
 ·simp only [j5,jg] at e1
  obtain ⟨rfl,rfl⟩:=e1
  exact triv (show NF ty A g H0 H w .nil [] v from ⟨rfl,hs⟩) rfl rfl rfl (by simp)
 ·simp at e1
theorem j5g:∀ {ks:List K1} {ss:List S} {vs:List Value} {g:Gh} {H H0 H1:List HS} {d:List DC} (pre post:List DC),Rel ty A g ⟨tm,H⟩ a w → (∀ id,ql H0 id → ql H id) → zo ty g H w ss vs → ye ty H ks ss=some (d,H1) →
  ∃ g1,Rel ty A g1 ⟨tm,H1⟩ a w ∧ Src g g1 H H1 ∧ FL ty A g1 H0 H1 w (pre ++ (d ++ post)) pre.length ks vs ∧ j34 ks vs ∧ d.length=j0g ks ∧
   ∀ (i:Nat) (e id:Nat) (x:Value),ks[i]? = some (.own e id) → vs[i]? = some x → ∀ b,x.ownBlock=some b → ∃ j p,jJ H j = .live p ∧ kX g j p=some b
 | [],[],[],g,H,H0,H1,d,pre,post,h,h0,hs,e=>by
  simp only [ye,j5,jg] at e
  obtain ⟨rfl,rfl⟩:=e
  exact ⟨g,h,.refl _ _,trivial,trivial,rfl,fun i e id x hi=>by simp at hi⟩
 | k :: ks,s :: ss,v :: vs,g,H,H0,H2,d,pre,post,h,h0,hs,e=>by
  simp only [ye] at e
  split at e
  ·rename_i d1 H1 e1
   split at e
   ·rename_i d2 H2' e2
    simp only [j5,jg] at e
    obtain ⟨rfl,rfl⟩:=e
    obtain ⟨g1,r1,c1,s1,n1,l1,o1⟩:=jhl h h0 hs.1 e1
    obtain ⟨g2,r2,s2,n2,a2,l2,o2⟩:=j5g (pre ++ d1) post r1 (fun id hv=>s1.var id (h0 id hv)) (hs.2.mono c1) e2
    refine ⟨g2,r2,s1.trans s2,⟨⟨d1,l1,fun i hi=>?_,n1.mono s2⟩,?_⟩,?_,by simp [j0g,l1,l2],fun i e id x hi hx b hb=>?_⟩
    ·simp only [List.getD_eq_getElem?_getD]
     rw [List.getElem?_append_right (by omega),Nat.add_sub_cancel_left,jO,List.getElem?_append_left (by omega)]
    ·have:pre ++ (d1 ++ d2 ++ post)=pre ++ d1 ++ (d2 ++ post):=by simp
     rw [this,← l1,← j3]
     exact n2
    ·cases k with
     | own e id =>
      refine ⟨fun b hb i e' id' x hi hx hxb=>?_,a2⟩
      obtain ⟨j,p,hj,hp⟩:=o2 i e' id' x hi hx b hxb
      obtain ⟨l,_,hl⟩:=n1
      exact (hl.own b hb).2.2 j p hj hp
     | _=>exact a2
    ·cases i with
     | zero =>
      simp only [List.getElem?_cons_zero,j5] at hi hx
      subst hx
      exact o1 e id hi b hb
     | succ i =>
      simp only [List.getElem?_cons_succ] at hi hx
      obtain ⟨j,p,hj,hp⟩:=o2 i e id x hi hx b hb
      obtain ⟨q,hq,hq'⟩:=s1.live j p hj
      exact ⟨j,q,hq,hq' b hp⟩
   ·simp at e
  ·simp at e
 | [],_ :: _,_,_,_,_,_,_,_,_,_,_,_,e=>by simp [ye] at e
 | _ :: _,[],_,_,_,_,_,_,_,_,_,_,_,e=>by simp [ye] at e
 | [],[],_ :: _,_,_,_,_,_,_,_,_,_,hs,_=>hs.elim
 | _ :: _,_ :: _,[],_,_,_,_,_,_,_,_,_,hs,_=>hs.elim
theorem Jk (v:List DC):∀ (n:Nat) (a b:List K1),mkL v n (a ++ b)=mkL v n a ++ mkL v (n + j0g a) b
 | n,[],b=>rfl
 | n,k :: a,b=>by simp [mkL,j0g,Jk v (n + k.cnt) a b,Nat.add_assoc]
theorem Jj (v:List DC):∀ (n:Nat) (a:List K1),(mkL v n a).length=a.length
 | n,[]=>rfl
 | n,k :: a=>by simp [mkL,Jj v (n + k.cnt) a]
theorem zo.split {g:Gh} {H:List HS}:∀ {a b:List S} {xs:List Value},zo ty g H w (a ++ b) xs → ∃ ys zs,xs=ys ++ zs ∧ zo ty g H w a ys ∧ zo ty g H w b zs
 | [],b,xs,h=>⟨[],xs,rfl,trivial,h⟩
 | s :: a,b,x :: xs,h=>by
  obtain ⟨ys,zs,h1,h2,h3⟩:=zo.split (a:=a) h.2
  exact ⟨x :: ys,zs,by simp [h1],⟨h.1,h2⟩,h3⟩
 | s :: a,b,[],h=>h.elim
theorem zo.unappend {g:Gh} {H:List HS} {a b:List S} {xs ys:List Value} (h:zo ty g H w (a ++ b) (xs ++ ys)) (hl:xs.length=a.length):zo ty g H w a xs ∧ zo ty g H w b ys:=by
 obtain ⟨us,vs,h1,h2,h3⟩:=zo.split h
 have:=h2.length
 obtain ⟨rfl,rfl⟩:=List.append_inj h1 (by omega)
 exact ⟨h2,h3⟩
theorem jd1:∀ {ks:List KC} {cs:List C} {p:List S} {us:List Value} {g:Gh} {H:List HS},V0 ks cs=some p → us.length=cs.length → (∀ (i:Nat) (c:C) (v:Value),cs[i]? = some c → us[i]? = some v → CR ty g H w c v) →
  ∃ vs:List Value,zo ty g H w p vs ∧ p.length=(ks.flatMap KC.kinds).length ∧
   ∀ (g':Gh) (H':List HS) (v:List DC) (n:Nat),zo ty g' H' w (mkL v n (ks.flatMap KC.kinds)) vs →
    (mkT v n ks).length=us.length ∧ ∀ (i:Nat) (c:C) (u:Value),(mkT v n ks)[i]? = some c → us[i]? = some u → CR ty g' H' w c u
 | [],[],p,us,g,H,e,hl,hc=>by
  simp only [V0,j5] at e
  subst e
  have:us=[]:=jY hl
  subst this
  exact ⟨[],trivial,rfl,fun g' H' v n h=>⟨rfl,fun i c u hi=>by simp [mkT] at hi⟩⟩
 | k :: ks,c :: cs,p,us,g,H,e,hl,hc=>by
  match us,hl with
  | u :: us,hl =>
   have hcs:∀ (i:Nat) (c:C) (v:Value),cs[i]? = some c → us[i]? = some v → CR ty g H w c v:=fun i c v h1 h2=>hc (i + 1) c v h1 h2
   have hl':us.length=cs.length:=by simpa using hl
   have hc0:=hc 0 c u rfl rfl
   have one:∀ (k1:K1) (s:S) (r:List S),k = .one k1 → p=s :: r → V0 ks cs=some r → SR ty g H w s u → ∃ vs:List Value,zo ty g H w p vs ∧ p.length=((k :: ks).flatMap KC.kinds).length ∧
     ∀ (g':Gh) (H':List HS) (v:List DC) (n:Nat),zo ty g' H' w (mkL v n ((k :: ks).flatMap KC.kinds)) vs →
      (mkT v n (k :: ks)).length=(u :: us).length ∧ ∀ (i:Nat) (c:C) (u':Value),(mkT v n (k :: ks))[i]? = some c → (u :: us)[i]? = some u' → CR ty g' H' w c u':=by
    intro k1 s r hk hp hr hs
    subst hk
    subst hp
    obtain ⟨vs,h1,h2,h3⟩:=jd1 hr hl' hcs
    refine ⟨u :: vs,⟨hs,h1⟩,by simp [KC.kinds,h2],fun g' H' v n hh=>?_⟩
    simp only [jz,KC.kinds,jU,mkL] at hh
    obtain ⟨q1,q2⟩:=h3 g' H' v (n + k1.cnt) hh.2
    refine ⟨by simp [mkT,q1],fun i c u' hi hu=>?_⟩
    cases i with
    | zero =>
     simp only [mkT,List.getElem?_cons_zero,j5] at hi hu
     subst hi
     subst hu
     exact hh.1
    | succ i =>
     simp only [mkT,List.getElem?_cons_succ] at hi hu
     exact q2 i c u' hi hu
   unfold V0 at e
   split at e
   ·rename_i heq _; simp at heq
   ·rename_i ks' c' cs' hk hcc
    simp only [List.cons.injEq] at hk hcc
    obtain ⟨rfl,rfl⟩:=hk
    obtain ⟨rfl,rfl⟩:=hcc
    split at e
    ·rename_i r hr
     simp only [j5] at e
     exact one .u .undef r rfl e.symm hr trivial
    ·simp at e
   ·rename_i k1 ks' s cs' _ hk hcc
    simp only [List.cons.injEq] at hk hcc
    obtain ⟨rfl,rfl⟩:=hk
    obtain ⟨rfl,rfl⟩:=hcc
    split at e
    ·rename_i r hr
     simp only [j5] at e
     exact one k1 s r rfl e.symm hr hc0
    ·simp at e
   ·rename_i l ks' ss cs' hk hcc
    simp only [List.cons.injEq] at hk hcc
    obtain ⟨rfl,rfl⟩:=hk
    obtain ⟨rfl,rfl⟩:=hcc
    split at e
    ·rename_i hlen
     split at e
     ·rename_i r hr
      simp only [j5] at e
      subst e
      obtain ⟨xs,hx,hs⟩:=hc0
      obtain ⟨vs,h1,h2,h3⟩:=jd1 hr hl' hcs
      refine ⟨xs ++ vs,hs.append h1,by simp [KC.kinds,h2,hlen],fun g' H' v n hh=>?_⟩
      simp only [jz,KC.kinds,Jk] at hh
      obtain ⟨hh1,hh2⟩:=hh.unappend (by rw [hs.length,Jj,hlen])
      obtain ⟨q1,q2⟩:=h3 g' H' v _ hh2
      refine ⟨by simp [mkT,q1],fun i c u' hi hu=>?_⟩
      cases i with
      | zero =>
       simp only [mkT,List.getElem?_cons_zero,j5] at hi hu
       subst hi
       subst hu
       exact ⟨xs,hx,hh1⟩
      | succ i =>
       simp only [mkT,List.getElem?_cons_succ] at hi hu
       exact q2 i c u' hi hu
     ·simp at e
    ·simp at e
   ·simp at e
 | [],_ :: _,_,_,_,_,e,_,_=>by simp [V0] at e
 | .one _ :: _,[],_,_,_,_,e,_,_=>by simp [V0] at e
 | .agg _ :: _,[],_,_,_,_,e,_,_=>by simp [V0] at e
theorem jd2 {g:Gh} {H:List HS} (h:Rel ty A g ⟨tm,H⟩ a w):∀ {ks:List KO} {id:Nat} {q:List S},j51 H id ks=some q →
  ∃ vs:List Value,zo ty g H w q vs ∧ q.length=(ks.flatMap KO.kinds).length ∧ (∀ (i t:Nat) (l:List K1),ks[i]? = some (.var t l) → ql H (id + i)) ∧
   ∀ (g':Gh) (H':List HS) (v:List DC) (n:Nat) (ks0:List K1),zo ty g' H' w (mkL v n (ks.flatMap KO.kinds)) vs →
    ∀ (i t:Nat) (cs:List S),(mkO v ks0 n id ks)[i]? = some (.live (.var t cs)) → (∀ t' l,ks[i]? ≠ some (.var t' l)) ∨
     ∃ us:List Value,w.heap[g.blk (id + i)]? = some (.cells us.toArray t (0,0)) ∧ zo ty g' H' w cs us ∧ ∀ u ∈ us,u.oneCell'=true
 | [],id,q,e=>by
  simp only [j51,j5] at e
  subst e
  exact ⟨[],trivial,rfl,fun i t l hi=>by simp at hi,fun g' H' v n ks0 _ i t cs hi=>by simp [mkO] at hi⟩
 | .u :: ks,id,q,e=>by
  simp only [j51] at e
  obtain ⟨vs,h1,h2,h4,h3⟩:=jd2 h e
  refine ⟨vs,h1,by simpa [KO.kinds] using h2,fun i t l hi=>?_,fun g' H' v n ks0 hh i t cs hi=>?_⟩
  ·cases i with
   | zero=>simp at hi
   | succ i=>rw [show id + (i + 1)=id + 1 + i by omega]; exact h4 i t l (by simpa using hi)
  ·cases i with
   | zero=>exact .inl fun t' l h=>by simp at h
   | succ i =>
    rcases h3 g' H' v n ks0 (by simpa [KO.kinds] using hh) i t cs (by simpa [mkO] using hi) with h | ⟨us,k1,k2⟩
    ·exact .inl fun t' l hk=>h t' l (by simpa using hk)
    ·exact .inr ⟨us,by rw [show id + (i + 1)=id + 1 + i by omega]; exact k1,k2⟩
 | .var t l :: ks,id,q,e=>by
  simp only [j51] at e
  split at e
  ·rename_i t' cs hv
   split at e
   ·rename_i hc
    obtain ⟨rfl,hc⟩:=hc
    split at e
    ·rename_i r hr
     simp only [j5] at e
     subst e
     obtain ⟨vs,h1,h2,h4,h3⟩:=jd2 h hr
     obtain ⟨us,k1,k2,k3,k4⟩:=h.ob id _ hv
     refine ⟨us ++ vs,k2.append h1,by simp [KO.kinds,h2,hc],fun i t l' hi=>?_,fun g' H' v n ks0 hh i t cs' hi=>?_⟩
     ·cases i with
      | zero=>exact ⟨_,_,hv⟩
      | succ i=>rw [show id + (i + 1)=id + 1 + i by omega]; exact h4 i t l' (by simpa using hi)
     ·simp only [jz,KO.kinds,Jk] at hh
      obtain ⟨hh1,hh2⟩:=hh.unappend (by rw [k2.length,Jj,hc])
      cases i with
      | zero =>
       simp only [mkO,List.getElem?_cons_zero,j5,HS.live.injEq,Obj'.var.injEq] at hi
       obtain ⟨rfl,rfl⟩:=hi
       exact .inr ⟨us,k1,hh1,k4⟩
      | succ i =>
       rcases h3 g' H' v _ ks0 hh2 i t cs' (by simpa [mkO] using hi) with h | ⟨us,k1,k2⟩
       ·exact .inl fun t' l hk=>h t' l (by simpa using hk)
       ·exact .inr ⟨us,by rw [show id + (i + 1)=id + 1 + i by omega]; exact k1,k2⟩
    ·simp at e
   ·simp at e
  ·simp at e
def KX (id:Nat):List K1 → List Value → Value
 | .own _ i :: ks,u :: us=>if i=id then u else KX id ks us
 | _ :: ks,_ :: us=>KX id ks us
 | _,_=>.nilIface
theorem YW {g:Gh} {H0 H:List HS} {v:List DC} (id:Nat):∀ {n:Nat} {ks:List K1} {us:List Value},FL ty A g H0 H w v n ks us →
  (Kl v id n ks = .free ∧ ∀ (i:Nat) (e:Nat),ks[i]? ≠ some (.own e id)) ∨
  ∃ (e:Nat) (l:List (List DC)) (i:Nat),Kl v id n ks = .live (.row e l) ∧ Loose ty A g H w e l (KX id ks us) ∧ ks[i]? = some (.own e id) ∧ us[i]? = some (KX id ks us)
 | _,[],[],_=>.inl ⟨rfl,fun i e h=>by simp at h⟩
 | n,k :: ks,u :: us,⟨⟨dd,hd,hv,hn⟩,hf⟩=>by
  have other:(∀ e,k ≠ .own e id) → Kl v id n (k :: ks)=Kl v id (n + k.cnt) ks → KX id (k :: ks) (u :: us)=KX id ks us →
    (Kl v id n (k :: ks) = .free ∧ ∀ (i:Nat) (e:Nat),(k :: ks)[i]? ≠ some (.own e id)) ∨
    ∃ (e:Nat) (l:List (List DC)) (i:Nat),Kl v id n (k :: ks) = .live (.row e l) ∧ Loose ty A g H w e l (KX id (k :: ks) (u :: us)) ∧ (k :: ks)[i]? = some (.own e id) ∧ (u :: us)[i]? = some (KX id (k :: ks) (u :: us)):=by
   intro h1 h2 h3
   rw [h2,h3]
   rcases YW id hf with ⟨q1,q2⟩ | ⟨e,l,i,q1,q2,q3,q4⟩
   ·refine .inl ⟨q1,fun i e hi=>?_⟩
    cases i with
    | zero=>exact h1 e (by simpa using hi)
    | succ i=>exact q2 i e (by simpa using hi)
   ·exact .inr ⟨e,l,i + 1,q1,q2,by simpa using q3,by simpa using q4⟩
  cases k with
  | own e i =>
   by_cases hi:i=id
   ·subst hi
    obtain ⟨l,rfl,hl⟩:=hn
    have:=hv 0 (by simp [K1.cnt])
    simp only [Nat.add_zero,List.getD_cons_zero] at this
    exact .inr ⟨e,l,0,by rw [Kl,if_pos rfl,this]; rfl,by simpa [KX] using hl,rfl,by simp [KX]⟩
   ·exact other (fun e' h=>by simp at h; exact hi h.2) (by simp [Kl,hi,K1.cnt]) (by simp [KX,hi])
  | _=>exact other (fun e' h=>by simp at h) rfl rfl
 | _,[],_ :: _,h=>h.elim
 | _,_ :: _,[],h=>h.elim
theorem XA {x:Nat} {l:List Nat} (h:Ko (x :: l)=true):x ∉ l ∧ Ko l=true:=by
 simp only [Ko,jj,Bool.not_eq_true',List.contains_eq_mem,decide_eq_false_iff_not] at h
 exact h
theorem j8Z {ks:List K1} {i e id:Nat} (h:ks[i]? = some (.own e id)):id ∈ ks.flatMap K1.ids :=
 List.mem_flatMap.2 ⟨_,List.mem_of_getElem? h,by simp [K1.ids]⟩
theorem Xr {id:Nat}:∀ {ks:List K1} {us:List Value} {i e:Nat} {u:Value},Ko (ks.flatMap K1.ids)=true → ks[i]? = some (.own e id) → us[i]? = some u → KX id ks us=u
 | [],_,i,e,u,_,h,_=>by simp at h
 | k :: ks,[],i,e,u,_,_,h=>by simp at h
 | k :: ks,x :: us,0,e,u,hn,h1,h2=>by
  simp only [List.getElem?_cons_zero,j5] at h1 h2
  subst h1
  subst h2
  simp [KX]
 | k :: ks,x :: us,i + 1,e,u,hn,h1,h2=>by
  simp only [List.getElem?_cons_succ] at h1 h2
  cases k with
  | own e' id' =>
   have hn':Ko (id' :: ks.flatMap K1.ids)=true:=by simpa [K1.ids] using hn
   obtain ⟨k1,k2⟩:=XA hn'
   have:id' ≠ id:=by
    rintro rfl
    exact k1 (j8Z h1)
   simp [KX,this,Xr k2 h1 h2]
  | _ =>
   simp only [KX]
   exact Xr (by simpa [K1.ids] using hn) h1 h2
theorem Z2:∀ {ks:List K1} {us:List Value} {i j e id e' id':Nat} {u x:Value},j34 ks us → ks[i]? = some (.own e id) → us[i]? = some u → ks[j]? = some (.own e' id') → us[j]? = some x → i < j → ∀ b,u.ownBlock=some b → x.ownBlock ≠ some b
 | [],_,i,j,_,_,_,_,_,_,_,h,_,_,_,_=>by simp at h
 | k :: ks,[],i,j,_,_,_,_,_,_,_,_,h,_,_,_=>by simp at h
 | k :: ks,y :: us,0,0,_,_,_,_,_,_,_,_,_,_,_,h=>by omega
 | k :: ks,y :: us,0,j + 1,e,id,e',id',u,x,ha,h1,h2,h3,h4,_=>by
  simp only [List.getElem?_cons_zero,j5] at h1 h2
  simp only [List.getElem?_cons_succ] at h3 h4
  subst h1
  subst h2
  exact fun b hb=>ha.1 b hb j e' id' x h3 h4
 | k :: ks,y :: us,i + 1,0,_,_,_,_,_,_,_,_,_,_,_,h=>by omega
 | k :: ks,y :: us,i + 1,j + 1,e,id,e',id',u,x,ha,h1,h2,h3,h4,hij=>by
  simp only [List.getElem?_cons_succ] at h1 h2 h3 h4
  have ha':j34 ks us:=by
   cases k with
   | own _ _=>exact ha.2
   | _=>exact ha
  exact Z2 ha' h1 h2 h3 h4 (by omega)
theorem jiZ {g g':Gh} {H0 H H':List HS} {v:List DC} (hI:∀ b,g.I b → g'.I b) (hb:g'.blk=g.blk):∀ {n:Nat} {ks:List K1} {us:List Value},FL ty A g H0 H w v n ks us →
  (∀ (i e id:Nat) (u:Value),ks[i]? = some (.own e id) → us[i]? = some u → nf H' id ∧ g'.val id=u) →
  (∀ id ∈ ks.flatMap K1.pids,nf H' id ∧ (ql H' id → ql H0 id)) → zo ty g' H' w (mkL v n ks) us
 | _,[],[],_,_,_=>trivial
 | n,k :: ks,u :: us,⟨⟨dd,hd,hv,hn⟩,hf⟩,ho,hp=>by
  refine ⟨?_,jiZ hI hb hf (fun i e id x h1 h2=>ho (i + 1) e id x (by simpa using h1) (by simpa using h2)) (fun id hid=>hp id (by simp only [jz,List.mem_append]; exact .inr hid))⟩
  have h0:0 < k.cnt → v.getD n d0=dd.getD 0 d0:=fun h=>by simpa using hv 0 h
  have hpk:∀ id ∈ k.pids,nf H' id ∧ (ql H' id → ql H0 id):=fun id hid=>hp id (by simp only [jz,List.mem_append]; exact .inl hid)
  cases k with
  | u=>trivial
  | b =>
   obtain ⟨x,rfl,rfl⟩:=hn
   simp only [K1.mk,SR]
   rw [h0 (by simp [K1.cnt])]
   rfl
  | i kd =>
   obtain ⟨x,rfl,rfl⟩:=hn
   simp only [K1.mk,SR]
   rw [h0 (by simp [K1.cnt])]
   rfl
  | s =>
   obtain ⟨x,rfl,rfl⟩:=hn
   simp only [K1.mk,SR]
   rw [h0 (by simp [K1.cnt])]
   rfl
  | sl e =>
   obtain ⟨l,F,rfl,h1,h2⟩:=hn
   simp only [K1.mk,SR]
   rw [h0 (by simp [K1.cnt])]
   exact ⟨F,h1,fun b hb=>hI b (h2 b hb)⟩
  | own e id =>
   obtain ⟨l,rfl,hl⟩:=hn
   obtain ⟨h1,h2⟩:=ho 0 e id u rfl rfl
   obtain ⟨ti,vs,F,_,_,h3,_⟩:=hl.row
   exact ⟨h1,j6E h3,fun _=>h2.symm⟩
  | ptr id off =>
   obtain ⟨_,h1,h2⟩:=hn
   obtain ⟨h3,h4⟩:=hpk id (by simp [K1.pids])
   exact ⟨h3,h1,fun hv=>by rw [hb]; exact h2 (h4 hv)⟩
  | fn f caps =>
   obtain ⟨_,vs,h1,h2,h3⟩:=hn
   refine ⟨vs,h1,h2,fun i id hi=>?_⟩
   obtain ⟨h4,h5⟩:=hpk id (by simpa [K1.pids] using List.mem_of_getElem? hi)
   exact ⟨h4,fun hv=>by rw [hb]; exact h3 i id hi (h5 hv)⟩
  | nil=>exact hn.2
 | _,[],_ :: _,h,_,_=>h.elim
 | _,_ :: _,[],h,_,_=>h.elim
theorem j8Y (v:List DC) (ks0:List K1):∀ (kos:List KO) (n id i:Nat),
  ((mkO v ks0 n id kos)[i]? = none ∧ kos[i]? = none) ∨ ((mkO v ks0 n id kos)[i]? = some (Kl v (id + i) 0 ks0) ∧ kos[i]? = some .u) ∨ ∃ t l cs,(mkO v ks0 n id kos)[i]? = some (.live (.var t cs)) ∧ kos[i]? = some (.var t l)
 | [],n,id,i=>.inl ⟨by simp [mkO],by simp⟩
 | .u :: kos,n,id,0=>.inr (.inl ⟨by simp [mkO],rfl⟩)
 | .var t l :: kos,n,id,0=>.inr (.inr ⟨t,l,mkL v n l,by simp [mkO],rfl⟩)
 | .u :: kos,n,id,i + 1=>by
  have:=j8Y v ks0 kos n (id + 1) i
  rw [show id + 1 + i=id + (i + 1) by omega] at this
  simpa [mkO] using this
 | .var t l :: kos,n,id,i + 1=>by
  have:=j8Y v ks0 kos (n + j0g l) (id + 1) i
  rw [show id + 1 + i=id + (i + 1) by omega] at this
  simpa [mkO] using this
theorem j1l {g:Gh} {st:St} {mm:Nat} {h:Hint} {v:List DC} (hr:Rel ty A g st a w) (hm:A.m=mm) (e:j5f ty mm h st=some v):∃ g',Rel ty A g' (X2 h v) a w:=by
 obtain ⟨tm,H⟩:=st
 unfold j5f at e
 split at e
 ·rename_i hok
  split at e
  ·rename_i p q hp hq
   split at e
   ·rename_i v' H1 hv
    simp only [j5] at e
    subst e
    simp only at hp hq hv
    obtain ⟨vs1,a1,a2,a3⟩:=jd1 (us:=a.tmps.toList) (ty:=ty) (w:=w) (g:=g) (H:=H) hp (by simpa using hr.len.symm) (fun i c x h1 h2=>hr.tm i c x h1 (by simpa using h2))
    obtain ⟨vs2,b1,b2,b3,b4⟩:=jd2 hr hq
    obtain ⟨g1,r1,s1,f1,ap,l1,_⟩:=j5g (H0:=H) [] [] hr (fun _ h=>h) (a1.append b1) hv
    simp only [jy,jV,j6] at f1
    simp only [Hint.okM,Hint.ok,jj,List.all_eq_true] at hok
    obtain ⟨⟨⟨hnd,hids⟩,hpids⟩,hmm⟩:=hok
    have hV1:vs1.length=(h.tm.flatMap KC.kinds).length:=by rw [a1.length,a2]
    let g':Gh:={ I:=g1.I,blk:=g.blk,val:=fun id=>KX id h.kinds (vs1 ++ vs2) }
    let H':=mkO v' h.kinds (j0g (h.tm.flatMap KC.kinds)) 0 h.ob
    have hget:∀ id,(jJ H' id = .dead ∧ h.ob[id]? = none) ∨ (jJ H' id=Kl v' id 0 h.kinds ∧ h.ob[id]? = some .u) ∨ ∃ t l cs,jJ H' id = .live (.var t cs) ∧ h.ob[id]? = some (.var t l) ∧ H'[id]? = some (.live (.var t cs)):=by
     intro id
     rcases j8Y v' h.kinds h.ob (j0g (h.tm.flatMap KC.kinds)) 0 id with ⟨k1,k2⟩ | ⟨k1,k2⟩ | ⟨t,l,cs,k1,k2⟩
     ·exact .inl ⟨by simp [jJ,H',List.getD_eq_getElem?_getD,k1],k2⟩
     ·exact .inr (.inl ⟨by simp [jJ,H',List.getD_eq_getElem?_getD,k1],k2⟩)
     ·exact .inr (.inr ⟨t,l,cs,by simp [jJ,H',List.getD_eq_getElem?_getD,k1],k2,k1⟩)
    have hvar:∀ id,ql H' id → ql H id:=by
     intro id ⟨t,cs,hc⟩
     rcases hget id with ⟨k1,_⟩ | ⟨k1,_⟩ | ⟨t',l,cs',k1,k2,_⟩
     ·rw [k1] at hc; simp at hc
     ·rw [k1] at hc
      rcases YW id f1 with ⟨q1,_⟩ | ⟨e,l,i,q1,_⟩
      ·rw [q1] at hc; simp at hc
      ·rw [q1] at hc; simp at hc
     ·have:=b3 id t' l k2
      rwa [Nat.zero_add] at this
    have hown:∀ (i e id:Nat) (u:Value),h.kinds[i]? = some (.own e id) → (vs1 ++ vs2)[i]? = some u → nf H' id ∧ g'.val id=u:=by
     intro i e id u h1 h2
     refine ⟨?_,Xr hnd h1 h2⟩
     have hin:=hids id (j8Z h1)
     rcases hget id with ⟨_,k2⟩ | ⟨k1,_⟩ | ⟨t,l,cs,k1,k2,_⟩
     ·rw [k2] at hin; simp at hin
     ·rcases YW id f1 with ⟨q1,q2⟩ | ⟨e',l,i',q1,_⟩
      ·exact absurd h1 (q2 i e)
      ·exact KR (k1.trans q1)
     ·exact KR k1
    have hptr:∀ id ∈ h.kinds.flatMap K1.pids,nf H' id ∧ (ql H' id → ql H id):=by
     intro id hid
     refine ⟨?_,hvar id⟩
     have hin:=hpids id hid
     rcases hget id with ⟨_,k2⟩ | ⟨_,k2⟩ | ⟨t,l,cs,k1,k2,_⟩
     ·rw [k2] at hin; simp at hin
     ·rw [k2] at hin; simp [KO.isU] at hin
     ·exact KR k1
    have hsrl:zo ty g' H' w (mkL v' 0 h.kinds) (vs1 ++ vs2):=jiZ (g:=g1) (g':=g') (fun _ h=>h) s1.blk.symm f1 hown hptr
    rw [Hint.kinds,Jk,Nat.zero_add] at hsrl
    obtain ⟨t1,t2⟩:=hsrl.unappend (by rw [hV1,Jj])
    obtain ⟨c1,c2⟩:=a3 g' H' v' 0 t1
    have hobj:∀ id o,jJ H' id = .live o → (∃ t cs us,o = .var t cs ∧ w.heap[g.blk id]? = some (.cells us.toArray t (0,0)) ∧ zo ty g' H' w cs us ∧ (∀ u ∈ us,u.oneCell'=true) ∧ ql H id) ∨
      ∃ (e:Nat) (l:List (List DC)) (i:Nat),o = .row e l ∧ Loose ty A g1 H1 w e l (g'.val id) ∧ h.kinds[i]? = some (.own e id) ∧ (vs1 ++ vs2)[i]? = some (g'.val id):=by
     intro id o ho
     rcases hget id with ⟨k1,_⟩ | ⟨k1,_⟩ | ⟨t,l,cs,k1,k2,k3⟩
     ·rw [k1] at ho; simp at ho
     ·rcases YW id f1 with ⟨q1,_⟩ | ⟨e,l,i,q1,q2,q3,q4⟩
      ·rw [k1,q1] at ho; simp at ho
      ·rw [k1,q1] at ho
       simp only [HS.live.injEq] at ho
       exact .inr ⟨e,l,i,ho.symm,q2,q3,q4⟩
     ·rw [k1] at ho
      simp only [HS.live.injEq] at ho
      rcases b4 g' H' v' _ h.kinds t2 id t cs k3 with hno | ⟨us,u1,u2,u3⟩
      ·exact absurd k2 (hno t l)
      ·rw [Nat.zero_add] at u1
       exact .inl ⟨t,cs,us,ho.symm,u1,u2,u3,hvar id ⟨t,cs,k1⟩⟩
    have hvarI:∀ id,ql H id → ¬ g1.I (g.blk id):=by
     intro id ⟨t,cs,hc⟩ hI
     obtain ⟨_,_,_,k3,_⟩:=hr.ob id _ hc
     rcases s1.new _ hI with hI | ⟨i,e,l,hi,hb⟩
     ·exact k3 hI
     ·refine hr.sep i id _ _ _ ?_ hi hc hb rfl
      rintro rfl
      rw [hc] at hi
      simp at hi
    refine ⟨g',⟨by simpa [X2] using c1,fun i c x h1 h2=>c2 i c x h1 (by simpa using h2),fun id o ho=>?_,fun i j o p b hij hi hj hb hb'=>?_,r1.lt,r1.inI,fun id o b ho hb=>?_,fun j hj=>?_,fun j hj hv=>?_,r1.keep,r1.df⟩⟩
    ·rcases hobj id o ho with ⟨t,cs,us,rfl,k1,k2,k3,k4⟩ | ⟨e,l,i,rfl,k1,k2,k3⟩
     ·exact ⟨us,k1,k2,hvarI id k4,k3⟩
     ·obtain ⟨ti,vs,F,q1,q2,q3,q4,q5⟩:=k1.row
      exact ⟨ti,vs,F,q1,q2,q3,q4,q5,fun b hb=>(k1.own b hb).1⟩
    ·rcases hobj i o hi with ⟨t,cs,us,rfl,k1,k2,k3,k4⟩ | ⟨e,l,n,rfl,k1,k2,k3⟩
     ·rcases hobj j p hj with ⟨t',cs',us',rfl,k1',k2',k3',k4'⟩ | ⟨e,l,n,rfl,k1',k2',k3'⟩
      ·obtain ⟨t1,c1,h1⟩:=k4
       obtain ⟨t2,c2,h2⟩:=k4'
       exact hr.sep i j _ _ b hij h1 h2 (show kX g i (.var t1 c1)=some b from hb) (show kX g j (.var t2 c2)=some b from hb')
      ·obtain ⟨t1,c1,h1⟩:=s1.var i k4
       refine (k1'.own b hb').2.2 i _ h1 ?_
       rw [YD s1.blk s1.val]
       exact hb
     ·rcases hobj j p hj with ⟨t',cs',us',rfl,k1',k2',k3',k4'⟩ | ⟨e',l',n',rfl,k1',k2',k3'⟩
      ·obtain ⟨t1,c1,h1⟩:=s1.var j k4'
       refine (k1.own b hb).2.2 j _ h1 ?_
       rw [YD s1.blk s1.val]
       exact hb'
      ·rcases Nat.lt_trichotomy n n' with hlt | rfl | hlt
       ·exact Z2 ap k2 k3 k2' k3' hlt b hb hb'
       ·rw [k2] at k2'
        simp only [j5,K1.own.injEq] at k2'
        exact hij k2'.2
       ·exact Z2 ap k2' k3' k2 k3 hlt b hb' hb
    ·rcases hobj id o ho with ⟨t,cs,us,rfl,k1,k2,k3,k4⟩ | ⟨e,l,i,rfl,k1,k2,k3⟩
     ·obtain ⟨t1,c1,h1⟩:=k4
      exact hr.ow id (.var t1 c1) b h1 hb
     ·exact (k1.own b hb).2.1
    ·have:=hmm j (by rw [List.mem_range,← hm]; exact hj)
     rcases hget j with ⟨_,k2⟩ | ⟨_,k2⟩ | ⟨t,l,cs,k1,k2,_⟩
     ·rw [k2] at this; simp at this
     ·rw [k2] at this; simp [KO.isU] at this
     ·exact KR k1
    ·exact hr.pb j hj (hvar j hv)
   ·simp at e
  ·simp at e
 ·simp at e
end
set_option linter.unusedSimpArgs false
section
variable {ρ:Type} {ty:Nat → Option TI} {fn:Nat → Option FI} {cl:Nat → Hint → List DC → Out} {fail:ρ}
def via {α:Type} (fail:ρ) (x:Option α) (K:α → ρ):ρ :=
 match x with
 | some a=>K a
 | none=>fail
theorem j6H {t:Nat} {st:St} {a:C} {K:Cls → C → ρ}:Vr ty fail t st a K=via fail (Vr ty none t st a fun c v=>some (c,v)) fun r=>K r.1 r.2:=by
 unfold Vr
 repeat' split
 all_goals first | rfl | simp_all [via]
theorem yy {t:Nat} {st:St} {a v:C} {K:List HS → ρ}:Jd ty fail t st a v K=via fail (Jd ty none t st a v some) K:=by
 unfold Jd
 repeat' split
 all_goals first | rfl | simp_all [via]
theorem JC {op:BinOp} {t:Nat} {x y:C} {K:C → ρ}:j2C ty fail op t x y K=via fail (j2C ty none op t x y some) K:=by
 unfold j2C
 repeat' split
 all_goals first | rfl | simp_all [via]
theorem jhx {s t base:Nat} {st:St} {x:C} {K:Cls → List HS → C → ρ}:VQ ty fail s t base st x K=via fail (VQ ty none s t base st x fun c H v=>some (c,H,v)) fun r=>K r.1 r.2.1 r.2.2:=by
 unfold VQ
 repeat' split
 all_goals first | rfl | simp_all [via]
theorem j5Z {α:Type} {lo hi:Option C} {l:List α} {K:List α → ρ}:j2B fail lo hi l K=via fail (j2B none lo hi l some) K:=by
 unfold j2B
 repeat' split
 all_goals first | rfl | simp_all [via]
theorem jfL {t:Nat} {st:St} {x:C} {lo hi:Option C} {K:Cls → List HS → C → ρ}:Kb ty fail t st x lo hi K=via fail (Kb ty none t st x lo hi fun c H v=>some (c,H,v)) fun r=>K r.1 r.2.1 r.2.2:=by
 have key:∀ {α:Type} (l:List α) (k:List α → Cls × List HS × C),j2B fail lo hi l (fun x=>K (k x).1 (k x).2.1 (k x).2.2)=via fail (j2B none lo hi l fun x=>some (k x)) fun r=>K r.1 r.2.1 r.2.2:=by
  intro α l k
  rw [j5Z (fail:=fail),j5Z (fail:=none) (K:=fun x=>some (k x))]
  cases j2B none lo hi l some <;> rfl
 unfold Kb
 repeat' split
 all_goals first
  | rfl
  | exact key _ (fun x=>(_,_,_))
  | simp_all [via]
theorem j4B {e:Nat} {st:St} {x i:C} {K:Cls → C → ρ}:Jl fail e st x i K=via fail (Jl none e st x i fun c v=>some (c,v)) fun r=>K r.1 r.2:=by
 unfold Jl
 repeat' split
 all_goals first | rfl | simp_all [via]
theorem j9J {st:St} {x:C} {K:Cls → C → ρ}:QE fail st x K=via fail (QE none st x fun c v=>some (c,v)) fun r=>K r.1 r.2:=by
 unfold QE
 repeat' split
 all_goals first | rfl | simp_all [via]
theorem qF {t u base:Nat} {st:St} {x y:C} {K:List HS → C → ρ}:qK ty fail t u base st x y K=via fail (qK ty none t u base st x y fun H v=>some (H,v)) fun r=>K r.1 r.2:=by
 unfold qK
 repeat' split
 all_goals first | rfl | simp_all [via]
theorem y6 {base f:Nat} {st:St} {caps:List Nat} {args:List C} {K:List HS → C → ρ}:yO ty fn cl fail base st f caps args K=via fail (yO ty fn cl none base st f caps args fun H v=>some (H,v)) fun r=>K r.1 r.2:=by
 unfold yO
 dsimp only
 repeat' split
 all_goals first | rfl | simp_all [via]
theorem Zj {α β:Type} (x:Option α) (k:α → Option β) (K:β → ρ):via fail (via none x k) K=via fail x fun a=>via fail (k a) K:=by
 cases x <;> rfl
theorem j0o {base:Nat} {o:Oper} {tm:List C} {H:List HS} {K:Cls → List HS → C → ρ} :
  stepV ty fn cl fail base o tm H K=via fail (stepV ty fn cl none base o tm H fun c H v=>some (c,H,v)) fun r=>K r.1 r.2.1 r.2.2:=by
 have l1:∀ {t:Nat} {st:St} {a:C},Vr ty fail t st a (fun c v=>K c H v)=via fail (Vr ty none t st a fun c v=>some (c,H,v)) fun r=>K r.1 r.2.1 r.2.2:=by
  intro t st a
  rw [j6H (fail:=fail),j6H (fail:=none) (K:=fun c v=>some (c,H,v)),Zj]
  rfl
 have l2:∀ {t:Nat} {st:St} {a v:C} {c:Cls},Jd ty fail t st a v (fun H=>K c H (.one .undef))=via fail (Jd ty none t st a v fun H=>some (c,H,C.one S.undef)) fun r=>K r.1 r.2.1 r.2.2:=by
  intro t st a v c
  rw [yy (fail:=fail),yy (fail:=none) (K:=fun H=>some (c,H,C.one S.undef)),Zj]
  rfl
 have l3:∀ {op:BinOp} {t:Nat} {x y:C},j2C ty fail op t x y (fun v=>K .t H v)=via fail (j2C ty none op t x y fun v=>some (Cls.t,H,v)) fun r=>K r.1 r.2.1 r.2.2:=by
  intro op t x y
  rw [JC (fail:=fail),JC (fail:=none) (K:=fun v=>some (Cls.t,H,v)),Zj]
  rfl
 have l4:∀ {e:Nat} {st:St} {x i:C},Jl fail e st x i (fun c v=>K c H v)=via fail (Jl none e st x i fun c v=>some (c,H,v)) fun r=>K r.1 r.2.1 r.2.2:=by
  intro e st x i
  rw [j4B (fail:=fail),j4B (fail:=none) (K:=fun c v=>some (c,H,v)),Zj]
  rfl
 have l5:∀ {st:St} {x:C},QE fail st x (fun c v=>K c H v)=via fail (QE none st x fun c v=>some (c,H,v)) fun r=>K r.1 r.2.1 r.2.2:=by
  intro st x
  rw [j9J (fail:=fail),j9J (fail:=none) (K:=fun c v=>some (c,H,v)),Zj]
  rfl
 have l6:∀ {t u base:Nat} {st:St} {x y:C} {c:Cls},qK ty fail t u base st x y (fun H v=>K c H v)=via fail (qK ty none t u base st x y fun H v=>some (c,H,v)) fun r=>K r.1 r.2.1 r.2.2:=by
  intro t u base st x y c
  rw [qF (fail:=fail),qF (fail:=none) (K:=fun H v=>some (c,H,v)),Zj]
  rfl
 have l7:∀ {base f:Nat} {st:St} {caps:List Nat} {args:List C} {c:Cls},yO ty fn cl fail base st f caps args (fun H v=>K c H v)=via fail (yO ty fn cl none base st f caps args fun H v=>some (c,H,v)) fun r=>K r.1 r.2.1 r.2.2:=by
  intro base f st caps args c
  rw [y6 (fail:=fail),y6 (fail:=none) (K:=fun H v=>some (c,H,v)),Zj]
  rfl
 unfold stepV
 split
 all_goals try first | exact l1 | exact l3 | exact jhx
 all_goals repeat' split
 all_goals first
  | rfl
  | exact l2
  | exact l4
  | exact l5
  | exact l6
  | exact l7
  | exact jfL
  | simp_all [via]
end
section
variable {P:Program} {ty:Nat → Option TI} {fn:Nat → Option FI} {cl:Nat → Hint → List DC → Out} {A:An}
def Qj (P:Program) (ty:Nat → Option TI) (fn:Nat → Option FI) (cl:Nat → Hint → List DC → Out) (A:An):Prop :=
 ∀ (o:Oper) (c:Call) (fop:Operand) (f:Nat) (caps:List Nat) (base:Nat) (tm:List C) (H H':List HS) (v:C) (g:Gh) (a:Act) (w:World) (Q:Exit → Act → World → Prop),
  o.op = .call c → c.callee = .value fop → opd tm fop = .one (.fn f caps) → Rel ty A g ⟨tm,H⟩ a w →
  yO ty fn cl none base ⟨tm,H⟩ f caps (K8 tm c.args.toList) (fun H v=>some (H,v))=some (H',v) → o.wp P a w (yn ty A g H w ⟨pf tm o.dst v,H'⟩) Q
theorem jB {α β:Type} {c c':Cls} {a a':α} {b b':β} (h:some (c,a,b)=some (c',a',b')):c=c' ∧ a=a' ∧ b=b':=by
 simpa using h
theorem jjb (hty:K9 P ty) (hcall:Qj P ty fn cl A) {g:Gh} {tm:List C} {H H':List HS} {a:Act} {w:World} {o:Oper} {Q:Exit → Act → World → Prop} {base:Nat} {c:Cls} {v:C}
  (h:Rel ty A g ⟨tm,H⟩ a w) (e:stepV ty fn cl none base o tm H (fun c H v=>some (c,H,v))=some (c,H',v)):o.wp P a w (yn ty A g H w ⟨pf tm o.dst v,H'⟩) Q:=by
 unfold stepV at e
 split at e
 ·rename_i x ho
  obtain ⟨_,rfl,rfl⟩:=jB e
  exact jcc x (.inl ho) h
 ·rename_i x ho
  obtain ⟨_,rfl,rfl⟩:=jB e
  exact jcc x (.inr ho) h
 ·rename_i x y z ho
  split at e
  ·rename_i b hx
   have second:=jfA (P:=P) (Q:=Q) x y z ho h hx
   split at e
   ·rename_i s t hy hz
    have:=jh9 (P:=P) (Q:=Q) x y z ho h hx hy hz
    split at e
    ·rename_i r hr
     obtain ⟨_,rfl,rfl⟩:=jB e
     rw [hr] at this
     exact this
    ·rename_i hr
     rw [hr] at this
     split at e
     ·rename_i hb
      obtain ⟨_,rfl,rfl⟩:=jB e
      simpa [hb] using this
     ·rename_i hb
      obtain ⟨_,rfl,rfl⟩:=jB e
      simpa [hb] using this
   ·split at e
    ·rename_i hb
     obtain ⟨_,rfl,rfl⟩:=jB e
     rw [if_pos hb] at second
     exact second
    ·rename_i hb
     obtain ⟨_,rfl,rfl⟩:=jB e
     rw [if_neg hb] at second
     exact second
  ·simp at e
 ·rename_i t ho
  split at e
  ·rename_i ti ht hf
   obtain ⟨_,rfl,rfl⟩:=jB e
   exact jfE hty t base ti ho h ht hf
  ·simp at e
 ·rename_i t x ho
  split at e
  ·rename_i ti ss ht hx hf
   split at e
   ·obtain ⟨_,rfl,rfl⟩:=jB e
    exact ji4 t base ss x ho h hx hf
   ·simp at e
  ·simp at e
 ·rename_i t parts ho
  split at e
  ·rename_i ti ht
   split at e
   ·rename_i ss hs
    split at e
    ·rename_i hst
     obtain ⟨_,rfl,rfl⟩:=jB e
     exact jfD hty t parts ho h ht hst hs
    ·simp at e
   ·simp at e
  ·simp at e
 ·rename_i t n parts ho
  split at e
  ·rename_i el ht
   split at e
   ·rename_i te hte
    split at e
    ·rename_i l H1 hr
     split at e
     ·rename_i hf
      split at e
      ·rename_i hc
       obtain ⟨_,rfl,rfl⟩:=jB e
       exact j8i hty t n parts base ho h ht hte hr hf hc
      ·simp at e
     ·simp at e
    ·simp at e
   ·simp at e
  ·simp at e
 ·rename_i t x ho
  rw [j6H] at e
  cases hl:Vr ty none t ⟨tm,H⟩ (opd tm x) fun c v=>some (c,v) with
  | none=>rw [hl] at e; simp [via] at e
  | some r =>
   rw [hl] at e
   obtain ⟨_,rfl,rfl⟩:=jB e
   exact jha hty t x ho h (c:=r.1) (v:=r.2) hl
 ·rename_i t x y ho
  split at e
  ·rename_i hd
   rw [yy] at e
   cases hl:Jd ty none t ⟨tm,H⟩ (opd tm x) (opd tm y) some with
   | none=>rw [hl] at e; simp [via] at e
   | some r =>
    rw [hl] at e
    obtain ⟨_,rfl,rfl⟩:=jB e
    have:=jfy (Q:=Q) hty t x y ho hd h hl
    rw [hd]
    exact this
  ·simp at e
 ·rename_i x ho
  split at e
  ·rename_i id off hx
   split at e
   ·rename_i t cs hv
    obtain ⟨_,rfl,rfl⟩:=jB e
    exact jbd x ho h hx hv
   ·simp at e
  ·simp at e
 ·rename_i op t x y t' ho
  rw [JC] at e
  cases hl:j2C ty none op t (opd tm x) (opd tm y) some with
  | none=>rw [hl] at e; simp [via] at e
  | some r =>
   rw [hl] at e
   obtain ⟨_,rfl,rfl⟩:=jB e
   exact ji5 hty op t t' x y ho h hl
 ·rename_i op t x ho
  split at e
  ·rename_i b hx
   obtain ⟨_,rfl,rfl⟩:=jB e
   exact jhZ t x ho h hx
  ·rename_i k n hx
   obtain ⟨_,rfl,rfl⟩:=jB e
   exact ji0 t x ho h hx
  ·simp at e
 ·rename_i s t x ho
  exact jhb (Q:=Q) hty s t x ho h e
 ·rename_i f first captured ho
  split at e
  ·rename_i fi hf
   split at e
   ·rename_i ids hids
    obtain ⟨_,rfl,rfl⟩:=jB e
    exact jbe fi first captured ho hf h hids
   ·simp at e
  ·simp at e
 ·rename_i t x y ho
  split at e
  ·rename_i el m n ht hx hy
   split at e
   ·rename_i te hte hf
    split at e
    ·rename_i hc
     obtain ⟨_,rfl,rfl⟩:=jB e
     obtain ⟨h1,h2,rfl,h3,h4⟩:=hc
     exact j9l hty t x y base ho h ht hte hx hy hf ⟨h1,h2⟩ h3 h4
    ·simp at e
   ·simp at e
  ·simp at e
 ·rename_i t x lo hi mx ho
  split at e
  ·exact jfz hty t x lo hi ho h e
  ·simp at e
 ·rename_i t x j ho
  split at e
  ·rename_i ti ht
   split at e
   ·rename_i off n ag hj
    split at e
    ·rename_i hc
     split at e
     ·rename_i id o' hx
      split at e
      ·rename_i t' cs hv
       obtain ⟨_,rfl,rfl⟩:=jB e
       exact YG hty t x j ho h ht hc.2 hj hc.1 (.inl ⟨_,_,_,_,hx,hv,rfl⟩)
      ·simp at e
     ·rename_i el y o' hx
      obtain ⟨_,rfl,rfl⟩:=jB e
      exact YG hty t x j ho h ht hc.2 hj hc.1 (.inr (.inl ⟨_,_,_,hx,rfl⟩))
     ·rename_i el id ix o' hx
      split at e
      ·rename_i e' l hv
       obtain ⟨_,rfl,rfl⟩:=jB e
       exact YG hty t x j ho h ht hc.2 hj hc.1 (.inr (.inr ⟨_,_,_,_,_,_,hx,hv,rfl⟩))
      ·simp at e
     ·simp at e
    ·simp at e
   ·simp at e
  ·simp at e
 ·rename_i t x j ho
  split at e
  ·rename_i ti l ht hx
   split at e
   ·rename_i off n ag hj
    split at e
    ·rename_i hc
     obtain ⟨_,rfl,rfl⟩:=jB e
     exact jfC hty t x j ho h ht hc.2.2 hj hc.2.1 hx hc.1
    ·simp at e
   ·simp at e
  ·simp at e
 ·rename_i t x i ho
  split at e
  ·rename_i el ht
   rw [j4B] at e
   cases hl:Jl none el ⟨tm,H⟩ (opd tm x) (opd tm i) fun c v=>some (c,v) with
   | none=>rw [hl] at e; simp [via] at e
   | some r =>
    rw [hl] at e
    obtain ⟨_,rfl,rfl⟩:=jB e
    exact j9m hty t x i ho h ht (cl:=r.1) (c:=r.2) hl
  ·simp at e
 ·rename_i t x i ho
  split at e
  ·rename_i ti l k n ht hx hi
   split at e
   ·rename_i hc
    obtain ⟨_,rfl,rfl⟩:=jB e
    exact jfB hty t x i ho h ht rfl hx hi hc
   ·simp at e
  ·simp at e
 ·rename_i x j ho
  split at e
  ·rename_i l hx
   split at e
   ·rename_i ag ss hj
    obtain ⟨_,rfl,rfl⟩:=jB e
    exact jcZ x j ho h hx hj
   ·simp at e
  ·simp at e
 ·rename_i c' ho
  split at e
  ·rename_i fop hc
   split at e
   ·rename_i f caps hf
    rw [y6] at e
    cases hl:yO ty fn cl none base ⟨tm,H⟩ f caps (K8 tm c'.args.toList) fun H v=>some (H,v) with
    | none=>rw [hl] at e; simp [via] at e
    | some r =>
     rw [hl] at e
     obtain ⟨_,rfl,rfl⟩:=jB e
     exact hcall o c' fop f caps base tm H _ _ g a w Q ho hc hf h hl
   ·simp at e
  ·rename_i b hb
   split at e
   ·rename_i x hx
    have fin:∀ (t:TypeId) (ti:TI),c'.argTypes.toList=[t] → ty t=some ti → ((ti.kd = .str ∧ ∃ l,x = .one (.str l)) ∨ ((∃ e,ti.kd = .slice e) ∧ ∀ l,x ≠ .one (.str l))) →
      (QE none ⟨tm,H⟩ x fun cl v=>some (cl,H,v))=some (c,H',v) → o.wp P a w (yn ty A g H w ⟨pf tm o.dst v,H'⟩) Q:=by
     intro t ti h1 h2 h3 e
     rw [j9J] at e
     cases hl:QE none ⟨tm,H⟩ x fun c v=>some (c,v) with
     | none=>rw [hl] at e; simp [via] at e
     | some r =>
      rw [hl] at e
      obtain ⟨_,rfl,rfl⟩:=jB e
      exact ji3 hty ho hb h1 h h2 hx h3 (cl:=r.1) (r:=r.2) hl
    split at e
    ·rename_i t hat
     split at e
     ·rename_i ti ht
      split at e
      ·rename_i l
       exact fin t _ hat ht (.inl ⟨rfl,l,rfl⟩) e
      ·simp at e
     ·rename_i ti ht
      split at e
      ·simp at e
      ·rename_i hno
       exact fin t _ hat ht (.inr ⟨⟨_,rfl⟩,fun l hl=>hno l hl⟩) e
     ·simp at e
    ·simp at e
   ·rename_i k m k' n hx
    obtain ⟨_,rfl,rfl⟩:=jB e
    exact ji1 ho hb h hx
   ·rename_i k m k' n hx
    obtain ⟨_,rfl,rfl⟩:=jB e
    exact ji2 ho hb h hx
   ·rename_i x y hx
    split at e
    ·rename_i t u hat
     rw [qF] at e
     cases hl:qK ty none t u base ⟨tm,H⟩ x y fun H v=>some (H,v) with
     | none=>rw [hl] at e; simp [via] at e
     | some r =>
      rw [hl] at e
      obtain ⟨_,rfl,rfl⟩:=jB e
      exact jed hty ho hb hat h hx hl
    ·simp at e
   ·simp at e
  ·simp at e
 ·simp at e
end
section
variable {ty:Nat → Option TI} {fn:Nat → Option FI} {cl:Nat → Hint → List DC → Out}
abbrev V3:=Option (Cls × List HS × C)
abbrev Zh:Cls → List HS → C → V3:=fun c H v=>some (c,H,v)
theorem j7D {base:Nat} {o:Oper} {tm tm':List C} {H:List HS} (h:∀ x ∈ o.op.operands,opd tm x=opd tm' x) :
  stepV ty fn cl (none:V3) base o tm H Zh=stepV ty fn cl none base o tm' H Zh:=by
 have hl:∀ l:List Operand,(∀ x ∈ l,opd tm x=opd tm' x) → K8 tm l=K8 tm' l:=by
  intro l
  induction l with
  | nil=>intro _; rfl
  | cons x l ih=>intro hx; simp [K8,hx x (by simp),ih fun y hy=>hx y (by simp [hy])]
 have hp:∀ parts:List (Nat × Operand),(∀ p ∈ parts,opd tm p.2=opd tm' p.2) → (parts.map fun p=>(p.1,opd tm p.2))=parts.map fun p=>(p.1,opd tm' p.2) :=
  fun parts hx=>List.map_congr_left fun p hp=>by rw [hx p hp]
 obtain ⟨dst,op,type,pos,after,guard⟩:=o
 cases op with
 | move x=>simp only [Op.operands] at h; simp only [stepV,h x (by simp)]
 | assign x=>simp only [Op.operands] at h; simp only [stepV,h x (by simp)]
 | pick c x y=>simp only [Op.operands] at h; simp only [stepV,h c (by simp),h x (by simp),h y (by simp)]
 | box t x=>simp only [Op.operands] at h; simp only [stepV,h x (by simp)]
 | build t ps=>simp only [Op.operands] at h; simp only [stepV,hp ps.toList fun p hp=>h p.2 (by simp; exact ⟨p.1,by simpa using hp⟩)]
 | buildSlice t n ps=>simp only [Op.operands] at h; simp only [stepV,hp ps.toList fun p hp=>h p.2 (by simp; exact ⟨p.1,by simpa using hp⟩)]
 | load t x=>simp only [Op.operands] at h; simp only [stepV,h x (by simp)]; rfl
 | store t x y=>simp only [Op.operands] at h; simp only [stepV,h x (by simp),h y (by simp)]; cases dst <;> rfl
 | nilCheck x=>simp only [Op.operands] at h; simp only [stepV,h x (by simp)]
 | binOp op t x y t'=>simp only [Op.operands] at h; simp only [stepV,h x (by simp),h y (by simp)]
 | unOp op t x=>simp only [Op.operands] at h; simp only [stepV,h x (by simp)]
 | convert s t x=>simp only [Op.operands] at h; simp only [stepV,h x (by simp)]; rfl
 | makeFunc f first captured=>simp only [Op.operands] at h; simp only [stepV,hl captured.toList fun x hx=>h x (by simp at hx ⊢; exact .inr hx)]
 | makeSlice t x y=>simp only [Op.operands] at h; simp only [stepV,h x (by simp),h y (by simp)]
 | slice t x lo hi mx =>
  simp only [Op.operands] at h
  have h1:lo.map (opd tm)=lo.map (opd tm'):=by cases lo <;> simp; exact h _ (by simp)
  have h2:hi.map (opd tm)=hi.map (opd tm'):=by cases hi <;> simp; exact h _ (by simp)
  simp only [stepV,h x (by simp),h1,h2]
  cases mx <;> rfl
 | fieldAddr t x j=>simp only [Op.operands] at h; simp only [stepV,h x (by simp)]
 | field t x j=>simp only [Op.operands] at h; simp only [stepV,h x (by simp)]
 | indexAddr t x i=>simp only [Op.operands] at h; simp only [stepV,h x (by simp),h i (by simp)]; cases Vs (ty t) <;> rfl
 | index t x i=>simp only [Op.operands] at h; simp only [stepV,h x (by simp),h i (by simp)]
 | extract x j=>simp only [Op.operands] at h; simp only [stepV,h x (by simp)]
 | call c =>
  simp only [Op.operands,Call.operands] at h
  have hargs:=hl c.args.toList fun x hx=>h x (by simp; exact .inr (by simpa using hx))
  cases hc:c.callee with
  | value f =>
   rw [hc] at h
   simp only [stepV,hc,hargs,h f (by simp)]
   split <;> rfl
  | builtin b =>
   simp only [stepV,hc,hargs]
   split
   all_goals first | rfl | (repeat' split) <;> rfl
  | invoke r m=>simp only [stepV,hc]
 | _=>rfl
def j8h (f:List HS → V3) (H:List HS):Prop :=
 ∀ c H' v,f H=some (c,H',v) → (c = .t → H'=H ∧ ∀ H3,f H3=some (.t,H3,v)) ∧ (c = .r → H'=H)
theorem jhm {t:Nat} {tm:List C} {a:C} (H:List HS):j8h (fun H=>Vr ty (none:V3) t ⟨tm,H⟩ a fun c v=>Zh c H v) H:=by
 intro c H' v e
 dsimp only at e
 unfold Vr at e
 dsimp only at e
 repeat' split at e
 all_goals first
  | (simp at e; done)
  | (obtain ⟨rfl,rfl,rfl⟩:=jB e; refine ⟨fun h=>?_,fun _=>rfl⟩; first | (simp at h; done) | (refine ⟨rfl,fun H3=>?_⟩; simp_all [Vr]))
theorem jhy {s t base:Nat} {tm:List C} {x:C} (H:List HS):j8h (fun H=>VQ ty (none:V3) s t base ⟨tm,H⟩ x Zh) H:=by
 intro c H' v e
 dsimp only at e
 unfold VQ at e
 dsimp only at e
 repeat' split at e
 all_goals first
  | (simp at e; done)
  | (obtain ⟨rfl,rfl,rfl⟩:=jB e; refine ⟨fun h=>?_,fun h=>by first | rfl | (simp at h)⟩; first | (simp at h; done) | (refine ⟨rfl,fun H3=>?_⟩; simp_all [VQ,zQ]))
theorem qu {α:Type} {lo hi:Option C} {l:List α} {k:List α → V3} {r:Cls × List HS × C} (e:j2B none lo hi l k=some r):∃ l',j2B none lo hi l some=some l' ∧ k l'=some r:=by
 rw [j5Z] at e
 cases h:j2B none lo hi l some with
 | none=>rw [h] at e; simp [via] at e
 | some l'=>rw [h] at e; exact ⟨l',rfl,e⟩
theorem jdP {α:Type} {lo hi:Option C} {l:List α} {k:List α → V3} {l':List α} (e:j2B none lo hi l some=some l'):j2B none lo hi l k=k l':=by
 rw [j5Z,e]
 rfl
theorem jfM {t:Nat} {tm:List C} {x:C} {lo hi:Option C} (H:List HS):j8h (fun H=>Kb ty (none:V3) t ⟨tm,H⟩ x lo hi Zh) H:=by
 intro c H' v e
 simp only [Kb] at e
 split at e
 ·rename_i ti ht
  split at e
  ·rename_i l hk
   obtain ⟨l',h1,h2⟩:=qu e
   obtain ⟨rfl,rfl,rfl⟩:=jB h2
   refine ⟨fun _=>⟨rfl,fun H3=>?_⟩,fun h=>by simp at h⟩
   simp only [Kb,ht,hk]
   exact jdP h1
  ·rename_i el el' l hk
   split at e
   ·rename_i hc
    obtain ⟨l',h1,h2⟩:=qu e
    obtain ⟨rfl,rfl,rfl⟩:=jB h2
    refine ⟨fun _=>⟨rfl,fun H3=>?_⟩,fun h=>by simp at h⟩
    simp only [Kb,ht,hk]
    rw [if_pos hc]
    exact jdP h1
   ·simp at e
  ·rename_i el id hk
   split at e
   ·split at e
    ·obtain ⟨l',h1,h2⟩:=qu e
     obtain ⟨rfl,rfl,rfl⟩:=jB h2
     exact ⟨fun h=>by simp at h,fun h=>by simp at h⟩
    ·simp at e
   ·split at e
    ·obtain ⟨l',h1,h2⟩:=qu e
     obtain ⟨rfl,rfl,rfl⟩:=jB h2
     exact ⟨fun h=>by simp at h,fun _=>rfl⟩
    ·simp at e
   ·simp at e
  ·simp at e
 ·simp at e
theorem jg5 {e0:Nat} {tm:List C} {x i:C} (H:List HS):j8h (fun H=>Jl (none:V3) e0 ⟨tm,H⟩ x i fun c v=>Zh c H v) H:=by
 intro c H' v e
 dsimp only at e
 unfold Jl at e
 dsimp only at e
 repeat' split at e
 all_goals first
  | (simp at e; done)
  | (obtain ⟨rfl,rfl,rfl⟩:=jB e; refine ⟨fun h=>?_,fun _=>rfl⟩; first | (simp at h; done) | (refine ⟨rfl,fun H3=>?_⟩; simp_all [Jl]))
theorem jix {tm:List C} {x:C} (H:List HS):j8h (fun H=>QE (none:V3) ⟨tm,H⟩ x fun c v=>Zh c H v) H:=by
 intro c H' v e
 dsimp only at e
 unfold QE at e
 dsimp only at e
 repeat' split at e
 all_goals first
  | (simp at e; done)
  | (obtain ⟨rfl,rfl,rfl⟩:=jB e; refine ⟨fun h=>?_,fun _=>rfl⟩; first | (simp at h; done) | (refine ⟨rfl,fun H3=>?_⟩; simp_all [QE]))
theorem jft {H H':List HS} {t:CT} {s:S} {d:DC} (hs:s.noOwn=true) (e:ZP H t s=some (d,H')):H'=H:=by
  unfold ZP at e
  split at e
  all_goals first
    | (simp at e; done)
    | (simp only [j5,jg] at e; exact e.2.symm)
    | (split at e
       · simp only [j5,jg] at e; exact e.2.symm
       · simp at e)
    | (simp [S.noOwn] at hs)
theorem jdh {H H':List HS} {k:K1} {s:S} {d:List DC} (hs:s.noOwn=true) (e:Kn ty H k s=some (d,H')):H'=H:=by
  unfold Kn at e
  split at e
  case h_5 =>
    split at e
    · rename_i hd
      simp only [j5,jg] at e
      rw [← e.2]
      exact jft hs hd
    · simp at e
  case h_6=>simp [S.noOwn] at hs
  case h_7 =>
    split at e
    · split at e
      · simp only [j5,jg] at e; exact e.2.symm
      · simp at e
    · simp at e
  all_goals first
    | (simp at e; done)
    | (simp only [j5,jg] at e; exact e.2.symm)
    | (split at e
       · simp only [j5,jg] at e; exact e.2.symm
       · simp at e)
theorem j7O:∀ {ks:List K1} {ss:List S} {H H':List HS} {d:List DC},ss.all S.noOwn=true → ye ty H ks ss=some (d,H') → H'=H
 | [],[],H,H',d,_,e=>by
  simp only [ye,j5,jg] at e
  exact e.2.symm
 | k :: ks,s :: ss,H,H',d,hs,e=>by
  simp only [List.all_cons,jj] at hs
  simp only [ye] at e
  split at e
  ·rename_i d1 H1 h1
   split at e
   ·rename_i d2 H2 h2
    simp only [j5,jg] at e
    obtain rfl:=jdh hs.1 h1
    rw [← e.2]
    exact j7O hs.2 h2
   ·simp at e
  ·simp at e
 | [],_ :: _,_,_,_,_,e=>by simp [ye] at e
 | _ :: _,[],_,_,_,_,e=>by simp [ye] at e
theorem YH:∀ {ks:List KC} {cs:List C} {p:List S},cs.all C.noOwn=true → V0 ks cs=some p → p.all S.noOwn=true
 | [],[],p,_,e=>by
  simp only [V0,j5] at e
  subst e
  rfl
 | k :: ks,c :: cs,p,hc,e=>by
  simp only [List.all_cons,jj] at hc
  unfold V0 at e
  split at e
  ·rename_i heq _; simp at heq
  ·rename_i ks' c' cs' hk hcc
   simp only [List.cons.injEq] at hk hcc
   obtain ⟨rfl,rfl⟩:=hk
   obtain ⟨rfl,rfl⟩:=hcc
   split at e
   ·rename_i r hr
    simp only [j5] at e
    subst e
    simp [S.noOwn,YH hc.2 hr]
   ·simp at e
  ·rename_i k1 ks' s cs' _ hk hcc
   simp only [List.cons.injEq] at hk hcc
   obtain ⟨rfl,rfl⟩:=hk
   obtain ⟨rfl,rfl⟩:=hcc
   split at e
   ·rename_i r hr
    simp only [j5] at e
    subst e
    have:=hc.1
    simp only [C.noOwn] at this
    simp [this,YH hc.2 hr]
   ·simp at e
  ·rename_i l ks' ss cs' hk hcc
   simp only [List.cons.injEq] at hk hcc
   obtain ⟨rfl,rfl⟩:=hk
   obtain ⟨rfl,rfl⟩:=hcc
   split at e
   ·split at e
    ·rename_i r hr
     simp only [j5] at e
     subst e
     have:=hc.1
     simp only [C.noOwn] at this
     rw [List.all_append,this,YH hc.2 hr]
     rfl
    ·simp at e
   ·simp at e
  ·simp at e
 | [],_ :: _,_,_,e=>by simp [V0] at e
 | .one _ :: _,[],_,_,e=>by simp [V0] at e
 | .agg _ :: _,[],_,_,e=>by simp [V0] at e
theorem j9g {H H' H3:List HS} {t:CT} {s:S} {d:DC} (hs:s.noOwn=true) (e:ZP H t s=some (d,H')):ZP H3 t s=some (d,H3):=by
  unfold ZP at e ⊢
  split at e
  all_goals first
    | (simp at e; done)
    | (simp only [j5,jg] at e; obtain ⟨rfl,_⟩:=e; rfl)
    | (split at e
       · rename_i hc; simp only [j5,jg] at e; obtain ⟨rfl,_⟩:=e; simp [hc]
       · simp at e)
    | (simp [S.noOwn] at hs)
theorem jdi {H H' H3:List HS} {k:K1} {s:S} {d:List DC} (hs:s.noOwn=true) (e:Kn ty H k s=some (d,H')):Kn ty H3 k s=some (d,H3):=by
  unfold Kn at e ⊢
  split at e
  case h_5 =>
    split at e
    · rename_i hd
      simp only [j5,jg] at e
      obtain ⟨rfl,_⟩:=e
      rw [j9g hs hd]
    · simp at e
  case h_6=>simp [S.noOwn] at hs
  case h_7 =>
    split at e
    · rename_i hte
      split at e
      · rename_i hc
        simp only [j5,jg] at e
        obtain ⟨rfl,_⟩:=e
        simp only [hte,hc,if_true]
      · simp at e
    · simp at e
  all_goals first
    | (simp at e; done)
    | (simp only [j5,jg] at e; obtain ⟨rfl,_⟩:=e; rfl)
    | (split at e
       · rename_i hc; simp only [j5,jg] at e; obtain ⟨rfl,_⟩:=e; simp [hc]
       · simp at e)
theorem j7P:∀ {ks:List K1} {ss:List S} {H H':List HS} {d:List DC} (H3:List HS),ss.all S.noOwn=true → ye ty H ks ss=some (d,H') → ye ty H3 ks ss=some (d,H3)
 | [],[],H,H',d,H3,_,e=>by
  simp only [ye,j5,jg] at e
  rw [← e.1]
  rfl
 | k :: ks,s :: ss,H,H',d,H3,hs,e=>by
  simp only [List.all_cons,jj] at hs
  simp only [ye] at e ⊢
  split at e
  ·rename_i d1 H1 h1
   split at e
   ·rename_i d2 H2 h2
    simp only [j5,jg] at e
    obtain ⟨rfl,_⟩:=e
    rw [jdi (H3:=H3) hs.1 h1]
    dsimp only
    rw [j7P H3 hs.2 h2]
   ·simp at e
  ·simp at e
 | [],_ :: _,_,_,_,_,_,e=>by simp [ye] at e
 | _ :: _,[],_,_,_,_,_,e=>by simp [ye] at e
theorem j7M (v:List DC):∀ {L:List RK} {i n:Nat} {H:List HS},L.all RK.isCt=true → y4 v n (rkK i L) H=some H
 | [],i,n,H,_=>by simp only [rkK,y4]
 | r :: L,i,n,H,h=>by
  simp only [List.all_cons,jj] at h
  cases r with
  | ct c=>cases c <;> (show y4 v (n + 1) (rkK i L) H=some H; exact j7M v h.2)
  | new el=>simp [RK.isCt] at h
theorem jjw {base f:Nat} {tm:List C} {H H':List HS} {caps:List Nat} {args:List C} {v:C} (hc:KV fn base f caps args = .t) (e:yO ty fn cl none base ⟨tm,H⟩ f caps args (fun H v=>some (H,v))=some (H',v)) :
  H'=H ∧ ∀ H3,yO ty fn cl none base ⟨tm,H3⟩ f caps args (fun H v=>some (H,v))=some (H3,v):=by
 unfold KV at hc
 cases hf:fn f with
 | none=>rw [hf] at hc; simp at hc
 | some fi =>
  rw [hf] at hc
  dsimp only at hc
  split at hc
  ·rename_i h1 h2 h3
   suffices key:∀ H3,H'=H ∧ yO ty fn cl none base ⟨tm,H3⟩ f [] args (fun H v=>some (H,v))=some (H3,v) from ⟨(key H).1,fun H3=>(key H3).2⟩
   intro H3
   unfold yO at e ⊢
   rw [hf] at e
   simp only [hf]
   dsimp only at e ⊢
   simp only [List.map_nil,jV,h1] at e ⊢
   split at e
   ·rename_i kcs kos e1 e2
    simp only [j8k,j5] at e2
    subst e2
    simp only [j6] at e1
    simp only [j8k,j6,e1]
    split at e
    ·rename_i p q e3 e4
     simp only [j4w,j5] at e4
     subst e4
     simp only [j4w,e3]
     split at e
     ·rename_i v0 H1 e5
      have hno:=j7O (by rw [jV]; exact YH h2 e3) e5
      have e6:=j7P H3 (by rw [jV]; exact YH h2 e3) e5
      rw [e6]
      dsimp only
      have hrk:(fi.rk.flatMap Prod.snd).all RK.isCt=true:=by
       rw [List.all_flatMap]
       exact h3
      split at e
      ·rename_i hok
       have hok2:(Ko [] && (([]:List Nat).all (jdp H3)) && ({ tm:=kcs,ob:=[] ++ List.replicate (fi.pk.filter PK.isMv).length .u }:Hint).ok)=true:=by
        simp only [jj] at hok ⊢
        exact ⟨⟨hok.1.1,rfl⟩,hok.2⟩
       rw [if_pos hok2]
       split at e
       ·rename_i r hr
        have pr:∀ HH,y4 r 0 (KY base fi.rk) HH=some HH:=fun HH=>j7M r hrk
        have pv:∀ m HH,zR r m [] [] HH=HH:=fun m HH=>by rw [zR]; intro _ _ _ _ _ h; simp at h
        split at e
        ·rw [pr] at e ⊢
         simp only [j5,jg] at e ⊢
         exact ⟨e.1.symm,trivial,e.2⟩
        ·rw [pv] at e ⊢
         rw [pr] at e ⊢
         simp only [j5,jg] at e ⊢
         exact ⟨by rw [← e.1,hno],trivial,e.2⟩
       ·simp at e
      ·simp at e
     ·simp at e
    ·simp at e
   ·simp at e
  ·simp at hc
  ·simp at hc
theorem jhc {base:Nat} {o:Oper} {tm:List C} (H:List HS):j8h (fun H=>stepV ty fn cl (none:V3) base o tm H Zh) H:=by
  obtain ⟨dst,op,type,pos,after,guard⟩:=o
  have triv:∀ v:C,j8h (fun H=>(some (Cls.t,H,v):V3)) H:=by
    intro v c H' v' e
    obtain ⟨rfl,rfl,rfl⟩:=jB e
    exact ⟨fun _=>⟨rfl,fun _=>rfl⟩,fun h=>by simp at h⟩
  have none_ok:j8h (fun _=>(none:V3)) H:=fun c H' v e=>by simp at e
  cases op with
  | move x=>exact triv _
  | assign x=>exact triv _
  | load t x=>exact jhm H
  | convert s t x=>exact jhy H
  | slice t x lo hi mx =>
    cases mx with
    | none=>exact jfM H
    | some m=>exact none_ok
  | indexAddr t x i =>
    simp only [stepV]
    cases Vs (ty t) with
    | none=>exact none_ok
    | some e=>exact jg5 H
  | binOp op t x y t' =>
    intro c H' v e
    simp only [stepV] at e ⊢
    rw [JC] at e
    cases hl:j2C ty none op t (opd tm x) (opd tm y) some with
    | none=>rw [hl] at e; simp [via] at e
    | some r =>
      rw [hl] at e
      obtain ⟨rfl,rfl,rfl⟩:=jB e
      refine ⟨fun _=>⟨rfl,fun H3=>?_⟩,fun h=>by simp at h⟩
      rw [JC,hl]
      rfl
  | call c =>
    cases hc:c.callee with
    | value f =>
      intro c' H' v e
      simp only [stepV,hc] at e
      split at e
      · rename_i f' caps hf
        rw [y6] at e
        cases hl:yO ty fn cl none base ⟨tm,H⟩ f' caps (K8 tm c.args.toList) fun H v=>some (H,v) with
        | none=>rw [hl] at e; simp [via] at e
        | some r =>
          rw [hl] at e
          obtain ⟨rfl,rfl,rfl⟩:=jB e
          refine ⟨fun h=>?_,fun h=>?_⟩
          · obtain ⟨k1,k2⟩:=jjw h hl
            refine ⟨k1,fun H3=>?_⟩
            simp only [stepV,hc,hf]
            rw [y6,k2 H3,h]
            rfl
          · exfalso
            unfold KV at h
            split at h
            · simp at h
            · split at h <;> simp at h
      · simp at e
    | invoke r m =>
      intro c' H' v e
      simp [stepV,hc] at e
    | builtin b =>
      intro c' H' v e
      simp only [stepV,hc] at e
      have ln:∀ (x:C) (H:List HS),(QE (none:V3) ⟨tm,H⟩ x fun c v=>Zh c H v)=some (c',H',v) → (c' = .t → H'=H ∧ ∀ H3,(QE (none:V3) ⟨tm,H3⟩ x fun c v=>Zh c H3 v)=some (.t,H3,v)) ∧ (c' = .r → H'=H) :=
        fun x H e=>jix (tm:=tm) (x:=x) H c' H' v e
      split at e
      · rename_i x hx
        split at e
        · rename_i t hat
          split at e
          · rename_i ti ht
            split at e
            · rename_i l
              obtain ⟨k1,k2⟩:=ln _ H e
              exact ⟨fun h=>⟨(k1 h).1,fun H3=>by simp only [stepV,hc,hx,hat,ht]; exact (k1 h).2 H3⟩,k2⟩
            · simp at e
          · rename_i ti ht
            split at e
            · simp at e
            · rename_i hno
              obtain ⟨k1,k2⟩:=ln _ H e
              refine ⟨fun h=>⟨(k1 h).1,fun H3=>?_⟩,k2⟩
              simp only [stepV,hc,hx,hat,ht]
              exact (k1 h).2 H3
          · simp at e
        · simp at e
      · rename_i hx
        obtain ⟨rfl,rfl,rfl⟩:=jB e
        exact ⟨fun _=>⟨rfl,fun H3=>by simp only [stepV,hc,hx]⟩,fun h=>by simp at h⟩
      · rename_i hx
        obtain ⟨rfl,rfl,rfl⟩:=jB e
        exact ⟨fun _=>⟨rfl,fun H3=>by simp only [stepV,hc,hx]⟩,fun h=>by simp at h⟩
      · rename_i x y hx
        split at e
        · rw [qF] at e
          cases hl:qK ty none _ _ base ⟨tm,H⟩ x y fun H v=>some (H,v) with
          | none=>rw [hl] at e; simp [via] at e
          | some r =>
            rw [hl] at e
            obtain ⟨rfl,rfl,rfl⟩:=jB e
            exact ⟨fun h=>by simp at h,fun h=>by simp at h⟩
        · simp at e
      · simp at e
  | store t x y =>
    intro c' H' v e
    simp only [stepV] at e
    split at e
    · rw [yy] at e
      cases hl:Jd ty none t ⟨tm,H⟩ (opd tm x) (opd tm y) some with
      | none=>rw [hl] at e; simp [via] at e
      | some r =>
        rw [hl] at e
        obtain ⟨rfl,rfl,rfl⟩:=jB e
        have no:j2c (opd tm x) ≠ .t ∧ j2c (opd tm x) ≠ .r:=by
          unfold j2c
          split <;> simp
        exact ⟨fun h=>absurd h no.1,fun h=>absurd h no.2⟩
    · simp at e
  | _ =>
    intro c' H' v e
    simp only [stepV] at e
    repeat' split at e
    all_goals first
      | (simp at e; done)
      | (obtain ⟨rfl,rfl,rfl⟩:=jB e
         refine ⟨fun h=>?_,fun h=>?_⟩
         · first
           | (simp at h; done)
           | (refine ⟨rfl,fun H3=>?_⟩; simp_all [stepV])
         · first
           | (simp at h; done)
           | rfl)
end
section
variable {ty:Nat → Option TI} {fn:Nat → Option FI} {cl:Nat → Hint → List DC → Out}
theorem j3G {H:List HS} {b:Nat} {x:HS} (h:jJ H b = .free):jJ (kk H b x) b=x:=by
 simp only [jJ,kk,List.getD_eq_getElem?_getD] at h ⊢
 have:b < H.length:=by
  rcases jA b H.length with h' | h'
  ·exact h'
  ·rw [List.getElem?_eq_none h'] at h; simp at h
 rw [List.getElem?_set_self this]
 rfl
theorem jcB {H:List HS} {b id:Nat} {x:HS} {o:Obj'} (hf:jJ H b = .free) (h:jJ H id = .live o):jJ (kk H b x) id = .live o:=by
 rw [jM,h]
 intro hb
 subst hb
 rw [hf] at h
 simp at h
theorem jd5 {H:List HS} {b:Nat} {x:HS} {s:S} {r:Nat × List (List DC)} (hf:jJ H b = .free) (h:zQ H s=some r):zQ (kk H b x) s=some r:=by
 unfold zQ at h ⊢
 split at h
 ·exact h
 ·rename_i id
  split at h
  ·rename_i hl; rw [jcB hf hl]; exact h
  ·rename_i hl; rw [jcB hf hl]; exact h
  ·simp at h
 ·simp at h
theorem jju {s t base:Nat} {tm:List C} {x:C} {H H':List HS} {b:Nat} {hs:HS} {v:C} (hf:jJ H b = .free) (e:VQ ty (none:V3) s t base ⟨tm,H⟩ x Zh=some (.r,H',v)):VQ ty (none:V3) s t base ⟨tm,kk H b hs⟩ x Zh=some (.r,kk H b hs,v):=by
 have key:∀ {s r},zQ H s=some r → zQ (kk H b hs) s=some r:=fun h=>jd5 hf h
 unfold VQ at e ⊢
 dsimp only at e ⊢
 repeat' split at e
 all_goals first
  | (simp at e; done)
  | (obtain ⟨h1,rfl,rfl⟩:=jB e; first | (simp at h1; done) | skip)
 all_goals rename_i hl _
 all_goals
  have hl2:=key hl
  simp_all
theorem jjc {base b:Nat} {o:Oper} {tm:List C} {H H':List HS} {hs:HS} {v:C} (hf:jJ H b = .free) (e:stepV ty fn cl (none:V3) base o tm H Zh=some (.r,H',v)):stepV ty fn cl (none:V3) base o tm (kk H b hs) Zh=some (.r,kk H b hs,v):=by
 obtain ⟨dst,op,type,pos,after,guard⟩:=o
 cases op with
 | convert s t x=>exact jju hf e
 | load t x =>
  simp only [stepV] at e
  unfold Vr at e
  dsimp only at e
  repeat' split at e
  all_goals simp at e
 | slice t x lo hi mx =>
  cases mx with
  | none =>
   simp only [stepV,Kb] at e
   repeat' split at e
   all_goals first
    | (simp at e; done)
    | (obtain ⟨l',h1,h2⟩:=qu e; obtain ⟨h3,_⟩:=jB h2; simp at h3)
  | some m=>simp [stepV] at e
 | indexAddr t x i =>
  simp only [stepV] at e
  unfold Jl at e
  dsimp only at e
  repeat' split at e
  all_goals simp at e
 | binOp op t x y t' =>
  simp only [stepV] at e
  rw [JC] at e
  cases hl:j2C ty none op t (opd tm x) (opd tm y) some with
  | none=>rw [hl] at e; simp [via] at e
  | some r=>rw [hl] at e; simp [via] at e
 | store t a x =>
  simp only [stepV] at e
  split at e
  ·rw [yy] at e
   cases hl:Jd ty none t ⟨tm,H⟩ (opd tm a) (opd tm x) some with
   | none=>rw [hl] at e; simp [via] at e
   | some r =>
    rw [hl] at e
    obtain ⟨h,_⟩:=jB e
    unfold j2c at h
    split at h <;> simp at h
  ·simp at e
 | call c =>
  cases hc:c.callee with
  | value f =>
   simp only [stepV,hc] at e
   split at e
   ·rename_i f' caps hfn
    rw [y6] at e
    cases hl:yO ty fn cl none base ⟨tm,H⟩ f' caps (K8 tm c.args.toList) fun H v=>some (H,v) with
    | none=>rw [hl] at e; simp [via] at e
    | some r =>
     rw [hl] at e
     obtain ⟨hcl,rfl,rfl⟩:=jB e
     exfalso
     unfold KV at hcl
     split at hcl
     ·simp at hcl
     ·split at hcl <;> simp at hcl
   ·simp at e
  | invoke r m=>simp [stepV,hc] at e
  | builtin bn =>
   simp only [stepV,hc] at e
   have ln:∀ (x:C),(QE (none:V3) ⟨tm,H⟩ x fun c v=>Zh c H v)=some (.r,H',v) → False:=by
    intro x e
    unfold QE at e
    dsimp only at e
    repeat' split at e
    all_goals simp at e
   split at e
   ·exfalso
    split at e
    ·split at e
     ·split at e
      ·exact ln _ e
      ·simp at e
     ·split at e
      ·simp at e
      ·exact ln _ e
     ·simp at e
    ·simp at e
   ·simp at e
   ·simp at e
   ·split at e
    ·rw [qF] at e
     cases hl:qK ty none _ _ base ⟨tm,H⟩ _ _ fun H v=>some (H,v) with
     | none=>rw [hl] at e; simp [via] at e
     | some r=>rw [hl] at e; simp [via] at e
    ·simp at e
   ·simp at e
 | _ =>
  simp only [stepV] at e
  repeat' split at e
  all_goals simp at e
theorem ji8 {base id:Nat} {o:Oper} {tm:List C} {H H':List HS} {v:C} (e:stepV ty fn cl (none:V3) base o tm H Zh=some (.rv id,H',v)) :
  H'=H ∧ (∃ ob,jJ H id = .live ob) ∧ ∀ H3,jJ H3 id=jJ H id → stepV ty fn cl (none:V3) base o tm H3 Zh=some (.rv id,H3,v):=by
 obtain ⟨dst,op,type,pos,after,guard⟩:=o
 cases op with
 | load t x =>
  simp only [stepV] at e ⊢
  unfold Vr at e ⊢
  dsimp only at e ⊢
  repeat' split at e
  all_goals first
   | (simp at e; done)
   | (obtain ⟨h1,rfl,rfl⟩:=jB e; first | (simp at h1; done) | skip)
  all_goals
   simp only [Cls.rv.injEq] at h1
   subst h1
   refine ⟨rfl,⟨_,by assumption⟩,fun H3 h3=>?_⟩
   simp_all
 | indexAddr t x i =>
  simp only [stepV] at e ⊢
  unfold Jl at e ⊢
  dsimp only at e ⊢
  repeat' split at e
  all_goals first
   | (simp at e; done)
   | (obtain ⟨h1,rfl,rfl⟩:=jB e; first | (simp at h1; done) | skip)
  all_goals
   simp only [Cls.rv.injEq] at h1
   subst h1
   refine ⟨rfl,⟨_,by assumption⟩,fun H3 h3=>?_⟩
   simp_all
 | nilCheck x =>
  simp only [stepV] at e ⊢
  repeat' split at e
  all_goals first
   | (simp at e; done)
   | (obtain ⟨h1,rfl,rfl⟩:=jB e; first | (simp at h1; done) | skip)
  all_goals
   simp only [Cls.rv.injEq] at h1
   subst h1
   refine ⟨rfl,⟨_,by assumption⟩,fun H3 h3=>?_⟩
   simp_all
 | fieldAddr t x j =>
  simp only [stepV] at e ⊢
  repeat' split at e
  all_goals first
   | (simp at e; done)
   | (obtain ⟨h1,rfl,rfl⟩:=jB e; first | (simp at h1; done) | skip)
  all_goals
   simp only [Cls.rv.injEq] at h1
   subst h1
   refine ⟨rfl,⟨_,by assumption⟩,fun H3 h3=>?_⟩
   simp_all
 | slice t x lo hi mx =>
  cases mx with
  | some m=>simp [stepV] at e
  | none =>
   simp only [stepV,Kb] at e ⊢
   split at e
   ·rename_i ti ht
    split at e
    ·obtain ⟨l',h1,h2⟩:=qu e
     obtain ⟨h3,_⟩:=jB h2
     simp at h3
    ·split at e
     ·obtain ⟨l',h1,h2⟩:=qu e
      obtain ⟨h3,_⟩:=jB h2
      simp at h3
     ·simp at e
    ·split at e
     ·split at e
      ·obtain ⟨l',h1,h2⟩:=qu e
       obtain ⟨h3,_⟩:=jB h2
       simp at h3
      ·simp at e
     ·rename_i hl
      split at e
      ·rename_i hc
       obtain ⟨l',h1,h2⟩:=qu e
       obtain ⟨h3,rfl,rfl⟩:=jB h2
       simp only [Cls.rv.injEq] at h3
       subst h3
       refine ⟨rfl,⟨_,hl⟩,fun H3 h3=>?_⟩
       rw [h3,hl]
       dsimp only
       rw [if_pos hc]
       exact jdP h1
      ·simp at e
     ·simp at e
    ·simp at e
   ·simp at e
 | convert s t x =>
  simp only [stepV] at e
  unfold VQ at e
  dsimp only at e
  repeat' split at e
  all_goals simp at e
 | binOp op t x y t' =>
  simp only [stepV] at e
  rw [JC] at e
  cases hl:j2C ty none op t (opd tm x) (opd tm y) some with
  | none=>rw [hl] at e; simp [via] at e
  | some r=>rw [hl] at e; simp [via] at e
 | store t a x =>
  simp only [stepV] at e
  split at e
  ·rw [yy] at e
   cases hl:Jd ty none t ⟨tm,H⟩ (opd tm a) (opd tm x) some with
   | none=>rw [hl] at e; simp [via] at e
   | some r =>
    rw [hl] at e
    obtain ⟨h,_⟩:=jB e
    unfold j2c at h
    split at h <;> simp at h
  ·simp at e
 | call c =>
  cases hc:c.callee with
  | value f =>
   simp only [stepV,hc] at e
   split at e
   ·rename_i f' caps hfn
    rw [y6] at e
    cases hl:yO ty fn cl none base ⟨tm,H⟩ f' caps (K8 tm c.args.toList) fun H v=>some (H,v) with
    | none=>rw [hl] at e; simp [via] at e
    | some r =>
     rw [hl] at e
     obtain ⟨hcl,rfl,rfl⟩:=jB e
     exfalso
     unfold KV at hcl
     split at hcl
     ·simp at hcl
     ·split at hcl <;> simp at hcl
   ·simp at e
  | invoke r m=>simp [stepV,hc] at e
  | builtin bn =>
   simp only [stepV,hc] at e ⊢
   have ln:∀ (x:C),(QE (none:V3) ⟨tm,H⟩ x fun c v=>Zh c H v)=some (.rv id,H',v) → H'=H ∧ (∃ ob,jJ H id = .live ob) ∧ ∀ H3,jJ H3 id=jJ H id → (QE (none:V3) ⟨tm,H3⟩ x fun c v=>Zh c H3 v)=some (.rv id,H3,v):=by
    intro x e
    unfold QE zQ at e ⊢
    dsimp only at e ⊢
    split at e
    ·simp at e
    ·simp at e
    ·simp at e
    ·rename_i id'
     cases hg:jJ H id' with
     | live ob =>
      rw [hg] at e
      cases ob with
      | var t cs=>simp at e
      | row e2 l =>
       simp only [] at e
       obtain ⟨h1,rfl,rfl⟩:=jB e
       simp only [Cls.rv.injEq] at h1
       subst h1
       exact ⟨rfl,⟨_,hg⟩,fun H3 h3=>by rw [h3,hg]⟩
      | fz e2 l =>
       simp only [] at e
       obtain ⟨h1,rfl,rfl⟩:=jB e
       simp only [Cls.rv.injEq] at h1
       subst h1
       exact ⟨rfl,⟨_,hg⟩,fun H3 h3=>by rw [h3,hg]⟩
     | free=>rw [hg] at e; simp at e
     | dead=>rw [hg] at e; simp at e
    ·simp at e
   split at e
   ·split at e
    ·split at e
     ·split at e
      ·exact ln _ e
      ·simp at e
     ·split at e
      ·simp at e
      ·exact ln _ e
     ·simp at e
    ·simp at e
   ·simp at e
   ·simp at e
   ·split at e
    ·rw [qF] at e
     cases hl:qK ty none _ _ base ⟨tm,H⟩ _ _ fun H v=>some (H,v) with
     | none=>rw [hl] at e; simp [via] at e
     | some r=>rw [hl] at e; simp [via] at e
    ·simp at e
   ·simp at e
 | _ =>
  simp only [stepV] at e
  repeat' split at e
  all_goals simp at e
theorem ji7 {base id:Nat} {o:Oper} {tm:List C} {H H':List HS} {v:C} (e:stepV ty fn cl (none:V3) base o tm H Zh=some (.st id,H',v)) :
  ∃ x,H'=kk H id x ∧ ∀ H3,jJ H3 id=jJ H id → stepV ty fn cl (none:V3) base o tm H3 Zh=some (.st id,kk H3 id x,v):=by
 obtain ⟨dst,op,type,pos,after,guard⟩:=o
 cases op with
 | store t a x =>
  simp only [stepV] at e ⊢
  split at e
  ·rw [yy] at e
   cases hl:Jd ty none t ⟨tm,H⟩ (opd tm a) (opd tm x) some with
   | none=>rw [hl] at e; simp [via] at e
   | some r =>
    rw [hl] at e
    obtain ⟨h,h2,h4⟩:=jB e
    unfold j2c at h
    split at h
    ·rename_i id' off ha
     simp only [Cls.st.injEq] at h
     subst h
     rw [ha] at hl
     unfold Jd at hl
     split at hl
     ·rename_i ti ss ht hx
      split at hl
      ·rename_i hss
       dsimp only at hl
       split at hl
       ·rename_i t' cs hg
        split at hl
        ·rename_i hle
         simp only [j5] at hl
         refine ⟨_,by rw [← h2,← hl],fun H3 h3=>?_⟩
         rw [ha]
         unfold Jd
         simp only [ht,hx]
         rw [if_pos hss]
         rw [h3,hg]
         simp only [hle,if_true,← h4]
         rfl
        ·simp at hl
       ·simp at hl
      ·simp at hl
     ·simp at hl
    ·simp at h
  ·simp at e
 | load t x =>
  simp only [stepV] at e
  unfold Vr at e
  dsimp only at e
  repeat' split at e
  all_goals simp at e
 | indexAddr t x i =>
  simp only [stepV] at e
  unfold Jl at e
  dsimp only at e
  repeat' split at e
  all_goals simp at e
 | slice t x lo hi mx =>
  cases mx with
  | none =>
   simp only [stepV,Kb] at e
   repeat' split at e
   all_goals first
    | (simp at e; done)
    | (obtain ⟨l',h1,h2⟩:=qu e; obtain ⟨h3,_⟩:=jB h2; simp at h3)
  | some m=>simp [stepV] at e
 | convert s t x =>
  simp only [stepV] at e
  unfold VQ at e
  dsimp only at e
  repeat' split at e
  all_goals simp at e
 | binOp op t x y t' =>
  simp only [stepV] at e
  rw [JC] at e
  cases hl:j2C ty none op t (opd tm x) (opd tm y) some with
  | none=>rw [hl] at e; simp [via] at e
  | some r=>rw [hl] at e; simp [via] at e
 | call c =>
  cases hc:c.callee with
  | value f =>
   simp only [stepV,hc] at e
   split at e
   ·rename_i f' caps hfn
    rw [y6] at e
    cases hl:yO ty fn cl none base ⟨tm,H⟩ f' caps (K8 tm c.args.toList) fun H v=>some (H,v) with
    | none=>rw [hl] at e; simp [via] at e
    | some r =>
     rw [hl] at e
     obtain ⟨hcl,rfl,rfl⟩:=jB e
     exfalso
     unfold KV at hcl
     split at hcl
     ·simp at hcl
     ·split at hcl <;> simp at hcl
   ·simp at e
  | invoke r m=>simp [stepV,hc] at e
  | builtin bn =>
   simp only [stepV,hc] at e
   have ln:∀ (x:C),(QE (none:V3) ⟨tm,H⟩ x fun c v=>Zh c H v)=some (.st id,H',v) → False:=by
    intro x e
    unfold QE at e
    dsimp only at e
    repeat' split at e
    all_goals simp at e
   split at e
   ·exfalso
    split at e
    ·split at e
     ·split at e
      ·exact ln _ e
      ·simp at e
     ·split at e
      ·simp at e
      ·exact ln _ e
     ·simp at e
    ·simp at e
   ·simp at e
   ·simp at e
   ·split at e
    ·rw [qF] at e
     cases hl:qK ty none _ _ base ⟨tm,H⟩ _ _ fun H v=>some (H,v) with
     | none=>rw [hl] at e; simp [via] at e
     | some r=>rw [hl] at e; simp [via] at e
    ·simp at e
   ·simp at e
 | _ =>
  simp only [stepV] at e
  repeat' split at e
  all_goals simp at e
theorem jjd {base:Nat} {o:Oper} {tm:List C} {H H':List HS} {v:C} (e:stepV ty fn cl (none:V3) base o tm H Zh=some (.n,H',v)) :
  jJ H base = .free ∧ ∃ ob,H'=kk H base (.live ob) ∧ ∀ H3,jJ H3 base = .free → stepV ty fn cl (none:V3) base o tm H3 Zh=some (.n,kk H3 base (.live ob),v):=by
 obtain ⟨dst,op,type,pos,after,guard⟩:=o
 cases op with
 | alloc t =>
  simp only [stepV] at e ⊢
  split at e
  ·rename_i ti ht hb
   obtain ⟨_,rfl,rfl⟩:=jB e
   exact ⟨hb,_,rfl,fun H3 h3=>by simp only [ht,h3]⟩
  ·simp at e
 | box t x =>
  simp only [stepV] at e ⊢
  split at e
  ·rename_i ti ss ht hx hb
   split at e
   ·rename_i hl
    obtain ⟨_,rfl,rfl⟩:=jB e
    exact ⟨hb,_,rfl,fun H3 h3=>by simp only [ht,hx,h3,hl,if_true]⟩
   ·simp at e
  ·simp at e
 | load t x =>
  simp only [stepV] at e
  unfold Vr at e
  dsimp only at e
  repeat' split at e
  all_goals simp at e
 | convert s t x =>
  simp only [stepV] at e
  unfold VQ at e
  dsimp only at e
  repeat' split at e
  all_goals simp at e
 | slice t x lo hi mx =>
  cases mx with
  | none =>
   simp only [stepV,Kb] at e
   repeat' split at e
   all_goals first
    | (simp at e; done)
    | (obtain ⟨l',h1,h2⟩:=qu e; obtain ⟨h3,_⟩:=jB h2; simp at h3)
  | some m=>simp [stepV] at e
 | indexAddr t x i =>
  simp only [stepV] at e
  unfold Jl at e
  dsimp only at e
  repeat' split at e
  all_goals simp at e
 | binOp op t x y t' =>
  simp only [stepV] at e
  rw [JC] at e
  cases hl:j2C ty none op t (opd tm x) (opd tm y) some with
  | none=>rw [hl] at e; simp [via] at e
  | some r=>rw [hl] at e; simp [via] at e
 | store t a x =>
  simp only [stepV] at e
  split at e
  ·rw [yy] at e
   cases hl:Jd ty none t ⟨tm,H⟩ (opd tm a) (opd tm x) some with
   | none=>rw [hl] at e; simp [via] at e
   | some r =>
    rw [hl] at e
    obtain ⟨h,_⟩:=jB e
    unfold j2c at h
    split at h <;> simp at h
  ·simp at e
 | call c =>
  cases hc:c.callee with
  | value f =>
   simp only [stepV,hc] at e
   split at e
   ·rename_i f' caps hfn
    rw [y6] at e
    cases hl:yO ty fn cl none base ⟨tm,H⟩ f' caps (K8 tm c.args.toList) fun H v=>some (H,v) with
    | none=>rw [hl] at e; simp [via] at e
    | some r =>
     rw [hl] at e
     obtain ⟨hcl,rfl,rfl⟩:=jB e
     exfalso
     unfold KV at hcl
     split at hcl
     ·simp at hcl
     ·split at hcl <;> simp at hcl
   ·simp at e
  | invoke r m=>simp [stepV,hc] at e
  | builtin bn =>
   simp only [stepV,hc] at e
   have ln:∀ (x:C),(QE (none:V3) ⟨tm,H⟩ x fun c v=>Zh c H v)=some (.n,H',v) → False:=by
    intro x e
    unfold QE at e
    dsimp only at e
    repeat' split at e
    all_goals simp at e
   split at e
   ·exfalso
    split at e
    ·split at e
     ·split at e
      ·exact ln _ e
      ·simp at e
     ·split at e
      ·simp at e
      ·exact ln _ e
     ·simp at e
    ·simp at e
   ·simp at e
   ·simp at e
   ·split at e
    ·rw [qF] at e
     cases hl:qK ty none _ _ base ⟨tm,H⟩ _ _ fun H v=>some (H,v) with
     | none=>rw [hl] at e; simp [via] at e
     | some r=>rw [hl] at e; simp [via] at e
    ·simp at e
   ·simp at e
 | _ =>
  simp only [stepV] at e
  repeat' split at e
  all_goals simp at e
theorem je7 {H H':List HS} {t:CT} {s:S} {d:DC} {j:Nat} (hj:j ∉ s.touch) (e:ZP H t s=some (d,H')):jJ H' j=jJ H j:=by
  unfold ZP at e
  repeat' split at e
  all_goals first
    | (simp at e; done)
    | (simp only [j5,jg] at e; obtain ⟨_,rfl⟩:=e; rfl)
    | (simp only [j5,jg] at e
       obtain ⟨_,rfl⟩:=e
       exact jM _ fun h=>hj (by simp [S.touch,h]))
theorem jc8:∀ {ts:List CT} {ss:List S} {H H':List HS} {d:List DC} {j:Nat},j ∉ ss.flatMap S.touch → Js H ts ss=some (d,H') → jJ H' j=jJ H j
 | [],[],H,H',d,j,_,e=>by
  simp only [Js,j5,jg] at e
  obtain ⟨_,rfl⟩:=e
  rfl
 | t :: ts,s :: ss,H,H',d,j,hj,e=>by
  rw [jz,List.mem_append,not_or] at hj
  rw [Js] at e
  split at e
  ·rename_i h1
   split at e
   ·rename_i h2
    simp only [j5,jg] at e
    obtain ⟨_,rfl⟩:=e
    rw [jc8 hj.2 h2,je7 hj.1 h1]
   ·simp at e
  ·simp at e
 | [],_ :: _,_,_,_,_,_,e=>by simp [Js] at e
 | _ :: _,[],_,_,_,_,_,e=>by simp [Js] at e
theorem j85 {c:C} {ss:List S} (h:c.cells=some ss):ss.flatMap S.touch=c.touch:=by
 unfold C.cells at h
 split at h
 ·split at h
  ·simp only [j5] at h; subst h; simp [C.touch]
  ·simp at h
 ·split at h
  ·simp only [j5] at h; subst h; rfl
  ·simp at h
 ·simp at h
theorem j9A {ts:List CT}:∀ {l:List (Nat × C)} {n:Nat} {H H':List HS} {d:List (List DC)} {j:Nat},j ∉ l.flatMap (fun p=>p.2.touch) → Kc H ts n l=some (d,H') → jJ H' j=jJ H j
 | [],n,H,H',d,j,_,e=>by
  simp only [Kc,j5,jg] at e
  obtain ⟨_,rfl⟩:=e
  rfl
 | (i,c) :: l,n,H,H',d,j,hj,e=>by
  rw [jz,List.mem_append,not_or] at hj
  rw [Kc] at e
  split at e
  ·split at e
   ·rename_i ss hc
    split at e
    ·rename_i h1
     split at e
     ·rename_i h2
      simp only [j5,jg] at e
      obtain ⟨_,rfl⟩:=e
      rw [j9A hj.2 h2,jc8 (by rw [j85 hc]; exact hj.1) h1]
     ·simp at e
    ·simp at e
   ·simp at e
  ·simp at e
theorem jg0 {H H':List HS} {k:K1} {s:S} {d:List DC} {j:Nat} (hj:j ∉ s.touch) (e:Kn ty H k s=some (d,H')):jJ H' j=jJ H j:=by
  unfold Kn at e
  repeat' split at e
  all_goals first
    | (simp at e; done)
    | (simp only [j5,jg] at e; obtain ⟨_,rfl⟩:=e; rfl)
    | (rename_i h1; simp only [j5,jg] at e; obtain ⟨_,rfl⟩:=e; exact je7 hj h1)
    | (simp only [j5,jg] at e
       obtain ⟨_,rfl⟩:=e
       exact jM _ fun h=>hj (by simp [S.touch,h]))
theorem jcu:∀ {ks:List K1} {ss:List S} {H H':List HS} {d:List DC} {j:Nat},j ∉ ss.flatMap S.touch → ye ty H ks ss=some (d,H') → jJ H' j=jJ H j
 | [],[],H,H',d,j,_,e=>by
  simp only [ye,j5,jg] at e
  obtain ⟨_,rfl⟩:=e
  rfl
 | k :: ks,s :: ss,H,H',d,j,hj,e=>by
  rw [jz,List.mem_append,not_or] at hj
  rw [ye] at e
  split at e
  ·rename_i h1
   split at e
   ·rename_i h2
    simp only [j5,jg] at e
    obtain ⟨_,rfl⟩:=e
    rw [jcu hj.2 h2,jg0 hj.1 h1]
   ·simp at e
  ·simp at e
 | [],_ :: _,_,_,_,_,_,e=>by simp [ye] at e
 | _ :: _,[],_,_,_,_,_,e=>by simp [ye] at e
theorem j9n:∀ {ks:List KC} {cs:List C} {p:List S} {j:Nat},j ∉ cs.flatMap C.touch → V0 ks cs=some p → j ∉ p.flatMap S.touch
 | ks,cs,p,j,hj,e=>by
  induction cs generalizing ks p with
  | nil =>
   unfold V0 at e
   split at e
   all_goals first
    | (simp at e; done)
    | (simp only [j5] at e; subst e; simp)
    | (rename_i h; simp at h; done)
    | skip
   all_goals simp_all
  | cons c cs ih =>
   rw [jz,List.mem_append,not_or] at hj
   unfold V0 at e
   split at e
   ·rename_i h; simp at h
   ·rename_i h
    obtain ⟨rfl,rfl⟩:=h
    split at e
    ·rename_i r hr
     simp only [j5] at e
     subst e
     have:=ih _ _ hj.2 hr
     simpa [S.touch] using this
    ·simp at e
   ·rename_i h
    obtain ⟨rfl,rfl⟩:=h
    split at e
    ·rename_i r hr
     simp only [j5] at e
     subst e
     rw [jz,List.mem_append,not_or]
     exact ⟨hj.1,ih _ _ hj.2 hr⟩
    ·simp at e
   ·rename_i h
    obtain ⟨rfl,rfl⟩:=h
    split at e
    ·split at e
     ·rename_i r hr
      simp only [j5] at e
      subst e
      rw [List.flatMap_append,List.mem_append,not_or]
      exact ⟨hj.1,ih _ _ hj.2 hr⟩
     ·simp at e
    ·simp at e
   ·simp at e
theorem Zt (v:List DC):∀ {ks:List K1} {n:Nat} {H H':List HS} {j:Nat},j ∉ ks.flatMap K1.ids → y4 v n ks H=some H' → jJ H' j=jJ H j
 | [],n,H,H',j,_,e=>by
  simp only [y4,j5] at e
  rw [e]
 | k :: ks,n,H,H',j,hj,e=>by
  rw [jz,List.mem_append,not_or] at hj
  cases k with
  | own e0 id =>
   rw [y4] at e
   split at e
   ·rw [Zt v hj.2 e]
    exact jM _ fun h=>hj.1 (by simp [K1.ids,h])
   ·simp at e
  | _=>exact Zt v hj.2 e
theorem jhD {base f:Nat} {tm:List C} {H H':List HS} {args:List C} {v:C} {l:List Nat} {caps:List Nat} (hc:KV fn base f caps args = .wl l) (e:yO ty fn cl none base ⟨tm,H⟩ f caps args (fun H v=>some (H,v))=some (H',v)) :
  ∀ j,j ∉ l → jJ H' j=jJ H j:=by
 intro j hj
 unfold KV at hc
 cases hf:fn f with
 | none=>rw [hf] at hc; simp at hc
 | some fi =>
  rw [hf] at hc
  dsimp only at hc
  split at hc
  ·simp at hc
  ·rename_i h1 _
   simp only [Cls.wl.injEq] at hc
   subst hc
   rw [List.mem_append,not_or] at hj
   unfold yO at e
   rw [hf] at e
   dsimp only at e
   simp only [List.map_nil,jV,h1] at e
   split at e
   ·rename_i kcs kos e1 e2
    simp only [j8k,j5] at e2
    subst e2
    split at e
    ·rename_i p q e3 e4
     simp only [j4w,j5] at e4
     subst e4
     split at e
     ·rename_i v0 H1 e5
      have h5:=jcu (j:=j) (by rw [jV]; exact j9n hj.1 e3) e5
      split at e
      ·split at e
       ·rename_i r hr
        have pv:∀ m HH,zR r m [] [] HH=HH:=fun m HH=>by rw [zR]; intro _ _ _ _ _ h; simp at h
        split at e
        ·split at e
         ·rename_i H2 h2
          simp only [j5,jg] at e
          obtain ⟨rfl,_⟩:=e
          exact Zt r hj.2 h2
         ·simp at e
        ·rw [pv] at e
         split at e
         ·rename_i H2 h2
          simp only [j5,jg] at e
          obtain ⟨rfl,_⟩:=e
          rw [Zt r hj.2 h2,h5]
         ·simp at e
       ·simp at e
      ·simp at e
     ·simp at e
    ·simp at e
   ·simp at e
  ·simp at hc
theorem jfd {t u base:Nat} {tm:List C} {H H':List HS} {x y v:C} (e:qK ty none t u base ⟨tm,H⟩ x y (fun H v=>some (H,v))=some (H',v)):∀ j,j ∉ base :: (x.touch ++ y.touch) → jJ H' j=jJ H j:=by
 intro j hj
 simp only [List.mem_cons,List.mem_append,not_or] at hj
 unfold qK at e
 repeat' split at e
 all_goals first
  | (simp at e; done)
  | skip
 rename_i H1 m ho hm _ _ _
 simp only [j5,jg] at e
 obtain ⟨rfl,_⟩:=e
 rw [jM _ fun h=>hj.1 h.symm]
 unfold j6G at ho
 repeat' split at ho
 all_goals first
  | (simp at ho; done)
  | skip
 ·simp only [j5,jg] at ho
  obtain ⟨_,rfl⟩:=ho
  rfl
 ·simp only [j5,jg] at ho
  obtain ⟨_,rfl⟩:=ho
  exact jM _ fun h=>hj.2.1 (by simp [C.touch,S.touch,h])
theorem ji6 {base:Nat} {o:Oper} {tm:List C} {H H':List HS} {v:C} {l:List Nat} (e:stepV ty fn cl (none:V3) base o tm H Zh=some (.wl l,H',v)):∀ j,j ∉ l → jJ H' j=jJ H j:=by
 obtain ⟨dst,op,type,pos,after,guard⟩:=o
 cases op with
 | buildSlice t n parts =>
  simp only [stepV] at e
  repeat' split at e
  all_goals first
   | (simp at e; done)
   | skip
  rename_i hr _ _ _
  obtain ⟨h1,rfl,rfl⟩:=jB e
  have h1:=jf8 h1
  subst h1
  intro j hj
  rw [List.mem_cons,not_or] at hj
  rw [jM _ fun h=>hj.1 h.symm]
  refine j9A ?_ hr
  exact hj.2
 | load t x =>
  simp only [stepV] at e
  unfold Vr at e
  dsimp only at e
  repeat' split at e
  all_goals simp at e
 | convert s t x =>
  simp only [stepV] at e
  unfold VQ at e
  dsimp only at e
  repeat' split at e
  all_goals simp at e
 | slice t x lo hi mx =>
  cases mx with
  | none =>
   simp only [stepV,Kb] at e
   repeat' split at e
   all_goals first
    | (simp at e; done)
    | (obtain ⟨l',h1,h2⟩:=qu e; obtain ⟨h3,_⟩:=jB h2; simp at h3)
  | some m=>simp [stepV] at e
 | indexAddr t x i =>
  simp only [stepV] at e
  unfold Jl at e
  dsimp only at e
  repeat' split at e
  all_goals simp at e
 | binOp op t x y t' =>
  simp only [stepV] at e
  rw [JC] at e
  cases hl:j2C ty none op t (opd tm x) (opd tm y) some with
  | none=>rw [hl] at e; simp [via] at e
  | some r=>rw [hl] at e; simp [via] at e
 | store t a x =>
  simp only [stepV] at e
  split at e
  ·rw [yy] at e
   cases hl:Jd ty none t ⟨tm,H⟩ (opd tm a) (opd tm x) some with
   | none=>rw [hl] at e; simp [via] at e
   | some r =>
    rw [hl] at e
    obtain ⟨h,_⟩:=jB e
    unfold j2c at h
    split at h <;> simp at h
  ·simp at e
 | call c =>
  cases hc:c.callee with
  | value f =>
   simp only [stepV,hc] at e
   split at e
   ·rename_i f' caps hfn
    rw [y6] at e
    cases hl:yO ty fn cl none base ⟨tm,H⟩ f' caps (K8 tm c.args.toList) fun H v=>some (H,v) with
    | none=>rw [hl] at e; simp [via] at e
    | some r =>
     rw [hl] at e
     obtain ⟨hcl,rfl,rfl⟩:=jB e
     exact jhD hcl hl
   ·simp at e
  | invoke r m=>simp [stepV,hc] at e
  | builtin bn =>
   simp only [stepV,hc] at e
   have ln:∀ (x:C),(QE (none:V3) ⟨tm,H⟩ x fun c v=>Zh c H v)=some (.wl l,H',v) → False:=by
    intro x e
    unfold QE at e
    dsimp only at e
    repeat' split at e
    all_goals simp at e
   split at e
   ·exfalso
    split at e
    ·split at e
     ·split at e
      ·exact ln _ e
      ·simp at e
     ·split at e
      ·simp at e
      ·exact ln _ e
     ·simp at e
    ·simp at e
   ·simp at e
   ·simp at e
   ·split at e
    ·rw [qF] at e
     cases hl:qK ty none _ _ base ⟨tm,H⟩ _ _ fun H v=>some (H,v) with
     | none=>rw [hl] at e; simp [via] at e
     | some r =>
      rw [hl] at e
      obtain ⟨h1,rfl,rfl⟩:=jB e
      simp only [Cls.wl.injEq] at h1
      subst h1
      exact jfd hl
    ·simp at e
   ·simp at e
 | _ =>
  simp only [stepV] at e
  repeat' split at e
  all_goals simp at e
theorem VR {H:List HS} {i j:Nat} {x y:HS} (h:i ≠ j):kk (kk H i x) j y=kk (kk H j y) i x:=by
 simp only [kk]
 rw [List.set_comm _ _ h]
theorem je6 {H H':List HS} {t:CT} {s:S} {d:DC} {j:Nat} {x:HS} (hj:j ∉ s.touch) (e:ZP H t s=some (d,H')):ZP (kk H j x) t s=some (d,kk H' j x):=by
  cases s with
  | own id =>
    have hne:id ≠ j:=fun h=>hj (by simp [S.touch,h])
    cases t with
    | sl e0 =>
      simp only [ZP] at e ⊢
      rw [jM _ (fun h=>hne h.symm)]
      split at e
      · rename_i e2 l hg
        try rw [hg]
        try dsimp only
        split at e
        · rename_i h2
          rw [if_pos h2]
          simp only [j5,jg] at e ⊢
          exact ⟨e.1,by rw [← e.2,VR hne]⟩
        · simp at e
      · rename_i e2 l hg
        try rw [hg]
        try dsimp only
        split at e
        · rename_i h2
          rw [if_pos h2]
          simp only [j5,jg] at e ⊢
          exact ⟨e.1,by rw [← e.2]⟩
        · simp at e
      · simp at e
    | _=>simp [ZP] at e
  | _ =>
    cases t <;> simp only [ZP] at e ⊢
    all_goals first
      | (simp at e; done)
      | (simp only [j5,jg] at e ⊢; exact ⟨e.1,by rw [← e.2]⟩)
      | (split at e
         · rename_i h2
           rw [if_pos h2]
           simp only [j5,jg] at e ⊢
           exact ⟨e.1,by rw [← e.2]⟩
         · simp at e)
theorem jc7:∀ {ts:List CT} {ss:List S} {H H':List HS} {d:List DC} {j:Nat} {x:HS},j ∉ ss.flatMap S.touch → Js H ts ss=some (d,H') → Js (kk H j x) ts ss=some (d,kk H' j x)
 | [],[],H,H',d,j,x,_,e=>by
  simp only [Js,j5,jg] at e ⊢
  exact ⟨e.1,by rw [← e.2]⟩
 | t :: ts,s :: ss,H,H',d,j,x,hj,e=>by
  rw [jz,List.mem_append,not_or] at hj
  rw [Js] at e ⊢
  split at e
  ·rename_i h1
   rw [je6 hj.1 h1]
   try dsimp only
   split at e
   ·rename_i h2
    rw [jc7 hj.2 h2]
    try dsimp only
    simp only [j5,jg] at e ⊢
    exact ⟨e.1,by rw [← e.2]⟩
   ·simp at e
  ·simp at e
 | [],_ :: _,_,_,_,_,_,_,e=>by simp [Js] at e
 | _ :: _,[],_,_,_,_,_,_,e=>by simp [Js] at e
theorem j9z {ts:List CT}:∀ {l:List (Nat × C)} {n:Nat} {H H':List HS} {d:List (List DC)} {j:Nat} {x:HS},j ∉ l.flatMap (fun p=>p.2.touch) → Kc H ts n l=some (d,H') → Kc (kk H j x) ts n l=some (d,kk H' j x)
 | [],n,H,H',d,j,x,_,e=>by
  simp only [Kc,j5,jg] at e ⊢
  exact ⟨e.1,by rw [← e.2]⟩
 | (i,c) :: l,n,H,H',d,j,x,hj,e=>by
  rw [jz,List.mem_append,not_or] at hj
  rw [Kc] at e ⊢
  split at e
  ·rename_i hi
   rw [if_pos hi]
   split at e
   ·rename_i ss hc
    try rw [hc]
    try dsimp only
    split at e
    ·rename_i h1
     rw [jc7 (by rw [j85 hc]; exact hj.1) h1]
     try dsimp only
     split at e
     ·rename_i h2
      rw [j9z hj.2 h2]
      try dsimp only
      simp only [j5,jg] at e ⊢
      exact ⟨e.1,by rw [← e.2]⟩
     ·simp at e
    ·simp at e
   ·simp at e
  ·simp at e
theorem jfZ {H H':List HS} {k:K1} {s:S} {d:List DC} {j:Nat} {x:HS} (hj:j ∉ s.touch) (e:Kn ty H k s=some (d,H')):Kn ty (kk H j x) k s=some (d,kk H' j x):=by
  cases k with
  | sl e0 =>
    simp only [Kn] at e ⊢
    split at e
    · rename_i h1
      rw [je6 hj h1]
      try dsimp only
      simp only [j5,jg] at e ⊢
      exact ⟨e.1,by rw [← e.2]⟩
    · simp at e
  | own e0 i0 =>
    cases s with
    | own id =>
      have hne:id ≠ j:=fun h=>hj (by simp [S.touch,h])
      simp only [Kn] at e ⊢
      rw [jM _ (fun h=>hne h.symm)]
      split at e
      · rename_i e2 l hg
        try rw [hg]
        try dsimp only
        split at e
        · rename_i h2
          rw [if_pos h2]
          simp only [j5,jg] at e ⊢
          exact ⟨e.1,by rw [← e.2,VR hne]⟩
        · simp at e
      · simp at e
    | nil =>
      simp only [Kn] at e ⊢
      split at e
      · rename_i ti ht
        try rw [ht]
        try dsimp only
        split at e
        · rename_i h2
          rw [if_pos h2]
          simp only [j5,jg] at e ⊢
          exact ⟨e.1,by rw [← e.2]⟩
        · simp at e
      · simp at e
    | _=>simp [Kn] at e
  | _ =>
    cases s <;> simp only [Kn] at e ⊢
    all_goals first
      | (simp at e; done)
      | (simp only [j5,jg] at e ⊢; exact ⟨e.1,by rw [← e.2]⟩)
      | (split at e
         · rename_i h2
           rw [if_pos h2]
           simp only [j5,jg] at e ⊢
           exact ⟨e.1,by rw [← e.2]⟩
         · simp at e)
theorem jct:∀ {ks:List K1} {ss:List S} {H H':List HS} {d:List DC} {j:Nat} {x:HS},j ∉ ss.flatMap S.touch → ye ty H ks ss=some (d,H') → ye ty (kk H j x) ks ss=some (d,kk H' j x)
 | [],[],H,H',d,j,x,_,e=>by
  simp only [ye,j5,jg] at e ⊢
  exact ⟨e.1,by rw [← e.2]⟩
 | k :: ks,s :: ss,H,H',d,j,x,hj,e=>by
  rw [jz,List.mem_append,not_or] at hj
  rw [ye] at e ⊢
  split at e
  ·rename_i h1
   rw [jfZ hj.1 h1]
   try dsimp only
   split at e
   ·rename_i h2
    rw [jct hj.2 h2]
    try dsimp only
    simp only [j5,jg] at e ⊢
    exact ⟨e.1,by rw [← e.2]⟩
   ·simp at e
  ·simp at e
 | [],_ :: _,_,_,_,_,_,_,e=>by simp [ye] at e
 | _ :: _,[],_,_,_,_,_,_,e=>by simp [ye] at e
theorem Zs (v:List DC):∀ {ks:List K1} {n:Nat} {H H':List HS} {j:Nat} {x:HS},j ∉ ks.flatMap K1.ids → y4 v n ks H=some H' → y4 v n ks (kk H j x)=some (kk H' j x)
 | [],n,H,H',j,x,_,e=>by
  simp only [y4,j5] at e ⊢
  rw [e]
 | k :: ks,n,H,H',j,x,hj,e=>by
  rw [jz,List.mem_append,not_or] at hj
  cases k with
  | own e0 id =>
   have hne:id ≠ j:=fun h=>hj.1 (by simp [K1.ids,h])
   rw [y4] at e ⊢
   rw [jM _ (fun h=>hne h.symm)]
   split at e
   ·rename_i hg
    try rw [hg]
    try dsimp only
    rw [← VR hne]
    exact Zs v hj.2 e
   ·simp at e
  | _=>exact Zs (ks:=ks) v hj.2 e
theorem jhC {base f:Nat} {tm:List C} {H H':List HS} {args:List C} {v:C} {l:List Nat} {caps:List Nat} {j:Nat} {x:HS} (hc:KV fn base f caps args = .wl l) (hj:j ∉ l) (e:yO ty fn cl none base ⟨tm,H⟩ f caps args (fun H v=>some (H,v))=some (H',v)) :
  yO ty fn cl none base ⟨tm,kk H j x⟩ f caps args (fun H v=>some (H,v))=some (kk H' j x,v):=by
 unfold KV at hc
 cases hf:fn f with
 | none=>rw [hf] at hc; simp at hc
 | some fi =>
  rw [hf] at hc
  dsimp only at hc
  split at hc
  ·simp at hc
  ·rename_i h1 _
   simp only [Cls.wl.injEq] at hc
   subst hc
   rw [List.mem_append,not_or] at hj
   unfold yO at e ⊢
   rw [hf] at e
   try simp only [hf]
   dsimp only at e ⊢
   simp only [List.map_nil,jV,h1] at e ⊢
   split at e
   ·rename_i kcs kos e1 e2
    simp only [j8k,j5] at e2
    subst e2
    simp only [j8k,e1]
    split at e
    ·rename_i p q e3 e4
     simp only [j4w,j5] at e4
     subst e4
     simp only [j4w,e3]
     split at e
     ·rename_i v0 H1 e5
      rw [jct (x:=x) (by rw [jV]; exact j9n hj.1 e3) e5]
      try dsimp only
      split at e
      ·rename_i hok
       have hok2:(Ko [] && (([]:List Nat).all (jdp (kk H j x))) && ({ tm:=kcs,ob:=[] ++ List.replicate (fi.pk.filter PK.isMv).length .u }:Hint).ok)=true:=by
        simp only [jj] at hok ⊢
        exact ⟨⟨hok.1.1,rfl⟩,hok.2⟩
       rw [if_pos hok2]
       split at e
       ·rename_i r hr
        have pv:∀ m HH,zR r m [] [] HH=HH:=fun m HH=>by rw [zR]; intro _ _ _ _ _ h; simp at h
        split at e
        ·split at e
         ·rename_i H2 h2
          rw [Zs r hj.2 h2]
          simp only [j5,jg] at e ⊢
          exact ⟨by rw [← e.1],e.2⟩
         ·simp at e
        ·rw [pv] at e ⊢
         split at e
         ·rename_i H2 h2
          rw [Zs r hj.2 h2]
          simp only [j5,jg] at e ⊢
          exact ⟨by rw [← e.1],e.2⟩
         ·simp at e
       ·simp at e
      ·simp at e
     ·simp at e
    ·simp at e
   ·simp at e
  ·simp at hc
theorem jel {H:List HS} {s:S} {j:Nat} {x:HS} (hj:j ∉ s.touch):zQ (kk H j x) s=zQ H s:=by
 cases s with
 | own id =>
  have hne:id ≠ j:=fun h=>hj (by simp [S.touch,h])
  simp only [zQ]
  rw [jM _ (fun h=>hne h.symm)]
 | _=>rfl
theorem jeA {H:List HS} {t u e0:Nat} {te:TI} {y:C} {j:Nat} {x:HS} (hj:j ∉ y.touch):j5h ty (kk H j x) t u e0 te y=j5h ty H t u e0 te y:=by
 cases y with
 | one s =>
  cases s with
  | own id=>simp only [j5h]; rw [jel hj]
  | _=>rfl
 | _=>rfl
theorem jfc {t u base:Nat} {tm:List C} {H H':List HS} {a y v:C} {j:Nat} {x:HS} (hj:j ∉ base :: (a.touch ++ y.touch)) (e:qK ty none t u base ⟨tm,H⟩ a y (fun H v=>some (H,v))=some (H',v)) :
  qK ty none t u base ⟨tm,kk H j x⟩ a y (fun H v=>some (H,v))=some (kk H' j x,v):=by
 simp only [List.mem_cons,List.mem_append,not_or] at hj
 unfold qK at e ⊢
 split at e
 ·simp at e
 ·rename_i e0 he0
  split at e
  ·simp at e
  ·rename_i te hte
   dsimp only at e ⊢
   split at e
   ·rename_i hb
    rw [if_pos hb]
    split at e
    ·rename_i l H1 m ho hm
     have ho2:j6G (kk H j x) e0 a=some (l,kk H1 j x):=by
      unfold j6G at ho ⊢
      split at ho
      ·simp only [j5,jg] at ho ⊢
       exact ⟨ho.1,by rw [ho.2]⟩
      ·rename_i id
       have hne:id ≠ j:=fun h=>hj.2.1 (by simp [C.touch,S.touch,h])
       try dsimp only
       rw [jM _ (fun h=>hne h.symm)]
       split at ho
       ·rename_i e2 l2 hg
        try rw [hg]
        try dsimp only
        split at ho
        ·rename_i h2
         rw [if_pos h2]
         simp only [j5,jg] at ho ⊢
         exact ⟨ho.1,by rw [← ho.2,VR hne]⟩
        ·simp at ho
       ·simp at ho
      ·simp at ho
     rw [ho2,jeA hj.2.2,hm]
     try dsimp only
     rw [jM _ hj.1]
     split at e
     ·rename_i hg
      try rw [hg]
      try dsimp only
      split at e
      ·rename_i hl
       rw [if_pos hl]
       simp only [j5,jg] at e ⊢
       exact ⟨by rw [← e.1,VR hj.1],e.2⟩
      ·simp at e
     ·simp at e
    ·simp at e
   ·simp at e
theorem jd0 {base:Nat} {o:Oper} {tm:List C} {H H':List HS} {v:C} {l:List Nat} {j:Nat} {x:HS} (hj:j ∉ l) (e:stepV ty fn cl (none:V3) base o tm H Zh=some (.wl l,H',v)):stepV ty fn cl (none:V3) base o tm (kk H j x) Zh=some (.wl l,kk H' j x,v):=by
 obtain ⟨dst,op,type,pos,after,guard⟩:=o
 cases op with
 | buildSlice t n parts =>
  simp only [stepV] at e ⊢
  split at e
  ·rename_i e0 he0
   try rw [he0]
   try dsimp only
   split at e
   ·rename_i te hte
    try rw [hte]
    try dsimp only
    split at e
    ·rename_i l0 H1 hr
     split at e
     ·rename_i hg
      split at e
      ·rename_i hc
       obtain ⟨h1,rfl,rfl⟩:=jB e
       have hl:=jf8 h1
       subst hl
       simp only [List.mem_cons,not_or] at hj
       rw [j9z hj.2 hr]
       dsimp only
       rw [jM _ hj.1,hg]
       dsimp only
       rw [if_pos hc]
       show some (Vu _ _,kk (kk H1 j x) base _,_)=_
       rw [h1,VR hj.1]
      ·simp at e
     ·simp at e
    ·simp at e
   ·simp at e
  ·simp at e
 | load t x =>
  simp only [stepV] at e
  unfold Vr at e
  dsimp only at e
  repeat' split at e
  all_goals simp at e
 | convert s t x =>
  simp only [stepV] at e
  unfold VQ at e
  dsimp only at e
  repeat' split at e
  all_goals simp at e
 | slice t x lo hi mx =>
  cases mx with
  | none =>
   simp only [stepV,Kb] at e
   repeat' split at e
   all_goals first
    | (simp at e; done)
    | (obtain ⟨l',h1,h2⟩:=qu e; obtain ⟨h3,_⟩:=jB h2; simp at h3)
  | some m=>simp [stepV] at e
 | indexAddr t x i =>
  simp only [stepV] at e
  unfold Jl at e
  dsimp only at e
  repeat' split at e
  all_goals simp at e
 | binOp op t x y t' =>
  simp only [stepV] at e
  rw [JC] at e
  cases hl:j2C ty none op t (opd tm x) (opd tm y) some with
  | none=>rw [hl] at e; simp [via] at e
  | some r=>rw [hl] at e; simp [via] at e
 | store t a x =>
  simp only [stepV] at e
  split at e
  ·rw [yy] at e
   cases hl:Jd ty none t ⟨tm,H⟩ (opd tm a) (opd tm x) some with
   | none=>rw [hl] at e; simp [via] at e
   | some r =>
    rw [hl] at e
    obtain ⟨h,_⟩:=jB e
    unfold j2c at h
    split at h <;> simp at h
  ·simp at e
 | call c =>
  cases hc:c.callee with
  | value f =>
   simp only [stepV,hc] at e
   split at e
   ·rename_i f' caps hfn
    rw [y6] at e
    cases hl:yO ty fn cl none base ⟨tm,H⟩ f' caps (K8 tm c.args.toList) fun H v=>some (H,v) with
    | none=>rw [hl] at e; simp [via] at e
    | some r =>
     rw [hl] at e
     obtain ⟨hcl,rfl,rfl⟩:=jB e
     simp only [stepV,hc,hfn]
     rw [y6,jhC (H':=r.1) (v:=r.2) hcl hj hl,hcl]
     rfl
   ·simp at e
  | invoke r m=>simp [stepV,hc] at e
  | builtin bn =>
   simp only [stepV,hc] at e
   have ln:∀ (x:C),(QE (none:V3) ⟨tm,H⟩ x fun c v=>Zh c H v)=some (.wl l,H',v) → False:=by
    intro x e
    unfold QE at e
    dsimp only at e
    repeat' split at e
    all_goals simp at e
   split at e
   ·exfalso
    split at e
    ·split at e
     ·split at e
      ·exact ln _ e
      ·simp at e
     ·split at e
      ·simp at e
      ·exact ln _ e
     ·simp at e
    ·simp at e
   ·simp at e
   ·simp at e
   ·split at e
    ·rw [qF] at e
     cases hl:qK ty none _ _ base ⟨tm,H⟩ _ _ fun H v=>some (H,v) with
     | none=>rw [hl] at e; simp [via] at e
     | some r =>
      rw [hl] at e
      obtain ⟨h1,rfl,rfl⟩:=jB e
      simp only [Cls.wl.injEq] at h1
      subst h1
      rename_i hat
      simp only [stepV,hc]
      simp only [*]
      rw [qF,jfc (H':=r.1) (v:=r.2) hj hl]
      rfl
    ·simp at e
   ·simp at e
 | _ =>
  simp only [stepV] at e
  repeat' split at e
  all_goals simp at e
theorem jf4 {c:C} {ss:List S} (hc:c.noOwn=true) (h:c.cells=some ss):ss.all S.noOwn=true:=by
 unfold C.cells at h
 split at h
 ·split at h
  ·simp only [j5] at h; subst h; simpa [C.noOwn] using hc
  ·simp at h
 ·split at h
  ·simp only [j5] at h; subst h; exact hc
  ·simp at h
 ·simp at h
theorem j7C:∀ {ts:List CT} {ss:List S} {H H':List HS} {d:List DC} (H3:List HS),ss.all S.noOwn=true → Js H ts ss=some (d,H') → Js H3 ts ss=some (d,H3)
 | [],[],H,H',d,H3,_,e=>by
  simp only [Js,j5,jg] at e ⊢
  exact ⟨e.1,trivial⟩
 | t :: ts,s :: ss,H,H',d,H3,hs,e=>by
  rw [List.all_cons,jj] at hs
  rw [Js] at e ⊢
  split at e
  ·rename_i h1
   rw [j9g hs.1 h1]
   dsimp only
   split at e
   ·rename_i h2
    rw [j7C H3 hs.2 h2]
    simp only [j5,jg] at e ⊢
    exact ⟨e.1,trivial⟩
   ·simp at e
  ·simp at e
 | [],_ :: _,_,_,_,_,_,e=>by simp [Js] at e
 | _ :: _,[],_,_,_,_,_,e=>by simp [Js] at e
theorem j19 {ts:List CT}:∀ {l:List (Nat × C)} {n:Nat} {H H':List HS} {d:List (List DC)} (H3:List HS),l.all (fun p=>p.2.noOwn)=true → Kc H ts n l=some (d,H') → Kc H3 ts n l=some (d,H3)
 | [],n,H,H',d,H3,_,e=>by
  simp only [Kc,j5,jg] at e ⊢
  exact ⟨e.1,trivial⟩
 | (i,c) :: l,n,H,H',d,H3,hl,e=>by
  rw [List.all_cons,jj] at hl
  rw [Kc] at e ⊢
  split at e
  ·rename_i hi
   try rw [if_pos hi]
   split at e
   ·rename_i ss hc
    try rw [hc]
    try dsimp only
    split at e
    ·rename_i h1
     rw [j7C H3 (jf4 hl.1 hc) h1]
     dsimp only
     split at e
     ·rename_i h2
      rw [j19 H3 hl.2 h2]
      simp only [j5,jg] at e ⊢
      exact ⟨e.1,trivial⟩
     ·simp at e
    ·simp at e
   ·simp at e
  ·simp at e
theorem ji9 {base i:Nat} {o:Oper} {tm:List C} {H H':List HS} {v:C} (e:stepV ty fn cl (none:V3) base o tm H Zh=some (.nb i,H',v)) :
  i=base ∧ jJ H base = .free ∧ ∃ ob,H'=kk H base (.live ob) ∧ ∀ H3,jJ H3 base = .free → stepV ty fn cl (none:V3) base o tm H3 Zh=some (.nb i,kk H3 base (.live ob),v):=by
 obtain ⟨dst,op,type,pos,after,guard⟩:=o
 cases op with
 | buildSlice t n parts =>
  simp only [stepV] at e ⊢
  split at e
  ·rename_i e0 he0
   try rw [he0]
   try dsimp only
   split at e
   ·rename_i te hte
    try rw [hte]
    try dsimp only
    split at e
    ·rename_i l0 H1 hr
     split at e
     ·rename_i hg
      split at e
      ·rename_i hc
       obtain ⟨h1,rfl,rfl⟩:=jB e
       obtain ⟨hb,hno⟩:=jiV h1
       have hH:=j19 H hno hr
       rw [hr] at hH
       simp only [j5,jg,true_and] at hH
       subst hH
       refine ⟨hb,hg,_,rfl,fun H3 h3=>?_⟩
       rw [j19 H3 hno hr]
       dsimp only
       rw [h3]
       dsimp only
       rw [if_pos hc]
       show some (Vu _ _,_,_)=_
       rw [h1]
      ·simp at e
     ·simp at e
    ·simp at e
   ·simp at e
  ·simp at e
 | load t x =>
  simp only [stepV] at e
  unfold Vr at e
  dsimp only at e
  repeat' split at e
  all_goals simp at e
 | convert s t x =>
  simp only [stepV] at e
  unfold VQ at e
  dsimp only at e
  repeat' split at e
  all_goals simp at e
 | slice t x lo hi mx =>
  cases mx with
  | none =>
   simp only [stepV,Kb] at e
   repeat' split at e
   all_goals first
    | (simp at e; done)
    | (obtain ⟨l',h1,h2⟩:=qu e; obtain ⟨h3,_⟩:=jB h2; simp at h3)
  | some m=>simp [stepV] at e
 | indexAddr t x i =>
  simp only [stepV] at e
  unfold Jl at e
  dsimp only at e
  repeat' split at e
  all_goals simp at e
 | binOp op t x y t' =>
  simp only [stepV] at e
  rw [JC] at e
  cases hl:j2C ty none op t (opd tm x) (opd tm y) some with
  | none=>rw [hl] at e; simp [via] at e
  | some r=>rw [hl] at e; simp [via] at e
 | store t a x =>
  simp only [stepV] at e
  split at e
  ·rw [yy] at e
   cases hl:Jd ty none t ⟨tm,H⟩ (opd tm a) (opd tm x) some with
   | none=>rw [hl] at e; simp [via] at e
   | some r =>
    rw [hl] at e
    obtain ⟨h,_⟩:=jB e
    unfold j2c at h
    split at h <;> simp at h
  ·simp at e
 | call c =>
  cases hc:c.callee with
  | value f =>
   simp only [stepV,hc] at e
   split at e
   ·rename_i f' caps hfn
    rw [y6] at e
    cases hl:yO ty fn cl none base ⟨tm,H⟩ f' caps (K8 tm c.args.toList) fun H v=>some (H,v) with
    | none=>rw [hl] at e; simp [via] at e
    | some r =>
     rw [hl] at e
     obtain ⟨hcl,rfl,rfl⟩:=jB e
     exfalso
     unfold KV at hcl
     split at hcl
     ·simp at hcl
     ·split at hcl <;> simp at hcl
   ·simp at e
  | invoke r m=>simp [stepV,hc] at e
  | builtin bn =>
   simp only [stepV,hc] at e
   have ln:∀ (x:C),(QE (none:V3) ⟨tm,H⟩ x fun c v=>Zh c H v)=some (.nb i,H',v) → False:=by
    intro x e
    unfold QE at e
    dsimp only at e
    repeat' split at e
    all_goals simp at e
   split at e
   ·exfalso
    split at e
    ·split at e
     ·split at e
      ·exact ln _ e
      ·simp at e
     ·split at e
      ·simp at e
      ·exact ln _ e
     ·simp at e
    ·simp at e
   ·simp at e
   ·simp at e
   ·split at e
    ·rw [qF] at e
     cases hl:qK ty none _ _ base ⟨tm,H⟩ _ _ fun H v=>some (H,v) with
     | none=>rw [hl] at e; simp [via] at e
     | some r =>
      rw [hl] at e
      simp [via] at e
    ·simp at e
   ·simp at e
 | _ =>
  simp only [stepV] at e
  repeat' split at e
  all_goals simp at e
end
section
variable {P:Program} {ty:Nat → Option TI} {fn:Nat → Option FI} {cl:Nat → Hint → List DC → Out} {A:An}
def op1 (ty:Nat → Option TI) (fn:Nat → Option FI) (cl:Nat → Hint → List DC → Out) (all:Array Oper) (base:Nat) (o:Oper) (st:St):Option (Cls × St) :=
 opR ty fn cl none all base o st fun c st'=>some (c,st')
theorem jhd {ρ:Type} {fail:ρ} {base:Nat} {o:Oper} {st:St} {K:Cls → St → ρ} :
  j3v ty fn cl fail base o st K=via fail (j3v ty fn cl none base o st fun c st'=>some (c,st')) fun r=>K r.1 r.2:=by
 unfold j3v
 dsimp only
 have h2:=j0o (ty:=ty) (fn:=fn) (cl:=cl) (fail:=(none:Option (Cls × St))) (base:=base) (o:=o) (tm:=st.tm) (H:=st.H) (K:=fun c H v=>some (c,{ tm:=pf st.tm o.dst v,H:=H }))
 rw [h2,Zj,j0o (fail:=fail)]
 rfl
theorem jgH {ρ:Type} {fail:ρ} {all:Array Oper} {base:Nat} {o:Oper} {st:St} {K:Cls → St → ρ} :
  opR ty fn cl fail all base o st K=via fail (op1 ty fn cl all base o st) fun r=>K r.1 r.2:=by
 unfold op1 opR
 repeat' split
 all_goals first | rfl | exact jhd
theorem jif {tm:List C} {d:Nat} {c:C} (h:tm.getD d (.one .undef)=c) (hc:c ≠ .one .undef):tm.set d c=tm:=by
 apply List.ext_getElem?
 intro i
 rw [List.getElem?_set]
 split
 ·rename_i hi
  subst hi
  rw [List.getD_eq_getElem?_getD] at h
  cases hk:tm[d]? with
  | none=>rw [hk] at h; exact absurd h.symm hc
  | some x =>
   rw [hk] at h
   have hlt:d < tm.length:=by
    rcases jA d tm.length with h' | h'
    ·exact h'
    ·simp [List.getElem?_eq_none h'] at hk
   simp only [Option.getD_some] at h
   simp [hlt,h]
 ·rfl
def gd (all:Array Oper) (o:Oper) (tm:List C):Option Bool :=
 match o.guard with
 | none=>some true
 | some (j,want) =>
  match (all[j]?).bind (·.dst) with
  | none=>none
  | some d =>
   match tm.getD d (.one .undef) with
   | .one (.bool b)=>some (b == want)
   | .tup []=>some false
   | _=>none
theorem Km {all:Array Oper} {base:Nat} {o:Oper} {tm:List C} {H:List HS} :
  op1 ty fn cl all base o ⟨tm,H⟩=match gd all o tm with
   | none=>none
   | some true=>(stepV ty fn cl (none:V3) base o tm H Zh).map fun r=>(r.1,⟨pf tm o.dst r.2.2,r.2.1⟩)
   | some false=>some (.t,⟨pf tm o.dst (.tup []),H⟩):=by
 have st:j3v ty fn cl none base o ⟨tm,H⟩ (fun c st'=>some (c,st'))=(stepV ty fn cl (none:V3) base o tm H Zh).map fun r=>(r.1,⟨pf tm o.dst r.2.2,r.2.1⟩):=by
  unfold j3v
  rw [j0o]
  cases stepV ty fn cl (none:V3) base o tm H Zh <;> rfl
 unfold op1 opR gd
 cases hg:o.guard with
 | none=>exact st
 | some jw =>
  obtain ⟨j,want⟩:=jw
  dsimp only
  cases hd:(all[j]?).bind (·.dst) with
  | none=>rfl
  | some d =>
   dsimp only
   cases hc:tm.getD d (.one .undef) with
   | one s =>
    cases s with
    | bool b =>
     have hs:=jif hc (by simp)
     cases b <;> cases want <;> simp [hs,st]
    | _=>rfl
   | tup l=>cases l <;> rfl
   | _=>rfl
theorem jcC {g:Gh} {tm:List C} {H:List HS} {a:Act} {w:World} (h:Rel ty A g ⟨tm,H⟩ a w) {all:Array Oper} {o:Oper} {b:Bool} (e:gd all o tm=some b):Region.wanted o (yielded all a.tmps)=b:=by
 unfold gd at e
 unfold Region.wanted
 split at e
 ·rename_i hg
  rw [hg]
  simpa using e
 ·rename_i j want hg
  rw [hg]
  dsimp only
  split at e
  ·simp at e
  ·rename_i d hd
   unfold yielded
   rw [hd]
   simp only [Option.bind_some]
   have hr:=h.getD d
   rw [Array.getD_eq_getD_getElem?] at hr
   split at e
   ·rename_i x hx
    rw [hx] at hr
    have hv:(a.tmps[d]?).getD undef = .bool x:=hr
    cases ht:a.tmps[d]? with
    | none=>rw [ht] at hv; simp [undef] at hv
    | some v =>
     rw [ht] at hv
     simp only [Option.getD_some] at hv
     subst hv
     simp only [j5] at e
     simp only []
     rw [← e]
     cases x <;> cases want <;> rfl
   ·rename_i hx
    rw [hx] at hr
    obtain ⟨vs,h1,h2,_⟩:=hr
    have:vs=[]:=jY (by simpa using h2)
    subst this
    simp only [j5] at e
    subst e
    cases ht:a.tmps[d]? with
    | none=>simp
    | some v =>
     rw [ht] at h1
     simp only [Option.getD_some] at h1
     subst h1
     simp
   ·simp at e
theorem jfX (hty:K9 P ty) (hcall:Qj P ty fn cl A) {g:Gh} {tm:List C} {H:List HS} {a:Act} {w:World} {Q:Exit → Act → World → Prop} {all:Array Oper} {i base:Nat} {o:Oper} {c:Cls} {st':St} {K:Act → World → Prop}
  (ho:all[i]? = some o) (h:Rel ty A g ⟨tm,H⟩ a w) (e:op1 ty fn cl all base o ⟨tm,H⟩=some (c,st')) (hK:∀ g' a' w',Rel ty A g' st' a' w' → K a' w'):wpOp P all Q i K a w:=by
 rw [Km] at e
 unfold wpOp
 rw [ho]
 dsimp only
 split at e
 ·simp at e
 ·rename_i hg
  rw [jcC h hg,if_pos rfl]
  cases hs:stepV ty fn cl (none:V3) base o tm H Zh with
  | none=>rw [hs] at e; simp at e
  | some r =>
   rw [hs] at e
   simp only [Option.map_some,j5,jg] at e
   obtain ⟨rfl,rfl⟩:=e
   refine .inl (Oper.wp_mono (fun a' w' hp=>?_) (jjb (Q:=Q) hty hcall h (c:=r.1) (H':=r.2.1) (v:=r.2.2) hs))
   obtain ⟨g',h1,_⟩:=hp
   exact hK g' a' w' h1
 ·rename_i hg
  rw [jcC h hg,if_neg (by simp)]
  simp only [j5,jg] at e
  obtain ⟨rfl,rfl⟩:=e
  exact hK g _ w (h.put o.dst (c:=.tup []) ⟨[],rfl,rfl,fun i a ss u hi=>by simp at hi⟩)
theorem jcp {tm:List C} {dst:Option Tmp} {v:C} {d:Nat} (h:∀ x,dst=some x → x ≠ d):(pf tm dst v).getD d (.one .undef)=tm.getD d (.one .undef):=by
 cases dst with
 | none=>rfl
 | some x =>
  simp only [pf,List.getD_eq_getElem?_getD]
  rw [List.getElem?_set_ne (h x rfl)]
theorem j6D {tm:List C} {x y:Option Tmp} {u v:C} (h:∀ d,x=some d → y ≠ some d):pf (pf tm x u) y v=pf (pf tm y v) x u:=by
 cases x with
 | none=>rfl
 | some d =>
  cases y with
  | none=>rfl
  | some e =>
   have:d ≠ e:=fun hde=>h d rfl (by rw [hde])
   simp only [pf]
   exact List.set_comm _ _ this
theorem jiF {all:Array Oper} {o:Oper} {tm:List C} {dst:Option Tmp} {v:C} (h:∀ d,dst=some d → d ∉ o.looksAt all):gd all o (pf tm dst v)=gd all o tm:=by
 unfold gd
 cases hg:o.guard with
 | none=>rfl
 | some jw =>
  obtain ⟨j,want⟩:=jw
  dsimp only
  cases hd:(all[j]?).bind (·.dst) with
  | none=>rfl
  | some d =>
   dsimp only
   rw [jcp fun x hx hxd=>h x hx (by subst hxd; simp [Oper.looksAt,hg,hd])]
theorem jgF {all:Array Oper} {o:Oper} {tm:List C} {dst:Option Tmp} {v:C} (h:∀ d,dst=some d → d ∉ o.looksAt all):∀ x ∈ o.op.operands,opd (pf tm dst v) x=opd tm x:=by
 intro x hx
 cases x with
 | tmp t =>
  simp only [opd]
  exact jcp fun d hd hdt=>h d hd (by
   subst hdt
   exact List.mem_append_left _ (List.mem_filterMap.2 ⟨.tmp d,by simpa using hx,rfl⟩))
 | _=>rfl
theorem jgI {all:Array Oper} {base:Nat} {o:Oper} {tm:List C} {H:List HS} {dst:Option Tmp} {u:C} (h:∀ d,dst=some d → d ∉ o.looksAt all) (h2:∀ d,dst=some d → o.dst ≠ some d) {c:Cls} {st':St} :
  op1 ty fn cl all base o ⟨tm,H⟩=some (c,st') → op1 ty fn cl all base o ⟨pf tm dst u,H⟩=some (c,⟨pf st'.tm dst u,st'.H⟩):=by
 intro e
 rw [Km] at e ⊢
 rw [jiF h]
 split at e
 ·simp at e
 ·rename_i hg
  rw [j7D (jgF h)]
  cases hs:stepV ty fn cl (none:V3) base o tm H Zh with
  | none=>rw [hs] at e; simp at e
  | some r =>
   rw [hs] at e
   simp only [Option.map_some,j5,jg] at e ⊢
   obtain ⟨rfl,rfl⟩:=e
   exact ⟨rfl,by rw [j6D h2]⟩
 ·rename_i hg
  simp only [j5,jg] at e ⊢
  obtain ⟨rfl,rfl⟩:=e
  exact ⟨rfl,by rw [j6D h2]⟩
theorem jhj {all:Array Oper} {base:Nat} {o:Oper} {tm:List C} {H:List HS} {dst:Option Tmp} {u:C} (h:∀ d,dst=some d → d ∉ o.looksAt all) (h2:∀ d,dst=some d → o.dst ≠ some d) {c:Cls} {st':St}
  (e:op1 ty fn cl all base o ⟨pf tm dst u,H⟩=some (c,st')):∃ st'',op1 ty fn cl all base o ⟨tm,H⟩=some (c,st'') ∧ st'=⟨pf st''.tm dst u,st''.H⟩:=by
 cases hk:op1 ty fn cl all base o ⟨tm,H⟩ with
 | none =>
  rw [Km] at e hk
  rw [jiF h] at e
  split at hk
  ·rename_i hg; rw [hg] at e; simp at e
  ·rename_i hg
   rw [hg] at e
   dsimp only at e
   rw [j7D (jgF h)] at e
   simp only [Option.map_eq_none_iff] at hk
   rw [hk] at e
   simp at e
  ·simp at hk
 | some r =>
  obtain ⟨c',st''⟩:=r
  have:=jgI (u:=u) h h2 hk
  rw [this] at e
  simp only [j5,jg] at e
  obtain ⟨rfl,rfl⟩:=e
  exact ⟨st'',rfl,rfl⟩
theorem jgK {all:Array Oper} {base:Nat} {o:Oper} {tm:List C} {H:List HS} {c:Cls} {st':St} (e:op1 ty fn cl all base o ⟨tm,H⟩=some (c,st')) :
  (∃ v,st'.tm=pf tm o.dst v) ∧ (c = .t → st'.H=H ∧ ∀ H3,op1 ty fn cl all base o ⟨tm,H3⟩=some (.t,⟨st'.tm,H3⟩)) ∧ (c = .r → st'.H=H):=by
 rw [Km] at e
 split at e
 ·simp at e
 ·rename_i hg
  cases hs:stepV ty fn cl (none:V3) base o tm H Zh with
  | none=>rw [hs] at e; simp at e
  | some r =>
   obtain ⟨c',H',v⟩:=r
   rw [hs] at e
   simp only [Option.map_some,j5,jg] at e
   obtain ⟨rfl,rfl⟩:=e
   obtain ⟨k1,k2⟩:=jhc H c' H' v hs
   refine ⟨⟨v,rfl⟩,fun hc=>⟨(k1 hc).1,fun H3=>?_⟩,k2⟩
   rw [Km,hg]
   dsimp only
   have:=(k1 hc).2 H3
   dsimp only at this
   rw [this]
   rfl
 ·rename_i hg
  simp only [j5,jg] at e
  obtain ⟨rfl,rfl⟩:=e
  refine ⟨⟨_,rfl⟩,fun _=>⟨rfl,fun H3=>?_⟩,fun h=>by simp at h⟩
  rw [Km,hg]
theorem jk6 {all:Array Oper} {base b:Nat} {o:Oper} {tm:List C} {H:List HS} {hs:HS} {st':St} (hb:jJ H b = .free) (e:op1 ty fn cl all base o ⟨tm,H⟩=some (.r,st')):op1 ty fn cl all base o ⟨tm,kk H b hs⟩=some (.r,⟨st'.tm,kk H b hs⟩):=by
 rw [Km] at e ⊢
 split at e
 ·simp at e
 ·rename_i hg
  cases hs:stepV ty fn cl (none:V3) base o tm H Zh with
  | none=>rw [hs] at e; simp at e
  | some r =>
   obtain ⟨c',H',v⟩:=r
   rw [hs] at e
   simp only [Option.map_some,j5,jg] at e
   obtain ⟨rfl,rfl⟩:=e
   rw [jjc hb hs]
   rfl
 ·simp only [j5,jg] at e
  simp at e
theorem jgJ {all:Array Oper} {base:Nat} {o:Oper} {tm:List C} {H:List HS} {st':St} (e:op1 ty fn cl all base o ⟨tm,H⟩=some (.n,st')) :
  jJ H base = .free ∧ ∃ ob,st'.H=kk H base (.live ob) ∧ ∀ H3,jJ H3 base = .free → op1 ty fn cl all base o ⟨tm,H3⟩=some (.n,⟨st'.tm,kk H3 base (.live ob)⟩):=by
 rw [Km] at e
 split at e
 ·simp at e
 ·rename_i hg
  cases hs:stepV ty fn cl (none:V3) base o tm H Zh with
  | none=>rw [hs] at e; simp at e
  | some r =>
   obtain ⟨c',H',v⟩:=r
   rw [hs] at e
   simp only [Option.map_some,j5,jg] at e
   obtain ⟨rfl,rfl⟩:=e
   obtain ⟨h1,ob,h2,h3⟩:=jjd hs
   refine ⟨h1,ob,h2,fun H3 hf=>?_⟩
   rw [Km,hg]
   dsimp only
   rw [h3 H3 hf]
   rfl
 ·simp only [j5,jg] at e
  simp at e
theorem j6F {all:Array Oper} {base id:Nat} {o:Oper} {tm:List C} {H:List HS} {st':St} (e:op1 ty fn cl all base o ⟨tm,H⟩=some (.rv id,st')) :
  st'.H=H ∧ (∃ ob,jJ H id = .live ob) ∧ ∀ H3,jJ H3 id=jJ H id → op1 ty fn cl all base o ⟨tm,H3⟩=some (.rv id,⟨st'.tm,H3⟩):=by
 rw [Km] at e
 split at e
 ·simp at e
 ·rename_i hg
  cases hs:stepV ty fn cl (none:V3) base o tm H Zh with
  | none=>rw [hs] at e; simp at e
  | some r =>
   obtain ⟨c',H',v⟩:=r
   rw [hs] at e
   simp only [Option.map_some,j5,jg] at e
   obtain ⟨rfl,rfl⟩:=e
   obtain ⟨h1,h2,h3⟩:=ji8 hs
   refine ⟨h1,h2,fun H3 hf=>?_⟩
   rw [Km,hg]
   dsimp only
   rw [h3 H3 hf]
   rfl
 ·simp only [j5,jg] at e
  simp at e
theorem jfW {all:Array Oper} {base id:Nat} {o:Oper} {tm:List C} {H:List HS} {st':St} (e:op1 ty fn cl all base o ⟨tm,H⟩=some (.st id,st')) :
  ∃ x,st'.H=kk H id x ∧ ∀ H3,jJ H3 id=jJ H id → op1 ty fn cl all base o ⟨tm,H3⟩=some (.st id,⟨st'.tm,kk H3 id x⟩):=by
 rw [Km] at e
 split at e
 ·simp at e
 ·rename_i hg
  cases hs:stepV ty fn cl (none:V3) base o tm H Zh with
  | none=>rw [hs] at e; simp at e
  | some r =>
   obtain ⟨c',H',v⟩:=r
   rw [hs] at e
   simp only [Option.map_some,j5,jg] at e
   obtain ⟨rfl,rfl⟩:=e
   obtain ⟨x,h1,h3⟩:=ji7 hs
   refine ⟨x,h1,fun H3 hf=>?_⟩
   rw [Km,hg]
   dsimp only
   rw [h3 H3 hf]
   rfl
 ·simp only [j5,jg] at e
  simp at e
theorem jfV {all:Array Oper} {base:Nat} {o:Oper} {tm:List C} {H:List HS} {st':St} {l:List Nat} (e:op1 ty fn cl all base o ⟨tm,H⟩=some (.wl l,st')):∀ j,j ∉ l → jJ st'.H j=jJ H j:=by
 rw [Km] at e
 split at e
 ·simp at e
 ·rename_i hg
  cases hs:stepV ty fn cl (none:V3) base o tm H Zh with
  | none=>rw [hs] at e; simp at e
  | some r =>
   obtain ⟨c',H',v⟩:=r
   rw [hs] at e
   simp only [Option.map_some,j5,jg] at e
   obtain ⟨rfl,rfl⟩:=e
   exact ji6 hs
 ·simp only [j5,jg] at e
  simp at e
theorem j9D {all:Array Oper} {base:Nat} {o:Oper} {tm:List C} {H:List HS} {st':St} {l:List Nat} {j:Nat} {x:HS} (hj:j ∉ l) (e:op1 ty fn cl all base o ⟨tm,H⟩=some (.wl l,st')):op1 ty fn cl all base o ⟨tm,kk H j x⟩=some (.wl l,⟨st'.tm,kk st'.H j x⟩):=by
 rw [Km] at e ⊢
 split at e
 ·simp at e
 ·rename_i hg
  cases hs:stepV ty fn cl (none:V3) base o tm H Zh with
  | none=>rw [hs] at e; simp at e
  | some r =>
   obtain ⟨c',H',v⟩:=r
   rw [hs] at e
   simp only [Option.map_some,j5,jg] at e
   obtain ⟨rfl,rfl⟩:=e
   rw [jd0 hj hs]
   rfl
 ·simp only [j5,jg] at e
  simp at e
theorem jdf {all:Array Oper} {base i:Nat} {o:Oper} {tm:List C} {H:List HS} {st':St} (e:op1 ty fn cl all base o ⟨tm,H⟩=some (.nb i,st')) :
  i=base ∧ jJ H base = .free ∧ ∃ ob,st'.H=kk H base (.live ob) ∧ ∀ H3,jJ H3 base = .free → op1 ty fn cl all base o ⟨tm,H3⟩=some (.nb i,⟨st'.tm,kk H3 base (.live ob)⟩):=by
 rw [Km] at e
 split at e
 ·simp at e
 ·rename_i hg
  cases hs:stepV ty fn cl (none:V3) base o tm H Zh with
  | none=>rw [hs] at e; simp at e
  | some r =>
   obtain ⟨c',H',v⟩:=r
   rw [hs] at e
   simp only [Option.map_some,j5,jg] at e
   obtain ⟨rfl,rfl⟩:=e
   obtain ⟨h0,h1,ob,h2,h3⟩:=ji9 hs
   refine ⟨h0,h1,ob,h2,fun H3 hf=>?_⟩
   rw [Km,hg]
   dsimp only
   rw [h3 H3 hf]
   rfl
 ·simp only [j5,jg] at e
  simp at e
theorem jcf {H:List HS} {b:Nat} {x:HS} (h:jJ H b=x):kk H b x=H:=by
 subst h
 simp only [kk,jJ]
 apply List.ext_getElem?
 intro i
 rw [List.getElem?_set]
 split
 ·rename_i hi
  subst hi
  split
  ·rename_i hl
   rw [List.getD_eq_getElem?_getD,List.getElem?_eq_getElem hl]
   rfl
  ·rename_i hl
   rw [List.getElem?_eq_none (by omega)]
 ·rfl
theorem jce {H:List HS} {b:Nat} {x y:HS}:kk (kk H b x) b y=kk H b y:=by
 simp only [kk,List.set_set]
theorem Xl {j:Nat} {l:List Nat} (h:(!(l.any (Nat.beq j)))=true):j ∉ l:=by
 intro hm
 rw [Bool.not_eq_true',List.any_eq_false] at h
 exact h j hm (Nat.beq_refl j)
theorem jis {all:Array Oper} {b1 b2:Nat} {x y:Oper} {st st1 st2:St} {c1 c2:Cls} (e1:op1 ty fn cl all b1 x st=some (c1,st1)) (e2:op1 ty fn cl all b2 y st1=some (c2,st2)) (hf:Cls.free c1 c2=true)
  (ha:Oper.apart all x y=true):∃ st3,op1 ty fn cl all b2 y st=some (c2,st3) ∧ op1 ty fn cl all b1 x st3=some (c1,st2):=by
 obtain ⟨a1,a2,a3⟩:=Oper.apart_spec ha
 have a2':∀ d,y.dst=some d → x.dst ≠ some d:=fun d h1 h2=>a2 d h2 h1
 obtain ⟨tm,H⟩:=st
 obtain ⟨tm1,H1⟩:=st1
 obtain ⟨⟨v,hv⟩,t1,r1⟩:=jgK e1
 simp only at hv t1 r1
 subst hv
 obtain ⟨⟨tm3,H3⟩,k1,k2⟩:=jhj a1 a2 e2
 subst k2
 obtain ⟨⟨u,hu⟩,t2,r2⟩:=jgK k1
 simp only at hu t2 r2 ⊢
 subst hu
 have fin:∀ HH,op1 ty fn cl all b2 y ⟨tm,H⟩=some (c2,⟨pf tm y.dst u,HH⟩) → op1 ty fn cl all b1 x ⟨tm,HH⟩=some (c1,⟨pf tm x.dst v,H3⟩) →
   ∃ st3,op1 ty fn cl all b2 y ⟨tm,H⟩=some (c2,st3) ∧ op1 ty fn cl all b1 x st3=some (c1,⟨pf (pf tm y.dst u) x.dst v,H3⟩):=by
  intro HH h1 h2
  refine ⟨_,h1,?_⟩
  have:=jgI (u:=u) a3 a2' h2
  rw [this,j6D a2']
 cases c1 with
 | t =>
  obtain ⟨rfl,t1'⟩:=t1 rfl
  exact fin H3 k1 (t1' H3)
 | r =>
  obtain rfl:=r1 rfl
  cases c2 with
  | t =>
   obtain ⟨rfl,t2⟩:=t2 rfl
   exact fin _ k1 e1
  | r =>
   obtain rfl:=r2 rfl
   exact fin _ k1 e1
  | rv j =>
   obtain ⟨rfl,_⟩:=j6F k1
   exact fin _ k1 e1
  | n =>
   obtain ⟨n1,ob,n2,n3⟩:=jgJ k1
   dsimp only at n2
   subst n2
   exact fin _ k1 (jk6 (hs:=.live ob) n1 e1)
  | w=>simp [Cls.free] at hf
  | wl l=>simp [Cls.free] at hf
  | nb l=>simp [Cls.free] at hf
  | st j=>simp [Cls.free] at hf
 | w =>
  cases c2 with
  | t =>
   obtain ⟨rfl,t2'⟩:=t2 rfl
   exact fin H (t2' H) e1
  | _=>simp [Cls.free] at hf
 | n =>
  obtain ⟨m1,ob1,m2,m3⟩:=jgJ e1
  dsimp only at m2
  subst m2
  cases c2 with
  | t =>
   obtain ⟨rfl,t2'⟩:=t2 rfl
   exact fin H (t2' H) e1
  | n =>
   obtain ⟨n1,ob2,n2,n3⟩:=jgJ k1
   dsimp only at n2
   subst n2
   have hne:b1 ≠ b2:=by
    intro h
    subst h
    rw [j3G m1] at n1
    simp at n1
   have f2:jJ H b2 = .free:=by rw [jM _ hne] at n1; exact n1
   have f1:jJ (kk H b2 (.live ob2)) b1 = .free:=by rw [jM _ (fun h=>hne h.symm)]; exact m1
   have:=m3 _ f1
   refine fin (kk H b2 (.live ob2)) (n3 H f2) ?_
   rw [this]
   simp only [kk]
   rw [List.set_comm _ _ hne]
  | _=>simp [Cls.free] at hf
 | rv i =>
  obtain ⟨h1,⟨ob,hob⟩,h3⟩:=j6F e1
  dsimp only at h1
  subst h1
  cases c2 with
  | t =>
   obtain ⟨rfl,_⟩:=t2 rfl
   exact fin _ k1 e1
  | r =>
   obtain rfl:=r2 rfl
   exact fin _ k1 e1
  | rv j =>
   obtain ⟨rfl,_⟩:=j6F k1
   exact fin _ k1 e1
  | n =>
   obtain ⟨n1,ob2,n2,n3⟩:=jgJ k1
   dsimp only at n2
   subst n2
   have hne:b2 ≠ i:=by
    intro h
    subst h
    rw [hob] at n1
    simp at n1
   exact fin _ k1 (h3 _ (jM _ hne))
  | st j =>
   obtain ⟨z,z1,z2⟩:=jfW k1
   dsimp only at z1
   subst z1
   have hne:j ≠ i:=by
    intro h
    subst h
    simp [Cls.free] at hf
   exact fin _ k1 (h3 _ (jM _ hne))
  | w=>simp [Cls.free] at hf
  | wl l=>exact fin _ k1 (h3 _ (jfV k1 i (Xl hf)))
  | nb j =>
   obtain ⟨rfl,n1,ob2,n2,n3⟩:=jdf k1
   dsimp only at n2
   subst n2
   have hne:j ≠ i:=by
    intro h
    subst h
    simp [Cls.free] at hf
   exact fin _ k1 (h3 _ (jM _ hne))
 | wl l =>
  have w1:=jfV e1
  dsimp only at w1
  cases c2 with
  | t =>
   obtain ⟨rfl,t2'⟩:=t2 rfl
   exact fin H (t2' H) e1
  | rv j =>
   obtain ⟨h1,_,h3⟩:=j6F k1
   dsimp only at h1
   subst h1
   exact fin H (h3 H (w1 j (Xl hf)).symm) e1
  | nb j =>
   obtain ⟨rfl,n1,ob2,n2,n3⟩:=jdf k1
   dsimp only at n2
   subst n2
   have hm:=Xl hf
   exact fin (kk H j (.live ob2)) (n3 H ((w1 j hm).symm.trans n1)) (j9D hm e1)
  | _=>simp [Cls.free] at hf
 | nb i =>
  obtain ⟨rfl,m1,ob1,m2,m3⟩:=jdf e1
  dsimp only at m2
  subst m2
  cases c2 with
  | t =>
   obtain ⟨rfl,t2'⟩:=t2 rfl
   exact fin H (t2' H) e1
  | rv j =>
   obtain ⟨h1,_,h3⟩:=j6F k1
   dsimp only at h1
   subst h1
   have hne:i ≠ j:=by
    intro h
    subst h
    simp [Cls.free] at hf
   exact fin H (h3 H (jM _ hne).symm) e1
  | nb j =>
   obtain ⟨rfl,n1,ob2,n2,n3⟩:=jdf k1
   dsimp only at n2
   subst n2
   have hne:i ≠ j:=by
    intro h
    subst h
    simp [Cls.free] at hf
   have f2:jJ H j = .free:=by rw [jM _ hne] at n1; exact n1
   have f1:jJ (kk H j (.live ob2)) i = .free:=by rw [jM _ (fun h=>hne h.symm)]; exact m1
   have:=m3 _ f1
   refine fin (kk H j (.live ob2)) (n3 H f2) ?_
   rw [this,VR hne]
  | wl l =>
   have hm:=Xl hf
   have hk:=j9D (x:=jJ H i) hm k1
   have hw:=jfV k1 i hm
   dsimp only at hk hw
   rw [jce,jcf rfl] at hk
   refine fin _ hk ?_
   have h3:jJ H3 i = .live ob1:=hw.trans (j3G m1)
   have hlt:i < H3.length:=by
    rcases jA i H3.length with h | h
    ·exact h
    ·simp only [jJ,List.getD_eq_getElem?_getD] at h3
     rw [List.getElem?_eq_none h] at h3
     simp at h3
   have f1:jJ (kk H3 i (jJ H i)) i = .free:=(ke _ hlt).trans m1
   rw [m3 _ f1,jce,jcf h3]
  | _=>simp [Cls.free] at hf
 | st i =>
  obtain ⟨z,z1,z2⟩:=jfW e1
  dsimp only at z1
  subst z1
  cases c2 with
  | t =>
   obtain ⟨rfl,t2'⟩:=t2 rfl
   exact fin H (t2' H) e1
  | rv j =>
   obtain ⟨h1,_,h3⟩:=j6F k1
   dsimp only at h1
   subst h1
   have hne:i ≠ j:=by
    intro h
    subst h
    simp [Cls.free] at hf
   exact fin H (h3 H (jM _ hne).symm) e1
  | st j =>
   obtain ⟨y0,y1,y2⟩:=jfW k1
   dsimp only at y1
   subst y1
   have hne:i ≠ j:=by
    intro h
    subst h
    simp [Cls.free] at hf
   refine fin (kk H j y0) (y2 H (jM _ hne).symm) ?_
   rw [z2 _ (jM _ (fun h=>hne h.symm))]
   simp only [kk]
   rw [List.set_comm _ _ hne]
  | _=>simp [Cls.free] at hf
end
section
variable {P:Program} {ty:Nat → Option TI} {fn:Nat → Option FI} {cl:Nat → Hint → List DC → Out} {A:An}
def QA (ty:Nat → Option TI) (fn:Nat → Option FI) (cl:Nat → Hint → List DC → Out) (ops:Array Oper) (ids:List Nat):List Nat → St → Option (List Cls × St)
 | [],st=>some ([],st)
 | i :: L,st =>
  match ops[i]? with
  | none=>none
  | some o =>
   match op1 ty fn cl ops (ids.getD i 0) o st with
   | none=>none
   | some (c,st1) =>
    match QA ty fn cl ops ids L st1 with
    | none=>none
    | some (cs,st2)=>some (c :: cs,st2)
theorem j9y {ρ:Type} {fail:ρ} {ops:Array Oper} {ids:List Nat} {K:List Cls → St → ρ}:∀ (m n:Nat) (acc:List Cls) (st:St),n + m=ops.size →
  runR ty fn cl fail ops (Xq (ops.toList.drop n) (ids.drop n)) acc st K=via fail (QA ty fn cl ops ids (List.range' n m) st) fun r=>K (acc.reverse ++ r.1) r.2
 | 0,n,acc,st,h=>by
  have:ops.toList.drop n=[]:=List.drop_of_length_le (by simp; omega)
  simp [this,Xq,runR,QA,via]
 | m + 1,n,acc,st,h=>by
  have hn:n < ops.size:=by omega
  have hd:ops.toList.drop n=ops[n] :: ops.toList.drop (n + 1):=by
   rw [List.drop_eq_getElem_cons (by simpa using hn)]
   simp
  have hh:(ids.drop n).headD 0=ids.getD n 0:=by
   rw [List.headD_eq_head?_getD,List.head?_drop,List.getD_eq_getElem?_getD]
  have hdd:(ids.drop n).drop 1=ids.drop (n + 1):=by rw [List.drop_drop]
  rw [hd,Xq,runR,jgH,List.range'_succ,QA,Array.getElem?_eq_getElem hn,hh,hdd]
  dsimp only
  cases h1:op1 ty fn cl ops (ids.getD n 0) ops[n] st with
  | none=>rfl
  | some r =>
   obtain ⟨c,st1⟩:=r
   simp only [via]
   rw [j9y m (n + 1) (c :: acc) st1 (by omega)]
   cases h2:QA ty fn cl ops ids (List.range' (n + 1) m) st1 with
   | none=>rfl
   | some r=>simp [via]
theorem jcj {ρ:Type} {fail:ρ} {ops:Array Oper} {ids:List Nat} {K:List Cls → St → ρ}:∀ (m n:Nat) (acc:List Cls) (st:St),n + m ≤ ops.size →
  runR ty fn cl fail ops ((Xq (ops.toList.drop n) (ids.drop n)).take m) acc st K=via fail (QA ty fn cl ops ids (List.range' n m) st) fun r=>K (acc.reverse ++ r.1) r.2
 | 0,n,acc,st,h=>by
  simp [runR,QA,via]
 | m + 1,n,acc,st,h=>by
  have hn:n < ops.size:=by omega
  have hd:ops.toList.drop n=ops[n] :: ops.toList.drop (n + 1):=by
   rw [List.drop_eq_getElem_cons (by simpa using hn)]
   simp
  have hh:(ids.drop n).headD 0=ids.getD n 0:=by
   rw [List.headD_eq_head?_getD,List.head?_drop,List.getD_eq_getElem?_getD]
  have hdd:(ids.drop n).drop 1=ids.drop (n + 1):=by rw [List.drop_drop]
  rw [hd,Xq,List.take_succ_cons,runR,jgH,List.range'_succ,QA,Array.getElem?_eq_getElem hn,hh,hdd]
  dsimp only
  cases h1:op1 ty fn cl ops (ids.getD n 0) ops[n] st with
  | none=>rfl
  | some r =>
   obtain ⟨c,st1⟩:=r
   simp only [via]
   rw [jcj m (n + 1) (c :: acc) st1 (by omega)]
   cases h2:QA ty fn cl ops ids (List.range' (n + 1) m) st1 with
   | none=>rfl
   | some r=>simp [via]
theorem Zi:∀ (l:List Oper) (ids:List Nat),(Xq l ids).length=l.length
 | [],_=>rfl
 | o :: l,ids=>by simp [Xq,Zi l]
theorem jbX:∀ (k:Nat) (l:List Oper) (ids:List Nat),(Xq l ids).drop k=Xq (l.drop k) (ids.drop k)
 | 0,_,_=>rfl
 | k + 1,[],ids=>by simp [Xq]
 | k + 1,o :: l,ids=>by
  rw [Xq,List.drop_succ_cons,jbX k,List.drop_succ_cons,List.drop_drop,Nat.add_comm 1 k]
theorem jck {ρ:Type} {fail:ρ} {ops:Array Oper} {ids:List Nat} {K:List Cls → St → ρ} {st:St} {x:ρ} (e:runR ty fn cl fail ops (Xq ops.toList ids) [] st K=x) :
  x=fail ∨ ∃ cs st',QA ty fn cl ops ids (List.range ops.size) st=some (cs,st') ∧ K cs st'=x:=by
 have:=j9y (ty:=ty) (fn:=fn) (cl:=cl) (fail:=fail) (ops:=ops) (ids:=ids) (K:=K) ops.size 0 [] st (by simp)
 rw [List.drop_zero,List.drop_zero] at this
 rw [this,← List.range_eq_range'] at e
 cases h:QA ty fn cl ops ids (List.range ops.size) st with
 | none=>rw [h] at e; exact .inl e.symm
 | some r =>
  rw [h] at e
  exact .inr ⟨r.1,r.2,rfl,by simpa [via] using e⟩
theorem jd9 (hty:K9 P ty) (hcall:Qj P ty fn cl A) {ops:Array Oper} {ids:List Nat} {Q:Exit → Act → World → Prop}:∀ {L:List Nat} {st st':St} {cs:List Cls} {g:Gh} {a:Act} {w:World},
  QA ty fn cl ops ids L st=some (cs,st') → Rel ty A g st a w → (∀ g' a' w',Rel ty A g' st' a' w' → Q .normal a' w') → wpOps P ops Q L a w
 | [],st,st',cs,g,a,w,e,h,hQ=>by
  simp only [QA,j5,jg] at e
  obtain ⟨_,rfl⟩:=e
  exact hQ g a w h
 | i :: L,st,st',cs,g,a,w,e,h,hQ=>by
  rw [wpOps_cons]
  rw [QA] at e
  split at e
  ·simp at e
  ·rename_i o ho
   split at e
   ·simp at e
   ·rename_i c st1 h1
    split at e
    ·simp at e
    ·rename_i cs2 st2 h2
     simp only [j5,jg] at e
     obtain ⟨_,rfl⟩:=e
     obtain ⟨tm,H⟩:=st
     exact jfX hty hcall ho h h1 fun g' a' w' hr=>jd9 hty hcall h2 hr hQ
theorem j58 (hty:K9 P ty) (hcall:Qj P ty fn cl A) {ops:Array Oper} {ids:List Nat} {Q:Exit → Act → World → Prop} {R:List Nat}:∀ {L:List Nat} {st st':St} {cs:List Cls} {g:Gh} {a:Act} {w:World},
  QA ty fn cl ops ids L st=some (cs,st') → Rel ty A g st a w → (∀ g' a' w',Rel ty A g' st' a' w' → wpOps P ops Q R a' w') → wpOps P ops Q (L ++ R) a w
 | [],st,st',cs,g,a,w,e,h,hQ=>by
  simp only [QA,j5,jg] at e
  obtain ⟨_,rfl⟩:=e
  exact hQ g a w h
 | i :: L,st,st',cs,g,a,w,e,h,hQ=>by
  rw [jN,wpOps_cons]
  rw [QA] at e
  split at e
  ·simp at e
  ·rename_i o ho
   split at e
   ·simp at e
   ·rename_i c st1 h1
    split at e
    ·simp at e
    ·rename_i cs2 st2 h2
     simp only [j5,jg] at e
     obtain ⟨_,rfl⟩:=e
     obtain ⟨tm,H⟩:=st
     exact jfX hty hcall ho h h1 fun g' a' w' hr=>j58 hty hcall h2 hr hQ
theorem jci {ops:Array Oper} {ids:List Nat} {i:Nat} {o:Oper} (ho:ops[i]? = some o) {cls:Nat → Cls}:∀ {R1 R2:List Nat} {st st':St},QA ty fn cl ops ids (R1 ++ i :: R2) st=some ((R1 ++ i :: R2).map cls,st') →
  (∀ k ∈ R1,Cls.free (cls k) (cls i)=true ∧ ∀ x,ops[k]? = some x → Oper.apart ops x o=true) →
  ∃ st1,op1 ty fn cl ops (ids.getD i 0) o st=some (cls i,st1) ∧ QA ty fn cl ops ids (R1 ++ R2) st1=some ((R1 ++ R2).map cls,st')
 | [],R2,st,st',e,_=>by
  rw [jy,QA,ho] at e
  dsimp only at e
  split at e
  ·simp at e
  ·rename_i c st1 h1
   split at e
   ·simp at e
   ·rename_i cs st2 h2
    simp only [jL,j5,jg,List.cons.injEq] at e
    obtain ⟨⟨rfl,rfl⟩,rfl⟩:=e
    exact ⟨st1,h1,h2⟩
 | k :: R1,R2,st,st',e,hk=>by
  rw [jN,QA] at e
  split at e
  ·simp at e
  ·rename_i x hx
   split at e
   ·simp at e
   ·rename_i c st1 h1
    split at e
    ·simp at e
    ·rename_i cs st2 h2
     simp only [jL,j5,jg,List.cons.injEq] at e
     obtain ⟨⟨rfl,rfl⟩,rfl⟩:=e
     obtain ⟨st3,k1,k2⟩:=jci ho h2 fun j hj=>hk j (by simp [hj])
     obtain ⟨q1,q2⟩:=hk k (by simp)
     obtain ⟨st4,p1,p2⟩:=jis h1 k1 q1 (q2 x hx)
     refine ⟨st4,p1,?_⟩
     rw [jN,QA,hx]
     dsimp only
     rw [p2]
     dsimp only
     rw [k2]
     rfl
def jgn (ops:Array Oper) (L:Nat → Prop):Prop:=∀ (j:Nat) (o:Oper),ops[j]? = some o → L j → ∀ e ∈ o.after,Region.binds .any e=true → L e.on
theorem jaZ (L:Nat → Prop) (acc:Array Nat) (hacc:∀ n,L n → ∀ k,(acc.getD n 0).testBit k=true → L k):∀ (l:List Edge) (s:Nat),(∀ e ∈ l,Region.binds .any e=true → L e.on) → (∀ k,s.testBit k=true → L k) →
  ∀ k,(l.foldl (fun s e=>if Region.binds .any e then s ||| 2 ^ e.on ||| acc.getD e.on 0 else s) s).testBit k=true → L k
 | [],s,_,hs=>hs
 | e :: l,s,he,hs=>by
  rw [List.foldl_cons]
  refine jaZ L acc hacc l _ (fun e' h=>he e' (by simp [h])) fun k hk=>?_
  split at hk
  ·rename_i hb
   rw [Nat.testBit_or,Nat.testBit_or,Bool.or_eq_true,Bool.or_eq_true] at hk
   have hL:=he e (by simp) hb
   rcases hk with (hk | hk) | hk
   ·exact hs k hk
   ·rw [Nat.testBit_two_pow] at hk
    simp only [decide_eq_true_eq] at hk
    rw [← hk]
    exact hL
   ·exact hacc e.on hL k hk
  ·exact hs k hk
theorem jcH {ops:Array Oper} {L:Nat → Prop} (hc:jgn ops L):∀ (l2 l1:List Oper) (acc:Array Nat),ops.toList=l1 ++ l2 → acc.size=l1.length →
  (∀ (j:Nat) (o:Oper),l1[j]? = some o → (∀ e ∈ o.after,Region.binds .any e=true → L e.on) → ∀ k,(acc.getD j 0).testBit k=true → L k) →
  ∀ (j:Nat) (o:Oper),ops[j]? = some o → (∀ e ∈ o.after,Region.binds .any e=true → L e.on) →
   ∀ k,((l2.foldl (fun acc o=>acc.push (o.after.foldl (fun s e=>if Region.binds .any e then s ||| 2 ^ e.on ||| acc.getD e.on 0 else s) 0)) acc).getD j 0).testBit k=true → L k
 | [],l1,acc,hl,hs,hinv=>by
  intro j o ho he k hk
  rw [jV] at hl
  exact hinv j o (by rw [← hl]; simpa using ho) he k hk
 | x :: l2,l1,acc,hl,hs,hinv=>by
  rw [List.foldl_cons]
  refine jcH hc l2 (l1 ++ [x]) _ (by simp [hl]) (by simp [hs]) fun j o ho he k hk=>?_
  have hacc:∀ n,L n → ∀ k,(acc.getD n 0).testBit k=true → L k:=by
   intro n hn k hk
   by_cases hlt:n < l1.length
   ·have h1:ops[n]? = some l1[n]:=by
     have h0:ops.toList[n]? = some l1[n]:=by rw [hl,List.getElem?_append_left hlt,List.getElem?_eq_getElem hlt]
     simpa using h0
    exact hinv n _ (List.getElem?_eq_getElem hlt) (hc n _ h1 hn) k hk
   ·rw [Array.getD_eq_getD_getElem?,Array.getElem?_eq_none (by omega)] at hk
    simp at hk
  by_cases hj:j < l1.length
  ·rw [List.getElem?_append_left hj] at ho
   refine hinv j o ho he k ?_
   rw [Array.getD_eq_getD_getElem?,Array.getElem?_push,if_neg (by omega)] at hk
   rw [Array.getD_eq_getD_getElem?]
   exact hk
  ·rw [List.getElem?_append_right (by omega)] at ho
   have hj':j=acc.size:=by
    rcases jA 0 (j - l1.length) with h' | h'
    ·rw [List.getElem?_eq_none (by simp; omega)] at ho; simp at ho
    ·omega
   have hx:x=o:=by
    rw [hj',hs,Nat.sub_self] at ho
    simpa using ho
   subst hx
   rw [Array.getD_eq_getD_getElem?,Array.getElem?_push,if_pos hj',Option.getD_some,← Array.foldl_toList] at hk
   exact jaZ L acc hacc x.after.toList 0 (fun e hm=>he e (by simpa using hm)) (fun k hk=>by simp at hk) k hk
theorem jhF {ops:Array Oper} {L:Nat → Prop} (hc:jgn ops L) {j:Nat} {o:Oper} (ho:ops[j]? = some o) (he:∀ e ∈ o.after,Region.binds .any e=true → L e.on) {k:Nat} (hk:((Region.before ops).getD j 0).testBit k=true):L k:=by
 unfold Region.before at hk
 rw [← Array.foldl_toList] at hk
 exact jcH hc ops.toList [] #[] (by simp) rfl (fun j o h=>by simp at h) j o ho he k hk
theorem jje (hty:K9 P ty) (hcall:Qj P ty fn cl A) {ops:Array Oper} {ids:List Nat} {Q:Exit → Act → World → Prop} {cls:Nat → Cls}
  (hb:∀ j x,ops[j]? = some x → ∀ e ∈ x.after,Region.binds .any e=true → e.on < j)
  (hd:∀ i j x y,i < j → ops[i]? = some x → ops[j]? = some y → ((Region.before ops).getD j 0).testBit i=true ∨ (Cls.free (cls i) (cls j)=true ∧ Oper.apart ops x y=true)) :
  ∀ (fuel:Nat) (listed:Array Bool) (R:List Nat) {st st':St} {g:Gh} {a:Act} {w:World},listed.size=ops.size → R=(List.range ops.size).filter (fun i=>!listed.getD i true) → R.length ≤ fuel →
  jgn ops (fun i=>listed.getD i false=true) → QA ty fn cl ops ids R st=some (R.map cls,st') → Rel ty A g st a w → (∀ g' a' w',Rel ty A g' st' a' w' → Q .normal a' w') → wpAny P .any ops Q fuel listed a w:=by
 have ready_mem:∀ (listed:Array Bool) i,i ∈ Region.ready .any ops listed → i < ops.size ∧ listed.getD i true=false ∧ ∃ o,ops[i]? = some o ∧ ∀ e ∈ o.after,Region.binds .any e=true → listed.getD e.on false=true:=by
  intro listed i hi
  simp only [Region.ready,List.mem_filter,List.mem_range,jj,Bool.not_eq_true'] at hi
  obtain ⟨h1,h2,h3⟩:=hi
  refine ⟨h1,h2,ops[i],Array.getElem?_eq_getElem h1,fun e he hb=>?_⟩
  rw [Array.getElem?_eq_getElem h1] at h3
  simp only [Option.map_some,Option.getD_some] at h3
  have:=Array.all_eq_true_iff_forall_mem.1 h3 e he
  simpa [hb] using this
 have setg:∀ (listed:Array Bool) (i k:Nat) (d:Bool),listed.size=ops.size → i < ops.size → (listed.setIfInBounds i true).getD k d=if i=k then true else listed.getD k d:=by
  intro listed i k d hs hi
  rw [Array.getD_eq_getD_getElem?,Array.getElem?_setIfInBounds,Array.getD_eq_getD_getElem?]
  split
  ·rw [if_pos (by omega)]; rfl
  ·rfl
 intro fuel
 induction fuel with
 | zero =>
  intro listed R st st' g a w hs hR hlen hc e h hQ
  have hR0:R=[]:=jY (by omega)
  rw [hR0] at e
  simp only [QA,List.map_nil,j5,jg] at e
  obtain ⟨_,rfl⟩:=e
  refine ⟨?_,hQ g a w h⟩
  cases hr:Region.ready .any ops listed with
  | nil=>rfl
  | cons i l =>
   obtain ⟨h1,h2,_⟩:=ready_mem listed i (by rw [hr]; simp)
   have:i ∈ R:=by
    rw [hR,List.mem_filter,List.mem_range]
    exact ⟨h1,by rw [h2]; rfl⟩
   rw [hR0] at this
   simp at this
 | succ fuel ih =>
  intro listed R st st' g a w hs hR hlen hc e h hQ
  refine ⟨fun hr=>?_,fun i hi=>?_⟩
  ·have hR0:R=[]:=by
    cases hRc:R with
    | nil=>rfl
    | cons i l =>
     exfalso
     have hmem:i ∈ R:=by rw [hRc]; simp
     rw [hR,List.mem_filter,List.mem_range] at hmem
     have hlt:=hmem.1
     have hmin:∀ k,k < i → listed.getD k true=true:=by
      intro k hk
      cases hg:listed.getD k true with
      | true=>rfl
      | false =>
       exfalso
       have hkR:k ∈ R:=by rw [hR,List.mem_filter,List.mem_range]; exact ⟨by omega,by rw [hg]; rfl⟩
       have hsort:R.Pairwise (· < ·):=by rw [hR]; exact List.Pairwise.filter _ List.pairwise_lt_range
       rw [hRc] at hkR hsort
       rcases List.mem_cons.1 hkR with rfl | hkl
       ·omega
       ·have:=(List.pairwise_cons.1 hsort).1 k hkl
        omega
     have:i ∈ Region.ready .any ops listed:=by
      simp only [Region.ready,List.mem_filter,List.mem_range,jj,Bool.not_eq_true']
      refine ⟨hlt,by have:=hmem.2; rw [Bool.not_eq_true'] at this; exact this,?_⟩
      rw [Array.getElem?_eq_getElem hlt]
      simp only [Option.map_some,Option.getD_some]
      rw [Array.all_eq_true_iff_forall_mem]
      intro ed hed
      cases hbd:Region.binds .any ed with
      | false=>rfl
      | true =>
       have hon:=hb i _ (Array.getElem?_eq_getElem hlt) ed hed hbd
       have:=hmin ed.on hon
       rw [Array.getD_eq_getD_getElem?,Array.getElem?_eq_getElem (by omega)] at this ⊢
       simpa using this
     rw [hr] at this
     simp at this
   rw [hR0] at e
   simp only [QA,List.map_nil,j5,jg] at e
   obtain ⟨_,rfl⟩:=e
   exact hQ g a w h
  ·obtain ⟨h1,h2,o,ho,hpre⟩:=ready_mem listed i hi
   have hsplit:List.range ops.size=List.range i ++ i :: List.range' (i + 1) (ops.size - i - 1):=by
    have h3:ops.size=i + (ops.size - i):=by omega
    have h4:ops.size - i=(ops.size - i - 1) + 1:=by omega
    conv=>lhs; rw [h3,List.range_add]
    congr 1
    rw [h4,Nat.add_sub_cancel,List.range_succ_eq_map,jL,Nat.add_zero,List.map_map,List.range'_eq_map_range]
    congr 1
    refine List.map_congr_left fun k _=>?_
    simp only [Function.comp,Nat.succ_eq_add_one]
    omega
   have hRs:R=(List.range i).filter (fun k=>!listed.getD k true) ++ i :: (List.range' (i + 1) (ops.size - i - 1)).filter (fun k=>!listed.getD k true):=by
    rw [hR,hsplit,List.filter_append,List.filter_cons,if_pos (by simp [h2])]
   rw [hRs] at e
   obtain ⟨st1,k1,k2⟩:=jci ho e (fun k hk=>by
    simp only [List.mem_filter,List.mem_range,Bool.not_eq_true'] at hk
    obtain ⟨hki,hkl⟩:=hk
    have hx:ops[k]? = some ops[k]:=Array.getElem?_eq_getElem (by omega)
    rcases hd k i _ _ hki hx ho with hbit | hok
    ·exfalso
     have:=jhF hc ho hpre hbit
     rw [Array.getD_eq_getD_getElem?,Array.getElem?_eq_getElem (by omega)] at this hkl
     simp at this hkl
     rw [this] at hkl
     simp at hkl
    ·refine ⟨hok.1,fun x hx'=>?_⟩
     rw [hx] at hx'
     simp only [j5] at hx'
     rw [← hx']
     exact hok.2)
   obtain ⟨tm,H⟩:=st
   refine jfX hty hcall ho h k1 fun g' a' w' hr=>?_
   refine ih (listed.setIfInBounds i true) _ (by simpa using hs) ?_ ?_ ?_ k2 hr hQ
   ·rw [hsplit,List.filter_append,List.filter_cons,if_neg (by rw [setg _ _ _ _ hs h1]; simp)]
    congr 1
    ·refine List.filter_congr fun k hk=>?_
     rw [List.mem_range] at hk
     rw [setg _ _ _ _ hs h1,if_neg (by omega)]
    ·refine List.filter_congr fun k hk=>?_
     rw [List.mem_range'_1] at hk
     rw [setg _ _ _ _ hs h1,if_neg (by omega)]
   ·have:=congrArg List.length hRs
    simp only [j3,j4] at this ⊢
    omega
   ·intro j x hx hj ed hed hbd
    rw [setg _ _ _ _ hs h1] at hj ⊢
    split
    ·rfl
    ·split at hj
     ·rename_i hij
      subst hij
      rw [ho] at hx
      simp only [j5] at hx
      subst hx
      exact hpre ed hed hbd
     ·exact hc j x hx hj ed hed hbd
theorem j7K {ops:Array Oper} {ids:List Nat}:∀ {L:List Nat} {st st':St} {cs:List Cls},QA ty fn cl ops ids L st=some (cs,st') → cs.length=L.length
 | [],st,st',cs,e=>by
  simp only [QA,j5,jg] at e
  rw [← e.1]
  rfl
 | i :: L,st,st',cs,e=>by
  rw [QA] at e
  split at e
  ·simp at e
  ·split at e
   ·simp at e
   ·split at e
    ·simp at e
    ·rename_i h2
     simp only [j5,jg] at e
     rw [← e.1,j4,j4,j7K h2]
theorem jcn (hty:K9 P ty) (hcall:Qj P ty fn cl A) (hm:P.follows .mixedOrders=true) {id:Nat} {ops:Array Oper} {draw:Bool} {ids:List Nat} {Q:Exit → Act → World → Prop} {st:St} {g:Gh} {a:Act} {w:World} (h:Rel ty A g st a w)
  {cs:List Cls} {st':St} (e:QA ty fn cl ops ids (List.range ops.size) st=some (cs,st')) (hd:(draw && !(Z1 ops cs))=false) (hQ:∀ g' a' w',Rel ty A g' st' a' w' → Q .normal a' w'):(Code.region id ops draw).wp P Q a w:=by
 cases draw with
 | false=>exact wp_region (jd9 hty hcall e h hQ)
 | true =>
  simp only [jC,Bool.not_eq_false'] at hd
  have hlen:cs.length=ops.size:=by rw [j7K e,List.length_range]
  have hcs:cs=(List.range ops.size).map fun i=>cs.getD i .w:=by
   apply List.ext_getElem?
   intro i
   rw [List.getElem?_map]
   by_cases hi:i < ops.size
   ·rw [List.getElem?_range hi]
    simp [List.getD_eq_getElem?_getD,List.getElem?_eq_getElem (show i < cs.length by omega)]
   ·rw [List.getElem?_eq_none (by omega),List.getElem?_eq_none (by simp; omega)]
    rfl
  have hfilt:(List.range ops.size).filter (fun i=>!(Array.replicate ops.size false).getD i true)=List.range ops.size:=by
   rw [List.filter_eq_self]
   intro i hi
   rw [List.mem_range] at hi
   simp [Array.getD_eq_getD_getElem?,hi]
  unfold Z1 at hd
  simp only [List.all_eq_true,List.mem_range,jj,hlen] at hd
  have hrel:Rel ty A g st a { w with drawn:=w.drawn + 1 }:=by
   have hch:Ch g g st.H st.H w { w with drawn:=w.drawn + 1 }:=⟨fun _ h=>h,fun _ _=>rfl,fun _ h=>h,fun _ _ h=>⟨h,rfl⟩,fun _ _ h=>⟨h,rfl⟩⟩
   obtain ⟨tm,H⟩:=st
   exact h.ch hch (fun i o ho=>OR.mono hch rfl rfl (fun b hb=>⟨rfl,X1 h ho hb⟩) (h.ob i o ho)) h.sep h.lt h.inI h.ow h.pb (h.keep.trans rfl rfl rfl (Nat.le_refl _) fun _ _ _ _=>rfl)
  refine wp_region_any hm (jje (ids:=ids) (cls:=fun i=>cs.getD i .w) hty hcall (fun j x hx ed hed hbd=>?_) (fun i j x y hij hx hy=>?_) ops.size _ (List.range ops.size) (by simp) hfilt.symm (by simp) ?_ (by rw [← hcs]; exact e) hrel hQ)
  ·have hj:j < ops.size:=by
    rcases jA j ops.size with h' | h'
    ·exact h'
    ·simp [Array.getElem?_eq_none h'] at hx
   have:=(hd j hj).1 ed (by
    rw [Array.getD_eq_getD_getElem?,hx]
    simpa using hed)
   rw [hbd] at this
   simpa [Nat.blt_eq] using this
  ·have hj:j < ops.size:=by
    rcases jA j ops.size with h' | h'
    ·exact h'
    ·simp [Array.getElem?_eq_none h'] at hy
   have:=(hd j hj).2 i hij
   rw [Bool.or_eq_true,jj,Array.getD_eq_getD_getElem? (xs:=ops),hx,Array.getD_eq_getD_getElem? (xs:=ops),hy] at this
   exact this
  ·intro j o ho hL
   rw [Array.getD_eq_getD_getElem?] at hL
   have hj:j < ops.size:=by
    rcases jA j ops.size with h' | h'
    ·exact h'
    ·simp [Array.getElem?_eq_none h'] at ho
   simp [hj] at hL
end
section
variable {P:Program} {ty:Nat → Option TI} {fn:Nat → Option FI} {cl:Nat → Hint → List DC → Out} {A:An}
def EQ (ty:Nat → Option TI) (A:An) (rt:St → Out) (Γ:Nat → Option Hint) (o:Out) (K:St → Out):Exit → Act → World → Prop
 | .normal,a,w=>∃ g st,Rel ty A g st a w ∧ K st=o
 | .exit id,a,w=>∃ g h v,Γ id=some h ∧ o = .ex id v ∧ Rel ty A g (X2 h v) a w
 | .ret,a,w=>∃ g st,Rel ty A g st a w ∧ rt st=o
 | _,_,_=>False
theorem Xt {mm:Nat} {h:Hint} {st:St} {o:Out} (e:yk ty mm h st=o) (ho:o ≠ .fail):∃ v,o = .norm v ∧ j5f ty mm h st=some v:=by
 unfold yk at e
 split at e
 ·rename_i v hv
  exact ⟨v,e.symm,hv⟩
 ·exact absurd e.symm ho
theorem jij (hty:K9 P ty) (hcall:Qj P ty fn cl A) {mm:Nat} (hA:A.m=mm) {ops:Array Oper} {ids:List Nat} {K:St → Out} {o:Out} {Q:Exit → Act → World → Prop} (ho:o ≠ .fail)
  (hQ:∀ g st a w,Rel ty A g st a w → K st=o → Q .normal a w):∀ (segs:List (Nat × Hint)) (n m:Nat) (st:St) (g:Gh) (a:Act) (w:World),n + m=ops.size → Rel ty A g st a w →
  segR ty fn cl mm ops segs (Xq (ops.toList.drop n) (ids.drop n)) st K=o → wpOps P ops Q (List.range' n m) a w
 | [],n,m,st,g,a,w,hs,h,e=>by
  rw [segR,j9y m n [] st hs] at e
  cases hr:QA ty fn cl ops ids (List.range' n m) st with
  | none=>rw [hr] at e; exact absurd e.symm ho
  | some r =>
   rw [hr] at e
   exact jd9 hty hcall hr h fun g' a' w' hrel=>hQ g' _ a' w' hrel e
 | (k,hn) :: segs,n,m,st,g,a,w,hs,h,e=>by
  rw [segR] at e
  have hk:(Xq (ops.toList.drop n) (ids.drop n)).take k=(Xq (ops.toList.drop n) (ids.drop n)).take (min k m):=by
   rw [show min k m=min k (Xq (ops.toList.drop n) (ids.drop n)).length by rw [Zi,List.length_drop,Array.length_toList]; omega]
   exact List.take_eq_take_min
  have hd:(Xq (ops.toList.drop n) (ids.drop n)).drop k=(Xq (ops.toList.drop n) (ids.drop n)).drop (min k m):=by
   rcases Nat.le_total k m with hle | hle
   ·rw [Nat.min_eq_left hle]
   ·rw [Nat.min_eq_right hle,List.drop_of_length_le (by rw [Zi,List.length_drop,Array.length_toList]; omega),List.drop_of_length_le (by rw [Zi,List.length_drop,Array.length_toList]; omega)]
  rw [hk,hd,jbX,List.drop_drop,List.drop_drop,jcj (min k m) n [] st (by omega)] at e
  cases hr:QA ty fn cl ops ids (List.range' n (min k m)) st with
  | none=>rw [hr] at e; exact absurd e.symm ho
  | some r =>
   rw [hr] at e
   simp only [via] at e
   have hsplit:List.range' n m=List.range' n (min k m) ++ List.range' (n + min k m) (m - min k m):=by
    have:=List.range'_append_1 (s:=n) (m:=min k m) (n:=m - min k m)
    rw [this]
    congr 1
    omega
   rw [hsplit]
   have hne:yk ty mm hn r.2 ≠ .fail:=by
    intro hf
    rw [hf] at e
    exact ho e.symm
   obtain ⟨v,h1,h2⟩:=Xt rfl hne
   rw [h1] at e
   refine j58 hty hcall hr h fun g' a' w' hrel=>?_
   obtain ⟨g2,hr2⟩:=j1l hrel hA h2
   exact jij hty hcall hA ho hQ segs _ _ _ g2 a' w' (by omega) hr2 e
theorem Yu (hty:K9 P ty) (hcall:Qj P ty fn cl A) (hm:P.follows .mixedOrders=true) {mm lf:Nat} (hA:A.m=mm) {rt:St → Out} (hrt:∀ st v,rt st ≠ .norm v) (hrx:∀ st id v,rt st ≠ .ex id v) :
  ∀ (c:AC) (Γ:Nat → Option Hint) (st:St) (K:St → Out) (o:Out) (g:Gh) (a:Act) (w:World),Rel ty A g st a w → exec ty fn cl mm lf rt c Γ st K=o → o ≠ .fail → c.code.wp P (EQ ty A rt Γ o K) a w
 | .skip,Γ,st,K,o,g,a,w,h,e,ho=>wp_skip ⟨g,st,h,e⟩
 | .region id ops draw ids none,Γ,st,K,o,g,a,w,h,e,ho=>by
  rw [exec] at e
  rcases jck e with he | ⟨cs,st',h1,h2⟩
  ·exact absurd he ho
  ·cases hd:draw && !(Z1 ops cs) with
   | true=>rw [hd] at h2; exact absurd h2.symm ho
   | false =>
    rw [hd] at h2
    exact jcn hty hcall hm h h1 hd fun g' a' w' hr=>⟨g',st',hr,h2⟩
 | .region id ops draw ids (some hn),Γ,st,K,o,g,a,w,h,e,ho=>by
  rw [exec] at e
  generalize hx:(runR ty fn cl Out.fail ops (Xq ops.toList ids) [] st fun cs st'=>match draw && !(Z1 ops cs) with
   | true=>.fail
   | false=>yk ty mm hn st')=x at e
  rcases jck hx with he | ⟨cs,st',h1,h2⟩
  ·rw [he] at e; exact absurd e.symm ho
  ·cases hd:draw && !(Z1 ops cs) with
   | true=>rw [hd] at h2; dsimp only at h2; rw [← h2] at e; exact absurd e.symm ho
   | false =>
    rw [hd] at h2
    dsimp only at h2
    have hxf:x ≠ .fail:=by rintro rfl; exact ho e.symm
    obtain ⟨v,rfl,hv⟩:=Xt h2 hxf
    exact jcn hty hcall hm h h1 hd fun g' a' w' hr=>by
     obtain ⟨g2,hr2⟩:=j1l hr hA hv
     exact ⟨g2,X2 hn v,hr2,e⟩
 | .rcut id ops ids segs,Γ,st,K,o,g,a,w,h,e,ho=>by
  rw [exec] at e
  refine wp_region ?_
  rw [List.range_eq_range']
  exact jij (ids:=ids) hty hcall hA ho (fun g st a w hr hk=>⟨g,st,hr,hk⟩) segs 0 ops.size st g a w (by simp) h (by simpa using e)
 | .seq x y,Γ,st,K,o,g,a,w,h,e,ho=>by
  rw [exec] at e
  refine wp_seq (wp_mono (Yu hty hcall hm hA hrt hrx x Γ st _ o g a w h e ho) fun ex a' w' hq=>?_)
  cases ex with
  | normal =>
   obtain ⟨g',st',hr,hk⟩:=hq
   exact Yu hty hcall hm hA hrt hrx y Γ st' K o g' a' w' hr hk ho
  | exit id=>exact hq
  | ret=>exact hq
  | goto l=>exact hq.elim
  | panic c=>exact hq.elim
  | outgrown=>exact hq.elim
 | .cond c x y none,Γ,st,K,o,g,a,w,h,e,ho=>by
  rw [exec] at e
  obtain ⟨tm,H⟩:=st
  split at e
  ·rename_i b hb
   have hc:=h.opd c
   dsimp only at hb
   rw [hb] at hc
   refine wp_cond (t:=b) (show a.eval c = .bool b from hc) ?_
   cases b with
   | true=>exact Yu hty hcall hm hA hrt hrx x Γ _ K o g a w h (by simpa using e) ho
   | false=>exact Yu hty hcall hm hA hrt hrx y Γ _ K o g a w h (by simpa using e) ho
  ·exact absurd e.symm ho
 | .cond c x y (some hn),Γ,st,K,o,g,a,w,h,e,ho=>by
  rw [exec] at e
  obtain ⟨tm,H⟩:=st
  split at e
  ·rename_i b hb
   have hc:=h.opd c
   dsimp only at hb
   rw [hb] at hc
   refine wp_cond (t:=b) (show a.eval c = .bool b from hc) ?_
   have fin:∀ (z:AC) (i:Out),exec ty fn cl mm lf rt z Γ ⟨tm,H⟩ (yk ty mm hn)=i → i.andThen (fun v=>K (X2 hn v))=o → (∀ (o':Out),exec ty fn cl mm lf rt z Γ ⟨tm,H⟩ (yk ty mm hn)=o' → o' ≠ .fail → z.code.wp P (EQ ty A rt Γ o' (yk ty mm hn)) a w) →
     z.code.wp P (EQ ty A rt Γ o K) a w:=by
    intro z i hi hio ih
    have hif:i ≠ .fail:=by rintro rfl; exact ho hio.symm
    refine wp_mono (ih i hi hif) fun ex a' w' hq=>?_
    cases ex with
    | normal =>
     obtain ⟨g',st',hr,hk⟩:=hq
     obtain ⟨v,rfl,hv⟩:=Xt hk hif
     obtain ⟨g2,hr2⟩:=j1l hr hA hv
     exact ⟨g2,X2 hn v,hr2,hio⟩
    | exit id =>
     obtain ⟨g',h',v,k1,rfl,k3⟩:=hq
     exact ⟨g',h',v,k1,hio.symm,k3⟩
    | ret =>
     obtain ⟨g',st',hr,rfl⟩:=hq
     refine ⟨g',st',hr,?_⟩
     rw [← hio]
     cases hrs:rt st' with
     | norm v=>exact absurd hrs (hrt st' v)
     | ex id v=>rfl
     | ret v=>rfl
     | fail=>rfl
    | goto l=>exact hq.elim
    | panic c=>exact hq.elim
    | outgrown=>exact hq.elim
   cases b with
   | true=>exact fin x _ rfl (by simpa using e) fun o' h1 h2=>Yu hty hcall hm hA hrt hrx x Γ _ _ o' g a w h h1 h2
   | false=>exact fin y _ rfl (by simpa using e) fun o' h1 h2=>Yu hty hcall hm hA hrt hrx y Γ _ _ o' g a w h h1 h2
  ·exact absurd e.symm ho
 | .block id body hn,Γ,st,K,o,g,a,w,h,e,ho=>by
  rw [exec] at e
  generalize hi:exec ty fn cl mm lf rt body (fun j=>if j=id then some hn else Γ j) st (yk ty mm hn)=i at e
  have hif:i ≠ .fail:=by rintro rfl; exact ho e.symm
  refine wp_block (wp_mono (Yu hty hcall hm hA hrt hrx body _ st _ i g a w h hi hif) fun ex a' w' hq=>?_)
  cases ex with
  | normal =>
   obtain ⟨g',st',hr,hk⟩:=hq
   obtain ⟨v,rfl,hv⟩:=Xt hk hif
   obtain ⟨g2,hr2⟩:=j1l hr hA hv
   exact ⟨g2,X2 hn v,hr2,e⟩
  | exit j =>
   obtain ⟨g',h',v,k1,rfl,k3⟩:=hq
   simp only [Exit.inBlock]
   simp only [ja] at e
   dsimp only at k1
   by_cases hj:j=id
   ·rw [if_pos hj] at k1 e ⊢
    simp only [j5] at k1
    subst k1
    exact ⟨g',X2 hn v,k3,e⟩
   ·rw [if_neg hj] at k1 e ⊢
    exact ⟨g',h',v,k1,e.symm,k3⟩
  | ret =>
   obtain ⟨g',st',hr,rfl⟩:=hq
   refine ⟨g',st',hr,?_⟩
   rw [← e]
   cases hrs:rt st' with
   | norm v=>exact absurd hrs (hrt st' v)
   | ex id v=>exact absurd hrs (hrx st' id v)
   | ret v=>rfl
   | fail=>rfl
  | goto l=>exact hq.elim
  | panic c=>exact hq.elim
  | outgrown=>exact hq.elim
 | .loop body hn,Γ,st,K,o,g,a,w,h,e,ho=>by
  rw [exec] at e
  split at e
  ·rename_i v0 hv0
   obtain ⟨g0,hr0⟩:=j1l h hA hv0
   refine wp_loop_ghost (fun n a w=>∃ v g,Rel ty A g (X2 hn v) a w ∧ qY (fun v=>exec ty fn cl mm lf rt body Γ (X2 hn v) (yk ty mm hn)) n v=o) lf ⟨v0,g0,hr0,e⟩ fun n a w hI=>?_
   obtain ⟨v,g,hr,hl⟩:=hI
   cases n with
   | zero=>exact absurd hl.symm ho
   | succ n =>
    rw [qY] at hl
    generalize hi:exec ty fn cl mm lf rt body Γ (X2 hn v) (yk ty mm hn)=i at hl
    have hif:i ≠ .fail:=by rintro rfl; exact ho hl.symm
    refine wp_mono (Yu hty hcall hm hA hrt hrx body Γ _ _ i g a w hr hi hif) fun ex a' w' hq=>?_
    cases ex with
    | normal =>
     obtain ⟨g',st',hr,hk⟩:=hq
     obtain ⟨v',rfl,hv⟩:=Xt hk hif
     obtain ⟨g2,hr2⟩:=j1l hr hA hv
     exact ⟨n,Nat.lt_succ_self n,v',g2,hr2,hl⟩
    | exit id =>
     obtain ⟨g',h',v',k1,rfl,k3⟩:=hq
     exact ⟨g',h',v',k1,hl.symm,k3⟩
    | ret =>
     obtain ⟨g',st',hr,rfl⟩:=hq
     refine ⟨g',st',hr,?_⟩
     rw [← hl]
     cases hrs:rt st' with
     | norm v=>exact absurd hrs (hrt st' v)
     | ex id v=>rfl
     | ret v=>rfl
     | fail=>rfl
    | goto l=>exact hq.elim
    | panic c=>exact hq.elim
    | outgrown=>exact hq.elim
  ·exact absurd e.symm ho
 | .exit id,Γ,st,K,o,g,a,w,h,e,ho=>by
  rw [exec] at e
  split at e
  ·rename_i hn hg
   split at e
   ·rename_i v hv
    obtain ⟨g2,hr2⟩:=j1l h hA hv
    exact wp_exit ⟨g2,hn,v,hg,e.symm,hr2⟩
   ·exact absurd e.symm ho
  ·exact absurd e.symm ho
 | .ret,Γ,st,K,o,g,a,w,h,e,ho=>by
  rw [exec] at e
  exact wp_ret ⟨g,st,h,e⟩
end
section
variable {P:Program} {ty:Nat → Option TI} {fn:Nat → Option FI} {cl:Nat → Hint → List DC → Out} {A:An}
def RVs:List (Bool × List RK) → List Value → List Value → Prop
 | [],[],us=>us=[]
 | (a,ks) :: rs,v :: vs,us=>∃ u1 u2,us=u1 ++ u2 ∧ u1.length=ks.length ∧ (a=true → v = .agg u1.toArray) ∧ (a=false → u1=[v]) ∧ RVs rs vs u2
 | _,_,_=>False
def OV (w:World) (b:Nat → Nat):Nat → List KO → List Value → Prop
 | _,[],us=>us=[]
 | j,.var t l :: ks,us=>∃ u1 u2,us=u1 ++ u2 ∧ u1.length=l.length ∧ w.heap[b j]? = some (.cells u1.toArray t (0,0)) ∧ (∀ u ∈ u1,u.oneCell'=true) ∧ OV w b (j + 1) ks u2
 | _,.u :: _,_=>False
structure Res (ty:Nat → Option TI) (A:An) (kos:List KO) (rk:List (Bool × List RK)) (r:List DC) (vs:List Value) (w':World):Prop where
 ex:∃ (g1:Gh) (H0 H1:List HS) (us1 us2:List Value),RVs rk vs us1 ∧ OV w' A.pb 0 kos us2 ∧ FL ty A g1 H0 H1 w' r 0 (KY 0 rk ++ kos.flatMap KO.kinds) (us1 ++ us2) ∧ j34 (KY 0 rk ++ kos.flatMap KO.kinds) (us1 ++ us2) ∧
  (∀ b,g1.I b → b < w'.heap.size ∧ (A.I0 b ∨ A.w0.heap.size ≤ b ∨ A.Pm b)) ∧ (∀ j,j < A.m → ¬ g1.I (A.pb j)) ∧ ∀ j,j < A.m → ∃ o,jJ H1 j = .live o ∧ kX g1 j o=some (A.pb j)
 keep:Keep A w'
def Kd (vs:List Value):Value :=
 match vs with
 | [v]=>v
 | vs=>.tuple vs.toArray
structure Glob where
 gb:Nat → Prop
 ok:World → Prop
 dep:∀ w w':World,(∀ b,gb b → w'.heap[b]? = w.heap[b]?) → ok w → ok w'
def Glob.none:Glob:=⟨fun _=>False,fun _=>True,fun _ _ _ _=>trivial⟩
def AOk (G:Glob) (A:An):Prop:=G.ok A.w0 ∧ ∀ b,G.gb b → b < A.w0.heap.size ∧ ¬ A.Pv b ∧ ¬ A.Pm b
def jdT (P:Program) (G:Glob) (ty:Nat → Option TI) (f:Nat) (fi:FI) (h:Hint) (v r:List DC):Prop :=
 ∀ (A:An) (g:Gh) (vals:Array Value) (w:World),AOk G A → Rel ty A g (JU fi h v) { tmps:=vals ++ Array.replicate (fi.ntmps - vals.size) undef,defers:=[] } w → vals.size=h.tm.length → A.w0=w → A.m=(KO.vars h.ob).length →
  Calls P f vals w fun
   | .returned rv,w'=>∃ vs,rv=Kd vs ∧ Res ty A (KO.vars h.ob) fi.rk r vs w'
   | _,_=>False
def jb8 (P:Program) (G:Glob) (ty:Nat → Option TI) (fn:Nat → Option FI) (cl:Nat → Hint → List DC → Out):Prop :=
 ∀ f fi h v r,fn f=some fi → cl f h v = .ret r → jdT P G ty f fi h v r
structure FnOk (P:Program) (G:Glob) (ty:Nat → Option TI) (f:Nat) (fi:FI):Prop where
 ex:∃ fd,P.funcs[f]? = some fd ∧ (fd.name == "runtime.NumGoroutine")=false ∧ fd.body.isNone=false ∧ (fi.prim=none → fi.via=none → (∀ h,fd.body=some (fi.body h).code) ∧ fd.ntmps=fi.ntmps ∧ fd.results.toList=fi.res)
 prim:∀ p,fi.prim=some p → ∀ h v r,p h v=some r → jdT P G ty f fi h v r
 via:∀ x,fi.via=some x → ∀ fn cl,jb8 P G ty fn cl → ∀ h v r,viaF fn cl x h v = .ret r → jdT P G ty f fi h v r
def jfS (tmps:Array Value):ResultVar → Sem Value
 | .tmp t=>pure (tmps.getD t undef)
 | .cell a t=>do loadVar t (← asAddr (tmps.getD a undef))
theorem jep {fd:Func} {tmps:Array Value} {w:World} {vs:List Value} (h:(fd.results.toList.mapM (jfS tmps)).run P w = .ok vs w):(results fd tmps).run P w = .ok (Kd vs) w:=by
 unfold results
 rw [Sem.run_bind,Array.mapM_eq_mapM_toList]
 simp only [Sem.run_map]
 have hf:(fun x=>match x with
  | ResultVar.tmp t=>pure (tmps.getD t undef)
  | ResultVar.cell a t=>do loadVar t (← asAddr (tmps.getD a undef)):ResultVar → Sem Value)=jfS tmps:=by
  funext x
  cases x <;> rfl
 have h':∀ f:ResultVar → Sem Value,f=jfS tmps → (fd.results.toList.mapM f).run P w = .ok vs w:=fun f hf=>by rw [hf]; exact h
 rw [h' _ (by funext x; cases x <;> rfl)]
 simp only [Result.andThen_ok,Sem.run_pure]
 match vs with
 | []=>rfl
 | [v]=>rfl
 | _ :: _ :: _=>rfl
theorem j3b (hty:K9 P ty) {g:Gh} {st:St} {a:Act} {w:World} (h:Rel ty A g st a w):∀ {rs:List ResultVar} {rk:List (Bool × List RK)} {p:List S},ZT ty st rs rk=some p →
  ∃ vs us:List Value,(rs.mapM (jfS a.tmps)).run P w = .ok vs w ∧ zo ty g st.H w p us ∧ RVs rk vs us
 | [],[],p,e=>by
  simp only [ZT,j5] at e
  subst e
  exact ⟨[],[],rfl,trivial,rfl⟩
 | .tmp t :: rs,(ag,ks) :: rk,p,e=>by
  obtain ⟨tm,H⟩:=st
  unfold ZT at e
  have hr:=h.getD t
  split at e
  ·rename_i s l hs hl
   split at e
   ·rename_i hk
    simp only [j5] at e
    subst e
    obtain ⟨vs,us,h1,h2,h3⟩:=j3b hty h hl
    dsimp only at hs
    rw [hs] at hr
    refine ⟨a.tmps.getD t undef :: vs,a.tmps.getD t undef :: us,?_,⟨hr,h2⟩,[a.tmps.getD t undef],us,rfl,by simp [hk],fun h=>by simp at h,fun _=>rfl,h3⟩
    rw [List.mapM_cons,Sem.run_bind,jfS,Sem.run_pure,Result.andThen_ok,Sem.run_bind,h1]
    rfl
   ·simp at e
  ·rename_i ss l hs hl
   split at e
   ·rename_i hk
    simp only [j5] at e
    subst e
    obtain ⟨vs,us,h1,h2,h3⟩:=j3b hty h hl
    dsimp only at hs
    rw [hs] at hr
    obtain ⟨xs,hx,hxs⟩:=hr
    refine ⟨a.tmps.getD t undef :: vs,xs ++ us,?_,hxs.append h2,xs,us,rfl,by rw [hxs.length,hk],fun _=>hx,fun h=>by simp at h,h3⟩
    rw [List.mapM_cons,Sem.run_bind,jfS,Sem.run_pure,Result.andThen_ok,Sem.run_bind,h1]
    rfl
   ·simp at e
  ·simp at e
 | .cell pt t :: rs,(ag,ks) :: rk,p,e=>by
  obtain ⟨tm,H⟩:=st
  unfold ZT at e
  have hr:=h.getD pt
  split at e
  ·rename_i id ti l hs ht hl
   split at e
   ·rename_i t' cs hv
    split at e
    ·rename_i hc
     simp only [j5] at e
     subst e
     obtain ⟨vs,us,h1,h2,h3⟩:=j3b hty h hl
     dsimp only at hs hv
     rw [hs] at hr
     have hp:a.tmps.getD pt undef = .pointer (some ⟨g.blk id,0,none⟩):=hr.2.2 ⟨_,_,hv⟩
     obtain ⟨xs,k1,k2,k3,k4⟩:=h.ob id _ hv
     have hxl:=k2.length
     have htk:=hty t ti ht
     have hload:=j7J htk w (g.blk id) 0 xs (by omega) (fun j u hu=>by
      rw [Nat.zero_add]
      simp [World.cell?,k1,hu])
     refine ⟨(if kL (some ti) then .agg xs.toArray else xs.headD undef) :: vs,xs ++ us,?_,k2.append h2,xs,us,rfl,by omega,fun ha=>?_,fun ha=>?_,h3⟩
     ·rw [List.mapM_cons,Sem.run_bind,jfS,hp]
      simp only [asAddr,Sem.run_bind,Sem.run_pure,Result.andThen_ok,hload,h1]
     ·rw [hc.2.2,ha,if_pos rfl]
     ·have:=htk.one (by rw [hc.2.2,ha])
      match xs,hxl with
      | [],hxl=>simp at hxl; omega
      | [x],_=>rw [hc.2.2,ha]; rfl
      | _ :: _ :: _,hxl=>simp at hxl; omega
    ·simp at e
   ·simp at e
  ·simp at e
 | [],_ :: _,_,e=>by simp [ZT] at e
 | .tmp _ :: _,[],_,e=>by simp [ZT] at e
 | .cell _ _ :: _,[],_,e=>by simp [ZT] at e
theorem jgA {g:Gh} {H:List HS} {w:World} {tm:List C} {a:Act} (h:Rel ty A g ⟨tm,H⟩ a w):∀ {ks:List KO} {id:Nat} {q:List S},j51 H id (KO.vars ks)=some q → (∀ j,j < (KO.vars ks).length → g.blk (id + j)=A.pb (id + j)) →
  ∃ us:List Value,zo ty g H w q us ∧ OV w A.pb id (KO.vars ks) us ∧ q.length=((KO.vars ks).flatMap KO.kinds).length ∧ ∀ j,j < (KO.vars ks).length → ql H (id + j)
 | [],id,q,e,_=>by
  simp only [KO.vars,j51,j5] at e
  subst e
  exact ⟨[],trivial,rfl,rfl,fun j hj=>by simp [KO.vars] at hj⟩
 | .u :: _,id,q,e,_=>by
  simp only [KO.vars,j51,j5] at e
  subst e
  exact ⟨[],trivial,rfl,rfl,fun j hj=>by simp [KO.vars] at hj⟩
 | .var t l :: ks,id,q,e,hb=>by
  simp only [KO.vars,j51] at e
  split at e
  ·rename_i t' cs hv
   split at e
   ·rename_i hc
    obtain ⟨rfl,hc⟩:=hc
    split at e
    ·rename_i r hr
     simp only [j5] at e
     subst e
     obtain ⟨us,h1,h2,h3,h4⟩:=jgA h hr (fun j hj=>by
      have:=hb (j + 1) (by simp [KO.vars]; exact hj)
      rw [show id + 1 + j=id + (j + 1) by omega]
      exact this)
     obtain ⟨xs,k1,k2,k3,k4⟩:=h.ob id _ hv
     refine ⟨xs ++ us,k2.append h1,⟨xs,us,rfl,by rw [k2.length,hc],?_,k4,h2⟩,by simp [KO.vars,KO.kinds,h3,hc],fun j hj=>?_⟩
     ·have:=hb 0 (by simp [KO.vars])
      rw [Nat.add_zero] at this
      rw [← this]
      exact k1
     ·cases j with
      | zero=>exact ⟨_,_,hv⟩
      | succ j =>
       rw [show id + (j + 1)=id + 1 + j by omega]
       exact h4 j (by simpa [KO.vars] using hj)
    ·simp at e
   ·simp at e
  ·simp at e
theorem jjL (hty:K9 P ty) {g:Gh} {st:St} {a:Act} {w:World} (h:Rel ty A g st a w) {fi:FI} {hn:Hint} {r:List DC} (hm:A.m=(KO.vars hn.ob).length) (e:V2 ty fi hn st = .ret r) {fd:Func} (hres:fd.results.toList=fi.res) :
  ∃ vs,(results fd a.tmps).run P w = .ok (Kd vs) w ∧ Res ty A (KO.vars hn.ob) fi.rk r vs w:=by
 unfold V2 at e
 split at e
 ·rename_i p q hp hq
  split at e
  ·rename_i v H1 hv
   simp only [Out.ret.injEq] at e
   subst e
   obtain ⟨vs,us1,h1,h2,h3⟩:=j3b hty h hp
   obtain ⟨tm,H⟩:=st
   have hall:∀ j,j < (KO.vars hn.ob).length → ql H j:=by
    have:∀ {ks:List KO} {id:Nat} {q:List S},j51 H id (KO.vars ks)=some q → ∀ j,j < (KO.vars ks).length → ql H (id + j):=by
     intro ks
     induction ks with
     | nil=>intro id q _ j hj; simp [KO.vars] at hj
     | cons k ks ih =>
      intro id q e j hj
      cases k with
      | u=>simp [KO.vars] at hj
      | var t l =>
       simp only [KO.vars,j51] at e
       split at e
       ·rename_i t' cs hv
        split at e
        ·split at e
         ·rename_i r hr
          cases j with
          | zero=>exact ⟨_,_,hv⟩
          | succ j =>
           rw [show id + (j + 1)=id + 1 + j by omega]
           exact ih hr j (by simpa [KO.vars] using hj)
         ·simp at e
        ·simp at e
       ·simp at e
    intro j hj
    have:=this hq j hj
    rwa [Nat.zero_add] at this
   obtain ⟨us2,b1,b2,b3,b4⟩:=jgA h hq (fun j hj=>by
    rw [Nat.zero_add]
    exact h.pb j (by omega) (hall j hj))
   obtain ⟨g1,r1,s1,f1,ap,l1,_⟩:=j5g (H0:=H) [] [] h (fun _ h=>h) (h2.append b1) hv
   simp only [jy,jV,j6] at f1
   have hlive:∀ j,j < A.m → ∃ o,jJ H1 j = .live o ∧ kX g1 j o=some (A.pb j):=by
    intro j hj
    obtain ⟨t,cs,hc⟩:=s1.var j (hall j (by omega))
    refine ⟨_,hc,?_⟩
    simp only [kX,j5]
    rw [s1.blk]
    exact h.pb j hj (hall j (by omega))
   refine ⟨vs,jep (by rw [hres]; exact h1),⟨g1,H,H1,us1,us2,h3,b2,f1,ap,fun b hb=>⟨r1.lt b hb,r1.inI b hb⟩,fun j hj hI=>?_,hlive⟩,h.keep⟩
   obtain ⟨o,ho,hb⟩:=hlive j hj
   exact X1 r1 ho hb hI
  ·simp at e
 ·simp at e
theorem jcm (fi:FI) (h:Hint) (st:St):(∀ v,V2 ty fi h st ≠ .norm v) ∧ ∀ id v,V2 ty fi h st ≠ .ex id v:=by
 unfold V2
 constructor
 ·intro v
  repeat' split
  all_goals simp
 ·intro id v
  repeat' split
  all_goals simp
theorem jf7 {ju:Cfg} {G:Glob} (hty:K9 P ju.ty) (hm:P.follows .mixedOrders=true) (hfn:∀ f fi,ju.fn f=some fi → FnOk P G ju.ty f fi)
  (step:∀ cl,jb8 P G ju.ty ju.fn cl → ∀ A,AOk G A → Qj P ju.ty ju.fn cl A)  :∀ k,jb8 P G ju.ty ju.fn (J1 ju k)
 | 0=>fun f fi h v r hf e=>by simp [J1] at e
 | k + 1=>fun f fi h v r hf e=>by
  have ih:=jf7 hty hm hfn step k
  rw [J1,hf] at e
  dsimp only at e
  obtain ⟨⟨fd,h1,h2,h3,h4⟩,h5,h6⟩:=hfn f fi hf
  split at e
  ·rename_i p hp
   split at e
   ·rename_i r' hr
    simp only [Out.ret.injEq] at e
    subst e
    exact h5 p hp h v r' hr
   ·simp at e
  ·rename_i hp
   split at e
   ·rename_i x hx
    exact h6 x hx ju.fn _ ih h v r e
   rename_i hvia
   obtain ⟨k1,k2,k3⟩:=h4 hp hvia
   intro A g vals w hA hr hvs hw hmm
   refine calls_of_wp h1 (k1 h) ?_
   rw [k2]
   refine wp_mono (Yu hty (step _ ih A hA) hm hmm (fun st v=>(jcm fi h st).1 v) (fun st id v=>(jcm fi h st).2 id v) (fi.body h) _ _ _ (.ret r) g _ w hr e (by simp)) fun ex a' w' hq=>?_
   have fin:∀ g' st',Rel ju.ty A g' st' a' w' → V2 ju.ty fi h st' = .ret r → a'.defers=[] ∧ ∃ v,(results fd a'.tmps).run P w' = .ok v w' ∧ ∃ vs,v=Kd vs ∧ Res ju.ty A (KO.vars h.ob) fi.rk r vs w':=by
    intro g' st' hr' hk
    obtain ⟨vs,q1,q2⟩:=jjL hty hr' hmm hk k3
    exact ⟨hr'.df,_,q1,vs,rfl,q2⟩
   cases ex with
   | normal =>
    obtain ⟨g',st',hr',hk⟩:=hq
    exact fin g' st' hr' hk
   | ret =>
    obtain ⟨g',st',hr',hk⟩:=hq
    exact fin g' st' hr' hk
   | exit id =>
    obtain ⟨_,_,_,hk,_⟩:=hq
    simp at hk
   | goto l=>exact hq.elim
   | panic c=>exact hq.elim
   | outgrown=>exact hq.elim
end
end Go.Proofs.QV
