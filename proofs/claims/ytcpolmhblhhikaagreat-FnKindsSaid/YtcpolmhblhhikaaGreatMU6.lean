import Derived.Test.YtcpolmhblhhikaaGreatMU5
import Derived.ChangeOld
import Derived.RowKit
import Derived.Carry
import Derived.Test.YtcpolmhblhhikaaGreatMU2
import Derived.Laws.StructEq
import Derived.WalkKit
import Derived.ProofKit
import Derived.OpenShut
import Derived.ShutString
import Derived.SizedLaws
/- From a row's input to the evaluator's begin,and from its answer to the row's end. -/
namespace Go.Proofs.QV
open Go
open _root_.Bool renaming and_eq_true → jk
open _root_.Nat renaming lt_or_ge → jA
open _root_.Option.some renaming injEq → j8
open _root_.List renaming append_nil → jv, length_append → jj, map_cons → js, flatMap_cons → jn, mem_append → jC, nil_append → jg, length_nil → jf, eq_nil_of_length_eq_zero → jm
set_option linter.unusedVariables false
set_option linter.unusedSimpArgs false
def Lay (ty:Nat → Option TI):Nat → List Go.Field → List CT → Prop
 | _,[],cts=>cts=[]
 | off,f :: fs,cts=>f.offset=off ∧ ∃ tf rest,ty f.type=some tf ∧ cts=tf.cts ++ rest ∧ Lay ty (off + tf.cts.length) fs rest
structure RdTy (P:Program) (ty:Nat → Option TI) (t:Nat) (ti:TI):Prop where
 ok:match P.underlying t with
  | some .bool=>ti.cts=[.b]
  | some (.int k)=>ti.cts=[.i k]
  | some .string=>ti.cts=[.s]
  | some (.slice e)=>ti.cts=[.sl e] ∧ ∃ te,ty e=some te ∧ 0 < te.cts.length
  | some (.struct fs)=>Lay ty 0 fs.toList ti.cts
  | _=>False
 size:P.cellsOf t=ti.cts.length
mutual
inductive WfC (ty:Nat → Option TI):CT → DC → Prop
 | b (x:Bool):WfC ty .b (.b x)
 | i (k:IntKind) (n:Int):k.min ≤ n → n ≤ k.max → WfC ty (.i k) (.i n)
 | s (l:List UInt8):l.length ≤ maxLen → WfC ty .s (.s l)
 | sl (e:Nat) (te:TI) (l:List (List DC)):ty e=some te → l.length ≤ maxLen → WfV ty te.cts l → WfC ty (.sl e) (.sl l)
 | nil (e:Nat):WfC ty (.sl e) (.sl [])
inductive WfL (ty:Nat → Option TI):List CT → List DC → Prop
 | nil:WfL ty [] []
 | cons (t:CT) (ts:List CT) (x:DC) (xs:List DC):WfC ty t x → WfL ty ts xs → WfL ty (t :: ts) (x :: xs)
inductive WfV (ty:Nat → Option TI):List CT → List (List DC) → Prop
 | nil (ts:List CT):WfV ty ts []
 | cons (ts:List CT) (x:List DC) (l:List (List DC)):WfL ty ts x → WfV ty ts l → WfV ty ts (x :: l)
end
theorem WfL.append {ty:Nat → Option TI}:∀ {a b:List CT} {x y:List DC},WfL ty a x → WfL ty b y → WfL ty (a ++ b) (x ++ y)
 | _,_,_,_,.nil,h=>h
 | _,_,_,_,.cons t ts x xs h1 h2,h=>.cons t _ x _ h1 (WfL.append h2 h)
section
variable {H:Type} {enc:TypeId × Value → H} {P:Program} {ty:Nat → Option TI} {w:World} {sp:Nat → Bool} {held:Bool}
theorem j9v {ts:List CT}:∀ (l:List (List Value)) ,(∀ c ∈ l,∃ x F,RdL ty w ts x c F ∧ (∀ b ∈ F,b < w.heap.size) ∧ WfL ty ts x) → ∃ xs F,xs.length=l.length ∧ RdV ty w ts xs l.flatten F ∧ (∀ b ∈ F,b < w.heap.size) ∧ WfV ty ts xs
 | [],_=>⟨[],[],rfl,.nil _,fun _ h=>by (cases h),.nil _⟩
 | c :: l,h=>by
  obtain ⟨x,F,h1,h2,h3⟩:=h c (by simp)
  obtain ⟨xs,G,k1,k2,k3,k4⟩:=j9v l fun c hc=>h c (by simp [hc])
  refine ⟨x :: xs,F ++ G,by simp [k1],?_,fun b hb=>?_,.cons _ _ _ h3 k4⟩
  ·rw [List.flatten_cons]
   exact .cons _ _ _ _ _ _ _ h1 k2
  ·rcases List.mem_append.1 hb with hb | hb
   ·exact h2 b hb
   ·exact k3 b hb
theorem j3U (hrd:∀ t ti,ty t=some ti → RdTy P ty t ti):∀ (fuel t:Nat) (ti:TI) (cs:List Value) (x:DataW H × List MemPlace),ty t=some ti → DataW.trod enc P w 0 sp held fuel t cs=some x →
  ∃ d F,RdL ty w ti.cts d cs F ∧ (∀ b ∈ F,b < w.heap.size) ∧ WfL ty ti.cts d
 | 0,t,ti,cs,x,ht,h=>by simp [DataW.trod] at h
 | fuel + 1,t,ti,cs,x,ht,h=>by
  have ih:=j3U hrd fuel
  obtain ⟨hok,hsz⟩:=hrd t ti ht
  have lit:∀ (c:CT) (dd:DC) (v:Value),ti.cts=[c] → cs=[v] → RdC ty w c dd v [] → WfC ty c dd → ∃ d F,RdL ty w ti.cts d cs F ∧ (∀ b ∈ F,b < w.heap.size) ∧ WfL ty ti.cts d:=by
   intro c dd v h1 h2 h3 h4
   rw [h1,h2]
   exact ⟨[dd],[] ++ [],.cons _ _ _ _ _ _ _ _ h3 .nil,fun _ h=>by (cases h),.cons _ _ _ _ h4 .nil⟩
  unfold DataW.trod at h
  split at h
  case h_1 b hu =>
   rw [hu] at hok
   exact lit .b (.b b) _ hok rfl (.b b) (.b b)
  case h_2 k k' n hu =>
   rw [hu] at hok
   split at h
   ·rename_i hk
    obtain ⟨rfl,hwf⟩:=hk
    simp only [Lit.wf,jk,decide_eq_true_eq] at hwf
    exact lit (.i k') (.i n) _ hok rfl (.i k' n) (.i k' n hwf.1 hwf.2)
   ·simp at h
  case h_4 s hu =>
   rw [hu] at hok
   split at h
   ·rename_i hs
    have e:s=⟨s.data.toList.toArray⟩:=by cases s; simp
    refine lit .s (.s s.data.toList) _ hok rfl ?_ (.s _ hs)
    have:=RdC.s (ty:=ty) (w:=w) s.data.toList
    rw [← e] at this
    exact this
   ·simp at h
  case h_7 e hu =>
   rw [hu] at hok
   exact lit (.sl e) (.sl []) _ hok.1 rfl (.nil e none 0) (.nil e)
  case h_8 e a len cap hu =>
   rw [hu] at hok
   obtain ⟨hc,te,hte,h0⟩:=hok
   have hes:P.cellsOf e=te.cts.length:=(hrd e te hte).size
   split at h
   ·rename_i hbnd
    simp only [Option.map_eq_some_iff,Option.bind_eq_some_iff] at h
    obtain ⟨elems,hel,rest,hrest,_⟩:=h
    by_cases hl:len=0
    ·subst hl
     exact lit (.sl e) (.sl []) _ hc rfl (.nil e _ _) (.nil e)
    ·-- each element's cells
     have hget:∀ i,i < len → ∃ cs',w.cells? 0 (a.add (i * P.cellsOf e)) (P.cellsOf e)=some cs' ∧ ∃ y,DataW.trod enc P w 0 sp held fuel e cs'=some y:=by
      intro i hi
      have h1:=mapM_some_get hel i i (by rw [List.getElem?_range hi])
      have hlen:=mapM_some_length hel
      rw [List.length_range] at hlen
      rw [List.getElem?_eq_getElem (by omega)] at h1
      cases hcs:w.cells? 0 (a.add (i * P.cellsOf e)) (P.cellsOf e) with
      | none=>rw [hcs] at h1; simp at h1
      | some cs' =>
       rw [hcs] at h1
       exact ⟨cs',rfl,_,h1⟩
     have hspot:a.spot=none:=by
      obtain ⟨cs',hcs,_⟩:=hget 0 (by omega)
      rw [Nat.zero_mul] at hcs
      obtain ⟨_,hl',hcc⟩:=World.cells?_some hcs
      have:=hcc 0 (by omega)
      rw [show (a.add 0).add 0=a by simp [Addr.add]] at this
      have h2:cs'[0]? = some cs'[0]:=List.getElem?_eq_getElem (by omega)
      rw [h2] at this
      unfold World.cell? at this
      split at this
      ·split at this
       ·simp at this
       ·rename_i hs
        cases hsp:a.spot with
        | none=>rfl
        | some _=>rw [hsp] at hs; simp at hs
      ·simp at this
     have ha:a=⟨a.block,a.off,none⟩:=by cases a; simp at hspot; simp [hspot]
     let cells:List (List Value):=(List.range len).map fun i=>(w.cells? 0 (a.add (i * P.cellsOf e)) (P.cellsOf e)).getD []
     obtain ⟨xs,F,x1,x2,x3,x4⟩:=j9v (ty:=ty) (w:=w) (ts:=te.cts) cells fun c hcm=>by
      simp only [cells,List.mem_map,List.mem_range] at hcm
      obtain ⟨i,hi,rfl⟩:=hcm
      obtain ⟨cs',hcs,y,hy⟩:=hget i hi
      rw [hcs]
      exact ih e te cs' y hte hy
     have hlc:cells.length=len:=by simp [cells]
     have hblk:a.block < w.heap.size:=by
      obtain ⟨cs',hcs,_⟩:=hget 0 (by omega)
      rw [Nat.zero_mul] at hcs
      have:=World.cells?_block hcs (by omega)
      simpa [Addr.add] using this
     have hcl:∀ i,i < len → ∃ c,cells[i]? = some c ∧ c.length=te.cts.length ∧ ∀ j,j < te.cts.length → w.cell? ⟨a.block,a.off + (i * te.cts.length + j),none⟩=c[j]?:=by
      intro i hi
      obtain ⟨cs',hcs,_⟩:=hget i hi
      refine ⟨cs',by simp [cells,hi,hcs],?_⟩
      obtain ⟨_,hl',hcc⟩:=World.cells?_some hcs
      refine ⟨by rw [hl',hes],fun j hj=>?_⟩
      have:=hcc j (by omega)
      rw [← this,hes]
      congr 1
      rw [ha,Addr.add_lit,Addr.add_lit]
      simp [Nat.add_assoc]
     have hflat:∀ (l:List (List Value)) (off:Nat),(∀ i c,l[i]? = some c → c.length=te.cts.length ∧ ∀ j,j < te.cts.length → w.cell? ⟨a.block,off + (i * te.cts.length + j),none⟩=c[j]?) →
       ∀ (j:Nat) (v:Value),l.flatten[j]? = some v → w.cell? ⟨a.block,off + j,none⟩=some v:=by
      intro l
      induction l with
      | nil=>intro off _ j v h; simp at h
      | cons c l ihl =>
       intro off hl j v hv
       obtain ⟨c1,c2⟩:=hl 0 c rfl
       rw [List.flatten_cons] at hv
       by_cases hj:j < te.cts.length
       ·rw [List.getElem?_append_left (by omega)] at hv
        have:=c2 j hj
        rw [Nat.zero_mul,Nat.zero_add] at this
        rw [this,hv]
       ·rw [List.getElem?_append_right (by omega),c1] at hv
        have:=ihl (off + te.cts.length) (fun i c hc=>by
         obtain ⟨q1,q2⟩:=hl (i + 1) c (by simpa using hc)
         refine ⟨q1,fun j hj=>?_⟩
         rw [← q2 j hj]
         congr 2
         rw [Nat.succ_mul]
         omega) (j - te.cts.length) v hv
        rw [← this]
        congr 2
        omega
     have hxl:xs.length=len:=by rw [x1,hlc]
     refine ⟨[DC.sl xs],(a.block :: F) ++ [],?_,fun b hb=>?_,?_⟩
     ·rw [hc]
      refine .cons _ _ _ _ _ _ _ _ ?_ .nil
      rw [ha]
      refine .sl e te _ _ _ _ xs cells.flatten F hte h0 hxl.symm (by intro h; rw [h] at hxl; simp at hxl; omega) hbnd.2.1 (hflat cells a.off fun i c hic=>?_) x2
      have hi:i < len:=by
       rcases jA i cells.length with h' | h'
       ·omega
       ·simp [List.getElem?_eq_none h'] at hic
      obtain ⟨c',q1,q2,q3⟩:=hcl i hi
      rw [q1] at hic
      simp only [j8] at hic
      subst hic
      exact ⟨q2,q3⟩
     ·simp only [jv,List.mem_cons] at hb
      rcases hb with rfl | hb
      ·exact hblk
      ·exact x3 b hb
     ·rw [hc]
      exact .cons _ _ _ _ (.sl e te xs hte (by rw [hxl]; omega) x4) .nil
   ·simp at h
  case h_9 fs hu =>
   rw [hu] at hok
   split at h
   ·rename_i hlen
    simp only [Option.map_eq_some_iff] at h
    obtain ⟨ys,hys,_⟩:=h
    have key:∀ (fs:List Go.Field) (off:Nat) (cts:List CT) (ys:List (DataW H × List MemPlace)) (cs0:List Value),Lay ty off fs cts → fs.mapM (fun f=>DataW.trod enc P w 0 sp held fuel f.type ((cs0.drop f.offset).take (P.cellsOf f.type)))=some ys →
      off + cts.length=cs0.length → ∃ d F,RdL ty w cts d (cs0.drop off) F ∧ (∀ b ∈ F,b < w.heap.size) ∧ WfL ty cts d:=by
     intro fs
     induction fs with
     | nil =>
      intro off cts ys cs0 hl _ hlen
      have hl':cts=[]:=hl
      subst hl'
      rw [List.drop_of_length_le (by simp at hlen; omega)]
      exact ⟨[],[],.nil,fun _ h=>by (cases h),.nil⟩
     | cons f fs ihf =>
      intro off cts ys cs0 hl hm hlen
      obtain ⟨ho,tf,rest,htf,rfl,hl2⟩:=hl
      rw [List.mapM_cons] at hm
      simp only [Option.bind_eq_bind,Option.bind_eq_some_iff,Option.pure_def,j8] at hm
      obtain ⟨y,hy,ys',hys',_⟩:=hm
      obtain ⟨d1,F1,q1,q2,q3⟩:=ih f.type tf _ y htf hy
      rw [jj] at hlen
      obtain ⟨d2,F2,p1,p2,p3⟩:=ihf (off + tf.cts.length) rest ys' cs0 hl2 hys' (by omega)
      refine ⟨d1 ++ d2,F1 ++ F2,?_,fun b hb=>?_,q3.append p3⟩
      ·have:=q1.append p1
       rw [ho,(hrd f.type tf htf).size,← List.drop_drop,List.take_append_drop] at this
       exact this
      ·rcases List.mem_append.1 hb with hb | hb
       ·exact q2 b hb
       ·exact p2 b hb
    have:=key fs.toList 0 ti.cts ys _ hok hys (by rw [hlen,hsz]; omega)
    simpa using this
   ·simp at h
  all_goals first
   | (simp at h; done)
   | (rename_i hu; rw [hu] at hok; exact hok.elim)
   | (rename_i hu _; rw [hu] at hok; exact hok.elim)
   | (exfalso; revert hok; simp_all)
end
def PK.cts:PK → List CT
 | .ct c=>[c]
 | .ag l=>l
 | _=>[]
def Xg:PK → KC
 | .ct c=>.one c.k1
 | .ag l=>.agg (l.map CT.k1)
 | _=>.one .u
def jao (ti:TI):PK :=
 match jQ (some ti),ti.cts with
 | true,l=>.ag l
 | false,[c]=>.ct c
 | false,_=>.fn
section
variable {H:Type} {enc:TypeId × Value → H} {P:Program} {ty:Nat → Option TI} {w:World} {sp:Nat → Bool} {held:Bool}
theorem j0H {r:Reach} {b0:Nat} {t:TypeId} {v:Value} {d:TypeDesc} (hu:P.underlying t=some d) (hd:d = .bool ∨ (∃ k,d = .int k) ∨ d = .string ∨ ∃ e,d = .slice e) (h:Value.okWide P w r b0 t v):v.oneCell'=true:=by
 rcases hd with rfl | ⟨k,rfl⟩ | rfl | ⟨e,rfl⟩ <;> simp only [Value.okWide,hu,Cell.okWide,Cell.ok] at h <;> cases v <;> simp_all [Value.oneCell']
theorem j4B (hty:y9 P ty) (hrd:∀ t ti,ty t=some ti → RdTy P ty t ti) {b0:Nat}:∀ (ts:List TypeId) (pks:List PK) (vs:List Value) (ds:List (DataW H)) (ps:List MemPlace),DataW.TrodAll enc P w 0 sp held ts vs ds ps →
  (∀ (j:Nat) t v,ts[j]? = some t → vs[j]? = some v → Value.okWide P w .any b0 t v) → (ts.map fun t=>(ty t).map jao)=pks.map some → pks.all PK.plain=true →
  ∃ (d:List DC) (F:List Nat) (us:List Value),RdL ty w (pks.flatMap PK.cts) d us F ∧ (∀ b ∈ F,b < w.heap.size) ∧ WfL ty (pks.flatMap PK.cts) d ∧ KZ (pks.map Xg) vs us
 | [],pks,vs,ds,ps,h,hv,hp,hpl=>by
  have:pks=[]:=by
   cases pks with
   | nil=>rfl
   | cons _ _=>simp at hp
  subst this
  match vs,ds,h with
  | [],[],h=>exact ⟨[],[],[],.nil,fun _ h=>by (cases h),.nil,rfl⟩
  | _ :: _,_,h=>exact h.elim
  | [],_ :: _,h=>exact h.elim
 | t :: ts,pks,vs,ds,ps,h,hv,hp,hpl=>by
  match pks with
  | []=>simp at hp
  | p :: pks =>
   match vs,ds,h with
   | v :: vs,d :: ds,⟨p1,q1,h1,h2,_⟩ =>
    simp only [js,List.cons.injEq] at hp
    simp only [List.all_cons,jk] at hpl
    obtain ⟨d2,F2,us2,k1,k2,k3,k4⟩:=j4B hty hrd ts pks vs ds q1 h2 (fun j t v a b=>hv (j + 1) t v a b) hp.2 hpl.2
    cases hti:ty t with
    | none=>rw [hti] at hp; simp at hp
    | some ti =>
     rw [hti] at hp
     have hpk:jao ti=p:=by simpa using hp.1
     obtain ⟨fuel,hf⟩:=h1
     obtain ⟨d1,F1,r1,r2,r3⟩:=j3U hrd fuel t ti _ _ hti hf
     have hval:=hv 0 t v rfl rfl
     obtain ⟨hok,hsz⟩:=hrd t ti hti
     have fin:∀ (us1:List Value),p.cts=ti.cts → v.cells.toList=us1 → (∀ r,KZ (pks.map Xg) vs r → KZ (Xg p :: pks.map Xg) (v :: vs) (us1 ++ r)) → ∃ (d:List DC) (F:List Nat) (us:List Value),
       RdL ty w ((p :: pks).flatMap PK.cts) d us F ∧ (∀ b ∈ F,b < w.heap.size) ∧ WfL ty ((p :: pks).flatMap PK.cts) d ∧ KZ ((p :: pks).map Xg) (v :: vs) us:=by
      intro us1 hc hcells hflat
      rw [hcells] at r1
      refine ⟨d1 ++ d2,F1 ++ F2,us1 ++ us2,?_,fun b hb=>?_,?_,hflat us2 k4⟩
      ·rw [jn,hc]; exact r1.append k1
      ·rcases List.mem_append.1 hb with hb | hb
       ·exact r2 b hb
       ·exact k2 b hb
      ·rw [jn,hc]; exact r3.append k3
     have hone:∀ c,ti.cts=[c] → v.oneCell'=true → p = .ct c → ∃ (d:List DC) (F:List Nat) (us:List Value),
       RdL ty w ((p :: pks).flatMap PK.cts) d us F ∧ (∀ b ∈ F,b < w.heap.size) ∧ WfL ty ((p :: pks).flatMap PK.cts) d ∧ KZ ((p :: pks).map Xg) (v :: vs) us:=by
      intro c hc h1 hp'
      subst hp'
      exact fin [v] (by rw [hc]; rfl) (by rw [j4c h1]) fun r hr=>⟨r,rfl,hr⟩
     obtain ⟨dsc,hu,hagg⟩:=(hty t ti hti).struct
     rw [hu] at hok
     unfold jao at hpk
     cases hst:jQ (some ti) with
     | true =>
      rw [hst] at hpk hagg
      dsimp only at hpk
      subst hpk
      cases dsc with
      | struct fs =>
       simp only [Value.okWide,hu] at hval
       obtain ⟨cs,rfl,hcs,_⟩:=hval
       refine fin cs.toList rfl rfl fun r hr=>⟨cs.toList,r,by simp,?_,rfl,hr⟩
       simp [hcs,hsz]
      | array n e=>exact hok.elim
      | _=>simp [Xl] at hagg
     | false =>
      rw [hst] at hpk hagg
      have single:∀ c,ti.cts=[c] → p = .ct c:=fun c hc=>by rw [hc] at hpk; exact hpk.symm
      cases dsc with
      | bool=>exact hone _ hok (j0H hu (.inl rfl) hval) (single _ hok)
      | int k=>exact hone _ hok (j0H hu (.inr (.inl ⟨k,rfl⟩)) hval) (single _ hok)
      | string=>exact hone _ hok (j0H hu (.inr (.inr (.inl rfl))) hval) (single _ hok)
      | slice e=>exact hone _ hok.1 (j0H hu (.inr (.inr (.inr ⟨e,rfl⟩))) hval) (single _ hok.1)
      | struct fs=>simp [Xl] at hagg
      | _=>exact hok.elim
   | [],_,h=>exact h.elim
   | _ :: _,[],h=>exact h.elim
theorem j9w {A:An} {g:Gh} {H0 H1:List HS}:∀ {ts:List CT} {d:List DC} {us:List Value} {F:List Nat} (pre post:List DC),RdL ty w ts d us F → (∀ b ∈ F,g.I b) → FL ty A g H0 H1 w (pre ++ (d ++ post)) pre.length (ts.map CT.k1) us
 | _,_,_,_,pre,post,.nil,_=>trivial
 | _,_,_,_,pre,post,.cons t ts x xs v vs F G h1 h2,hF=>by
  have hc:=(CT.k1_plain t).2.2.2.1
  refine ⟨⟨[x],by rw [hc]; rfl,fun i hi=>?_,?_⟩,?_⟩
  ·rw [hc] at hi
   have:i=0:=by omega
   subst this
   simp [List.getD_eq_getElem?_getD]
  ·cases h1 with
   | b x=>exact ⟨x,rfl,rfl⟩
   | i k n=>exact ⟨n,rfl,rfl⟩
   | s l=>exact ⟨l,rfl,rfl⟩
   | nil e a c=>exact ⟨[],[],rfl,.nil e a c,fun _ h=>by cases h⟩
   | sl e ti b off n cap l vs' F' k1 k0 k2 k3 k4 k5 k6=>exact ⟨l,_,rfl,.sl e ti b off n cap l vs' F' k1 k0 k2 k3 k4 k5 k6,fun b hb=>hF b (by simp only [jC]; exact .inl hb)⟩
  ·have:=j9w (A:=A) (g:=g) (H0:=H0) (H1:=H1) (pre ++ [x]) post h2 fun b hb=>hF b (by simp [hb])
   rw [hc]
   simpa using this
theorem j5V:∀ {pks:List PK},pks.all PK.plain=true → (pks.map Xg).flatMap KC.kinds=(pks.flatMap PK.cts).map CT.k1
 | [],_=>rfl
 | p :: pks,h=>by
  simp only [List.all_cons,jk] at h
  rw [js,jn,jn,List.map_append,j5V h.2]
  cases p with
  | ct c=>rfl
  | ag l=>rfl
  | _=>simp [PK.plain] at h
theorem j7o {vals:Array Value} {d:List DC} {us:List Value} {F:List Nat} (fi:FI) (hpl:fi.pk.all PK.plain=true) (h1:RdL ty w (fi.pk.flatMap PK.cts) d us F) (h2:∀ b ∈ F,b < w.heap.size) (h4:KZ (fi.pk.map Xg) vals.toList us) :
  ∃ (A:An) (g:Gh),Rel ty A g (yD fi ⟨fi.pk.map Xg,[]⟩ d) { tmps:=vals ++ Array.replicate (fi.ntmps - vals.size) undef,defers:=[] } w ∧
   vals.size=(fi.pk.map Xg).length ∧ A.w0=w ∧ A.m=0 ∧ (∀ b,¬ A.Pv b) ∧ ∀ b,¬ A.Pm b:=by
 let A:An:={ w0:=w,I0:=fun b=>b < w.heap.size,Pv:=fun _=>False,Pm:=fun _=>False,m:=0,pb:=fun _=>0 }
 let g:Gh:={ I:=fun b=>b < w.heap.size,blk:=fun _=>0,val:=fun _=>undef,dom:=fun _ _=>False }
 refine ⟨A,g,?_,by simpa using h4.length.1,rfl,rfl,fun _ h=>h,fun _ h=>h⟩
 have hfl:=j9w (A:=A) (g:=g) (H0:=[]) (H1:=[]) [] [] h1 h2
 rw [jg,jv,jf] at hfl
 have hk:∀ k ∈ (fi.pk.flatMap PK.cts).map CT.k1,∃ t:CT,k=t.k1:=fun k hk=>by
  obtain ⟨t,_,rfl⟩:=List.mem_map.1 hk
  exact ⟨t,rfl⟩
 have hsrl:qr ty g (List.replicate fi.nobj HS.free) w (mkL d 0 ((fi.pk.flatMap PK.cts).map CT.k1)) us:=YY (g:=g) (g':=g) (fun _ h=>h) (by rw [V9 hk]; exact hfl)
  (fun i e id u h1 h2=>by
   obtain ⟨t,ht⟩:=hk _ (List.mem_of_getElem? h1)
   cases t <;> simp [CT.k1] at ht)
  (fun i m off u h1 h2=>by
   obtain ⟨t,ht⟩:=hk _ (List.mem_of_getElem? h1)
   exact absurd ht.symm ((CT.k1_plain t).1 m off))
  (fun i f caps u h1 h2=>by
   obtain ⟨t,ht⟩:=hk _ (List.mem_of_getElem? h1)
   exact absurd ht.symm ((CT.k1_plain t).2.1 f caps))
 rw [← j5V hpl] at hsrl
 obtain ⟨c1,c2⟩:=KZ.mkT d 0 h4 hsrl
 have hst:yD fi ⟨fi.pk.map Xg,[]⟩ d=⟨mkT d 0 (fi.pk.map Xg) ++ List.replicate (fi.ntmps - (mkT d 0 (fi.pk.map Xg)).length) (.one .undef),List.replicate fi.nobj HS.free⟩:=rfl
 have hfree:∀ id o,jp (List.replicate fi.nobj HS.free) id ≠ .live o:=by
  intro id o
  unfold jp
  rw [List.getD_eq_getElem?_getD,List.getElem?_replicate]
  split <;> simp
 rw [hst]
 refine ⟨?_,fun i c x h1 h2=>?_,fun id o ho=>absurd ho (hfree id o),fun i j o p x _ hi=>absurd hi (hfree i o),fun b hb=>hb,fun b hb=>.inl hb,fun id o x ho=>absurd ho (hfree id o),fun j hj=>by simp [A] at hj,fun j hj=>by simp [A] at hj,
  ⟨rfl,rfl,rfl,Nat.le_refl _,fun _ _ _ _=>rfl⟩,rfl⟩
 ·have:vals.size=(mkT d 0 (fi.pk.map Xg)).length:=by rw [c1]; simp
  simp [this]
 ·simp only [Array.getElem?_append] at h2
  rcases jA i (mkT d 0 (fi.pk.map Xg)).length with h' | h'
  ·rw [List.getElem?_append_left h'] at h1
   have hl:i < vals.size:=by rw [c1] at h'; simpa using h'
   rw [if_pos hl] at h2
   exact c2 i c x h1 (by simpa using h2)
  ·rw [List.getElem?_append_right h',List.getElem?_replicate] at h1
   split at h1
   ·simp only [j8] at h1
    subst h1
    trivial
   ·simp at h1
theorem j8O (hty:y9 P ty) (hrd:∀ t ti,ty t=some ti → RdTy P ty t ti) {b0:Nat} {ts:List TypeId} {vals:Array Value} {ds:List (DataW H)} {ps:List MemPlace} (hA:DataW.TrodAll enc P w 0 sp held ts vals.toList ds ps)
  (hv:∀ (j:Nat) t v,ts[j]? = some t → vals[j]? = some v → Value.okWide P w .any b0 t v) (fi:FI) (hp:(ts.map fun t=>(ty t).map jao)=fi.pk.map some) (hpl:fi.pk.all PK.plain=true) :
  ∃ (d:List DC) (A:An) (g:Gh),WfL ty (fi.pk.flatMap PK.cts) d ∧ Rel ty A g (yD fi ⟨fi.pk.map Xg,[]⟩ d) { tmps:=vals ++ Array.replicate (fi.ntmps - vals.size) undef,defers:=[] } w ∧
   vals.size=(fi.pk.map Xg).length ∧ A.w0=w ∧ A.m=0 ∧ (∀ b,¬ A.Pv b) ∧ ∀ b,¬ A.Pm b:=by
 obtain ⟨d,F,us,h1,h2,h3,h4⟩:=j4B hty hrd ts fi.pk vals.toList ds ps hA (fun j t v a b=>hv j t v a (by simpa using b)) hp hpl
 obtain ⟨A,g,q⟩:=j7o fi hpl h1 h2 h4
 exact ⟨d,A,g,h3,q⟩
theorem j8z {cfg:Cfg} {G:Glob} (hty:y9 P cfg.ty) (hrd:∀ t ti,cfg.ty t=some ti → RdTy P cfg.ty t ti) (hm:P.follows .mixedOrders=true) (hfn:∀ f fi,cfg.fn f=some fi → FnOk P G cfg.ty f fi) {f:Nat} {fi:FI} (hf:cfg.fn f=some fi)
  (hG:G.ok w ∧ ∀ b,G.gb b → b < w.heap.size) (hrk:fi.rk=[(false,[.ct .b])]) {b0:Nat} {ts:List TypeId} (hp:(ts.map fun t=>(cfg.ty t).map jao)=fi.pk.map some) (hpl:fi.pk.all PK.plain=true) {vals:Array Value} {ds:List (DataW H)} {ps:List MemPlace}
  (hA:DataW.TrodAll enc P w 0 sp held ts vals.toList ds ps) (hv:∀ (j:Nat) t v,ts[j]? = some t → vals[j]? = some v → Value.okWide P w .any b0 t v)
  (hev:∀ d,WfL cfg.ty (fi.pk.flatMap PK.cts) d → Evt (fun k=>zg cfg k f ⟨fi.pk.map Xg,[]⟩ d) (.ret [.b true])) :
  Calls P f vals w fun e w'=>e = .returned (.bool true) ∧ RowKit.Below w.heap.size w w':=by
 obtain ⟨d,A,g,h1,h2,h3,h4,h5,h6,h7⟩:=j8O hty hrd hA hv fi hp hpl
 obtain ⟨N,hN⟩:=hev d h1
 have hcalls:=Yl hty hm hfn N f fi ⟨fi.pk.map Xg,[]⟩ d [.b true] hf (hN N (Nat.le_refl _)) A g vals w ⟨by rw [h4]; exact hG.1,fun b hb=>⟨by rw [h4]; exact hG.2 b hb,h6 b,h7 b⟩⟩ h2 h3 h4 h5
 refine Calls.mono hcalls fun e w' he=>?_
 cases e with
 | returned rv =>
  obtain ⟨vs,rfl,hres⟩:=he
  obtain ⟨⟨gr,H0,H1,us1,us2,q1,q2,q3,_⟩,hkeep⟩:=hres
  rw [hrk] at q1 q3
  match vs,q1 with
  | [v],⟨u1,u2,z1,z2,z3,z4,z5⟩ =>
   have z5':u2=[]:=z5
   subst z5'
   have:=z4 rfl
   subst this
   rw [jv] at z1
   subst z1
   have hus2:us2=[]:=q2
   subst hus2
   obtain ⟨⟨dd,y1,y2,y3⟩,_⟩:=q3
   obtain ⟨x,rfl,rfl⟩:=y3
   have:=y2 0 (by simp [RK.k1,CT.k1,K1.cnt])
   simp only [Nat.add_zero,List.getD_cons_zero] at this
   have hx:x=true:=by
    have:DC.b true=DC.b x:=this
    simpa using this.symm
   subst hx
   refine ⟨rfl,⟨by rw [hkeep.os,h4],by rw [hkeep.tape,h4],by rw [hkeep.output,h4],by have:=hkeep.size; rwa [h4] at this,fun b hb=>?_⟩⟩
   have:=hkeep.block b (by rw [h4]; exact hb) (h6 b) (h7 b)
   rwa [h4] at this
  | [],q1=>exact q1.elim
  | _ :: _ :: _,⟨_,_,_,_,_,_,h⟩=>exact h.elim
 | panicked ch=>exact he.elim
 | outgrown=>exact he.elim
end
def j7h (P:Program):Nat → List Go.Field → List CT → Bool
 | _,[],[]=>true
 | off,f :: fs,c :: cs=>f.name != "_" && Nat.beq f.offset off && (match P.underlying f.type,c with
   | some .bool,.b=>true
   | some (.int k),.i k'=>decide (k=k')
   | some .string,.s=>true
   | _,_=>false) && j7h P (off + 1) fs cs
 | _,_,_=>false
theorem ja1 {P:Program} {d:Nat} {X Y:Array Value} {w0:World} {g:Gh} {H:List HS} {w:World} {ty:Nat → Option TI}:∀ {fs:List Go.Field} {cs:List CT} {off:Nat} {l m:List S} {xs ys:List Value} {r:Bool},j7h P off fs cs=true →
    qr ty g H w l xs → qr ty g H w m ys → xs.length=cs.length → ys.length=cs.length → (∀ i,X[off + i]? = xs[i]?) → (∀ i,Y[off + i]? = ys[i]?) → zO l m=some r → zU cs l=true → zU cs m=true → (Op.eqFields (d + 1) X Y fs).run P w0 = .ok r w0
  | [],[],off,l,m,xs,ys,r,_,hl,hm,h1,h2,_,_,e,_,_=>by
    have hx:xs=[]:=jm (by simpa using h1)
    have hy:ys=[]:=jm (by simpa using h2)
    subst hx
    subst hy
    cases l with
    | cons _ _=>exact hl.elim
    | nil =>
      cases m with
      | cons _ _=>exact hm.elim
      | nil =>
        simp only [zO,j8] at e
        subst e
        simp [Op.eqFields]
  | f :: fs,c :: cs,off,l,m,xs,ys,r,hb,hl,hm,h1,h2,hX,hY,e,f1,f2=>by
    match xs,h1 with
    | x :: xs,h1 =>
     match ys,h2 with
     | y :: ys,h2 =>
      cases l with
      | nil=>exact hl.elim
      | cons s l =>
      cases m with
      | nil=>exact hm.elim
      | cons t m =>
      obtain ⟨sx,hl⟩:=hl
      obtain ⟨sy,hm⟩:=hm
      simp only [j7h,jk] at hb
      obtain ⟨⟨⟨b1,b2⟩,b3⟩,b4⟩:=hb
      have hoff:=Nat.eq_of_beq_eq_true b2
      have hn:f.name ≠ "_":=by simpa using b1
      have gx:X[f.offset]? = some x:=by rw [hoff]; simpa using hX 0
      have gy:Y[f.offset]? = some y:=by rw [hoff]; simpa using hY 0
      have ih:∀ r',zO l m=some r' → zU cs l=true → zU cs m=true → (Op.eqFields (d + 1) X Y fs).run P w0 = .ok r' w0:=fun r' he k1 k2=>ja1 b4 hl hm (by simpa using h1) (by simpa using h2)
        (fun i=>by have:=hX (i + 1); rw [show off + 1 + i=off + (i + 1) by omega]; simpa using this) (fun i=>by have:=hY (i + 1); rw [show off + 1 + i=off + (i + 1) by omega]; simpa using this) he k1 k2
      have fin:∀ (bq:Bool) (dsc:TypeDesc),P.underlying f.type=some dsc → Xl dsc=false → (Op.equalIn (d + 1) f.type x y).run P w0 = .ok bq w0 → (zO l m).map (fun r=>bq && r)=some r → zU cs l=true → zU cs m=true → (Op.eqFields (d + 1) X Y (f :: fs)).run P w0 = .ok r w0:=by
        intro bq dsc hu ha hq he k1 k2
        have part_x:(part f.type X f.offset).run P w0 = .ok x w0:=by
          unfold part
          rw [Sem.run_bind,YP hu,Result.andThen_ok,ha]
          simp [gx]
        have part_y:(part f.type Y f.offset).run P w0 = .ok y w0:=by
          unfold part
          rw [Sem.run_bind,YP hu,Result.andThen_ok,ha]
          simp [gy]
        cases hr:zO l m with
        | none=>rw [hr] at he; simp at he
        | some r' =>
          rw [hr] at he
          simp only [Option.map_some,j8] at he
          subst he
          simp only [Op.eqFields,hn,ne_eq,not_false_eq_true,if_true,Sem.run_bind,part_x,part_y,hq,Result.andThen_ok]
          cases bq with
          | false=>simp
          | true=>simpa using ih r' hr k1 k2
      cases c with
      | b =>
        cases s <;> simp [zU] at f1
        cases t <;> simp [zU] at f2
        rename_i p q
        have ex:x = .bool p:=sx
        have ey:y = .bool q:=sy
        subst ex
        subst ey
        cases hu:P.underlying f.type with
        | none=>rw [hu] at b3; simp at b3
        | some dsc =>
          rw [hu] at b3
          cases dsc <;> simp at b3
          exact fin (p == q) _ hu rfl (run_equalIn_bool' w0 d f.type p q hu) (by simpa [zO] using e) f1 f2
      | i k =>
        cases s <;> simp [zU] at f1
        cases t <;> simp [zU] at f2
        rename_i k1 p k2 q
        obtain ⟨rfl,f1⟩:=f1
        obtain ⟨rfl,f2⟩:=f2
        have ex:x = .int _ p:=sx
        have ey:y = .int _ q:=sy
        subst ex
        subst ey
        cases hu:P.underlying f.type with
        | none=>rw [hu] at b3; simp at b3
        | some dsc =>
          rw [hu] at b3
          cases dsc <;> simp at b3
          subst b3
          exact fin (p == q) _ hu rfl (run_equalIn_int w0 d f.type _ _ p q hu) (by simpa [zO] using e) f1 f2
      | s =>
        cases s <;> simp [zU] at f1
        cases t <;> simp [zU] at f2
        rename_i p q
        have ex:x = .string ⟨p.toArray⟩:=sx
        have ey:y = .string ⟨q.toArray⟩:=sy
        subst ex
        subst ey
        cases hu:P.underlying f.type with
        | none=>rw [hu] at b3; simp at b3
        | some dsc =>
          rw [hu] at b3
          cases dsc <;> simp at b3
          exact fin (p == q) _ hu rfl (by rw [run_equalIn_string w0 d f.type _ _ hu]; simp) (by simpa [zO] using e) f1 f2
      | sl el=>simp [zU] at f1
  | [],_ :: _,_,_,_,_,_,_,h,_,_,_,_,_,_,_,_,_=>by simp [j7h] at h
  | _ :: _,[],_,_,_,_,_,_,h,_,_,_,_,_,_,_,_,_=>by simp [j7h] at h
theorem jaY {P:Program} {t:Nat} {ti:TI} {fs:Array Go.Field} (hu:P.underlying t=some (.struct fs)) (h1:j7h P 0 fs.toList ti.cts=true) (h2:P.stoodInHeld t=false) (h3:P.eqGuardType P.depth t=false):jdN P t ti:=by
 intro xs ys l m r _ he f1 f2 g H w ty hl hm hx hy x y
 have hf:P.fieldsOf t=fs:=by simp [Program.fieldsOf,hu]
 have hu':P.underlying t=some (.struct (P.fieldsOf t)):=by rw [hf]; exact hu
 have hrun:(Op.equalIn 10000 t (.agg xs.toArray) (.agg ys.toArray)).run P w = .ok r w:=by
  rw [run_equalIn_struct w 9999 t _ _ hu' h2,hf]
  exact ja1 (d:=9998) h1 hl hm hx hy (fun i=>by simp) (fun i=>by simp) he f1 f2
 constructor
 ·rw [Sem.run_bind,run_eqGuard_agg w _ _ _ _ _ _ h3,Result.andThen_ok,run_eql_struct,hrun]
  rfl
 ·rw [Sem.run_bind,run_eqGuard_agg w _ _ _ _ _ _ h3,Result.andThen_ok,run_neq_struct,hrun]
  rfl
def jat:CT → Value → Bool
 | .b,.bool b=>!b
 | .i k,.int k' n=>decide (k'=k) && n == 0
 | .s,.string s=>Nat.beq s.data.size 0
 | .sl _,.slice none n c=>Nat.beq n 0 && Nat.beq c 0
 | _,_=>false
def j0T:List CT → List Value → Bool
 | [],[]=>true
 | c :: cs,v :: vs=>jat c v && j0T cs vs
 | _,_=>false
theorem j7v {c:CT} {v:Value} (h:jat c v=true):v=Q5 c:=by
 unfold jat at h
 split at h
 ·simp at h; simp [h,Q5]
 ·simp at h; simp [h.1,h.2,Q5]
 ·rename_i s
  have:=Nat.eq_of_beq_eq_true h
  simp only [Q5]
  congr 1
  apply ByteArray.ext
  exact Array.eq_empty_of_size_eq_zero this
 ·simp only [jk] at h
  rw [Nat.eq_of_beq_eq_true h.1,Nat.eq_of_beq_eq_true h.2]
  rfl
 ·simp at h
theorem j3R:∀ {cs:List CT} {vs:List Value},j0T cs vs=true → vs=cs.map Q5
 | [],[],_=>rfl
 | c :: cs,v :: vs,h=>by
  simp only [j0T,jk] at h
  rw [js,← j7v h.1,← j3R h.2]
 | [],_ :: _,h=>by simp [j0T] at h
 | _ :: _,[],h=>by simp [j0T] at h
def j4t (P:Program) (n:Nat):List Go.Field → List (Nat × Nat × Bool) → Bool
 | [],[]=>true
 | f :: fs,x :: xs=>Nat.beq f.offset x.1 && ((P.info? f.type).map (·.size) == some x.2.1) && ((P.underlying f.type).map Xl == some x.2.2) && Nat.ble (x.1 + x.2.1) n && j4t P n fs xs
 | _,_=>false
theorem j6h {P:Program} {n:Nat}:∀ {fs:List Go.Field} {xs:List (Nat × Nat × Bool)},j4t P n fs xs=true → fs.length=xs.length ∧ ∀ (j:Nat) (f:Go.Field) (x:Nat × Nat × Bool),fs[j]? = some f → xs[j]? = some x → FldOk P n f x
 | [],[],_=>⟨rfl,fun j f x h=>by simp at h⟩
 | f :: fs,x :: xs,h=>by
  simp only [j4t,jk,beq_iff_eq] at h
  obtain ⟨⟨⟨⟨h1,h2⟩,h3⟩,h4⟩,h5⟩:=h
  obtain ⟨k1,k2⟩:=j6h h5
  refine ⟨by simp [k1],fun j g y hj hy=>?_⟩
  cases j with
  | zero =>
   simp only [List.getElem?_cons_zero,j8] at hj hy
   subst hj
   subst hy
   refine ⟨Nat.eq_of_beq_eq_true h1,?_,?_,Nat.le_of_ble_eq_true h4⟩
   ·cases hi:P.info? f.type with
    | none=>rw [hi] at h2; simp at h2
    | some inf=>rw [hi] at h2; exact ⟨inf,rfl,by simpa using h2⟩
   ·cases hi:P.underlying f.type with
    | none=>rw [hi] at h3; simp at h3
    | some d=>rw [hi] at h3; exact ⟨d,rfl,by simpa using h3⟩
  | succ j=>exact k2 j g y (by simpa using hj) (by simpa using hy)
 | [],_ :: _,h=>by simp [j4t] at h
 | _ :: _,[],h=>by simp [j4t] at h
def j9T (ty:Nat → Option TI):Nat → List Go.Field → List CT → Bool
 | _,[],cts=>(match cts with | []=>true | _=>false)
 | off,f :: fs,cts=>Nat.beq f.offset off && match ty f.type with
  | some tf=>CT.sameL (cts.take tf.cts.length) tf.cts && j9T ty (off + tf.cts.length) fs (cts.drop tf.cts.length)
  | none=>false
theorem j7P {ty:Nat → Option TI}:∀ {fs:List Go.Field} {off:Nat} {cts:List CT},j9T ty off fs cts=true → Lay ty off fs cts
 | [],off,cts,h=>by
  simp only [j9T] at h
  split at h
  ·rfl
  ·simp at h
 | f :: fs,off,cts,h=>by
  simp only [j9T,jk] at h
  refine ⟨Nat.eq_of_beq_eq_true h.1,?_⟩
  have h2:=h.2
  split at h2
  ·rename_i tf htf
   simp only [jk] at h2
   have:=CT.sameL_eq h2.1
   refine ⟨tf,cts.drop tf.cts.length,htf,?_,j7P h2.2⟩
   conv=>lhs; rw [← List.take_append_drop tf.cts.length cts]
   rw [this]
  ·simp at h2
def kdB (P:Program) (ty:Nat → Option TI) (ti:TI):TypeDesc → Bool
 | .bool=>(match ti.kd,ti.cts with | .bool,[.b]=>true | _,_=>false)
 | .int k=>(match ti.kd,ti.cts with | .int k',[.i k'']=>decide (k'=k) && decide (k''=k) | _,_=>false)
 | .string=>(match ti.kd,ti.cts with | .str,[.s]=>true | _,_=>false)
 | .slice e=>(match ti.kd,ti.cts,ty e with | .slice e',[.sl e''],some te=>Nat.beq e' e && Nat.beq e'' e && Nat.blt 0 te.cts.length | _,_,_=>false)
 | .struct fs=>(match ti.kd with | .struct=>true | _=>false) && j4t P ti.cts.length fs.toList ti.flds && j9T ty 0 fs.toList ti.cts
 | _=>false
def tiB (P:Program) (ty:Nat → Option TI) (t:Nat) (ti:TI):Bool :=
 match P.info? t,P.underlying t with
 | some inf,some d=>Nat.beq inf.size ti.cts.length && Nat.beq inf.bytes ti.bytes && (match inf.zero with
   | some z=>j0T ti.cts z.cells.toList && (jQ (some ti) || (match ti.cts with | [c]=>jat c z | _=>false))
   | none=>false) && kdB P ty ti d && (!ti.eq || (match d with | .struct fs=>j7h P 0 fs.toList ti.cts && !(P.stoodInHeld t) && !(P.eqGuardType P.depth t) | _=>false))
 | _,_=>false
theorem jbs {P:Program} {ty:Nat → Option TI} {t:Nat} {ti:TI} (h:tiB P ty t ti=true):TIok P t ti ∧ RdTy P ty t ti:=by
 unfold tiB at h
 split at h
 ·rename_i inf d hi hd
  rw [jk,jk,jk,jk] at h
  obtain ⟨⟨⟨⟨h1,h2⟩,h3⟩,h4⟩,h5⟩:=h
  have h1:=Nat.eq_of_beq_eq_true h1
  have h2:=Nat.eq_of_beq_eq_true h2
  split at h3
  ·rename_i z hz
   simp only [jk,Bool.or_eq_true] at h3
   have hc:z.cells=(ti.cts.map Q5).toArray:=by
    apply Array.toList_inj.1
    simpa using j3R h3.1
   have hk:j5n P ti d ∧ (match some d with
     | some .bool=>ti.cts=[.b]
     | some (.int k)=>ti.cts=[.i k]
     | some .string=>ti.cts=[.s]
     | some (.slice e)=>ti.cts=[.sl e] ∧ ∃ te,ty e=some te ∧ 0 < te.cts.length
     | some (.struct fs)=>Lay ty 0 fs.toList ti.cts
     | _=>False):=by
    unfold kdB at h4
    split at h4
    ·split at h4
     ·rename_i ha hb; exact ⟨⟨ha,hb⟩,hb⟩
     ·simp at h4
    ·split at h4
     ·rename_i ha hb
      simp only [jk,decide_eq_true_eq] at h4
      obtain ⟨rfl,rfl⟩:=h4
      exact ⟨⟨ha,hb⟩,hb⟩
     ·simp at h4
    ·split at h4
     ·rename_i ha hb; exact ⟨⟨ha,hb⟩,hb⟩
     ·simp at h4
    ·split at h4
     ·rename_i ha hb hte
      simp only [jk] at h4
      obtain ⟨⟨k1,k2⟩,k3⟩:=h4
      have k1:=Nat.eq_of_beq_eq_true k1
      have k2:=Nat.eq_of_beq_eq_true k2
      subst k1
      rw [k2] at hb
      exact ⟨⟨ha,hb⟩,hb,_,hte,by simpa [Nat.blt_eq] using k3⟩
     ·simp at h4
    ·simp only [jk] at h4
     obtain ⟨⟨k1,k2⟩,k3⟩:=h4
     obtain ⟨q1,q2⟩:=j6h k2
     split at k1
     ·rename_i ha
      exact ⟨⟨ha,by simpa using q1,fun j f x hj hx=>q2 j f x (by simpa using hj) hx⟩,j7P k3⟩
     ·simp at k1
    ·simp at h4
   refine ⟨⟨⟨inf,z,hi,h1,h2,hz,hc⟩,⟨d,hd,hk.1⟩,fun hs=>⟨inf,hi,?_⟩,?_⟩,⟨by rw [hd]; exact hk.2,by rw [Program.cellsOf,hi]; exact h1⟩⟩
   ·rcases h3.2 with h | h
    ·rw [hs] at h; simp at h
    ·split at h
     ·rename_i c hcc
      rw [hz,hcc,j7v h]
      rfl
     ·simp at h
   ·rw [Bool.or_eq_true] at h5
    rcases h5 with h5 | h5
    ·intro xs ys l m r he
     rw [he] at h5
     simp at h5
    ·split at h5
     ·simp only [jk,Bool.not_eq_true'] at h5
      exact jaY hd h5.1.1 h5.1.2 h5.2
     ·simp at h5
  ·simp at h3
 ·simp at h
def tyB (P:Program) (l:List (Nat × TI)):Bool:=l.all fun x=>tiB P (fun t=>Xk t l) x.1 x.2
theorem j6J {P:Program} {l:List (Nat × TI)} (h:tyB P l=true):y9 P (fun t=>Xk t l) ∧ ∀ t ti,Xk t l=some ti → RdTy P (fun t=>Xk t l) t ti:=by
 have key:∀ t ti,Xk t l=some ti → TIok P t ti ∧ RdTy P (fun t=>Xk t l) t ti:=fun t ti ht=>jbs (List.all_eq_true.1 h (t,ti) (j2X ht))
 exact ⟨fun t ti ht=>(key t ti ht).1,fun t ti ht=>(key t ti ht).2⟩
theorem j81 {p:Nat × FI → Prop}:∀ x ∈ ([]:List (Nat × FI)),p x:=fun _ h=>by cases h
theorem all_cons {p:Nat × FI → Prop} {a:Nat × FI} {l:List (Nat × FI)} (h:p a) (hl:∀ x ∈ l,p x):∀ x ∈ a :: l,p x:=fun x hx=>by
 rcases List.mem_cons.1 hx with rfl | hx
 ·exact h
 ·exact hl x hx
theorem ja0 {P:Program} {G:Glob} {ty:Nat → Option TI} {l:List (Nat × FI)} (h:∀ x ∈ l,FnOk P G ty x.1 x.2):∀ f fi,Xk f l=some fi → FnOk P G ty f fi:=fun f fi hf=>h (f,fi) (j2X hf)
theorem j4A {H:Type} {enc:TypeId × Value → H} {P:Program} (hl:laidOutB P=true) {W W':World} (hb:RowKit.Below W.heap.size W W'):∀ {ts:List TypeId} {vs:List Value} {ds:List (DataW H)} {ps:List MemPlace},
  (ts.all fun t=>P.readableRec t && Nat.blt t P.types.size)=true → DataW.TrodAll enc P W 0 (fun _=>true) true ts vs ds ps → DataW.TrodAll enc P W' 0 (fun b=>decide (b < W.heap.size)) true ts vs ds ps
 | [],[],[],ps,_,h=>h
 | t :: ts,v :: vs,d :: ds,ps,ht,⟨p,q,h1,h2,h3⟩=>by
  simp only [List.all_cons,jk] at ht
  obtain ⟨⟨k1,k2⟩,k3⟩:=ht
  refine ⟨p,q,RowKit.Below.trod hl k1 (by simpa [Nat.blt_eq] using k2) h1 hb ?_,j4A hl hb k3 h2,h3⟩
  obtain ⟨m,hm⟩:=h1
  exact DataW.trod_lt m _ _ _ hm
 | [],_ :: _,_,_,_,h=>h.elim
 | [],[],_ :: _,_,_,h=>h.elim
 | _ :: _,[],_,_,_,h=>h.elim
 | _ :: _,_ :: _,[],_,_,h=>h.elim
theorem j0U {n:Int} (h1:-9223372036854775808 ≤ n) (h2:n ≤ 9223372036854775807):IntKind.i64.wrap n=n:=by
 rw [IntKind.wrap_i64]
 omega
def Out.esc (o:Out):Prop:=∀ K,o.andThen K=o
theorem Out.esc_ret (v:List DC):(Out.ret v).esc:=fun _=>rfl
theorem Out.esc_ex (id:Nat) (v:List DC):(Out.ex id v).esc:=fun _=>rfl
theorem jH {F:List DC → Out} {v v':List DC} (h:F v = .norm v'):jy F v=jy F v':=by rw [j2B,h]; rfl
theorem yS {F:List DC → Out} {v r:List DC} (h:F v = .ret r):jy F v = .ret r:=by rw [j2B,h]; rfl
theorem jK {F:List DC → Out} {v r:List DC} {id:Nat} (h:F v = .ex id r):jy F v = .ex id r:=by rw [j2B,h]; rfl
theorem j0K {F:List DC → Out} {v:List DC} {o:Out} (h:F v=o) (he:o.esc):jy F v=o:=by rw [j2B,h,he]
theorem pE {F:List DC → Out} {st:Nat → List DC} {o:Out}:∀ (m i:Nat),(∀ j,i ≤ j → j < i + m → F (st j) = .norm (st (j + 1))) → jy F (st (i + m))=o → jy F (st i)=o
 | 0,i,_,h2=>by simpa using h2
 | m + 1,i,h1,h2=>by
  rw [jH (h1 i (Nat.le_refl _) (by omega))]
  refine pE m (i + 1) (fun j hj hj'=>h1 j (by omega) (by omega)) ?_
  rw [show i + 1 + m=i + (m + 1) by omega]
  exact h2
def goF {α:Type} (p:α → Bool) (stop:Nat → α → Out) (fin:Out):Nat → List α → Out
 | _,[]=>fin
 | i,x :: xs=>if p x=true then stop i x else goF p stop fin (i + 1) xs
theorem j4E {α:Type} {l:List α} {st:Nat → List DC} {p:α → Bool} {stop:Nat → α → Out} {fin:Out} {F:List DC → Out}
  (hF:∀ (i:Nat) (hi:i < l.length),F (st i)=if p l[i]=true then stop i l[i] else .norm (st (i + 1)))
  (hs:∀ i x,(stop i x).esc) (hend:F (st l.length)=fin) (hfin:fin.esc):∀ (m i:Nat),i + m=l.length → jy F (st i)=goF p stop fin i (l.drop i)
 | 0,i,hi=>by
  have:i=l.length:=by omega
  subst this
  rw [List.drop_length,goF]
  exact j0K hend hfin
 | m + 1,i,hi=>by
  have hlt:i < l.length:=by omega
  rw [List.drop_eq_getElem_cons hlt,goF]
  by_cases hp:p l[i]=true
  ·rw [if_pos hp]
   exact j0K (by rw [hF i hlt,if_pos hp]) (hs _ _)
  ·rw [if_neg hp,jH (by rw [hF i hlt,if_neg hp])]
   exact j4E hF hs hend hfin m (i + 1) (by omega)
theorem yK {α:Type} {l:List α} {st:Nat → List DC} {p:α → Bool} {stop:Nat → α → Out} {fin:Out} {F:List DC → Out}
  (hF:∀ (i:Nat) (hi:i < l.length),F (st i)=if p l[i]=true then stop i l[i] else .norm (st (i + 1)))
  (hs:∀ i x,(stop i x).esc) (hend:F (st l.length)=fin) (hfin:fin.esc):jy F (st 0)=goF p stop fin 0 l:=by
 have:=j4E hF hs hend hfin l.length 0 (by omega)
 rwa [List.drop_zero] at this
theorem j7S {α:Type} {p:α → Bool} {a:Out} {fin:Out}:∀ (l:List α) (i:Nat),goF p (fun _ _=>a) fin i l=if l.any p=true then a else fin
 | [],i=>rfl
 | x :: l,i=>by
  rw [goF,j7S l (i + 1),List.any_cons]
  cases p x <;> simp
theorem jz {i n:Nat} (h:i < n) (hn:n ≤ 9223372036854775807):IntKind.i64.wrap ((i:Int) + 1)=((i + 1:Nat):Int):=by
 rw [j0U (by omega) (by omega)]
 simp
theorem jx {α:Type} {f:α → List DC} {l:List α} {i:Nat} (h:i < l.length):(l.map f).getD i []=f l[i]:=by
 rw [List.getD_eq_getElem?_getD,List.getElem?_map,List.getElem?_eq_getElem h]
 rfl
theorem zz0 {α:Type} {x:α} {l:List α} {d:α}:(x :: l).getD 0 d=x:=List.getD_cons_zero
theorem zz1 {α:Type} {x:α} {l:List α} {i:Nat} {d:α}:(x :: l).getD (i + 1) d=l.getD i d:=List.getD_cons_succ
@[simp] theorem zb (x:Bool):(DC.b x).bb=x:=rfl
@[simp] theorem zi (x:Int):(DC.i x).ii=x:=rfl
@[simp] theorem zs (x:List UInt8):(DC.s x).ss=x:=rfl
@[simp] theorem zl (x:List (List DC)):(DC.sl x).ll=x:=rfl
theorem zt (b:Bool):b=true ∨ b=false:=Bool.eq_false_or_eq_true b
theorem zm {α β:Type} (f:α → β) {l:List α}:(l.map f).length=l.length:=List.length_map f
theorem zf:(false=true)=False:=Bool.false_eq_true
section
variable {P:Program} {ty:Nat → Option TI}
end
section
variable {P:Program} {ty:Nat → Option TI}
theorem j1A {w:World} {l:List (List DC)} {vs:List Value} {F:List Nat} (h:RdV ty w [.s] l vs F):vs=(l.map fun x=>(x.getD 0 d0).ss).map fun s=>Value.string ⟨s.toArray⟩:=by
 cases h with
 | nil=>rfl
 | cons _ x l v vs F G h1 h2 =>
  cases h1 with
  | cons t ts y ys u us F1 F2 a1 a2 =>
   cases a1
   cases a2
   rw [j1A h2]
   rfl
end
end Go.Proofs.QV
