import Derived.Test.YtjmfjemandkfdacGreatDoorMZ3
/- A call,from without: what is handed over. -/
namespace Go.Proofs.QV
open Go
open _root_.Option.some renaming injEq → j5
open _root_.List renaming eq_nil_of_length_eq_zero → jY, flatMap_cons → jz, singleton_append → jU, cons_append → jN, map_cons → jL, nil_append → jy, append_nil → jV, length_nil → j6, getElem_mem → je
open _root_.Nat renaming lt_or_ge → jA
open _root_.Bool renaming and_eq_true → jj
open _root_.Prod.mk renaming injEq → jg
set_option linter.unusedVariables false
set_option linter.unusedSimpArgs false
section
variable {P:Program} {ty:Nat → Option TI} {fn:Nat → Option FI} {cl:Nat → Hint → List DC → Out} {A:An} {w:World}
def Yy:List KC → List Value → List Value → Prop
 | [],[],vs=>vs=[]
 | .one _ :: ks,u :: us,vs=>∃ r,vs=u :: r ∧ Yy ks us r
 | .agg l :: ks,u :: us,vs=>∃ x r,u = .agg (List.toArray x) ∧ x.length=l.length ∧ vs=x ++ r ∧ Yy ks us r
 | _,_,_=>False
theorem j37 {g:Gh} {H:List HS}:∀ {ks:List KC} {cs:List C} {p:List S} {us:List Value},V0 ks cs=some p → us.length=cs.length → (∀ (i:Nat) (c:C) (v:Value),cs[i]? = some c → us[i]? = some v → CR ty g H w c v) →
  ∃ vs:List Value,zo ty g H w p vs ∧ Yy ks us vs
 | [],[],p,us,e,hl,hc=>by
  simp only [V0,j5] at e
  subst e
  have:us=[]:=jY hl
  subst this
  exact ⟨[],trivial,rfl⟩
 | k :: ks,c :: cs,p,us,e,hl,hc=>by
  match us,hl with
  | u :: us,hl =>
   have hcs:∀ (i:Nat) (c:C) (v:Value),cs[i]? = some c → us[i]? = some v → CR ty g H w c v:=fun i c v h1 h2=>hc (i + 1) c v h1 h2
   have hl':us.length=cs.length:=by simpa using hl
   have hc0:=hc 0 c u rfl rfl
   unfold V0 at e
   split at e
   ·rename_i heq _; simp at heq
   ·rename_i ks' c' cs' hk hcc
    simp only [List.cons.injEq] at hk hcc
    obtain ⟨rfl,rfl⟩:=hk
    obtain ⟨rfl,rfl⟩:=hcc
    split at e
    ·rename_i r hr
     simp only [j5] at e
     subst e
     obtain ⟨vs,h1,h2⟩:=j37 hr hl' hcs
     exact ⟨u :: vs,⟨trivial,h1⟩,vs,rfl,h2⟩
    ·simp at e
   ·rename_i k1 ks' s cs' _ hk hcc
    simp only [List.cons.injEq] at hk hcc
    obtain ⟨rfl,rfl⟩:=hk
    obtain ⟨rfl,rfl⟩:=hcc
    split at e
    ·rename_i r hr
     simp only [j5] at e
     subst e
     obtain ⟨vs,h1,h2⟩:=j37 hr hl' hcs
     exact ⟨u :: vs,⟨hc0,h1⟩,vs,rfl,h2⟩
    ·simp at e
   ·rename_i l ks' ss cs' hk hcc
    simp only [List.cons.injEq] at hk hcc
    obtain ⟨rfl,rfl⟩:=hk
    obtain ⟨rfl,rfl⟩:=hcc
    split at e
    ·rename_i hlen
     split at e
     ·rename_i r hr
      simp only [j5] at e
      subst e
      obtain ⟨xs,hx,hs⟩:=hc0
      obtain ⟨vs,h1,h2⟩:=j37 hr hl' hcs
      exact ⟨xs ++ vs,hs.append h1,xs,vs,hx,by rw [hs.length,hlen],rfl,h2⟩
     ·simp at e
    ·simp at e
   ·simp at e
 | [],_ :: _,_,_,e,_,_=>by simp [V0] at e
 | .one _ :: _,[],_,_,e,_,_=>by simp [V0] at e
 | .agg _ :: _,[],_,_,e,_,_=>by simp [V0] at e
theorem Yy.data:∀ {ks:List KC} {us vs:List Value},Yy (ks.map KC.data) us vs → Yy ks us vs
 | [],[],vs,h=>h
 | .one k :: ks,u :: us,vs,⟨r,h1,h2⟩=>⟨r,h1,Yy.data h2⟩
 | .agg l :: ks,u :: us,vs,⟨x,r,h1,h2,h3,h4⟩=>⟨x,r,h1,by simpa using h2,h3,Yy.data h4⟩
 | [],_ :: _,_,h=>h.elim
 | .one _ :: _,[],_,h=>h.elim
 | .agg _ :: _,[],_,h=>h.elim
theorem Yy.length:∀ {ks:List KC} {us vs:List Value},Yy ks us vs → us.length=ks.length ∧ vs.length=(ks.flatMap KC.kinds).length
 | [],[],vs,h=>by rw [show vs=[] from h]; exact ⟨rfl,rfl⟩
 | .one k :: ks,u :: us,vs,⟨r,h1,h2⟩=>by
  obtain ⟨a,b⟩:=Yy.length h2
  subst h1
  exact ⟨by simp [a],by simp [KC.kinds,b]⟩
 | .agg l :: ks,u :: us,vs,⟨x,r,h1,h2,h3,h4⟩=>by
  obtain ⟨a,b⟩:=Yy.length h4
  subst h3
  exact ⟨by simp [a],by simp [KC.kinds,b,h2]⟩
 | [],_ :: _,_,h=>h.elim
 | .one _ :: _,[],_,h=>h.elim
 | .agg _ :: _,[],_,h=>h.elim
theorem Yy.mkT {g:Gh} {H:List HS} (v:List DC):∀ {ks:List KC} {us vs:List Value} (n:Nat),Yy ks us vs → zo ty g H w (mkL v n (ks.flatMap KC.kinds)) vs →
  (mkT v n ks).length=us.length ∧ ∀ (i:Nat) (c:C) (u:Value),(Go.Proofs.QV.mkT v n ks)[i]? = some c → us[i]? = some u → CR ty g H w c u
 | [],[],vs,n,_,_=>⟨rfl,fun i c u hi=>by simp [Go.Proofs.QV.mkT] at hi⟩
 | .one k :: ks,u :: us,vs,n,⟨r,h1,h2⟩,hs=>by
  subst h1
  simp only [jz,KC.kinds,jU,mkL] at hs
  obtain ⟨q1,q2⟩:=Yy.mkT v (n + k.cnt) h2 hs.2
  refine ⟨by simp [Go.Proofs.QV.mkT,q1],fun i c u' hi hu=>?_⟩
  cases i with
  | zero =>
   simp only [Go.Proofs.QV.mkT,List.getElem?_cons_zero,j5] at hi hu
   subst hi
   subst hu
   exact hs.1
  | succ i =>
   simp only [Go.Proofs.QV.mkT,List.getElem?_cons_succ] at hi hu
   exact q2 i c u' hi hu
 | .agg l :: ks,u :: us,vs,n,⟨x,r,h1,h2,h3,h4⟩,hs=>by
  subst h3
  simp only [jz,KC.kinds,Jk] at hs
  obtain ⟨hh1,hh2⟩:=hs.unappend (by rw [Jj,h2])
  obtain ⟨q1,q2⟩:=Yy.mkT v _ h4 hh2
  refine ⟨by simp [Go.Proofs.QV.mkT,q1],fun i c u' hi hu=>?_⟩
  cases i with
  | zero =>
   simp only [Go.Proofs.QV.mkT,List.getElem?_cons_zero,j5] at hi hu
   subst hi
   subst hu
   exact ⟨x,h1,hh1⟩
  | succ i =>
   simp only [Go.Proofs.QV.mkT,List.getElem?_cons_succ] at hi hu
   exact q2 i c u' hi hu
 | [],_ :: _,_,_,h,_=>h.elim
 | .one _ :: _,[],_,_,h,_=>h.elim
 | .agg _ :: _,[],_,_,h,_=>h.elim
def PF (ty:Nat → Option TI) (g:Gh) (H:List HS) (w:World) (ids:List Nat) (ks:List K1) (vs:List Value):Prop :=
 ∀ (i:Nat) (k:K1) (u:Value),ks[i]? = some k → vs[i]? = some u →
  (∀ m off,k = .ptr m off → off=0 ∧ ∃ id,ids[m]? = some id ∧ SR ty g H w (.ptr id 0) u) ∧
  (∀ f caps,k = .fn f caps → ∃ caps0:List Nat,SR ty g H w (.fn f caps0) u ∧ caps.length=caps0.length ∧ ∀ (j m:Nat),caps[j]? = some m → ids[m]? = caps0[j]?)
theorem CT.k1_plain (t:CT):(∀ m off,t.k1 ≠ .ptr m off) ∧ (∀ f caps,t.k1 ≠ .fn f caps) ∧ t.k1.data=t.k1 ∧ t.k1.cnt=1 ∧ t.k1.ids=[] ∧ t.k1.pids=[]:=by
 cases t <;> exact ⟨fun _ _ h=>by simp [CT.k1] at h,fun _ _ h=>by simp [CT.k1] at h,rfl,rfl,rfl,rfl⟩
theorem jdQ {g:Gh} {H:List HS} {ids:List Nat}:∀ {ps:List PK} {cs:List C} {n r:Nat} {kcs:List KC} {us vs:List Value},Vv n r ps cs=some kcs → Yy kcs us vs →
  (∀ (i:Nat) (c:C) (v:Value),cs[i]? = some c → us[i]? = some v → CR ty g H w c v) → (∀ (j id:Nat),(ym ps cs)[j]? = some id → ids[n + j]? = some id) → PF ty g H w ids (kcs.flatMap KC.kinds) vs
 | [],[],n,r,kcs,us,vs,e,hf,hc,hi=>by
  simp only [Vv,j5] at e
  subst e
  intro i k u h
  simp at h
 | p :: ps,c :: cs,n,r,kcs,us,vs,e,hf,hc,hi=>by
  have one:∀ (k1:K1) (n' r':Nat) (l:List KC),Vv n' r' ps cs=some l → kcs = .one k1 :: l → (∀ (j id:Nat),(ym ps cs)[j]? = some id → ids[n' + j]? = some id) →
    (∀ u,CR ty g H w c u → (∀ m off,k1 = .ptr m off → off=0 ∧ ∃ id,ids[m]? = some id ∧ SR ty g H w (.ptr id 0) u) ∧
     (∀ f caps,k1 = .fn f caps → ∃ caps0:List Nat,SR ty g H w (.fn f caps0) u ∧ caps.length=caps0.length ∧ ∀ (j m:Nat),caps[j]? = some m → ids[m]? = caps0[j]?)) →
    PF ty g H w ids (kcs.flatMap KC.kinds) vs:=by
   intro k1 n' r' l hl hk hids hk1
   subst hk
   match us,hf with
   | u :: us,⟨rr,h1,h2⟩ =>
    subst h1
    have ih:=jdQ hl h2 (fun i c v a b=>hc (i + 1) c v a b) hids
    intro i k x hik hix
    simp only [jz,KC.kinds,jU] at hik
    cases i with
    | zero =>
     simp only [List.getElem?_cons_zero,j5] at hik hix
     subst hik
     subst hix
     exact hk1 u (hc 0 c u rfl rfl)
    | succ i =>
     simp only [List.getElem?_cons_succ] at hik hix
     exact ih i k x hik hix
  cases p with
  | ct t =>
   simp only [Vv] at e
   split at e
   ·rename_i l hl
    simp only [j5] at e
    refine one t.k1 n r l hl e.symm (by simpa [ym] using hi) fun u _=>⟨fun m off h=>absurd h ((CT.k1_plain t).1 m off),fun f caps h=>absurd h ((CT.k1_plain t).2.1 f caps)⟩
   ·simp at e
  | ag ts =>
   simp only [Vv] at e
   split at e
   ·rename_i l hl
    simp only [j5] at e
    subst e
    match us,hf with
    | u :: us,⟨x,rr,h1,h2,h3,h4⟩ =>
     subst h3
     have ih:=jdQ hl h4 (fun i c v a b=>hc (i + 1) c v a b) (by simpa [ym] using hi)
     intro i k y hik hiy
     simp only [jz,KC.kinds] at hik
     have hlen:(ts.map CT.k1).length=x.length:=h2.symm
     by_cases hlt:i < x.length
     ·rw [List.getElem?_append_left (by omega),List.getElem?_map] at hik
      cases ht:ts[i]? with
      | none=>rw [ht] at hik; simp at hik
      | some t =>
       rw [ht] at hik
       simp only [Option.map_some,j5] at hik
       subst hik
       exact ⟨fun m off h=>absurd h ((CT.k1_plain t).1 m off),fun f caps h=>absurd h ((CT.k1_plain t).2.1 f caps)⟩
     ·rw [List.getElem?_append_right (by omega)] at hik hiy
      rw [hlen] at hik
      exact ih _ k y hik hiy
   ·simp at e
  | mv el =>
   simp only [Vv] at e
   split at e
   ·rename_i l hl
    simp only [j5] at e
    exact one (.own el r) n (r + 1) l hl e.symm (by simpa [ym] using hi) fun u _=>⟨fun m off h=>by simp at h,fun f caps h=>by simp at h⟩
   ·simp at e
  | ptr =>
   cases c with
   | one s =>
    cases s with
    | ptr id0 off0 =>
     cases off0 with
     | succ _=>simp [Vv] at e
     | zero =>
      simp only [Vv] at e
      split at e
      ·rename_i l hl
       simp only [j5] at e
       refine one (.ptr n 0) (n + 1) r l hl e.symm (fun j id hj=>?_) fun u hu=>⟨fun m off h=>?_,fun f caps h=>by simp at h⟩
       ·rw [Nat.add_assoc,Nat.add_comm 1 j]
        exact hi (j + 1) id (by simpa [ym] using hj)
       ·simp only [K1.ptr.injEq] at h
        obtain ⟨rfl,rfl⟩:=h
        exact ⟨rfl,id0,by have:=hi 0 id0 (by simp [ym]); simpa using this,hu⟩
      ·simp at e
    | _=>simp [Vv] at e
   | _=>simp [Vv] at e
  | fn =>
   cases c with
   | one s =>
    cases s with
    | fn f0 caps0 =>
     simp only [Vv] at e
     split at e
     ·rename_i l hl
      simp only [j5] at e
      refine one (.fn f0 (List.range' n caps0.length)) (n + caps0.length) r l hl e.symm (fun j id hj=>?_) fun u hu=>⟨fun m off h=>by simp at h,fun f caps h=>?_⟩
      ·rw [Nat.add_assoc]
       exact hi (caps0.length + j) id (by simp only [ym]; rw [List.getElem?_append_right (by omega),Nat.add_sub_cancel_left]; exact hj)
      ·simp only [K1.fn.injEq] at h
       obtain ⟨rfl,rfl⟩:=h
       refine ⟨caps0,hu,by simp,fun j m hj=>?_⟩
       have hjl:j < caps0.length:=by
        rcases jA j caps0.length with h' | h'
        ·exact h'
        ·rw [List.getElem?_eq_none (by simpa using h')] at hj; simp at hj
       rw [List.getElem?_range' hjl] at hj
       simp only [Nat.one_mul,j5] at hj
       rw [← hj,List.getElem?_eq_getElem hjl]
       exact hi j _ (by simp only [ym]; rw [List.getElem?_append_left hjl,List.getElem?_eq_getElem hjl])
     ·simp at e
    | _=>simp [Vv] at e
   | _=>simp [Vv] at e
 | [],_ :: _,_,_,_,_,_,e,_,_,_=>by simp [Vv] at e
 | p :: _,[],_,_,_,_,_,e,_,_,_=>by cases p <;> simp [Vv] at e
theorem jdg {H:List HS}:∀ {ids:List Nat} {kos:List KO},j8k ty H ids=some kos → kos.length=ids.length ∧ (∀ (j:Nat) (k:KO),kos[j]? = some k → ∃ t l,k = .var t l) ∧ (∀ id ∈ ids,ql H id) ∧ ∀ k ∈ kos.flatMap KO.kinds,∃ t:CT,k=t.k1
 | [],kos,e=>by
  simp only [j8k,j5] at e
  subst e
  exact ⟨rfl,fun j k h=>by simp at h,fun _ h=>by simp at h,fun _ h=>by simp at h⟩
 | id :: ids,kos,e=>by
  simp only [j8k] at e
  split at e
  ·rename_i t cs hv
   split at e
   ·rename_i ti l hti hl
    simp only [j5] at e
    subst e
    obtain ⟨h1,h2,h3,h4⟩:=jdg hl
    refine ⟨by simp [h1],fun j k hj=>?_,fun i hi=>?_,fun k hk=>?_⟩
    ·cases j with
     | zero=>simp only [List.getElem?_cons_zero,j5] at hj; exact ⟨_,_,hj.symm⟩
     | succ j=>exact h2 j k (by simpa using hj)
    ·rcases List.mem_cons.1 hi with rfl | hi
     ·exact ⟨_,_,hv⟩
     ·exact h3 i hi
    ·simp only [jz,List.mem_append,KO.kinds,List.mem_map] at hk
     rcases hk with ⟨t,_,rfl⟩ | hk
     ·exact ⟨t,rfl⟩
     ·exact h4 k hk
   ·simp at e
  ·simp at e
theorem jdY:∀ {kos:List KO} (n:Nat),(∀ (j:Nat) (k:KO),kos[j]? = some k → ∃ t l,k = .var t l) → KO.vars (kos ++ List.replicate n .u)=kos
 | [],n,_=>by
  cases n <;> simp [KO.vars,List.replicate_succ]
 | k :: kos,n,h=>by
  obtain ⟨t,l,rfl⟩:=h 0 k rfl
  rw [jN,KO.vars,jdY n fun j k hj=>h (j + 1) k (by simpa using hj)]
theorem jgz {g:Gh} {H:List HS} {tm:List C} {a:Act} (h:Rel ty A g ⟨tm,H⟩ a w) (b:Nat → Nat):∀ {ids:List Nat} {kos:List KO} {q:List S} {j0:Nat},j4w H ids kos=some q → (∀ j id,ids[j]? = some id → b (j0 + j)=g.blk id) →
  ∃ us,zo ty g H w q us ∧ OV w b j0 kos us ∧ us.length=(kos.flatMap KO.kinds).length
 | [],[],q,j0,e,hb=>by
  simp only [j4w,j5] at e
  subst e
  exact ⟨[],trivial,rfl,rfl⟩
 | id :: ids,.var t l :: kos,q,j0,e,hb=>by
  simp only [j4w] at e
  split at e
  ·rename_i t' cs hv
   split at e
   ·rename_i hc
    obtain ⟨rfl,hc⟩:=hc
    split at e
    ·rename_i r hr
     simp only [j5] at e
     subst e
     obtain ⟨us,h1,h2,h3⟩:=jgz h b (j0:=j0 + 1) hr fun j i hj=>by
      have:=hb (j + 1) i (by simpa using hj)
      rw [show j0 + 1 + j=j0 + (j + 1) by omega]
      exact this
     obtain ⟨xs,k1,k2,k3,k4⟩:=h.ob id _ hv
     have:=hb 0 id rfl
     rw [Nat.add_zero] at this
     exact ⟨xs ++ us,k2.append h1,⟨xs,us,rfl,by rw [k2.length,hc],by rw [this]; exact k1,k4,h2⟩,by simp [KO.kinds,h3,k2.length,hc]⟩
    ·simp at e
   ·simp at e
  ·simp at e
 | [],_ :: _,_,_,e,_=>by simp [j4w] at e
 | _ :: _,[],_,_,e,_=>by simp [j4w] at e
 | _ :: _,.u :: _,_,_,e,_=>by simp [j4w] at e
theorem jit {g:Gh} {H:List HS} (b:Nat → Nat) (v:List DC) (ks0:List K1) (rest:List KO):∀ {kos:List KO} {us:List Value} {j0 n id:Nat},OV w b j0 kos us → zo ty g H w (mkL v n (kos.flatMap KO.kinds)) us →
  ∀ (i t:Nat) (cs:List S),i < kos.length → (mkO v ks0 n id (kos ++ rest))[i]? = some (.live (.var t cs)) → ∃ us':List Value,w.heap[b (j0 + i)]? = some (.cells us'.toArray t (0,0)) ∧ zo ty g H w cs us' ∧ ∀ u ∈ us',u.oneCell'=true
 | [],us,j0,n,id,_,_,i,t,cs,hi,_=>by simp at hi
 | .var t l :: kos,us,j0,n,id,⟨u1,u2,h1,h2,h3,h4,h5⟩,hs,i,t',cs,hi,hg=>by
  subst h1
  simp only [jz,KO.kinds,Jk] at hs
  obtain ⟨hh1,hh2⟩:=hs.unappend (by rw [Jj,h2])
  cases i with
  | zero =>
   simp only [jN,mkO,List.getElem?_cons_zero,j5,HS.live.injEq,Obj'.var.injEq] at hg
   obtain ⟨rfl,rfl⟩:=hg
   exact ⟨u1,h3,hh1,h4⟩
  | succ i =>
   rw [show j0 + (i + 1)=j0 + 1 + i by omega]
   exact jit b v ks0 rest h5 hh2 i t' cs (by simpa using hi) (by simpa [mkO] using hg)
 | .u :: _,_,_,_,_,h,_,_,_,_,_,_=>h.elim
theorem jiR (k:K1):k.data.cnt=k.cnt:=by cases k <;> rfl
theorem j6b {g g':Gh} {H0 H H':List HS} {v:List DC} (hI:∀ b,g.I b → g'.I b):∀ {n:Nat} {ks:List K1} {us:List Value},FL ty A g H0 H w v n (ks.map K1.data) us →
  (∀ (i e id:Nat) (u:Value),ks[i]? = some (.own e id) → us[i]? = some u → nf H' id ∧ g'.val id=u) →
  (∀ (i m off:Nat) (u:Value),ks[i]? = some (.ptr m off) → us[i]? = some u → SR ty g' H' w (.ptr m off) u) →
  (∀ (i f:Nat) (caps:List Nat) (u:Value),ks[i]? = some (.fn f caps) → us[i]? = some u → SR ty g' H' w (.fn f caps) u) → zo ty g' H' w (mkL v n ks) us
 | _,[],[],_,_,_,_=>trivial
 | n,k :: ks,u :: us,⟨⟨dd,hd,hv,hn⟩,hf⟩,ho,hp,hfn=>by
  have hf':FL ty A g H0 H w v (n + k.cnt) (ks.map K1.data) us:=by rw [← jiR]; exact hf
  refine ⟨?_,j6b hI hf' (fun i e id x h1 h2=>ho (i + 1) e id x (by simpa using h1) (by simpa using h2)) (fun i m off x h1 h2=>hp (i + 1) m off x (by simpa using h1) (by simpa using h2))
   (fun i f caps x h1 h2=>hfn (i + 1) f caps x (by simpa using h1) (by simpa using h2))⟩
  have h0:0 < k.data.cnt → v.getD n d0=dd.getD 0 d0:=fun h=>by simpa using hv 0 h
  cases k with
  | u=>trivial
  | b =>
   obtain ⟨x,rfl,rfl⟩:=hn
   simp only [K1.mk,SR]
   rw [h0 (by simp [K1.cnt,K1.data])]
   rfl
  | i kd =>
   obtain ⟨x,rfl,rfl⟩:=hn
   simp only [K1.mk,SR]
   rw [h0 (by simp [K1.cnt,K1.data])]
   rfl
  | s =>
   obtain ⟨x,rfl,rfl⟩:=hn
   simp only [K1.mk,SR]
   rw [h0 (by simp [K1.cnt,K1.data])]
   rfl
  | sl e =>
   obtain ⟨l,F,rfl,h1,h2⟩:=hn
   simp only [K1.mk,SR]
   rw [h0 (by simp [K1.cnt,K1.data])]
   exact ⟨F,h1,fun b hb=>hI b (h2 b hb)⟩
  | own e id =>
   obtain ⟨l,rfl,hl⟩:=hn
   obtain ⟨h1,h2⟩:=ho 0 e id u rfl rfl
   obtain ⟨ti,vs,F,_,_,h3,_⟩:=hl.row
   exact ⟨h1,j6E h3,fun _=>h2.symm⟩
  | ptr m off=>exact hp 0 m off u rfl rfl
  | fn f caps=>exact hfn 0 f caps u rfl rfl
  | nil=>exact hn.2
 | _,[],_ :: _,h,_,_,_=>h.elim
 | _,_ :: _,[],h,_,_,_=>h.elim
theorem j1j (v:List DC) (id:Nat):∀ (n:Nat) (ks:List K1),Kl v id n (ks.map K1.data)=Kl v id n ks
 | n,[]=>rfl
 | n,k :: ks=>by
  cases k <;> simp only [jL,K1.data,Kl,K1.cnt,j1j v id]
theorem j9b (id:Nat):∀ (ks:List K1) (us:List Value),KX id (ks.map K1.data) us=KX id ks us
 | [],us=>rfl
 | k :: ks,[]=>by cases k <;> rfl
 | k :: ks,u :: us=>by cases k <;> simp only [jL,K1.data,KX,j9b id ks us]
theorem Xy {ks:List K1} {i e id:Nat}:(ks.map K1.data)[i]? = some (.own e id) ↔ ks[i]? = some (.own e id):=by
 rw [List.getElem?_map]
 cases h:ks[i]? with
 | none=>simp
 | some k=>cases k <;> simp [K1.data]
end
section
variable {P:Program} {ty:Nat → Option TI} {fn:Nat → Option FI} {cl:Nat → Hint → List DC → Out} {A:An} {w:World}
theorem j4A:∀ kcs:List KC,kcs.flatMap (fun k=>k.data.kinds)=(kcs.flatMap KC.kinds).map K1.data
 | []=>rfl
 | .one k :: l=>by rw [jz,j4A l,jz,List.map_append]; rfl
 | .agg ks :: l=>by rw [jz,j4A l,jz,List.map_append]; rfl
theorem j2r {ks:List K1} (h:∀ k ∈ ks,∃ t:CT,k=t.k1):ks.map K1.data=ks:=by
 induction ks with
 | nil=>rfl
 | cons k ks ih =>
  obtain ⟨t,rfl⟩:=h k (by simp)
  rw [jL,(CT.k1_plain t).2.2.1,ih fun k hk=>h k (by simp [hk])]
theorem jhs (n:Nat):(List.replicate n KO.u).flatMap KO.kinds=[]:=by
 induction n with
 | zero=>rfl
 | succ n ih=>rw [List.replicate_succ,jz,ih]; rfl
theorem jj0 {g:Gh} {H0 H:List HS} {v:List DC}:∀ {n:Nat} {ks:List K1} {us:List Value} {i e id:Nat} {u:Value},FL ty A g H0 H w v n ks us → ks[i]? = some (.own e id) → us[i]? = some u → ∃ l,Loose ty A g H w e l u
 | _,[],[],i,e,id,u,_,h,_=>by simp at h
 | n,k :: ks,x :: us,0,e,id,u,⟨⟨dd,_,_,hn⟩,_⟩,h1,h2=>by
  simp only [List.getElem?_cons_zero,j5] at h1 h2
  subst h1
  subst h2
  obtain ⟨l,_,hl⟩:=hn
  exact ⟨l,hl⟩
 | n,k :: ks,x :: us,i + 1,e,id,u,⟨_,hf⟩,h1,h2=>by
  simp only [List.getElem?_cons_succ] at h1 h2
  exact jj0 hf h1 h2
 | _,[],_ :: _,_,_,_,_,h,_,_=>h.elim
 | _,_ :: _,[],_,_,_,_,h,_,_=>h.elim
theorem j1t:∀ {ps:List PK} {cs:List C} {n r:Nat} {l:List KC},ps.all PK.plain=true → Vv n r ps cs=some l → ym ps cs=[] ∧ ∀ k ∈ l.flatMap KC.kinds,∃ t:CT,k=t.k1
 | [],[],n,r,l,_,e=>by
  simp only [Vv,j5] at e
  subst e
  exact ⟨rfl,fun k h=>by simp at h⟩
 | p :: ps,c :: cs,n,r,l,hp,e=>by
  simp only [List.all_cons,jj] at hp
  cases p with
  | ct t =>
   simp only [Vv] at e
   split at e
   ·rename_i l' hl
    simp only [j5] at e
    subst e
    obtain ⟨h1,h2⟩:=j1t hp.2 hl
    refine ⟨by simpa [ym] using h1,fun k hk=>?_⟩
    simp only [jz,KC.kinds,jU,List.mem_cons] at hk
    rcases hk with rfl | hk
    ·exact ⟨t,rfl⟩
    ·exact h2 k hk
   ·simp at e
  | ag ts =>
   simp only [Vv] at e
   split at e
   ·rename_i l' hl
    simp only [j5] at e
    subst e
    obtain ⟨h1,h2⟩:=j1t hp.2 hl
    refine ⟨by simpa [ym] using h1,fun k hk=>?_⟩
    simp only [jz,KC.kinds,List.mem_append,List.mem_map] at hk
    rcases hk with ⟨t,_,rfl⟩ | hk
    ·exact ⟨t,rfl⟩
    ·exact h2 k hk
   ·simp at e
  | _=>simp [PK.plain] at hp
 | [],_ :: _,_,_,_,_,e=>by simp [Vv] at e
 | p :: _,[],_,_,_,_,e=>by cases p <;> simp [Vv] at e
theorem jcv:∀ {l:List Nat} {i j x:Nat},Ko l=true → l[i]? = some x → l[j]? = some x → i=j
 | [],i,j,x,_,h,_=>by simp at h
 | a :: l,0,0,x,_,_,_=>rfl
 | a :: l,0,j + 1,x,hn,h1,h2=>by
  simp only [List.getElem?_cons_zero,j5] at h1
  simp only [List.getElem?_cons_succ] at h2
  subst h1
  exact absurd (List.mem_of_getElem? h2) (XA hn).1
 | a :: l,i + 1,0,x,hn,h1,h2=>by
  simp only [List.getElem?_cons_zero,j5] at h2
  simp only [List.getElem?_cons_succ] at h1
  subst h2
  exact absurd (List.mem_of_getElem? h1) (XA hn).1
 | a :: l,i + 1,j + 1,x,hn,h1,h2=>by
  simp only [List.getElem?_cons_succ] at h1 h2
  rw [jcv (XA hn).2 h1 h2]
structure Begun (A:An) (g1:Gh) (H1:List HS) (w:World) (ids:List Nat) (Ac:An):Prop where
 w0:Ac.w0=w
 m:Ac.m=ids.length
 pb:∀ (j id:Nat),ids[j]? = some id → Ac.pb j=g1.blk id
 Pv:∀ b,Ac.Pv b → ∃ id ∈ ids,b=g1.blk id
 Pm:∀ b,Ac.Pm b → b < w.heap.size ∧ ¬ g1.I b ∧ (A.w0.heap.size ≤ b ∨ A.Pm b) ∧ ∀ i p,jJ H1 i = .live p → kX g1 i p ≠ some b
 var:∀ id ∈ ids,ql H1 id
theorem jia {g:Gh} {tm:List C} {H H1:List HS} {a:Act} (h:Rel ty A g ⟨tm,H⟩ a w) {fi:FI} {as:List C} {vals:List Value} (hv:vals.length=as.length)
  (hc:∀ (i:Nat) (c:C) (v:Value),as[i]? = some c → vals[i]? = some v → CR ty g H w c v) {kcs:List KC} {kos:List KO} {p q:List S} {v0:List DC} {nr:Nat}
  (e1:Vv 0 (ym fi.pk as).length fi.pk as=some kcs) (e2:j8k ty H (ym fi.pk as)=some kos) (e3:V0 (kcs.map KC.data) as=some p) (e4:j4w H (ym fi.pk as) kos=some q)
  (e5:ye ty H (kcs.flatMap (fun k=>k.data.kinds) ++ kos.flatMap KO.kinds) (p ++ q)=some (v0,H1)) (hn:Ko (ym fi.pk as)=true) (hok:({ tm:=kcs,ob:=kos ++ List.replicate nr .u }:Hint).ok=true) :
  ∃ (g1:Gh) (Ac:An) (gc:Gh),Rel ty A g1 ⟨tm,H1⟩ a w ∧ Src g g1 H H1 ∧ Begun A g1 H1 w (ym fi.pk as) Ac ∧ Ac.I0=g1.I ∧ (fi.pk.all PK.plain=true → ∀ b,¬ Ac.Pm b) ∧
   Rel ty Ac gc (JU fi { tm:=kcs,ob:=kos ++ List.replicate nr .u } v0) { tmps:=vals.toArray ++ Array.replicate (fi.ntmps - vals.toArray.size) undef,defers:=[] } w ∧ vals.length=kcs.length:=by
 generalize hids:ym fi.pk as=ids at *
 let b:Nat → Nat:=fun j=>g.blk (ids.getD j 0)
 have hb:∀ (j id:Nat),ids[j]? = some id → b j=g.blk id:=fun j id hj=>by simp only [b]; rw [List.getD_eq_getElem?_getD,hj]; rfl
 obtain ⟨vs1,a1,a2⟩:=j37 (us:=vals) e3 hv hc
 have a2:=a2.data
 obtain ⟨k1,k2,k3,k4⟩:=jdg e2
 obtain ⟨vs2,b1,b2,b3⟩:=jgz h b (j0:=0) e4 (fun j id hj=>by rw [Nat.zero_add]; exact hb j id hj)
 obtain ⟨g1,r1,s1,f1,ap,l1,o1⟩:=j5g (H0:=H) [] [] h (fun _ h=>h) (a1.append b1) e5
 simp only [jy,jV,j6] at f1
 let hint:Hint:={ tm:=kcs,ob:=kos ++ List.replicate nr .u }
 have hkinds:hint.kinds=kcs.flatMap KC.kinds ++ kos.flatMap KO.kinds:=by simp [Hint.kinds,hint,jhs]
 have hdata:kcs.flatMap (fun k=>k.data.kinds) ++ kos.flatMap KO.kinds=hint.kinds.map K1.data:=by rw [hkinds,List.map_append,j4A,j2r k4]
 rw [hdata] at f1 ap o1
 simp only [Hint.ok,jj,List.all_eq_true] at hok
 obtain ⟨⟨hnd,hidsok⟩,hpids⟩:=hok
 let gc:Gh:={ I:=g1.I,blk:=b,val:=fun id=>KX id hint.kinds (vs1 ++ vs2) }
 let Ac:An:={ w0:=w,I0:=g1.I,Pv:=fun x=>∃ id ∈ ids,x=g1.blk id,Pm:=fun x=>∃ (i e id:Nat) (u:Value),hint.kinds[i]? = some (.own e id) ∧ (vs1 ++ vs2)[i]? = some u ∧ u.ownBlock=some x,m:=ids.length,pb:=b }
 have hloose:∀ (i e id:Nat) (u:Value),hint.kinds[i]? = some (.own e id) → (vs1 ++ vs2)[i]? = some u → ∃ l,Loose ty A g1 H1 w e l u:=fun i e id u h1 h2=>jj0 f1 (Xy.2 h1) h2
 have hvar1:∀ id ∈ ids,ql H1 id:=fun id hid=>s1.var id (k3 id hid)
 have hvarI:∀ id ∈ ids,¬ g1.I (g1.blk id):=by
  intro id hid hI
  obtain ⟨t,cs,hcs⟩:=hvar1 id hid
  exact X1 r1 hcs rfl hI
 have hbeg:Begun A g1 H1 w ids Ac:=by
  refine ⟨rfl,rfl,fun j id hj=>by rw [s1.blk]; exact hb j id hj,fun x hx=>hx,fun x hx=>?_,hvar1⟩
  obtain ⟨i,e,id,u,h1,h2,h3⟩:=hx
  obtain ⟨l,hl⟩:=hloose i e id u h1 h2
  refine ⟨?_,hl.own x h3⟩
  obtain ⟨j,p,hj,hp⟩:=o1 i e id u (Xy.2 h1) h2 x h3
  exact h.oblk_lt hj hp
 let Hm:=mkO v0 hint.kinds (j0g (hint.tm.flatMap KC.kinds)) 0 hint.ob
 have hst:JU fi hint v0=⟨mkT v0 0 kcs ++ List.replicate (fi.ntmps - (mkT v0 0 kcs).length) (.one .undef),Hm ++ List.replicate (fi.nobj - Hm.length) .free⟩:=rfl
 let Hc:=Hm ++ List.replicate (fi.nobj - Hm.length) .free
 have hget:∀ id,((jJ Hc id = .dead ∨ jJ Hc id = .free) ∧ hint.ob[id]? = none) ∨ (jJ Hc id=Kl v0 id 0 hint.kinds ∧ hint.ob[id]? = some .u) ∨
   ∃ t l cs,jJ Hc id = .live (.var t cs) ∧ hint.ob[id]? = some (.var t l) ∧ Hm[id]? = some (.live (.var t cs)):=by
  intro id
  have hlt:∀ x,Hm[id]? = some x → jJ Hc id=x:=by
   intro x hx
   have:id < Hm.length:=by
    rcases jA id Hm.length with h' | h'
    ·exact h'
    ·simp [List.getElem?_eq_none h'] at hx
   simp [jJ,Hc,List.getD_eq_getElem?_getD,List.getElem?_append_left this,hx]
  rcases j8Y v0 hint.kinds hint.ob (j0g (hint.tm.flatMap KC.kinds)) 0 id with ⟨q1,q2⟩ | ⟨q1,q2⟩ | ⟨t,l,cs,q1,q2⟩
  ·refine .inl ⟨?_,q2⟩
   have hge:Hm.length ≤ id:=by
    rcases jA id Hm.length with h' | h'
    ·have:=List.getElem?_eq_getElem h'
     rw [show Hm[id]? = none from q1] at this
     simp at this
    ·exact h'
   simp only [jJ,Hc,List.getD_eq_getElem?_getD]
   rw [List.getElem?_append_right hge]
   by_cases hr:id - Hm.length < fi.nobj - Hm.length
   ·right
    rw [List.getElem?_replicate,if_pos hr]
    rfl
   ·left
    rw [List.getElem?_replicate,if_neg hr]
    rfl
  ·exact .inr (.inl ⟨by simpa using hlt _ q1,q2⟩)
  ·exact .inr (.inr ⟨t,l,cs,hlt _ q1,q2,q1⟩)
 have hvarlt:∀ (id t:Nat) (l:List K1),hint.ob[id]? = some (.var t l) → id < ids.length:=by
  intro id t l hid
  rcases jA id kos.length with h' | h'
  ·omega
  ·simp only [hint] at hid
   rw [List.getElem?_append_right h',List.getElem?_replicate] at hid
   split at hid <;> simp at hid
 have hobv:∀ (id:Nat),id < ids.length → ∃ t l,hint.ob[id]? = some (.var t l):=by
  intro id hid
  have h1:id < kos.length:=by omega
  obtain ⟨t,l,ht⟩:=k2 id _ (List.getElem?_eq_getElem h1)
  exact ⟨t,l,by simp only [hint]; rw [List.getElem?_append_left h1,List.getElem?_eq_getElem h1,ht]⟩
 have hnfv:∀ id,id < ids.length → nf Hc id:=by
  intro id hid
  obtain ⟨t,l,hob⟩:=hobv id hid
  rcases hget id with ⟨_,q2⟩ | ⟨_,q2⟩ | ⟨t',l',cs,q1,_⟩
  ·rw [hob] at q2; simp at q2
  ·rw [hob] at q2; simp at q2
  ·exact KR q1
 have hown:∀ (i e id:Nat) (u:Value),hint.kinds[i]? = some (.own e id) → (vs1 ++ vs2)[i]? = some u → nf Hc id ∧ gc.val id=u:=by
  intro i e id u h1 h2
  refine ⟨?_,Xr hnd h1 h2⟩
  have hin:=hidsok id (j8Z h1)
  rcases hget id with ⟨_,q2⟩ | ⟨q1,q2⟩ | ⟨t,l,cs,q1,q2,_⟩
  ·rw [show (kos ++ List.replicate nr KO.u)[id]? = none from q2] at hin; simp at hin
  ·rcases YW id f1 with ⟨z1,z2⟩ | ⟨e',l,i',z1,_⟩
   ·exact absurd (Xy.2 h1) (z2 i e)
   ·rw [j1j] at z1
    exact KR (q1.trans z1)
  ·exact KR q1
 have hpf:PF ty g H w ids hint.kinds (vs1 ++ vs2):=by
  have h1:=jdQ (ids:=ids) e1 a2 hc (fun j id hj=>by rw [Nat.zero_add,← hids]; exact hj)
  intro i k u hik hiu
  rw [hkinds] at hik
  have hl:=a2.length.2
  rcases jA i (kcs.flatMap KC.kinds).length with h' | h'
  ·rw [List.getElem?_append_left h'] at hik
   rw [List.getElem?_append_left (by omega)] at hiu
   exact h1 i k u hik hiu
  ·rw [List.getElem?_append_right h'] at hik
   obtain ⟨t,rfl⟩:=k4 k (List.mem_of_getElem? hik)
   exact ⟨fun m off h=>absurd h ((CT.k1_plain t).1 m off),fun f caps h=>absurd h ((CT.k1_plain t).2.1 f caps)⟩
 have hsrl:zo ty gc Hc w (mkL v0 0 hint.kinds) (vs1 ++ vs2):=by
  refine j6b (g:=g1) (g':=gc) (fun _ h=>h) f1 hown (fun i m off u h1 h2=>?_) (fun i f caps u h1 h2=>?_)
  ·obtain ⟨rfl,id,hid,hs⟩:=(hpf i _ u h1 h2).1 m off rfl
   have hm:m < ids.length:=by
    rcases jA m ids.length with h' | h'
    ·exact h'
    ·simp [List.getElem?_eq_none h'] at hid
   refine ⟨hnfv m hm,hs.2.1,fun _=>?_⟩
   have:=hs.2.2 (k3 id (List.mem_of_getElem? hid))
   rw [this]
   simp only [gc]
   rw [hb m id hid]
  ·obtain ⟨caps0,⟨xs,x1,x2,x3⟩,hl,hcap⟩:=(hpf i _ u h1 h2).2 f caps rfl
   refine ⟨xs,x1,by omega,fun j m hj=>?_⟩
   have hjl:j < caps0.length:=by
    rcases jA j caps0.length with h' | h'
    ·exact h'
    ·rw [List.getElem?_eq_none (by omega)] at hj; simp at hj
   have h0:=hcap j m hj
   rw [List.getElem?_eq_getElem hjl] at h0
   have hm:m < ids.length:=by
    rcases jA m ids.length with h' | h'
    ·exact h'
    ·simp [List.getElem?_eq_none h'] at h0
   refine ⟨hnfv m hm,fun _=>?_⟩
   have:=(x3 j _ (List.getElem?_eq_getElem hjl)).2 (k3 _ (List.mem_of_getElem? h0))
   rw [this]
   simp only [gc]
   rw [hb m _ h0]
 rw [hkinds,Jk,Nat.zero_add] at hsrl
 obtain ⟨t1,t2⟩:=hsrl.unappend (by rw [a2.length.2,Jj])
 obtain ⟨c1,c2⟩:=Yy.mkT v0 0 a2 t1
 have hobj:∀ id o,jJ Hc id = .live o → (∃ t cs us,o = .var t cs ∧ w.heap[b id]? = some (.cells us.toArray t (0,0)) ∧ zo ty gc Hc w cs us ∧ (∀ u ∈ us,u.oneCell'=true) ∧ ∃ i,ids[id]? = some i) ∨
   ∃ (e:Nat) (l:List (List DC)) (i:Nat),o = .row e l ∧ Loose ty A g1 H1 w e l (gc.val id) ∧ hint.kinds[i]? = some (.own e id) ∧ (vs1 ++ vs2)[i]? = some (gc.val id):=by
  intro id o ho
  rcases hget id with ⟨q1 | q1,_⟩ | ⟨q1,_⟩ | ⟨t,l,cs,q1,q2,q3⟩
  ·rw [q1] at ho; simp at ho
  ·rw [q1] at ho; simp at ho
  ·rcases YW id f1 with ⟨z1,_⟩ | ⟨e,l,i,z1,z2,z3,z4⟩
   ·rw [j1j] at z1
    rw [q1,z1] at ho; simp at ho
   ·rw [j1j] at z1
    rw [j9b] at z2 z4
    rw [q1,z1] at ho
    simp only [HS.live.injEq] at ho
    exact .inr ⟨e,l,i,ho.symm,z2,Xy.1 z3,z4⟩
  ·rw [q1] at ho
   simp only [HS.live.injEq] at ho
   have hlt:=hvarlt id t l q2
   obtain ⟨us,u1,u2,u3⟩:=jit b v0 hint.kinds (List.replicate nr .u) b2 t2 id t cs (by omega) q3
   rw [Nat.zero_add] at u1
   exact .inl ⟨t,cs,us,ho.symm,u1,u2,u3,ids[id],List.getElem?_eq_getElem hlt⟩
 refine ⟨g1,Ac,gc,r1,s1,hbeg,rfl,fun hpl x hx=>?_,?_,a2.length.1⟩
 ·obtain ⟨i,e,id,u,h1,_⟩:=hx
  have hp:=(j1t hpl e1).2
  rw [hkinds] at h1
  have:=List.mem_of_getElem? h1
  rw [List.mem_append] at this
  rcases this with hk | hk
  ·obtain ⟨t,ht⟩:=hp _ hk
   cases t <;> simp [CT.k1] at ht
  ·obtain ⟨t,ht⟩:=k4 _ hk
   cases t <;> simp [CT.k1] at ht
 ·rw [hst]
  refine ⟨?_,fun i c x h1 h2=>?_,fun id o ho=>?_,fun i j o p x hij hi hj hx hx'=>?_,r1.lt,fun x hx=>.inl hx,fun id o x ho hx=>?_,fun j hj=>hnfv j hj,fun j hj hvj=>rfl,⟨rfl,rfl,rfl,Nat.le_refl _,fun _ _ _ _=>rfl⟩,rfl⟩
  ·simp [c1]
  ·simp only [Array.getElem?_append,List.size_toArray,List.getElem?_toArray] at h2
   rcases jA i (mkT v0 0 kcs).length with h' | h'
   ·rw [List.getElem?_append_left h'] at h1
    rw [if_pos (by omega)] at h2
    exact c2 i c x h1 h2
   ·rw [List.getElem?_append_right h',List.getElem?_replicate] at h1
    split at h1
    ·simp only [j5] at h1
     subst h1
     trivial
    ·simp at h1
  ·rcases hobj id o ho with ⟨t,cs,us,rfl,q1,q2,q3,i,q4⟩ | ⟨e,l,i,rfl,q1,q2,q3⟩
   ·refine ⟨us,q1,q2,?_,q3⟩
    have:=hvarI i (List.mem_of_getElem? q4)
    simp only [gc]
    rw [hb id i q4,← s1.blk]
    exact this
   ·obtain ⟨ti,vs,F,z1,z2,z3,z4,z5⟩:=q1.row
    exact ⟨ti,vs,F,z1,z2,z3,z4,z5,fun x hx=>(q1.own x hx).1⟩
  ·rcases hobj i o hi with ⟨t,cs,us,rfl,q1,q2,q3,n,q4⟩ | ⟨e,l,n,rfl,q1,q2,q3⟩
   ·rcases hobj j p hj with ⟨t',cs',us',rfl,q1',q2',q3',n',q4'⟩ | ⟨e',l',n',rfl,q1',q2',q3'⟩
    ·obtain ⟨tx,cx,hx1⟩:=k3 n (List.mem_of_getElem? q4)
     obtain ⟨ty',cy,hy1⟩:=k3 n' (List.mem_of_getElem? q4')
     have hne:n ≠ n':=by
      rintro rfl
      exact hij (jcv hn q4 q4')
     simp only [kX,gc,j5] at hx hx'
     rw [hb i n q4] at hx
     rw [hb j n' q4'] at hx'
     exact h.sep n n' _ _ x hne hx1 hy1 (show kX g n (.var tx cx)=some x by simp [kX,hx]) (show kX g n' (.var ty' cy)=some x by simp [kX,hx'])
    ·obtain ⟨tx,cx,hx1⟩:=hvar1 n (List.mem_of_getElem? q4)
     refine (q1'.own x hx').2.2 n _ hx1 ?_
     simp only [kX,gc,j5] at hx ⊢
     rw [hb i n q4] at hx
     rw [s1.blk]
     exact hx
   ·rcases hobj j p hj with ⟨t',cs',us',rfl,q1',q2',q3',n',q4'⟩ | ⟨e',l',n',rfl,q1',q2',q3'⟩
    ·obtain ⟨tx,cx,hx1⟩:=hvar1 n' (List.mem_of_getElem? q4')
     refine (q1.own x hx).2.2 n' _ hx1 ?_
     simp only [kX,gc,j5] at hx' ⊢
     rw [hb j n' q4'] at hx'
     rw [s1.blk]
     exact hx'
    ·rcases Nat.lt_trichotomy n n' with hlt | rfl | hlt
     ·exact Z2 ap (Xy.2 q2) q3 (Xy.2 q2') q3' hlt x hx hx'
     ·rw [q2] at q2'
      simp only [j5,K1.own.injEq] at q2'
      exact hij q2'.2
     ·exact Z2 ap (Xy.2 q2') q3' (Xy.2 q2) q3 hlt x hx' hx
  ·rcases hobj id o ho with ⟨t,cs,us,rfl,q1,q2,q3,i,q4⟩ | ⟨e,l,i,rfl,q1,q2,q3⟩
   ·simp only [kX,gc,j5] at hx
    exact .inr ⟨i,List.mem_of_getElem? q4,by rw [← hx,s1.blk]; exact hb id i q4⟩
   ·exact .inr ⟨i,e,id,_,q2,q3,hx⟩
end
section
variable {P:Program} {ty:Nat → Option TI} {fn:Nat → Option FI} {cl:Nat → Hint → List DC → Out} {A:An} {w:World}
theorem jfg {g:Gh} {H0 H:List HS} {v:List DC}:∀ {n:Nat} {ks ks':List K1} {us us':List Value},FL ty A g H0 H w v n (ks ++ ks') (us ++ us') → us.length=ks.length → FL ty A g H0 H w v n ks us ∧ FL ty A g H0 H w v (n + j0g ks) ks' us'
 | n,[],ks',[],us',h,_=>⟨trivial,h⟩
 | n,k :: ks,ks',u :: us,us',⟨h1,h2⟩,hl=>by
  obtain ⟨a,b⟩:=jfg (ks:=ks) (us:=us) h2 (by simpa using hl)
  exact ⟨⟨h1,a⟩,by rw [j0g,← Nat.add_assoc]; exact b⟩
 | _,[],_,_ :: _,_,_,hl=>by simp at hl
 | _,_ :: _,_,[],_,_,hl=>by simp at hl
theorem j59 (r:RK) (i:Nat):(r.k1 i).cnt=1:=by
 cases r with
 | ct c=>cases c <;> rfl
 | new e=>rfl
theorem j3a:∀ (l:List RK) (i:Nat),(rkK i l).length=l.length ∧ j0g (rkK i l)=l.length
 | [],i=>⟨rfl,rfl⟩
 | r :: l,i=>by
  obtain ⟨a,b⟩:=j3a l (r.nx i)
  exact ⟨by simp [rkK,a],by simp [rkK,j0g,b,j59]; omega⟩
theorem j9B:∀ (l m:List RK) (i:Nat),rkK i (l ++ m)=rkK i l ++ rkK (rkN i l) m
 | [],m,i=>rfl
 | r :: l,m,i=>by simp [rkK,rkN,j9B l m (r.nx i)]
theorem jjz {g:Gh} {H0 H:List HS} {v:List DC} {X:List K1}:∀ {L:List RK} {i j n:Nat} {us:List Value},FL ty A g H0 H w v n (rkK i L ++ X) us → FL ty A g H0 H w v n (rkK j L ++ X) us
 | [],i,j,n,us,h=>h
 | r :: L,i,j,n,[],h=>h.elim
 | r :: L,i,j,n,u :: us,h=>by
  simp only [rkK,jN] at h ⊢
  obtain ⟨⟨dd,h1,h2,h3⟩,h4⟩:=h
  rw [j59] at h1 h2 h4
  refine ⟨⟨dd,by rw [j59]; exact h1,by rw [j59]; exact h2,?_⟩,by rw [j59]; exact jjz h4⟩
  cases r with
  | ct c=>exact h3
  | new e=>exact h3
theorem jip {X:List K1}:∀ {L:List RK} {i j n e id:Nat},(rkK i L ++ X)[n]? = some (.own e id) → ∃ id',(rkK j L ++ X)[n]? = some (.own e id')
 | [],i,j,n,e,id,h=>⟨id,h⟩
 | r :: L,i,j,0,e,id,h=>by
  simp only [rkK,jN,List.getElem?_cons_zero,j5] at h ⊢
  cases r with
  | ct c=>cases c <;> simp [RK.k1,CT.k1] at h
  | new e' =>
   simp only [RK.k1,K1.own.injEq] at h ⊢
   exact ⟨j,h.1,rfl⟩
 | r :: L,i,j,n + 1,e,id,h=>by
  simp only [rkK,jN,List.getElem?_cons_succ] at h ⊢
  exact jip h
theorem jb9 {X:List K1}:∀ {L:List RK} {i j:Nat} {us:List Value},j34 (rkK i L ++ X) us → j34 (rkK j L ++ X) us
 | [],i,j,us,h=>h
 | r :: L,i,j,[],h=>by
  simp only [rkK,jN]
  cases r with
  | ct c=>cases c <;> trivial
  | new e=>trivial
 | r :: L,i,j,u :: us,h=>by
  simp only [rkK,jN] at h ⊢
  cases r with
  | ct c=>cases c <;> exact jb9 (i:=i) (j:=j) h
  | new e =>
   refine ⟨fun b hb n e' id x hn hx=>?_,jb9 (i:=i + 1) h.2⟩
   obtain ⟨id',hn'⟩:=jip (j:=i + 1) hn
   exact h.1 b hb n e' id' x hn' hx
theorem jer:∀ {L:List RK} {i:Nat} {k:K1},k ∈ rkK i L → (∃ t:CT,k=t.k1) ∨ ∃ e id,k = .own e id
 | [],i,k,h=>by simp [rkK] at h
 | r :: L,i,k,h=>by
  simp only [rkK,List.mem_cons] at h
  rcases h with rfl | h
  ·cases r with
   | ct c=>exact .inl ⟨c,rfl⟩
   | new e=>exact .inr ⟨e,i,rfl⟩
  ·exact jer h
theorem jeB {ks:List K1} (h:∀ k ∈ ks,(∃ t:CT,k=t.k1) ∨ ∃ e id,k = .own e id):ks.map K1.data=ks:=by
 induction ks with
 | nil=>rfl
 | cons k ks ih =>
  rw [jL,ih fun k hk=>h k (by simp [hk])]
  rcases h k (by simp) with ⟨t,rfl⟩ | ⟨e,id,rfl⟩
  ·rw [(CT.k1_plain t).2.2.1]
  ·rfl
theorem j2q (v:List DC):∀ {ks:List K1} {n:Nat} {H H2:List HS},y4 v n ks H=some H2 →
  Ko (ks.flatMap K1.ids)=true ∧ (∀ id ∈ ks.flatMap K1.ids,jJ H id = .free ∧ jJ H2 id=Kl v id n ks) ∧ ∀ id,id ∉ ks.flatMap K1.ids → jJ H2 id=jJ H id
 | [],n,H,H2,e=>by
  simp only [y4,j5] at e
  subst e
  exact ⟨rfl,fun id h=>by simp at h,fun id _=>rfl⟩
 | k :: ks,n,H,H2,e=>by
  have other:y4 v (n + k.cnt) ks H=some H2 → k.ids=[] → (∀ id,Kl v id n (k :: ks)=Kl v id (n + k.cnt) ks) →
    Ko ((k :: ks).flatMap K1.ids)=true ∧ (∀ id ∈ (k :: ks).flatMap K1.ids,jJ H id = .free ∧ jJ H2 id=Kl v id n (k :: ks)) ∧ ∀ id,id ∉ (k :: ks).flatMap K1.ids → jJ H2 id=jJ H id:=by
   intro h1 h2 h3
   obtain ⟨a,b,c⟩:=j2q v h1
   rw [jz,h2,jy]
   exact ⟨a,fun id hid=>⟨(b id hid).1,by rw [h3]; exact (b id hid).2⟩,c⟩
  cases k with
  | own e' id0 =>
   simp only [y4] at e
   split at e
   ·rename_i hf
    obtain ⟨a,b,c⟩:=j2q v e
    have hlt:=zh hf
    have hnot:id0 ∉ ks.flatMap K1.ids:=by
     intro hmem
     have:=(b id0 hmem).1
     rw [ke _ hlt] at this
     simp at this
    have hne:∀ id ∈ ks.flatMap K1.ids,id0 ≠ id:=fun id hid h=>hnot (h ▸ hid)
    refine ⟨?_,fun id hid=>?_,fun id hid=>?_⟩
    ·simp only [jz,K1.ids,jU,Ko,jj,Bool.not_eq_true',List.contains_eq_mem,decide_eq_false_iff_not]
     exact ⟨hnot,a⟩
    ·simp only [jz,K1.ids,jU,List.mem_cons] at hid
     rcases hid with rfl | hid
     ·refine ⟨hf,?_⟩
      rw [c id hnot,ke _ hlt,Kl,if_pos rfl]
     ·obtain ⟨b1,b2⟩:=b id hid
      rw [jM _ (hne id hid)] at b1
      refine ⟨b1,?_⟩
      rw [b2,Kl,if_neg (hne id hid)]
    ·simp only [jz,K1.ids,jU,List.mem_cons,not_or] at hid
     rw [c id hid.2,jM _ fun h=>hid.1 h.symm]
   ·simp at e
  | _=>exact other e rfl fun _=>rfl
theorem Qh (v:List DC):∀ {ids:List Nat} {kos:List KO} {n:Nat} {H:List HS} {id:Nat},id ∉ ids → jJ (zR v n ids kos H) id=jJ H id
 | [],kos,n,H,id,_=>by cases kos <;> rfl
 | i :: ids,[],n,H,id,_=>rfl
 | i :: ids,.u :: kos,n,H,id,_=>rfl
 | i :: ids,.var t l :: kos,n,H,id,h=>by
  simp only [List.mem_cons,not_or] at h
  rw [zR,Qh v h.2,jM _ fun k=>h.1 k.symm]
theorem j7L (v:List DC) {g:Gh} {H':List HS} (b blk:Nat → Nat):∀ {ids:List Nat} {kos:List KO} {n j0:Nat} {H:List HS} {us:List Value},Ko ids=true → OV w b j0 kos us → zo ty g H' w (mkL v n (kos.flatMap KO.kinds)) us →
  (∀ j id,ids[j]? = some id → b (j0 + j)=blk id) → kos.length=ids.length → (∀ id ∈ ids,id < H.length) →
  ∀ id ∈ ids,∃ (t:Nat) (cs:List S) (us':List Value),jJ (zR v n ids kos H) id = .live (.var t cs) ∧ w.heap[blk id]? = some (.cells us'.toArray t (0,0)) ∧ zo ty g H' w cs us' ∧ ∀ u ∈ us',u.oneCell'=true
 | [],kos,n,j0,H,us,_,_,_,_,_,_=>fun id h=>by simp at h
 | i :: ids,[],n,j0,H,us,_,_,_,_,hl,_=>by simp at hl
 | i :: ids,.u :: kos,n,j0,H,us,_,h,_,_,_,_=>h.elim
 | i :: ids,.var t l :: kos,n,j0,H,us,hn,⟨u1,u2,h1,h2,h3,h4,h5⟩,hs,hb,hl,hlt=>by
  subst h1
  simp only [jz,KO.kinds,Jk] at hs
  obtain ⟨hh1,hh2⟩:=hs.unappend (by rw [Jj,h2])
  obtain ⟨n1,n2⟩:=XA hn
  intro id hid
  rcases List.mem_cons.1 hid with rfl | hid
  ·refine ⟨t,mkL v n l,u1,?_,?_,hh1,h4⟩
   ·rw [zR,Qh v n1,ke _ (hlt id (by simp))]
   ·have:=hb 0 id rfl
    rw [Nat.add_zero] at this
    rw [← this]
    exact h3
  ·rw [zR]
   exact j7L v b blk n2 h5 hh2 (fun j k hj=>by
    have:=hb (j + 1) k (by simpa using hj)
    rw [show j0 + 1 + j=j0 + (j + 1) by omega]
    exact this) (by simpa using hl) (fun k hk=>by simp only [kk,List.length_set]; exact hlt k (by simp [hk])) id hid
theorem jgC {g:Gh} {H:List HS} (v:List DC):∀ {rk:List (Bool × List RK)} {vs us:List Value} {n id:Nat},RVs rk vs us → zo ty g H w (mkL v n (rkK id (rk.flatMap Prod.snd))) us →
  vs.length=(jbq v n id rk).length ∧ ∀ (i:Nat) (a:Bool) (ss:List S) (u:Value),(jbq v n id rk)[i]? = some (a,ss) → vs[i]? = some u →
   (a=true → ∃ us:List Value,u = .agg us.toArray ∧ zo ty g H w ss us) ∧ (a=false → SR ty g H w (ss.headD .undef) u)
 | [],[],us,n,id,_,_=>⟨rfl,fun i a ss u h=>by simp [jbq] at h⟩
 | (a,l) :: rk,x :: vs,us,n,id,⟨u1,u2,h1,h2,h3,h4,h5⟩,hs=>by
  subst h1
  simp only [jz,j9B,Jk,(j3a l id).2] at hs
  obtain ⟨hh1,hh2⟩:=hs.unappend (by rw [Jj,(j3a l id).1,h2])
  obtain ⟨q1,q2⟩:=jgC v h5 hh2
  refine ⟨by simp [jbq,q1],fun i a' ss u hi hu=>?_⟩
  cases i with
  | zero =>
   simp only [jbq,List.getElem?_cons_zero,j5,jg] at hi hu
   obtain ⟨rfl,rfl⟩:=hi
   subst hu
   refine ⟨fun ha=>⟨u1,h3 ha,hh1⟩,fun ha=>?_⟩
   have:=h4 ha
   subst this
   exact hh1.head
  | succ i =>
   simp only [jbq,List.getElem?_cons_succ] at hi hu
   exact q2 i a' ss u hi hu
 | [],_ :: _,_,_,_,h,_=>h.elim
 | _ :: _,[],_,_,_,h,_=>h.elim
theorem jjf {g:Gh} {H:List HS} (v:List DC) {rk:List (Bool × List RK)} {vs us:List Value} {id:Nat} (h:RVs rk vs us) (hs:zo ty g H w (mkL v 0 (KY id rk)) us):CR ty g H w (jfT v id rk) (Kd vs):=by
 obtain ⟨q1,q2⟩:=jgC v h hs
 match rk,vs,h with
 | [(a,l)],[x],h =>
  obtain ⟨h3,h4⟩:=q2 0 a (mkL v 0 (rkK id l)) x rfl rfl
  simp only [jfT,Kd]
  cases a with
  | true =>
   obtain ⟨us,k1,k2⟩:=h3 rfl
   exact ⟨us,k1,k2⟩
  | false=>exact h4 rfl
 | [],vs,h =>
  have:vs=[]:=by
   cases vs with
   | nil=>rfl
   | cons _ _=>exact h.elim
  subst this
  exact ⟨[],rfl,q1,q2⟩
 | x :: y :: rk,vs,h =>
  match vs,q1 with
  | [],q1=>simp [jbq] at q1
  | [_],q1=>simp [jbq] at q1
  | v1 :: v2 :: vs,q1=>exact ⟨_,rfl,q1,q2⟩
 | [(a,l)],[],h=>exact h.elim
 | [(a,l)],_ :: _ :: _,⟨_,_,_,_,_,_,h⟩=>exact h.elim
theorem jb3 {gB:Gh} {tm:List C} {HB:List HS} {a:Act} (h:Rel ty A gB ⟨tm,HB⟩ a w) {ids:List Nat} {Ac:An} (hbeg:Begun A gB HB w ids Ac) {kos:List KO} {rk:List (Bool × List RK)} {r:List DC} {vs us1 us2:List Value} {gr:Gh} {H0r H1r:List HS} {w':World}
  (hkl:kos.length=ids.length) (hkc:∀ k ∈ kos.flatMap KO.kinds,∃ t:CT,k=t.k1) (hrv:RVs rk vs us1) (hov:OV w' Ac.pb 0 kos us2) (hfl:FL ty Ac gr H0r H1r w' r 0 (KY 0 rk ++ kos.flatMap KO.kinds) (us1 ++ us2))
  (hap:j34 (KY 0 rk ++ kos.flatMap KO.kinds) (us1 ++ us2)) (hI:∀ b,gB.I b → gr.I b) (hIr:∀ b,gr.I b → b < w'.heap.size ∧ (gB.I b ∨ w.heap.size ≤ b ∨ Ac.Pm b)) (hpb:∀ j,j < ids.length → ¬ gr.I (Ac.pb j))
  (hlive:∀ j,j < ids.length → ∃ o,jJ H1r j = .live o ∧ kX gr j o=some (Ac.pb j)) (hkeep:Keep Ac w') (hnd:Ko ids=true) (hus1:us1.length=(KY 0 rk).length) {base:Nat} {H2:List HS}
  (hput:y4 r 0 (KY base rk) (zR r (j0g (KY base rk)) ids kos HB)=some H2) :
  ∃ g2,Rel ty A g2 ⟨tm,H2⟩ a w' ∧ (∀ b,gB.I b → g2.I b) ∧ CR ty g2 H2 w' (jfT r base rk) (Kd vs):=by
 let ks:=KY base rk
 have hfl':FL ty Ac gr H0r H1r w' r 0 (ks ++ kos.flatMap KO.kinds) (us1 ++ us2):=jjz hfl
 have hap':j34 (ks ++ kos.flatMap KO.kinds) (us1 ++ us2):=jb9 hap
 have hus1':us1.length=ks.length:=by rw [hus1]; simp only [ks,KY]; rw [(j3a _ _).1,(j3a _ _).1]
 obtain ⟨f1,f2⟩:=jfg hfl' hus1'
 rw [Nat.zero_add] at f2
 obtain ⟨n1,n2,n3⟩:=j2q r hput
 let g2:Gh:={ I:=gr.I,blk:=gB.blk,val:=fun id=>if (ks.flatMap K1.ids).contains id=true then KX id ks us1 else gB.val id }
 have hmem:∀ id,(ks.flatMap K1.ids).contains id=true ↔ id ∈ ks.flatMap K1.ids:=fun id=>by simp
 have hvlt:∀ id ∈ ids,id < HB.length:=fun id hid=>by
  obtain ⟨t,cs,hc⟩:=hbeg.var id hid
  exact py hc
 have hkk:∀ k ∈ ks,(∃ t:CT,k=t.k1) ∨ ∃ e id,k = .own e id:=fun k hk=>jer hk
 have hkr:ks.map K1.data=ks:=jeB hkk
 have hrow:∀ id ∈ ks.flatMap K1.ids,∃ (e:Nat) (l:List (List DC)) (i:Nat),jJ H2 id = .live (.row e l) ∧ Loose ty Ac gr H1r w' e l (g2.val id) ∧ ks[i]? = some (.own e id) ∧ us1[i]? = some (g2.val id):=by
  intro id hid
  rcases YW id f1 with ⟨z1,z2⟩ | ⟨e,l,i,z1,z2,z3,z4⟩
  ·exfalso
   obtain ⟨k,hk,hkid⟩:=List.mem_flatMap.1 hid
   cases k with
   | own e i =>
    simp only [K1.ids,List.mem_singleton] at hkid
    subst hkid
    obtain ⟨j,hj⟩:=List.getElem?_of_mem hk
    exact z2 j e hj
   | _=>simp [K1.ids] at hkid
  ·have hv:g2.val id=KX id ks us1:=by simp only [g2]; rw [if_pos ((hmem id).2 hid)]
   exact ⟨e,l,i,(n2 id hid).2.trans z1,by rw [hv]; exact z2,z3,by rw [hv]; exact z4⟩
 have hnew:∀ id ∈ ks.flatMap K1.ids,id ∉ ids ∧ jJ HB id = .free:=by
  intro id hid
  have hf:=(n2 id hid).1
  have hno:id ∉ ids:=by
   intro hin
   have key:∀ {ids:List Nat} {kos:List KO} {n:Nat} {H:List HS},kos.length=ids.length → (∀ k ∈ kos,∃ t l,k=KO.var t l) → (∀ i ∈ ids,i < H.length) → id ∈ ids → jJ (zR r n ids kos H) id ≠ .free:=by
    intro ids
    induction ids with
    | nil=>intro kos n H _ _ _ h; simp at h
    | cons i ids ih =>
     intro kos n H hl hk hlt hin
     cases kos with
     | nil=>simp at hl
     | cons k kos =>
      obtain ⟨t,l,rfl⟩:=hk k (by simp)
      rw [zR]
      by_cases hids:id ∈ ids
      ·exact ih (by simpa using hl) (fun k hk'=>hk k (by simp [hk'])) (fun i hi=>by simp only [kk,List.length_set]; exact hlt i (by simp [hi])) hids
      ·rcases List.mem_cons.1 hin with rfl | h'
       ·rw [Qh r hids,ke _ (hlt id (by simp))]
        simp
       ·exact absurd h' hids
   refine key hkl (fun k hk=>?_) hvlt hin hf
   obtain ⟨j,hj⟩:=List.getElem?_of_mem hk
   cases k with
   | var t l=>exact ⟨t,l,rfl⟩
   | u =>
    exfalso
    have:∀ {kos:List KO} {us:List Value} {j0:Nat},OV w' Ac.pb j0 kos us → KO.u ∉ kos:=by
     intro kos
     induction kos with
     | nil=>intro us j0 _ h; simp at h
     | cons k kos ih =>
      intro us j0 h hm
      cases k with
      | u=>exact h.elim
      | var t l =>
       obtain ⟨u1,u2,_,_,_,_,h5⟩:=h
       rcases List.mem_cons.1 hm with hm | hm
       ·simp at hm
       ·exact ih h5 hm
    exact this hov hk
  rw [Qh r hno] at hf
  exact ⟨hno,hf⟩
 have hval:∀ id,id ∉ ks.flatMap K1.ids → g2.val id=gB.val id:=by
  intro id hid
  simp only [g2]
  rw [if_neg (by rw [hmem]; exact hid)]
 have hown2:∀ (i e id:Nat) (u:Value),ks[i]? = some (.own e id) → us1[i]? = some u → nf H2 id ∧ g2.val id=u:=by
  intro i e id u h1 h2
  have hin:=j8Z h1
  obtain ⟨e',l,i',z1,_,z3,z4⟩:=hrow id hin
  refine ⟨KR z1,?_⟩
  simp only [g2]
  rw [if_pos ((hmem id).2 hin)]
  exact Xr n1 h1 h2
 have hs1:zo ty g2 H2 w' (mkL r 0 ks) us1:=j6b (g:=gr) (g':=g2) (fun _ h=>h) (by rw [hkr]; exact f1) hown2
  (fun i m off u h1 h2=>by
   rcases hkk _ (List.mem_of_getElem? h1) with ⟨t,ht⟩ | ⟨e,id,ht⟩
   ·exact absurd ht.symm ((CT.k1_plain t).1 m off)
   ·simp at ht)
  (fun i f caps u h1 h2=>by
   rcases hkk _ (List.mem_of_getElem? h1) with ⟨t,ht⟩ | ⟨e,id,ht⟩
   ·exact absurd ht.symm ((CT.k1_plain t).2.1 f caps)
   ·simp at ht)
 have hs2:zo ty g2 H2 w' (mkL r (j0g ks) (kos.flatMap KO.kinds)) us2:=j6b (g:=gr) (g':=g2) (fun _ h=>h) (by rw [j2r hkc]; exact f2)
  (fun i e id u h1 h2=>by
   obtain ⟨t,ht⟩:=hkc _ (List.mem_of_getElem? h1)
   cases t <;> simp [CT.k1] at ht)
  (fun i m off u h1 h2=>by
   obtain ⟨t,ht⟩:=hkc _ (List.mem_of_getElem? h1)
   exact absurd ht.symm ((CT.k1_plain t).1 m off))
  (fun i f caps u h1 h2=>by
   obtain ⟨t,ht⟩:=hkc _ (List.mem_of_getElem? h1)
   exact absurd ht.symm ((CT.k1_plain t).2.1 f caps))
 have hvars:∀ id ∈ ids,∃ (t:Nat) (cs:List S) (us':List Value),jJ H2 id = .live (.var t cs) ∧ w'.heap[gB.blk id]? = some (.cells us'.toArray t (0,0)) ∧ zo ty g2 H2 w' cs us' ∧ ∀ u ∈ us',u.oneCell'=true:=by
  intro id hid
  obtain ⟨t,cs,us',z1,z2⟩:=j7L r (w:=w') (g:=g2) (H':=H2) Ac.pb gB.blk hnd hov hs2 (fun j i hj=>by rw [Nat.zero_add]; exact hbeg.pb j i hj) hkl hvlt id hid
  refine ⟨t,cs,us',?_,z2⟩
  rw [n3 id (fun hin=>(hnew id hin).1 hid)]
  exact z1
 have hcase:∀ id,(id ∈ ks.flatMap K1.ids) ∨ (id ∈ ids ∧ id ∉ ks.flatMap K1.ids) ∨ (id ∉ ids ∧ id ∉ ks.flatMap K1.ids ∧ jJ H2 id=jJ HB id):=by
  intro id
  by_cases h1:id ∈ ks.flatMap K1.ids
  ·exact .inl h1
  ·by_cases h2:id ∈ ids
   ·exact .inr (.inl ⟨h2,h1⟩)
   ·refine .inr (.inr ⟨h2,h1,?_⟩)
    rw [n3 id h1,Qh r h2]
 have hw0:=hbeg.w0
 have hblock:∀ b,b < w.heap.size → ¬ Ac.Pv b → ¬ Ac.Pm b → w'.heap[b]? = w.heap[b]?:=fun b h1 h2 h3=>by
  have:=hkeep.block b (by rw [hw0]; exact h1) h2 h3
  rwa [hw0] at this
 have hvarI:∀ id ∈ ids,¬ gB.I (gB.blk id):=fun id hid hI=>by
  obtain ⟨t,cs,hc⟩:=hbeg.var id hid
  exact X1 h hc rfl hI
 have hPvI:∀ b,gB.I b → ¬ Ac.Pv b:=fun b hb hp=>by
  obtain ⟨id,hid,rfl⟩:=hbeg.Pv b hp
  exact hvarI id hid hb
 have hsize:w.heap.size ≤ w'.heap.size:=by have:=hkeep.size; rwa [hw0] at this
 have hch:Ch gB g2 HB H2 w w':=by
  refine ⟨hI,fun b hb=>hblock b (h.lt b hb) (hPvI b hb) (fun hp=>(hbeg.Pm b hp).2.1 hb),fun id hn=>?_,fun id hn hr=>?_,fun id hn hr=>?_⟩
  ·rcases hcase id with h1 | ⟨h1,_⟩ | ⟨_,_,h3⟩
   ·exact absurd hn (zg (hnew id h1).2)
   ·obtain ⟨t,cs,us',z1,_⟩:=hvars id h1
    exact KR z1
   ·simpa [nf,h3] using hn
  ·rcases hcase id with h1 | ⟨h1,h2⟩ | ⟨_,h2,h3⟩
   ·exact absurd hn (zg (hnew id h1).2)
   ·obtain ⟨t,cs,us',z1,_⟩:=hvars id h1
    obtain ⟨e,l,hr⟩:=hr
    rw [z1] at hr
    simp at hr
   ·exact ⟨by simpa [j5m,h3] using hr,hval id h2⟩
  ·rcases hcase id with h1 | ⟨h1,h2⟩ | ⟨_,h2,h3⟩
   ·exact absurd hn (zg (hnew id h1).2)
   ·exact ⟨hbeg.var id h1,rfl⟩
   ·exact ⟨by simpa [ql,h3] using hr,rfl⟩
 have hobj:∀ id o,jJ H2 id = .live o → (∃ (e:Nat) (l:List (List DC)) (i:Nat),o = .row e l ∧ Loose ty Ac gr H1r w' e l (g2.val id) ∧ ks[i]? = some (.own e id) ∧ us1[i]? = some (g2.val id)) ∨
   (∃ (t:Nat) (cs:List S) (us':List Value),o = .var t cs ∧ id ∈ ids ∧ w'.heap[gB.blk id]? = some (.cells us'.toArray t (0,0)) ∧ zo ty g2 H2 w' cs us' ∧ ∀ u ∈ us',u.oneCell'=true) ∨ (id ∉ ids ∧ id ∉ ks.flatMap K1.ids ∧ jJ HB id = .live o):=by
  intro id o ho
  rcases hcase id with h1 | ⟨h1,h2⟩ | ⟨h1,h2,h3⟩
  ·obtain ⟨e,l,i,z1,z2,z3,z4⟩:=hrow id h1
   rw [z1] at ho
   simp only [HS.live.injEq] at ho
   exact .inl ⟨e,l,i,ho.symm,z2,z3,z4⟩
  ·obtain ⟨t,cs,us',z1,z2,z3,z4⟩:=hvars id h1
   rw [z1] at ho
   simp only [HS.live.injEq] at ho
   exact .inr (.inl ⟨t,cs,us',ho.symm,h1,z2,z3,z4⟩)
  ·exact .inr (.inr ⟨h1,h2,h3 ▸ ho⟩)
 have hpbid:∀ id ∈ ids,∃ j,j < ids.length ∧ Ac.pb j=gB.blk id:=by
  intro id hid
  obtain ⟨j,hj⟩:=List.getElem?_of_mem hid
  have hlt:j < ids.length:=by
   rcases jA j ids.length with h' | h'
   ·exact h'
   ·simp [List.getElem?_eq_none h'] at hj
  exact ⟨j,hlt,hbeg.pb j id hj⟩
 have hvarr:∀ id ∈ ids,¬ gr.I (gB.blk id):=by
  intro id hid
  obtain ⟨j,h1,h2⟩:=hpbid id hid
  rw [← h2]
  exact hpb j h1
 have hold:∀ id o b,id ∉ ids → jJ HB id = .live o → kX gB id o=some b → b < w.heap.size ∧ ¬ Ac.Pv b ∧ ¬ Ac.Pm b ∧ ¬ gr.I b:=by
  intro id o b hid ho hb
  have hlt:=h.oblk_lt ho hb
  have hPm:¬ Ac.Pm b:=fun hp=>(hbeg.Pm b hp).2.2.2 id o ho hb
  refine ⟨hlt,fun hp=>?_,hPm,fun hIb=>?_⟩
  ·obtain ⟨i,hi,rfl⟩:=hbeg.Pv b hp
   obtain ⟨t,cs,hc⟩:=hbeg.var i hi
   exact h.sep id i o _ _ (fun e=>hid (e ▸ hi)) ho hc hb rfl
  ·rcases (hIr b hIb).2 with h1 | h1 | h1
   ·exact X1 h ho hb h1
   ·omega
   ·exact hPm h1
 have hlo:∀ e l id,Loose ty Ac gr H1r w' e l (g2.val id) → ∀ b,(g2.val id).ownBlock=some b → ¬ gr.I b ∧ (w.heap.size ≤ b ∨ Ac.Pm b) ∧ ∀ i ∈ ids,gB.blk i ≠ b:=by
  intro e l id hl b hb
  obtain ⟨q1,q2,q3⟩:=hl.own b hb
  rw [hw0] at q2
  refine ⟨q1,q2,fun i hi hib=>?_⟩
  obtain ⟨j,j1,j2⟩:=hpbid i hi
  obtain ⟨o,ho,hob⟩:=hlive j j1
  exact q3 j o ho (by rw [hob,j2,hib])
 have hblk2:∀ id o,id ∉ ks.flatMap K1.ids → kX g2 id o=kX gB id o:=by
  intro id o hid
  cases o with
  | var t cs=>rfl
  | row e l=>simp only [kX,hval id hid]
  | fz e l=>rfl
 refine ⟨g2,h.ch hch (fun id o ho=>?_) (fun i j o p b hij hi hj hb hb'=>?_) (fun b hb=>(hIr b hb).1) (fun b hb=>?_) (fun id o b ho hb=>?_) (fun j hj hv=>?_) ?_,hI,jjf r hrv hs1⟩
 ·rcases hobj id o ho with ⟨e,l,i,rfl,z1,z2,z3⟩ | ⟨t,cs,us',rfl,z0,z1,z2,z3⟩ | ⟨z1,z2,z3⟩
  ·obtain ⟨ti,vs',F,q1,q2,q3,q4,q5⟩:=z1.row
   exact ⟨ti,vs',F,q1,q2,q3,q4,q5,fun b hb=>(z1.own b hb).1⟩
  ·exact ⟨us',z1,z2,hvarr id z0,z3⟩
  ·refine OR.mono hch (hval id z2) rfl (fun b hb=>?_) (h.ob id o z3)
   obtain ⟨q1,q2,q3,q4⟩:=hold id o b z1 z3 hb
   exact ⟨hblock b q1 q2 q3,q4⟩
 ·rcases hobj i o hi with ⟨e,l,n,rfl,z1,z2,z3⟩ | ⟨t,cs,us',rfl,z0,z1,z2,z3⟩ | ⟨z1,z2,z3⟩
  ·have hx:=hlo e l i z1 b hb
   rcases hobj j p hj with ⟨e',l',n',rfl,y1,y2,y3⟩ | ⟨t',cs',us',rfl,y0,y1,y2,y3⟩ | ⟨y1,y2,y3⟩
   ·have kl:∀ {n:Nat} {e id:Nat},ks[n]? = some (.own e id) → (ks ++ kos.flatMap KO.kinds)[n]? = some (.own e id):=fun {n e id} hk=>by
     have:n < ks.length:=by
      rcases jA n ks.length with h' | h'
      ·exact h'
      ·simp [List.getElem?_eq_none h'] at hk
     rw [List.getElem?_append_left this]
     exact hk
    have ul:∀ {n:Nat} {u:Value},us1[n]? = some u → (us1 ++ us2)[n]? = some u:=fun {n u} hk=>by
     have:n < us1.length:=by
      rcases jA n us1.length with h' | h'
      ·exact h'
      ·simp [List.getElem?_eq_none h'] at hk
     rw [List.getElem?_append_left this]
     exact hk
    rcases Nat.lt_trichotomy n n' with hlt | rfl | hlt
    ·exact Z2 hap' (kl z2) (ul z3) (kl y2) (ul y3) hlt b hb hb'
    ·rw [z2] at y2
     simp only [j5,K1.own.injEq] at y2
     exact hij y2.2
    ·exact Z2 hap' (kl y2) (ul y3) (kl z2) (ul z3) hlt b hb' hb
   ·simp only [kX,g2,j5] at hb'
    exact hx.2.2 j y0 hb'
   ·rw [hblk2 j p y2] at hb'
    obtain ⟨q1,q2,q3,q4⟩:=hold j p b y1 y3 hb'
    rcases hx.2.1 with h1 | h1
    ·omega
    ·exact q3 h1
  ·simp only [kX,g2,j5] at hb
   obtain ⟨tx,cx,hx1⟩:=hbeg.var i z0
   rcases hobj j p hj with ⟨e',l',n',rfl,y1,y2,y3⟩ | ⟨t',cs',us',rfl,y0,y1,y2,y3⟩ | ⟨y1,y2,y3⟩
   ·exact (hlo e' l' j y1 b hb').2.2 i z0 hb
   ·simp only [kX,g2,j5] at hb'
    obtain ⟨ty',cy,hy1⟩:=hbeg.var j y0
    exact h.sep i j _ _ b hij hx1 hy1 (by simp [kX,hb]) (by simp [kX,hb'])
   ·rw [hblk2 j p y2] at hb'
    exact h.sep i j _ _ b hij hx1 y3 (by simp [kX,hb]) hb'
  ·rw [hblk2 i o z2] at hb
   rcases hobj j p hj with ⟨e',l',n',rfl,y1,y2,y3⟩ | ⟨t',cs',us',rfl,y0,y1,y2,y3⟩ | ⟨y1,y2,y3⟩
   ·obtain ⟨q1,q2,q3,q4⟩:=hold i o b z1 z3 hb
    rcases (hlo e' l' j y1 b hb').2.1 with h1 | h1
    ·omega
    ·exact q3 h1
   ·simp only [kX,g2,j5] at hb'
    obtain ⟨ty',cy,hy1⟩:=hbeg.var j y0
    exact h.sep i j _ _ b hij z3 hy1 hb (by simp [kX,hb'])
   ·rw [hblk2 j p y2] at hb'
    exact h.sep i j _ _ b hij z3 y3 hb hb'
 ·rcases (hIr b hb).2 with h1 | h1 | h1
  ·exact h.inI b h1
  ·exact .inr (.inl (Nat.le_trans h.keep.size h1))
  ·rcases (hbeg.Pm b h1).2.2.1 with h2 | h2
   ·exact .inr (.inl h2)
   ·exact .inr (.inr h2)
 ·rcases hobj id o ho with ⟨e,l,i,rfl,z1,z2,z3⟩ | ⟨t,cs,us',rfl,z0,z1,z2,z3⟩ | ⟨z1,z2,z3⟩
  ·rcases (hlo e l id z1 b hb).2.1 with h1 | h1
   ·exact .inl (Nat.le_trans h.keep.size h1)
   ·exact (hbeg.Pm b h1).2.2.1
  ·obtain ⟨tx,cx,hx1⟩:=hbeg.var id z0
   exact h.ow id (.var tx cx) b hx1 hb
  ·rw [hblk2 id o z2] at hb
   exact h.ow id o b z3 hb
 ·exact h.pb j hj (by
   obtain ⟨a1,a2⟩:=hch.var j (h.nfm j hj) hv
   exact a1)
 ·refine h.keep.trans (by rw [hkeep.os,hw0]) (by rw [hkeep.tape,hw0]) (by rw [hkeep.output,hw0]) hsize fun b hb hp hm=>hblock b (Nat.lt_of_lt_of_le hb h.keep.size) (fun hpv=>?_) (fun hpm=>?_)
  ·obtain ⟨id,hid,rfl⟩:=hbeg.Pv b hpv
   obtain ⟨t,cs,hc⟩:=hbeg.var id hid
   rcases h.ow id _ _ hc rfl with h1 | h1
   ·omega
   ·exact hp h1
  ·rcases (hbeg.Pm b hpm).2.2.1 with h1 | h1
   ·omega
   ·exact hm h1
end
section
variable {P:Program} {ty:Nat → Option TI} {fn:Nat → Option FI} {cl:Nat → Hint → List DC → Out} {A:An} {w:World}
def CT.flat:CT → Bool
 | .sl _=>false
 | _=>true
theorem jev:∀ {ts:List CT} {x:List DC} {v:List Value} {F:List Nat},RdL ty w ts x v F → ts.all CT.flat=true → RdL ty w ts x v []
 | _,_,_,_,.nil,_=>.nil
 | _,_,_,_,.cons t ts x xs v vs F G h1 h2,hf=>by
  simp only [List.all_cons,jj] at hf
  have h3:RdC ty w t x v []:=by
   cases h1 with
   | b x=>exact .b x
   | i k n=>exact .i k n
   | s l=>exact .s l
   | nil e a c=>exact .nil e a c
   | sl=>simp [CT.flat] at hf
  exact RdL.cons t ts x xs v vs [] [] h3 (jev h2 hf.2)
theorem jeu:∀ {ts:List CT} {l:List (List DC)} {v:List Value} {F:List Nat},RdV ty w ts l v F → ts.all CT.flat=true → RdV ty w ts l v []
 | _,_,_,_,.nil ts,_=>.nil ts
 | _,_,_,_,.cons ts x l v vs F G h1 h2,hf=>RdV.cons ts x l v vs [] [] (jev h1 hf) (jeu h2 hf)
theorem jgm {g:Gh} {H0 H:List HS} {v:List DC} {I2:Nat → Prop} (hn:∀ b,(A.w0.heap.size ≤ b ∨ A.Pm b) → ¬ g.I b → ¬ I2 b):∀ {n:Nat} {ks:List K1} {us:List Value},FL ty A g H0 H w v n ks us →
  (∀ e,K1.sl e ∈ ks → ∀ (l:List (List DC)) (v:Value) (F:List Nat),RdC ty w (.sl e) (.sl l) v F → (∀ b ∈ F,g.I b) → ∃ F',RdC ty w (.sl e) (.sl l) v F' ∧ ∀ b ∈ F',I2 b) →
  (∀ e id,K1.own e id ∈ ks → ∀ (ti:TI) (l:List (List DC)) (vs:List Value) (F:List Nat),ty e=some ti → RdV ty w ti.cts l vs F → (∀ b ∈ F,g.I b) → ∃ F',RdV ty w ti.cts l vs F' ∧ ∀ b ∈ F',I2 b) →
  FL ty A { g with I:=I2 } H0 H w v n ks us
 | _,[],[],_,_,_=>trivial
 | n,k :: ks,u :: us,⟨⟨dd,h1,h2,h3⟩,h4⟩,hs,ho=>by
  refine ⟨⟨dd,h1,h2,?_⟩,jgm hn h4 (fun e he=>hs e (by simp [he])) (fun e id he=>ho e id (by simp [he]))⟩
  cases k with
  | sl e =>
   obtain ⟨l,F,q1,q2,q3⟩:=h3
   obtain ⟨F',q4,q5⟩:=hs e (by simp) l u F q2 q3
   exact ⟨l,F',q1,q4,q5⟩
  | own e id =>
   obtain ⟨l,q1,q2⟩:=h3
   obtain ⟨ti,vs,F,z1,z2,z3,z4,z5⟩:=q2.row
   obtain ⟨F',z6,z7⟩:=ho e id (by simp) ti l vs F z1 z4 z5
   refine ⟨l,q1,⟨ti,vs,F',z1,z2,z3,z6,z7⟩,fun b hb=>?_⟩
   obtain ⟨y1,y2,y3⟩:=q2.own b hb
   refine ⟨hn b y2 y1,y2,fun i p hi=>?_⟩
   have:=y3 i p hi
   rwa [YD rfl rfl]
  | _=>exact h3
 | _,[],_ :: _,h,_,_=>h.elim
 | _,_ :: _,[],h,_,_=>h.elim
theorem RVs.length:∀ {rk:List (Bool × List RK)} {vs us:List Value},RVs rk vs us → us.length=(rk.flatMap Prod.snd).length
 | [],[],us,h=>by rw [show us=[] from h]; rfl
 | (a,l) :: rk,v :: vs,us,⟨u1,u2,h1,h2,h3,h4,h5⟩=>by
  subst h1
  simp [h2,RVs.length h5]
 | [],_ :: _,_,h=>h.elim
 | _ :: _,[],_,h=>h.elim
theorem jdb {f:FuncId} {fd:Func} {vals:Array Value} (h1:P.funcs[f]? = some fd) (h2:(fd.name == "runtime.NumGoroutine")=false) (h3:fd.body.isNone=false) (w:World):(callFunc f vals).run P w = .ok (.enter f vals) w:=by
 have h3':fd.body ≠ none:=by intro h; rw [h] at h3; simp at h3
 have h2':fd.name ≠ "runtime.NumGoroutine":=by intro h; rw [h] at h2; simp at h2
 unfold callFunc
 simp [h1,h2',h3']
theorem jhh {o:Oper} {c:Call} {fop:Operand} {a:Act} {f:FuncId} {xs:Array Value} {fd:Func} (ho:o.op = .call c) (hc:c.callee = .value fop) (hf:a.eval fop = .func (.func f) #[] xs) (h1:P.funcs[f]? = some fd)
  (h2:(fd.name == "runtime.NumGoroutine")=false) (h3:fd.body.isNone=false) (w:World):(execOp a.eval o).run P w = .ok (.enter f (c.args.map a.eval ++ xs)) w:=by
 have:=jdb (P:=P) (vals:=c.args.map a.eval ++ xs) h1 h2 h3 w
 simp only [execOp,ho,resolve,hc,hf,Deferred.ofValue,Sem.run_bind,Sem.run_pure,Result.andThen_ok,invoke]
 rw [show (#[] ++ c.args.map a.eval:Array Value)=c.args.map a.eval by simp]
 exact this
theorem jes:∀ {L:List RK} {i:Nat},L.all (RK.flat ty)=true → (∀ e,K1.sl e ∉ rkK i L) ∧ ∀ e id,K1.own e id ∈ rkK i L → ∀ ti,ty e=some ti → ti.cts.all CT.flat=true
 | [],i,_=>⟨fun e h=>by simp [rkK] at h,fun e id h=>by simp [rkK] at h⟩
 | r :: L,i,h=>by
  simp only [List.all_cons,jj] at h
  obtain ⟨a,b⟩:=jes (i:=r.nx i) h.2
  refine ⟨fun e he=>?_,fun e id he ti hti=>?_⟩
  ·simp only [rkK,List.mem_cons] at he
   rcases he with he | he
   ·cases r with
    | ct c =>
     cases c with
     | sl e'=>simp [RK.flat] at h
     | _=>simp [RK.k1,CT.k1] at he
    | new e'=>simp [RK.k1] at he
   ·exact a e he
  ·simp only [rkK,List.mem_cons] at he
   rcases he with he | he
   ·cases r with
    | ct c=>cases c <;> simp [RK.k1,CT.k1] at he
    | new e' =>
     simp only [RK.k1,K1.own.injEq] at he
     obtain ⟨rfl,_⟩:=he
     have h1:=h.1
     simp only [RK.flat,hti] at h1
     rw [List.all_eq_true] at h1 ⊢
     intro c hc
     have:=h1 c hc
     cases c <;> simp_all [CT.flat]
   ·exact b e id he ti hti
theorem jhz {G:Glob} (hfn:∀ f fi,fn f=some fi → FnOk P G ty f fi) (hcl:jb8 P G ty fn cl) (A:An) (hA:AOk G A):Qj P ty fn cl A:=by
 intro o c fop f caps base tm H H' v g a w Q ho hc hf h e
 unfold yO at e
 dsimp only at e
 split at e
 ·simp at e
 ·rename_i fi hfi
  split at e
  ·rename_i kcs kos e1 e2
   split at e
   ·rename_i p q e3 e4
    split at e
    ·rename_i v0 H1 e5
     split at e
     ·rename_i hchk
      split at e
      ·rename_i r hr
       simp only [jj] at hchk
       obtain ⟨⟨hnd,hcapv⟩,hok⟩:=hchk
       obtain ⟨⟨fd,d1,d2,d3,_⟩,_⟩:=hfn f fi hfi
       have rf:=h.opd fop
       rw [hf] at rf
       obtain ⟨xs,x1,x2,x3⟩:=rf
       have hrun:=jhh (P:=P) ho hc x1 d1 d2 d3 w
       obtain ⟨vs0,y1,y2,y3⟩:=j5e h c.args.toList _ rfl
       have hcc:∀ (i:Nat) (s:C) (u:Value),(K8 tm c.args.toList ++ caps.map fun id=>C.one (.ptr id 0))[i]? = some s → (vs0 ++ xs.toList)[i]? = some u → CR ty g H w s u:=by
        intro i s u hs hu
        rcases jA i vs0.length with h' | h'
        ·rw [List.getElem?_append_left (by omega)] at hs
         rw [List.getElem?_append_left h'] at hu
         exact y3 i s u hs hu
        ·rw [List.getElem?_append_right (by omega),List.getElem?_map] at hs
         rw [List.getElem?_append_right h',y2] at hu
         cases hid:caps[i - (K8 tm c.args.toList).length]? with
         | none=>rw [hid] at hs; simp at hs
         | some id =>
          rw [hid] at hs
          simp only [Option.map_some,j5] at hs
          subst hs
          obtain ⟨z1,z2⟩:=x3 _ id hid
          have hv:ql H id:=by
           have:=List.all_eq_true.1 hcapv id (List.mem_of_getElem? hid)
           unfold jdp at this
           split at this
           ·rename_i hh; exact ⟨_,_,hh⟩
           ·simp at this
          have:=z2 hv
          rw [Array.getElem?_toList,this] at hu
          simp only [j5] at hu
          subst hu
          exact ⟨z1,rfl,fun _=>rfl⟩
       obtain ⟨g1,Ac,gc,r1,s1,hbeg,hI0,hplain,hrel,hlen⟩:=jia h (fi:=fi) (vals:=vs0 ++ xs.toList) (by simp [y2,x2]) hcc e1 e2 e3 e4 e5 hnd hok
       obtain ⟨k1,k2,k3,k4⟩:=jdg e2
       have hvars:KO.vars (kos ++ List.replicate (fi.pk.filter PK.isMv).length .u)=kos:=jdY _ k2
       have hvals:(vs0 ++ xs.toList).toArray=c.args.map a.eval ++ xs:=by
        apply Array.toList_inj.1
        simp [← y1]
       have hAc:AOk G Ac:=by
        refine ⟨?_,fun b hb=>?_⟩
        ·rw [hbeg.w0]
         refine G.dep A.w0 w (fun b hb=>?_) hA.1
         obtain ⟨z1,z2,z3⟩:=hA.2 b hb
         exact h.keep.block b z1 z2 z3
        ·obtain ⟨z1,z2,z3⟩:=hA.2 b hb
         refine ⟨by rw [hbeg.w0]; exact Nat.lt_of_lt_of_le z1 h.keep.size,fun hp=>?_,fun hp=>?_⟩
         ·obtain ⟨id,hid,rfl⟩:=hbeg.Pv b hp
          obtain ⟨t,cs,hv⟩:=hbeg.var id hid
          rcases r1.ow id _ _ hv rfl with h' | h'
          ·omega
          ·exact z2 h'
         ·obtain ⟨_,_,h',_⟩:=hbeg.Pm b hp
          rcases h' with h' | h'
          ·omega
          ·exact z3 h'
       have hcalls:=hcl f fi _ v0 r hfi hr Ac gc (c.args.map a.eval ++ xs) w hAc (by rw [← hvals]; exact hrel) (by rw [← hvals]; simpa using hlen) hbeg.w0 (by dsimp only; rw [hvars,hbeg.m]; exact k1.symm)
       unfold Oper.wp
       rw [hrun]
       show Calls P f _ w _
       refine Calls.mono hcalls fun en w' hen=>?_
       cases en with
       | returned rv =>
        obtain ⟨vs,rfl,hres⟩:=hen
        obtain ⟨⟨gr,H0r,H1r,us1,us2,q1,q2,q3,q4,q5,q6,q7⟩,hkeep⟩:=hres
        dsimp only at q2 q3 q4
        rw [hvars] at q2 q3 q4
        have hus1:us1.length=(KY 0 fi.rk).length:=by rw [q1.length]; simp only [KY]; rw [(j3a _ _).1]
        show yn ty A g H w _ _ w'
        have fin:∀ (gB:Gh) (H2:List HS),(∃ g2,Rel ty A g2 ⟨tm,H2⟩ a w' ∧ (∀ b,gB.I b → g2.I b) ∧ CR ty g2 H2 w' (jfT r base fi.rk) (Kd vs)) → (∀ b,g.I b → gB.I b) → some (H2,jfT r base fi.rk)=some (H',v) →
          yn ty A g H w ⟨pf tm o.dst v,H'⟩ (a.put o.dst (Kd vs)) w':=by
         intro gB H2 hx hgI he
         simp only [j5,jg] at he
         obtain ⟨rfl,rfl⟩:=he
         obtain ⟨g2,z1,z2,z3⟩:=hx
         exact ⟨g2,z1.put o.dst z3,fun b hb=>z2 b (hgI b hb)⟩
        split at e
        ·rename_i hflat
         simp only [jj] at hflat
         obtain ⟨hfl,hpl⟩:=hflat
         obtain ⟨hidn,_⟩:=j1t hpl e1
         rw [hidn] at k1 hbeg
         have hk0:kos=[]:=jY k1
         subst hk0
         have hPm:=hplain hpl
         split at e
         ·rename_i H2 hput
          refine fin g H2 ?_ (fun _ h=>h) e
          have hflatL:(fi.rk.flatMap Prod.snd).all (RK.flat ty)=true:=by
           rw [List.all_flatMap]
           exact hfl
          have hkf:=jes (ty:=ty) (i:=0) hflatL
          have hm0:Ac.m=0:=hbeg.m
          have hf2:FL ty Ac { gr with I:=g.I } H0r H1r w' r 0 (KY 0 fi.rk ++ ([]:List KO).flatMap KO.kinds) (us1 ++ us2):=by
           refine jgm (fun b hb _=>?_) q3 (fun e he=>?_) (fun e id he ti l vs F hti hrd _=>?_)
           ·rcases hb with hb | hb
            ·rw [hbeg.w0] at hb
             exact fun hI=>absurd (h.lt b hI) (by omega)
            ·exact absurd hb (hPm b)
           ·simp only [List.flatMap_nil,jV] at he
            exact absurd he (hkf.1 e)
           ·simp only [List.flatMap_nil,jV] at he
            exact ⟨[],jeu hrd (hkf.2 e id he ti hti),fun _ h=>by cases h⟩
          exact jb3 h (ids:=[]) (Ac:=Ac) (kos:=[]) (gr:={ gr with I:=g.I }) ⟨hbeg.w0,hbeg.m,fun j id hj=>by simp at hj,fun b hb=>by
            obtain ⟨id,hid,_⟩:=hbeg.Pv b hb
            simp at hid,fun b hb=>absurd hb (hPm b),fun id hid=>by simp at hid⟩ rfl (fun k hk=>by simp at hk) q1 q2 hf2 q4 (fun _ h=>h)
           (fun b hb=>⟨Nat.lt_of_lt_of_le (h.lt b hb) (by have:=hkeep.size; rwa [hbeg.w0] at this),.inl hb⟩) (fun j hj=>by simp at hj) (fun j hj=>by simp at hj) hkeep rfl hus1 hput
         ·simp at e
        ·rename_i hflat
         split at e
         ·rename_i H2 hput
          refine fin g1 H2 ?_ s1.I e
          have hf2:FL ty Ac { gr with I:=fun b=>g1.I b ∨ gr.I b } H0r H1r w' r 0 (KY 0 fi.rk ++ kos.flatMap KO.kinds) (us1 ++ us2):=by
           refine jgm (fun b hb hnb hI=>?_) q3 (fun e he l v F hrd hF=>⟨F,hrd,fun b hb=>.inr (hF b hb)⟩) (fun e id he ti l vs F hti hrd hF=>⟨F,hrd,fun b hb=>.inr (hF b hb)⟩)
           rcases hI with hI | hI
           ·rcases hb with hb | hb
            ·rw [hbeg.w0] at hb
             exact absurd (r1.lt b hI) (by omega)
            ·exact (hbeg.Pm b hb).2.1 hI
           ·exact hnb hI
          have hsz:w.heap.size ≤ w'.heap.size:=by have:=hkeep.size; rwa [hbeg.w0] at this
          refine jb3 r1 hbeg (gr:={ gr with I:=fun b=>g1.I b ∨ gr.I b }) k1 k4 q1 q2 hf2 q4 (fun _ h=>.inl h) (fun b hb=>?_) (fun j hj hI=>?_) (fun j hj=>?_) hkeep hnd hus1 hput
          ·rcases hb with hb | hb
           ·exact ⟨Nat.lt_of_lt_of_le (r1.lt b hb) hsz,.inl hb⟩
           ·obtain ⟨z1,z2⟩:=q5 b hb
            rw [hI0,hbeg.w0] at z2
            exact ⟨z1,z2⟩
          ·have hj':j < Ac.m:=by rw [hbeg.m]; exact hj
           rcases hI with hI | hI
           ·rw [hbeg.pb j _ (List.getElem?_eq_getElem hj)] at hI
            obtain ⟨t,cs,hc⟩:=hbeg.var _ (je hj)
            exact X1 r1 hc rfl hI
           ·exact q6 j hj' hI
          ·obtain ⟨o',z1,z2⟩:=q7 j (by rw [hbeg.m]; exact hj)
           exact ⟨o',z1,by rw [YD rfl rfl]; exact z2⟩
         ·simp at e
       | panicked ch=>exact hen.elim
       | outgrown=>exact hen.elim
      ·simp at e
     ·simp at e
    ·simp at e
   ·simp at e
  ·simp at e
theorem j86 {ju:Cfg} {G:Glob} (hty:K9 P ju.ty) (hm:P.follows .mixedOrders=true) (hfn:∀ f fi,ju.fn f=some fi → FnOk P G ju.ty f fi) (k:Nat):jb8 P G ju.ty ju.fn (J1 ju k) :=
 jf7 hty hm hfn (fun cl hcl A hA=>jhz hfn hcl A hA) k
end
end Go.Proofs.QV
#print axioms Go.Proofs.QV.j86
