import Derived.Test.YtcpolmhblhhikaaGreatMU4
import Derived.KernelRfl
import Derived.Test.YtcpolmhblhhikaaGreatMU3
/- The loaded code with notes for the evaluator laid beside it. -/
namespace Go.Proofs.QV
open Go
open _root_.Bool renaming and_eq_true → jk
open _root_.Option.some renaming injEq → j8
open Out renaming andThenB → j9
open _root_.List renaming length_cons → jb, cons_append → jh, append_assoc → jD, nil_append → jg
set_option linter.unusedVariables false
inductive AT where
 | n
 | r (ids:List Nat) (h:Option Hint)
 | k (ids:List Nat) (segs:List (Nat × Hint))
 | s (a b:AT)
 | c (x y:AT) (h:Option Hint)
 | b (x:AT) (h:Hint)
def AT.fst:AT → AT
 | .s x _=>x
 | .c x _ _=>x
 | .b x _=>x
 | _=>.n
def AT.snd:AT → AT
 | .s _ y=>y
 | .c _ y _=>y
 | _=>.n
def AT.opt:AT → Option Hint
 | .r _ h=>h
 | .c _ _ h=>h
 | _=>none
def AT.ids:AT → List Nat
 | .r l _=>l
 | .k l _=>l
 | _=>[]
def AT.segs:AT → List (Nat × Hint)
 | .k _ l=>l
 | _=>[]
def AT.hint:AT → Hint
 | .b _ h=>h
 | _=>⟨[],[]⟩
def ann:Code → AT → AC
 | .skip,_=>.skip
 | .region id ops true,t=>.region id ops true t.ids t.opt
 | .region id ops false,t =>
  match t.segs with
  | []=>.region id ops false t.ids t.opt
  | s :: l=>.rcut id ops t.ids (s :: l)
 | .seq a b,t=>.seq (ann a t.fst) (ann b t.snd)
 | .cond c x y,t=>.cond c (ann x t.fst) (ann y t.snd) t.opt
 | .block id b,t=>.block id (ann b t.fst) t.hint
 | .loop b,t=>.loop (ann b t.fst) t.hint
 | .exit id,_=>.exit id
 | .ret,_=>.ret
 | _,_=>.skip
def Vd:Code → Bool
 | .skip=>true
 | .region _ _ _=>true
 | .seq a b=>Vd a && Vd b
 | .cond _ x y=>Vd x && Vd y
 | .block _ b=>Vd b
 | .loop b=>Vd b
 | .exit _=>true
 | .ret=>true
 | _=>false
theorem QL:∀ (c:Code) (t:AT),Vd c=true → (ann c t).code=c
 | .skip,_,_=>rfl
 | .region _ _ true,_,_=>rfl
 | .region _ _ false,t,_=>by
  rw [ann]
  split <;> rfl
 | .seq a b,t,h=>by
  simp only [Vd,jk] at h
  simp only [ann,AC.code,QL a _ h.1,QL b _ h.2]
 | .cond _ x y,t,h=>by
  simp only [Vd,jk] at h
  simp only [ann,AC.code,QL x _ h.1,QL y _ h.2]
 | .block _ b,t,h=>by
  simp only [Vd] at h
  simp only [ann,AC.code,QL b _ h]
 | .loop b,t,h=>by
  simp only [Vd] at h
  simp only [ann,AC.code,QL b _ h]
 | .exit _,_,_=>rfl
 | .ret,_,_=>rfl
 | .label _,_,h=>by simp [Vd] at h
 | .goto _,_,h=>by simp [Vd] at h
def jE (fd:Func) (nobj:Nat) (pk:List PK) (rk:List (Bool × List RK)) (t:Hint → AT):FI :=
 { ntmps:=fd.ntmps,nobj:=nobj,pk:=pk,rk:=rk,res:=fd.results.toList,body:=fun h=>ann (fd.body.getD .skip) (t h),prim:=none,mark:=none,stf:=none }
def jdu (fd:Func):Bool:=!(fd.name == "runtime.NumGoroutine") && match fd.body with | some c=>Vd c | none=>false
theorem jl {P:Program} {G:Glob} {ty:Nat → Option TI} {f:Nat} {fd:Func} {nobj:Nat} {pk:List PK} {rk:List (Bool × List RK)} {t:Hint → AT} (h1:P.funcs[f]? = some fd) (h2:jdu fd=true):FnOk P G ty f (jE fd nobj pk rk t):=by
 unfold jdu at h2
 rw [jk] at h2
 obtain ⟨h2,h3⟩:=h2
 refine ⟨⟨fd,h1,by simpa using h2,?_,fun _=>?_⟩,fun p hp=>by simp [jE] at hp,fun m hm=>(by simp [jE] at hm),fun m hm=>by simp [jE] at hm⟩
 ·cases hb:fd.body with
  | none=>rw [hb] at h3; simp at h3
  | some c=>rfl
 ·cases hb:fd.body with
  | none=>rw [hb] at h3; simp at h3
  | some c =>
   rw [hb] at h3
   refine ⟨fun h=>?_,rfl,rfl⟩
   simp only [jE,hb,Option.getD_some]
   rw [QL c (t h) h3]
def Xk {α:Type} (n:Nat):List (Nat × α) → Option α
 | []=>none
 | (m,x) :: l=>bif Nat.beq m n then some x else Xk n l
theorem j2X {α:Type} {n:Nat} {x:α}:∀ {l:List (Nat × α)},Xk n l=some x → (n,x) ∈ l
 | [],h=>by simp [Xk] at h
 | (m,y) :: l,h=>by
  rw [Xk] at h
  cases hb:Nat.beq m n with
  | true =>
   rw [hb] at h
   simp only [cond_true,j8] at h
   subst h
   have:=Nat.eq_of_beq_eq_true hb
   subst this
   simp
  | false =>
   rw [hb] at h
   exact List.mem_cons_of_mem _ (j2X h)
def Out.bindR (o:Out) (K:List DC → Out):Out :=
 match o with
 | .ret v=>K v
 | _=>.fail
def Evt (g:Nat → Out) (o:Out):Prop:=∃ N,∀ k,N ≤ k → g k=o
def j5o (F:Nat → List DC → Out) (v:List DC) (o:Out):Prop:=∃ N,∀ k n,N ≤ k → N ≤ n → pU (F k) n v=o
theorem Evt.const (o:Out):Evt (fun _=>o) o:=⟨0,fun _ _=>rfl⟩
theorem Evt.succ {g:Nat → Out} {o:Out} (h:Evt (fun k=>g (k + 1)) o):Evt g o:=by
 obtain ⟨N,h⟩:=h
 refine ⟨N + 1,fun k hk=>?_⟩
 obtain ⟨k,rfl⟩:∃ j,k=j + 1:=⟨k - 1,by omega⟩
 exact h k (by omega)
theorem Evt.congr {g g':Nat → Out} {o:Out} (h:Evt g o) (e:∀ k,g' k=g k):Evt g' o:=by
 obtain ⟨N,h⟩:=h
 exact ⟨N,fun k hk=>(e k).trans (h k hk)⟩
theorem Evt.bind {g:Nat → Out} {r:List DC} {G:Nat → List DC → Out} {o:Out} (h:Evt g (.ret r)) (h2:Evt (fun k=>G k r) o):Evt (fun k=>(g k).bindR (G k)) o:=by
 obtain ⟨N,h⟩:=h
 obtain ⟨M,h2⟩:=h2
 exact ⟨max N M,fun k hk=>by dsimp only; rw [h k (by omega)]; exact h2 k (by omega)⟩
theorem j5o.step {F:Nat → List DC → Out} {v v':List DC} {o:Out} (h:Evt (fun k=>F k v) (.norm v')) (h2:j5o F v' o):j5o F v o:=by
 obtain ⟨N,h⟩:=h
 obtain ⟨M,h2⟩:=h2
 refine ⟨max N (M + 1),fun k n hk hn=>?_⟩
 obtain ⟨n,rfl⟩:∃ j,n=j + 1:=⟨n - 1,by omega⟩
 have h':=h k (by omega)
 dsimp only at h'
 rw [pU,h']
 exact h2 k n (by omega) (by omega)
theorem j5o.ex {F:Nat → List DC → Out} {v v':List DC} {id:Nat} (h:Evt (fun k=>F k v) (.ex id v')):j5o F v (.ex id v'):=by
 obtain ⟨N,h⟩:=h
 refine ⟨N + 1,fun k n hk hn=>?_⟩
 obtain ⟨n,rfl⟩:∃ j,n=j + 1:=⟨n - 1,by omega⟩
 have h':=h k (by omega)
 dsimp only at h'
 rw [pU,h']
 rfl
theorem j5o.ret {F:Nat → List DC → Out} {v v':List DC} (h:Evt (fun k=>F k v) (.ret v')):j5o F v (.ret v'):=by
 obtain ⟨N,h⟩:=h
 refine ⟨N + 1,fun k n hk hn=>?_⟩
 obtain ⟨n,rfl⟩:∃ j,n=j + 1:=⟨n - 1,by omega⟩
 have h':=h k (by omega)
 dsimp only at h'
 rw [pU,h']
 rfl
theorem j5o.evt {F:Nat → List DC → Out} {v:List DC} {o:Out} (h:j5o F v o):Evt (fun k=>pU (F k) k v) o:=by
 obtain ⟨N,h⟩:=h
 exact ⟨N,fun k hk=>h k k hk hk⟩
@[simp] theorem DC.bb_b (x:Bool):(DC.b x).bb=x:=rfl
@[simp] theorem DC.ii_i (x:Int):(DC.i x).ii=x:=rfl
@[simp] theorem DC.ss_s (x:List UInt8):(DC.s x).ss=x:=rfl
@[simp] theorem DC.ll_sl (x:List (List DC)):(DC.sl x).ll=x:=rfl
@[simp] theorem Out.bindR_ret (v:List DC) (K:List DC → Out):(Out.ret v).bindR K=K v:=rfl
@[simp] theorem Out.andThen_norm (v:List DC) (K:List DC → Out):(Out.norm v).andThen K=K v:=rfl
@[simp] theorem Out.andThen_ret (v:List DC) (K:List DC → Out):(Out.ret v).andThen K = .ret v:=rfl
@[simp] theorem Out.andThen_ex (id:Nat) (v:List DC) (K:List DC → Out):(Out.ex id v).andThen K = .ex id v:=rfl
@[simp] theorem Out.andThenB_norm (id:Nat) (v:List DC) (K:List DC → Out):(Out.norm v).andThenB id K=K v:=rfl
@[simp] theorem Out.andThenB_ret (id:Nat) (v:List DC) (K:List DC → Out):(Out.ret v).andThenB id K = .ret v:=rfl
@[simp] theorem Out.andThenB_ex (id id':Nat) (v:List DC) (K:List DC → Out):(Out.ex id' v).andThenB id K=if id'=id then K v else .ex id' v:=rfl
set_option linter.unusedSimpArgs false
def j1x (g:Nat → Out):Prop:=∀ k,g k = .fail ∨ g (k + 1)=g k
theorem j1x.up {g:Nat → Out} (h:j1x g) {k:Nat} (hk:g k ≠ .fail):∀ n,g (k + n)=g k
 | 0=>rfl
 | n + 1=>by
  have ih:=j1x.up h hk n
  rcases h (k + n) with h1 | h1
  ·rw [ih] at h1; exact absurd h1 hk
  ·rw [← Nat.add_assoc,h1,ih]
theorem j1x.le {g:Nat → Out} (h:j1x g) {k k':Nat} (hk:k ≤ k'):g k = .fail ∨ g k'=g k:=by
 by_cases hf:g k = .fail
 ·exact .inl hf
 ·obtain ⟨n,rfl⟩:=Nat.exists_eq_add_of_le hk
  exact .inr (h.up hf n)
open Classical in
noncomputable def lim (g:Nat → Out):Out:=if h:∃ k,g k ≠ .fail then g (Classical.choose h) else .fail
theorem j1x.lim {g:Nat → Out} (h:j1x g):Evt g (lim g):=by
 unfold QV.lim
 split
 ·rename_i hk
  have:=Classical.choose_spec hk
  refine ⟨Classical.choose hk,fun k hle=>?_⟩
  rcases h.le hle with h1 | h1
  ·exact absurd h1 this
  ·exact h1
 ·rename_i hk
  refine ⟨0,fun k _=>?_⟩
  exact Classical.byContradiction fun hne=>hk ⟨k,hne⟩
theorem Evt.uniq {g:Nat → Out} {o o':Out} (h:Evt g o) (h':Evt g o'):o=o':=by
 obtain ⟨N,h⟩:=h
 obtain ⟨M,h'⟩:=h'
 rw [← h (max N M) (by omega),← h' (max N M) (by omega)]
def qs (g:Nat → Out) (o:Out):Prop:=j1x g ∧ Evt g o
theorem qs.le {g:Nat → Out} {o:Out} (h:qs g o) (k:Nat):g k = .fail ∨ o=g k:=by
 obtain ⟨N,hN⟩:=h.2
 rcases h.1.le (Nat.le_max_left k N) with h1 | h1
 ·exact .inl h1
 ·exact .inr (by rw [← h1,hN _ (by omega)])
theorem qs.const (o:Out):qs (fun _=>o) o:=⟨fun _=>.inr rfl,Evt.const o⟩
def jdM {α:Type} (g:Nat → Option α):Prop:=∀ k,g k=none ∨ g (k + 1)=g k
def jap {α:Type} (g:Nat → Option α) (o:Option α):Prop:=jdM g ∧ ∃ N,∀ k,N ≤ k → g k=o
theorem jap.const {α:Type} (o:Option α):jap (fun _=>o) o:=⟨fun _=>.inr rfl,0,fun _ _=>rfl⟩
theorem qs.via {α:Type} {g:Nat → Option α} {o:Option α} {K:Nat → α → Out} {K':α → Out} (h:jap g o) (hK:∀ a,qs (fun k=>K k a) (K' a)):qs (fun k=>via .fail (g k) (K k)) (via .fail o K'):=by
 obtain ⟨hm,N,hN⟩:=h
 constructor
 ·intro k
  rcases hm k with h1 | h1
  ·left
   simp [h1,QV.via]
  ·cases hg:g k with
   | none=>left; simp [hg,QV.via]
   | some a =>
    rw [hg] at h1
    simp only [h1,hg,QV.via]
    exact (hK a).1 k
 ·cases o with
  | none=>exact ⟨N,fun k hk=>by simp [hN k hk,QV.via]⟩
  | some a =>
   obtain ⟨M,hM⟩:=(hK a).2
   exact ⟨max N M,fun k hk=>by simp only [hN k (by omega),QV.via]; exact hM k (by omega)⟩
theorem qs.andThen {g:Nat → Out} {o:Out} {K:Nat → List DC → Out} {K':List DC → Out} (h:qs g o) (hK:∀ v,qs (fun k=>K k v) (K' v)):qs (fun k=>(g k).andThen (K k)) (o.andThen K'):=by
 constructor
 ·intro k
  dsimp only
  rcases h.1 k with h1 | h1
  ·left; rw [h1]; rfl
  ·rw [h1]
   cases hg:g k with
   | norm v=>exact (hK v).1 k
   | _=>first | exact .inl rfl | exact .inr rfl
 ·obtain ⟨N,hN⟩:=h.2
  cases o with
  | norm v =>
   obtain ⟨M,hM⟩:=(hK v).2
   exact ⟨max N M,fun k hk=>by dsimp only; rw [hN k (by omega)]; exact hM k (by omega)⟩
  | _=>exact ⟨N,fun k hk=>by dsimp only; rw [hN k hk]; rfl⟩
theorem qs.andThenB {g:Nat → Out} {o:Out} {id:Nat} {K:Nat → List DC → Out} {K':List DC → Out} (h:qs g o) (hK:∀ v,qs (fun k=>K k v) (K' v)):qs (fun k=>(g k).andThenB id (K k)) (o.andThenB id K'):=by
 constructor
 ·intro k
  dsimp only
  rcases h.1 k with h1 | h1
  ·left; rw [h1]; rfl
  ·rw [h1]
   cases hg:g k with
   | norm v=>exact (hK v).1 k
   | ex id' v =>
    simp only [j9]
    by_cases hid:id'=id
    ·simp only [hid,if_true]; exact (hK v).1 k
    ·simp [hid]
   | _=>first | exact .inl rfl | exact .inr rfl
 ·obtain ⟨N,hN⟩:=h.2
  cases o with
  | norm v =>
   obtain ⟨M,hM⟩:=(hK v).2
   exact ⟨max N M,fun k hk=>by dsimp only; rw [hN k (by omega)]; exact hM k (by omega)⟩
  | ex id' v =>
   by_cases hid:id'=id
   ·obtain ⟨M,hM⟩:=(hK v).2
    exact ⟨max N M,fun k hk=>by dsimp only; rw [hN k (by omega)]; simp only [j9,hid,if_true]; exact hM k (by omega)⟩
   ·exact ⟨N,fun k hk=>by dsimp only; rw [hN k hk]; simp [j9,hid]⟩
  | _=>exact ⟨N,fun k hk=>by dsimp only; rw [hN k hk]; rfl⟩
theorem qs.ite {c:Prop} [Decidable c] {g g':Nat → Out} {o o':Out} (h:qs g o) (h':qs g' o'):qs (fun k=>if c then g k else g' k) (if c then o else o'):=by
 by_cases hc:c
 ·simpa [hc] using h
 ·simpa [hc] using h'
theorem QI (F:List DC → Out):∀ (n:Nat) (v:List DC),pU F n v = .fail ∨ pU F (n + 1) v=pU F n v
 | 0,v=>.inl rfl
 | n + 1,v=>by
  rw [pU,pU]
  cases F v with
  | norm v'=>exact QI F n v'
  | _=>exact .inr rfl
theorem j2W {F F':List DC → Out} (h:∀ v,F v = .fail ∨ F' v=F v):∀ (n:Nat) (v:List DC),pU F n v = .fail ∨ pU F' n v=pU F n v
 | 0,v=>.inl rfl
 | n + 1,v=>by
  rw [pU,pU]
  rcases h v with h1 | h1
  ·left; rw [h1]; rfl
  ·rw [h1]
   cases F v with
   | norm v'=>exact j2W h n v'
   | _=>exact .inr rfl
noncomputable def jy (F:List DC → Out) (v:List DC):Out:=lim fun n=>pU F n v
theorem j0h (F:List DC → Out) (v:List DC):qs (fun n=>pU F n v) (jy F v):=⟨fun n=>QI F n v,j1x.lim fun n=>QI F n v⟩
theorem j2B (F:List DC → Out) (v:List DC):jy F v=(F v).andThen (jy F):=by
 have h1:Evt (fun n=>pU F (n + 1) v) (jy F v):=by
  obtain ⟨N,h⟩:=(j0h F v).2
  exact ⟨N,fun k hk=>h (k + 1) (by omega)⟩
 have h2:Evt (fun n=>pU F (n + 1) v) ((F v).andThen (jy F)):=(qs.andThen (g:=fun _=>F v) (K:=fun n v=>pU F n v) (qs.const _) fun v=>j0h F v).2
 exact h1.uniq h2
theorem qs.loop {F:Nat → List DC → Out} {F':List DC → Out} (h:∀ v,qs (fun k=>F k v) (F' v)) (v:List DC):qs (fun k=>pU (F k) k v) (jy F' v):=by
 constructor
 ·intro k
  dsimp only
  rcases QI (F k) k v with h1 | h1
  ·exact .inl h1
  ·rcases j2W (F:=F k) (F':=F (k + 1)) (fun v=>(h v).1 k) (k + 1) v with h2 | h2
   ·left; rw [← h1,h2]
   ·right; rw [h2,h1]
 ·have up:∀ (n:Nat) (v:List DC),pU F' n v ≠ .fail → ∃ N,∀ k,N ≤ k → pU (F k) n v=pU F' n v:=by
   intro n
   induction n with
   | zero=>intro v hv; exact absurd rfl hv
   | succ n ih =>
    intro v hv
    obtain ⟨N,hN⟩:=(h v).2
    rw [pU] at hv
    cases hf:F' v with
    | norm v' =>
     rw [hf] at hv
     obtain ⟨M,hM⟩:=ih v' hv
     refine ⟨max N M,fun k hk=>?_⟩
     have hNk:=hN k (by omega)
     dsimp only at hNk
     rw [pU,pU,hNk,hf]
     exact hM k (by omega)
    | _ =>
     refine ⟨N,fun k hk=>?_⟩
     have hNk:=hN k hk
     dsimp only at hNk
     rw [pU,pU,hNk,hf]
     rfl
  obtain ⟨n,hn⟩:=(j0h F' v).2
  by_cases hfail:jy F' v = .fail
  ·rw [hfail]
   refine ⟨0,fun k _=>?_⟩
   rcases j2W (F:=F k) (F':=F') (fun v=>(h v).le k) k v with h1 | h1
   ·exact h1
   ·rcases (j0h F' v).le k with h2 | h2
    ·dsimp only at h2 ⊢; rw [← h1,h2]
    ·dsimp only at h2 ⊢; rw [← h1,← h2,hfail]
  ·have hne:pU F' n v ≠ .fail:=by
    have:=hn n (Nat.le_refl _)
    dsimp only at this
    rw [this]; exact hfail
   obtain ⟨N,hN⟩:=up n v hne
   refine ⟨max N n,fun k hk=>?_⟩
   have h1:=hN k (by omega)
   rcases j1x.le (g:=fun m=>pU (F k) m v) (fun m=>QI (F k) m v) (show n ≤ k by omega) with h2 | h2
   ·rw [h1] at h2; exact absurd h2 hne
   ·dsimp only at h2 ⊢
    rw [h2,h1]
    exact hn n (Nat.le_refl _)
section
variable {ty:Nat → Option TI} {fn:Nat → Option FI}
theorem j6r (base:Nat) (st:St) (f:Nat) (caps:List Nat) (args:List C):(∃ X,∀ (cl:Nat → Hint → List DC → Out),qG ty fn cl none base st f caps args (fun H v=>some (H,v))=X) ∨
  ∃ (h:Hint) (v:List DC) (G:List DC → Option (List HS × C)),∀ (cl:Nat → Hint → List DC → Out),qG ty fn cl none base st f caps args (fun H v=>some (H,v))=match cl f h v with | .ret r=>G r | _=>none:=by
 unfold qG
 cases fn f with
 | none=>exact .inl ⟨_,fun _=>rfl⟩
 | some fi =>
  dsimp only
  cases fi.stf with
  | some m=>exact .inl ⟨_,fun _=>rfl⟩
  | none =>
  dsimp only
  cases fi.mark with
  | some m=>exact .inl ⟨_,fun _=>rfl⟩
  | none =>
  dsimp only
  generalize args ++ caps.map (fun id=>C.one (.ptr id 0))=as
  generalize pV fi.pk as=ids
  cases yX 0 ids.length fi.pk as with
  | none=>exact .inl ⟨_,fun _=>rfl⟩
  | some kcs =>
  cases j1X ty st.H ids with
  | none=>exact .inl ⟨_,fun _=>rfl⟩
  | some kos =>
  dsimp only
  cases Jz (kcs.map KC.data) as with
  | none=>exact .inl ⟨_,fun _=>rfl⟩
  | some p =>
  cases Vu st.H ids kos with
  | none=>exact .inl ⟨_,fun _=>rfl⟩
  | some q =>
  dsimp only
  cases pT ty st.H (kcs.flatMap (fun k=>k.data.kinds) ++ kos.flatMap KO.kinds) (p ++ q) with
  | none=>exact .inl ⟨_,fun _=>rfl⟩
  | some vH =>
  obtain ⟨v,H1⟩:=vH
  dsimp only
  split
  ·exact .inr ⟨_,_,_,fun cl=>rfl⟩
  ·exact .inl ⟨_,fun _=>rfl⟩
theorem j5C (base:Nat) (o:Oper) (tm:List C) (H:List HS):(∃ X,∀ (cl:Nat → Hint → List DC → Out),stepV ty fn cl none base o tm H (fun c H v=>some (c,H,v))=X) ∨
  ∃ (f:Nat) (caps:List Nat) (args:List C) (c:Cls),∀ (cl:Nat → Hint → List DC → Out),stepV ty fn cl none base o tm H (fun c H v=>some (c,H,v))=via none (qG ty fn cl none base ⟨tm,H⟩ f caps args fun H v=>some (H,v)) fun (r:List HS × C)=>some (c,r.1,r.2):=by
 unfold stepV
 cases o.op with
 | call c =>
  dsimp only
  cases c.callee with
  | value f =>
   dsimp only
   cases opd tm f with
   | one s =>
    cases s with
    | fn f caps=>exact .inr ⟨f,caps,_,_,fun cl=>qa (fail:=none) (K:=fun H v=>some (_,H,v))⟩
    | _=>exact .inl ⟨_,fun _=>rfl⟩
   | _=>exact .inl ⟨_,fun _=>rfl⟩
  | _=>exact .inl ⟨_,fun _=>rfl⟩
 | _=>exact .inl ⟨_,fun _=>rfl⟩
theorem qs.stepV {cl:Nat → Nat → Hint → List DC → Out} {cl':Nat → Hint → List DC → Out} (hcl:∀ f h v,qs (fun k=>cl k f h v) (cl' f h v)) {base:Nat} {o:Oper} {tm:List C} {H:List HS} {K:Nat → Cls → List HS → C → Out} {K':Cls → List HS → C → Out}
  (hK:∀ c H v,qs (fun k=>K k c H v) (K' c H v)):qs (fun k=>QV.stepV ty fn (cl k) .fail base o tm H (K k)) (QV.stepV ty fn cl' .fail base o tm H K'):=by
 rw [VH,show (fun k=>QV.stepV ty fn (cl k) .fail base o tm H (K k))=fun k=>QV.via .fail (QV.stepV ty fn (cl k) none base o tm H fun c H v=>some (c,H,v)) fun (r:Cls × List HS × C)=>K k r.1 r.2.1 r.2.2 from funext fun k=>VH]
 refine qs.via (K:=fun k (r:Cls × List HS × C)=>K k r.1 r.2.1 r.2.2) ?_ fun r=>hK _ _ _
 rcases j5C (ty:=ty) (fn:=fn) base o tm H with ⟨X,hX⟩ | ⟨f,caps,args,c,hX⟩
 ·simp only [hX]
  exact jap.const X
 ·simp only [hX]
  rcases j6r (ty:=ty) (fn:=fn) base ⟨tm,H⟩ f caps args with ⟨X,h0⟩ | ⟨h,v,G,h1⟩
  ·simp only [h0]
   exact jap.const (QV.via none X _)
  ·simp only [h1]
   constructor
   ·intro k
    rcases (hcl f h v).1 k with h2 | h2
    ·dsimp only at h2; left; simp only [h2]; rfl
    ·dsimp only at h2; right; simp only [h2]
   ·obtain ⟨N,hN⟩:=(hcl f h v).2
    exact ⟨N,fun k hk=>by have:=hN k hk; dsimp only at this ⊢; rw [this]⟩
theorem qs.opR {cl:Nat → Nat → Hint → List DC → Out} {cl':Nat → Hint → List DC → Out} (hcl:∀ f h v,qs (fun k=>cl k f h v) (cl' f h v)) {all:Array Oper} {base:Nat} {o:Oper} {st:St} {K:Nat → Cls → St → Out} {K':Cls → St → Out}
  (hK:∀ c st,qs (fun k=>K k c st) (K' c st)):qs (fun k=>QV.opR ty fn (cl k) .fail all base o st (K k)) (QV.opR ty fn cl' .fail all base o st K'):=by
 have hs:∀ st,qs (fun k=>QV.Z8 ty fn (cl k) .fail base o st (K k)) (QV.Z8 ty fn cl' .fail base o st K'):=fun st=>qs.stepV hcl fun c H v=>hK _ _
 unfold QV.opR
 simp only [YV,V2]
 cases o.guard with
 | none=>exact hs st
 | some g =>
  obtain ⟨j,want⟩:=g
  dsimp only
  cases (all[j]?).bind (·.dst) with
  | none=>exact qs.const _
  | some d =>
   dsimp only
   cases st.tm.getD d (.one .undef) with
   | one s =>
    cases s with
    | bool b =>
     cases b <;> cases want <;> first | exact hs _ | exact hK _ _
    | _=>exact qs.const _
   | tup l =>
    cases l with
    | nil=>exact hK _ _
    | cons _ _=>exact qs.const _
   | _=>exact qs.const _
theorem qs.runR {cl:Nat → Nat → Hint → List DC → Out} {cl':Nat → Hint → List DC → Out} (hcl:∀ f h v,qs (fun k=>cl k f h v) (cl' f h v)) {all:Array Oper} {K:Nat → List Cls → St → Out} {K':List Cls → St → Out}
  (hK:∀ c st,qs (fun k=>K k c st) (K' c st)):∀ (l:List (Oper × Nat)) (acc:List Cls) (st:St),qs (fun k=>QV.runR ty fn (cl k) .fail all l acc st (K k)) (QV.runR ty fn cl' .fail all l acc st K')
 | [],acc,st=>hK _ _
 | (o,base) :: l,acc,st=>by
  simp only [j14]
  exact qs.opR hcl fun c st'=>qs.runR hcl hK l (c :: acc) st'
noncomputable def zV (R:Nat → Hint → List DC → Out) (L:(List DC → Out) → List DC → Out) (ty:Nat → Option TI) (fn:Nat → Option FI) (mm:Nat) (rt:St → Out):AC → (Nat → Option Hint) → St → (St → Out) → Out
 | .skip,_,st,K=>K st
 | .region _ ops draw ids none,_,st,K =>
  QV.runR ty fn R Out.fail ops (KB ops.toList ids) [] st fun cs st' =>
   match draw && !(KW ops cs) with
   | true=>.fail
   | false=>K st'
 | .region _ ops draw ids (some h),_,st,K =>
  (QV.runR ty fn R Out.fail ops (KB ops.toList ids) [] st fun cs st' =>
   match draw && !(KW ops cs) with
   | true=>.fail
   | false=>qh ty mm h st').andThen fun v=>K (KJ h v)
 | .rcut _ ops ids segs,_,st,K=>segR ty fn R mm ops segs (KB ops.toList ids) st K
 | .seq a b,Γ,st,K=>zV R L ty fn mm rt a Γ st fun st'=>zV R L ty fn mm rt b Γ st' K
 | .cond c x y none,Γ,st,K =>
  match opd st.tm c with
  | .one (.bool b)=>if b=true then zV R L ty fn mm rt x Γ st K else zV R L ty fn mm rt y Γ st K
  | _=>.fail
 | .cond c x y (some h),Γ,st,K =>
  match opd st.tm c with
  | .one (.bool b)=>(if b=true then zV R L ty fn mm rt x Γ st (qh ty mm h) else zV R L ty fn mm rt y Γ st (qh ty mm h)).andThen fun v=>K (KJ h v)
  | _=>.fail
 | .block id body h,Γ,st,K =>
  (zV R L ty fn mm rt body (fun j=>if j=id then some h else Γ j) st (qh ty mm h)).andThenB id fun v=>K (KJ h v)
 | .loop body h,Γ,st,_ =>
  match j0d ty mm h st with
  | some v=>L (fun v=>zV R L ty fn mm rt body Γ (KJ h v) (qh ty mm h)) v
  | none=>.fail
 | .exit id,Γ,st,_ =>
  match Γ id with
  | some h =>
   (match j0d ty mm h st with
   | some v=>.ex id v
   | none=>.fail)
  | none=>.fail
 | .ret,_,st,_=>rt st
theorem qs.segR {cl:Nat → Nat → Hint → List DC → Out} {cl':Nat → Hint → List DC → Out} (hcl:∀ f h v,qs (fun k=>cl k f h v) (cl' f h v)) {mm:Nat} {ops:Array Oper} {K:Nat → St → Out} {K':St → Out}
  (hK:∀ st,qs (fun k=>K k st) (K' st)):∀ (segs:List (Nat × Hint)) (l:List (Oper × Nat)) (st:St),qs (fun k=>QV.segR ty fn (cl k) mm ops segs l st (K k)) (QV.segR ty fn cl' mm ops segs l st K')
 | [],l,st=>qs.runR hcl (K:=fun k _ st'=>K k st') (fun _ st'=>hK st') _ _ _
 | (n,h) :: segs,l,st=>qs.andThen (K:=fun k v=>QV.segR ty fn (cl k) mm ops segs (l.drop n) (KJ h v) (K k)) (qs.runR hcl (K:=fun _ _ st'=>qh ty mm h st') (fun _ _=>qs.const _) _ _ _) fun v=>qs.segR hcl hK segs _ _
theorem qs.exec {cl:Nat → Nat → Hint → List DC → Out} {cl':Nat → Hint → List DC → Out} (hcl:∀ f h v,qs (fun k=>cl k f h v) (cl' f h v)) {mm:Nat} {rt:St → Out}:∀ (c:AC) (Γ:Nat → Option Hint) (st:St) {K:Nat → St → Out} {K':St → Out},
  (∀ st,qs (fun k=>K k st) (K' st)) → qs (fun k=>QV.exec ty fn (cl k) mm k rt c Γ st (K k)) (zV cl' jy ty fn mm rt c Γ st K')
 | .skip,Γ,st,K,K',hK=>hK st
 | .region id ops draw ids none,Γ,st,K,K',hK=>by
  simp only [QV.exec,zV]
  refine qs.runR hcl (fun cs st'=>?_) _ _ _
  cases draw && !(KW ops cs) with
  | true=>exact qs.const _
  | false=>exact hK _
 | .region id ops draw ids (some h),Γ,st,K,K',hK=>by
  simp only [QV.exec,zV]
  refine qs.andThen (K:=fun k v=>K k (KJ h v)) (qs.runR hcl (K:=fun _ cs st'=>match draw && !(KW ops cs) with | true=>.fail | false=>qh ty mm h st') (fun cs st'=>qs.const _) _ _ _) fun v=>hK _
 | .rcut id ops ids segs,Γ,st,K,K',hK=>by
  simp only [QV.exec,zV]
  exact qs.segR hcl hK segs _ st
 | .seq a b,Γ,st,K,K',hK=>by
  simp only [QV.exec,zV]
  exact qs.exec hcl a Γ st fun st'=>qs.exec hcl b Γ st' hK
 | .cond c x y none,Γ,st,K,K',hK=>by
  simp only [QV.exec,zV]
  cases opd st.tm c with
  | one s =>
   cases s with
   | bool b=>exact qs.ite (qs.exec hcl x Γ st hK) (qs.exec hcl y Γ st hK)
   | _=>exact qs.const _
  | _=>exact qs.const _
 | .cond c x y (some h),Γ,st,K,K',hK=>by
  simp only [QV.exec,zV]
  cases opd st.tm c with
  | one s =>
   cases s with
   | bool b=>exact qs.andThen (K:=fun k v=>K k (KJ h v)) (qs.ite (qs.exec hcl x Γ st fun st=>qs.const _) (qs.exec hcl y Γ st fun st=>qs.const _)) fun v=>hK _
   | _=>exact qs.const _
  | _=>exact qs.const _
 | .block id body h,Γ,st,K,K',hK=>by
  simp only [QV.exec,zV]
  exact qs.andThenB (K:=fun k v=>K k (KJ h v)) (qs.exec hcl body _ st fun st=>qs.const _) fun v=>hK _
 | .loop body h,Γ,st,K,K',hK=>by
  simp only [QV.exec,zV]
  cases j0d ty mm h st with
  | none=>exact qs.const _
  | some v=>exact qs.loop (F:=fun k v=>QV.exec ty fn (cl k) mm k rt body Γ (KJ h v) (qh ty mm h)) (fun v=>qs.exec hcl body Γ _ fun st=>qs.const _) v
 | .exit id,Γ,st,K,K',hK=>by
  simp only [QV.exec,zV]
  exact qs.const _
 | .ret,Γ,st,K,K',hK=>by
  simp only [QV.exec,zV]
  exact qs.const _
end
noncomputable def ki (cfg:Cfg) (f:Nat) (h:Hint) (v:List DC):Out:=lim fun k=>zg cfg k f h v
noncomputable def jbi (cfg:Cfg) (R:Nat → Hint → List DC → Out) (L:(List DC → Out) → List DC → Out) (f:Nat) (h:Hint) (v:List DC):Out :=
 match cfg.fn f with
 | none=>.fail
 | some fi =>
  match fi.prim with
  | some p=>(match p h v with | some r=>.ret r | none=>.fail)
  | none=>zV R L cfg.ty cfg.fn (KO.vars h.ob).length (JF cfg.ty fi h) (fi.body h) (fun _=>none) (yD fi h v) (JF cfg.ty fi h)
theorem ZX (cfg:Cfg):∀ (k f:Nat) (h:Hint) (v:List DC),zg cfg k f h v = .fail ∨ zg cfg (k + 1) f h v=zg cfg k f h v
 | 0,f,h,v=>.inl rfl
 | k + 1,f,h,v=>by
  let cl:Nat → Nat → Hint → List DC → Out:=fun j f h v=>if j ≤ k then zg cfg k f h v else zg cfg (k + 1) f h v
  have hcl:∀ f h v,qs (fun j=>cl j f h v) (zg cfg (k + 1) f h v):=by
   intro f h v
   constructor
   ·intro j
    dsimp only [cl]
    by_cases h1:j + 1 ≤ k
    ·rw [if_pos (show j ≤ k by omega),if_pos h1]; exact .inr rfl
    ·by_cases h2:j ≤ k
     ·rw [if_pos h2,if_neg h1]; exact ZX cfg k f h v
     ·rw [if_neg h2,if_neg h1]; exact .inr rfl
   ·exact ⟨k + 1,fun j hj=>by dsimp only [cl]; rw [if_neg (by omega)]⟩
  rw [zg,zg]
  cases cfg.fn f with
  | none=>exact .inl rfl
  | some fi =>
   dsimp only
   cases fi.prim with
   | some p=>exact .inr rfl
   | none =>
    dsimp only
    have:=(qs.exec (ty:=cfg.ty) (fn:=cfg.fn) (mm:=(KO.vars h.ob).length) (rt:=JF cfg.ty fi h) hcl (fi.body h) (fun _=>none) (yD fi h v) (K:=fun _=>JF cfg.ty fi h) (fun st=>qs.const _)).1 k
    have e1:cl k=zg cfg k:=by funext f h v; simp [cl]
    have e2:cl (k + 1)=zg cfg (k + 1):=by funext f h v; simp only [cl]; rw [if_neg (by omega)]
    dsimp only at this
    rw [e1,e2] at this
    exact this
theorem j0I (cfg:Cfg) (f:Nat) (h:Hint) (v:List DC):qs (fun k=>zg cfg k f h v) (ki cfg f h v):=⟨fun k=>ZX cfg k f h v,j1x.lim fun k=>ZX cfg k f h v⟩
theorem jq (cfg:Cfg) (f:Nat) (h:Hint) (v:List DC):ki cfg f h v=jbi cfg (ki cfg) jy f h v:=by
 have h1:Evt (fun k=>zg cfg (k + 1) f h v) (ki cfg f h v):=by
  obtain ⟨N,h⟩:=(j0I cfg f h v).2
  exact ⟨N,fun k hk=>h (k + 1) (by omega)⟩
 refine h1.uniq ?_
 unfold jbi
 cases hf:cfg.fn f with
 | none=>exact (Evt.const _).congr fun k=>by rw [zg,hf]
 | some fi =>
  dsimp only
  cases hp:fi.prim with
  | some p=>exact (Evt.const _).congr fun k=>by rw [zg,hf]; dsimp only; rw [hp]; rfl
  | none =>
   have:=(qs.exec (ty:=cfg.ty) (fn:=cfg.fn) (mm:=(KO.vars h.ob).length) (rt:=JF cfg.ty fi h) (fun f h v=>j0I cfg f h v) (fi.body h) (fun _=>none) (yD fi h v) (K:=fun _=>JF cfg.ty fi h) (fun st=>qs.const _)).2
   exact this.congr fun k=>by rw [zg,hf]; dsimp only; rw [hp]
theorem ki.evt {cfg:Cfg} {f:Nat} {h:Hint} {v:List DC} {o:Out} (hr:ki cfg f h v=o):Evt (fun k=>zg cfg k f h v) o:=by
 rw [← hr]
 exact (j0I cfg f h v).2
def S1 (s:List UInt8):List DC:=[.s s]
mutual
def DC.wt:DC → Nat
 | .s l=>l.length
 | .sl l=>l.length + wtV l
 | _=>0
def X4:List DC → Nat
 | []=>0
 | c :: cs=>c.wt + X4 cs
def wtV:List (List DC) → Nat
 | []=>0
 | x :: xs=>X4 x + wtV xs
end
mutual
def DC.ok:DC → Prop
 | .s l=>l.length ≤ 9223372036854775807
 | .sl l=>l.length ≤ 9223372036854775807 ∧ okV l
 | _=>True
def okL:List DC → Prop
 | []=>True
 | c :: cs=>c.ok ∧ okL cs
def okV:List (List DC) → Prop
 | []=>True
 | x :: xs=>okL x ∧ okV xs
end
theorem Q9:∀ {l:List (List DC)} {x:List DC},x ∈ l → X4 x ≤ wtV l
 | [],_,h=>by cases h
 | y :: l,x,hx=>by
  rw [wtV]
  rcases List.mem_cons.1 hx with rfl | hx
  ·omega
  ·have:=Q9 hx; omega
structure TToken where
 kind:Int
 text:List UInt8
 at':Int
def TToken.enc (v:TToken):List DC:=[.i v.kind,.s v.text,.i v.at']
theorem TToken.enc_eq (v:TToken):v.enc=[.i v.kind,.s v.text,.i v.at']:=rfl
structure TFault where
 code:Int
 at':Int
def TFault.enc (v:TFault):List DC:=[.i v.code,.i v.at']
theorem TFault.enc_eq (v:TFault):v.enc=[.i v.code,.i v.at']:=rfl
structure TValue where
 kind:Int
 text:List UInt8
 items:List TValue
 names:List (List UInt8)
theorem TValue.lt {v x:TValue} (h:x ∈ v.items):SizeOf.sizeOf x < SizeOf.sizeOf v:=by
 have h2:=List.sizeOf_lt_of_mem h
 cases v
 simp only [TValue.mk.sizeOf_spec]
 dsimp only at h2
 omega
def TValue.enc (v:TValue):List DC:=[.i v.kind,.s v.text,.sl (v.items.attach.map fun x=>TValue.enc x.1),.sl (v.names.map S1)]
termination_by SizeOf.sizeOf v
decreasing_by exact TValue.lt x.2
theorem TValue.enc_eq (v:TValue):v.enc=[.i v.kind,.s v.text,.sl (v.items.map TValue.enc),.sl (v.names.map S1)]:=by
 rw [TValue.enc]
 simp
theorem TValue.ind {P:TValue → Prop} (h:∀ v:TValue,(∀ x ∈ v.items,P x) → P v) (v:TValue):P v:=h v fun x hx=>TValue.ind h x
termination_by SizeOf.sizeOf v
decreasing_by exact TValue.lt hx
structure TType where
 name:List UInt8
 wraps:List UInt8
def TType.enc (v:TType):List DC:=[.s v.name,.s v.wraps]
theorem TType.enc_eq (v:TType):v.enc=[.s v.name,.s v.wraps]:=rfl
structure TArg where
 name:List UInt8
 value:TValue
def TArg.enc (v:TArg):List DC:=[.s v.name,.i v.value.kind,.s v.value.text,.sl (v.value.items.map TValue.enc),.sl (v.value.names.map S1)]
theorem TArg.enc_eq (v:TArg):v.enc=[.s v.name,.i v.value.kind,.s v.value.text,.sl (v.value.items.map TValue.enc),.sl (v.value.names.map S1)]:=rfl
structure TDir where
 name:List UInt8
 args:List TArg
def TDir.enc (v:TDir):List DC:=[.s v.name,.sl (v.args.map TArg.enc)]
theorem TDir.enc_eq (v:TDir):v.enc=[.s v.name,.sl (v.args.map TArg.enc)]:=rfl
structure TSel where
 kind:Int
 alias:List UInt8
 name:List UInt8
 on':List UInt8
 args:List TArg
 dirs:List TDir
 sels:List TSel
theorem TSel.lt {v x:TSel} (h:x ∈ v.sels):SizeOf.sizeOf x < SizeOf.sizeOf v:=by
 have h2:=List.sizeOf_lt_of_mem h
 cases v
 simp only [TSel.mk.sizeOf_spec]
 dsimp only at h2
 omega
def TSel.enc (v:TSel):List DC:=[.i v.kind,.s v.alias,.s v.name,.s v.on',.sl (v.args.map TArg.enc),.sl (v.dirs.map TDir.enc),.sl (v.sels.attach.map fun x=>TSel.enc x.1)]
termination_by SizeOf.sizeOf v
decreasing_by exact TSel.lt x.2
theorem TSel.enc_eq (v:TSel):v.enc=[.i v.kind,.s v.alias,.s v.name,.s v.on',.sl (v.args.map TArg.enc),.sl (v.dirs.map TDir.enc),.sl (v.sels.map TSel.enc)]:=by
 rw [TSel.enc]
 simp
theorem TSel.ind {P:TSel → Prop} (h:∀ v:TSel,(∀ x ∈ v.sels,P x) → P v) (v:TSel):P v:=h v fun x hx=>TSel.ind h x
termination_by SizeOf.sizeOf v
decreasing_by exact TSel.lt hx
structure TVarDef where
 name:List UInt8
 type':TType
 has':Bool
 default':TValue
 dirs:List TDir
def TVarDef.enc (v:TVarDef):List DC:=[.s v.name,.s v.type'.name,.s v.type'.wraps,.b v.has',.i v.default'.kind,.s v.default'.text,.sl (v.default'.items.map TValue.enc),.sl (v.default'.names.map S1),.sl (v.dirs.map TDir.enc)]
theorem TVarDef.enc_eq (v:TVarDef):v.enc=[.s v.name,.s v.type'.name,.s v.type'.wraps,.b v.has',.i v.default'.kind,.s v.default'.text,.sl (v.default'.items.map TValue.enc),.sl (v.default'.names.map S1),.sl (v.dirs.map TDir.enc)]:=rfl
structure TOp where
 kind:Int
 name:List UInt8
 vars:List TVarDef
 dirs:List TDir
 sels:List TSel
def TOp.enc (v:TOp):List DC:=[.i v.kind,.s v.name,.sl (v.vars.map TVarDef.enc),.sl (v.dirs.map TDir.enc),.sl (v.sels.map TSel.enc)]
theorem TOp.enc_eq (v:TOp):v.enc=[.i v.kind,.s v.name,.sl (v.vars.map TVarDef.enc),.sl (v.dirs.map TDir.enc),.sl (v.sels.map TSel.enc)]:=rfl
structure TFrag where
 name:List UInt8
 on':List UInt8
 dirs:List TDir
 sels:List TSel
def TFrag.enc (v:TFrag):List DC:=[.s v.name,.s v.on',.sl (v.dirs.map TDir.enc),.sl (v.sels.map TSel.enc)]
theorem TFrag.enc_eq (v:TFrag):v.enc=[.s v.name,.s v.on',.sl (v.dirs.map TDir.enc),.sl (v.sels.map TSel.enc)]:=rfl
structure TInDef where
 name:List UInt8
 desc:List UInt8
 type':TType
 has':Bool
 default':TValue
 dirs:List TDir
def TInDef.enc (v:TInDef):List DC:=[.s v.name,.s v.desc,.s v.type'.name,.s v.type'.wraps,.b v.has',.i v.default'.kind,.s v.default'.text,.sl (v.default'.items.map TValue.enc),.sl (v.default'.names.map S1),.sl (v.dirs.map TDir.enc)]
theorem TInDef.enc_eq (v:TInDef):v.enc=[.s v.name,.s v.desc,.s v.type'.name,.s v.type'.wraps,.b v.has',.i v.default'.kind,.s v.default'.text,.sl (v.default'.items.map TValue.enc),.sl (v.default'.names.map S1),.sl (v.dirs.map TDir.enc)]:=rfl
structure TFieldDef where
 name:List UInt8
 desc:List UInt8
 args:List TInDef
 type':TType
 dirs:List TDir
def TFieldDef.enc (v:TFieldDef):List DC:=[.s v.name,.s v.desc,.sl (v.args.map TInDef.enc),.s v.type'.name,.s v.type'.wraps,.sl (v.dirs.map TDir.enc)]
theorem TFieldDef.enc_eq (v:TFieldDef):v.enc=[.s v.name,.s v.desc,.sl (v.args.map TInDef.enc),.s v.type'.name,.s v.type'.wraps,.sl (v.dirs.map TDir.enc)]:=rfl
structure TEnumDef where
 name:List UInt8
 desc:List UInt8
 dirs:List TDir
def TEnumDef.enc (v:TEnumDef):List DC:=[.s v.name,.s v.desc,.sl (v.dirs.map TDir.enc)]
theorem TEnumDef.enc_eq (v:TEnumDef):v.enc=[.s v.name,.s v.desc,.sl (v.dirs.map TDir.enc)]:=rfl
structure TRoot where
 kind:Int
 type':List UInt8
def TRoot.enc (v:TRoot):List DC:=[.i v.kind,.s v.type']
theorem TRoot.enc_eq (v:TRoot):v.enc=[.i v.kind,.s v.type']:=rfl
structure TDef where
 kind:Int
 ext:Bool
 desc:List UInt8
 name:List UInt8
 faces:List (List UInt8)
 fields:List TFieldDef
 inputs:List TInDef
 values:List TEnumDef
 roots:List TRoot
 repeat':Bool
 dirs:List TDir
def TDef.enc (v:TDef):List DC:=[.i v.kind,.b v.ext,.s v.desc,.s v.name,.sl (v.faces.map S1),.sl (v.fields.map TFieldDef.enc),.sl (v.inputs.map TInDef.enc),.sl (v.values.map TEnumDef.enc),.sl (v.roots.map TRoot.enc),.b v.repeat',.sl (v.dirs.map TDir.enc)]
theorem TDef.enc_eq (v:TDef):v.enc=[.i v.kind,.b v.ext,.s v.desc,.s v.name,.sl (v.faces.map S1),.sl (v.fields.map TFieldDef.enc),.sl (v.inputs.map TInDef.enc),.sl (v.values.map TEnumDef.enc),.sl (v.roots.map TRoot.enc),.b v.repeat',.sl (v.dirs.map TDir.enc)]:=rfl
structure TItem where
 kind:Int
 op:TOp
 frag:TFrag
 def':TDef
def TItem.enc (v:TItem):List DC:=[.i v.kind,.i v.op.kind,.s v.op.name,.sl (v.op.vars.map TVarDef.enc),.sl (v.op.dirs.map TDir.enc),.sl (v.op.sels.map TSel.enc),.s v.frag.name,.s v.frag.on',.sl (v.frag.dirs.map TDir.enc),.sl (v.frag.sels.map TSel.enc),.i v.def'.kind,.b v.def'.ext,.s v.def'.desc,.s v.def'.name,.sl (v.def'.faces.map S1),.sl (v.def'.fields.map TFieldDef.enc),.sl (v.def'.inputs.map TInDef.enc),.sl (v.def'.values.map TEnumDef.enc),.sl (v.def'.roots.map TRoot.enc),.b v.def'.repeat',.sl (v.def'.dirs.map TDir.enc)]
theorem TItem.enc_eq (v:TItem):v.enc=[.i v.kind,.i v.op.kind,.s v.op.name,.sl (v.op.vars.map TVarDef.enc),.sl (v.op.dirs.map TDir.enc),.sl (v.op.sels.map TSel.enc),.s v.frag.name,.s v.frag.on',.sl (v.frag.dirs.map TDir.enc),.sl (v.frag.sels.map TSel.enc),.i v.def'.kind,.b v.def'.ext,.s v.def'.desc,.s v.def'.name,.sl (v.def'.faces.map S1),.sl (v.def'.fields.map TFieldDef.enc),.sl (v.def'.inputs.map TInDef.enc),.sl (v.def'.values.map TEnumDef.enc),.sl (v.def'.roots.map TRoot.enc),.b v.def'.repeat',.sl (v.def'.dirs.map TDir.enc)]:=rfl
structure TDoc where
 items:List TItem
def TDoc.enc (v:TDoc):List DC:=[.sl (v.items.map TItem.enc)]
theorem TDoc.enc_eq (v:TDoc):v.enc=[.sl (v.items.map TItem.enc)]:=rfl
structure TSchema where
 types:List TDef
 dirs:List TDef
 roots:List TRoot
def TSchema.enc (v:TSchema):List DC:=[.sl (v.types.map TDef.enc),.sl (v.dirs.map TDef.enc),.sl (v.roots.map TRoot.enc)]
theorem TSchema.enc_eq (v:TSchema):v.enc=[.sl (v.types.map TDef.enc),.sl (v.dirs.map TDef.enc),.sl (v.roots.map TRoot.enc)]:=rfl
structure TJson where
 kind:Int
 text:List UInt8
 items:List TJson
 names:List (List UInt8)
theorem TJson.lt {v x:TJson} (h:x ∈ v.items):SizeOf.sizeOf x < SizeOf.sizeOf v:=by
 have h2:=List.sizeOf_lt_of_mem h
 cases v
 simp only [TJson.mk.sizeOf_spec]
 dsimp only at h2
 omega
def TJson.enc (v:TJson):List DC:=[.i v.kind,.s v.text,.sl (v.items.attach.map fun x=>TJson.enc x.1),.sl (v.names.map S1)]
termination_by SizeOf.sizeOf v
decreasing_by exact TJson.lt x.2
theorem TJson.enc_eq (v:TJson):v.enc=[.i v.kind,.s v.text,.sl (v.items.map TJson.enc),.sl (v.names.map S1)]:=by
 rw [TJson.enc]
 simp
theorem TJson.ind {P:TJson → Prop} (h:∀ v:TJson,(∀ x ∈ v.items,P x) → P v) (v:TJson):P v:=h v fun x hx=>TJson.ind h x
termination_by SizeOf.sizeOf v
decreasing_by exact TJson.lt hx
structure TUse where
 name:List UInt8
 type':TType
 has':Bool
 free:Bool
def TUse.enc (v:TUse):List DC:=[.s v.name,.s v.type'.name,.s v.type'.wraps,.b v.has',.b v.free]
theorem TUse.enc_eq (v:TUse):v.enc=[.s v.name,.s v.type'.name,.s v.type'.wraps,.b v.has',.b v.free]:=rfl
structure TChange where
 code:Int
 name:List UInt8
 part:List UInt8
def TChange.enc (v:TChange):List DC:=[.i v.code,.s v.name,.s v.part]
theorem TChange.enc_eq (v:TChange):v.enc=[.i v.code,.s v.name,.s v.part]:=rfl
structure TProblem where
 code:Int
 name:List UInt8
 part:List UInt8
def TProblem.enc (v:TProblem):List DC:=[.i v.code,.s v.name,.s v.part]
theorem TProblem.enc_eq (v:TProblem):v.enc=[.i v.code,.s v.name,.s v.part]:=rfl
structure TPlace where
 line:Int
 col:Int
def TPlace.enc (v:TPlace):List DC:=[.i v.line,.i v.col]
theorem TPlace.enc_eq (v:TPlace):v.enc=[.i v.line,.i v.col]:=rfl
def pre:List UInt8 → List UInt8 → Bool
 | [],_=>true
 | _ :: _,[]=>false
 | x :: a,c :: s=>(x == c) && pre a s
def rep (a b:List UInt8):List UInt8 → List UInt8
 | []=>[]
 | c :: s=>if pre a (c :: s) then b ++ (c :: s).drop a.length else c :: rep a b s
def has (a:List UInt8):List UInt8 → Bool
 | []=>false
 | c :: s=>pre a (c :: s) || has a s
def nn:Bool → List UInt8 → Bool
 | _,[]=>true
 | p,x :: a=>!(p && x == 10) && nn (x == 10) a
def en:Bool → List UInt8 → Bool
 | _,[]=>false
 | p,c :: v=>match v with
  | []=>p && c == 10
  | _ :: _=>en (c == 10) v
theorem j50 {r:List UInt8}:∀ (a v:List UInt8) (p:Bool),nn p a=true → en p v=true → pre a (v ++ r)=pre a v
 | [],v,p,_,_=>by cases v <;> rfl
 | x :: a,[],p,_,h=>by simp [en] at h
 | x :: a,c :: v,p,h1,h2=>by
  show ((x == c) && pre a (v ++ r))=((x == c) && pre a v)
  cases hx:x == c with
  | false=>rfl
  | true =>
   have hxc:x=c:=by simpa using hx
   subst hxc
   simp only [nn,jk] at h1
   cases v with
   | nil =>
    simp only [en,jk] at h2
    simp [h2.1,h2.2] at h1
   | cons d v=>rw [j50 a (d :: v) (x == 10) h1.2 h2]
theorem j4Z:∀ (a v:List UInt8),pre a v=true → a.length ≤ v.length
 | [],_,_=>Nat.zero_le _
 | x :: a,[],h=>by simp [pre] at h
 | x :: a,c :: v,h=>by
  simp only [pre,jk] at h
  have:=j4Z a v h.2
  simp only [jb]
  omega
theorem jbO {p:Bool} {c d:UInt8} {v:List UInt8} (h:en p (c :: d :: v)=true):en false (c :: d :: v)=true:=h
theorem j9y {a r:List UInt8} (hn:nn false a=true) (h0:nn true a=true):∀ (v:List UInt8) (p:Bool),en p v=true → pre a (v ++ r)=pre a v
 | [],p,h=>by simp [en] at h
 | [c],p,h=>j50 a [c] p (by cases p; exact hn; exact h0) h
 | c :: d :: v,p,h=>j50 a (c :: d :: v) false hn (jbO h)
theorem j7C {a b r:List UInt8} (hn:nn false a=true) (h0:nn true a=true):∀ (v:List UInt8) (p:Bool),en p v=true → rep a b (v ++ r)=if has a v then rep a b v ++ r else v ++ rep a b r
 | [],p,h=>by simp [en] at h
 | c :: v,p,h=>by
  have hp:pre a (c :: v ++ r)=pre a (c :: v):=j9y hn h0 (c :: v) p h
  rw [jh] at hp ⊢
  rw [rep,hp]
  cases hq:pre a (c :: v) with
  | true =>
   have hl:=j4Z a (c :: v) hq
   simp only [if_true,has,hq,Bool.true_or,rep]
   rw [← jh,List.drop_append_of_le_length hl,jD]
  | false =>
   simp only [Bool.false_eq_true,if_false,has,hq,Bool.false_or,rep]
   cases v with
   | nil =>
    simp only [jg,has,Bool.false_eq_true,if_false,jh]
   | cons d v =>
    rw [j7C hn h0 (d :: v) (c == 10) h]
    split <;> simp
theorem j5N {a b:List UInt8}:∀ (v:List UInt8),has a v=false → rep a b v=v
 | [],_=>rfl
 | c :: v,h=>by
  simp only [has,Bool.or_eq_false_iff] at h
  rw [rep,h.1,j5N v h.2]
  simp
def j9X (v:List UInt8) (l:List (List UInt8)):List (List UInt8):=if l.contains v then l else l ++ [v]
def j91 (T:List (List UInt8 × List UInt8)) (l m:List (List UInt8)):List (List UInt8) :=
 l.foldr (fun v m=>T.foldr (fun t m=>if has t.1 v then j9X (rep t.1 t.2 v) m else m) m) m
def vars (T:List (List UInt8 × List UInt8)) (p:List UInt8):Nat → List (List UInt8)
 | 0=>[p]
 | n + 1=>j91 T (vars T p n) (vars T p n)
theorem j33 {v x:List UInt8} {l:List (List UInt8)}:x ∈ j9X v l ↔ x=v ∨ x ∈ l:=by
 unfold j9X
 split
 ·rename_i h
  have h:v ∈ l:=by simpa using h
  exact ⟨.inr,fun h2=>h2.elim (fun e=>e ▸ h) id⟩
 ·simp [or_comm]
theorem j7x {T:List (List UInt8 × List UInt8)} {v:List UInt8} {m:List (List UInt8)} {x:List UInt8} (h:x ∈ m):x ∈ T.foldr (fun t m=>if has t.1 v then j9X (rep t.1 t.2 v) m else m) m:=by
 induction T with
 | nil=>exact h
 | cons t T ih =>
  rw [List.foldr_cons]
  split
  ·exact j33.2 (.inr ih)
  ·exact ih
theorem j90 {T:List (List UInt8 × List UInt8)} {v:List UInt8} {m:List (List UInt8)} {t:List UInt8 × List UInt8} (ht:t ∈ T) (hh:has t.1 v=true):rep t.1 t.2 v ∈ T.foldr (fun t m=>if has t.1 v then j9X (rep t.1 t.2 v) m else m) m:=by
 induction T with
 | nil=>cases ht
 | cons u T ih =>
  rw [List.foldr_cons]
  rcases List.mem_cons.1 ht with rfl | ht
  ·rw [if_pos hh]
   exact j33.2 (.inl rfl)
  ·split
   ·exact j33.2 (.inr (ih ht))
   ·exact ih ht
theorem j86 {T:List (List UInt8 × List UInt8)} {l m:List (List UInt8)} {x:List UInt8} (h:x ∈ m):x ∈ j91 T l m:=by
 induction l with
 | nil=>exact h
 | cons v l ih=>exact j7x ih
theorem j87 {T:List (List UInt8 × List UInt8)} {l m:List (List UInt8)} {v:List UInt8} {t:List UInt8 × List UInt8} (hv:v ∈ l) (ht:t ∈ T) (hh:has t.1 v=true):rep t.1 t.2 v ∈ j91 T l m:=by
 induction l with
 | nil=>cases hv
 | cons u l ih =>
  rcases List.mem_cons.1 hv with rfl | hv
  ·exact j90 ht hh
  ·exact j7x (ih hv)
theorem j4G {T:List (List UInt8 × List UInt8)} {p x:List UInt8} {n:Nat} (h:x ∈ vars T p n):x ∈ vars T p (n + 1):=j86 h
theorem j8W {T:List (List UInt8 × List UInt8)} {p v:List UInt8} {n:Nat} {t:List UInt8 × List UInt8} (hv:v ∈ vars T p n) (ht:t ∈ T) (hh:has t.1 v=true):rep t.1 t.2 v ∈ vars T p (n + 1):=j87 hv ht hh
inductive Tx (T:List (List UInt8 × List UInt8)) (n:Nat):List (List UInt8) → List (List UInt8) → Prop
 | nil:Tx T n [] []
 | cons (p v:List UInt8) (ps vs:List (List UInt8)):v ∈ vars T p n → Tx T n ps vs → Tx T n (p :: ps) (v :: vs)
theorem Tx.up {T:List (List UInt8 × List UInt8)} {n:Nat} {ps vs:List (List UInt8)} (h:Tx T n ps vs):Tx T (n + 1) ps vs:=by
 induction h with
 | nil=>exact .nil
 | cons p v ps vs hv _ ih=>exact .cons p v ps vs (j4G hv) ih
theorem Tx.turn {T:List (List UInt8 × List UInt8)} {n:Nat} {t:List UInt8 × List UInt8} (ht:t ∈ T) (hn:nn false t.1=true) (h0:nn true t.1=true):∀ {ps vs:List (List UInt8)},Tx T n ps vs → (∀ p ∈ ps,∀ v ∈ vars T p n,en false v=true) → ∃ ws,rep t.1 t.2 vs.flatten=ws.flatten ∧ Tx T (n + 1) ps ws
 | _,_,.nil,_=>⟨[],rfl,.nil⟩
 | _,_,.cons p v ps vs hv h,he=>by
  have hev:=he p (by simp) v hv
  rw [List.flatten_cons,j7C hn h0 v false hev]
  cases hh:has t.1 v with
  | true=>exact ⟨rep t.1 t.2 v :: vs,by simp,.cons _ _ _ _ (j8W hv ht hh) h.up⟩
  | false =>
   obtain ⟨ws,e,h'⟩:=Tx.turn ht hn h0 h fun p hp=>he p (by simp [hp])
   exact ⟨v :: ws,by simp [e],.cons _ _ _ _ (j4G hv) h'⟩
abbrev Tk:=Int × List UInt8
def blk (c:UInt8):Bool:=c == 32 || c == 9 || c == 10 || c == 13 || c == 44
def ltr (c:UInt8):Bool:=decide (c.toNat ≥ 97) && decide (c.toNat ≤ 122) || decide (c.toNat ≥ 65) && decide (c.toNat ≤ 90) || c.toNat == 95
def fig (c:UInt8):Bool:=decide (c.toNat ≥ 48) && decide (c.toNat ≤ 57)
def nmc (c:UInt8):Bool:=ltr c || fig c
def sgn (c:UInt8):Bool:=c == 33 || c == 36 || c == 38 || c == 40 || c == 41 || c == 58 || c == 61 || c == 64 || c == 91 || c == 93 || c == 123 || c == 124 || c == 125
def jaS (w:List UInt8):Bool:=w == [49] || w == [53] || w == [49,48] || w == [49,49]
def m0 (c:UInt8) (out:List Tk) (k:Nat → List UInt8 → List Tk → Option (List Tk)):Option (List Tk) :=
 if blk c then k 0 [] out else if ltr c then k 2 [c] out else if fig c then k 3 [c] out else if c == 34 then k 5 [] out else if sgn c then k 0 [] ((1,[c]) :: out) else none
def tz:List UInt8 → Nat → List UInt8 → List Tk → Option (List Tk)
 | [],m,_,out=>if m=0 then some out else none
 | c :: s,m,a,out =>
  match m with
  | 0=>m0 c out (tz s)
  | 2=>if nmc c then (if a.length < 30 then tz s 2 (a ++ [c]) out else none) else m0 c ((2,a) :: out) (tz s)
  | 3=>if fig c then tz s 3 (a ++ [c]) out else if ltr c || c == 46 || c == 43 || c == 45 || !jaS a then none else m0 c ((3,a) :: out) (tz s)
  | 5=>if c == 34 then (if a == [100] then tz s 0 [] ((5,a) :: out) else none) else if c == 100 then tz s 5 (a ++ [c]) out else none
  | _=>none
def Kx (u:List Tk) (s:List UInt8):Bool:=match u with | k :: _=>k.1 == 1 && k.2 == s | []=>false
def isW (u:List Tk) (s:List UInt8):Bool:=match u with | k :: _=>k.1 == 2 && k.2 == s | []=>false
def isK (u:List Tk) (n:Int):Bool:=match u with | k :: _=>k.1 == n | []=>false
def j4b (s:List UInt8) (u:List Tk):Option (List Tk):=if Kx u s then some u.tail else none
def Jv:List Tk → Option (List UInt8 × List Tk)
 | k :: u=>if k.1 == 2 then some (k.2,u) else none
 | []=>none
def jaN:List Tk → Option (TValue × List Tk)
 | k :: u=>if k.1 == 3 then some (⟨2,k.2,[],[]⟩,u) else none
 | []=>none
def QG:Nat → List Tk → Option (List TDir × List Tk)
 | 0,_=>none
 | f + 1,u=>if Kx u [64] then (Jv u.tail).bind fun x=>if Kx x.2 [40] then none else (QG f x.2).map fun y=>(⟨x.1,[]⟩ :: y.1,y.2) else some ([],u)
def j9U (w:List UInt8):Bool:=match w.getLast? with | some c=>c == 33 | none=>false
def pWr:Nat → Bool → List UInt8 → List Tk → Option (List UInt8 × List Tk)
 | 0,_,_,_=>none
 | f + 1,l,w,u =>
  if Kx u [33] && !j9U w then pWr f l (w ++ [33]) u.tail
  else if !l then some (w,u)
  else if Kx u [93] then pWr f false (w ++ [93]) u.tail else none
def pTy (u:List Tk):Option (TType × List Tk) :=
 if Kx u [91] then (if Kx u.tail [91] then none else (Jv u.tail).bind fun x=>(pWr 5 true [] x.2).map fun y=>(⟨x.1,y.1⟩,y.2))
 else (Jv u).bind fun x=>(pWr 5 false [] x.2).map fun y=>(⟨x.1,y.1⟩,y.2)
def pIn (u:List Tk):Option (TInDef × List Tk) :=
 if isK u 5 then none else (Jv u).bind fun x=>(j4b [58] x.2).bind fun u1=>(pTy u1).bind fun t =>
  if Kx t.2 [61] then (jaN t.2.tail).bind fun v=>(QG 9 v.2).map fun d=>(⟨x.1,[],t.1,true,v.1,d.1⟩,d.2)
  else (QG 9 t.2).map fun d=>(⟨x.1,[],t.1,false,⟨0,[],[],[]⟩,d.1⟩,d.2)
def j5Z (shut:List UInt8):Nat → List Tk → Option (List TInDef × List Tk)
 | 0,_=>none
 | f + 1,u=>(pIn u).bind fun x=>if Kx x.2 shut then some ([x.1],x.2.tail) else (j5Z shut f x.2).map fun y=>(x.1 :: y.1,y.2)
def j9D (opn shut:List UInt8) (u:List Tk):Option (List TInDef × List Tk):=if Kx u opn then j5Z shut 20 u.tail else some ([],u)
def j9E (u:List Tk):Option (TFieldDef × List Tk) :=
 if isK u 5 then none else (Jv u).bind fun x=>(j9D [40] [41] x.2).bind fun a=>(j4b [58] a.2).bind fun u1=>(pTy u1).bind fun t=>(QG 9 t.2).map fun d=>(⟨x.1,[],a.1,t.1,d.1⟩,d.2)
def Y5:Nat → List Tk → Option (List TFieldDef × List Tk)
 | 0,_=>none
 | f + 1,u=>(j9E u).bind fun x=>if Kx x.2 [125] then some ([x.1],x.2.tail) else (Y5 f x.2).map fun y=>(x.1 :: y.1,y.2)
def j2w (u:List Tk):Option (List TFieldDef × List Tk):=if Kx u [123] then Y5 20 u.tail else some ([],u)
def V7 (s:List UInt8) (ok:List UInt8 → Bool):Nat → List Tk → Option (List (List UInt8) × List Tk)
 | 0,_=>none
 | f + 1,u=>(Jv u).bind fun x=>if ok x.1 then (if Kx x.2 s then (V7 s ok f x.2.tail).map fun y=>(x.1 :: y.1,y.2) else some ([x.1],x.2)) else none
def Y4 (s:List UInt8) (ok:List UInt8 → Bool) (u:List Tk):Option (List (List UInt8) × List Tk):=if Kx u s then none else V7 s ok 20 u
def j9z (w:List UInt8):Bool:=w == [70,73,69,76,68] || w == [81,85,69,82,89]
def wrd (w:List UInt8):Bool:=w == [116,114,117,101] || w == [102,97,108,115,101] || w == [110,117,108,108]
def jba (u:List Tk):Option (TEnumDef × List Tk) :=
 if isK u 5 then none else (Jv u).bind fun x=>if wrd x.1 then none else (QG 9 x.2).map fun d=>(⟨x.1,[],d.1⟩,d.2)
def j0b:Nat → List Tk → Option (List TEnumDef × List Tk)
 | 0,_=>none
 | f + 1,u=>(jba u).bind fun x=>if Kx x.2 [125] then some ([x.1],x.2.tail) else (j0b f x.2).map fun y=>(x.1 :: y.1,y.2)
def j76 (u:List Tk):Option (List TEnumDef × List Tk):=if Kx u [123] then j0b 20 u.tail else some ([],u)
def kw:List (List UInt8):=[[115,99,97,108,97,114],[116,121,112,101],[105,110,116,101,114,102,97,99,101],[117,110,105,111,110],[101,110,117,109],[105,110,112,117,116],[100,105,114,101,99,116,105,118,101],[115,99,104,101,109,97]]
def ZC:Nat → Nat → List Tk → Nat
 | 0,_,_=>0
 | f + 1,i,u=>if isW u (kw.getD (i - 1) []) then i else ZC f (i + 1) u
def Zc (u:List Tk):Nat:=ZC 8 1 u
def jaO (desc:List UInt8) (u:List Tk):Option (TDef × List Tk) :=
 match Zc u with
 | 1=>(Jv u.tail).bind fun x=>(QG 9 x.2).map fun d=>(⟨1,false,desc,x.1,[],[],[],[],[],false,d.1⟩,d.2)
 | 2=>(Jv u.tail).bind fun x=>(if isW x.2 [105,109,112,108,101,109,101,110,116,115] then Y4 [38] (fun _=>true) x.2.tail else some ([],x.2)).bind fun n=>(QG 9 n.2).bind fun d=>(j2w d.2).map fun f=>(⟨2,false,desc,x.1,n.1,f.1,[],[],[],false,d.1⟩,f.2)
 | 3=>(Jv u.tail).bind fun x=>(if isW x.2 [105,109,112,108,101,109,101,110,116,115] then Y4 [38] (fun _=>true) x.2.tail else some ([],x.2)).bind fun n=>(QG 9 n.2).bind fun d=>(j2w d.2).map fun f=>(⟨3,false,desc,x.1,n.1,f.1,[],[],[],false,d.1⟩,f.2)
 | 4=>(Jv u.tail).bind fun x=>(QG 9 x.2).bind fun d=>(if Kx d.2 [61] then Y4 [124] (fun _=>true) d.2.tail else some ([],d.2)).map fun n=>(⟨4,false,desc,x.1,n.1,[],[],[],[],false,d.1⟩,n.2)
 | 5=>(Jv u.tail).bind fun x=>(QG 9 x.2).bind fun d=>(j76 d.2).map fun f=>(⟨5,false,desc,x.1,[],[],[],f.1,[],false,d.1⟩,f.2)
 | 6=>(Jv u.tail).bind fun x=>(QG 9 x.2).bind fun d=>(j9D [123] [125] d.2).map fun f=>(⟨6,false,desc,x.1,[],[],f.1,[],[],false,d.1⟩,f.2)
 | 7=>(j4b [64] u.tail).bind fun u1=>(Jv u1).bind fun x=>(j9D [40] [41] x.2).bind fun a =>
   let r:=isW a.2 [114,101,112,101,97,116,97,98,108,101]
   let u2:=if r then a.2.tail else a.2
   if isW u2 [111,110] then (Y4 [124] j9z u2.tail).map fun n=>(⟨7,false,desc,x.1,n.1,[],a.1,[],[],r,[]⟩,n.2) else none
 | _=>none
def j73:List (List UInt8):=[[113,117,101,114,121],[109,117,116,97,116,105,111,110],[115,117,98,115,99,114,105,112,116,105,111,110],[102,114,97,103,109,101,110,116]]
def j2T (u:List Tk):Option (TDef × List Tk) :=
 if Kx u [123] || j73.any (isW u) then none
 else match u with
 | k :: u1=>if k.1 == 5 then (if isW u1 [101,120,116,101,110,100] then none else jaO k.2 u1) else (if isW u [101,120,116,101,110,100] then none else jaO [] u)
 | []=>none
def pN:Nat → List Tk → Option (List TDef × List Tk)
 | 0,u=>some ([],u)
 | n + 1,u=>(j2T u).bind fun x=>(pN n x.2).map fun y=>(x.1 :: y.1,y.2)
def jbB (stop:Nat):Nat → List Tk → List TDef
 | 0,_=>[]
 | n + 1,u=>if u.length ≤ stop then [] else match j2T u with | some x=>x.1 :: jbB stop n x.2 | none=>[]
set_option maxRecDepth 100000
def Xh:List (List UInt8):=[[105,110,116,101,114,102,97,99,101,32,78,111,100,101,32,123,10,32,32,105,100,58,32,73,68,33,10,125,10],
 [105,110,116,101,114,102,97,99,101,32,78,97,109,101,100,32,105,109,112,108,101,109,101,110,116,115,32,78,111,100,101,32,123,10,32,32,105,100,58,32,73,68,33,10,32,32,110,97,109,101,58,32,83,116,114,105,110,103,10,125,10],
 [116,121,112,101,32,85,115,101,114,32,105,109,112,108,101,109,101,110,116,115,32,78,97,109,101,100,32,38,32,78,111,100,101,32,123,10,32,32,105,100,58,32,73,68,33,10,32,32,110,97,109,101,58,32,83,116,114,105,110,103,10,32,32,112,111,115,116,115,40,102,105,114,115,116,58,32,73,110,116,32,61,32,49,48,44,32,97,102,116,101,114,58,32,73,68,41,58,32,91,80,111,115,116,33,93,33,10,32,32,99,111,108,111,114,58,32,67,111,108,111,114,32,64,100,101,112,114,101,99,97,116,101,100,10,32,32,102,114,105,101,110,100,58,32,85,115,101,114,10,125,10],
 [116,121,112,101,32,80,111,115,116,32,105,109,112,108,101,109,101,110,116,115,32,78,111,100,101,32,123,10,32,32,105,100,58,32,73,68,33,10,32,32,116,105,116,108,101,58,32,83,116,114,105,110,103,33,10,32,32,97,117,116,104,111,114,58,32,85,115,101,114,10,32,32,97,110,121,58,32,91,65,110,121,93,10,125,10],
 [117,110,105,111,110,32,65,110,121,32,61,32,80,111,115,116,32,124,32,85,115,101,114,10],
 [101,110,117,109,32,67,111,108,111,114,32,123,10,32,32,66,76,85,69,10,32,32,82,69,68,10,125,10],
 [105,110,112,117,116,32,70,105,110,100,32,123,10,32,32,116,101,120,116,58,32,83,116,114,105,110,103,33,10,32,32,115,105,122,101,58,32,73,110,116,32,61,32,53,10,32,32,99,111,108,111,114,115,58,32,91,67,111,108,111,114,33,93,10,32,32,109,111,114,101,58,32,70,105,110,100,10,125,10],
 [115,99,97,108,97,114,32,68,97,116,101,10],
 [100,105,114,101,99,116,105,118,101,32,64,111,110,99,101,40,107,101,121,58,32,83,116,114,105,110,103,44,32,100,101,101,112,58,32,73,110,116,33,32,61,32,49,41,32,111,110,32,70,73,69,76,68,32,124,32,81,85,69,82,89,10],
 [100,105,114,101,99,116,105,118,101,32,64,109,97,110,121,32,114,101,112,101,97,116,97,98,108,101,32,111,110,32,70,73,69,76,68,10],
 [116,121,112,101,32,81,117,101,114,121,32,123,10,32,32,110,111,100,101,40,105,100,58,32,73,68,33,41,58,32,78,111,100,101,10,32,32,117,115,101,114,40,105,100,58,32,73,68,41,58,32,85,115,101,114,10,32,32,102,105,110,100,40,98,121,58,32,70,105,110,100,33,44,32,111,110,58,32,68,97,116,101,41,58,32,91,65,110,121,33,93,10,32,32,99,111,108,111,114,115,58,32,91,67,111,108,111,114,93,10,32,32,110,97,109,101,100,58,32,78,97,109,101,100,10,125,10],
 [116,121,112,101,32,77,117,116,97,116,105,111,110,32,123,10,32,32,114,101,110,97,109,101,40,105,100,58,32,73,68,33,44,32,110,97,109,101,58,32,83,116,114,105,110,103,41,58,32,85,115,101,114,10,125,10]]
def pcs:List (List UInt8):=Xh.map (· ++ [10])
def trn:List (List UInt8 × List UInt8):=[([32,32,110,97,109,101,58,32,83,116,114,105,110,103,10,32,32,112,111,115,116,115],[32,32,110,97,109,101,58,32,83,116,114,105,110,103,33,10,32,32,112,111,115,116,115]),
 ([102,105,114,115,116,58,32,73,110,116,32,61,32,49,48],[102,105,114,115,116,58,32,73,110,116,33,32,61,32,49,48]),
 ([102,105,114,115,116,58,32,73,110,116,32,61,32,49,48,44,32],[]),
 ([102,105,114,115,116,58,32,73,110,116,32,61,32,49,48],[102,105,114,115,116,58,32,73,110,116,32,61,32,49,49,44,32,109,111,114,101,58,32,73,110,116]),
 ([102,105,114,115,116,58,32,73,110,116,32,61,32,49,48],[102,105,114,115,116,58,32,73,110,116,32,61,32,49,48,44,32,109,111,114,101,58,32,73,110,116,33]),
 ([105,100,58,32,73,68,33,41,58,32,78,111,100,101],[105,100,58,32,73,68,41,58,32,78,111,100,101]),
 ([105,100,58,32,73,68,41,58,32,85,115,101,114],[105,100,58,32,73,68,33,41,58,32,85,115,101,114]),
 ([32,32,66,76,85,69,10],[]),
 ([32,32,82,69,68,10],[32,32,82,69,68,10,32,32,71,82,69,69,78,10]),
 ([80,111,115,116,32,124,32,85,115,101,114],[85,115,101,114]),
 ([80,111,115,116,32,124,32,85,115,101,114],[80,111,115,116,32,124,32,81,117,101,114,121,32,124,32,85,115,101,114]),
 ([78,97,109,101,100,32,38,32,78,111,100,101],[78,111,100,101]),
 ([116,121,112,101,32,80,111,115,116,32,105,109,112,108,101,109,101,110,116,115,32,78,111,100,101,32,123],[116,121,112,101,32,80,111,115,116,32,105,109,112,108,101,109,101,110,116,115,32,78,97,109,101,100,32,38,32,78,111,100,101,32,123,10,32,32,110,97,109,101,58,32,83,116,114,105,110,103]),
 ([32,32,116,105,116,108,101,58,32,83,116,114,105,110,103,33,10],[]),
 ([32,32,116,105,116,108,101,58,32,83,116,114,105,110,103,33,10],[32,32,116,105,116,108,101,58,32,83,116,114,105,110,103,33,10,32,32,101,120,116,114,97,40,120,58,32,73,110,116,33,41,58,32,73,110,116,10]),
 ([115,99,97,108,97,114,32,68,97,116,101],[101,110,117,109,32,68,97,116,101,32,123,10,32,32,65,10,125]),
 ([115,99,97,108,97,114,32,68,97,116,101],[115,99,97,108,97,114,32,68,97,116,101,10,10,115,99,97,108,97,114,32,78,101,119]),
 ([32,111,110,32,70,73,69,76,68,32,124,32,81,85,69,82,89],[32,111,110,32,70,73,69,76,68]),
 ([111,110,32,70,73,69,76,68,10],[111,110,32,70,73,69,76,68,32,124,32,81,85,69,82,89,10]),
 ([114,101,112,101,97,116,97,98,108,101,32],[]),
 ([100,101,101,112,58,32,73,110,116,33,32,61,32,49],[100,101,101,112,58,32,73,110,116,33]),
 ([100,101,101,112,58,32,73,110,116,33,32,61,32,49],[100,101,101,112,58,32,73,110,116]),
 ([32,32,115,105,122,101,58,32,73,110,116,32,61,32,53,10],[32,32,115,105,122,101,58,32,73,110,116,33,10]),
 ([32,32,115,105,122,101,58,32,73,110,116,32,61,32,53,10],[]),
 ([32,32,116,101,120,116,58,32,83,116,114,105,110,103,33,10,32,32,115,105,122,101],[32,32,116,101,120,116,58,32,83,116,114,105,110,103,10,32,32,115,105,122,101]),
 ([32,32,99,111,108,111,114,115,58,32,91,67,111,108,111,114,33,93,10],[32,32,99,111,108,111,114,115,58,32,91,67,111,108,111,114,93,10,32,32,98,105,103,58,32,66,111,111,108,101,97,110,10]),
 ([32,32,114,101,110,97,109,101,40],[32,32,111,116,104,101,114,58,32,73,110,116,10,32,32,114,101,110,97,109,101,40]),
 ([116,121,112,101,32,77,117,116,97,116,105,111,110],[116,121,112,101,32,67,104,97,110,103,101]),
 ([115,99,97,108,97,114,32,68,97,116,101],[34,100,34,10,115,99,97,108,97,114,32,68,97,116,101]),
 ([115,99,97,108,97,114,32,68,97,116,101],[115,99,97,108,97,114,32,68,97,116,101,10,10,100,105,114,101,99,116,105,118,101,32,64,115,107,105,112,40,105,102,58,32,66,111,111,108,101,97,110,33,41,32,111,110,32,70,73,69,76,68]),
 ([111,110,58,32,68,97,116,101,41],[111,110,58,32,91,68,97,116,101,93,41])]
def pc (j:Nat):List UInt8:=pcs.getD j []
def hdl:List (List Tk):=[[],[],[],[],[(2,[101,110,117,109])],[],[],[(2,[100,105,114,101,99,116,105,118,101])],[(2,[100,105,114,101,99,116,105,118,101])],[(2,[116,121,112,101])],[],[]]
def X5 (v:List UInt8):List Tk:=((tz v 0 [] []).getD []).reverse
def itm (j:Nat) (v:List UInt8):List TDef:=jbB (hdl.getD j []).length 9 (X5 v ++ hdl.getD j [])
def two (v:List UInt8):Bool:=match X5 v with | a :: b :: _=>a.1 == 5 && b.1 == 5 | _=>false
def vs (j:Nat):List (List UInt8):=vars trn (pc j) 3
theorem jbq:trn.all (fun t=>nn false t.1 && nn true t.1 && !t.1.isEmpty && decide (t.1.length ≤ 100) && decide (t.2.length ≤ 100))=true:=by kernel_rfl
theorem jc3:(List.range 12).all (fun j=>(vs j).all (en false))=true:=by kernel_rfl
theorem je1 (r:List UInt8) (out:List Tk):(vs 0).map (fun v=>tz (v ++ r) 0 [] out)=(vs 0).map (fun v=>tz r 0 [] ((X5 v).reverse ++ out)):=by kernel_rfl
theorem jec (r:List Tk):((vs 0).filter (fun v=>!two v)).map (fun v=>pN (itm 0 v).length (X5 v ++ (hdl.getD 0 [] ++ r)))=((vs 0).filter (fun v=>!two v)).map (fun v=>some (itm 0 v,hdl.getD 0 [] ++ r)):=by kernel_rfl
theorem je0 (r:List UInt8) (out:List Tk):(vs 1).map (fun v=>tz (v ++ r) 0 [] out)=(vs 1).map (fun v=>tz r 0 [] ((X5 v).reverse ++ out)):=by kernel_rfl
theorem jeb (r:List Tk):((vs 1).filter (fun v=>!two v)).map (fun v=>pN (itm 1 v).length (X5 v ++ (hdl.getD 1 [] ++ r)))=((vs 1).filter (fun v=>!two v)).map (fun v=>some (itm 1 v,hdl.getD 1 [] ++ r)):=by kernel_rfl
theorem jdZ (r:List UInt8) (out:List Tk):(vs 2).map (fun v=>tz (v ++ r) 0 [] out)=(vs 2).map (fun v=>tz r 0 [] ((X5 v).reverse ++ out)):=by kernel_rfl
theorem jea (r:List Tk):((vs 2).filter (fun v=>!two v)).map (fun v=>pN (itm 2 v).length (X5 v ++ (hdl.getD 2 [] ++ r)))=((vs 2).filter (fun v=>!two v)).map (fun v=>some (itm 2 v,hdl.getD 2 [] ++ r)):=by kernel_rfl
theorem jdY (r:List UInt8) (out:List Tk):(vs 3).map (fun v=>tz (v ++ r) 0 [] out)=(vs 3).map (fun v=>tz r 0 [] ((X5 v).reverse ++ out)):=by kernel_rfl
theorem je9 (r:List Tk):((vs 3).filter (fun v=>!two v)).map (fun v=>pN (itm 3 v).length (X5 v ++ (hdl.getD 3 [] ++ r)))=((vs 3).filter (fun v=>!two v)).map (fun v=>some (itm 3 v,hdl.getD 3 [] ++ r)):=by kernel_rfl
theorem jdX (r:List UInt8) (out:List Tk):(vs 4).map (fun v=>tz (v ++ r) 0 [] out)=(vs 4).map (fun v=>tz r 0 [] ((X5 v).reverse ++ out)):=by kernel_rfl
theorem je8 (r:List Tk):((vs 4).filter (fun v=>!two v)).map (fun v=>pN (itm 4 v).length (X5 v ++ (hdl.getD 4 [] ++ r)))=((vs 4).filter (fun v=>!two v)).map (fun v=>some (itm 4 v,hdl.getD 4 [] ++ r)):=by kernel_rfl
theorem jdW (r:List UInt8) (out:List Tk):(vs 5).map (fun v=>tz (v ++ r) 0 [] out)=(vs 5).map (fun v=>tz r 0 [] ((X5 v).reverse ++ out)):=by kernel_rfl
theorem je7 (r:List Tk):((vs 5).filter (fun v=>!two v)).map (fun v=>pN (itm 5 v).length (X5 v ++ (hdl.getD 5 [] ++ r)))=((vs 5).filter (fun v=>!two v)).map (fun v=>some (itm 5 v,hdl.getD 5 [] ++ r)):=by kernel_rfl
theorem jdV (r:List UInt8) (out:List Tk):(vs 6).map (fun v=>tz (v ++ r) 0 [] out)=(vs 6).map (fun v=>tz r 0 [] ((X5 v).reverse ++ out)):=by kernel_rfl
theorem je6 (r:List Tk):((vs 6).filter (fun v=>!two v)).map (fun v=>pN (itm 6 v).length (X5 v ++ (hdl.getD 6 [] ++ r)))=((vs 6).filter (fun v=>!two v)).map (fun v=>some (itm 6 v,hdl.getD 6 [] ++ r)):=by kernel_rfl
theorem jdU (r:List UInt8) (out:List Tk):(vs 7).map (fun v=>tz (v ++ r) 0 [] out)=(vs 7).map (fun v=>tz r 0 [] ((X5 v).reverse ++ out)):=by kernel_rfl
theorem je5 (r:List Tk):((vs 7).filter (fun v=>!two v)).map (fun v=>pN (itm 7 v).length (X5 v ++ (hdl.getD 7 [] ++ r)))=((vs 7).filter (fun v=>!two v)).map (fun v=>some (itm 7 v,hdl.getD 7 [] ++ r)):=by kernel_rfl
theorem jdT (r:List UInt8) (out:List Tk):(vs 8).map (fun v=>tz (v ++ r) 0 [] out)=(vs 8).map (fun v=>tz r 0 [] ((X5 v).reverse ++ out)):=by kernel_rfl
theorem je4 (r:List Tk):((vs 8).filter (fun v=>!two v)).map (fun v=>pN (itm 8 v).length (X5 v ++ (hdl.getD 8 [] ++ r)))=((vs 8).filter (fun v=>!two v)).map (fun v=>some (itm 8 v,hdl.getD 8 [] ++ r)):=by kernel_rfl
theorem jdS (r:List UInt8) (out:List Tk):(vs 9).map (fun v=>tz (v ++ r) 0 [] out)=(vs 9).map (fun v=>tz r 0 [] ((X5 v).reverse ++ out)):=by kernel_rfl
theorem je3 (r:List Tk):((vs 9).filter (fun v=>!two v)).map (fun v=>pN (itm 9 v).length (X5 v ++ (hdl.getD 9 [] ++ r)))=((vs 9).filter (fun v=>!two v)).map (fun v=>some (itm 9 v,hdl.getD 9 [] ++ r)):=by kernel_rfl
theorem jc5 (r:List UInt8) (out:List Tk):(vs 10).map (fun v=>tz (v ++ r) 0 [] out)=(vs 10).map (fun v=>tz r 0 [] ((X5 v).reverse ++ out)):=by kernel_rfl
theorem jcf (r:List Tk):((vs 10).filter (fun v=>!two v)).map (fun v=>pN (itm 10 v).length (X5 v ++ (hdl.getD 10 [] ++ r)))=((vs 10).filter (fun v=>!two v)).map (fun v=>some (itm 10 v,hdl.getD 10 [] ++ r)):=by kernel_rfl
theorem jc4 (r:List UInt8) (out:List Tk):(vs 11).map (fun v=>tz (v ++ r) 0 [] out)=(vs 11).map (fun v=>tz r 0 [] ((X5 v).reverse ++ out)):=by kernel_rfl
theorem jce (r:List Tk):((vs 11).filter (fun v=>!two v)).map (fun v=>pN (itm 11 v).length (X5 v ++ (hdl.getD 11 [] ++ r)))=((vs 11).filter (fun v=>!two v)).map (fun v=>some (itm 11 v,hdl.getD 11 [] ++ r)):=by kernel_rfl
end Go.Proofs.QV
