import Derived.Test.YthbcjkppdjpihaaGreatME4
import Derived.KernelRfl
import Derived.ChangeOld
import Derived.RowKit
import Derived.Carry
import Derived.Test.YthbcjkppdjpihaaGreatME2
import Derived.Laws.StructEq
import Derived.Test.YthbcjkppdjpihaaGreatME3
/- The loaded code with notes for the evaluator laid beside it. -/
namespace Go.Proofs.QV
open Go
open _root_.Bool renaming and_eq_true → jg
open _root_.Option.some renaming injEq → j8
open _root_.Nat renaming lt_or_ge → jp
open _root_.List renaming length_append → js, map_cons → jc, flatMap_cons → jh, mem_append → jr, nil_append → ju, length_nil → je, eq_nil_of_length_eq_zero → jn
open Out renaming andThenB → j9
set_option linter.unusedVariables false
inductive AT where
 | n
 | r (ids:List Nat) (h:Option Hint)
 | k (ids:List Nat) (segs:List (Nat × Hint))
 | s (a b:AT)
 | c (x y:AT) (h:Option Hint)
 | b (x:AT) (h:Hint)
def AT.fst:AT → AT
 | .s x _=>x
 | .c x _ _=>x
 | .b x _=>x
 | _=>.n
def AT.snd:AT → AT
 | .s _ y=>y
 | .c _ y _=>y
 | _=>.n
def AT.opt:AT → Option Hint
 | .r _ h=>h
 | .c _ _ h=>h
 | _=>none
def AT.ids:AT → List Nat
 | .r l _=>l
 | .k l _=>l
 | _=>[]
def AT.segs:AT → List (Nat × Hint)
 | .k _ l=>l
 | _=>[]
def AT.hint:AT → Hint
 | .b _ h=>h
 | _=>⟨[],[]⟩
def ann:Code → AT → AC
 | .skip,_=>.skip
 | .region id ops true,t=>.region id ops true t.ids t.opt
 | .region id ops false,t =>
  match t.segs with
  | []=>.region id ops false t.ids t.opt
  | s :: l=>.rcut id ops t.ids (s :: l)
 | .seq a b,t=>.seq (ann a t.fst) (ann b t.snd)
 | .cond c x y,t=>.cond c (ann x t.fst) (ann y t.snd) t.opt
 | .block id b,t=>.block id (ann b t.fst) t.hint
 | .loop b,t=>.loop (ann b t.fst) t.hint
 | .exit id,_=>.exit id
 | .ret,_=>.ret
 | _,_=>.skip
def K4:Code → Bool
 | .skip=>true
 | .region _ _ _=>true
 | .seq a b=>K4 a && K4 b
 | .cond _ x y=>K4 x && K4 y
 | .block _ b=>K4 b
 | .loop b=>K4 b
 | .exit _=>true
 | .ret=>true
 | _=>false
theorem JB:∀ (c:Code) (t:AT),K4 c=true → (ann c t).code=c
 | .skip,_,_=>rfl
 | .region _ _ true,_,_=>rfl
 | .region _ _ false,t,_=>by
  rw [ann]
  split <;> rfl
 | .seq a b,t,h=>by
  simp only [K4,jg] at h
  simp only [ann,AC.code,JB a _ h.1,JB b _ h.2]
 | .cond _ x y,t,h=>by
  simp only [K4,jg] at h
  simp only [ann,AC.code,JB x _ h.1,JB y _ h.2]
 | .block _ b,t,h=>by
  simp only [K4] at h
  simp only [ann,AC.code,JB b _ h]
 | .loop b,t,h=>by
  simp only [K4] at h
  simp only [ann,AC.code,JB b _ h]
 | .exit _,_,_=>rfl
 | .ret,_,_=>rfl
 | .label _,_,h=>by simp [K4] at h
 | .goto _,_,h=>by simp [K4] at h
def jB (fd:Func) (nobj:Nat) (pk:List PK) (rk:List (Bool × List RK)) (t:Hint → AT):FI :=
 { ntmps:=fd.ntmps,nobj:=nobj,pk:=pk,rk:=rk,res:=fd.results.toList,body:=fun h=>ann (fd.body.getD .skip) (t h),prim:=none,mark:=none,stf:=none }
def jbb (fd:Func):Bool:=!(fd.name == "runtime.NumGoroutine") && match fd.body with | some c=>K4 c | none=>false
theorem jf {P:Program} {G:Glob} {ty:Nat → Option TI} {f:Nat} {fd:Func} {nobj:Nat} {pk:List PK} {rk:List (Bool × List RK)} {t:Hint → AT} (h1:P.funcs[f]? = some fd) (h2:jbb fd=true):FnOk P G ty f (jB fd nobj pk rk t):=by
 unfold jbb at h2
 rw [jg] at h2
 obtain ⟨h2,h3⟩:=h2
 refine ⟨⟨fd,h1,by simpa using h2,?_,fun _=>?_⟩,fun p hp=>by simp [jB] at hp,fun m hm=>(by simp [jB] at hm),fun m hm=>by simp [jB] at hm⟩
 ·cases hb:fd.body with
  | none=>rw [hb] at h3; simp at h3
  | some c=>rfl
 ·cases hb:fd.body with
  | none=>rw [hb] at h3; simp at h3
  | some c =>
   rw [hb] at h3
   refine ⟨fun h=>?_,rfl,rfl⟩
   simp only [jB,hb,Option.getD_some]
   rw [JB c (t h) h3]
def qd {α:Type} (n:Nat):List (Nat × α) → Option α
 | []=>none
 | (m,x) :: l=>bif Nat.beq m n then some x else qd n l
theorem Yz {α:Type} {n:Nat} {x:α}:∀ {l:List (Nat × α)},qd n l=some x → (n,x) ∈ l
 | [],h=>by simp [qd] at h
 | (m,y) :: l,h=>by
  rw [qd] at h
  cases hb:Nat.beq m n with
  | true =>
   rw [hb] at h
   simp only [cond_true,j8] at h
   subst h
   have:=Nat.eq_of_beq_eq_true hb
   subst this
   simp
  | false =>
   rw [hb] at h
   exact List.mem_cons_of_mem _ (Yz h)
def Out.bindR (o:Out) (K:List DC → Out):Out :=
 match o with
 | .ret v=>K v
 | _=>.fail
def Evt (g:Nat → Out) (o:Out):Prop:=∃ N,∀ k,N ≤ k → g k=o
def j45 (F:Nat → List DC → Out) (v:List DC) (o:Out):Prop:=∃ N,∀ k n,N ≤ k → N ≤ n → jG (F k) n v=o
theorem Evt.const (o:Out):Evt (fun _=>o) o:=⟨0,fun _ _=>rfl⟩
theorem Evt.succ {g:Nat → Out} {o:Out} (h:Evt (fun k=>g (k + 1)) o):Evt g o:=by
 obtain ⟨N,h⟩:=h
 refine ⟨N + 1,fun k hk=>?_⟩
 obtain ⟨k,rfl⟩:∃ j,k=j + 1:=⟨k - 1,by omega⟩
 exact h k (by omega)
theorem Evt.congr {g g':Nat → Out} {o:Out} (h:Evt g o) (e:∀ k,g' k=g k):Evt g' o:=by
 obtain ⟨N,h⟩:=h
 exact ⟨N,fun k hk=>(e k).trans (h k hk)⟩
theorem Evt.bind {g:Nat → Out} {r:List DC} {G:Nat → List DC → Out} {o:Out} (h:Evt g (.ret r)) (h2:Evt (fun k=>G k r) o):Evt (fun k=>(g k).bindR (G k)) o:=by
 obtain ⟨N,h⟩:=h
 obtain ⟨M,h2⟩:=h2
 exact ⟨max N M,fun k hk=>by dsimp only; rw [h k (by omega)]; exact h2 k (by omega)⟩
theorem j45.step {F:Nat → List DC → Out} {v v':List DC} {o:Out} (h:Evt (fun k=>F k v) (.norm v')) (h2:j45 F v' o):j45 F v o:=by
 obtain ⟨N,h⟩:=h
 obtain ⟨M,h2⟩:=h2
 refine ⟨max N (M + 1),fun k n hk hn=>?_⟩
 obtain ⟨n,rfl⟩:∃ j,n=j + 1:=⟨n - 1,by omega⟩
 have h':=h k (by omega)
 dsimp only at h'
 rw [jG,h']
 exact h2 k n (by omega) (by omega)
theorem j45.ex {F:Nat → List DC → Out} {v v':List DC} {id:Nat} (h:Evt (fun k=>F k v) (.ex id v')):j45 F v (.ex id v'):=by
 obtain ⟨N,h⟩:=h
 refine ⟨N + 1,fun k n hk hn=>?_⟩
 obtain ⟨n,rfl⟩:∃ j,n=j + 1:=⟨n - 1,by omega⟩
 have h':=h k (by omega)
 dsimp only at h'
 rw [jG,h']
 rfl
theorem j45.ret {F:Nat → List DC → Out} {v v':List DC} (h:Evt (fun k=>F k v) (.ret v')):j45 F v (.ret v'):=by
 obtain ⟨N,h⟩:=h
 refine ⟨N + 1,fun k n hk hn=>?_⟩
 obtain ⟨n,rfl⟩:∃ j,n=j + 1:=⟨n - 1,by omega⟩
 have h':=h k (by omega)
 dsimp only at h'
 rw [jG,h']
 rfl
theorem j45.evt {F:Nat → List DC → Out} {v:List DC} {o:Out} (h:j45 F v o):Evt (fun k=>jG (F k) k v) o:=by
 obtain ⟨N,h⟩:=h
 exact ⟨N,fun k hk=>h k k hk hk⟩
@[simp] theorem DC.bb_b (x:Bool):(DC.b x).bb=x:=rfl
@[simp] theorem DC.ii_i (x:Int):(DC.i x).ii=x:=rfl
@[simp] theorem DC.ss_s (x:List UInt8):(DC.s x).ss=x:=rfl
@[simp] theorem DC.ll_sl (x:List (List DC)):(DC.sl x).ll=x:=rfl
@[simp] theorem Out.bindR_ret (v:List DC) (K:List DC → Out):(Out.ret v).bindR K=K v:=rfl
@[simp] theorem Out.andThen_norm (v:List DC) (K:List DC → Out):(Out.norm v).andThen K=K v:=rfl
@[simp] theorem Out.andThen_ret (v:List DC) (K:List DC → Out):(Out.ret v).andThen K = .ret v:=rfl
@[simp] theorem Out.andThen_ex (id:Nat) (v:List DC) (K:List DC → Out):(Out.ex id v).andThen K = .ex id v:=rfl
@[simp] theorem Out.andThenB_norm (id:Nat) (v:List DC) (K:List DC → Out):(Out.norm v).andThenB id K=K v:=rfl
@[simp] theorem Out.andThenB_ret (id:Nat) (v:List DC) (K:List DC → Out):(Out.ret v).andThenB id K = .ret v:=rfl
@[simp] theorem Out.andThenB_ex (id id':Nat) (v:List DC) (K:List DC → Out):(Out.ex id' v).andThenB id K=if id'=id then K v else .ex id' v:=rfl
set_option linter.unusedSimpArgs false
def Lay (ty:Nat → Option TI):Nat → List Go.Field → List CT → Prop
 | _,[],cts=>cts=[]
 | off,f :: fs,cts=>f.offset=off ∧ ∃ tf rest,ty f.type=some tf ∧ cts=tf.cts ++ rest ∧ Lay ty (off + tf.cts.length) fs rest
structure RdTy (P:Program) (ty:Nat → Option TI) (t:Nat) (ti:TI):Prop where
 ok:match P.underlying t with
  | some .bool=>ti.cts=[.b]
  | some (.int k)=>ti.cts=[.i k]
  | some .string=>ti.cts=[.s]
  | some (.slice e)=>ti.cts=[.sl e] ∧ ∃ te,ty e=some te ∧ 0 < te.cts.length
  | some (.struct fs)=>Lay ty 0 fs.toList ti.cts
  | _=>False
 size:P.cellsOf t=ti.cts.length
mutual
inductive WfC (ty:Nat → Option TI):CT → DC → Prop
 | b (x:Bool):WfC ty .b (.b x)
 | i (k:IntKind) (n:Int):k.min ≤ n → n ≤ k.max → WfC ty (.i k) (.i n)
 | s (l:List UInt8):l.length ≤ maxLen → WfC ty .s (.s l)
 | sl (e:Nat) (te:TI) (l:List (List DC)):ty e=some te → l.length ≤ maxLen → WfV ty te.cts l → WfC ty (.sl e) (.sl l)
 | nil (e:Nat):WfC ty (.sl e) (.sl [])
inductive WfL (ty:Nat → Option TI):List CT → List DC → Prop
 | nil:WfL ty [] []
 | cons (t:CT) (ts:List CT) (x:DC) (xs:List DC):WfC ty t x → WfL ty ts xs → WfL ty (t :: ts) (x :: xs)
inductive WfV (ty:Nat → Option TI):List CT → List (List DC) → Prop
 | nil (ts:List CT):WfV ty ts []
 | cons (ts:List CT) (x:List DC) (l:List (List DC)):WfL ty ts x → WfV ty ts l → WfV ty ts (x :: l)
end
theorem WfL.append {ty:Nat → Option TI}:∀ {a b:List CT} {x y:List DC},WfL ty a x → WfL ty b y → WfL ty (a ++ b) (x ++ y)
 | _,_,_,_,.nil,h=>h
 | _,_,_,_,.cons t ts x xs h1 h2,h=>.cons t _ x _ h1 (WfL.append h2 h)
section
variable {H:Type} {enc:TypeId × Value → H} {P:Program} {ty:Nat → Option TI} {w:World} {sp:Nat → Bool} {held:Bool}
theorem j7H {ts:List CT}:∀ (l:List (List Value)) ,(∀ c ∈ l,∃ x F,RdL ty w ts x c F ∧ (∀ b ∈ F,b < w.heap.size) ∧ WfL ty ts x) → ∃ xs F,xs.length=l.length ∧ RdV ty w ts xs l.flatten F ∧ (∀ b ∈ F,b < w.heap.size) ∧ WfV ty ts xs
 | [],_=>⟨[],[],rfl,.nil _,fun _ h=>by (cases h),.nil _⟩
 | c :: l,h=>by
  obtain ⟨x,F,h1,h2,h3⟩:=h c (by simp)
  obtain ⟨xs,G,k1,k2,k3,k4⟩:=j7H l fun c hc=>h c (by simp [hc])
  refine ⟨x :: xs,F ++ G,by simp [k1],?_,fun b hb=>?_,.cons _ _ _ h3 k4⟩
  ·rw [List.flatten_cons]
   exact .cons _ _ _ _ _ _ _ h1 k2
  ·rcases List.mem_append.1 hb with hb | hb
   ·exact h2 b hb
   ·exact k3 b hb
theorem j2w (hrd:∀ t ti,ty t=some ti → RdTy P ty t ti):∀ (fuel t:Nat) (ti:TI) (cs:List Value) (x:DataW H × List MemPlace),ty t=some ti → DataW.trod enc P w 0 sp held fuel t cs=some x →
  ∃ d F,RdL ty w ti.cts d cs F ∧ (∀ b ∈ F,b < w.heap.size) ∧ WfL ty ti.cts d
 | 0,t,ti,cs,x,ht,h=>by simp [DataW.trod] at h
 | fuel + 1,t,ti,cs,x,ht,h=>by
  have ih:=j2w hrd fuel
  obtain ⟨hok,hsz⟩:=hrd t ti ht
  have lit:∀ (c:CT) (dd:DC) (v:Value),ti.cts=[c] → cs=[v] → RdC ty w c dd v [] → WfC ty c dd → ∃ d F,RdL ty w ti.cts d cs F ∧ (∀ b ∈ F,b < w.heap.size) ∧ WfL ty ti.cts d:=by
   intro c dd v h1 h2 h3 h4
   rw [h1,h2]
   exact ⟨[dd],[] ++ [],.cons _ _ _ _ _ _ _ _ h3 .nil,fun _ h=>by (cases h),.cons _ _ _ _ h4 .nil⟩
  unfold DataW.trod at h
  split at h
  case h_1 b hu =>
   rw [hu] at hok
   exact lit .b (.b b) _ hok rfl (.b b) (.b b)
  case h_2 k k' n hu =>
   rw [hu] at hok
   split at h
   ·rename_i hk
    obtain ⟨rfl,hwf⟩:=hk
    simp only [Lit.wf,jg,decide_eq_true_eq] at hwf
    exact lit (.i k') (.i n) _ hok rfl (.i k' n) (.i k' n hwf.1 hwf.2)
   ·simp at h
  case h_4 s hu =>
   rw [hu] at hok
   split at h
   ·rename_i hs
    have e:s=⟨s.data.toList.toArray⟩:=by cases s; simp
    refine lit .s (.s s.data.toList) _ hok rfl ?_ (.s _ hs)
    have:=RdC.s (ty:=ty) (w:=w) s.data.toList
    rw [← e] at this
    exact this
   ·simp at h
  case h_7 e hu =>
   rw [hu] at hok
   exact lit (.sl e) (.sl []) _ hok.1 rfl (.nil e none 0) (.nil e)
  case h_8 e a len cap hu =>
   rw [hu] at hok
   obtain ⟨hc,te,hte,h0⟩:=hok
   have hes:P.cellsOf e=te.cts.length:=(hrd e te hte).size
   split at h
   ·rename_i hbnd
    simp only [Option.map_eq_some_iff,Option.bind_eq_some_iff] at h
    obtain ⟨elems,hel,rest,hrest,_⟩:=h
    by_cases hl:len=0
    ·subst hl
     exact lit (.sl e) (.sl []) _ hc rfl (.nil e _ _) (.nil e)
    ·-- each element's cells
     have hget:∀ i,i < len → ∃ cs',w.cells? 0 (a.add (i * P.cellsOf e)) (P.cellsOf e)=some cs' ∧ ∃ y,DataW.trod enc P w 0 sp held fuel e cs'=some y:=by
      intro i hi
      have h1:=mapM_some_get hel i i (by rw [List.getElem?_range hi])
      have hlen:=mapM_some_length hel
      rw [List.length_range] at hlen
      rw [List.getElem?_eq_getElem (by omega)] at h1
      cases hcs:w.cells? 0 (a.add (i * P.cellsOf e)) (P.cellsOf e) with
      | none=>rw [hcs] at h1; simp at h1
      | some cs' =>
       rw [hcs] at h1
       exact ⟨cs',rfl,_,h1⟩
     have hspot:a.spot=none:=by
      obtain ⟨cs',hcs,_⟩:=hget 0 (by omega)
      rw [Nat.zero_mul] at hcs
      obtain ⟨_,hl',hcc⟩:=World.cells?_some hcs
      have:=hcc 0 (by omega)
      rw [show (a.add 0).add 0=a by simp [Addr.add]] at this
      have h2:cs'[0]? = some cs'[0]:=List.getElem?_eq_getElem (by omega)
      rw [h2] at this
      unfold World.cell? at this
      split at this
      ·split at this
       ·simp at this
       ·rename_i hs
        cases hsp:a.spot with
        | none=>rfl
        | some _=>rw [hsp] at hs; simp at hs
      ·simp at this
     have ha:a=⟨a.block,a.off,none⟩:=by cases a; simp at hspot; simp [hspot]
     let cells:List (List Value):=(List.range len).map fun i=>(w.cells? 0 (a.add (i * P.cellsOf e)) (P.cellsOf e)).getD []
     obtain ⟨xs,F,x1,x2,x3,x4⟩:=j7H (ty:=ty) (w:=w) (ts:=te.cts) cells fun c hcm=>by
      simp only [cells,List.mem_map,List.mem_range] at hcm
      obtain ⟨i,hi,rfl⟩:=hcm
      obtain ⟨cs',hcs,y,hy⟩:=hget i hi
      rw [hcs]
      exact ih e te cs' y hte hy
     have hlc:cells.length=len:=by simp [cells]
     have hblk:a.block < w.heap.size:=by
      obtain ⟨cs',hcs,_⟩:=hget 0 (by omega)
      rw [Nat.zero_mul] at hcs
      have:=World.cells?_block hcs (by omega)
      simpa [Addr.add] using this
     have hcl:∀ i,i < len → ∃ c,cells[i]? = some c ∧ c.length=te.cts.length ∧ ∀ j,j < te.cts.length → w.cell? ⟨a.block,a.off + (i * te.cts.length + j),none⟩=c[j]?:=by
      intro i hi
      obtain ⟨cs',hcs,_⟩:=hget i hi
      refine ⟨cs',by simp [cells,hi,hcs],?_⟩
      obtain ⟨_,hl',hcc⟩:=World.cells?_some hcs
      refine ⟨by rw [hl',hes],fun j hj=>?_⟩
      have:=hcc j (by omega)
      rw [← this,hes]
      congr 1
      rw [ha,Addr.add_lit,Addr.add_lit]
      simp [Nat.add_assoc]
     have hflat:∀ (l:List (List Value)) (off:Nat),(∀ i c,l[i]? = some c → c.length=te.cts.length ∧ ∀ j,j < te.cts.length → w.cell? ⟨a.block,off + (i * te.cts.length + j),none⟩=c[j]?) →
       ∀ (j:Nat) (v:Value),l.flatten[j]? = some v → w.cell? ⟨a.block,off + j,none⟩=some v:=by
      intro l
      induction l with
      | nil=>intro off _ j v h; simp at h
      | cons c l ihl =>
       intro off hl j v hv
       obtain ⟨c1,c2⟩:=hl 0 c rfl
       rw [List.flatten_cons] at hv
       by_cases hj:j < te.cts.length
       ·rw [List.getElem?_append_left (by omega)] at hv
        have:=c2 j hj
        rw [Nat.zero_mul,Nat.zero_add] at this
        rw [this,hv]
       ·rw [List.getElem?_append_right (by omega),c1] at hv
        have:=ihl (off + te.cts.length) (fun i c hc=>by
         obtain ⟨q1,q2⟩:=hl (i + 1) c (by simpa using hc)
         refine ⟨q1,fun j hj=>?_⟩
         rw [← q2 j hj]
         congr 2
         rw [Nat.succ_mul]
         omega) (j - te.cts.length) v hv
        rw [← this]
        congr 2
        omega
     have hxl:xs.length=len:=by rw [x1,hlc]
     refine ⟨[DC.sl xs],(a.block :: F) ++ [],?_,fun b hb=>?_,?_⟩
     ·rw [hc]
      refine .cons _ _ _ _ _ _ _ _ ?_ .nil
      rw [ha]
      refine .sl e te _ _ _ _ xs cells.flatten F hte h0 hxl.symm (by intro h; rw [h] at hxl; simp at hxl; omega) hbnd.2.1 (hflat cells a.off fun i c hic=>?_) x2
      have hi:i < len:=by
       rcases jp i cells.length with h' | h'
       ·omega
       ·simp [List.getElem?_eq_none h'] at hic
      obtain ⟨c',q1,q2,q3⟩:=hcl i hi
      rw [q1] at hic
      simp only [j8] at hic
      subst hic
      exact ⟨q2,q3⟩
     ·simp only [List.append_nil,List.mem_cons] at hb
      rcases hb with rfl | hb
      ·exact hblk
      ·exact x3 b hb
     ·rw [hc]
      exact .cons _ _ _ _ (.sl e te xs hte (by rw [hxl]; omega) x4) .nil
   ·simp at h
  case h_9 fs hu =>
   rw [hu] at hok
   split at h
   ·rename_i hlen
    simp only [Option.map_eq_some_iff] at h
    obtain ⟨ys,hys,_⟩:=h
    have key:∀ (fs:List Go.Field) (off:Nat) (cts:List CT) (ys:List (DataW H × List MemPlace)) (cs0:List Value),Lay ty off fs cts → fs.mapM (fun f=>DataW.trod enc P w 0 sp held fuel f.type ((cs0.drop f.offset).take (P.cellsOf f.type)))=some ys →
      off + cts.length=cs0.length → ∃ d F,RdL ty w cts d (cs0.drop off) F ∧ (∀ b ∈ F,b < w.heap.size) ∧ WfL ty cts d:=by
     intro fs
     induction fs with
     | nil =>
      intro off cts ys cs0 hl _ hlen
      have hl':cts=[]:=hl
      subst hl'
      rw [List.drop_of_length_le (by simp at hlen; omega)]
      exact ⟨[],[],.nil,fun _ h=>by (cases h),.nil⟩
     | cons f fs ihf =>
      intro off cts ys cs0 hl hm hlen
      obtain ⟨ho,tf,rest,htf,rfl,hl2⟩:=hl
      rw [List.mapM_cons] at hm
      simp only [Option.bind_eq_bind,Option.bind_eq_some_iff,Option.pure_def,j8] at hm
      obtain ⟨y,hy,ys',hys',_⟩:=hm
      obtain ⟨d1,F1,q1,q2,q3⟩:=ih f.type tf _ y htf hy
      rw [js] at hlen
      obtain ⟨d2,F2,p1,p2,p3⟩:=ihf (off + tf.cts.length) rest ys' cs0 hl2 hys' (by omega)
      refine ⟨d1 ++ d2,F1 ++ F2,?_,fun b hb=>?_,q3.append p3⟩
      ·have:=q1.append p1
       rw [ho,(hrd f.type tf htf).size,← List.drop_drop,List.take_append_drop] at this
       exact this
      ·rcases List.mem_append.1 hb with hb | hb
       ·exact q2 b hb
       ·exact p2 b hb
    have:=key fs.toList 0 ti.cts ys _ hok hys (by rw [hlen,hsz]; omega)
    simpa using this
   ·simp at h
  all_goals first
   | (simp at h; done)
   | (rename_i hu; rw [hu] at hok; exact hok.elim)
   | (rename_i hu _; rw [hu] at hok; exact hok.elim)
   | (exfalso; revert hok; simp_all)
end
def PK.cts:PK → List CT
 | .ct c=>[c]
 | .ag l=>l
 | _=>[]
def Ko:PK → KC
 | .ct c=>.one c.k1
 | .ag l=>.agg (l.map CT.k1)
 | _=>.one .u
def j8w (ti:TI):PK :=
 match jL (some ti),ti.cts with
 | true,l=>.ag l
 | false,[c]=>.ct c
 | false,_=>.fn
section
variable {H:Type} {enc:TypeId × Value → H} {P:Program} {ty:Nat → Option TI} {w:World} {sp:Nat → Bool} {held:Bool}
theorem YO {r:Reach} {b0:Nat} {t:TypeId} {v:Value} {d:TypeDesc} (hu:P.underlying t=some d) (hd:d = .bool ∨ (∃ k,d = .int k) ∨ d = .string ∨ ∃ e,d = .slice e) (h:Value.okWide P w r b0 t v):v.oneCell'=true:=by
 rcases hd with rfl | ⟨k,rfl⟩ | rfl | ⟨e,rfl⟩ <;> simp only [Value.okWide,hu,Cell.okWide,Cell.ok] at h <;> cases v <;> simp_all [Value.oneCell']
theorem j3k (hty:p6 P ty) (hrd:∀ t ti,ty t=some ti → RdTy P ty t ti) {b0:Nat}:∀ (ts:List TypeId) (pks:List PK) (vs:List Value) (ds:List (DataW H)) (ps:List MemPlace),DataW.TrodAll enc P w 0 sp held ts vs ds ps →
  (∀ (j:Nat) t v,ts[j]? = some t → vs[j]? = some v → Value.okWide P w .any b0 t v) → (ts.map fun t=>(ty t).map j8w)=pks.map some → pks.all PK.plain=true →
  ∃ (d:List DC) (F:List Nat) (us:List Value),RdL ty w (pks.flatMap PK.cts) d us F ∧ (∀ b ∈ F,b < w.heap.size) ∧ WfL ty (pks.flatMap PK.cts) d ∧ J4 (pks.map Ko) vs us
 | [],pks,vs,ds,ps,h,hv,hp,hpl=>by
  have:pks=[]:=by
   cases pks with
   | nil=>rfl
   | cons _ _=>simp at hp
  subst this
  match vs,ds,h with
  | [],[],h=>exact ⟨[],[],[],.nil,fun _ h=>by (cases h),.nil,rfl⟩
  | _ :: _,_,h=>exact h.elim
  | [],_ :: _,h=>exact h.elim
 | t :: ts,pks,vs,ds,ps,h,hv,hp,hpl=>by
  match pks with
  | []=>simp at hp
  | p :: pks =>
   match vs,ds,h with
   | v :: vs,d :: ds,⟨p1,q1,h1,h2,_⟩ =>
    simp only [jc,List.cons.injEq] at hp
    simp only [List.all_cons,jg] at hpl
    obtain ⟨d2,F2,us2,k1,k2,k3,k4⟩:=j3k hty hrd ts pks vs ds q1 h2 (fun j t v a b=>hv (j + 1) t v a b) hp.2 hpl.2
    cases hti:ty t with
    | none=>rw [hti] at hp; simp at hp
    | some ti =>
     rw [hti] at hp
     have hpk:j8w ti=p:=by simpa using hp.1
     obtain ⟨fuel,hf⟩:=h1
     obtain ⟨d1,F1,r1,r2,r3⟩:=j2w hrd fuel t ti _ _ hti hf
     have hval:=hv 0 t v rfl rfl
     obtain ⟨hok,hsz⟩:=hrd t ti hti
     have fin:∀ (us1:List Value),p.cts=ti.cts → v.cells.toList=us1 → (∀ r,J4 (pks.map Ko) vs r → J4 (Ko p :: pks.map Ko) (v :: vs) (us1 ++ r)) → ∃ (d:List DC) (F:List Nat) (us:List Value),
       RdL ty w ((p :: pks).flatMap PK.cts) d us F ∧ (∀ b ∈ F,b < w.heap.size) ∧ WfL ty ((p :: pks).flatMap PK.cts) d ∧ J4 ((p :: pks).map Ko) (v :: vs) us:=by
      intro us1 hc hcells hflat
      rw [hcells] at r1
      refine ⟨d1 ++ d2,F1 ++ F2,us1 ++ us2,?_,fun b hb=>?_,?_,hflat us2 k4⟩
      ·rw [jh,hc]; exact r1.append k1
      ·rcases List.mem_append.1 hb with hb | hb
       ·exact r2 b hb
       ·exact k2 b hb
      ·rw [jh,hc]; exact r3.append k3
     have hone:∀ c,ti.cts=[c] → v.oneCell'=true → p = .ct c → ∃ (d:List DC) (F:List Nat) (us:List Value),
       RdL ty w ((p :: pks).flatMap PK.cts) d us F ∧ (∀ b ∈ F,b < w.heap.size) ∧ WfL ty ((p :: pks).flatMap PK.cts) d ∧ J4 ((p :: pks).map Ko) (v :: vs) us:=by
      intro c hc h1 hp'
      subst hp'
      exact fin [v] (by rw [hc]; rfl) (by rw [j2P h1]) fun r hr=>⟨r,rfl,hr⟩
     obtain ⟨dsc,hu,hagg⟩:=(hty t ti hti).struct
     rw [hu] at hok
     unfold j8w at hpk
     cases hst:jL (some ti) with
     | true =>
      rw [hst] at hpk hagg
      dsimp only at hpk
      subst hpk
      cases dsc with
      | struct fs =>
       simp only [Value.okWide,hu] at hval
       obtain ⟨cs,rfl,hcs,_⟩:=hval
       refine fin cs.toList rfl rfl fun r hr=>⟨cs.toList,r,by simp,?_,rfl,hr⟩
       simp [hcs,hsz]
      | array n e=>exact hok.elim
      | _=>simp [Q8] at hagg
     | false =>
      rw [hst] at hpk hagg
      have single:∀ c,ti.cts=[c] → p = .ct c:=fun c hc=>by rw [hc] at hpk; exact hpk.symm
      cases dsc with
      | bool=>exact hone _ hok (YO hu (.inl rfl) hval) (single _ hok)
      | int k=>exact hone _ hok (YO hu (.inr (.inl ⟨k,rfl⟩)) hval) (single _ hok)
      | string=>exact hone _ hok (YO hu (.inr (.inr (.inl rfl))) hval) (single _ hok)
      | slice e=>exact hone _ hok.1 (YO hu (.inr (.inr (.inr ⟨e,rfl⟩))) hval) (single _ hok.1)
      | struct fs=>simp [Q8] at hagg
      | _=>exact hok.elim
   | [],_,h=>exact h.elim
   | _ :: _,[],h=>exact h.elim
theorem j7I {A:An} {g:Gh} {H0 H1:List HS}:∀ {ts:List CT} {d:List DC} {us:List Value} {F:List Nat} (pre post:List DC),RdL ty w ts d us F → (∀ b ∈ F,g.I b) → FL ty A g H0 H1 w (pre ++ (d ++ post)) pre.length (ts.map CT.k1) us
 | _,_,_,_,pre,post,.nil,_=>trivial
 | _,_,_,_,pre,post,.cons t ts x xs v vs F G h1 h2,hF=>by
  have hc:=(CT.k1_plain t).2.2.2.1
  refine ⟨⟨[x],by rw [hc]; rfl,fun i hi=>?_,?_⟩,?_⟩
  ·rw [hc] at hi
   have:i=0:=by omega
   subst this
   simp [List.getD_eq_getElem?_getD]
  ·cases h1 with
   | b x=>exact ⟨x,rfl,rfl⟩
   | i k n=>exact ⟨n,rfl,rfl⟩
   | s l=>exact ⟨l,rfl,rfl⟩
   | nil e a c=>exact ⟨[],[],rfl,.nil e a c,fun _ h=>by cases h⟩
   | sl e ti b off n cap l vs' F' k1 k0 k2 k3 k4 k5 k6=>exact ⟨l,_,rfl,.sl e ti b off n cap l vs' F' k1 k0 k2 k3 k4 k5 k6,fun b hb=>hF b (by simp only [jr]; exact .inl hb)⟩
  ·have:=j7I (A:=A) (g:=g) (H0:=H0) (H1:=H1) (pre ++ [x]) post h2 fun b hb=>hF b (by simp [hb])
   rw [hc]
   simpa using this
theorem j4t:∀ {pks:List PK},pks.all PK.plain=true → (pks.map Ko).flatMap KC.kinds=(pks.flatMap PK.cts).map CT.k1
 | [],_=>rfl
 | p :: pks,h=>by
  simp only [List.all_cons,jg] at h
  rw [jc,jh,jh,List.map_append,j4t h.2]
  cases p with
  | ct c=>rfl
  | ag l=>rfl
  | _=>simp [PK.plain] at h
theorem j29 {vals:Array Value} {d:List DC} {us:List Value} {F:List Nat} (fi:FI) (hpl:fi.pk.all PK.plain=true) (h1:RdL ty w (fi.pk.flatMap PK.cts) d us F) (h2:∀ b ∈ F,b < w.heap.size) (h4:J4 (fi.pk.map Ko) vals.toList us) :
  ∃ (A:An) (g:Gh),Rel ty A g (pd fi ⟨fi.pk.map Ko,[]⟩ d) { tmps:=vals ++ Array.replicate (fi.ntmps - vals.size) undef,defers:=[] } w ∧
   vals.size=(fi.pk.map Ko).length ∧ A.w0=w ∧ A.m=0 ∧ (∀ b,¬ A.Pv b) ∧ ∀ b,¬ A.Pm b:=by
 let A:An:={ w0:=w,I0:=fun b=>b < w.heap.size,Pv:=fun _=>False,Pm:=fun _=>False,m:=0,pb:=fun _=>0 }
 let g:Gh:={ I:=fun b=>b < w.heap.size,blk:=fun _=>0,val:=fun _=>undef,dom:=fun _ _=>False }
 refine ⟨A,g,?_,by simpa using h4.length.1,rfl,rfl,fun _ h=>h,fun _ h=>h⟩
 have hfl:=j7I (A:=A) (g:=g) (H0:=[]) (H1:=[]) [] [] h1 h2
 rw [ju,List.append_nil,je] at hfl
 have hk:∀ k ∈ (fi.pk.flatMap PK.cts).map CT.k1,∃ t:CT,k=t.k1:=fun k hk=>by
  obtain ⟨t,_,rfl⟩:=List.mem_map.1 hk
  exact ⟨t,rfl⟩
 have hsrl:kQ ty g (List.replicate fi.nobj HS.free) w (mkL d 0 ((fi.pk.flatMap PK.cts).map CT.k1)) us:=VZ (g:=g) (g':=g) (fun _ h=>h) (by rw [JY hk]; exact hfl)
  (fun i e id u h1 h2=>by
   obtain ⟨t,ht⟩:=hk _ (List.mem_of_getElem? h1)
   cases t <;> simp [CT.k1] at ht)
  (fun i m off u h1 h2=>by
   obtain ⟨t,ht⟩:=hk _ (List.mem_of_getElem? h1)
   exact absurd ht.symm ((CT.k1_plain t).1 m off))
  (fun i f caps u h1 h2=>by
   obtain ⟨t,ht⟩:=hk _ (List.mem_of_getElem? h1)
   exact absurd ht.symm ((CT.k1_plain t).2.1 f caps))
 rw [← j4t hpl] at hsrl
 obtain ⟨c1,c2⟩:=J4.mkT d 0 h4 hsrl
 have hst:pd fi ⟨fi.pk.map Ko,[]⟩ d=⟨mkT d 0 (fi.pk.map Ko) ++ List.replicate (fi.ntmps - (mkT d 0 (fi.pk.map Ko)).length) (.one .undef),List.replicate fi.nobj HS.free⟩:=rfl
 have hfree:∀ id o,ji (List.replicate fi.nobj HS.free) id ≠ .live o:=by
  intro id o
  unfold ji
  rw [List.getD_eq_getElem?_getD,List.getElem?_replicate]
  split <;> simp
 rw [hst]
 refine ⟨?_,fun i c x h1 h2=>?_,fun id o ho=>absurd ho (hfree id o),fun i j o p x _ hi=>absurd hi (hfree i o),fun b hb=>hb,fun b hb=>.inl hb,fun id o x ho=>absurd ho (hfree id o),fun j hj=>by simp [A] at hj,fun j hj=>by simp [A] at hj,
  ⟨rfl,rfl,rfl,Nat.le_refl _,fun _ _ _ _=>rfl⟩,rfl⟩
 ·have:vals.size=(mkT d 0 (fi.pk.map Ko)).length:=by rw [c1]; simp
  simp [this]
 ·simp only [Array.getElem?_append] at h2
  rcases jp i (mkT d 0 (fi.pk.map Ko)).length with h' | h'
  ·rw [List.getElem?_append_left h'] at h1
   have hl:i < vals.size:=by rw [c1] at h'; simpa using h'
   rw [if_pos hl] at h2
   exact c2 i c x h1 (by simpa using h2)
  ·rw [List.getElem?_append_right h',List.getElem?_replicate] at h1
   split at h1
   ·simp only [j8] at h1
    subst h1
    trivial
   ·simp at h1
theorem j76 (hty:p6 P ty) (hrd:∀ t ti,ty t=some ti → RdTy P ty t ti) {b0:Nat} {ts:List TypeId} {vals:Array Value} {ds:List (DataW H)} {ps:List MemPlace} (hA:DataW.TrodAll enc P w 0 sp held ts vals.toList ds ps)
  (hv:∀ (j:Nat) t v,ts[j]? = some t → vals[j]? = some v → Value.okWide P w .any b0 t v) (fi:FI) (hp:(ts.map fun t=>(ty t).map j8w)=fi.pk.map some) (hpl:fi.pk.all PK.plain=true) :
  ∃ (d:List DC) (A:An) (g:Gh),WfL ty (fi.pk.flatMap PK.cts) d ∧ Rel ty A g (pd fi ⟨fi.pk.map Ko,[]⟩ d) { tmps:=vals ++ Array.replicate (fi.ntmps - vals.size) undef,defers:=[] } w ∧
   vals.size=(fi.pk.map Ko).length ∧ A.w0=w ∧ A.m=0 ∧ (∀ b,¬ A.Pv b) ∧ ∀ b,¬ A.Pm b:=by
 obtain ⟨d,F,us,h1,h2,h3,h4⟩:=j3k hty hrd ts fi.pk vals.toList ds ps hA (fun j t v a b=>hv j t v a (by simpa using b)) hp hpl
 obtain ⟨A,g,q⟩:=j29 fi hpl h1 h2 h4
 exact ⟨d,A,g,h3,q⟩
theorem j6P {cfg:Cfg} {G:Glob} (hty:p6 P cfg.ty) (hrd:∀ t ti,cfg.ty t=some ti → RdTy P cfg.ty t ti) (hm:P.follows .mixedOrders=true) (hfn:∀ f fi,cfg.fn f=some fi → FnOk P G cfg.ty f fi) {f:Nat} {fi:FI} (hf:cfg.fn f=some fi)
  (hG:G.ok w ∧ ∀ b,G.gb b → b < w.heap.size) (hrk:fi.rk=[(false,[.ct .b])]) {b0:Nat} {ts:List TypeId} (hp:(ts.map fun t=>(cfg.ty t).map j8w)=fi.pk.map some) (hpl:fi.pk.all PK.plain=true) {vals:Array Value} {ds:List (DataW H)} {ps:List MemPlace}
  (hA:DataW.TrodAll enc P w 0 sp held ts vals.toList ds ps) (hv:∀ (j:Nat) t v,ts[j]? = some t → vals[j]? = some v → Value.okWide P w .any b0 t v)
  (hev:∀ d,WfL cfg.ty (fi.pk.flatMap PK.cts) d → Evt (fun k=>jC cfg k f ⟨fi.pk.map Ko,[]⟩ d) (.ret [.b true])) :
  Calls P f vals w fun e w'=>e = .returned (.bool true) ∧ RowKit.Below w.heap.size w w':=by
 obtain ⟨d,A,g,h1,h2,h3,h4,h5,h6,h7⟩:=j76 hty hrd hA hv fi hp hpl
 obtain ⟨N,hN⟩:=hev d h1
 have hcalls:=K3 hty hm hfn N f fi ⟨fi.pk.map Ko,[]⟩ d [.b true] hf (hN N (Nat.le_refl _)) A g vals w ⟨by rw [h4]; exact hG.1,fun b hb=>⟨by rw [h4]; exact hG.2 b hb,h6 b,h7 b⟩⟩ h2 h3 h4 h5
 refine Calls.mono hcalls fun e w' he=>?_
 cases e with
 | returned rv =>
  obtain ⟨vs,rfl,hres⟩:=he
  obtain ⟨⟨gr,H0,H1,us1,us2,q1,q2,q3,_⟩,hkeep⟩:=hres
  rw [hrk] at q1 q3
  match vs,q1 with
  | [v],⟨u1,u2,z1,z2,z3,z4,z5⟩ =>
   have z5':u2=[]:=z5
   subst z5'
   have:=z4 rfl
   subst this
   rw [List.append_nil] at z1
   subst z1
   have hus2:us2=[]:=q2
   subst hus2
   obtain ⟨⟨dd,y1,y2,y3⟩,_⟩:=q3
   obtain ⟨x,rfl,rfl⟩:=y3
   have:=y2 0 (by simp [RK.k1,CT.k1,K1.cnt])
   simp only [Nat.add_zero,List.getD_cons_zero] at this
   have hx:x=true:=by
    have:DC.b true=DC.b x:=this
    simpa using this.symm
   subst hx
   refine ⟨rfl,⟨by rw [hkeep.os,h4],by rw [hkeep.tape,h4],by rw [hkeep.output,h4],by have:=hkeep.size; rwa [h4] at this,fun b hb=>?_⟩⟩
   have:=hkeep.block b (by rw [h4]; exact hb) (h6 b) (h7 b)
   rwa [h4] at this
  | [],q1=>exact q1.elim
  | _ :: _ :: _,⟨_,_,_,_,_,_,h⟩=>exact h.elim
 | panicked ch=>exact he.elim
 | outgrown=>exact he.elim
end
def j5H (P:Program):Nat → List Go.Field → List CT → Bool
 | _,[],[]=>true
 | off,f :: fs,c :: cs=>f.name != "_" && Nat.beq f.offset off && (match P.underlying f.type,c with
   | some .bool,.b=>true
   | some (.int k),.i k'=>decide (k=k')
   | some .string,.s=>true
   | _,_=>false) && j5H P (off + 1) fs cs
 | _,_,_=>false
theorem j8h {P:Program} {d:Nat} {X Y:Array Value} {w0:World} {g:Gh} {H:List HS} {w:World} {ty:Nat → Option TI}:∀ {fs:List Go.Field} {cs:List CT} {off:Nat} {l m:List S} {xs ys:List Value} {r:Bool},j5H P off fs cs=true →
    kQ ty g H w l xs → kQ ty g H w m ys → xs.length=cs.length → ys.length=cs.length → (∀ i,X[off + i]? = xs[i]?) → (∀ i,Y[off + i]? = ys[i]?) → qS l m=some r → ya cs l=true → ya cs m=true → (Op.eqFields (d + 1) X Y fs).run P w0 = .ok r w0
  | [],[],off,l,m,xs,ys,r,_,hl,hm,h1,h2,_,_,e,_,_=>by
    have hx:xs=[]:=jn (by simpa using h1)
    have hy:ys=[]:=jn (by simpa using h2)
    subst hx
    subst hy
    cases l with
    | cons _ _=>exact hl.elim
    | nil =>
      cases m with
      | cons _ _=>exact hm.elim
      | nil =>
        simp only [qS,j8] at e
        subst e
        simp [Op.eqFields]
  | f :: fs,c :: cs,off,l,m,xs,ys,r,hb,hl,hm,h1,h2,hX,hY,e,f1,f2=>by
    match xs,h1 with
    | x :: xs,h1 =>
     match ys,h2 with
     | y :: ys,h2 =>
      cases l with
      | nil=>exact hl.elim
      | cons s l =>
      cases m with
      | nil=>exact hm.elim
      | cons t m =>
      obtain ⟨sx,hl⟩:=hl
      obtain ⟨sy,hm⟩:=hm
      simp only [j5H,jg] at hb
      obtain ⟨⟨⟨b1,b2⟩,b3⟩,b4⟩:=hb
      have hoff:=Nat.eq_of_beq_eq_true b2
      have hn:f.name ≠ "_":=by simpa using b1
      have gx:X[f.offset]? = some x:=by rw [hoff]; simpa using hX 0
      have gy:Y[f.offset]? = some y:=by rw [hoff]; simpa using hY 0
      have ih:∀ r',qS l m=some r' → ya cs l=true → ya cs m=true → (Op.eqFields (d + 1) X Y fs).run P w0 = .ok r' w0:=fun r' he k1 k2=>j8h b4 hl hm (by simpa using h1) (by simpa using h2)
        (fun i=>by have:=hX (i + 1); rw [show off + 1 + i=off + (i + 1) by omega]; simpa using this) (fun i=>by have:=hY (i + 1); rw [show off + 1 + i=off + (i + 1) by omega]; simpa using this) he k1 k2
      have fin:∀ (bq:Bool) (dsc:TypeDesc),P.underlying f.type=some dsc → Q8 dsc=false → (Op.equalIn (d + 1) f.type x y).run P w0 = .ok bq w0 → (qS l m).map (fun r=>bq && r)=some r → ya cs l=true → ya cs m=true → (Op.eqFields (d + 1) X Y (f :: fs)).run P w0 = .ok r w0:=by
        intro bq dsc hu ha hq he k1 k2
        have part_x:(part f.type X f.offset).run P w0 = .ok x w0:=by
          unfold part
          rw [Sem.run_bind,VN hu,Result.andThen_ok,ha]
          simp [gx]
        have part_y:(part f.type Y f.offset).run P w0 = .ok y w0:=by
          unfold part
          rw [Sem.run_bind,VN hu,Result.andThen_ok,ha]
          simp [gy]
        cases hr:qS l m with
        | none=>rw [hr] at he; simp at he
        | some r' =>
          rw [hr] at he
          simp only [Option.map_some,j8] at he
          subst he
          simp only [Op.eqFields,hn,ne_eq,not_false_eq_true,if_true,Sem.run_bind,part_x,part_y,hq,Result.andThen_ok]
          cases bq with
          | false=>simp
          | true=>simpa using ih r' hr k1 k2
      cases c with
      | b =>
        cases s <;> simp [ya] at f1
        cases t <;> simp [ya] at f2
        rename_i p q
        have ex:x = .bool p:=sx
        have ey:y = .bool q:=sy
        subst ex
        subst ey
        cases hu:P.underlying f.type with
        | none=>rw [hu] at b3; simp at b3
        | some dsc =>
          rw [hu] at b3
          cases dsc <;> simp at b3
          exact fin (p == q) _ hu rfl (run_equalIn_bool' w0 d f.type p q hu) (by simpa [qS] using e) f1 f2
      | i k =>
        cases s <;> simp [ya] at f1
        cases t <;> simp [ya] at f2
        rename_i k1 p k2 q
        obtain ⟨rfl,f1⟩:=f1
        obtain ⟨rfl,f2⟩:=f2
        have ex:x = .int _ p:=sx
        have ey:y = .int _ q:=sy
        subst ex
        subst ey
        cases hu:P.underlying f.type with
        | none=>rw [hu] at b3; simp at b3
        | some dsc =>
          rw [hu] at b3
          cases dsc <;> simp at b3
          subst b3
          exact fin (p == q) _ hu rfl (run_equalIn_int w0 d f.type _ _ p q hu) (by simpa [qS] using e) f1 f2
      | s =>
        cases s <;> simp [ya] at f1
        cases t <;> simp [ya] at f2
        rename_i p q
        have ex:x = .string ⟨p.toArray⟩:=sx
        have ey:y = .string ⟨q.toArray⟩:=sy
        subst ex
        subst ey
        cases hu:P.underlying f.type with
        | none=>rw [hu] at b3; simp at b3
        | some dsc =>
          rw [hu] at b3
          cases dsc <;> simp at b3
          exact fin (p == q) _ hu rfl (by rw [run_equalIn_string w0 d f.type _ _ hu]; simp) (by simpa [qS] using e) f1 f2
      | sl el=>simp [ya] at f1
  | [],_ :: _,_,_,_,_,_,_,h,_,_,_,_,_,_,_,_,_=>by simp [j5H] at h
  | _ :: _,[],_,_,_,_,_,_,h,_,_,_,_,_,_,_,_,_=>by simp [j5H] at h
theorem j8Y {P:Program} {t:Nat} {ti:TI} {fs:Array Go.Field} (hu:P.underlying t=some (.struct fs)) (h1:j5H P 0 fs.toList ti.cts=true) (h2:P.stoodInHeld t=false) (h3:P.eqGuardType P.depth t=false):jbl P t ti:=by
 intro xs ys l m r _ he f1 f2 g H w ty hl hm hx hy x y
 have hf:P.fieldsOf t=fs:=by simp [Program.fieldsOf,hu]
 have hu':P.underlying t=some (.struct (P.fieldsOf t)):=by rw [hf]; exact hu
 have hrun:(Op.equalIn 10000 t (.agg xs.toArray) (.agg ys.toArray)).run P w = .ok r w:=by
  rw [run_equalIn_struct w 9999 t _ _ hu' h2,hf]
  exact j8h (d:=9998) h1 hl hm hx hy (fun i=>by simp) (fun i=>by simp) he f1 f2
 constructor
 ·rw [Sem.run_bind,run_eqGuard_agg w _ _ _ _ _ _ h3,Result.andThen_ok,run_eql_struct,hrun]
  rfl
 ·rw [Sem.run_bind,run_eqGuard_agg w _ _ _ _ _ _ h3,Result.andThen_ok,run_neq_struct,hrun]
  rfl
def j8B:CT → Value → Bool
 | .b,.bool b=>!b
 | .i k,.int k' n=>decide (k'=k) && n == 0
 | .s,.string s=>Nat.beq s.data.size 0
 | .sl _,.slice none n c=>Nat.beq n 0 && Nat.beq c 0
 | _,_=>false
def Z8:List CT → List Value → Bool
 | [],[]=>true
 | c :: cs,v :: vs=>j8B c v && Z8 cs vs
 | _,_=>false
theorem j5O {c:CT} {v:Value} (h:j8B c v=true):v=J5 c:=by
 unfold j8B at h
 split at h
 ·simp at h; simp [h,J5]
 ·simp at h; simp [h.1,h.2,J5]
 ·rename_i s
  have:=Nat.eq_of_beq_eq_true h
  simp only [J5]
  congr 1
  apply ByteArray.ext
  exact Array.eq_empty_of_size_eq_zero this
 ·simp only [jg] at h
  rw [Nat.eq_of_beq_eq_true h.1,Nat.eq_of_beq_eq_true h.2]
  rfl
 ·simp at h
theorem j2t:∀ {cs:List CT} {vs:List Value},Z8 cs vs=true → vs=cs.map J5
 | [],[],_=>rfl
 | c :: cs,v :: vs,h=>by
  simp only [Z8,jg] at h
  rw [jc,← j5O h.1,← j2t h.2]
 | [],_ :: _,h=>by simp [Z8] at h
 | _ :: _,[],h=>by simp [Z8] at h
def j36 (P:Program) (n:Nat):List Go.Field → List (Nat × Nat × Bool) → Bool
 | [],[]=>true
 | f :: fs,x :: xs=>Nat.beq f.offset x.1 && ((P.info? f.type).map (·.size) == some x.2.1) && ((P.underlying f.type).map Q8 == some x.2.2) && Nat.ble (x.1 + x.2.1) n && j36 P n fs xs
 | _,_=>false
theorem j4D {P:Program} {n:Nat}:∀ {fs:List Go.Field} {xs:List (Nat × Nat × Bool)},j36 P n fs xs=true → fs.length=xs.length ∧ ∀ (j:Nat) (f:Go.Field) (x:Nat × Nat × Bool),fs[j]? = some f → xs[j]? = some x → FldOk P n f x
 | [],[],_=>⟨rfl,fun j f x h=>by simp at h⟩
 | f :: fs,x :: xs,h=>by
  simp only [j36,jg,beq_iff_eq] at h
  obtain ⟨⟨⟨⟨h1,h2⟩,h3⟩,h4⟩,h5⟩:=h
  obtain ⟨k1,k2⟩:=j4D h5
  refine ⟨by simp [k1],fun j g y hj hy=>?_⟩
  cases j with
  | zero =>
   simp only [List.getElem?_cons_zero,j8] at hj hy
   subst hj
   subst hy
   refine ⟨Nat.eq_of_beq_eq_true h1,?_,?_,Nat.le_of_ble_eq_true h4⟩
   ·cases hi:P.info? f.type with
    | none=>rw [hi] at h2; simp at h2
    | some inf=>rw [hi] at h2; exact ⟨inf,rfl,by simpa using h2⟩
   ·cases hi:P.underlying f.type with
    | none=>rw [hi] at h3; simp at h3
    | some d=>rw [hi] at h3; exact ⟨d,rfl,by simpa using h3⟩
  | succ j=>exact k2 j g y (by simpa using hj) (by simpa using hy)
 | [],_ :: _,h=>by simp [j36] at h
 | _ :: _,[],h=>by simp [j36] at h
def j86 (ty:Nat → Option TI):Nat → List Go.Field → List CT → Bool
 | _,[],cts=>(match cts with | []=>true | _=>false)
 | off,f :: fs,cts=>Nat.beq f.offset off && match ty f.type with
  | some tf=>CT.sameL (cts.take tf.cts.length) tf.cts && j86 ty (off + tf.cts.length) fs (cts.drop tf.cts.length)
  | none=>false
theorem j69 {ty:Nat → Option TI}:∀ {fs:List Go.Field} {off:Nat} {cts:List CT},j86 ty off fs cts=true → Lay ty off fs cts
 | [],off,cts,h=>by
  simp only [j86] at h
  split at h
  ·rfl
  ·simp at h
 | f :: fs,off,cts,h=>by
  simp only [j86,jg] at h
  refine ⟨Nat.eq_of_beq_eq_true h.1,?_⟩
  have h2:=h.2
  split at h2
  ·rename_i tf htf
   simp only [jg] at h2
   have:=CT.sameL_eq h2.1
   refine ⟨tf,cts.drop tf.cts.length,htf,?_,j69 h2.2⟩
   conv=>lhs; rw [← List.take_append_drop tf.cts.length cts]
   rw [this]
  ·simp at h2
def kdB (P:Program) (ty:Nat → Option TI) (ti:TI):TypeDesc → Bool
 | .bool=>(match ti.kd,ti.cts with | .bool,[.b]=>true | _,_=>false)
 | .int k=>(match ti.kd,ti.cts with | .int k',[.i k'']=>decide (k'=k) && decide (k''=k) | _,_=>false)
 | .string=>(match ti.kd,ti.cts with | .str,[.s]=>true | _,_=>false)
 | .slice e=>(match ti.kd,ti.cts,ty e with | .slice e',[.sl e''],some te=>Nat.beq e' e && Nat.beq e'' e && Nat.blt 0 te.cts.length | _,_,_=>false)
 | .struct fs=>(match ti.kd with | .struct=>true | _=>false) && j36 P ti.cts.length fs.toList ti.flds && j86 ty 0 fs.toList ti.cts
 | _=>false
def tiB (P:Program) (ty:Nat → Option TI) (t:Nat) (ti:TI):Bool :=
 match P.info? t,P.underlying t with
 | some inf,some d=>Nat.beq inf.size ti.cts.length && Nat.beq inf.bytes ti.bytes && (match inf.zero with
   | some z=>Z8 ti.cts z.cells.toList && (jL (some ti) || (match ti.cts with | [c]=>j8B c z | _=>false))
   | none=>false) && kdB P ty ti d && (!ti.eq || (match d with | .struct fs=>j5H P 0 fs.toList ti.cts && !(P.stoodInHeld t) && !(P.eqGuardType P.depth t) | _=>false))
 | _,_=>false
theorem j9y {P:Program} {ty:Nat → Option TI} {t:Nat} {ti:TI} (h:tiB P ty t ti=true):TIok P t ti ∧ RdTy P ty t ti:=by
 unfold tiB at h
 split at h
 ·rename_i inf d hi hd
  rw [jg,jg,jg,jg] at h
  obtain ⟨⟨⟨⟨h1,h2⟩,h3⟩,h4⟩,h5⟩:=h
  have h1:=Nat.eq_of_beq_eq_true h1
  have h2:=Nat.eq_of_beq_eq_true h2
  split at h3
  ·rename_i z hz
   simp only [jg,Bool.or_eq_true] at h3
   have hc:z.cells=(ti.cts.map J5).toArray:=by
    apply Array.toList_inj.1
    simpa using j2t h3.1
   have hk:j44 P ti d ∧ (match some d with
     | some .bool=>ti.cts=[.b]
     | some (.int k)=>ti.cts=[.i k]
     | some .string=>ti.cts=[.s]
     | some (.slice e)=>ti.cts=[.sl e] ∧ ∃ te,ty e=some te ∧ 0 < te.cts.length
     | some (.struct fs)=>Lay ty 0 fs.toList ti.cts
     | _=>False):=by
    unfold kdB at h4
    split at h4
    ·split at h4
     ·rename_i ha hb; exact ⟨⟨ha,hb⟩,hb⟩
     ·simp at h4
    ·split at h4
     ·rename_i ha hb
      simp only [jg,decide_eq_true_eq] at h4
      obtain ⟨rfl,rfl⟩:=h4
      exact ⟨⟨ha,hb⟩,hb⟩
     ·simp at h4
    ·split at h4
     ·rename_i ha hb; exact ⟨⟨ha,hb⟩,hb⟩
     ·simp at h4
    ·split at h4
     ·rename_i ha hb hte
      simp only [jg] at h4
      obtain ⟨⟨k1,k2⟩,k3⟩:=h4
      have k1:=Nat.eq_of_beq_eq_true k1
      have k2:=Nat.eq_of_beq_eq_true k2
      subst k1
      rw [k2] at hb
      exact ⟨⟨ha,hb⟩,hb,_,hte,by simpa [Nat.blt_eq] using k3⟩
     ·simp at h4
    ·simp only [jg] at h4
     obtain ⟨⟨k1,k2⟩,k3⟩:=h4
     obtain ⟨q1,q2⟩:=j4D k2
     split at k1
     ·rename_i ha
      exact ⟨⟨ha,by simpa using q1,fun j f x hj hx=>q2 j f x (by simpa using hj) hx⟩,j69 k3⟩
     ·simp at k1
    ·simp at h4
   refine ⟨⟨⟨inf,z,hi,h1,h2,hz,hc⟩,⟨d,hd,hk.1⟩,fun hs=>⟨inf,hi,?_⟩,?_⟩,⟨by rw [hd]; exact hk.2,by rw [Program.cellsOf,hi]; exact h1⟩⟩
   ·rcases h3.2 with h | h
    ·rw [hs] at h; simp at h
    ·split at h
     ·rename_i c hcc
      rw [hz,hcc,j5O h]
      rfl
     ·simp at h
   ·rw [Bool.or_eq_true] at h5
    rcases h5 with h5 | h5
    ·intro xs ys l m r he
     rw [he] at h5
     simp at h5
    ·split at h5
     ·simp only [jg,Bool.not_eq_true'] at h5
      exact j8Y hd h5.1.1 h5.1.2 h5.2
     ·simp at h5
  ·simp at h3
 ·simp at h
def tyB (P:Program) (l:List (Nat × TI)):Bool:=l.all fun x=>tiB P (fun t=>qd t l) x.1 x.2
theorem Z9 {P:Program} {l:List (Nat × TI)} (h:tyB P l=true):p6 P (fun t=>qd t l) ∧ ∀ t ti,qd t l=some ti → RdTy P (fun t=>qd t l) t ti:=by
 have key:∀ t ti,qd t l=some ti → TIok P t ti ∧ RdTy P (fun t=>qd t l) t ti:=fun t ti ht=>j9y (List.all_eq_true.1 h (t,ti) (Yz ht))
 exact ⟨fun t ti ht=>(key t ti ht).1,fun t ti ht=>(key t ti ht).2⟩
theorem j42 {p:Nat × FI → Prop}:∀ x ∈ ([]:List (Nat × FI)),p x:=fun _ h=>by cases h
theorem all_cons {p:Nat × FI → Prop} {a:Nat × FI} {l:List (Nat × FI)} (h:p a) (hl:∀ x ∈ l,p x):∀ x ∈ a :: l,p x:=fun x hx=>by
 rcases List.mem_cons.1 hx with rfl | hx
 ·exact h
 ·exact hl x hx
theorem j6e {P:Program} {G:Glob} {ty:Nat → Option TI} {l:List (Nat × FI)} (h:∀ x ∈ l,FnOk P G ty x.1 x.2):∀ f fi,qd f l=some fi → FnOk P G ty f fi:=fun f fi hf=>h (f,fi) (Yz hf)
def ZK (g:Nat → Out):Prop:=∀ k,g k = .fail ∨ g (k + 1)=g k
theorem ZK.up {g:Nat → Out} (h:ZK g) {k:Nat} (hk:g k ≠ .fail):∀ n,g (k + n)=g k
 | 0=>rfl
 | n + 1=>by
  have ih:=ZK.up h hk n
  rcases h (k + n) with h1 | h1
  ·rw [ih] at h1; exact absurd h1 hk
  ·rw [← Nat.add_assoc,h1,ih]
theorem ZK.le {g:Nat → Out} (h:ZK g) {k k':Nat} (hk:k ≤ k'):g k = .fail ∨ g k'=g k:=by
 by_cases hf:g k = .fail
 ·exact .inl hf
 ·obtain ⟨n,rfl⟩:=Nat.exists_eq_add_of_le hk
  exact .inr (h.up hf n)
open Classical in
noncomputable def lim (g:Nat → Out):Out:=if h:∃ k,g k ≠ .fail then g (Classical.choose h) else .fail
theorem ZK.lim {g:Nat → Out} (h:ZK g):Evt g (lim g):=by
 unfold QV.lim
 split
 ·rename_i hk
  have:=Classical.choose_spec hk
  refine ⟨Classical.choose hk,fun k hle=>?_⟩
  rcases h.le hle with h1 | h1
  ·exact absurd h1 this
  ·exact h1
 ·rename_i hk
  refine ⟨0,fun k _=>?_⟩
  exact Classical.byContradiction fun hne=>hk ⟨k,hne⟩
theorem Evt.uniq {g:Nat → Out} {o o':Out} (h:Evt g o) (h':Evt g o'):o=o':=by
 obtain ⟨N,h⟩:=h
 obtain ⟨M,h'⟩:=h'
 rw [← h (max N M) (by omega),← h' (max N M) (by omega)]
def kT (g:Nat → Out) (o:Out):Prop:=ZK g ∧ Evt g o
theorem kT.le {g:Nat → Out} {o:Out} (h:kT g o) (k:Nat):g k = .fail ∨ o=g k:=by
 obtain ⟨N,hN⟩:=h.2
 rcases h.1.le (Nat.le_max_left k N) with h1 | h1
 ·exact .inl h1
 ·exact .inr (by rw [← h1,hN _ (by omega)])
theorem kT.const (o:Out):kT (fun _=>o) o:=⟨fun _=>.inr rfl,Evt.const o⟩
def jbk {α:Type} (g:Nat → Option α):Prop:=∀ k,g k=none ∨ g (k + 1)=g k
def j8x {α:Type} (g:Nat → Option α) (o:Option α):Prop:=jbk g ∧ ∃ N,∀ k,N ≤ k → g k=o
theorem j8x.const {α:Type} (o:Option α):j8x (fun _=>o) o:=⟨fun _=>.inr rfl,0,fun _ _=>rfl⟩
theorem kT.via {α:Type} {g:Nat → Option α} {o:Option α} {K:Nat → α → Out} {K':α → Out} (h:j8x g o) (hK:∀ a,kT (fun k=>K k a) (K' a)):kT (fun k=>via .fail (g k) (K k)) (via .fail o K'):=by
 obtain ⟨hm,N,hN⟩:=h
 constructor
 ·intro k
  rcases hm k with h1 | h1
  ·left
   simp [h1,QV.via]
  ·cases hg:g k with
   | none=>left; simp [hg,QV.via]
   | some a =>
    rw [hg] at h1
    simp only [h1,hg,QV.via]
    exact (hK a).1 k
 ·cases o with
  | none=>exact ⟨N,fun k hk=>by simp [hN k hk,QV.via]⟩
  | some a =>
   obtain ⟨M,hM⟩:=(hK a).2
   exact ⟨max N M,fun k hk=>by simp only [hN k (by omega),QV.via]; exact hM k (by omega)⟩
theorem kT.andThen {g:Nat → Out} {o:Out} {K:Nat → List DC → Out} {K':List DC → Out} (h:kT g o) (hK:∀ v,kT (fun k=>K k v) (K' v)):kT (fun k=>(g k).andThen (K k)) (o.andThen K'):=by
 constructor
 ·intro k
  dsimp only
  rcases h.1 k with h1 | h1
  ·left; rw [h1]; rfl
  ·rw [h1]
   cases hg:g k with
   | norm v=>exact (hK v).1 k
   | _=>first | exact .inl rfl | exact .inr rfl
 ·obtain ⟨N,hN⟩:=h.2
  cases o with
  | norm v =>
   obtain ⟨M,hM⟩:=(hK v).2
   exact ⟨max N M,fun k hk=>by dsimp only; rw [hN k (by omega)]; exact hM k (by omega)⟩
  | _=>exact ⟨N,fun k hk=>by dsimp only; rw [hN k hk]; rfl⟩
theorem kT.andThenB {g:Nat → Out} {o:Out} {id:Nat} {K:Nat → List DC → Out} {K':List DC → Out} (h:kT g o) (hK:∀ v,kT (fun k=>K k v) (K' v)):kT (fun k=>(g k).andThenB id (K k)) (o.andThenB id K'):=by
 constructor
 ·intro k
  dsimp only
  rcases h.1 k with h1 | h1
  ·left; rw [h1]; rfl
  ·rw [h1]
   cases hg:g k with
   | norm v=>exact (hK v).1 k
   | ex id' v =>
    simp only [j9]
    by_cases hid:id'=id
    ·simp only [hid,if_true]; exact (hK v).1 k
    ·simp [hid]
   | _=>first | exact .inl rfl | exact .inr rfl
 ·obtain ⟨N,hN⟩:=h.2
  cases o with
  | norm v =>
   obtain ⟨M,hM⟩:=(hK v).2
   exact ⟨max N M,fun k hk=>by dsimp only; rw [hN k (by omega)]; exact hM k (by omega)⟩
  | ex id' v =>
   by_cases hid:id'=id
   ·obtain ⟨M,hM⟩:=(hK v).2
    exact ⟨max N M,fun k hk=>by dsimp only; rw [hN k (by omega)]; simp only [j9,hid,if_true]; exact hM k (by omega)⟩
   ·exact ⟨N,fun k hk=>by dsimp only; rw [hN k hk]; simp [j9,hid]⟩
  | _=>exact ⟨N,fun k hk=>by dsimp only; rw [hN k hk]; rfl⟩
theorem kT.ite {c:Prop} [Decidable c] {g g':Nat → Out} {o o':Out} (h:kT g o) (h':kT g' o'):kT (fun k=>if c then g k else g' k) (if c then o else o'):=by
 by_cases hc:c
 ·simpa [hc] using h
 ·simpa [hc] using h'
theorem Jw (F:List DC → Out):∀ (n:Nat) (v:List DC),jG F n v = .fail ∨ jG F (n + 1) v=jG F n v
 | 0,v=>.inl rfl
 | n + 1,v=>by
  rw [jG,jG]
  cases F v with
  | norm v'=>exact Jw F n v'
  | _=>exact .inr rfl
theorem j1H {F F':List DC → Out} (h:∀ v,F v = .fail ∨ F' v=F v):∀ (n:Nat) (v:List DC),jG F n v = .fail ∨ jG F' n v=jG F n v
 | 0,v=>.inl rfl
 | n + 1,v=>by
  rw [jG,jG]
  rcases h v with h1 | h1
  ·left; rw [h1]; rfl
  ·rw [h1]
   cases F v with
   | norm v'=>exact j1H h n v'
   | _=>exact .inr rfl
noncomputable def jO (F:List DC → Out) (v:List DC):Out:=lim fun n=>jG F n v
theorem Yy (F:List DC → Out) (v:List DC):kT (fun n=>jG F n v) (jO F v):=⟨fun n=>Jw F n v,ZK.lim fun n=>Jw F n v⟩
theorem j43 (F:List DC → Out) (v:List DC):jO F v=(F v).andThen (jO F):=by
 have h1:Evt (fun n=>jG F (n + 1) v) (jO F v):=by
  obtain ⟨N,h⟩:=(Yy F v).2
  exact ⟨N,fun k hk=>h (k + 1) (by omega)⟩
 have h2:Evt (fun n=>jG F (n + 1) v) ((F v).andThen (jO F)):=(kT.andThen (g:=fun _=>F v) (K:=fun n v=>jG F n v) (kT.const _) fun v=>Yy F v).2
 exact h1.uniq h2
theorem kT.loop {F:Nat → List DC → Out} {F':List DC → Out} (h:∀ v,kT (fun k=>F k v) (F' v)) (v:List DC):kT (fun k=>jG (F k) k v) (jO F' v):=by
 constructor
 ·intro k
  dsimp only
  rcases Jw (F k) k v with h1 | h1
  ·exact .inl h1
  ·rcases j1H (F:=F k) (F':=F (k + 1)) (fun v=>(h v).1 k) (k + 1) v with h2 | h2
   ·left; rw [← h1,h2]
   ·right; rw [h2,h1]
 ·have up:∀ (n:Nat) (v:List DC),jG F' n v ≠ .fail → ∃ N,∀ k,N ≤ k → jG (F k) n v=jG F' n v:=by
   intro n
   induction n with
   | zero=>intro v hv; exact absurd rfl hv
   | succ n ih =>
    intro v hv
    obtain ⟨N,hN⟩:=(h v).2
    rw [jG] at hv
    cases hf:F' v with
    | norm v' =>
     rw [hf] at hv
     obtain ⟨M,hM⟩:=ih v' hv
     refine ⟨max N M,fun k hk=>?_⟩
     have hNk:=hN k (by omega)
     dsimp only at hNk
     rw [jG,jG,hNk,hf]
     exact hM k (by omega)
    | _ =>
     refine ⟨N,fun k hk=>?_⟩
     have hNk:=hN k hk
     dsimp only at hNk
     rw [jG,jG,hNk,hf]
     rfl
  obtain ⟨n,hn⟩:=(Yy F' v).2
  by_cases hfail:jO F' v = .fail
  ·rw [hfail]
   refine ⟨0,fun k _=>?_⟩
   rcases j1H (F:=F k) (F':=F') (fun v=>(h v).le k) k v with h1 | h1
   ·exact h1
   ·rcases (Yy F' v).le k with h2 | h2
    ·dsimp only at h2 ⊢; rw [← h1,h2]
    ·dsimp only at h2 ⊢; rw [← h1,← h2,hfail]
  ·have hne:jG F' n v ≠ .fail:=by
    have:=hn n (Nat.le_refl _)
    dsimp only at this
    rw [this]; exact hfail
   obtain ⟨N,hN⟩:=up n v hne
   refine ⟨max N n,fun k hk=>?_⟩
   have h1:=hN k (by omega)
   rcases ZK.le (g:=fun m=>jG (F k) m v) (fun m=>Jw (F k) m v) (show n ≤ k by omega) with h2 | h2
   ·rw [h1] at h2; exact absurd h2 hne
   ·dsimp only at h2 ⊢
    rw [h2,h1]
    exact hn n (Nat.le_refl _)
section
variable {ty:Nat → Option TI} {fn:Nat → Option FI}
theorem j4O (base:Nat) (st:St) (f:Nat) (caps:List Nat) (args:List C):(∃ X,∀ (cl:Nat → Hint → List DC → Out),p8 ty fn cl none base st f caps args (fun H v=>some (H,v))=X) ∨
  ∃ (h:Hint) (v:List DC) (G:List DC → Option (List HS × C)),∀ (cl:Nat → Hint → List DC → Out),p8 ty fn cl none base st f caps args (fun H v=>some (H,v))=match cl f h v with | .ret r=>G r | _=>none:=by
 unfold p8
 cases fn f with
 | none=>exact .inl ⟨_,fun _=>rfl⟩
 | some fi =>
  dsimp only
  cases fi.stf with
  | some m=>exact .inl ⟨_,fun _=>rfl⟩
  | none =>
  dsimp only
  cases fi.mark with
  | some m=>exact .inl ⟨_,fun _=>rfl⟩
  | none =>
  dsimp only
  generalize args ++ caps.map (fun id=>C.one (.ptr id 0))=as
  generalize kF fi.pk as=ids
  cases qo 0 ids.length fi.pk as with
  | none=>exact .inl ⟨_,fun _=>rfl⟩
  | some kcs =>
  cases j0f ty st.H ids with
  | none=>exact .inl ⟨_,fun _=>rfl⟩
  | some kos =>
  dsimp only
  cases yG (kcs.map KC.data) as with
  | none=>exact .inl ⟨_,fun _=>rfl⟩
  | some p =>
  cases Ki st.H ids kos with
  | none=>exact .inl ⟨_,fun _=>rfl⟩
  | some q =>
  dsimp only
  cases kE ty st.H (kcs.flatMap (fun k=>k.data.kinds) ++ kos.flatMap KO.kinds) (p ++ q) with
  | none=>exact .inl ⟨_,fun _=>rfl⟩
  | some vH =>
  obtain ⟨v,H1⟩:=vH
  dsimp only
  split
  ·exact .inr ⟨_,_,_,fun cl=>rfl⟩
  ·exact .inl ⟨_,fun _=>rfl⟩
theorem j4g (base:Nat) (o:Oper) (tm:List C) (H:List HS):(∃ X,∀ (cl:Nat → Hint → List DC → Out),stepV ty fn cl none base o tm H (fun c H v=>some (c,H,v))=X) ∨
  ∃ (f:Nat) (caps:List Nat) (args:List C) (c:Cls),∀ (cl:Nat → Hint → List DC → Out),stepV ty fn cl none base o tm H (fun c H v=>some (c,H,v))=via none (p8 ty fn cl none base ⟨tm,H⟩ f caps args fun H v=>some (H,v)) fun (r:List HS × C)=>some (c,r.1,r.2):=by
 unfold stepV
 cases o.op with
 | call c =>
  dsimp only
  cases c.callee with
  | value f =>
   dsimp only
   cases opd tm f with
   | one s =>
    cases s with
    | fn f caps=>exact .inr ⟨f,caps,_,_,fun cl=>kH (fail:=none) (K:=fun H v=>some (_,H,v))⟩
    | _=>exact .inl ⟨_,fun _=>rfl⟩
   | _=>exact .inl ⟨_,fun _=>rfl⟩
  | _=>exact .inl ⟨_,fun _=>rfl⟩
 | _=>exact .inl ⟨_,fun _=>rfl⟩
theorem kT.stepV {cl:Nat → Nat → Hint → List DC → Out} {cl':Nat → Hint → List DC → Out} (hcl:∀ f h v,kT (fun k=>cl k f h v) (cl' f h v)) {base:Nat} {o:Oper} {tm:List C} {H:List HS} {K:Nat → Cls → List HS → C → Out} {K':Cls → List HS → C → Out}
  (hK:∀ c H v,kT (fun k=>K k c H v) (K' c H v)):kT (fun k=>QV.stepV ty fn (cl k) .fail base o tm H (K k)) (QV.stepV ty fn cl' .fail base o tm H K'):=by
 rw [Kt,show (fun k=>QV.stepV ty fn (cl k) .fail base o tm H (K k))=fun k=>QV.via .fail (QV.stepV ty fn (cl k) none base o tm H fun c H v=>some (c,H,v)) fun (r:Cls × List HS × C)=>K k r.1 r.2.1 r.2.2 from funext fun k=>Kt]
 refine kT.via (K:=fun k (r:Cls × List HS × C)=>K k r.1 r.2.1 r.2.2) ?_ fun r=>hK _ _ _
 rcases j4g (ty:=ty) (fn:=fn) base o tm H with ⟨X,hX⟩ | ⟨f,caps,args,c,hX⟩
 ·simp only [hX]
  exact j8x.const X
 ·simp only [hX]
  rcases j4O (ty:=ty) (fn:=fn) base ⟨tm,H⟩ f caps args with ⟨X,h0⟩ | ⟨h,v,G,h1⟩
  ·simp only [h0]
   exact j8x.const (QV.via none X _)
  ·simp only [h1]
   constructor
   ·intro k
    rcases (hcl f h v).1 k with h2 | h2
    ·dsimp only at h2; left; simp only [h2]; rfl
    ·dsimp only at h2; right; simp only [h2]
   ·obtain ⟨N,hN⟩:=(hcl f h v).2
    exact ⟨N,fun k hk=>by have:=hN k hk; dsimp only at this ⊢; rw [this]⟩
theorem kT.opR {cl:Nat → Nat → Hint → List DC → Out} {cl':Nat → Hint → List DC → Out} (hcl:∀ f h v,kT (fun k=>cl k f h v) (cl' f h v)) {all:Array Oper} {base:Nat} {o:Oper} {st:St} {K:Nat → Cls → St → Out} {K':Cls → St → Out}
  (hK:∀ c st,kT (fun k=>K k c st) (K' c st)):kT (fun k=>QV.opR ty fn (cl k) .fail all base o st (K k)) (QV.opR ty fn cl' .fail all base o st K'):=by
 have hs:∀ st,kT (fun k=>QV.Xk ty fn (cl k) .fail base o st (K k)) (QV.Xk ty fn cl' .fail base o st K'):=fun st=>kT.stepV hcl fun c H v=>hK _ _
 unfold QV.opR
 cases o.guard with
 | none=>exact hs st
 | some g =>
  obtain ⟨j,want⟩:=g
  dsimp only
  cases (all[j]?).bind (·.dst) with
  | none=>exact kT.const _
  | some d =>
   dsimp only
   cases st.tm.getD d (.one .undef) with
   | one s =>
    cases s with
    | bool b =>
     cases b <;> cases want <;> first | exact hs _ | exact hK _ _
    | _=>exact kT.const _
   | tup l =>
    cases l with
    | nil=>exact hK _ _
    | cons _ _=>exact kT.const _
   | _=>exact kT.const _
theorem kT.runR {cl:Nat → Nat → Hint → List DC → Out} {cl':Nat → Hint → List DC → Out} (hcl:∀ f h v,kT (fun k=>cl k f h v) (cl' f h v)) {all:Array Oper} {K:Nat → List Cls → St → Out} {K':List Cls → St → Out}
  (hK:∀ c st,kT (fun k=>K k c st) (K' c st)):∀ (l:List (Oper × Nat)) (acc:List Cls) (st:St),kT (fun k=>QV.runR ty fn (cl k) .fail all l acc st (K k)) (QV.runR ty fn cl' .fail all l acc st K')
 | [],acc,st=>hK _ _
 | (o,base) :: l,acc,st=>kT.opR hcl fun c st'=>kT.runR hcl hK l (c :: acc) st'
def yc (R:Nat → Hint → List DC → Out) (L:(List DC → Out) → List DC → Out) (ty:Nat → Option TI) (fn:Nat → Option FI) (mm:Nat) (rt:St → Out):AC → (Nat → Option Hint) → St → (St → Out) → Out
 | .skip,_,st,K=>K st
 | .region _ ops draw ids none,_,st,K =>
  QV.runR ty fn R Out.fail ops (zJ ops.toList ids) [] st fun cs st' =>
   match draw && !(Jx ops cs) with
   | true=>.fail
   | false=>K st'
 | .region _ ops draw ids (some h),_,st,K =>
  (QV.runR ty fn R Out.fail ops (zJ ops.toList ids) [] st fun cs st' =>
   match draw && !(Jx ops cs) with
   | true=>.fail
   | false=>kP ty mm h st').andThen fun v=>K (zO h v)
 | .rcut _ ops ids segs,_,st,K=>segR ty fn R mm ops segs (zJ ops.toList ids) st K
 | .seq a b,Γ,st,K=>yc R L ty fn mm rt a Γ st fun st'=>yc R L ty fn mm rt b Γ st' K
 | .cond c x y none,Γ,st,K =>
  match opd st.tm c with
  | .one (.bool b)=>if b=true then yc R L ty fn mm rt x Γ st K else yc R L ty fn mm rt y Γ st K
  | _=>.fail
 | .cond c x y (some h),Γ,st,K =>
  match opd st.tm c with
  | .one (.bool b)=>(if b=true then yc R L ty fn mm rt x Γ st (kP ty mm h) else yc R L ty fn mm rt y Γ st (kP ty mm h)).andThen fun v=>K (zO h v)
  | _=>.fail
 | .block id body h,Γ,st,K =>
  (yc R L ty fn mm rt body (fun j=>if j=id then some h else Γ j) st (kP ty mm h)).andThenB id fun v=>K (zO h v)
 | .loop body h,Γ,st,_ =>
  match Yv ty mm h st with
  | some v=>L (fun v=>yc R L ty fn mm rt body Γ (zO h v) (kP ty mm h)) v
  | none=>.fail
 | .exit id,Γ,st,_ =>
  match Γ id with
  | some h =>
   (match Yv ty mm h st with
   | some v=>.ex id v
   | none=>.fail)
  | none=>.fail
 | .ret,_,st,_=>rt st
theorem kT.segR {cl:Nat → Nat → Hint → List DC → Out} {cl':Nat → Hint → List DC → Out} (hcl:∀ f h v,kT (fun k=>cl k f h v) (cl' f h v)) {mm:Nat} {ops:Array Oper} {K:Nat → St → Out} {K':St → Out}
  (hK:∀ st,kT (fun k=>K k st) (K' st)):∀ (segs:List (Nat × Hint)) (l:List (Oper × Nat)) (st:St),kT (fun k=>QV.segR ty fn (cl k) mm ops segs l st (K k)) (QV.segR ty fn cl' mm ops segs l st K')
 | [],l,st=>kT.runR hcl (K:=fun k _ st'=>K k st') (fun _ st'=>hK st') _ _ _
 | (n,h) :: segs,l,st=>kT.andThen (K:=fun k v=>QV.segR ty fn (cl k) mm ops segs (l.drop n) (zO h v) (K k)) (kT.runR hcl (K:=fun _ _ st'=>kP ty mm h st') (fun _ _=>kT.const _) _ _ _) fun v=>kT.segR hcl hK segs _ _
theorem kT.exec {cl:Nat → Nat → Hint → List DC → Out} {cl':Nat → Hint → List DC → Out} (hcl:∀ f h v,kT (fun k=>cl k f h v) (cl' f h v)) {mm:Nat} {rt:St → Out}:∀ (c:AC) (Γ:Nat → Option Hint) (st:St) {K:Nat → St → Out} {K':St → Out},
  (∀ st,kT (fun k=>K k st) (K' st)) → kT (fun k=>QV.exec ty fn (cl k) mm k rt c Γ st (K k)) (yc cl' jO ty fn mm rt c Γ st K')
 | .skip,Γ,st,K,K',hK=>hK st
 | .region id ops draw ids none,Γ,st,K,K',hK=>by
  simp only [QV.exec,yc]
  refine kT.runR hcl (fun cs st'=>?_) _ _ _
  cases draw && !(Jx ops cs) with
  | true=>exact kT.const _
  | false=>exact hK _
 | .region id ops draw ids (some h),Γ,st,K,K',hK=>by
  simp only [QV.exec,yc]
  refine kT.andThen (K:=fun k v=>K k (zO h v)) (kT.runR hcl (K:=fun _ cs st'=>match draw && !(Jx ops cs) with | true=>.fail | false=>kP ty mm h st') (fun cs st'=>kT.const _) _ _ _) fun v=>hK _
 | .rcut id ops ids segs,Γ,st,K,K',hK=>by
  simp only [QV.exec,yc]
  exact kT.segR hcl hK segs _ st
 | .seq a b,Γ,st,K,K',hK=>by
  simp only [QV.exec,yc]
  exact kT.exec hcl a Γ st fun st'=>kT.exec hcl b Γ st' hK
 | .cond c x y none,Γ,st,K,K',hK=>by
  simp only [QV.exec,yc]
  cases opd st.tm c with
  | one s =>
   cases s with
   | bool b=>exact kT.ite (kT.exec hcl x Γ st hK) (kT.exec hcl y Γ st hK)
   | _=>exact kT.const _
  | _=>exact kT.const _
 | .cond c x y (some h),Γ,st,K,K',hK=>by
  simp only [QV.exec,yc]
  cases opd st.tm c with
  | one s =>
   cases s with
   | bool b=>exact kT.andThen (K:=fun k v=>K k (zO h v)) (kT.ite (kT.exec hcl x Γ st fun st=>kT.const _) (kT.exec hcl y Γ st fun st=>kT.const _)) fun v=>hK _
   | _=>exact kT.const _
  | _=>exact kT.const _
 | .block id body h,Γ,st,K,K',hK=>by
  simp only [QV.exec,yc]
  exact kT.andThenB (K:=fun k v=>K k (zO h v)) (kT.exec hcl body _ st fun st=>kT.const _) fun v=>hK _
 | .loop body h,Γ,st,K,K',hK=>by
  simp only [QV.exec,yc]
  cases Yv ty mm h st with
  | none=>exact kT.const _
  | some v=>exact kT.loop (F:=fun k v=>QV.exec ty fn (cl k) mm k rt body Γ (zO h v) (kP ty mm h)) (fun v=>kT.exec hcl body Γ _ fun st=>kT.const _) v
 | .exit id,Γ,st,K,K',hK=>by
  simp only [QV.exec,yc]
  exact kT.const _
 | .ret,Γ,st,K,K',hK=>by
  simp only [QV.exec,yc]
  exact kT.const _
end
noncomputable def pw (cfg:Cfg) (f:Nat) (h:Hint) (v:List DC):Out:=lim fun k=>jC cfg k f h v
def j9q (cfg:Cfg) (R:Nat → Hint → List DC → Out) (L:(List DC → Out) → List DC → Out) (f:Nat) (h:Hint) (v:List DC):Out :=
 match cfg.fn f with
 | none=>.fail
 | some fi =>
  match fi.prim with
  | some p=>(match p h v with | some r=>.ret r | none=>.fail)
  | none=>yc R L cfg.ty cfg.fn (KO.vars h.ob).length (qF cfg.ty fi h) (fi.body h) (fun _=>none) (pd fi h v) (qF cfg.ty fi h)
theorem Qd (cfg:Cfg):∀ (k f:Nat) (h:Hint) (v:List DC),jC cfg k f h v = .fail ∨ jC cfg (k + 1) f h v=jC cfg k f h v
 | 0,f,h,v=>.inl rfl
 | k + 1,f,h,v=>by
  let cl:Nat → Nat → Hint → List DC → Out:=fun j f h v=>if j ≤ k then jC cfg k f h v else jC cfg (k + 1) f h v
  have hcl:∀ f h v,kT (fun j=>cl j f h v) (jC cfg (k + 1) f h v):=by
   intro f h v
   constructor
   ·intro j
    dsimp only [cl]
    by_cases h1:j + 1 ≤ k
    ·rw [if_pos (show j ≤ k by omega),if_pos h1]; exact .inr rfl
    ·by_cases h2:j ≤ k
     ·rw [if_pos h2,if_neg h1]; exact Qd cfg k f h v
     ·rw [if_neg h2,if_neg h1]; exact .inr rfl
   ·exact ⟨k + 1,fun j hj=>by dsimp only [cl]; rw [if_neg (by omega)]⟩
  rw [jC,jC]
  cases cfg.fn f with
  | none=>exact .inl rfl
  | some fi =>
   dsimp only
   cases fi.prim with
   | some p=>exact .inr rfl
   | none =>
    dsimp only
    have:=(kT.exec (ty:=cfg.ty) (fn:=cfg.fn) (mm:=(KO.vars h.ob).length) (rt:=qF cfg.ty fi h) hcl (fi.body h) (fun _=>none) (pd fi h v) (K:=fun _=>qF cfg.ty fi h) (fun st=>kT.const _)).1 k
    have e1:cl k=jC cfg k:=by funext f h v; simp [cl]
    have e2:cl (k + 1)=jC cfg (k + 1):=by funext f h v; simp only [cl]; rw [if_neg (by omega)]
    dsimp only at this
    rw [e1,e2] at this
    exact this
theorem V8 (cfg:Cfg) (f:Nat) (h:Hint) (v:List DC):kT (fun k=>jC cfg k f h v) (pw cfg f h v):=⟨fun k=>Qd cfg k f h v,ZK.lim fun k=>Qd cfg k f h v⟩
theorem jA (cfg:Cfg) (f:Nat) (h:Hint) (v:List DC):pw cfg f h v=j9q cfg (pw cfg) jO f h v:=by
 have h1:Evt (fun k=>jC cfg (k + 1) f h v) (pw cfg f h v):=by
  obtain ⟨N,h⟩:=(V8 cfg f h v).2
  exact ⟨N,fun k hk=>h (k + 1) (by omega)⟩
 refine h1.uniq ?_
 unfold j9q
 cases hf:cfg.fn f with
 | none=>exact (Evt.const _).congr fun k=>by rw [jC,hf]
 | some fi =>
  dsimp only
  cases hp:fi.prim with
  | some p=>exact (Evt.const _).congr fun k=>by rw [jC,hf]; dsimp only; rw [hp]; rfl
  | none =>
   have:=(kT.exec (ty:=cfg.ty) (fn:=cfg.fn) (mm:=(KO.vars h.ob).length) (rt:=qF cfg.ty fi h) (fun f h v=>V8 cfg f h v) (fi.body h) (fun _=>none) (pd fi h v) (K:=fun _=>qF cfg.ty fi h) (fun st=>kT.const _)).2
   exact this.congr fun k=>by rw [jC,hf]; dsimp only; rw [hp]
theorem pw.evt {cfg:Cfg} {f:Nat} {h:Hint} {v:List DC} {o:Out} (hr:pw cfg f h v=o):Evt (fun k=>jC cfg k f h v) o:=by
 rw [← hr]
 exact (V8 cfg f h v).2
def S1 (s:List UInt8):List DC:=[.s s]
mutual
def DC.wt:DC → Nat
 | .s l=>l.length
 | .sl l=>l.length + wtV l
 | _=>0
def kw:List DC → Nat
 | []=>0
 | c :: cs=>c.wt + kw cs
def wtV:List (List DC) → Nat
 | []=>0
 | x :: xs=>kw x + wtV xs
end
mutual
def DC.ok:DC → Prop
 | .s l=>l.length ≤ 9223372036854775807
 | .sl l=>l.length ≤ 9223372036854775807 ∧ okV l
 | _=>True
def okL:List DC → Prop
 | []=>True
 | c :: cs=>c.ok ∧ okL cs
def okV:List (List DC) → Prop
 | []=>True
 | x :: xs=>okL x ∧ okV xs
end
theorem ki:∀ {l:List (List DC)} {x:List DC},x ∈ l → kw x ≤ wtV l
 | [],_,h=>by cases h
 | y :: l,x,hx=>by
  rw [wtV]
  rcases List.mem_cons.1 hx with rfl | hx
  ·omega
  ·have:=ki hx; omega
theorem KX:∀ (l m:List (List DC)),wtV (l ++ m)=wtV l + wtV m
 | [],m=>by simp [wtV]
 | x :: l,m=>by rw [List.cons_append,wtV,wtV,KX l m]; omega
structure TToken where
 kind:Int
 text:List UInt8
 at':Int
def TToken.enc (v:TToken):List DC:=[.i v.kind,.s v.text,.i v.at']
theorem TToken.enc_eq (v:TToken):v.enc=[.i v.kind,.s v.text,.i v.at']:=rfl
structure TFault where
 code:Int
 at':Int
def TFault.enc (v:TFault):List DC:=[.i v.code,.i v.at']
theorem TFault.enc_eq (v:TFault):v.enc=[.i v.code,.i v.at']:=rfl
structure TValue where
 kind:Int
 text:List UInt8
 items:List TValue
 names:List (List UInt8)
theorem TValue.lt {v x:TValue} (h:x ∈ v.items):SizeOf.sizeOf x < SizeOf.sizeOf v:=by
 have h2:=List.sizeOf_lt_of_mem h
 cases v
 simp only [TValue.mk.sizeOf_spec]
 dsimp only at h2
 omega
def TValue.enc (v:TValue):List DC:=[.i v.kind,.s v.text,.sl (v.items.attach.map fun x=>TValue.enc x.1),.sl (v.names.map S1)]
termination_by SizeOf.sizeOf v
decreasing_by exact TValue.lt x.2
theorem TValue.enc_eq (v:TValue):v.enc=[.i v.kind,.s v.text,.sl (v.items.map TValue.enc),.sl (v.names.map S1)]:=by
 rw [TValue.enc]
 simp
theorem TValue.ind {P:TValue → Prop} (h:∀ v:TValue,(∀ x ∈ v.items,P x) → P v) (v:TValue):P v:=h v fun x hx=>TValue.ind h x
termination_by SizeOf.sizeOf v
decreasing_by exact TValue.lt hx
structure TType where
 name:List UInt8
 wraps:List UInt8
def TType.enc (v:TType):List DC:=[.s v.name,.s v.wraps]
theorem TType.enc_eq (v:TType):v.enc=[.s v.name,.s v.wraps]:=rfl
structure TArg where
 name:List UInt8
 value:TValue
def TArg.enc (v:TArg):List DC:=[.s v.name,.i v.value.kind,.s v.value.text,.sl (v.value.items.map TValue.enc),.sl (v.value.names.map S1)]
theorem TArg.enc_eq (v:TArg):v.enc=[.s v.name,.i v.value.kind,.s v.value.text,.sl (v.value.items.map TValue.enc),.sl (v.value.names.map S1)]:=rfl
structure TDir where
 name:List UInt8
 args:List TArg
def TDir.enc (v:TDir):List DC:=[.s v.name,.sl (v.args.map TArg.enc)]
theorem TDir.enc_eq (v:TDir):v.enc=[.s v.name,.sl (v.args.map TArg.enc)]:=rfl
structure TSel where
 kind:Int
 alias:List UInt8
 name:List UInt8
 on':List UInt8
 args:List TArg
 dirs:List TDir
 sels:List TSel
theorem TSel.lt {v x:TSel} (h:x ∈ v.sels):SizeOf.sizeOf x < SizeOf.sizeOf v:=by
 have h2:=List.sizeOf_lt_of_mem h
 cases v
 simp only [TSel.mk.sizeOf_spec]
 dsimp only at h2
 omega
def TSel.enc (v:TSel):List DC:=[.i v.kind,.s v.alias,.s v.name,.s v.on',.sl (v.args.map TArg.enc),.sl (v.dirs.map TDir.enc),.sl (v.sels.attach.map fun x=>TSel.enc x.1)]
termination_by SizeOf.sizeOf v
decreasing_by exact TSel.lt x.2
theorem TSel.enc_eq (v:TSel):v.enc=[.i v.kind,.s v.alias,.s v.name,.s v.on',.sl (v.args.map TArg.enc),.sl (v.dirs.map TDir.enc),.sl (v.sels.map TSel.enc)]:=by
 rw [TSel.enc]
 simp
theorem TSel.ind {P:TSel → Prop} (h:∀ v:TSel,(∀ x ∈ v.sels,P x) → P v) (v:TSel):P v:=h v fun x hx=>TSel.ind h x
termination_by SizeOf.sizeOf v
decreasing_by exact TSel.lt hx
structure TVarDef where
 name:List UInt8
 type':TType
 has':Bool
 default':TValue
 dirs:List TDir
def TVarDef.enc (v:TVarDef):List DC:=[.s v.name,.s v.type'.name,.s v.type'.wraps,.b v.has',.i v.default'.kind,.s v.default'.text,.sl (v.default'.items.map TValue.enc),.sl (v.default'.names.map S1),.sl (v.dirs.map TDir.enc)]
theorem TVarDef.enc_eq (v:TVarDef):v.enc=[.s v.name,.s v.type'.name,.s v.type'.wraps,.b v.has',.i v.default'.kind,.s v.default'.text,.sl (v.default'.items.map TValue.enc),.sl (v.default'.names.map S1),.sl (v.dirs.map TDir.enc)]:=rfl
structure TOp where
 kind:Int
 name:List UInt8
 vars:List TVarDef
 dirs:List TDir
 sels:List TSel
def TOp.enc (v:TOp):List DC:=[.i v.kind,.s v.name,.sl (v.vars.map TVarDef.enc),.sl (v.dirs.map TDir.enc),.sl (v.sels.map TSel.enc)]
theorem TOp.enc_eq (v:TOp):v.enc=[.i v.kind,.s v.name,.sl (v.vars.map TVarDef.enc),.sl (v.dirs.map TDir.enc),.sl (v.sels.map TSel.enc)]:=rfl
structure TFrag where
 name:List UInt8
 on':List UInt8
 dirs:List TDir
 sels:List TSel
def TFrag.enc (v:TFrag):List DC:=[.s v.name,.s v.on',.sl (v.dirs.map TDir.enc),.sl (v.sels.map TSel.enc)]
theorem TFrag.enc_eq (v:TFrag):v.enc=[.s v.name,.s v.on',.sl (v.dirs.map TDir.enc),.sl (v.sels.map TSel.enc)]:=rfl
structure TInDef where
 name:List UInt8
 desc:List UInt8
 type':TType
 has':Bool
 default':TValue
 dirs:List TDir
def TInDef.enc (v:TInDef):List DC:=[.s v.name,.s v.desc,.s v.type'.name,.s v.type'.wraps,.b v.has',.i v.default'.kind,.s v.default'.text,.sl (v.default'.items.map TValue.enc),.sl (v.default'.names.map S1),.sl (v.dirs.map TDir.enc)]
theorem TInDef.enc_eq (v:TInDef):v.enc=[.s v.name,.s v.desc,.s v.type'.name,.s v.type'.wraps,.b v.has',.i v.default'.kind,.s v.default'.text,.sl (v.default'.items.map TValue.enc),.sl (v.default'.names.map S1),.sl (v.dirs.map TDir.enc)]:=rfl
structure TFieldDef where
 name:List UInt8
 desc:List UInt8
 args:List TInDef
 type':TType
 dirs:List TDir
def TFieldDef.enc (v:TFieldDef):List DC:=[.s v.name,.s v.desc,.sl (v.args.map TInDef.enc),.s v.type'.name,.s v.type'.wraps,.sl (v.dirs.map TDir.enc)]
theorem TFieldDef.enc_eq (v:TFieldDef):v.enc=[.s v.name,.s v.desc,.sl (v.args.map TInDef.enc),.s v.type'.name,.s v.type'.wraps,.sl (v.dirs.map TDir.enc)]:=rfl
structure TEnumDef where
 name:List UInt8
 desc:List UInt8
 dirs:List TDir
def TEnumDef.enc (v:TEnumDef):List DC:=[.s v.name,.s v.desc,.sl (v.dirs.map TDir.enc)]
theorem TEnumDef.enc_eq (v:TEnumDef):v.enc=[.s v.name,.s v.desc,.sl (v.dirs.map TDir.enc)]:=rfl
structure TRoot where
 kind:Int
 type':List UInt8
def TRoot.enc (v:TRoot):List DC:=[.i v.kind,.s v.type']
theorem TRoot.enc_eq (v:TRoot):v.enc=[.i v.kind,.s v.type']:=rfl
structure TDef where
 kind:Int
 ext:Bool
 desc:List UInt8
 name:List UInt8
 faces:List (List UInt8)
 fields:List TFieldDef
 inputs:List TInDef
 values:List TEnumDef
 roots:List TRoot
 repeat':Bool
 dirs:List TDir
def TDef.enc (v:TDef):List DC:=[.i v.kind,.b v.ext,.s v.desc,.s v.name,.sl (v.faces.map S1),.sl (v.fields.map TFieldDef.enc),.sl (v.inputs.map TInDef.enc),.sl (v.values.map TEnumDef.enc),.sl (v.roots.map TRoot.enc),.b v.repeat',.sl (v.dirs.map TDir.enc)]
theorem TDef.enc_eq (v:TDef):v.enc=[.i v.kind,.b v.ext,.s v.desc,.s v.name,.sl (v.faces.map S1),.sl (v.fields.map TFieldDef.enc),.sl (v.inputs.map TInDef.enc),.sl (v.values.map TEnumDef.enc),.sl (v.roots.map TRoot.enc),.b v.repeat',.sl (v.dirs.map TDir.enc)]:=rfl
structure TItem where
 kind:Int
 op:TOp
 frag:TFrag
 def':TDef
def TItem.enc (v:TItem):List DC:=[.i v.kind,.i v.op.kind,.s v.op.name,.sl (v.op.vars.map TVarDef.enc),.sl (v.op.dirs.map TDir.enc),.sl (v.op.sels.map TSel.enc),.s v.frag.name,.s v.frag.on',.sl (v.frag.dirs.map TDir.enc),.sl (v.frag.sels.map TSel.enc),.i v.def'.kind,.b v.def'.ext,.s v.def'.desc,.s v.def'.name,.sl (v.def'.faces.map S1),.sl (v.def'.fields.map TFieldDef.enc),.sl (v.def'.inputs.map TInDef.enc),.sl (v.def'.values.map TEnumDef.enc),.sl (v.def'.roots.map TRoot.enc),.b v.def'.repeat',.sl (v.def'.dirs.map TDir.enc)]
theorem TItem.enc_eq (v:TItem):v.enc=[.i v.kind,.i v.op.kind,.s v.op.name,.sl (v.op.vars.map TVarDef.enc),.sl (v.op.dirs.map TDir.enc),.sl (v.op.sels.map TSel.enc),.s v.frag.name,.s v.frag.on',.sl (v.frag.dirs.map TDir.enc),.sl (v.frag.sels.map TSel.enc),.i v.def'.kind,.b v.def'.ext,.s v.def'.desc,.s v.def'.name,.sl (v.def'.faces.map S1),.sl (v.def'.fields.map TFieldDef.enc),.sl (v.def'.inputs.map TInDef.enc),.sl (v.def'.values.map TEnumDef.enc),.sl (v.def'.roots.map TRoot.enc),.b v.def'.repeat',.sl (v.def'.dirs.map TDir.enc)]:=rfl
structure TDoc where
 items:List TItem
def TDoc.enc (v:TDoc):List DC:=[.sl (v.items.map TItem.enc)]
theorem TDoc.enc_eq (v:TDoc):v.enc=[.sl (v.items.map TItem.enc)]:=rfl
structure TSchema where
 types:List TDef
 dirs:List TDef
 roots:List TRoot
def TSchema.enc (v:TSchema):List DC:=[.sl (v.types.map TDef.enc),.sl (v.dirs.map TDef.enc),.sl (v.roots.map TRoot.enc)]
theorem TSchema.enc_eq (v:TSchema):v.enc=[.sl (v.types.map TDef.enc),.sl (v.dirs.map TDef.enc),.sl (v.roots.map TRoot.enc)]:=rfl
structure TJson where
 kind:Int
 text:List UInt8
 items:List TJson
 names:List (List UInt8)
theorem TJson.lt {v x:TJson} (h:x ∈ v.items):SizeOf.sizeOf x < SizeOf.sizeOf v:=by
 have h2:=List.sizeOf_lt_of_mem h
 cases v
 simp only [TJson.mk.sizeOf_spec]
 dsimp only at h2
 omega
def TJson.enc (v:TJson):List DC:=[.i v.kind,.s v.text,.sl (v.items.attach.map fun x=>TJson.enc x.1),.sl (v.names.map S1)]
termination_by SizeOf.sizeOf v
decreasing_by exact TJson.lt x.2
theorem TJson.enc_eq (v:TJson):v.enc=[.i v.kind,.s v.text,.sl (v.items.map TJson.enc),.sl (v.names.map S1)]:=by
 rw [TJson.enc]
 simp
theorem TJson.ind {P:TJson → Prop} (h:∀ v:TJson,(∀ x ∈ v.items,P x) → P v) (v:TJson):P v:=h v fun x hx=>TJson.ind h x
termination_by SizeOf.sizeOf v
decreasing_by exact TJson.lt hx
structure TUse where
 name:List UInt8
 type':TType
 has':Bool
 free:Bool
def TUse.enc (v:TUse):List DC:=[.s v.name,.s v.type'.name,.s v.type'.wraps,.b v.has',.b v.free]
theorem TUse.enc_eq (v:TUse):v.enc=[.s v.name,.s v.type'.name,.s v.type'.wraps,.b v.has',.b v.free]:=rfl
structure TChange where
 code:Int
 name:List UInt8
 part:List UInt8
def TChange.enc (v:TChange):List DC:=[.i v.code,.s v.name,.s v.part]
theorem TChange.enc_eq (v:TChange):v.enc=[.i v.code,.s v.name,.s v.part]:=rfl
structure TProblem where
 code:Int
 name:List UInt8
 part:List UInt8
def TProblem.enc (v:TProblem):List DC:=[.i v.code,.s v.name,.s v.part]
theorem TProblem.enc_eq (v:TProblem):v.enc=[.i v.code,.s v.name,.s v.part]:=rfl
structure TPlace where
 line:Int
 col:Int
def TPlace.enc (v:TPlace):List DC:=[.i v.line,.i v.col]
theorem TPlace.enc_eq (v:TPlace):v.enc=[.i v.line,.i v.col]:=rfl
end Go.Proofs.QV
