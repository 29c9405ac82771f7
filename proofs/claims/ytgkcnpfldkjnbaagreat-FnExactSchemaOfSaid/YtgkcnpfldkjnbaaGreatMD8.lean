import Derived.Test.YtgkcnpfldkjnbaaGreatMD7
import Derived.Shelf.SlSortCmp.KitK
import Derived.Lib.Bytealg
import Derived.Test.YtgkcnpfldkjnbaaGreatProg
import Derived.Sort.WalkB2
import Derived.Sort.WalkB12
import Derived.Deep.LoopGhost
/- slices.SortStableFunc at a row of records of the call's own,compared by the bytes of one of their cells: a contract on the state. -/
namespace Go.Proofs.QV
open Go Go.Sort Go.Lib
open _root_.Bool renaming and_eq_true → jd
open _root_.List renaming getElem_mem → jc, length_cons → jl, append_assoc → jq, flatMap_cons → jf, length_append → jA, eq_nil_of_length_eq_zero → jm, mem_map_of_mem → je
open _root_.Option.some renaming injEq → j8
open _root_.Prod.mk renaming injEq → j9
set_option linter.unusedVariables false
set_option linter.unusedSimpArgs false
set_option linter.unusedSectionVars false
theorem j9H:∀ a b:List UInt8,(compareBytes a b < 0) ↔ a < b
 | [],[]=>by simp [compareBytes]
 | [],b :: t=>by simp [compareBytes]
 | a :: s,[]=>by simp [compareBytes]
 | a :: s,b :: t=>by
  unfold compareBytes
  rw [List.cons_lt_cons_iff]
  by_cases h:a < b
  ·simp [h]
  ·by_cases h2:b < a
   ·have hne:a ≠ b:=fun e=>by subst e; exact h h2
    simp [h,h2,hne]
   ·have he:a=b:=UInt8.le_antisymm (UInt8.not_lt.1 h2) (UInt8.not_lt.1 h)
    rw [if_neg h,if_neg h2,j9H s t]
    simp [he]
section
variable {α:Type} [Inhabited α] (f:α → List UInt8)
theorem VM (x y:α):ltOf (fun x y=>compareBytes (f x) (f y)) x y=decide (f x < f y):=by
 unfold ltOf
 simp only [j9H]
theorem j8g {a b c:List UInt8} (h:a ≤ b) (k:b ≤ c):a ≤ c:=by
 refine List.not_lt.1 fun h2=>?_
 by_cases e:a=b
 ·subst e; exact absurd h2 (List.not_lt.2 k)
 ·have hab:a < b:=Decidable.byContradiction fun h3=>e (List.le_antisymm h (List.not_lt.1 h3))
  exact absurd (List.lt_trans h2 hab) (List.not_lt.2 k)
theorem j7d:SWO (ltOf fun x y:α=>compareBytes (f x) (f y)):=by
 refine ⟨fun x=>?_,fun x y z h k=>?_,fun x y z h k=>?_⟩
 ·rw [VM]; exact decide_eq_false (List.lt_irrefl _)
 ·rw [VM,decide_eq_true_eq] at *
  exact List.lt_trans h k
 ·rw [VM,decide_eq_false_iff_not,List.not_lt] at *
  exact j8g k h
theorem j4e (a b c:α) (h:decide (f a ≤ f b)=true) (k:decide (f b ≤ f c)=true):decide (f a ≤ f c)=true:=by
 rw [decide_eq_true_eq] at *
 exact j8g h k
theorem j0V (a b:α):(decide (f a ≤ f b) || decide (f b ≤ f a))=true:=by
 by_cases k:f a < f b
 ·simp [List.le_of_lt k]
 ·simp [List.not_lt.1 k]
theorem j0W (l:List α):(l.mergeSort fun x y=>decide (f x ≤ f y)).Pairwise fun x y=>ltOf (fun x y=>compareBytes (f x) (f y)) y x=false:=by
 refine (List.pairwise_mergeSort (j4e f) (j0V f) l).imp fun {x y} h=>?_
 rw [VM,decide_eq_false_iff_not,List.not_lt]
 simpa using h
theorem Zk (l:List α) (k:α):flt (ltOf fun x y=>compareBytes (f x) (f y)) k (l.mergeSort fun x y=>decide (f x ≤ f y))=flt (ltOf fun x y=>compareBytes (f x) (f y)) k l:=by
 have hp:∀ x:α,(!ltOf (fun x y:α=>compareBytes (f x) (f y)) x k && !ltOf (fun x y:α=>compareBytes (f x) (f y)) k x)=true → f x=f k:=fun x h=>by
  simp only [VM,jd,Bool.not_eq_true',decide_eq_false_iff_not,List.not_lt] at h
  exact List.le_antisymm h.2 h.1
 unfold flt
 have s1:(l.filter fun x=>!ltOf (fun x y:α=>compareBytes (f x) (f y)) x k && !ltOf (fun x y:α=>compareBytes (f x) (f y)) k x).Sublist (l.mergeSort fun x y=>decide (f x ≤ f y)):=by
  refine List.sublist_mergeSort (j4e f) (j0V f) ?_ List.filter_sublist
  rw [List.pairwise_iff_getElem]
  intro i j hi hj hij
  have h1:=hp _ (List.mem_filter.1 (jc hi)).2
  have h2:=hp _ (List.mem_filter.1 (jc hj)).2
  rw [h1,h2]
  simp [List.le_refl]
 have s2:=s1.filter fun x=>!ltOf (fun x y:α=>compareBytes (f x) (f y)) x k && !ltOf (fun x y:α=>compareBytes (f x) (f y)) k x
 rw [List.filter_filter] at s2
 simp only [Bool.and_self] at s2
 refine (s2.eq_of_length ?_).symm
 exact ((List.mergeSort_perm l _).filter _).length_eq.symm
theorem j35 (d:Array α):(jQ (ltOf fun x y:α=>compareBytes (f x) (f y)) d).toList=d.toList.mergeSort fun x y=>decide (f x ≤ f y) :=
 j0G (j7d f) d (j0W f _) (Zk f _)
theorem j5q (k:α):∀ (m:Nat) (a b:List α),a.length + b.length ≤ m → (a.Pairwise fun x y=>ltOf (fun x y=>compareBytes (f x) (f y)) y x=false) →
  flt (ltOf fun x y=>compareBytes (f x) (f y)) k (List.merge a b fun x y=>decide (f x ≤ f y))=flt (ltOf fun x y=>compareBytes (f x) (f y)) k a ++ flt (ltOf fun x y=>compareBytes (f x) (f y)) k b
 | _,[],b,_,_=>by simp [flt]
 | _,x :: a,[],_,_=>by simp [flt]
 | 0,x :: a,y :: b,h,_=>by simp at h
 | m + 1,x :: a,y :: b,h,ha=>by
  simp only [jl] at h
  obtain ⟨h1,h2⟩:=List.pairwise_cons.1 ha
  rw [List.cons_merge_cons]
  split
  ·have:=j5q k m a (y :: b) (by simp; omega) h2
   rw [show x :: a.merge (y :: b) (fun x y=>decide (f x ≤ f y))=[x] ++ a.merge (y :: b) (fun x y=>decide (f x ≤ f y)) from rfl,yJ,this,show x :: a=[x] ++ a from rfl,yJ,jq]
  ·rename_i hxy
   have:=j5q k m (x :: a) b (by simp; omega) ha
   rw [show y :: (x :: a).merge b (fun x y=>decide (f x ≤ f y))=[y] ++ (x :: a).merge b (fun x y=>decide (f x ≤ f y)) from rfl,yJ,this,show y :: b=[y] ++ b from rfl,yJ,← jq,← jq]
   congr 1
   have hlt:f y < f x:=by
    rw [decide_eq_true_eq] at hxy
    exact Decidable.byContradiction fun h=>hxy (List.not_lt.1 h)
   have hc:=Zo (j7d f) (u:=x :: a) (v:=[y]) (fun p hp q hq=>by
    rw [List.mem_singleton.1 hq,VM,decide_eq_true_eq]
    rcases List.mem_cons.1 hp with e | hp
    ·rw [e]; exact hlt
    ·have h3:=h1 p hp
     rw [VM,decide_eq_false_iff_not,List.not_lt] at h3
     exact Decidable.byContradiction fun h4=>absurd hlt (List.not_lt.2 (j8g h3 (List.not_lt.1 h4)))) k
   simp only [yJ] at hc
   exact hc
theorem jaB (a b:List α) [Inhabited α]:List.merge (a.mergeSort fun x y=>decide (f x ≤ f y)) (b.mergeSort fun x y=>decide (f x ≤ f y)) (fun x y=>decide (f x ≤ f y))=(a ++ b).mergeSort fun x y=>decide (f x ≤ f y):=by
 refine Kz (j7d f) ?_ (j0W f _) fun k=>?_
 ·refine (List.pairwise_merge (j4e f) (j0V f) _ _ (List.pairwise_mergeSort (j4e f) (j0V f) a) (List.pairwise_mergeSort (j4e f) (j0V f) b)).imp fun {x y} h=>?_
  rw [VM,decide_eq_false_iff_not,List.not_lt]
  simpa using h
 ·rw [j5q f k _ _ _ (Nat.le_refl _) (j0W f a),Zk,Zk,Zk,yJ]
end
def nmD (j:Nat) (x:List DC):List UInt8:=(x.getD j d0).ss
def j41 (j:Nat) (l:List (List DC)):List (List DC):=l.mergeSort fun x y=>decide (nmD j x ≤ nmD j y)
def j94 (e cf j:Nat):Nat → List HS → List C → Option (Nat × List HS × C):=fun _ H args =>
 match args with
 | [.one (.own id),.one (.fn f [])] =>
  match jg H id with
  | .live (.row e' l) =>
   match Nat.beq (pV e') e && !(hq e'),Nat.beq f cf with
   | true,true=>some (l.length,jB H id (.live (.row e' (j41 j l))),.tup [])
   | _,_=>none
  | _=>none
 | _=>none
section
variable {P:Program} {ty:Nat → Option TI} {A:An} {g:Gh} {tm:List C} {H:List HS} {a:Act} {w:World}
theorem jaf {cts:List CT}:∀ {l:List (List DC)} {vs:List Value} {F:List Nat},RdV ty w cts l vs F → (∀ b ∈ F,b < w.heap.size) → ∃ zs:List (El ty w cts),zs.map El.d=l ∧ zs.flatMap El.v=vs ∧ zs.flatMap El.F=F
 | _,_,_,.nil _,_=>⟨[],rfl,rfl,rfl⟩
 | _,_,_,.cons _ x l v vs F G h1 h2,h=>by
  obtain ⟨zs,a,b,c⟩:=jaf h2 fun c hc=>h c (by simp [hc])
  exact ⟨⟨v,x,F,h1,fun c hc=>h c (by simp [hc])⟩ :: zs,by simp [a],by simp [b],by simp [c]⟩
theorem j66 {cts:List CT} {w':World}:∀ zs:List (El ty w cts),(∀ z ∈ zs,∀ b ∈ z.F,w'.heap[b]? = w.heap[b]?) → RdV ty w' cts (zs.map El.d) (zs.flatMap El.v) (zs.flatMap El.F)
 | [],_=>.nil _
 | z :: zs,h=>by
  have:=RdV.cons (ty:=ty) (w:=w') cts z.d (zs.map El.d) z.v (zs.flatMap El.v) z.F (zs.flatMap El.F) (z.rd.frame fun b hb=>h z (by simp) b hb) (j66 zs fun y hy=>h y (by simp [hy]))
  simpa using this
theorem j8o {cts:List CT} (zs:List (El ty w cts)):(zs.flatMap El.v).length=zs.length * cts.length:=by
 induction zs with
 | nil=>simp
 | cons z zs ih =>
  have:=(RdL.length z.rd).1
  rw [jf,jA,ih,this,jl,Nat.succ_mul]
  omega
theorem Y6 {cts:List CT} (zs:List (El ty w cts)):(flatK El.v cts.length zs.toArray).toList=zs.flatMap El.v:=by
 apply List.ext_getElem?
 intro t
 by_cases ht:t < zs.length * cts.length
 ·have hk:0 < cts.length:=by
   rcases Nat.eq_zero_or_pos cts.length with h | h
   ·rw [h] at ht; simp at ht
   ·exact h
  have hj:t / cts.length < zs.length:=(Nat.div_lt_iff_lt_mul hk).2 ht
  have hi:t % cts.length < cts.length:=Nat.mod_lt _ hk
  have hs:t < (flatK El.v cts.length zs.toArray).size:=by rw [size_flatK]; simpa using ht
  have h1:=get_flatK El.v cts.length zs.toArray t (by simpa using ht)
  have hz:zs.toArray[t / cts.length]! = zs[t / cts.length]!:=by simp [hj]
  rw [hz] at h1
  have hl:(zs[t / cts.length]!).v.length=cts.length:=(RdL.length (zs[t / cts.length]!).rd).1
  have h2:=j67 zs (t / cts.length) (t % cts.length) ((zs[t / cts.length]!).v[t % cts.length]!) hj (by
   rw [List.getElem?_eq_getElem (by omega)]
   exact congrArg some (getElem!_pos _ _ (by omega)).symm)
  rw [Nat.div_add_mod'] at h2
  rw [h2,Array.getElem?_toList,← h1,Array.getElem?_eq_getElem hs]
  exact congrArg some (getElem!_pos _ t hs).symm
 ·rw [List.getElem?_eq_none (by simp; omega),List.getElem?_eq_none (by rw [j8o]; omega)]
theorem j5b {w:World} {b e k:Nat} {cur F:Array Value} {os:Array Obj} (hb:w.heap[b]? = some (.cells cur e (0,0))) (hn:F.size ≤ cur.size) :
  (grow (putRow id (Sort.ahead w k) b 0 F) os).os=w.os ∧ (grow (putRow id (Sort.ahead w k) b 0 F) os).tape=w.tape ∧ (grow (putRow id (Sort.ahead w k) b 0 F) os).output=w.output ∧ w.heap.size ≤ (grow (putRow id (Sort.ahead w k) b 0 F) os).heap.size ∧
   (∀ c,c < w.heap.size → c ≠ b → (grow (putRow id (Sort.ahead w k) b 0 F) os).heap[c]? = w.heap[c]?) ∧
   ∃ cur',(grow (putRow id (Sort.ahead w k) b 0 F) os).heap[b]? = some (.cells cur' e (0,0)) ∧ cur'.size=cur.size ∧ cur'.toList.take F.size=F.toList:=by
 have hlt:=kU hb
 refine ⟨rfl,rfl,rfl,by simp,fun c hc hne=>?_,putCells id 0 F cur,?_,by simp [putCells],?_⟩
 ·rw [heap_grow_old _ _ (by simpa using hc)]
  simp only [putRow,mapBlock,Array.getElem?_modify,if_neg (fun h:b=c=>hne h.symm)]
  rfl
 ·rw [heap_grow_old _ _ (by simpa using hlt)]
  simp [putRow,mapBlock,Array.getElem?_modify,hb,onCells]
 ·apply List.ext_getElem?
  intro j
  by_cases hj:j < F.size
  ·rw [List.getElem?_take_of_lt hj,Array.getElem?_toList,Array.getElem?_toList,putCells,Array.getElem?_mapIdx,Array.getElem?_eq_getElem (by omega),Array.getElem?_eq_getElem hj]
   simp [hj]
  ·rw [List.getElem?_eq_none (by simp; omega),List.getElem?_eq_none (by simp; omega)]
theorem j14 {w:World} {b e:Nat} {cur F:Array Value} (hb:w.heap[b]? = some (.cells cur e (0,0))) (ht:cur.toList.take F.size=F.toList):Holds id w b 0 F:=by
 intro j hj
 have h1:(cur.toList.take F.size)[j]? = some F[j]:=by rw [ht]; simp [hj]
 rw [List.getElem?_take_of_lt hj,Array.getElem?_toList] at h1
 refine ⟨?_,?_⟩
 ·unfold World.cell?
  simp [hb,h1,hj]
 ·unfold World.frozen?
  simp [hb]
theorem j7A (h:Rel ty A g ⟨tm,H⟩ a w) {id e b cap:Nat} {l l':List (List DC)} {ti:TI} {w':World} {cur':Array Value} {vs':List Value} {F':List Nat} (hr:jg H id = .live (.row e l)) (ht:ty (pV e)=some ti) (h0:0 < ti.cts.length)
  (hv:g.val id = .slice (some ⟨b,0,none⟩) l.length cap) (hn:l.length ≤ cap) (hcap:cap ≤ maxLen) (hl:l'.length=l.length) (os:w'.os=w.os) (tp:w'.tape=w.tape) (out:w'.output=w.output) (hs:w.heap.size ≤ w'.heap.size) (ho:∀ c,c < w.heap.size → c ≠ b → w'.heap[c]? = w.heap[c]?)
  (hb:w'.heap[b]? = some (.cells cur' (pV e) (0,0))) (hcs:cur'.size=cap * ti.cts.length) (htk:cur'.toList.take (l.length * ti.cts.length)=vs') (hrd:RdV ty w' ti.cts l' vs' F') (hle:kg g w' id e F'):Rel ty A g ⟨tm,jB H id (.live (.row e l'))⟩ a w':=by
 have hob:(g.val id).ownBlock=some b:=by rw [hv]; rfl
 have hrb:yg g id e b:=.inl hob
 obtain ⟨_,_,_,_,_,_,_,_,hI⟩:=h.ob id _ hr
 refine (h.upd (g':=g) (jD hr) (by simp) rfl (fun _ _=>⟨rfl,rfl,rfl⟩) (fun _ _=>⟨⟨_,_,.inl hr⟩,rfl⟩) (fun _ hx=>?_) (fun c hcx=>?_) hs (fun _ o ho'=>?_) (fun _ hx=>?_) ?_).1
 ·obtain ⟨t,cs,hx⟩:=hx; simp [jo _ (jD hr)] at hx
 ·rcases hcx with hcx | ⟨i,p,hi,hp,hcx⟩
  ·exact ho c (h.lt c hcx) fun e=>hI b hrb (e ▸ hcx)
  ·exact ho c (h.oblk_lt hp hcx) fun e=>h.sep i id p _ b hi hp hr (e ▸ hcx) hrb
 ·obtain rfl:Obj'.row e l'=o:=by simpa using ho'
  refine ⟨⟨ti,vs',F',ht,h0,?_,.of hrd,hle,hI⟩,fun c hcx=>?_⟩
  ·rw [hv,hl]
   exact ⟨by rw [← hl]; exact hrd.length,.inr ⟨b,cap,cur',rfl,Nat.zero_le _,hb,hn,hcap,hcs,htk⟩⟩
  ·have hcx:yg g id e c:=hcx
   exact ⟨hI c hcx,h.ow id (.row e l) c hr hcx,fun i p hi hp=>h.sep i id p _ c hi hp hr |> fun k hk=>k hk hcx⟩
 ·obtain ⟨t,cs,hx⟩:=hx; simp [jo _ (jD hr)] at hx
 ·exact h.keep.trans os tp out hs fun c hc' hp hm=>by
   by_cases hcb:c=b
   ·subst hcb
    exact absurd (h.ow id (.row e l) c hr hrb) fun k=>by
     rcases k with k | k
     ·omega
     ·exact hm k
   ·exact ho c (Nat.lt_of_lt_of_le hc' h.keep.size) hcb
theorem j2b {H:List HS} {id:Nat} {o:Obj'} (hr:jg H id = .live o):jB H id (.live o)=H:=by
 apply List.ext_getElem?
 intro j
 unfold jB
 rw [List.getElem?_set]
 split
 ·rename_i hj
  subst hj
  have hlt:=jD hr
  rw [if_pos hlt]
  have h2:=hr
  unfold jg at h2
  rw [List.getD_eq_getElem?_getD,List.getElem?_eq_getElem hlt] at h2
  rw [List.getElem?_eq_getElem hlt]
  simpa using h2.symm
 ·rfl
theorem j4b (h:Rel ty A g ⟨tm,H⟩ a w) {id e' b cap n:Nat} {l:List (List DC)} {ti:TI} {F:List Nat} {cur:Array Value} {os:Array Obj} (hr:jg H id = .live (.row e' l)) (k1:ty (pV e')=some ti) (k0:0 < ti.cts.length)
  (hv:g.val id = .slice (some ⟨b,0,none⟩) l.length cap) (hg:w.heap[b]? = some (.cells cur (pV e') (0,0))) (hnc:l.length ≤ cap) (hcm:cap ≤ maxLen) (hcs:cur.size=cap * ti.cts.length) (k4:kg g w id e' F) (k5:∀ b,yg g id e' b → ¬ g.I b)
  (lF:∀ b ∈ F,b < w.heap.size) {zs D:List (El ty w ti.cts)} (z3:zs.flatMap El.F=F) (hzl:zs.length=l.length) (hp:D.Perm zs) :
  Rel ty A g ⟨tm,jB H id (.live (.row e' (D.map El.d)))⟩ a (grow (putRow _root_.id (Sort.ahead w n) b 0 (flatK El.v ti.cts.length D.toArray)) os):=by
 have hdl:D.length=l.length:=by rw [hp.length_eq,hzl]
 have hfs2:(flatK El.v ti.cts.length D.toArray).size=l.length * ti.cts.length:=by rw [size_flatK]; simp [hdl]
 obtain ⟨y1,y2,y3,y4,y5,cur',y6,y7,y8⟩:=j5b (w:=w) (k:=n) (os:=os) (F:=flatK El.v ti.cts.length D.toArray) hg (by rw [hfs2,hcs]; exact Nat.mul_le_mul_right _ hnc)
 rw [hfs2,Y6] at y8
 have hFp:(D.flatMap El.F).Perm F:=by rw [← z3]; exact hp.flatMap_right _
 have hFb:∀ c ∈ F,(grow (putRow _root_.id (Sort.ahead w n) b 0 (flatK El.v ti.cts.length D.toArray)) os).heap[c]? = w.heap[c]?:=fun c hcF=>by
  refine y5 c (lF c hcF) fun e=>?_
  subst e
  have hob:(g.val id).ownBlock=some c:=by rw [hv]; rfl
  unfold kg qk at k4
  split at k4
  ·exact k5 c (.inl hob) (k4 c hcF)
  ·exact k4.2.2 c hcF hob
 have hrd:=j66 (w':=grow (putRow _root_.id (Sort.ahead w n) b 0 (flatK El.v ti.cts.length D.toArray)) os) D fun z hz c hc=>hFb c (hFp.mem_iff.1 (List.mem_flatMap.2 ⟨z,hz,hc⟩))
 have hle:kg g (grow (putRow _root_.id (Sort.ahead w n) b 0 (flatK El.v ti.cts.length D.toArray)) os) id e' (D.flatMap El.F):=by
  unfold kg qk at k4 ⊢
  split at k4
  ·exact fun c hc=>k4 c (hFp.mem_iff.1 hc)
  ·obtain ⟨o1,o2,o3⟩:=k4
   refine ⟨⟨hFp.nodup_iff.2 o1.nodup,fun c hc=>?_⟩,fun c=>(o2 c).trans hFp.mem_iff.symm,fun c hc=>o3 c (hFp.mem_iff.1 hc)⟩
   have hc':=hFp.mem_iff.1 hc
   rw [hFb c hc']
   exact o1.open' c hc'
 exact j7A h hr k1 k0 hv hnc hcm (by rw [List.length_map,hdl]) y1 y2 y3 y4 y5 y6 (by rw [y7,hcs]) y8 hrd hle
theorem j9Y {G:Glob} {f e cf j:Nat} {cts:List CT} (hte:∀ te,ty e=some te → te.cts=cts)
  (hS:∀ (w:World) (blk cap:Nat) (d:Array (El ty w cts)),HoldsK El.v cts.length w blk 0 d → blk < w.heap.size → d.size < kC → Calls P f #[.slice (some ⟨blk,0,none⟩) d.size cap,.func (.func cf) #[] #[]] w fun en w'=>en = .returned (.tuple #[]) ∧ SWK El.v cts.length w blk 0 (jQ (ltOf fun x y=>compareBytes (nmD j x.d) (nmD j y.d)) d) w')
  (hN:∀ (fv:Value) (w:World),Calls P f #[.slice none 0 0,fv] w fun en w'=>en = .returned (.tuple #[]) ∧ w'=w):j6Q P G ty f (j94 e cf j):=by
 intro A g tm H H' a w base n args vals c hA h hlen hcr hq hlim
 unfold j94 at hq
 split at hq
 ·rename_i id f'
  split at hq
  ·rename_i e' l hr
   split at hq
   ·rename_i b1 b2
    rw [jd,Bool.not_eq_true'] at b1
    obtain ⟨b1,hh⟩:=b1
    obtain rfl:=Nat.eq_of_beq_eq_true b1
    obtain rfl:=Nat.eq_of_beq_eq_true b2
    simp only [j8,j9] at hq
    obtain ⟨rfl,rfl,rfl⟩:=hq
    match vals,hlen with
    | [v1,v2],_ =>
     have hv1:=hcr 0 _ v1 rfl rfl
     have hv2:=hcr 1 _ v2 rfl rfl
     have e1:v1=g.val id:=hv1.2.2 ⟨_,_,.inl hr⟩
     obtain ⟨lb,e2,hl2,_⟩:=hv2
     obtain rfl:lb = #[]:=by simpa using hl2
     obtain ⟨ti,vs,F,k1,k0,k2,k3,k4,k5⟩:=h.ob id _ hr
     have k3:=k3.v hh
     have hct:=hte ti k1
     subst hct
     have htup:∀ (g':Gh) (H2:List HS) (w2:World),CR ty g' H2 w2 (.tup []) (.tuple #[]):=fun _ _ _=>⟨[],rfl,rfl,fun i a ss u hi=>by simp at hi⟩
     have lF:∀ b ∈ F,b < w.heap.size:=fun b hb=>by
      rcases k4.all b hb with hb | hb
      ·exact h.lt b hb
      ·exact h.oblk_lt hr hb
     obtain ⟨zs,z1,z2,z3⟩:=jaf k3 lF
     have hzl:zs.length=l.length:=by rw [← z1,List.length_map]
     subst e1 e2
     rcases k2.2 with ⟨hv,hn⟩ | ⟨b,cap,cur,hv,hk,hg,hnc,hcm,hcs,htake⟩
     ·have hl0:l=[]:=jm hn
      subst hl0
      show Calls P f #[g.val id,_] w _
      rw [hv]
      refine Calls.mono (hN _ w) fun en w' hen=>?_
      obtain ⟨rfl,rfl⟩:=hen
      have:j41 j []=[]:=by simp [j41]
      rw [this,j2b hr]
      exact ⟨_,g,rfl,h,fun _ h=>h,htup _ _ _⟩
     ·show Calls P f #[g.val id,.func (.func f') #[] #[]] w _
      rw [hv]
      have hbl:b < w.heap.size:=kU hg
      have hfs:(flatK El.v ti.cts.length zs.toArray).size=l.length * ti.cts.length:=by rw [size_flatK]; simp [hzl]
      have hc:=hS w b cap zs.toArray (j14 hg (by rw [hfs,Y6,z2]; exact htake)) hbl (by simpa [hzl] using hlim)
      rw [show zs.toArray.size=l.length by simpa using hzl] at hc
      refine Calls.mono hc fun en w' hen=>?_
      obtain ⟨rfl,n,os,rfl⟩:=hen
      have hm:=j35 (fun x:El ty w ti.cts=>nmD j x.d) zs.toArray
      generalize hD:jQ (ltOf fun x y:El ty w ti.cts=>compareBytes (nmD j x.d) (nmD j y.d)) zs.toArray=D at hm
      obtain ⟨D⟩:=D
      have hm:D=zs.mergeSort fun x y=>decide (nmD j x.d ≤ nmD j y.d):=hm
      have hp:D.Perm zs:=by rw [hm]; exact List.mergeSort_perm _ _
      have hdd:D.map El.d=j41 j l:=by
       rw [hm,← z1]
       unfold j41
       exact List.map_mergeSort fun x _ y _=>rfl
      have hrel:=j4b (n:=n) (os:=os) h hr k1 k0 hv hg hnc hcm hcs k4 k5 lF z3 hzl hp
      rw [hdd] at hrel
      exact ⟨_,g,rfl,hrel,fun _ h=>h,htup _ _ _⟩
   ·simp at hq
  ·simp at hq
 ·simp at hq
end
end Go.Proofs.QV

namespace Go.Proofs.QV
open Go Go.Sort Go.Lib
open _root_.Bool renaming and_eq_true → jd
open _root_.List renaming getElem_mem → jc, length_cons → jl, append_assoc → jq, flatMap_cons → jf, length_append → jA, eq_nil_of_length_eq_zero → jm, mem_map_of_mem → je
open _root_.Option.some renaming injEq → j8
open _root_.Prod.mk renaming injEq → j9
set_option linter.unusedVariables false
set_option linter.unusedSimpArgs false
set_option linter.unusedSectionVars false
section
variable {α:Type} [Inhabited α] (f:α → Int)
theorem JP (x y:α):ltOf (fun x y=>f x - f y) x y=decide (f x < f y):=by
 unfold ltOf
 by_cases h:f x < f y
 ·rw [decide_eq_true h,decide_eq_true (show f x - f y < 0 by omega)]
 ·rw [decide_eq_false h,decide_eq_false (show ¬ f x - f y < 0 by omega)]
theorem j9V:SWO (ltOf fun x y:α=>f x - f y):=by
 refine ⟨fun x=>?_,fun x y z h k=>?_,fun x y z h k=>?_⟩
 ·rw [JP]; exact decide_eq_false (by omega)
 ·rw [JP,decide_eq_true_eq] at *
  omega
 ·rw [JP,decide_eq_false_iff_not] at *
  omega
theorem j9C (a b c:α) (h:decide (f a ≤ f b)=true) (k:decide (f b ≤ f c)=true):decide (f a ≤ f c)=true:=by
 rw [decide_eq_true_eq] at *
 omega
theorem j86 (a b:α):(decide (f a ≤ f b) || decide (f b ≤ f a))=true:=by
 rw [Bool.or_eq_true,decide_eq_true_eq,decide_eq_true_eq]
 omega
theorem j87 (l:List α):(l.mergeSort fun x y=>decide (f x ≤ f y)).Pairwise fun x y=>ltOf (fun x y=>f x - f y) y x=false:=by
 refine (List.pairwise_mergeSort (j9C f) (j86 f) l).imp fun {x y} h=>?_
 rw [JP,decide_eq_false_iff_not]
 rw [decide_eq_true_eq] at h
 omega
theorem j88 (l:List α) (k:α):flt (ltOf fun x y=>f x - f y) k (l.mergeSort fun x y=>decide (f x ≤ f y))=flt (ltOf fun x y=>f x - f y) k l:=by
 have hp:∀ x:α,(!ltOf (fun x y:α=>f x - f y) x k && !ltOf (fun x y:α=>f x - f y) k x)=true → f x=f k:=fun x h=>by
  simp only [JP,jd,Bool.not_eq_true',decide_eq_false_iff_not] at h
  omega
 unfold flt
 have s1:(l.filter fun x=>!ltOf (fun x y:α=>f x - f y) x k && !ltOf (fun x y:α=>f x - f y) k x).Sublist (l.mergeSort fun x y=>decide (f x ≤ f y)):=by
  refine List.sublist_mergeSort (j9C f) (j86 f) ?_ List.filter_sublist
  rw [List.pairwise_iff_getElem]
  intro i j hi hj hij
  have h1:=hp _ (List.mem_filter.1 (jc hi)).2
  have h2:=hp _ (List.mem_filter.1 (jc hj)).2
  rw [h1,h2]
  simp
 have s2:=s1.filter fun x=>!ltOf (fun x y:α=>f x - f y) x k && !ltOf (fun x y:α=>f x - f y) k x
 rw [List.filter_filter] at s2
 simp only [Bool.and_self] at s2
 refine (s2.eq_of_length ?_).symm
 exact ((List.mergeSort_perm l _).filter _).length_eq.symm
theorem j1D (d:Array α):(jQ (ltOf fun x y:α=>f x - f y) d).toList=d.toList.mergeSort fun x y=>decide (f x ≤ f y) :=
 j0G (j9V f) d (j87 f _) (j88 f _)
end
def nmI (j:Nat) (x:List DC):Int:=(x.getD j d0).ii
def inI (j:Nat) (x:List DC):Bool:=decide (0 ≤ nmI j x) && decide (nmI j x < 4294967296)
theorem j9D {j:Nat} {x:List DC} (h:inI j x=true):0 ≤ nmI j x ∧ nmI j x < 4294967296:=by
 unfold inI at h
 rw [jd,decide_eq_true_eq,decide_eq_true_eq] at h
 exact h
def rgI (j:Nat) (l:List (List DC)):Nat:=l.length + (if l.all (inI j)=true then 0 else kC)
def j40 (j:Nat) (l:List (List DC)):List (List DC):=l.mergeSort fun x y=>decide (nmI j x ≤ nmI j y)
def j95 (e cf j:Nat):Nat → List HS → List C → Option (Nat × List HS × C):=fun _ H args =>
 match args with
 | [.one (.own id),.one (.fn f [])] =>
  match jg H id with
  | .live (.row e' l) =>
   match Nat.beq (pV e') e && !(hq e'),Nat.beq f cf with
   | true,true=>some (rgI j l,jB H id (.live (.row e' (j40 j l))),.tup [])
   | _,_=>none
  | _=>none
 | _=>none
section
variable {P:Program} {ty:Nat → Option TI} {A:An} {g:Gh} {tm:List C} {H:List HS} {a:Act} {w:World}
abbrev ElI (ty:Nat → Option TI) (w:World) (cts:List CT) (j:Nat):={ z:El ty w cts // inI j z.d=true }
theorem j6R (j:Nat) (cts:List CT):inI j (cts.map Ym)=true:=by
 have:nmI j (cts.map Ym)=0:=by
  unfold nmI
  rw [List.getD_eq_getElem?_getD,List.getElem?_map]
  cases h:cts[j]? with
  | none=>rfl
  | some t=>cases t <;> rfl
 unfold inI
 rw [this]
 decide
instance (ty:Nat → Option TI) (w:World) (cts:List CT) (j:Nat):Inhabited (ElI ty w cts j):=⟨⟨⟨_,_,[],zRd ty w cts,fun b hb=>by cases hb⟩,j6R j cts⟩⟩
def ElI.v {cts:List CT} {j:Nat} (z:ElI ty w cts j):List Value:=z.1.v
def ElI.n {cts:List CT} {j:Nat} (z:ElI ty w cts j):Int:=nmI j z.1.d
theorem j4n {cts:List CT} {j:Nat}:∀ zs:List (El ty w cts),(∀ z ∈ zs,inI j z.d=true) → ∃ ys:List (ElI ty w cts j),ys.map Subtype.val=zs
 | [],_=>⟨[],rfl⟩
 | z :: zs,h=>by
  obtain ⟨ys,e⟩:=j4n zs fun y hy=>h y (by simp [hy])
  exact ⟨⟨z,h z (by simp)⟩ :: ys,by simp [e]⟩
theorem j2C {cts:List CT} {j:Nat} (ys:List (ElI ty w cts j)):flatK ElI.v cts.length ys.toArray=flatK El.v cts.length (ys.map Subtype.val).toArray:=by
 apply Array.ext
 ·rw [size_flatK,size_flatK]; simp
 ·intro t h1 h2
  rw [size_flatK] at h1 h2
  have hk:0 < cts.length:=by
   rcases Nat.eq_zero_or_pos cts.length with h | h
   ·rw [h] at h1; simp at h1
   ·exact h
  have hj:t / cts.length < ys.length:=(Nat.div_lt_iff_lt_mul hk).2 (by simpa using h1)
  have e1:=get_flatK ElI.v cts.length ys.toArray t h1
  have e2:=get_flatK El.v cts.length (ys.map Subtype.val).toArray t h2
  rw [getElem!_pos _ t (by rw [size_flatK]; exact h1)] at e1
  rw [getElem!_pos _ t (by rw [size_flatK]; exact h2)] at e2
  rw [e1,e2]
  have q1:ys.toArray[t / cts.length]! = ys[t / cts.length]'hj:=by rw [getElem!_pos _ _ (by simpa using hj)]; rfl
  have q2:(ys.map Subtype.val).toArray[t / cts.length]! = (ys[t / cts.length]'hj).1:=by rw [getElem!_pos _ _ (by simpa using hj)]; simp
  rw [q1,q2]
  rfl
theorem j9X {G:Glob} {f e cf j:Nat} {cts:List CT} (hte:∀ te,ty e=some te → te.cts=cts)
  (hS:∀ (w:World) (blk cap:Nat) (d:Array (ElI ty w cts j)),HoldsK ElI.v cts.length w blk 0 d → blk < w.heap.size → d.size < kC → Calls P f #[.slice (some ⟨blk,0,none⟩) d.size cap,.func (.func cf) #[] #[]] w fun en w'=>en = .returned (.tuple #[]) ∧ SWK ElI.v cts.length w blk 0 (jQ (ltOf fun x y=>ElI.n x - ElI.n y) d) w')
  (hN:∀ (fv:Value) (w:World),Calls P f #[.slice none 0 0,fv] w fun en w'=>en = .returned (.tuple #[]) ∧ w'=w):j6Q P G ty f (j95 e cf j):=by
 intro A g tm H H' a w base n args vals c hA h hlen hcr hq hlim
 unfold j95 at hq
 split at hq
 ·rename_i id f'
  split at hq
  ·rename_i e' l hr
   split at hq
   ·rename_i b1 b2
    rw [jd,Bool.not_eq_true'] at b1
    obtain ⟨b1,hh⟩:=b1
    obtain rfl:=Nat.eq_of_beq_eq_true b1
    obtain rfl:=Nat.eq_of_beq_eq_true b2
    simp only [j8,j9] at hq
    obtain ⟨hn0,rfl,rfl⟩:=hq
    have hlim2:l.length < kC ∧ l.all (inI j)=true:=by
     rw [← hn0] at hlim
     unfold rgI at hlim
     split at hlim
     ·rename_i hall; exact ⟨by omega,hall⟩
     ·omega
    match vals,hlen with
    | [v1,v2],_ =>
     have hv1:=hcr 0 _ v1 rfl rfl
     have hv2:=hcr 1 _ v2 rfl rfl
     have e1:v1=g.val id:=hv1.2.2 ⟨_,_,.inl hr⟩
     obtain ⟨lb,e2,hl2,_⟩:=hv2
     obtain rfl:lb = #[]:=by simpa using hl2
     obtain ⟨ti,vs,F,k1,k0,k2,k3,k4,k5⟩:=h.ob id _ hr
     have k3:=k3.v hh
     have hct:=hte ti k1
     subst hct
     have htup:∀ (g':Gh) (H2:List HS) (w2:World),CR ty g' H2 w2 (.tup []) (.tuple #[]):=fun _ _ _=>⟨[],rfl,rfl,fun i a ss u hi=>by simp at hi⟩
     have lF:∀ b ∈ F,b < w.heap.size:=fun b hb=>by
      rcases k4.all b hb with hb | hb
      ·exact h.lt b hb
      ·exact h.oblk_lt hr hb
     obtain ⟨zs,z1,z2,z3⟩:=jaf k3 lF
     have hzl:zs.length=l.length:=by rw [← z1,List.length_map]
     subst e1 e2
     rcases k2.2 with ⟨hv,hn⟩ | ⟨b,cap,cur,hv,hk,hg,hnc,hcm,hcs,htake⟩
     ·have hl0:l=[]:=jm hn
      subst hl0
      show Calls P f #[g.val id,_] w _
      rw [hv]
      refine Calls.mono (hN _ w) fun en w' hen=>?_
      obtain ⟨rfl,rfl⟩:=hen
      have:j40 j []=[]:=by simp [j40]
      rw [this,j2b hr]
      exact ⟨_,g,rfl,h,fun _ h=>h,htup _ _ _⟩
     ·show Calls P f #[g.val id,.func (.func f') #[] #[]] w _
      rw [hv]
      have hbl:b < w.heap.size:=kU hg
      obtain ⟨ys,hys⟩:=j4n (j:=j) zs fun z hz=>by
       have:=hlim2.2
       rw [List.all_eq_true] at this
       exact this z.d (by rw [← z1]; exact je hz)
      have hyl:ys.length=l.length:=by rw [← hzl,← hys,List.length_map]
      have hfs:(flatK El.v ti.cts.length zs.toArray).size=l.length * ti.cts.length:=by rw [size_flatK]; simp [hzl]
      have hc:=hS w b cap ys.toArray (show Holds _root_.id w b 0 (flatK ElI.v ti.cts.length ys.toArray) by
       rw [j2C,hys]
       exact j14 hg (by rw [hfs,Y6,z2]; exact htake)) hbl (by simpa [hyl] using hlim2.1)
      rw [show ys.toArray.size=l.length by simpa using hyl] at hc
      refine Calls.mono hc fun en w' hen=>?_
      obtain ⟨rfl,n,os,rfl⟩:=hen
      have hm:=j1D (fun x:ElI ty w ti.cts j=>ElI.n x) ys.toArray
      generalize hD:jQ (ltOf fun x y:ElI ty w ti.cts j=>ElI.n x - ElI.n y) ys.toArray=D at hm
      obtain ⟨D⟩:=D
      have hm:D=ys.mergeSort fun x y=>decide (ElI.n x ≤ ElI.n y):=hm
      have hp:(D.map Subtype.val).Perm zs:=by rw [hm,← hys]; exact (List.mergeSort_perm _ _).map _
      have hdd:(D.map Subtype.val).map El.d=j40 j l:=by
       rw [hm,← z1,← hys]
       unfold j40
       rw [List.map_map,List.map_map]
       exact List.map_mergeSort fun x _ y _=>rfl
      have hrel:=j4b (n:=n) (os:=os) h hr k1 k0 hv hg hnc hcm hcs k4 k5 lF z3 hzl hp
      rw [hdd,← j2C] at hrel
      exact ⟨_,g,rfl,hrel,fun _ h=>h,htup _ _ _⟩
   ·simp at hq
  ·simp at hq
 ·simp at hq
end
end Go.Proofs.QV

namespace Go.Proofs
open Go.Shelf Go.RowKit Go.Lib Go.Sort
open _root_.Bool renaming and_eq_true → jd
open _root_.List renaming getElem_mem → jc, length_cons → jl, append_assoc → jq, flatMap_cons → jf, length_append → jA, eq_nil_of_length_eq_zero → jm, mem_map_of_mem → je
open _root_.Option.some renaming injEq → j8
open _root_.Prod.mk renaming injEq → j9
set_option linter.unusedVariables false
variable {α:Type} [Inhabited α]
set_option maxHeartbeats 4000000 in
set_option maxRecDepth 1000000 in
theorem QV.swapRange_calls (k:Nat) (aE:∀ w,(isAgg 50).run Tryz.prog w = .ok true w) (zE:∀ w,(Go.sizeOf 50).run Tryz.prog w = .ok k w) (enc:α → List Value) (g:Nat) (cb:Array Value) (blk off cap a b n:Nat) (d0 d:Array α) (w0 w:World)
  (R:RowK enc k w0 blk off d0) (hs:d0.size=d.size) (S:SWK enc k w0 blk off d w) (hab:a + n ≤ b) (hb:b + n ≤ d.size) (hsz:d.size < 4611686018427387904) :
  Calls Tryz.prog 127 #[.slice (some ⟨blk,off,none⟩) d.size cap,.int .i64 a,.int .i64 b,.int .i64 n,.func (.func g) #[] cb] w fun e w'=>e = .returned (.tuple #[]) ∧ SWK enc k w0 blk off (QV.Vr a b n d) w':=by
 have mixed:Tryz.prog.follows .mixedOrders=true:=by kernel_rfl
 have t0:=Tryz.underlying0; have a0:=Tryz.isAgg0; have z0:=Tryz.sizeOf0; have v0:=Tryz.zeroValue0; have t3:=Tryz.underlying3; have a3:=Tryz.isAgg3; have z3:=Tryz.sizeOf3; have v3:=Tryz.zeroValue3; have t4:=Tryz.underlying4; have a4:=Tryz.isAgg4; have z4:=Tryz.sizeOf4; have v4:=Tryz.zeroValue4; have t22:=Tryz.underlying24; have a22:=Tryz.isAgg24; have z22:=Tryz.sizeOf24; have v22:=Tryz.zeroValue24; have t25:=Tryz.underlying55; have a25:=Tryz.isAgg55; have z25:=Tryz.sizeOf55; have v25:=Tryz.zeroValue55
 have FG:=Tryz.func127
 have FN:Tryz.f127.ntmps=38:=rfl
 have S0:Aside (SWK enc k w0 blk off d w):=S
 clear S
 go_enter FG,FN
 go_wp2
 go_loopg [10] n (fun kx s10 wr=>∃ (i:Nat) (dk:Array α),s10 = .int .i64 i ∧ i ≤ n ∧ n - i ≤ kx ∧ dk.size=d.size ∧ Aside (SWK enc k w0 blk off dk wr) ∧ dk=QV.Vr a b i d)
 case atStart=>exact ⟨0,d,rfl,by omega,by omega,rfl,S0,rfl⟩
 case round =>
  clear S0
  obtain ⟨i,dk,rfl,hin,hkx,hds,S1,heq⟩:=hrel
  by_cases hlt:i < n
  ·have hltz:(i:Int) < (n:Int):=by omega
   go_wp2_with fail
   have ea44:((a:Int) + (i:Int)).toNat=a + i:=by omega
   have pa44:(0:Int) ≤ (a:Int) + (i:Int):=by omega
   have ba44:(a:Int) + (i:Int) < (d.size:Int):=by omega
   have ra44:IntKind.i64.wrap ((a:Int) + (i:Int))=(a:Int) + (i:Int):=by rw [IntKind.wrap_i64]; omega
   have ec44:((b:Int) + (i:Int)).toNat=b + i:=by omega
   have pc44:(0:Int) ≤ (b:Int) + (i:Int):=by omega
   have bc44:(b:Int) + (i:Int) < (d.size:Int):=by omega
   have rc44:IntKind.i64.wrap ((b:Int) + (i:Int))=(b:Int) + (i:Int):=by rw [IntKind.wrap_i64]; omega
   have S2:Aside (SWK enc k w0 blk off (swp dk (a + i) (b + i)) ((wr.drew.setCells blk (off + (a + i) * k) (enc dk[b + i]!)).setCells blk (off + (b + i) * k) (enc dk[a + i]!))):=S1.out.swapped R (a + i) (b + i) (by omega) (by omega)
   have l44a:=S1.out.ld1 R (by omega) Tryz.prog (a + i) (by omega)
   have l44b:=S1.out.ld1 R (by omega) Tryz.prog (b + i) (by omega)
   have s44a:=S1.out.st1 R (by omega) Tryz.prog (a + i) (by omega) dk[b + i]!
   have s44b:=S1.out.st2 R (by omega) Tryz.prog (a + i) (b + i) (by omega) (by omega) dk[b + i]! dk[a + i]!
   have n44a:(enc dk[a + i]!).length=k:=R.hk _
   have n44b:(enc dk[b + i]!).length=k:=R.hk _
   generalize enc dk[a + i]! = cI44 at S2 l44a s44b n44a
   generalize enc dk[b + i]! = cJ44 at S2 l44b s44a s44b n44b
   clear S1
   go_wp2_with fail
   go_big_region_o
   clear l44a l44b s44a s44b
   generalize (wr.drew.setCells blk (off + (a + i) * k) cJ44).setCells blk (off + (b + i) * k) cI44=w2 at S2 ⊢
   go_wp2
   go_roundg (n - (i + 1))
   case measure=>omega
   case rel =>
    exact ⟨i + 1,swp dk (a + i) (b + i),by simp,by omega,Nat.le_refl _,by rw [size_swp]; exact hds,S2,by rw [heq]; rfl⟩
  ·have hltz:¬ (i:Int) < (n:Int):=by omega
   have hi:i=n:=by omega
   go_wp2
   go_end0
   refine ⟨rfl,?_⟩
   subst hi
   rw [← heq]
   exact S1.out
end Go.Proofs

namespace Go.Proofs
open Go.Shelf Go.RowKit Go.Lib Go.Sort
open _root_.Bool renaming and_eq_true → jd
open _root_.List renaming getElem_mem → jc, length_cons → jl, append_assoc → jq, flatMap_cons → jf, length_append → jA, eq_nil_of_length_eq_zero → jm, mem_map_of_mem → je
open _root_.Option.some renaming injEq → j8
open _root_.Prod.mk renaming injEq → j9
variable {α:Type} [Inhabited α]
set_option maxHeartbeats 4000000 in
set_option maxRecDepth 1000000 in
theorem QV.rotate_calls (k:Nat) (aE:∀ w,(isAgg 50).run Tryz.prog w = .ok true w) (zE:∀ w,(Go.sizeOf 50).run Tryz.prog w = .ok k w) (enc:α → List Value) (g:Nat) (cb:Array Value) (blk off cap a m b:Nat) (d0 d:Array α) (w0 w:World)
  (R:RowK enc k w0 blk off d0) (hs:d0.size=d.size) (S:SWK enc k w0 blk off d w) (ham:a < m) (hmb:m < b) (hb:b ≤ d.size) (hsz:d.size < 4611686018427387904) :
  Calls Tryz.prog 116 #[.slice (some ⟨blk,off,none⟩) d.size cap,.int .i64 a,.int .i64 m,.int .i64 b,.func (.func g) #[] cb] w fun e w'=>e = .returned (.tuple #[]) ∧ SWK enc k w0 blk off (QV.rot m (m - a) (b - m) d) w':=by
 have mixed:Tryz.prog.follows .mixedOrders=true:=by kernel_rfl
 have t0:=Tryz.underlying0; have a0:=Tryz.isAgg0; have z0:=Tryz.sizeOf0; have v0:=Tryz.zeroValue0; have t3:=Tryz.underlying3; have a3:=Tryz.isAgg3; have z3:=Tryz.sizeOf3; have v3:=Tryz.zeroValue3; have t4:=Tryz.underlying4; have a4:=Tryz.isAgg4; have z4:=Tryz.sizeOf4; have v4:=Tryz.zeroValue4; have t22:=Tryz.underlying24; have a22:=Tryz.isAgg24; have z22:=Tryz.sizeOf24; have v22:=Tryz.zeroValue24; have t25:=Tryz.underlying55; have a25:=Tryz.isAgg55; have z25:=Tryz.sizeOf55; have v25:=Tryz.zeroValue55
 have FG:=Tryz.func116
 have FN:Tryz.f116.ntmps=58:=rfl
 have E190:∀ args w,(callFunc 127 args).run Tryz.prog w = .ok (.enter 127 args) w:=enters_of Tryz.func127 (by kernel_rfl) rfl
 have S0:Aside (SWK enc k w0 blk off d w):=S
 clear S
 go_enter FG,FN
 go_wp2
 go_loopg [10,11] (b - a) (fun kx s10 s11 wr=>∃ (i j:Nat) (dk:Array α),s10 = .int .i64 i ∧ s11 = .int .i64 j ∧ 0 < i ∧ 0 < j ∧ i ≤ m ∧ m + j ≤ d.size ∧ i + j ≤ kx ∧ dk.size=d.size ∧ Aside (SWK enc k w0 blk off dk wr) ∧ Aside (QV.rot m i j dk=QV.rot m (m - a) (b - m) d))
 case atStart=>exact ⟨m - a,b - m,d,by congr 1; omega,by congr 1; omega,by omega,by omega,by omega,by omega,by omega,rfl,S0,rfl⟩
 case round =>
  clear S0
  obtain ⟨i,j,dk,rfl,rfl,hi,hj,him,hmj,hkx,hds,S1,heq⟩:=hrel
  by_cases hij:i=j
  ·subst hij
   have hc:=QV.swapRange_calls k aE zE enc g cb blk off cap (m - i) m i d0 dk w0 wr R (by omega) S1.out (by omega) (by omega) (by omega)
   rw [hds,show ((m - i:Nat):Int)=(m:Int) - (i:Int) by omega] at hc
   clear S1
   go_wp2_with (go_at_fn 127; refine hc.mono ?_; rintro e w1 ⟨rfl,hw1⟩)
   go_end0
   refine ⟨rfl,?_⟩
   rw [← heq.out,QV.rot,if_pos rfl]
   exact hw1
  ·have hijz:¬ (i:Int)=(j:Int):=by omega
   by_cases hji:j < i
   ·have hjiz:(j:Int) < (i:Int):=by omega
    have hc:=QV.swapRange_calls k aE zE enc g cb blk off cap (m - i) m j d0 dk w0 wr R (by omega) S1.out (by omega) (by omega) (by omega)
    rw [hds,show ((m - i:Nat):Int)=(m:Int) - (i:Int) by omega] at hc
    clear S1
    go_wp2_with (go_at_fn 127; refine hc.mono ?_; rintro e w1 ⟨rfl,hw1⟩)
    go_roundg (i - j + j)
    case measure=>omega
    case rel =>
     refine ⟨i - j,j,QV.Vr (m - i) m j dk,by congr 1; omega,rfl,by omega,hj,by omega,hmj,Nat.le_refl _,by rw [QV.p7]; exact hds,hw1,(show _=_ from ?_)⟩
     rw [← heq.out]
     conv=>rhs; rw [QV.rot]
     rw [if_neg hij,dif_pos ⟨hji,hj⟩]
   ·have hjiz:¬ (j:Int) < (i:Int):=by omega
    have hc:=QV.swapRange_calls k aE zE enc g cb blk off cap (m - i) (m + j - i) i d0 dk w0 wr R (by omega) S1.out (by omega) (by omega) (by omega)
    rw [hds,show ((m - i:Nat):Int)=(m:Int) - (i:Int) by omega,show ((m + j - i:Nat):Int)=(m:Int) + (j:Int) - (i:Int) by omega] at hc
    clear S1
    go_wp2_with (go_at_fn 127; refine hc.mono ?_; rintro e w1 ⟨rfl,hw1⟩)
    go_roundg (i + (j - i))
    case measure=>omega
    case rel =>
     refine ⟨i,j - i,QV.Vr (m - i) (m + j - i) i dk,rfl,by congr 1; omega,hi,by omega,him,by omega,Nat.le_refl _,by rw [QV.p7]; exact hds,hw1,(show _=_ from ?_)⟩
     rw [← heq.out]
     conv=>rhs; rw [QV.rot]
     rw [if_neg hij,dif_neg (by omega),dif_pos ⟨by omega,hi⟩]
end Go.Proofs

namespace Go.Proofs
open Go.Shelf Go.RowKit Go.Lib Go.Sort
open _root_.Bool renaming and_eq_true → jd
open _root_.List renaming getElem_mem → jc, length_cons → jl, append_assoc → jq, flatMap_cons → jf, length_append → jA, eq_nil_of_length_eq_zero → jm, mem_map_of_mem → je
open _root_.Option.some renaming injEq → j8
open _root_.Prod.mk renaming injEq → j9
variable {α:Type} [Inhabited α]
theorem QV.size_rot (m:Nat):∀ (g i j:Nat) (d:Array α),i + j ≤ g → (QV.rot m i j d).size=d.size:=by
 intro g
 induction g with
 | zero =>
  intro i j d h
  rw [QV.rot]
  rw [if_pos (by omega),QV.p7]
 | succ g ih =>
  intro i j d h
  rw [QV.rot]
  by_cases e:i=j
  ·rw [if_pos e,QV.p7]
  ·rw [if_neg e]
   by_cases h1:j < i ∧ 0 < j
   ·rw [dif_pos h1,ih _ _ _ (by omega),QV.p7]
   ·rw [dif_neg h1]
    by_cases h2:i < j ∧ 0 < i
    ·rw [dif_pos h2,ih _ _ _ (by omega),QV.p7]
    ·rw [dif_neg h2]
theorem QV.size_symM (lt:α → α → Bool):∀ (g a m b:Nat) (d:Array α),(QV.kE lt g a m b d).size=d.size:=by
 intro g
 induction g with
 | zero=>intro a m b d; rfl
 | succ g ih =>
  intro a m b d
  rw [QV.kE]
  have hr:∀ s,(QV.qR d a m b s).size=d.size:=fun s=>by
   unfold QV.qR
   split
   ·exact QV.size_rot _ _ _ _ _ (Nat.le_refl _)
   ·rfl
  split
  ·exact QV.VB ..
  ·split
   ·exact QV.VC ..
   ·dsimp only
    split <;> split <;> simp only [ih,hr]
set_option maxHeartbeats 8000000 in
set_option maxRecDepth 1000000 in
theorem QV.symOne_calls (k:Nat) (aE:∀ w,(isAgg 50).run Tryz.prog w = .ok true w) (zE:∀ w,(Go.sizeOf 50).run Tryz.prog w = .ok k w) (enc:α → List Value) (cf:α → α → Int) (g:Nat) (cb:Array Value) (blk off cap a m b:Nat) (d0 d:Array α) (w0 w:World)
  (eg:∀ args w,(callFunc g args).run Tryz.prog w = .ok (.enter g args) w) (hcmp:CmpLays Tryz.prog g cb enc k cf blk off d0.size w0) (R:RowK enc k w0 blk off d0) (hs:d0.size=d.size) (S:SWK enc k w0 blk off d w) (ham:m=a + 1) (hmb:m < b) (hb:b ≤ d.size) (hsz:d.size < 4611686018427387904) :
  Calls Tryz.prog 99 #[.slice (some ⟨blk,off,none⟩) d.size cap,.int .i64 a,.int .i64 m,.int .i64 b,.func (.func g) #[] cb] w fun e w'=>e = .returned (.tuple #[]) ∧ SWK enc k w0 blk off (QV.shR a (QV.bs (fun h=>ltOf cf d[h]! d[a]!) m b - 1 - a) d) w':=by
 have mixed:Tryz.prog.follows .mixedOrders=true:=by kernel_rfl
 have t0:=Tryz.underlying0; have a0:=Tryz.isAgg0; have z0:=Tryz.sizeOf0; have v0:=Tryz.zeroValue0; have t3:=Tryz.underlying3; have a3:=Tryz.isAgg3; have z3:=Tryz.sizeOf3; have v3:=Tryz.zeroValue3; have t4:=Tryz.underlying4; have a4:=Tryz.isAgg4; have z4:=Tryz.sizeOf4; have v4:=Tryz.zeroValue4; have t22:=Tryz.underlying24; have a22:=Tryz.isAgg24; have z22:=Tryz.sizeOf24; have v22:=Tryz.zeroValue24; have t25:=Tryz.underlying55; have a25:=Tryz.isAgg55; have z25:=Tryz.sizeOf55; have v25:=Tryz.zeroValue55
 have t35:=Tryz.underlying159; have a35:=Tryz.isAgg159; have z35:=Tryz.sizeOf159; have v35:=Tryz.zeroValue159
 have u3:=run_underlying Tryz.underlying3; have u4:=run_underlying Tryz.underlying4; have u35:=run_underlying Tryz.underlying159
 have FG:=Tryz.func99
 have FN:Tryz.f99.ntmps=220:=rfl
 have HC:Aside _:=hcmp
 have S0:Aside (SWK enc k w0 blk off d w):=S
 clear S hcmp
 have hb1:((m:Int) - (a:Int) == 1)=true:=by rw [show (m:Int) - (a:Int)=1 by omega]; rfl
 have HAM:Aside (m=a + 1):=ham
 have ham':a < m:=by omega
 clear ham
 go_enter FG,FN
 go_wp2
 go_loopg [10,11] (b - m) (fun kx s10 s11 wr=>∃ (i j:Nat),s10 = .int .i64 i ∧ s11 = .int .i64 j ∧ m ≤ i ∧ i ≤ j ∧ j ≤ b ∧ j - i ≤ kx ∧ Aside (SWK enc k w0 blk off d wr) ∧ Aside (QV.bs (fun h=>ltOf cf d[h]! d[a]!) i j=QV.bs (fun h=>ltOf cf d[h]! d[a]!) m b))
 case atStart=>exact ⟨m,b,rfl,rfl,by omega,by omega,by omega,by omega,S0,rfl⟩
 case round =>
  clear S0
  obtain ⟨i,j,rfl,rfl,hmi,hij,hjb,hkx,S1,heq⟩:=hrel
  by_cases hlt:i < j
  ·have hltz:(i:Int) < (j:Int):=by omega
   have ea38:(((i:Int) + (j:Int)) / 2).toNat=(i + j) / 2:=by omega
   have pa38:(0:Int) ≤ ((i:Int) + (j:Int)) / 2:=by omega
   have ba38:((i:Int) + (j:Int)) / 2 < (d.size:Int):=by omega
   have ra38:IntKind.i64.wrap (((i:Int) + (j:Int)) / 2)=((i:Int) + (j:Int)) / 2:=by rw [IntKind.wrap_i64]; omega
   have ec38:((a:Int)).toNat=a:=by omega
   have pc38:(0:Int) ≤ (a:Int):=by omega
   have bc38:(a:Int) < (d.size:Int):=by omega
   obtain ⟨x38,hx38⟩:∃ x,x=d[(i + j) / 2]!:=⟨_,rfl⟩
   obtain ⟨y38,hy38⟩:∃ x,x=d[a]!:=⟨_,rfl⟩
   have l38a:=S1.out.ld R (by omega) Tryz.prog ((i + j) / 2) (by omega)
   have l38b:=S1.out.ld R (by omega) Tryz.prog a (by omega)
   rw [← hx38] at l38a
   rw [← hy38] at l38b
   have hc38:=S1.out.cmp HC.out (by omega) x38 y38
   cases hlv:ltOf cf d[(i + j) / 2]! d[a]! with
   | true =>
    have hv38:cf x38 y38 < 0:=by rw [hx38,hy38]; exact of_decide_eq_true hlv
    have hd38:decide (cf x38 y38 < 0)=true:=decide_eq_true hv38
    clear hx38 hy38
    go_wp2_with fail
    go_quiet_grown (first | (go_at_fn g; refine Calls.grown_of (hc38 _ _)))
    have S2:Aside (SWK enc k w0 blk off d (grow (wr.drewN nq) osq)):=S1.out.grown nq osq
    clear l38a l38b hc38 S1
    generalize grow (wr.drewN nq) osq=w2 at S2 ⊢
    clear nq osq
    go_wp2
    go_roundg (j - ((i + j) / 2 + 1))
    case measure=>omega
    case rel =>
     refine ⟨(i + j) / 2 + 1,j,by rw [show ((i:Int) + (j:Int)) / 2 + 1=(((i + j) / 2 + 1:Nat):Int) by omega],rfl,by omega,by omega,by omega,Nat.le_refl _,S2,(show _=_ from ?_)⟩
     rw [← heq.out]
     conv=>rhs; rw [QV.bs]
     rw [dif_pos hlt,hlv,if_pos rfl]
   | false =>
    have hv38:¬ cf x38 y38 < 0:=by rw [hx38,hy38]; exact of_decide_eq_false hlv
    have hd38:decide (cf x38 y38 < 0)=false:=decide_eq_false hv38
    clear hx38 hy38
    go_wp2_with fail
    go_quiet_grown (first | (go_at_fn g; refine Calls.grown_of (hc38 _ _)))
    have S2:Aside (SWK enc k w0 blk off d (grow (wr.drewN nq) osq)):=S1.out.grown nq osq
    clear l38a l38b hc38 S1
    generalize grow (wr.drewN nq) osq=w2 at S2 ⊢
    clear nq osq
    go_wp2
    go_roundg ((i + j) / 2 - i)
    case measure=>omega
    case rel =>
     refine ⟨i,(i + j) / 2,rfl,by rw [show ((i:Int) + (j:Int)) / 2=(((i + j) / 2:Nat):Int) by omega],by omega,by omega,by omega,Nat.le_refl _,S2,(show _=_ from ?_)⟩
     rw [← heq.out]
     conv=>rhs; rw [QV.bs]
     rw [dif_pos hlt,hlv,if_neg (by decide)]
  ·have hltz:¬ (i:Int) < (j:Int):=by omega
   obtain rfl:j=i:=by omega
   have hr:Aside (QV.bs (fun h=>ltOf cf d[h]! d[a]!) m b=j):=by
    show _=_
    rw [← heq.out,QV.bs,dif_neg hlt]
   clear heq
   go_wp2
   go_loopg [13] (j - 1 - a) (fun kx s13 wq=>∃ (t:Nat) (dk:Array α),s13 = .int .i64 (a + t:Nat) ∧ t ≤ j - 1 - a ∧ j - 1 - a - t ≤ kx ∧ dk.size=d.size ∧ Aside (SWK enc k w0 blk off dk wq) ∧ Aside (dk=QV.shR a t d))
   case atStart=>exact ⟨0,d,rfl,by omega,by omega,rfl,S1,rfl⟩
   case round =>
    clear S1
    obtain ⟨t,dk,rfl,ht,hkt,hds,S3,hdk⟩:=hrel
    by_cases htl:t < j - 1 - a
    ·have hz:((a + t:Nat):Int) < (j:Int) - 1:=by omega
     go_wp2_with fail
     have ea44:(((a + t:Nat):Int)).toNat=a + t:=by omega
     have pa44:(0:Int) ≤ ((a + t:Nat):Int):=by omega
     have ba44:((a + t:Nat):Int) < (d.size:Int):=by omega
     have ec44:(((a + t:Nat):Int) + 1).toNat=a + t + 1:=by omega
     have pc44:(0:Int) ≤ ((a + t:Nat):Int) + 1:=by omega
     have bc44:((a + t:Nat):Int) + 1 < (d.size:Int):=by omega
     have rc44:IntKind.i64.wrap (((a + t:Nat):Int) + 1)=((a + t:Nat):Int) + 1:=by rw [IntKind.wrap_i64]; omega
     have S2:Aside (SWK enc k w0 blk off (swp dk (a + t) (a + t + 1)) ((wr.drew.setCells blk (off + (a + t) * k) (enc dk[a + t + 1]!)).setCells blk (off + (a + t + 1) * k) (enc dk[a + t]!))):=S3.out.swapped R (a + t) (a + t + 1) (by omega) (by omega)
     have l44a:=S3.out.ld1 R (by omega) Tryz.prog (a + t) (by omega)
     have l44b:=S3.out.ld1 R (by omega) Tryz.prog (a + t + 1) (by omega)
     have s44a:=S3.out.st1 R (by omega) Tryz.prog (a + t) (by omega) dk[a + t + 1]!
     have s44b:=S3.out.st2 R (by omega) Tryz.prog (a + t) (a + t + 1) (by omega) (by omega) dk[a + t + 1]! dk[a + t]!
     have n44a:(enc dk[a + t]!).length=k:=R.hk _
     have n44b:(enc dk[a + t + 1]!).length=k:=R.hk _
     generalize enc dk[a + t]! = cI44 at S2 l44a s44b n44a
     generalize enc dk[a + t + 1]! = cJ44 at S2 l44b s44a s44b n44b
     clear S3
     go_wp2_with fail
     go_big_region_o
     clear l44a l44b s44a s44b
     generalize (wr.drew.setCells blk (off + (a + t) * k) cJ44).setCells blk (off + (a + t + 1) * k) cI44=w2 at S2 ⊢
     go_wp2
     go_roundg (j - 1 - a - (t + 1))
     case measure=>omega
     case rel=>exact ⟨t + 1,swp dk (a + t) (a + t + 1),by first | rfl | (congr 1; omega),by omega,Nat.le_refl _,by rw [size_swp]; exact hds,S2,by rw [hdk.out]; rfl⟩
    ·have hz:¬ ((a + t:Nat):Int) < (j:Int) - 1:=by omega
     obtain rfl:t=j - 1 - a:=by omega
     go_wp2
     (try simp only [Exit.inBlock,Exit.then]); refine bodyPost_ret (results_none rfl _ _ _) rfl ?_
     refine ⟨rfl,?_⟩
     rw [hr.out,← hdk.out]
     exact S3.out
end Go.Proofs

namespace Go.Proofs
open Go.Shelf Go.RowKit Go.Lib Go.Sort
open _root_.Bool renaming and_eq_true → jd
open _root_.List renaming getElem_mem → jc, length_cons → jl, append_assoc → jq, flatMap_cons → jf, length_append → jA, eq_nil_of_length_eq_zero → jm, mem_map_of_mem → je
open _root_.Option.some renaming injEq → j8
open _root_.Prod.mk renaming injEq → j9
variable {α:Type} [Inhabited α]
set_option maxHeartbeats 4000000 in
set_option maxRecDepth 1000000 in
theorem QV.swapRangeR_calls (k:Nat) (aE:∀ w,(isAgg 68).run Tryz.prog w = .ok true w) (zE:∀ w,(Go.sizeOf 68).run Tryz.prog w = .ok k w) (enc:α → List Value) (g:Nat) (cb:Array Value) (blk off cap a b n:Nat) (d0 d:Array α) (w0 w:World)
  (R:RowK enc k w0 blk off d0) (hs:d0.size=d.size) (S:SWK enc k w0 blk off d w) (hab:a + n ≤ b) (hb:b + n ≤ d.size) (hsz:d.size < 4611686018427387904) :
  Calls Tryz.prog 131 #[.slice (some ⟨blk,off,none⟩) d.size cap,.int .i64 a,.int .i64 b,.int .i64 n,.func (.func g) #[] cb] w fun e w'=>e = .returned (.tuple #[]) ∧ SWK enc k w0 blk off (QV.Vr a b n d) w':=by
 have mixed:Tryz.prog.follows .mixedOrders=true:=by kernel_rfl
 have t0:=Tryz.underlying0; have a0:=Tryz.isAgg0; have z0:=Tryz.sizeOf0; have v0:=Tryz.zeroValue0; have t3:=Tryz.underlying3; have a3:=Tryz.isAgg3; have z3:=Tryz.sizeOf3; have v3:=Tryz.zeroValue3; have t4:=Tryz.underlying4; have a4:=Tryz.isAgg4; have z4:=Tryz.sizeOf4; have v4:=Tryz.zeroValue4; have t22:=Tryz.underlying30; have a22:=Tryz.isAgg30; have z22:=Tryz.sizeOf30; have v22:=Tryz.zeroValue30; have t25:=Tryz.underlying113; have a25:=Tryz.isAgg113; have z25:=Tryz.sizeOf113; have v25:=Tryz.zeroValue113
 have FG:=Tryz.func131
 have FN:Tryz.f131.ntmps=38:=rfl
 have S0:Aside (SWK enc k w0 blk off d w):=S
 clear S
 go_enter FG,FN
 go_wp2
 go_loopg [10] n (fun kx s10 wr=>∃ (i:Nat) (dk:Array α),s10 = .int .i64 i ∧ i ≤ n ∧ n - i ≤ kx ∧ dk.size=d.size ∧ Aside (SWK enc k w0 blk off dk wr) ∧ dk=QV.Vr a b i d)
 case atStart=>exact ⟨0,d,rfl,by omega,by omega,rfl,S0,rfl⟩
 case round =>
  clear S0
  obtain ⟨i,dk,rfl,hin,hkx,hds,S1,heq⟩:=hrel
  by_cases hlt:i < n
  ·have hltz:(i:Int) < (n:Int):=by omega
   go_wp2_with fail
   have ea44:((a:Int) + (i:Int)).toNat=a + i:=by omega
   have pa44:(0:Int) ≤ (a:Int) + (i:Int):=by omega
   have ba44:(a:Int) + (i:Int) < (d.size:Int):=by omega
   have ra44:IntKind.i64.wrap ((a:Int) + (i:Int))=(a:Int) + (i:Int):=by rw [IntKind.wrap_i64]; omega
   have ec44:((b:Int) + (i:Int)).toNat=b + i:=by omega
   have pc44:(0:Int) ≤ (b:Int) + (i:Int):=by omega
   have bc44:(b:Int) + (i:Int) < (d.size:Int):=by omega
   have rc44:IntKind.i64.wrap ((b:Int) + (i:Int))=(b:Int) + (i:Int):=by rw [IntKind.wrap_i64]; omega
   have S2:Aside (SWK enc k w0 blk off (swp dk (a + i) (b + i)) ((wr.drew.setCells blk (off + (a + i) * k) (enc dk[b + i]!)).setCells blk (off + (b + i) * k) (enc dk[a + i]!))):=S1.out.swapped R (a + i) (b + i) (by omega) (by omega)
   have l44a:=S1.out.ld1 R (by omega) Tryz.prog (a + i) (by omega)
   have l44b:=S1.out.ld1 R (by omega) Tryz.prog (b + i) (by omega)
   have s44a:=S1.out.st1 R (by omega) Tryz.prog (a + i) (by omega) dk[b + i]!
   have s44b:=S1.out.st2 R (by omega) Tryz.prog (a + i) (b + i) (by omega) (by omega) dk[b + i]! dk[a + i]!
   have n44a:(enc dk[a + i]!).length=k:=R.hk _
   have n44b:(enc dk[b + i]!).length=k:=R.hk _
   generalize enc dk[a + i]! = cI44 at S2 l44a s44b n44a
   generalize enc dk[b + i]! = cJ44 at S2 l44b s44a s44b n44b
   clear S1
   go_wp2_with fail
   go_big_region_o
   clear l44a l44b s44a s44b
   generalize (wr.drew.setCells blk (off + (a + i) * k) cJ44).setCells blk (off + (b + i) * k) cI44=w2 at S2 ⊢
   go_wp2
   go_roundg (n - (i + 1))
   case measure=>omega
   case rel =>
    exact ⟨i + 1,swp dk (a + i) (b + i),by simp,by omega,Nat.le_refl _,by rw [size_swp]; exact hds,S2,by rw [heq]; rfl⟩
  ·have hltz:¬ (i:Int) < (n:Int):=by omega
   have hi:i=n:=by omega
   go_wp2
   go_end0
   refine ⟨rfl,?_⟩
   subst hi
   rw [← heq]
   exact S1.out
end Go.Proofs

namespace Go.Proofs
open Go.Shelf Go.RowKit Go.Lib Go.Sort
open _root_.Bool renaming and_eq_true → jd
open _root_.List renaming getElem_mem → jc, length_cons → jl, append_assoc → jq, flatMap_cons → jf, length_append → jA, eq_nil_of_length_eq_zero → jm, mem_map_of_mem → je
open _root_.Option.some renaming injEq → j8
open _root_.Prod.mk renaming injEq → j9
variable {α:Type} [Inhabited α]
set_option maxHeartbeats 4000000 in
set_option maxRecDepth 1000000 in
theorem QV.rotateR_calls (k:Nat) (aE:∀ w,(isAgg 68).run Tryz.prog w = .ok true w) (zE:∀ w,(Go.sizeOf 68).run Tryz.prog w = .ok k w) (enc:α → List Value) (g:Nat) (cb:Array Value) (blk off cap a m b:Nat) (d0 d:Array α) (w0 w:World)
  (R:RowK enc k w0 blk off d0) (hs:d0.size=d.size) (S:SWK enc k w0 blk off d w) (ham:a < m) (hmb:m < b) (hb:b ≤ d.size) (hsz:d.size < 4611686018427387904) :
  Calls Tryz.prog 130 #[.slice (some ⟨blk,off,none⟩) d.size cap,.int .i64 a,.int .i64 m,.int .i64 b,.func (.func g) #[] cb] w fun e w'=>e = .returned (.tuple #[]) ∧ SWK enc k w0 blk off (QV.rot m (m - a) (b - m) d) w':=by
 have mixed:Tryz.prog.follows .mixedOrders=true:=by kernel_rfl
 have t0:=Tryz.underlying0; have a0:=Tryz.isAgg0; have z0:=Tryz.sizeOf0; have v0:=Tryz.zeroValue0; have t3:=Tryz.underlying3; have a3:=Tryz.isAgg3; have z3:=Tryz.sizeOf3; have v3:=Tryz.zeroValue3; have t4:=Tryz.underlying4; have a4:=Tryz.isAgg4; have z4:=Tryz.sizeOf4; have v4:=Tryz.zeroValue4; have t22:=Tryz.underlying30; have a22:=Tryz.isAgg30; have z22:=Tryz.sizeOf30; have v22:=Tryz.zeroValue30; have t25:=Tryz.underlying113; have a25:=Tryz.isAgg113; have z25:=Tryz.sizeOf113; have v25:=Tryz.zeroValue113
 have FG:=Tryz.func130
 have FN:Tryz.f130.ntmps=58:=rfl
 have E190:∀ args w,(callFunc 131 args).run Tryz.prog w = .ok (.enter 131 args) w:=enters_of Tryz.func131 (by kernel_rfl) rfl
 have S0:Aside (SWK enc k w0 blk off d w):=S
 clear S
 go_enter FG,FN
 go_wp2
 go_loopg [10,11] (b - a) (fun kx s10 s11 wr=>∃ (i j:Nat) (dk:Array α),s10 = .int .i64 i ∧ s11 = .int .i64 j ∧ 0 < i ∧ 0 < j ∧ i ≤ m ∧ m + j ≤ d.size ∧ i + j ≤ kx ∧ dk.size=d.size ∧ Aside (SWK enc k w0 blk off dk wr) ∧ Aside (QV.rot m i j dk=QV.rot m (m - a) (b - m) d))
 case atStart=>exact ⟨m - a,b - m,d,by congr 1; omega,by congr 1; omega,by omega,by omega,by omega,by omega,by omega,rfl,S0,rfl⟩
 case round =>
  clear S0
  obtain ⟨i,j,dk,rfl,rfl,hi,hj,him,hmj,hkx,hds,S1,heq⟩:=hrel
  by_cases hij:i=j
  ·subst hij
   have hc:=QV.swapRangeR_calls k aE zE enc g cb blk off cap (m - i) m i d0 dk w0 wr R (by omega) S1.out (by omega) (by omega) (by omega)
   rw [hds,show ((m - i:Nat):Int)=(m:Int) - (i:Int) by omega] at hc
   clear S1
   go_wp2_with (go_at_fn 131; refine hc.mono ?_; rintro e w1 ⟨rfl,hw1⟩)
   go_end0
   refine ⟨rfl,?_⟩
   rw [← heq.out,QV.rot,if_pos rfl]
   exact hw1
  ·have hijz:¬ (i:Int)=(j:Int):=by omega
   by_cases hji:j < i
   ·have hjiz:(j:Int) < (i:Int):=by omega
    have hc:=QV.swapRangeR_calls k aE zE enc g cb blk off cap (m - i) m j d0 dk w0 wr R (by omega) S1.out (by omega) (by omega) (by omega)
    rw [hds,show ((m - i:Nat):Int)=(m:Int) - (i:Int) by omega] at hc
    clear S1
    go_wp2_with (go_at_fn 131; refine hc.mono ?_; rintro e w1 ⟨rfl,hw1⟩)
    go_roundg (i - j + j)
    case measure=>omega
    case rel =>
     refine ⟨i - j,j,QV.Vr (m - i) m j dk,by congr 1; omega,rfl,by omega,hj,by omega,hmj,Nat.le_refl _,by rw [QV.p7]; exact hds,hw1,(show _=_ from ?_)⟩
     rw [← heq.out]
     conv=>rhs; rw [QV.rot]
     rw [if_neg hij,dif_pos ⟨hji,hj⟩]
   ·have hjiz:¬ (j:Int) < (i:Int):=by omega
    have hc:=QV.swapRangeR_calls k aE zE enc g cb blk off cap (m - i) (m + j - i) i d0 dk w0 wr R (by omega) S1.out (by omega) (by omega) (by omega)
    rw [hds,show ((m - i:Nat):Int)=(m:Int) - (i:Int) by omega,show ((m + j - i:Nat):Int)=(m:Int) + (j:Int) - (i:Int) by omega] at hc
    clear S1
    go_wp2_with (go_at_fn 131; refine hc.mono ?_; rintro e w1 ⟨rfl,hw1⟩)
    go_roundg (i + (j - i))
    case measure=>omega
    case rel =>
     refine ⟨i,j - i,QV.Vr (m - i) (m + j - i) i dk,rfl,by congr 1; omega,hi,by omega,him,by omega,Nat.le_refl _,by rw [QV.p7]; exact hds,hw1,(show _=_ from ?_)⟩
     rw [← heq.out]
     conv=>rhs; rw [QV.rot]
     rw [if_neg hij,dif_neg (by omega),dif_pos ⟨by omega,hi⟩]
end Go.Proofs

namespace Go.Proofs
open Go.Shelf Go.RowKit Go.Lib Go.Sort
open _root_.Bool renaming and_eq_true → jd
open _root_.List renaming getElem_mem → jc, length_cons → jl, append_assoc → jq, flatMap_cons → jf, length_append → jA, eq_nil_of_length_eq_zero → jm, mem_map_of_mem → je
open _root_.Option.some renaming injEq → j8
open _root_.Prod.mk renaming injEq → j9
variable {α:Type} [Inhabited α]
set_option maxHeartbeats 8000000 in
set_option maxRecDepth 1000000 in
theorem QV.symOneR_calls (k:Nat) (aE:∀ w,(isAgg 68).run Tryz.prog w = .ok true w) (zE:∀ w,(Go.sizeOf 68).run Tryz.prog w = .ok k w) (enc:α → List Value) (cf:α → α → Int) (g:Nat) (cb:Array Value) (blk off cap a m b:Nat) (d0 d:Array α) (w0 w:World)
  (eg:∀ args w,(callFunc g args).run Tryz.prog w = .ok (.enter g args) w) (hcmp:CmpLays Tryz.prog g cb enc k cf blk off d0.size w0) (R:RowK enc k w0 blk off d0) (hs:d0.size=d.size) (S:SWK enc k w0 blk off d w) (ham:m=a + 1) (hmb:m < b) (hb:b ≤ d.size) (hsz:d.size < 4611686018427387904) :
  Calls Tryz.prog 121 #[.slice (some ⟨blk,off,none⟩) d.size cap,.int .i64 a,.int .i64 m,.int .i64 b,.func (.func g) #[] cb] w fun e w'=>e = .returned (.tuple #[]) ∧ SWK enc k w0 blk off (QV.shR a (QV.bs (fun h=>ltOf cf d[h]! d[a]!) m b - 1 - a) d) w':=by
 have mixed:Tryz.prog.follows .mixedOrders=true:=by kernel_rfl
 have t0:=Tryz.underlying0; have a0:=Tryz.isAgg0; have z0:=Tryz.sizeOf0; have v0:=Tryz.zeroValue0; have t3:=Tryz.underlying3; have a3:=Tryz.isAgg3; have z3:=Tryz.sizeOf3; have v3:=Tryz.zeroValue3; have t4:=Tryz.underlying4; have a4:=Tryz.isAgg4; have z4:=Tryz.sizeOf4; have v4:=Tryz.zeroValue4; have t22:=Tryz.underlying30; have a22:=Tryz.isAgg30; have z22:=Tryz.sizeOf30; have v22:=Tryz.zeroValue30; have t25:=Tryz.underlying113; have a25:=Tryz.isAgg113; have z25:=Tryz.sizeOf113; have v25:=Tryz.zeroValue113
 have t35:=Tryz.underlying159; have a35:=Tryz.isAgg159; have z35:=Tryz.sizeOf159; have v35:=Tryz.zeroValue159
 have u3:=run_underlying Tryz.underlying3; have u4:=run_underlying Tryz.underlying4; have u35:=run_underlying Tryz.underlying159
 have FG:=Tryz.func121
 have FN:Tryz.f121.ntmps=220:=rfl
 have HC:Aside _:=hcmp
 have S0:Aside (SWK enc k w0 blk off d w):=S
 clear S hcmp
 have hb1:((m:Int) - (a:Int) == 1)=true:=by rw [show (m:Int) - (a:Int)=1 by omega]; rfl
 have HAM:Aside (m=a + 1):=ham
 have ham':a < m:=by omega
 clear ham
 go_enter FG,FN
 go_wp2
 go_loopg [10,11] (b - m) (fun kx s10 s11 wr=>∃ (i j:Nat),s10 = .int .i64 i ∧ s11 = .int .i64 j ∧ m ≤ i ∧ i ≤ j ∧ j ≤ b ∧ j - i ≤ kx ∧ Aside (SWK enc k w0 blk off d wr) ∧ Aside (QV.bs (fun h=>ltOf cf d[h]! d[a]!) i j=QV.bs (fun h=>ltOf cf d[h]! d[a]!) m b))
 case atStart=>exact ⟨m,b,rfl,rfl,by omega,by omega,by omega,by omega,S0,rfl⟩
 case round =>
  clear S0
  obtain ⟨i,j,rfl,rfl,hmi,hij,hjb,hkx,S1,heq⟩:=hrel
  by_cases hlt:i < j
  ·have hltz:(i:Int) < (j:Int):=by omega
   have ea38:(((i:Int) + (j:Int)) / 2).toNat=(i + j) / 2:=by omega
   have pa38:(0:Int) ≤ ((i:Int) + (j:Int)) / 2:=by omega
   have ba38:((i:Int) + (j:Int)) / 2 < (d.size:Int):=by omega
   have ra38:IntKind.i64.wrap (((i:Int) + (j:Int)) / 2)=((i:Int) + (j:Int)) / 2:=by rw [IntKind.wrap_i64]; omega
   have ec38:((a:Int)).toNat=a:=by omega
   have pc38:(0:Int) ≤ (a:Int):=by omega
   have bc38:(a:Int) < (d.size:Int):=by omega
   obtain ⟨x38,hx38⟩:∃ x,x=d[(i + j) / 2]!:=⟨_,rfl⟩
   obtain ⟨y38,hy38⟩:∃ x,x=d[a]!:=⟨_,rfl⟩
   have l38a:=S1.out.ld R (by omega) Tryz.prog ((i + j) / 2) (by omega)
   have l38b:=S1.out.ld R (by omega) Tryz.prog a (by omega)
   rw [← hx38] at l38a
   rw [← hy38] at l38b
   have hc38:=S1.out.cmp HC.out (by omega) x38 y38
   cases hlv:ltOf cf d[(i + j) / 2]! d[a]! with
   | true =>
    have hv38:cf x38 y38 < 0:=by rw [hx38,hy38]; exact of_decide_eq_true hlv
    have hd38:decide (cf x38 y38 < 0)=true:=decide_eq_true hv38
    clear hx38 hy38
    go_wp2_with fail
    go_quiet_grown (first | (go_at_fn g; refine Calls.grown_of (hc38 _ _)))
    have S2:Aside (SWK enc k w0 blk off d (grow (wr.drewN nq) osq)):=S1.out.grown nq osq
    clear l38a l38b hc38 S1
    generalize grow (wr.drewN nq) osq=w2 at S2 ⊢
    clear nq osq
    go_wp2
    go_roundg (j - ((i + j) / 2 + 1))
    case measure=>omega
    case rel =>
     refine ⟨(i + j) / 2 + 1,j,by rw [show ((i:Int) + (j:Int)) / 2 + 1=(((i + j) / 2 + 1:Nat):Int) by omega],rfl,by omega,by omega,by omega,Nat.le_refl _,S2,(show _=_ from ?_)⟩
     rw [← heq.out]
     conv=>rhs; rw [QV.bs]
     rw [dif_pos hlt,hlv,if_pos rfl]
   | false =>
    have hv38:¬ cf x38 y38 < 0:=by rw [hx38,hy38]; exact of_decide_eq_false hlv
    have hd38:decide (cf x38 y38 < 0)=false:=decide_eq_false hv38
    clear hx38 hy38
    go_wp2_with fail
    go_quiet_grown (first | (go_at_fn g; refine Calls.grown_of (hc38 _ _)))
    have S2:Aside (SWK enc k w0 blk off d (grow (wr.drewN nq) osq)):=S1.out.grown nq osq
    clear l38a l38b hc38 S1
    generalize grow (wr.drewN nq) osq=w2 at S2 ⊢
    clear nq osq
    go_wp2
    go_roundg ((i + j) / 2 - i)
    case measure=>omega
    case rel =>
     refine ⟨i,(i + j) / 2,rfl,by rw [show ((i:Int) + (j:Int)) / 2=(((i + j) / 2:Nat):Int) by omega],by omega,by omega,by omega,Nat.le_refl _,S2,(show _=_ from ?_)⟩
     rw [← heq.out]
     conv=>rhs; rw [QV.bs]
     rw [dif_pos hlt,hlv,if_neg (by decide)]
  ·have hltz:¬ (i:Int) < (j:Int):=by omega
   obtain rfl:j=i:=by omega
   have hr:Aside (QV.bs (fun h=>ltOf cf d[h]! d[a]!) m b=j):=by
    show _=_
    rw [← heq.out,QV.bs,dif_neg hlt]
   clear heq
   go_wp2
   go_loopg [13] (j - 1 - a) (fun kx s13 wq=>∃ (t:Nat) (dk:Array α),s13 = .int .i64 (a + t:Nat) ∧ t ≤ j - 1 - a ∧ j - 1 - a - t ≤ kx ∧ dk.size=d.size ∧ Aside (SWK enc k w0 blk off dk wq) ∧ Aside (dk=QV.shR a t d))
   case atStart=>exact ⟨0,d,rfl,by omega,by omega,rfl,S1,rfl⟩
   case round =>
    clear S1
    obtain ⟨t,dk,rfl,ht,hkt,hds,S3,hdk⟩:=hrel
    by_cases htl:t < j - 1 - a
    ·have hz:((a + t:Nat):Int) < (j:Int) - 1:=by omega
     go_wp2_with fail
     have ea44:(((a + t:Nat):Int)).toNat=a + t:=by omega
     have pa44:(0:Int) ≤ ((a + t:Nat):Int):=by omega
     have ba44:((a + t:Nat):Int) < (d.size:Int):=by omega
     have ec44:(((a + t:Nat):Int) + 1).toNat=a + t + 1:=by omega
     have pc44:(0:Int) ≤ ((a + t:Nat):Int) + 1:=by omega
     have bc44:((a + t:Nat):Int) + 1 < (d.size:Int):=by omega
     have rc44:IntKind.i64.wrap (((a + t:Nat):Int) + 1)=((a + t:Nat):Int) + 1:=by rw [IntKind.wrap_i64]; omega
     have S2:Aside (SWK enc k w0 blk off (swp dk (a + t) (a + t + 1)) ((wr.drew.setCells blk (off + (a + t) * k) (enc dk[a + t + 1]!)).setCells blk (off + (a + t + 1) * k) (enc dk[a + t]!))):=S3.out.swapped R (a + t) (a + t + 1) (by omega) (by omega)
     have l44a:=S3.out.ld1 R (by omega) Tryz.prog (a + t) (by omega)
     have l44b:=S3.out.ld1 R (by omega) Tryz.prog (a + t + 1) (by omega)
     have s44a:=S3.out.st1 R (by omega) Tryz.prog (a + t) (by omega) dk[a + t + 1]!
     have s44b:=S3.out.st2 R (by omega) Tryz.prog (a + t) (a + t + 1) (by omega) (by omega) dk[a + t + 1]! dk[a + t]!
     have n44a:(enc dk[a + t]!).length=k:=R.hk _
     have n44b:(enc dk[a + t + 1]!).length=k:=R.hk _
     generalize enc dk[a + t]! = cI44 at S2 l44a s44b n44a
     generalize enc dk[a + t + 1]! = cJ44 at S2 l44b s44a s44b n44b
     clear S3
     go_wp2_with fail
     go_big_region_o
     clear l44a l44b s44a s44b
     generalize (wr.drew.setCells blk (off + (a + t) * k) cJ44).setCells blk (off + (a + t + 1) * k) cI44=w2 at S2 ⊢
     go_wp2
     go_roundg (j - 1 - a - (t + 1))
     case measure=>omega
     case rel=>exact ⟨t + 1,swp dk (a + t) (a + t + 1),by first | rfl | (congr 1; omega),by omega,Nat.le_refl _,by rw [size_swp]; exact hds,S2,by rw [hdk.out]; rfl⟩
    ·have hz:¬ ((a + t:Nat):Int) < (j:Int) - 1:=by omega
     obtain rfl:t=j - 1 - a:=by omega
     go_wp2
     (try simp only [Exit.inBlock,Exit.then]); refine bodyPost_ret (results_none rfl _ _ _) rfl ?_
     refine ⟨rfl,?_⟩
     rw [hr.out,← hdk.out]
     exact S3.out
end Go.Proofs

namespace Go.Proofs
open Go.Shelf Go.RowKit Go.Lib Go.Sort
open _root_.Bool renaming and_eq_true → jd
open _root_.List renaming getElem_mem → jc, length_cons → jl, append_assoc → jq, flatMap_cons → jf, length_append → jA, eq_nil_of_length_eq_zero → jm, mem_map_of_mem → je
open _root_.Option.some renaming injEq → j8
open _root_.Prod.mk renaming injEq → j9
variable {α:Type} [Inhabited α]
set_option maxHeartbeats 8000000 in
set_option maxRecDepth 1000000 in
theorem QV.symLastR_calls (k:Nat) (aE:∀ w,(isAgg 68).run Tryz.prog w = .ok true w) (zE:∀ w,(Go.sizeOf 68).run Tryz.prog w = .ok k w) (enc:α → List Value) (cf:α → α → Int) (g:Nat) (cb:Array Value) (blk off cap a m b:Nat) (d0 d:Array α) (w0 w:World)
  (eg:∀ args w,(callFunc g args).run Tryz.prog w = .ok (.enter g args) w) (hcmp:CmpLays Tryz.prog g cb enc k cf blk off d0.size w0) (R:RowK enc k w0 blk off d0) (hs:d0.size=d.size) (S:SWK enc k w0 blk off d w) (ham:a + 1 < m) (hmb:b=m + 1) (hb:b ≤ d.size) (hsz:d.size < 4611686018427387904) :
  Calls Tryz.prog 121 #[.slice (some ⟨blk,off,none⟩) d.size cap,.int .i64 a,.int .i64 m,.int .i64 b,.func (.func g) #[] cb] w fun e w'=>e = .returned (.tuple #[]) ∧ SWK enc k w0 blk off (QV.shL m (m - QV.bs (fun h=>!ltOf cf d[m]! d[h]!) a m) d) w':=by
 have mixed:Tryz.prog.follows .mixedOrders=true:=by kernel_rfl
 have t0:=Tryz.underlying0; have a0:=Tryz.isAgg0; have z0:=Tryz.sizeOf0; have v0:=Tryz.zeroValue0; have t3:=Tryz.underlying3; have a3:=Tryz.isAgg3; have z3:=Tryz.sizeOf3; have v3:=Tryz.zeroValue3; have t4:=Tryz.underlying4; have a4:=Tryz.isAgg4; have z4:=Tryz.sizeOf4; have v4:=Tryz.zeroValue4; have t22:=Tryz.underlying30; have a22:=Tryz.isAgg30; have z22:=Tryz.sizeOf30; have v22:=Tryz.zeroValue30; have t25:=Tryz.underlying113; have a25:=Tryz.isAgg113; have z25:=Tryz.sizeOf113; have v25:=Tryz.zeroValue113
 have t35:=Tryz.underlying159; have a35:=Tryz.isAgg159; have z35:=Tryz.sizeOf159; have v35:=Tryz.zeroValue159
 have u3:=run_underlying Tryz.underlying3; have u4:=run_underlying Tryz.underlying4; have u35:=run_underlying Tryz.underlying159
 have FG:=Tryz.func121
 have FN:Tryz.f121.ntmps=220:=rfl
 have HC:Aside _:=hcmp
 have S0:Aside (SWK enc k w0 blk off d w):=S
 clear S hcmp
 have hb1:((m:Int) - (a:Int) == 1)=false:=beq_eq_false_iff_ne.2 (by omega)
 have hb2:((b:Int) - (m:Int) == 1)=true:=by rw [show (b:Int) - (m:Int)=1 by omega]; rfl
 have HMB:Aside (b=m + 1):=hmb
 have hmb':m < b:=by omega
 clear hmb
 go_enter FG,FN
 go_wp2
 go_loopg [14,15] (m - a) (fun kx s10 s11 wr=>∃ (i j:Nat),s10 = .int .i64 i ∧ s11 = .int .i64 j ∧ a ≤ i ∧ i ≤ j ∧ j ≤ m ∧ j - i ≤ kx ∧ Aside (SWK enc k w0 blk off d wr) ∧ Aside (QV.bs (fun h=>!ltOf cf d[m]! d[h]!) i j=QV.bs (fun h=>!ltOf cf d[m]! d[h]!) a m))
 case atStart=>exact ⟨a,m,rfl,rfl,by omega,by omega,by omega,by omega,S0,rfl⟩
 case round =>
  clear S0
  obtain ⟨i,j,rfl,rfl,hmi,hij,hjb,hkx,S1,heq⟩:=hrel
  by_cases hlt:i < j
  ·have hltz:(i:Int) < (j:Int):=by omega
   have ea38:(((i:Int) + (j:Int)) / 2).toNat=(i + j) / 2:=by omega
   have pa38:(0:Int) ≤ ((i:Int) + (j:Int)) / 2:=by omega
   have ba38:((i:Int) + (j:Int)) / 2 < (d.size:Int):=by omega
   have ra38:IntKind.i64.wrap (((i:Int) + (j:Int)) / 2)=((i:Int) + (j:Int)) / 2:=by rw [IntKind.wrap_i64]; omega
   have ec38:((m:Int)).toNat=m:=by omega
   have pc38:(0:Int) ≤ (m:Int):=by omega
   have bc38:(m:Int) < (d.size:Int):=by omega
   obtain ⟨x38,hx38⟩:∃ x,x=d[m]!:=⟨_,rfl⟩
   obtain ⟨y38,hy38⟩:∃ x,x=d[(i + j) / 2]!:=⟨_,rfl⟩
   have l38a:=S1.out.ld R (by omega) Tryz.prog m (by omega)
   have l38b:=S1.out.ld R (by omega) Tryz.prog ((i + j) / 2) (by omega)
   rw [← hx38] at l38a
   rw [← hy38] at l38b
   have hc38:=S1.out.cmp HC.out (by omega) x38 y38
   cases hlv:ltOf cf d[m]! d[(i + j) / 2]! with
   | true =>
    have hv38:cf x38 y38 < 0:=by rw [hx38,hy38]; exact of_decide_eq_true hlv
    have hd38:decide (cf x38 y38 < 0)=true:=decide_eq_true hv38
    clear hx38 hy38
    go_wp2_with fail
    go_quiet_grown (first | (go_at_fn g; refine Calls.grown_of (hc38 _ _)))
    have S2:Aside (SWK enc k w0 blk off d (grow (wr.drewN nq) osq)):=S1.out.grown nq osq
    clear l38a l38b hc38 S1
    generalize grow (wr.drewN nq) osq=w2 at S2 ⊢
    clear nq osq
    go_wp2
    go_roundg ((i + j) / 2 - i)
    case measure=>omega
    case rel =>
     refine ⟨i,(i + j) / 2,rfl,by rw [show ((i:Int) + (j:Int)) / 2=(((i + j) / 2:Nat):Int) by omega],by omega,by omega,by omega,Nat.le_refl _,S2,(show _=_ from ?_)⟩
     rw [← heq.out]
     conv=>rhs; rw [QV.bs]
     rw [dif_pos hlt,hlv]
     rfl
   | false =>
    have hv38:¬ cf x38 y38 < 0:=by rw [hx38,hy38]; exact of_decide_eq_false hlv
    have hd38:decide (cf x38 y38 < 0)=false:=decide_eq_false hv38
    clear hx38 hy38
    go_wp2_with fail
    go_quiet_grown (first | (go_at_fn g; refine Calls.grown_of (hc38 _ _)))
    have S2:Aside (SWK enc k w0 blk off d (grow (wr.drewN nq) osq)):=S1.out.grown nq osq
    clear l38a l38b hc38 S1
    generalize grow (wr.drewN nq) osq=w2 at S2 ⊢
    clear nq osq
    go_wp2
    go_roundg (j - ((i + j) / 2 + 1))
    case measure=>omega
    case rel =>
     refine ⟨(i + j) / 2 + 1,j,by rw [show ((i:Int) + (j:Int)) / 2 + 1=(((i + j) / 2 + 1:Nat):Int) by omega],rfl,by omega,by omega,by omega,Nat.le_refl _,S2,(show _=_ from ?_)⟩
     rw [← heq.out]
     conv=>rhs; rw [QV.bs]
     rw [dif_pos hlt,hlv]
     rfl
  ·have hltz:¬ (i:Int) < (j:Int):=by omega
   obtain rfl:j=i:=by omega
   have hr:Aside (QV.bs (fun h=>!ltOf cf d[m]! d[h]!) a m=j):=by
    show _=_
    rw [← heq.out,QV.bs,dif_neg hlt]
   clear heq
   go_wp2
   go_loopg [17] (m - j) (fun kx s13 wq=>∃ (t:Nat) (dk:Array α),s13 = .int .i64 (m - t:Nat) ∧ t ≤ m - j ∧ m - j - t ≤ kx ∧ dk.size=d.size ∧ Aside (SWK enc k w0 blk off dk wq) ∧ Aside (dk=QV.shL m t d))
   case atStart=>exact ⟨0,d,rfl,by omega,by omega,rfl,S1,rfl⟩
   case round =>
    clear S1
    obtain ⟨t,dk,rfl,ht,hkt,hds,S3,hdk⟩:=hrel
    by_cases htl:t < m - j
    ·have hz:(j:Int) < ((m - t:Nat):Int):=by omega
     obtain ⟨p,hp⟩:∃ p,m - t=p + 1:=⟨m - t - 1,by omega⟩
     have hsh:Aside (m - t=p + 1):=hp
     rw [hp] at hz ⊢
     have hpd:p + 1 < d.size:=by omega
     have hpj:j ≤ p:=by omega
     clear hp
     go_wp2_with fail
     have ea44:((p:Int) + 1).toNat=p + 1:=by omega
     have pa44:(0:Int) ≤ (p:Int) + 1:=by omega
     have ba44:(p:Int) + 1 < (d.size:Int):=by omega
     have ec44:((p:Int)).toNat=p:=by omega
     have pc44:(0:Int) ≤ (p:Int):=by omega
     have bc44:(p:Int) < (d.size:Int):=by omega
     have rc44:IntKind.i64.wrap (p:Int)=(p:Int):=by rw [IntKind.wrap_i64]; omega
     have S2:Aside (SWK enc k w0 blk off (swp dk (p + 1) p) ((wr.drew.setCells blk (off + (p + 1) * k) (enc dk[p]!)).setCells blk (off + p * k) (enc dk[p + 1]!))):=S3.out.swapped R (p + 1) p (by omega) (by omega)
     have l44a:=S3.out.ld1 R (by omega) Tryz.prog (p + 1) (by omega)
     have l44b:=S3.out.ld1 R (by omega) Tryz.prog p (by omega)
     have s44a:=S3.out.st1 R (by omega) Tryz.prog (p + 1) (by omega) dk[p]!
     have s44b:=S3.out.st2 R (by omega) Tryz.prog (p + 1) p (by omega) (by omega) dk[p]! dk[p + 1]!
     have n44a:(enc dk[p + 1]!).length=k:=R.hk _
     have n44b:(enc dk[p]!).length=k:=R.hk _
     generalize enc dk[p + 1]! = cI44 at S2 l44a s44b n44a
     generalize enc dk[p]! = cJ44 at S2 l44b s44a s44b n44b
     clear S3
     go_wp2_with fail
     go_big_region_o
     clear l44a l44b s44a s44b
     generalize (wr.drew.setCells blk (off + (p + 1) * k) cJ44).setCells blk (off + p * k) cI44=w2 at S2 ⊢
     go_wp2
     go_roundg (m - j - (t + 1))
     case measure=>omega
     case rel=>exact ⟨t + 1,swp dk (p + 1) p,by first | rfl | (have:=hsh.out; congr 1; omega),by omega,Nat.le_refl _,by rw [size_swp]; exact hds,S2,by have h:=hsh.out; show _=swp (QV.shL m t d) (m - t) (m - t - 1); rw [hdk.out,h,Nat.add_sub_cancel]⟩
    ·have hz:¬ (j:Int) < ((m - t:Nat):Int):=by omega
     obtain rfl:t=m - j:=by omega
     go_wp2
     (try simp only [Exit.inBlock,Exit.then]); refine bodyPost_ret (results_none rfl _ _ _) rfl ?_
     refine ⟨rfl,?_⟩
     rw [hr.out,← hdk.out]
     exact S3.out
end Go.Proofs
