import Derived.Test.YtcpolmhblhhikaaGreatMU6
import Derived.Sort.Grow
import Derived.Sort.EncStr
import Derived.Lib.SlicesCompact
import Derived.Test.YtcpolmhblhhikaaGreatProg
import Derived.Shelf.SortM.Plain
import Derived.Shelf.SortM.SortNone
import Derived.Shelf.SlicesG.CompactS
import Derived.Test.YtcpolmhblhhikaaGreatMU4
import Derived.Test.YtcpolmhblhhikaaGreatMU5
/- slices.Sort and slices.Compact at a row of strings of the call's own,met by contracts on the state. -/
namespace Go.Proofs.QV
open Go Go.Sort
open _root_.List renaming eq_nil_of_length_eq_zero → jm, nil_append → jg, append_nil → jv, length_nil → jf
open _root_.Option.some renaming injEq → j8
open _root_.Prod.mk renaming injEq → ji
open Out renaming andThenB → j9, andThen → ja
set_option linter.unusedVariables false
set_option linter.unusedSimpArgs false
def pa (l:List (List DC)):List (List UInt8):=l.map fun x=>(x.getD 0 d0).ss
def Jr (l:List (List UInt8)):List (List DC):=l.map fun s=>[.s s]
def Za (l:List (List DC)):List (List DC):=Jr ((pa l).mergeSort fun x y=>decide (x ≤ y))
def Zi (l:List (List DC)):List (List DC):=Jr (Lib.compact (pa l))
def j7E (e:Nat):Nat → List HS → List C → Option (Nat × List HS × C):=fun _ H args =>
 match args with
 | [.one (.own id)] =>
  match jp H id with
  | .live (.row e' l) =>
   match Nat.beq e' e with
   | true=>some (l.length,jB H id (.live (.row e (Za l))),.tup [])
   | false=>none
  | _=>none
 | _=>none
def j07 (e:Nat):Nat → List HS → List C → Option (Nat × List HS × C):=fun base H args =>
 match args with
 | [.one (.own id)] =>
  match jp H id with
  | .live (.row e' l) =>
   match jp (jB H id .dead) base with
   | .free =>
    match Nat.beq e' e with
    | true=>some (l.length,jB (jB H id .dead) base (.live (.row e (Zi l))),.one (.own base))
    | false=>none
   | _=>none
  | _=>none
 | _=>none
theorem Vs (l:List (List UInt8)):pa (Jr l)=l:=by
 unfold pa Jr
 rw [List.map_map]
 conv=>rhs; rw [← List.map_id l]
 rfl
section
variable {P:Program} {ty:Nat → Option TI} {A:An} {g:Gh} {tm:List C} {H:List HS} {a:Act} {w:World}
theorem j0V:∀ l:List (List UInt8),RdV ty w [.s] (Jr l) (l.map encStr) []
 | []=>.nil _
 | s :: l=>by
  have:=RdV.cons (ty:=ty) (w:=w) [.s] [DC.s s] (Jr l) [encStr s] _ _ _ (.cons _ _ _ _ _ _ _ _ (.s s) .nil) (j0V l)
  exact this
theorem j1N (l:List (List UInt8)):(Lib.compact l).length ≤ l.length:=by
 unfold Lib.compact Lib.compactUpTo
 rw [List.length_map]
 exact Nat.le_trans (List.length_filter_le _ _) (by simp)
theorem j46 (h:Rel ty A g ⟨tm,H⟩ a w) {id e:Nat} {l:List (List DC)} {ti:TI} (hr:jp H id = .live (.row e l)) (hd:dp e=false) (ht:ty e=some ti) (hc:ti.cts=[.s]) :
  (g.val id = .slice none 0 0 ∧ l=[]) ∨ ∃ b cap cur,g.val id = .slice (some ⟨b,0,none⟩) l.length cap ∧ w.heap[b]? = some (.cells cur e (0,0)) ∧ l.length ≤ cap ∧ cap ≤ maxLen ∧ cur.size=cap ∧ cur.toList.take l.length=(pa l).map encStr:=by
 obtain ⟨ti',vs,F,h1,h0,h2,h3,h4,h5⟩:=h.ob id _ hr
 rw [ku hd] at h1 h2
 obtain rfl:ti=ti':=by rw [ht] at h1; exact Option.some.inj h1
 rw [hc] at h2 h3
 have hv:=j1A (h3.v (Xn hd))
 rcases h2.2 with ⟨q1,q2⟩ | ⟨b,cap,cur,q1,_,q3,q4,q5,q6,q7⟩
 ·exact .inl ⟨q1,jm q2⟩
 ·refine .inr ⟨b,cap,cur,q1,q3,q4,q5,by simpa using q6,?_⟩
  have:cur.toList.take l.length=vs:=by simpa using q7
  rw [this,hv]
  rfl
theorem j9s (h:Rel ty A g ⟨tm,H⟩ a w) {id e:Nat} {l:List (List DC)} (hr:jp H id = .live (.row e l)) (hd:dp e=false) (hty:∀ te,ty e=some te → te.cts=[.s]):∃ ti,ty e=some ti ∧ ti.cts=[.s]:=by
 obtain ⟨ti,vs,F,h1,_⟩:=h.ob id _ hr
 rw [ku hd] at h1
 exact ⟨ti,h1,hty ti h1⟩
theorem jaI (h:Rel ty A g ⟨tm,H⟩ a w) {id e b cap:Nat} {l:List (List DC)} {l':List (List UInt8)} {ti:TI} {w':World} {cur':Array Value} (hr:jp H id = .live (.row e l)) (hd:dp e=false) (ht:ty e=some ti) (hc:ti.cts=[.s])
  (hv:g.val id = .slice (some ⟨b,0,none⟩) l.length cap) (hn:l.length ≤ cap) (hcap:cap ≤ maxLen) (hl:l'.length=l.length) (os:w'.os=w.os) (tp:w'.tape=w.tape) (out:w'.output=w.output) (hs:w.heap.size ≤ w'.heap.size) (ho:∀ c,c < w.heap.size → c ≠ b → w'.heap[c]? = w.heap[c]?)
  (hb:w'.heap[b]? = some (.cells cur' e (0,0))) (hcs:cur'.size=cap) (htk:cur'.toList.take l.length=l'.map encStr):Rel ty A g ⟨tm,jB H id (.live (.row e (Jr l')))⟩ a w':=by
 have hob:(g.val id).ownBlock=some b:=by rw [hv]; rfl
 have hrb:zq g id e b:=.inl hob
 obtain ⟨_,_,_,_,_,_,_,_,hI⟩:=h.ob id _ hr
 refine (h.upd (g':=g) (jF hr) (by simp) rfl (fun _ _=>⟨rfl,rfl,rfl⟩) (fun _ _=>⟨⟨_,_,.inl hr⟩,rfl⟩) (fun _ hx=>?_) (fun c hcx=>?_) hs (fun _ o ho'=>?_) (fun _ hx=>?_) ?_).1
 ·obtain ⟨t,cs,hx⟩:=hx; simp [jt _ (jF hr)] at hx
 ·rcases hcx with hcx | ⟨i,p,hi,hp,hcx⟩
  ·exact ho c (h.lt c hcx) fun e=>hI b hrb (e ▸ hcx)
  ·exact ho c (h.oblk_lt hp hcx) fun e=>h.sep i id p _ b hi hp hr (e ▸ hcx) hrb
 ·obtain rfl:Obj'.row e (Jr l')=o:=by simpa using ho'
  refine ⟨⟨ti,l'.map encStr,[],by rw [ku hd]; exact ht,by rw [hc]; decide,?_,by rw [hc]; exact .of (j0V l'),(kz.shallow hd).2 (fun b hb=>by cases hb),hI⟩,fun c hcx=>?_⟩
  ·rw [ku hd,hc,hv]
   have hdl:(Jr l').length=l.length:=by simp [Jr,hl]
   refine ⟨by simp [Jr],.inr ⟨b,cap,cur',by rw [hdl],Nat.zero_le _,hb,by omega,hcap,by simpa using hcs,?_⟩⟩
   rw [hdl]
   simpa using htk
  ·have hcx:zq g id e c:=hcx
   exact ⟨hI c hcx,h.ow id (.row e l) c hr hcx,fun i p hi hp=>h.sep i id p _ c hi hp hr |> fun k hk=>k hk hcx⟩
 ·obtain ⟨t,cs,hx⟩:=hx; simp [jt _ (jF hr)] at hx
 ·exact h.keep.trans os tp out hs fun c hc' hp hm=>ho c (Nat.lt_of_lt_of_le hc' h.keep.size) fun k=>j0c (h.ow id (.row e l) b hr hrb) hc' hp hm k
theorem j08 {w:World} {b e k:Nat} {cur:Array Value} {d:List (List UInt8)} {os:Array Obj} (hb:w.heap[b]? = some (.cells cur e (0,0))) (hn:d.length ≤ cur.size) :
  (grow (putRow encStr (Sort.ahead w k) b 0 d.toArray) os).os=w.os ∧ (grow (putRow encStr (Sort.ahead w k) b 0 d.toArray) os).tape=w.tape ∧ (grow (putRow encStr (Sort.ahead w k) b 0 d.toArray) os).output=w.output ∧ w.heap.size ≤ (grow (putRow encStr (Sort.ahead w k) b 0 d.toArray) os).heap.size ∧
   (∀ c,c < w.heap.size → c ≠ b → (grow (putRow encStr (Sort.ahead w k) b 0 d.toArray) os).heap[c]? = w.heap[c]?) ∧
   ∃ cur',(grow (putRow encStr (Sort.ahead w k) b 0 d.toArray) os).heap[b]? = some (.cells cur' e (0,0)) ∧ cur'.size=cur.size ∧ cur'.toList.take d.length=d.map encStr:=by
 have hlt:=J4 hb
 refine ⟨rfl,rfl,rfl,by simp,fun c hc hne=>?_,putCells encStr 0 d.toArray cur,?_,by simp [putCells],?_⟩
 ·rw [heap_grow_old _ _ (by simpa using hc)]
  simp only [putRow,mapBlock,Array.getElem?_modify,if_neg (fun h:b=c=>hne h.symm)]
  rfl
 ·rw [heap_grow_old _ _ (by simpa using hlt)]
  simp [putRow,mapBlock,Array.getElem?_modify,hb,onCells]
 ·apply List.ext_getElem?
  intro j
  by_cases hj:j < d.length
  ·rw [List.getElem?_take_of_lt hj,List.getElem?_map,Array.getElem?_toList,putCells,Array.getElem?_mapIdx,Array.getElem?_eq_getElem (by omega),List.getElem?_eq_getElem hj]
   simp [hj]
  ·rw [List.getElem?_eq_none (by simp; omega),List.getElem?_eq_none (by simp; omega)]
theorem j4p {w:World} {b e:Nat} {cur:Array Value} {d:List (List UInt8)} (hb:w.heap[b]? = some (.cells cur e (0,0))) (ht:cur.toList.take d.length=d.map encStr):Holds encStr w b 0 d.toArray:=by
 intro j hj
 have hj:j < d.length:=by simpa using hj
 have h1:(cur.toList.take d.length)[j]? = some (encStr d[j]):=by rw [ht]; simp [hj]
 rw [List.getElem?_take_of_lt hj,Array.getElem?_toList] at h1
 refine ⟨?_,?_⟩
 ·unfold World.cell?
  simp [hb,h1,hj]
 ·unfold World.frozen?
  simp [hb]
theorem jaG {G:Glob} {f e:Nat} (hd:dp e=false) (hty:∀ te,ty e=some te → te.cts=[.s])
  (hS:∀ (blk off cap:Nat) (ss:List (List UInt8)) (w:World),Holds encStr w blk off ss.toArray → blk < w.heap.size → ss.length < 4611686018427387904 → Calls P f #[.slice (some ⟨blk,off,none⟩) ss.length cap] w fun en w'=>en = .returned (.tuple #[]) ∧ ∃ n os,w'=grow (putRow encStr (Sort.ahead w n) blk off (ss.mergeSort fun x y=>decide (x ≤ y)).toArray) os)
  (hN:∀ (p:Option Addr) (cap:Nat) (w:World),Calls P f #[.slice p 0 cap] w fun en w'=>en = .returned (.tuple #[]) ∧ w'=w):j7p P G ty f (j7E e):=by
 intro A g tm H H' a w base nn args vals c hA h hlen hcr hq hlim
 unfold j7E at hq
 split at hq
 ·rename_i id
  split at hq
  ·rename_i e' l hr
   split at hq
   ·rename_i hbeq
    obtain rfl:=Nat.eq_of_beq_eq_true hbeq
    obtain ⟨ti,ht,hc⟩:=j9s h hr hd hty
    simp only [j8,ji] at hq
    obtain ⟨rfl,rfl,rfl⟩:=hq
    match vals,hlen with
    | [v],_ =>
     have hv:=hcr 0 _ v rfl rfl
     have hval:v=g.val id:=hv.2.2 ⟨_,_,.inl hr⟩
     subst hval
     have htup:∀ (g':Gh) (H2:List HS) (w2:World),CR ty g' H2 w2 (.tup []) (.tuple #[]):=fun _ _ _=>⟨[],rfl,rfl,fun i a ss u hi=>by simp at hi⟩
     rcases j46 h hr hd ht hc with ⟨q1,rfl⟩ | ⟨b,cap,cur,q1,q2,q3,q4,q5,q6⟩
     ·rw [q1]
      refine Calls.mono (hN none 0 w) fun en w' hen=>?_
      obtain ⟨rfl,rfl⟩:=hen
      have hsame:jB H id (.live (.row e' (Za [])))=H:=by
       have:Za []=[]:=by simp [Za,pa,Jr]
       rw [this]
       apply List.ext_getElem?
       intro j
       unfold jB
       rw [List.getElem?_set]
       split
       ·rename_i hj
        subst hj
        have hlt:=jF hr
        rw [if_pos hlt]
        have h2:=hr
        unfold jp at h2
        rw [List.getD_eq_getElem?_getD,List.getElem?_eq_getElem hlt] at h2
        rw [List.getElem?_eq_getElem hlt]
        simpa using h2.symm
       ·rfl
      rw [hsame]
      exact ⟨_,g,rfl,h,fun _ h=>h,htup _ _ _⟩
     ·rw [q1]
      have hwl:(pa l).length=l.length:=by simp [pa]
      have hS1:=hS b 0 cap (pa l) w (j4p q2 (by rw [hwl]; exact q6)) (J4 q2) (by rw [hwl]; simp only [jT] at hlim; omega)
      rw [hwl] at hS1
      refine Calls.mono hS1 fun en w' hen=>?_
      obtain ⟨rfl,n,os,rfl⟩:=hen
      have hml:((pa l).mergeSort fun x y=>decide (x ≤ y)).length=l.length:=by rw [List.length_mergeSort,hwl]
      obtain ⟨z1,z2,z3,z4,z5,cur',z6,z7,z8⟩:=j08 (w:=w) (k:=n) (os:=os) (d:=(pa l).mergeSort fun x y=>decide (x ≤ y)) q2 (by rw [hml]; omega)
      exact ⟨_,g,rfl,jaI h hr hd ht hc q1 q3 q4 hml z1 z2 z3 z4 z5 z6 (by omega) (by rw [← hml]; exact z8),fun _ h=>h,htup _ _ _⟩
   ·simp at hq
  ·simp at hq
 ·simp at hq
theorem j7k {G:Glob} {f e:Nat} (hd:dp e=false) (hty:∀ te,ty e=some te → te.cts=[.s])
  (hS:∀ (blk off cap:Nat) (zs:List (List UInt8)) (w:World),Holds encStr w blk off zs.toArray → zs.length ≤ 9223372036854775807 → zs.length ≤ cap → Calls P f #[.slice (some ⟨blk,off,none⟩) zs.length cap] w fun en w'=>en = .returned (.slice (some ⟨blk,off,none⟩) (Lib.compact zs).length cap) ∧ ∃ q,w'=putRow encStr (Sort.ahead w q) blk off (Lib.compact zs ++ List.replicate (zs.length - (Lib.compact zs).length) []).toArray)
  (hN:∀ (p:Option Addr) (cap:Nat) (w:World),Calls P f #[.slice p 0 cap] w fun en w'=>en = .returned (.slice p 0 cap) ∧ w'=w):j7p P G ty f (j07 e):=by
 intro A g tm H H' a w base nn args vals c hA h hlen hcr hq hlim
 unfold j07 at hq
 split at hq
 ·rename_i id
  split at hq
  ·rename_i e' l hr
   split at hq
   ·rename_i hfree
    split at hq
    ·rename_i hbeq
     obtain rfl:=Nat.eq_of_beq_eq_true hbeq
     obtain ⟨ti,ht,hc⟩:=j9s h hr hd hty
     simp only [j8,ji] at hq
     obtain ⟨rfl,rfl,rfl⟩:=hq
     match vals,hlen with
     | [v],_ =>
      have hv:=hcr 0 _ v rfl rfl
      have ht':ty (yz e')=some ti:=by rw [ku hd]; exact ht
      have hold:JR H e' (.one (.own id))=some (l,jB H id .dead):=by simp [JR,hr,Xn hd]
      obtain ⟨k1,c1,xs,F,k2,k3,k4,_,k5,k6,k7⟩:=YS h ht' hv hold
      have hval:v=g.val id:=hv.2.2 ⟨_,_,.inl hr⟩
      subst hval
      rw [ku hd,hc] at k2
      rcases j46 h hr hd ht hc with ⟨q1,rfl⟩ | ⟨b,cap,cur,q1,q2,q3,q4,q5,q6⟩
      ·have hcd:Zi []=[]:=by simp [Zi,pa,Jr,Lib.compact,Lib.compactUpTo]
       rw [hcd]
       rw [q1] at k5 k6 ⊢
       refine Calls.mono (hN none 0 w) fun en w' hen=>?_
       obtain ⟨rfl,rfl⟩:=hen
       obtain ⟨g',r1,r2,r3⟩:=k1.grow (base:=base) (e:=e') (l:=[]) (v':=.slice none 0 0) (vs:=[]) (F:=[]) (w':=w') (vo:=none) hfree ht' (by rw [hc]; decide) ⟨rfl,rfl,rfl,Nat.le_refl _,fun _ _ _=>rfl⟩
        (fun b hb=>by cases hb) (World.ownsRow_nil _ _ _ _) (.nil _) ((Ve.shallow hd).2 fun b hb=>by cases hb) (fun _ b hb=>by cases hb) (fun b hb=>by simp [Value.ownBlock] at hb)
       exact ⟨_,g',rfl,r1,r2.I,qj (jt _ (kM hfree)),rfl,fun _=>r3.symm⟩
      ·rw [q1] at k5 k6 ⊢
       have hwl:(pa l).length=l.length:=by simp [pa]
       have hS1:=hS b 0 cap (pa l) w (j4p q2 (by rw [hwl]; exact q6)) (by rw [hwl]; simp only [jT] at hlim; omega) (by rw [hwl]; exact q3)
       have hcl:=j1N (pa l)
       rw [hwl] at hS1 hcl
       refine Calls.mono hS1 fun en w' hen=>?_
       obtain ⟨rfl,n,rfl⟩:=hen
       have hml:(Lib.compact (pa l) ++ List.replicate (l.length - (Lib.compact (pa l)).length) []).length=l.length:=by simp; omega
       obtain ⟨z1,z2,z3,z4,z5,cur',z6,z7,z8⟩:=j08 (w:=w) (k:=n) (os:=#[]) (d:=Lib.compact (pa l) ++ List.replicate (l.length - (Lib.compact (pa l)).length) []) q2 (by rw [hml]; omega)
       rw [grow_empty] at z1 z2 z3 z4 z5 z6
       have hown:(putRow encStr (Sort.ahead w n) b 0 (Lib.compact (pa l) ++ List.replicate (l.length - (Lib.compact (pa l)).length) []).toArray).ownsRow 0 (yz e') ti.cts.length (.slice (some ⟨b,0,none⟩) (Lib.compact (pa l)).length cap) (Zi l).length ((Lib.compact (pa l)).map encStr):=by
        have hdl:(Zi l).length=(Lib.compact (pa l)).length:=by simp [Zi,Jr]
        rw [ku hd,hc,hdl]
        refine ⟨by simp,.inr ⟨b,cap,cur',rfl,Nat.zero_le _,z6,by omega,q4,by simp; omega,?_⟩⟩
        rw [hml] at z8
        have h8:=congrArg (List.take (Lib.compact (pa l)).length) z8
        rw [List.take_take,Nat.min_eq_left hcl,List.map_append,List.take_left' (List.length_map _)] at h8
        simpa using h8
       obtain ⟨g',r1,r2,r3⟩:=k1.grow (base:=base) (e:=e') (l:=Zi l) (v':=.slice (some ⟨b,0,none⟩) (Lib.compact (pa l)).length cap) (F:=[]) (vo:=some b) hfree ht' (by rw [hc]; decide) ⟨z1,z2,z3,z4,fun c hc' hne=>z5 c hc' fun e=>hne (by rw [e])⟩
        (fun c hc'=>by obtain rfl:=Option.some.inj hc'; exact k5 _ rfl) hown (by rw [hc]; exact j0V _) ((Ve.shallow hd).2 fun b hb=>by cases hb) (fun _ b hb=>by cases hb) (fun c hc'=>by simp only [Value.ownBlock] at hc'; exact .inl hc')
       exact ⟨_,g',rfl,r1,r2.I,qj (jt _ (kM hfree)),rfl,fun _=>r3.symm⟩
    ·simp at hq
   ·simp at hq
  ·simp at hq
 ·simp at hq
theorem j9d {G:Glob} {f:Nat} {fi:FI} {q:Nat → List HS → List C → Option (Nat × List HS × C)} (h:FnOk P G ty f fi) (hs:j7p P G ty f q):FnOk P G ty f { fi with stf:=some q } :=
 ⟨h.ex,h.prim,h.mark,fun q' e=>by (cases e; exact hs)⟩
end
end Go.Proofs.QV

namespace Go.Proofs
open Go.Shelf
open _root_.List renaming eq_nil_of_length_eq_zero → jm, nil_append → jg, append_nil → jv, length_nil → jf
open _root_.Option.some renaming injEq → j8
open _root_.Prod.mk renaming injEq → ji
set_option maxRecDepth 100000
def Tryz.lsort_ren:Go.Shelf.Ren:=⟨fun | 6=>24 | 8=>41 | 9=>40 | 19=>60 | 20=>61 | 21=>51 | 22=>52 | 23=>53 | 24=>54 | 25=>55 | 26=>56 | 27=>57 | 28=>58 | 29=>59 | 36=>74 | 31=>75 | 32=>76 | 37=>77 | 38=>78 | 39=>79 | 41=>100 | n=>n,fun | 27=>31 | 29=>9 | 3=>3 | 32=>69 | 26=>31 | 0=>0 | 44=>99 | 46=>101 | 4=>4 | 36=>91 | 35=>90 | 41=>96 | 5=>5 | 9=>9 | 53=>128 | 57=>132 | 63=>153 | 64=>154 | n=>n,fun | n=>n⟩
theorem Tryz.lsort:Go.Proofs.SlLaysM.n6 Tryz.prog Tryz.lsort_ren:={
 mixed:=by kernel_rfl,
 f6:=⟨"slices.Sort[[]string,string]",by decide,Tryz.func24.trans (congrArg some (by kernel_rfl))⟩,
 f8:=Tryz.func41.trans (congrArg some (by kernel_rfl)),
 f9:=⟨"slices.pdqsortOrdered[string]",by decide,Tryz.func40.trans (congrArg some (by kernel_rfl))⟩,
 f19:=Tryz.func60.trans (congrArg some (by kernel_rfl)),
 f20:=Tryz.func61.trans (congrArg some (by kernel_rfl)),
 f21:=⟨"slices.insertionSortOrdered[string]",by decide,Tryz.func51.trans (congrArg some (by kernel_rfl))⟩,
 f22:=⟨"slices.heapSortOrdered[string]",by decide,Tryz.func52.trans (congrArg some (by kernel_rfl))⟩,
 f23:=⟨"slices.breakPatternsOrdered[string]",by decide,Tryz.func53.trans (congrArg some (by kernel_rfl))⟩,
 f24:=⟨"slices.choosePivotOrdered[string]",by decide,Tryz.func54.trans (congrArg some (by kernel_rfl))⟩,
 f25:=⟨"slices.reverseRangeOrdered[string]",by decide,Tryz.func55.trans (congrArg some (by kernel_rfl))⟩,
 f26:=⟨"slices.partialInsertionSortOrdered[string]",by decide,Tryz.func56.trans (congrArg some (by kernel_rfl))⟩,
 f27:=⟨"cmp.Less[string]",by decide,Tryz.func57.trans (congrArg some (by kernel_rfl))⟩,
 f28:=⟨"slices.partitionEqualOrdered[string]",by decide,Tryz.func58.trans (congrArg some (by kernel_rfl))⟩,
 f29:=⟨"slices.partitionOrdered[string]",by decide,Tryz.func59.trans (congrArg some (by kernel_rfl))⟩,
 f31:=Tryz.func75.trans (congrArg some (by kernel_rfl)),
 f32:=Tryz.func76.trans (congrArg some (by kernel_rfl)),
 f36:=⟨"slices.siftDownOrdered[string]",by decide,Tryz.func74.trans (congrArg some (by kernel_rfl))⟩,
 f37:=⟨"slices.medianAdjacentOrdered[string]",by decide,Tryz.func77.trans (congrArg some (by kernel_rfl))⟩,
 f38:=⟨"slices.medianOrdered[string]",by decide,Tryz.func78.trans (congrArg some (by kernel_rfl))⟩,
 f39:=⟨"cmp.isNaN[string]",by decide,Tryz.func79.trans (congrArg some (by kernel_rfl))⟩,
 f41:=⟨"slices.order2Ordered[string]",by decide,Tryz.func100.trans (congrArg some (by kernel_rfl))⟩,
 t0:=Tryz.underlying0,
 a0:=Tryz.isAgg0,
 z0:=Tryz.sizeOf0,
 v0:=Tryz.zeroValue0,
 t3:=Tryz.underlying3,
 a3:=Tryz.isAgg3,
 z3:=Tryz.sizeOf3,
 v3:=Tryz.zeroValue3,
 t4:=Tryz.underlying4,
 a4:=Tryz.isAgg4,
 z4:=Tryz.sizeOf4,
 v4:=Tryz.zeroValue4,
 t5:=Tryz.underlying5,
 a5:=Tryz.isAgg5,
 z5:=Tryz.sizeOf5,
 v5:=Tryz.zeroValue5,
 t9:=Tryz.underlying9,
 a9:=Tryz.isAgg9,
 z9:=Tryz.sizeOf9,
 v9:=Tryz.zeroValue9,
 t26:=Tryz.underlying31,
 a26:=Tryz.isAgg31,
 z26:=Tryz.sizeOf31,
 v26:=Tryz.zeroValue31,
 t27:=Tryz.underlying31,
 a27:=Tryz.isAgg31,
 z27:=Tryz.sizeOf31,
 v27:=Tryz.zeroValue31,
 t29:=Tryz.underlying9,
 a29:=Tryz.isAgg9,
 z29:=Tryz.sizeOf9,
 v29:=Tryz.zeroValue9,
 t32:=Tryz.underlying69,
 a32:=Tryz.isAgg69,
 z32:=Tryz.sizeOf69,
 v32:=Tryz.zeroValue69,
 t35:=Tryz.underlying90,
 a35:=Tryz.isAgg90,
 z35:=Tryz.sizeOf90,
 v35:=Tryz.zeroValue90,
 t36:=Tryz.underlying91,
 a36:=Tryz.isAgg91,
 z36:=Tryz.sizeOf91,
 v36:=Tryz.zeroValue91,
 t41:=Tryz.underlying96,
 a41:=Tryz.isAgg96,
 z41:=Tryz.sizeOf96,
 v41:=Tryz.zeroValue96,
 t44:=Tryz.underlying99,
 a44:=Tryz.isAgg99,
 z44:=Tryz.sizeOf99,
 v44:=Tryz.zeroValue99,
 t46:=Tryz.underlying101,
 a46:=Tryz.isAgg101,
 z46:=Tryz.sizeOf101,
 v46:=Tryz.zeroValue101,
 t53:=Tryz.underlying128,
 a53:=Tryz.isAgg128,
 z53:=Tryz.sizeOf128,
 v53:=Tryz.zeroValue128,
 t57:=Tryz.underlying132,
 a57:=Tryz.isAgg132,
 z57:=Tryz.sizeOf132,
 v57:=Tryz.zeroValue132,
 t63:=Tryz.underlying153,
 a63:=Tryz.isAgg153,
 z63:=Tryz.sizeOf153,
 v63:=Tryz.zeroValue153,
 t64:=Tryz.underlying154,
 a64:=Tryz.isAgg154,
 z64:=Tryz.sizeOf154,
 v64:=Tryz.zeroValue154 }
def Tryz.lcompact_ren:Go.Shelf.Ren:=⟨fun | 44=>25 | n=>n,fun | 25=>31 | 26=>9 | 3=>3 | 4=>4 | 0=>0 | n=>n,fun | n=>n⟩
theorem Tryz.lcompact:Go.Proofs.SlLaysN.n44 Tryz.prog Tryz.lcompact_ren:={
 mixed:=by kernel_rfl,
 f44:=⟨"slices.Compact[[]string,string]",by decide,Tryz.func25.trans (congrArg some (by kernel_rfl))⟩,
 t0:=Tryz.underlying0,
 a0:=Tryz.isAgg0,
 z0:=Tryz.sizeOf0,
 v0:=Tryz.zeroValue0,
 t3:=Tryz.underlying3,
 a3:=Tryz.isAgg3,
 z3:=Tryz.sizeOf3,
 v3:=Tryz.zeroValue3,
 t4:=Tryz.underlying4,
 a4:=Tryz.isAgg4,
 z4:=Tryz.sizeOf4,
 v4:=Tryz.zeroValue4,
 t25:=Tryz.underlying31,
 a25:=Tryz.isAgg31,
 z25:=Tryz.sizeOf31,
 v25:=Tryz.zeroValue31,
 t26:=Tryz.underlying9,
 a26:=Tryz.isAgg9,
 z26:=Tryz.sizeOf9,
 v26:=Tryz.zeroValue9,
 i26:=by kernel_rfl }
end Go.Proofs
namespace Go.Proofs.QV
open Go
open _root_.List renaming eq_nil_of_length_eq_zero → jm, nil_append → jg, append_nil → jv, length_nil → jf
open _root_.Option.some renaming injEq → j8
open _root_.Prod.mk renaming injEq → ji
open Out renaming andThenB → j9, andThen → ja
set_option linter.unusedVariables false
set_option maxRecDepth 100000
theorem jbx {G:Glob} {ty:Nat → Option TI} {e:Nat} (hd:dp e=false) (hty:∀ te,ty e=some te → te.cts=[.s]):j7p Tryz.prog G ty 24 (j7E e) :=
 jaG hd hty (fun blk off cap ss w h1 h2 h3=>AnyM.slices_Sort_string Tryz.lsort blk off cap ss w h1 h2 h3) (fun p cap w=>AnyM.slices_Sort_string_none Tryz.lsort p cap w)
theorem j8h {G:Glob} {ty:Nat → Option TI} {e:Nat} (hd:dp e=false) (hty:∀ te,ty e=some te → te.cts=[.s]):j7p Tryz.prog G ty 25 (j07 e) :=
 j7k hd hty (fun blk off cap ss w h1 h2 h3=>AnyG.slices_Compact_string Tryz.lcompact blk off cap ss w h1 h2 h3) (fun p cap w=>AnyG.slices_Compact_string_empty Tryz.lcompact p cap w)
set_option linter.unusedSimpArgs false
def Kl (ty:Nat → Option TI) (tv:Nat) (cts:List CT) (t:Nat) (st:St):Out :=
 match st.tm.getD t (.one .undef) with
 | .one (.ptr id 0) =>
  (match jp st.H id with
  | .live (.var tv' cs) =>
   (match Nat.beq tv' tv with
   | true =>
    (match pT ty st.H (cts.map CT.k1) cs with
    | some (v,_)=>.ret v
    | none=>.fail)
   | false=>.fail)
  | _=>.fail)
 | _=>.fail
noncomputable def j3m (cfg:Cfg) (fi:FI) (tv:Nat) (cts:List CT) (t:Nat) (h:Hint) (v:List DC) (k:Nat):Out :=
 exec cfg.ty cfg.fn (zg cfg k) 0 k (Kl cfg.ty tv cts t) (fi.body h) (fun _=>none) (yD fi h v) (Kl cfg.ty tv cts t)
noncomputable def jb8 (cfg:Cfg) (fi:FI) (tv:Nat) (cts:List CT) (t:Nat) (h:Hint) (v:List DC):Out:=lim (j3m cfg fi tv cts t h v)
theorem j1v (cfg:Cfg) (fi:FI) (tv:Nat) (cts:List CT) (t:Nat) (h:Hint) (v:List DC) :
  qs (j3m cfg fi tv cts t h v) (zV (ki cfg) jy cfg.ty cfg.fn 0 (Kl cfg.ty tv cts t) (fi.body h) (fun _=>none) (yD fi h v) (Kl cfg.ty tv cts t)) :=
 qs.exec (ty:=cfg.ty) (fn:=cfg.fn) (mm:=0) (rt:=Kl cfg.ty tv cts t) (fun f h v=>j0I cfg f h v) (fi.body h) (fun _=>none) (yD fi h v) (K:=fun _=>Kl cfg.ty tv cts t) (fun st=>qs.const _)
theorem j83 (cfg:Cfg) (fi:FI) (tv:Nat) (cts:List CT) (t:Nat) (h:Hint) (v:List DC) :
  jb8 cfg fi tv cts t h v=zV (ki cfg) jy cfg.ty cfg.fn 0 (Kl cfg.ty tv cts t) (fi.body h) (fun _=>none) (yD fi h v) (Kl cfg.ty tv cts t) :=
 (j1x.lim (j1v cfg fi tv cts t h v).1).uniq (j1v cfg fi tv cts t h v).2
theorem j6D {cfg:Cfg} {fi:FI} {tv:Nat} {cts:List CT} {t:Nat} {h:Hint} {v r:List DC} (e:jb8 cfg fi tv cts t h v = .ret r):∃ k,j3m cfg fi tv cts t h v k = .ret r:=by
 obtain ⟨N,hN⟩:=j1x.lim (j1v cfg fi tv cts t h v).1
 exact ⟨N,(hN N (Nat.le_refl _)).trans e⟩
theorem j4x (ty:Nat → Option TI) (tv:Nat) (cts:List CT) (t:Nat) (st:St):(∀ v,Kl ty tv cts t st ≠ .norm v) ∧ ∀ id v,Kl ty tv cts t st ≠ .ex id v:=by
 unfold Kl
 constructor
 ·intro v
  repeat' split
  all_goals simp
 ·intro id v
  repeat' split
  all_goals simp
section
variable {P:Program} {G:Glob}
theorem ja9 {cfg:Cfg} (hty:y9 P cfg.ty) (hm:P.follows .mixedOrders=true) (hfn:∀ f fi,cfg.fn f=some fi → FnOk P G cfg.ty f fi) {f:Nat} {fi:FI} {fd:Func} (h1:P.funcs[f]? = some fd) (h2:∀ h,fd.body=some (fi.body h).code) (h3:fd.ntmps=fi.ntmps)
  {t:Nat} (h4:fd.results.toList=[.tmp t]) {tv:Nat} {cts:List CT} {h:Hint} {k:Nat} {v r:List DC} (e:j3m cfg fi tv cts t h v k = .ret r) {A:An} {g:Gh} {vals:Array Value} {w:World} (hA:AOk G A)
  (hr:Rel cfg.ty A g (yD fi h v) { tmps:=vals ++ Array.replicate (fi.ntmps - vals.size) undef,defers:=[] } w) (hvs:vals.size=h.tm.length) (hw:A.w0=w) (hmm:A.m=0) :
  Calls P f vals w fun
   | .returned rv,w'=>∃ (b:Nat) (us:List Value) (gr:Gh) (H0 H1:List HS),rv = .pointer (some ⟨b,0,none⟩) ∧ w'.heap[b]? = some (.cells us.toArray tv (0,0)) ∧ (∀ u ∈ us,u.oneCell'=true) ∧ FL cfg.ty A gr H0 H1 w' r 0 (cts.map CT.k1) us ∧
     ¬ gr.I b ∧ (A.w0.heap.size ≤ b ∨ A.Pv b) ∧ (∀ b,gr.I b → b < w'.heap.size ∧ (A.I0 b ∨ A.w0.heap.size ≤ b ∨ A.Pm b)) ∧ Keep A w'
   | _,_=>False:=by
 unfold j3m at e
 refine calls_of_wp h1 (h2 h) ?_
 rw [h3]
 refine wp_mono (Ky hty (j4u hfn (Yl hty hm hfn k) A hA) hm hmm (fun st v=>(j4x _ _ _ _ st).1 v) (fun st id v=>(j4x _ _ _ _ st).2 id v) (fi.body h) _ _ _ (.ret r) g _ w hr e (by simp)) fun ex a' w' hq=>?_
 have fin:∀ g' st',Rel cfg.ty A g' st' a' w' → Kl cfg.ty tv cts t st' = .ret r → a'.defers=[] ∧ ∃ v,(results fd a'.tmps).run P w' = .ok v w' ∧
   ∃ (b:Nat) (us:List Value) (gr:Gh) (H0 H1:List HS),v = .pointer (some ⟨b,0,none⟩) ∧ w'.heap[b]? = some (.cells us.toArray tv (0,0)) ∧ (∀ u ∈ us,u.oneCell'=true) ∧ FL cfg.ty A gr H0 H1 w' r 0 (cts.map CT.k1) us ∧
     ¬ gr.I b ∧ (A.w0.heap.size ≤ b ∨ A.Pv b) ∧ (∀ b,gr.I b → b < w'.heap.size ∧ (A.I0 b ∨ A.w0.heap.size ≤ b ∨ A.Pm b)) ∧ Keep A w':=by
  intro g' st' hr' hk
  obtain ⟨tm',H'⟩:=st'
  unfold Kl at hk
  dsimp only at hk
  have hg:=hr'.getD t
  split at hk
  ·rename_i id hid
   split at hk
   ·rename_i tv' cs hv
    split at hk
    ·rename_i htv
     have htv:=Nat.eq_of_beq_eq_true htv
     subst htv
     split at hk
     ·rename_i v' H1 hn
      simp only [Out.ret.injEq] at hk
      subst hk
      rw [hid] at hg
      obtain ⟨z1,z2,z3⟩:=hg
      have hp:=z3 ⟨_,_,hv⟩
      obtain ⟨us,o1,o2,o3,o4⟩:=hr'.ob id _ hv
      obtain ⟨g1,r1,s1,f1,ap,l1,_⟩:=Y8 (H0:=H') [] [] hr' (fun _ h=>h) (j01 hr') (j2u hr') o2 hn
      simp only [jg,jv,jf] at f1
      obtain ⟨t',cs',hv1⟩:=s1.var id ⟨_,_,hv⟩
      refine ⟨hr'.df,a'.tmps.getD t undef,j1D (vs:=[a'.tmps.getD t undef]) (by rw [h4]; rfl),g'.blk id,us,g1,H',H1,hp,o1,o4,f1,?_,hr'.ow id _ _ hv rfl,fun b hb=>⟨r1.lt b hb,r1.inI b hb⟩,hr'.keep⟩
      have:=yo r1 hv1 (b:=g1.blk id) rfl
      rwa [s1.blk] at this
     ·simp at hk
    ·simp at hk
   ·simp at hk
  ·simp at hk
 cases ex with
 | normal =>
  obtain ⟨g',st',hr',hk⟩:=hq
  exact fin g' st' hr' hk
 | ret =>
  obtain ⟨g',st',hr',hk⟩:=hq
  exact fin g' st' hr' hk
 | exit id =>
  obtain ⟨_,_,_,hk,_⟩:=hq
  simp at hk
 | goto l=>exact hq.elim
 | panic c=>exact hq.elim
 | outgrown=>exact hq.elim
def pkK:PK → KC
 | .ct c=>.one c.k1
 | .ag ts=>.agg (ts.map CT.k1)
 | _=>.one .u
def bsz:Out → Nat
 | .ret _=>0
 | _=>jT
def XZ:Out → List DC
 | .ret r=>r
 | _=>[]
theorem j5k:∀ {ps:List PK} {cs:List C} {n r:Nat} {l:List KC},ps.all PK.plain=true → yX n r ps cs=some l → l=ps.map pkK
 | [],[],n,r,l,_,e=>by
  simp only [yX,j8] at e
  exact e.symm
 | .ct c :: ps,x :: cs,n,r,l,h,e=>by
  simp only [yX] at e
  split at e
  ·rename_i l' hl
   simp only [j8] at e
   subst e
   rw [j5k (by simpa [PK.plain] using h) hl]
   rfl
  ·simp at e
 | .ag ts :: ps,x :: cs,n,r,l,h,e=>by
  simp only [yX] at e
  split at e
  ·rename_i l' hl
   simp only [j8] at e
   subst e
   rw [j5k (by simpa [PK.plain] using h) hl]
   rfl
  ·simp at e
 | .mv _ :: _,_,_,_,_,h,_=>by simp [PK.plain] at h
 | .ptr :: _,_,_,_,_,h,_=>by simp [PK.plain] at h
 | .fn :: _,_,_,_,_,h,_=>by simp [PK.plain] at h
 | [],_ :: _,_,_,_,_,e=>by simp [yX] at e
 | .ct _ :: _,[],_,_,_,_,e=>by simp [yX] at e
 | .ag _ :: _,[],_,_,_,_,e=>by simp [yX] at e
def j9x (ty:Nat → Option TI) (pk:List PK) (R:List DC → Out) (tv:Nat) (cts:List CT) (base:Nat) (H:List HS) (args:List C):Option (Nat × List HS × C) :=
 match yX 0 0 pk args with
 | some kcs =>
  (match Jz (kcs.map KC.data) args with
  | some p =>
   (match pT ty H (kcs.flatMap fun k=>k.data.kinds) p with
   | some (v,H1) =>
    (match jp H1 base,({ tm:=kcs,ob:=[] }:Hint).ok with
    | .free,true=>some (bsz (R v),jB H1 base (.live (.var tv (mkL (XZ (R v)) 0 (cts.map CT.k1)))),.one (.ptr base 0))
    | _,_=>none)
   | none=>none)
  | none=>none)
 | none=>none
theorem jbX {cfg:Cfg} (hty:y9 P cfg.ty) (hm:P.follows .mixedOrders=true) (hfn:∀ f fi,cfg.fn f=some fi → FnOk P G cfg.ty f fi) {f:Nat} {fi:FI} {fd:Func} (h1:P.funcs[f]? = some fd) (h2:∀ h,fd.body=some (fi.body h).code) (h3:fd.ntmps=fi.ntmps)
  {t:Nat} (h4:fd.results.toList=[.tmp t]) (hpl:fi.pk.all PK.plain=true) {tv:Nat} {cts:List CT} {R:List DC → Out} (hRR:∀ v r,R v = .ret r → ∃ k,j3m cfg fi tv cts t ⟨fi.pk.map pkK,[]⟩ v k = .ret r):j7p P G cfg.ty f (j9x cfg.ty fi.pk R tv cts):=by
 intro A g tm H H' a w base n args vals c hA h hl hc e hn
 unfold j9x at e
 split at e
 ·rename_i kcs e1
  split at e
  ·rename_i p e3
   split at e
   ·rename_i v0 H1 e5
    split at e
    ·rename_i hfree hok
     simp only [j8,ji] at e
     obtain ⟨rfl,rfl,rfl⟩:=e
     have hR:∃ r,R v0 = .ret r:=by
      cases hx:R v0 with
      | ret r=>exact ⟨r,rfl⟩
      | _=>rw [hx] at hn; exact absurd hn (Nat.lt_irrefl _)
     obtain ⟨r,hR⟩:=hR
     obtain ⟨k,hk⟩:=hRR _ _ hR
     rw [← j5k hpl e1] at hk
     rw [hR]
     simp only [XZ]
     obtain ⟨hidn,hct⟩:=QJ hpl e1
     obtain ⟨g1,Ac,gc,r1,s1,hbeg,hI0,hplain,hrel,hlen⟩:=j5D h (fi:=fi) (vals:=vals) (kcs:=kcs) (kos:=[]) (p:=p) (q:=[]) (v0:=v0) (H1:=H1) (nr:=0) hl hc (by rw [hidn]; exact e1) (by rw [hidn]; rfl) e3 (by rw [hidn]; rfl) (by simpa using e5) (by rw [hidn]; rfl) (by simpa using hok)
     rw [hidn] at hbeg
     have hPm:=hplain hpl
     have hPv:∀ b,¬ Ac.Pv b:=fun b hb=>by
      obtain ⟨id,hid,_⟩:=hbeg.Pv b hb
      simp at hid
     have hw0:=hbeg.w0
     have hAc:AOk G Ac:=by
      refine ⟨?_,fun b hb=>?_⟩
      ·rw [hw0]
       refine G.dep A.w0 w (fun b hb=>?_) hA.1
       obtain ⟨z1,z2,z3⟩:=hA.2 b hb
       exact h.keep.block b z1 z2 z3
      ·obtain ⟨z1,z2,z3⟩:=hA.2 b hb
       exact ⟨by rw [hw0]; exact Nat.lt_of_lt_of_le z1 h.keep.size,hPv b,hPm b⟩
     have hcalls:=ja9 hty hm hfn h1 h2 h3 h4 hk (vals:=vals.toArray) hAc hrel (by simpa using hlen) hw0 hbeg.m
     refine Calls.mono hcalls fun en w' hen=>?_
     cases en with
     | returned rv =>
      obtain ⟨b,us,gr,H0r,H1r,rfl,o1,o4,f1,hnI,how,hI,hkeep⟩:=hen
      have hsz:w.heap.size ≤ w'.heap.size:=by have:=hkeep.size; rwa [hw0] at this
      have hbw:w.heap.size ≤ b:=by
       rcases how with hh | hh
       ·rwa [hw0] at hh
       ·exact absurd hh (hPv b)
      have hbl:∀ x,x < w.heap.size → w'.heap[x]? = w.heap[x]?:=fun x hx=>by
       have:=hkeep.block x (by rw [hw0]; exact hx) (hPv x) (hPm x)
       rwa [hw0] at this
      have hIr:∀ x,gr.I x → x < w.heap.size → g1.I x:=fun x hx hlt=>by
       rcases (hI x hx).2 with hh | hh | hh
       ·rwa [hI0] at hh
       ·rw [hw0] at hh; omega
       ·exact absurd hh (hPm x)
      let g2:Gh:={ g1 with I:=fun x=>g1.I x ∨ gr.I x }
      have hch:Ch g1 g2 H1 H1 w w':=⟨fun x hx=>.inl hx,fun x hx=>hbl x (r1.lt x hx),fun _ hn=>hn,fun _ _ hr=>⟨hr,rfl⟩,fun _ _ hr=>⟨hr,rfl⟩⟩
      have hosame:∀ i o,jM g2 i o=jM g1 i o:=fun i o=>Kh rfl rfl rfl i o
      have hold:∀ i o x,jp H1 i = .live o → jM g1 i o x → x < w.heap.size ∧ ¬ g2.I x:=fun i o x hi hx=>by
       have hlt:=r1.oblk_lt hi hx
       have hn1:=yo r1 hi hx
       refine ⟨hlt,fun hh=>?_⟩
       rcases hh with hh | hh
       ·exact hn1 hh
       ·exact hn1 (hIr x hh hlt)
      have r2:Rel cfg.ty A g2 ⟨tm,H1⟩ a w':=by
       refine r1.ch hch (fun id o ho=>OR.mono hch rfl rfl rfl (fun x hx=>⟨hbl x (hold id o x ho hx).1,(hold id o x ho hx).2⟩) (r1.ob id o ho)) (fun i j o p x hij hi hj hx hx'=>?_) (fun x hx=>?_) (fun x hx=>?_) (fun id o x ho hx=>?_) (fun j hj hv=>r1.pb j hj hv) ?_
       ·rw [hosame] at hx hx'
        exact r1.sep i j o p x hij hi hj hx hx'
       ·rcases hx with hx | hx
        ·exact Nat.lt_of_lt_of_le (r1.lt x hx) hsz
        ·exact (hI x hx).1
       ·rcases hx with hx | hx
        ·exact r1.inI x hx
        ·rcases (hI x hx).2 with hh | hh | hh
         ·rw [hI0] at hh; exact r1.inI x hh
         ·rw [hw0] at hh; exact .inr (.inl (Nat.le_trans h.keep.size hh))
         ·exact absurd hh (hPm x)
       ·rw [hosame] at hx
        exact r1.ow id o x ho hx
       ·exact r1.keep.trans (by rw [hkeep.os,hw0]) (by rw [hkeep.tape,hw0]) (by rw [hkeep.output,hw0]) hsz fun x hx _ _=>hbl x (Nat.lt_of_lt_of_le hx r1.keep.size)
      let g3:Gh:={ I:=g2.I,blk:=fun i=>if i=base then b else g2.blk i,val:=g2.val,dom:=g2.dom }
      have hb3:g3.blk base=b:=by simp [g3]
      have hlt:=kM hfree
      have hnb:¬ g2.I b:=fun hh=>by
       rcases hh with hh | hh
       ·exact absurd (r1.lt b hh) (by omega)
       ·exact hnI hh
      have hks:(cts.map CT.k1).map K1.data=cts.map CT.k1:=V9 fun k hk=>by
       obtain ⟨c,_,rfl⟩:=List.mem_map.1 hk
       exact ⟨c,rfl⟩
      have hkc:∀ {i:Nat} {k:K1},(cts.map CT.k1)[i]? = some k → ∃ c:CT,k=c.k1:=fun {i k} hk=>by
       obtain ⟨c,_,hc⟩:=List.mem_map.1 (List.mem_of_getElem? hk)
       exact ⟨c,hc.symm⟩
      have hu:=r2.upd (id:=base) (x:=.live (.var tv (mkL r 0 (cts.map CT.k1)))) (g':=g3) (w':=w') hlt (by simp) rfl (fun i hi=>by simp [g3,hi]) (fun hn=>absurd hn (kx hfree)) (fun hn=>absurd hn (kx hfree))
       (fun x hx=>rfl) (Nat.le_refl _)
       (fun hch3 p hp=>by
        obtain rfl:Obj'.var tv (mkL r 0 (cts.map CT.k1))=p:=by simpa using hp
        refine ⟨⟨us,by rw [hb3]; exact o1,?_,by rw [hb3]; exact hnb,o4⟩,fun x hx=>?_⟩
        ·refine YY (g:=gr) (g':=g3) (fun x hx=>.inr hx) (by rw [hks]; exact f1) (fun i e id u h1 h2=>?_) (fun i m off u h1 h2=>?_) (fun i f caps u h1 h2=>?_)
         ·obtain ⟨c,hc⟩:=hkc h1
          cases c <;> simp [CT.k1] at hc
         ·obtain ⟨c,hc⟩:=hkc h1
          cases c <;> simp [CT.k1] at hc
         ·obtain ⟨c,hc⟩:=hkc h1
          cases c <;> simp [CT.k1] at hc
        ·have hx:g3.blk base=x:=hx
         rw [hb3] at hx
         subst hx
         refine ⟨hnb,.inl (Nat.le_trans h.keep.size hbw),fun i p _ hi hp'=>?_⟩
         rw [hosame] at hp'
         have:=(hold i p b hi hp').1
         omega)
       (fun hm _=>absurd (r2.nfm base hm) (kx hfree)) r2.keep
      exact ⟨_,g3,rfl,hu.1,fun x hx=>.inl (s1.I x hx),⟨qj (jt _ hlt),rfl,fun _=>by rw [hb3]⟩⟩
     | panicked ch=>exact hen.elim
     | outgrown=>exact hen.elim
    ·simp at e
   ·simp at e
  ·simp at e
 ·simp at e
theorem jag {cfg:Cfg} (hty:y9 P cfg.ty) (hm:P.follows .mixedOrders=true) (hfn:∀ f fi,cfg.fn f=some fi → FnOk P G cfg.ty f fi) {f:Nat} {fi:FI} (hfi:FnOk P G cfg.ty f fi) (hp:fi.prim=none)
  {t:Nat} (h4:fi.res=[.tmp t]) (hpl:fi.pk.all PK.plain=true) {tv:Nat} {cts:List CT} {R:List DC → Out} (hRR:∀ v r,R v = .ret r → ∃ k,j3m cfg fi tv cts t ⟨fi.pk.map pkK,[]⟩ v k = .ret r) :
  FnOk P G cfg.ty f { fi with stf:=some (j9x cfg.ty fi.pk R tv cts) }:=by
 obtain ⟨fd,h1,_,_,h2⟩:=hfi.ex
 obtain ⟨k1,k2,k3⟩:=h2 hp
 exact ⟨hfi.ex,hfi.prim,hfi.mark,fun q' e=>by (cases e; exact jbX hty hm hfn h1 k1 k2 (k3.trans h4) hpl hRR)⟩
end
abbrev ou:KC:=.one .u
abbrev ob:KC:=.one .b
abbrev os:KC:=.one .s
abbrev oi:KC:=.one (.i .i64)
abbrev ol (e:Nat):KC:=.one (.sl e)
def uu (n:Nat) (l:List KC):List KC:=List.replicate n (.one .u) ++ l
def vv (n:Nat) (l:List KO):List KO:=List.replicate n .u ++ l
noncomputable def tyL:List (Nat × TI):=[(3,⟨.int .i64,[.i .i64],8,[],false⟩),
 (4,⟨.bool,[.b],1,[],false⟩),
 (5,⟨.int .u8,[.i .u8],1,[],false⟩),
 (9,⟨.str,[.s],16,[],false⟩),
 (22,⟨.slice 5,[.sl 5],24,[],false⟩),
 (24,⟨.slice 37,[.sl 37],24,[],false⟩),
 (25,⟨.slice 125,[.sl 125],24,[],false⟩),
 (27,⟨.struct,[.sl 37,.sl 37,.sl 125],72,[(0,1,false),(1,1,false),(2,1,false)],false⟩),
 (29,⟨.slice 3,[.sl 3],24,[],false⟩),
 (31,⟨.slice 9,[.sl 9],24,[],false⟩),
 (32,⟨.slice 199,[.sl 199],24,[],false⟩),
 (33,⟨.slice 196,[.sl 196],24,[],false⟩),
 (34,⟨.slice 201,[.sl 201],24,[],false⟩),
 (35,⟨.slice 191,[.sl 191],24,[],false⟩),
 (37,⟨.struct,[.i .i64,.b,.s,.s,.sl 9,.sl 199,.sl 196,.sl 201,.sl 125,.b,.sl 191],200,[(0,1,false),(1,1,false),(2,1,false),(3,1,false),(4,1,false),(5,1,false),(6,1,false),(7,1,false),(8,1,false),(9,1,false),(10,1,false)],false⟩),
 (42,⟨.struct,[.s,.s],32,[(0,1,false),(1,1,false)],true⟩),
 (60,⟨.slice 145,[.sl 145],24,[],false⟩),
 (62,⟨.struct,[.i .i64,.i .i64],16,[(0,1,false),(1,1,false)],false⟩),
 (68,⟨.struct,[.sl 5,.i .i64,.i .i64],40,[(0,1,false),(1,1,false),(2,1,false)],false⟩),
 (76,⟨.slice 116,[.sl 116],24,[],false⟩),
 (78,⟨.struct,[.sl 116],24,[(0,1,false)],false⟩),
 (84,⟨.slice 31,[.sl 31],24,[],false⟩),
 (104,⟨.slice 159,[.sl 159],24,[],false⟩),
 (106,⟨.struct,[.sl 159,.i .i64,.i .i64,.i .i64,.i .i64],56,[(0,1,false),(1,1,false),(2,1,false),(3,2,true)],false⟩),
 (109,⟨.slice 186,[.sl 186],24,[],false⟩),
 (110,⟨.slice 194,[.sl 194],24,[],false⟩),
 (112,⟨.struct,[.i .i64,.s,.sl 186,.sl 191,.sl 194],96,[(0,1,false),(1,1,false),(2,1,false),(3,1,false),(4,1,false)],false⟩),
 (114,⟨.struct,[.s,.s,.sl 191,.sl 194],80,[(0,1,false),(1,1,false),(2,1,false),(3,1,false)],false⟩),
 (116,⟨.struct,[.i .i64,.i .i64,.s,.sl 186,.sl 191,.sl 194,.s,.s,.sl 191,.sl 194,.i .i64,.b,.s,.s,.sl 9,.sl 199,.sl 196,.sl 201,.sl 125,.b,.sl 191],384,[(0,1,false),(1,5,true),(6,4,true),(10,11,true)],false⟩),
 (125,⟨.struct,[.i .i64,.s],24,[(0,1,false),(1,1,false)],false⟩),
 (145,⟨.struct,[.i .i64,.s,.s],40,[(0,1,false),(1,1,false),(2,1,false)],false⟩),
 (159,⟨.struct,[.i .i64,.s,.i .i64],32,[(0,1,false),(1,1,false),(2,1,false)],false⟩),
 (182,⟨.slice 184,[.sl 184],24,[],false⟩),
 (184,⟨.struct,[.i .i64,.s,.sl 184,.sl 9],72,[(0,1,false),(1,1,false),(2,1,false),(3,1,false)],false⟩),
 (186,⟨.struct,[.s,.s,.s,.b,.i .i64,.s,.sl 184,.sl 9,.sl 191],152,[(0,1,false),(1,2,true),(3,1,false),(4,4,true),(8,1,false)],false⟩),
 (189,⟨.slice 212,[.sl 212],24,[],false⟩),
 (191,⟨.struct,[.s,.sl 212],40,[(0,1,false),(1,1,false)],false⟩),
 (194,⟨.struct,[.i .i64,.s,.s,.s,.sl 212,.sl 191,.sl 194],128,[(0,1,false),(1,1,false),(2,1,false),(3,1,false),(4,1,false),(5,1,false),(6,1,false)],false⟩),
 (196,⟨.struct,[.s,.s,.s,.s,.b,.i .i64,.s,.sl 184,.sl 9,.sl 191],168,[(0,1,false),(1,1,false),(2,2,true),(4,1,false),(5,4,true),(9,1,false)],false⟩),
 (199,⟨.struct,[.s,.s,.sl 196,.s,.s,.sl 191],112,[(0,1,false),(1,1,false),(2,1,false),(3,2,true),(5,1,false)],false⟩),
 (201,⟨.struct,[.s,.s,.sl 191],56,[(0,1,false),(1,1,false),(2,1,false)],false⟩),
 (212,⟨.struct,[.s,.i .i64,.s,.sl 184,.sl 9],88,[(0,1,false),(1,4,true)],false⟩)]
theorem tys:tyB Tryz.prog tyL=true:=by kernel_rfl
noncomputable def fi3:FI:=jE Tryz.f3 22 [.ct (.sl 5)] [(false,[.ct .b])] (fun _=>(.s .n (.s .n (.s (.r [0,0,0,0] none) (.s (.r [0,0,1,0] none) (.s (.r [0,2,0] none) (.s .n (.s .n (.s (.r [0,0,3,0] none) (.s (.r [0,0,4,0] none) (.s .n (.s (.s .n (.b (.b (.s .n (.s (.b (.s (.s (.r [] (some ⟨uu 3 (.one (.ptr 0 0) :: .one (.ptr 1 0) :: ou :: os :: os :: .one (.own 9 7) :: .one (.own 9 8) :: ob :: oi :: uu 80 (ob :: uu 112 [])),.var 27 [.sl 37,.sl 37,.sl 125] :: .var 27 [.sl 37,.sl 37,.sl 125] :: vv 20 []⟩)) .n) (.s .n (.b (.b (.s .n (.s (.b (.r [] (some ⟨uu 3 (.one (.ptr 0 0) :: .one (.ptr 1 0) :: ou :: os :: os :: .one (.own 9 11) :: .one (.own 9 12) :: ob :: oi :: oi :: uu 192 []),.var 27 [.sl 37,.sl 37,.sl 125] :: .var 27 [.sl 37,.sl 37,.sl 125] :: vv 20 []⟩)) ⟨uu 3 (.one (.ptr 0 0) :: .one (.ptr 1 0) :: ou :: os :: os :: .one (.own 9 13) :: .one (.own 9 14) :: ob :: oi :: oi :: uu 192 []),.var 27 [.sl 37,.sl 37,.sl 125] :: .var 27 [.sl 37,.sl 37,.sl 125] :: vv 20 []⟩) .n)) ⟨uu 3 (.one (.ptr 0 0) :: .one (.ptr 1 0) :: ou :: os :: os :: .one (.own 9 9) :: .one (.own 9 10) :: ob :: oi :: oi :: uu 192 []),.var 27 [.sl 37,.sl 37,.sl 125] :: .var 27 [.sl 37,.sl 37,.sl 125] :: vv 20 []⟩) ⟨uu 3 (.one (.ptr 0 0) :: .one (.ptr 1 0) :: ou :: os :: os :: .one (.own 9 15) :: .one (.own 9 16) :: ob :: oi :: uu 193 []),.var 27 [.sl 37,.sl 37,.sl 125] :: .var 27 [.sl 37,.sl 37,.sl 125] :: vv 20 []⟩))) ⟨uu 3 (.one (.ptr 0 0) :: .one (.ptr 1 0) :: ou :: os :: os :: .one (.own 9 17) :: .one (.own 9 18) :: ob :: oi :: uu 193 []),.var 27 [.sl 37,.sl 37,.sl 125] :: .var 27 [.sl 37,.sl 37,.sl 125] :: vv 20 []⟩) .n)) ⟨uu 3 (.one (.ptr 0 0) :: .one (.ptr 1 0) :: ou :: os :: os :: .one (.own 9 5) :: .one (.own 9 6) :: ob :: oi :: uu 193 []),.var 27 [.sl 37,.sl 37,.sl 125] :: .var 27 [.sl 37,.sl 37,.sl 125] :: vv 20 []⟩) ⟨uu 3 (.one (.ptr 0 0) :: .one (.ptr 1 0) :: ou :: os :: os :: .one (.own 9 19) :: ou :: ob :: uu 194 []),.var 27 [.sl 37,.sl 37,.sl 125] :: .var 27 [.sl 37,.sl 37,.sl 125] :: vv 20 []⟩)) (.s (.r [0,0,20,0] none) (.s (.r [0,0,0,21,0,0,0,0,0,0,0,0,0,0,0,0,0,0,0,0,0,0,0,0,0,0,0,0,0,0,0,0,0,0,0,0,0,0,0,0,0,0,0,0,0,0,0,0,0,0,0,0,0,0,0,0,0,0,0,0,0,0,0,0,0,0,0,0,0,0,0,0,0,0,0,0,0,0,0,0,0,0,0,0,0,0,0,0,0,0,0,0,0] (some ⟨ou :: ou :: ob :: uu 202 [],vv 22 []⟩)) .n))))))))))))))
noncomputable def fi4:FI:=jE Tryz.f4 0 [.ct (.sl 5)] [(false,[.ct .b])] (fun _=>.n)
noncomputable def fi5:FI:=jE Tryz.f5 2 [.ct (.sl 5)] [(true,[.ct (.sl 37),.ct (.sl 37),.ct (.sl 125)])] (fun _=>(.s (.r [0] none) (.s (.r [0,1,0,0] none) .n)))
noncomputable def fi6:FI:=jE Tryz.f6 8 [.ct (.sl 5)] [(false,[.new 3])] (fun _=>(.s .n (.s (.r [0,0,0] none) (.s .n (.s (.r [2,0] none) (.s (.s .n (.b (.b (.s .n (.s (.b (.r [0,0,0,4,5,0] none) ⟨uu 3 (.one (.ptr 0 0) :: .one (.own 3 6) :: oi :: uu 15 []),.var 68 [.sl 5,.i .i64,.i .i64] :: vv 7 []⟩) .n)) ⟨uu 3 (.one (.ptr 0 0) :: .one (.own 3 3) :: oi :: uu 15 []),.var 68 [.sl 5,.i .i64,.i .i64] :: vv 7 []⟩) ⟨uu 4 (.one (.own 3 7) :: uu 16 []),vv 8 []⟩)) .n))))))
noncomputable def fi7:FI:=jE Tryz.f7 16 [.ag [.sl 37,.sl 37,.sl 125],.ct .s] [(false,[.new 9])] (fun _=>(.s (.r [0,0] none) (.s (.r [0,0,0,0,0,0,1,0,0] none) (.s (.r [2,0] none) (.s (.s .n (.b (.b (.s .n (.s .n (.s (.b (.s (.r [0,0,4,0] none) (.s .n (.s (.s .n (.b (.s .n (.c .n (.s .n (.c .n (.s .n (.c .n .n (some ⟨ou :: os :: uu 3 (.one (.ptr 1 0) :: ou :: .one (.own 9 5) :: ou :: .one (.ptr 4 0) :: ob :: uu 8 (ol 37 :: oi :: oi :: uu 40 [])),.u :: .var 37 [.i .i64,.b,.s,.s,.sl 9,.sl 199,.sl 196,.sl 201,.sl 125,.b,.sl 191] :: .u :: .u :: .var 37 [.i .i64,.b,.s,.s,.sl 9,.sl 199,.sl 196,.sl 201,.sl 125,.b,.sl 191] :: vv 11 []⟩))) (some ⟨ou :: os :: uu 3 (.one (.ptr 1 0) :: ou :: .one (.own 9 6) :: ou :: .one (.ptr 4 0) :: ob :: uu 8 (ol 37 :: oi :: oi :: uu 40 [])),.u :: .var 37 [.i .i64,.b,.s,.s,.sl 9,.sl 199,.sl 196,.sl 201,.sl 125,.b,.sl 191] :: .u :: .u :: .var 37 [.i .i64,.b,.s,.s,.sl 9,.sl 199,.sl 196,.sl 201,.sl 125,.b,.sl 191] :: vv 11 []⟩))) (some ⟨ou :: os :: uu 3 (.one (.ptr 1 0) :: ou :: .one (.own 9 7) :: ou :: .one (.ptr 4 0) :: ob :: uu 8 (ol 37 :: oi :: oi :: uu 40 [])),.u :: .var 37 [.i .i64,.b,.s,.s,.sl 9,.sl 199,.sl 196,.sl 201,.sl 125,.b,.sl 191] :: .u :: .u :: .var 37 [.i .i64,.b,.s,.s,.sl 9,.sl 199,.sl 196,.sl 201,.sl 125,.b,.sl 191] :: vv 11 []⟩))) ⟨ou :: os :: uu 3 (.one (.ptr 1 0) :: ou :: .one (.own 9 8) :: ou :: .one (.ptr 4 0) :: ob :: uu 8 (ol 37 :: oi :: oi :: uu 40 [])),.u :: .var 37 [.i .i64,.b,.s,.s,.sl 9,.sl 199,.sl 196,.sl 201,.sl 125,.b,.sl 191] :: .u :: .u :: .var 37 [.i .i64,.b,.s,.s,.sl 9,.sl 199,.sl 196,.sl 201,.sl 125,.b,.sl 191] :: vv 11 []⟩)) (.s (.r [] (some ⟨ou :: os :: uu 3 (.one (.ptr 1 0) :: ou :: .one (.own 9 9) :: ou :: .one (.ptr 4 0) :: uu 9 (ol 37 :: oi :: oi :: uu 29 (ob :: uu 10 []))),.u :: .var 37 [.i .i64,.b,.s,.s,.sl 9,.sl 199,.sl 196,.sl 201,.sl 125,.b,.sl 191] :: .u :: .u :: .var 37 [.i .i64,.b,.s,.s,.sl 9,.sl 199,.sl 196,.sl 201,.sl 125,.b,.sl 191] :: vv 11 []⟩)) (.c (.r [0,0,0,10,11,0] none) .n (some ⟨ou :: os :: uu 3 (.one (.ptr 1 0) :: ou :: .one (.own 9 12) :: uu 11 (ol 37 :: oi :: oi :: uu 40 [])),.u :: .var 37 [.i .i64,.b,.s,.s,.sl 9,.sl 199,.sl 196,.sl 201,.sl 125,.b,.sl 191] :: vv 14 []⟩)))))) ⟨ou :: os :: uu 3 (.one (.ptr 1 0) :: ou :: .one (.own 9 13) :: uu 11 (ol 37 :: oi :: oi :: uu 40 [])),.u :: .var 37 [.i .i64,.b,.s,.s,.sl 9,.sl 199,.sl 196,.sl 201,.sl 125,.b,.sl 191] :: vv 14 []⟩) .n))) ⟨ou :: os :: uu 3 (.one (.ptr 1 0) :: ou :: .one (.own 9 3) :: uu 11 (ol 37 :: oi :: oi :: uu 40 [])),.u :: .var 37 [.i .i64,.b,.s,.s,.sl 9,.sl 199,.sl 196,.sl 201,.sl 125,.b,.sl 191] :: vv 14 []⟩) ⟨uu 7 (.one (.own 9 14) :: uu 54 []),vv 16 []⟩)) (.s .n (.s (.r [0,15,0] none) .n)))))))
noncomputable def fi8:FI:=jE Tryz.f8 2 [.ag [.sl 37,.sl 37,.sl 125],.ct .s] [(false,[.ct (.i .i64)])] (fun _=>(.s (.r [0,0] none) (.s (.r [0,0,0,0,0,0,1,0,0] none) (.s (.b .n ⟨uu 20 [],.u :: .u :: []⟩) .n))))
noncomputable def fi9:FI:=jE Tryz.f9 5 [.ag [.sl 37,.sl 37,.sl 125],.ag [.s,.s],.ag [.s,.s]] [(false,[.ct .b])] (fun _=>(.s (.r [0,1,2,0] none) (.s (.r [0,0,0,0,0,3,0,0] none) (.s (.r [0,0,0,0,0,4,0,0] none) (.s (.b (.s .n (.c (.s (.r [] (some ⟨uu 6 (ob :: uu 65 []),vv 5 []⟩)) .n) .n none)) ⟨uu 3 (.one (.ptr 0 0) :: .one (.ptr 1 0) :: .one (.ptr 2 0) :: ou :: .one (.ptr 3 0) :: ou :: .one (.ptr 4 0) :: uu 62 []),.var 27 [.sl 37,.sl 37,.sl 125] :: .var 42 [.s,.s] :: .var 42 [.s,.s] :: .var 42 [.s,.s] :: .var 42 [.s,.s] :: []⟩) (.s .n (.s .n (.s (.s (.r [] (some ⟨uu 3 (.one (.ptr 0 0) :: .one (.ptr 1 0) :: .one (.ptr 2 0) :: ou :: .one (.ptr 3 0) :: ou :: .one (.ptr 4 0) :: uu 41 (ob :: uu 20 [])),.var 27 [.sl 37,.sl 37,.sl 125] :: .var 42 [.s,.s] :: .var 42 [.s,.s] :: .var 42 [.s,.s] :: .var 42 [.s,.s] :: []⟩)) .n) (.s (.r [] (some ⟨uu 6 (ob :: uu 65 []),vv 5 []⟩)) .n)))))))))
noncomputable def jfk:FI:=jE Tryz.f11 14 [.ag [.sl 37,.sl 37,.sl 125],.ct .s] [(false,[.new 9])] (fun _=>(.s (.r [0,0] none) (.s (.r [2,0] none) (.s .n (.s .n (.s (.r [0,0,0,0,0,3,0] none) (.s (.s .n (.b (.b (.s .n (.s (.b (.s (.r [0,0,0,0,0,5,0] none) (.s .n (.s (.r [] (some ⟨ou :: os :: .one (.ptr 0 0) :: ou :: ou :: .one (.own 9 6) :: ou :: .one (.ptr 3 0) :: oi :: .one (.ptr 5 0) :: uu 58 (ob :: uu 7 []),.var 27 [.sl 37,.sl 37,.sl 125] :: .u :: .u :: .var 37 [.i .i64,.b,.s,.s,.sl 9,.sl 199,.sl 196,.sl 201,.sl 125,.b,.sl 191] :: .u :: .var 37 [.i .i64,.b,.s,.s,.sl 9,.sl 199,.sl 196,.sl 201,.sl 125,.b,.sl 191] :: vv 8 []⟩)) (.c (.r [0,0,0,8,9,0] none) .n (some ⟨ou :: os :: .one (.ptr 0 0) :: ou :: ou :: .one (.own 9 10) :: ou :: .one (.ptr 3 0) :: oi :: uu 67 [],.var 27 [.sl 37,.sl 37,.sl 125] :: .u :: .u :: .var 37 [.i .i64,.b,.s,.s,.sl 9,.sl 199,.sl 196,.sl 201,.sl 125,.b,.sl 191] :: vv 10 []⟩))))) ⟨ou :: os :: .one (.ptr 0 0) :: ou :: ou :: .one (.own 9 11) :: ou :: .one (.ptr 3 0) :: oi :: uu 67 [],.var 27 [.sl 37,.sl 37,.sl 125] :: .u :: .u :: .var 37 [.i .i64,.b,.s,.s,.sl 9,.sl 199,.sl 196,.sl 201,.sl 125,.b,.sl 191] :: vv 10 []⟩) .n)) ⟨ou :: os :: .one (.ptr 0 0) :: ou :: ou :: .one (.own 9 4) :: ou :: .one (.ptr 3 0) :: oi :: uu 67 [],.var 27 [.sl 37,.sl 37,.sl 125] :: .u :: .u :: .var 37 [.i .i64,.b,.s,.s,.sl 9,.sl 199,.sl 196,.sl 201,.sl 125,.b,.sl 191] :: vv 10 []⟩) ⟨uu 5 (.one (.own 9 12) :: uu 70 []),vv 14 []⟩)) (.s (.r [0,13,0] none) .n))))))))
noncomputable def jfl:FI:=jE Tryz.f10 0 [.ct (.sl 9),.ct (.sl 9)] [(false,[.ct .b])] (fun _=>(.s .n (.s .n (.s (.s .n (.b (.b (.s .n (.s (.b .n ⟨ol 9 :: ol 9 :: uu 3 (oi :: uu 20 []),[]⟩) .n)) ⟨ol 9 :: ol 9 :: uu 3 (oi :: uu 20 []),[]⟩) ⟨uu 26 [],[]⟩)) .n))))
noncomputable def jfj:FI:=jE Tryz.f12 4 [.ag [.sl 37,.sl 37,.sl 125],.ct .s,.ct .s] [(false,[.ct .b])] (fun _=>(.s (.r [0,0] none) (.s (.r [0,0,1,2,0] none) (.s (.r [0,0,3,0,0,0] none) .n))))
noncomputable def jfi:FI:=jE Tryz.f13 1 [.ag [.sl 37,.sl 37,.sl 125],.ct .s] [(false,[.ct .b])] (fun _=>(.s (.r [0,0] none) (.s .n (.s (.r [] (some ⟨uu 4 (ob :: uu 14 []),.u :: []⟩)) .n))))
noncomputable def jfh:FI:=jE Tryz.f14 1 [.ag [.sl 37,.sl 37,.sl 125],.ct .s] [(false,[.ct (.i .i64)])] (fun _=>(.s (.r [0,0] none) .n))
noncomputable def jfg:FI:=jE Tryz.f15 1 [.ag [.sl 37,.sl 37,.sl 125],.ct .s] [(false,[.ct .b])] (fun _=>(.s (.r [0,0] none) (.s .n (.s (.r [] (some ⟨uu 4 (ob :: uu 10 []),.u :: []⟩)) .n))))
noncomputable def jff:FI:=jE Tryz.f16 1 [.ag [.sl 37,.sl 37,.sl 125],.ct .s] [(false,[.ct .b])] (fun _=>(.s (.r [0,0] none) (.s .n (.s (.r [] (some ⟨uu 4 (ob :: uu 14 []),.u :: []⟩)) .n))))
noncomputable def jfe:FI:=jE Tryz.f17 1 [.ag [.sl 37,.sl 37,.sl 125],.ct .s] [(false,[.ct .b])] (fun _=>(.s (.r [0,0] none) (.s .n (.s (.r [] (some ⟨uu 4 (ob :: uu 10 []),.u :: []⟩)) .n))))
noncomputable def j35:FI:=jE Tryz.f19 1 [.ct (.sl 5)] [] (fun _=>(.s .n (.s .n (.s (.s .n (.b (.b (.s (.s (.r [] (some ⟨ol 5 :: ou :: ou :: oi :: oi :: uu 10 (ob :: uu 16 []),.u :: []⟩)) .n) (.s (.b .n ⟨ol 5 :: ou :: ou :: oi :: oi :: uu 27 [],.u :: []⟩) .n)) ⟨ol 5 :: ou :: ou :: oi :: oi :: uu 27 [],.u :: []⟩) ⟨ol 5 :: ou :: ou :: oi :: uu 28 [],.u :: []⟩)) (.s (.r [0,0,0,0,0] none) .n)))))
noncomputable def jfd:FI:=jE Tryz.f18 4 [.ptr] [(true,[.ct (.sl 37),.ct (.sl 37),.ct (.sl 125)])] (fun _=>(.s (.r [1] none) (.s (.r [0,0,0,0,0,0,0,2,3,0,0,0] none) (.s (.s (.r [] (some ⟨ou :: ou :: .one (.ptr 1 0) :: .one (.ptr 2 0) :: uu 16 (ob :: ou :: ou :: []),.var 68 [.sl 5,.i .i64,.i .i64] :: .var 27 [.nil,.nil,.nil] :: .var 27 [.sl 37,.sl 37,.sl 125] :: .u :: []⟩)) .n) .n))))
noncomputable def jfb:FI:=jE Tryz.f20 1 [.ptr] [(false,[.ct (.i .i64)])] (fun _=>(.s .n (.s .n (.s .n (.s (.s .n (.c .n .n (some ⟨uu 3 (oi :: uu 54 []),.var 68 [.sl 5,.i .i64,.i .i64] :: []⟩))) .n)))))
noncomputable def jfa:FI:=jE Tryz.f21 1 [.ptr,.ct (.i .i64)] [(false,[.ct (.i .i64)])] (fun _=>.n)
noncomputable def jf9:FI:=jE Tryz.f22 2 [.ag [.sl 37,.sl 37,.sl 125],.ct .s] [(true,[.ct (.i .i64),.ct .b,.ct .s,.ct .s,.ct (.sl 9),.ct (.sl 199),.ct (.sl 196),.ct (.sl 201),.ct (.sl 125),.ct .b,.ct (.sl 191)]),(false,[.ct .b])] (fun _=>(.s (.r [0,1,0] none) .n))
noncomputable def jf8:FI:=jE Tryz.f23 0 [.ct (.sl 9),.ct .s] [(false,[.ct .b])] (fun _=>.n)
noncomputable def jf5:FI:=jE Tryz.f26 0 [.ct .s] [(false,[.ct .b])] (fun _=>(.s .n (.s (.s .n (.b (.s (.s .n (.c .n (.s .n (.c .n (.s .n (.c .n (.s .n (.c .n .n (some ⟨uu 4 (ob :: uu 5 []),[]⟩))) (some ⟨uu 4 (ob :: uu 5 []),[]⟩))) (some ⟨uu 4 (ob :: uu 5 []),[]⟩))) (some ⟨uu 4 (ob :: uu 5 []),[]⟩))) .n) ⟨uu 10 [],[]⟩)) .n)))
noncomputable def jf4:FI:=jE Tryz.f27 2 [.ag [.s,.s],.ct .s] [(true,[.ct .s,.ct .s]),(false,[.ct .b])] (fun _=>(.s (.r [0,1,0] none) .n))
noncomputable def jf3:FI:=jE Tryz.f28 3 [.ag [.sl 37,.sl 37,.sl 125],.ct .s,.ct .s] [(false,[.ct .b])] (fun _=>(.s (.r [0,0] none) (.s (.r [0,0,0,0,0,0,1,0,0] none) (.s (.r [0,0,0,0,0,0,2,0,0] none) (.s (.b (.s .n (.c .n (.s .n (.c (.s (.r [] (some ⟨uu 6 (ob :: uu 51 []),vv 3 []⟩)) .n) (.s .n (.c (.s (.r [] (some ⟨uu 6 (ob :: uu 51 []),vv 3 []⟩)) .n) .n none)) none)) none)) ⟨uu 58 [],vv 3 []⟩) .n)))))
noncomputable def jf2:FI:=jE Tryz.f29 1 [.ag [.sl 37,.sl 37,.sl 125],.ct .s] [(false,[.ct (.i .i64)])] (fun _=>(.s (.r [0,0] none) (.s (.s .n (.b (.b (.s (.s (.r [] (some ⟨ou :: os :: .one (.ptr 0 0) :: ou :: ou :: oi :: uu 10 (ob :: uu 11 []),.var 27 [.sl 37,.sl 37,.sl 125] :: []⟩)) .n) (.s (.b .n ⟨ou :: os :: .one (.ptr 0 0) :: ou :: ou :: oi :: uu 22 [],.var 27 [.sl 37,.sl 37,.sl 125] :: []⟩) .n)) ⟨ou :: os :: .one (.ptr 0 0) :: ou :: ou :: oi :: uu 22 [],.var 27 [.sl 37,.sl 37,.sl 125] :: []⟩) ⟨uu 28 [],.u :: []⟩)) .n)))
noncomputable def jf1:FI:=jE Tryz.f30 0 [.ct (.sl 9),.ct .s] [(false,[.ct .b])] (fun _=>(.s .n (.s (.s .n (.b (.b (.s .n (.s (.b .n ⟨ol 9 :: os :: uu 3 (oi :: uu 12 []),[]⟩) .n)) ⟨ol 9 :: os :: uu 3 (oi :: uu 12 []),[]⟩) ⟨uu 18 [],[]⟩)) .n)))
noncomputable def jf0:FI:=jE Tryz.f31 29 [.ct (.sl 9)] [(false,[.new 9])] (fun _=>(.s .n (.s (.s .n (.c (.s (.r [0,0,1,0] none) .n) .n none)) (.s (.r [0,0,0,0,0,2,0] none) (.s (.r [0,0,0,0,0,3,0] none) (.s (.r [4,0] none) (.s .n (.s .n (.s (.b (.b (.s (.s (.r [] (some ⟨uu 3 (.one (.own 9 8) :: .one (.own 9 9) :: .one (.own 9 10) :: oi :: oi :: uu 29 (ob :: uu 51 [])),vv 29 []⟩)) .n) (.b (.s .n (.s (.s (.r [] (some ⟨uu 3 (.one (.own 9 11) :: .one (.own 9 12) :: .one (.own 9 13) :: oi :: oi :: uu 50 (ob :: uu 30 [])),vv 29 []⟩)) (.c .n .n (some ⟨uu 3 (.one (.own 9 14) :: .one (.own 9 15) :: .one (.own 9 16) :: oi :: oi :: os :: uu 80 []),vv 29 []⟩))) (.s (.r [] (some ⟨uu 3 (.one (.own 9 17) :: .one (.own 9 18) :: .one (.own 9 19) :: oi :: oi :: os :: uu 74 (ob :: uu 5 [])),vv 29 []⟩)) (.c (.r [0,0,20,21,0] none) .n (some ⟨uu 3 (.one (.own 9 22) :: .one (.own 9 23) :: .one (.own 9 24) :: oi :: oi :: uu 81 []),vv 29 []⟩))))) ⟨uu 3 (.one (.own 9 25) :: .one (.own 9 26) :: .one (.own 9 27) :: oi :: oi :: uu 81 []),vv 29 []⟩)) ⟨uu 3 (.one (.own 9 5) :: .one (.own 9 6) :: .one (.own 9 7) :: oi :: oi :: uu 81 []),vv 29 []⟩) ⟨uu 5 (.one (.own 9 28) :: uu 83 []),vv 29 []⟩) .n)))))))))
noncomputable def jeZ:FI:=jE Tryz.f32 1 [.ct (.sl 9),.fn] [(false,[.ct .b])] (fun _=>.n)
noncomputable def jeX:FI:=jE Tryz.f34 0 [.ct .s] [(false,[.ct .b])] (fun _=>(.s .n (.s (.r [] (some ⟨ou :: ou :: ob :: uu 18 [],[]⟩)) .n)))
noncomputable def jeV:FI:=jE Tryz.f36 69 [.ptr] [(false,[.ct .s])] (fun _=>(.s .n (.s (.r [1,0] none) (.s .n (.s (.s .n (.b (.b (.s .n (.s (.b .n ⟨.one (.ptr 0 0) :: ou :: ou :: .one (.own 9 3) :: os :: oi :: uu 72 [],.var 68 [.sl 5,.i .i64,.i .i64] :: vv 68 []⟩) .n)) ⟨.one (.ptr 0 0) :: ou :: ou :: .one (.own 9 2) :: os :: oi :: uu 72 [],.var 68 [.sl 5,.i .i64,.i .i64] :: vv 68 []⟩) ⟨.one (.ptr 0 0) :: uu 3 (os :: uu 73 []),.var 68 [.sl 5,.i .i64,.i .i64] :: vv 68 []⟩)) (.s (.r [4,6,8,10,12,14,16,18,20,22,24,26,28,30,32,34,36,38,40,42,44,46,48,50,52,54,56,58,60,62,64,66,0] none) (.s (.s .n (.b (.b (.s .n (.s (.b .n ⟨.one (.ptr 0 0) :: uu 3 (os :: ou :: .one (.own 31 68) :: oi :: uu 70 []),.var 68 [.sl 5,.i .i64,.i .i64] :: vv 68 []⟩) .n)) ⟨.one (.ptr 0 0) :: uu 3 (os :: ou :: .one (.own 31 67) :: oi :: uu 70 []),.var 68 [.sl 5,.i .i64,.i .i64] :: vv 68 []⟩) ⟨uu 4 (os :: uu 73 []),.var 68 [.sl 5,.i .i64,.i .i64] :: vv 68 []⟩)) .n)))))))
noncomputable def jeW:FI:=jE Tryz.f35 6 [.ct .s] [(true,[.ct (.sl 37),.ct (.sl 37),.ct (.sl 125)]),(false,[.ct (.sl 145)]),(true,[.ct (.i .i64),.ct (.i .i64)])] (fun _=>(.s (.r [0,0,1] none) (.s (.r [0,0,0,0,0,2,3,0,0] none) (.s (.s .n (.c (.s (.r [0,4,0,0,0,0] none) .n) .n none)) (.s (.r [0,0,0,0,0,5,0,0] none) .n)))))
noncomputable def jeU:FI:=jE Tryz.f37 1 [] [(true,[.ct (.sl 37),.ct (.sl 37),.ct (.sl 125)])] (fun _=>(.s (.r [0] none) .n))
noncomputable def jeT:FI:=jE Tryz.f38 1 [.ag [.sl 37,.sl 37,.sl 125],.ct .s] [(false,[.ct (.i .i64)])] (fun _=>(.s (.r [0,0] none) .n))
noncomputable def jeS:FI:=jE Tryz.f39 0 [.ct (.sl 9),.ct .s] [(false,[.ct (.i .i64)])] (fun _=>(.s .n (.s (.s .n (.b (.b (.s .n (.s .n (.s (.b .n ⟨ol 9 :: os :: uu 5 (oi :: oi :: uu 10 []),[]⟩) .n))) ⟨ol 9 :: os :: uu 5 (oi :: oi :: uu 10 []),[]⟩) ⟨uu 19 [],[]⟩)) .n)))
noncomputable def jeR:FI:=jE Tryz.f42 0 [.ct .s,.ct .s] [(false,[.ct .s]),(false,[.ct .b])] (fun _=>.n)
noncomputable def jeQ:FI:=jE Tryz.f43 1 [.ct (.sl 9),.fn] [(false,[.ct (.i .i64)])] (fun _=>(.s .n (.s (.s .n (.b (.b (.s .n (.s .n (.s (.b .n ⟨ol 9 :: .one (.fn 33 [0]) :: uu 5 (oi :: oi :: uu 10 []),.var 31 [.sl 9] :: []⟩) .n))) ⟨ol 9 :: .one (.fn 33 [0]) :: uu 5 (oi :: oi :: uu 10 []),.var 31 [.sl 9] :: []⟩) ⟨uu 19 [],.var 31 [.sl 9] :: []⟩)) .n)))
noncomputable def jeN:FI:=jE Tryz.f46 1 [] [(false,[.new 9])] (fun _=>(.s .n (.s (.r [0,0] none) .n)))
noncomputable def jeM:FI:=jE Tryz.f47 0 [.ct .s,.ct .s,.ct .s] [(false,[.ct .s])] (fun _=>(.s .n (.s (.s .n (.b (.b (.s .n (.s (.b .n ⟨os :: os :: os :: uu 4 (oi :: uu 31 []),[]⟩) .n)) ⟨os :: os :: os :: uu 4 (oi :: uu 31 []),[]⟩) ⟨os :: uu 38 [],[]⟩)) .n)))
noncomputable def jeP:FI:=jE Tryz.f44 23 [.ct .s] [(true,[.ct (.sl 116)]),(true,[.ct (.i .i64),.ct (.i .i64)])] (fun _=>(.s (.r [0,1] none) (.s (.r [0,2,0] none) (.s (.r [0,3,0] none) (.s (.b (.b (.s (.s (.r [] (some ⟨ou :: ou :: .one (.ptr 0 0) :: .one (.ptr 1 0) :: .one (.ptr 2 0) :: .one (.ptr 3 0) :: uu 26 (ob :: uu 30 []),.var 78 [.nil] :: .var 62 [.i .i64,.i .i64] :: .var 106 [.sl 159,.i .i64,.i .i64,.i .i64,.i .i64] :: .var 78 [.own 116 20] :: vv 19 []⟩)) .n) (.b (.s (.s (.r [] (some ⟨ou :: ou :: .one (.ptr 0 0) :: .one (.ptr 1 0) :: .one (.ptr 2 0) :: .one (.ptr 3 0) :: uu 34 (ob :: uu 22 []),.var 78 [.nil] :: .var 62 [.i .i64,.i .i64] :: .var 106 [.sl 159,.i .i64,.i .i64,.i .i64,.i .i64] :: .var 78 [.own 116 21] :: vv 19 []⟩)) .n) (.r [0,0,0,4,16,17,0,0] none)) ⟨ou :: ou :: .one (.ptr 0 0) :: .one (.ptr 1 0) :: .one (.ptr 2 0) :: .one (.ptr 3 0) :: uu 57 [],.var 78 [.nil] :: .var 62 [.i .i64,.i .i64] :: .var 106 [.sl 159,.i .i64,.i .i64,.i .i64,.i .i64] :: .var 78 [.own 116 18] :: vv 19 []⟩)) ⟨ou :: ou :: .one (.ptr 0 0) :: .one (.ptr 1 0) :: .one (.ptr 2 0) :: .one (.ptr 3 0) :: uu 57 [],.var 78 [.nil] :: .var 62 [.i .i64,.i .i64] :: .var 106 [.sl 159,.i .i64,.i .i64,.i .i64,.i .i64] :: .var 78 [.own 116 19] :: vv 19 []⟩) ⟨ou :: ou :: .one (.ptr 0 0) :: .one (.ptr 1 0) :: .one (.ptr 2 0) :: .one (.ptr 3 0) :: uu 57 [],.var 78 [.nil] :: .var 62 [.i .i64,.i .i64] :: .var 106 [.sl 159,.i .i64,.i .i64,.i .i64,.i .i64] :: .var 78 [.own 116 22] :: vv 19 []⟩) .n)))))
noncomputable def jeO:FI:=jE Tryz.f45 9 [.ag [.sl 116]] [(true,[.ct (.sl 37),.ct (.sl 37),.ct (.sl 125)]),(false,[.ct (.sl 145)])] (fun _=>(.s (.r [0,1,0] none) (.s (.r [0,2,0,0,0,0,0] none) (.s (.r [0,4,0,0,0,0,0] none) (.s (.r [0,0,6,0] none) (.s .n (.s (.r [0,0,7,0] none) (.s (.r [0,8,0] none) .n))))))))
noncomputable def jeK:FI:=jE Tryz.f49 13 [] [(false,[.ct (.sl 37)])] (fun _=>(.s .n (.s (.r [0,0] none) (.s (.r [2,0] none) (.s (.s .n (.b (.b (.s .n (.s (.b (.s (.r [0,0,0,0,0,0,0,0,5,6,0,0] none) (.r [0,0,0,0,0,0,8,9,0] none)) ⟨ou :: .one (.own 9 10) :: .one (.own 37 11) :: oi :: uu 27 [],vv 13 []⟩) .n)) ⟨ou :: .one (.own 9 3) :: .one (.own 37 4) :: oi :: uu 27 [],vv 13 []⟩) ⟨ou :: ou :: .one (.own 37 12) :: uu 28 [],vv 13 []⟩)) .n)))))
noncomputable def jeL:FI:=jE Tryz.f48 38 [.ct (.sl 37)] [(true,[.ct (.sl 37),.ct (.sl 37),.ct (.sl 125)])] (fun _=>(.s (.r [0] none) (.s (.r [0,1,0,2,0,3,0] none) (.s .n (.s (.s .n (.b (.b (.s .n (.s (.b (.s (.s .n (.c (.s (.r [6,0,0,0,0] none) (.s .n (.s (.s (.r [] (some ⟨ol 37 :: ou :: .one (.ptr 0 0) :: .one (.ptr 3 0) :: oi :: oi :: os :: uu 32 (ob :: uu 43 []),.var 27 [.nil,.nil,.nil] :: .u :: .u :: .var 27 [.own 37 7,.own 37 8,.own 125 34] :: vv 34 []⟩)) (.c (.r [0,0,0,0,0,10,11,0,0] none) .n (some ⟨ol 37 :: ou :: .one (.ptr 0 0) :: .one (.ptr 3 0) :: oi :: oi :: uu 77 [],.var 27 [.nil,.nil,.nil] :: .u :: .u :: .var 27 [.own 37 12,.own 37 13,.own 125 14] :: vv 34 []⟩))) .n))) .n none)) (.s .n (.b (.b (.s .n (.s (.b (.s .n (.c (.r [0,0,0,0,0,0,0,0,0,0,18,19,0,0] none) .n (some ⟨ol 37 :: ou :: .one (.ptr 0 0) :: .one (.ptr 3 0) :: oi :: oi :: ou :: ou :: oi :: uu 74 [],.var 27 [.nil,.nil,.nil] :: .u :: .u :: .var 27 [.own 37 20,.own 37 21,.own 125 22] :: vv 34 []⟩))) ⟨ol 37 :: ou :: .one (.ptr 0 0) :: .one (.ptr 3 0) :: oi :: oi :: ou :: ou :: oi :: uu 74 [],.var 27 [.nil,.nil,.nil] :: .u :: .u :: .var 27 [.own 37 23,.own 37 24,.own 125 25] :: vv 34 []⟩) .n)) ⟨ol 37 :: ou :: .one (.ptr 0 0) :: .one (.ptr 3 0) :: oi :: oi :: ou :: ou :: oi :: uu 74 [],.var 27 [.nil,.nil,.nil] :: .u :: .u :: .var 27 [.own 37 15,.own 37 16,.own 125 26] :: vv 34 []⟩) ⟨ol 37 :: ou :: .one (.ptr 0 0) :: .one (.ptr 3 0) :: oi :: oi :: uu 77 [],.var 27 [.nil,.nil,.nil] :: .u :: .u :: .var 27 [.own 37 27,.own 37 28,.own 125 29] :: vv 34 []⟩))) ⟨ol 37 :: ou :: .one (.ptr 0 0) :: .one (.ptr 3 0) :: oi :: oi :: uu 77 [],.var 27 [.nil,.nil,.nil] :: .u :: .u :: .var 27 [.own 37 30,.own 37 31,.own 125 32] :: vv 34 []⟩) .n)) ⟨ol 37 :: ou :: .one (.ptr 0 0) :: .one (.ptr 3 0) :: oi :: oi :: uu 77 [],.var 27 [.nil,.nil,.nil] :: .u :: .u :: .var 27 [.own 37 4,.own 37 5,.own 125 33] :: vv 34 []⟩) ⟨ou :: ou :: .one (.ptr 0 0) :: .one (.ptr 3 0) :: uu 79 [],.var 27 [.nil,.nil,.nil] :: .u :: .u :: .var 27 [.own 37 35,.own 37 36,.own 125 37] :: vv 34 []⟩)) .n)))))
noncomputable def jeJ:FI:=jE Tryz.f50 1 [.ct (.sl 37),.ct .s] [(false,[.ct (.i .i64)])] (fun _=>(.s (.r [0,0] none) .n))
noncomputable def jeI:FI:=jE Tryz.f62 0 [.ct .s,.ct .s] [(false,[.ct .s]),(false,[.ct .b])] (fun _=>.n)
noncomputable def jeY:FI:=jE Tryz.f33 1 [.ct .s,.ptr] [(false,[.ct .b])] (fun _=>.n)
noncomputable def j34:FI:=jE Tryz.f63 3 [.ct .s] [] (fun _=>(.s .n (.s (.r [0,0,0,0,0,1,0,0] none) (.s (.r [0,0,0,0,0,2,0] none) .n))))
noncomputable def jeG:FI:=jE Tryz.f64 1 [.ptr] [(false,[.ct .b])] (fun _=>(.s .n (.s (.r [] (some ⟨ou :: ou :: ob :: uu 20 [],.var 106 [.sl 159,.i .i64,.i .i64,.i .i64,.i .i64] :: []⟩)) .n)))
noncomputable def jeF:FI:=jE Tryz.f65 1 [.ptr,.ct (.i .i64)] [] (fun _=>(.s .n (.c .n .n (some ⟨uu 17 [],.var 106 [.sl 159,.i .i64,.i .i64,.i .i64,.i .i64] :: []⟩))))
noncomputable def jeE:FI:=jE Tryz.f66 20 [.ptr] [(true,[.ct (.i .i64),.ct (.i .i64),.ct .s,.new 186,.new 191,.new 194,.ct .s,.ct .s,.new 191,.new 194,.ct (.i .i64),.ct .b,.ct .s,.ct .s,.new 9,.new 199,.new 196,.new 201,.new 125,.ct .b,.new 191])] (fun _=>(.s (.r [1] none) (.s .n (.s (.s .n (.c (.s (.r [0,0,2,0,0] none) .n) .n none)) (.s (.s .n (.c (.s (.r [0,5,0,0] none) .n) .n none)) (.s .n (.s .n (.s (.r [0,7,0] none) (.s (.s (.r [] (some ⟨.one (.ptr 0 0) :: ou :: .one (.ptr 1 0) :: ou :: ou :: os :: .one (.ptr 7 0) :: uu 29 (ob :: uu 7 []),.var 106 [.sl 159,.i .i64,.i .i64,.i .i64,.i .i64] :: .var 116 [.i .i64,.i .i64,.s,.nil,.nil,.nil,.s,.s,.nil,.nil,.i .i64,.b,.s,.s,.nil,.nil,.nil,.nil,.nil,.b,.nil] :: vv 5 (.var 37 [.i .i64,.b,.s,.s,.nil,.nil,.nil,.nil,.nil,.b,.nil] :: vv 12 [])⟩)) (.c .n (.r [0,0,8,0] none) (some ⟨ou :: ou :: .one (.ptr 1 0) :: uu 3 (.one (.ptr 7 0) :: uu 37 []),.var 106 [.sl 159,.i .i64,.i .i64,.i .i64,.i .i64] :: .var 116 [.i .i64,.i .i64,.s,.nil,.nil,.nil,.s,.s,.nil,.nil,.i .i64,.b,.s,.s,.nil,.nil,.nil,.nil,.nil,.b,.nil] :: vv 5 (.var 37 [.i .i64,.b,.s,.s,.own 9 14,.own 199 15,.own 196 16,.own 201 17,.own 125 18,.b,.own 191 19] :: vv 12 [])⟩))) .n)))))))))
noncomputable def jeD:FI:=jE Tryz.f67 30 [.ag [.sl 116]] [(false,[.new 1037]),(false,[.new 145])] (fun _=>(.s (.r [0,0,0] none) (.s (.r [1,0] none) (.s (.r [2,0] none) (.s (.s .n (.b (.b (.s .n (.s (.b (.s (.r [0,0,0,0,0,5,0] none) (.s .n (.b (.s .n (.c (.r [0,0,0,6,13,14,0] none) (.s .n (.c (.r [0,0,0,0,0,16,17,0] none) (.r [0,0,0,0,0,18,19,0] none) (some ⟨ou :: .one (.ptr 0 0) :: ou :: ou :: .one (.own 1037 20) :: .one (.own 145 21) :: oi :: uu 43 [],.var 78 [.sl 116] :: vv 29 []⟩))) (some ⟨ou :: .one (.ptr 0 0) :: ou :: ou :: .one (.own 1037 22) :: .one (.own 145 23) :: oi :: uu 43 [],.var 78 [.sl 116] :: vv 29 []⟩))) ⟨ou :: .one (.ptr 0 0) :: ou :: ou :: .one (.own 1037 24) :: .one (.own 145 25) :: oi :: uu 43 [],.var 78 [.sl 116] :: vv 29 []⟩))) ⟨ou :: .one (.ptr 0 0) :: ou :: ou :: .one (.own 1037 26) :: .one (.own 145 27) :: oi :: uu 43 [],.var 78 [.sl 116] :: vv 29 []⟩) .n)) ⟨ou :: .one (.ptr 0 0) :: ou :: ou :: .one (.own 1037 3) :: .one (.own 145 4) :: oi :: uu 43 [],.var 78 [.sl 116] :: vv 29 []⟩) ⟨uu 4 (.one (.own 1037 28) :: .one (.own 145 29) :: uu 44 []),vv 30 []⟩)) .n)))))
noncomputable def jeC:FI:=jE Tryz.f68 78 [.ct (.sl 37)] [(false,[.new 1037]),(false,[.new 145])] (fun _=>(.s .n (.s (.r [1,0] none) (.s (.r [2,0] none) (.s (.s .n (.c (.s (.r [0,0,0,4,5,0,0] none) .n) .n none)) (.s (.s .n (.b (.b (.s .n (.s (.b (.s (.r [0,0,0,8,14,0] none) (.s .n (.s (.s .n (.c (.s (.r [0,0,0,0,16,17,0] none) .n) .n none)) (.r [0,18,24,31,32,0] none)))) ⟨ol 37 :: uu 3 (.one (.own 1037 33) :: .one (.own 145 34) :: oi :: uu 100 []),vv 78 []⟩) .n)) ⟨ol 37 :: uu 3 (.one (.own 1037 6) :: .one (.own 145 7) :: oi :: uu 100 []),vv 78 []⟩) ⟨ol 37 :: uu 3 (.one (.own 1037 35) :: .one (.own 145 36) :: uu 101 []),vv 78 []⟩)) (.s (.s .n (.b (.b (.s .n (.s (.b (.s (.r [0,0,0,39,45,0] none) (.s .n (.s .n (.b (.s .n (.c (.r [0,0,0,0,46,47,0] none) (.s .n (.c (.r [0,0,0,0,48,49,0] none) (.r [0,0,0,0,0,50,56,62,0,0] none) (some ⟨ol 37 :: uu 3 (.one (.own 1037 68) :: .one (.own 145 69) :: ou :: ou :: oi :: uu 98 []),vv 78 []⟩))) (some ⟨ol 37 :: uu 3 (.one (.own 1037 70) :: .one (.own 145 71) :: ou :: ou :: oi :: uu 98 []),vv 78 []⟩))) ⟨ol 37 :: uu 3 (.one (.own 1037 72) :: .one (.own 145 73) :: ou :: ou :: oi :: uu 98 []),vv 78 []⟩)))) ⟨ol 37 :: uu 3 (.one (.own 1037 74) :: .one (.own 145 75) :: ou :: ou :: oi :: uu 98 []),vv 78 []⟩) .n)) ⟨ol 37 :: uu 3 (.one (.own 1037 37) :: .one (.own 145 38) :: ou :: ou :: oi :: uu 98 []),vv 78 []⟩) ⟨uu 4 (.one (.own 1037 76) :: .one (.own 145 77) :: uu 101 []),vv 78 []⟩)) .n)))))))
noncomputable def jeB:FI:=jE Tryz.f69 39 [.ag [.sl 37,.sl 37,.sl 125]] [(false,[.new 145])] (fun _=>(.s (.r [0,0] none) (.s (.r [2,0] none) (.s (.s (.r [] (some ⟨ou :: .one (.ptr 0 0) :: ou :: .one (.own 145 3) :: uu 23 (ob :: uu 137 []),.var 27 [.sl 37,.sl 37,.sl 125] :: vv 38 []⟩)) (.c (.s (.r [0,0,4,5,0] none) .n) .n none)) (.s (.s .n (.b (.b (.s .n (.s (.b (.r [0,0,0,0,0,0,0,7,8,0] none) ⟨ou :: .one (.ptr 0 0) :: ou :: .one (.own 145 9) :: oi :: uu 160 [],.var 27 [.sl 37,.sl 37,.sl 125] :: vv 38 []⟩) .n)) ⟨ou :: .one (.ptr 0 0) :: ou :: .one (.own 145 6) :: oi :: uu 160 [],.var 27 [.sl 37,.sl 37,.sl 125] :: vv 38 []⟩) ⟨ou :: .one (.ptr 0 0) :: ou :: .one (.own 145 10) :: uu 161 [],.var 27 [.sl 37,.sl 37,.sl 125] :: vv 38 []⟩)) (.s (.s .n (.b (.b (.s .n (.s (.b (.s (.s .n (.c (.r [0,0,0,0,0,0,0,0,12,13,0] none) .n (some ⟨ou :: .one (.ptr 0 0) :: ou :: .one (.own 145 14) :: ou :: oi :: uu 159 [],.var 27 [.sl 37,.sl 37,.sl 125] :: vv 38 []⟩))) (.r [0,0,0,0,0,0,0,0,0,0,0,0,0,0,0,15,16,0] none)) ⟨ou :: .one (.ptr 0 0) :: ou :: .one (.own 145 17) :: ou :: oi :: uu 159 [],.var 27 [.sl 37,.sl 37,.sl 125] :: vv 38 []⟩) .n)) ⟨ou :: .one (.ptr 0 0) :: ou :: .one (.own 145 11) :: ou :: oi :: uu 159 [],.var 27 [.sl 37,.sl 37,.sl 125] :: vv 38 []⟩) ⟨ou :: .one (.ptr 0 0) :: ou :: .one (.own 145 18) :: uu 161 [],.var 27 [.sl 37,.sl 37,.sl 125] :: vv 38 []⟩)) (.s (.s .n (.c (.r [0,0,20,21,0] none) .n (some ⟨ou :: .one (.ptr 0 0) :: ou :: .one (.own 145 22) :: uu 161 [],.var 27 [.sl 37,.sl 37,.sl 125] :: vv 38 []⟩))) (.s (.s .n (.b (.b (.s .n (.s (.b (.s (.r [0,0,0,0,0,24,0] none) (.s .n (.s .n (.s (.s .n (.b (.b (.s .n (.s (.b (.s (.r [] (some ⟨ou :: .one (.ptr 0 0) :: ou :: .one (.own 145 26) :: ou :: ou :: oi :: .one (.ptr 24 0) :: ob :: ob :: oi :: uu 154 [],.var 27 [.sl 37,.sl 37,.sl 125] :: vv 23 (.var 125 [.i .i64,.s] :: vv 14 [])⟩)) (.r [] (some ⟨ou :: .one (.ptr 0 0) :: ou :: .one (.own 145 27) :: ou :: ou :: oi :: .one (.ptr 24 0) :: ob :: ob :: oi :: uu 154 [],.var 27 [.sl 37,.sl 37,.sl 125] :: vv 23 (.var 125 [.i .i64,.s] :: vv 14 [])⟩))) ⟨ou :: .one (.ptr 0 0) :: ou :: .one (.own 145 28) :: ou :: ou :: oi :: .one (.ptr 24 0) :: ob :: ob :: oi :: uu 154 [],.var 27 [.sl 37,.sl 37,.sl 125] :: vv 23 (.var 125 [.i .i64,.s] :: vv 14 [])⟩) .n)) ⟨ou :: .one (.ptr 0 0) :: ou :: .one (.own 145 25) :: ou :: ou :: oi :: .one (.ptr 24 0) :: ob :: ob :: oi :: uu 154 [],.var 27 [.sl 37,.sl 37,.sl 125] :: vv 23 (.var 125 [.i .i64,.s] :: vv 14 [])⟩) ⟨ou :: .one (.ptr 0 0) :: ou :: .one (.own 145 29) :: ou :: ou :: oi :: .one (.ptr 24 0) :: ob :: ob :: uu 155 [],.var 27 [.sl 37,.sl 37,.sl 125] :: vv 23 (.var 125 [.i .i64,.s] :: vv 14 [])⟩)) (.s (.s .n (.c (.r [0,0,0,0,0,0,0,30,31,0] none) .n (some ⟨ou :: .one (.ptr 0 0) :: ou :: .one (.own 145 32) :: ou :: ou :: oi :: .one (.ptr 24 0) :: ou :: ob :: uu 155 [],.var 27 [.sl 37,.sl 37,.sl 125] :: vv 23 (.var 125 [.i .i64,.s] :: vv 14 [])⟩))) (.s (.r [] (some ⟨ou :: .one (.ptr 0 0) :: ou :: .one (.own 145 33) :: ou :: ou :: oi :: .one (.ptr 24 0) :: uu 146 (ob :: uu 10 []),.var 27 [.sl 37,.sl 37,.sl 125] :: vv 23 (.var 125 [.i .i64,.s] :: vv 14 [])⟩)) (.c (.r [0,0,0,0,0,0,0,34,35,0] none) .n (some ⟨ou :: .one (.ptr 0 0) :: ou :: .one (.own 145 36) :: ou :: ou :: oi :: uu 158 [],.var 27 [.sl 37,.sl 37,.sl 125] :: vv 38 []⟩)))))))) ⟨ou :: .one (.ptr 0 0) :: ou :: .one (.own 145 37) :: ou :: ou :: oi :: uu 158 [],.var 27 [.sl 37,.sl 37,.sl 125] :: vv 38 []⟩) .n)) ⟨ou :: .one (.ptr 0 0) :: ou :: .one (.own 145 23) :: ou :: ou :: oi :: uu 158 [],.var 27 [.sl 37,.sl 37,.sl 125] :: vv 38 []⟩) ⟨uu 3 (.one (.own 145 38) :: uu 161 []),vv 39 []⟩)) .n))))))))
noncomputable def jeA:FI:=jE Tryz.f70 8 [.ct (.sl 37),.ct (.i .i64)] [(false,[.new 37])] (fun _=>(.s .n (.s (.r [0,0] none) (.s (.s .n (.b (.b (.s .n (.s (.b (.s .n (.c (.r [0,0,0,0,0,2,3,0] none) .n (some ⟨ol 37 :: oi :: uu 3 (.one (.own 37 4) :: oi :: uu 24 []),vv 8 []⟩))) ⟨ol 37 :: oi :: uu 3 (.one (.own 37 5) :: oi :: uu 24 []),vv 8 []⟩) .n)) ⟨ol 37 :: oi :: uu 3 (.one (.own 37 1) :: oi :: uu 24 []),vv 8 []⟩) ⟨uu 5 (.one (.own 37 6) :: uu 25 []),vv 8 []⟩)) (.s (.r [0,7,0] none) .n)))))
noncomputable def jez:FI:=jE Tryz.f71 0 [.ct (.sl 37),.ct (.i .i64),.ct .s] [(false,[.ct (.i .i64)])] (fun _=>(.s .n (.s (.s .n (.b (.b (.s .n (.s (.b (.s (.r [] (some ⟨ol 37 :: oi :: os :: uu 4 (oi :: uu 26 (ob :: ou :: [])),[]⟩)) .n) ⟨ol 37 :: oi :: os :: uu 4 (oi :: uu 28 []),[]⟩) .n)) ⟨ol 37 :: oi :: os :: uu 4 (oi :: uu 28 []),[]⟩) ⟨uu 36 [],[]⟩)) .n)))
noncomputable def jey:FI:=jE Tryz.f72 1 [.ct (.sl 37),.fn] [(false,[.ct (.i .i64)])] (fun _=>(.s .n (.s (.s .n (.b (.b (.s .n (.s .n (.s (.b .n ⟨ol 37 :: .one (.fn 73 [0]) :: uu 5 (oi :: oi :: uu 10 []),.var 9 [.s] :: []⟩) .n))) ⟨ol 37 :: .one (.fn 73 [0]) :: uu 5 (oi :: oi :: uu 10 []),.var 9 [.s] :: []⟩) ⟨uu 19 [],.var 9 [.s] :: []⟩)) .n)))
noncomputable def jew:FI:=jE Tryz.f80 0 [.ct .s,.ct .s] [(false,[.ct .b])] (fun _=>(.s .n (.s (.r [] (some ⟨uu 4 (ob :: uu 16 []),[]⟩)) .n)))
noncomputable def jev:FI:=jE Tryz.f81 19 [.ct .s] [(false,[.new 159]),(true,[.ct (.i .i64),.ct (.i .i64)])] (fun _=>(.s (.r [0,0] none) (.s (.r [2,0] none) (.s .n (.s (.s .n (.b (.b (.s .n (.b .n ⟨os :: ou :: ou :: .one (.ptr 0 0) :: .one (.own 159 4) :: oi :: uu 68 [],.var 62 [.i .i64,.i .i64] :: vv 18 []⟩)) ⟨os :: ou :: ou :: .one (.ptr 0 0) :: .one (.own 159 3) :: oi :: uu 68 [],.var 62 [.i .i64,.i .i64] :: vv 18 []⟩) ⟨os :: ou :: ou :: .one (.ptr 0 0) :: .one (.own 159 5) :: uu 69 [],.var 62 [.i .i64,.i .i64] :: vv 18 []⟩)) (.s (.r [6,0] none) (.s (.s .n (.b (.b (.s .n (.s (.b (.s (.r [0,0,0,0,0,0,0,9,0,0,0] none) (.s (.s (.r [] (some ⟨os :: ou :: ou :: .one (.ptr 0 0) :: .one (.own 159 10) :: uu 3 (.one (.own 159 11) :: oi :: .one (.ptr 9 0) :: oi :: oi :: uu 47 (ob :: uu 13 [])),.var 62 [.i .i64,.i .i64] :: vv 8 (.var 159 [.i .i64,.s,.i .i64] :: vv 9 [])⟩)) (.c .n .n (some ⟨os :: ou :: ou :: .one (.ptr 0 0) :: .one (.own 159 12) :: uu 3 (.one (.own 159 13) :: oi :: .one (.ptr 9 0) :: oi :: oi :: uu 61 []),.var 62 [.i .i64,.i .i64] :: vv 8 (.var 159 [.i .i64,.s,.i .i64] :: vv 9 [])⟩))) (.s .n (.s (.r [0,0,14,15,0] none) .n)))) ⟨os :: ou :: ou :: .one (.ptr 0 0) :: .one (.own 159 16) :: uu 3 (.one (.own 159 17) :: oi :: uu 64 []),.var 62 [.i .i64,.i .i64] :: vv 18 []⟩) .n)) ⟨os :: ou :: ou :: .one (.ptr 0 0) :: .one (.own 159 7) :: uu 3 (.one (.own 159 8) :: oi :: uu 64 []),.var 62 [.i .i64,.i .i64] :: vv 18 []⟩) ⟨uu 3 (.one (.ptr 0 0) :: uu 4 (.one (.own 159 18) :: uu 65 [])),.var 62 [.i .i64,.i .i64] :: vv 18 []⟩)) .n)))))))
noncomputable def jeu:FI:=jE Tryz.f82 1 [.ptr] [(false,[.ct (.i .i64)])] (fun _=>(.s .n (.s .n (.s (.s .n (.b (.b (.s .n (.s (.b .n ⟨.one (.ptr 0 0) :: ou :: ou :: oi :: uu 11 [],.var 106 [.sl 159,.i .i64,.i .i64,.i .i64,.i .i64] :: []⟩) .n)) ⟨.one (.ptr 0 0) :: ou :: ou :: oi :: uu 11 [],.var 106 [.sl 159,.i .i64,.i .i64,.i .i64,.i .i64] :: []⟩) ⟨uu 15 [],.var 106 [.sl 159,.i .i64,.i .i64,.i .i64,.i .i64] :: []⟩)) .n))))
noncomputable def jet:FI:=jE Tryz.f83 1 [.ptr,.ct .s] [(false,[.ct .b])] (fun _=>(.s .n (.s (.r [] (some ⟨uu 4 (ob :: uu 47 []),.var 106 [.sl 159,.i .i64,.i .i64,.i .i64,.i .i64] :: []⟩)) .n)))
noncomputable def jes:FI:=jE Tryz.f84 1 [.ptr,.ct (.i .i64)] [(false,[.ct .b])] (fun _=>(.s .n (.s (.r [] (some ⟨uu 4 (ob :: uu 33 []),.var 106 [.sl 159,.i .i64,.i .i64,.i .i64,.i .i64] :: []⟩)) .n)))
noncomputable def jer:FI:=jE Tryz.f85 1 [.ptr] [(false,[.ct (.i .i64)])] (fun _=>(.s .n (.s (.s .n (.b (.b (.s .n (.s (.b .n ⟨.one (.ptr 0 0) :: ou :: ou :: oi :: uu 9 [],.var 106 [.sl 159,.i .i64,.i .i64,.i .i64,.i .i64] :: []⟩) .n)) ⟨.one (.ptr 0 0) :: ou :: ou :: oi :: uu 9 [],.var 106 [.sl 159,.i .i64,.i .i64,.i .i64,.i .i64] :: []⟩) ⟨uu 13 [],.var 106 [.sl 159,.i .i64,.i .i64,.i .i64,.i .i64] :: []⟩)) .n)))
noncomputable def jeq:FI:=jE Tryz.f86 1 [.ptr] [(false,[.ct (.i .i64)])] (fun _=>.n)
noncomputable def jep:FI:=jE Tryz.f87 9 [.ptr,.ct (.i .i64)] [(true,[.ct (.i .i64),.ct .s,.new 186,.new 191,.new 194])] (fun _=>(.s (.r [1] none) (.s (.r [0,0,2,0] none) (.s (.s .n (.c (.s .n (.s (.s .n (.c .n .n (some ⟨.one (.ptr 0 0) :: uu 3 (.one (.ptr 1 0) :: .one (.ptr 2 0) :: uu 28 []),.var 106 [.sl 159,.i .i64,.i .i64,.i .i64,.i .i64] :: .var 112 [.i .i64,.s,.nil,.nil,.nil] :: .var 112 [.i .i64,.s,.nil,.nil,.nil] :: vv 6 []⟩))) (.s (.r [0,3,0,0] none) (.r [0,4,0,0] none)))) .n (some ⟨.one (.ptr 0 0) :: uu 3 (.one (.ptr 1 0) :: .one (.ptr 2 0) :: uu 28 []),.var 106 [.sl 159,.i .i64,.i .i64,.i .i64,.i .i64] :: .var 112 [.i .i64,.s,.nil,.nil,.nil] :: .var 112 [.i .i64,.s,.own 186 5,.own 191 6,.nil] :: vv 6 []⟩))) (.s (.r [7,0] none) (.s (.r [0,8,0,0] none) .n))))))
noncomputable def jeo:FI:=jE Tryz.f88 6 [.ptr] [(true,[.ct .s,.ct .s,.new 191,.new 194])] (fun _=>(.s (.r [1] none) (.s (.r [0,2,0] none) (.s .n (.s (.s .n (.c .n .n (some ⟨.one (.ptr 0 0) :: ou :: .one (.ptr 1 0) :: .one (.ptr 2 0) :: uu 38 [],.var 106 [.sl 159,.i .i64,.i .i64,.i .i64,.i .i64] :: .var 114 [.s,.s,.nil,.nil] :: .var 114 [.s,.s,.nil,.nil] :: vv 3 []⟩))) (.s .n (.s (.s .n (.c .n .n (some ⟨.one (.ptr 0 0) :: ou :: .one (.ptr 1 0) :: .one (.ptr 2 0) :: uu 38 [],.var 106 [.sl 159,.i .i64,.i .i64,.i .i64,.i .i64] :: .var 114 [.s,.s,.nil,.nil] :: .var 114 [.s,.s,.nil,.nil] :: vv 3 []⟩))) (.s .n (.s .n (.s (.r [0,3,0,0] none) (.s (.r [4,0] none) (.s (.r [0,5,0,0] none) .n))))))))))))
noncomputable def jen:FI:=jE Tryz.f89 1 [.ptr] [(false,[.ct .s])] (fun _=>.n)
noncomputable def jem:FI:=jE Tryz.f90 64 [.ptr,.ct .s] [(true,[.ct (.i .i64),.ct .b,.ct .s,.ct .s,.new 9,.new 199,.new 196,.new 201,.new 125,.ct .b,.new 191])] (fun _=>(.s (.r [1] none) (.s (.r [0,0,2,0] none) (.s (.s (.r [] (some ⟨.one (.ptr 0 0) :: uu 3 (.one (.ptr 1 0) :: .one (.ptr 2 0) :: uu 7 (ob :: uu 151 [])),.var 106 [.sl 159,.i .i64,.i .i64,.i .i64,.i .i64] :: .var 37 [.i .i64,.b,.s,.s,.nil,.nil,.nil,.nil,.nil,.b,.nil] :: .var 37 [.i .i64,.b,.s,.s,.nil,.nil,.nil,.nil,.nil,.b,.nil] :: vv 61 []⟩)) (.c .n .n (some ⟨.one (.ptr 0 0) :: uu 3 (.one (.ptr 1 0) :: .one (.ptr 2 0) :: uu 159 []),.var 106 [.sl 159,.i .i64,.i .i64,.i .i64,.i .i64] :: .var 37 [.i .i64,.b,.s,.s,.nil,.nil,.nil,.nil,.nil,.b,.nil] :: .var 37 [.i .i64,.b,.s,.s,.nil,.nil,.nil,.nil,.nil,.b,.nil] :: vv 61 []⟩))) (.s .n (.s (.s (.r [] (some ⟨.one (.ptr 0 0) :: uu 3 (.one (.ptr 1 0) :: .one (.ptr 2 0) :: uu 30 (ob :: uu 128 [])),.var 106 [.sl 159,.i .i64,.i .i64,.i .i64,.i .i64] :: .var 37 [.i .i64,.b,.s,.s,.nil,.nil,.nil,.nil,.nil,.b,.nil] :: .var 37 [.i .i64,.b,.s,.s,.nil,.nil,.nil,.nil,.nil,.b,.nil] :: vv 61 []⟩)) .n) (.s .n (.s (.s .n (.c .n .n (some ⟨.one (.ptr 0 0) :: uu 3 (.one (.ptr 1 0) :: .one (.ptr 2 0) :: uu 159 []),.var 106 [.sl 159,.i .i64,.i .i64,.i .i64,.i .i64] :: .var 37 [.i .i64,.b,.s,.s,.nil,.nil,.nil,.nil,.nil,.b,.nil] :: .var 37 [.i .i64,.b,.s,.s,.nil,.nil,.nil,.nil,.nil,.b,.nil] :: vv 61 []⟩))) (.s (.s .n (.c .n .n (some ⟨.one (.ptr 0 0) :: uu 3 (.one (.ptr 1 0) :: .one (.ptr 2 0) :: uu 159 []),.var 106 [.sl 159,.i .i64,.i .i64,.i .i64,.i .i64] :: .var 37 [.i .i64,.b,.s,.s,.nil,.nil,.nil,.nil,.nil,.b,.nil] :: .var 37 [.i .i64,.b,.s,.s,.nil,.nil,.nil,.nil,.nil,.b,.nil] :: vv 61 []⟩))) (.s (.s .n (.c (.s (.r [0,3,0,0] none) (.s (.s .n (.c .n .n (some ⟨.one (.ptr 0 0) :: uu 3 (.one (.ptr 1 0) :: .one (.ptr 2 0) :: uu 159 []),.var 106 [.sl 159,.i .i64,.i .i64,.i .i64,.i .i64] :: .var 37 [.i .i64,.b,.s,.s,.nil,.nil,.nil,.nil,.nil,.b,.nil] :: .var 37 [.i .i64,.b,.s,.s,.nil,.nil,.own 196 4,.nil,.nil,.b,.nil] :: vv 61 []⟩))) (.s (.s .n (.c .n .n (some ⟨.one (.ptr 0 0) :: uu 3 (.one (.ptr 1 0) :: .one (.ptr 2 0) :: uu 159 []),.var 106 [.sl 159,.i .i64,.i .i64,.i .i64,.i .i64] :: .var 37 [.i .i64,.b,.s,.s,.nil,.nil,.nil,.nil,.nil,.b,.nil] :: .var 37 [.i .i64,.b,.s,.s,.nil,.nil,.own 196 5,.nil,.nil,.b,.nil] :: vv 61 []⟩))) (.s .n (.s (.r [0,6,0,0] none) .n))))) .n none)) (.s (.s (.r [] (some ⟨.one (.ptr 0 0) :: uu 3 (.one (.ptr 1 0) :: .one (.ptr 2 0) :: uu 95 (ob :: uu 63 [])),.var 106 [.sl 159,.i .i64,.i .i64,.i .i64,.i .i64] :: .var 37 [.i .i64,.b,.s,.s,.nil,.nil,.nil,.nil,.nil,.b,.nil] :: .var 37 [.i .i64,.b,.s,.s,.nil,.nil,.nil,.nil,.nil,.b,.nil] :: vv 61 []⟩)) (.c (.s .n (.r [0,7,0,0] none)) .n (some ⟨.one (.ptr 0 0) :: uu 3 (.one (.ptr 1 0) :: .one (.ptr 2 0) :: uu 159 []),.var 106 [.sl 159,.i .i64,.i .i64,.i .i64,.i .i64] :: .var 37 [.i .i64,.b,.s,.s,.nil,.nil,.nil,.nil,.nil,.b,.nil] :: .var 37 [.i .i64,.b,.s,.s,.own 9 8,.nil,.nil,.nil,.nil,.b,.nil] :: vv 61 []⟩))) (.s (.r [0,9,0,0] none) (.s (.s .n (.b (.s (.s .n (.c .n .n (some ⟨.one (.ptr 0 0) :: uu 3 (.one (.ptr 1 0) :: .one (.ptr 2 0) :: uu 110 (oi :: ob :: uu 47 [])),.var 106 [.sl 159,.i .i64,.i .i64,.i .i64,.i .i64] :: .var 37 [.i .i64,.b,.s,.s,.nil,.nil,.nil,.nil,.nil,.b,.nil] :: .var 37 [.i .i64,.b,.s,.s,.own 9 10,.nil,.nil,.nil,.nil,.b,.own 191 11] :: vv 61 []⟩))) (.c (.r [0,12,0,0] none) (.s .n (.c (.s .n (.c (.r [0,13,0,0] none) .n (some ⟨.one (.ptr 0 0) :: uu 3 (.one (.ptr 1 0) :: .one (.ptr 2 0) :: uu 159 []),.var 106 [.sl 159,.i .i64,.i .i64,.i .i64,.i .i64] :: .var 37 [.i .i64,.b,.s,.s,.nil,.nil,.nil,.nil,.nil,.b,.nil] :: .var 37 [.i .i64,.b,.s,.s,.own 9 14,.nil,.nil,.nil,.nil,.b,.own 191 15] :: vv 61 []⟩))) (.s .n (.c (.r [0,16,0,0] none) (.s .n (.c (.r [0,17,0,0] none) (.s .n (.c (.s (.s (.r [] (some ⟨.one (.ptr 0 0) :: uu 3 (.one (.ptr 1 0) :: .one (.ptr 2 0) :: uu 143 (ob :: uu 15 [])),.var 106 [.sl 159,.i .i64,.i .i64,.i .i64,.i .i64] :: .var 37 [.i .i64,.b,.s,.s,.nil,.nil,.nil,.nil,.nil,.b,.nil] :: .var 37 [.i .i64,.b,.s,.s,.own 9 18,.nil,.nil,.nil,.nil,.b,.own 191 19] :: vv 61 []⟩)) (.c .n .n (some ⟨.one (.ptr 0 0) :: uu 3 (.one (.ptr 1 0) :: .one (.ptr 2 0) :: uu 159 []),.var 106 [.sl 159,.i .i64,.i .i64,.i .i64,.i .i64] :: .var 37 [.i .i64,.b,.s,.s,.nil,.nil,.nil,.nil,.nil,.b,.nil] :: .var 37 [.i .i64,.b,.s,.s,.own 9 20,.nil,.nil,.nil,.nil,.b,.own 191 21] :: vv 61 []⟩))) (.r [0,22,0,0] none)) .n (some ⟨.one (.ptr 0 0) :: uu 3 (.one (.ptr 1 0) :: .one (.ptr 2 0) :: uu 159 []),.var 106 [.sl 159,.i .i64,.i .i64,.i .i64,.i .i64] :: .var 37 [.i .i64,.b,.s,.s,.nil,.nil,.nil,.nil,.nil,.b,.nil] :: .var 37 [.i .i64,.b,.s,.s,.own 9 23,.nil,.nil,.nil,.own 125 24,.b,.own 191 25] :: vv 61 []⟩))) (some ⟨.one (.ptr 0 0) :: uu 3 (.one (.ptr 1 0) :: .one (.ptr 2 0) :: uu 159 []),.var 106 [.sl 159,.i .i64,.i .i64,.i .i64,.i .i64] :: .var 37 [.i .i64,.b,.s,.s,.nil,.nil,.nil,.nil,.nil,.b,.nil] :: .var 37 [.i .i64,.b,.s,.s,.own 9 26,.nil,.own 196 27,.nil,.own 125 28,.b,.own 191 29] :: vv 61 []⟩))) (some ⟨.one (.ptr 0 0) :: uu 3 (.one (.ptr 1 0) :: .one (.ptr 2 0) :: uu 159 []),.var 106 [.sl 159,.i .i64,.i .i64,.i .i64,.i .i64] :: .var 37 [.i .i64,.b,.s,.s,.nil,.nil,.nil,.nil,.nil,.b,.nil] :: .var 37 [.i .i64,.b,.s,.s,.own 9 30,.nil,.own 196 31,.own 201 32,.own 125 33,.b,.own 191 34] :: vv 61 []⟩))) (some ⟨.one (.ptr 0 0) :: uu 3 (.one (.ptr 1 0) :: .one (.ptr 2 0) :: uu 159 []),.var 106 [.sl 159,.i .i64,.i .i64,.i .i64,.i .i64] :: .var 37 [.i .i64,.b,.s,.s,.nil,.nil,.nil,.nil,.nil,.b,.nil] :: .var 37 [.i .i64,.b,.s,.s,.own 9 35,.nil,.own 196 36,.own 201 37,.own 125 38,.b,.own 191 39] :: vv 61 []⟩))) (some ⟨.one (.ptr 0 0) :: uu 3 (.one (.ptr 1 0) :: .one (.ptr 2 0) :: uu 159 []),.var 106 [.sl 159,.i .i64,.i .i64,.i .i64,.i .i64] :: .var 37 [.i .i64,.b,.s,.s,.nil,.nil,.nil,.nil,.nil,.b,.nil] :: .var 37 [.i .i64,.b,.s,.s,.own 9 40,.own 199 41,.own 196 42,.own 201 43,.own 125 44,.b,.own 191 45] :: vv 61 []⟩))) ⟨.one (.ptr 0 0) :: uu 3 (.one (.ptr 1 0) :: .one (.ptr 2 0) :: uu 159 []),.var 106 [.sl 159,.i .i64,.i .i64,.i .i64,.i .i64] :: .var 37 [.i .i64,.b,.s,.s,.nil,.nil,.nil,.nil,.nil,.b,.nil] :: .var 37 [.i .i64,.b,.s,.s,.own 9 46,.own 199 47,.own 196 48,.own 201 49,.own 125 50,.b,.own 191 51] :: vv 61 []⟩)) (.s (.s (.r [] (some ⟨.one (.ptr 0 0) :: uu 3 (.one (.ptr 1 0) :: .one (.ptr 2 0) :: uu 155 (ob :: uu 3 [])),.var 106 [.sl 159,.i .i64,.i .i64,.i .i64,.i .i64] :: .var 37 [.i .i64,.b,.s,.s,.nil,.nil,.nil,.nil,.nil,.b,.nil] :: .var 37 [.i .i64,.b,.s,.s,.own 9 52,.own 199 53,.own 196 54,.own 201 55,.own 125 56,.b,.own 191 57] :: vv 61 []⟩)) (.c .n .n (some ⟨uu 4 (.one (.ptr 1 0) :: .one (.ptr 2 0) :: uu 159 []),.var 106 [.sl 159,.i .i64,.i .i64,.i .i64,.i .i64] :: .var 37 [.i .i64,.b,.s,.s,.nil,.nil,.nil,.nil,.nil,.b,.nil] :: .var 37 [.i .i64,.b,.s,.s,.own 9 58,.own 199 59,.own 196 60,.own 201 61,.own 125 62,.b,.own 191 63] :: vv 61 []⟩))) .n))))))))))))))
noncomputable def jel:FI:=jE Tryz.f91 11 [.ag [.i .i64,.b,.s,.s,.sl 9,.sl 199,.sl 196,.sl 201,.sl 125,.b,.sl 191]] [(true,[.ct (.i .i64),.ct .b,.ct .s,.ct .s,.new 9,.new 1199,.new 1196,.new 1201,.new 125,.ct .b,.new 1191])] (fun _=>(.s (.r [0,1] none) (.s (.r [2,0,0,3,0,0] none) (.s (.r [0,0,4,0,0] none) (.s (.r [0,0,5,0,0] none) (.s (.r [0,0,6,0,0] none) (.s (.r [8,0,0,9,0,0] none) (.s (.r [0,0,10,0,0] none) .n))))))))
noncomputable def jek:FI:=jE Tryz.f92 0 [.ct (.i .i64)] [(false,[.ct (.i .i64)])] (fun _=>(.s .n (.s (.s .n (.b .n ⟨uu 8 [],[]⟩)) .n)))
noncomputable def jej:FI:=jE Tryz.f93 23 [.ag [.i .i64,.b,.s,.s,.sl 9,.sl 199,.sl 196,.sl 201,.sl 125,.b,.sl 191],.ag [.i .i64,.b,.s,.s,.sl 9,.sl 199,.sl 196,.sl 201,.sl 125,.b,.sl 191]] [(true,[.ct (.i .i64),.ct .b,.ct .s,.ct .s,.new 9,.new 1199,.new 1196,.new 1201,.new 125,.ct .b,.new 1191])] (fun _=>(.s (.r [0,1,2] none) (.s (.r [0,3,9,0] none) (.s (.r [0,10,16,0] none) (.s (.r [0,0,0,0,17,0,0] none) (.s (.r [0,0,0,0,18,0,0] none) (.s (.r [0,0,0,0,19,0,0] none) (.s (.r [0,0,0,0,20,0,0] none) (.s (.r [0,0,0,0,21,0,0] none) (.s (.r [0,0,0,0,22,0,0] none) .n))))))))))
noncomputable def jei:FI:=jE Tryz.f94 27 [.ag [.sl 37,.sl 37,.sl 125],.ag [.i .i64,.b,.s,.s,.sl 9,.sl 199,.sl 196,.sl 201,.sl 125,.b,.sl 191]] [(false,[.new 145])] (fun _=>(.s (.r [0,1,0] none) (.s (.r [2,0] none) (.s (.s .n (.c (.s (.r [0,0,0,0,4,5,0] none) .n) .n none)) (.s (.s .n (.c (.r [0,0,0,0,6,7,0] none) .n (some ⟨ou :: ou :: .one (.ptr 0 0) :: .one (.ptr 1 0) :: ou :: .one (.own 145 8) :: uu 77 [],.var 27 [.sl 37,.sl 37,.sl 125] :: .var 37 [.i .i64,.b,.s,.s,.sl 9,.sl 199,.sl 196,.sl 201,.sl 125,.b,.sl 191] :: vv 25 []⟩))) (.s (.s .n (.c (.r [0,0,0,0,10,11,0] none) .n (some ⟨ou :: ou :: .one (.ptr 0 0) :: .one (.ptr 1 0) :: ou :: .one (.own 145 12) :: uu 77 [],.var 27 [.sl 37,.sl 37,.sl 125] :: .var 37 [.i .i64,.b,.s,.s,.sl 9,.sl 199,.sl 196,.sl 201,.sl 125,.b,.sl 191] :: vv 25 []⟩))) (.s (.s .n (.b (.s (.s .n (.c .n .n (some ⟨ou :: ou :: .one (.ptr 0 0) :: .one (.ptr 1 0) :: ou :: .one (.own 145 13) :: uu 28 (oi :: ob :: uu 47 []),.var 27 [.sl 37,.sl 37,.sl 125] :: .var 37 [.i .i64,.b,.s,.s,.sl 9,.sl 199,.sl 196,.sl 201,.sl 125,.b,.sl 191] :: vv 25 []⟩))) (.c (.s (.r [0,0,0,14,0] none) .n) (.s .n (.c (.s (.r [0,0,0,15,0] none) .n) (.s .n (.c (.s (.r [0,0,16,0] none) .n) (.s .n (.c (.s (.s .n (.c (.r [0,0,0,0,18,19,0] none) .n (some ⟨ou :: ou :: .one (.ptr 0 0) :: .one (.ptr 1 0) :: ou :: .one (.own 145 20) :: uu 77 [],.var 27 [.sl 37,.sl 37,.sl 125] :: .var 37 [.i .i64,.b,.s,.s,.sl 9,.sl 199,.sl 196,.sl 201,.sl 125,.b,.sl 191] :: vv 25 []⟩))) (.s (.r [0,0,0,0,0,0,21,0] none) (.s .n (.c (.r [0,0,0,0,22,23,0] none) .n (some ⟨uu 5 (.one (.own 145 24) :: uu 77 []),vv 27 []⟩))))) .n (some ⟨uu 5 (.one (.own 145 25) :: uu 77 []),vv 27 []⟩))) none)) none)) none)) ⟨uu 5 (.one (.own 145 26) :: uu 77 []),vv 27 []⟩)) .n)))))))
noncomputable def jeh:FI:=jE Tryz.f95 0 [.ct .s] [(false,[.ct .b])] (fun _=>(.s .n (.s (.r [] (some ⟨ou :: ou :: ob :: uu 8 [],[]⟩)) .n)))
noncomputable def jeg:FI:=jE Tryz.f96 6 [.ag [.sl 37,.sl 37,.sl 125],.ct .s,.ct (.sl 196)] [(false,[.new 145])] (fun _=>(.s (.r [0,0] none) (.s (.s .n (.c (.s (.r [0,0,2,0] none) .n) .n none)) (.s (.r [0,0,0,4,5,0] none) .n))))
noncomputable def jef:FI:=jE Tryz.f97 1 [.ag [.sl 37,.sl 37,.sl 125],.ct (.i .i64)] [(false,[.ct .s])] (fun _=>(.s (.r [0,0] none) (.s (.s .n (.b (.b (.s .n (.s (.b .n ⟨ou :: oi :: .one (.ptr 0 0) :: ou :: ou :: oi :: uu 21 [],.var 27 [.sl 37,.sl 37,.sl 125] :: []⟩) .n)) ⟨ou :: oi :: .one (.ptr 0 0) :: ou :: ou :: oi :: uu 21 [],.var 27 [.sl 37,.sl 37,.sl 125] :: []⟩) ⟨uu 27 [],.u :: []⟩)) .n)))
noncomputable def jee:FI:=jE Tryz.f98 0 [.ct (.i .i64)] [(false,[.ct .s])] (fun _=>(.s .n (.s (.s .n (.b .n ⟨uu 10 [],[]⟩)) .n)))
noncomputable def jed:FI:=jE Tryz.f99 35 [.ct (.sl 37)] [(false,[.new 37])] (fun _=>(.s .n (.s (.s .n (.c (.s (.r [0,0] none) (.s (.s .n (.b (.b (.s .n (.s (.b (.r [0,0,0,0,0,2,8,9,0] none) ⟨ol 37 :: ou :: ou :: .one (.own 37 10) :: oi :: uu 89 [],vv 35 []⟩) .n)) ⟨ol 37 :: ou :: ou :: .one (.own 37 1) :: oi :: uu 89 [],vv 35 []⟩) ⟨uu 3 (.one (.own 37 11) :: uu 90 []),vv 35 []⟩)) .n)) .n none)) (.s (.r [0,0,0,0,0,12,0] none) (.s (.r [0,0,0,0,0,13,0] none) (.s (.r [14,0] none) (.s .n (.s .n (.s (.b (.b (.s (.s (.r [] (some ⟨uu 5 (.one (.own 37 18) :: .one (.own 37 19) :: .one (.own 37 20) :: oi :: oi :: uu 41 (ob :: uu 42 [])),vv 35 []⟩)) .n) (.b (.s (.r [] (some ⟨uu 5 (.one (.own 37 21) :: .one (.own 37 22) :: .one (.own 37 23) :: oi :: oi :: uu 64 (ob :: uu 19 [])),vv 35 []⟩)) (.c (.s (.r [0,0,0,0,0,24,25,0] none) .n) (.s (.r [0,0,0,0,0,26,27,0] none) .n) (some ⟨uu 5 (.one (.own 37 28) :: .one (.own 37 29) :: .one (.own 37 30) :: oi :: oi :: uu 84 []),vv 35 []⟩))) ⟨uu 5 (.one (.own 37 31) :: .one (.own 37 32) :: .one (.own 37 33) :: oi :: oi :: uu 84 []),vv 35 []⟩)) ⟨uu 5 (.one (.own 37 15) :: .one (.own 37 16) :: .one (.own 37 17) :: oi :: oi :: uu 84 []),vv 35 []⟩) ⟨uu 7 (.one (.own 37 34) :: uu 86 []),vv 35 []⟩) .n)))))))))
noncomputable def jex:FI:=jE Tryz.f73 2 [.ag [.i .i64,.b,.s,.s,.sl 9,.sl 199,.sl 196,.sl 201,.sl 125,.b,.sl 191],.ptr] [(false,[.ct .b])] (fun _=>(.s (.r [1,0] none) .n))
noncomputable def jdt:FI:=jE Tryz.f101 0 [.ct .s,.ct (.i .i64)] [(false,[.ct (.i .i64)]),(false,[.ct (.i .i64)])] (fun _=>(.s .n (.s (.s (.r [] (some ⟨os :: oi :: uu 16 (ob :: uu 70 []),[]⟩)) .n) (.s .n (.s .n (.s .n (.s (.b (.s .n (.c .n (.s (.r [] (some ⟨os :: oi :: uu 4 (oi :: uu 20 (ob :: uu 61 [])),[]⟩)) (.c .n (.s (.r [] (some ⟨os :: oi :: uu 4 (oi :: uu 29 (ob :: uu 52 [])),[]⟩)) (.c .n (.s (.r [] (some ⟨os :: oi :: uu 4 (oi :: uu 38 (ob :: uu 43 [])),[]⟩)) .n) (some ⟨os :: oi :: uu 5 (oi :: oi :: uu 80 []),[]⟩))) (some ⟨os :: oi :: uu 5 (oi :: oi :: uu 80 []),[]⟩))) none)) ⟨os :: oi :: uu 5 (oi :: oi :: uu 80 []),[]⟩) (.s .n (.s (.s .n (.b (.b (.s .n (.s (.b (.s .n (.s (.s (.r [] (some ⟨os :: oi :: uu 5 (oi :: oi :: oi :: oi :: uu 65 (ob :: uu 12 [])),[]⟩)) .n) .n)) ⟨os :: oi :: uu 5 (oi :: oi :: oi :: uu 79 []),[]⟩) .n)) ⟨os :: oi :: uu 5 (oi :: oi :: oi :: uu 79 []),[]⟩) ⟨uu 7 (oi :: oi :: uu 80 []),[]⟩)) .n)))))))))
noncomputable def jds:FI:=jE Tryz.f102 0 [.ct .s,.ct (.i .i64)] [(false,[.ct (.i .i64)])] (fun _=>(.s .n (.s (.b (.b (.s .n (.b (.b (.s (.r [] (some ⟨os :: oi :: uu 8 (ob :: uu 67 []),[]⟩)) (.c .n (.s (.r [] (some ⟨os :: oi :: uu 39 (ob :: uu 36 []),[]⟩)) (.c .n (.s .n (.c (.b (.b (.s (.s (.r [] (some ⟨os :: oi :: uu 72 (ob :: uu 3 []),[]⟩)) .n) (.b .n ⟨os :: oi :: uu 76 [],[]⟩)) ⟨os :: oi :: uu 76 [],[]⟩) ⟨os :: oi :: uu 76 [],[]⟩) .n none)) (some ⟨os :: oi :: uu 76 [],[]⟩))) (some ⟨os :: oi :: uu 76 [],[]⟩))) ⟨os :: oi :: uu 76 [],[]⟩) ⟨os :: oi :: uu 76 [],[]⟩)) ⟨os :: oi :: uu 76 [],[]⟩) ⟨ou :: oi :: uu 76 [],[]⟩) .n)))
noncomputable def jdr:FI:=jE Tryz.f103 2 [.ct .s,.ct (.i .i64)] [(true,[.ct (.i .i64),.ct .s,.ct (.i .i64)]),(false,[.ct (.i .i64)]),(false,[.ct (.i .i64)])] (fun _=>(.s (.r [0,0,0] none) (.s (.r [0,0,1,0] none) (.s (.b (.s .n (.c .n (.s (.r [] (some ⟨os :: oi :: ou :: ou :: .one (.ptr 0 0) :: ou :: ou :: .one (.ptr 1 0) :: uu 29 (ob :: uu 107 []),.var 159 [.i .i64,.s,.i .i64] :: .var 159 [.i .i64,.s,.i .i64] :: []⟩)) (.c .n (.s .n (.c (.s .n (.s .n (.s .n (.s (.s .n (.c (.s .n (.s .n (.c .n .n (some ⟨ou :: oi :: ou :: ou :: .one (.ptr 0 0) :: ou :: ou :: .one (.ptr 1 0) :: ou :: ou :: ob :: oi :: uu 133 [],.var 159 [.i .i64,.s,.i .i64] :: .var 159 [.i .i64,.s,.i .i64] :: []⟩)))) (.s .n (.s .n (.c .n .n (some ⟨ou :: oi :: ou :: ou :: .one (.ptr 0 0) :: ou :: ou :: .one (.ptr 1 0) :: ou :: ou :: ob :: oi :: uu 133 [],.var 159 [.i .i64,.s,.i .i64] :: .var 159 [.i .i64,.s,.i .i64] :: []⟩)))) (some ⟨ou :: oi :: ou :: ou :: .one (.ptr 0 0) :: ou :: ou :: .one (.ptr 1 0) :: ou :: ou :: ob :: oi :: uu 133 [],.var 159 [.i .i64,.s,.i .i64] :: .var 159 [.i .i64,.s,.i .i64] :: []⟩))) .n)))) .n none)) none)) none)) ⟨os :: oi :: ou :: ou :: .one (.ptr 0 0) :: ou :: ou :: .one (.ptr 1 0) :: uu 137 [],.var 159 [.i .i64,.s,.i .i64] :: .var 159 [.i .i64,.s,.i .i64] :: []⟩) (.s .n (.s (.s (.r [] (some ⟨os :: oi :: ou :: ou :: .one (.ptr 0 0) :: ou :: ou :: .one (.ptr 1 0) :: uu 4 (oi :: uu 115 (ob :: uu 16 [])),.var 159 [.i .i64,.s,.i .i64] :: .var 159 [.i .i64,.s,.i .i64] :: []⟩)) (.c .n .n (some ⟨os :: oi :: ou :: ou :: .one (.ptr 0 0) :: ou :: ou :: .one (.ptr 1 0) :: uu 4 (oi :: uu 132 []),.var 159 [.i .i64,.s,.i .i64] :: .var 159 [.i .i64,.s,.i .i64] :: []⟩))) .n))))))
noncomputable def jdq:FI:=jE Tryz.f104 1 [.ptr,.ct .s] [(false,[.ct .b])] (fun _=>(.s .n (.s (.r [] (some ⟨uu 4 (ob :: uu 47 []),.var 106 [.sl 159,.i .i64,.i .i64,.i .i64,.i .i64] :: []⟩)) .n)))
noncomputable def jdp:FI:=jE Tryz.f105 1 [.ct (.i .i64)] [(false,[.ct .s])] (fun _=>(.s .n (.s (.r [0,0,0,0,0] none) .n)))
noncomputable def jdo:FI:=jE Tryz.f106 1 [.ptr] [(false,[.ct .s])] (fun _=>.n)
noncomputable def jdn:FI:=jE Tryz.f107 16 [.ptr] [(false,[.new 186])] (fun _=>(.s .n (.s (.r [2,0] none) (.s .n (.s (.b (.b (.s .n (.b (.s (.r [0,4,0] none) (.s .n (.s .n (.s .n (.s .n (.s (.s .n (.c (.s .n (.r [0,5,0,0] none)) .n (some ⟨.one (.ptr 0 0) :: ou :: ou :: .one (.own 186 7) :: .one (.ptr 4 0) :: uu 38 [],.var 106 [.sl 159,.i .i64,.i .i64,.i .i64,.i .i64] :: vv 3 (.var 186 [.s,.s,.s,.b,.i .i64,.s,.own 184 8,.own 9 9,.nil] :: vv 11 [])⟩))) (.s (.r [0,10,0,0] none) (.s (.r [0,0,12,13,0] none) .n)))))))) ⟨.one (.ptr 0 0) :: ou :: ou :: .one (.own 186 14) :: uu 39 [],.var 106 [.sl 159,.i .i64,.i .i64,.i .i64,.i .i64] :: vv 15 []⟩)) ⟨.one (.ptr 0 0) :: ou :: ou :: .one (.own 186 3) :: uu 39 [],.var 106 [.sl 159,.i .i64,.i .i64,.i .i64,.i .i64] :: vv 15 []⟩) ⟨uu 3 (.one (.own 186 15) :: uu 39 []),.var 106 [.sl 159,.i .i64,.i .i64,.i .i64,.i .i64] :: vv 15 []⟩) .n)))))
noncomputable def jdm:FI:=jE Tryz.f108 10 [.ptr,.ct .b] [(false,[.new 191])] (fun _=>(.s .n (.s (.r [2,0] none) (.s (.b (.b (.s .n (.b (.s (.r [0,0,0,4,0] none) (.s (.r [0,0,5,0,0] none) (.r [0,0,6,7,0] none))) ⟨.one (.ptr 0 0) :: ob :: uu 3 (.one (.own 191 8) :: uu 16 []),.var 106 [.sl 159,.i .i64,.i .i64,.i .i64,.i .i64] :: vv 9 []⟩)) ⟨.one (.ptr 0 0) :: ob :: uu 3 (.one (.own 191 3) :: uu 16 []),.var 106 [.sl 159,.i .i64,.i .i64,.i .i64,.i .i64] :: vv 9 []⟩) ⟨uu 5 (.one (.own 191 9) :: uu 16 []),.var 106 [.sl 159,.i .i64,.i .i64,.i .i64,.i .i64] :: vv 9 []⟩) .n))))
noncomputable def jdl:FI:=jE Tryz.f109 28 [.ptr,.ct (.i .i64),.ptr] [(false,[.new 194])] (fun _=>(.s .n (.s (.r [2,0] none) (.s (.s (.r [] (some ⟨.one (.ptr 0 0) :: oi :: .one (.ptr 1 0) :: uu 4 (.one (.own 194 3) :: uu 7 (ob :: uu 95 [])),.var 106 [.sl 159,.i .i64,.i .i64,.i .i64,.i .i64] :: .var 3 [.i .i64] :: vv 26 []⟩)) (.c .n .n (some ⟨.one (.ptr 0 0) :: oi :: .one (.ptr 1 0) :: uu 4 (.one (.own 194 4) :: uu 103 []),.var 106 [.sl 159,.i .i64,.i .i64,.i .i64,.i .i64] :: .var 3 [.i .i64] :: vv 26 []⟩))) (.s .n (.s (.b (.b (.s .n (.b (.s (.s (.r [] (some ⟨.one (.ptr 0 0) :: oi :: .one (.ptr 1 0) :: uu 4 (.one (.own 194 6) :: uu 29 (ob :: uu 73 [])),.var 106 [.sl 159,.i .i64,.i .i64,.i .i64,.i .i64] :: .var 3 [.i .i64] :: vv 26 []⟩)) .n) (.s .n (.s (.r [0,7,0] none) (.s (.s .n (.c (.s .n (.s .n (.c .n (.s .n (.c .n .n (some ⟨.one (.ptr 0 0) :: oi :: .one (.ptr 1 0) :: uu 4 (.one (.own 194 8) :: .one (.ptr 7 0) :: uu 102 []),.var 106 [.sl 159,.i .i64,.i .i64,.i .i64,.i .i64] :: .var 3 [.i .i64] :: vv 5 (.var 194 [.i .i64,.s,.s,.s,.nil,.nil,.nil] :: vv 20 [])⟩))) (some ⟨.one (.ptr 0 0) :: oi :: .one (.ptr 1 0) :: uu 4 (.one (.own 194 9) :: .one (.ptr 7 0) :: uu 102 []),.var 106 [.sl 159,.i .i64,.i .i64,.i .i64,.i .i64] :: .var 3 [.i .i64] :: vv 5 (.var 194 [.i .i64,.s,.s,.s,.nil,.nil,.nil] :: vv 20 [])⟩)))) (.s .n (.s (.s .n (.c .n .n (some ⟨.one (.ptr 0 0) :: oi :: .one (.ptr 1 0) :: uu 4 (.one (.own 194 10) :: .one (.ptr 7 0) :: uu 102 []),.var 106 [.sl 159,.i .i64,.i .i64,.i .i64,.i .i64] :: .var 3 [.i .i64] :: vv 5 (.var 194 [.i .i64,.s,.s,.s,.nil,.nil,.nil] :: vv 20 [])⟩))) (.r [0,11,0,0] none))) (some ⟨.one (.ptr 0 0) :: oi :: .one (.ptr 1 0) :: uu 4 (.one (.own 194 12) :: .one (.ptr 7 0) :: uu 102 []),.var 106 [.sl 159,.i .i64,.i .i64,.i .i64,.i .i64] :: .var 3 [.i .i64] :: vv 5 (.var 194 [.i .i64,.s,.s,.s,.own 212 13,.nil,.nil] :: vv 20 [])⟩))) (.s (.r [0,14,0,0] none) (.s (.s (.r [] (some ⟨.one (.ptr 0 0) :: oi :: .one (.ptr 1 0) :: uu 4 (.one (.own 194 15) :: .one (.ptr 7 0) :: uu 88 (ob :: uu 13 [])),.var 106 [.sl 159,.i .i64,.i .i64,.i .i64,.i .i64] :: .var 3 [.i .i64] :: vv 5 (.var 194 [.i .i64,.s,.s,.s,.own 212 16,.own 191 17,.nil] :: vv 20 [])⟩)) (.c (.r [0,0,0,0,18,0,0] none) .n (some ⟨.one (.ptr 0 0) :: oi :: .one (.ptr 1 0) :: uu 4 (.one (.own 194 19) :: .one (.ptr 7 0) :: uu 102 []),.var 106 [.sl 159,.i .i64,.i .i64,.i .i64,.i .i64] :: .var 3 [.i .i64] :: vv 5 (.var 194 [.i .i64,.s,.s,.s,.own 212 20,.own 191 21,.own 194 22] :: vv 20 [])⟩))) (.s (.r [0,0,24,25,0] none) .n))))))) ⟨.one (.ptr 0 0) :: oi :: .one (.ptr 1 0) :: uu 4 (.one (.own 194 26) :: uu 103 []),.var 106 [.sl 159,.i .i64,.i .i64,.i .i64,.i .i64] :: .var 3 [.i .i64] :: vv 26 []⟩)) ⟨.one (.ptr 0 0) :: oi :: .one (.ptr 1 0) :: uu 4 (.one (.own 194 5) :: uu 103 []),.var 106 [.sl 159,.i .i64,.i .i64,.i .i64,.i .i64] :: .var 3 [.i .i64] :: vv 26 []⟩) ⟨uu 7 (.one (.own 194 27) :: uu 103 []),.var 106 [.sl 159,.i .i64,.i .i64,.i .i64,.i .i64] :: .var 3 [.i .i64] :: vv 26 []⟩) .n))))))
noncomputable def jdk:FI:=jE Tryz.f110 1 [.ptr,.ct .s] [] (fun _=>.n)
noncomputable def jdj:FI:=jE Tryz.f111 12 [.ptr,.ct .s,.ct .s] [(false,[.new 196])] (fun _=>(.s .n (.s (.r [2,0] none) (.s .n (.s (.b (.b (.s .n (.b (.s (.r [0,0,4,8,9,0] none) .n) ⟨.one (.ptr 0 0) :: ou :: os :: uu 4 (.one (.own 196 10) :: uu 21 []),.var 106 [.sl 159,.i .i64,.i .i64,.i .i64,.i .i64] :: vv 11 []⟩)) ⟨.one (.ptr 0 0) :: ou :: os :: uu 4 (.one (.own 196 3) :: uu 21 []),.var 106 [.sl 159,.i .i64,.i .i64,.i .i64,.i .i64] :: vv 11 []⟩) ⟨uu 7 (.one (.own 196 11) :: uu 21 []),.var 106 [.sl 159,.i .i64,.i .i64,.i .i64,.i .i64] :: vv 11 []⟩) .n)))))
noncomputable def jdi:FI:=jE Tryz.f112 10 [.ptr] [(false,[.new 9])] (fun _=>(.s .n (.s (.r [2,0] none) (.s .n (.s (.b (.b (.s .n (.b (.s (.s (.r [] (some ⟨.one (.ptr 0 0) :: ou :: ou :: .one (.own 9 4) :: uu 26 (ob :: uu 11 []),.var 106 [.sl 159,.i .i64,.i .i64,.i .i64,.i .i64] :: vv 9 []⟩)) (.c .n .n (some ⟨.one (.ptr 0 0) :: ou :: ou :: .one (.own 9 5) :: uu 38 [],.var 106 [.sl 159,.i .i64,.i .i64,.i .i64,.i .i64] :: vv 9 []⟩))) (.s (.r [0,0,0,6,7,0] none) .n)) ⟨.one (.ptr 0 0) :: ou :: ou :: .one (.own 9 8) :: uu 38 [],.var 106 [.sl 159,.i .i64,.i .i64,.i .i64,.i .i64] :: vv 9 []⟩)) ⟨.one (.ptr 0 0) :: ou :: ou :: .one (.own 9 3) :: uu 38 [],.var 106 [.sl 159,.i .i64,.i .i64,.i .i64,.i .i64] :: vv 9 []⟩) ⟨uu 3 (.one (.own 9 9) :: uu 38 []),.var 106 [.sl 159,.i .i64,.i .i64,.i .i64,.i .i64] :: vv 9 []⟩) .n)))))
noncomputable def jdh:FI:=jE Tryz.f113 8 [.ptr,.ct .s] [(false,[.new 9])] (fun _=>(.s .n (.s (.r [2,0] none) (.s .n (.s (.b (.b (.s .n (.b (.s (.r [0,0,0,4,5,0] none) .n) ⟨.one (.ptr 0 0) :: os :: uu 3 (.one (.own 9 6) :: uu 20 []),.var 106 [.sl 159,.i .i64,.i .i64,.i .i64,.i .i64] :: vv 7 []⟩)) ⟨.one (.ptr 0 0) :: os :: uu 3 (.one (.own 9 3) :: uu 20 []),.var 106 [.sl 159,.i .i64,.i .i64,.i .i64,.i .i64] :: vv 7 []⟩) ⟨uu 5 (.one (.own 9 7) :: uu 20 []),.var 106 [.sl 159,.i .i64,.i .i64,.i .i64,.i .i64] :: vv 7 []⟩) .n)))))
noncomputable def jdg:FI:=jE Tryz.f114 12 [.ptr] [(false,[.new 199])] (fun _=>(.s .n (.s (.r [2,0] none) (.s .n (.s (.b (.b (.s .n (.b (.s (.r [0,0,0,4,0] none) (.s .n (.s (.r [0,5,0,0] none) (.s .n (.s .n (.s (.r [0,6,0,0] none) (.s (.r [0,0,8,9,0] none) .n))))))) ⟨.one (.ptr 0 0) :: ou :: ou :: .one (.own 199 10) :: uu 36 [],.var 106 [.sl 159,.i .i64,.i .i64,.i .i64,.i .i64] :: vv 11 []⟩)) ⟨.one (.ptr 0 0) :: ou :: ou :: .one (.own 199 3) :: uu 36 [],.var 106 [.sl 159,.i .i64,.i .i64,.i .i64,.i .i64] :: vv 11 []⟩) ⟨uu 3 (.one (.own 199 11) :: uu 36 []),.var 106 [.sl 159,.i .i64,.i .i64,.i .i64,.i .i64] :: vv 11 []⟩) .n)))))
noncomputable def jdf:FI:=jE Tryz.f115 1 [.ptr,.ct .s] [(false,[.ct .b])] (fun _=>.n)
noncomputable def jde:FI:=jE Tryz.f116 12 [.ptr] [(false,[.new 201])] (fun _=>(.s .n (.s (.r [2,0] none) (.s .n (.s (.b (.b (.s .n (.b (.s (.r [0,0,0,4,0] none) (.s (.s (.r [] (some ⟨.one (.ptr 0 0) :: ou :: ou :: .one (.own 201 5) :: .one (.ptr 4 0) :: uu 29 (ob :: uu 15 []),.var 106 [.sl 159,.i .i64,.i .i64,.i .i64,.i .i64] :: vv 3 (.var 201 [.s,.s,.nil] :: vv 7 [])⟩)) (.c .n .n (some ⟨.one (.ptr 0 0) :: ou :: ou :: .one (.own 201 6) :: .one (.ptr 4 0) :: uu 45 [],.var 106 [.sl 159,.i .i64,.i .i64,.i .i64,.i .i64] :: vv 3 (.var 201 [.s,.s,.nil] :: vv 7 [])⟩))) (.s .n (.s (.r [0,7,0,0] none) (.s (.r [0,0,8,9,0] none) .n))))) ⟨.one (.ptr 0 0) :: ou :: ou :: .one (.own 201 10) :: uu 46 [],.var 106 [.sl 159,.i .i64,.i .i64,.i .i64,.i .i64] :: vv 11 []⟩)) ⟨.one (.ptr 0 0) :: ou :: ou :: .one (.own 201 3) :: uu 46 [],.var 106 [.sl 159,.i .i64,.i .i64,.i .i64,.i .i64] :: vv 11 []⟩) ⟨uu 3 (.one (.own 201 11) :: uu 46 []),.var 106 [.sl 159,.i .i64,.i .i64,.i .i64,.i .i64] :: vv 11 []⟩) .n)))))
noncomputable def jdd:FI:=jE Tryz.f117 14 [.ptr] [(false,[.new 125])] (fun _=>(.s .n (.s (.r [2,0] none) (.s .n (.s (.b (.b (.s .n (.b (.s (.r [0,4,0] none) (.s (.s .n (.b (.b (.s .n (.s (.b (.s .n (.c .n .n (some ⟨.one (.ptr 0 0) :: ou :: ou :: .one (.own 125 6) :: .one (.ptr 4 0) :: oi :: uu 41 [],.var 106 [.sl 159,.i .i64,.i .i64,.i .i64,.i .i64] :: vv 3 (.var 125 [.i .i64,.s] :: vv 9 [])⟩))) ⟨.one (.ptr 0 0) :: ou :: ou :: .one (.own 125 7) :: .one (.ptr 4 0) :: oi :: uu 41 [],.var 106 [.sl 159,.i .i64,.i .i64,.i .i64,.i .i64] :: vv 3 (.var 125 [.i .i64,.s] :: vv 9 [])⟩) .n)) ⟨.one (.ptr 0 0) :: ou :: ou :: .one (.own 125 5) :: .one (.ptr 4 0) :: oi :: uu 41 [],.var 106 [.sl 159,.i .i64,.i .i64,.i .i64,.i .i64] :: vv 3 (.var 125 [.i .i64,.s] :: vv 9 [])⟩) ⟨.one (.ptr 0 0) :: ou :: ou :: .one (.own 125 8) :: .one (.ptr 4 0) :: uu 42 [],.var 106 [.sl 159,.i .i64,.i .i64,.i .i64,.i .i64] :: vv 3 (.var 125 [.i .i64,.s] :: vv 9 [])⟩)) (.s (.s .n (.c .n .n (some ⟨.one (.ptr 0 0) :: ou :: ou :: .one (.own 125 9) :: .one (.ptr 4 0) :: uu 42 [],.var 106 [.sl 159,.i .i64,.i .i64,.i .i64,.i .i64] :: vv 3 (.var 125 [.i .i64,.s] :: vv 9 [])⟩))) (.s .n (.s .n (.s .n (.s (.r [0,0,10,11,0] none) .n))))))) ⟨.one (.ptr 0 0) :: ou :: ou :: .one (.own 125 12) :: uu 43 [],.var 106 [.sl 159,.i .i64,.i .i64,.i .i64,.i .i64] :: vv 13 []⟩)) ⟨.one (.ptr 0 0) :: ou :: ou :: .one (.own 125 3) :: uu 43 [],.var 106 [.sl 159,.i .i64,.i .i64,.i .i64,.i .i64] :: vv 13 []⟩) ⟨uu 3 (.one (.own 125 13) :: uu 43 []),.var 106 [.sl 159,.i .i64,.i .i64,.i .i64,.i .i64] :: vv 13 []⟩) .n)))))
noncomputable def jdc:FI:=jE Tryz.f118 1 [.ag [.i .i64,.b,.s,.s,.sl 9,.sl 199,.sl 196,.sl 201,.sl 125,.b,.sl 191]] [(false,[.ct .b])] (fun _=>(.s (.r [0,0] none) .n))
noncomputable def jdb:FI:=jE Tryz.f119 11 [.ct (.sl 199)] [(false,[.new 1199])] (fun _=>(.s .n (.s (.r [1,0] none) (.s (.s .n (.b (.b (.s .n (.s (.b (.s (.r [0,0,0,0,3,0] none) (.s (.r [0,0,4,0,0] none) (.s (.r [0,0,5,0,0] none) (.r [0,0,7,8,0] none)))) ⟨ol 199 :: ou :: ou :: .one (.own 1199 9) :: oi :: uu 25 [],vv 11 []⟩) .n)) ⟨ol 199 :: ou :: ou :: .one (.own 1199 2) :: oi :: uu 25 [],vv 11 []⟩) ⟨uu 3 (.one (.own 1199 10) :: uu 26 []),vv 11 []⟩)) .n))))
noncomputable def jda:FI:=jE Tryz.f120 11 [.ct (.sl 196)] [(false,[.new 1196])] (fun _=>(.s .n (.s (.r [1,0] none) (.s (.s .n (.b (.b (.s .n (.s (.b (.s (.r [0,0,0,0,3,0] none) (.s (.r [0,0,4,0,0] none) (.s (.r [0,0,6,0,0] none) (.r [0,0,7,8,0] none)))) ⟨ol 196 :: ou :: ou :: .one (.own 1196 9) :: oi :: uu 25 [],vv 11 []⟩) .n)) ⟨ol 196 :: ou :: ou :: .one (.own 1196 2) :: oi :: uu 25 [],vv 11 []⟩) ⟨uu 3 (.one (.own 1196 10) :: uu 26 []),vv 11 []⟩)) .n))))
noncomputable def jd9:FI:=jE Tryz.f121 9 [.ct (.sl 201)] [(false,[.new 1201])] (fun _=>(.s .n (.s (.r [1,0] none) (.s (.s .n (.b (.b (.s .n (.s (.b (.s (.r [0,0,0,0,3,0] none) (.s (.r [0,0,4,0,0] none) (.r [0,0,5,6,0] none))) ⟨ol 201 :: ou :: ou :: .one (.own 1201 7) :: oi :: uu 21 [],vv 9 []⟩) .n)) ⟨ol 201 :: ou :: ou :: .one (.own 1201 2) :: oi :: uu 21 [],vv 9 []⟩) ⟨uu 3 (.one (.own 1201 8) :: uu 22 []),vv 9 []⟩)) .n))))
noncomputable def jd8:FI:=jE Tryz.f122 9 [.ct (.sl 191)] [(false,[.new 1191])] (fun _=>(.s .n (.s (.r [1,0] none) (.s (.s .n (.b (.b (.s .n (.s (.b (.r [0,0,0,0,0,0,0,0,0,0,0,3,0,5,6,0] none) ⟨ol 191 :: ou :: ou :: .one (.own 1191 7) :: oi :: uu 23 [],vv 9 []⟩) .n)) ⟨ol 191 :: ou :: ou :: .one (.own 1191 2) :: oi :: uu 23 [],vv 9 []⟩) ⟨uu 3 (.one (.own 1191 8) :: uu 24 []),vv 9 []⟩)) .n))))
noncomputable def jd7:FI:=jE Tryz.f123 1 [.ag [.i .i64,.b,.s,.s,.sl 9,.sl 199,.sl 196,.sl 201,.sl 125,.b,.sl 191]] [(false,[.ct .b])] (fun _=>(.s (.r [0,0] none) (.s (.s .n (.b (.b (.s .n (.s (.b .n ⟨ou :: .one (.ptr 0 0) :: ou :: oi :: uu 37 [],.var 37 [.i .i64,.b,.s,.s,.sl 9,.sl 199,.sl 196,.sl 201,.sl 125,.b,.sl 191] :: []⟩) .n)) ⟨ou :: .one (.ptr 0 0) :: ou :: oi :: uu 37 [],.var 37 [.i .i64,.b,.s,.s,.sl 9,.sl 199,.sl 196,.sl 201,.sl 125,.b,.sl 191] :: []⟩) ⟨ou :: .one (.ptr 0 0) :: uu 39 [],.var 37 [.i .i64,.b,.s,.s,.sl 9,.sl 199,.sl 196,.sl 201,.sl 125,.b,.sl 191] :: []⟩)) (.s (.r [] (some ⟨ou :: ou :: ob :: uu 38 [],.u :: []⟩)) .n))))
noncomputable def jd6:FI:=jE Tryz.f124 26 [.ag [.sl 37,.sl 37,.sl 125],.ag [.i .i64,.b,.s,.s,.sl 9,.sl 199,.sl 196,.sl 201,.sl 125,.b,.sl 191],.mv 145] [(false,[.new 145])] (fun _=>(.s (.r [1,2,0] none) (.s (.s .n (.c (.r [0,0,0,0,4,5,0] none) .n (some ⟨ou :: ou :: .one (.own 145 6) :: .one (.ptr 1 0) :: .one (.ptr 2 0) :: uu 82 [],.u :: .var 27 [.sl 37,.sl 37,.sl 125] :: .var 37 [.i .i64,.b,.s,.s,.sl 9,.sl 199,.sl 196,.sl 201,.sl 125,.b,.sl 191] :: vv 23 []⟩))) (.s (.s .n (.b (.b (.s .n (.s (.b (.s (.r [0,0,0,0,0,8,0] none) (.s (.s .n (.c (.r [0,0,0,0,0,0,10,11,0] none) .n (some ⟨ou :: ou :: .one (.own 145 12) :: .one (.ptr 1 0) :: .one (.ptr 2 0) :: ou :: ou :: oi :: .one (.ptr 8 0) :: uu 78 [],.u :: .var 27 [.sl 37,.sl 37,.sl 125] :: .var 37 [.i .i64,.b,.s,.s,.sl 9,.sl 199,.sl 196,.sl 201,.sl 125,.b,.sl 191] :: vv 5 (.var 199 [.s,.s,.sl 196,.s,.s,.sl 191] :: vv 17 [])⟩))) (.s (.s .n (.c (.r [0,0,0,0,0,0,14,15,0] none) .n (some ⟨ou :: ou :: .one (.own 145 16) :: .one (.ptr 1 0) :: .one (.ptr 2 0) :: ou :: ou :: oi :: .one (.ptr 8 0) :: uu 78 [],.u :: .var 27 [.sl 37,.sl 37,.sl 125] :: .var 37 [.i .i64,.b,.s,.s,.sl 9,.sl 199,.sl 196,.sl 201,.sl 125,.b,.sl 191] :: vv 5 (.var 199 [.s,.s,.sl 196,.s,.s,.sl 191] :: vv 17 [])⟩))) (.s (.s .n (.c (.r [0,0,0,0,0,0,18,19,0] none) .n (some ⟨ou :: ou :: .one (.own 145 20) :: .one (.ptr 1 0) :: .one (.ptr 2 0) :: ou :: ou :: oi :: .one (.ptr 8 0) :: uu 78 [],.u :: .var 27 [.sl 37,.sl 37,.sl 125] :: .var 37 [.i .i64,.b,.s,.s,.sl 9,.sl 199,.sl 196,.sl 201,.sl 125,.b,.sl 191] :: vv 5 (.var 199 [.s,.s,.sl 196,.s,.s,.sl 191] :: vv 17 [])⟩))) (.r [0,0,0,0,0,0,0,0,0,0,21,0] none))))) ⟨ou :: ou :: .one (.own 145 22) :: .one (.ptr 1 0) :: .one (.ptr 2 0) :: ou :: ou :: oi :: uu 79 [],.u :: .var 27 [.sl 37,.sl 37,.sl 125] :: .var 37 [.i .i64,.b,.s,.s,.sl 9,.sl 199,.sl 196,.sl 201,.sl 125,.b,.sl 191] :: vv 23 []⟩) .n)) ⟨ou :: ou :: .one (.own 145 7) :: .one (.ptr 1 0) :: .one (.ptr 2 0) :: ou :: ou :: oi :: uu 79 [],.u :: .var 27 [.sl 37,.sl 37,.sl 125] :: .var 37 [.i .i64,.b,.s,.s,.sl 9,.sl 199,.sl 196,.sl 201,.sl 125,.b,.sl 191] :: vv 23 []⟩) ⟨ou :: ou :: .one (.own 145 23) :: .one (.ptr 1 0) :: .one (.ptr 2 0) :: uu 82 [],.u :: .var 27 [.sl 37,.sl 37,.sl 125] :: .var 37 [.i .i64,.b,.s,.s,.sl 9,.sl 199,.sl 196,.sl 201,.sl 125,.b,.sl 191] :: vv 23 []⟩)) (.s (.r [0,0,0,24,25,0] none) .n)))))
noncomputable def jd5:FI:=jE Tryz.f125 17 [.ag [.sl 37,.sl 37,.sl 125],.ag [.i .i64,.b,.s,.s,.sl 9,.sl 199,.sl 196,.sl 201,.sl 125,.b,.sl 191],.mv 145] [(false,[.new 145])] (fun _=>(.s (.r [1,2,0] none) (.s (.s .n (.c (.r [0,0,0,0,4,5,0] none) .n (some ⟨ou :: ou :: .one (.own 145 6) :: .one (.ptr 1 0) :: .one (.ptr 2 0) :: uu 61 [],.u :: .var 27 [.sl 37,.sl 37,.sl 125] :: .var 37 [.i .i64,.b,.s,.s,.sl 9,.sl 199,.sl 196,.sl 201,.sl 125,.b,.sl 191] :: vv 14 []⟩))) (.s (.s .n (.b (.b (.s .n (.s (.b (.s (.s .n (.c (.r [0,0,0,0,0,0,0,0,0,8,9,0] none) .n (some ⟨ou :: ou :: .one (.own 145 10) :: .one (.ptr 1 0) :: .one (.ptr 2 0) :: ou :: ou :: oi :: uu 58 [],.u :: .var 27 [.sl 37,.sl 37,.sl 125] :: .var 37 [.i .i64,.b,.s,.s,.sl 9,.sl 199,.sl 196,.sl 201,.sl 125,.b,.sl 191] :: vv 14 []⟩))) (.s .n (.c (.r [0,0,0,0,0,0,0,0,0,12,13,0] none) .n (some ⟨ou :: ou :: .one (.own 145 14) :: .one (.ptr 1 0) :: .one (.ptr 2 0) :: ou :: ou :: oi :: uu 58 [],.u :: .var 27 [.sl 37,.sl 37,.sl 125] :: .var 37 [.i .i64,.b,.s,.s,.sl 9,.sl 199,.sl 196,.sl 201,.sl 125,.b,.sl 191] :: vv 14 []⟩)))) ⟨ou :: ou :: .one (.own 145 15) :: .one (.ptr 1 0) :: .one (.ptr 2 0) :: ou :: ou :: oi :: uu 58 [],.u :: .var 27 [.sl 37,.sl 37,.sl 125] :: .var 37 [.i .i64,.b,.s,.s,.sl 9,.sl 199,.sl 196,.sl 201,.sl 125,.b,.sl 191] :: vv 14 []⟩) .n)) ⟨ou :: ou :: .one (.own 145 7) :: .one (.ptr 1 0) :: .one (.ptr 2 0) :: ou :: ou :: oi :: uu 58 [],.u :: .var 27 [.sl 37,.sl 37,.sl 125] :: .var 37 [.i .i64,.b,.s,.s,.sl 9,.sl 199,.sl 196,.sl 201,.sl 125,.b,.sl 191] :: vv 14 []⟩) ⟨ou :: ou :: .one (.own 145 16) :: uu 63 [],vv 17 []⟩)) .n))))
noncomputable def jd4:FI:=jE Tryz.f126 23 [.ag [.i .i64,.b,.s,.s,.sl 9,.sl 199,.sl 196,.sl 201,.sl 125,.b,.sl 191],.mv 145] [(false,[.new 145])] (fun _=>(.s (.r [1,0] none) (.s (.s .n (.c (.r [0,0,0,0,2,3,0] none) .n (some ⟨ou :: .one (.own 145 4) :: .one (.ptr 1 0) :: uu 71 [],.u :: .var 37 [.i .i64,.b,.s,.s,.sl 9,.sl 199,.sl 196,.sl 201,.sl 125,.b,.sl 191] :: vv 21 []⟩))) (.s (.r [6,0] none) (.s (.s .n (.b (.b (.s .n (.s (.b (.s (.s .n (.c (.r [0,0,0,0,0,0,0,0,0,0,10,11,0] none) .n (some ⟨ou :: .one (.own 145 12) :: .one (.ptr 1 0) :: ou :: ou :: .one (.own 9 13) :: oi :: uu 67 [],.u :: .var 37 [.i .i64,.b,.s,.s,.sl 9,.sl 199,.sl 196,.sl 201,.sl 125,.b,.sl 191] :: vv 21 []⟩))) (.s (.s .n (.c (.r [0,0,0,0,0,0,0,0,0,0,14,15,0] none) .n (some ⟨ou :: .one (.own 145 16) :: .one (.ptr 1 0) :: ou :: ou :: .one (.own 9 17) :: oi :: uu 67 [],.u :: .var 37 [.i .i64,.b,.s,.s,.sl 9,.sl 199,.sl 196,.sl 201,.sl 125,.b,.sl 191] :: vv 21 []⟩))) (.r [0,0,0,0,0,0,0,18,19,0] none))) ⟨ou :: .one (.own 145 20) :: .one (.ptr 1 0) :: ou :: ou :: .one (.own 9 21) :: oi :: uu 67 [],.u :: .var 37 [.i .i64,.b,.s,.s,.sl 9,.sl 199,.sl 196,.sl 201,.sl 125,.b,.sl 191] :: vv 21 []⟩) .n)) ⟨ou :: .one (.own 145 7) :: .one (.ptr 1 0) :: ou :: ou :: .one (.own 9 8) :: oi :: uu 67 [],.u :: .var 37 [.i .i64,.b,.s,.s,.sl 9,.sl 199,.sl 196,.sl 201,.sl 125,.b,.sl 191] :: vv 21 []⟩) ⟨ou :: .one (.own 145 22) :: uu 72 [],vv 23 []⟩)) .n)))))
noncomputable def jd3:FI:=jE Tryz.f127 21 [.ag [.sl 37,.sl 37,.sl 125],.ct .s,.ct (.sl 196),.mv 145] [(false,[.new 145])] (fun _=>(.s (.r [1,0] none) (.s (.s .n (.b (.b (.s .n (.s (.b (.s (.r [0,0,0,0,3,0] none) (.s (.s .n (.c (.r [0,0,0,0,0,4,5,0] none) .n (some ⟨ou :: os :: ol 196 :: .one (.own 145 6) :: .one (.ptr 1 0) :: uu 4 (oi :: .one (.ptr 3 0) :: uu 65 []),.u :: .var 27 [.sl 37,.sl 37,.sl 125] :: .u :: .var 196 [.s,.s,.s,.s,.b,.i .i64,.s,.sl 184,.sl 9,.sl 191] :: vv 17 []⟩))) (.s (.s .n (.c (.r [0,0,0,0,0,8,9,0] none) .n (some ⟨ou :: os :: ol 196 :: .one (.own 145 10) :: .one (.ptr 1 0) :: uu 4 (oi :: .one (.ptr 3 0) :: uu 65 []),.u :: .var 27 [.sl 37,.sl 37,.sl 125] :: .u :: .var 196 [.s,.s,.s,.s,.b,.i .i64,.s,.sl 184,.sl 9,.sl 191] :: vv 17 []⟩))) (.s (.s .n (.c (.r [0,0,0,0,0,12,13,0] none) .n (some ⟨ou :: os :: ol 196 :: .one (.own 145 14) :: .one (.ptr 1 0) :: uu 4 (oi :: .one (.ptr 3 0) :: uu 65 []),.u :: .var 27 [.sl 37,.sl 37,.sl 125] :: .u :: .var 196 [.s,.s,.s,.s,.b,.i .i64,.s,.sl 184,.sl 9,.sl 191] :: vv 17 []⟩))) (.s (.r [] (some ⟨ou :: os :: ol 196 :: .one (.own 145 15) :: .one (.ptr 1 0) :: uu 4 (oi :: .one (.ptr 3 0) :: uu 56 (ob :: uu 8 [])),.u :: .var 27 [.sl 37,.sl 37,.sl 125] :: .u :: .var 196 [.s,.s,.s,.s,.b,.i .i64,.s,.sl 184,.sl 9,.sl 191] :: vv 17 []⟩)) (.c (.r [0,0,0,0,0,16,17,0] none) .n (some ⟨ou :: os :: ol 196 :: .one (.own 145 18) :: .one (.ptr 1 0) :: uu 4 (oi :: uu 66 []),.u :: .var 27 [.sl 37,.sl 37,.sl 125] :: vv 19 []⟩))))))) ⟨ou :: os :: ol 196 :: .one (.own 145 19) :: .one (.ptr 1 0) :: uu 4 (oi :: uu 66 []),.u :: .var 27 [.sl 37,.sl 37,.sl 125] :: vv 19 []⟩) .n)) ⟨ou :: os :: ol 196 :: .one (.own 145 2) :: .one (.ptr 1 0) :: uu 4 (oi :: uu 66 []),.u :: .var 27 [.sl 37,.sl 37,.sl 125] :: vv 19 []⟩) ⟨uu 3 (.one (.own 145 20) :: uu 72 []),vv 21 []⟩)) .n)))
noncomputable def jd2:FI:=jE Tryz.f128 14 [.ag [.sl 37,.sl 37,.sl 125],.ct .s] [(false,[.ct .b])] (fun _=>(.s (.r [0,0] none) (.s .n (.s (.r [0,2,0] none) (.s (.s .n (.b (.b (.s .n (.s (.b (.s (.r [0,0,0,0,0,0,0,0,0,0,4,0] none) (.s .n (.b (.b (.s .n (.s (.b (.s (.r [0,0,0,0,0,6,0] none) (.s (.s (.r [] (some ⟨ou :: os :: .one (.ptr 0 0) :: ou :: ou :: .one (.own 9 7) :: oi :: .one (.ptr 4 0) :: oi :: .one (.ptr 6 0) :: uu 49 (ob :: uu 17 []),.var 27 [.sl 37,.sl 37,.sl 125] :: vv 3 (.var 37 [.i .i64,.b,.s,.s,.sl 9,.sl 199,.sl 196,.sl 201,.sl 125,.b,.sl 191] :: .u :: .var 196 [.s,.s,.s,.s,.b,.i .i64,.s,.sl 184,.sl 9,.sl 191] :: vv 7 [])⟩)) .n) (.s .n (.s .n (.c (.r [0,0,0,0,8,9,0] none) .n (some ⟨ou :: os :: .one (.ptr 0 0) :: ou :: ou :: .one (.own 9 10) :: oi :: .one (.ptr 4 0) :: oi :: uu 68 [],.var 27 [.sl 37,.sl 37,.sl 125] :: vv 3 (.var 37 [.i .i64,.b,.s,.s,.sl 9,.sl 199,.sl 196,.sl 201,.sl 125,.b,.sl 191] :: vv 9 [])⟩)))))) ⟨ou :: os :: .one (.ptr 0 0) :: ou :: ou :: .one (.own 9 11) :: oi :: .one (.ptr 4 0) :: oi :: uu 68 [],.var 27 [.sl 37,.sl 37,.sl 125] :: vv 3 (.var 37 [.i .i64,.b,.s,.s,.sl 9,.sl 199,.sl 196,.sl 201,.sl 125,.b,.sl 191] :: vv 9 [])⟩) .n)) ⟨ou :: os :: .one (.ptr 0 0) :: ou :: ou :: .one (.own 9 5) :: oi :: .one (.ptr 4 0) :: oi :: uu 68 [],.var 27 [.sl 37,.sl 37,.sl 125] :: vv 3 (.var 37 [.i .i64,.b,.s,.s,.sl 9,.sl 199,.sl 196,.sl 201,.sl 125,.b,.sl 191] :: vv 9 [])⟩) ⟨ou :: os :: .one (.ptr 0 0) :: ou :: ou :: .one (.own 9 12) :: oi :: uu 70 [],.var 27 [.sl 37,.sl 37,.sl 125] :: vv 13 []⟩))) ⟨ou :: os :: .one (.ptr 0 0) :: ou :: ou :: .one (.own 9 13) :: oi :: uu 70 [],.var 27 [.sl 37,.sl 37,.sl 125] :: vv 13 []⟩) .n)) ⟨ou :: os :: .one (.ptr 0 0) :: ou :: ou :: .one (.own 9 3) :: oi :: uu 70 [],.var 27 [.sl 37,.sl 37,.sl 125] :: vv 13 []⟩) ⟨uu 77 [],vv 14 []⟩)) .n)))))
noncomputable def jd1:FI:=jE Tryz.f129 7 [.ct (.i .i64)] [(false,[.ct .s])] (fun _=>(.s .n (.s .n (.s (.b (.s .n (.c (.s (.r [0,0,0,0,0] none) .n) (.s .n (.c (.s (.r [0,0,0,0,0,0,0,0,2,0,0] none) .n) (.s .n (.c (.s (.r [0,0,0,0,0,0,0,0,0,0,0,0,0,4,0,0] none) .n) .n none)) none)) none)) ⟨oi :: uu 63 [],vv 7 []⟩) (.s (.r [0,0,0,0,0,0,0,0,0,0,0,0,0,0,0,0,0,0,6,0,0] none) .n)))))
noncomputable def jd0:FI:=jE Tryz.f130 0 [.ct (.i .u8)] [(false,[.ct .b])] (fun _=>(.s .n (.s (.r [] (some ⟨ou :: ou :: ob :: uu 18 [],[]⟩)) .n)))
noncomputable def jcZ:FI:=jE Tryz.f131 0 [.ct .s,.ct (.i .i64)] [(false,[.ct (.i .i64)])] (fun _=>(.s .n (.s (.b (.b (.s (.s (.r [] (some ⟨os :: oi :: uu 18 (ob :: uu 3 []),[]⟩)) .n) (.b .n ⟨os :: oi :: uu 22 [],[]⟩)) ⟨os :: oi :: uu 22 [],[]⟩) ⟨ou :: oi :: uu 22 [],[]⟩) .n)))
noncomputable def jcY:FI:=jE Tryz.f132 0 [.ct .s] [(false,[.ct .b])] (fun _=>(.s .n (.s (.s (.r [] (some ⟨os :: uu 15 (ob :: uu 18 []),[]⟩)) .n) (.s (.s .n (.b (.b (.s .n (.s (.b (.s (.r [] (some ⟨os :: ou :: ou :: oi :: uu 30 (ob :: []),[]⟩)) .n) ⟨os :: ou :: ou :: oi :: uu 31 [],[]⟩) .n)) ⟨os :: ou :: ou :: oi :: uu 31 [],[]⟩) ⟨uu 35 [],[]⟩)) .n))))
noncomputable def jbg:FI:=jE Tryz.f133 0 [.ct (.i .u8)] [(false,[.ct .b])] (fun _=>(.s .n (.s (.r [] (some ⟨ou :: ou :: ob :: uu 6 [],[]⟩)) .n)))
noncomputable def jcX:FI:=jE Tryz.f134 0 [.ct .s,.ct (.i .i64)] [(false,[.ct (.i .i64)])] (fun _=>(.s .n (.s .n (.s (.b (.b (.s (.s (.r [] (some ⟨os :: oi :: uu 52 (ob :: uu 3 []),[]⟩)) .n) (.b .n ⟨os :: oi :: uu 56 [],[]⟩)) ⟨os :: oi :: uu 56 [],[]⟩) ⟨ou :: oi :: uu 56 [],[]⟩) .n))))
noncomputable def jbf:FI:=jE Tryz.f135 0 [.ct .s] [(false,[.ct .b])] (fun _=>(.s .n (.s (.r [] (some ⟨ou :: ou :: ob :: uu 15 [],[]⟩)) .n)))
noncomputable def jcW:FI:=jE Tryz.f136 0 [.ct .s] [(false,[.ct .b])] (fun _=>(.s .n (.s .n (.s (.s (.r [] (some ⟨os :: ou :: ou :: oi :: uu 16 (ob :: uu 60 []),[]⟩)) .n) (.s (.s .n (.c .n .n (some ⟨os :: ou :: ou :: oi :: uu 77 [],[]⟩))) (.s (.s (.r [] (some ⟨os :: ou :: ou :: oi :: uu 45 (ob :: uu 31 []),[]⟩)) (.c (.s .n (.s (.s (.r [] (some ⟨os :: ou :: ou :: oi :: uu 63 (ob :: uu 13 []),[]⟩)) (.c .n .n (some ⟨os :: ou :: ou :: oi :: uu 77 [],[]⟩))) .n)) .n (some ⟨os :: ou :: ou :: oi :: uu 77 [],[]⟩))) .n))))))
noncomputable def jcV:FI:=jE Tryz.f137 0 [.ct .s,.ct (.i .i64)] [(false,[.ct .b])] (fun _=>(.s .n (.s (.r [] (some ⟨uu 4 (ob :: uu 13 []),[]⟩)) .n)))
noncomputable def jcU:FI:=jE Tryz.f138 0 [.ct .s,.ct (.i .i64)] [(false,[.ct (.i .i64)])] (fun _=>(.s .n (.s (.s (.r [] (some ⟨os :: oi :: uu 17 (ob :: uu 25 []),[]⟩)) .n) (.s (.s .n (.b (.b (.s .n (.s (.b (.s (.s (.r [] (some ⟨os :: uu 4 (oi :: uu 31 (ob :: uu 7 [])),[]⟩)) .n) .n) ⟨os :: uu 4 (oi :: uu 39 []),[]⟩) .n)) ⟨os :: uu 4 (oi :: uu 39 []),[]⟩) ⟨uu 45 [],[]⟩)) .n))))
noncomputable def jcT:FI:=jE Tryz.f139 8 [.ct .s] [(false,[.ct .s]),(false,[.ct .b])] (fun _=>(.s .n (.s (.s (.r [] (some ⟨os :: uu 20 (ob :: uu 53 []),vv 8 []⟩)) .n) (.s (.r [0,0] none) (.s (.s .n (.b (.b (.s .n (.s (.b (.s (.s (.r [] (some ⟨os :: uu 3 (.one (.own 5 2) :: oi :: uu 45 (ob :: uu 23 [])),vv 8 []⟩)) .n) (.s (.s (.r [] (some ⟨os :: uu 3 (.one (.own 5 3) :: oi :: uu 55 (ob :: uu 13 [])),vv 8 []⟩)) .n) (.r [0,0,0,0,4,5,0] none))) ⟨os :: uu 3 (.one (.own 5 6) :: oi :: uu 69 []),vv 8 []⟩) .n)) ⟨os :: uu 3 (.one (.own 5 1) :: oi :: uu 69 []),vv 8 []⟩) ⟨uu 4 (.one (.own 5 7) :: uu 70 []),vv 8 []⟩)) .n)))))
noncomputable def jcS:FI:=jE Tryz.f140 0 [.ct .s,.ct (.i .i64)] [(false,[.ct (.i .i64)])] (fun _=>(.s .n (.s (.s (.r [] (some ⟨os :: oi :: uu 17 (ob :: uu 38 []),[]⟩)) .n) (.s (.s .n (.b (.b (.s .n (.s (.b (.s .n (.b (.s .n (.c .n (.s (.s .n (.c .n .n (some ⟨os :: uu 4 (oi :: uu 24 (.one (.i .u8) :: uu 4 (ob :: uu 22 []))),[]⟩))) (.c .n (.s .n (.c (.s .n (.s (.r [] (some ⟨os :: uu 4 (oi :: uu 51 (ob :: [])),[]⟩)) .n)) .n (some ⟨os :: uu 4 (oi :: uu 52 []),[]⟩))) none)) none)) ⟨os :: uu 4 (oi :: uu 52 []),[]⟩)) ⟨os :: uu 4 (oi :: uu 52 []),[]⟩) .n)) ⟨os :: uu 4 (oi :: uu 52 []),[]⟩) ⟨uu 58 [],[]⟩)) .n))))
noncomputable def jcR:FI:=jE Tryz.f141 8 [.ct .s] [(false,[.ct .s]),(false,[.ct .b])] (fun _=>(.s .n (.s (.s (.r [] (some ⟨os :: uu 29 (ob :: uu 52 []),vv 8 []⟩)) .n) (.s .n (.s (.r [0,0] none) (.s (.s .n (.b (.b (.s .n (.b (.s .n (.s .n (.s (.s .n (.c .n (.s .n (.s .n (.s .n (.s (.r [] (some ⟨uu 4 (os :: .one (.own 5 2) :: ou :: oi :: oi :: uu 61 (ob :: uu 12 [])),vv 8 []⟩)) (.c .n .n (some ⟨uu 4 (os :: .one (.own 5 3) :: ou :: oi :: oi :: uu 74 []),vv 8 []⟩)))))) (some ⟨uu 4 (os :: .one (.own 5 4) :: ou :: oi :: oi :: uu 74 []),vv 8 []⟩))) (.s .n (.s (.r [0,0,0,5,0] none) .n))))) ⟨uu 4 (os :: .one (.own 5 6) :: oi :: uu 76 []),vv 8 []⟩)) ⟨uu 4 (os :: .one (.own 5 1) :: oi :: uu 76 []),vv 8 []⟩) ⟨uu 5 (.one (.own 5 7) :: uu 77 []),vv 8 []⟩)) .n))))))
noncomputable def jcQ:FI:=jE Tryz.f142 0 [.ct .s] [(false,[.ct .b])] (fun _=>(.s .n (.s (.s .n (.b (.s (.s .n (.c .n (.s .n (.c .n (.s .n (.c .n (.s .n (.c .n (.s .n (.c .n (.s .n (.c .n (.s .n (.c .n (.s .n (.c .n (.s .n (.c .n (.s .n (.c .n (.s .n (.c .n (.s .n (.c .n (.s .n (.c .n .n (some ⟨uu 4 (ob :: uu 14 []),[]⟩))) (some ⟨uu 4 (ob :: uu 14 []),[]⟩))) (some ⟨uu 4 (ob :: uu 14 []),[]⟩))) (some ⟨uu 4 (ob :: uu 14 []),[]⟩))) (some ⟨uu 4 (ob :: uu 14 []),[]⟩))) (some ⟨uu 4 (ob :: uu 14 []),[]⟩))) (some ⟨uu 4 (ob :: uu 14 []),[]⟩))) (some ⟨uu 4 (ob :: uu 14 []),[]⟩))) (some ⟨uu 4 (ob :: uu 14 []),[]⟩))) (some ⟨uu 4 (ob :: uu 14 []),[]⟩))) (some ⟨uu 4 (ob :: uu 14 []),[]⟩))) (some ⟨uu 4 (ob :: uu 14 []),[]⟩))) (some ⟨uu 4 (ob :: uu 14 []),[]⟩))) .n) ⟨uu 19 [],[]⟩)) .n)))
noncomputable def jcP:FI:=jE Tryz.f143 3 [.ptr] [(true,[.ct .s,.ct .s])] (fun _=>(.s (.r [1] none) (.s (.r [0,2,0] none) (.s .n (.s (.b (.b (.s .n (.b .n ⟨.one (.ptr 0 0) :: ou :: .one (.ptr 1 0) :: .one (.ptr 2 0) :: oi :: uu 61 [],.var 106 [.sl 159,.i .i64,.i .i64,.i .i64,.i .i64] :: .var 42 [.s,.s] :: .var 42 [.s,.s] :: []⟩)) ⟨.one (.ptr 0 0) :: ou :: .one (.ptr 1 0) :: .one (.ptr 2 0) :: oi :: uu 61 [],.var 106 [.sl 159,.i .i64,.i .i64,.i .i64,.i .i64] :: .var 42 [.s,.s] :: .var 42 [.s,.s] :: []⟩) ⟨.one (.ptr 0 0) :: ou :: .one (.ptr 1 0) :: .one (.ptr 2 0) :: oi :: uu 61 [],.var 106 [.sl 159,.i .i64,.i .i64,.i .i64,.i .i64] :: .var 42 [.s,.s] :: .var 42 [.s,.s] :: []⟩) (.s .n (.s (.b (.b (.s .n (.b (.s (.s (.r [] (some ⟨.one (.ptr 0 0) :: ou :: .one (.ptr 1 0) :: .one (.ptr 2 0) :: oi :: uu 42 (ob :: uu 18 []),.var 106 [.sl 159,.i .i64,.i .i64,.i .i64,.i .i64] :: .var 42 [.s,.s] :: .var 42 [.s,.s] :: []⟩)) .n) .n) ⟨.one (.ptr 0 0) :: ou :: .one (.ptr 1 0) :: .one (.ptr 2 0) :: oi :: uu 61 [],.var 106 [.sl 159,.i .i64,.i .i64,.i .i64,.i .i64] :: .var 42 [.s,.s] :: .var 42 [.s,.s] :: []⟩)) ⟨.one (.ptr 0 0) :: ou :: .one (.ptr 1 0) :: .one (.ptr 2 0) :: oi :: uu 61 [],.var 106 [.sl 159,.i .i64,.i .i64,.i .i64,.i .i64] :: .var 42 [.s,.s] :: .var 42 [.s,.s] :: []⟩) ⟨ou :: ou :: .one (.ptr 1 0) :: .one (.ptr 2 0) :: uu 62 [],.var 106 [.sl 159,.i .i64,.i .i64,.i .i64,.i .i64] :: .var 42 [.s,.s] :: .var 42 [.s,.s] :: []⟩) .n)))))))
noncomputable def jcO:FI:=jE Tryz.f144 21 [.ptr,.ct .b,.ct (.i .i64)] [(true,[.ct (.i .i64),.ct .s,.new 184,.new 9])] (fun _=>(.s (.r [1] none) (.s (.r [0,2,0] none) (.s .n (.s .n (.s (.r [0,0,0,0,0,0,0,0,0,0,3,0] none) (.s (.s .n (.b (.s (.s .n (.c .n (.s .n (.c .n .n (some ⟨.one (.ptr 0 0) :: ob :: oi :: uu 3 (.one (.ptr 1 0) :: .one (.ptr 2 0) :: .one (.ptr 3 0) :: uu 33 (oi :: ob :: uu 125 [])),.var 106 [.sl 159,.i .i64,.i .i64,.i .i64,.i .i64] :: .var 184 [.i .i64,.s,.nil,.nil] :: .var 184 [.i .i64,.s,.nil,.nil] :: .var 159 [.i .i64,.s,.i .i64] :: vv 17 []⟩))) (some ⟨.one (.ptr 0 0) :: ob :: oi :: uu 3 (.one (.ptr 1 0) :: .one (.ptr 2 0) :: .one (.ptr 3 0) :: uu 33 (oi :: ob :: uu 125 [])),.var 106 [.sl 159,.i .i64,.i .i64,.i .i64,.i .i64] :: .var 184 [.i .i64,.s,.nil,.nil] :: .var 184 [.i .i64,.s,.nil,.nil] :: .var 159 [.i .i64,.s,.i .i64] :: vv 17 []⟩))) (.c (.s .n (.s .n (.s .n (.s (.s .n (.c .n .n (some ⟨uu 6 (.one (.ptr 1 0) :: .one (.ptr 2 0) :: .one (.ptr 3 0) :: uu 160 []),.var 106 [.sl 159,.i .i64,.i .i64,.i .i64,.i .i64] :: .var 184 [.i .i64,.s,.nil,.nil] :: .var 184 [.i .i64,.s,.nil,.nil] :: .var 159 [.i .i64,.s,.i .i64] :: vv 17 []⟩))) (.s (.s .n (.c .n .n (some ⟨uu 6 (.one (.ptr 1 0) :: .one (.ptr 2 0) :: uu 161 []),.var 106 [.sl 159,.i .i64,.i .i64,.i .i64,.i .i64] :: .var 184 [.i .i64,.s,.nil,.nil] :: .var 184 [.i .i64,.s,.nil,.nil] :: vv 18 []⟩))) .n))))) (.s .n (.c (.s .n (.s .n (.s .n (.s (.s .n (.c .n .n (some ⟨uu 6 (.one (.ptr 1 0) :: .one (.ptr 2 0) :: uu 161 []),.var 106 [.sl 159,.i .i64,.i .i64,.i .i64,.i .i64] :: .var 184 [.i .i64,.s,.nil,.nil] :: .var 184 [.i .i64,.s,.nil,.nil] :: vv 18 []⟩))) .n)))) .n none)) none)) ⟨.one (.ptr 0 0) :: ob :: oi :: uu 3 (.one (.ptr 1 0) :: .one (.ptr 2 0) :: .one (.ptr 3 0) :: uu 160 []),.var 106 [.sl 159,.i .i64,.i .i64,.i .i64,.i .i64] :: .var 184 [.i .i64,.s,.nil,.nil] :: .var 184 [.i .i64,.s,.nil,.nil] :: .var 159 [.i .i64,.s,.i .i64] :: vv 17 []⟩)) (.s (.b (.s (.r [] (some ⟨.one (.ptr 0 0) :: ob :: oi :: uu 3 (.one (.ptr 1 0) :: .one (.ptr 2 0) :: .one (.ptr 3 0) :: uu 76 (ob :: uu 83 [])),.var 106 [.sl 159,.i .i64,.i .i64,.i .i64,.i .i64] :: .var 184 [.i .i64,.s,.nil,.nil] :: .var 184 [.i .i64,.s,.nil,.nil] :: .var 159 [.i .i64,.s,.i .i64] :: vv 17 []⟩)) (.c .n (.s (.r [] (some ⟨.one (.ptr 0 0) :: ob :: oi :: uu 3 (.one (.ptr 1 0) :: .one (.ptr 2 0) :: .one (.ptr 3 0) :: uu 96 (ob :: uu 63 [])),.var 106 [.sl 159,.i .i64,.i .i64,.i .i64,.i .i64] :: .var 184 [.i .i64,.s,.nil,.nil] :: .var 184 [.i .i64,.s,.nil,.nil] :: .var 159 [.i .i64,.s,.i .i64] :: vv 17 []⟩)) (.c (.s .n (.s .n (.s .n (.s .n (.s (.s .n (.c .n .n (some ⟨.one (.ptr 0 0) :: ob :: oi :: uu 3 (.one (.ptr 1 0) :: .one (.ptr 2 0) :: ou :: os :: uu 159 []),.var 106 [.sl 159,.i .i64,.i .i64,.i .i64,.i .i64] :: .var 184 [.i .i64,.s,.nil,.nil] :: .var 184 [.i .i64,.s,.nil,.nil] :: vv 18 []⟩))) (.s (.b (.b (.s (.s (.r [] (some ⟨.one (.ptr 0 0) :: ob :: oi :: uu 3 (.one (.ptr 1 0) :: .one (.ptr 2 0) :: ou :: os :: uu 132 (ob :: uu 26 [])),.var 106 [.sl 159,.i .i64,.i .i64,.i .i64,.i .i64] :: .var 184 [.i .i64,.s,.nil,.nil] :: .var 184 [.i .i64,.s,.own 184 16,.own 9 17] :: vv 18 []⟩)) .n) (.b (.s (.s .n (.c (.s (.r [0,0,0,0,4,5,0,0] none) .n) .n (some ⟨.one (.ptr 0 0) :: ob :: oi :: uu 3 (.one (.ptr 1 0) :: .one (.ptr 2 0) :: ou :: os :: uu 159 []),.var 106 [.sl 159,.i .i64,.i .i64,.i .i64,.i .i64] :: .var 184 [.i .i64,.s,.nil,.nil] :: .var 184 [.i .i64,.s,.own 184 18,.own 9 6] :: vv 18 []⟩))) (.r [0,0,0,0,0,0,7,10,11,0,0] none)) ⟨.one (.ptr 0 0) :: ob :: oi :: uu 3 (.one (.ptr 1 0) :: .one (.ptr 2 0) :: ou :: os :: uu 159 []),.var 106 [.sl 159,.i .i64,.i .i64,.i .i64,.i .i64] :: .var 184 [.i .i64,.s,.nil,.nil] :: .var 184 [.i .i64,.s,.own 184 12,.own 9 13] :: vv 18 []⟩)) ⟨.one (.ptr 0 0) :: ob :: oi :: uu 3 (.one (.ptr 1 0) :: .one (.ptr 2 0) :: ou :: os :: uu 159 []),.var 106 [.sl 159,.i .i64,.i .i64,.i .i64,.i .i64] :: .var 184 [.i .i64,.s,.nil,.nil] :: .var 184 [.i .i64,.s,.own 184 14,.own 9 15] :: vv 18 []⟩) ⟨uu 6 (.one (.ptr 1 0) :: .one (.ptr 2 0) :: uu 161 []),.var 106 [.sl 159,.i .i64,.i .i64,.i .i64,.i .i64] :: .var 184 [.i .i64,.s,.nil,.nil] :: .var 184 [.i .i64,.s,.own 184 19,.own 9 20] :: vv 18 []⟩) .n)))))) .n none)) none)) ⟨.one (.ptr 0 0) :: uu 5 (.one (.ptr 1 0) :: .one (.ptr 2 0) :: uu 161 []),.var 106 [.sl 159,.i .i64,.i .i64,.i .i64,.i .i64] :: .var 184 [.i .i64,.s,.nil,.nil] :: .var 184 [.i .i64,.s,.nil,.nil] :: vv 18 []⟩) .n))))))))
noncomputable def jcN:FI:=jE Tryz.f145 12 [.ptr,.ct .b] [(false,[.new 212])] (fun _=>(.s .n (.s (.r [2,0] none) (.s .n (.s (.b (.b (.s .n (.b (.s (.r [0,0,0,4,0] none) (.s .n (.s (.r [0,0,5,0,0] none) (.s (.r [0,0,8,9,0] none) .n)))) ⟨.one (.ptr 0 0) :: ob :: uu 3 (.one (.own 212 10) :: uu 28 []),.var 106 [.sl 159,.i .i64,.i .i64,.i .i64,.i .i64] :: vv 11 []⟩)) ⟨.one (.ptr 0 0) :: ob :: uu 3 (.one (.own 212 3) :: uu 28 []),.var 106 [.sl 159,.i .i64,.i .i64,.i .i64,.i .i64] :: vv 11 []⟩) ⟨uu 5 (.one (.own 212 11) :: uu 28 []),.var 106 [.sl 159,.i .i64,.i .i64,.i .i64,.i .i64] :: vv 11 []⟩) .n)))))
noncomputable def jcM:FI:=jE Tryz.f146 8 [.ptr] [(true,[.ct .s,.ct .s,.ct .s,.ct .s,.ct .b,.ct (.i .i64),.ct .s,.new 184,.new 9,.new 191])] (fun _=>(.s (.r [1] none) (.s (.r [0,0,0,2,0] none) (.s .n (.s .n (.s .n (.s (.s .n (.c (.s .n (.r [0,3,0,0] none)) .n (some ⟨.one (.ptr 0 0) :: ou :: .one (.ptr 1 0) :: .one (.ptr 2 0) :: uu 21 [],.var 106 [.sl 159,.i .i64,.i .i64,.i .i64,.i .i64] :: .var 196 [.s,.s,.s,.s,.b,.i .i64,.s,.nil,.nil,.nil] :: .var 196 [.s,.s,.s,.s,.b,.i .i64,.s,.own 184 5,.own 9 6,.nil] :: vv 5 []⟩))) (.s (.r [0,7,0,0] none) .n))))))))
noncomputable def jcL:FI:=jE Tryz.f147 0 [.ct .s] [(false,[.ct .b])] (fun _=>(.s .n (.s (.s .n (.b (.s (.s .n (.c .n (.s .n (.c .n (.s .n (.c .n (.s .n (.c .n (.s .n (.c .n (.s .n (.c .n (.s .n (.c .n (.s .n (.c .n (.s .n (.c .n (.s .n (.c .n (.s .n (.c .n (.s .n (.c .n (.s .n (.c .n (.s .n (.c .n (.s .n (.c .n (.s .n (.c .n (.s .n (.c .n (.s .n (.c .n .n (some ⟨uu 4 (ob :: uu 19 []),[]⟩))) (some ⟨uu 4 (ob :: uu 19 []),[]⟩))) (some ⟨uu 4 (ob :: uu 19 []),[]⟩))) (some ⟨uu 4 (ob :: uu 19 []),[]⟩))) (some ⟨uu 4 (ob :: uu 19 []),[]⟩))) (some ⟨uu 4 (ob :: uu 19 []),[]⟩))) (some ⟨uu 4 (ob :: uu 19 []),[]⟩))) (some ⟨uu 4 (ob :: uu 19 []),[]⟩))) (some ⟨uu 4 (ob :: uu 19 []),[]⟩))) (some ⟨uu 4 (ob :: uu 19 []),[]⟩))) (some ⟨uu 4 (ob :: uu 19 []),[]⟩))) (some ⟨uu 4 (ob :: uu 19 []),[]⟩))) (some ⟨uu 4 (ob :: uu 19 []),[]⟩))) (some ⟨uu 4 (ob :: uu 19 []),[]⟩))) (some ⟨uu 4 (ob :: uu 19 []),[]⟩))) (some ⟨uu 4 (ob :: uu 19 []),[]⟩))) (some ⟨uu 4 (ob :: uu 19 []),[]⟩))) (some ⟨uu 4 (ob :: uu 19 []),[]⟩))) .n) ⟨uu 24 [],[]⟩)) .n)))
noncomputable def jcK:FI:=jE Tryz.f148 0 [.ct .s] [(false,[.ct .b])] (fun _=>(.s .n (.s (.r [] (some ⟨ou :: ou :: ob :: uu 10 [],[]⟩)) .n)))
noncomputable def jcJ:FI:=jE Tryz.f149 16 [.ag [.i .i64,.s,.sl 184,.sl 9]] [(true,[.ct (.i .i64),.ct .s,.new 1184,.new 9])] (fun _=>(.s (.r [0,1] none) (.s (.r [0,0,0,0,2,0,0,3,0,4,0] none) (.s (.s .n (.b (.b (.s .n (.s (.b (.r [0,0,0,0,0,0,0,6,9,10,0,0] none) ⟨ou :: .one (.ptr 0 0) :: .one (.ptr 1 0) :: .one (.ptr 4 0) :: oi :: uu 28 [],.var 184 [.i .i64,.s,.sl 184,.sl 9] :: .var 184 [.i .i64,.s,.nil,.nil] :: .u :: .u :: .var 184 [.i .i64,.s,.own 1184 11,.own 9 12] :: vv 11 []⟩) .n)) ⟨ou :: .one (.ptr 0 0) :: .one (.ptr 1 0) :: .one (.ptr 4 0) :: oi :: uu 28 [],.var 184 [.i .i64,.s,.sl 184,.sl 9] :: .var 184 [.i .i64,.s,.nil,.nil] :: .u :: .u :: .var 184 [.i .i64,.s,.own 1184 13,.own 9 5] :: vv 11 []⟩) ⟨ou :: ou :: .one (.ptr 1 0) :: .one (.ptr 4 0) :: uu 29 [],.u :: .var 184 [.i .i64,.s,.nil,.nil] :: .u :: .u :: .var 184 [.i .i64,.s,.own 1184 14,.own 9 15] :: vv 11 []⟩)) .n))))
noncomputable def jcI:FI:=jE Tryz.f150 9 [.ct (.sl 212)] [(false,[.new 1212])] (fun _=>(.s .n (.s (.r [1,0] none) (.s (.s .n (.b (.b (.s .n (.s (.b (.r [0,0,0,0,0,0,0,0,0,0,0,3,0,5,6,0] none) ⟨ol 212 :: ou :: ou :: .one (.own 1212 7) :: oi :: uu 23 [],vv 9 []⟩) .n)) ⟨ol 212 :: ou :: ou :: .one (.own 1212 2) :: oi :: uu 23 [],vv 9 []⟩) ⟨uu 3 (.one (.own 1212 8) :: uu 24 []),vv 9 []⟩)) .n))))
noncomputable def jcH:FI:=jE Tryz.f151 0 [.ct (.sl 199),.ct .s] [(false,[.ct (.i .i64)])] (fun _=>(.s .n (.s (.s .n (.b (.b (.s .n (.s (.b .n ⟨ol 199 :: os :: uu 3 (oi :: uu 14 []),[]⟩) .n)) ⟨ol 199 :: os :: uu 3 (oi :: uu 14 []),[]⟩) ⟨uu 20 [],[]⟩)) .n)))
noncomputable def jcG:FI:=jE Tryz.f152 1 [.ag [.sl 37,.sl 37,.sl 125],.ct .s] [(false,[.ct .b])] (fun _=>(.s (.r [0,0] none) (.s .n (.s (.r [] (some ⟨uu 4 (ob :: uu 10 []),.u :: []⟩)) .n))))
noncomputable def jcF:FI:=jE Tryz.f153 35 [.ag [.sl 37,.sl 37,.sl 125],.ag [.i .i64,.b,.s,.s,.sl 9,.sl 199,.sl 196,.sl 201,.sl 125,.b,.sl 191]] [(false,[.new 145])] (fun _=>(.s (.r [0,1,0] none) (.s (.r [2,0] none) (.s (.s .n (.c (.s (.r [0,0,0,0,4,5,0] none) .n) .n none)) (.s (.s .n (.b (.b (.s .n (.s (.b (.s .n (.s (.s .n (.c (.r [0,0,0,0,0,8,9,0] none) .n (some ⟨ou :: ou :: .one (.ptr 0 0) :: .one (.ptr 1 0) :: ou :: .one (.own 145 10) :: oi :: os :: uu 146 [],.var 27 [.sl 37,.sl 37,.sl 125] :: .var 37 [.i .i64,.b,.s,.s,.sl 9,.sl 199,.sl 196,.sl 201,.sl 125,.b,.sl 191] :: vv 33 []⟩))) (.s (.s (.r [] (some ⟨ou :: ou :: .one (.ptr 0 0) :: .one (.ptr 1 0) :: ou :: .one (.own 145 11) :: oi :: os :: uu 48 (ob :: uu 97 []),.var 27 [.sl 37,.sl 37,.sl 125] :: .var 37 [.i .i64,.b,.s,.s,.sl 9,.sl 199,.sl 196,.sl 201,.sl 125,.b,.sl 191] :: vv 33 []⟩)) (.c (.s (.r [0,0,0,0,0,12,13,0] none) .n) .n none)) (.s (.r [0,0,0,0,0,0,0,14,0] none) (.s (.s .n (.c (.s (.r [0,0,0,0,0,16,17,0] none) .n) .n none)) (.s (.s .n (.b (.b (.s .n (.s (.b (.s .n (.c (.r [0,0,0,0,0,20,21,0] none) .n (some ⟨ou :: ou :: .one (.ptr 0 0) :: .one (.ptr 1 0) :: ou :: .one (.own 145 22) :: oi :: os :: .one (.ptr 14 0) :: oi :: uu 144 [],.var 27 [.sl 37,.sl 37,.sl 125] :: .var 37 [.i .i64,.b,.s,.s,.sl 9,.sl 199,.sl 196,.sl 201,.sl 125,.b,.sl 191] :: vv 12 (.var 37 [.i .i64,.b,.s,.s,.sl 9,.sl 199,.sl 196,.sl 201,.sl 125,.b,.sl 191] :: vv 20 [])⟩))) ⟨ou :: ou :: .one (.ptr 0 0) :: .one (.ptr 1 0) :: ou :: .one (.own 145 23) :: oi :: os :: .one (.ptr 14 0) :: oi :: uu 144 [],.var 27 [.sl 37,.sl 37,.sl 125] :: .var 37 [.i .i64,.b,.s,.s,.sl 9,.sl 199,.sl 196,.sl 201,.sl 125,.b,.sl 191] :: vv 12 (.var 37 [.i .i64,.b,.s,.s,.sl 9,.sl 199,.sl 196,.sl 201,.sl 125,.b,.sl 191] :: vv 20 [])⟩) .n)) ⟨ou :: ou :: .one (.ptr 0 0) :: .one (.ptr 1 0) :: ou :: .one (.own 145 18) :: oi :: os :: .one (.ptr 14 0) :: oi :: uu 144 [],.var 27 [.sl 37,.sl 37,.sl 125] :: .var 37 [.i .i64,.b,.s,.s,.sl 9,.sl 199,.sl 196,.sl 201,.sl 125,.b,.sl 191] :: vv 12 (.var 37 [.i .i64,.b,.s,.s,.sl 9,.sl 199,.sl 196,.sl 201,.sl 125,.b,.sl 191] :: vv 20 [])⟩) ⟨ou :: ou :: .one (.ptr 0 0) :: .one (.ptr 1 0) :: ou :: .one (.own 145 24) :: oi :: ou :: .one (.ptr 14 0) :: uu 145 [],.var 27 [.sl 37,.sl 37,.sl 125] :: .var 37 [.i .i64,.b,.s,.s,.sl 9,.sl 199,.sl 196,.sl 201,.sl 125,.b,.sl 191] :: vv 12 (.var 37 [.i .i64,.b,.s,.s,.sl 9,.sl 199,.sl 196,.sl 201,.sl 125,.b,.sl 191] :: vv 20 [])⟩)) (.s .n (.b (.b (.s .n (.s (.b (.s (.r [0,0,0,0,0,26,0] none) (.s .n (.s (.s (.r [] (some ⟨ou :: ou :: .one (.ptr 0 0) :: .one (.ptr 1 0) :: ou :: .one (.own 145 27) :: oi :: ou :: .one (.ptr 14 0) :: ou :: oi :: .one (.ptr 26 0) :: oi :: uu 121 (ob :: uu 19 []),.var 27 [.sl 37,.sl 37,.sl 125] :: .var 37 [.i .i64,.b,.s,.s,.sl 9,.sl 199,.sl 196,.sl 201,.sl 125,.b,.sl 191] :: vv 12 (.var 37 [.i .i64,.b,.s,.s,.sl 9,.sl 199,.sl 196,.sl 201,.sl 125,.b,.sl 191] :: vv 11 (.var 199 [.s,.s,.sl 196,.s,.s,.sl 191] :: vv 8 []))⟩)) (.c (.s (.r [0,0,0,0,0,0,28,29,0] none) .n) .n none)) (.r [0,0,0,0,0,0,0,0,0,30,0] none)))) ⟨ou :: ou :: .one (.ptr 0 0) :: .one (.ptr 1 0) :: ou :: .one (.own 145 31) :: oi :: ou :: .one (.ptr 14 0) :: ou :: oi :: uu 143 [],.var 27 [.sl 37,.sl 37,.sl 125] :: .var 37 [.i .i64,.b,.s,.s,.sl 9,.sl 199,.sl 196,.sl 201,.sl 125,.b,.sl 191] :: vv 12 (.var 37 [.i .i64,.b,.s,.s,.sl 9,.sl 199,.sl 196,.sl 201,.sl 125,.b,.sl 191] :: vv 20 [])⟩) .n)) ⟨ou :: ou :: .one (.ptr 0 0) :: .one (.ptr 1 0) :: ou :: .one (.own 145 25) :: oi :: ou :: .one (.ptr 14 0) :: ou :: oi :: uu 143 [],.var 27 [.sl 37,.sl 37,.sl 125] :: .var 37 [.i .i64,.b,.s,.s,.sl 9,.sl 199,.sl 196,.sl 201,.sl 125,.b,.sl 191] :: vv 12 (.var 37 [.i .i64,.b,.s,.s,.sl 9,.sl 199,.sl 196,.sl 201,.sl 125,.b,.sl 191] :: vv 20 [])⟩) ⟨ou :: ou :: .one (.ptr 0 0) :: .one (.ptr 1 0) :: ou :: .one (.own 145 32) :: oi :: uu 147 [],.var 27 [.sl 37,.sl 37,.sl 125] :: .var 37 [.i .i64,.b,.s,.s,.sl 9,.sl 199,.sl 196,.sl 201,.sl 125,.b,.sl 191] :: vv 33 []⟩)))))))) ⟨ou :: ou :: .one (.ptr 0 0) :: .one (.ptr 1 0) :: ou :: .one (.own 145 33) :: oi :: uu 147 [],.var 27 [.sl 37,.sl 37,.sl 125] :: .var 37 [.i .i64,.b,.s,.s,.sl 9,.sl 199,.sl 196,.sl 201,.sl 125,.b,.sl 191] :: vv 33 []⟩) .n)) ⟨ou :: ou :: .one (.ptr 0 0) :: .one (.ptr 1 0) :: ou :: .one (.own 145 6) :: oi :: uu 147 [],.var 27 [.sl 37,.sl 37,.sl 125] :: .var 37 [.i .i64,.b,.s,.s,.sl 9,.sl 199,.sl 196,.sl 201,.sl 125,.b,.sl 191] :: vv 33 []⟩) ⟨uu 5 (.one (.own 145 34) :: uu 148 []),vv 35 []⟩)) .n)))))
noncomputable def jcE:FI:=jE Tryz.f154 0 [.ct (.sl 196),.ct .s] [(false,[.ct (.i .i64)])] (fun _=>(.s .n (.s (.s .n (.b (.b (.s .n (.s (.b .n ⟨ol 196 :: os :: uu 3 (oi :: uu 14 []),[]⟩) .n)) ⟨ol 196 :: os :: uu 3 (oi :: uu 14 []),[]⟩) ⟨uu 20 [],[]⟩)) .n)))
noncomputable def jcD:FI:=jE Tryz.f155 1 [.ag [.sl 37,.sl 37,.sl 125],.ct .s] [(false,[.ct .b])] (fun _=>(.s (.r [0,0] none) (.s .n (.s (.r [] (some ⟨uu 4 (ob :: uu 14 []),.u :: []⟩)) .n))))
noncomputable def jcC:FI:=jE Tryz.f156 4 [.ag [.sl 37,.sl 37,.sl 125],.ag [.i .i64,.s,.sl 184,.sl 9],.ag [.s,.s]] [(false,[.ct .b])] (fun _=>(.s (.r [0,1,2,0] none) (.s .n (.s (.s (.r [] (some ⟨uu 3 (.one (.ptr 0 0) :: .one (.ptr 1 0) :: .one (.ptr 2 0) :: uu 15 (ob :: uu 102 [])),.var 27 [.sl 37,.sl 37,.sl 125] :: .var 184 [.i .i64,.s,.sl 184,.sl 9] :: .var 42 [.s,.s] :: .u :: []⟩)) .n) (.s .n (.s (.s (.r [] (some ⟨uu 3 (.one (.ptr 0 0) :: .one (.ptr 1 0) :: .one (.ptr 2 0) :: uu 34 (ob :: uu 83 [])),.var 27 [.sl 37,.sl 37,.sl 125] :: .var 184 [.i .i64,.s,.sl 184,.sl 9] :: .var 42 [.s,.s] :: .u :: []⟩)) (.c (.s .n (.s .n (.s (.s .n (.b (.b (.s .n (.s (.b .n ⟨uu 3 (.one (.ptr 0 0) :: .one (.ptr 1 0) :: .one (.ptr 2 0) :: ou :: oi :: uu 116 []),.var 27 [.sl 37,.sl 37,.sl 125] :: .var 184 [.i .i64,.s,.sl 184,.sl 9] :: .var 42 [.s,.s] :: .u :: []⟩) .n)) ⟨uu 3 (.one (.ptr 0 0) :: .one (.ptr 1 0) :: .one (.ptr 2 0) :: ou :: oi :: uu 116 []),.var 27 [.sl 37,.sl 37,.sl 125] :: .var 184 [.i .i64,.s,.sl 184,.sl 9] :: .var 42 [.s,.s] :: .u :: []⟩) ⟨uu 124 [],vv 4 []⟩)) .n))) .n none)) (.s .n (.s .n (.s (.s .n (.c (.s (.r [] (some ⟨uu 6 (ob :: uu 117 []),vv 4 []⟩)) .n) .n none)) (.s (.r [0,0,0,0,0,3,0] none) (.s (.s .n (.b (.s .n (.c .n (.s .n (.c (.s .n (.b (.b (.s .n (.s (.b (.s (.r [] (some ⟨uu 4 (.one (.ptr 1 0) :: uu 4 (.one (.ptr 3 0) :: oi :: uu 105 (ob :: uu 7 []))),.u :: .var 184 [.i .i64,.s,.sl 184,.sl 9] :: .u :: .var 37 [.i .i64,.b,.s,.s,.sl 9,.sl 199,.sl 196,.sl 201,.sl 125,.b,.sl 191] :: []⟩)) .n) ⟨uu 4 (.one (.ptr 1 0) :: uu 4 (.one (.ptr 3 0) :: oi :: uu 113 [])),.u :: .var 184 [.i .i64,.s,.sl 184,.sl 9] :: .u :: .var 37 [.i .i64,.b,.s,.s,.sl 9,.sl 199,.sl 196,.sl 201,.sl 125,.b,.sl 191] :: []⟩) .n)) ⟨uu 4 (.one (.ptr 1 0) :: uu 4 (.one (.ptr 3 0) :: oi :: uu 113 [])),.u :: .var 184 [.i .i64,.s,.sl 184,.sl 9] :: .u :: .var 37 [.i .i64,.b,.s,.s,.sl 9,.sl 199,.sl 196,.sl 201,.sl 125,.b,.sl 191] :: []⟩) ⟨uu 124 [],vv 4 []⟩)) .n (some ⟨uu 124 [],vv 4 []⟩))) none)) ⟨uu 124 [],vv 4 []⟩)) .n)))))))))))
noncomputable def jcB:FI:=jE Tryz.f157 0 [.ct (.i .i64)] [(false,[.ct .b])] (fun _=>(.s .n (.s (.r [] (some ⟨ou :: ou :: ob :: uu 7 [],[]⟩)) .n)))
noncomputable def jbe:FI:=jE Tryz.f158 0 [.ct .s] [(false,[.ct (.i .i64)])] (fun _=>(.s .n (.s .n (.s (.s (.r [] (some ⟨os :: ou :: ou :: oi :: uu 8 (ob :: uu 19 []),[]⟩)) (.c .n .n (some ⟨os :: ou :: ou :: oi :: uu 28 [],[]⟩))) (.s .n (.s (.s (.r [] (some ⟨uu 4 (oi :: uu 25 (ob :: ou :: [])),[]⟩)) .n) .n))))))
noncomputable def jbd:FI:=jE Tryz.f159 0 [.ct .s,.ct (.i .i64)] [(false,[.ct (.i .i64)])] (fun _=>(.s .n (.s (.b (.b (.s (.s (.r [] (some ⟨os :: oi :: uu 12 (ob :: uu 3 []),[]⟩)) .n) (.b .n ⟨os :: oi :: uu 16 [],[]⟩)) ⟨os :: oi :: uu 16 [],[]⟩) ⟨ou :: oi :: uu 16 [],[]⟩) .n)))
noncomputable def jcA:FI:=jE Tryz.f160 0 [.ct .s] [(false,[.ct .b])] (fun _=>(.s .n (.s (.s .n (.b (.b (.s .n (.b .n ⟨os :: ou :: ou :: oi :: uu 17 [],[]⟩)) ⟨os :: ou :: ou :: oi :: uu 17 [],[]⟩) ⟨uu 21 [],[]⟩)) .n)))
noncomputable def jcz:FI:=jE Tryz.f161 32 [.ct .s] [(false,[.ct .s])] (fun _=>(.s .n (.s (.r [0,0,0] none) (.s .n (.s (.s .n (.b (.b (.s .n (.s (.b (.s .n (.s (.r [] (some ⟨uu 3 (.one (.own 9 2) :: oi :: oi :: oi :: uu 34 (ob :: uu 93 [])),vv 32 []⟩)) (.c .n .n (some ⟨uu 3 (.one (.own 9 3) :: oi :: oi :: uu 129 []),vv 32 []⟩)))) ⟨uu 3 (.one (.own 9 4) :: oi :: oi :: uu 129 []),vv 32 []⟩) .n)) ⟨uu 3 (.one (.own 9 1) :: oi :: oi :: uu 129 []),vv 32 []⟩) ⟨uu 3 (.one (.own 9 5) :: oi :: uu 130 []),vv 32 []⟩)) (.s (.s .n (.b (.b (.s .n (.s (.b (.s .n (.s (.s (.r [] (some ⟨uu 3 (.one (.own 9 7) :: oi :: ou :: ou :: oi :: oi :: uu 51 (ob :: uu 74 [])),vv 32 []⟩)) (.c .n .n (some ⟨uu 3 (.one (.own 9 8) :: oi :: ou :: ou :: oi :: oi :: uu 126 []),vv 32 []⟩))) (.s (.s .n (.c .n .n (some ⟨uu 3 (.one (.own 9 9) :: oi :: ou :: ou :: oi :: oi :: uu 126 []),vv 32 []⟩))) .n))) ⟨uu 3 (.one (.own 9 10) :: oi :: ou :: ou :: oi :: uu 127 []),vv 32 []⟩) .n)) ⟨uu 3 (.one (.own 9 6) :: oi :: ou :: ou :: oi :: uu 127 []),vv 32 []⟩) ⟨uu 3 (.one (.own 9 11) :: uu 131 []),vv 32 []⟩)) (.s .n (.s (.b (.b (.s (.s (.r [] (some ⟨uu 3 (.one (.own 9 13) :: uu 5 (oi :: uu 79 (ob :: uu 45 []))),vv 32 []⟩)) .n) (.b .n ⟨uu 3 (.one (.own 9 14) :: uu 5 (oi :: uu 125 [])),vv 32 []⟩)) ⟨uu 3 (.one (.own 9 12) :: uu 5 (oi :: uu 125 [])),vv 32 []⟩) ⟨uu 3 (.one (.own 9 15) :: uu 5 (oi :: uu 125 [])),vv 32 []⟩) (.s .n (.s (.b (.b (.s (.s (.r [] (some ⟨uu 3 (.one (.own 9 17) :: uu 5 (oi :: oi :: uu 100 (ob :: uu 23 []))),vv 32 []⟩)) .n) (.b .n ⟨uu 3 (.one (.own 9 18) :: uu 5 (oi :: oi :: uu 124 [])),vv 32 []⟩)) ⟨uu 3 (.one (.own 9 16) :: uu 5 (oi :: oi :: uu 124 [])),vv 32 []⟩) ⟨uu 3 (.one (.own 9 19) :: uu 5 (oi :: oi :: uu 124 [])),vv 32 []⟩) (.s (.r [20,0] none) (.s (.s .n (.b (.b (.s .n (.s (.b (.s (.s .n (.c (.r [0,24,25,0] none) .n (some ⟨uu 3 (.one (.own 9 26) :: uu 5 (oi :: oi :: .one (.own 5 27) :: oi :: uu 122 [])),vv 32 []⟩))) (.r [0,0,0,0,0,28,0] none)) ⟨uu 3 (.one (.own 9 29) :: uu 5 (oi :: oi :: .one (.own 5 30) :: oi :: uu 122 [])),vv 32 []⟩) .n)) ⟨uu 3 (.one (.own 9 21) :: uu 5 (oi :: oi :: .one (.own 5 22) :: oi :: uu 122 [])),vv 32 []⟩) ⟨uu 11 (.one (.own 5 31) :: uu 123 []),vv 32 []⟩)) .n))))))))))))
noncomputable def jcy:FI:=jE Tryz.f162 0 [.ct .s,.ct (.i .i64)] [(false,[.ct (.i .i64)]),(false,[.ct (.i .i64)])] (fun _=>(.s .n (.s .n (.s (.s .n (.b (.s (.s .n (.c .n (.s .n (.c .n .n (some ⟨os :: oi :: uu 17 (.one (.i .u8) :: ou :: ob :: uu 159 []),[]⟩))) (some ⟨os :: oi :: uu 17 (.one (.i .u8) :: ou :: ob :: uu 159 []),[]⟩))) .n) ⟨os :: oi :: uu 179 [],[]⟩)) (.s (.s (.r [] (some ⟨os :: oi :: uu 63 (ob :: uu 115 []),[]⟩)) (.c (.s .n (.s (.b (.b (.s (.s (.r [] (some ⟨os :: oi :: uu 4 (oi :: uu 77 (ob :: uu 96 [])),[]⟩)) .n) (.b .n ⟨os :: oi :: uu 4 (oi :: uu 174 []),[]⟩)) ⟨os :: oi :: uu 4 (oi :: uu 174 []),[]⟩) ⟨os :: oi :: uu 4 (oi :: uu 174 []),[]⟩) (.s .n (.s (.s (.r [] (some ⟨ou :: oi :: uu 4 (oi :: oi :: uu 110 (ob :: uu 62 [])),[]⟩)) .n) .n)))) .n none)) (.s .n (.s .n (.s (.s (.r [] (some ⟨os :: oi :: uu 6 (oi :: uu 145 (ob :: uu 26 [])),[]⟩)) .n) .n))))))))
noncomputable def jcx:FI:=jE Tryz.f163 3 [.ptr,.ag [.s,.s],.ct .s] [(true,[.ct .s,.ct .s])] (fun _=>(.s (.r [1,2] none) .n))
noncomputable def jcw:FI:=jE Tryz.f164 3 [.ag [.sl 37,.sl 37,.sl 125],.ag [.s,.s],.ag [.s,.s]] [(false,[.ct .b])] (fun _=>(.s (.r [0,1,2,0] none) (.b (.b (.b (.s .n (.s .n (.b (.s (.r [] (some ⟨uu 3 (.one (.ptr 0 0) :: .one (.ptr 1 0) :: .one (.ptr 2 0) :: ou :: oi :: oi :: uu 20 (ob :: uu 84 [])),.var 27 [.sl 37,.sl 37,.sl 125] :: .var 42 [.s,.s] :: .var 42 [.s,.s] :: []⟩)) (.c (.s (.s (.r [] (some ⟨uu 3 (.one (.ptr 0 0) :: .one (.ptr 1 0) :: .one (.ptr 2 0) :: ou :: oi :: oi :: uu 40 (ob :: uu 64 [])),.var 27 [.sl 37,.sl 37,.sl 125] :: .var 42 [.s,.s] :: .var 42 [.s,.s] :: []⟩)) .n) .n) (.s (.r [] (some ⟨uu 3 (.one (.ptr 0 0) :: .one (.ptr 1 0) :: .one (.ptr 2 0) :: ou :: oi :: oi :: uu 53 (ob :: uu 51 [])),.var 27 [.sl 37,.sl 37,.sl 125] :: .var 42 [.s,.s] :: .var 42 [.s,.s] :: []⟩)) (.c .n (.s (.r [] (some ⟨uu 3 (.one (.ptr 0 0) :: .one (.ptr 1 0) :: .one (.ptr 2 0) :: ou :: oi :: oi :: uu 70 (ob :: uu 34 [])),.var 27 [.sl 37,.sl 37,.sl 125] :: .var 42 [.s,.s] :: .var 42 [.s,.s] :: []⟩)) (.c .n (.s (.r [] (some ⟨uu 6 (ob :: uu 107 []),vv 3 []⟩)) .n) none)) (some ⟨uu 3 (.one (.ptr 0 0) :: .one (.ptr 1 0) :: .one (.ptr 2 0) :: uu 108 []),.var 27 [.sl 37,.sl 37,.sl 125] :: .var 42 [.s,.s] :: .var 42 [.s,.s] :: []⟩))) (some ⟨uu 3 (.one (.ptr 0 0) :: .one (.ptr 1 0) :: .one (.ptr 2 0) :: uu 108 []),.var 27 [.sl 37,.sl 37,.sl 125] :: .var 42 [.s,.s] :: .var 42 [.s,.s] :: []⟩))) ⟨uu 3 (.one (.ptr 0 0) :: .one (.ptr 1 0) :: .one (.ptr 2 0) :: uu 108 []),.var 27 [.sl 37,.sl 37,.sl 125] :: .var 42 [.s,.s] :: .var 42 [.s,.s] :: []⟩))) ⟨uu 3 (.one (.ptr 0 0) :: .one (.ptr 1 0) :: .one (.ptr 2 0) :: uu 108 []),.var 27 [.sl 37,.sl 37,.sl 125] :: .var 42 [.s,.s] :: .var 42 [.s,.s] :: []⟩) ⟨uu 3 (.one (.ptr 0 0) :: .one (.ptr 1 0) :: .one (.ptr 2 0) :: uu 108 []),.var 27 [.sl 37,.sl 37,.sl 125] :: .var 42 [.s,.s] :: .var 42 [.s,.s] :: []⟩) ⟨uu 114 [],vv 3 []⟩)))
noncomputable def jcv:FI:=jE Tryz.f165 21 [.ct .s,.ag [.s,.s,.sl 196,.s,.s,.sl 191],.ag [.s,.s,.sl 196,.s,.s,.sl 191],.mv 145] [(false,[.new 145])] (fun _=>(.s (.r [1,2,0] none) (.s (.s .n (.b (.b (.s .n (.s (.b (.s .n (.s (.r [] (some ⟨os :: ou :: ou :: .one (.own 145 4) :: ou :: .one (.ptr 1 0) :: .one (.ptr 2 0) :: ou :: ou :: oi :: uu 35 (ob :: uu 32 []),.u :: .var 199 [.s,.s,.sl 196,.s,.s,.sl 191] :: .var 199 [.s,.s,.sl 196,.s,.s,.sl 191] :: vv 18 []⟩)) (.c (.r [0,0,0,0,0,6,7,0] none) .n (some ⟨os :: ou :: ou :: .one (.own 145 8) :: ou :: .one (.ptr 1 0) :: .one (.ptr 2 0) :: ou :: ou :: oi :: uu 68 [],.u :: .var 199 [.s,.s,.sl 196,.s,.s,.sl 191] :: .var 199 [.s,.s,.sl 196,.s,.s,.sl 191] :: vv 18 []⟩)))) ⟨os :: ou :: ou :: .one (.own 145 9) :: ou :: .one (.ptr 1 0) :: .one (.ptr 2 0) :: ou :: ou :: oi :: uu 68 [],.u :: .var 199 [.s,.s,.sl 196,.s,.s,.sl 191] :: .var 199 [.s,.s,.sl 196,.s,.s,.sl 191] :: vv 18 []⟩) .n)) ⟨os :: ou :: ou :: .one (.own 145 3) :: ou :: .one (.ptr 1 0) :: .one (.ptr 2 0) :: ou :: ou :: oi :: uu 68 [],.u :: .var 199 [.s,.s,.sl 196,.s,.s,.sl 191] :: .var 199 [.s,.s,.sl 196,.s,.s,.sl 191] :: vv 18 []⟩) ⟨os :: ou :: ou :: .one (.own 145 10) :: ou :: .one (.ptr 1 0) :: .one (.ptr 2 0) :: uu 71 [],.u :: .var 199 [.s,.s,.sl 196,.s,.s,.sl 191] :: .var 199 [.s,.s,.sl 196,.s,.s,.sl 191] :: vv 18 []⟩)) (.s (.r [0,0,11,0] none) (.s (.s .n (.b (.b (.s .n (.s (.b (.s .n (.c (.r [0,0,0,0,0,14,15,0] none) .n (some ⟨os :: ou :: ou :: .one (.own 145 16) :: ou :: ou :: .one (.ptr 2 0) :: uu 4 (.one (.own 9 17) :: oi :: uu 65 []),.u :: .u :: .var 199 [.s,.s,.sl 196,.s,.s,.sl 191] :: vv 18 []⟩))) ⟨os :: ou :: ou :: .one (.own 145 18) :: ou :: ou :: .one (.ptr 2 0) :: uu 4 (.one (.own 9 19) :: oi :: uu 65 []),.u :: .u :: .var 199 [.s,.s,.sl 196,.s,.s,.sl 191] :: vv 18 []⟩) .n)) ⟨os :: ou :: ou :: .one (.own 145 12) :: ou :: ou :: .one (.ptr 2 0) :: uu 4 (.one (.own 9 13) :: oi :: uu 65 []),.u :: .u :: .var 199 [.s,.s,.sl 196,.s,.s,.sl 191] :: vv 18 []⟩) ⟨uu 3 (.one (.own 145 20) :: uu 74 []),vv 21 []⟩)) .n)))))
noncomputable def jcu:FI:=jE Tryz.f166 1 [.ag [.s,.s]] [(false,[.ct .b])] (fun _=>(.s (.r [0,0] none) (.s (.r [] (some ⟨ou :: ou :: ob :: uu 14 [],.u :: []⟩)) .n)))
noncomputable def jct:FI:=jE Tryz.f167 2 [.ag [.s,.s]] [(true,[.ct .s,.ct .s])] (fun _=>(.s (.r [0,1] none) (.s (.s .n (.c .n .n (some ⟨ou :: .one (.ptr 0 0) :: .one (.ptr 1 0) :: uu 11 [],.var 42 [.s,.s] :: .var 42 [.s,.s] :: []⟩))) .n)))
noncomputable def jcs:FI:=jE Tryz.f168 2 [.ag [.s,.s]] [(true,[.ct .s,.ct .s])] (fun _=>(.s (.r [0,1] none) (.s .n (.s (.s (.r [] (some ⟨ou :: .one (.ptr 0 0) :: .one (.ptr 1 0) :: uu 15 (ob :: uu 12 []),.var 42 [.s,.s] :: .var 42 [.s,.s] :: []⟩)) .n) .n))))
noncomputable def jcr:FI:=jE Tryz.f169 1 [.ct .s,.ag [.i .i64,.s,.sl 184,.sl 9]] [(false,[.ct .b])] (fun _=>(.s (.r [0,0] none) (.s (.s .n (.b (.s .n (.c (.s (.r [] (some ⟨uu 4 (ob :: uu 49 []),.u :: []⟩)) .n) (.s .n (.c (.s (.r [] (some ⟨uu 4 (ob :: uu 49 []),.u :: []⟩)) .n) (.s .n (.c .n (.s .n (.c (.s (.r [] (some ⟨uu 4 (ob :: uu 49 []),.u :: []⟩)) .n) .n none)) none)) none)) none)) ⟨uu 3 (.one (.ptr 0 0) :: uu 50 []),.var 184 [.i .i64,.s,.sl 184,.sl 9] :: []⟩)) (.s (.r [] (some ⟨uu 4 (ob :: uu 49 []),.u :: []⟩)) .n))))
noncomputable def jcq:FI:=jE Tryz.f170 5 [.ag [.sl 37,.sl 37,.sl 125],.ct (.sl 196),.ag [.i .i64,.s,.sl 184,.sl 9]] [(false,[.ct .b])] (fun _=>(.s (.r [0,1,0] none) (.s (.s (.r [] (some ⟨ou :: ol 196 :: ou :: .one (.ptr 0 0) :: ou :: .one (.ptr 1 0) :: uu 22 (ob :: uu 59 []),.var 27 [.sl 37,.sl 37,.sl 125] :: .var 184 [.i .i64,.s,.sl 184,.sl 9] :: vv 3 []⟩)) .n) (.s (.s .n (.b (.b (.s .n (.s (.b (.s .n (.s (.r [] (some ⟨ou :: ol 196 :: ou :: .one (.ptr 0 0) :: ou :: .one (.ptr 1 0) :: ou :: oi :: uu 63 (ob :: uu 16 []),.var 27 [.sl 37,.sl 37,.sl 125] :: .var 184 [.i .i64,.s,.sl 184,.sl 9] :: vv 3 []⟩)) .n)) ⟨ou :: ol 196 :: ou :: .one (.ptr 0 0) :: ou :: .one (.ptr 1 0) :: ou :: oi :: uu 80 [],.var 27 [.sl 37,.sl 37,.sl 125] :: .var 184 [.i .i64,.s,.sl 184,.sl 9] :: vv 3 []⟩) .n)) ⟨ou :: ol 196 :: ou :: .one (.ptr 0 0) :: ou :: .one (.ptr 1 0) :: ou :: oi :: uu 80 [],.var 27 [.sl 37,.sl 37,.sl 125] :: .var 184 [.i .i64,.s,.sl 184,.sl 9] :: vv 3 []⟩) ⟨ou :: ol 196 :: uu 3 (.one (.ptr 1 0) :: uu 82 []),.u :: .var 184 [.i .i64,.s,.sl 184,.sl 9] :: vv 3 []⟩)) (.s (.r [0,2,0] none) (.s (.s .n (.b (.b (.s .n (.s (.b .n ⟨uu 5 (.one (.ptr 1 0) :: uu 3 (.one (.own 9 4) :: oi :: uu 77 [])),.u :: .var 184 [.i .i64,.s,.sl 184,.sl 9] :: vv 3 []⟩) .n)) ⟨uu 5 (.one (.ptr 1 0) :: uu 3 (.one (.own 9 3) :: oi :: uu 77 [])),.u :: .var 184 [.i .i64,.s,.sl 184,.sl 9] :: vv 3 []⟩) ⟨uu 88 [],vv 5 []⟩)) .n))))))
noncomputable def jcp:FI:=jE Tryz.f171 0 [.ct (.i .i64),.ct (.i .i64),.ct (.i .i64)] [(false,[.ct .b])] (fun _=>(.s .n (.s (.r [] (some ⟨uu 6 (ob :: uu 8 []),[]⟩)) .n)))
noncomputable def jco:FI:=jE Tryz.f172 14 [.ct .s] [(false,[.new 9])] (fun _=>(.s .n (.s (.r [0,0] none) (.s .n (.s (.s .n (.b (.b (.s .n (.s (.b (.s (.r [] (some ⟨os :: ou :: ou :: .one (.own 9 2) :: oi :: oi :: uu 16 (ob :: uu 35 []),vv 14 []⟩)) (.c (.s (.r [0,0,0,0,0,4,5,0] none) (.s (.s (.r [] (some ⟨os :: ou :: ou :: .one (.own 9 6) :: ou :: oi :: uu 41 (ob :: uu 10 []),vv 14 []⟩)) (.c .n .n (some ⟨os :: ou :: ou :: .one (.own 9 7) :: ou :: oi :: uu 52 [],vv 14 []⟩))) .n)) .n (some ⟨os :: ou :: ou :: .one (.own 9 8) :: oi :: oi :: uu 52 [],vv 14 []⟩))) ⟨os :: ou :: ou :: .one (.own 9 9) :: oi :: oi :: uu 52 [],vv 14 []⟩) .n)) ⟨os :: ou :: ou :: .one (.own 9 1) :: oi :: oi :: uu 52 [],vv 14 []⟩) ⟨os :: ou :: ou :: .one (.own 9 10) :: oi :: uu 53 [],vv 14 []⟩)) (.s (.r [0,0,0,0,12,13,0] none) .n))))))
noncomputable def jcn:FI:=jE Tryz.f173 0 [.ct .s] [(false,[.ct (.i .i64)])] (fun _=>(.s .n (.s .n (.s (.b (.b (.s (.s (.r [] (some ⟨os :: ou :: ou :: oi :: uu 15 (ob :: uu 3 []),[]⟩)) .n) (.b .n ⟨os :: ou :: ou :: oi :: uu 19 [],[]⟩)) ⟨os :: ou :: ou :: oi :: uu 19 [],[]⟩) ⟨uu 3 (oi :: uu 19 []),[]⟩) .n))))
noncomputable def jcm:FI:=jE Tryz.f174 0 [.ct (.i .u8)] [(false,[.ct (.i .i64)])] (fun _=>(.s .n (.s (.b (.s (.r [] (some ⟨.one (.i .u8) :: ou :: ou :: ob :: uu 29 [],[]⟩)) (.c .n (.s (.r [] (some ⟨.one (.i .u8) :: uu 12 (ob :: uu 19 []),[]⟩)) (.c .n (.s (.r [] (some ⟨.one (.i .u8) :: uu 22 (ob :: uu 9 []),[]⟩)) .n) none)) none)) ⟨uu 33 [],[]⟩) .n)))
noncomputable def jcl:FI:=jE Tryz.f175 0 [.ct .s,.ct (.i .i64),.ct (.i .i64)] [(false,[.ct (.i .i64)])] (fun _=>(.s .n (.s .n (.s (.s .n (.b (.b (.s .n (.s (.b (.s (.s (.r [] (some ⟨os :: ou :: oi :: uu 4 (oi :: oi :: uu 16 (ob :: uu 8 [])),[]⟩)) .n) .n) ⟨os :: ou :: oi :: uu 4 (oi :: oi :: uu 25 []),[]⟩) .n)) ⟨os :: ou :: oi :: uu 4 (oi :: oi :: uu 25 []),[]⟩) ⟨uu 7 (oi :: uu 26 []),[]⟩)) .n))))
noncomputable def jck:FI:=jE Tryz.f176 3 [.ag [.sl 37,.sl 37,.sl 125],.ct .s,.ct .s] [(false,[.ct .b])] (fun _=>(.s (.r [0,0] none) (.s .n (.s .n (.s .n (.s (.s (.r [] (some ⟨ou :: os :: os :: .one (.ptr 0 0) :: uu 3 (oi :: oi :: uu 16 (ob :: uu 41 [])),.var 27 [.sl 37,.sl 37,.sl 125] :: .u :: .u :: []⟩)) .n) (.s (.r [0,0,0,0,0,1,0] none) (.s (.r [0,0,0,0,0,2,0] none) (.s (.s (.r [] (some ⟨ou :: os :: os :: uu 6 (.one (.ptr 1 0) :: .one (.ptr 2 0) :: uu 37 (ob :: uu 18 [])),.u :: .var 37 [.i .i64,.b,.s,.s,.sl 9,.sl 199,.sl 196,.sl 201,.sl 125,.b,.sl 191] :: .var 37 [.i .i64,.b,.s,.s,.sl 9,.sl 199,.sl 196,.sl 201,.sl 125,.b,.sl 191] :: []⟩)) .n) (.s (.r [] (some ⟨uu 6 (ob :: uu 60 []),vv 3 []⟩)) .n))))))))))
noncomputable def jcj:FI:=jE Tryz.f177 9 [.ct (.sl 196)] [(false,[.new 9])] (fun _=>(.s .n (.s (.r [0,0] none) (.s (.s .n (.b (.b (.s .n (.s (.b (.s (.r [] (some ⟨ol 196 :: ou :: ou :: .one (.own 9 2) :: oi :: uu 20 (ob :: uu 9 []),vv 9 []⟩)) (.c (.r [0,0,0,0,0,0,4,5,0] none) .n (some ⟨ol 196 :: ou :: ou :: .one (.own 9 6) :: oi :: uu 30 [],vv 9 []⟩))) ⟨ol 196 :: ou :: ou :: .one (.own 9 7) :: oi :: uu 30 [],vv 9 []⟩) .n)) ⟨ol 196 :: ou :: ou :: .one (.own 9 1) :: oi :: uu 30 [],vv 9 []⟩) ⟨uu 3 (.one (.own 9 8) :: uu 31 []),vv 9 []⟩)) .n))))
noncomputable def jci:FI:=jE Tryz.f178 0 [.ct .s] [(false,[.ct .b])] (fun _=>(.s .n (.s (.s (.r [] (some ⟨os :: uu 11 (ob :: uu 25 []),[]⟩)) .n) (.s .n (.s (.s .n (.b (.b (.s .n (.s (.b (.s .n (.c .n .n (some ⟨os :: ou :: ou :: oi :: oi :: uu 33 [],[]⟩))) ⟨os :: ou :: ou :: oi :: oi :: uu 33 [],[]⟩) .n)) ⟨os :: ou :: ou :: oi :: oi :: uu 33 [],[]⟩) ⟨os :: ou :: ou :: oi :: uu 34 [],[]⟩)) .n)))))
noncomputable def jch:List (Nat × FI):=[(81,jev),(101,jdt),(102,jds),(103,jdr),(129,jd1),(130,jd0),(131,jcZ),(132,jcY),(133,jbg),(134,jcX),(135,jbf),(136,jcW),(137,jcV),(138,jcU),(139,jcT),(140,jcS),(141,jcR),(142,jcQ),(157,jcB),(158,jbe),(159,jbd),(160,jcA),(161,jcz),(162,jcy),(171,jcp),(172,jco),(173,jcn),(174,jcm),(175,jcl)]
noncomputable def qk:Cfg:=⟨fun t=>Xk t tyL,fun f=>Xk f jch⟩
theorem jcg:∀ x ∈ jch,FnOk Tryz.prog Glob.none qk.ty x.1 x.2 :=
 all_cons (jl Tryz.func81 (by kernel_rfl)) <|
 all_cons (jl Tryz.func101 (by kernel_rfl)) <|
 all_cons (jl Tryz.func102 (by kernel_rfl)) <|
 all_cons (jl Tryz.func103 (by kernel_rfl)) <|
 all_cons (jl Tryz.func129 (by kernel_rfl)) <|
 all_cons (jl Tryz.func130 (by kernel_rfl)) <|
 all_cons (jl Tryz.func131 (by kernel_rfl)) <|
 all_cons (jl Tryz.func132 (by kernel_rfl)) <|
 all_cons (jl Tryz.func133 (by kernel_rfl)) <|
 all_cons (jl Tryz.func134 (by kernel_rfl)) <|
 all_cons (jl Tryz.func135 (by kernel_rfl)) <|
 all_cons (jl Tryz.func136 (by kernel_rfl)) <|
 all_cons (jl Tryz.func137 (by kernel_rfl)) <|
 all_cons (jl Tryz.func138 (by kernel_rfl)) <|
 all_cons (jl Tryz.func139 (by kernel_rfl)) <|
 all_cons (jl Tryz.func140 (by kernel_rfl)) <|
 all_cons (jl Tryz.func141 (by kernel_rfl)) <|
 all_cons (jl Tryz.func142 (by kernel_rfl)) <|
 all_cons (jl Tryz.func157 (by kernel_rfl)) <|
 all_cons (jl Tryz.func158 (by kernel_rfl)) <|
 all_cons (jl Tryz.func159 (by kernel_rfl)) <|
 all_cons (jl Tryz.func160 (by kernel_rfl)) <|
 all_cons (jl Tryz.func161 (by kernel_rfl)) <|
 all_cons (jl Tryz.func162 (by kernel_rfl)) <|
 all_cons (jl Tryz.func171 (by kernel_rfl)) <|
 all_cons (jl Tryz.func172 (by kernel_rfl)) <|
 all_cons (jl Tryz.func173 (by kernel_rfl)) <|
 all_cons (jl Tryz.func174 (by kernel_rfl)) <|
 all_cons (jl Tryz.func175 (by kernel_rfl)) <|
 j81
noncomputable def kv (v:List DC):Out:=jb8 qk j35 68 [.sl 5,.i .i64,.i .i64] 2 ⟨j35.pk.map pkK,[]⟩ v
noncomputable def jfc:FI:={ j35 with stf:=some (j9x (fun t=>Xk t tyL) j35.pk kv 68 [.sl 5,.i .i64,.i .i64]) }
noncomputable def kI (v:List DC):Out:=jb8 qk j34 106 [.sl 159,.i .i64,.i .i64,.i .i64,.i .i64] 2 ⟨j34.pk.map pkK,[]⟩ v
noncomputable def jeH:FI:={ j34 with stf:=some (j9x (fun t=>Xk t tyL) j34.pk kI 106 [.sl 159,.i .i64,.i .i64,.i .i64,.i .i64]) }
noncomputable def jf7:FI:={ jE Tryz.f24 0 [] [] (fun _=>.n) with stf:=some (j7E 9) }
noncomputable def jf6:FI:={ jE Tryz.f25 0 [] [] (fun _=>.n) with stf:=some (j07 9) }
noncomputable def fnL:List (Nat × FI):=[(3,fi3),(4,fi4),(5,fi5),(6,fi6),(7,fi7),(8,fi8),(9,fi9),(11,jfk),(10,jfl),(12,jfj),(13,jfi),(14,jfh),(15,jfg),(16,jff),(17,jfe),(18,jfd),(20,jfb),(21,jfa),(22,jf9),(23,jf8),(26,jf5),(27,jf4),(28,jf3),(29,jf2),(30,jf1),(31,jf0),(32,jeZ),(34,jeX),(36,jeV),(35,jeW),(37,jeU),(38,jeT),(39,jeS),(42,jeR),(43,jeQ),(46,jeN),(47,jeM),(44,jeP),(45,jeO),(49,jeK),(48,jeL),(50,jeJ),(62,jeI),(33,jeY),(64,jeG),(65,jeF),(66,jeE),(67,jeD),(68,jeC),(69,jeB),(70,jeA),(71,jez),(72,jey),(80,jew),(82,jeu),(83,jet),(84,jes),(85,jer),(86,jeq),(87,jep),(88,jeo),(89,jen),(90,jem),(91,jel),(92,jek),(93,jej),(94,jei),(95,jeh),(96,jeg),(97,jef),(98,jee),(99,jed),(73,jex),(104,jdq),(105,jdp),(106,jdo),(107,jdn),(108,jdm),(109,jdl),(110,jdk),(111,jdj),(112,jdi),(113,jdh),(114,jdg),(115,jdf),(116,jde),(117,jdd),(118,jdc),(119,jdb),(120,jda),(121,jd9),(122,jd8),(123,jd7),(124,jd6),(125,jd5),(126,jd4),(127,jd3),(128,jd2),(133,jbg),(135,jbf),(143,jcP),(144,jcO),(145,jcN),(146,jcM),(147,jcL),(148,jcK),(149,jcJ),(150,jcI),(151,jcH),(152,jcG),(153,jcF),(154,jcE),(155,jcD),(156,jcC),(158,jbe),(159,jbd),(163,jcx),(164,jcw),(165,jcv),(166,jcu),(167,jct),(168,jcs),(169,jcr),(170,jcq),(176,jck),(177,jcj),(178,jci),(19,jfc),(63,jeH),(24,jf7),(25,jf6)]
noncomputable def cfg:Cfg:=⟨fun t=>Xk t tyL,fun f=>Xk f fnL⟩
theorem fns:∀ x ∈ fnL,FnOk Tryz.prog Glob.none cfg.ty x.1 x.2 :=
 all_cons (jl Tryz.func3 (by kernel_rfl)) <|
 all_cons (jl Tryz.func4 (by kernel_rfl)) <|
 all_cons (jl Tryz.func5 (by kernel_rfl)) <|
 all_cons (jl Tryz.func6 (by kernel_rfl)) <|
 all_cons (jl Tryz.func7 (by kernel_rfl)) <|
 all_cons (jl Tryz.func8 (by kernel_rfl)) <|
 all_cons (jl Tryz.func9 (by kernel_rfl)) <|
 all_cons (jl Tryz.func11 (by kernel_rfl)) <|
 all_cons (jl Tryz.func10 (by kernel_rfl)) <|
 all_cons (jl Tryz.func12 (by kernel_rfl)) <|
 all_cons (jl Tryz.func13 (by kernel_rfl)) <|
 all_cons (jl Tryz.func14 (by kernel_rfl)) <|
 all_cons (jl Tryz.func15 (by kernel_rfl)) <|
 all_cons (jl Tryz.func16 (by kernel_rfl)) <|
 all_cons (jl Tryz.func17 (by kernel_rfl)) <|
 all_cons (jl Tryz.func18 (by kernel_rfl)) <|
 all_cons (jl Tryz.func20 (by kernel_rfl)) <|
 all_cons (jl Tryz.func21 (by kernel_rfl)) <|
 all_cons (jl Tryz.func22 (by kernel_rfl)) <|
 all_cons (jl Tryz.func23 (by kernel_rfl)) <|
 all_cons (jl Tryz.func26 (by kernel_rfl)) <|
 all_cons (jl Tryz.func27 (by kernel_rfl)) <|
 all_cons (jl Tryz.func28 (by kernel_rfl)) <|
 all_cons (jl Tryz.func29 (by kernel_rfl)) <|
 all_cons (jl Tryz.func30 (by kernel_rfl)) <|
 all_cons (jl Tryz.func31 (by kernel_rfl)) <|
 all_cons (jl Tryz.func32 (by kernel_rfl)) <|
 all_cons (jl Tryz.func34 (by kernel_rfl)) <|
 all_cons (jl Tryz.func36 (by kernel_rfl)) <|
 all_cons (jl Tryz.func35 (by kernel_rfl)) <|
 all_cons (jl Tryz.func37 (by kernel_rfl)) <|
 all_cons (jl Tryz.func38 (by kernel_rfl)) <|
 all_cons (jl Tryz.func39 (by kernel_rfl)) <|
 all_cons (jl Tryz.func42 (by kernel_rfl)) <|
 all_cons (jl Tryz.func43 (by kernel_rfl)) <|
 all_cons (jl Tryz.func46 (by kernel_rfl)) <|
 all_cons (jl Tryz.func47 (by kernel_rfl)) <|
 all_cons (jl Tryz.func44 (by kernel_rfl)) <|
 all_cons (jl Tryz.func45 (by kernel_rfl)) <|
 all_cons (jl Tryz.func49 (by kernel_rfl)) <|
 all_cons (jl Tryz.func48 (by kernel_rfl)) <|
 all_cons (jl Tryz.func50 (by kernel_rfl)) <|
 all_cons (jl Tryz.func62 (by kernel_rfl)) <|
 all_cons (jl Tryz.func33 (by kernel_rfl)) <|
 all_cons (jl Tryz.func64 (by kernel_rfl)) <|
 all_cons (jl Tryz.func65 (by kernel_rfl)) <|
 all_cons (jl Tryz.func66 (by kernel_rfl)) <|
 all_cons (jl Tryz.func67 (by kernel_rfl)) <|
 all_cons (jl Tryz.func68 (by kernel_rfl)) <|
 all_cons (jl Tryz.func69 (by kernel_rfl)) <|
 all_cons (jl Tryz.func70 (by kernel_rfl)) <|
 all_cons (jl Tryz.func71 (by kernel_rfl)) <|
 all_cons (jl Tryz.func72 (by kernel_rfl)) <|
 all_cons (jl Tryz.func80 (by kernel_rfl)) <|
 all_cons (jl Tryz.func82 (by kernel_rfl)) <|
 all_cons (jl Tryz.func83 (by kernel_rfl)) <|
 all_cons (jl Tryz.func84 (by kernel_rfl)) <|
 all_cons (jl Tryz.func85 (by kernel_rfl)) <|
 all_cons (jl Tryz.func86 (by kernel_rfl)) <|
 all_cons (jl Tryz.func87 (by kernel_rfl)) <|
 all_cons (jl Tryz.func88 (by kernel_rfl)) <|
 all_cons (jl Tryz.func89 (by kernel_rfl)) <|
 all_cons (jl Tryz.func90 (by kernel_rfl)) <|
 all_cons (jl Tryz.func91 (by kernel_rfl)) <|
 all_cons (jl Tryz.func92 (by kernel_rfl)) <|
 all_cons (jl Tryz.func93 (by kernel_rfl)) <|
 all_cons (jl Tryz.func94 (by kernel_rfl)) <|
 all_cons (jl Tryz.func95 (by kernel_rfl)) <|
 all_cons (jl Tryz.func96 (by kernel_rfl)) <|
 all_cons (jl Tryz.func97 (by kernel_rfl)) <|
 all_cons (jl Tryz.func98 (by kernel_rfl)) <|
 all_cons (jl Tryz.func99 (by kernel_rfl)) <|
 all_cons (jl Tryz.func73 (by kernel_rfl)) <|
 all_cons (jl Tryz.func104 (by kernel_rfl)) <|
 all_cons (jl Tryz.func105 (by kernel_rfl)) <|
 all_cons (jl Tryz.func106 (by kernel_rfl)) <|
 all_cons (jl Tryz.func107 (by kernel_rfl)) <|
 all_cons (jl Tryz.func108 (by kernel_rfl)) <|
 all_cons (jl Tryz.func109 (by kernel_rfl)) <|
 all_cons (jl Tryz.func110 (by kernel_rfl)) <|
 all_cons (jl Tryz.func111 (by kernel_rfl)) <|
 all_cons (jl Tryz.func112 (by kernel_rfl)) <|
 all_cons (jl Tryz.func113 (by kernel_rfl)) <|
 all_cons (jl Tryz.func114 (by kernel_rfl)) <|
 all_cons (jl Tryz.func115 (by kernel_rfl)) <|
 all_cons (jl Tryz.func116 (by kernel_rfl)) <|
 all_cons (jl Tryz.func117 (by kernel_rfl)) <|
 all_cons (jl Tryz.func118 (by kernel_rfl)) <|
 all_cons (jl Tryz.func119 (by kernel_rfl)) <|
 all_cons (jl Tryz.func120 (by kernel_rfl)) <|
 all_cons (jl Tryz.func121 (by kernel_rfl)) <|
 all_cons (jl Tryz.func122 (by kernel_rfl)) <|
 all_cons (jl Tryz.func123 (by kernel_rfl)) <|
 all_cons (jl Tryz.func124 (by kernel_rfl)) <|
 all_cons (jl Tryz.func125 (by kernel_rfl)) <|
 all_cons (jl Tryz.func126 (by kernel_rfl)) <|
 all_cons (jl Tryz.func127 (by kernel_rfl)) <|
 all_cons (jl Tryz.func128 (by kernel_rfl)) <|
 all_cons (jl Tryz.func133 (by kernel_rfl)) <|
 all_cons (jl Tryz.func135 (by kernel_rfl)) <|
 all_cons (jl Tryz.func143 (by kernel_rfl)) <|
 all_cons (jl Tryz.func144 (by kernel_rfl)) <|
 all_cons (jl Tryz.func145 (by kernel_rfl)) <|
 all_cons (jl Tryz.func146 (by kernel_rfl)) <|
 all_cons (jl Tryz.func147 (by kernel_rfl)) <|
 all_cons (jl Tryz.func148 (by kernel_rfl)) <|
 all_cons (jl Tryz.func149 (by kernel_rfl)) <|
 all_cons (jl Tryz.func150 (by kernel_rfl)) <|
 all_cons (jl Tryz.func151 (by kernel_rfl)) <|
 all_cons (jl Tryz.func152 (by kernel_rfl)) <|
 all_cons (jl Tryz.func153 (by kernel_rfl)) <|
 all_cons (jl Tryz.func154 (by kernel_rfl)) <|
 all_cons (jl Tryz.func155 (by kernel_rfl)) <|
 all_cons (jl Tryz.func156 (by kernel_rfl)) <|
 all_cons (jl Tryz.func158 (by kernel_rfl)) <|
 all_cons (jl Tryz.func159 (by kernel_rfl)) <|
 all_cons (jl Tryz.func163 (by kernel_rfl)) <|
 all_cons (jl Tryz.func164 (by kernel_rfl)) <|
 all_cons (jl Tryz.func165 (by kernel_rfl)) <|
 all_cons (jl Tryz.func166 (by kernel_rfl)) <|
 all_cons (jl Tryz.func167 (by kernel_rfl)) <|
 all_cons (jl Tryz.func168 (by kernel_rfl)) <|
 all_cons (jl Tryz.func169 (by kernel_rfl)) <|
 all_cons (jl Tryz.func170 (by kernel_rfl)) <|
 all_cons (jl Tryz.func176 (by kernel_rfl)) <|
 all_cons (jl Tryz.func177 (by kernel_rfl)) <|
 all_cons (jl Tryz.func178 (by kernel_rfl)) <|
 all_cons (jag (cfg:=qk) (fi:=j35) (t:=2) (j6J tys).1 (by kernel_rfl) (ja0 jcg) (jl Tryz.func19 (by kernel_rfl)) rfl (by kernel_rfl) rfl (fun v r h=>j6D h)) <|
 all_cons (jag (cfg:=qk) (fi:=j34) (t:=2) (j6J tys).1 (by kernel_rfl) (ja0 jcg) (jl Tryz.func63 (by kernel_rfl)) rfl (by kernel_rfl) rfl (fun v r h=>j6D h)) <|
 all_cons (j9d (jl Tryz.func24 (by kernel_rfl)) (jbx (e:=9) rfl fun te h=>by injection (show Xk 9 tyL=some te from h) with h; subst h; rfl)) <|
 all_cons (j9d (jl Tryz.func25 (by kernel_rfl)) (j8h (e:=9) rfl fun te h=>by injection (show Xk 9 tyL=some te from h) with h; subst h; rfl)) <| j81
noncomputable def Y1 (a:List DC):Out:=ki cfg 3 ⟨ol 5 :: [],[]⟩ a
noncomputable def ZB (a:List DC):Out:=ki cfg 4 ⟨ol 5 :: [],[]⟩ a
noncomputable def zN (a:List DC):Out:=ki cfg 5 ⟨ol 5 :: [],[]⟩ a
noncomputable def JP (a:List DC):Out:=ki cfg 6 ⟨ol 5 :: [],[]⟩ a
noncomputable def pX (a:List DC):Out:=ki cfg 7 ⟨.agg [.sl 37,.sl 37,.sl 125] :: os :: [],[]⟩ a
noncomputable def qZ (a:List DC):Out:=ki cfg 8 ⟨.agg [.sl 37,.sl 37,.sl 125] :: os :: [],[]⟩ a
noncomputable def kJ (a:List DC):Out:=ki cfg 9 ⟨.agg [.sl 37,.sl 37,.sl 125] :: .agg [.s,.s] :: .agg [.s,.s] :: [],[]⟩ a
noncomputable def JM (a:List DC):Out:=ki cfg 11 ⟨.agg [.sl 37,.sl 37,.sl 125] :: os :: [],[]⟩ a
noncomputable def Kg (a:List DC):Out:=ki cfg 10 ⟨ol 9 :: ol 9 :: [],[]⟩ a
noncomputable def JQ (a:List DC):Out:=ki cfg 12 ⟨.agg [.sl 37,.sl 37,.sl 125] :: os :: os :: [],[]⟩ a
noncomputable def Jo (a:List DC):Out:=ki cfg 13 ⟨.agg [.sl 37,.sl 37,.sl 125] :: os :: [],[]⟩ a
noncomputable def jU (a:List DC):Out:=ki cfg 14 ⟨.agg [.sl 37,.sl 37,.sl 125] :: os :: [],[]⟩ a
noncomputable def Kv (a:List DC):Out:=ki cfg 15 ⟨.agg [.sl 37,.sl 37,.sl 125] :: os :: [],[]⟩ a
noncomputable def kp (a:List DC):Out:=ki cfg 16 ⟨.agg [.sl 37,.sl 37,.sl 125] :: os :: [],[]⟩ a
noncomputable def jR (a:List DC):Out:=ki cfg 17 ⟨.agg [.sl 37,.sl 37,.sl 125] :: os :: [],[]⟩ a
noncomputable def KR (a:List DC):Out:=ki cfg 18 ⟨.one (.ptr 0 0) :: [],.var 68 [.sl 5,.i .i64,.i .i64] :: []⟩ a
noncomputable def pS (a:List DC):Out:=ki cfg 20 ⟨.one (.ptr 0 0) :: [],.var 68 [.sl 5,.i .i64,.i .i64] :: []⟩ a
noncomputable def qK (a:List DC):Out:=ki cfg 21 ⟨.one (.ptr 0 0) :: oi :: [],.var 68 [.sl 5,.i .i64,.i .i64] :: []⟩ a
noncomputable def yn (a:List DC):Out:=ki cfg 22 ⟨.agg [.sl 37,.sl 37,.sl 125] :: os :: [],[]⟩ a
noncomputable def jO (a:List DC):Out:=ki cfg 23 ⟨ol 9 :: os :: [],[]⟩ a
noncomputable def QD (a:List DC):Out:=ki cfg 26 ⟨os :: [],[]⟩ a
noncomputable def pC (a:List DC):Out:=ki cfg 27 ⟨.agg [.s,.s] :: os :: [],[]⟩ a
noncomputable def QC (a:List DC):Out:=ki cfg 28 ⟨.agg [.sl 37,.sl 37,.sl 125] :: os :: os :: [],[]⟩ a
noncomputable def p9 (a:List DC):Out:=ki cfg 29 ⟨.agg [.sl 37,.sl 37,.sl 125] :: os :: [],[]⟩ a
noncomputable def jN (a:List DC):Out:=ki cfg 30 ⟨ol 9 :: os :: [],[]⟩ a
noncomputable def yj (a:List DC):Out:=ki cfg 31 ⟨ol 9 :: [],[]⟩ a
noncomputable def kQ (a:List DC):Out:=ki cfg 32 ⟨ol 9 :: .one (.fn 33 [0]) :: [],.var 31 [.sl 9] :: []⟩ a
noncomputable def zB (a:List DC):Out:=ki cfg 34 ⟨os :: [],[]⟩ a
noncomputable def Qt (a:List DC):Out:=ki cfg 36 ⟨.one (.ptr 0 0) :: [],.var 68 [.sl 5,.i .i64,.i .i64] :: []⟩ a
noncomputable def Kf (a:List DC):Out:=ki cfg 35 ⟨os :: [],[]⟩ a
noncomputable def Kb (a:List DC):Out:=ki cfg 37 ⟨[],[]⟩ a
noncomputable def VA (a:List DC):Out:=ki cfg 38 ⟨.agg [.sl 37,.sl 37,.sl 125] :: os :: [],[]⟩ a
noncomputable def yW (a:List DC):Out:=ki cfg 39 ⟨ol 9 :: os :: [],[]⟩ a
noncomputable def yb (a:List DC):Out:=ki cfg 42 ⟨os :: os :: [],[]⟩ a
noncomputable def km (a:List DC):Out:=ki cfg 43 ⟨ol 9 :: .one (.fn 33 [0]) :: [],.var 31 [.sl 9] :: []⟩ a
noncomputable def yk (a:List DC):Out:=ki cfg 46 ⟨[],[]⟩ a
noncomputable def Jm (a:List DC):Out:=ki cfg 47 ⟨os :: os :: os :: [],[]⟩ a
noncomputable def JN (a:List DC):Out:=ki cfg 44 ⟨os :: [],[]⟩ a
noncomputable def Xd (a:List DC):Out:=ki cfg 45 ⟨.agg [.sl 116] :: [],[]⟩ a
noncomputable def Qv (a:List DC):Out:=ki cfg 49 ⟨[],[]⟩ a
noncomputable def Jb (a:List DC):Out:=ki cfg 48 ⟨ol 37 :: [],[]⟩ a
noncomputable def Xe (a:List DC):Out:=ki cfg 50 ⟨ol 37 :: os :: [],[]⟩ a
noncomputable def qT (a:List DC):Out:=ki cfg 62 ⟨os :: os :: [],[]⟩ a
noncomputable def VJ (a:List DC):Out:=ki cfg 33 ⟨os :: .one (.ptr 0 0) :: [],.var 31 [.sl 9] :: []⟩ a
noncomputable def j16 (a:List DC):Out:=ki cfg 64 ⟨.one (.ptr 0 0) :: [],.var 106 [.sl 159,.i .i64,.i .i64,.i .i64,.i .i64] :: []⟩ a
noncomputable def jL (a:List DC):Out:=ki cfg 65 ⟨.one (.ptr 0 0) :: oi :: [],.var 106 [.sl 159,.i .i64,.i .i64,.i .i64,.i .i64] :: []⟩ a
noncomputable def JI (a:List DC):Out:=ki cfg 66 ⟨.one (.ptr 0 0) :: [],.var 106 [.sl 159,.i .i64,.i .i64,.i .i64,.i .i64] :: []⟩ a
noncomputable def Vz (a:List DC):Out:=ki cfg 67 ⟨.agg [.sl 116] :: [],[]⟩ a
noncomputable def Y0 (a:List DC):Out:=ki cfg 68 ⟨ol 37 :: [],[]⟩ a
noncomputable def yV (a:List DC):Out:=ki cfg 69 ⟨.agg [.sl 37,.sl 37,.sl 125] :: [],[]⟩ a
noncomputable def Ja (a:List DC):Out:=ki cfg 70 ⟨ol 37 :: oi :: [],[]⟩ a
noncomputable def zM (a:List DC):Out:=ki cfg 71 ⟨ol 37 :: oi :: os :: [],[]⟩ a
noncomputable def ko (a:List DC):Out:=ki cfg 72 ⟨ol 37 :: .one (.fn 73 [0]) :: [],.var 9 [.s] :: []⟩ a
noncomputable def qR (a:List DC):Out:=ki cfg 80 ⟨os :: os :: [],[]⟩ a
noncomputable def K7 (a:List DC):Out:=ki qk 81 ⟨os :: [],[]⟩ a
noncomputable def Kc (a:List DC):Out:=ki cfg 82 ⟨.one (.ptr 0 0) :: [],.var 106 [.sl 159,.i .i64,.i .i64,.i .i64,.i .i64] :: []⟩ a
noncomputable def kk (a:List DC):Out:=ki cfg 83 ⟨.one (.ptr 0 0) :: os :: [],.var 106 [.sl 159,.i .i64,.i .i64,.i .i64,.i .i64] :: []⟩ a
noncomputable def ym (a:List DC):Out:=ki cfg 84 ⟨.one (.ptr 0 0) :: oi :: [],.var 106 [.sl 159,.i .i64,.i .i64,.i .i64,.i .i64] :: []⟩ a
noncomputable def jX (a:List DC):Out:=ki cfg 85 ⟨.one (.ptr 0 0) :: [],.var 106 [.sl 159,.i .i64,.i .i64,.i .i64,.i .i64] :: []⟩ a
noncomputable def Qb (a:List DC):Out:=ki cfg 86 ⟨.one (.ptr 0 0) :: [],.var 106 [.sl 159,.i .i64,.i .i64,.i .i64,.i .i64] :: []⟩ a
noncomputable def j17 (a:List DC):Out:=ki cfg 87 ⟨.one (.ptr 0 0) :: oi :: [],.var 106 [.sl 159,.i .i64,.i .i64,.i .i64,.i .i64] :: []⟩ a
noncomputable def ZA (a:List DC):Out:=ki cfg 88 ⟨.one (.ptr 0 0) :: [],.var 106 [.sl 159,.i .i64,.i .i64,.i .i64,.i .i64] :: []⟩ a
noncomputable def kO (a:List DC):Out:=ki cfg 89 ⟨.one (.ptr 0 0) :: [],.var 106 [.sl 159,.i .i64,.i .i64,.i .i64,.i .i64] :: []⟩ a
noncomputable def JJ (a:List DC):Out:=ki cfg 90 ⟨.one (.ptr 0 0) :: os :: [],.var 106 [.sl 159,.i .i64,.i .i64,.i .i64,.i .i64] :: []⟩ a
noncomputable def zy (a:List DC):Out:=ki cfg 91 ⟨.agg [.i .i64,.b,.s,.s,.sl 9,.sl 199,.sl 196,.sl 201,.sl 125,.b,.sl 191] :: [],[]⟩ a
noncomputable def qJ (a:List DC):Out:=ki cfg 92 ⟨oi :: [],[]⟩ a
noncomputable def j4X (a:List DC):Out:=ki cfg 93 ⟨.agg [.i .i64,.b,.s,.s,.sl 9,.sl 199,.sl 196,.sl 201,.sl 125,.b,.sl 191] :: .agg [.i .i64,.b,.s,.s,.sl 9,.sl 199,.sl 196,.sl 201,.sl 125,.b,.sl 191] :: [],[]⟩ a
noncomputable def zW (a:List DC):Out:=ki cfg 94 ⟨.agg [.sl 37,.sl 37,.sl 125] :: .agg [.i .i64,.b,.s,.s,.sl 9,.sl 199,.sl 196,.sl 201,.sl 125,.b,.sl 191] :: [],[]⟩ a
noncomputable def qb (a:List DC):Out:=ki cfg 95 ⟨os :: [],[]⟩ a
noncomputable def JO (a:List DC):Out:=ki cfg 96 ⟨.agg [.sl 37,.sl 37,.sl 125] :: os :: ol 196 :: [],[]⟩ a
noncomputable def Vx (a:List DC):Out:=ki cfg 97 ⟨.agg [.sl 37,.sl 37,.sl 125] :: oi :: [],[]⟩ a
noncomputable def qq (a:List DC):Out:=ki cfg 98 ⟨oi :: [],[]⟩ a
noncomputable def yO (a:List DC):Out:=ki cfg 99 ⟨ol 37 :: [],[]⟩ a
noncomputable def Y2 (a:List DC):Out:=ki cfg 73 ⟨.agg [.i .i64,.b,.s,.s,.sl 9,.sl 199,.sl 196,.sl 201,.sl 125,.b,.sl 191] :: .one (.ptr 0 0) :: [],.var 9 [.s] :: []⟩ a
noncomputable def zp (a:List DC):Out:=ki qk 101 ⟨os :: oi :: [],[]⟩ a
noncomputable def qH (a:List DC):Out:=ki qk 102 ⟨os :: oi :: [],[]⟩ a
noncomputable def qx (a:List DC):Out:=ki qk 103 ⟨os :: oi :: [],[]⟩ a
noncomputable def qi (a:List DC):Out:=ki cfg 104 ⟨.one (.ptr 0 0) :: os :: [],.var 106 [.sl 159,.i .i64,.i .i64,.i .i64,.i .i64] :: []⟩ a
noncomputable def Qw (a:List DC):Out:=ki cfg 105 ⟨oi :: [],[]⟩ a
noncomputable def jY (a:List DC):Out:=ki cfg 106 ⟨.one (.ptr 0 0) :: [],.var 106 [.sl 159,.i .i64,.i .i64,.i .i64,.i .i64] :: []⟩ a
noncomputable def pz (a:List DC):Out:=ki cfg 108 ⟨.one (.ptr 0 0) :: ob :: [],.var 106 [.sl 159,.i .i64,.i .i64,.i .i64,.i .i64] :: []⟩ a
noncomputable def qy (a:List DC):Out:=ki cfg 110 ⟨.one (.ptr 0 0) :: os :: [],.var 106 [.sl 159,.i .i64,.i .i64,.i .i64,.i .i64] :: []⟩ a
noncomputable def qQ (a:List DC):Out:=ki cfg 111 ⟨.one (.ptr 0 0) :: os :: os :: [],.var 106 [.sl 159,.i .i64,.i .i64,.i .i64,.i .i64] :: []⟩ a
noncomputable def zu (a:List DC):Out:=ki cfg 112 ⟨.one (.ptr 0 0) :: [],.var 106 [.sl 159,.i .i64,.i .i64,.i .i64,.i .i64] :: []⟩ a
noncomputable def yc (a:List DC):Out:=ki cfg 113 ⟨.one (.ptr 0 0) :: os :: [],.var 106 [.sl 159,.i .i64,.i .i64,.i .i64,.i .i64] :: []⟩ a
noncomputable def zv (a:List DC):Out:=ki cfg 114 ⟨.one (.ptr 0 0) :: [],.var 106 [.sl 159,.i .i64,.i .i64,.i .i64,.i .i64] :: []⟩ a
noncomputable def jJ (a:List DC):Out:=ki cfg 115 ⟨.one (.ptr 0 0) :: os :: [],.var 106 [.sl 159,.i .i64,.i .i64,.i .i64,.i .i64] :: []⟩ a
noncomputable def zr (a:List DC):Out:=ki cfg 116 ⟨.one (.ptr 0 0) :: [],.var 106 [.sl 159,.i .i64,.i .i64,.i .i64,.i .i64] :: []⟩ a
noncomputable def Z0 (a:List DC):Out:=ki cfg 117 ⟨.one (.ptr 0 0) :: [],.var 106 [.sl 159,.i .i64,.i .i64,.i .i64,.i .i64] :: []⟩ a
noncomputable def j3F (a:List DC):Out:=ki cfg 118 ⟨.agg [.i .i64,.b,.s,.s,.sl 9,.sl 199,.sl 196,.sl 201,.sl 125,.b,.sl 191] :: [],[]⟩ a
noncomputable def zx (a:List DC):Out:=ki cfg 119 ⟨ol 199 :: [],[]⟩ a
noncomputable def zc (a:List DC):Out:=ki cfg 120 ⟨ol 196 :: [],[]⟩ a
noncomputable def zw (a:List DC):Out:=ki cfg 121 ⟨ol 201 :: [],[]⟩ a
noncomputable def yl (a:List DC):Out:=ki cfg 122 ⟨ol 191 :: [],[]⟩ a
noncomputable def J0 (a:List DC):Out:=ki cfg 123 ⟨.agg [.i .i64,.b,.s,.s,.sl 9,.sl 199,.sl 196,.sl 201,.sl 125,.b,.sl 191] :: [],[]⟩ a
noncomputable def K9 (a:List DC):Out:=ki cfg 124 ⟨.agg [.sl 37,.sl 37,.sl 125] :: .agg [.i .i64,.b,.s,.s,.sl 9,.sl 199,.sl 196,.sl 201,.sl 125,.b,.sl 191] :: .one (.own 145 0) :: [],.u :: []⟩ a
noncomputable def JG (a:List DC):Out:=ki cfg 125 ⟨.agg [.sl 37,.sl 37,.sl 125] :: .agg [.i .i64,.b,.s,.s,.sl 9,.sl 199,.sl 196,.sl 201,.sl 125,.b,.sl 191] :: .one (.own 145 0) :: [],.u :: []⟩ a
noncomputable def K8 (a:List DC):Out:=ki cfg 126 ⟨.agg [.i .i64,.b,.s,.s,.sl 9,.sl 199,.sl 196,.sl 201,.sl 125,.b,.sl 191] :: .one (.own 145 0) :: [],.u :: []⟩ a
noncomputable def JH (a:List DC):Out:=ki cfg 127 ⟨.agg [.sl 37,.sl 37,.sl 125] :: os :: ol 196 :: .one (.own 145 0) :: [],.u :: []⟩ a
noncomputable def QB (a:List DC):Out:=ki cfg 128 ⟨.agg [.sl 37,.sl 37,.sl 125] :: os :: [],[]⟩ a
noncomputable def zL (a:List DC):Out:=ki qk 129 ⟨oi :: [],[]⟩ a
noncomputable def pW (a:List DC):Out:=ki qk 130 ⟨.one (.i .u8) :: [],[]⟩ a
noncomputable def KQ (a:List DC):Out:=ki qk 131 ⟨os :: oi :: [],[]⟩ a
noncomputable def Qs (a:List DC):Out:=ki qk 132 ⟨os :: [],[]⟩ a
noncomputable def kD (a:List DC):Out:=ki qk 133 ⟨.one (.i .u8) :: [],[]⟩ a
noncomputable def Ke (a:List DC):Out:=ki cfg 133 ⟨.one (.i .u8) :: [],[]⟩ a
noncomputable def JB (a:List DC):Out:=ki qk 134 ⟨os :: oi :: [],[]⟩ a
noncomputable def Kt (a:List DC):Out:=ki qk 135 ⟨os :: [],[]⟩ a
noncomputable def Xb (a:List DC):Out:=ki cfg 135 ⟨os :: [],[]⟩ a
noncomputable def j1W (a:List DC):Out:=ki qk 136 ⟨os :: [],[]⟩ a
noncomputable def K6 (a:List DC):Out:=ki qk 137 ⟨os :: oi :: [],[]⟩ a
noncomputable def j15 (a:List DC):Out:=ki qk 138 ⟨os :: oi :: [],[]⟩ a
noncomputable def j05 (a:List DC):Out:=ki qk 139 ⟨os :: [],[]⟩ a
noncomputable def JE (a:List DC):Out:=ki qk 140 ⟨os :: oi :: [],[]⟩ a
noncomputable def JD (a:List DC):Out:=ki qk 141 ⟨os :: [],[]⟩ a
noncomputable def Qr (a:List DC):Out:=ki qk 142 ⟨os :: [],[]⟩ a
noncomputable def JL (a:List DC):Out:=ki cfg 143 ⟨.one (.ptr 0 0) :: [],.var 106 [.sl 159,.i .i64,.i .i64,.i .i64,.i .i64] :: []⟩ a
noncomputable def yN (a:List DC):Out:=ki cfg 144 ⟨.one (.ptr 0 0) :: ob :: oi :: [],.var 106 [.sl 159,.i .i64,.i .i64,.i .i64,.i .i64] :: []⟩ a
noncomputable def Jn (a:List DC):Out:=ki cfg 145 ⟨.one (.ptr 0 0) :: ob :: [],.var 106 [.sl 159,.i .i64,.i .i64,.i .i64,.i .i64] :: []⟩ a
noncomputable def Kd (a:List DC):Out:=ki cfg 146 ⟨.one (.ptr 0 0) :: [],.var 106 [.sl 159,.i .i64,.i .i64,.i .i64,.i .i64] :: []⟩ a
noncomputable def Qz (a:List DC):Out:=ki cfg 147 ⟨os :: [],[]⟩ a
noncomputable def V4 (a:List DC):Out:=ki cfg 148 ⟨os :: [],[]⟩ a
noncomputable def zz (a:List DC):Out:=ki cfg 149 ⟨.agg [.i .i64,.s,.sl 184,.sl 9] :: [],[]⟩ a
noncomputable def Qx (a:List DC):Out:=ki cfg 150 ⟨ol 212 :: [],[]⟩ a
noncomputable def J9 (a:List DC):Out:=ki cfg 151 ⟨ol 199 :: os :: [],[]⟩ a
noncomputable def KU (a:List DC):Out:=ki cfg 152 ⟨.agg [.sl 37,.sl 37,.sl 125] :: os :: [],[]⟩ a
noncomputable def zX (a:List DC):Out:=ki cfg 153 ⟨.agg [.sl 37,.sl 37,.sl 125] :: .agg [.i .i64,.b,.s,.s,.sl 9,.sl 199,.sl 196,.sl 201,.sl 125,.b,.sl 191] :: [],[]⟩ a
noncomputable def Ju (a:List DC):Out:=ki cfg 154 ⟨ol 196 :: os :: [],[]⟩ a
noncomputable def QA (a:List DC):Out:=ki cfg 155 ⟨.agg [.sl 37,.sl 37,.sl 125] :: os :: [],[]⟩ a
noncomputable def zA (a:List DC):Out:=ki cfg 156 ⟨.agg [.sl 37,.sl 37,.sl 125] :: .agg [.i .i64,.s,.sl 184,.sl 9] :: .agg [.s,.s] :: [],[]⟩ a
noncomputable def JC (a:List DC):Out:=ki qk 157 ⟨oi :: [],[]⟩ a
noncomputable def Qq (a:List DC):Out:=ki qk 158 ⟨os :: [],[]⟩ a
noncomputable def Vw (a:List DC):Out:=ki cfg 158 ⟨os :: [],[]⟩ a
noncomputable def Qp (a:List DC):Out:=ki qk 159 ⟨os :: oi :: [],[]⟩ a
noncomputable def J1 (a:List DC):Out:=ki cfg 159 ⟨os :: oi :: [],[]⟩ a
noncomputable def j1V (a:List DC):Out:=ki qk 162 ⟨os :: oi :: [],[]⟩ a
noncomputable def JK (a:List DC):Out:=ki cfg 163 ⟨.one (.ptr 0 0) :: .agg [.s,.s] :: os :: [],.var 106 [.sl 159,.i .i64,.i .i64,.i .i64,.i .i64] :: []⟩ a
noncomputable def Qy (a:List DC):Out:=ki cfg 164 ⟨.agg [.sl 37,.sl 37,.sl 125] :: .agg [.s,.s] :: .agg [.s,.s] :: [],[]⟩ a
noncomputable def Qu (a:List DC):Out:=ki cfg 165 ⟨os :: .agg [.s,.s,.sl 196,.s,.s,.sl 191] :: .agg [.s,.s,.sl 196,.s,.s,.sl 191] :: .one (.own 145 0) :: [],.u :: []⟩ a
noncomputable def J2 (a:List DC):Out:=ki cfg 166 ⟨.agg [.s,.s] :: [],[]⟩ a
noncomputable def Qc (a:List DC):Out:=ki cfg 167 ⟨.agg [.s,.s] :: [],[]⟩ a
noncomputable def Xc (a:List DC):Out:=ki cfg 168 ⟨.agg [.s,.s] :: [],[]⟩ a
noncomputable def Ka (a:List DC):Out:=ki cfg 169 ⟨os :: .agg [.i .i64,.s,.sl 184,.sl 9] :: [],[]⟩ a
noncomputable def KS (a:List DC):Out:=ki cfg 170 ⟨.agg [.sl 37,.sl 37,.sl 125] :: ol 196 :: .agg [.i .i64,.s,.sl 184,.sl 9] :: [],[]⟩ a
noncomputable def Ks (a:List DC):Out:=ki qk 171 ⟨oi :: oi :: oi :: [],[]⟩ a
noncomputable def KT (a:List DC):Out:=ki cfg 176 ⟨.agg [.sl 37,.sl 37,.sl 125] :: os :: os :: [],[]⟩ a
noncomputable def zd (a:List DC):Out:=ki cfg 177 ⟨ol 196 :: [],[]⟩ a
noncomputable def Vy (a:List DC):Out:=ki cfg 178 ⟨os :: [],[]⟩ a
noncomputable def pM:List DC → Out:=fun v11 =>
 if (decide ((v11.getD 6 d0).ii < (((v11.getD 3 d0).ll).length:Int)))=true then
 j9 (ja (if (v11.getD 4 d0).bb=true then
 .norm [qS v11 0,qS v11 1,qL v11 2,qL v11 3,.b true,qI v11 5,qI v11 6,qL v11 7,qL v11 8,qL v11 9,qL v11 10,qL v11 11,qL v11 12]
 else
 if 9=9 ∧ 0 ≤ (v11.getD 5 d0).ii ∧ (v11.getD 5 d0).ii < (((v11.getD 2 d0).ll).length:Int) then
 if 9=9 ∧ 0 ≤ (v11.getD 6 d0).ii ∧ (v11.getD 6 d0).ii < (((v11.getD 3 d0).ll).length:Int) then
 .norm [qS v11 0,qS v11 1,qL v11 2,qL v11 3,.b (((((v11.getD 2 d0).ll).getD ((v11.getD 5 d0).ii).toNat []).getD 0 d0).ss == ((((v11.getD 3 d0).ll).getD ((v11.getD 6 d0).ii).toNat []).getD 0 d0).ss),qI v11 5,qI v11 6,qL v11 7,qL v11 8,qL v11 9,qL v11 10,qL v11 11,qL v11 12]
 else
 .fail
 else
 .fail) fun v12 =>
 .norm [qS v12 0,qS v12 1,qL v12 2,qL v12 3,qB v12 4,qI v12 5,qI v12 6,qL v12 7,qL v12 8,qL v12 9,qL v12 10,qL v12 11,qL v12 12]) 3 fun v13 =>
 .norm [qS v13 0,qS v13 1,qL v13 2,qL v13 3,qB v13 4,qI v13 5,.i (IntKind.i64.wrap ((v13.getD 6 d0).ii + (1:Int))),qL v13 7,qL v13 8,qL v13 9,qL v13 10,qL v13 11,qL v13 12]
 else
 .ex 2 [qS v11 0,qS v11 1,qL v11 2,qL v11 3,qB v11 4,qI v11 5,qL v11 7,qL v11 8,qL v11 9,qL v11 10,qL v11 11,qL v11 12]
noncomputable def yw:List DC → Out:=fun v7 =>
 if (decide ((v7.getD 5 d0).ii < (((v7.getD 2 d0).ll).length:Int)))=true then
 j9 (ja (if 9=9 ∧ 0 ≤ (v7.getD 5 d0).ii ∧ (v7.getD 5 d0).ii < (((v7.getD 2 d0).ll).length:Int) then
 (qZ [qL v7 6,qL v7 7,qL v7 8,.s (((((v7.getD 2 d0).ll).getD ((v7.getD 5 d0).ii).toNat []).getD 0 d0).ss)]).bindR fun r8 =>
 if ((r8.getD 0 d0).ii != (2:Int))=true then
 .norm [qS v7 0,qS v7 1,qL v7 2,qL v7 3,qB v7 4,qI v7 5,.b true,qL v7 6,qL v7 7,qL v7 8,qL v7 9,qL v7 10,qL v7 11]
 else
 if 9=9 ∧ 0 ≤ (v7.getD 5 d0).ii ∧ (v7.getD 5 d0).ii < (((v7.getD 2 d0).ll).length:Int) then
 (kJ [qL v7 6,qL v7 7,qL v7 8,.s (((((v7.getD 2 d0).ll).getD ((v7.getD 5 d0).ii).toNat []).getD 0 d0).ss),.s ([93,33]:List UInt8),qS v7 0,.s ([93]:List UInt8)]).bindR fun r9 =>
 if (!((r9.getD 0 d0).bb))=true then
 .norm [qS v7 0,qS v7 1,qL v7 2,qL v7 3,qB v7 4,qI v7 5,.b true,qL v7 6,qL v7 7,qL v7 8,qL v7 9,qL v7 10,qL v7 11]
 else
 if (decide ((v7.getD 5 d0).ii > (0:Int)))=true then
 if 9=9 ∧ 0 ≤ (IntKind.i64.wrap ((v7.getD 5 d0).ii - (1:Int))) ∧ (IntKind.i64.wrap ((v7.getD 5 d0).ii - (1:Int))) < (((v7.getD 2 d0).ll).length:Int) then
 if 9=9 ∧ 0 ≤ (v7.getD 5 d0).ii ∧ (v7.getD 5 d0).ii < (((v7.getD 2 d0).ll).length:Int) then
 .norm [qS v7 0,qS v7 1,qL v7 2,qL v7 3,qB v7 4,qI v7 5,.b (!(Op.bytesLess (((((v7.getD 2 d0).ll).getD (IntKind.i64.wrap ((v7.getD 5 d0).ii - (1:Int))).toNat []).getD 0 d0).ss) (((((v7.getD 2 d0).ll).getD ((v7.getD 5 d0).ii).toNat []).getD 0 d0).ss))),qL v7 6,qL v7 7,qL v7 8,qL v7 9,qL v7 10,qL v7 11]
 else
 .fail
 else
 .fail
 else
 .norm [qS v7 0,qS v7 1,qL v7 2,qL v7 3,qB v7 4,qI v7 5,.b false,qL v7 6,qL v7 7,qL v7 8,qL v7 9,qL v7 10,qL v7 11]
 else
 .fail
 else
 .fail) fun v10 =>
 if (v10.getD 6 d0).bb=true then
 .ret [.b false]
 else
 j9 (jy pM [qS v10 0,qS v10 1,qL v10 2,qL v10 3,qB v10 4,qI v10 5,.i (0:Int),qL v10 7,qL v10 8,qL v10 9,qL v10 10,qL v10 11,qL v10 12]) 2 fun v14 =>
 .norm [qS v14 0,qS v14 1,qL v14 2,qL v14 3,qB v14 4,qI v14 5,qL v14 6,qL v14 7,qL v14 8,qL v14 9,qL v14 10,qL v14 11]) 1 fun v15 =>
 .norm [qS v15 0,qS v15 1,qL v15 2,qL v15 3,qB v15 4,.i (IntKind.i64.wrap ((v15.getD 5 d0).ii + (1:Int))),qL v15 6,qL v15 7,qL v15 8,qL v15 9,qL v15 10,qL v15 11]
 else
 .ex 0 [qS v7 0,qS v7 1,qL v7 2,qB v7 4,qL v7 6,qL v7 7,qL v7 8,qL v7 9,qL v7 10,qL v7 11]
noncomputable def yx (a:List DC):Out :=
 (ZB [qL a 0]).bindR fun r1 =>
 if (r1.getD 0 d0).bb=true then
 .ret [.b true]
 else
 (zN [qL a 0]).bindR fun r2 =>
 (zN [qL a 0]).bindR fun r3 =>
 (JP [qL a 0]).bindR fun r4 =>
 if 3=3 ∧ 0 ≤ (0:Int) ∧ (0:Int) < (((r4.getD 0 d0).ll).length:Int) then
 if (((r3.getD 0 d0).ll).length:Int)=0 then
 .fail
 else
 if 37=37 ∧ 0 ≤ ((((((r4.getD 0 d0).ll).getD (0:Int).toNat []).getD 0 d0).ii).tmod (((r3.getD 0 d0).ll).length:Int)) ∧ ((((((r4.getD 0 d0).ll).getD (0:Int).toNat []).getD 0 d0).ii).tmod (((r3.getD 0 d0).ll).length:Int)) < (((r3.getD 0 d0).ll).length:Int) then
 if 3=3 ∧ 0 ≤ (1:Int) ∧ (1:Int) < (((r4.getD 0 d0).ll).length:Int) then
 if (((r3.getD 0 d0).ll).length:Int)=0 then
 .fail
 else
 if 37=37 ∧ 0 ≤ ((((((r4.getD 0 d0).ll).getD (1:Int).toNat []).getD 0 d0).ii).tmod (((r3.getD 0 d0).ll).length:Int)) ∧ ((((((r4.getD 0 d0).ll).getD (1:Int).toNat []).getD 0 d0).ii).tmod (((r3.getD 0 d0).ll).length:Int)) < (((r3.getD 0 d0).ll).length:Int) then
 (pX [qL r2 0,qL r2 1,qL r2 2,.s (((((r3.getD 0 d0).ll).getD ((((((r4.getD 0 d0).ll).getD (0:Int).toNat []).getD 0 d0).ii).tmod (((r3.getD 0 d0).ll).length:Int)).toNat []).getD 3 d0).ss)]).bindR fun r5 =>
 (pX [qL r2 0,qL r2 1,qL r2 2,.s (((((r3.getD 0 d0).ll).getD ((((((r4.getD 0 d0).ll).getD (1:Int).toNat []).getD 0 d0).ii).tmod (((r3.getD 0 d0).ll).length:Int)).toNat []).getD 3 d0).ss)]).bindR fun r6 =>
 j9 (jy yw [.s (((((r3.getD 0 d0).ll).getD ((((((r4.getD 0 d0).ll).getD (0:Int).toNat []).getD 0 d0).ii).tmod (((r3.getD 0 d0).ll).length:Int)).toNat []).getD 3 d0).ss),.s (((((r3.getD 0 d0).ll).getD ((((((r4.getD 0 d0).ll).getD (1:Int).toNat []).getD 0 d0).ii).tmod (((r3.getD 0 d0).ll).length:Int)).toNat []).getD 3 d0).ss),qL r5 0,qL r6 0,.b false,.i (0:Int),qL r2 0,qL r2 1,qL r2 2,qL r3 0,qL r3 1,qL r3 2]) 0 fun v16 =>
 ja ((JM [qL v16 7,qL v16 8,qL v16 9,qS v16 0]).bindR fun r17 =>
 (Kg [qL v16 2,qL r17 0]).bindR fun r18 =>
 if (r18.getD 0 d0).bb=true then
 (JQ [qL v16 4,qL v16 5,qL v16 6,qS v16 0,qS v16 1]).bindR fun r19 =>
 if ((r19.getD 0 d0).bb == (v16.getD 3 d0).bb)=true then
 (JQ [qL v16 4,qL v16 5,qL v16 6,qS v16 1,qS v16 0]).bindR fun r20 =>
 if ((r20.getD 0 d0).bb == (v16.getD 3 d0).bb)=true then
 (kJ [qL v16 4,qL v16 5,qL v16 6,qS v16 0,.s ([33]:List UInt8),qS v16 0,.s ([33]:List UInt8)]).bindR fun r21 =>
 if (r21.getD 0 d0).bb=true then
 (kJ [qL v16 4,qL v16 5,qL v16 6,qS v16 0,.s ([33]:List UInt8),qS v16 0,.s []]).bindR fun r22 =>
 if (r22.getD 0 d0).bb=true then
 (kJ [qL v16 4,qL v16 5,qL v16 6,qS v16 0,.s [],qS v16 0,.s ([33]:List UInt8)]).bindR fun r23 =>
 if (!((r23.getD 0 d0).bb))=true then
 (Jo [qL v16 4,qL v16 5,qL v16 6,qS v16 0]).bindR fun r24 =>
 (jU [qL v16 7,qL v16 8,qL v16 9,qS v16 0]).bindR fun r25 =>
 if (decide ((r25.getD 0 d0).ii ≥ (2:Int)))=true then
 (jU [qL v16 7,qL v16 8,qL v16 9,qS v16 0]).bindR fun r26 =>
 if ((r24.getD 0 d0).bb == (decide ((r26.getD 0 d0).ii ≤ (4:Int))))=true then
 (Kv [qL v16 4,qL v16 5,qL v16 6,qS v16 0]).bindR fun r27 =>
 (jU [qL v16 7,qL v16 8,qL v16 9,qS v16 0]).bindR fun r28 =>
 if ((r28.getD 0 d0).ii == (1:Int))=true then
 if ((r27.getD 0 d0).bb == true)=true then
 (kp [qL v16 4,qL v16 5,qL v16 6,.s ([73,110,116]:List UInt8)]).bindR fun r29 =>
 if (r29.getD 0 d0).bb=true then
 (jR [qL v16 4,qL v16 5,qL v16 6,.s ([73,110,116]:List UInt8)]).bindR fun r30 =>
 if (r30.getD 0 d0).bb=true then
 (jR [qL v16 4,qL v16 5,qL v16 6,.s ([70,105,110,100]:List UInt8)]).bindR fun r31 =>
 if (!((r31.getD 0 d0).bb))=true then
 (kp [qL v16 4,qL v16 5,qL v16 6,.s ([110,111,112,101]:List UInt8)]).bindR fun r32 =>
 .norm [.b (!((r32.getD 0 d0).bb))]
 else
 .norm [.b false]
 else
 .norm [.b false]
 else
 .norm [.b false]
 else
 .norm [.b false]
 else
 (jU [qL v16 7,qL v16 8,qL v16 9,qS v16 0]).bindR fun r33 =>
 if ((r27.getD 0 d0).bb == ((r33.getD 0 d0).ii == (5:Int)))=true then
 (kp [qL v16 4,qL v16 5,qL v16 6,.s ([73,110,116]:List UInt8)]).bindR fun r34 =>
 if (r34.getD 0 d0).bb=true then
 (jR [qL v16 4,qL v16 5,qL v16 6,.s ([73,110,116]:List UInt8)]).bindR fun r35 =>
 if (r35.getD 0 d0).bb=true then
 (jR [qL v16 4,qL v16 5,qL v16 6,.s ([70,105,110,100]:List UInt8)]).bindR fun r36 =>
 if (!((r36.getD 0 d0).bb))=true then
 (kp [qL v16 4,qL v16 5,qL v16 6,.s ([110,111,112,101]:List UInt8)]).bindR fun r37 =>
 .norm [.b (!((r37.getD 0 d0).bb))]
 else
 .norm [.b false]
 else
 .norm [.b false]
 else
 .norm [.b false]
 else
 .norm [.b false]
 else
 .norm [.b false]
 else
 if ((r24.getD 0 d0).bb == false)=true then
 (Kv [qL v16 4,qL v16 5,qL v16 6,qS v16 0]).bindR fun r38 =>
 (jU [qL v16 7,qL v16 8,qL v16 9,qS v16 0]).bindR fun r39 =>
 if ((r39.getD 0 d0).ii == (1:Int))=true then
 if ((r38.getD 0 d0).bb == true)=true then
 (kp [qL v16 4,qL v16 5,qL v16 6,.s ([73,110,116]:List UInt8)]).bindR fun r40 =>
 if (r40.getD 0 d0).bb=true then
 (jR [qL v16 4,qL v16 5,qL v16 6,.s ([73,110,116]:List UInt8)]).bindR fun r41 =>
 if (r41.getD 0 d0).bb=true then
 (jR [qL v16 4,qL v16 5,qL v16 6,.s ([70,105,110,100]:List UInt8)]).bindR fun r42 =>
 if (!((r42.getD 0 d0).bb))=true then
 (kp [qL v16 4,qL v16 5,qL v16 6,.s ([110,111,112,101]:List UInt8)]).bindR fun r43 =>
 .norm [.b (!((r43.getD 0 d0).bb))]
 else
 .norm [.b false]
 else
 .norm [.b false]
 else
 .norm [.b false]
 else
 .norm [.b false]
 else
 (jU [qL v16 7,qL v16 8,qL v16 9,qS v16 0]).bindR fun r44 =>
 if ((r38.getD 0 d0).bb == ((r44.getD 0 d0).ii == (5:Int)))=true then
 (kp [qL v16 4,qL v16 5,qL v16 6,.s ([73,110,116]:List UInt8)]).bindR fun r45 =>
 if (r45.getD 0 d0).bb=true then
 (jR [qL v16 4,qL v16 5,qL v16 6,.s ([73,110,116]:List UInt8)]).bindR fun r46 =>
 if (r46.getD 0 d0).bb=true then
 (jR [qL v16 4,qL v16 5,qL v16 6,.s ([70,105,110,100]:List UInt8)]).bindR fun r47 =>
 if (!((r47.getD 0 d0).bb))=true then
 (kp [qL v16 4,qL v16 5,qL v16 6,.s ([110,111,112,101]:List UInt8)]).bindR fun r48 =>
 .norm [.b (!((r48.getD 0 d0).bb))]
 else
 .norm [.b false]
 else
 .norm [.b false]
 else
 .norm [.b false]
 else
 .norm [.b false]
 else
 .norm [.b false]
 else
 .norm [.b false]
 else
 .norm [.b false]
 else
 .norm [.b false]
 else
 .norm [.b false]
 else
 .norm [.b false]
 else
 .norm [.b false]) fun v49 =>
 .ret [qB v49 0]
 else
 .fail
 else
 .fail
 else
 .fail
 else
 .fail
theorem j2n a:Y1 a=yx a:=(jq cfg 3 _ a).trans (by kernel_rfl)
noncomputable def j7r (a:List DC):Out :=
 .ret [.b (decide ((((a.getD 0 d0).ll).length:Int) > (1048576:Int)))]
theorem j6j a:ZB a=j7r a:=(jq cfg 4 _ a).trans (by kernel_rfl)
noncomputable def X1 (a:List DC):Out :=
 if bsz (kv [qL a 0]) < jT then
 (KR [.sl (((XZ (kv [qL a 0])).getD 0 d0).ll),.i (((XZ (kv [qL a 0])).getD 1 d0).ii),.i (((XZ (kv [qL a 0])).getD 2 d0).ii)]).bindR fun r1 =>
 .ret [qL r1 0,qL r1 1,qL r1 2]
 else
 .fail
theorem j0C a:zN a=X1 a:=(jq cfg 5 _ a).trans (by kernel_rfl)
noncomputable def qe:List DC → Out:=fun v2 =>
 if (decide ((v2.getD 1 d0).ii < (12:Int)))=true then
 j9 ((qK [.i (10000:Int),qL v2 2,qI v2 3,qI v2 4]).bindR fun r3 =>
 if ((v2.getD 0 d0).ll).length + [[qI r3 0]].length < jT then
 .norm [.sl (((v2.getD 0 d0).ll) ++ [[qI r3 0]]),qI v2 1,qL r3 1,qI r3 2,qI r3 3]
 else
 .fail) 1 fun v4 =>
 .norm [qL v4 0,.i (IntKind.i64.wrap ((v4.getD 1 d0).ii + (1:Int))),qL v4 2,qI v4 3,qI v4 4]
 else
 .ex 0 [qL v2 0]
noncomputable def Vq (a:List DC):Out :=
 if bsz (kv [qL a 0]) < jT then
 (pS [.sl (((XZ (kv [qL a 0])).getD 0 d0).ll),.i (((XZ (kv [qL a 0])).getD 1 d0).ii),.i (((XZ (kv [qL a 0])).getD 2 d0).ii)]).bindR fun r1 =>
 j9 (jy qe [.sl [],.i (0:Int),qL r1 1,qI r1 2,qI r1 3]) 0 fun v5 =>
 .ret [qL v5 0]
 else
 .fail
theorem ZV a:JP a=Vq a:=(jq cfg 6 _ a).trans (by kernel_rfl)
noncomputable def qf:List DC → Out:=fun v2 =>
 if (decide ((v2.getD 4 d0).ii < (v2.getD 3 d0).ii))=true then
 j9 (if 37=37 ∧ 0 ≤ (v2.getD 4 d0).ii ∧ (v2.getD 4 d0).ii < (((v2.getD 2 d0).ll).length:Int) then
 j9 (ja (if ((v2.getD 5 d0).ii == (2:Int))=true then
 .norm [qS v2 0,qL v2 1,.b (((((v2.getD 2 d0).ll).getD ((v2.getD 4 d0).ii).toNat []).getD 3 d0).ss == (v2.getD 0 d0).ss),qL v2 2,qI v2 3,qI v2 4,qI v2 5,qB v2 6,qS v2 7,qS v2 8,qL v2 9,qL v2 10,qL v2 11,qL v2 12,qL v2 13,qB v2 14,qL v2 15,.i (((((v2.getD 2 d0).ll).getD ((v2.getD 4 d0).ii).toNat []).getD 0 d0).ii),.b (((((v2.getD 2 d0).ll).getD ((v2.getD 4 d0).ii).toNat []).getD 1 d0).bb),.s (((((v2.getD 2 d0).ll).getD ((v2.getD 4 d0).ii).toNat []).getD 2 d0).ss),.s (((((v2.getD 2 d0).ll).getD ((v2.getD 4 d0).ii).toNat []).getD 3 d0).ss),.sl (((((v2.getD 2 d0).ll).getD ((v2.getD 4 d0).ii).toNat []).getD 4 d0).ll),.sl (((((v2.getD 2 d0).ll).getD ((v2.getD 4 d0).ii).toNat []).getD 5 d0).ll),.sl (((((v2.getD 2 d0).ll).getD ((v2.getD 4 d0).ii).toNat []).getD 6 d0).ll),.sl (((((v2.getD 2 d0).ll).getD ((v2.getD 4 d0).ii).toNat []).getD 7 d0).ll),.sl (((((v2.getD 2 d0).ll).getD ((v2.getD 4 d0).ii).toNat []).getD 8 d0).ll),.b (((((v2.getD 2 d0).ll).getD ((v2.getD 4 d0).ii).toNat []).getD 9 d0).bb),.sl (((((v2.getD 2 d0).ll).getD ((v2.getD 4 d0).ii).toNat []).getD 10 d0).ll)]
 else
 ja (if ((v2.getD 5 d0).ii == (3:Int))=true then
 (jO [.sl (((((v2.getD 2 d0).ll).getD ((v2.getD 4 d0).ii).toNat []).getD 4 d0).ll),qS v2 0]).bindR fun r3 =>
 .norm [qS v2 0,qL v2 1,qB r3 0,qL v2 2,qI v2 3,qI v2 4,qI v2 5,qB v2 6,qS v2 7,qS v2 8,qL v2 9,qL v2 10,qL v2 11,qL v2 12,qL v2 13,qB v2 14,qL v2 15,.i (((((v2.getD 2 d0).ll).getD ((v2.getD 4 d0).ii).toNat []).getD 0 d0).ii),.b (((((v2.getD 2 d0).ll).getD ((v2.getD 4 d0).ii).toNat []).getD 1 d0).bb),.s (((((v2.getD 2 d0).ll).getD ((v2.getD 4 d0).ii).toNat []).getD 2 d0).ss),.s (((((v2.getD 2 d0).ll).getD ((v2.getD 4 d0).ii).toNat []).getD 3 d0).ss),.sl (((((v2.getD 2 d0).ll).getD ((v2.getD 4 d0).ii).toNat []).getD 4 d0).ll),.sl (((((v2.getD 2 d0).ll).getD ((v2.getD 4 d0).ii).toNat []).getD 5 d0).ll),.sl (((((v2.getD 2 d0).ll).getD ((v2.getD 4 d0).ii).toNat []).getD 6 d0).ll),.sl (((((v2.getD 2 d0).ll).getD ((v2.getD 4 d0).ii).toNat []).getD 7 d0).ll),.sl (((((v2.getD 2 d0).ll).getD ((v2.getD 4 d0).ii).toNat []).getD 8 d0).ll),.b (((((v2.getD 2 d0).ll).getD ((v2.getD 4 d0).ii).toNat []).getD 9 d0).bb),.sl (((((v2.getD 2 d0).ll).getD ((v2.getD 4 d0).ii).toNat []).getD 10 d0).ll)]
 else
 ja (if ((v2.getD 5 d0).ii == (4:Int))=true then
 (jO [qL v2 9,.s (((((v2.getD 2 d0).ll).getD ((v2.getD 4 d0).ii).toNat []).getD 3 d0).ss)]).bindR fun r4 =>
 .norm [qS v2 0,qL v2 1,qB r4 0,qL v2 2,qI v2 3,qI v2 4,qI v2 5,qB v2 6,qS v2 7,qS v2 8,qL v2 9,qL v2 10,qL v2 11,qL v2 12,qL v2 13,qB v2 14,qL v2 15,.i (((((v2.getD 2 d0).ll).getD ((v2.getD 4 d0).ii).toNat []).getD 0 d0).ii),.b (((((v2.getD 2 d0).ll).getD ((v2.getD 4 d0).ii).toNat []).getD 1 d0).bb),.s (((((v2.getD 2 d0).ll).getD ((v2.getD 4 d0).ii).toNat []).getD 2 d0).ss),.s (((((v2.getD 2 d0).ll).getD ((v2.getD 4 d0).ii).toNat []).getD 3 d0).ss),.sl (((((v2.getD 2 d0).ll).getD ((v2.getD 4 d0).ii).toNat []).getD 4 d0).ll),.sl (((((v2.getD 2 d0).ll).getD ((v2.getD 4 d0).ii).toNat []).getD 5 d0).ll),.sl (((((v2.getD 2 d0).ll).getD ((v2.getD 4 d0).ii).toNat []).getD 6 d0).ll),.sl (((((v2.getD 2 d0).ll).getD ((v2.getD 4 d0).ii).toNat []).getD 7 d0).ll),.sl (((((v2.getD 2 d0).ll).getD ((v2.getD 4 d0).ii).toNat []).getD 8 d0).ll),.b (((((v2.getD 2 d0).ll).getD ((v2.getD 4 d0).ii).toNat []).getD 9 d0).bb),.sl (((((v2.getD 2 d0).ll).getD ((v2.getD 4 d0).ii).toNat []).getD 10 d0).ll)]
 else
 .norm [qS v2 0,qL v2 1,.b false,qL v2 2,qI v2 3,qI v2 4,qI v2 5,qB v2 6,qS v2 7,qS v2 8,qL v2 9,qL v2 10,qL v2 11,qL v2 12,qL v2 13,qB v2 14,qL v2 15,.i (((((v2.getD 2 d0).ll).getD ((v2.getD 4 d0).ii).toNat []).getD 0 d0).ii),.b (((((v2.getD 2 d0).ll).getD ((v2.getD 4 d0).ii).toNat []).getD 1 d0).bb),.s (((((v2.getD 2 d0).ll).getD ((v2.getD 4 d0).ii).toNat []).getD 2 d0).ss),.s (((((v2.getD 2 d0).ll).getD ((v2.getD 4 d0).ii).toNat []).getD 3 d0).ss),.sl (((((v2.getD 2 d0).ll).getD ((v2.getD 4 d0).ii).toNat []).getD 4 d0).ll),.sl (((((v2.getD 2 d0).ll).getD ((v2.getD 4 d0).ii).toNat []).getD 5 d0).ll),.sl (((((v2.getD 2 d0).ll).getD ((v2.getD 4 d0).ii).toNat []).getD 6 d0).ll),.sl (((((v2.getD 2 d0).ll).getD ((v2.getD 4 d0).ii).toNat []).getD 7 d0).ll),.sl (((((v2.getD 2 d0).ll).getD ((v2.getD 4 d0).ii).toNat []).getD 8 d0).ll),.b (((((v2.getD 2 d0).ll).getD ((v2.getD 4 d0).ii).toNat []).getD 9 d0).bb),.sl (((((v2.getD 2 d0).ll).getD ((v2.getD 4 d0).ii).toNat []).getD 10 d0).ll)]) fun v5 =>
 .norm [qS v5 0,qL v5 1,qB v5 2,qL v5 3,qI v5 4,qI v5 5,qI v5 6,qB v5 7,qS v5 8,qS v5 9,qL v5 10,qL v5 11,qL v5 12,qL v5 13,qL v5 14,qB v5 15,qL v5 16,qI v5 17,qB v5 18,qS v5 19,qS v5 20,qL v5 21,qL v5 22,qL v5 23,qL v5 24,qL v5 25,qB v5 26,qL v5 27]) fun v6 =>
 .norm [qS v6 0,qL v6 1,qB v6 2,qL v6 3,qI v6 4,qI v6 5,qI v6 6,qB v6 7,qS v6 8,qS v6 9,qL v6 10,qL v6 11,qL v6 12,qL v6 13,qL v6 14,qB v6 15,qL v6 16,qI v6 17,qB v6 18,qS v6 19,qS v6 20,qL v6 21,qL v6 22,qL v6 23,qL v6 24,qL v6 25,qB v6 26,qL v6 27]) fun v7 =>
 .norm [qS v7 0,qL v7 1,qB v7 2,qL v7 3,qI v7 4,qI v7 5,qI v7 6,qB v7 7,qS v7 8,qS v7 9,qL v7 10,qL v7 11,qL v7 12,qL v7 13,qL v7 14,qB v7 15,qL v7 16,qI v7 17,qB v7 18,qS v7 19,qS v7 20,qL v7 21,qL v7 22,qL v7 23,qL v7 24,qL v7 25,qB v7 26,qL v7 27]) 2 fun v8 =>
 ja (if (v8.getD 2 d0).bb=true then
 .norm [qS v8 0,qL v8 1,qL v8 3,qI v8 4,qI v8 5,.b ((v8.getD 17 d0).ii == (2:Int)),qI v8 6,qB v8 7,qS v8 8,qS v8 9,qL v8 10,qL v8 11,qL v8 12,qL v8 13,qL v8 14,qB v8 15,qL v8 16,qI v8 17,qB v8 18,qS v8 19,qS v8 20,qL v8 21,qL v8 22,qL v8 23,qL v8 24,qL v8 25,qB v8 26,qL v8 27]
 else
 .norm [qS v8 0,qL v8 1,qL v8 3,qI v8 4,qI v8 5,.b false,qI v8 6,qB v8 7,qS v8 8,qS v8 9,qL v8 10,qL v8 11,qL v8 12,qL v8 13,qL v8 14,qB v8 15,qL v8 16,qI v8 17,qB v8 18,qS v8 19,qS v8 20,qL v8 21,qL v8 22,qL v8 23,qL v8 24,qL v8 25,qB v8 26,qL v8 27]) fun v9 =>
 ja (if (v9.getD 5 d0).bb=true then
 if ((v9.getD 1 d0).ll).length + [[qS v9 20]].length < jT then
 .norm [qS v9 0,.sl (((v9.getD 1 d0).ll) ++ [[qS v9 20]]),qL v9 2,qI v9 3,qI v9 4,qI v9 6,qB v9 7,qS v9 8,qS v9 9,qL v9 10,qL v9 11,qL v9 12,qL v9 13,qL v9 14,qB v9 15,qL v9 16]
 else
 .fail
 else
 .norm [qS v9 0,qL v9 1,qL v9 2,qI v9 3,qI v9 4,qI v9 6,qB v9 7,qS v9 8,qS v9 9,qL v9 10,qL v9 11,qL v9 12,qL v9 13,qL v9 14,qB v9 15,qL v9 16]) fun v10 =>
 .norm [qS v10 0,qL v10 1,qL v10 2,qI v10 3,qI v10 4,qI v10 5,qB v10 6,qS v10 7,qS v10 8,qL v10 9,qL v10 10,qL v10 11,qL v10 12,qL v10 13,qB v10 14,qL v10 15]
 else
 .fail) 1 fun v11 =>
 .norm [qS v11 0,qL v11 1,qL v11 2,qI v11 3,.i (IntKind.i64.wrap ((v11.getD 4 d0).ii + (1:Int))),qI v11 5,qB v11 6,qS v11 7,qS v11 8,qL v11 9,qL v11 10,qL v11 11,qL v11 12,qL v11 13,qB v11 14,qL v11 15]
 else
 .ex 0 [qL v2 1]
noncomputable def Vr (a:List DC):Out :=
 (yn [qL a 0,qL a 1,qL a 2,qS a 3]).bindR fun r1 =>
 j9 (jy qf [qS a 3,.sl [],qL a 0,.i (((a.getD 0 d0).ll).length:Int),.i (0:Int),qI r1 0,qB r1 1,qS r1 2,qS r1 3,qL r1 4,qL r1 5,qL r1 6,qL r1 7,qL r1 8,qB r1 9,qL r1 10]) 0 fun v12 =>
 if ((v12.getD 0 d0).ll).length < jT then
 if (Za ((v12.getD 0 d0).ll)).length < jT then
 .ret [.sl (Zi (Za ((v12.getD 0 d0).ll)))]
 else
 .fail
 else
 .fail
theorem ZW a:pX a=Vr a:=(jq cfg 7 _ a).trans (by kernel_rfl)
noncomputable def Zv (a:List DC):Out :=
 (yn [qL a 0,qL a 1,qL a 2,qS a 3]).bindR fun r1 =>
 j9 (if (r1.getD 11 d0).bb=true then
 .ret [qI r1 0]
 else
 (QD [qS a 3]).bindR fun r2 =>
 if (r2.getD 0 d0).bb=true then
 .ret [.i (1:Int)]
 else
 .norm []) 0 fun v3 =>
 .ret [.i (0:Int)]
theorem j3j a:qZ a=Zv a:=(jq cfg 8 _ a).trans (by kernel_rfl)
noncomputable def yy (a:List DC):Out :=
 (pC [qS a 3,qS a 4,.s ([33]:List UInt8)]).bindR fun r1 =>
 (pC [qS a 5,qS a 6,.s ([33]:List UInt8)]).bindR fun r2 =>
 j9 (if (r2.getD 2 d0).bb=true then
 ja (if (r1.getD 2 d0).bb=true then
 (kJ [qL a 0,qL a 1,qL a 2,qS r1 0,qS r1 1,qS r2 0,qS r2 1]).bindR fun r3 =>
 .norm [qB r3 0]
 else
 .norm [.b false]) fun v4 =>
 .ret [qB v4 0]
 else
 if (r1.getD 2 d0).bb=true then
 (kJ [qL a 0,qL a 1,qL a 2,qS r1 0,qS r1 1,qS a 5,qS a 6]).bindR fun r5 =>
 .ret [qB r5 0]
 else
 .norm [qL a 0,qL a 1,qL a 2,qS a 3,qS a 4,qS a 5,qS a 6,qS r1 0,qS r1 1,qS r2 0,qS r2 1]) 0 fun v6 =>
 (pC [qS v6 3,qS v6 4,.s ([93]:List UInt8)]).bindR fun r7 =>
 (pC [qS v6 5,qS v6 6,.s ([93]:List UInt8)]).bindR fun r8 =>
 ja (if (r7.getD 2 d0).bb=true then
 .norm [qB r8 2,qL v6 0,qL v6 1,qL v6 2,qS v6 3,qS v6 4,qS v6 5,qS v6 6,qS r7 0,qS r7 1,qS r8 0,qS r8 1]
 else
 .norm [.b false,qL v6 0,qL v6 1,qL v6 2,qS v6 3,qS v6 4,qS v6 5,qS v6 6,qS r7 0,qS r7 1,qS r8 0,qS r8 1]) fun v9 =>
 if (v9.getD 0 d0).bb=true then
 (kJ [qL v9 1,qL v9 2,qL v9 3,qS v9 8,qS v9 9,qS v9 10,qS v9 11]).bindR fun r10 =>
 .ret [qB r10 0]
 else
 ja (if ((v9.getD 5 d0).ss == ([]:List UInt8))=true then
 if ((v9.getD 7 d0).ss == ([]:List UInt8))=true then
 (QC [qL v9 1,qL v9 2,qL v9 3,qS v9 4,qS v9 6]).bindR fun r11 =>
 .norm [qB r11 0]
 else
 .norm [.b false]
 else
 .norm [.b false]) fun v12 =>
 .ret [qB v12 0]
theorem XA a:kJ a=yy a:=(jq cfg 9 _ a).trans (by kernel_rfl)
noncomputable def qd:List DC → Out:=fun v2 =>
 if (decide ((v2.getD 2 d0).ii < (((v2.getD 3 d0).ll).length:Int)))=true then
 j9 (if 37=37 ∧ 0 ≤ (v2.getD 2 d0).ii ∧ (v2.getD 2 d0).ii < (((v2.getD 3 d0).ll).length:Int) then
 if (((((v2.getD 3 d0).ll).getD ((v2.getD 2 d0).ii).toNat []).getD 0 d0).ii != (2:Int))=true then
 .ex 1 [qS v2 0,qL v2 1,qI v2 2,qL v2 3,qL v2 4,qL v2 5,qI v2 6,qB v2 7,qS v2 8,qS v2 9,qL v2 10,qL v2 11,qL v2 12,qL v2 13,qL v2 14,qB v2 15,qL v2 16]
 else
 ja (if ((v2.getD 6 d0).ii == (2:Int))=true then
 if (((((v2.getD 3 d0).ll).getD ((v2.getD 2 d0).ii).toNat []).getD 3 d0).ss == (v2.getD 0 d0).ss)=true then
 .norm [qS v2 0,qL v2 1,qI v2 2,.b true,qL v2 3,qL v2 4,qL v2 5,qI v2 6,qB v2 7,qS v2 8,qS v2 9,qL v2 10,qL v2 11,qL v2 12,qL v2 13,qL v2 14,qB v2 15,qL v2 16,.i (((((v2.getD 3 d0).ll).getD ((v2.getD 2 d0).ii).toNat []).getD 0 d0).ii),.b (((((v2.getD 3 d0).ll).getD ((v2.getD 2 d0).ii).toNat []).getD 1 d0).bb),.s (((((v2.getD 3 d0).ll).getD ((v2.getD 2 d0).ii).toNat []).getD 2 d0).ss),.s (((((v2.getD 3 d0).ll).getD ((v2.getD 2 d0).ii).toNat []).getD 3 d0).ss),.sl (((((v2.getD 3 d0).ll).getD ((v2.getD 2 d0).ii).toNat []).getD 4 d0).ll),.sl (((((v2.getD 3 d0).ll).getD ((v2.getD 2 d0).ii).toNat []).getD 5 d0).ll),.sl (((((v2.getD 3 d0).ll).getD ((v2.getD 2 d0).ii).toNat []).getD 6 d0).ll),.sl (((((v2.getD 3 d0).ll).getD ((v2.getD 2 d0).ii).toNat []).getD 7 d0).ll),.sl (((((v2.getD 3 d0).ll).getD ((v2.getD 2 d0).ii).toNat []).getD 8 d0).ll),.b (((((v2.getD 3 d0).ll).getD ((v2.getD 2 d0).ii).toNat []).getD 9 d0).bb),.sl (((((v2.getD 3 d0).ll).getD ((v2.getD 2 d0).ii).toNat []).getD 10 d0).ll)]
 else
 if ((v2.getD 6 d0).ii == (3:Int))=true then
 (jN [.sl (((((v2.getD 3 d0).ll).getD ((v2.getD 2 d0).ii).toNat []).getD 4 d0).ll),qS v2 0]).bindR fun r3 =>
 if (r3.getD 0 d0).bb=true then
 .norm [qS v2 0,qL v2 1,qI v2 2,.b true,qL v2 3,qL v2 4,qL v2 5,qI v2 6,qB v2 7,qS v2 8,qS v2 9,qL v2 10,qL v2 11,qL v2 12,qL v2 13,qL v2 14,qB v2 15,qL v2 16,.i (((((v2.getD 3 d0).ll).getD ((v2.getD 2 d0).ii).toNat []).getD 0 d0).ii),.b (((((v2.getD 3 d0).ll).getD ((v2.getD 2 d0).ii).toNat []).getD 1 d0).bb),.s (((((v2.getD 3 d0).ll).getD ((v2.getD 2 d0).ii).toNat []).getD 2 d0).ss),.s (((((v2.getD 3 d0).ll).getD ((v2.getD 2 d0).ii).toNat []).getD 3 d0).ss),.sl (((((v2.getD 3 d0).ll).getD ((v2.getD 2 d0).ii).toNat []).getD 4 d0).ll),.sl (((((v2.getD 3 d0).ll).getD ((v2.getD 2 d0).ii).toNat []).getD 5 d0).ll),.sl (((((v2.getD 3 d0).ll).getD ((v2.getD 2 d0).ii).toNat []).getD 6 d0).ll),.sl (((((v2.getD 3 d0).ll).getD ((v2.getD 2 d0).ii).toNat []).getD 7 d0).ll),.sl (((((v2.getD 3 d0).ll).getD ((v2.getD 2 d0).ii).toNat []).getD 8 d0).ll),.b (((((v2.getD 3 d0).ll).getD ((v2.getD 2 d0).ii).toNat []).getD 9 d0).bb),.sl (((((v2.getD 3 d0).ll).getD ((v2.getD 2 d0).ii).toNat []).getD 10 d0).ll)]
 else
 if ((v2.getD 6 d0).ii == (4:Int))=true then
 (jN [qL v2 10,.s (((((v2.getD 3 d0).ll).getD ((v2.getD 2 d0).ii).toNat []).getD 3 d0).ss)]).bindR fun r4 =>
 .norm [qS v2 0,qL v2 1,qI v2 2,qB r4 0,qL v2 3,qL v2 4,qL v2 5,qI v2 6,qB v2 7,qS v2 8,qS v2 9,qL v2 10,qL v2 11,qL v2 12,qL v2 13,qL v2 14,qB v2 15,qL v2 16,.i (((((v2.getD 3 d0).ll).getD ((v2.getD 2 d0).ii).toNat []).getD 0 d0).ii),.b (((((v2.getD 3 d0).ll).getD ((v2.getD 2 d0).ii).toNat []).getD 1 d0).bb),.s (((((v2.getD 3 d0).ll).getD ((v2.getD 2 d0).ii).toNat []).getD 2 d0).ss),.s (((((v2.getD 3 d0).ll).getD ((v2.getD 2 d0).ii).toNat []).getD 3 d0).ss),.sl (((((v2.getD 3 d0).ll).getD ((v2.getD 2 d0).ii).toNat []).getD 4 d0).ll),.sl (((((v2.getD 3 d0).ll).getD ((v2.getD 2 d0).ii).toNat []).getD 5 d0).ll),.sl (((((v2.getD 3 d0).ll).getD ((v2.getD 2 d0).ii).toNat []).getD 6 d0).ll),.sl (((((v2.getD 3 d0).ll).getD ((v2.getD 2 d0).ii).toNat []).getD 7 d0).ll),.sl (((((v2.getD 3 d0).ll).getD ((v2.getD 2 d0).ii).toNat []).getD 8 d0).ll),.b (((((v2.getD 3 d0).ll).getD ((v2.getD 2 d0).ii).toNat []).getD 9 d0).bb),.sl (((((v2.getD 3 d0).ll).getD ((v2.getD 2 d0).ii).toNat []).getD 10 d0).ll)]
 else
 .norm [qS v2 0,qL v2 1,qI v2 2,.b false,qL v2 3,qL v2 4,qL v2 5,qI v2 6,qB v2 7,qS v2 8,qS v2 9,qL v2 10,qL v2 11,qL v2 12,qL v2 13,qL v2 14,qB v2 15,qL v2 16,.i (((((v2.getD 3 d0).ll).getD ((v2.getD 2 d0).ii).toNat []).getD 0 d0).ii),.b (((((v2.getD 3 d0).ll).getD ((v2.getD 2 d0).ii).toNat []).getD 1 d0).bb),.s (((((v2.getD 3 d0).ll).getD ((v2.getD 2 d0).ii).toNat []).getD 2 d0).ss),.s (((((v2.getD 3 d0).ll).getD ((v2.getD 2 d0).ii).toNat []).getD 3 d0).ss),.sl (((((v2.getD 3 d0).ll).getD ((v2.getD 2 d0).ii).toNat []).getD 4 d0).ll),.sl (((((v2.getD 3 d0).ll).getD ((v2.getD 2 d0).ii).toNat []).getD 5 d0).ll),.sl (((((v2.getD 3 d0).ll).getD ((v2.getD 2 d0).ii).toNat []).getD 6 d0).ll),.sl (((((v2.getD 3 d0).ll).getD ((v2.getD 2 d0).ii).toNat []).getD 7 d0).ll),.sl (((((v2.getD 3 d0).ll).getD ((v2.getD 2 d0).ii).toNat []).getD 8 d0).ll),.b (((((v2.getD 3 d0).ll).getD ((v2.getD 2 d0).ii).toNat []).getD 9 d0).bb),.sl (((((v2.getD 3 d0).ll).getD ((v2.getD 2 d0).ii).toNat []).getD 10 d0).ll)]
 else
 if ((v2.getD 6 d0).ii == (4:Int))=true then
 (jN [qL v2 10,.s (((((v2.getD 3 d0).ll).getD ((v2.getD 2 d0).ii).toNat []).getD 3 d0).ss)]).bindR fun r5 =>
 .norm [qS v2 0,qL v2 1,qI v2 2,qB r5 0,qL v2 3,qL v2 4,qL v2 5,qI v2 6,qB v2 7,qS v2 8,qS v2 9,qL v2 10,qL v2 11,qL v2 12,qL v2 13,qL v2 14,qB v2 15,qL v2 16,.i (((((v2.getD 3 d0).ll).getD ((v2.getD 2 d0).ii).toNat []).getD 0 d0).ii),.b (((((v2.getD 3 d0).ll).getD ((v2.getD 2 d0).ii).toNat []).getD 1 d0).bb),.s (((((v2.getD 3 d0).ll).getD ((v2.getD 2 d0).ii).toNat []).getD 2 d0).ss),.s (((((v2.getD 3 d0).ll).getD ((v2.getD 2 d0).ii).toNat []).getD 3 d0).ss),.sl (((((v2.getD 3 d0).ll).getD ((v2.getD 2 d0).ii).toNat []).getD 4 d0).ll),.sl (((((v2.getD 3 d0).ll).getD ((v2.getD 2 d0).ii).toNat []).getD 5 d0).ll),.sl (((((v2.getD 3 d0).ll).getD ((v2.getD 2 d0).ii).toNat []).getD 6 d0).ll),.sl (((((v2.getD 3 d0).ll).getD ((v2.getD 2 d0).ii).toNat []).getD 7 d0).ll),.sl (((((v2.getD 3 d0).ll).getD ((v2.getD 2 d0).ii).toNat []).getD 8 d0).ll),.b (((((v2.getD 3 d0).ll).getD ((v2.getD 2 d0).ii).toNat []).getD 9 d0).bb),.sl (((((v2.getD 3 d0).ll).getD ((v2.getD 2 d0).ii).toNat []).getD 10 d0).ll)]
 else
 .norm [qS v2 0,qL v2 1,qI v2 2,.b false,qL v2 3,qL v2 4,qL v2 5,qI v2 6,qB v2 7,qS v2 8,qS v2 9,qL v2 10,qL v2 11,qL v2 12,qL v2 13,qL v2 14,qB v2 15,qL v2 16,.i (((((v2.getD 3 d0).ll).getD ((v2.getD 2 d0).ii).toNat []).getD 0 d0).ii),.b (((((v2.getD 3 d0).ll).getD ((v2.getD 2 d0).ii).toNat []).getD 1 d0).bb),.s (((((v2.getD 3 d0).ll).getD ((v2.getD 2 d0).ii).toNat []).getD 2 d0).ss),.s (((((v2.getD 3 d0).ll).getD ((v2.getD 2 d0).ii).toNat []).getD 3 d0).ss),.sl (((((v2.getD 3 d0).ll).getD ((v2.getD 2 d0).ii).toNat []).getD 4 d0).ll),.sl (((((v2.getD 3 d0).ll).getD ((v2.getD 2 d0).ii).toNat []).getD 5 d0).ll),.sl (((((v2.getD 3 d0).ll).getD ((v2.getD 2 d0).ii).toNat []).getD 6 d0).ll),.sl (((((v2.getD 3 d0).ll).getD ((v2.getD 2 d0).ii).toNat []).getD 7 d0).ll),.sl (((((v2.getD 3 d0).ll).getD ((v2.getD 2 d0).ii).toNat []).getD 8 d0).ll),.b (((((v2.getD 3 d0).ll).getD ((v2.getD 2 d0).ii).toNat []).getD 9 d0).bb),.sl (((((v2.getD 3 d0).ll).getD ((v2.getD 2 d0).ii).toNat []).getD 10 d0).ll)]
 else
 if ((v2.getD 6 d0).ii == (3:Int))=true then
 (jN [.sl (((((v2.getD 3 d0).ll).getD ((v2.getD 2 d0).ii).toNat []).getD 4 d0).ll),qS v2 0]).bindR fun r6 =>
 if (r6.getD 0 d0).bb=true then
 .norm [qS v2 0,qL v2 1,qI v2 2,.b true,qL v2 3,qL v2 4,qL v2 5,qI v2 6,qB v2 7,qS v2 8,qS v2 9,qL v2 10,qL v2 11,qL v2 12,qL v2 13,qL v2 14,qB v2 15,qL v2 16,.i (((((v2.getD 3 d0).ll).getD ((v2.getD 2 d0).ii).toNat []).getD 0 d0).ii),.b (((((v2.getD 3 d0).ll).getD ((v2.getD 2 d0).ii).toNat []).getD 1 d0).bb),.s (((((v2.getD 3 d0).ll).getD ((v2.getD 2 d0).ii).toNat []).getD 2 d0).ss),.s (((((v2.getD 3 d0).ll).getD ((v2.getD 2 d0).ii).toNat []).getD 3 d0).ss),.sl (((((v2.getD 3 d0).ll).getD ((v2.getD 2 d0).ii).toNat []).getD 4 d0).ll),.sl (((((v2.getD 3 d0).ll).getD ((v2.getD 2 d0).ii).toNat []).getD 5 d0).ll),.sl (((((v2.getD 3 d0).ll).getD ((v2.getD 2 d0).ii).toNat []).getD 6 d0).ll),.sl (((((v2.getD 3 d0).ll).getD ((v2.getD 2 d0).ii).toNat []).getD 7 d0).ll),.sl (((((v2.getD 3 d0).ll).getD ((v2.getD 2 d0).ii).toNat []).getD 8 d0).ll),.b (((((v2.getD 3 d0).ll).getD ((v2.getD 2 d0).ii).toNat []).getD 9 d0).bb),.sl (((((v2.getD 3 d0).ll).getD ((v2.getD 2 d0).ii).toNat []).getD 10 d0).ll)]
 else
 if ((v2.getD 6 d0).ii == (4:Int))=true then
 (jN [qL v2 10,.s (((((v2.getD 3 d0).ll).getD ((v2.getD 2 d0).ii).toNat []).getD 3 d0).ss)]).bindR fun r7 =>
 .norm [qS v2 0,qL v2 1,qI v2 2,qB r7 0,qL v2 3,qL v2 4,qL v2 5,qI v2 6,qB v2 7,qS v2 8,qS v2 9,qL v2 10,qL v2 11,qL v2 12,qL v2 13,qL v2 14,qB v2 15,qL v2 16,.i (((((v2.getD 3 d0).ll).getD ((v2.getD 2 d0).ii).toNat []).getD 0 d0).ii),.b (((((v2.getD 3 d0).ll).getD ((v2.getD 2 d0).ii).toNat []).getD 1 d0).bb),.s (((((v2.getD 3 d0).ll).getD ((v2.getD 2 d0).ii).toNat []).getD 2 d0).ss),.s (((((v2.getD 3 d0).ll).getD ((v2.getD 2 d0).ii).toNat []).getD 3 d0).ss),.sl (((((v2.getD 3 d0).ll).getD ((v2.getD 2 d0).ii).toNat []).getD 4 d0).ll),.sl (((((v2.getD 3 d0).ll).getD ((v2.getD 2 d0).ii).toNat []).getD 5 d0).ll),.sl (((((v2.getD 3 d0).ll).getD ((v2.getD 2 d0).ii).toNat []).getD 6 d0).ll),.sl (((((v2.getD 3 d0).ll).getD ((v2.getD 2 d0).ii).toNat []).getD 7 d0).ll),.sl (((((v2.getD 3 d0).ll).getD ((v2.getD 2 d0).ii).toNat []).getD 8 d0).ll),.b (((((v2.getD 3 d0).ll).getD ((v2.getD 2 d0).ii).toNat []).getD 9 d0).bb),.sl (((((v2.getD 3 d0).ll).getD ((v2.getD 2 d0).ii).toNat []).getD 10 d0).ll)]
 else
 .norm [qS v2 0,qL v2 1,qI v2 2,.b false,qL v2 3,qL v2 4,qL v2 5,qI v2 6,qB v2 7,qS v2 8,qS v2 9,qL v2 10,qL v2 11,qL v2 12,qL v2 13,qL v2 14,qB v2 15,qL v2 16,.i (((((v2.getD 3 d0).ll).getD ((v2.getD 2 d0).ii).toNat []).getD 0 d0).ii),.b (((((v2.getD 3 d0).ll).getD ((v2.getD 2 d0).ii).toNat []).getD 1 d0).bb),.s (((((v2.getD 3 d0).ll).getD ((v2.getD 2 d0).ii).toNat []).getD 2 d0).ss),.s (((((v2.getD 3 d0).ll).getD ((v2.getD 2 d0).ii).toNat []).getD 3 d0).ss),.sl (((((v2.getD 3 d0).ll).getD ((v2.getD 2 d0).ii).toNat []).getD 4 d0).ll),.sl (((((v2.getD 3 d0).ll).getD ((v2.getD 2 d0).ii).toNat []).getD 5 d0).ll),.sl (((((v2.getD 3 d0).ll).getD ((v2.getD 2 d0).ii).toNat []).getD 6 d0).ll),.sl (((((v2.getD 3 d0).ll).getD ((v2.getD 2 d0).ii).toNat []).getD 7 d0).ll),.sl (((((v2.getD 3 d0).ll).getD ((v2.getD 2 d0).ii).toNat []).getD 8 d0).ll),.b (((((v2.getD 3 d0).ll).getD ((v2.getD 2 d0).ii).toNat []).getD 9 d0).bb),.sl (((((v2.getD 3 d0).ll).getD ((v2.getD 2 d0).ii).toNat []).getD 10 d0).ll)]
 else
 if ((v2.getD 6 d0).ii == (4:Int))=true then
 (jN [qL v2 10,.s (((((v2.getD 3 d0).ll).getD ((v2.getD 2 d0).ii).toNat []).getD 3 d0).ss)]).bindR fun r8 =>
 .norm [qS v2 0,qL v2 1,qI v2 2,qB r8 0,qL v2 3,qL v2 4,qL v2 5,qI v2 6,qB v2 7,qS v2 8,qS v2 9,qL v2 10,qL v2 11,qL v2 12,qL v2 13,qL v2 14,qB v2 15,qL v2 16,.i (((((v2.getD 3 d0).ll).getD ((v2.getD 2 d0).ii).toNat []).getD 0 d0).ii),.b (((((v2.getD 3 d0).ll).getD ((v2.getD 2 d0).ii).toNat []).getD 1 d0).bb),.s (((((v2.getD 3 d0).ll).getD ((v2.getD 2 d0).ii).toNat []).getD 2 d0).ss),.s (((((v2.getD 3 d0).ll).getD ((v2.getD 2 d0).ii).toNat []).getD 3 d0).ss),.sl (((((v2.getD 3 d0).ll).getD ((v2.getD 2 d0).ii).toNat []).getD 4 d0).ll),.sl (((((v2.getD 3 d0).ll).getD ((v2.getD 2 d0).ii).toNat []).getD 5 d0).ll),.sl (((((v2.getD 3 d0).ll).getD ((v2.getD 2 d0).ii).toNat []).getD 6 d0).ll),.sl (((((v2.getD 3 d0).ll).getD ((v2.getD 2 d0).ii).toNat []).getD 7 d0).ll),.sl (((((v2.getD 3 d0).ll).getD ((v2.getD 2 d0).ii).toNat []).getD 8 d0).ll),.b (((((v2.getD 3 d0).ll).getD ((v2.getD 2 d0).ii).toNat []).getD 9 d0).bb),.sl (((((v2.getD 3 d0).ll).getD ((v2.getD 2 d0).ii).toNat []).getD 10 d0).ll)]
 else
 .norm [qS v2 0,qL v2 1,qI v2 2,.b false,qL v2 3,qL v2 4,qL v2 5,qI v2 6,qB v2 7,qS v2 8,qS v2 9,qL v2 10,qL v2 11,qL v2 12,qL v2 13,qL v2 14,qB v2 15,qL v2 16,.i (((((v2.getD 3 d0).ll).getD ((v2.getD 2 d0).ii).toNat []).getD 0 d0).ii),.b (((((v2.getD 3 d0).ll).getD ((v2.getD 2 d0).ii).toNat []).getD 1 d0).bb),.s (((((v2.getD 3 d0).ll).getD ((v2.getD 2 d0).ii).toNat []).getD 2 d0).ss),.s (((((v2.getD 3 d0).ll).getD ((v2.getD 2 d0).ii).toNat []).getD 3 d0).ss),.sl (((((v2.getD 3 d0).ll).getD ((v2.getD 2 d0).ii).toNat []).getD 4 d0).ll),.sl (((((v2.getD 3 d0).ll).getD ((v2.getD 2 d0).ii).toNat []).getD 5 d0).ll),.sl (((((v2.getD 3 d0).ll).getD ((v2.getD 2 d0).ii).toNat []).getD 6 d0).ll),.sl (((((v2.getD 3 d0).ll).getD ((v2.getD 2 d0).ii).toNat []).getD 7 d0).ll),.sl (((((v2.getD 3 d0).ll).getD ((v2.getD 2 d0).ii).toNat []).getD 8 d0).ll),.b (((((v2.getD 3 d0).ll).getD ((v2.getD 2 d0).ii).toNat []).getD 9 d0).bb),.sl (((((v2.getD 3 d0).ll).getD ((v2.getD 2 d0).ii).toNat []).getD 10 d0).ll)]) fun v9 =>
 ja (if (v9.getD 3 d0).bb=true then
 if ((v9.getD 1 d0).ll).length + [[qS v9 21]].length < jT then
 .norm [qS v9 0,.sl (((v9.getD 1 d0).ll) ++ [[qS v9 21]]),qI v9 2,qL v9 4,qL v9 5,qL v9 6,qI v9 7,qB v9 8,qS v9 9,qS v9 10,qL v9 11,qL v9 12,qL v9 13,qL v9 14,qL v9 15,qB v9 16,qL v9 17]
 else
 .fail
 else
 .norm [qS v9 0,qL v9 1,qI v9 2,qL v9 4,qL v9 5,qL v9 6,qI v9 7,qB v9 8,qS v9 9,qS v9 10,qL v9 11,qL v9 12,qL v9 13,qL v9 14,qL v9 15,qB v9 16,qL v9 17]) fun v10 =>
 .norm [qS v10 0,qL v10 1,qI v10 2,qL v10 3,qL v10 4,qL v10 5,qI v10 6,qB v10 7,qS v10 8,qS v10 9,qL v10 10,qL v10 11,qL v10 12,qL v10 13,qL v10 14,qB v10 15,qL v10 16]
 else
 .fail) 1 fun v11 =>
 .norm [qS v11 0,qL v11 1,.i (IntKind.i64.wrap ((v11.getD 2 d0).ii + (1:Int))),qL v11 3,qL v11 4,qL v11 5,qI v11 6,qB v11 7,qS v11 8,qS v11 9,qL v11 10,qL v11 11,qL v11 12,qL v11 13,qL v11 14,qB v11 15,qL v11 16]
 else
 .ex 0 [qL v2 1]
noncomputable def Vo (a:List DC):Out :=
 (p9 [qL a 0,qL a 1,qL a 2,qS a 3]).bindR fun r1 =>
 if (decide ((r1.getD 0 d0).ii < (0:Int)))=true then
 .ret [.sl []]
 else
 if 37=37 ∧ 0 ≤ (r1.getD 0 d0).ii ∧ (r1.getD 0 d0).ii < (((a.getD 0 d0).ll).length:Int) then
 j9 (jy qd [qS a 3,.sl [],.i (0:Int),qL a 0,qL a 1,qL a 2,.i (((((a.getD 0 d0).ll).getD ((r1.getD 0 d0).ii).toNat []).getD 0 d0).ii),.b (((((a.getD 0 d0).ll).getD ((r1.getD 0 d0).ii).toNat []).getD 1 d0).bb),.s (((((a.getD 0 d0).ll).getD ((r1.getD 0 d0).ii).toNat []).getD 2 d0).ss),.s (((((a.getD 0 d0).ll).getD ((r1.getD 0 d0).ii).toNat []).getD 3 d0).ss),.sl (((((a.getD 0 d0).ll).getD ((r1.getD 0 d0).ii).toNat []).getD 4 d0).ll),.sl (((((a.getD 0 d0).ll).getD ((r1.getD 0 d0).ii).toNat []).getD 5 d0).ll),.sl (((((a.getD 0 d0).ll).getD ((r1.getD 0 d0).ii).toNat []).getD 6 d0).ll),.sl (((((a.getD 0 d0).ll).getD ((r1.getD 0 d0).ii).toNat []).getD 7 d0).ll),.sl (((((a.getD 0 d0).ll).getD ((r1.getD 0 d0).ii).toNat []).getD 8 d0).ll),.b (((((a.getD 0 d0).ll).getD ((r1.getD 0 d0).ii).toNat []).getD 9 d0).bb),.sl (((((a.getD 0 d0).ll).getD ((r1.getD 0 d0).ii).toNat []).getD 10 d0).ll)]) 0 fun v12 =>
 (yj [qL v12 0]).bindR fun r13 =>
 .ret [qL r13 0]
 else
 .fail
theorem ZT a:JM a=Vo a:=(jq cfg 11 _ a).trans (by kernel_rfl)
noncomputable def yL:List DC → Out:=fun v1 =>
 if (decide ((v1.getD 2 d0).ii < (((v1.getD 0 d0).ll).length:Int)))=true then
 j9 (if 9=9 ∧ 0 ≤ (v1.getD 2 d0).ii ∧ (v1.getD 2 d0).ii < (((v1.getD 0 d0).ll).length:Int) then
 if 9=9 ∧ 0 ≤ (v1.getD 2 d0).ii ∧ (v1.getD 2 d0).ii < (((v1.getD 1 d0).ll).length:Int) then
 if (!(((((v1.getD 0 d0).ll).getD ((v1.getD 2 d0).ii).toNat []).getD 0 d0).ss == ((((v1.getD 1 d0).ll).getD ((v1.getD 2 d0).ii).toNat []).getD 0 d0).ss))=true then
 .ret [.b false]
 else
 .norm [qL v1 0,qL v1 1,qI v1 2]
 else
 .fail
 else
 .fail) 1 fun v2 =>
 .norm [qL v2 0,qL v2 1,.i (IntKind.i64.wrap ((v2.getD 2 d0).ii + (1:Int)))]
 else
 .ex 0 []
noncomputable def X2 (a:List DC):Out :=
 if ((((a.getD 0 d0).ll).length:Int) != (((a.getD 1 d0).ll).length:Int))=true then
 .ret [.b false]
 else
 j9 (jy yL [qL a 0,qL a 1,.i (0:Int)]) 0 fun v3 =>
 .ret [.b true]
theorem j0E a:Kg a=X2 a:=(jq cfg 10 _ a).trans (by kernel_rfl)
noncomputable def YL (a:List DC):Out :=
 (pX [qL a 0,qL a 1,qL a 2,qS a 4]).bindR fun r1 =>
 (pX [qL a 0,qL a 1,qL a 2,qS a 3]).bindR fun r2 =>
 (kQ [qL r2 0,qL r1 0]).bindR fun r3 =>
 .ret [qB r3 0]
theorem j2r a:JQ a=YL a:=(jq cfg 12 _ a).trans (by kernel_rfl)
noncomputable def QS (a:List DC):Out :=
 (qZ [qL a 0,qL a 1,qL a 2,qS a 3]).bindR fun r1 =>
 ja (if ((r1.getD 0 d0).ii == (2:Int))=true then
 .norm [.b true]
 else
 if ((r1.getD 0 d0).ii == (3:Int))=true then
 .norm [.b true]
 else
 .norm [.b ((r1.getD 0 d0).ii == (4:Int))]) fun v2 =>
 .ret [qB v2 0]
theorem Z5 a:Jo a=QS a:=(jq cfg 13 _ a).trans (by kernel_rfl)
noncomputable def Zs (a:List DC):Out :=
 (p9 [qL a 0,qL a 1,qL a 2,qS a 3]).bindR fun r1 =>
 if (decide ((r1.getD 0 d0).ii ≥ (0:Int)))=true then
 if 37=37 ∧ 0 ≤ (r1.getD 0 d0).ii ∧ (r1.getD 0 d0).ii < (((a.getD 0 d0).ll).length:Int) then
 .ret [.i (((((a.getD 0 d0).ll).getD ((r1.getD 0 d0).ii).toNat []).getD 0 d0).ii)]
 else
 .fail
 else
 (zB [qS a 3]).bindR fun r2 =>
 if (r2.getD 0 d0).bb=true then
 .ret [.i (1:Int)]
 else
 .ret [.i (0:Int)]
theorem j3f a:jU a=Zs a:=(jq cfg 14 _ a).trans (by kernel_rfl)
noncomputable def Zw (a:List DC):Out :=
 (qZ [qL a 0,qL a 1,qL a 2,qS a 3]).bindR fun r1 =>
 ja (if ((r1.getD 0 d0).ii == (1:Int))=true then
 .norm [.b true]
 else
 .norm [.b ((r1.getD 0 d0).ii == (5:Int))]) fun v2 =>
 .ret [qB v2 0]
theorem j3k a:Kv a=Zw a:=(jq cfg 15 _ a).trans (by kernel_rfl)
noncomputable def YM (a:List DC):Out :=
 (qZ [qL a 0,qL a 1,qL a 2,qS a 3]).bindR fun r1 =>
 ja (if ((r1.getD 0 d0).ii == (1:Int))=true then
 .norm [.b true]
 else
 if ((r1.getD 0 d0).ii == (5:Int))=true then
 .norm [.b true]
 else
 .norm [.b ((r1.getD 0 d0).ii == (6:Int))]) fun v2 =>
 .ret [qB v2 0]
theorem j2s a:kp a=YM a:=(jq cfg 16 _ a).trans (by kernel_rfl)
noncomputable def XL (a:List DC):Out :=
 (qZ [qL a 0,qL a 1,qL a 2,qS a 3]).bindR fun r1 =>
 ja (if ((r1.getD 0 d0).ii != (0:Int))=true then
 .norm [.b ((r1.getD 0 d0).ii != (6:Int))]
 else
 .norm [.b false]) fun v2 =>
 .ret [qB v2 0]
theorem j1t a:jR a=XL a:=(jq cfg 17 _ a).trans (by kernel_rfl)
end Go.Proofs.QV
