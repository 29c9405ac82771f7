import Derived.Test.YtjmfjemandkfdacGreatDoorMZ5
import Derived.WalkKit
import Derived.ProofKit
import Derived.OpenShut
import Derived.ShutString
import Derived.ChangeOld
import Derived.SizedLaws
import Derived.Shelf.Strings.IndexAny
import Derived.Laws.RangeAny
import Derived.Laws.Runes
import Derived.Below
import Derived.Shelf.RegionOpenPlain
import Derived.Shelf.Strings.IndexAnyAll
import Derived.Lib.QuoteLoop
import Derived.Lib.RuneCountTail
import Derived.WalkMore
import Derived.Shelf.Small.Utf8
import Derived.Test.YtjmfjemandkfdacGreatDoorProg
import Derived.Shelf.Lays
import Derived.Shelf.Unicode.ValidAny
import Derived.Lib.LaidU8T
import Derived.Shelf.Strings.Cut
import Derived.Shelf.Strings.Search3
import Derived.Shelf.Strings.SlTrimAscii
import Derived.Shelf.Strings.OnBuilder
import Derived.Shelf.Strings.Repeat
import Derived.Shelf.Small.Strs
/- The input reads as it did. -/
namespace Go.Proofs.QV
open Go
open _root_.Bool renaming and_eq_true → jj, and_true → jS
open _root_.List renaming map_cons → jL, append_assoc → jO, singleton_append → jU, length_cons → j4, getElem_mem → je, flatMap_cons → jz, append_nil → jV
open Out renaming andThenB → ja, andThenB_ex → jc
open _root_.Option.some renaming injEq → j5
open _root_.Nat renaming lt_or_ge → jA
theorem jcI {H:Type} {enc:TypeId × Value → H} {P:Program} (hl:laidOutB P=true) {W W':World} (hb:RowKit.Below W.heap.size W W'):∀ {ts:List TypeId} {vs:List Value} {ds:List (DataW H)} {ps:List MemPlace},
  (ts.all fun t=>P.readableRec t && Nat.blt t P.types.size)=true → DataW.TrodAll enc P W 0 (fun _=>true) true ts vs ds ps → DataW.TrodAll enc P W' 0 (fun b=>decide (b < W.heap.size)) true ts vs ds ps
 | [],[],[],ps,_,h=>h
 | t :: ts,v :: vs,d :: ds,ps,ht,⟨p,q,h1,h2,h3⟩=>by
  simp only [List.all_cons,jj] at ht
  obtain ⟨⟨k1,k2⟩,k3⟩:=ht
  refine ⟨p,q,RowKit.Below.trod hl k1 (by simpa [Nat.blt_eq] using k2) h1 hb ?_,jcI hl hb k3 h2,h3⟩
  obtain ⟨m,hm⟩:=h1
  exact DataW.trod_lt m _ _ _ hm
 | [],_ :: _,_,_,_,h=>h.elim
 | [],[],_ :: _,_,_,h=>h.elim
 | _ :: _,[],_,_,_,h=>h.elim
 | _ :: _,_ :: _,[],_,_,h=>h.elim
theorem kp {n:Int} (h1:-9223372036854775808 ≤ n) (h2:n ≤ 9223372036854775807):IntKind.i64.wrap n=n:=by
 rw [IntKind.wrap_i64]
 omega
set_option linter.unusedVariables false
set_option linter.unusedSimpArgs false
def Out.esc (o:Out):Prop:=∀ K,o.andThen K=o
theorem Out.esc_ret (v:List DC):(Out.ret v).esc:=fun _=>rfl
theorem Out.esc_ex (id:Nat) (v:List DC):(Out.ex id v).esc:=fun _=>rfl
theorem JQ {F:List DC → Out} {v v':List DC} (h:F v = .norm v'):jR F v=jR F v':=by rw [j93,h]; rfl
theorem j2E {F:List DC → Out} {v r:List DC} (h:F v = .ret r):jR F v = .ret r:=by rw [j93,h]; rfl
theorem qL {F:List DC → Out} {v r:List DC} {id:Nat} (h:F v = .ex id r):jR F v = .ex id r:=by rw [j93,h]; rfl
theorem Z4 {F:List DC → Out} {v:List DC} {o:Out} (h:F v=o) (he:o.esc):jR F v=o:=by rw [j93,h,he]
theorem JP {F:List DC → Out} {st:Nat → List DC} {o:Out}:∀ (m i:Nat),(∀ j,i ≤ j → j < i + m → F (st j) = .norm (st (j + 1))) → jR F (st (i + m))=o → jR F (st i)=o
 | 0,i,_,h2=>by simpa using h2
 | m + 1,i,h1,h2=>by
  rw [JQ (h1 i (Nat.le_refl _) (by omega))]
  refine JP m (i + 1) (fun j hj hj'=>h1 j (by omega) (by omega)) ?_
  rw [show i + 1 + m=i + (m + 1) by omega]
  exact h2
def goE {α σ:Type} (f:Nat → σ → α → Sum σ Out) (fin:σ → Out):Nat → σ → List α → Out
 | _,s,[]=>fin s
 | i,s,x :: xs =>
  match f i s x with
  | .inl s'=>goE f fin (i + 1) s' xs
  | .inr o=>o
theorem j7v {α σ:Type} {l:List α} {st:Nat → σ → List DC} {f:Nat → σ → α → Sum σ Out} {fin:σ → Out} {F:List DC → Out} (I:Nat → σ → Prop)
  (hF:∀ (i:Nat) (s:σ) (hi:i < l.length),I i s → (∃ s',f i s l[i] = .inl s' ∧ I (i + 1) s' ∧ F (st i s) = .norm (st (i + 1) s')) ∨ ∃ o,f i s l[i] = .inr o ∧ o.esc ∧ F (st i s)=o)
  (hend:∀ s,I l.length s → F (st l.length s)=fin s ∧ (fin s).esc):∀ (m i:Nat) (s:σ),i + m=l.length → I i s → jR F (st i s)=goE f fin i s (l.drop i)
 | 0,i,s,hi,hI=>by
  have:i=l.length:=by omega
  subst this
  rw [List.drop_length,goE]
  exact Z4 (hend s hI).1 (hend s hI).2
 | m + 1,i,s,hi,hI=>by
  have hlt:i < l.length:=by omega
  rw [List.drop_eq_getElem_cons hlt,goE]
  rcases hF i s hlt hI with ⟨s',h1,h2,h3⟩ | ⟨o,h1,h2,h3⟩
  ·rw [h1,JQ h3]
   exact j7v I hF hend m (i + 1) s' (by omega) h2
  ·rw [h1]
   exact Z4 h3 h2
def goF {α:Type} (p:α → Bool) (stop:Nat → α → Out) (fin:Out):Nat → List α → Out
 | _,[]=>fin
 | i,x :: xs=>if p x=true then stop i x else goF p stop fin (i + 1) xs
theorem j7w {α:Type} {l:List α} {st:Nat → List DC} {p:α → Bool} {stop:Nat → α → Out} {fin:Out} {F:List DC → Out}
  (hF:∀ (i:Nat) (hi:i < l.length),F (st i)=if p l[i]=true then stop i l[i] else .norm (st (i + 1)))
  (hs:∀ i x,(stop i x).esc) (hend:F (st l.length)=fin) (hfin:fin.esc):∀ (m i:Nat),i + m=l.length → jR F (st i)=goF p stop fin i (l.drop i)
 | 0,i,hi=>by
  have:i=l.length:=by omega
  subst this
  rw [List.drop_length,goF]
  exact Z4 hend hfin
 | m + 1,i,hi=>by
  have hlt:i < l.length:=by omega
  rw [List.drop_eq_getElem_cons hlt,goF]
  by_cases hp:p l[i]=true
  ·rw [if_pos hp]
   exact Z4 (by rw [hF i hlt,if_pos hp]) (hs _ _)
  ·rw [if_neg hp,JQ (by rw [hF i hlt,if_neg hp])]
   exact j7w hF hs hend hfin m (i + 1) (by omega)
theorem kb {α:Type} {l:List α} {st:Nat → List DC} {p:α → Bool} {stop:Nat → α → Out} {fin:Out} {F:List DC → Out}
  (hF:∀ (i:Nat) (hi:i < l.length),F (st i)=if p l[i]=true then stop i l[i] else .norm (st (i + 1)))
  (hs:∀ i x,(stop i x).esc) (hend:F (st l.length)=fin) (hfin:fin.esc):jR F (st 0)=goF p stop fin 0 l:=by
 have:=j7w hF hs hend hfin l.length 0 (by omega)
 rwa [List.drop_zero] at this
theorem zS {α:Type} {p:α → Bool} {stop:Nat → α → Out} {fin:Out}:∀ (l:List α) (i:Nat),goF p stop fin i l=match l.findIdx? p with | some j=>(match l[j]? with | some x=>stop (i + j) x | none=>.fail) | none=>fin
 | [],i=>rfl
 | x :: l,i=>by
  rw [goF,List.findIdx?_cons]
  by_cases hp:p x=true
  ·simp [hp]
  ·simp only [hp,Bool.false_eq_true,if_false]
   rw [zS l (i + 1)]
   cases h:l.findIdx? p with
   | none=>simp
   | some j=>simp [Nat.add_assoc,Nat.add_comm 1 j]
theorem qU {α:Type} {p:α → Bool} {a:Out} {fin:Out}:∀ (l:List α) (i:Nat),goF p (fun _ _=>a) fin i l=if l.any p=true then a else fin
 | [],i=>rfl
 | x :: l,i=>by
  rw [goF,qU l (i + 1),List.any_cons]
  cases p x <;> simp
theorem jp {i n:Nat} (h:i < n) (hn:n ≤ 9223372036854775807):IntKind.i64.wrap ((i:Int) + 1)=((i + 1:Nat):Int):=by
 rw [kp (by omega) (by omega)]
 simp
theorem jq {α:Type} {f:α → List DC} {l:List α} {i:Nat} (h:i < l.length):(l.map f).getD i []=f l[i]:=by
 rw [List.getD_eq_getElem?_getD,List.getElem?_map,List.getElem?_eq_getElem h]
 rfl
def VL (left:Int) (w:Nat):Int:=if left < (w:Int) then -1 else left - w
theorem jK {left:Int} {w:Nat} (h:left < (w:Int)):VL left w = -1:=if_pos h
theorem kt {left:Int} {w:Nat} (h:¬ left < (w:Int)):VL left w=left - w:=if_neg h
theorem je9 {α:Type} {enc:α → List DC} {vs:List α} {F:List DC → Out}
  (hF:∀ (i:Nat) (hi:i < vs.length) (left:Int),0 ≤ left → left ≤ 1048576 → F [.sl (vs.map enc),.i left,.i (i:Int)]=if left < (jQ (enc vs[i]):Int) then .ret [.i (-1)] else .norm [.sl (vs.map enc),.i (left - jQ (enc vs[i])),.i ((i + 1:Nat):Int)])
  (hend:∀ left,F [.sl (vs.map enc),.i left,.i (vs.length:Int)] = .ex 0 [.i left]) :
  ∀ (m i:Nat) (left:Int),i + m=vs.length → 0 ≤ left → left ≤ 1048576 → jR F [.sl (vs.map enc),.i left,.i (i:Int)]=if left < (wtV ((vs.drop i).map enc):Int) then .ret [.i (-1)] else .ex 0 [.i (left - wtV ((vs.drop i).map enc))]
 | 0,i,left,hi,h0,h1=>by
  have:i=vs.length:=by omega
  subst this
  rw [List.drop_length,qL (hend left)]
  simp only [List.map_nil,wtV]
  rw [if_neg (by omega)]
  simp
 | m + 1,i,left,hi,h0,h1=>by
  have hlt:i < vs.length:=by omega
  have hw:wtV ((vs.drop i).map enc)=jQ (enc vs[i]) + wtV ((vs.drop (i + 1)).map enc):=by
   rw [List.drop_eq_getElem_cons hlt,jL,wtV]
  by_cases hc:left < (jQ (enc vs[i]):Int)
  ·rw [j2E (by rw [hF i hlt left h0 h1,if_pos hc]),if_pos (by omega)]
  ·rw [JQ (by rw [hF i hlt left h0 h1,if_neg hc]),je9 hF hend m (i + 1) _ (by omega) (by omega) (by omega),hw]
   by_cases h2:left - (jQ (enc vs[i]):Int) < (wtV ((vs.drop (i + 1)).map enc):Int)
   ·rw [if_pos h2,if_pos (by omega)]
   ·rw [if_neg h2,if_neg (by omega)]
    congr 3
    omega
theorem Xa {α:Type} {enc:α → List DC} {vs:List α} {F:List DC → Out} (hl:vs.length ≤ 9223372036854775807)
  (hF:∀ (i:Nat) (hi:i < vs.length) (left:Int),0 ≤ left → left ≤ 1048576 → F [.sl (vs.map enc),.i left,.i (i:Int)]=if left < (jQ (enc vs[i]):Int) then .ret [.i (-1)] else .norm [.sl (vs.map enc),.i (left - jQ (enc vs[i])),.i ((i + 1:Nat):Int)])
  (hend:∀ left,F [.sl (vs.map enc),.i left,.i (vs.length:Int)] = .ex 0 [.i left]) {left:Int} (h0:0 ≤ left) (h1:left ≤ 1048576) :
  (if (decide ((IntKind.i64.wrap (left - (((vs.map enc).length:Nat):Int))) < (0:Int)))=true then Out.ret [DC.i (-1:Int)]
  else ja (jR F [DC.sl (vs.map enc),DC.i (IntKind.i64.wrap (left - (((vs.map enc).length:Nat):Int))),DC.i (0:Int)]) 0 fun v4=>.ret [DC.i ((v4.getD 0 d0).ii)]) = .ret [.i (VL left (DC.wt (.sl (vs.map enc))))]:=by
 rw [DC.wt,List.length_map,kp (by omega) (by omega)]
 by_cases hc:left - (vs.length:Int) < 0
 ·simp only [hc,decide_true,if_true]
  rw [jK (by omega)]
 ·simp only [hc,decide_false,Bool.false_eq_true,if_false]
  have:=je9 hF hend vs.length 0 (left - vs.length) (by omega) (by omega) (by omega)
  rw [List.drop_zero] at this
  rw [show (0:Int)=((0:Nat):Int) from rfl,this]
  by_cases h2:left - (vs.length:Int) < (wtV (vs.map enc):Int)
  ·rw [if_pos h2,jK (by omega)]
   rfl
  ·rw [if_neg h2,kt (by omega)]
   simp only [jc,if_true,List.getD_cons_zero,DC.ii_i]
   congr 3
   omega
theorem Q8 {α:Type} {enc:α → List DC} {vs:List α} {z:List DC} {F:List DC → Out} (hl:vs.length ≤ 1048576)
  (hF:∀ (i:Nat) (hi:i < vs.length) (cur:List (List DC)),cur.length=vs.length → cur.getD i []=z → F [.sl (vs.map enc),.sl cur,.i (i:Int)] = .norm [.sl (vs.map enc),.sl (cur.set i (enc vs[i])),.i ((i + 1:Nat):Int)])
  (hend:∀ cur,F [.sl (vs.map enc),.sl cur,.i (vs.length:Int)] = .ex 0 [.sl cur]) :
  jR F [.sl (vs.map enc),.sl (List.replicate vs.length z),.i ((0:Nat):Int)] = .ex 0 [.sl (vs.map enc)]:=by
 have hloop:jR F [.sl (vs.map enc),.sl (List.replicate vs.length z),.i ((0:Nat):Int)] = .ex 0 [.sl (vs.map enc)]:=by
  have h:=JP (F:=F) (st:=fun i=>[.sl (vs.map enc),.sl ((vs.map enc).take i ++ List.replicate (vs.length - i) z),.i (i:Int)]) (o:=.ex 0 [.sl (vs.map enc)]) vs.length 0 (fun i _ hi=>by
   have hlt:i < vs.length:=by omega
   have hlen:((vs.map enc).take i ++ List.replicate (vs.length - i) z).length=vs.length:=by simp; omega
   have hgz:((vs.map enc).take i ++ List.replicate (vs.length - i) z).getD i []=z:=by
    rw [List.getD_eq_getElem?_getD,List.getElem?_append_right (by simp; omega),List.getElem?_replicate,if_pos (by simp; omega)]
    rfl
   have:=hF i hlt _ hlen hgz
   have hset:((vs.map enc).take i ++ List.replicate (vs.length - i) z).set i (enc vs[i])=(vs.map enc).take (i + 1) ++ List.replicate (vs.length - (i + 1)) z:=by
    have ht:(vs.map enc).take (i + 1)=(vs.map enc).take i ++ [enc vs[i]]:=by rw [List.take_add_one,List.getElem?_map,List.getElem?_eq_getElem hlt]; rfl
    rw [List.set_append_right _ _ (by simp; omega),ht]
    obtain ⟨m,hm⟩:∃ m,vs.length - i=m + 1:=⟨vs.length - i - 1,by omega⟩
    have hm2:vs.length - (i + 1)=m:=by omega
    have hm3:i - ((vs.map enc).take i).length=0:=by simp; omega
    rw [hm,hm2,hm3,List.replicate_succ]
    simp only [List.set_cons_zero,jO,jU]
   rw [hset] at this
   exact this) (by
    have:=hend (vs.map enc)
    refine qL ?_
    have ht:(vs.map enc).take (0 + vs.length)=vs.map enc:=List.take_of_length_le (by simp)
    rw [ht]
    simpa using this)
  simpa using h
 exact hloop
theorem j0b {n:Nat} (h:n ≤ 1048576):(n:Int) < (jF:Int):=by simp only [jF]; omega
theorem Xm {l:List (List DC)} {F:List DC → Out} (hF:∀ (i:Nat),i < l.length → F [.sl l,.sl l,.i (i:Int)] = .norm [.sl l,.sl l,.i ((i + 1:Nat):Int)]) (hend:F [.sl l,.sl l,.i (l.length:Int)] = .ex 0 []) :
  (if ((l.length:Int) != (l.length:Int))=true then Out.ret [DC.b false]
  else ja (jR F [DC.sl l,DC.sl l,DC.i (0:Int)]) 0 fun v4=>.ret [DC.b true]) = .ret [.b true]:=by
 have hloop:jR F [.sl l,.sl l,.i ((0:Nat):Int)] = .ex 0 [] :=
  JP (st:=fun i=>[.sl l,.sl l,.i (i:Int)]) l.length 0 (fun j _ hj=>hF j (by omega)) (by rw [Nat.zero_add]; exact qL hend)
 rw [show (0:Int)=((0:Nat):Int) from rfl,hloop]
 simp
def gi (v:List DC) (n:Nat):Int:=(v.getD n d0).ii
def gl (v:List DC) (n:Nat):List (List DC):=(v.getD n d0).ll
def gs (v:List DC) (n:Nat):List UInt8:=(v.getD n d0).ss
def gb (v:List DC) (n:Nat):Bool:=(v.getD n d0).bb
theorem jr:(∀ {α:Type} {x:α} {l:List α} {d:α},(x :: l).getD 0 d=x) ∧ (∀ x l,gi (x :: l) 0=x.ii) ∧ (∀ x l,gl (x :: l) 0=x.ll) ∧ (∀ x l,gs (x :: l) 0=x.ss) ∧ (∀ x l,gb (x :: l) 0=x.bb) :=
 ⟨List.getD_cons_zero,fun _ _=>rfl,fun _ _=>rfl,fun _ _=>rfl,fun _ _=>rfl⟩
theorem jv:(∀ {α:Type} {x:α} {l:List α} {i:Nat} {d:α},(x :: l).getD (i + 1) d=l.getD i d) ∧ (∀ x l n,gi (x :: l) (n + 1)=gi l n) ∧ (∀ x l n,gl (x :: l) (n + 1)=gl l n) ∧ (∀ x l n,gs (x :: l) (n + 1)=gs l n) ∧ (∀ x l n,gb (x :: l) (n + 1)=gb l n) :=
 ⟨List.getD_cons_succ,fun _ _ _=>rfl,fun _ _ _=>rfl,fun _ _ _=>rfl,fun _ _ _=>rfl⟩
@[simp] theorem gi0 (x:DC) (l:List DC):gi (x :: l) 0=x.ii:=rfl
@[simp] theorem gl0 (x:DC) (l:List DC):gl (x :: l) 0=x.ll:=rfl
@[simp] theorem gs0 (x:DC) (l:List DC):gs (x :: l) 0=x.ss:=rfl
@[simp] theorem gb0 (x:DC) (l:List DC):gb (x :: l) 0=x.bb:=rfl
@[simp] theorem gi1 (x:DC) (l:List DC) (n:Nat):gi (x :: l) (n + 1)=gi l n:=rfl
@[simp] theorem gl1 (x:DC) (l:List DC) (n:Nat):gl (x :: l) (n + 1)=gl l n:=rfl
@[simp] theorem gs1 (x:DC) (l:List DC) (n:Nat):gs (x :: l) (n + 1)=gs l n:=rfl
@[simp] theorem gb1 (x:DC) (l:List DC) (n:Nat):gb (x :: l) (n + 1)=gb l n:=rfl
theorem zr (v:List DC) (K:List DC → Out):(Out.ret v).bindR K=K v:=rfl
@[simp] theorem zb (x:Bool):(DC.b x).bb=x:=rfl
@[simp] theorem zi (x:Int):(DC.i x).ii=x:=rfl
@[simp] theorem zs (x:List UInt8):(DC.s x).ss=x:=rfl
@[simp] theorem zl (x:List (List DC)):(DC.sl x).ll=x:=rfl
theorem zt (b:Bool):b=true ∨ b=false:=Bool.eq_false_or_eq_true b
theorem zm {α β:Type} (f:α → β) {l:List α}:(l.map f).length=l.length:=List.length_map f
theorem zf:(false=true)=False:=Bool.false_eq_true
def jjO:CT → KC → Bool
 | .b,.one .b=>true
 | .i k,.one (.i k')=>decide (k=k')
 | .s,.one .s=>true
 | _,_=>false
def jcU:List CT → List KC → Bool
 | [],[]=>true
 | c :: cs,k :: ks=>jjO c k && jcU cs ks
 | _,_=>false
def Yt (cts:List CT) (h:Hint):Bool:=jcU cts h.tm && (match h.ob with | []=>true | _=>false)
theorem jgt:∀ {cts:List CT} {ks:List KC},jcU cts ks=true → ks=cts.map fun c=>.one c.k1
 | [],[],_=>rfl
 | c :: cs,k :: ks,h=>by
  simp only [jcU,jj] at h
  rw [jL,← jgt h.2]
  congr 1
  have h1:=h.1
  unfold jjO at h1
  split at h1
  ·rfl
  ·simp only [decide_eq_true_eq] at h1; rw [h1]; rfl
  ·rfl
  ·simp at h1
 | [],_ :: _,h=>by simp [jcU] at h
 | _ :: _,[],h=>by simp [jcU] at h
theorem jc9:∀ {cts:List CT} {ks:List KC},jcU cts ks=true → cts.all CT.flat=true
 | [],_,_=>rfl
 | c :: cs,k :: ks,h=>by
  simp only [jcU,jj] at h
  rw [List.all_cons,jc9 h.2,jS]
  have h1:=h.1
  cases c <;> simp_all [jjO,CT.flat]
 | _ :: _,[],h=>by simp [jcU] at h
def jjN:CT → DC → Value
 | .b,d=>.bool d.bb
 | .i k,d=>.int k d.ii
 | .s,d=>.string ⟨d.ss.toArray⟩
 | .sl _,_=>undef
def QW:List CT → List DC → Nat → List Value
 | [],_,_=>[]
 | c :: cs,v,n=>jjN c (v.getD n d0) :: QW cs v (n + 1)
theorem jeC:∀ (cts:List CT) (v:List DC) (n:Nat),(QW cts v n).length=cts.length
 | [],_,_=>rfl
 | c :: cs,v,n=>by rw [QW,j4,jeC cs v (n + 1),j4]
theorem jgL (v:List DC):∀ (cts:List CT) (n i:Nat) (c:CT),cts.all CT.flat=true → cts[i]? = some c → (mkT v n (cts.map fun c=>KC.one c.k1))[i]? = some (.one (c.k1.mk v (n + i)))
 | [],n,i,c,_,h=>by simp at h
 | a :: cts,n,0,c,hf,h=>by
  simp only [List.getElem?_cons_zero,j5] at h
  subst h
  rfl
 | a :: cts,n,i + 1,c,hf,h=>by
  simp only [List.all_cons,jj] at hf
  simp only [List.getElem?_cons_succ] at h
  have hc:a.k1.cnt=1:=by cases a <;> rfl
  rw [jL,mkT,List.getElem?_cons_succ,hc,jgL v cts (n + 1) i c hf.2 h]
  congr 3
  omega
theorem jdl (v:List DC):∀ (ks:List KC) (n:Nat),(mkT v n ks).length=ks.length
 | [],_=>rfl
 | .one k :: ks,n=>by rw [mkT,j4,jdl v ks,j4]
 | .agg l :: ks,n=>by rw [mkT,j4,jdl v ks,j4]
theorem jeD (v:List DC):∀ (cts:List CT) (n i:Nat) (c:CT),cts[i]? = some c → (QW cts v n)[i]? = some (jjN c (v.getD (n + i) d0))
 | [],n,i,c,h=>by simp at h
 | a :: cts,n,0,c,h=>by
  simp only [List.getElem?_cons_zero,j5] at h
  subst h
  rfl
 | a :: cts,n,i + 1,c,h=>by
  simp only [List.getElem?_cons_succ] at h
  rw [QW,List.getElem?_cons_succ,jeD v cts (n + 1) i c h]
  congr 3
  omega
section
variable {P:Program} {ty:Nat → Option TI}
theorem jiw {A:An} {g:Gh} {fi:FI} {cts:List CT} {v:List DC} {vals:Array Value} {w:World} (hf:cts.all CT.flat=true)
  (hr:Rel ty A g (JU fi ⟨cts.map fun c=>.one c.k1,[]⟩ v) { tmps:=vals ++ Array.replicate (fi.ntmps - vals.size) undef,defers:=[] } w) (hs:vals.size=cts.length):vals=(QW cts v 0).toArray:=by
 apply Array.toList_inj.1
 apply List.ext_getElem?
 intro i
 by_cases hi:i < cts.length
 ·have hc:cts[i]? = some cts[i]:=List.getElem?_eq_getElem hi
  have h1:=jgL v cts 0 i _ hf hc
  have h2:(JU fi ⟨cts.map fun c=>.one c.k1,[]⟩ v).tm[i]? = some (.one (cts[i].k1.mk v (0 + i))):=by
   unfold JU X2
   dsimp only
   rw [List.getElem?_append_left (by rw [jdl]; simpa using hi)]
   exact h1
  have hv:vals.toList[i]? = some (vals[i]'(by omega)):=by
   rw [Array.getElem?_toList,Array.getElem?_eq_getElem (by omega)]
  have h3:=hr.tm i _ (vals[i]'(by omega)) h2 (by
   dsimp only
   rw [Array.getElem?_append_left (by omega),Array.getElem?_eq_getElem (by omega)])
  have hfl:CT.flat cts[i]=true:=List.all_eq_true.1 hf _ (je hi)
  have hl:=jeD v cts 0 i _ hc
  simp only [List.toList_toArray] at hl ⊢
  rw [hv,hl]
  congr 1
  generalize cts[i]=c at h3 hfl ⊢
  cases c with
  | sl e=>simp [CT.flat] at hfl
  | b=>exact h3
  | i k=>exact h3
  | s=>exact h3
 ·rw [List.getElem?_eq_none (by simp; omega),List.getElem?_eq_none (by simp [jeC]; omega)]
theorem jet (rcts:List CT) (i:Nat):KY i (rcts.map fun c=>(false,[RK.ct c]))=rcts.map CT.k1:=by
 unfold KY
 induction rcts with
 | nil=>rfl
 | cons c cs ih =>
  rw [jL,jz,jL]
  show rkK i (RK.ct c :: (cs.map fun c=>(false,[RK.ct c])).flatMap Prod.snd)=_
  rw [rkK]
  show c.k1 :: rkK i _=_
  rw [ih]
def okD:CT → DC → Bool
 | .b,.b _=>true
 | .i _,.i _=>true
 | .s,.s _=>true
 | _,_=>false
def jfY:List CT → List DC → Nat → Bool
 | [],_,_=>true
 | c :: cs,r,n=>okD c (r.getD n d0) && jfY cs r (n + 1)
theorem jgM {A:An} {rcts:List CT} {r:List DC} {w':World} (hf:jfY rcts r 0=true) (hA:A.m=0) (hk:Keep A w'):Res ty A [] (rcts.map fun c=>(false,[RK.ct c])) r (QW rcts r 0) w':=by
 refine ⟨⟨⟨fun _=>False,fun _=>0,fun _=>undef⟩,[],[],QW rcts r 0,[],?_,rfl,?_,?_,fun b h=>h.elim,fun j hj=>by omega,fun j hj=>by omega⟩,hk⟩
 ·have:∀ (cs:List CT) (n:Nat),RVs (cs.map fun c=>(false,[RK.ct c])) (QW cs r n) (QW cs r n):=by
   intro cs
   induction cs with
   | nil=>intro n; rfl
   | cons c cs ih=>intro n; exact ⟨[jjN c (r.getD n d0)],QW cs r (n + 1),rfl,rfl,fun h=>absurd h (by simp),fun _=>rfl,ih (n + 1)⟩
  exact this rcts 0
 ·rw [jet,List.flatMap_nil,jV,jV]
  have:∀ (cs:List CT) (n:Nat),jfY cs r n=true → FL ty A ⟨fun _=>False,fun _=>0,fun _=>undef⟩ [] [] w' r n (cs.map CT.k1) (QW cs r n):=by
   intro cs
   induction cs with
   | nil=>intro n _; trivial
   | cons c cs ih =>
    intro n hc
    simp only [jfY,jj] at hc
    have hcnt:c.k1.cnt=1:=by cases c <;> rfl
    rw [jL,QW]
    refine ⟨⟨[r.getD n d0],by rw [hcnt]; rfl,fun i hi=>?_,?_⟩,?_⟩
    ·rw [hcnt] at hi
     have:i=0:=by omega
     subst this
     rfl
    ·have h1:=hc.1
     cases c with
     | b=>cases hd:r.getD n d0 <;> rw [hd] at h1 <;> simp [okD] at h1; exact ⟨_,rfl,rfl⟩
     | i k=>cases hd:r.getD n d0 <;> rw [hd] at h1 <;> simp [okD] at h1; exact ⟨_,rfl,rfl⟩
     | s=>cases hd:r.getD n d0 <;> rw [hd] at h1 <;> simp [okD] at h1; exact ⟨_,rfl,rfl⟩
     | sl e=>simp [okD] at h1
    ·rw [hcnt]
     exact ih (n + 1) hc.2
  exact this rcts 0 hf
 ·rw [jet,List.flatMap_nil,jV,jV]
  have:∀ (cs:List CT) (us:List Value),j34 (cs.map CT.k1) us:=by
   intro cs
   induction cs with
   | nil=>intro us; cases us <;> trivial
   | cons c cs ih =>
    intro us
    cases us with
    | nil=>cases c <;> trivial
    | cons u us=>cases c <;> exact ih us
  exact this rcts _
def KZ (cts rcts:List CT) (q:List DC → Option (List DC)):Hint → List DC → Option (List DC):=fun h v=>if Yt cts h=true then (match q v with | some r=>if jfY rcts r 0=true then some r else none | none=>none) else none
theorem YV {G:Glob} {f:Nat} {fi:FI} {fd:Func} {cts rcts:List CT} {q:List DC → Option (List DC)} (h1:P.funcs[f]? = some fd) (h2:(fd.name == "runtime.NumGoroutine")=false) (h3:fd.body.isNone=false)
  (hrk:fi.rk=rcts.map fun c=>(false,[RK.ct c])) (hp:fi.prim=some fun h v=>if Yt cts h=true then (match q v with | some r=>if jfY rcts r 0=true then some r else none | none=>none) else none)
  (hq:∀ v r w,q v=some r → G.ok w → Calls P f (QW cts v 0).toArray w fun e w'=>e = .returned (Kd (QW rcts r 0)) ∧ RowKit.Below w.heap.size w w') (hvi:fi.via=none:=by rfl):FnOk P G ty f fi:=by
 refine ⟨⟨fd,h1,h2,h3,fun h=>by rw [hp] at h; simp at h⟩,fun p hpp h v r e=>?_,fun x hx=>(by rw [hvi] at hx; cases hx)⟩
 rw [hp] at hpp
 simp only [j5] at hpp
 subst hpp
 dsimp only at e
 split at e
 ·rename_i hh
  cases hqv:q v with
  | none=>rw [hqv] at e; simp at e
  | some r' =>
   rw [hqv] at e
   dsimp only at e
   split at e
   ·rename_i hok
    simp only [j5] at e
    subst e
    unfold Yt at hh
    rw [jj] at hh
    obtain ⟨k1,k2⟩:=hh
    have hob:h.ob=[]:=by
     cases ho:h.ob with
     | nil=>rfl
     | cons a l=>rw [ho] at k2; simp at k2
    have htm:=jgt k1
    have hflat:=jc9 k1
    obtain ⟨tm,ob⟩:=h
    dsimp only at hob htm k1
    subst hob htm
    intro A g vals w hA hr hs hw hm
    have hvals:=jiw hflat hr (by simpa using hs)
    subst hw
    have hc:=hq v r' A.w0 hqv hA.1
    rw [← hvals] at hc
    refine Calls.mono hc fun en w' hen=>?_
    obtain ⟨rfl,bel⟩:=hen
    refine ⟨_,rfl,?_⟩
    rw [hrk]
    refine jgM hok (by rw [hm]; rfl) ⟨bel.os,bel.tape,bel.output,bel.size,fun b hb _ _=>bel.block b hb⟩
   ·simp at e
 ·simp at e
end
end Go.Proofs.QV

namespace Go.Proofs
open Go.Shelf Go.RowKit Go.Lib
open _root_.Bool renaming and_eq_true → jj, and_true → jS
open _root_.List renaming map_cons → jL, append_assoc → jO, singleton_append → jU, length_cons → j4, getElem_mem → je, flatMap_cons → jz, append_nil → jV
open _root_.Option.some renaming injEq → j5
open _root_.Nat renaming lt_or_ge → jA
variable {P:Program} {ρ:Ren}
def eE:ByteArray:=⟨#[101,69]⟩
theorem jb0 (w:World) (s:ByteArray) (p:Nat):Below w.heap.size w (w.iter s p):=by
 have hs:(w.iter s p).heap=w.heap.push (.stringIter s p):=rfl
 exact ⟨rfl,rfl,rfl,by rw [hs]; simp,fun b hb=>by rw [hs,Array.getElem?_push,if_neg (by omega)]⟩
set_option maxHeartbeats 2000000 in
set_option maxRecDepth 1000000 in
theorem j7y (L:Lays.n152 P ρ) (w:World) :
  Calls P (ρ.f 152) #[.string eE,.int .i32 65533] w fun e w'=>e = .returned (.int .i64 (-1)) ∧ Below w.heap.size w w':=by
 have t3:=L.t3; have a3:=L.a3; have z3:=L.z3; have v3:=L.v3
 have t4:=L.t4; have a4:=L.a4; have z4:=L.z4; have v4:=L.v4
 have t5:=L.t5; have a5:=L.a5; have z5:=L.z5; have v5:=L.v5
 have t9:=L.t9; have a9:=L.a9; have z9:=L.z9; have v9:=L.v9
 have t21:=L.t21; have a21:=L.a21; have z21:=L.z21; have v21:=L.v21
 have n0:=fun ty=>run_next_ascii (P:=P) w eE 0 ty (by decide) (by decide)
 have n1:=fun ty=>run_next_ascii (P:=P) w eE 1 ty (by decide) (by decide)
 have n2:=fun ty=>run_next_end (P:=P) w eE 2 ty (by decide)
 go_enter L.f152,Body.n152_ntmps ρ
 go_wp2
 go_loopg [5,6] 2 (fun g _ _ wx=>∃ i:Nat,i + g=2 ∧ wx=w.iter eE i)
 case atStart=>exact ⟨0,rfl,rfl⟩
 case round =>
  obtain ⟨i,hig,rfl⟩:=hrel
  cases gk with
  | zero =>
   obtain rfl:i=2:=by omega
   go_wp2
   go_ret
   exact ⟨rfl,jb0 _ _ _⟩
  | succ g =>
   rcases jA 0 i with h | h
   ·obtain rfl:i=1:=by omega
    have e1:((eE[1]'(by decide)).toNat:Int)=69:=by decide
    simp only [e1] at n1
    go_wp2
    go_roundg g
    case measure=>omega
    case rel=>exact ⟨2,by omega,rfl⟩
   ·obtain rfl:i=0:=by omega
    have e0:((eE[0]'(by decide)).toNat:Int)=101:=by decide
    simp only [e0] at n0
    go_wp2
    go_roundg g
    case measure=>omega
    case rel=>exact ⟨1,by omega,rfl⟩
set_option maxHeartbeats 2000000 in
set_option maxRecDepth 1000000 in
theorem j7z (L:Lays.n152 P ρ) (r:Int) (w:World) (h0:128 ≤ r) (h1:¬ r=65533) (h2:Lib.validRune r=true) (h3:3 ≤ (Utf8.encode r).size) (h4:(Utf8.encode r).size ≤ 4) :
  Calls P (ρ.f 152) #[.string eE,.int .i32 r] w fun e w'=>e = .returned (.int .i64 (-1)) ∧ Below w.heap.size w w':=by
 have t3:=L.t3; have a3:=L.a3; have z3:=L.z3; have v3:=L.v3
 have t4:=L.t4; have a4:=L.a4; have z4:=L.z4; have v4:=L.v4
 have t5:=L.t5; have a5:=L.a5; have z5:=L.z5; have v5:=L.v5
 have t9:=L.t9; have a9:=L.a9; have z9:=L.z9; have v9:=L.v9
 have t21:=L.t21; have a21:=L.a21; have z21:=L.z21; have v21:=L.v21
 have hlt:decide (r < 128)=false:=decide_eq_false (by omega)
 have hge:decide (0 ≤ r)=true:=decide_eq_true (by omega)
 have hne:(r == 65533)=false:=beq_eq_false_iff_ne.2 h1
 have e119:∀ args w,(callFunc (ρ.f 119) args).run P w = .ok (.enter (ρ.f 119) args) w:=enters_of L.f119 (by kernel_rfl) rfl
 have e137:∀ args w,(callFunc (ρ.f 137) args).run P w = .ok (.enter (ρ.f 137) args) w:=enters_of L.f137 (by kernel_rfl) rfl
 go_enter L.f152,Body.n152_ntmps ρ
 go_wp2_with (go_at_fn (ρ.f 119); refine (Any.utf8_ValidRune { L with } _ _).mono ?_; rintro e w' ⟨rfl,hw⟩; rw [hw,h2])
 have u21s:(P.underlying (ρ.t 21)).isSome=true:=by rw [t21]; rfl
 have hw3:(Utf8.encode r).size=3 ∨ (Utf8.encode r).size=4:=by omega
 go_step3
 go_wp2
 have hc:decide (((Utf8.encode r).size:Int) - 1 < (eE.size:Int))=false:=decide_eq_false (by have:(eE.size:Int)=2:=rfl; omega)
 go_loopg [9] 1 (fun g x wx=>g=1 ∧ x=Value.int .i64 (((Utf8.encode r).size:Int) - 1) ∧ wx=w)
 case atStart=>exact ⟨rfl,rfl,rfl⟩
 case round =>
  obtain ⟨_,rfl,rfl⟩:=hrel
  go_wp2
  rw [Exit.noGoto_ret]
  go_ret
  exact ⟨rfl,Below.refl _ _⟩
set_option maxHeartbeats 2000000 in
set_option maxRecDepth 1000000 in
theorem j7x (L:Lays.n152 P ρ) (r:Int) (w:World) (h0:128 ≤ r) (h1:¬ r=65533) (h2:Lib.validRune r=true) (h3:(Utf8.encode r).size=2) :
  Calls P (ρ.f 152) #[.string eE,.int .i32 r] w fun e w'=>e = .returned (.int .i64 (-1)) ∧ Below w.heap.size w w':=by
 have mixed:=L.mixed
 have t3:=L.t3; have a3:=L.a3; have z3:=L.z3; have v3:=L.v3
 have t4:=L.t4; have a4:=L.a4; have z4:=L.z4; have v4:=L.v4
 have t5:=L.t5; have a5:=L.a5; have z5:=L.z5; have v5:=L.v5
 have t9:=L.t9; have a9:=L.a9; have z9:=L.z9; have v9:=L.v9
 have t21:=L.t21; have a21:=L.a21; have z21:=L.z21; have v21:=L.v21
 have h2':=h2
 have hlt:decide (r < 128)=false:=decide_eq_false (by omega)
 have hge:decide (0 ≤ r)=true:=decide_eq_true (by omega)
 have hne:(r == 65533)=false:=beq_eq_false_iff_ne.2 h1
 have e119:∀ args w,(callFunc (ρ.f 119) args).run P w = .ok (.enter (ρ.f 119) args) w:=enters_of L.f119 (by kernel_rfl) rfl
 have e137:∀ args w,(callFunc (ρ.f 137) args).run P w = .ok (.enter (ρ.f 137) args) w:=enters_of L.f137 (by kernel_rfl) rfl
 go_enter L.f152,Body.n152_ntmps ρ
 go_wp2_with (go_at_fn (ρ.f 119); refine (Any.utf8_ValidRune { L with } _ _).mono ?_; rintro e w' ⟨rfl,hw⟩; rw [hw,h2])
 have u21s:(P.underlying (ρ.t 21)).isSome=true:=by rw [t21]; rfl
 go_step3
 go_wp2
 have iE:∀ w:World,(Instr.index (ρ.t 9) (.string eE) (.int .i64 1)).run P w = .ok (.int .u8 69) w:=fun w=>by
  rw [run_index_string w (ρ.t 9) eE .i64 1 t9,dif_pos (by decide)]; rfl
 obtain ⟨B,hB,iR⟩:∃ B:UInt8,128 ≤ B.toNat ∧ ∀ w:World,(Instr.index (ρ.t 9) (.string (Utf8.encode r)) (.int .i64 1)).run P w = .ok (.int .u8 (B.toNat:Int)) w:=by
  have hf:=(encode_facts r (by rw [validRune_eq]; exact h2') h0).2.2 (by omega)
  refine ⟨(Utf8.encode r)[1]'(by omega),?_,fun w=>?_⟩
  ·have e:(Utf8.encode r)[(Utf8.encode r).size - 1]'(by omega)=(Utf8.encode r)[1]'(by omega):=by congr 1; omega
   rw [← e]; exact hf
  ·rw [run_index_string w (ρ.t 9) _ .i64 1 t9,dif_pos (by omega)]; rfl
 have hne1:((69:Int) == (B.toNat:Int))=false:=beq_eq_false_iff_ne.2 (by omega)
 have hback:((B.toNat:Int)).toNat.toUInt8=B:=by simp
 have hib:Lib.indexByte (eE.extract 2 eE.size).data.toList B = -1:=by
  have:(eE.extract 2 eE.size).data.toList=[]:=by decide
  rw [this]; rfl
 have hc:decide ((1:Int) < (eE.size:Int))=true:=by decide
 have hw2:IntKind.i64.wrap 2=2:=by decide
 have hle2:(0:Int) ≤ 2 ∧ (2:Int) ≤ (eE.size:Int):=by decide
 go_loopg [9] 1 (fun g x wx=>g=1 ∧ x=Value.int .i64 1 ∧ wx=w)
 case atStart=>exact ⟨rfl,rfl,rfl⟩
 case round =>
  obtain ⟨_,rfl,rfl⟩:=hrel
  go_wp2
  go_step3
  go_wp2
  go_region_o
  go_wp2
  go_region_with_o (go_at_fn (ρ.f 137); refine (Any.strings_IndexByte { L with } _ _ _).mono ?_; rintro e w' ⟨rfl,hw⟩; rw [hw,hback])
  go_wp2
  rw [Exit.noGoto_ret]
  go_wp2
  rw [Exit.noGoto_ret]
  go_ret
  exact ⟨rfl,((Below.refl _ _).drew).drew⟩
def irE (r:Int):Int:=if r < 128 then Lib.indexByte eE.data.toList r.toNat.toUInt8 else -1
theorem j69 (L:Lays.n152 P ρ) (r:Int) (w:World) (h0:0 ≤ r) (h2:Lib.validRune r=true) :
  Calls P (ρ.f 152) #[.string eE,.int .i32 r] w fun e w'=>e = .returned (.int .i64 (irE r)) ∧ Below w.heap.size w w':=by
 by_cases h:r < 128
 ·refine (Any.strings_IndexRune_ascii L eE r w h0 h).mono ?_
  rintro e w' ⟨rfl,hw⟩
  rw [hw]
  exact ⟨by rw [irE,if_pos h],Below.refl _ _⟩
 ·have e:irE r = -1:=by rw [irE,if_neg h]
  rw [e]
  by_cases h1:r=65533
  ·subst h1; exact j7y L w
  ·have hf:=encode_facts r (by rw [validRune_eq]; exact h2) (by omega)
   by_cases h3:(Utf8.encode r).size=2
   ·exact j7x L r w (by omega) h1 h2 h3
   ·exact j7z L r w (by omega) h1 h2 (by omega) (by omega)
theorem jda (w:World) (b:Nat) (s:ByteArray) (pos:Nat) (ty:TypeId) (hb:w.heap[b]? = some (.stringIter s pos)) (h:pos < s.size) :
  (Instr.next (.pointer (some ⟨b,0,none⟩)) true ty).run P w =
   .ok (.tuple #[.bool true,.int .i64 pos,.int .i32 (Utf8.decode s pos).1]) { w with heap:=w.heap.setIfInBounds b (.stringIter s (pos + (Utf8.decode s pos).2)) }:=by
 simp only [Instr.next,getObj,setObj,Sem.run_bind,Sem.run,hb,Result.andThen,h,if_true]
 simp [goInt]
theorem jbo (w:World) (b:Nat) (s:ByteArray) (pos:Nat) (ty:TypeId) (hb:w.heap[b]? = some (.stringIter s pos)) (h:¬ pos < s.size) :
  (Instr.next (.pointer (some ⟨b,0,none⟩)) true ty).run P w = .ok (.tuple #[.bool false]) w:=by
 simp [Instr.next,getObj,Sem.run,hb,h]
theorem KU (n b0 b1 b2 b3:Nat) (hn:0 < n):1 ≤ (Lib.decodeN n b0 b1 b2 b3).2 ∧ (Lib.decodeN n b0 b1 b2 b3).2 ≤ n ∧ (Lib.decodeN n b0 b1 b2 b3).2 ≤ 4 ∧ (1 < (Lib.decodeN n b0 b1 b2 b3).2 → 128 ≤ b1) ∧ (2 < (Lib.decodeN n b0 b1 b2 b3).2 → 128 ≤ b2) ∧ (3 < (Lib.decodeN n b0 b1 b2 b3).2 → 128 ≤ b3) ∧ (b0 < 128 → (Lib.decodeN n b0 b1 b2 b3).1=b0) ∧ (128 ≤ b0 → 128 ≤ (Lib.decodeN n b0 b1 b2 b3).1):=by
 unfold Lib.decodeN
 repeat' split
 all_goals (refine ⟨?_,?_,?_,?_,?_,?_,?_,?_⟩ <;> intros <;> (first | rfl | (simp only at *; omega)))
theorem jgQ (s:ByteArray) (i:Nat) (h:i < s.size):s.data.toList[i]? = some (s.get! i):=by
 rw [Lib.data_getElem? s i h]
 congr 1
 exact (get_at s i h).symm.trans (by rw [Nat.add_zero])
theorem Zz (x:UInt8) (h:128 ≤ x.toNat):eE.data.toList.contains x=false:=by
 have e:eE.data.toList=[101,69]:=rfl
 rw [e]
 have h1:(x == 101)=false:=beq_eq_false_iff_ne.2 (by rintro rfl; exact absurd h (by decide))
 have h2:(x == 69)=false:=beq_eq_false_iff_ne.2 (by rintro rfl; exact absurd h (by decide))
 simp only [List.contains,List.elem,h1,h2]
theorem jg1 {s:ByteArray} {i:Nat} (hno:Lib.NoAny s.data.toList eE.data.toList i) (hi:i < s.size) (h0:eE.data.toList.contains (s.get! i)=false) :
  Lib.NoAny s.data.toList eE.data.toList (i + (Utf8.decode s i).2):=by
 have hw:=KU (s.size - i) (s.get! i).toNat (s.get! (i + 1)).toNat (s.get! (i + 2)).toNat (s.get! (i + 3)).toNat (by omega)
 rw [← Lib.decode_at] at hw
 intro j b hj hb
 by_cases h:j < i
 ·exact hno j b h hb
 ·have hjs:j < s.size:=by omega
  rw [jgQ s j hjs] at hb
  injection hb with hb
  subst hb
  obtain ⟨k,rfl⟩:∃ k,j=i + k:=⟨j - i,by omega⟩
  rcases k with _ | _ | _ | _ | k
  ·exact h0
  ·exact Zz _ (hw.2.2.2.1 (by omega))
  ·exact Zz _ (hw.2.2.2.2.1 (by omega))
  ·exact Zz _ (hw.2.2.2.2.2.1 (by omega))
  ·omega
theorem jbV {w wx:World} {b:Nat} {o:Obj} (hw:Below b w wx):Below b w { wx with heap:=wx.heap.setIfInBounds b o }:=by
 refine ⟨hw.os,hw.tape,hw.output,?_,fun k hk=>?_⟩
 ·show w.heap.size ≤ (wx.heap.setIfInBounds b o).size
  rw [Array.size_setIfInBounds]; exact hw.size
 ·show (wx.heap.setIfInBounds b o)[k]? = _
  rw [Array.getElem?_setIfInBounds,if_neg (by omega)]
  exact hw.block k hk
theorem jjm (s:ByteArray) (i:Nat) (hi:i < s.size) (h:eE.data.toList.contains (s.get! i)=true):(0:Int) ≤ irE (Utf8.decode s i).1:=by
 have hw:=KU (s.size - i) (s.get! i).toNat (s.get! (i + 1)).toNat (s.get! (i + 2)).toNat (s.get! (i + 3)).toNat (by omega)
 rw [← Lib.decode_at] at hw
 have hx:(s.get! i).toNat < 128:=by
  rcases jA (s.get! i).toNat 128 with h' | h'
  ·exact h'
  ·rw [Zz _ h'] at h; cases h
 have hr:=hw.2.2.2.2.2.2.1 hx
 have hcon:=Lib.contains_iff_indexByte eE.data.toList (s.get! i)
 rw [h] at hcon
 rw [hr,irE,if_pos (by omega)]
 have e:((((s.get! i).toNat:Nat):Int)).toNat.toUInt8=s.get! i:=by simp
 rw [e]
 exact of_decide_eq_true hcon.symm
theorem jjQ (s:ByteArray) (i:Nat) (hi:i < s.size) (h:eE.data.toList.contains (s.get! i)=false):¬ (0:Int) ≤ irE (Utf8.decode s i).1:=by
 have hw:=KU (s.size - i) (s.get! i).toNat (s.get! (i + 1)).toNat (s.get! (i + 2)).toNat (s.get! (i + 3)).toNat (by omega)
 rw [← Lib.decode_at] at hw
 have hcon:=Lib.contains_iff_indexByte eE.data.toList (s.get! i)
 rw [h] at hcon
 unfold irE
 split
 ·rename_i hr
  have hx:(s.get! i).toNat < 128:=by
   rcases jA (s.get! i).toNat 128 with h' | h'
   ·exact h'
   ·have:=hw.2.2.2.2.2.2.2 h'; omega
  have hr:=hw.2.2.2.2.2.2.1 hx
  rw [hr]
  have e:((((s.get! i).toNat:Nat):Int)).toNat.toUInt8=s.get! i:=by simp
  rw [e]
  exact of_decide_eq_false hcon.symm
 ·omega
set_option maxHeartbeats 8000000 in
set_option maxRecDepth 1000000 in
theorem j6a (L:Lays.n153 P ρ) (s:ByteArray) (w:World) (h8:s.size ≤ 8) :
  Calls P (ρ.f 153) #[.string s,.string eE] w fun e w'=>e = .returned (.int .i64 (Lib.indexAny s.data.toList eE.data.toList)) ∧ Below w.heap.size w w':=by
 have hemp:eE.toList.isEmpty=false:=by rw [Lib.toList_data]; rfl
 have hn1:((eE.size:Int) == 1)=false:=by decide
 have h8z:decide ((8:Int) < (s.size:Int))=false:=decide_eq_false (by omega)
 have t3:=L.t3; have a3:=L.a3; have z3:=L.z3; have v3:=L.v3
 have t4:=L.t4; have a4:=L.a4; have z4:=L.z4; have v4:=L.v4
 have t5:=L.t5; have a5:=L.a5; have z5:=L.z5; have v5:=L.v5
 have t9:=L.t9; have a9:=L.a9; have z9:=L.z9; have v9:=L.v9
 have t21:=L.t21; have a21:=L.a21; have z21:=L.z21; have v21:=L.v21
 have e152:∀ args w,(callFunc (ρ.f 152) args).run P w = .ok (.enter (ρ.f 152) args) w:=enters_of L.f152 (by kernel_rfl) rfl
 have e226:∀ args w,(callFunc (ρ.f 226) args).run P w = .ok (.enter (ρ.f 226) args) w:=enters_of L.f226 (by kernel_rfl) rfl
 go_enter L.f153,Body.n153_ntmps ρ
 go_wp2_with (go_at_fn (ρ.f 226); refine (Any.strings_shouldUseASCIISet { L with } _ _).mono ?_; rintro e w' ⟨rfl,hw⟩; rw [hw,h8z])
 go_loopg [9,10] s.size (fun g _ _ wx=>∃ i:Nat,i + g=s.size ∧ wx.heap[w.heap.size]? = some (.stringIter s i) ∧ Below w.heap.size w wx ∧ Lib.NoAny s.data.toList eE.data.toList i)
 case atStart=>exact ⟨0,by omega,World.iter_heap _ _ _,jb0 _ _ _,Lib.NoAny.zero _ _⟩
 case round =>
  obtain ⟨i,hig,hit,hbl,hno⟩:=hrel
  have HN:Aside (Lib.NoAny s.data.toList eE.data.toList i):=hno
  clear hno
  cases gk with
  | zero =>
   obtain rfl:i=s.size:=by omega
   have hnx:=fun ty=>jbo (P:=P) wr w.heap.size s s.size ty hit (by omega)
   go_wp2
   go_ret
   exact ⟨by rw [Lib.indexAny_none (by rw [← Lib.size_eq]; exact HN.out)]; rfl,hbl⟩
  | succ g =>
   have hi:i < s.size:=by omega
   have hnx:=fun ty=>jda (P:=P) wr w.heap.size s i ty hit hi
   have hwd:=KU (s.size - i) (s.get! i).toNat (s.get! (i + 1)).toNat (s.get! (i + 2)).toNat (s.get! (i + 3)).toNat (by omega)
   rw [← Lib.decode_at] at hwd
   have hW1:=hwd.1
   have hW2:=hwd.2.1
   have hrv:Lib.validRune ((Utf8.decode s i).1:Int)=true:=by
    have h:=Lib.decodeN_valid (s.size - i) (s.get! i).toNat (s.get! (i + 1)).toNat (s.get! (i + 2)).toNat (s.get! (i + 3)).toNat (UInt8.toNat_lt _)
    rw [← Lib.decode_at] at h
    simp only [Lib.validRune,decide_eq_true_eq]
    omega
   have HR:Aside (Lib.validRune ((Utf8.decode s i).1:Int)=true):=hrv
   have hbl2:Below w.heap.size w { wr with heap:=wr.heap.setIfInBounds w.heap.size (.stringIter s (i + (Utf8.decode s i).2)) }:=jbV hbl
   have hit2:({ wr with heap:=wr.heap.setIfInBounds w.heap.size (.stringIter s (i + (Utf8.decode s i).2)) }:World).heap[w.heap.size]? = some (.stringIter s (i + (Utf8.decode s i).2)):=by
    have:w.heap.size < wr.heap.size:=(Array.getElem?_eq_some_iff.1 hit).1
    show (wr.heap.setIfInBounds w.heap.size _)[w.heap.size]? = _
    rw [Array.getElem?_setIfInBounds,if_pos rfl,if_pos this]
   generalize hw2:({ wr with heap:=wr.heap.setIfInBounds w.heap.size (.stringIter s (i + (Utf8.decode s i).2)) }:World)=w2 at *
   clear hw2 hwd hrv
   cases hin:eE.data.toList.contains (s.get! i)
   ·have hlt:=jjQ s i hi hin
    have hstep:=jg1 HN.out hi hin
    have HS:Aside (Lib.NoAny s.data.toList eE.data.toList (i + (Utf8.decode s i).2)):=hstep
    clear hstep hin
    generalize hr:(Utf8.decode s i).1=r at *
    generalize hwi:(Utf8.decode s i).2=wi at *
    go_wp2_with (go_at_fn (ρ.f 152); refine (j69 { L with } _ _ (by omega) HR.out).mono ?_; rintro e w3 ⟨rfl,hb3⟩)
    go_roundg (g + 1 - wi)
    case measure=>omega
    case rel =>
     refine ⟨i + wi,by omega,?_,?_,HS.out⟩
     ·rw [hb3.block _ (Array.getElem?_eq_some_iff.1 hit2).1]; exact hit2
     ·exact hbl2.trans (hb3.mono hbl2.size)
   ·have hge:=jjm s i hi hin
    have HX:Aside (Lib.indexAny s.data.toList eE.data.toList=(i:Int)):=Lib.indexAny_hit HN.out (jgQ s i hi) hin
    clear hin
    generalize hr:(Utf8.decode s i).1=r at *
    generalize hwi:(Utf8.decode s i).2=wi at *
    go_wp2_with (go_at_fn (ρ.f 152); refine (j69 { L with } _ _ (by omega) HR.out).mono ?_; rintro e w3 ⟨rfl,hb3⟩)
    go_ret
    exact ⟨by rw [HX.out]; rfl,hbl2.trans (hb3.mono hbl2.size)⟩
theorem j88 (L:Lays.n153 P ρ) (hv116:∀ w,(zeroValue (ρ.t 116)).run P w = .ok (.agg (Array.replicate 256 (.bool false))) w) (hi116:(P.info? (ρ.t 116)).map (·.size)=some 256) (s:ByteArray) (w:World) (hs:s.size < 4294967281) :
  Calls P (ρ.f 153) #[.string s,.string eE] w fun e w'=>e = .returned (.int .i64 (Lib.indexAny s.data.toList [101,69])) ∧ Below w.heap.size w w':=by
 rcases jA 8 s.size with h | h
 ·refine (Any.strings_IndexAny_long L hv116 hi116 s eE w (by decide) h hs (by decide) ?_).mono ?_
  ·intro j b hj
   have e:eE.data.toList=[101,69]:=rfl
   rw [e] at hj
   rcases j with _ | _ | j
   ·injection hj with hj; subst hj; decide
   ·injection hj with hj; subst hj; decide
   ·simp at hj
  ·rintro e w' ⟨rfl,hw⟩
   subst hw
   exact ⟨rfl,((Below.refl _ _).alloc (Nat.le_refl _) _).alloc (by show w.heap.size ≤ (w.heap.push _).size; rw [Array.size_push]; omega) _⟩
 ·exact j6a L s w h
#print axioms j88
end Go.Proofs

namespace Go.Proofs.QV
open Go
open _root_.Bool renaming and_eq_true → jj, and_true → jS
open _root_.List renaming map_cons → jL, append_assoc → jO, singleton_append → jU, length_cons → j4, getElem_mem → je, flatMap_cons → jz, append_nil → jV
open Out renaming andThenB → ja, andThenB_ex → jc
open _root_.Option.some renaming injEq → j5
open _root_.Nat renaming lt_or_ge → jA
set_option linter.unusedVariables false
set_option linter.unusedSimpArgs false
def jgD (e:Nat) (q:List (List DC) → List UInt8 → Option (List UInt8)):Hint → List DC → Option (List DC):=fun h v =>
 match h.tm,h.ob,v with
 | [.one (.sl e'),.one .s],[],[.sl l,.s sep]=>if e'=e then (match q l sep with | some r=>some [.s r] | none=>none) else none
 | _,_,_=>none
section
variable {P:Program} {ty:Nat → Option TI}
theorem jfU {G:Glob} {f:Nat} {fi:FI} {fd:Func} {e:Nat} {q:List (List DC) → List UInt8 → Option (List UInt8)} (h1:P.funcs[f]? = some fd) (h2:(fd.name == "runtime.NumGoroutine")=false) (h3:fd.body.isNone=false)
  (hrk:fi.rk=[(false,[RK.ct .s])]) (hp:fi.prim=some (jgD e q))
  (hq:∀ l sep r a w F,q l sep=some r → G.ok w → RdC ty w (.sl e) (.sl l) a F → Calls P f #[a,.string ⟨sep.toArray⟩] w fun en w'=>en = .returned (.string ⟨r.toArray⟩) ∧ RowKit.Below w.heap.size w w') (hvi:fi.via=none:=by rfl):FnOk P G ty f fi:=by
 refine ⟨⟨fd,h1,h2,h3,fun h=>by rw [hp] at h; simp at h⟩,fun p hpp h v r en=>?_,fun x hx=>(by rw [hvi] at hx; cases hx)⟩
 rw [hp] at hpp
 simp only [j5] at hpp
 subst hpp
 unfold jgD at en
 split at en
 ·rename_i e' l sep htm hob
  split at en
  ·rename_i he
   subst he
   split at en
   ·rename_i r' hqv
    simp only [j5] at en
    subst en
    obtain ⟨tm,ob⟩:=h
    dsimp only at htm hob
    subst htm hob
    intro A g vals w hA hr hs hw hm
    have hs2:vals.size=2:=by simpa using hs
    have t0:=hr.tm 0 _ (vals[0]'(by omega)) (show (JU fi ⟨[.one (.sl e'),.one .s],[]⟩ [.sl l,.s sep]).tm[0]? = some (.one (.sl e' l)) from rfl) (by
     dsimp only
     rw [Array.getElem?_append_left (by omega),Array.getElem?_eq_getElem (by omega)])
    have t1:=hr.tm 1 _ (vals[1]'(by omega)) (show (JU fi ⟨[.one (.sl e'),.one .s],[]⟩ [.sl l,.s sep]).tm[1]? = some (.one (.str sep)) from rfl) (by
     dsimp only
     rw [Array.getElem?_append_left (by omega),Array.getElem?_eq_getElem (by omega)])
    have hv:vals = #[vals[0]'(by omega),.string ⟨sep.toArray⟩]:=by
     apply Array.ext
     ·simp [hs2]
     ·intro i hi1 hi2
      have:i=0 ∨ i=1:=by simp at hi2; omega
      rcases this with rfl | rfl
      ·rfl
      ·exact t1
    obtain ⟨F,t0,-⟩:=t0
    subst hw
    have hc:=hq l sep r' _ A.w0 F hqv hA.1 t0
    rw [← hv] at hc
    refine Calls.mono hc fun en w' hen=>?_
    obtain ⟨rfl,bel⟩:=hen
    refine ⟨QW [.s] [.s r'] 0,rfl,?_⟩
    rw [hrk]
    exact jgM (rcts:=[.s]) (r:=[.s r']) rfl (by rw [hm]; rfl) ⟨bel.os,bel.tape,bel.output,bel.size,fun b hb _ _=>bel.block b hb⟩
   ·simp at en
  ·simp at en
 ·simp at en
theorem j7A {w:World} {l:List (List DC)} {vs:List Value} {F:List Nat} (h:RdV ty w [.s] l vs F):vs=(l.map fun x=>(x.getD 0 d0).ss).map fun s=>Value.string ⟨s.toArray⟩:=by
 cases h with
 | nil=>rfl
 | cons _ x l v vs F G h1 h2 =>
  cases h1 with
  | cons t ts y ys u us F1 F2 a1 a2 =>
   cases a1
   cases a2
   rw [j7A h2]
   rfl
end
end Go.Proofs.QV

namespace Go.Proofs
open Go.Shelf
open _root_.Bool renaming and_eq_true → jj, and_true → jS
open _root_.List renaming map_cons → jL, append_assoc → jO, singleton_append → jU, length_cons → j4, getElem_mem → je, flatMap_cons → jz, append_nil → jV
open _root_.Option.some renaming injEq → j5
open _root_.Nat renaming lt_or_ge → jA
def Tryz.lays153_ren:Go.Shelf.Ren:=⟨fun | 153=>268 | 152=>261 | 226=>275 | 227=>215 | 228=>243 | 137=>188 | 119=>272 | 224=>264 | 225=>263 | 217=>231 | 266=>254 | n=>n,fun | 9=>9 | 3=>3 | 4=>4 | 5=>5 | 21=>21 | 117=>255 | 116=>254 | 0=>0 | 46=>236 | 124=>258 | n=>n,fun | n=>n⟩
theorem Tryz.lays153:Go.Proofs.Lays.n153 Tryz.prog Tryz.lays153_ren:={
 mixed:=by kernel_rfl,
 f119:=Tryz.func272.trans (congrArg some (by kernel_rfl)),
 f137:=Tryz.func188.trans (congrArg some (by kernel_rfl)),
 f152:=Tryz.func261.trans (congrArg some (by kernel_rfl)),
 f153:=Tryz.func268.trans (congrArg some (by kernel_rfl)),
 f217:=Tryz.func231.trans (congrArg some (by kernel_rfl)),
 f224:=Tryz.func264.trans (congrArg some (by kernel_rfl)),
 f225:=Tryz.func263.trans (congrArg some (by kernel_rfl)),
 f226:=Tryz.func275.trans (congrArg some (by kernel_rfl)),
 f227:=Tryz.func215.trans (congrArg some (by kernel_rfl)),
 f228:=Tryz.func243.trans (congrArg some (by kernel_rfl)),
 f266:=Tryz.func254.trans (congrArg some (by kernel_rfl)),
 t0:=Tryz.underlying0,
 a0:=Tryz.isAgg0,
 z0:=Tryz.sizeOf0,
 v0:=Tryz.zeroValue0,
 t3:=Tryz.underlying3,
 a3:=Tryz.isAgg3,
 z3:=Tryz.sizeOf3,
 v3:=Tryz.zeroValue3,
 t4:=Tryz.underlying4,
 a4:=Tryz.isAgg4,
 z4:=Tryz.sizeOf4,
 v4:=Tryz.zeroValue4,
 t5:=Tryz.underlying5,
 a5:=Tryz.isAgg5,
 z5:=Tryz.sizeOf5,
 v5:=Tryz.zeroValue5,
 t9:=Tryz.underlying9,
 a9:=Tryz.isAgg9,
 z9:=Tryz.sizeOf9,
 v9:=Tryz.zeroValue9,
 t21:=Tryz.underlying21,
 a21:=Tryz.isAgg21,
 z21:=Tryz.sizeOf21,
 v21:=Tryz.zeroValue21,
 t46:=Tryz.underlying236,
 a46:=Tryz.isAgg236,
 z46:=Tryz.sizeOf236,
 v46:=Tryz.zeroValue236,
 t116:=Tryz.underlying254,
 a116:=Tryz.isAgg254,
 z116:=Tryz.sizeOf254,
 t117:=Tryz.underlying255,
 a117:=Tryz.isAgg255,
 z117:=Tryz.sizeOf255,
 v117:=Tryz.zeroValue255,
 t124:=Tryz.underlying258,
 a124:=Tryz.isAgg258,
 z124:=Tryz.sizeOf258,
 v124:=Tryz.zeroValue258 }
def Tryz.lays196_ren:Go.Shelf.Ren:=⟨fun | 196=>230 | 259=>253 | n=>n,fun | 9=>9 | 4=>4 | 3=>3 | 5=>5 | 12=>12 | 119=>281 | 0=>0 | 46=>236 | 139=>284 | 138=>283 | 53=>289 | n=>n,fun | 3=>1 | 4=>2 | n=>n⟩
theorem Tryz.lays196:Go.Proofs.Lays.n196 Tryz.prog Tryz.lays196_ren:={
 mixed:=by kernel_rfl,
 f196:=Tryz.func230.trans (congrArg some (by kernel_rfl)),
 f259:=Tryz.func253.trans (congrArg some (by kernel_rfl)),
 t0:=Tryz.underlying0,
 a0:=Tryz.isAgg0,
 z0:=Tryz.sizeOf0,
 v0:=Tryz.zeroValue0,
 t3:=Tryz.underlying3,
 a3:=Tryz.isAgg3,
 z3:=Tryz.sizeOf3,
 v3:=Tryz.zeroValue3,
 t4:=Tryz.underlying4,
 a4:=Tryz.isAgg4,
 z4:=Tryz.sizeOf4,
 v4:=Tryz.zeroValue4,
 t5:=Tryz.underlying5,
 a5:=Tryz.isAgg5,
 z5:=Tryz.sizeOf5,
 v5:=Tryz.zeroValue5,
 t9:=Tryz.underlying9,
 a9:=Tryz.isAgg9,
 z9:=Tryz.sizeOf9,
 v9:=Tryz.zeroValue9,
 t12:=Tryz.underlying12,
 a12:=Tryz.isAgg12,
 z12:=Tryz.sizeOf12,
 v12:=Tryz.zeroValue12,
 t46:=Tryz.underlying236,
 a46:=Tryz.isAgg236,
 z46:=Tryz.sizeOf236,
 v46:=Tryz.zeroValue236,
 t53:=Tryz.underlying289,
 a53:=Tryz.isAgg289,
 z53:=Tryz.sizeOf289,
 v53:=Tryz.zeroValue289,
 t119:=Tryz.underlying281,
 a119:=Tryz.isAgg281,
 z119:=Tryz.sizeOf281,
 t138:=Tryz.underlying283,
 a138:=Tryz.isAgg283,
 z138:=Tryz.sizeOf283,
 v138:=Tryz.zeroValue283,
 t139:=Tryz.underlying284,
 a139:=Tryz.isAgg284,
 z139:=Tryz.sizeOf284,
 v139:=Tryz.zeroValue284,
 g3:=by kernel_rfl,
 g4:=by kernel_rfl }
def Tryz.lays220_ren:Go.Shelf.Ren:=⟨fun | 220=>276 | 219=>247 | 217=>231 | 225=>263 | 224=>264 | 267=>265 | 266=>254 | 314=>273 | n=>n,fun | 9=>9 | 4=>4 | 3=>3 | 5=>5 | 46=>236 | 146=>287 | 51=>286 | n=>n,fun | 1=>0 | n=>n⟩
theorem Tryz.lays220:Go.Proofs.Lays.n220 Tryz.prog Tryz.lays220_ren:={
 mixed:=by kernel_rfl,
 f217:=Tryz.func231.trans (congrArg some (by kernel_rfl)),
 f219:=Tryz.func247.trans (congrArg some (by kernel_rfl)),
 f220:=Tryz.func276.trans (congrArg some (by kernel_rfl)),
 f224:=Tryz.func264.trans (congrArg some (by kernel_rfl)),
 f225:=Tryz.func263.trans (congrArg some (by kernel_rfl)),
 f266:=Tryz.func254.trans (congrArg some (by kernel_rfl)),
 f267:=Tryz.func265.trans (congrArg some (by kernel_rfl)),
 f314:=Tryz.func273.trans (congrArg some (by kernel_rfl)),
 t3:=Tryz.underlying3,
 a3:=Tryz.isAgg3,
 z3:=Tryz.sizeOf3,
 v3:=Tryz.zeroValue3,
 t4:=Tryz.underlying4,
 a4:=Tryz.isAgg4,
 z4:=Tryz.sizeOf4,
 v4:=Tryz.zeroValue4,
 t5:=Tryz.underlying5,
 a5:=Tryz.isAgg5,
 z5:=Tryz.sizeOf5,
 v5:=Tryz.zeroValue5,
 t9:=Tryz.underlying9,
 a9:=Tryz.isAgg9,
 z9:=Tryz.sizeOf9,
 v9:=Tryz.zeroValue9,
 t46:=Tryz.underlying236,
 a46:=Tryz.isAgg236,
 z46:=Tryz.sizeOf236,
 v46:=Tryz.zeroValue236,
 t51:=Tryz.underlying286,
 a51:=Tryz.isAgg286,
 z51:=Tryz.sizeOf286,
 v51:=Tryz.zeroValue286,
 t146:=Tryz.underlying287,
 a146:=Tryz.isAgg287,
 z146:=Tryz.sizeOf287,
 v146:=Tryz.zeroValue287,
 g1:=by kernel_rfl }
def Tryz.lays144_ren:Go.Shelf.Ren:=⟨fun | 144=>170 | 143=>220 | 219=>247 | 217=>231 | 225=>263 | 224=>264 | 267=>265 | 266=>254 | 314=>273 | n=>n,fun | 9=>9 | 4=>4 | 3=>3 | 5=>5 | 46=>236 | 146=>287 | 51=>286 | n=>n,fun | 1=>0 | n=>n⟩
theorem Tryz.lays144:Go.Proofs.Lays.n144 Tryz.prog Tryz.lays144_ren:={
 mixed:=by kernel_rfl,
 f143:=Tryz.func220.trans (congrArg some (by kernel_rfl)),
 f144:=Tryz.func170.trans (congrArg some (by kernel_rfl)),
 f217:=Tryz.func231.trans (congrArg some (by kernel_rfl)),
 f219:=Tryz.func247.trans (congrArg some (by kernel_rfl)),
 f224:=Tryz.func264.trans (congrArg some (by kernel_rfl)),
 f225:=Tryz.func263.trans (congrArg some (by kernel_rfl)),
 f266:=Tryz.func254.trans (congrArg some (by kernel_rfl)),
 f267:=Tryz.func265.trans (congrArg some (by kernel_rfl)),
 f314:=Tryz.func273.trans (congrArg some (by kernel_rfl)),
 t3:=Tryz.underlying3,
 a3:=Tryz.isAgg3,
 z3:=Tryz.sizeOf3,
 v3:=Tryz.zeroValue3,
 t4:=Tryz.underlying4,
 a4:=Tryz.isAgg4,
 z4:=Tryz.sizeOf4,
 v4:=Tryz.zeroValue4,
 t5:=Tryz.underlying5,
 a5:=Tryz.isAgg5,
 z5:=Tryz.sizeOf5,
 v5:=Tryz.zeroValue5,
 t9:=Tryz.underlying9,
 a9:=Tryz.isAgg9,
 z9:=Tryz.sizeOf9,
 v9:=Tryz.zeroValue9,
 t46:=Tryz.underlying236,
 a46:=Tryz.isAgg236,
 z46:=Tryz.sizeOf236,
 v46:=Tryz.zeroValue236,
 t51:=Tryz.underlying286,
 a51:=Tryz.isAgg286,
 z51:=Tryz.sizeOf286,
 v51:=Tryz.zeroValue286,
 t146:=Tryz.underlying287,
 a146:=Tryz.isAgg287,
 z146:=Tryz.sizeOf287,
 v146:=Tryz.zeroValue287,
 g1:=by kernel_rfl }
def Tryz.lays160_ren:Go.Shelf.Ren:=⟨fun | 160=>169 | 232=>214 | 231=>213 | 227=>215 | 234=>217 | 233=>216 | 236=>219 | 235=>218 | 228=>243 | 271=>246 | 151=>245 | 197=>244 | 120=>262 | 152=>261 | 260=>260 | 137=>188 | 119=>272 | 224=>264 | 225=>263 | 217=>231 | 266=>254 | n=>n,fun | 9=>9 | 4=>4 | 3=>3 | 5=>5 | 117=>255 | 116=>254 | 0=>0 | 124=>258 | 21=>21 | 105=>276 | 46=>236 | 119=>281 | 139=>284 | 138=>283 | n=>n,fun | 3=>1 | 4=>2 | n=>n⟩
theorem Tryz.lays160:Go.Proofs.Lays.n160 Tryz.prog Tryz.lays160_ren:={
 mixed:=by kernel_rfl,
 f119:=Tryz.func272.trans (congrArg some (by kernel_rfl)),
 f120:=Tryz.func262.trans (congrArg some (by kernel_rfl)),
 f137:=Tryz.func188.trans (congrArg some (by kernel_rfl)),
 f151:=Tryz.func245.trans (congrArg some (by kernel_rfl)),
 f152:=Tryz.func261.trans (congrArg some (by kernel_rfl)),
 f160:=Tryz.func169.trans (congrArg some (by kernel_rfl)),
 f197:=Tryz.func244.trans (congrArg some (by kernel_rfl)),
 f217:=Tryz.func231.trans (congrArg some (by kernel_rfl)),
 f224:=Tryz.func264.trans (congrArg some (by kernel_rfl)),
 f225:=Tryz.func263.trans (congrArg some (by kernel_rfl)),
 f227:=Tryz.func215.trans (congrArg some (by kernel_rfl)),
 f228:=Tryz.func243.trans (congrArg some (by kernel_rfl)),
 f231:=Tryz.func213.trans (congrArg some (by kernel_rfl)),
 f232:=Tryz.func214.trans (congrArg some (by kernel_rfl)),
 f233:=Tryz.func216.trans (congrArg some (by kernel_rfl)),
 f234:=Tryz.func217.trans (congrArg some (by kernel_rfl)),
 f235:=Tryz.func218.trans (congrArg some (by kernel_rfl)),
 f236:=Tryz.func219.trans (congrArg some (by kernel_rfl)),
 f260:=Tryz.func260.trans (congrArg some (by kernel_rfl)),
 f266:=Tryz.func254.trans (congrArg some (by kernel_rfl)),
 f271:=Tryz.func246.trans (congrArg some (by kernel_rfl)),
 t0:=Tryz.underlying0,
 a0:=Tryz.isAgg0,
 z0:=Tryz.sizeOf0,
 v0:=Tryz.zeroValue0,
 t3:=Tryz.underlying3,
 a3:=Tryz.isAgg3,
 z3:=Tryz.sizeOf3,
 v3:=Tryz.zeroValue3,
 t4:=Tryz.underlying4,
 a4:=Tryz.isAgg4,
 z4:=Tryz.sizeOf4,
 v4:=Tryz.zeroValue4,
 t5:=Tryz.underlying5,
 a5:=Tryz.isAgg5,
 z5:=Tryz.sizeOf5,
 v5:=Tryz.zeroValue5,
 t9:=Tryz.underlying9,
 a9:=Tryz.isAgg9,
 z9:=Tryz.sizeOf9,
 v9:=Tryz.zeroValue9,
 t21:=Tryz.underlying21,
 a21:=Tryz.isAgg21,
 z21:=Tryz.sizeOf21,
 v21:=Tryz.zeroValue21,
 t46:=Tryz.underlying236,
 a46:=Tryz.isAgg236,
 z46:=Tryz.sizeOf236,
 v46:=Tryz.zeroValue236,
 t105:=Tryz.underlying276,
 a105:=Tryz.isAgg276,
 z105:=Tryz.sizeOf276,
 v105:=Tryz.zeroValue276,
 t116:=Tryz.underlying254,
 a116:=Tryz.isAgg254,
 z116:=Tryz.sizeOf254,
 t117:=Tryz.underlying255,
 a117:=Tryz.isAgg255,
 z117:=Tryz.sizeOf255,
 v117:=Tryz.zeroValue255,
 t119:=Tryz.underlying281,
 a119:=Tryz.isAgg281,
 z119:=Tryz.sizeOf281,
 t124:=Tryz.underlying258,
 a124:=Tryz.isAgg258,
 z124:=Tryz.sizeOf258,
 v124:=Tryz.zeroValue258,
 t138:=Tryz.underlying283,
 a138:=Tryz.isAgg283,
 z138:=Tryz.sizeOf283,
 v138:=Tryz.zeroValue283,
 t139:=Tryz.underlying284,
 a139:=Tryz.isAgg284,
 z139:=Tryz.sizeOf284,
 v139:=Tryz.zeroValue284,
 g3:=by kernel_rfl,
 g4:=by kernel_rfl }
def Tryz.lays156_ren:Go.Shelf.Ren:=⟨fun | 156=>61 | 165=>119 | 166=>120 | 169=>121 | 240=>173 | 241=>174 | 276=>222 | 277=>223 | n=>n,fun | 31=>29 | 9=>9 | 3=>3 | 4=>4 | 0=>0 | 20=>20 | 72=>185 | 76=>189 | 70=>183 | 37=>79 | 75=>188 | 127=>228 | 164=>261 | 5=>5 | 80=>191 | n=>n,fun | n=>n⟩
theorem Tryz.lays156:Go.Proofs.Lays.n156 Tryz.prog Tryz.lays156_ren:={
 mixed:=by kernel_rfl,
 f156:=Tryz.func61.trans (congrArg some (by kernel_rfl)),
 f165:=Tryz.func119.trans (congrArg some (by kernel_rfl)),
 f166:=Tryz.func120.trans (congrArg some (by kernel_rfl)),
 f169:=Tryz.func121.trans (congrArg some (by kernel_rfl)),
 f240:=Tryz.func173.trans (congrArg some (by kernel_rfl)),
 f241:=Tryz.func174.trans (congrArg some (by kernel_rfl)),
 f276:=Tryz.func222.trans (congrArg some (by kernel_rfl)),
 f277:=Tryz.func223.trans (congrArg some (by kernel_rfl)),
 t0:=Tryz.underlying0,
 a0:=Tryz.isAgg0,
 z0:=Tryz.sizeOf0,
 v0:=Tryz.zeroValue0,
 t3:=Tryz.underlying3,
 a3:=Tryz.isAgg3,
 z3:=Tryz.sizeOf3,
 v3:=Tryz.zeroValue3,
 t4:=Tryz.underlying4,
 a4:=Tryz.isAgg4,
 z4:=Tryz.sizeOf4,
 v4:=Tryz.zeroValue4,
 t9:=Tryz.underlying9,
 a9:=Tryz.isAgg9,
 z9:=Tryz.sizeOf9,
 v9:=Tryz.zeroValue9,
 t20:=Tryz.underlying20,
 a20:=Tryz.isAgg20,
 z20:=Tryz.sizeOf20,
 v20:=Tryz.zeroValue20,
 t31:=Tryz.underlying29,
 a31:=Tryz.isAgg29,
 z31:=Tryz.sizeOf29,
 v31:=Tryz.zeroValue29,
 t37:=Tryz.underlying79,
 a37:=Tryz.isAgg79,
 z37:=Tryz.sizeOf79,
 v37:=Tryz.zeroValue79,
 t70:=Tryz.underlying183,
 a70:=Tryz.isAgg183,
 z70:=Tryz.sizeOf183,
 v70:=Tryz.zeroValue183,
 t72:=Tryz.underlying185,
 a72:=Tryz.isAgg185,
 z72:=Tryz.sizeOf185,
 v72:=Tryz.zeroValue185,
 t75:=Tryz.underlying188,
 a75:=Tryz.isAgg188,
 z75:=Tryz.sizeOf188,
 v75:=Tryz.zeroValue188,
 t76:=Tryz.underlying189,
 a76:=Tryz.isAgg189,
 z76:=Tryz.sizeOf189,
 v76:=Tryz.zeroValue189,
 t127:=Tryz.underlying228,
 a127:=Tryz.isAgg228,
 z127:=Tryz.sizeOf228,
 v127:=Tryz.zeroValue228,
 t164:=Tryz.underlying261,
 a164:=Tryz.isAgg261,
 z164:=Tryz.sizeOf261,
 v164:=Tryz.zeroValue261 }
def Tryz.lays105_ren:Go.Shelf.Ren:=⟨fun | 105=>211 | 212=>240 | 99=>241 | 165=>119 | 166=>120 | 170=>242 | 169=>121 | 263=>257 | 264=>258 | 206=>259 | 240=>173 | 241=>174 | 276=>222 | 277=>223 | n=>n,fun | 9=>9 | 3=>3 | 4=>4 | 20=>20 | 0=>0 | 46=>236 | 109=>273 | 5=>5 | 72=>185 | 76=>189 | 51=>286 | 146=>287 | 53=>289 | 148=>290 | 70=>183 | 37=>79 | 75=>188 | 127=>228 | 164=>261 | 80=>191 | n=>n,fun | n=>n⟩
theorem Tryz.lays105:Go.Proofs.Lays.n105 Tryz.prog Tryz.lays105_ren:={
 mixed:=by kernel_rfl,
 f99:=Tryz.func241.trans (congrArg some (by kernel_rfl)),
 f105:=Tryz.func211.trans (congrArg some (by kernel_rfl)),
 f165:=Tryz.func119.trans (congrArg some (by kernel_rfl)),
 f166:=Tryz.func120.trans (congrArg some (by kernel_rfl)),
 f169:=Tryz.func121.trans (congrArg some (by kernel_rfl)),
 f170:=Tryz.func242.trans (congrArg some (by kernel_rfl)),
 f206:=Tryz.func259.trans (congrArg some (by kernel_rfl)),
 f212:=Tryz.func240.trans (congrArg some (by kernel_rfl)),
 f240:=Tryz.func173.trans (congrArg some (by kernel_rfl)),
 f241:=Tryz.func174.trans (congrArg some (by kernel_rfl)),
 f263:=Tryz.func257.trans (congrArg some (by kernel_rfl)),
 f264:=Tryz.func258.trans (congrArg some (by kernel_rfl)),
 f276:=Tryz.func222.trans (congrArg some (by kernel_rfl)),
 f277:=Tryz.func223.trans (congrArg some (by kernel_rfl)),
 t0:=Tryz.underlying0,
 a0:=Tryz.isAgg0,
 z0:=Tryz.sizeOf0,
 v0:=Tryz.zeroValue0,
 t3:=Tryz.underlying3,
 a3:=Tryz.isAgg3,
 z3:=Tryz.sizeOf3,
 v3:=Tryz.zeroValue3,
 t4:=Tryz.underlying4,
 a4:=Tryz.isAgg4,
 z4:=Tryz.sizeOf4,
 v4:=Tryz.zeroValue4,
 t5:=Tryz.underlying5,
 a5:=Tryz.isAgg5,
 z5:=Tryz.sizeOf5,
 v5:=Tryz.zeroValue5,
 t9:=Tryz.underlying9,
 a9:=Tryz.isAgg9,
 z9:=Tryz.sizeOf9,
 v9:=Tryz.zeroValue9,
 t20:=Tryz.underlying20,
 a20:=Tryz.isAgg20,
 z20:=Tryz.sizeOf20,
 v20:=Tryz.zeroValue20,
 t37:=Tryz.underlying79,
 a37:=Tryz.isAgg79,
 z37:=Tryz.sizeOf79,
 v37:=Tryz.zeroValue79,
 t46:=Tryz.underlying236,
 a46:=Tryz.isAgg236,
 z46:=Tryz.sizeOf236,
 v46:=Tryz.zeroValue236,
 t51:=Tryz.underlying286,
 a51:=Tryz.isAgg286,
 z51:=Tryz.sizeOf286,
 v51:=Tryz.zeroValue286,
 t53:=Tryz.underlying289,
 a53:=Tryz.isAgg289,
 z53:=Tryz.sizeOf289,
 v53:=Tryz.zeroValue289,
 t70:=Tryz.underlying183,
 a70:=Tryz.isAgg183,
 z70:=Tryz.sizeOf183,
 v70:=Tryz.zeroValue183,
 t72:=Tryz.underlying185,
 a72:=Tryz.isAgg185,
 z72:=Tryz.sizeOf185,
 v72:=Tryz.zeroValue185,
 t75:=Tryz.underlying188,
 a75:=Tryz.isAgg188,
 z75:=Tryz.sizeOf188,
 v75:=Tryz.zeroValue188,
 t76:=Tryz.underlying189,
 a76:=Tryz.isAgg189,
 z76:=Tryz.sizeOf189,
 v76:=Tryz.zeroValue189,
 t109:=Tryz.underlying273,
 a109:=Tryz.isAgg273,
 z109:=Tryz.sizeOf273,
 v109:=Tryz.zeroValue273,
 t127:=Tryz.underlying228,
 a127:=Tryz.isAgg228,
 z127:=Tryz.sizeOf228,
 v127:=Tryz.zeroValue228,
 t146:=Tryz.underlying287,
 a146:=Tryz.isAgg287,
 z146:=Tryz.sizeOf287,
 v146:=Tryz.zeroValue287,
 t148:=Tryz.underlying290,
 a148:=Tryz.isAgg290,
 z148:=Tryz.sizeOf290,
 v148:=Tryz.zeroValue290,
 t164:=Tryz.underlying261,
 a164:=Tryz.isAgg261,
 z164:=Tryz.sizeOf261,
 v164:=Tryz.zeroValue261 }
def Tryz.lays217_ren:Go.Shelf.Ren:=⟨fun | 217=>231 | 266=>254 | n=>n,fun | 9=>9 | 5=>5 | 3=>3 | n=>n,fun | n=>n⟩
theorem Tryz.lays217:Go.Proofs.Lays.n217 Tryz.prog Tryz.lays217_ren:={
 mixed:=by kernel_rfl,
 f217:=Tryz.func231.trans (congrArg some (by kernel_rfl)),
 f266:=Tryz.func254.trans (congrArg some (by kernel_rfl)),
 t3:=Tryz.underlying3,
 a3:=Tryz.isAgg3,
 z3:=Tryz.sizeOf3,
 v3:=Tryz.zeroValue3,
 t5:=Tryz.underlying5,
 a5:=Tryz.isAgg5,
 z5:=Tryz.sizeOf5,
 v5:=Tryz.zeroValue5,
 t9:=Tryz.underlying9,
 a9:=Tryz.isAgg9,
 z9:=Tryz.sizeOf9,
 v9:=Tryz.zeroValue9 }
end Go.Proofs
namespace Go.Proofs.QV
open Go
open _root_.Bool renaming and_eq_true → jj, and_true → jS
open _root_.List renaming map_cons → jL, append_assoc → jO, singleton_append → jU, length_cons → j4, getElem_mem → je, flatMap_cons → jz, append_nil → jV
open Out renaming andThenB → ja, andThenB_ex → jc
open _root_.Option.some renaming injEq → j5
open _root_.Nat renaming lt_or_ge → jA
set_option linter.unusedVariables false
set_option maxRecDepth 100000
def gOk (w:World):Prop:=(Lib.Utf8Tabs 1 2 w) ∧ (∃ m,w.cell? ⟨0,0,none⟩=some (.int .i64 m))
theorem jjn (w w':World) (h:∀ b,(b=1 ∨ b=2 ∨ b=0) → w'.heap[b]? = w.heap[b]?) (k:gOk w):gOk w':=by
 have h1:∀ o,w'.cell? ⟨1,o,none⟩=w.cell? ⟨1,o,none⟩:=fun o=>World.cell?_of_block (h 1 (by simp))
 have h2:∀ o,w'.cell? ⟨2,o,none⟩=w.cell? ⟨2,o,none⟩:=fun o=>World.cell?_of_block (h 2 (by simp))
 have h0:∀ o,w'.cell? ⟨0,o,none⟩=w.cell? ⟨0,o,none⟩:=fun o=>World.cell?_of_block (h 0 (by simp))
 obtain ⟨⟨k1,k2⟩,m,k3⟩:=k
 exact ⟨⟨fun c hc=>(h1 _).trans (k1 c hc),fun i hi=>⟨(h2 _).trans (k2 i hi).1,(h2 _).trans (k2 i hi).2⟩⟩,m,(h0 _).trans k3⟩
def G:Glob:=⟨fun b=>b=1 ∨ b=2 ∨ b=0,gOk,jjn⟩
theorem jeU:Builder.Extra Tryz.prog Tryz.lays156_ren where
 sizeBuilder:=by kernel_rfl
 liesBuilder:=by kernel_rfl
 t5:=Tryz.underlying5
 a5:=Tryz.isAgg5
 z5:=Tryz.sizeOf5
 v5:=Tryz.zeroValue5
 infoByte:=by kernel_rfl
 cellsByte:=by kernel_rfl
 sizeByte:=by kernel_rfl
 neB5:=by decide
theorem jiI:Builder.Extra Tryz.prog Tryz.lays105_ren where
 sizeBuilder:=by kernel_rfl
 liesBuilder:=by kernel_rfl
 t5:=Tryz.underlying5
 a5:=Tryz.isAgg5
 z5:=Tryz.sizeOf5
 v5:=Tryz.zeroValue5
 infoByte:=by kernel_rfl
 cellsByte:=by kernel_rfl
 sizeByte:=by kernel_rfl
 neB5:=by decide
def YB (v:List DC):Option (List DC):=match v with
 | [.s s,.s c]=>if s.length < 4294967281 ∧ c=[101,69] then some [.i (Lib.indexAny s [101,69])] else none
 | _=>none
theorem jbT (v r:List DC) (w:World) (hq:YB v=some r) (hG:G.ok w):Calls Tryz.prog 268 (QW [.s,.s] v 0).toArray w fun e w'=>e = .returned (Kd (QW [.i .i64] r 0)) ∧ RowKit.Below w.heap.size w w':=by
 unfold YB at hq
 split at hq
 ·rename_i s c
  split at hq
  ·rename_i hs
   obtain ⟨hs,rfl⟩:=hs
   injection hq with hq
   subst hq
   have h116:(Tryz.prog.info? (Tryz.lays153_ren.t 116)).map (fun i=>(i.zero,i.size))=some (some (.agg (Array.replicate 256 (.bool false))),256):=by kernel_rfl
   refine Calls.mono (j88 Tryz.lays153 (zero_of_info h116).1 (zero_of_info h116).2 ⟨s.toArray⟩ w (by rw [Lib.size_eq]; simpa using hs)) fun e w' h=>?_
   obtain ⟨rfl,h⟩:=h
   exact ⟨rfl,h⟩
  ·cases hq
 ·cases hq
def KQ (v:List DC):Option (List DC):=match v with
 | [.s s]=>if s.length ≤ 9223372036854775807 then some [.b (Lib.validD s)] else none
 | _=>none
theorem j7q (v r:List DC) (w:World) (hq:KQ v=some r) (hG:G.ok w):Calls Tryz.prog 230 (QW [.s] v 0).toArray w fun e w'=>e = .returned (Kd (QW [.b] r 0)) ∧ RowKit.Below w.heap.size w w':=by
 unfold KQ at hq
 split at hq
 ·rename_i s
  split at hq
  ·rename_i hs
   injection hq with hq
   subst hq
   refine Calls.mono (Any.utf8_ValidString Tryz.lays196 ⟨s.toArray⟩ w (by rw [Lib.size_eq]; simpa using hs) hG.1) fun e w' h=>?_
   obtain ⟨rfl,h⟩:=h
   exact ⟨rfl,h⟩
  ·cases hq
 ·cases hq
def jhi (v:List DC):Option (List DC):=match v with
 | [.s s,.s c]=>if s.length < 4294967281 then some [.s (Lib.cut s c).1,.s (Lib.cut s c).2.1,.b (Lib.cut s c).2.2] else none
 | _=>none
theorem jiU (v r:List DC) (w:World) (hq:jhi v=some r) (hG:G.ok w):Calls Tryz.prog 276 (QW [.s,.s] v 0).toArray w fun e w'=>e = .returned (Kd (QW [.s,.s,.b] r 0)) ∧ RowKit.Below w.heap.size w w':=by
 unfold jhi at hq
 split at hq
 ·rename_i s c
  split at hq
  ·rename_i hs
   injection hq with hq
   subst hq
   obtain ⟨m,hm⟩:=hG.2
   refine Calls.mono (Any.stringslite_Cut Tryz.lays220 ⟨s.toArray⟩ ⟨c.toArray⟩ m w (by rw [Lib.size_eq]; simpa using hs) hm) fun e w' h=>?_
   obtain ⟨rfl,k,rfl⟩:=h
   exact ⟨rfl,below_drewN _ _⟩
  ·cases hq
 ·cases hq
def YC (v:List DC):Option (List DC):=match v with
 | [.s s,.s c]=>if s.length < 4294967281 then some [.b (Lib.contains s c)] else none
 | _=>none
theorem jbU (v r:List DC) (w:World) (hq:YC v=some r) (hG:G.ok w):Calls Tryz.prog 170 (QW [.s,.s] v 0).toArray w fun e w'=>e = .returned (Kd (QW [.b] r 0)) ∧ RowKit.Below w.heap.size w w':=by
 unfold YC at hq
 split at hq
 ·rename_i s c
  split at hq
  ·rename_i hs
   injection hq with hq
   subst hq
   obtain ⟨m,hm⟩:=hG.2
   refine Calls.mono (Any.strings_Contains Tryz.lays144 ⟨s.toArray⟩ ⟨c.toArray⟩ m w (by rw [Lib.size_eq]; simpa using hs) hm) fun e w' h=>?_
   obtain ⟨rfl,rfl⟩:=h
   exact ⟨rfl,RowKit.Below.refl _ _⟩
  ·cases hq
 ·cases hq
def jco (v:List DC):Option (List DC):=match v with
 | [.s s,.s c]=>if s.length ≤ 9223372036854775807 ∧ c.length < 4294967281 ∧ c.all (fun b=>decide (b.toNat < 128))=true then some [.s (Lib.trimS s c)] else none
 | _=>none
theorem jhA (v r:List DC) (w:World) (hq:jco v=some r) (hG:G.ok w):Calls Tryz.prog 169 (QW [.s,.s] v 0).toArray w fun e w'=>e = .returned (Kd (QW [.s] r 0)) ∧ RowKit.Below w.heap.size w w':=by
 unfold jco at hq
 split at hq
 ·rename_i s c
  split at hq
  ·rename_i hs
   obtain ⟨hs,hc,ha⟩:=hs
   injection hq with hq
   subst hq
   have h116:(Tryz.prog.info? (Tryz.lays160_ren.t 116)).map (fun i=>(i.zero,i.size))=some (some (.agg (Array.replicate 256 (.bool false))),256):=by kernel_rfl
   refine Calls.mono (Any.strings_Trim_ascii Tryz.lays160 (zero_of_info h116).1 (zero_of_info h116).2 ⟨s.toArray⟩ ⟨c.toArray⟩ w (by rw [Lib.size_eq]; simpa using hs) (by rw [Lib.size_eq]; simpa using hc) fun j b hj=>of_decide_eq_true (List.all_eq_true.1 ha b (List.mem_of_getElem? hj))) fun e w' h=>?_
   obtain ⟨rfl,h⟩:=h
   exact ⟨rfl,h⟩
  ·cases hq
 ·cases hq
def j5a (l:List (List DC)) (sep:List UInt8):Option (List UInt8):=if l.length ≤ 140737488355328 ∧ (Lib.join (l.map fun x=>(x.getD 0 d0).ss) sep).length ≤ 140737488355328 then some (Lib.join (l.map fun x=>(x.getD 0 d0).ss) sep) else none
theorem jhB {ty:Nat → Option TI} {e:Nat} (hty:∀ te,ty e=some te → te.cts=[.s]) (l:List (List DC)) (sep r:List UInt8) (a:Value) (w:World) (F:List Nat) (hq:j5a l sep=some r) (hG:G.ok w) (hr:RdC ty w (.sl e) (.sl l) a F) :
  Calls Tryz.prog 61 #[a,.string ⟨sep.toArray⟩] w fun en w'=>en = .returned (.string ⟨r.toArray⟩) ∧ RowKit.Below w.heap.size w w':=by
 unfold j5a at hq
 split at hq
 ·rename_i hs
  obtain ⟨hs1,hs2⟩:=hs
  injection hq with hq
  subst hq
  cases hr with
  | nil _ a c =>
   refine Calls.mono (Any.strings_Join_none Tryz.lays156 jeU a c ⟨sep.toArray⟩ w) fun en w' h=>?_
   obtain ⟨h1,rfl⟩:=h
   exact ⟨h1,RowKit.Below.refl _ _⟩
  | sl _ ti b off n cap l vs F h1 h0 h2 h3 h4 h5 h6 =>
   rw [hty ti h1] at h6
   have hv:=j7A h6
   subst hv h2
   have hb:b < w.heap.size:=by
    cases l with
    | nil=>exact absurd rfl h3
    | cons x l =>
     have hc:=h5 0 _ rfl
     rcases jA b w.heap.size with h' | h'
     ·exact h'
     ·have hn:w.heap[b]? = none:=Array.getElem?_eq_none h'
      unfold World.cell? at hc
      simp [hn] at hc
   have e1:(l.map fun x=>(⟨((x.getD 0 d0).ss).toArray⟩:ByteArray)).map (·.data.toList)=l.map fun x=>(x.getD 0 d0).ss:=by
    rw [List.map_map]
    rfl
   have hJ:=Any.strings_Join Tryz.lays156 jeU b off cap (l.map fun x=>(⟨((x.getD 0 d0).ss).toArray⟩:ByteArray)) ⟨sep.toArray⟩ w (fun j x hx=>h5 j _ (by
    rw [List.getElem?_map] at hx
    rw [List.getElem?_map,List.getElem?_map]
    cases hj:l[j]? with
    | none=>rw [hj] at hx; simp at hx
    | some y=>rw [hj] at hx; simp only [Option.map_some,j5] at hx; subst hx; rfl)) hb (by rw [List.length_map]; exact hs1) (by rw [List.length_map]; exact h4) (by rw [e1]; exact hs2)
   rw [e1,List.length_map] at hJ
   exact hJ
 ·cases hq
def Yr (v:List DC):Option (List DC):=match v with
 | [.s s,.i c]=>if 0 ≤ c ∧ c ≤ 9223372036854775807 ∧ s.length * c.toNat ≤ 140737488355328 then some [.s (Lib.repeatL s c.toNat)] else none
 | _=>none
theorem jf5 (v r:List DC) (w:World) (hq:Yr v=some r) (hG:G.ok w):Calls Tryz.prog 211 (QW [.s,.i .i64] v 0).toArray w fun e w'=>e = .returned (Kd (QW [.s] r 0)) ∧ RowKit.Below w.heap.size w w':=by
 unfold Yr at hq
 split at hq
 ·rename_i s c
  split at hq
  ·rename_i hs
   obtain ⟨h1,h2,h3⟩:=hs
   injection hq with hq
   subst hq
   have hc:c=((c.toNat:Nat):Int):=by omega
   have hR:=Any.strings_Repeat Tryz.lays105 jiI ⟨s.toArray⟩ c.toNat w (by omega) (by rw [Lib.size_eq]; simpa using h3)
   rw [← hc] at hR
   exact hR
  ·cases hq
 ·cases hq
def YU (v:List DC):Option (List DC):=match v with
 | [.s s,.i c]=>some [.i (Lib.indexByte s c.toNat.toUInt8)]
 | _=>none
theorem jaY (v r:List DC) (w:World) (hq:YU v=some r) (hG:G.ok w):Calls Tryz.prog 231 (QW [.s,.i .u8] v 0).toArray w fun e w'=>e = .returned (Kd (QW [.i .i64] r 0)) ∧ RowKit.Below w.heap.size w w':=by
 unfold YU at hq
 split at hq
 ·rename_i s c
  injection hq with hq
  subst hq
  refine Calls.mono (Any.stringslite_IndexByte Tryz.lays217 ⟨s.toArray⟩ c w) fun e w' h=>?_
  obtain ⟨rfl,rfl⟩:=h
  exact ⟨rfl,RowKit.Below.refl _ _⟩
 ·cases hq
abbrev ou:KC:=.one .u
abbrev ob:KC:=.one .b
abbrev os:KC:=.one .s
abbrev oi:KC:=.one (.i .i64)
abbrev ol (e:Nat):KC:=.one (.sl e)
def uu (n:Nat) (l:List KC):List KC:=List.replicate n (.one .u) ++ l
def vv (n:Nat) (l:List KO):List KO:=List.replicate n .u ++ l
noncomputable def tyL:List (Nat × TI):=[(3,⟨.int .i64,[.i .i64],8,[],false⟩),
 (4,⟨.bool,[.b],1,[],false⟩),
 (5,⟨.int .u8,[.i .u8],1,[],false⟩),
 (9,⟨.str,[.s],16,[],false⟩),
 (22,⟨.slice 137,[.sl 137],24,[],false⟩),
 (23,⟨.slice 141,[.sl 141],24,[],false⟩),
 (24,⟨.slice 144,[.sl 144],24,[],false⟩),
 (26,⟨.struct,[.i .i64,.s,.sl 137,.sl 141,.sl 144],96,[(0,1,false),(1,1,false),(2,1,false),(3,1,false),(4,1,false)],false⟩),
 (28,⟨.struct,[.s,.s,.sl 141,.sl 144],80,[(0,1,false),(1,1,false),(2,1,false),(3,1,false)],false⟩),
 (29,⟨.slice 9,[.sl 9],24,[],false⟩),
 (30,⟨.slice 147,[.sl 147],24,[],false⟩),
 (31,⟨.slice 150,[.sl 150],24,[],false⟩),
 (32,⟨.slice 153,[.sl 153],24,[],false⟩),
 (33,⟨.slice 155,[.sl 155],24,[],false⟩),
 (35,⟨.struct,[.i .i64,.b,.s,.s,.sl 9,.sl 147,.sl 150,.sl 153,.sl 155,.b,.sl 141],200,[(0,1,false),(1,1,false),(2,1,false),(3,1,false),(4,1,false),(5,1,false),(6,1,false),(7,1,false),(8,1,false),(9,1,false),(10,1,false)],false⟩),
 (37,⟨.struct,[.i .i64,.i .i64,.s,.sl 137,.sl 141,.sl 144,.s,.s,.sl 141,.sl 144,.i .i64,.b,.s,.s,.sl 9,.sl 147,.sl 150,.sl 153,.sl 155,.b,.sl 141],384,[(0,1,false),(1,5,true),(6,4,true),(10,11,true)],false⟩),
 (40,⟨.slice 115,[.sl 115],24,[],false⟩),
 (41,⟨.slice 166,[.sl 166],24,[],false⟩),
 (42,⟨.slice 162,[.sl 162],24,[],false⟩),
 (44,⟨.struct,[.i .i64,.s,.sl 115,.sl 166,.sl 162],96,[(0,1,false),(1,1,false),(2,1,false),(3,1,false),(4,1,false)],false⟩),
 (46,⟨.struct,[.s,.s,.sl 166,.sl 162],80,[(0,1,false),(1,1,false),(2,1,false),(3,1,false)],false⟩),
 (47,⟨.slice 93,[.sl 93],24,[],false⟩),
 (48,⟨.slice 104,[.sl 104],24,[],false⟩),
 (49,⟨.slice 96,[.sl 96],24,[],false⟩),
 (50,⟨.slice 98,[.sl 98],24,[],false⟩),
 (52,⟨.struct,[.i .i64,.b,.s,.s,.sl 9,.sl 93,.sl 104,.sl 96,.sl 98,.b,.sl 166],200,[(0,1,false),(1,1,false),(2,1,false),(3,1,false),(4,1,false),(5,1,false),(6,1,false),(7,1,false),(8,1,false),(9,1,false),(10,1,false)],false⟩),
 (54,⟨.struct,[.i .i64,.i .i64,.s,.sl 115,.sl 166,.sl 162,.s,.s,.sl 166,.sl 162,.i .i64,.b,.s,.s,.sl 9,.sl 93,.sl 104,.sl 96,.sl 98,.b,.sl 166],384,[(0,1,false),(1,5,true),(6,4,true),(10,11,true)],false⟩),
 (79,⟨.slice 5,[.sl 5],24,[],false⟩),
 (91,⟨.struct,[.s,.s],32,[(0,1,false),(1,1,false)],false⟩),
 (93,⟨.struct,[.s,.s,.sl 104,.s,.s,.sl 166],112,[(0,1,false),(1,1,false),(2,1,false),(3,2,true),(5,1,false)],false⟩),
 (96,⟨.struct,[.s,.s,.sl 166],56,[(0,1,false),(1,1,false),(2,1,false)],false⟩),
 (98,⟨.struct,[.i .i64,.s],24,[(0,1,false),(1,1,false)],false⟩),
 (100,⟨.slice 102,[.sl 102],24,[],false⟩),
 (102,⟨.struct,[.i .i64,.s,.sl 102,.sl 9],72,[(0,1,false),(1,1,false),(2,1,false),(3,1,false)],false⟩),
 (104,⟨.struct,[.s,.s,.s,.s,.b,.i .i64,.s,.sl 102,.sl 9,.sl 166],168,[(0,1,false),(1,1,false),(2,2,true),(4,1,false),(5,4,true),(9,1,false)],false⟩),
 (115,⟨.struct,[.s,.s,.s,.b,.i .i64,.s,.sl 102,.sl 9,.sl 166],152,[(0,1,false),(1,2,true),(3,1,false),(4,4,true),(8,1,false)],false⟩),
 (132,⟨.struct,[.s,.s],32,[(0,1,false),(1,1,false)],false⟩),
 (133,⟨.slice 135,[.sl 135],24,[],false⟩),
 (135,⟨.struct,[.i .i64,.s,.sl 135,.sl 9],72,[(0,1,false),(1,1,false),(2,1,false),(3,1,false)],false⟩),
 (137,⟨.struct,[.s,.s,.s,.b,.i .i64,.s,.sl 135,.sl 9,.sl 141],152,[(0,1,false),(1,2,true),(3,1,false),(4,4,true),(8,1,false)],false⟩),
 (139,⟨.slice 243,[.sl 243],24,[],false⟩),
 (141,⟨.struct,[.s,.sl 243],40,[(0,1,false),(1,1,false)],false⟩),
 (144,⟨.struct,[.i .i64,.s,.s,.s,.sl 243,.sl 141,.sl 144],128,[(0,1,false),(1,1,false),(2,1,false),(3,1,false),(4,1,false),(5,1,false),(6,1,false)],false⟩),
 (147,⟨.struct,[.s,.s,.sl 150,.s,.s,.sl 141],112,[(0,1,false),(1,1,false),(2,1,false),(3,2,true),(5,1,false)],false⟩),
 (150,⟨.struct,[.s,.s,.s,.s,.b,.i .i64,.s,.sl 135,.sl 9,.sl 141],168,[(0,1,false),(1,1,false),(2,2,true),(4,1,false),(5,4,true),(9,1,false)],false⟩),
 (153,⟨.struct,[.s,.s,.sl 141],56,[(0,1,false),(1,1,false),(2,1,false)],false⟩),
 (155,⟨.struct,[.i .i64,.s],24,[(0,1,false),(1,1,false)],false⟩),
 (160,⟨.slice 211,[.sl 211],24,[],false⟩),
 (162,⟨.struct,[.i .i64,.s,.s,.s,.sl 211,.sl 166,.sl 162],128,[(0,1,false),(1,1,false),(2,1,false),(3,1,false),(4,1,false),(5,1,false),(6,1,false)],false⟩),
 (166,⟨.struct,[.s,.sl 211],40,[(0,1,false),(1,1,false)],false⟩),
 (211,⟨.struct,[.s,.i .i64,.s,.sl 102,.sl 9],88,[(0,1,false),(1,4,true)],false⟩),
 (224,⟨.struct,[.i .i64],8,[(0,1,false)],false⟩),
 (243,⟨.struct,[.s,.i .i64,.s,.sl 135,.sl 9],88,[(0,1,false),(1,4,true)],false⟩)]
noncomputable def Z0:Hint:=⟨ol 9 :: os :: [],[]⟩
noncomputable def Vt:Hint:=⟨os :: os :: [],[]⟩
noncomputable def Jn:Hint:=⟨os :: os :: [],[]⟩
noncomputable def zY:Hint:=⟨os :: oi :: [],[]⟩
noncomputable def qs:Hint:=⟨os :: [],[]⟩
noncomputable def ph:Hint:=⟨os :: .one (.i .u8) :: [],[]⟩
noncomputable def Jm:Hint:=⟨os :: os :: [],[]⟩
noncomputable def qt:Hint:=⟨os :: os :: [],[]⟩
noncomputable def fi3:FI:=jE Tryz.f3 2 [.ag [.i .i64,.i .i64,.s,.sl 137,.sl 141,.sl 144,.s,.s,.sl 141,.sl 144,.i .i64,.b,.s,.s,.sl 9,.sl 147,.sl 150,.sl 153,.sl 155,.b,.sl 141]] [(false,[.ct .b])] (fun _=>(.s (.r [0,0] none) (.s .n (.s .n (.s .n (.s .n (.s (.r [0,0,1,0] none) .n)))))))
noncomputable def fi4:FI:=jE Tryz.f4 1 [.ag [.i .i64,.i .i64,.s,.sl 137,.sl 141,.sl 144,.s,.s,.sl 141,.sl 144,.i .i64,.b,.s,.s,.sl 9,.sl 147,.sl 150,.sl 153,.sl 155,.b,.sl 141],.ct (.i .i64)] [(false,[.ct (.i .i64)])] (fun _=>(.s (.r [0,0] none) .n))
noncomputable def fi6:FI:=jE Tryz.f6 3 [.ag [.i .i64,.i .i64,.s,.sl 137,.sl 141,.sl 144,.s,.s,.sl 141,.sl 144,.i .i64,.b,.s,.s,.sl 9,.sl 147,.sl 150,.sl 153,.sl 155,.b,.sl 141]] [(true,[.ct (.i .i64),.ct (.i .i64),.ct .s,.ct (.sl 115),.ct (.sl 166),.ct (.sl 162),.ct .s,.ct .s,.ct (.sl 166),.ct (.sl 162),.ct (.i .i64),.ct .b,.ct .s,.ct .s,.ct (.sl 9),.ct (.sl 93),.ct (.sl 104),.ct (.sl 96),.ct (.sl 98),.ct .b,.ct (.sl 166)])] (fun _=>(.s (.r [0,1] none) (.s (.r [2] none) .n)))
noncomputable def fi5:FI:=jE Tryz.f5 1 [.ag [.i .i64,.i .i64,.s,.sl 115,.sl 166,.sl 162,.s,.s,.sl 166,.sl 162,.i .i64,.b,.s,.s,.sl 9,.sl 93,.sl 104,.sl 96,.sl 98,.b,.sl 166]] [(false,[.ct .s])] (fun _=>(.s (.r [0,0] none) (.s (.s .n (.b .n ⟨uu 20 [],.u :: []⟩)) .n)))
noncomputable def fi7:FI:=jE Tryz.f7 1 [.ag [.i .i64,.i .i64,.s,.sl 115,.sl 166,.sl 162,.s,.s,.sl 166,.sl 162,.i .i64,.b,.s,.s,.sl 9,.sl 93,.sl 104,.sl 96,.sl 98,.b,.sl 166]] [(false,[.ct .s])] (fun _=>(.s (.r [0,0] none) (.s (.s .n (.b .n ⟨uu 20 [],.u :: []⟩)) .n)))
noncomputable def fi8:FI:=jE Tryz.f8 2 [.ag [.i .i64,.i .i64,.s,.sl 115,.sl 166,.sl 162,.s,.s,.sl 166,.sl 162,.i .i64,.b,.s,.s,.sl 9,.sl 93,.sl 104,.sl 96,.sl 98,.b,.sl 166],.ag [.i .i64,.i .i64,.s,.sl 115,.sl 166,.sl 162,.s,.s,.sl 166,.sl 162,.i .i64,.b,.s,.s,.sl 9,.sl 93,.sl 104,.sl 96,.sl 98,.b,.sl 166]] [(false,[.ct .b])] (fun _=>(.s (.r [0,1,0] none) .n))
noncomputable def fi9:FI:=jE Tryz.f9 1 [.ag [.i .i64,.s,.sl 137,.sl 141,.sl 144],.ct (.i .i64)] [(false,[.ct (.i .i64)])] (fun _=>(.s (.r [0,0] none) .n))
noncomputable def jo7:FI:=jE Tryz.f10 1 [.ag [.s,.s,.sl 141,.sl 144],.ct (.i .i64)] [(false,[.ct (.i .i64)])] (fun _=>(.s (.r [0,0] none) .n))
noncomputable def jo6:FI:=jE Tryz.f11 1 [.ag [.i .i64,.b,.s,.s,.sl 9,.sl 147,.sl 150,.sl 153,.sl 155,.b,.sl 141],.ct (.i .i64)] [(false,[.ct (.i .i64)])] (fun _=>(.s (.r [0,0] none) .n))
noncomputable def jo2:FI:=jE Tryz.f15 3 [.ag [.i .i64,.s,.sl 137,.sl 141,.sl 144]] [(true,[.ct (.i .i64),.ct .s,.ct (.sl 115),.ct (.sl 166),.ct (.sl 162)])] (fun _=>(.s (.r [0,1] none) (.s (.r [2] none) .n)))
noncomputable def jo1:FI:=jE Tryz.f16 3 [.ag [.s,.s,.sl 141,.sl 144]] [(true,[.ct .s,.ct .s,.ct (.sl 166),.ct (.sl 162)])] (fun _=>(.s (.r [0,1] none) (.s (.r [2] none) .n)))
noncomputable def jo0:FI:=jE Tryz.f17 3 [.ag [.i .i64,.b,.s,.s,.sl 9,.sl 147,.sl 150,.sl 153,.sl 155,.b,.sl 141]] [(true,[.ct (.i .i64),.ct .b,.ct .s,.ct .s,.ct (.sl 9),.ct (.sl 93),.ct (.sl 104),.ct (.sl 96),.ct (.sl 98),.ct .b,.ct (.sl 166)])] (fun _=>(.s (.r [0,1] none) (.s (.r [2] none) .n)))
noncomputable def jo5:FI:=jE Tryz.f12 14 [.ag [.i .i64,.s,.sl 115,.sl 166,.sl 162]] [(false,[.ct .s])] (fun _=>(.s (.r [0,0] none) (.s .n (.s (.r [1,0] none) (.s (.s (.r [] (some ⟨ou :: .one (.ptr 0 0) :: ou :: .one (.own 5 2) :: uu 23 (ob :: uu 35 []),.var 44 [.i .i64,.s,.sl 115,.sl 166,.sl 162] :: vv 13 []⟩)) (.c (.s (.r [0,0,0,3,0,0,0,0] none) .n) .n none)) (.s (.r [0,0,0,0,4,0] none) (.s (.s .n (.c (.r [0,5,6,0,0,7,0] none) .n (some ⟨ou :: .one (.ptr 0 0) :: ou :: .one (.own 5 8) :: uu 59 [],.var 44 [.i .i64,.s,.sl 115,.sl 166,.sl 162] :: vv 13 []⟩))) (.s (.r [0,0,0,9,0,0,10,0] none) (.s (.r [0,0,0,11,12,13,0,0] none) .n)))))))))
noncomputable def jo4:FI:=jE Tryz.f13 6 [.ag [.s,.s,.sl 166,.sl 162]] [(false,[.ct .s])] (fun _=>(.s (.r [0,0] none) (.s .n (.s (.r [0,0,0,0,0,0,0,1,0,0,2,0] none) (.s (.r [0,0,0,3,4,5,0,0] none) .n)))))
noncomputable def jo3:FI:=jE Tryz.f14 81 [.ag [.i .i64,.b,.s,.s,.sl 9,.sl 93,.sl 104,.sl 96,.sl 98,.b,.sl 166]] [(false,[.ct .s])] (fun _=>(.s (.r [0,0] none) (.s .n (.s (.r [1,0] none) (.s (.s .n (.c (.r [0,0,0,0,2,3,4,0] none) .n (some ⟨ou :: .one (.ptr 0 0) :: ou :: .one (.own 5 5) :: uu 207 [],.var 52 [.i .i64,.b,.s,.s,.sl 9,.sl 93,.sl 104,.sl 96,.sl 98,.b,.sl 166] :: vv 80 []⟩))) (.s (.s .n (.c (.r [0,6,0] none) .n (some ⟨ou :: .one (.ptr 0 0) :: ou :: .one (.own 5 7) :: uu 207 [],.var 52 [.i .i64,.b,.s,.s,.sl 9,.sl 93,.sl 104,.sl 96,.sl 98,.b,.sl 166] :: vv 80 []⟩))) (.s (.r [0,0,0,0,8,0] none) (.s (.s .n (.b (.s .n (.c .n (.s .n (.c (.s (.r [0,9,10,0,0,11,0] none) (.s (.r [0,0,0,12,0] none) (.s (.s .n (.c (.r [0,13,0] none) .n (some ⟨ou :: .one (.ptr 0 0) :: ou :: .one (.own 5 14) :: uu 207 [],.var 52 [.i .i64,.b,.s,.s,.sl 9,.sl 93,.sl 104,.sl 96,.sl 98,.b,.sl 166] :: vv 80 []⟩))) (.r [0,15,0,0,16,0] none)))) (.r [0,17,18,0,0,19,0] none) (some ⟨ou :: .one (.ptr 0 0) :: ou :: .one (.own 5 20) :: uu 207 [],.var 52 [.i .i64,.b,.s,.s,.sl 9,.sl 93,.sl 104,.sl 96,.sl 98,.b,.sl 166] :: vv 80 []⟩))) (some ⟨ou :: .one (.ptr 0 0) :: ou :: .one (.own 5 21) :: uu 207 [],.var 52 [.i .i64,.b,.s,.s,.sl 9,.sl 93,.sl 104,.sl 96,.sl 98,.b,.sl 166] :: vv 80 []⟩))) ⟨ou :: .one (.ptr 0 0) :: ou :: .one (.own 5 22) :: uu 207 [],.var 52 [.i .i64,.b,.s,.s,.sl 9,.sl 93,.sl 104,.sl 96,.sl 98,.b,.sl 166] :: vv 80 []⟩)) (.s (.s (.r [] (some ⟨ou :: .one (.ptr 0 0) :: ou :: .one (.own 5 23) :: uu 72 (ob :: uu 134 []),.var 52 [.i .i64,.b,.s,.s,.sl 9,.sl 93,.sl 104,.sl 96,.sl 98,.b,.sl 166] :: vv 80 []⟩)) (.c (.r [0,24,0,0,25,0] none) .n (some ⟨ou :: .one (.ptr 0 0) :: ou :: .one (.own 5 26) :: uu 207 [],.var 52 [.i .i64,.b,.s,.s,.sl 9,.sl 93,.sl 104,.sl 96,.sl 98,.b,.sl 166] :: vv 80 []⟩))) (.s (.r [0,0,0,27,0] none) (.s (.s (.r [] (some ⟨ou :: .one (.ptr 0 0) :: ou :: .one (.own 5 28) :: uu 90 (ob :: uu 116 []),.var 52 [.i .i64,.b,.s,.s,.sl 9,.sl 93,.sl 104,.sl 96,.sl 98,.b,.sl 166] :: vv 80 []⟩)) (.c (.r [0,29,0,0,30,0] none) .n (some ⟨ou :: .one (.ptr 0 0) :: ou :: .one (.own 5 31) :: uu 207 [],.var 52 [.i .i64,.b,.s,.s,.sl 9,.sl 93,.sl 104,.sl 96,.sl 98,.b,.sl 166] :: vv 80 []⟩))) (.s (.r [32,0] none) (.s (.s .n (.b (.b (.s .n (.s (.b (.r [0,0,0,0,0,0,35,0] none) ⟨ou :: .one (.ptr 0 0) :: ou :: .one (.own 5 36) :: .one (.own 5 37) :: oi :: uu 205 [],.var 52 [.i .i64,.b,.s,.s,.sl 9,.sl 93,.sl 104,.sl 96,.sl 98,.b,.sl 166] :: vv 80 []⟩) .n)) ⟨ou :: .one (.ptr 0 0) :: ou :: .one (.own 5 33) :: .one (.own 5 34) :: oi :: uu 205 [],.var 52 [.i .i64,.b,.s,.s,.sl 9,.sl 93,.sl 104,.sl 96,.sl 98,.b,.sl 166] :: vv 80 []⟩) ⟨ou :: .one (.ptr 0 0) :: ou :: .one (.own 5 38) :: .one (.own 5 39) :: uu 206 [],.var 52 [.i .i64,.b,.s,.s,.sl 9,.sl 93,.sl 104,.sl 96,.sl 98,.b,.sl 166] :: vv 80 []⟩)) (.s (.s .n (.b (.b (.s .n (.s (.b (.s (.r [0,0,0,0,0,0,0,42,0,0,0,0,0,0,43,0] none) (.r [0,0,0,0,0,0,0,44,45,46,0] none)) ⟨ou :: .one (.ptr 0 0) :: ou :: .one (.own 5 47) :: .one (.own 5 48) :: ou :: oi :: uu 204 [],.var 52 [.i .i64,.b,.s,.s,.sl 9,.sl 93,.sl 104,.sl 96,.sl 98,.b,.sl 166] :: vv 80 []⟩) .n)) ⟨ou :: .one (.ptr 0 0) :: ou :: .one (.own 5 40) :: .one (.own 5 41) :: ou :: oi :: uu 204 [],.var 52 [.i .i64,.b,.s,.s,.sl 9,.sl 93,.sl 104,.sl 96,.sl 98,.b,.sl 166] :: vv 80 []⟩) ⟨ou :: .one (.ptr 0 0) :: ou :: .one (.own 5 49) :: .one (.own 5 50) :: uu 206 [],.var 52 [.i .i64,.b,.s,.s,.sl 9,.sl 93,.sl 104,.sl 96,.sl 98,.b,.sl 166] :: vv 80 []⟩)) (.s (.s .n (.b (.b (.s .n (.s (.b (.s (.r [0,0,0,0,0,0,0,0,0,0,53,0,0,0,0,0,0,54,0] none) (.r [0,55,56,0] none)) ⟨ou :: .one (.ptr 0 0) :: ou :: .one (.own 5 57) :: .one (.own 5 58) :: ou :: ou :: oi :: uu 203 [],.var 52 [.i .i64,.b,.s,.s,.sl 9,.sl 93,.sl 104,.sl 96,.sl 98,.b,.sl 166] :: vv 80 []⟩) .n)) ⟨ou :: .one (.ptr 0 0) :: ou :: .one (.own 5 51) :: .one (.own 5 52) :: ou :: ou :: oi :: uu 203 [],.var 52 [.i .i64,.b,.s,.s,.sl 9,.sl 93,.sl 104,.sl 96,.sl 98,.b,.sl 166] :: vv 80 []⟩) ⟨ou :: .one (.ptr 0 0) :: ou :: .one (.own 5 59) :: .one (.own 5 60) :: uu 206 [],.var 52 [.i .i64,.b,.s,.s,.sl 9,.sl 93,.sl 104,.sl 96,.sl 98,.b,.sl 166] :: vv 80 []⟩)) (.s (.s .n (.b (.b (.s (.s (.r [] (some ⟨ou :: .one (.ptr 0 0) :: ou :: .one (.own 5 63) :: .one (.own 5 64) :: uu 3 (oi :: uu 175 (ob :: uu 26 [])),.var 52 [.i .i64,.b,.s,.s,.sl 9,.sl 93,.sl 104,.sl 96,.sl 98,.b,.sl 166] :: vv 80 []⟩)) .n) (.s (.b (.r [0,65,66,0,0,0,0,0,67,68,69,0] none) ⟨ou :: .one (.ptr 0 0) :: ou :: .one (.own 5 70) :: .one (.own 5 71) :: uu 3 (oi :: uu 202 []),.var 52 [.i .i64,.b,.s,.s,.sl 9,.sl 93,.sl 104,.sl 96,.sl 98,.b,.sl 166] :: vv 80 []⟩) .n)) ⟨ou :: .one (.ptr 0 0) :: ou :: .one (.own 5 61) :: .one (.own 5 62) :: uu 3 (oi :: uu 202 []),.var 52 [.i .i64,.b,.s,.s,.sl 9,.sl 93,.sl 104,.sl 96,.sl 98,.b,.sl 166] :: vv 80 []⟩) ⟨uu 3 (.one (.own 5 72) :: .one (.own 5 73) :: uu 206 []),vv 81 []⟩)) (.s (.s .n (.c (.r [0,74,0,75,76,77,0] none) .n (some ⟨uu 3 (.one (.own 5 78) :: uu 207 []),vv 81 []⟩))) (.s (.r [0,79,80,0,0] none) .n))))))))))))))))))
noncomputable def jnZ:FI:=jE Tryz.f18 8 [.ag [.i .i64,.s,.sl 115,.sl 166,.sl 162]] [(false,[.ct .s])] (fun _=>(.s (.r [0,0] none) (.s .n (.s (.s (.r [] (some ⟨ou :: .one (.ptr 0 0) :: uu 27 (ob :: uu 63 []),.var 44 [.i .i64,.s,.sl 115,.sl 166,.sl 162] :: vv 7 []⟩)) .n) (.s .n (.s (.s .n (.c .n .n (some ⟨ou :: .one (.ptr 0 0) :: ou :: os :: uu 89 [],.var 44 [.i .i64,.s,.sl 115,.sl 166,.sl 162] :: vv 7 []⟩))) (.s (.r [1,0] none) (.s (.s .n (.b (.b (.s .n (.s .n (.s (.b (.s (.r [0,0,3,0] none) (.r [0,0,0,0,0,0,0,0,0,0,0,0,0,0,0,0,0,0,0,4,5,0] none)) ⟨ou :: .one (.ptr 0 0) :: ou :: os :: .one (.own 9 6) :: uu 41 (ol 115 :: oi :: oi :: uu 44 []),.var 44 [.i .i64,.s,.sl 115,.sl 166,.sl 162] :: vv 7 []⟩) .n))) ⟨ou :: .one (.ptr 0 0) :: ou :: os :: .one (.own 9 2) :: uu 41 (ol 115 :: oi :: oi :: uu 44 []),.var 44 [.i .i64,.s,.sl 115,.sl 166,.sl 162] :: vv 7 []⟩) ⟨ou :: .one (.ptr 0 0) :: ou :: os :: .one (.own 9 7) :: uu 88 [],.var 44 [.i .i64,.s,.sl 115,.sl 166,.sl 162] :: vv 7 []⟩)) (.s (.s .n (.c .n .n (some ⟨ou :: .one (.ptr 0 0) :: ou :: os :: uu 89 [],.var 44 [.i .i64,.s,.sl 115,.sl 166,.sl 162] :: vv 7 []⟩))) .n)))))))))
noncomputable def jnY:FI:=jE Tryz.f19 1 [.ag [.s,.s,.sl 166,.sl 162]] [(false,[.ct .s])] (fun _=>(.s (.r [0,0] none) .n))
noncomputable def jnX:FI:=jE Tryz.f20 1 [.ag [.i .i64,.b,.s,.s,.sl 9,.sl 93,.sl 104,.sl 96,.sl 98,.b,.sl 166]] [(false,[.ct .s])] (fun _=>(.s (.r [0,0] none) (.s .n (.s .n (.s (.s .n (.c .n .n (some ⟨ou :: .one (.ptr 0 0) :: ou :: os :: uu 99 [],.var 52 [.i .i64,.b,.s,.s,.sl 9,.sl 93,.sl 104,.sl 96,.sl 98,.b,.sl 166] :: []⟩))) (.s .n (.s (.s .n (.b (.s .n (.c (.s .n (.s (.s .n (.c .n .n (some ⟨ou :: .one (.ptr 0 0) :: ou :: os :: uu 99 [],.var 52 [.i .i64,.b,.s,.s,.sl 9,.sl 93,.sl 104,.sl 96,.sl 98,.b,.sl 166] :: []⟩))) .n)) (.s .n (.c .n .n (some ⟨ou :: .one (.ptr 0 0) :: ou :: os :: uu 99 [],.var 52 [.i .i64,.b,.s,.s,.sl 9,.sl 93,.sl 104,.sl 96,.sl 98,.b,.sl 166] :: []⟩))) (some ⟨ou :: .one (.ptr 0 0) :: ou :: os :: uu 99 [],.var 52 [.i .i64,.b,.s,.s,.sl 9,.sl 93,.sl 104,.sl 96,.sl 98,.b,.sl 166] :: []⟩))) ⟨ou :: .one (.ptr 0 0) :: ou :: os :: uu 99 [],.var 52 [.i .i64,.b,.s,.s,.sl 9,.sl 93,.sl 104,.sl 96,.sl 98,.b,.sl 166] :: []⟩)) (.s (.s (.r [] (some ⟨ou :: .one (.ptr 0 0) :: ou :: os :: uu 61 (ob :: uu 37 []),.var 52 [.i .i64,.b,.s,.s,.sl 9,.sl 93,.sl 104,.sl 96,.sl 98,.b,.sl 166] :: []⟩)) (.c .n .n (some ⟨ou :: .one (.ptr 0 0) :: ou :: os :: uu 99 [],.var 52 [.i .i64,.b,.s,.s,.sl 9,.sl 93,.sl 104,.sl 96,.sl 98,.b,.sl 166] :: []⟩))) (.s .n (.s (.s (.r [] (some ⟨ou :: .one (.ptr 0 0) :: ou :: os :: uu 81 (ob :: uu 17 []),.var 52 [.i .i64,.b,.s,.s,.sl 9,.sl 93,.sl 104,.sl 96,.sl 98,.b,.sl 166] :: []⟩)) (.c .n .n (some ⟨ou :: .one (.ptr 0 0) :: ou :: os :: uu 99 [],.var 52 [.i .i64,.b,.s,.s,.sl 9,.sl 93,.sl 104,.sl 96,.sl 98,.b,.sl 166] :: []⟩))) (.s (.s .n (.s .n (.c .n .n (some ⟨uu 3 (os :: uu 99 []),.u :: []⟩)))) .n)))))))))))
noncomputable def jnW:FI:=jE Tryz.f21 2 [.ag [.i .i64,.s,.sl 115,.sl 166,.sl 162],.ag [.i .i64,.s,.sl 115,.sl 166,.sl 162]] [(false,[.ct .b])] (fun _=>(.s (.r [0,1,0] none) .n))
noncomputable def jnV:FI:=jE Tryz.f22 2 [.ag [.s,.s,.sl 166,.sl 162],.ag [.s,.s,.sl 166,.sl 162]] [(false,[.ct .b])] (fun _=>(.s (.r [0,1,0] none) .n))
noncomputable def jnU:FI:=jE Tryz.f23 2 [.ag [.i .i64,.b,.s,.s,.sl 9,.sl 93,.sl 104,.sl 96,.sl 98,.b,.sl 166],.ag [.i .i64,.b,.s,.s,.sl 9,.sl 93,.sl 104,.sl 96,.sl 98,.b,.sl 166]] [(false,[.ct .b])] (fun _=>(.s (.r [0,1,0] none) .n))
noncomputable def jnT:FI:=jE Tryz.f24 0 [.ct (.sl 137),.ct (.i .i64)] [(false,[.ct (.i .i64)])] (fun _=>(.s .n (.s .n (.s .n (.s (.s .n (.b (.b (.s .n (.s (.b .n ⟨ol 137 :: oi :: uu 3 (oi :: uu 21 []),[]⟩) .n)) ⟨ol 137 :: oi :: uu 3 (oi :: uu 21 []),[]⟩) ⟨ou :: oi :: uu 25 [],[]⟩)) .n)))))
noncomputable def jnS:FI:=jE Tryz.f25 0 [.ct (.sl 141),.ct (.i .i64)] [(false,[.ct (.i .i64)])] (fun _=>(.s .n (.s .n (.s .n (.s (.s .n (.b (.b (.s .n (.s (.b .n ⟨ol 141 :: oi :: uu 3 (oi :: uu 21 []),[]⟩) .n)) ⟨ol 141 :: oi :: uu 3 (oi :: uu 21 []),[]⟩) ⟨ou :: oi :: uu 25 [],[]⟩)) .n)))))
noncomputable def jnR:FI:=jE Tryz.f26 0 [.ct (.sl 144),.ct (.i .i64)] [(false,[.ct (.i .i64)])] (fun _=>(.s .n (.s .n (.s .n (.s (.s .n (.b (.b (.s .n (.s (.b .n ⟨ol 144 :: oi :: uu 3 (oi :: uu 21 []),[]⟩) .n)) ⟨ol 144 :: oi :: uu 3 (oi :: uu 21 []),[]⟩) ⟨ou :: oi :: uu 25 [],[]⟩)) .n)))))
noncomputable def jnQ:FI:=jE Tryz.f27 0 [.ct (.sl 9),.ct (.i .i64)] [(false,[.ct (.i .i64)])] (fun _=>(.s .n (.s .n (.s .n (.s (.s .n (.b (.b (.s .n (.s (.b .n ⟨ol 9 :: oi :: uu 3 (oi :: uu 22 []),[]⟩) .n)) ⟨ol 9 :: oi :: uu 3 (oi :: uu 22 []),[]⟩) ⟨ou :: oi :: uu 26 [],[]⟩)) .n)))))
noncomputable def jnP:FI:=jE Tryz.f28 0 [.ct (.sl 147),.ct (.i .i64)] [(false,[.ct (.i .i64)])] (fun _=>(.s .n (.s .n (.s .n (.s (.s .n (.b (.b (.s .n (.s (.b .n ⟨ol 147 :: oi :: uu 3 (oi :: uu 21 []),[]⟩) .n)) ⟨ol 147 :: oi :: uu 3 (oi :: uu 21 []),[]⟩) ⟨ou :: oi :: uu 25 [],[]⟩)) .n)))))
noncomputable def jnO:FI:=jE Tryz.f29 0 [.ct (.sl 150),.ct (.i .i64)] [(false,[.ct (.i .i64)])] (fun _=>(.s .n (.s .n (.s .n (.s (.s .n (.b (.b (.s .n (.s (.b .n ⟨ol 150 :: oi :: uu 3 (oi :: uu 21 []),[]⟩) .n)) ⟨ol 150 :: oi :: uu 3 (oi :: uu 21 []),[]⟩) ⟨ou :: oi :: uu 25 [],[]⟩)) .n)))))
noncomputable def jnN:FI:=jE Tryz.f30 0 [.ct (.sl 153),.ct (.i .i64)] [(false,[.ct (.i .i64)])] (fun _=>(.s .n (.s .n (.s .n (.s (.s .n (.b (.b (.s .n (.s (.b .n ⟨ol 153 :: oi :: uu 3 (oi :: uu 21 []),[]⟩) .n)) ⟨ol 153 :: oi :: uu 3 (oi :: uu 21 []),[]⟩) ⟨ou :: oi :: uu 25 [],[]⟩)) .n)))))
noncomputable def jnM:FI:=jE Tryz.f31 0 [.ct (.sl 155),.ct (.i .i64)] [(false,[.ct (.i .i64)])] (fun _=>(.s .n (.s .n (.s .n (.s (.s .n (.b (.b (.s .n (.s (.b .n ⟨ol 155 :: oi :: uu 3 (oi :: uu 21 []),[]⟩) .n)) ⟨ol 155 :: oi :: uu 3 (oi :: uu 21 []),[]⟩) ⟨ou :: oi :: uu 25 [],[]⟩)) .n)))))
noncomputable def jnw:FI:=jE Tryz.f47 4 [.ct (.sl 137)] [(false,[.ct (.sl 115)])] (fun _=>(.s .n (.s (.r [0,0,0,0] none) (.s (.s .n (.b (.b (.s .n (.s (.b .n ⟨ol 137 :: ou :: ou :: .one (.own 115 2) :: oi :: uu 18 [],vv 4 []⟩) .n)) ⟨ol 137 :: ou :: ou :: .one (.own 115 1) :: oi :: uu 18 [],vv 4 []⟩) ⟨uu 3 (.one (.own 115 3) :: uu 19 []),vv 4 []⟩)) .n))))
noncomputable def jnv:FI:=jE Tryz.f48 4 [.ct (.sl 141)] [(false,[.ct (.sl 166)])] (fun _=>(.s .n (.s (.r [0,0,0,0] none) (.s (.s .n (.b (.b (.s .n (.s (.b .n ⟨ol 141 :: ou :: ou :: .one (.own 166 2) :: oi :: uu 18 [],vv 4 []⟩) .n)) ⟨ol 141 :: ou :: ou :: .one (.own 166 1) :: oi :: uu 18 [],vv 4 []⟩) ⟨uu 3 (.one (.own 166 3) :: uu 19 []),vv 4 []⟩)) .n))))
noncomputable def jnu:FI:=jE Tryz.f49 4 [.ct (.sl 144)] [(false,[.ct (.sl 162)])] (fun _=>(.s .n (.s (.r [0,0,0,0] none) (.s (.s .n (.b (.b (.s .n (.s (.b .n ⟨ol 144 :: ou :: ou :: .one (.own 162 2) :: oi :: uu 18 [],vv 4 []⟩) .n)) ⟨ol 144 :: ou :: ou :: .one (.own 162 1) :: oi :: uu 18 [],vv 4 []⟩) ⟨uu 3 (.one (.own 162 3) :: uu 19 []),vv 4 []⟩)) .n))))
noncomputable def jnt:FI:=jE Tryz.f50 4 [.ct (.sl 9)] [(false,[.ct (.sl 9)])] (fun _=>(.s .n (.s (.r [0,0,0,0] none) (.s (.s .n (.b (.b (.s .n (.s (.b .n ⟨ol 9 :: ou :: ou :: .one (.own 9 2) :: oi :: uu 17 [],vv 4 []⟩) .n)) ⟨ol 9 :: ou :: ou :: .one (.own 9 1) :: oi :: uu 17 [],vv 4 []⟩) ⟨uu 3 (.one (.own 9 3) :: uu 18 []),vv 4 []⟩)) .n))))
noncomputable def jns:FI:=jE Tryz.f51 4 [.ct (.sl 147)] [(false,[.ct (.sl 93)])] (fun _=>(.s .n (.s (.r [0,0,0,0] none) (.s (.s .n (.b (.b (.s .n (.s (.b .n ⟨ol 147 :: ou :: ou :: .one (.own 93 2) :: oi :: uu 18 [],vv 4 []⟩) .n)) ⟨ol 147 :: ou :: ou :: .one (.own 93 1) :: oi :: uu 18 [],vv 4 []⟩) ⟨uu 3 (.one (.own 93 3) :: uu 19 []),vv 4 []⟩)) .n))))
noncomputable def jnr:FI:=jE Tryz.f52 4 [.ct (.sl 150)] [(false,[.ct (.sl 104)])] (fun _=>(.s .n (.s (.r [0,0,0,0] none) (.s (.s .n (.b (.b (.s .n (.s (.b .n ⟨ol 150 :: ou :: ou :: .one (.own 104 2) :: oi :: uu 18 [],vv 4 []⟩) .n)) ⟨ol 150 :: ou :: ou :: .one (.own 104 1) :: oi :: uu 18 [],vv 4 []⟩) ⟨uu 3 (.one (.own 104 3) :: uu 19 []),vv 4 []⟩)) .n))))
noncomputable def jnq:FI:=jE Tryz.f53 4 [.ct (.sl 153)] [(false,[.ct (.sl 96)])] (fun _=>(.s .n (.s (.r [0,0,0,0] none) (.s (.s .n (.b (.b (.s .n (.s (.b .n ⟨ol 153 :: ou :: ou :: .one (.own 96 2) :: oi :: uu 18 [],vv 4 []⟩) .n)) ⟨ol 153 :: ou :: ou :: .one (.own 96 1) :: oi :: uu 18 [],vv 4 []⟩) ⟨uu 3 (.one (.own 96 3) :: uu 19 []),vv 4 []⟩)) .n))))
noncomputable def jnp:FI:=jE Tryz.f54 4 [.ct (.sl 155)] [(false,[.ct (.sl 98)])] (fun _=>(.s .n (.s (.r [0,0,0,0] none) (.s (.s .n (.b (.b (.s .n (.s (.b .n ⟨ol 155 :: ou :: ou :: .one (.own 98 2) :: oi :: uu 18 [],vv 4 []⟩) .n)) ⟨ol 155 :: ou :: ou :: .one (.own 98 1) :: oi :: uu 18 [],vv 4 []⟩) ⟨uu 3 (.one (.own 98 3) :: uu 19 []),vv 4 []⟩)) .n))))
noncomputable def jnL:FI:=jE Tryz.f32 1 [.ag [.i .i64,.s,.sl 115,.sl 166,.sl 162]] [(false,[.ct .b])] (fun _=>(.s (.r [0,0] none) (.s (.s (.r [] (some ⟨ou :: .one (.ptr 0 0) :: uu 28 (ob :: uu 17 []),.var 44 [.i .i64,.s,.sl 115,.sl 166,.sl 162] :: []⟩)) .n) (.s (.s .n (.b (.b (.s .n (.s (.b .n ⟨ou :: .one (.ptr 0 0) :: ou :: oi :: uu 44 [],.var 44 [.i .i64,.s,.sl 115,.sl 166,.sl 162] :: []⟩) .n)) ⟨ou :: .one (.ptr 0 0) :: ou :: oi :: uu 44 [],.var 44 [.i .i64,.s,.sl 115,.sl 166,.sl 162] :: []⟩) ⟨ou :: .one (.ptr 0 0) :: uu 46 [],.var 44 [.i .i64,.s,.sl 115,.sl 166,.sl 162] :: []⟩)) .n))))
noncomputable def jnK:FI:=jE Tryz.f33 28 [.mv 5,.ct (.sl 162),.ct (.i .i64)] [(false,[.new 5])] (fun _=>(.s .n (.s (.s .n (.b (.b (.s .n (.s (.b (.s (.r [0,0,0,0,2,0] none) (.s (.r [0,0,3,0] none) (.s (.s .n (.b (.s .n (.c (.s (.s .n (.c (.r [0,0,0,4,5,6,0] none) .n (some ⟨.one (.own 5 7) :: ol 162 :: oi :: uu 4 (oi :: .one (.ptr 2 0) :: uu 69 []),.u :: .u :: .var 162 [.i .i64,.s,.s,.s,.sl 211,.sl 166,.sl 162] :: vv 25 []⟩))) (.r [0,0,0,8,0] none)) (.s .n (.c (.r [0,9,10,0,0,11,0] none) (.s (.r [0,12,13,0] none) (.s .n (.c (.r [0,14,0,0,15,0] none) .n (some ⟨.one (.own 5 16) :: ol 162 :: oi :: uu 4 (oi :: .one (.ptr 2 0) :: uu 69 []),.u :: .u :: .var 162 [.i .i64,.s,.s,.s,.sl 211,.sl 166,.sl 162] :: vv 25 []⟩)))) (some ⟨.one (.own 5 17) :: ol 162 :: oi :: uu 4 (oi :: .one (.ptr 2 0) :: uu 69 []),.u :: .u :: .var 162 [.i .i64,.s,.s,.s,.sl 211,.sl 166,.sl 162] :: vv 25 []⟩))) (some ⟨.one (.own 5 18) :: ol 162 :: oi :: uu 4 (oi :: .one (.ptr 2 0) :: uu 69 []),.u :: .u :: .var 162 [.i .i64,.s,.s,.s,.sl 211,.sl 166,.sl 162] :: vv 25 []⟩))) ⟨.one (.own 5 19) :: ol 162 :: oi :: uu 4 (oi :: .one (.ptr 2 0) :: uu 69 []),.u :: .u :: .var 162 [.i .i64,.s,.s,.s,.sl 211,.sl 166,.sl 162] :: vv 25 []⟩)) (.s (.r [0,0,0,20,0,0,21,0] none) (.s (.s .n (.c (.r [0,0,0,0,22,0] none) .n (some ⟨.one (.own 5 23) :: ol 162 :: oi :: uu 4 (oi :: uu 70 []),vv 28 []⟩))) (.r [0,24,25,0] none)))))) ⟨.one (.own 5 26) :: ol 162 :: oi :: uu 4 (oi :: uu 70 []),vv 28 []⟩) .n)) ⟨.one (.own 5 1) :: ol 162 :: oi :: uu 4 (oi :: uu 70 []),vv 28 []⟩) ⟨.one (.own 5 27) :: uu 77 [],vv 28 []⟩)) .n)))
noncomputable def jnJ:FI:=jE Tryz.f34 0 [.ct (.i .i64)] [(false,[.ct .s])] (fun _=>(.s .n (.s (.s .n (.b .n ⟨uu 10 [],[]⟩)) .n)))
noncomputable def jnH:FI:=jE Tryz.f36 23 [.mv 5,.ct (.sl 115)] [(false,[.new 5])] (fun _=>(.s .n (.s (.s .n (.b (.b (.s .n (.s (.b (.s (.s .n (.c (.r [0,2,3,0] none) (.r [0,4,5,0] none) (some ⟨.one (.own 5 6) :: ol 115 :: uu 3 (oi :: uu 50 []),vv 23 []⟩))) (.s (.r [0,0,0,0,7,0] none) (.s (.r [0,8,9,0,0,10,11,12,0] none) (.s (.r [0,0,0,0,13,0] none) (.s (.s .n (.c (.r [0,14,0,0,15,0] none) .n (some ⟨.one (.own 5 16) :: ol 115 :: uu 3 (oi :: .one (.ptr 7 0) :: uu 49 []),vv 7 (.var 115 [.s,.s,.s,.b,.i .i64,.s,.sl 102,.sl 9,.sl 166] :: vv 15 [])⟩))) (.r [0,0,0,17,0] none)))))) ⟨.one (.own 5 18) :: ol 115 :: uu 3 (oi :: uu 50 []),vv 23 []⟩) .n)) ⟨.one (.own 5 1) :: ol 115 :: uu 3 (oi :: uu 50 []),vv 23 []⟩) ⟨.one (.own 5 19) :: ol 115 :: uu 54 [],vv 23 []⟩)) (.s (.s .n (.c (.r [0,20,21,0] none) .n (some ⟨.one (.own 5 22) :: uu 55 [],vv 23 []⟩))) .n))))
noncomputable def jnI:FI:=jE Tryz.f35 8 [.mv 5,.ct (.sl 166)] [(false,[.new 5])] (fun _=>(.s .n (.s (.s .n (.b (.b (.s .n (.s (.b (.s (.r [0,2,3,0,0,0,0,0,4,0] none) (.r [0,0,0,0,0,0,5,0] none)) ⟨.one (.own 5 6) :: ol 166 :: uu 3 (oi :: uu 23 []),vv 8 []⟩) .n)) ⟨.one (.own 5 1) :: ol 166 :: uu 3 (oi :: uu 23 []),vv 8 []⟩) ⟨.one (.own 5 7) :: uu 28 [],vv 8 []⟩)) .n)))
noncomputable def jnG:FI:=jE Tryz.f37 7 [.mv 5,.ct (.sl 162),.ct (.i .i64)] [(false,[.new 5])] (fun _=>(.s .n (.s (.r [0,1,2,0] none) (.s (.r [0,0,0,0,3,0] none) (.s (.r [0,0,4,5,6,0] none) .n)))))
noncomputable def jnF:FI:=jE Tryz.f38 1 [.ag [.s,.s,.sl 166,.sl 162]] [(false,[.ct .b])] (fun _=>(.s (.r [0,0] none) (.s (.r [] (some ⟨ou :: ou :: ob :: uu 29 [],.u :: []⟩)) .n)))
noncomputable def jnE:FI:=jE Tryz.f39 2 [.ag [.i .i64,.b,.s,.s,.sl 9,.sl 93,.sl 104,.sl 96,.sl 98,.b,.sl 166]] [(false,[.ct .b])] (fun _=>(.s (.r [0,0] none) (.s (.s (.r [] (some ⟨ou :: .one (.ptr 0 0) :: uu 57 (ob :: uu 86 []),.var 52 [.i .i64,.b,.s,.s,.sl 9,.sl 93,.sl 104,.sl 96,.sl 98,.b,.sl 166] :: .u :: []⟩)) .n) (.s (.s .n (.b (.b (.s .n (.s (.b .n ⟨ou :: .one (.ptr 0 0) :: ou :: oi :: uu 142 [],.var 52 [.i .i64,.b,.s,.s,.sl 9,.sl 93,.sl 104,.sl 96,.sl 98,.b,.sl 166] :: .u :: []⟩) .n)) ⟨ou :: .one (.ptr 0 0) :: ou :: oi :: uu 142 [],.var 52 [.i .i64,.b,.s,.s,.sl 9,.sl 93,.sl 104,.sl 96,.sl 98,.b,.sl 166] :: .u :: []⟩) ⟨ou :: .one (.ptr 0 0) :: uu 144 [],.var 52 [.i .i64,.b,.s,.s,.sl 9,.sl 93,.sl 104,.sl 96,.sl 98,.b,.sl 166] :: .u :: []⟩)) (.s (.s .n (.b (.b (.s .n (.s (.b .n ⟨ou :: .one (.ptr 0 0) :: ou :: ou :: oi :: uu 141 [],.var 52 [.i .i64,.b,.s,.s,.sl 9,.sl 93,.sl 104,.sl 96,.sl 98,.b,.sl 166] :: .u :: []⟩) .n)) ⟨ou :: .one (.ptr 0 0) :: ou :: ou :: oi :: uu 141 [],.var 52 [.i .i64,.b,.s,.s,.sl 9,.sl 93,.sl 104,.sl 96,.sl 98,.b,.sl 166] :: .u :: []⟩) ⟨ou :: .one (.ptr 0 0) :: uu 144 [],.var 52 [.i .i64,.b,.s,.s,.sl 9,.sl 93,.sl 104,.sl 96,.sl 98,.b,.sl 166] :: .u :: []⟩)) (.s (.s .n (.b (.b (.s .n (.s (.b (.s (.r [0,0,0,0,0,1,0] none) (.s (.r [] (some ⟨ou :: .one (.ptr 0 0) :: uu 3 (oi :: uu 114 (ob :: uu 25 [])),.var 52 [.i .i64,.b,.s,.s,.sl 9,.sl 93,.sl 104,.sl 96,.sl 98,.b,.sl 166] :: .u :: []⟩)) .n)) ⟨ou :: .one (.ptr 0 0) :: uu 3 (oi :: uu 140 []),.var 52 [.i .i64,.b,.s,.s,.sl 9,.sl 93,.sl 104,.sl 96,.sl 98,.b,.sl 166] :: .u :: []⟩) .n)) ⟨ou :: .one (.ptr 0 0) :: uu 3 (oi :: uu 140 []),.var 52 [.i .i64,.b,.s,.s,.sl 9,.sl 93,.sl 104,.sl 96,.sl 98,.b,.sl 166] :: .u :: []⟩) ⟨ou :: .one (.ptr 0 0) :: uu 144 [],.var 52 [.i .i64,.b,.s,.s,.sl 9,.sl 93,.sl 104,.sl 96,.sl 98,.b,.sl 166] :: .u :: []⟩)) (.s (.s .n (.b (.b (.s .n (.s (.b (.s (.r [] (some ⟨ou :: .one (.ptr 0 0) :: uu 5 (oi :: uu 137 (ob :: [])),.var 52 [.i .i64,.b,.s,.s,.sl 9,.sl 93,.sl 104,.sl 96,.sl 98,.b,.sl 166] :: .u :: []⟩)) .n) ⟨ou :: .one (.ptr 0 0) :: uu 5 (oi :: uu 138 []),.var 52 [.i .i64,.b,.s,.s,.sl 9,.sl 93,.sl 104,.sl 96,.sl 98,.b,.sl 166] :: .u :: []⟩) .n)) ⟨ou :: .one (.ptr 0 0) :: uu 5 (oi :: uu 138 []),.var 52 [.i .i64,.b,.s,.s,.sl 9,.sl 93,.sl 104,.sl 96,.sl 98,.b,.sl 166] :: .u :: []⟩) ⟨uu 146 [],.u :: .u :: []⟩)) .n)))))))
noncomputable def jnD:FI:=jE Tryz.f40 0 [.ct .s] [(false,[.ct .s])] (fun _=>(.s .n (.s (.s (.r [] (some ⟨os :: uu 12 (ob :: uu 71 []),[]⟩)) .n) (.s .n (.s (.s .n (.b (.b (.s .n (.s (.b (.s .n (.b (.s (.r [] (some ⟨os :: ou :: ou :: os :: oi :: .one (.i .u8) :: uu 24 (ob :: uu 54 []),[]⟩)) (.c .n (.s .n (.c .n (.s .n (.c .n (.s .n (.c .n (.s .n (.c .n (.s .n (.c .n (.s (.r [] (some ⟨os :: ou :: ou :: os :: oi :: .one (.i .u8) :: uu 64 (ob :: uu 14 []),[]⟩)) (.c .n .n (some ⟨os :: ou :: ou :: os :: oi :: uu 80 [],[]⟩))) (some ⟨os :: ou :: ou :: os :: oi :: uu 80 [],[]⟩))) (some ⟨os :: ou :: ou :: os :: oi :: uu 80 [],[]⟩))) (some ⟨os :: ou :: ou :: os :: oi :: uu 80 [],[]⟩))) (some ⟨os :: ou :: ou :: os :: oi :: uu 80 [],[]⟩))) (some ⟨os :: ou :: ou :: os :: oi :: uu 80 [],[]⟩))) (some ⟨os :: ou :: ou :: os :: oi :: uu 80 [],[]⟩))) ⟨os :: ou :: ou :: os :: oi :: uu 80 [],[]⟩)) ⟨os :: ou :: ou :: os :: oi :: uu 80 [],[]⟩) .n)) ⟨os :: ou :: ou :: os :: oi :: uu 80 [],[]⟩) ⟨uu 3 (os :: uu 81 []),[]⟩)) .n)))))
noncomputable def jnC:FI:=jE Tryz.f41 1 [.ct (.i .i64)] [(false,[.ct .s])] (fun _=>(.s .n (.s (.r [0,0,0,0,0] none) .n)))
noncomputable def jnB:FI:=jE Tryz.f42 13 [.mv 5,.ct (.sl 104)] [(false,[.new 5])] (fun _=>(.s .n (.s (.s .n (.b (.b (.s .n (.s (.b (.s (.s .n (.c (.r [0,2,3,0] none) (.r [0,4,5,0] none) (some ⟨.one (.own 5 6) :: ol 104 :: uu 3 (oi :: uu 27 []),vv 13 []⟩))) (.r [0,0,0,0,0,7,0] none)) ⟨.one (.own 5 8) :: ol 104 :: uu 3 (oi :: uu 27 []),vv 13 []⟩) .n)) ⟨.one (.own 5 1) :: ol 104 :: uu 3 (oi :: uu 27 []),vv 13 []⟩) ⟨.one (.own 5 9) :: ol 104 :: uu 31 [],vv 13 []⟩)) (.s (.s .n (.c (.r [0,10,11,0] none) .n (some ⟨.one (.own 5 12) :: uu 32 [],vv 13 []⟩))) .n))))
noncomputable def jnA:FI:=jE Tryz.f43 7 [.mv 5,.ct (.sl 9),.ct .s] [(false,[.new 5])] (fun _=>(.s .n (.s (.s .n (.b (.b (.s .n (.s (.b (.s (.s .n (.c (.r [0,0,2,0] none) .n (some ⟨.one (.own 5 3) :: ol 9 :: os :: uu 4 (oi :: uu 18 []),vv 7 []⟩))) (.r [0,0,0,0,0,4,0] none)) ⟨.one (.own 5 5) :: ol 9 :: os :: uu 4 (oi :: uu 18 []),vv 7 []⟩) .n)) ⟨.one (.own 5 1) :: ol 9 :: os :: uu 4 (oi :: uu 18 []),vv 7 []⟩) ⟨.one (.own 5 6) :: uu 25 [],vv 7 []⟩)) .n)))
noncomputable def jnz:FI:=jE Tryz.f44 11 [.mv 5,.ag [.s,.s,.sl 104,.s,.s,.sl 166]] [(false,[.new 5])] (fun _=>(.s (.r [1,0] none) (.s (.r [0,0,0,2,0,0,3,0] none) (.s (.r [0,0,0,4,5,6,0,0,0,7,0] none) (.s (.r [0,0,0,8,9,10,0] none) .n)))))
noncomputable def jny:FI:=jE Tryz.f45 9 [.mv 5,.ct .s] [(false,[.new 5])] (fun _=>(.s .n (.s (.s .n (.c (.r [0,1,2,0,0,3,4,5,0] none) .n (some ⟨.one (.own 5 6) :: uu 17 [],vv 9 []⟩))) (.s (.r [0,7,8,0] none) .n))))
noncomputable def jnx:FI:=jE Tryz.f46 14 [.mv 5,.ag [.s,.s,.s,.s,.b,.i .i64,.s,.sl 102,.sl 9,.sl 166]] [(false,[.new 5])] (fun _=>(.s (.r [1,0] none) (.s (.s .n (.c (.r [0,0,0,0,2,3,4,0] none) .n (some ⟨.one (.own 5 5) :: ou :: ou :: .one (.ptr 1 0) :: uu 32 [],.u :: .var 104 [.s,.s,.s,.s,.b,.i .i64,.s,.sl 102,.sl 9,.sl 166] :: vv 12 []⟩))) (.s (.r [0,0,0,6,7,8,0,0,0,9,0] none) (.s (.s .n (.c (.r [0,10,0,0,11,0] none) .n (some ⟨.one (.own 5 12) :: ou :: ou :: .one (.ptr 1 0) :: uu 32 [],.u :: .var 104 [.s,.s,.s,.s,.b,.i .i64,.s,.sl 102,.sl 9,.sl 166] :: vv 12 []⟩))) (.s (.r [0,0,0,13,0] none) .n))))))
noncomputable def jno:FI:=jE Tryz.f55 1 [.ag [.i .i64,.s,.sl 115,.sl 166,.sl 162]] [(false,[.ct .b])] (fun _=>(.s (.r [0,0] none) (.s (.r [] (some ⟨ou :: ou :: ob :: uu 30 [],.u :: []⟩)) .n)))
noncomputable def jnn:FI:=jE Tryz.f56 0 [.ct (.sl 162)] [(false,[.ct .s])] (fun _=>.n)
noncomputable def jnm:FI:=jE Tryz.f57 1 [.ct (.i .i64)] [(false,[.ct .s])] (fun _=>(.s .n (.s (.r [0,0] none) .n)))
noncomputable def jnl:FI:=jE Tryz.f58 1 [.ag [.s,.s]] [(false,[.ct .s])] (fun _=>(.s (.r [0,0] none) (.s .n (.s .n (.s (.s .n (.b (.b (.s .n (.s .n (.s (.b (.s .n (.s .n (.c .n .n (some ⟨ou :: .one (.ptr 0 0) :: ou :: os :: uu 8 (oi :: oi :: uu 14 []),.var 91 [.s,.s] :: []⟩)))) ⟨ou :: .one (.ptr 0 0) :: ou :: os :: uu 8 (oi :: oi :: uu 14 []),.var 91 [.s,.s] :: []⟩) .n))) ⟨ou :: .one (.ptr 0 0) :: ou :: os :: uu 8 (oi :: oi :: uu 14 []),.var 91 [.s,.s] :: []⟩) ⟨uu 3 (os :: uu 24 []),.u :: []⟩)) .n)))))
noncomputable def jnk:FI:=jE Tryz.f59 1 [.ct .b,.ag [.i .i64,.s,.sl 102,.sl 9]] [(false,[.ct .s])] (fun _=>(.s (.r [0,0] none) .n))
noncomputable def jnj:FI:=jE Tryz.f60 1 [.ct (.sl 166)] [(false,[.ct .s])] (fun _=>(.s .n (.s .n (.s .n (.s (.s .n (.b (.b (.s .n (.s .n (.s (.b (.s (.r [0,0,0,0] none) .n) ⟨uu 3 (os :: uu 5 (ol 166 :: oi :: oi :: uu 14 [])),.u :: []⟩) .n))) ⟨uu 3 (os :: uu 5 (ol 166 :: oi :: oi :: uu 14 [])),.u :: []⟩) ⟨uu 3 (os :: uu 22 []),.u :: []⟩)) .n)))))
noncomputable def jni:FI:={ jE Tryz.f61 0 [.ct (.sl 9),.ct .s] [(false,[.ct .s])] (fun _=>.n) with prim:=some (jgD 9 j5a) }
noncomputable def jnh:FI:=jE Tryz.f62 1 [.ag [.s,.s,.sl 166,.sl 162]] [(false,[.ct .b])] (fun _=>(.s (.r [0,0] none) (.s (.r [] (some ⟨ou :: ou :: ob :: uu 23 [],.u :: []⟩)) .n)))
noncomputable def jng:FI:=jE Tryz.f63 1 [.ag [.i .i64,.b,.s,.s,.sl 9,.sl 93,.sl 104,.sl 96,.sl 98,.b,.sl 166]] [(false,[.ct .b])] (fun _=>(.s (.r [0,0] none) (.s (.s (.r [] (some ⟨ou :: .one (.ptr 0 0) :: uu 34 (ob :: uu 42 []),.var 52 [.i .i64,.b,.s,.s,.sl 9,.sl 93,.sl 104,.sl 96,.sl 98,.b,.sl 166] :: []⟩)) .n) (.s (.s .n (.b (.s .n (.c (.s (.r [] (some ⟨ou :: ou :: ob :: uu 76 [],.u :: []⟩)) .n) (.s .n (.c (.s (.r [] (some ⟨ou :: ou :: ob :: uu 76 [],.u :: []⟩)) .n) .n none)) none)) ⟨ou :: .one (.ptr 0 0) :: uu 77 [],.var 52 [.i .i64,.b,.s,.s,.sl 9,.sl 93,.sl 104,.sl 96,.sl 98,.b,.sl 166] :: []⟩)) .n))))
noncomputable def jnf:FI:=jE Tryz.f64 0 [.ct .s,.ct .s] [(false,[.ct .s])] (fun _=>.n)
noncomputable def jne:FI:=jE Tryz.f65 1 [] [(false,[.ct (.sl 9)])] (fun _=>(.s .n (.s (.r [0,0] none) .n)))
noncomputable def jnd:FI:=jE Tryz.f66 7 [.ct (.sl 104)] [(false,[.ct .s])] (fun _=>(.s .n (.s .n (.s (.r [0,0] none) (.s (.s .n (.b (.b (.s .n (.s .n (.s (.b (.s (.r [0,0,2,0] none) (.r [0,0,0,3,4,0] none)) ⟨uu 3 (.one (.own 9 5) :: uu 6 (ol 104 :: oi :: oi :: uu 13 [])),vv 7 []⟩) .n))) ⟨uu 3 (.one (.own 9 1) :: uu 6 (ol 104 :: oi :: oi :: uu 13 [])),vv 7 []⟩) ⟨uu 3 (.one (.own 9 6) :: uu 22 []),vv 7 []⟩)) .n)))))
noncomputable def jnc:FI:=jE Tryz.f67 5 [.ag [.i .i64,.b,.s,.s,.sl 9,.sl 93,.sl 104,.sl 96,.sl 98,.b,.sl 166]] [(false,[.ct .s])] (fun _=>(.s (.r [0,0] none) (.s .n (.s (.s .n (.b (.b (.s .n (.s .n (.s (.b (.s (.r [0,0,1,0] none) .n) ⟨ou :: .one (.ptr 0 0) :: ou :: os :: uu 9 (ol 93 :: oi :: oi :: uu 67 []),.var 52 [.i .i64,.b,.s,.s,.sl 9,.sl 93,.sl 104,.sl 96,.sl 98,.b,.sl 166] :: vv 4 []⟩) .n))) ⟨ou :: .one (.ptr 0 0) :: ou :: os :: uu 9 (ol 93 :: oi :: oi :: uu 67 []),.var 52 [.i .i64,.b,.s,.s,.sl 9,.sl 93,.sl 104,.sl 96,.sl 98,.b,.sl 166] :: vv 4 []⟩) ⟨ou :: .one (.ptr 0 0) :: ou :: os :: uu 79 [],.var 52 [.i .i64,.b,.s,.s,.sl 9,.sl 93,.sl 104,.sl 96,.sl 98,.b,.sl 166] :: vv 4 []⟩)) (.s (.s .n (.b (.b (.s .n (.s .n (.s (.b (.s (.r [0,0,2,0] none) .n) ⟨ou :: .one (.ptr 0 0) :: ou :: os :: uu 21 (ol 96 :: oi :: oi :: uu 55 []),.var 52 [.i .i64,.b,.s,.s,.sl 9,.sl 93,.sl 104,.sl 96,.sl 98,.b,.sl 166] :: vv 4 []⟩) .n))) ⟨ou :: .one (.ptr 0 0) :: ou :: os :: uu 21 (ol 96 :: oi :: oi :: uu 55 []),.var 52 [.i .i64,.b,.s,.s,.sl 9,.sl 93,.sl 104,.sl 96,.sl 98,.b,.sl 166] :: vv 4 []⟩) ⟨ou :: .one (.ptr 0 0) :: ou :: os :: uu 79 [],.var 52 [.i .i64,.b,.s,.s,.sl 9,.sl 93,.sl 104,.sl 96,.sl 98,.b,.sl 166] :: vv 4 []⟩)) (.s (.s .n (.b (.b (.s .n (.s .n (.s (.b (.s (.r [0,0,3,0] none) .n) ⟨ou :: .one (.ptr 0 0) :: ou :: os :: uu 43 (ol 98 :: oi :: oi :: uu 33 []),.var 52 [.i .i64,.b,.s,.s,.sl 9,.sl 93,.sl 104,.sl 96,.sl 98,.b,.sl 166] :: vv 4 []⟩) .n))) ⟨ou :: .one (.ptr 0 0) :: ou :: os :: uu 43 (ol 98 :: oi :: oi :: uu 33 []),.var 52 [.i .i64,.b,.s,.s,.sl 9,.sl 93,.sl 104,.sl 96,.sl 98,.b,.sl 166] :: vv 4 []⟩) ⟨ou :: .one (.ptr 0 0) :: ou :: os :: uu 79 [],.var 52 [.i .i64,.b,.s,.s,.sl 9,.sl 93,.sl 104,.sl 96,.sl 98,.b,.sl 166] :: vv 4 []⟩)) (.s (.s .n (.c (.s .n (.b (.b (.s .n (.s .n (.s (.b (.s (.r [0,0,4,0] none) .n) ⟨uu 3 (os :: uu 65 (ol 104 :: oi :: oi :: uu 11 [])),vv 5 []⟩) .n))) ⟨uu 3 (os :: uu 65 (ol 104 :: oi :: oi :: uu 11 [])),vv 5 []⟩) ⟨uu 3 (os :: uu 79 []),vv 5 []⟩)) .n (some ⟨uu 3 (os :: uu 79 []),vv 5 []⟩))) .n)))))))
noncomputable def jnb:FI:=jE Tryz.f68 0 [.ct (.sl 115),.ct (.sl 115)] [(false,[.ct .b])] (fun _=>(.s .n (.s .n (.s (.s .n (.b (.b (.s .n (.s (.b .n ⟨ol 115 :: ol 115 :: uu 3 (oi :: uu 21 []),[]⟩) .n)) ⟨ol 115 :: ol 115 :: uu 3 (oi :: uu 21 []),[]⟩) ⟨uu 27 [],[]⟩)) .n))))
noncomputable def jna:FI:=jE Tryz.f69 0 [.ct (.sl 166),.ct (.sl 166)] [(false,[.ct .b])] (fun _=>(.s .n (.s .n (.s (.s .n (.b (.b (.s .n (.s (.b .n ⟨ol 166 :: ol 166 :: uu 3 (oi :: uu 21 []),[]⟩) .n)) ⟨ol 166 :: ol 166 :: uu 3 (oi :: uu 21 []),[]⟩) ⟨uu 27 [],[]⟩)) .n))))
noncomputable def jn9:FI:=jE Tryz.f70 0 [.ct (.sl 162),.ct (.sl 162)] [(false,[.ct .b])] (fun _=>(.s .n (.s .n (.s (.s .n (.b (.b (.s .n (.s (.b .n ⟨ol 162 :: ol 162 :: uu 3 (oi :: uu 21 []),[]⟩) .n)) ⟨ol 162 :: ol 162 :: uu 3 (oi :: uu 21 []),[]⟩) ⟨uu 27 [],[]⟩)) .n))))
noncomputable def jn8:FI:=jE Tryz.f71 0 [.ct (.sl 9),.ct (.sl 9)] [(false,[.ct .b])] (fun _=>(.s .n (.s .n (.s (.s .n (.b (.b (.s .n (.s (.b .n ⟨ol 9 :: ol 9 :: uu 3 (oi :: uu 20 []),[]⟩) .n)) ⟨ol 9 :: ol 9 :: uu 3 (oi :: uu 20 []),[]⟩) ⟨uu 26 [],[]⟩)) .n))))
noncomputable def jn7:FI:=jE Tryz.f72 0 [.ct (.sl 93),.ct (.sl 93)] [(false,[.ct .b])] (fun _=>(.s .n (.s .n (.s (.s .n (.b (.b (.s .n (.s (.b .n ⟨ol 93 :: ol 93 :: uu 3 (oi :: uu 21 []),[]⟩) .n)) ⟨ol 93 :: ol 93 :: uu 3 (oi :: uu 21 []),[]⟩) ⟨uu 27 [],[]⟩)) .n))))
noncomputable def jn6:FI:=jE Tryz.f73 0 [.ct (.sl 104),.ct (.sl 104)] [(false,[.ct .b])] (fun _=>(.s .n (.s .n (.s (.s .n (.b (.b (.s .n (.s (.b .n ⟨ol 104 :: ol 104 :: uu 3 (oi :: uu 21 []),[]⟩) .n)) ⟨ol 104 :: ol 104 :: uu 3 (oi :: uu 21 []),[]⟩) ⟨uu 27 [],[]⟩)) .n))))
noncomputable def jn5:FI:=jE Tryz.f74 0 [.ct (.sl 96),.ct (.sl 96)] [(false,[.ct .b])] (fun _=>(.s .n (.s .n (.s (.s .n (.b (.b (.s .n (.s (.b .n ⟨ol 96 :: ol 96 :: uu 3 (oi :: uu 21 []),[]⟩) .n)) ⟨ol 96 :: ol 96 :: uu 3 (oi :: uu 21 []),[]⟩) ⟨uu 27 [],[]⟩)) .n))))
noncomputable def jn4:FI:=jE Tryz.f75 0 [.ct (.sl 98),.ct (.sl 98)] [(false,[.ct .b])] (fun _=>(.s .n (.s .n (.s (.s .n (.b (.b (.s .n (.s (.b .n ⟨ol 98 :: ol 98 :: uu 3 (oi :: uu 21 []),[]⟩) .n)) ⟨ol 98 :: ol 98 :: uu 3 (oi :: uu 21 []),[]⟩) ⟨uu 27 [],[]⟩)) .n))))
noncomputable def jn3:FI:=jE Tryz.f76 1 [.ag [.s,.s,.s,.b,.i .i64,.s,.sl 135,.sl 9,.sl 141],.ct (.i .i64)] [(false,[.ct (.i .i64)])] (fun _=>(.s (.r [0,0] none) .n))
noncomputable def jn2:FI:=jE Tryz.f77 1 [.ag [.s,.sl 243],.ct (.i .i64)] [(false,[.ct (.i .i64)])] (fun _=>(.s (.r [0,0] none) .n))
noncomputable def jn1:FI:=jE Tryz.f78 1 [.ag [.i .i64,.s,.s,.s,.sl 243,.sl 141,.sl 144],.ct (.i .i64)] [(false,[.ct (.i .i64)])] (fun _=>(.s (.r [0,0] none) .n))
noncomputable def jn0:FI:=jE Tryz.f79 1 [.ag [.s,.s,.sl 150,.s,.s,.sl 141],.ct (.i .i64)] [(false,[.ct (.i .i64)])] (fun _=>(.s (.r [0,0] none) .n))
noncomputable def jmZ:FI:=jE Tryz.f80 1 [.ag [.s,.s,.s,.s,.b,.i .i64,.s,.sl 135,.sl 9,.sl 141],.ct (.i .i64)] [(false,[.ct (.i .i64)])] (fun _=>(.s (.r [0,0] none) .n))
noncomputable def jmY:FI:=jE Tryz.f81 1 [.ag [.s,.s,.sl 141],.ct (.i .i64)] [(false,[.ct (.i .i64)])] (fun _=>(.s (.r [0,0] none) .n))
noncomputable def jmX:FI:=jE Tryz.f82 1 [.ag [.i .i64,.s],.ct (.i .i64)] [(false,[.ct (.i .i64)])] (fun _=>(.s (.r [0,0] none) .n))
noncomputable def jmq:FI:=jE Tryz.f101 3 [.ag [.s,.s,.s,.b,.i .i64,.s,.sl 135,.sl 9,.sl 141]] [(true,[.ct .s,.ct .s,.ct .s,.ct .b,.ct (.i .i64),.ct .s,.ct (.sl 102),.ct (.sl 9),.ct (.sl 166)])] (fun _=>(.s (.r [0,1] none) (.s (.r [2] none) .n)))
noncomputable def jmp:FI:=jE Tryz.f102 3 [.ag [.s,.sl 243]] [(true,[.ct .s,.ct (.sl 211)])] (fun _=>(.s (.r [0,1] none) (.s (.r [2] none) .n)))
noncomputable def jmo:FI:=jE Tryz.f103 3 [.ag [.i .i64,.s,.s,.s,.sl 243,.sl 141,.sl 144]] [(true,[.ct (.i .i64),.ct .s,.ct .s,.ct .s,.ct (.sl 211),.ct (.sl 166),.ct (.sl 162)])] (fun _=>(.s (.r [0,1] none) (.s (.r [2] none) .n)))
noncomputable def jmn:FI:=jE Tryz.f104 3 [.ag [.s,.s,.sl 150,.s,.s,.sl 141]] [(true,[.ct .s,.ct .s,.ct (.sl 104),.ct .s,.ct .s,.ct (.sl 166)])] (fun _=>(.s (.r [0,1] none) (.s (.r [2] none) .n)))
noncomputable def jmm:FI:=jE Tryz.f105 3 [.ag [.s,.s,.s,.s,.b,.i .i64,.s,.sl 135,.sl 9,.sl 141]] [(true,[.ct .s,.ct .s,.ct .s,.ct .s,.ct .b,.ct (.i .i64),.ct .s,.ct (.sl 102),.ct (.sl 9),.ct (.sl 166)])] (fun _=>(.s (.r [0,1] none) (.s (.r [2] none) .n)))
noncomputable def jml:FI:=jE Tryz.f106 3 [.ag [.s,.s,.sl 141]] [(true,[.ct .s,.ct .s,.ct (.sl 166)])] (fun _=>(.s (.r [0,1] none) (.s (.r [2] none) .n)))
noncomputable def jmk:FI:=jE Tryz.f107 3 [.ag [.i .i64,.s]] [(true,[.ct (.i .i64),.ct .s])] (fun _=>(.s (.r [0,1] none) (.s (.r [2] none) .n)))
noncomputable def jmW:FI:=jE Tryz.f83 0 [.ct .s] [(false,[.ct .b])] (fun _=>(.s .n (.s (.s (.r [] (some ⟨os :: uu 15 (ob :: uu 18 []),[]⟩)) .n) (.s (.s .n (.b (.b (.s .n (.s (.b (.s (.r [] (some ⟨os :: ou :: ou :: oi :: uu 30 (ob :: []),[]⟩)) .n) ⟨os :: ou :: ou :: oi :: uu 31 [],[]⟩) .n)) ⟨os :: ou :: ou :: oi :: uu 31 [],[]⟩) ⟨uu 35 [],[]⟩)) .n))))
noncomputable def jmV:FI:=jE Tryz.f84 0 [.ct (.sl 166)] [(false,[.ct .b])] (fun _=>(.s .n (.s (.s .n (.b (.b (.s .n (.s (.b (.s (.r [] (some ⟨ol 166 :: ou :: ou :: oi :: uu 21 (ob :: []),[]⟩)) .n) ⟨ol 166 :: ou :: ou :: oi :: uu 22 [],[]⟩) .n)) ⟨ol 166 :: ou :: ou :: oi :: uu 22 [],[]⟩) ⟨uu 26 [],[]⟩)) .n)))
noncomputable def jmU:FI:=jE Tryz.f85 1 [.ag [.s,.s,.s,.b,.i .i64,.s,.sl 102,.sl 9,.sl 166]] [(false,[.ct .b])] (fun _=>(.s (.r [0,0] none) (.s (.r [] (some ⟨ou :: ou :: ob :: uu 20 [],.u :: []⟩)) .n)))
noncomputable def jmT:FI:=jE Tryz.f86 0 [.ct (.sl 162)] [(false,[.ct .b])] (fun _=>(.s .n (.s .n (.s (.s .n (.b (.b (.s (.s (.r [] (some ⟨ol 162 :: ou :: ou :: oi :: oi :: uu 8 (ob :: uu 26 []),[]⟩)) .n) (.s (.b .n ⟨ol 162 :: ou :: ou :: oi :: oi :: uu 35 [],[]⟩) .n)) ⟨ol 162 :: ou :: ou :: oi :: oi :: uu 35 [],[]⟩) ⟨ol 162 :: ou :: ou :: oi :: uu 36 [],[]⟩)) (.s (.s .n (.b (.b (.s (.s (.r [] (some ⟨ol 162 :: ou :: ou :: oi :: ou :: oi :: uu 23 (ob :: uu 10 []),[]⟩)) .n) (.s (.b .n ⟨ol 162 :: ou :: ou :: oi :: ou :: oi :: uu 34 [],[]⟩) .n)) ⟨ol 162 :: ou :: ou :: oi :: ou :: oi :: uu 34 [],[]⟩) ⟨uu 3 (oi :: uu 36 []),[]⟩)) .n)))))
noncomputable def jmS:FI:=jE Tryz.f87 6 [.mv 5,.ct (.i .i64)] [(false,[.new 5])] (fun _=>(.s .n (.s (.s .n (.b (.b (.s .n (.s (.b (.r [0,2,3,0] none) ⟨.one (.own 5 4) :: oi :: uu 3 (oi :: uu 10 []),vv 6 []⟩) .n)) ⟨.one (.own 5 1) :: oi :: uu 3 (oi :: uu 10 []),vv 6 []⟩) ⟨.one (.own 5 5) :: uu 15 [],vv 6 []⟩)) .n)))
noncomputable def jmR:FI:=jE Tryz.f88 16 [.mv 5,.ct (.sl 211)] [(false,[.new 5])] (fun _=>(.s .n (.s (.s .n (.b (.b (.s .n (.s (.b (.s (.s .n (.c (.r [0,2,3,0] none) (.r [0,4,5,0] none) (some ⟨.one (.own 5 6) :: ol 211 :: uu 3 (oi :: uu 37 []),vv 16 []⟩))) (.s (.r [0,0,0,0,0,0,7,8,9,0] none) (.r [0,0,0,0,0,0,10,0] none))) ⟨.one (.own 5 11) :: ol 211 :: uu 3 (oi :: uu 37 []),vv 16 []⟩) .n)) ⟨.one (.own 5 1) :: ol 211 :: uu 3 (oi :: uu 37 []),vv 16 []⟩) ⟨.one (.own 5 12) :: ol 211 :: uu 41 [],vv 16 []⟩)) (.s (.s .n (.c (.r [0,13,14,0] none) .n (some ⟨.one (.own 5 15) :: uu 42 [],vv 16 []⟩))) .n))))
noncomputable def jmQ:FI:=jE Tryz.f89 1 [.ag [.s,.s]] [(false,[.ct .s])] (fun _=>(.s (.r [0,0] none) (.s .n (.s .n (.s (.s .n (.b (.b (.s .n (.s (.b (.s .n (.c .n .n (some ⟨ou :: .one (.ptr 0 0) :: ou :: os :: oi :: uu 23 [],.var 91 [.s,.s] :: []⟩))) ⟨ou :: .one (.ptr 0 0) :: ou :: os :: oi :: uu 23 [],.var 91 [.s,.s] :: []⟩) .n)) ⟨ou :: .one (.ptr 0 0) :: ou :: os :: oi :: uu 23 [],.var 91 [.s,.s] :: []⟩) ⟨uu 3 (os :: uu 24 []),.u :: []⟩)) .n)))))
noncomputable def jmP:FI:=jE Tryz.f90 25 [.mv 5,.ag [.i .i64,.s,.sl 102,.sl 9]] [(false,[.new 5])] (fun _=>(.s (.r [1,0] none) (.s (.s .n (.b (.s .n (.c (.s (.r [0,2,3,0,0,4,0] none) .n) (.s .n (.c (.s (.r [0,0,0,0,5,0] none) .n) (.s (.s .n (.c .n .n (some ⟨.one (.own 5 6) :: ou :: ou :: .one (.ptr 1 0) :: uu 21 (ob :: uu 48 []),.u :: .var 102 [.i .i64,.s,.sl 102,.sl 9] :: vv 23 []⟩))) (.c (.s .n (.s (.s .n (.c .n .n (some ⟨.one (.own 5 7) :: ou :: ou :: .one (.ptr 1 0) :: ou :: .one (.i .u8) :: .one (.i .u8) :: uu 67 [],.u :: .var 102 [.i .i64,.s,.sl 102,.sl 9] :: vv 23 []⟩))) (.s (.r [0,0,8,9,0] none) (.s (.s .n (.b (.b (.s .n (.s (.b (.s (.s .n (.c (.r [0,11,12,0] none) .n (some ⟨.one (.own 5 13) :: ou :: ou :: .one (.ptr 1 0) :: ou :: ou :: .one (.i .u8) :: oi :: uu 66 [],.u :: .var 102 [.i .i64,.s,.sl 102,.sl 9] :: vv 23 []⟩))) (.s (.s .n (.c (.r [0,0,0,0,0,0,14,15,16,0] none) .n (some ⟨.one (.own 5 17) :: ou :: ou :: .one (.ptr 1 0) :: ou :: ou :: .one (.i .u8) :: oi :: uu 66 [],.u :: .var 102 [.i .i64,.s,.sl 102,.sl 9] :: vv 23 []⟩))) (.r [0,0,0,0,0,0,18,0] none))) ⟨.one (.own 5 19) :: ou :: ou :: .one (.ptr 1 0) :: ou :: ou :: .one (.i .u8) :: oi :: uu 66 [],.u :: .var 102 [.i .i64,.s,.sl 102,.sl 9] :: vv 23 []⟩) .n)) ⟨.one (.own 5 10) :: ou :: ou :: .one (.ptr 1 0) :: ou :: ou :: .one (.i .u8) :: oi :: uu 66 [],.u :: .var 102 [.i .i64,.s,.sl 102,.sl 9] :: vv 23 []⟩) ⟨.one (.own 5 20) :: uu 5 (.one (.i .u8) :: uu 67 []),vv 25 []⟩)) (.s (.r [0,0,21,22,0] none) .n))))) .n none)) none)) none)) ⟨.one (.own 5 23) :: ou :: ou :: .one (.ptr 1 0) :: uu 70 [],.u :: .var 102 [.i .i64,.s,.sl 102,.sl 9] :: vv 23 []⟩)) (.s (.r [0,0,0,24,0] none) .n))))
noncomputable def jmO:FI:=jE Tryz.f91 0 [.ct (.i .i64),.ct (.i .i64),.ct (.i .i64)] [(false,[.ct .b])] (fun _=>(.s .n (.s (.r [] (some ⟨uu 6 (ob :: uu 8 []),[]⟩)) .n)))
noncomputable def jmN:FI:=jE Tryz.f92 0 [.ct .s] [(false,[.ct .b])] (fun _=>(.s .n (.s (.r [] (some ⟨ou :: ou :: ob :: uu 7 [],[]⟩)) .n)))
noncomputable def jmM:FI:=jE Tryz.f93 1 [.ag [.i .i64,.b,.s,.s,.sl 9,.sl 93,.sl 104,.sl 96,.sl 98,.b,.sl 166]] [(false,[.ct .b])] (fun _=>(.s (.r [0,0] none) .n))
noncomputable def jmL:FI:=jE Tryz.f94 1 [.ag [.i .i64,.b,.s,.s,.sl 9,.sl 93,.sl 104,.sl 96,.sl 98,.b,.sl 166]] [(false,[.ct .b])] (fun _=>(.s (.r [0,0] none) (.s .n (.s (.r [] (some ⟨ou :: .one (.ptr 0 0) :: ou :: oi :: ob :: uu 125 [],.var 52 [.i .i64,.b,.s,.s,.sl 9,.sl 93,.sl 104,.sl 96,.sl 98,.b,.sl 166] :: []⟩)) (.s (.s (.k [] [(8,⟨ou :: .one (.ptr 0 0) :: ou :: oi :: ob :: uu 16 (ob :: uu 108 []),.var 52 [.i .i64,.b,.s,.s,.sl 9,.sl 93,.sl 104,.sl 96,.sl 98,.b,.sl 166] :: []⟩),(18,⟨ou :: .one (.ptr 0 0) :: ou :: oi :: uu 35 (ob :: uu 90 []),.var 52 [.i .i64,.b,.s,.s,.sl 9,.sl 93,.sl 104,.sl 96,.sl 98,.b,.sl 166] :: []⟩),(14,⟨ou :: .one (.ptr 0 0) :: ou :: oi :: uu 49 (ob :: uu 76 []),.var 52 [.i .i64,.b,.s,.s,.sl 9,.sl 93,.sl 104,.sl 96,.sl 98,.b,.sl 166] :: []⟩),(10,⟨ou :: .one (.ptr 0 0) :: ou :: oi :: uu 59 (ob :: uu 66 []),.var 52 [.i .i64,.b,.s,.s,.sl 9,.sl 93,.sl 104,.sl 96,.sl 98,.b,.sl 166] :: []⟩),(10,⟨ou :: .one (.ptr 0 0) :: ou :: oi :: uu 69 (ob :: uu 56 []),.var 52 [.i .i64,.b,.s,.s,.sl 9,.sl 93,.sl 104,.sl 96,.sl 98,.b,.sl 166] :: []⟩),(8,⟨ou :: .one (.ptr 0 0) :: ou :: oi :: uu 77 (ob :: uu 48 []),.var 52 [.i .i64,.b,.s,.s,.sl 9,.sl 93,.sl 104,.sl 96,.sl 98,.b,.sl 166] :: []⟩)]) .n) (.s (.s .n (.c (.s (.s .n (.b (.b (.s .n (.s (.b .n ⟨ou :: .one (.ptr 0 0) :: uu 3 (oi :: uu 124 []),.var 52 [.i .i64,.b,.s,.s,.sl 9,.sl 93,.sl 104,.sl 96,.sl 98,.b,.sl 166] :: []⟩) .n)) ⟨ou :: .one (.ptr 0 0) :: uu 3 (oi :: uu 124 []),.var 52 [.i .i64,.b,.s,.s,.sl 9,.sl 93,.sl 104,.sl 96,.sl 98,.b,.sl 166] :: []⟩) ⟨ou :: .one (.ptr 0 0) :: uu 128 [],.var 52 [.i .i64,.b,.s,.s,.sl 9,.sl 93,.sl 104,.sl 96,.sl 98,.b,.sl 166] :: []⟩)) (.s (.r [] (some ⟨ou :: ou :: ob :: uu 127 [],.u :: []⟩)) .n)) .n none)) (.s (.r [] (some ⟨ou :: ou :: ob :: uu 127 [],.u :: []⟩)) .n)))))))
noncomputable def jmK:FI:=jE Tryz.f95 0 [.ct (.sl 104)] [(false,[.ct .b])] (fun _=>(.s .n (.s (.s .n (.b (.b (.s .n (.s (.b .n ⟨ol 104 :: ou :: ou :: oi :: uu 12 [],[]⟩) .n)) ⟨ol 104 :: ou :: ou :: oi :: uu 12 [],[]⟩) ⟨uu 16 [],[]⟩)) .n)))
noncomputable def jmJ:FI:=jE Tryz.f96 0 [.ct (.sl 166)] [(false,[.ct .b])] (fun _=>(.s .n (.s (.s .n (.b (.b (.s .n (.s (.b (.s .n (.b (.b (.s .n (.s (.b .n ⟨ol 166 :: ou :: ou :: oi :: oi :: uu 29 [],[]⟩) .n)) ⟨ol 166 :: ou :: ou :: oi :: oi :: uu 29 [],[]⟩) ⟨ol 166 :: ou :: ou :: oi :: uu 30 [],[]⟩)) ⟨ol 166 :: ou :: ou :: oi :: uu 30 [],[]⟩) .n)) ⟨ol 166 :: ou :: ou :: oi :: uu 30 [],[]⟩) ⟨ol 166 :: uu 33 [],[]⟩)) .n)))
noncomputable def jmI:FI:=jE Tryz.f97 1 [.ag [.s,.s,.sl 104,.s,.s,.sl 166]] [(false,[.ct .b])] (fun _=>(.s (.r [0,0] none) (.s (.r [] (some ⟨ou :: ou :: ob :: uu 23 [],.u :: []⟩)) .n)))
noncomputable def jmH:FI:=jE Tryz.f98 0 [.ct .s] [(false,[.ct .b])] (fun _=>(.s .n (.s (.r [] (some ⟨ou :: ou :: ob :: uu 10 [],[]⟩)) .n)))
noncomputable def jmG:FI:=jE Tryz.f99 0 [.ct .s] [(false,[.ct .b])] (fun _=>(.s .n (.s (.s .n (.b (.b (.s .n (.b .n ⟨os :: ou :: ou :: oi :: uu 17 [],[]⟩)) ⟨os :: ou :: ou :: oi :: uu 17 [],[]⟩) ⟨uu 21 [],[]⟩)) .n)))
noncomputable def jmr:FI:=jE Tryz.f100 1 [.ct (.i .i64)] [(false,[.ct .s])] (fun _=>(.s .n (.s .n (.s (.r [0,0,0,0,0,0,0,0,0,0,0,0,0,0,0,0,0,0,0,0,0,0] none) .n))))
noncomputable def jmi:FI:=jE Tryz.f109 0 [.ct (.sl 115),.fn] [(false,[.ct .b])] (fun _=>.n)
noncomputable def jmf:FI:=jE Tryz.f112 0 [.ct (.sl 166)] [(false,[.ct .b])] (fun _=>.n)
noncomputable def jme:FI:=jE Tryz.f113 2 [.ct (.sl 162)] [(false,[.ct .b])] (fun _=>(.s .n (.s (.r [0,0,0] none) (.s (.s .n (.b (.b (.s .n (.s .n (.s (.b (.s (.r [0,0,1,0] none) .n) ⟨ol 162 :: ou :: ou :: .one (.ptr 0 0) :: uu 4 (ol 162 :: oi :: oi :: uu 11 []),.var 224 [.i .i64] :: .u :: []⟩) .n))) ⟨ol 162 :: ou :: ou :: .one (.ptr 0 0) :: uu 4 (ol 162 :: oi :: oi :: uu 11 []),.var 224 [.i .i64] :: .u :: []⟩) ⟨ol 162 :: uu 21 [],.u :: .u :: []⟩)) .n))))
noncomputable def jmj:FI:=jE Tryz.f108 0 [.ct .s] [(false,[.ct .b])] (fun _=>(.s .n (.s (.s (.r [] (some ⟨os :: uu 11 (ob :: uu 11 []),[]⟩)) .n) (.s (.s .n (.b (.b (.s .n (.s .n (.s (.b .n ⟨os :: uu 13 (oi :: oi :: uu 8 []),[]⟩) .n))) ⟨os :: uu 13 (oi :: oi :: uu 8 []),[]⟩) ⟨uu 24 [],[]⟩)) .n))))
noncomputable def jmd:FI:=jE Tryz.f114 0 [.ct (.sl 162),.ct (.i .i64)] [(false,[.ct .s])] (fun _=>(.s .n (.s (.s (.r [] (some ⟨ol 162 :: oi :: uu 9 (ob :: uu 3 []),[]⟩)) .n) .n)))
noncomputable def jmc:FI:=jE Tryz.f115 0 [.ct (.i .i64),.ct (.i .i64),.ct (.i .i64)] [(false,[.ct .b])] (fun _=>(.s .n (.s (.r [] (some ⟨uu 6 (ob :: uu 8 []),[]⟩)) .n)))
noncomputable def jmb:FI:=jE Tryz.f116 1 [.ag [.s,.s]] [(false,[.ct .b])] (fun _=>(.s (.r [0,0] none) (.s (.r [] (some ⟨ou :: ou :: ob :: uu 21 [],.u :: []⟩)) .n)))
noncomputable def jma:FI:=jE Tryz.f117 1 [.ag [.i .i64,.s,.sl 102,.sl 9]] [(false,[.ct .s])] (fun _=>(.s (.r [0,0] none) .n))
noncomputable def jm9:FI:=jE Tryz.f118 7 [.ct (.sl 211)] [(false,[.ct .s])] (fun _=>(.s .n (.s (.s (.r [] (some ⟨ol 211 :: uu 12 (ob :: uu 22 []),vv 7 []⟩)) .n) (.s (.r [0,0] none) (.s (.s .n (.b (.b (.s .n (.s .n (.s (.b (.s (.r [0,0,2,0] none) (.r [0,0,0,0,0,0,0,0,3,4,0] none)) ⟨uu 3 (.one (.own 9 5) :: uu 11 (ol 211 :: oi :: oi :: uu 18 [])),vv 7 []⟩) .n))) ⟨uu 3 (.one (.own 9 1) :: uu 11 (ol 211 :: oi :: oi :: uu 18 [])),vv 7 []⟩) ⟨uu 3 (.one (.own 9 6) :: uu 32 []),vv 7 []⟩)) .n)))))
noncomputable def jm8:FI:=jE Tryz.f122 0 [.ct .s] [(false,[.ct .b])] (fun _=>(.s .n (.s (.r [] (some ⟨ou :: ou :: ob :: uu 7 [],[]⟩)) .n)))
noncomputable def jm7:FI:=jE Tryz.f123 1 [.ag [.i .i64,.b,.s,.s,.sl 9,.sl 93,.sl 104,.sl 96,.sl 98,.b,.sl 166]] [(false,[.ct .b])] (fun _=>(.s (.r [0,0] none) .n))
noncomputable def jm6:FI:=jE Tryz.f124 1 [.ag [.i .i64,.b,.s,.s,.sl 9,.sl 93,.sl 104,.sl 96,.sl 98,.b,.sl 166]] [(false,[.ct .b])] (fun _=>(.s (.r [0,0] none) (.s (.r [] (some ⟨ou :: ou :: ob :: uu 32 [],.u :: []⟩)) .n)))
noncomputable def jm5:FI:=jE Tryz.f125 1 [.ag [.i .i64,.b,.s,.s,.sl 9,.sl 93,.sl 104,.sl 96,.sl 98,.b,.sl 166]] [(false,[.ct .b])] (fun _=>(.s (.r [0,0] none) (.s .n (.s (.r [] (some ⟨ou :: .one (.ptr 0 0) :: ou :: oi :: ob :: uu 83 [],.var 52 [.i .i64,.b,.s,.s,.sl 9,.sl 93,.sl 104,.sl 96,.sl 98,.b,.sl 166] :: []⟩)) (.s (.s (.r [] (some ⟨ou :: .one (.ptr 0 0) :: ou :: oi :: uu 34 (ob :: uu 49 []),.var 52 [.i .i64,.b,.s,.s,.sl 9,.sl 93,.sl 104,.sl 96,.sl 98,.b,.sl 166] :: []⟩)) .n) (.s (.s (.r [] (some ⟨ou :: .one (.ptr 0 0) :: ou :: oi :: uu 56 (ob :: uu 27 []),.var 52 [.i .i64,.b,.s,.s,.sl 9,.sl 93,.sl 104,.sl 96,.sl 98,.b,.sl 166] :: []⟩)) .n) (.s (.r [] (some ⟨ou :: ou :: ob :: uu 85 [],.u :: []⟩)) .n)))))))
noncomputable def jm4:FI:=jE Tryz.f126 0 [.ct (.sl 9),.fn] [(false,[.ct .b])] (fun _=>.n)
noncomputable def jm1:FI:=jE Tryz.f129 16 [.ct .s] [(false,[.ct .s])] (fun _=>(.s .n (.s (.s (.r [] (some ⟨os :: uu 13 (ob :: uu 44 []),vv 16 []⟩)) .n) (.s (.r [0,0] none) (.s (.s .n (.b (.b (.s .n (.s .n (.s (.b (.s .n (.s .n (.s .n (.b (.s .n (.c (.r [0,0,0,2,3,0] none) (.s (.r [] (some ⟨os :: ou :: ou :: .one (.own 5 4) :: ou :: .one (.i .u8) :: uu 11 (oi :: oi :: uu 19 (ob :: uu 20 [])),vv 16 []⟩)) (.c (.r [0,0,0,0,0,0,0,5,6,0] none) (.r [0,0,7,8,0] none) (some ⟨os :: ou :: ou :: .one (.own 5 9) :: uu 13 (oi :: oi :: uu 40 []),vv 16 []⟩))) (some ⟨os :: ou :: ou :: .one (.own 5 10) :: uu 13 (oi :: oi :: uu 40 []),vv 16 []⟩))) ⟨os :: ou :: ou :: .one (.own 5 11) :: uu 13 (oi :: oi :: uu 40 []),vv 16 []⟩)))) ⟨os :: ou :: ou :: .one (.own 5 12) :: uu 13 (oi :: oi :: uu 40 []),vv 16 []⟩) .n))) ⟨os :: ou :: ou :: .one (.own 5 1) :: uu 13 (oi :: oi :: uu 40 []),vv 16 []⟩) ⟨uu 3 (.one (.own 5 13) :: uu 55 []),vv 16 []⟩)) (.s (.r [0,14,15,0,0] none) .n))))))
noncomputable def jm0:FI:=jE Tryz.f130 1 [.ag [.s,.s,.s,.s,.b,.i .i64,.s,.sl 102,.sl 9,.sl 166]] [(false,[.ct .s])] (fun _=>(.s (.r [0,0] none) (.s .n (.s .n (.s (.s .n (.c .n .n (some ⟨ou :: .one (.ptr 0 0) :: ou :: os :: uu 29 [],.var 104 [.s,.s,.s,.s,.b,.i .i64,.s,.sl 102,.sl 9,.sl 166] :: []⟩))) .n)))))
noncomputable def jlZ:FI:=jE Tryz.f131 1 [.ag [.s,.s,.sl 104,.s,.s,.sl 166]] [(false,[.ct .s])] (fun _=>(.s (.r [0,0] none) .n))
noncomputable def jlY:FI:=jE Tryz.f132 2 [.ag [.s,.s,.s,.b,.i .i64,.s,.sl 102,.sl 9,.sl 166],.ag [.s,.s,.s,.b,.i .i64,.s,.sl 102,.sl 9,.sl 166]] [(false,[.ct .b])] (fun _=>(.s (.r [0,1,0] none) .n))
noncomputable def jlX:FI:=jE Tryz.f133 2 [.ag [.s,.sl 211],.ag [.s,.sl 211]] [(false,[.ct .b])] (fun _=>(.s (.r [0,1,0] none) .n))
noncomputable def jlW:FI:=jE Tryz.f134 2 [.ag [.i .i64,.s,.s,.s,.sl 211,.sl 166,.sl 162],.ag [.i .i64,.s,.s,.s,.sl 211,.sl 166,.sl 162]] [(false,[.ct .b])] (fun _=>(.s (.r [0,1,0] none) .n))
noncomputable def jlV:FI:=jE Tryz.f135 2 [.ag [.s,.s,.sl 104,.s,.s,.sl 166],.ag [.s,.s,.sl 104,.s,.s,.sl 166]] [(false,[.ct .b])] (fun _=>(.s (.r [0,1,0] none) .n))
noncomputable def jlU:FI:=jE Tryz.f136 2 [.ag [.s,.s,.s,.s,.b,.i .i64,.s,.sl 102,.sl 9,.sl 166],.ag [.s,.s,.s,.s,.b,.i .i64,.s,.sl 102,.sl 9,.sl 166]] [(false,[.ct .b])] (fun _=>(.s (.r [0,1,0] none) .n))
noncomputable def jlT:FI:=jE Tryz.f137 2 [.ag [.s,.s,.sl 166],.ag [.s,.s,.sl 166]] [(false,[.ct .b])] (fun _=>(.s (.r [0,1,0] none) .n))
noncomputable def jlS:FI:=jE Tryz.f138 2 [.ag [.i .i64,.s],.ag [.i .i64,.s]] [(false,[.ct .b])] (fun _=>(.s (.r [0,1,0] none) .n))
noncomputable def jlR:FI:=jE Tryz.f139 1 [.ag [.s,.s],.ct (.i .i64)] [(false,[.ct (.i .i64)])] (fun _=>(.s (.r [0,0] none) .n))
noncomputable def jlQ:FI:=jE Tryz.f140 1 [.ag [.i .i64,.s,.sl 135,.sl 9],.ct (.i .i64)] [(false,[.ct (.i .i64)])] (fun _=>(.s (.r [0,0] none) .n))
noncomputable def jlP:FI:=jE Tryz.f141 0 [.ct (.sl 243),.ct (.i .i64)] [(false,[.ct (.i .i64)])] (fun _=>(.s .n (.s .n (.s .n (.s (.s .n (.b (.b (.s .n (.s (.b .n ⟨ol 243 :: oi :: uu 3 (oi :: uu 21 []),[]⟩) .n)) ⟨ol 243 :: oi :: uu 3 (oi :: uu 21 []),[]⟩) ⟨ou :: oi :: uu 25 [],[]⟩)) .n)))))
noncomputable def jlD:FI:=jE Tryz.f153 3 [.ag [.s,.s]] [(true,[.ct .s,.ct .s])] (fun _=>(.s (.r [0,1] none) (.s (.r [2] none) .n)))
noncomputable def jlC:FI:=jE Tryz.f154 3 [.ag [.i .i64,.s,.sl 135,.sl 9]] [(true,[.ct (.i .i64),.ct .s,.ct (.sl 102),.ct (.sl 9)])] (fun _=>(.s (.r [0,1] none) (.s (.r [2] none) .n)))
noncomputable def jlB:FI:=jE Tryz.f155 4 [.ct (.sl 243)] [(false,[.ct (.sl 211)])] (fun _=>(.s .n (.s (.r [0,0,0,0] none) (.s (.s .n (.b (.b (.s .n (.s (.b .n ⟨ol 243 :: ou :: ou :: .one (.own 211 2) :: oi :: uu 18 [],vv 4 []⟩) .n)) ⟨ol 243 :: ou :: ou :: .one (.own 211 1) :: oi :: uu 18 [],vv 4 []⟩) ⟨uu 3 (.one (.own 211 3) :: uu 19 []),vv 4 []⟩)) .n))))
noncomputable def jlO:FI:=jE Tryz.f142 0 [.ct (.i .u8)] [(false,[.ct .b])] (fun _=>(.s .n (.s (.r [] (some ⟨ou :: ou :: ob :: uu 6 [],[]⟩)) .n)))
noncomputable def jlN:FI:=jE Tryz.f143 0 [.ct (.i .u8)] [(false,[.ct .b])] (fun _=>(.s .n (.s (.r [] (some ⟨ou :: ou :: ob :: uu 18 [],[]⟩)) .n)))
noncomputable def jlM:FI:=jE Tryz.f144 0 [.ct (.sl 211)] [(false,[.ct .b])] (fun _=>(.s .n (.s (.s .n (.b (.b (.s .n (.s (.b (.s (.r [] (some ⟨ol 211 :: ou :: ou :: oi :: uu 21 (ob :: []),[]⟩)) .n) ⟨ol 211 :: ou :: ou :: oi :: uu 22 [],[]⟩) .n)) ⟨ol 211 :: ou :: ou :: oi :: uu 22 [],[]⟩) ⟨uu 26 [],[]⟩)) .n)))
noncomputable def jlL:FI:=jE Tryz.f145 1 [.ag [.s,.s]] [(false,[.ct .b])] (fun _=>(.s (.r [0,0] none) (.s (.s (.r [] (some ⟨ou :: .one (.ptr 0 0) :: uu 11 (ob :: uu 38 []),.var 91 [.s,.s] :: []⟩)) .n) (.s (.s .n (.b (.b (.s .n (.s (.b (.s (.r [] (some ⟨ou :: .one (.ptr 0 0) :: ou :: oi :: uu 47 (ob :: []),.var 91 [.s,.s] :: []⟩)) .n) ⟨ou :: .one (.ptr 0 0) :: ou :: oi :: uu 48 [],.var 91 [.s,.s] :: []⟩) .n)) ⟨ou :: .one (.ptr 0 0) :: ou :: oi :: uu 48 [],.var 91 [.s,.s] :: []⟩) ⟨uu 52 [],.u :: []⟩)) .n))))
noncomputable def jlK:FI:=jE Tryz.f146 1 [.ct .b,.ag [.i .i64,.s,.sl 102,.sl 9]] [(false,[.ct .b])] (fun _=>(.s (.r [0,0] none) (.s (.s .n (.c (.s (.r [] (some ⟨uu 4 (ob :: uu 10 []),.u :: []⟩)) .n) .n none)) .n)))
noncomputable def jlJ:FI:=jE Tryz.f147 1 [.ag [.i .i64,.s,.s,.s,.sl 211,.sl 166,.sl 162],.ct (.i .i64)] [(false,[.ct (.i .i64)])] (fun _=>(.s (.r [0,0] none) (.s .n (.s (.s .n (.b (.b (.s (.s (.r [] (some ⟨ou :: oi :: .one (.ptr 0 0) :: ou :: ou :: oi :: uu 10 (ob :: uu 10 []),.var 162 [.i .i64,.s,.s,.s,.sl 211,.sl 166,.sl 162] :: []⟩)) .n) (.s (.b .n ⟨ou :: oi :: .one (.ptr 0 0) :: ou :: ou :: oi :: uu 21 [],.var 162 [.i .i64,.s,.s,.s,.sl 211,.sl 166,.sl 162] :: []⟩) .n)) ⟨ou :: oi :: .one (.ptr 0 0) :: ou :: ou :: oi :: uu 21 [],.var 162 [.i .i64,.s,.s,.s,.sl 211,.sl 166,.sl 162] :: []⟩) ⟨ou :: oi :: uu 25 [],.u :: []⟩)) .n))))
noncomputable def jlI:FI:=jE Tryz.f148 1 [.ag [.i .i64,.s,.s,.s,.sl 211,.sl 166,.sl 162],.ct (.i .i64)] [(false,[.ct .b])] (fun _=>(.s (.r [0,0] none) (.s (.s (.r [] (some ⟨ou :: oi :: .one (.ptr 0 0) :: uu 21 (ob :: uu 16 []),.var 162 [.i .i64,.s,.s,.s,.sl 211,.sl 166,.sl 162] :: []⟩)) .n) (.s (.s .n (.b (.b (.s .n (.s (.b .n ⟨ou :: oi :: .one (.ptr 0 0) :: ou :: ou :: oi :: uu 35 [],.var 162 [.i .i64,.s,.s,.s,.sl 211,.sl 166,.sl 162] :: []⟩) .n)) ⟨ou :: oi :: .one (.ptr 0 0) :: ou :: ou :: oi :: uu 35 [],.var 162 [.i .i64,.s,.s,.s,.sl 211,.sl 166,.sl 162] :: []⟩) ⟨uu 41 [],.u :: []⟩)) .n))))
noncomputable def jlH:FI:=jE Tryz.f149 0 [.ct .s] [(false,[.ct .b])] (fun _=>(.s .n (.s (.s .n (.b (.s (.s .n (.c .n (.s .n (.c .n (.s .n (.c .n (.s .n (.c .n (.s .n (.c .n (.s .n (.c .n (.s .n (.c .n (.s .n (.c .n (.s .n (.c .n (.s .n (.c .n (.s .n (.c .n (.s .n (.c .n (.s .n (.c .n (.s .n (.c .n (.s .n (.c .n (.s .n (.c .n (.s .n (.c .n (.s .n (.c .n .n (some ⟨uu 4 (ob :: uu 19 []),[]⟩))) (some ⟨uu 4 (ob :: uu 19 []),[]⟩))) (some ⟨uu 4 (ob :: uu 19 []),[]⟩))) (some ⟨uu 4 (ob :: uu 19 []),[]⟩))) (some ⟨uu 4 (ob :: uu 19 []),[]⟩))) (some ⟨uu 4 (ob :: uu 19 []),[]⟩))) (some ⟨uu 4 (ob :: uu 19 []),[]⟩))) (some ⟨uu 4 (ob :: uu 19 []),[]⟩))) (some ⟨uu 4 (ob :: uu 19 []),[]⟩))) (some ⟨uu 4 (ob :: uu 19 []),[]⟩))) (some ⟨uu 4 (ob :: uu 19 []),[]⟩))) (some ⟨uu 4 (ob :: uu 19 []),[]⟩))) (some ⟨uu 4 (ob :: uu 19 []),[]⟩))) (some ⟨uu 4 (ob :: uu 19 []),[]⟩))) (some ⟨uu 4 (ob :: uu 19 []),[]⟩))) (some ⟨uu 4 (ob :: uu 19 []),[]⟩))) (some ⟨uu 4 (ob :: uu 19 []),[]⟩))) (some ⟨uu 4 (ob :: uu 19 []),[]⟩))) .n) ⟨uu 24 [],[]⟩)) .n)))
noncomputable def jlG:FI:=jE Tryz.f150 1 [.ag [.s,.s,.s,.s,.b,.i .i64,.s,.sl 102,.sl 9,.sl 166]] [(false,[.ct .b])] (fun _=>(.s (.r [0,0] none) (.s (.r [] (some ⟨ou :: ou :: ob :: uu 25 [],.u :: []⟩)) .n)))
noncomputable def jlF:FI:=jE Tryz.f151 1 [.ag [.i .i64,.s,.sl 102,.sl 9]] [(false,[.ct .b])] (fun _=>(.s (.r [0,0] none) .n))
noncomputable def jlE:FI:=jE Tryz.f152 0 [.ct .s,.ct (.i .i64)] [(false,[.ct (.i .i64)]),(false,[.ct (.i .i64)])] (fun _=>(.s .n (.s (.s (.r [] (some ⟨os :: oi :: uu 16 (ob :: uu 70 []),[]⟩)) .n) (.s .n (.s .n (.s .n (.s (.b (.s .n (.c .n (.s (.r [] (some ⟨os :: oi :: uu 4 (oi :: uu 20 (ob :: uu 61 [])),[]⟩)) (.c .n (.s (.r [] (some ⟨os :: oi :: uu 4 (oi :: uu 29 (ob :: uu 52 [])),[]⟩)) (.c .n (.s (.r [] (some ⟨os :: oi :: uu 4 (oi :: uu 38 (ob :: uu 43 [])),[]⟩)) .n) (some ⟨os :: oi :: uu 5 (oi :: oi :: uu 80 []),[]⟩))) (some ⟨os :: oi :: uu 5 (oi :: oi :: uu 80 []),[]⟩))) none)) ⟨os :: oi :: uu 5 (oi :: oi :: uu 80 []),[]⟩) (.s .n (.s (.s .n (.b (.b (.s .n (.s (.b (.s .n (.s (.s (.r [] (some ⟨os :: oi :: uu 5 (oi :: oi :: oi :: oi :: uu 65 (ob :: uu 12 [])),[]⟩)) .n) .n)) ⟨os :: oi :: uu 5 (oi :: oi :: oi :: uu 79 []),[]⟩) .n)) ⟨os :: oi :: uu 5 (oi :: oi :: oi :: uu 79 []),[]⟩) ⟨uu 7 (oi :: oi :: uu 80 []),[]⟩)) .n)))))))))
noncomputable def jly:FI:=jE Tryz.f158 0 [.ct (.sl 115),.fn] [(false,[.ct (.i .i64)])] (fun _=>(.s .n (.s (.s .n (.b (.b (.s .n (.s .n (.s (.b .n ⟨ol 115 :: .one (.fn 110 []) :: uu 5 (oi :: oi :: uu 10 []),[]⟩) .n))) ⟨ol 115 :: .one (.fn 110 []) :: uu 5 (oi :: oi :: uu 10 []),[]⟩) ⟨uu 19 [],[]⟩)) .n)))
noncomputable def jlv:FI:=jE Tryz.f161 0 [.ct (.sl 166),.fn] [(false,[.ct .b])] (fun _=>.n)
noncomputable def jls:FI:=jE Tryz.f164 3 [.ptr,.ag [.i .i64,.s,.s,.s,.sl 211,.sl 166,.sl 162],.ct (.i .i64)] [(false,[.ct .b])] (fun _=>(.s (.r [1,0] none) (.s .n (.s (.s (.r [] (some ⟨.one (.ptr 0 0) :: ou :: oi :: ou :: .one (.ptr 1 0) :: uu 26 (ob :: uu 107 []),.var 224 [.i .i64] :: .var 162 [.i .i64,.s,.s,.s,.sl 211,.sl 166,.sl 162] :: .u :: []⟩)) .n) (.s .n (.s (.s .n (.b (.s .n (.c (.r [] (some ⟨.one (.ptr 0 0) :: ou :: oi :: ou :: .one (.ptr 1 0) :: ou :: ou :: ob :: uu 131 [],.var 224 [.i .i64] :: .var 162 [.i .i64,.s,.s,.s,.sl 211,.sl 166,.sl 162] :: .u :: []⟩)) (.s .n (.c (.r [] (some ⟨.one (.ptr 0 0) :: ou :: oi :: ou :: .one (.ptr 1 0) :: ou :: ou :: ob :: uu 131 [],.var 224 [.i .i64] :: .var 162 [.i .i64,.s,.s,.s,.sl 211,.sl 166,.sl 162] :: .u :: []⟩)) (.s .n (.c (.r [] (some ⟨.one (.ptr 0 0) :: ou :: oi :: ou :: .one (.ptr 1 0) :: ou :: ou :: ob :: uu 131 [],.var 224 [.i .i64] :: .var 162 [.i .i64,.s,.s,.s,.sl 211,.sl 166,.sl 162] :: .u :: []⟩)) .n (some ⟨.one (.ptr 0 0) :: ou :: oi :: ou :: .one (.ptr 1 0) :: ou :: ou :: ob :: uu 131 [],.var 224 [.i .i64] :: .var 162 [.i .i64,.s,.s,.s,.sl 211,.sl 166,.sl 162] :: .u :: []⟩))) (some ⟨.one (.ptr 0 0) :: ou :: oi :: ou :: .one (.ptr 1 0) :: ou :: ou :: ob :: uu 131 [],.var 224 [.i .i64] :: .var 162 [.i .i64,.s,.s,.s,.sl 211,.sl 166,.sl 162] :: .u :: []⟩))) (some ⟨.one (.ptr 0 0) :: ou :: oi :: ou :: .one (.ptr 1 0) :: ou :: ou :: ob :: uu 131 [],.var 224 [.i .i64] :: .var 162 [.i .i64,.s,.s,.s,.sl 211,.sl 166,.sl 162] :: .u :: []⟩))) ⟨.one (.ptr 0 0) :: ou :: oi :: ou :: .one (.ptr 1 0) :: ou :: ou :: ob :: uu 131 [],.var 224 [.i .i64] :: .var 162 [.i .i64,.s,.s,.s,.sl 211,.sl 166,.sl 162] :: .u :: []⟩)) (.s .n (.s (.s .n (.b (.b (.s .n (.s .n (.s (.b (.s (.r [0,0,2,0] none) .n) ⟨.one (.ptr 0 0) :: ou :: oi :: uu 123 (ol 162 :: oi :: oi :: uu 10 []),.var 224 [.i .i64] :: .u :: .u :: []⟩) .n))) ⟨.one (.ptr 0 0) :: ou :: oi :: uu 123 (ol 162 :: oi :: oi :: uu 10 []),.var 224 [.i .i64] :: .u :: .u :: []⟩) ⟨uu 139 [],.var 224 [.i .i64] :: .u :: .u :: []⟩)) .n))))))))
noncomputable def jlA:FI:=jE Tryz.f156 0 [.ct (.i .u8)] [(false,[.ct .b])] (fun _=>(.s .n (.s (.r [] (some ⟨ou :: ou :: ob :: uu 6 [],[]⟩)) .n)))
noncomputable def jlz:FI:=jE Tryz.f157 0 [.ct (.i .u8)] [(false,[.ct .b])] (fun _=>(.s .n (.s (.r [] (some ⟨ou :: ou :: ob :: uu 10 [],[]⟩)) .n)))
noncomputable def jlr:FI:=jE Tryz.f165 0 [.ct (.sl 162),.fn] [(false,[.ct .b])] (fun _=>.n)
noncomputable def jlo:FI:=jE Tryz.f168 1 [.ct (.sl 162),.ct (.i .i64)] [(false,[.ct .s])] (fun _=>(.s .n (.s .n (.s .n (.s (.s .n (.b (.b (.s .n (.s .n (.s (.b (.s (.r [0,0,0,0] none) (.s .n (.s (.s .n (.c .n .n (some ⟨ou :: oi :: uu 3 (os :: os :: uu 4 (ol 162 :: oi :: oi :: uu 28 [])),.u :: []⟩))) .n))) ⟨ou :: oi :: uu 3 (os :: os :: uu 4 (ol 162 :: oi :: oi :: uu 28 [])),.u :: []⟩) .n))) ⟨ou :: oi :: uu 3 (os :: os :: uu 4 (ol 162 :: oi :: oi :: uu 28 [])),.u :: []⟩) ⟨uu 6 (os :: uu 35 []),.u :: []⟩)) .n)))))
noncomputable def jln:FI:={ jE Tryz.f169 0 [.ct .s,.ct .s] [(false,[.ct .s])] (fun _=>.n) with prim:=some (KZ [.s,.s] [.s] jco) }
noncomputable def jlm:FI:={ jE Tryz.f170 0 [.ct .s,.ct .s] [(false,[.ct .b])] (fun _=>.n) with prim:=some (KZ [.s,.s] [.b] YC) }
noncomputable def jll:FI:=jE Tryz.f171 1 [.ag [.i .i64,.s,.sl 102,.sl 9]] [(false,[.ct .b])] (fun _=>(.s (.r [0,0] none) .n))
noncomputable def jlk:FI:=jE Tryz.f172 9 [.ag [.i .i64,.s,.sl 102,.sl 9]] [(false,[.ct .s])] (fun _=>(.s (.r [0,0] none) (.s (.r [1,0] none) (.s (.s .n (.b (.b (.s .n (.s .n (.s (.b (.s (.r [0,0,0,3,0,0] none) (.s .n (.s (.s .n (.c .n .n (some ⟨ou :: .one (.ptr 0 0) :: ou :: .one (.own 9 4) :: ou :: ou :: os :: uu 3 (ol 102 :: oi :: oi :: uu 48 []),.var 102 [.i .i64,.s,.sl 102,.sl 9] :: vv 8 []⟩))) (.r [0,0,5,6,0] none)))) ⟨ou :: .one (.ptr 0 0) :: ou :: .one (.own 9 7) :: uu 6 (ol 102 :: oi :: oi :: uu 48 []),.var 102 [.i .i64,.s,.sl 102,.sl 9] :: vv 8 []⟩) .n))) ⟨ou :: .one (.ptr 0 0) :: ou :: .one (.own 9 2) :: uu 6 (ol 102 :: oi :: oi :: uu 48 []),.var 102 [.i .i64,.s,.sl 102,.sl 9] :: vv 8 []⟩) ⟨ou :: .one (.ptr 0 0) :: ou :: .one (.own 9 8) :: uu 57 [],.var 102 [.i .i64,.s,.sl 102,.sl 9] :: vv 8 []⟩)) (.s .n (.s (.s .n (.b .n ⟨ou :: .one (.ptr 0 0) :: uu 59 [],.var 102 [.i .i64,.s,.sl 102,.sl 9] :: vv 8 []⟩)) .n))))))
noncomputable def jlt:FI:=jE Tryz.f163 0 [.ct (.sl 211)] [(false,[.ct .b])] (fun _=>.n)
noncomputable def jlj:FI:=jE Tryz.f175 0 [.ct (.sl 93),.fn] [(false,[.ct .b])] (fun _=>.n)
noncomputable def jlg:FI:=jE Tryz.f178 0 [.ct (.sl 104)] [(false,[.ct .b])] (fun _=>.n)
noncomputable def jlf:FI:=jE Tryz.f179 0 [.ct (.sl 96),.fn] [(false,[.ct .b])] (fun _=>.n)
noncomputable def jlc:FI:=jE Tryz.f182 0 [.ct (.sl 98),.fn] [(false,[.ct .b])] (fun _=>.n)
noncomputable def jlw:FI:=jE Tryz.f160 0 [.ct (.sl 166)] [(false,[.ct .b])] (fun _=>(.s .n (.s (.r [] (some ⟨ou :: ou :: ob :: uu 7 [],[]⟩)) .n)))
noncomputable def jl8:FI:=jE Tryz.f186 0 [.ct (.sl 9),.fn] [(false,[.ct (.i .i64)])] (fun h=>match h.tm with
  | [_,.one (.fn 127 _)]=>(.s .n (.s (.s .n (.b (.b (.s .n (.s .n (.s (.b .n ⟨ol 9 :: .one (.fn 127 []) :: uu 5 (oi :: oi :: uu 10 []),[]⟩) .n))) ⟨ol 9 :: .one (.fn 127 []) :: uu 5 (oi :: oi :: uu 10 []),[]⟩) ⟨uu 19 [],[]⟩)) .n))
  | [_,.one (.fn 185 _)]=>(.s .n (.s (.s .n (.b (.b (.s .n (.s .n (.s (.b .n ⟨ol 9 :: .one (.fn 185 []) :: uu 5 (oi :: oi :: uu 10 []),[]⟩) .n))) ⟨ol 9 :: .one (.fn 185 []) :: uu 5 (oi :: oi :: uu 10 []),[]⟩) ⟨uu 19 [],[]⟩)) .n))
  | [_,.one (.fn 250 _)]=>(.s .n (.s (.s .n (.b (.b (.s .n (.s .n (.s (.b .n ⟨ol 9 :: .one (.fn 250 []) :: uu 5 (oi :: oi :: uu 10 []),[]⟩) .n))) ⟨ol 9 :: .one (.fn 250 []) :: uu 5 (oi :: oi :: uu 10 []),[]⟩) ⟨uu 19 [],[]⟩)) .n))
  | _=>.n)
noncomputable def jl7:FI:=jE Tryz.f187 0 [.ct .s] [(false,[.ct .b])] (fun _=>.n)
noncomputable def jl6:FI:=jE Tryz.f188 0 [.ct .s,.ct (.i .u8)] [(false,[.ct (.i .i64)])] (fun _=>.n)
noncomputable def jl5:FI:=jE Tryz.f189 1 [.ag [.s,.s,.s,.s,.b,.i .i64,.s,.sl 102,.sl 9,.sl 166]] [(false,[.ct .b])] (fun _=>(.s (.r [0,0] none) (.s (.r [] (some ⟨ou :: ou :: ob :: uu 25 [],.u :: []⟩)) .n)))
noncomputable def jlh:FI:=jE Tryz.f177 1 [.ag [.s,.s,.sl 104,.s,.s,.sl 166]] [(false,[.ct .b])] (fun _=>(.s (.r [0,0] none) (.s (.r [] (some ⟨ou :: ou :: ob :: uu 23 [],.u :: []⟩)) .n)))
noncomputable def jl4:FI:=jE Tryz.f190 2 [.ag [.s,.s],.ag [.s,.s]] [(false,[.ct .b])] (fun _=>(.s (.r [0,1,0] none) .n))
noncomputable def jl3:FI:=jE Tryz.f191 2 [.ag [.i .i64,.s,.sl 102,.sl 9],.ag [.i .i64,.s,.sl 102,.sl 9]] [(false,[.ct .b])] (fun _=>(.s (.r [0,1,0] none) .n))
noncomputable def jl2:FI:=jE Tryz.f192 0 [.ct (.sl 211),.ct (.sl 211)] [(false,[.ct .b])] (fun _=>(.s .n (.s .n (.s (.s .n (.b (.b (.s .n (.s (.b .n ⟨ol 211 :: ol 211 :: uu 3 (oi :: uu 21 []),[]⟩) .n)) ⟨ol 211 :: ol 211 :: uu 3 (oi :: uu 21 []),[]⟩) ⟨uu 27 [],[]⟩)) .n))))
noncomputable def jl1:FI:=jE Tryz.f193 0 [.ct (.sl 135),.ct (.i .i64)] [(false,[.ct (.i .i64)])] (fun _=>(.s .n (.s .n (.s .n (.s (.s .n (.b (.b (.s .n (.s (.b .n ⟨ol 135 :: oi :: uu 3 (oi :: uu 21 []),[]⟩) .n)) ⟨ol 135 :: oi :: uu 3 (oi :: uu 21 []),[]⟩) ⟨ou :: oi :: uu 25 [],[]⟩)) .n)))))
noncomputable def jl0:FI:=jE Tryz.f194 1 [.ag [.s,.i .i64,.s,.sl 135,.sl 9],.ct (.i .i64)] [(false,[.ct (.i .i64)])] (fun _=>(.s (.r [0,0] none) .n))
noncomputable def jkU:FI:=jE Tryz.f200 4 [.ct (.sl 135)] [(false,[.ct (.sl 102)])] (fun _=>(.s .n (.s (.r [0,0,0,0] none) (.s (.s .n (.b (.b (.s .n (.s (.b .n ⟨ol 135 :: ou :: ou :: .one (.own 102 2) :: oi :: uu 18 [],vv 4 []⟩) .n)) ⟨ol 135 :: ou :: ou :: .one (.own 102 1) :: oi :: uu 18 [],vv 4 []⟩) ⟨uu 3 (.one (.own 102 3) :: uu 19 []),vv 4 []⟩)) .n))))
noncomputable def jkT:FI:=jE Tryz.f201 3 [.ag [.s,.i .i64,.s,.sl 135,.sl 9]] [(true,[.ct .s,.ct (.i .i64),.ct .s,.ct (.sl 102),.ct (.sl 9)])] (fun _=>(.s (.r [0,1] none) (.s (.r [2] none) .n)))
noncomputable def jkZ:FI:=jE Tryz.f195 1 [.ag [.i .i64,.s,.sl 102,.sl 9]] [(false,[.ct .b])] (fun _=>(.s (.r [0,0] none) .n))
noncomputable def jkY:FI:=jE Tryz.f196 2 [.ag [.i .i64,.s,.sl 102,.sl 9],.ag [.i .i64,.s,.sl 102,.sl 9]] [(false,[.ct .b])] (fun _=>(.s (.r [0,1,0] none) (.s (.s (.r [] (some ⟨ou :: ou :: .one (.ptr 0 0) :: .one (.ptr 1 0) :: uu 32 (ob :: uu 37 []),.var 102 [.i .i64,.s,.sl 102,.sl 9] :: .var 102 [.i .i64,.s,.sl 102,.sl 9] :: []⟩)) .n) (.s (.s .n (.b (.b (.s .n (.s (.b .n ⟨ou :: ou :: .one (.ptr 0 0) :: .one (.ptr 1 0) :: ou :: oi :: uu 68 [],.var 102 [.i .i64,.s,.sl 102,.sl 9] :: .var 102 [.i .i64,.s,.sl 102,.sl 9] :: []⟩) .n)) ⟨ou :: ou :: .one (.ptr 0 0) :: .one (.ptr 1 0) :: ou :: oi :: uu 68 [],.var 102 [.i .i64,.s,.sl 102,.sl 9] :: .var 102 [.i .i64,.s,.sl 102,.sl 9] :: []⟩) ⟨ou :: ou :: .one (.ptr 0 0) :: .one (.ptr 1 0) :: uu 70 [],.var 102 [.i .i64,.s,.sl 102,.sl 9] :: .var 102 [.i .i64,.s,.sl 102,.sl 9] :: []⟩)) (.s (.s .n (.b (.b (.s .n (.s (.b .n ⟨ou :: ou :: .one (.ptr 0 0) :: .one (.ptr 1 0) :: ou :: ou :: oi :: uu 67 [],.var 102 [.i .i64,.s,.sl 102,.sl 9] :: .var 102 [.i .i64,.s,.sl 102,.sl 9] :: []⟩) .n)) ⟨ou :: ou :: .one (.ptr 0 0) :: .one (.ptr 1 0) :: ou :: ou :: oi :: uu 67 [],.var 102 [.i .i64,.s,.sl 102,.sl 9] :: .var 102 [.i .i64,.s,.sl 102,.sl 9] :: []⟩) ⟨uu 74 [],.u :: .u :: []⟩)) .n)))))
noncomputable def jkX:FI:=jE Tryz.f197 1 [.ag [.i .i64,.s,.s,.s,.sl 211,.sl 166,.sl 162]] [(false,[.ct .b])] (fun _=>(.s (.r [0,0] none) (.s (.s .n (.b (.s .n (.c (.s (.r [] (some ⟨ou :: ou :: ob :: uu 86 [],.u :: []⟩)) .n) (.s .n (.c (.s (.r [] (some ⟨ou :: ou :: ob :: uu 86 [],.u :: []⟩)) .n) (.s .n (.c (.s (.r [] (some ⟨ou :: ou :: ob :: uu 86 [],.u :: []⟩)) .n) .n none)) none)) none)) ⟨uu 89 [],.u :: []⟩)) .n)))
noncomputable def jkW:FI:=jE Tryz.f198 1 [.ag [.i .i64,.s,.sl 102,.sl 9]] [(false,[.ct .b])] (fun _=>(.s (.r [0,0] none) (.s (.s .n (.b (.b (.s .n (.s (.b .n ⟨ou :: .one (.ptr 0 0) :: ou :: oi :: uu 17 [],.var 102 [.i .i64,.s,.sl 102,.sl 9] :: []⟩) .n)) ⟨ou :: .one (.ptr 0 0) :: ou :: oi :: uu 17 [],.var 102 [.i .i64,.s,.sl 102,.sl 9] :: []⟩) ⟨ou :: .one (.ptr 0 0) :: uu 19 [],.var 102 [.i .i64,.s,.sl 102,.sl 9] :: []⟩)) .n)))
noncomputable def jkV:FI:=jE Tryz.f199 4 [.ct (.i .i64)] [(false,[.ct .s])] (fun _=>(.s .n (.s .n (.s (.b (.s .n (.c (.s (.r [0,0,0,0,0] none) .n) (.s .n (.c (.s (.r [0,0,0,0,0,0,0,0,1,0,0] none) .n) (.s .n (.c (.s (.r [0,0,0,0,0,0,0,0,0,0,0,0,0,2,0,0] none) .n) .n none)) none)) none)) ⟨oi :: uu 63 [],vv 4 []⟩) (.s (.r [0,0,0,0,0,0,0,0,0,0,0,0,0,0,0,0,0,0,3,0,0] none) .n)))))
noncomputable def jmh:FI:=jE Tryz.f110 1 [.ag [.s,.s,.s,.b,.i .i64,.s,.sl 102,.sl 9,.sl 166]] [(false,[.ct .b])] (fun _=>(.s (.r [0,0] none) .n))
noncomputable def jkM:FI:=jE Tryz.f208 0 [.ct (.sl 166),.fn] [(false,[.ct (.i .i64)])] (fun h=>match h.tm with
  | [_,.one (.fn 162 _)]=>(.s .n (.s (.s .n (.b (.b (.s .n (.s .n (.s (.b .n ⟨ol 166 :: .one (.fn 162 []) :: uu 5 (oi :: oi :: uu 10 []),[]⟩) .n))) ⟨ol 166 :: .one (.fn 162 []) :: uu 5 (oi :: oi :: uu 10 []),[]⟩) ⟨uu 19 [],[]⟩)) .n))
  | [_,.one (.fn 205 _)]=>(.s .n (.s (.s .n (.b (.b (.s .n (.s .n (.s (.b .n ⟨ol 166 :: .one (.fn 205 []) :: uu 5 (oi :: oi :: uu 10 []),[]⟩) .n))) ⟨ol 166 :: .one (.fn 205 []) :: uu 5 (oi :: oi :: uu 10 []),[]⟩) ⟨uu 19 [],[]⟩)) .n))
  | _=>.n)
noncomputable def jkS:FI:=jE Tryz.f202 0 [.ct (.i .u8)] [(false,[.ct .b])] (fun _=>(.s .n (.s (.r [] (some ⟨ou :: ou :: ob :: uu 14 [],[]⟩)) .n)))
noncomputable def jkK:FI:=jE Tryz.f210 0 [.ct (.sl 162),.fn] [(false,[.ct (.i .i64)])] (fun _=>(.s .n (.s (.s .n (.b (.b (.s .n (.s .n (.s (.b .n ⟨ol 162 :: .one (.fn 166 []) :: uu 5 (oi :: oi :: uu 10 []),[]⟩) .n))) ⟨ol 162 :: .one (.fn 166 []) :: uu 5 (oi :: oi :: uu 10 []),[]⟩) ⟨uu 19 [],[]⟩)) .n)))
noncomputable def jkJ:FI:={ jE Tryz.f211 0 [.ct .s,.ct (.i .i64)] [(false,[.ct .s])] (fun _=>.n) with prim:=some (KZ [.s,.i .i64] [.s] Yr) }
noncomputable def jkI:FI:=jE Tryz.f212 1 [.ag [.i .i64,.s,.s,.s,.sl 211,.sl 166,.sl 162]] [(false,[.ct .s])] (fun _=>(.s (.r [0,0] none) (.s (.s .n (.b (.s .n (.c (.s .n (.s (.s .n (.c .n .n (some ⟨ou :: .one (.ptr 0 0) :: ou :: os :: uu 44 [],.var 162 [.i .i64,.s,.s,.s,.sl 211,.sl 166,.sl 162] :: []⟩))) .n)) .n none)) ⟨ou :: .one (.ptr 0 0) :: uu 46 [],.var 162 [.i .i64,.s,.s,.s,.sl 211,.sl 166,.sl 162] :: []⟩)) (.s .n (.s (.s .n (.c .n .n (some ⟨ou :: .one (.ptr 0 0) :: ou :: ou :: os :: uu 43 [],.var 162 [.i .i64,.s,.s,.s,.sl 211,.sl 166,.sl 162] :: []⟩))) .n)))))
noncomputable def jkH:FI:=jE Tryz.f221 2 [.ag [.i .i64,.s,.sl 102,.sl 9],.ct (.i .i64)] [(false,[.ct .b])] (fun _=>(.s (.r [0,1,0] none) (.s (.s .n (.b (.s .n (.c (.s (.r [] (some ⟨uu 4 (ob :: uu 97 []),.u :: .u :: []⟩)) .n) (.s .n (.c (.s (.r [] (some ⟨uu 4 (ob :: uu 97 []),.u :: .u :: []⟩)) .n) (.s .n (.c (.s (.r [] (some ⟨uu 4 (ob :: uu 97 []),.u :: .u :: []⟩)) .n) (.s .n (.c (.s (.r [] (some ⟨uu 4 (ob :: uu 97 []),.u :: .u :: []⟩)) .n) (.s .n (.c (.s (.r [] (some ⟨uu 4 (ob :: uu 97 []),.u :: .u :: []⟩)) .n) (.s .n (.c (.s (.r [] (some ⟨uu 4 (ob :: uu 97 []),.u :: .u :: []⟩)) .n) (.s .n (.c .n (.s .n (.c (.s (.r [] (some ⟨ou :: ou :: .one (.ptr 0 0) :: .one (.ptr 1 0) :: uu 83 (ob :: uu 14 []),.var 102 [.i .i64,.s,.sl 102,.sl 9] :: .var 3 [.i .i64] :: []⟩)) .n) .n none)) (some ⟨ou :: ou :: .one (.ptr 0 0) :: .one (.ptr 1 0) :: uu 98 [],.var 102 [.i .i64,.s,.sl 102,.sl 9] :: .var 3 [.i .i64] :: []⟩))) none)) none)) none)) none)) none)) none)) ⟨ou :: ou :: .one (.ptr 0 0) :: .one (.ptr 1 0) :: uu 98 [],.var 102 [.i .i64,.s,.sl 102,.sl 9] :: .var 3 [.i .i64] :: []⟩)) (.s (.r [] (some ⟨uu 4 (ob :: uu 97 []),.u :: .u :: []⟩)) .n))))
noncomputable def jkO:FI:=jE Tryz.f206 0 [.ct (.sl 211),.fn] [(false,[.ct .b])] (fun _=>.n)
noncomputable def jkG:FI:=jE Tryz.f224 0 [.ct (.sl 93),.fn] [(false,[.ct (.i .i64)])] (fun _=>(.s .n (.s (.s .n (.b (.b (.s .n (.s .n (.s (.b .n ⟨ol 93 :: .one (.fn 176 []) :: uu 5 (oi :: oi :: uu 10 []),[]⟩) .n))) ⟨ol 93 :: .one (.fn 176 []) :: uu 5 (oi :: oi :: uu 10 []),[]⟩) ⟨uu 19 [],[]⟩)) .n)))
noncomputable def jkF:FI:=jE Tryz.f225 0 [.ct (.sl 104),.fn] [(false,[.ct .b])] (fun _=>.n)
noncomputable def jkD:FI:=jE Tryz.f227 0 [.ct (.sl 96),.fn] [(false,[.ct (.i .i64)])] (fun _=>(.s .n (.s (.s .n (.b (.b (.s .n (.s .n (.s (.b .n ⟨ol 96 :: .one (.fn 180 []) :: uu 5 (oi :: oi :: uu 10 []),[]⟩) .n))) ⟨ol 96 :: .one (.fn 180 []) :: uu 5 (oi :: oi :: uu 10 []),[]⟩) ⟨uu 19 [],[]⟩)) .n)))
noncomputable def jkB:FI:=jE Tryz.f229 0 [.ct (.sl 98),.fn] [(false,[.ct (.i .i64)])] (fun _=>(.s .n (.s (.s .n (.b (.b (.s .n (.s .n (.s (.b .n ⟨ol 98 :: .one (.fn 183 []) :: uu 5 (oi :: oi :: uu 10 []),[]⟩) .n))) ⟨ol 98 :: .one (.fn 183 []) :: uu 5 (oi :: oi :: uu 10 []),[]⟩) ⟨uu 19 [],[]⟩)) .n)))
noncomputable def jm3:FI:=jE Tryz.f127 0 [.ct .s] [(false,[.ct .b])] (fun _=>.n)
noncomputable def jkA:FI:={ jE Tryz.f230 0 [.ct .s] [(false,[.ct .b])] (fun _=>.n) with prim:=some (KZ [.s] [.b] KQ) }
noncomputable def jkz:FI:={ jE Tryz.f231 0 [.ct .s,.ct (.i .u8)] [(false,[.ct (.i .i64)])] (fun _=>.n) with prim:=some (KZ [.s,.i .u8] [.i .i64] YU) }
noncomputable def jlx:FI:=jE Tryz.f159 1 [.ct .b,.ag [.i .i64,.s,.sl 102,.sl 9]] [(false,[.ct .b])] (fun _=>(.s (.r [0,0] none) (.s .n (.s (.r [] (some ⟨uu 4 (ob :: uu 10 []),.u :: []⟩)) .n))))
noncomputable def jky:FI:=jE Tryz.f232 0 [.ct (.sl 102),.ct (.sl 102)] [(false,[.ct .b])] (fun _=>(.s .n (.s .n (.s (.s .n (.b (.b (.s .n (.s (.b .n ⟨ol 102 :: ol 102 :: uu 3 (oi :: uu 21 []),[]⟩) .n)) ⟨ol 102 :: ol 102 :: uu 3 (oi :: uu 21 []),[]⟩) ⟨uu 27 [],[]⟩)) .n))))
noncomputable def jkx:FI:=jE Tryz.f233 2 [.ag [.s,.i .i64,.s,.sl 102,.sl 9],.ag [.s,.i .i64,.s,.sl 102,.sl 9]] [(false,[.ct .b])] (fun _=>(.s (.r [0,1,0] none) .n))
noncomputable def jkw:FI:=jE Tryz.f234 1 [.ag [.i .i64,.s,.sl 102,.sl 9],.ct (.i .i64)] [(false,[.ct .b])] (fun _=>(.s (.r [0,0] none) (.s .n (.s (.r [] (some ⟨ou :: oi :: .one (.ptr 0 0) :: ou :: ou :: ob :: uu 82 [],.var 102 [.i .i64,.s,.sl 102,.sl 9] :: []⟩)) (.s (.s (.r [] (some ⟨ou :: oi :: .one (.ptr 0 0) :: uu 54 (ob :: uu 30 []),.var 102 [.i .i64,.s,.sl 102,.sl 9] :: []⟩)) .n) (.s (.s .n (.b (.b (.s .n (.s (.b (.s (.r [] (some ⟨ou :: oi :: .one (.ptr 0 0) :: uu 3 (oi :: uu 80 (ob :: [])),.var 102 [.i .i64,.s,.sl 102,.sl 9] :: []⟩)) .n) ⟨ou :: oi :: .one (.ptr 0 0) :: uu 3 (oi :: uu 81 []),.var 102 [.i .i64,.s,.sl 102,.sl 9] :: []⟩) .n)) ⟨ou :: oi :: .one (.ptr 0 0) :: uu 3 (oi :: uu 81 []),.var 102 [.i .i64,.s,.sl 102,.sl 9] :: []⟩) ⟨uu 88 [],.u :: []⟩)) .n))))))
noncomputable def jkv:FI:=jE Tryz.f235 0 [.ct (.i .i64)] [(false,[.ct .b])] (fun _=>(.s .n (.s (.r [] (some ⟨ou :: ou :: ob :: uu 7 [],[]⟩)) .n)))
noncomputable def jmg:FI:=jE Tryz.f111 1 [.ag [.s,.s,.s,.b,.i .i64,.s,.sl 102,.sl 9,.sl 166]] [(false,[.ct .b])] (fun _=>(.s (.r [0,0] none) (.s (.r [] (some ⟨ou :: ou :: ob :: uu 20 [],.u :: []⟩)) .n)))
noncomputable def jlu:FI:=jE Tryz.f162 1 [.ag [.s,.sl 211]] [(false,[.ct .b])] (fun _=>(.s (.r [0,0] none) (.s (.r [] (some ⟨ou :: ou :: ob :: uu 10 [],.u :: []⟩)) .n)))
noncomputable def jlq:FI:=jE Tryz.f166 1 [.ag [.i .i64,.s,.s,.s,.sl 211,.sl 166,.sl 162]] [(false,[.ct .b])] (fun _=>(.s (.r [0,0] none) .n))
noncomputable def jku:FI:=jE Tryz.f236 1 [.ag [.i .i64,.s,.sl 102,.sl 9]] [(false,[.ct .b])] (fun _=>(.s (.r [0,0] none) (.s (.r [] (some ⟨ou :: ou :: ob :: uu 10 [],.u :: []⟩)) .n)))
noncomputable def jkq:FI:=jE Tryz.f248 0 [.ct .s] [(false,[.ct .b])] (fun _=>(.s .n (.s .n (.s (.r [] (some ⟨ou :: ou :: ob :: uu 19 [],[]⟩)) .n))))
noncomputable def jkp:FI:=jE Tryz.f249 0 [.ct .s] [(false,[.ct .b])] (fun _=>(.s .n (.s .n (.s .n (.s .n (.s (.s .n (.c (.s .n (.s (.s (.r [] (some ⟨uu 3 (os :: os :: oi :: uu 29 (ob :: uu 28 [])),[]⟩)) (.c .n .n (some ⟨uu 3 (os :: os :: oi :: uu 58 []),[]⟩))) .n)) .n (some ⟨uu 3 (os :: ou :: oi :: uu 58 []),[]⟩))) (.s .n (.s (.r [] (some ⟨ou :: ou :: ob :: uu 61 [],[]⟩)) .n))))))))
noncomputable def jkC:FI:=jE Tryz.f228 0 [.ct .s] [(false,[.ct .b])] (fun _=>(.s .n (.s (.r [] (some ⟨ou :: ou :: ob :: uu 10 [],[]⟩)) .n)))
noncomputable def jkt:FI:=jE Tryz.f237 1 [.ct (.sl 102),.fn] [(false,[.ct .b])] (fun _=>.n)
noncomputable def jkr:FI:=jE Tryz.f239 0 [.ct (.sl 211),.fn] [(false,[.ct (.i .i64)])] (fun h=>match h.tm with
  | [_,.one (.fn 209 _)]=>(.s .n (.s (.s .n (.b (.b (.s .n (.s .n (.s (.b .n ⟨ol 211 :: .one (.fn 209 []) :: uu 5 (oi :: oi :: uu 10 []),[]⟩) .n))) ⟨ol 211 :: .one (.fn 209 []) :: uu 5 (oi :: oi :: uu 10 []),[]⟩) ⟨uu 19 [],[]⟩)) .n))
  | [_,.one (.fn 207 _)]=>(.s .n (.s (.s .n (.b (.b (.s .n (.s .n (.s (.b .n ⟨ol 211 :: .one (.fn 207 []) :: uu 5 (oi :: oi :: uu 10 []),[]⟩) .n))) ⟨ol 211 :: .one (.fn 207 []) :: uu 5 (oi :: oi :: uu 10 []),[]⟩) ⟨uu 19 [],[]⟩)) .n))
  | _=>.n)
noncomputable def jli:FI:=jE Tryz.f176 1 [.ag [.s,.s,.sl 104,.s,.s,.sl 166]] [(false,[.ct .b])] (fun _=>(.s (.r [0,0] none) .n))
noncomputable def jkm:FI:=jE Tryz.f252 0 [.ct (.sl 104),.fn] [(false,[.ct (.i .i64)])] (fun _=>(.s .n (.s (.s .n (.b (.b (.s .n (.s .n (.s (.b .n ⟨ol 104 :: .one (.fn 226 []) :: uu 5 (oi :: oi :: uu 10 []),[]⟩) .n))) ⟨ol 104 :: .one (.fn 226 []) :: uu 5 (oi :: oi :: uu 10 []),[]⟩) ⟨uu 19 [],[]⟩)) .n)))
noncomputable def jle:FI:=jE Tryz.f180 1 [.ag [.s,.s,.sl 166]] [(false,[.ct .b])] (fun _=>(.s (.r [0,0] none) .n))
noncomputable def jlb:FI:=jE Tryz.f183 1 [.ag [.i .i64,.s]] [(false,[.ct .b])] (fun _=>(.s (.r [0,0] none) .n))
noncomputable def jl9:FI:=jE Tryz.f185 0 [.ct .s] [(false,[.ct .b])] (fun _=>.n)
noncomputable def jm2:FI:=jE Tryz.f128 0 [.ct .s] [(false,[.ct .b])] (fun _=>(.s .n (.s (.s .n (.b (.s (.s .n (.c .n (.s .n (.c .n (.s .n (.c .n (.s .n (.c .n (.s .n (.c .n (.s .n (.c .n (.s .n (.c .n (.s .n (.c .n (.s .n (.c .n (.s .n (.c .n (.s .n (.c .n (.s .n (.c .n (.s .n (.c .n (.s .n (.c .n (.s .n (.c .n (.s .n (.c .n (.s .n (.c .n (.s .n (.c .n .n (some ⟨uu 4 (ob :: uu 19 []),[]⟩))) (some ⟨uu 4 (ob :: uu 19 []),[]⟩))) (some ⟨uu 4 (ob :: uu 19 []),[]⟩))) (some ⟨uu 4 (ob :: uu 19 []),[]⟩))) (some ⟨uu 4 (ob :: uu 19 []),[]⟩))) (some ⟨uu 4 (ob :: uu 19 []),[]⟩))) (some ⟨uu 4 (ob :: uu 19 []),[]⟩))) (some ⟨uu 4 (ob :: uu 19 []),[]⟩))) (some ⟨uu 4 (ob :: uu 19 []),[]⟩))) (some ⟨uu 4 (ob :: uu 19 []),[]⟩))) (some ⟨uu 4 (ob :: uu 19 []),[]⟩))) (some ⟨uu 4 (ob :: uu 19 []),[]⟩))) (some ⟨uu 4 (ob :: uu 19 []),[]⟩))) (some ⟨uu 4 (ob :: uu 19 []),[]⟩))) (some ⟨uu 4 (ob :: uu 19 []),[]⟩))) (some ⟨uu 4 (ob :: uu 19 []),[]⟩))) (some ⟨uu 4 (ob :: uu 19 []),[]⟩))) (some ⟨uu 4 (ob :: uu 19 []),[]⟩))) .n) ⟨uu 24 [],[]⟩)) .n)))
noncomputable def jkR:FI:=jE Tryz.f203 1 [.ag [.i .i64,.s,.sl 102,.sl 9]] [(false,[.ct .b])] (fun _=>(.s (.r [0,0] none) (.s (.r [] (some ⟨ou :: ou :: ob :: uu 12 [],.u :: []⟩)) .n)))
noncomputable def jkQ:FI:=jE Tryz.f204 1 [.ag [.i .i64,.s,.sl 102,.sl 9]] [(false,[.ct .b])] (fun _=>(.s (.r [0,0] none) (.s (.r [] (some ⟨ou :: ou :: ob :: uu 9 [],.u :: []⟩)) .n)))
noncomputable def jkl:FI:=jE Tryz.f255 1 [.ag [.i .i64,.s,.sl 102,.sl 9]] [(false,[.ct .b])] (fun _=>(.s (.r [0,0] none) (.s (.s .n (.b (.s .n (.c .n (.s .n (.c .n (.s .n (.c .n (.s .n (.c .n (.s .n (.c .n (.s .n (.c (.s (.r [] (some ⟨ou :: ou :: ob :: uu 45 [],.u :: []⟩)) .n) (.s (.s .n (.c .n .n (some ⟨ou :: .one (.ptr 0 0) :: uu 40 (ob :: uu 5 []),.var 102 [.i .i64,.s,.sl 102,.sl 9] :: []⟩))) .n) none)) none)) none)) none)) none)) none)) ⟨uu 48 [],.u :: []⟩)) .n)))
noncomputable def jlp:FI:=jE Tryz.f167 2 [.ag [.i .i64,.s,.s,.s,.sl 211,.sl 166,.sl 162]] [(false,[.ct .b])] (fun _=>(.s (.r [0,0] none) (.s (.r [0,1,0] none) .n)))
noncomputable def jki:FI:=jE Tryz.f266 0 [.ct .s,.ct .s] [(false,[.ct .s])] (fun _=>.n)
noncomputable def jkh:FI:=jE Tryz.f267 0 [.ct .s] [(false,[.ct .b])] (fun _=>(.s .n (.s (.s .n (.b (.b (.s .n (.s .n (.s (.b .n ⟨os :: uu 4 (oi :: oi :: uu 10 []),[]⟩) .n))) ⟨os :: uu 4 (oi :: oi :: uu 10 []),[]⟩) ⟨os :: uu 16 [],[]⟩)) .n)))
noncomputable def jkg:FI:={ jE Tryz.f268 0 [.ct .s,.ct .s] [(false,[.ct (.i .i64)])] (fun _=>.n) with prim:=some (KZ [.s,.s] [.i .i64] YB) }
noncomputable def jkf:FI:=jE Tryz.f269 0 [.ct .s,.ct .s] [(false,[.ct .s]),(false,[.ct .s]),(false,[.ct .b])] (fun _=>.n)
noncomputable def jkk:FI:=jE Tryz.f256 1 [.ct (.sl 102),.fn] [(false,[.ct (.i .i64)])] (fun h=>match h.tm with
  | [_,.one (.fn 251 _)]=>(.s .n (.s (.s .n (.b (.b (.s .n (.s .n (.s (.b .n ⟨ol 102 :: .one (.fn 251 [0]) :: uu 5 (oi :: oi :: uu 10 []),.var 3 [.i .i64] :: []⟩) .n))) ⟨ol 102 :: .one (.fn 251 [0]) :: uu 5 (oi :: oi :: uu 10 []),.var 3 [.i .i64] :: []⟩) ⟨uu 19 [],.var 3 [.i .i64] :: []⟩)) .n))
  | [_,.one (.fn 238 _)]=>(.s .n (.s (.s .n (.b (.b (.s .n (.s .n (.s (.b .n ⟨ol 102 :: .one (.fn 238 []) :: uu 5 (oi :: oi :: uu 10 []),.u :: []⟩) .n))) ⟨ol 102 :: .one (.fn 238 []) :: uu 5 (oi :: oi :: uu 10 []),.u :: []⟩) ⟨uu 19 [],.u :: []⟩)) .n))
  | _=>.n)
noncomputable def jkL:FI:=jE Tryz.f209 1 [.ag [.s,.i .i64,.s,.sl 102,.sl 9]] [(false,[.ct .b])] (fun _=>(.s (.r [0,0] none) (.s (.r [] (some ⟨ou :: ou :: ob :: uu 10 [],.u :: []⟩)) .n)))
noncomputable def jkE:FI:=jE Tryz.f226 1 [.ag [.s,.s,.s,.s,.b,.i .i64,.s,.sl 102,.sl 9,.sl 166]] [(false,[.ct .b])] (fun _=>(.s (.r [0,0] none) .n))
noncomputable def jld:FI:=jE Tryz.f181 1 [.ag [.s,.s,.sl 166]] [(false,[.ct .b])] (fun _=>(.s (.r [0,0] none) (.s (.r [] (some ⟨ou :: ou :: ob :: uu 19 [],.u :: []⟩)) .n)))
noncomputable def jla:FI:=jE Tryz.f184 1 [.ag [.i .i64,.s]] [(false,[.ct .b])] (fun _=>(.s (.r [0,0] none) (.s (.r [] (some ⟨ou :: ou :: ob :: uu 9 [],.u :: []⟩)) .n)))
noncomputable def jkP:FI:=jE Tryz.f205 1 [.ag [.s,.sl 211]] [(false,[.ct .b])] (fun _=>(.s (.r [0,0] none) .n))
noncomputable def jke:FI:=jE Tryz.f270 0 [.ct .s] [(false,[.ct .b])] (fun _=>(.s .n (.s (.r [] (some ⟨ou :: ou :: ob :: uu 15 [],[]⟩)) .n)))
noncomputable def jkd:FI:=jE Tryz.f271 0 [.ct .s] [(false,[.ct .b])] (fun _=>(.s .n (.s .n (.s (.s (.r [] (some ⟨os :: ou :: ou :: oi :: uu 16 (ob :: uu 60 []),[]⟩)) .n) (.s (.s .n (.c .n .n (some ⟨os :: ou :: ou :: oi :: uu 77 [],[]⟩))) (.s (.s (.r [] (some ⟨os :: ou :: ou :: oi :: uu 45 (ob :: uu 31 []),[]⟩)) (.c (.s .n (.s (.s (.r [] (some ⟨os :: ou :: ou :: oi :: uu 63 (ob :: uu 13 []),[]⟩)) (.c .n .n (some ⟨os :: ou :: ou :: oi :: uu 77 [],[]⟩))) .n)) .n (some ⟨os :: ou :: ou :: oi :: uu 77 [],[]⟩))) .n))))))
noncomputable def jkc:FI:=jE Tryz.f274 0 [.ct .s,.ct .s] [(false,[.ct .s])] (fun _=>.n)
noncomputable def jkb:FI:={ jE Tryz.f276 0 [.ct .s,.ct .s] [(false,[.ct .s]),(false,[.ct .s]),(false,[.ct .b])] (fun _=>.n) with prim:=some (KZ [.s,.s] [.s,.s,.b] jhi) }
noncomputable def jko:FI:=jE Tryz.f250 0 [.ct .s] [(false,[.ct .b])] (fun _=>.n)
noncomputable def jkn:FI:=jE Tryz.f251 2 [.ag [.i .i64,.s,.sl 102,.sl 9],.ptr] [(false,[.ct .b])] (fun _=>(.s (.r [1,0] none) .n))
noncomputable def jka:FI:=jE Tryz.f277 0 [.ct .s] [(false,[.ct (.i .i64)])] (fun _=>(.s .n (.s .n (.s (.s (.r [] (some ⟨os :: ou :: ou :: oi :: uu 8 (ob :: uu 19 []),[]⟩)) (.c .n .n (some ⟨os :: ou :: ou :: oi :: uu 28 [],[]⟩))) (.s .n (.s (.s (.r [] (some ⟨uu 4 (oi :: uu 25 (ob :: ou :: [])),[]⟩)) .n) .n))))))
noncomputable def jk9:FI:=jE Tryz.f278 0 [.ct .s,.ct (.i .i64)] [(false,[.ct (.i .i64)])] (fun _=>(.s .n (.s (.b (.b (.s (.s (.r [] (some ⟨os :: oi :: uu 12 (ob :: uu 3 []),[]⟩)) .n) (.b .n ⟨os :: oi :: uu 16 [],[]⟩)) ⟨os :: oi :: uu 16 [],[]⟩) ⟨ou :: oi :: uu 16 [],[]⟩) .n)))
noncomputable def jkj:FI:=jE Tryz.f259 0 [.ct .s,.ct .s] [(false,[.ct .b])] (fun _=>(.s .n (.s (.r [] (some ⟨uu 4 (ob :: uu 13 []),[]⟩)) .n)))
noncomputable def jks:FI:=jE Tryz.f238 1 [.ag [.i .i64,.s,.sl 102,.sl 9]] [(false,[.ct .b])] (fun _=>(.s (.r [0,0] none) .n))
noncomputable def jkN:FI:=jE Tryz.f207 1 [.ag [.s,.i .i64,.s,.sl 102,.sl 9]] [(false,[.ct .b])] (fun _=>(.s (.r [0,0] none) .n))
noncomputable def fnL:List (Nat × FI):=[(3,fi3),(4,fi4),(6,fi6),(5,fi5),(7,fi7),(8,fi8),(9,fi9),(10,jo7),(11,jo6),(15,jo2),(16,jo1),(17,jo0),(12,jo5),(13,jo4),(14,jo3),(18,jnZ),(19,jnY),(20,jnX),(21,jnW),(22,jnV),(23,jnU),(24,jnT),(25,jnS),(26,jnR),(27,jnQ),(28,jnP),(29,jnO),(30,jnN),(31,jnM),(47,jnw),(48,jnv),(49,jnu),(50,jnt),(51,jns),(52,jnr),(53,jnq),(54,jnp),(32,jnL),(33,jnK),(34,jnJ),(36,jnH),(35,jnI),(37,jnG),(38,jnF),(39,jnE),(40,jnD),(41,jnC),(42,jnB),(43,jnA),(44,jnz),(45,jny),(46,jnx),(55,jno),(56,jnn),(57,jnm),(58,jnl),(59,jnk),(60,jnj),(61,jni),(62,jnh),(63,jng),(64,jnf),(65,jne),(66,jnd),(67,jnc),(68,jnb),(69,jna),(70,jn9),(71,jn8),(72,jn7),(73,jn6),(74,jn5),(75,jn4),(76,jn3),(77,jn2),(78,jn1),(79,jn0),(80,jmZ),(81,jmY),(82,jmX),(101,jmq),(102,jmp),(103,jmo),(104,jmn),(105,jmm),(106,jml),(107,jmk),(83,jmW),(84,jmV),(85,jmU),(86,jmT),(87,jmS),(88,jmR),(89,jmQ),(90,jmP),(91,jmO),(92,jmN),(93,jmM),(94,jmL),(95,jmK),(96,jmJ),(97,jmI),(98,jmH),(99,jmG),(100,jmr),(109,jmi),(112,jmf),(113,jme),(108,jmj),(114,jmd),(115,jmc),(116,jmb),(117,jma),(118,jm9),(122,jm8),(123,jm7),(124,jm6),(125,jm5),(126,jm4),(129,jm1),(130,jm0),(131,jlZ),(132,jlY),(133,jlX),(134,jlW),(135,jlV),(136,jlU),(137,jlT),(138,jlS),(139,jlR),(140,jlQ),(141,jlP),(153,jlD),(154,jlC),(155,jlB),(142,jlO),(143,jlN),(144,jlM),(145,jlL),(146,jlK),(147,jlJ),(148,jlI),(149,jlH),(150,jlG),(151,jlF),(152,jlE),(158,jly),(161,jlv),(164,jls),(156,jlA),(157,jlz),(165,jlr),(168,jlo),(169,jln),(170,jlm),(171,jll),(172,jlk),(163,jlt),(175,jlj),(178,jlg),(179,jlf),(182,jlc),(160,jlw),(186,jl8),(187,jl7),(188,jl6),(189,jl5),(177,jlh),(190,jl4),(191,jl3),(192,jl2),(193,jl1),(194,jl0),(200,jkU),(201,jkT),(195,jkZ),(196,jkY),(197,jkX),(198,jkW),(199,jkV),(110,jmh),(208,jkM),(202,jkS),(210,jkK),(211,jkJ),(212,jkI),(221,jkH),(206,jkO),(224,jkG),(225,jkF),(227,jkD),(229,jkB),(127,jm3),(230,jkA),(231,jkz),(159,jlx),(232,jky),(233,jkx),(234,jkw),(235,jkv),(111,jmg),(162,jlu),(166,jlq),(236,jku),(248,jkq),(249,jkp),(228,jkC),(237,jkt),(239,jkr),(176,jli),(252,jkm),(180,jle),(183,jlb),(185,jl9),(128,jm2),(203,jkR),(204,jkQ),(255,jkl),(167,jlp),(266,jki),(267,jkh),(268,jkg),(269,jkf),(256,jkk),(209,jkL),(226,jkE),(181,jld),(184,jla),(205,jkP),(270,jke),(271,jkd),(274,jkc),(276,jkb),(250,jko),(251,jkn),(277,jka),(278,jk9),(259,jkj),(238,jks),(207,jkN)]
noncomputable def ju:Cfg:=⟨fun t=>j5j t tyL,fun f=>j5j f fnL⟩
theorem tys:tyB Tryz.prog tyL=true:=by kernel_rfl
theorem fns:∀ x ∈ fnL,FnOk Tryz.prog G ju.ty x.1 x.2 :=
 all_cons (ji Tryz.func3 (by kernel_rfl)) <|
 all_cons (ji Tryz.func4 (by kernel_rfl)) <|
 all_cons (ji Tryz.func6 (by kernel_rfl)) <|
 all_cons (ji Tryz.func5 (by kernel_rfl)) <|
 all_cons (ji Tryz.func7 (by kernel_rfl)) <|
 all_cons (ji Tryz.func8 (by kernel_rfl)) <|
 all_cons (ji Tryz.func9 (by kernel_rfl)) <|
 all_cons (ji Tryz.func10 (by kernel_rfl)) <|
 all_cons (ji Tryz.func11 (by kernel_rfl)) <|
 all_cons (ji Tryz.func15 (by kernel_rfl)) <|
 all_cons (ji Tryz.func16 (by kernel_rfl)) <|
 all_cons (ji Tryz.func17 (by kernel_rfl)) <|
 all_cons (ji Tryz.func12 (by kernel_rfl)) <|
 all_cons (ji Tryz.func13 (by kernel_rfl)) <|
 all_cons (ji Tryz.func14 (by kernel_rfl)) <|
 all_cons (ji Tryz.func18 (by kernel_rfl)) <|
 all_cons (ji Tryz.func19 (by kernel_rfl)) <|
 all_cons (ji Tryz.func20 (by kernel_rfl)) <|
 all_cons (ji Tryz.func21 (by kernel_rfl)) <|
 all_cons (ji Tryz.func22 (by kernel_rfl)) <|
 all_cons (ji Tryz.func23 (by kernel_rfl)) <|
 all_cons (ji Tryz.func24 (by kernel_rfl)) <|
 all_cons (ji Tryz.func25 (by kernel_rfl)) <|
 all_cons (ji Tryz.func26 (by kernel_rfl)) <|
 all_cons (ji Tryz.func27 (by kernel_rfl)) <|
 all_cons (ji Tryz.func28 (by kernel_rfl)) <|
 all_cons (ji Tryz.func29 (by kernel_rfl)) <|
 all_cons (ji Tryz.func30 (by kernel_rfl)) <|
 all_cons (ji Tryz.func31 (by kernel_rfl)) <|
 all_cons (ji Tryz.func47 (by kernel_rfl)) <|
 all_cons (ji Tryz.func48 (by kernel_rfl)) <|
 all_cons (ji Tryz.func49 (by kernel_rfl)) <|
 all_cons (ji Tryz.func50 (by kernel_rfl)) <|
 all_cons (ji Tryz.func51 (by kernel_rfl)) <|
 all_cons (ji Tryz.func52 (by kernel_rfl)) <|
 all_cons (ji Tryz.func53 (by kernel_rfl)) <|
 all_cons (ji Tryz.func54 (by kernel_rfl)) <|
 all_cons (ji Tryz.func32 (by kernel_rfl)) <|
 all_cons (ji Tryz.func33 (by kernel_rfl)) <|
 all_cons (ji Tryz.func34 (by kernel_rfl)) <|
 all_cons (ji Tryz.func36 (by kernel_rfl)) <|
 all_cons (ji Tryz.func35 (by kernel_rfl)) <|
 all_cons (ji Tryz.func37 (by kernel_rfl)) <|
 all_cons (ji Tryz.func38 (by kernel_rfl)) <|
 all_cons (ji Tryz.func39 (by kernel_rfl)) <|
 all_cons (ji Tryz.func40 (by kernel_rfl)) <|
 all_cons (ji Tryz.func41 (by kernel_rfl)) <|
 all_cons (ji Tryz.func42 (by kernel_rfl)) <|
 all_cons (ji Tryz.func43 (by kernel_rfl)) <|
 all_cons (ji Tryz.func44 (by kernel_rfl)) <|
 all_cons (ji Tryz.func45 (by kernel_rfl)) <|
 all_cons (ji Tryz.func46 (by kernel_rfl)) <|
 all_cons (ji Tryz.func55 (by kernel_rfl)) <|
 all_cons (ji Tryz.func56 (by kernel_rfl)) <|
 all_cons (ji Tryz.func57 (by kernel_rfl)) <|
 all_cons (ji Tryz.func58 (by kernel_rfl)) <|
 all_cons (ji Tryz.func59 (by kernel_rfl)) <|
 all_cons (ji Tryz.func60 (by kernel_rfl)) <|
 all_cons (jfU (e:=9) (q:=j5a) Tryz.func61 (by kernel_rfl) (by kernel_rfl) (by kernel_rfl) rfl (jhB fun te h=>by injection (show j5j 9 tyL=some te from h) with h; subst h; rfl)) <|
 all_cons (ji Tryz.func62 (by kernel_rfl)) <|
 all_cons (ji Tryz.func63 (by kernel_rfl)) <|
 all_cons (ji Tryz.func64 (by kernel_rfl)) <|
 all_cons (ji Tryz.func65 (by kernel_rfl)) <|
 all_cons (ji Tryz.func66 (by kernel_rfl)) <|
 all_cons (ji Tryz.func67 (by kernel_rfl)) <|
 all_cons (ji Tryz.func68 (by kernel_rfl)) <|
 all_cons (ji Tryz.func69 (by kernel_rfl)) <|
 all_cons (ji Tryz.func70 (by kernel_rfl)) <|
 all_cons (ji Tryz.func71 (by kernel_rfl)) <|
 all_cons (ji Tryz.func72 (by kernel_rfl)) <|
 all_cons (ji Tryz.func73 (by kernel_rfl)) <|
 all_cons (ji Tryz.func74 (by kernel_rfl)) <|
 all_cons (ji Tryz.func75 (by kernel_rfl)) <|
 all_cons (ji Tryz.func76 (by kernel_rfl)) <|
 all_cons (ji Tryz.func77 (by kernel_rfl)) <|
 all_cons (ji Tryz.func78 (by kernel_rfl)) <|
 all_cons (ji Tryz.func79 (by kernel_rfl)) <|
 all_cons (ji Tryz.func80 (by kernel_rfl)) <|
 all_cons (ji Tryz.func81 (by kernel_rfl)) <|
 all_cons (ji Tryz.func82 (by kernel_rfl)) <|
 all_cons (ji Tryz.func101 (by kernel_rfl)) <|
 all_cons (ji Tryz.func102 (by kernel_rfl)) <|
 all_cons (ji Tryz.func103 (by kernel_rfl)) <|
 all_cons (ji Tryz.func104 (by kernel_rfl)) <|
 all_cons (ji Tryz.func105 (by kernel_rfl)) <|
 all_cons (ji Tryz.func106 (by kernel_rfl)) <|
 all_cons (ji Tryz.func107 (by kernel_rfl)) <|
 all_cons (ji Tryz.func83 (by kernel_rfl)) <|
 all_cons (ji Tryz.func84 (by kernel_rfl)) <|
 all_cons (ji Tryz.func85 (by kernel_rfl)) <|
 all_cons (ji Tryz.func86 (by kernel_rfl)) <|
 all_cons (ji Tryz.func87 (by kernel_rfl)) <|
 all_cons (ji Tryz.func88 (by kernel_rfl)) <|
 all_cons (ji Tryz.func89 (by kernel_rfl)) <|
 all_cons (ji Tryz.func90 (by kernel_rfl)) <|
 all_cons (ji Tryz.func91 (by kernel_rfl)) <|
 all_cons (ji Tryz.func92 (by kernel_rfl)) <|
 all_cons (ji Tryz.func93 (by kernel_rfl)) <|
 all_cons (ji Tryz.func94 (by kernel_rfl)) <|
 all_cons (ji Tryz.func95 (by kernel_rfl)) <|
 all_cons (ji Tryz.func96 (by kernel_rfl)) <|
 all_cons (ji Tryz.func97 (by kernel_rfl)) <|
 all_cons (ji Tryz.func98 (by kernel_rfl)) <|
 all_cons (ji Tryz.func99 (by kernel_rfl)) <|
 all_cons (ji Tryz.func100 (by kernel_rfl)) <|
 all_cons (ji Tryz.func109 (by kernel_rfl)) <|
 all_cons (ji Tryz.func112 (by kernel_rfl)) <|
 all_cons (ji Tryz.func113 (by kernel_rfl)) <|
 all_cons (ji Tryz.func108 (by kernel_rfl)) <|
 all_cons (ji Tryz.func114 (by kernel_rfl)) <|
 all_cons (ji Tryz.func115 (by kernel_rfl)) <|
 all_cons (ji Tryz.func116 (by kernel_rfl)) <|
 all_cons (ji Tryz.func117 (by kernel_rfl)) <|
 all_cons (ji Tryz.func118 (by kernel_rfl)) <|
 all_cons (ji Tryz.func122 (by kernel_rfl)) <|
 all_cons (ji Tryz.func123 (by kernel_rfl)) <|
 all_cons (ji Tryz.func124 (by kernel_rfl)) <|
 all_cons (ji Tryz.func125 (by kernel_rfl)) <|
 all_cons (ji Tryz.func126 (by kernel_rfl)) <|
 all_cons (ji Tryz.func129 (by kernel_rfl)) <|
 all_cons (ji Tryz.func130 (by kernel_rfl)) <|
 all_cons (ji Tryz.func131 (by kernel_rfl)) <|
 all_cons (ji Tryz.func132 (by kernel_rfl)) <|
 all_cons (ji Tryz.func133 (by kernel_rfl)) <|
 all_cons (ji Tryz.func134 (by kernel_rfl)) <|
 all_cons (ji Tryz.func135 (by kernel_rfl)) <|
 all_cons (ji Tryz.func136 (by kernel_rfl)) <|
 all_cons (ji Tryz.func137 (by kernel_rfl)) <|
 all_cons (ji Tryz.func138 (by kernel_rfl)) <|
 all_cons (ji Tryz.func139 (by kernel_rfl)) <|
 all_cons (ji Tryz.func140 (by kernel_rfl)) <|
 all_cons (ji Tryz.func141 (by kernel_rfl)) <|
 all_cons (ji Tryz.func153 (by kernel_rfl)) <|
 all_cons (ji Tryz.func154 (by kernel_rfl)) <|
 all_cons (ji Tryz.func155 (by kernel_rfl)) <|
 all_cons (ji Tryz.func142 (by kernel_rfl)) <|
 all_cons (ji Tryz.func143 (by kernel_rfl)) <|
 all_cons (ji Tryz.func144 (by kernel_rfl)) <|
 all_cons (ji Tryz.func145 (by kernel_rfl)) <|
 all_cons (ji Tryz.func146 (by kernel_rfl)) <|
 all_cons (ji Tryz.func147 (by kernel_rfl)) <|
 all_cons (ji Tryz.func148 (by kernel_rfl)) <|
 all_cons (ji Tryz.func149 (by kernel_rfl)) <|
 all_cons (ji Tryz.func150 (by kernel_rfl)) <|
 all_cons (ji Tryz.func151 (by kernel_rfl)) <|
 all_cons (ji Tryz.func152 (by kernel_rfl)) <|
 all_cons (ji Tryz.func158 (by kernel_rfl)) <|
 all_cons (ji Tryz.func161 (by kernel_rfl)) <|
 all_cons (ji Tryz.func164 (by kernel_rfl)) <|
 all_cons (ji Tryz.func156 (by kernel_rfl)) <|
 all_cons (ji Tryz.func157 (by kernel_rfl)) <|
 all_cons (ji Tryz.func165 (by kernel_rfl)) <|
 all_cons (ji Tryz.func168 (by kernel_rfl)) <|
 all_cons (YV (cts:=[.s,.s]) (rcts:=[.s]) Tryz.func169 (by kernel_rfl) (by kernel_rfl) (by kernel_rfl) rfl jhA) <|
 all_cons (YV (cts:=[.s,.s]) (rcts:=[.b]) Tryz.func170 (by kernel_rfl) (by kernel_rfl) (by kernel_rfl) rfl jbU) <|
 all_cons (ji Tryz.func171 (by kernel_rfl)) <|
 all_cons (ji Tryz.func172 (by kernel_rfl)) <|
 all_cons (ji Tryz.func163 (by kernel_rfl)) <|
 all_cons (ji Tryz.func175 (by kernel_rfl)) <|
 all_cons (ji Tryz.func178 (by kernel_rfl)) <|
 all_cons (ji Tryz.func179 (by kernel_rfl)) <|
 all_cons (ji Tryz.func182 (by kernel_rfl)) <|
 all_cons (ji Tryz.func160 (by kernel_rfl)) <|
 all_cons (ji Tryz.func186 (by kernel_rfl)) <|
 all_cons (ji Tryz.func187 (by kernel_rfl)) <|
 all_cons (ji Tryz.func188 (by kernel_rfl)) <|
 all_cons (ji Tryz.func189 (by kernel_rfl)) <|
 all_cons (ji Tryz.func177 (by kernel_rfl)) <|
 all_cons (ji Tryz.func190 (by kernel_rfl)) <|
 all_cons (ji Tryz.func191 (by kernel_rfl)) <|
 all_cons (ji Tryz.func192 (by kernel_rfl)) <|
 all_cons (ji Tryz.func193 (by kernel_rfl)) <|
 all_cons (ji Tryz.func194 (by kernel_rfl)) <|
 all_cons (ji Tryz.func200 (by kernel_rfl)) <|
 all_cons (ji Tryz.func201 (by kernel_rfl)) <|
 all_cons (ji Tryz.func195 (by kernel_rfl)) <|
 all_cons (ji Tryz.func196 (by kernel_rfl)) <|
 all_cons (ji Tryz.func197 (by kernel_rfl)) <|
 all_cons (ji Tryz.func198 (by kernel_rfl)) <|
 all_cons (ji Tryz.func199 (by kernel_rfl)) <|
 all_cons (ji Tryz.func110 (by kernel_rfl)) <|
 all_cons (ji Tryz.func208 (by kernel_rfl)) <|
 all_cons (ji Tryz.func202 (by kernel_rfl)) <|
 all_cons (ji Tryz.func210 (by kernel_rfl)) <|
 all_cons (YV (cts:=[.s,.i .i64]) (rcts:=[.s]) Tryz.func211 (by kernel_rfl) (by kernel_rfl) (by kernel_rfl) rfl jf5) <|
 all_cons (ji Tryz.func212 (by kernel_rfl)) <|
 all_cons (ji Tryz.func221 (by kernel_rfl)) <|
 all_cons (ji Tryz.func206 (by kernel_rfl)) <|
 all_cons (ji Tryz.func224 (by kernel_rfl)) <|
 all_cons (ji Tryz.func225 (by kernel_rfl)) <|
 all_cons (ji Tryz.func227 (by kernel_rfl)) <|
 all_cons (ji Tryz.func229 (by kernel_rfl)) <|
 all_cons (ji Tryz.func127 (by kernel_rfl)) <|
 all_cons (YV (cts:=[.s]) (rcts:=[.b]) Tryz.func230 (by kernel_rfl) (by kernel_rfl) (by kernel_rfl) rfl j7q) <|
 all_cons (YV (cts:=[.s,.i .u8]) (rcts:=[.i .i64]) Tryz.func231 (by kernel_rfl) (by kernel_rfl) (by kernel_rfl) rfl jaY) <|
 all_cons (ji Tryz.func159 (by kernel_rfl)) <|
 all_cons (ji Tryz.func232 (by kernel_rfl)) <|
 all_cons (ji Tryz.func233 (by kernel_rfl)) <|
 all_cons (ji Tryz.func234 (by kernel_rfl)) <|
 all_cons (ji Tryz.func235 (by kernel_rfl)) <|
 all_cons (ji Tryz.func111 (by kernel_rfl)) <|
 all_cons (ji Tryz.func162 (by kernel_rfl)) <|
 all_cons (ji Tryz.func166 (by kernel_rfl)) <|
 all_cons (ji Tryz.func236 (by kernel_rfl)) <|
 all_cons (ji Tryz.func248 (by kernel_rfl)) <|
 all_cons (ji Tryz.func249 (by kernel_rfl)) <|
 all_cons (ji Tryz.func228 (by kernel_rfl)) <|
 all_cons (ji Tryz.func237 (by kernel_rfl)) <|
 all_cons (ji Tryz.func239 (by kernel_rfl)) <|
 all_cons (ji Tryz.func176 (by kernel_rfl)) <|
 all_cons (ji Tryz.func252 (by kernel_rfl)) <|
 all_cons (ji Tryz.func180 (by kernel_rfl)) <|
 all_cons (ji Tryz.func183 (by kernel_rfl)) <|
 all_cons (ji Tryz.func185 (by kernel_rfl)) <|
 all_cons (ji Tryz.func128 (by kernel_rfl)) <|
 all_cons (ji Tryz.func203 (by kernel_rfl)) <|
 all_cons (ji Tryz.func204 (by kernel_rfl)) <|
 all_cons (ji Tryz.func255 (by kernel_rfl)) <|
 all_cons (ji Tryz.func167 (by kernel_rfl)) <|
 all_cons (ji Tryz.func266 (by kernel_rfl)) <|
 all_cons (ji Tryz.func267 (by kernel_rfl)) <|
 all_cons (YV (cts:=[.s,.s]) (rcts:=[.i .i64]) Tryz.func268 (by kernel_rfl) (by kernel_rfl) (by kernel_rfl) rfl jbT) <|
 all_cons (ji Tryz.func269 (by kernel_rfl)) <|
 all_cons (ji Tryz.func256 (by kernel_rfl)) <|
 all_cons (ji Tryz.func209 (by kernel_rfl)) <|
 all_cons (ji Tryz.func226 (by kernel_rfl)) <|
 all_cons (ji Tryz.func181 (by kernel_rfl)) <|
 all_cons (ji Tryz.func184 (by kernel_rfl)) <|
 all_cons (ji Tryz.func205 (by kernel_rfl)) <|
 all_cons (ji Tryz.func270 (by kernel_rfl)) <|
 all_cons (ji Tryz.func271 (by kernel_rfl)) <|
 all_cons (ji Tryz.func274 (by kernel_rfl)) <|
 all_cons (YV (cts:=[.s,.s]) (rcts:=[.s,.s,.b]) Tryz.func276 (by kernel_rfl) (by kernel_rfl) (by kernel_rfl) rfl jiU) <|
 all_cons (ji Tryz.func250 (by kernel_rfl)) <|
 all_cons (ji Tryz.func251 (by kernel_rfl)) <|
 all_cons (ji Tryz.func277 (by kernel_rfl)) <|
 all_cons (ji Tryz.func278 (by kernel_rfl)) <|
 all_cons (ji Tryz.func259 (by kernel_rfl)) <|
 all_cons (ji Tryz.func238 (by kernel_rfl)) <|
 all_cons (ji Tryz.func207 (by kernel_rfl)) <| jjx
noncomputable def Ve (a:List DC):Out:=kj ju 3 ⟨.agg [.i .i64,.i .i64,.s,.sl 137,.sl 141,.sl 144,.s,.s,.sl 141,.sl 144,.i .i64,.b,.s,.s,.sl 9,.sl 147,.sl 150,.sl 153,.sl 155,.b,.sl 141] :: [],[]⟩ a
noncomputable def j01 (a:List DC):Out:=kj ju 4 ⟨.agg [.i .i64,.i .i64,.s,.sl 137,.sl 141,.sl 144,.s,.s,.sl 141,.sl 144,.i .i64,.b,.s,.s,.sl 9,.sl 147,.sl 150,.sl 153,.sl 155,.b,.sl 141] :: oi :: [],[]⟩ a
noncomputable def Qa (a:List DC):Out:=kj ju 6 ⟨.agg [.i .i64,.i .i64,.s,.sl 137,.sl 141,.sl 144,.s,.s,.sl 141,.sl 144,.i .i64,.b,.s,.s,.sl 9,.sl 147,.sl 150,.sl 153,.sl 155,.b,.sl 141] :: [],[]⟩ a
noncomputable def XM (a:List DC):Out:=kj ju 5 ⟨.agg [.i .i64,.i .i64,.s,.sl 115,.sl 166,.sl 162,.s,.s,.sl 166,.sl 162,.i .i64,.b,.s,.s,.sl 9,.sl 93,.sl 104,.sl 96,.sl 98,.b,.sl 166] :: [],[]⟩ a
noncomputable def XV (a:List DC):Out:=kj ju 7 ⟨.agg [.i .i64,.i .i64,.s,.sl 115,.sl 166,.sl 162,.s,.s,.sl 166,.sl 162,.i .i64,.b,.s,.s,.sl 9,.sl 93,.sl 104,.sl 96,.sl 98,.b,.sl 166] :: [],[]⟩ a
noncomputable def j03 (a:List DC):Out:=kj ju 8 ⟨.agg [.i .i64,.i .i64,.s,.sl 115,.sl 166,.sl 162,.s,.s,.sl 166,.sl 162,.i .i64,.b,.s,.s,.sl 9,.sl 93,.sl 104,.sl 96,.sl 98,.b,.sl 166] :: .agg [.i .i64,.i .i64,.s,.sl 115,.sl 166,.sl 162,.s,.s,.sl 166,.sl 162,.i .i64,.b,.s,.s,.sl 9,.sl 93,.sl 104,.sl 96,.sl 98,.b,.sl 166] :: [],[]⟩ a
noncomputable def j2n (a:List DC):Out:=kj ju 9 ⟨.agg [.i .i64,.s,.sl 137,.sl 141,.sl 144] :: oi :: [],[]⟩ a
noncomputable def j02 (a:List DC):Out:=kj ju 10 ⟨.agg [.s,.s,.sl 141,.sl 144] :: oi :: [],[]⟩ a
noncomputable def j1e (a:List DC):Out:=kj ju 11 ⟨.agg [.i .i64,.b,.s,.s,.sl 9,.sl 147,.sl 150,.sl 153,.sl 155,.b,.sl 141] :: oi :: [],[]⟩ a
noncomputable def j2m (a:List DC):Out:=kj ju 15 ⟨.agg [.i .i64,.s,.sl 137,.sl 141,.sl 144] :: [],[]⟩ a
noncomputable def j00 (a:List DC):Out:=kj ju 16 ⟨.agg [.s,.s,.sl 141,.sl 144] :: [],[]⟩ a
noncomputable def j1d (a:List DC):Out:=kj ju 17 ⟨.agg [.i .i64,.b,.s,.s,.sl 9,.sl 147,.sl 150,.sl 153,.sl 155,.b,.sl 141] :: [],[]⟩ a
noncomputable def ZY (a:List DC):Out:=kj ju 12 ⟨.agg [.i .i64,.s,.sl 115,.sl 166,.sl 162] :: [],[]⟩ a
noncomputable def XN (a:List DC):Out:=kj ju 13 ⟨.agg [.s,.s,.sl 166,.sl 162] :: [],[]⟩ a
noncomputable def YP (a:List DC):Out:=kj ju 14 ⟨.agg [.i .i64,.b,.s,.s,.sl 9,.sl 93,.sl 104,.sl 96,.sl 98,.b,.sl 166] :: [],[]⟩ a
noncomputable def j09 (a:List DC):Out:=kj ju 18 ⟨.agg [.i .i64,.s,.sl 115,.sl 166,.sl 162] :: [],[]⟩ a
noncomputable def XW (a:List DC):Out:=kj ju 19 ⟨.agg [.s,.s,.sl 166,.sl 162] :: [],[]⟩ a
noncomputable def YT (a:List DC):Out:=kj ju 20 ⟨.agg [.i .i64,.b,.s,.s,.sl 9,.sl 93,.sl 104,.sl 96,.sl 98,.b,.sl 166] :: [],[]⟩ a
noncomputable def j2o (a:List DC):Out:=kj ju 21 ⟨.agg [.i .i64,.s,.sl 115,.sl 166,.sl 162] :: .agg [.i .i64,.s,.sl 115,.sl 166,.sl 162] :: [],[]⟩ a
noncomputable def j04 (a:List DC):Out:=kj ju 22 ⟨.agg [.s,.s,.sl 166,.sl 162] :: .agg [.s,.s,.sl 166,.sl 162] :: [],[]⟩ a
noncomputable def j1f (a:List DC):Out:=kj ju 23 ⟨.agg [.i .i64,.b,.s,.s,.sl 9,.sl 93,.sl 104,.sl 96,.sl 98,.b,.sl 166] :: .agg [.i .i64,.b,.s,.s,.sl 9,.sl 93,.sl 104,.sl 96,.sl 98,.b,.sl 166] :: [],[]⟩ a
noncomputable def KD (a:List DC):Out:=kj ju 24 ⟨ol 137 :: oi :: [],[]⟩ a
noncomputable def pN (a:List DC):Out:=kj ju 25 ⟨ol 141 :: oi :: [],[]⟩ a
noncomputable def JK (a:List DC):Out:=kj ju 26 ⟨ol 144 :: oi :: [],[]⟩ a
noncomputable def KE (a:List DC):Out:=kj ju 27 ⟨ol 9 :: oi :: [],[]⟩ a
noncomputable def Jf (a:List DC):Out:=kj ju 28 ⟨ol 147 :: oi :: [],[]⟩ a
noncomputable def Jx (a:List DC):Out:=kj ju 29 ⟨ol 150 :: oi :: [],[]⟩ a
noncomputable def K0 (a:List DC):Out:=kj ju 30 ⟨ol 153 :: oi :: [],[]⟩ a
noncomputable def Va (a:List DC):Out:=kj ju 31 ⟨ol 155 :: oi :: [],[]⟩ a
noncomputable def Kz (a:List DC):Out:=kj ju 47 ⟨ol 137 :: [],[]⟩ a
noncomputable def pM (a:List DC):Out:=kj ju 48 ⟨ol 141 :: [],[]⟩ a
noncomputable def JJ (a:List DC):Out:=kj ju 49 ⟨ol 144 :: [],[]⟩ a
noncomputable def KA (a:List DC):Out:=kj ju 50 ⟨ol 9 :: [],[]⟩ a
noncomputable def Je (a:List DC):Out:=kj ju 51 ⟨ol 147 :: [],[]⟩ a
noncomputable def Jw (a:List DC):Out:=kj ju 52 ⟨ol 150 :: [],[]⟩ a
noncomputable def JY (a:List DC):Out:=kj ju 53 ⟨ol 153 :: [],[]⟩ a
noncomputable def V8 (a:List DC):Out:=kj ju 54 ⟨ol 155 :: [],[]⟩ a
noncomputable def j2l (a:List DC):Out:=kj ju 32 ⟨.agg [.i .i64,.s,.sl 115,.sl 166,.sl 162] :: [],[]⟩ a
noncomputable def yo (a:List DC):Out:=kj ju 33 ⟨.one (.own 5 0) :: ol 162 :: oi :: [],.u :: []⟩ a
noncomputable def zB (a:List DC):Out:=kj ju 34 ⟨oi :: [],[]⟩ a
noncomputable def V4 (a:List DC):Out:=kj ju 36 ⟨.one (.own 5 0) :: ol 115 :: [],.u :: []⟩ a
noncomputable def p8 (a:List DC):Out:=kj ju 35 ⟨.one (.own 5 0) :: ol 166 :: [],.u :: []⟩ a
noncomputable def y9 (a:List DC):Out:=kj ju 37 ⟨.one (.own 5 0) :: ol 162 :: oi :: [],.u :: []⟩ a
noncomputable def ZZ (a:List DC):Out:=kj ju 38 ⟨.agg [.s,.s,.sl 166,.sl 162] :: [],[]⟩ a
noncomputable def j1c (a:List DC):Out:=kj ju 39 ⟨.agg [.i .i64,.b,.s,.s,.sl 9,.sl 93,.sl 104,.sl 96,.sl 98,.b,.sl 166] :: [],[]⟩ a
noncomputable def qW (a:List DC):Out:=kj ju 40 ⟨os :: [],[]⟩ a
noncomputable def YM (a:List DC):Out:=kj ju 41 ⟨oi :: [],[]⟩ a
noncomputable def Kw (a:List DC):Out:=kj ju 42 ⟨.one (.own 5 0) :: ol 104 :: [],.u :: []⟩ a
noncomputable def Jt (a:List DC):Out:=kj ju 43 ⟨.one (.own 5 0) :: ol 9 :: os :: [],.u :: []⟩ a
noncomputable def QD (a:List DC):Out:=kj ju 44 ⟨.one (.own 5 0) :: .agg [.s,.s,.sl 104,.s,.s,.sl 166] :: [],.u :: []⟩ a
noncomputable def JV (a:List DC):Out:=kj ju 45 ⟨.one (.own 5 0) :: os :: [],.u :: []⟩ a
noncomputable def Ql (a:List DC):Out:=kj ju 46 ⟨.one (.own 5 0) :: .agg [.s,.s,.s,.s,.b,.i .i64,.s,.sl 102,.sl 9,.sl 166] :: [],.u :: []⟩ a
noncomputable def j2p (a:List DC):Out:=kj ju 55 ⟨.agg [.i .i64,.s,.sl 115,.sl 166,.sl 162] :: [],[]⟩ a
noncomputable def yY (a:List DC):Out:=kj ju 56 ⟨ol 162 :: [],[]⟩ a
noncomputable def zD (a:List DC):Out:=kj ju 57 ⟨oi :: [],[]⟩ a
noncomputable def JA (a:List DC):Out:=kj ju 58 ⟨.agg [.s,.s] :: [],[]⟩ a
noncomputable def Jh (a:List DC):Out:=kj ju 59 ⟨ob :: .agg [.i .i64,.s,.sl 102,.sl 9] :: [],[]⟩ a
noncomputable def kT (a:List DC):Out:=kj ju 60 ⟨ol 166 :: [],[]⟩ a
noncomputable def pn (a:List DC):Out:=kj ju 61 Z0 a
noncomputable def j0a (a:List DC):Out:=kj ju 62 ⟨.agg [.s,.s,.sl 166,.sl 162] :: [],[]⟩ a
noncomputable def j1h (a:List DC):Out:=kj ju 63 ⟨.agg [.i .i64,.b,.s,.s,.sl 9,.sl 93,.sl 104,.sl 96,.sl 98,.b,.sl 166] :: [],[]⟩ a
noncomputable def yX (a:List DC):Out:=kj ju 64 ⟨os :: os :: [],[]⟩ a
noncomputable def XS (a:List DC):Out:=kj ju 65 ⟨[],[]⟩ a
noncomputable def Vg (a:List DC):Out:=kj ju 66 ⟨ol 104 :: [],[]⟩ a
noncomputable def Vk (a:List DC):Out:=kj ju 67 ⟨.agg [.i .i64,.b,.s,.s,.sl 9,.sl 93,.sl 104,.sl 96,.sl 98,.b,.sl 166] :: [],[]⟩ a
noncomputable def KG (a:List DC):Out:=kj ju 68 ⟨ol 115 :: ol 115 :: [],[]⟩ a
noncomputable def pO (a:List DC):Out:=kj ju 69 ⟨ol 166 :: ol 166 :: [],[]⟩ a
noncomputable def JL (a:List DC):Out:=kj ju 70 ⟨ol 162 :: ol 162 :: [],[]⟩ a
noncomputable def KH (a:List DC):Out:=kj ju 71 ⟨ol 9 :: ol 9 :: [],[]⟩ a
noncomputable def Jg (a:List DC):Out:=kj ju 72 ⟨ol 93 :: ol 93 :: [],[]⟩ a
noncomputable def Jy (a:List DC):Out:=kj ju 73 ⟨ol 104 :: ol 104 :: [],[]⟩ a
noncomputable def K3 (a:List DC):Out:=kj ju 74 ⟨ol 96 :: ol 96 :: [],[]⟩ a
noncomputable def Vc (a:List DC):Out:=kj ju 75 ⟨ol 98 :: ol 98 :: [],[]⟩ a
noncomputable def Qo (a:List DC):Out:=kj ju 76 ⟨.agg [.s,.s,.s,.b,.i .i64,.s,.sl 135,.sl 9,.sl 141] :: oi :: [],[]⟩ a
noncomputable def Yl (a:List DC):Out:=kj ju 77 ⟨.agg [.s,.sl 243] :: oi :: [],[]⟩ a
noncomputable def Yk (a:List DC):Out:=kj ju 78 ⟨.agg [.i .i64,.s,.s,.s,.sl 243,.sl 141,.sl 144] :: oi :: [],[]⟩ a
noncomputable def JZ (a:List DC):Out:=kj ju 79 ⟨.agg [.s,.s,.sl 150,.s,.s,.sl 141] :: oi :: [],[]⟩ a
noncomputable def Vb (a:List DC):Out:=kj ju 80 ⟨.agg [.s,.s,.s,.s,.b,.i .i64,.s,.sl 135,.sl 9,.sl 141] :: oi :: [],[]⟩ a
noncomputable def KF (a:List DC):Out:=kj ju 81 ⟨.agg [.s,.s,.sl 141] :: oi :: [],[]⟩ a
noncomputable def Xh (a:List DC):Out:=kj ju 82 ⟨.agg [.i .i64,.s] :: oi :: [],[]⟩ a
noncomputable def Qn (a:List DC):Out:=kj ju 101 ⟨.agg [.s,.s,.s,.b,.i .i64,.s,.sl 135,.sl 9,.sl 141] :: [],[]⟩ a
noncomputable def Yi (a:List DC):Out:=kj ju 102 ⟨.agg [.s,.sl 243] :: [],[]⟩ a
noncomputable def Yh (a:List DC):Out:=kj ju 103 ⟨.agg [.i .i64,.s,.s,.s,.sl 243,.sl 141,.sl 144] :: [],[]⟩ a
noncomputable def JX (a:List DC):Out:=kj ju 104 ⟨.agg [.s,.s,.sl 150,.s,.s,.sl 141] :: [],[]⟩ a
noncomputable def V9 (a:List DC):Out:=kj ju 105 ⟨.agg [.s,.s,.s,.s,.b,.i .i64,.s,.sl 135,.sl 9,.sl 141] :: [],[]⟩ a
noncomputable def KB (a:List DC):Out:=kj ju 106 ⟨.agg [.s,.s,.sl 141] :: [],[]⟩ a
noncomputable def Xg (a:List DC):Out:=kj ju 107 ⟨.agg [.i .i64,.s] :: [],[]⟩ a
noncomputable def kg (a:List DC):Out:=kj ju 83 ⟨os :: [],[]⟩ a
noncomputable def zC (a:List DC):Out:=kj ju 84 ⟨ol 166 :: [],[]⟩ a
noncomputable def XL (a:List DC):Out:=kj ju 85 ⟨.agg [.s,.s,.s,.b,.i .i64,.s,.sl 102,.sl 9,.sl 166] :: [],[]⟩ a
noncomputable def Yg (a:List DC):Out:=kj ju 86 ⟨ol 162 :: [],[]⟩ a
noncomputable def Kx (a:List DC):Out:=kj ju 87 ⟨.one (.own 5 0) :: oi :: [],.u :: []⟩ a
noncomputable def Xd (a:List DC):Out:=kj ju 88 ⟨.one (.own 5 0) :: ol 211 :: [],.u :: []⟩ a
noncomputable def Jv (a:List DC):Out:=kj ju 89 ⟨.agg [.s,.s] :: [],[]⟩ a
noncomputable def zA (a:List DC):Out:=kj ju 90 ⟨.one (.own 5 0) :: .agg [.i .i64,.s,.sl 102,.sl 9] :: [],.u :: []⟩ a
noncomputable def V5 (a:List DC):Out:=kj ju 91 ⟨oi :: oi :: oi :: [],[]⟩ a
noncomputable def zV (a:List DC):Out:=kj ju 92 ⟨os :: [],[]⟩ a
noncomputable def ZU (a:List DC):Out:=kj ju 93 ⟨.agg [.i .i64,.b,.s,.s,.sl 9,.sl 93,.sl 104,.sl 96,.sl 98,.b,.sl 166] :: [],[]⟩ a
noncomputable def Xc (a:List DC):Out:=kj ju 94 ⟨.agg [.i .i64,.b,.s,.s,.sl 9,.sl 93,.sl 104,.sl 96,.sl 98,.b,.sl 166] :: [],[]⟩ a
noncomputable def zz (a:List DC):Out:=kj ju 95 ⟨ol 104 :: [],[]⟩ a
noncomputable def pe (a:List DC):Out:=kj ju 96 ⟨ol 166 :: [],[]⟩ a
noncomputable def XJ (a:List DC):Out:=kj ju 97 ⟨.agg [.s,.s,.sl 104,.s,.s,.sl 166] :: [],[]⟩ a
noncomputable def Xw (a:List DC):Out:=kj ju 98 ⟨os :: [],[]⟩ a
noncomputable def ZW (a:List DC):Out:=kj ju 99 ⟨os :: [],[]⟩ a
noncomputable def YN (a:List DC):Out:=kj ju 100 ⟨oi :: [],[]⟩ a
noncomputable def ku (a:List DC):Out:=kj ju 109 ⟨ol 115 :: .one (.fn 110 []) :: [],[]⟩ a
noncomputable def yp (a:List DC):Out:=kj ju 112 ⟨ol 166 :: [],[]⟩ a
noncomputable def Qg (a:List DC):Out:=kj ju 113 ⟨ol 162 :: [],[]⟩ a
noncomputable def ki (a:List DC):Out:=kj ju 108 ⟨os :: [],[]⟩ a
noncomputable def XU (a:List DC):Out:=kj ju 114 ⟨ol 162 :: oi :: [],[]⟩ a
noncomputable def YA (a:List DC):Out:=kj ju 115 ⟨oi :: oi :: oi :: [],[]⟩ a
noncomputable def JN (a:List DC):Out:=kj ju 116 ⟨.agg [.s,.s] :: [],[]⟩ a
noncomputable def VZ (a:List DC):Out:=kj ju 117 ⟨.agg [.i .i64,.s,.sl 102,.sl 9] :: [],[]⟩ a
noncomputable def Qr (a:List DC):Out:=kj ju 118 ⟨ol 211 :: [],[]⟩ a
noncomputable def JM (a:List DC):Out:=kj ju 122 ⟨os :: [],[]⟩ a
noncomputable def VY (a:List DC):Out:=kj ju 123 ⟨.agg [.i .i64,.b,.s,.s,.sl 9,.sl 93,.sl 104,.sl 96,.sl 98,.b,.sl 166] :: [],[]⟩ a
noncomputable def Vf (a:List DC):Out:=kj ju 124 ⟨.agg [.i .i64,.b,.s,.s,.sl 9,.sl 93,.sl 104,.sl 96,.sl 98,.b,.sl 166] :: [],[]⟩ a
noncomputable def Vl (a:List DC):Out:=kj ju 125 ⟨.agg [.i .i64,.b,.s,.s,.sl 9,.sl 93,.sl 104,.sl 96,.sl 98,.b,.sl 166] :: [],[]⟩ a
noncomputable def pc (a:List DC):Out:=kj ju 126 ⟨ol 9 :: .one (.fn 127 []) :: [],[]⟩ a
noncomputable def yC (a:List DC):Out:=kj ju 129 ⟨os :: [],[]⟩ a
noncomputable def Xk (a:List DC):Out:=kj ju 130 ⟨.agg [.s,.s,.s,.s,.b,.i .i64,.s,.sl 102,.sl 9,.sl 166] :: [],[]⟩ a
noncomputable def X0 (a:List DC):Out:=kj ju 131 ⟨.agg [.s,.s,.sl 104,.s,.s,.sl 166] :: [],[]⟩ a
noncomputable def Qp (a:List DC):Out:=kj ju 132 ⟨.agg [.s,.s,.s,.b,.i .i64,.s,.sl 102,.sl 9,.sl 166] :: .agg [.s,.s,.s,.b,.i .i64,.s,.sl 102,.sl 9,.sl 166] :: [],[]⟩ a
noncomputable def Yo (a:List DC):Out:=kj ju 133 ⟨.agg [.s,.sl 211] :: .agg [.s,.sl 211] :: [],[]⟩ a
noncomputable def Yn (a:List DC):Out:=kj ju 134 ⟨.agg [.i .i64,.s,.s,.s,.sl 211,.sl 166,.sl 162] :: .agg [.i .i64,.s,.s,.s,.sl 211,.sl 166,.sl 162] :: [],[]⟩ a
noncomputable def K2 (a:List DC):Out:=kj ju 135 ⟨.agg [.s,.s,.sl 104,.s,.s,.sl 166] :: .agg [.s,.s,.sl 104,.s,.s,.sl 166] :: [],[]⟩ a
noncomputable def Vd (a:List DC):Out:=kj ju 136 ⟨.agg [.s,.s,.s,.s,.b,.i .i64,.s,.sl 102,.sl 9,.sl 166] :: .agg [.s,.s,.s,.s,.b,.i .i64,.s,.sl 102,.sl 9,.sl 166] :: [],[]⟩ a
noncomputable def KI (a:List DC):Out:=kj ju 137 ⟨.agg [.s,.s,.sl 166] :: .agg [.s,.s,.sl 166] :: [],[]⟩ a
noncomputable def Xi (a:List DC):Out:=kj ju 138 ⟨.agg [.i .i64,.s] :: .agg [.i .i64,.s] :: [],[]⟩ a
noncomputable def Qc (a:List DC):Out:=kj ju 139 ⟨.agg [.s,.s] :: oi :: [],[]⟩ a
noncomputable def yA (a:List DC):Out:=kj ju 140 ⟨.agg [.i .i64,.s,.sl 135,.sl 9] :: oi :: [],[]⟩ a
noncomputable def Qd (a:List DC):Out:=kj ju 141 ⟨ol 243 :: oi :: [],[]⟩ a
noncomputable def Q9 (a:List DC):Out:=kj ju 153 ⟨.agg [.s,.s] :: [],[]⟩ a
noncomputable def yz (a:List DC):Out:=kj ju 154 ⟨.agg [.i .i64,.s,.sl 135,.sl 9] :: [],[]⟩ a
noncomputable def Qb (a:List DC):Out:=kj ju 155 ⟨ol 243 :: [],[]⟩ a
noncomputable def zW (a:List DC):Out:=kj ju 142 ⟨.one (.i .u8) :: [],[]⟩ a
noncomputable def VU (a:List DC):Out:=kj ju 143 ⟨.one (.i .u8) :: [],[]⟩ a
noncomputable def Xf (a:List DC):Out:=kj ju 144 ⟨ol 211 :: [],[]⟩ a
noncomputable def JI (a:List DC):Out:=kj ju 145 ⟨.agg [.s,.s] :: [],[]⟩ a
noncomputable def JW (a:List DC):Out:=kj ju 146 ⟨ob :: .agg [.i .i64,.s,.sl 102,.sl 9] :: [],[]⟩ a
noncomputable def Ju (a:List DC):Out:=kj ju 147 ⟨.agg [.i .i64,.s,.s,.s,.sl 211,.sl 166,.sl 162] :: oi :: [],[]⟩ a
noncomputable def qC (a:List DC):Out:=kj ju 148 ⟨.agg [.i .i64,.s,.s,.s,.sl 211,.sl 166,.sl 162] :: oi :: [],[]⟩ a
noncomputable def Kg (a:List DC):Out:=kj ju 149 ⟨os :: [],[]⟩ a
noncomputable def j1a (a:List DC):Out:=kj ju 150 ⟨.agg [.s,.s,.s,.s,.b,.i .i64,.s,.sl 102,.sl 9,.sl 166] :: [],[]⟩ a
noncomputable def V7 (a:List DC):Out:=kj ju 151 ⟨.agg [.i .i64,.s,.sl 102,.sl 9] :: [],[]⟩ a
noncomputable def ZX (a:List DC):Out:=kj ju 152 ⟨os :: oi :: [],[]⟩ a
noncomputable def qj (a:List DC):Out:=kj ju 158 ⟨ol 115 :: .one (.fn 110 []) :: [],[]⟩ a
noncomputable def kM (a:List DC):Out:=kj ju 161 ⟨ol 166 :: .one (.fn 162 []) :: [],[]⟩ a
noncomputable def po (a:List DC):Out:=kj ju 164 ⟨.one (.ptr 0 0) :: .agg [.i .i64,.s,.s,.s,.sl 211,.sl 166,.sl 162] :: oi :: [],.var 224 [.i .i64] :: []⟩ a
noncomputable def Jz (a:List DC):Out:=kj ju 156 ⟨.one (.i .u8) :: [],[]⟩ a
noncomputable def j06 (a:List DC):Out:=kj ju 157 ⟨.one (.i .u8) :: [],[]⟩ a
noncomputable def kC (a:List DC):Out:=kj ju 165 ⟨ol 162 :: .one (.fn 166 []) :: [],[]⟩ a
noncomputable def yW (a:List DC):Out:=kj ju 168 ⟨ol 162 :: oi :: [],[]⟩ a
noncomputable def YL (a:List DC):Out:=kj ju 169 Vt a
noncomputable def QC (a:List DC):Out:=kj ju 170 Jn a
noncomputable def Kj (a:List DC):Out:=kj ju 171 ⟨.agg [.i .i64,.s,.sl 102,.sl 9] :: [],[]⟩ a
noncomputable def zd (a:List DC):Out:=kj ju 172 ⟨.agg [.i .i64,.s,.sl 102,.sl 9] :: [],[]⟩ a
noncomputable def JO (a:List DC):Out:=kj ju 163 ⟨ol 211 :: [],[]⟩ a
noncomputable def kv (a:List DC):Out:=kj ju 175 ⟨ol 93 :: .one (.fn 176 []) :: [],[]⟩ a
noncomputable def Yq (a:List DC):Out:=kj ju 178 ⟨ol 104 :: [],[]⟩ a
noncomputable def kw (a:List DC):Out:=kj ju 179 ⟨ol 96 :: .one (.fn 180 []) :: [],[]⟩ a
noncomputable def kD (a:List DC):Out:=kj ju 182 ⟨ol 98 :: .one (.fn 183 []) :: [],[]⟩ a
noncomputable def kW (a:List DC):Out:=kj ju 126 ⟨ol 9 :: .one (.fn 185 []) :: [],[]⟩ a
noncomputable def qM (a:List DC):Out:=kj ju 160 ⟨ol 166 :: [],[]⟩ a
noncomputable def qP (a:List DC):Out:=kj ju 186 ⟨ol 9 :: .one (.fn 127 []) :: [],[]⟩ a
noncomputable def j08 (a:List DC):Out:=kj ju 187 ⟨os :: [],[]⟩ a
noncomputable def Q1 (a:List DC):Out:=kj ju 188 ⟨os :: .one (.i .u8) :: [],[]⟩ a
noncomputable def Zr (a:List DC):Out:=kj ju 189 ⟨.agg [.s,.s,.s,.s,.b,.i .i64,.s,.sl 102,.sl 9,.sl 166] :: [],[]⟩ a
noncomputable def Vi (a:List DC):Out:=kj ju 177 ⟨.agg [.s,.s,.sl 104,.s,.s,.sl 166] :: [],[]⟩ a
noncomputable def Qe (a:List DC):Out:=kj ju 190 ⟨.agg [.s,.s] :: .agg [.s,.s] :: [],[]⟩ a
noncomputable def yB (a:List DC):Out:=kj ju 191 ⟨.agg [.i .i64,.s,.sl 102,.sl 9] :: .agg [.i .i64,.s,.sl 102,.sl 9] :: [],[]⟩ a
noncomputable def Qf (a:List DC):Out:=kj ju 192 ⟨ol 211 :: ol 211 :: [],[]⟩ a
noncomputable def XP (a:List DC):Out:=kj ju 193 ⟨ol 135 :: oi :: [],[]⟩ a
noncomputable def Ym (a:List DC):Out:=kj ju 194 ⟨.agg [.s,.i .i64,.s,.sl 135,.sl 9] :: oi :: [],[]⟩ a
noncomputable def XO (a:List DC):Out:=kj ju 200 ⟨ol 135 :: [],[]⟩ a
noncomputable def Yj (a:List DC):Out:=kj ju 201 ⟨.agg [.s,.i .i64,.s,.sl 135,.sl 9] :: [],[]⟩ a
noncomputable def V6 (a:List DC):Out:=kj ju 195 ⟨.agg [.i .i64,.s,.sl 102,.sl 9] :: [],[]⟩ a
noncomputable def Ky (a:List DC):Out:=kj ju 196 ⟨.agg [.i .i64,.s,.sl 102,.sl 9] :: .agg [.i .i64,.s,.sl 102,.sl 9] :: [],[]⟩ a
noncomputable def XK (a:List DC):Out:=kj ju 197 ⟨.agg [.i .i64,.s,.s,.s,.sl 211,.sl 166,.sl 162] :: [],[]⟩ a
noncomputable def Qm (a:List DC):Out:=kj ju 198 ⟨.agg [.i .i64,.s,.sl 102,.sl 9] :: [],[]⟩ a
noncomputable def yV (a:List DC):Out:=kj ju 199 ⟨oi :: [],[]⟩ a
noncomputable def Xj (a:List DC):Out:=kj ju 110 ⟨.agg [.s,.s,.s,.b,.i .i64,.s,.sl 102,.sl 9,.sl 166] :: [],[]⟩ a
noncomputable def qo (a:List DC):Out:=kj ju 208 ⟨ol 166 :: .one (.fn 162 []) :: [],[]⟩ a
noncomputable def XR (a:List DC):Out:=kj ju 202 ⟨.one (.i .u8) :: [],[]⟩ a
noncomputable def qc (a:List DC):Out:=kj ju 210 ⟨ol 162 :: .one (.fn 166 []) :: [],[]⟩ a
noncomputable def VT (a:List DC):Out:=kj ju 211 zY a
noncomputable def YQ (a:List DC):Out:=kj ju 212 ⟨.agg [.i .i64,.s,.s,.s,.sl 211,.sl 166,.sl 162] :: [],[]⟩ a
noncomputable def Ki (a:List DC):Out:=kj ju 221 ⟨.agg [.i .i64,.s,.sl 102,.sl 9] :: oi :: [],[]⟩ a
noncomputable def kN (a:List DC):Out:=kj ju 206 ⟨ol 211 :: .one (.fn 209 []) :: [],[]⟩ a
noncomputable def pz (a:List DC):Out:=kj ju 224 ⟨ol 93 :: .one (.fn 176 []) :: [],[]⟩ a
noncomputable def kI (a:List DC):Out:=kj ju 225 ⟨ol 104 :: .one (.fn 226 []) :: [],[]⟩ a
noncomputable def pF (a:List DC):Out:=kj ju 227 ⟨ol 96 :: .one (.fn 180 []) :: [],[]⟩ a
noncomputable def qd (a:List DC):Out:=kj ju 229 ⟨ol 98 :: .one (.fn 183 []) :: [],[]⟩ a
noncomputable def qE (a:List DC):Out:=kj ju 186 ⟨ol 9 :: .one (.fn 185 []) :: [],[]⟩ a
noncomputable def kf (a:List DC):Out:=kj ju 161 ⟨ol 166 :: .one (.fn 205 []) :: [],[]⟩ a
noncomputable def Vn (a:List DC):Out:=kj ju 127 ⟨os :: [],[]⟩ a
noncomputable def Ke (a:List DC):Out:=kj ju 230 qs a
noncomputable def zc (a:List DC):Out:=kj ju 231 ph a
noncomputable def KN (a:List DC):Out:=kj ju 159 ⟨ob :: .agg [.i .i64,.s,.sl 102,.sl 9] :: [],[]⟩ a
noncomputable def XQ (a:List DC):Out:=kj ju 232 ⟨ol 102 :: ol 102 :: [],[]⟩ a
noncomputable def Yp (a:List DC):Out:=kj ju 233 ⟨.agg [.s,.i .i64,.s,.sl 102,.sl 9] :: .agg [.s,.i .i64,.s,.sl 102,.sl 9] :: [],[]⟩ a
noncomputable def ya (a:List DC):Out:=kj ju 234 ⟨.agg [.i .i64,.s,.sl 102,.sl 9] :: oi :: [],[]⟩ a
noncomputable def VV (a:List DC):Out:=kj ju 235 ⟨oi :: [],[]⟩ a
noncomputable def XT (a:List DC):Out:=kj ju 111 ⟨.agg [.s,.s,.s,.b,.i .i64,.s,.sl 102,.sl 9,.sl 166] :: [],[]⟩ a
noncomputable def Qq (a:List DC):Out:=kj ju 162 ⟨.agg [.s,.sl 211] :: [],[]⟩ a
noncomputable def K4 (a:List DC):Out:=kj ju 166 ⟨.agg [.i .i64,.s,.s,.s,.sl 211,.sl 166,.sl 162] :: [],[]⟩ a
noncomputable def qr (a:List DC):Out:=kj ju 236 ⟨.agg [.i .i64,.s,.sl 102,.sl 9] :: [],[]⟩ a
noncomputable def Vm (a:List DC):Out:=kj ju 248 ⟨os :: [],[]⟩ a
noncomputable def YS (a:List DC):Out:=kj ju 249 ⟨os :: [],[]⟩ a
noncomputable def Xx (a:List DC):Out:=kj ju 228 ⟨os :: [],[]⟩ a
noncomputable def kV (a:List DC):Out:=kj ju 126 ⟨ol 9 :: .one (.fn 250 []) :: [],[]⟩ a
noncomputable def kA (a:List DC):Out:=kj ju 237 ⟨ol 102 :: .one (.fn 251 [0]) :: [],.var 3 [.i .i64] :: []⟩ a
noncomputable def qp (a:List DC):Out:=kj ju 239 ⟨ol 211 :: .one (.fn 209 []) :: [],[]⟩ a
noncomputable def KM (a:List DC):Out:=kj ju 176 ⟨.agg [.s,.s,.sl 104,.s,.s,.sl 166] :: [],[]⟩ a
noncomputable def qk (a:List DC):Out:=kj ju 252 ⟨ol 104 :: .one (.fn 226 []) :: [],[]⟩ a
noncomputable def KL (a:List DC):Out:=kj ju 180 ⟨.agg [.s,.s,.sl 166] :: [],[]⟩ a
noncomputable def KK (a:List DC):Out:=kj ju 183 ⟨.agg [.i .i64,.s] :: [],[]⟩ a
noncomputable def KJ (a:List DC):Out:=kj ju 185 ⟨os :: [],[]⟩ a
noncomputable def pX (a:List DC):Out:=kj ju 208 ⟨ol 166 :: .one (.fn 205 []) :: [],[]⟩ a
noncomputable def YR (a:List DC):Out:=kj ju 128 ⟨os :: [],[]⟩ a
noncomputable def Vj (a:List DC):Out:=kj ju 203 ⟨.agg [.i .i64,.s,.sl 102,.sl 9] :: [],[]⟩ a
noncomputable def Kk (a:List DC):Out:=kj ju 204 ⟨.agg [.i .i64,.s,.sl 102,.sl 9] :: [],[]⟩ a
noncomputable def ZV (a:List DC):Out:=kj ju 255 ⟨.agg [.i .i64,.s,.sl 102,.sl 9] :: [],[]⟩ a
noncomputable def j1g (a:List DC):Out:=kj ju 167 ⟨.agg [.i .i64,.s,.s,.s,.sl 211,.sl 166,.sl 162] :: [],[]⟩ a
noncomputable def Kf (a:List DC):Out:=kj ju 266 ⟨os :: os :: [],[]⟩ a
noncomputable def qX (a:List DC):Out:=kj ju 267 ⟨os :: [],[]⟩ a
noncomputable def QB (a:List DC):Out:=kj ju 268 Jm a
noncomputable def Xb (a:List DC):Out:=kj ju 269 ⟨os :: os :: [],[]⟩ a
noncomputable def qD (a:List DC):Out:=kj ju 186 ⟨ol 9 :: .one (.fn 250 []) :: [],[]⟩ a
noncomputable def pV (a:List DC):Out:=kj ju 256 ⟨ol 102 :: .one (.fn 251 [0]) :: [],.var 3 [.i .i64] :: []⟩ a
noncomputable def Qs (a:List DC):Out:=kj ju 209 ⟨.agg [.s,.i .i64,.s,.sl 102,.sl 9] :: [],[]⟩ a
noncomputable def Vh (a:List DC):Out:=kj ju 226 ⟨.agg [.s,.s,.s,.s,.b,.i .i64,.s,.sl 102,.sl 9,.sl 166] :: [],[]⟩ a
noncomputable def j07 (a:List DC):Out:=kj ju 181 ⟨.agg [.s,.s,.sl 166] :: [],[]⟩ a
noncomputable def j05 (a:List DC):Out:=kj ju 184 ⟨.agg [.i .i64,.s] :: [],[]⟩ a
noncomputable def Ji (a:List DC):Out:=kj ju 205 ⟨.agg [.s,.sl 211] :: [],[]⟩ a
noncomputable def kr (a:List DC):Out:=kj ju 237 ⟨ol 102 :: .one (.fn 238 []) :: [],[]⟩ a
noncomputable def j1b (a:List DC):Out:=kj ju 270 ⟨os :: [],[]⟩ a
noncomputable def YO (a:List DC):Out:=kj ju 271 ⟨os :: [],[]⟩ a
noncomputable def yM (a:List DC):Out:=kj ju 274 ⟨os :: os :: [],[]⟩ a
noncomputable def Kh (a:List DC):Out:=kj ju 276 qt a
noncomputable def VX (a:List DC):Out:=kj ju 250 ⟨os :: [],[]⟩ a
noncomputable def VW (a:List DC):Out:=kj ju 251 ⟨.agg [.i .i64,.s,.sl 102,.sl 9] :: .one (.ptr 0 0) :: [],.var 3 [.i .i64] :: []⟩ a
noncomputable def ko (a:List DC):Out:=kj ju 206 ⟨ol 211 :: .one (.fn 207 []) :: [],[]⟩ a
noncomputable def pW (a:List DC):Out:=kj ju 256 ⟨ol 102 :: .one (.fn 238 []) :: [],[]⟩ a
noncomputable def Xe (a:List DC):Out:=kj ju 277 ⟨os :: [],[]⟩ a
noncomputable def qS (a:List DC):Out:=kj ju 278 ⟨os :: oi :: [],[]⟩ a
noncomputable def qq (a:List DC):Out:=kj ju 259 ⟨os :: os :: [],[]⟩ a
noncomputable def pG (a:List DC):Out:=kj ju 239 ⟨ol 211 :: .one (.fn 207 []) :: [],[]⟩ a
noncomputable def KP (a:List DC):Out:=kj ju 238 ⟨.agg [.i .i64,.s,.sl 102,.sl 9] :: [],[]⟩ a
noncomputable def ze (a:List DC):Out:=kj ju 207 ⟨.agg [.s,.i .i64,.s,.sl 102,.sl 9] :: [],[]⟩ a
end Go.Proofs.QV
