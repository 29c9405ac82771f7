import Derived.Test.YtgkcnpfldkjnbaaGreatMD9
import Derived.Shelf.Small.Strs
import Derived.Shelf.Lays
import Derived.Test.YtgkcnpfldkjnbaaGreatMD8
import Derived.Test.YtgkcnpfldkjnbaaGreatProg
import Derived.Test.YtgkcnpfldkjnbaaGreatMD7
import Derived.Test.YtgkcnpfldkjnbaaGreatMD6
import Derived.Test.YtgkcnpfldkjnbaaGreatMD5
/- What SortDefs compares by: the names' bytes (printed by w9.py; a template: 22 the closure). -/
namespace Go.Proofs
open Go.Shelf Go.RowKit Go.Lib Go.Sort
open _root_.Option.some renaming injEq → j8
open _root_.Prod.mk renaming injEq → j9
open _root_.List renaming length_cons → jl, map_cons → jn, length_append → jA, nil_append → ju, length_nil → jk, append_nil → jC, append_assoc → jq
open _root_.Nat renaming lt_or_ge → jp
set_option linter.unusedVariables false
def Tryz.lays106_ren:Go.Shelf.Ren:=⟨fun | 106=>23 | 213=>62 | 265=>100 | n=>n,fun | 9=>9 | 3=>3 | n=>n,fun | n=>n⟩
theorem Tryz.lays106:Go.Proofs.Lays.n106 Tryz.prog Tryz.lays106_ren:={
 mixed:=by kernel_rfl,
 f106:=Tryz.func23.trans (congrArg some (by kernel_rfl)),
 f213:=Tryz.func62.trans (congrArg some (by kernel_rfl)),
 f265:=Tryz.func100.trans (congrArg some (by kernel_rfl)),
 t3:=Tryz.underlying3,
 a3:=Tryz.isAgg3,
 z3:=Tryz.sizeOf3,
 v3:=Tryz.zeroValue3,
 t9:=Tryz.underlying9,
 a9:=Tryz.isAgg9,
 z9:=Tryz.sizeOf9,
 v9:=Tryz.zeroValue9 }
set_option maxHeartbeats 4000000 in
set_option maxRecDepth 1000000 in
theorem QV.cmpDef_calls (x0 x1 x2 x4 x5 x6 x7 x8 x9 x10 y0 y1 y2 y4 y5 y6 y7 y8 y9 y10:Value) (ax ay:ByteArray) (hx0:x0.oneCell'=true) (hx1:x1.oneCell'=true) (hx2:x2.oneCell'=true) (hx4:x4.oneCell'=true) (hx5:x5.oneCell'=true) (hx6:x6.oneCell'=true) (hx7:x7.oneCell'=true) (hx8:x8.oneCell'=true) (hx9:x9.oneCell'=true) (hx10:x10.oneCell'=true) (hy0:y0.oneCell'=true) (hy1:y1.oneCell'=true) (hy2:y2.oneCell'=true) (hy4:y4.oneCell'=true) (hy5:y5.oneCell'=true) (hy6:y6.oneCell'=true) (hy7:y7.oneCell'=true) (hy8:y8.oneCell'=true) (hy9:y9.oneCell'=true) (hy10:y10.oneCell'=true) (w:World) :
  Calls Tryz.prog 22 #[.agg #[x0,x1,x2,.string ax,x4,x5,x6,x7,x8,x9,x10],.agg #[y0,y1,y2,.string ay,y4,y5,y6,y7,y8,y9,y10]] w fun e w'=>e = .returned (.int .i64 (Lib.compareBytes ax.data.toList ay.data.toList)) ∧ ∃ q os',w'=grow (w.drewN q) os':=by
 have mixed:Tryz.prog.follows .mixedOrders=true:=by kernel_rfl
 have t0:=Tryz.underlying0; have a0:=Tryz.isAgg0; have z0:=Tryz.sizeOf0; have v0:=Tryz.zeroValue0; have t3:=Tryz.underlying3; have a3:=Tryz.isAgg3; have z3:=Tryz.sizeOf3; have v3:=Tryz.zeroValue3; have t9:=Tryz.underlying9; have a9:=Tryz.isAgg9; have z9:=Tryz.sizeOf9; have v9:=Tryz.zeroValue9; have t50:=Tryz.underlying50; have a50:=Tryz.isAgg50; have z50:=Tryz.sizeOf50; have v50:=Tryz.zeroValue50
 have hcon:=fun W'=>Any.strings_Compare Tryz.lays106 ax ay W'
 change ∀ W',Calls Tryz.prog 23 _ _ _ at hcon
 have E23:∀ args w,(callFunc 23 args).run Tryz.prog w = .ok (.enter 23 args) w:=enters_of Tryz.func23 (by kernel_rfl) rfl
 have FG:=Tryz.func22
 have FN:Tryz.f22.ntmps=10:=rfl
 generalize Lib.compareBytes ax.data.toList ay.data.toList=r at hcon ⊢
 go_enter FG,FN
 go_wp2_with (go_at_fn 23; refine (hcon _).mono ?_; rintro e w' ⟨rfl,rfl⟩)
 go_ret
 exact ⟨rfl,0,_,by rw [alloc_eq_grow,alloc_eq_grow,grow_grow]; rfl⟩
end Go.Proofs

namespace Go.Proofs.QV
open Go Go.Sort Go.Lib
open _root_.Option.some renaming injEq → j8
open _root_.Prod.mk renaming injEq → j9
open _root_.List renaming length_cons → jl, map_cons → jn, length_append → jA, nil_append → ju, length_nil → jk, append_nil → jC, append_assoc → jq
open _root_.Nat renaming lt_or_ge → jp
open Out renaming andThenB → ja, andThen → jy
set_option maxRecDepth 100000
def j6G:List CT:=[.i .i64,.b,.s,.s,.sl 9,.sl 97,.sl 102,.sl 105,.sl 68,.b,.sl 108]
theorem j9B {ty:Nat → Option TI} {w:World} {x:List DC} {v:List Value} {F:List Nat} (h:RdL ty w j6G x v F):v[3]? = some (.string ⟨(nmD 3 x).toArray⟩):=by
 unfold j6G at h
 cases h with
 | cons _ _ _ _ _ _ _ _ _ h =>
 cases h with
 | cons _ _ _ _ _ _ _ _ _ h =>
 cases h with
 | cons _ _ _ _ _ _ _ _ _ h =>
 cases h with
 | cons _ _ _ _ _ _ _ _ h3 h =>
 cases h3 with
 | s l=>rfl
theorem j8A {ty:Nat → Option TI} {w:World} (blk size:Nat):CmpLays Tryz.prog 22 #[] (El.v (ty:=ty) (w:=w) (cts:=j6G)) 11 (fun x y=>compareBytes (nmD 3 x.d) (nmD 3 y.d)) blk 0 size w:=by
 intro m os dk _ x y
 have hx:=j9B x.rd
 have hy:=j9B y.rd
 have lx:=(RdL.length x.rd).1
 have ly:=(RdL.length y.rd).1
 have ox:=RdL.one x.rd
 have oy:=RdL.one y.rd
 generalize x.v=u at *
 generalize y.v=t at *
 generalize sortWorldK (El.v (ty:=ty) (w:=w) (cts:=j6G)) 11 w blk 0 m dk os=W
 match u,lx with
 | [x0,x1,x2,x3,x4,x5,x6,x7,x8,x9,x10],_ =>
 match t,ly with
 | [y0,y1,y2,y3,y4,y5,y6,y7,y8,y9,y10],_ =>
 obtain rfl:x3=_:=Option.some.inj hx
 obtain rfl:y3=_:=Option.some.inj hy
 exact cmpDef_calls x0 x1 x2 x4 x5 x6 x7 x8 x9 x10 y0 y1 y2 y4 y5 y6 y7 y8 y9 y10 _ _ (ox _ (by simp)) (ox _ (by simp)) (ox _ (by simp)) (ox _ (by simp)) (ox _ (by simp)) (ox _ (by simp)) (ox _ (by simp)) (ox _ (by simp)) (ox _ (by simp)) (ox _ (by simp)) (oy _ (by simp)) (oy _ (by simp)) (oy _ (by simp)) (oy _ (by simp)) (oy _ (by simp)) (oy _ (by simp)) (oy _ (by simp)) (oy _ (by simp)) (oy _ (by simp)) (oy _ (by simp)) W
theorem jav {G:Glob} {ty:Nat → Option TI} (hty:∀ te,ty 50=some te → te.cts=j6G):j6Q Tryz.prog G ty 21 (j94 50 22 3) :=
 j9Y hty (fun w blk cap d hH hb hs=>by
  simp only [kC] at hs
  exact sortStable_calls 11 Tryz.isAgg50 Tryz.sizeOf50 El.v (fun x y=>compareBytes (nmD 3 x.d) (nmD 3 y.d)) 22 #[] blk 0 cap d w (enters_of Tryz.func22 (by kernel_rfl) rfl) (j8A blk d.size)
   ⟨fun x=>(RdL.length x.rd).1,fun x=>RdL.one x.rd,hH,hb⟩ (j7d fun x:El ty w j6G=>nmD 3 x.d) (by omega))
  (fun fv w=>sortStableNil_calls fv w)
theorem j9z {ty:Nat → Option TI} {w:World} {x:List DC} {v:List Value} {F:List Nat} (h:RdL ty w [.i .i64,.s] x v F):∃ s:Value,v=[.int .i64 (nmI 0 x),s] ∧ s.oneCell'=true:=by
 cases h with
 | cons _ _ _ _ _ _ _ _ h1 h =>
 cases h1 with
 | i k n =>
 cases h with
 | cons _ _ _ _ v2 _ _ _ h2 h =>
 cases h with
 | nil=>exact ⟨v2,rfl,h2.one⟩
theorem j6J {ty:Nat → Option TI} {w:World} (blk size:Nat):CmpLays Tryz.prog 77 #[] (ElI.v (ty:=ty) (w:=w) (cts:=[.i .i64,.s]) (j:=0)) 2 (fun x y=>ElI.n x - ElI.n y) blk 0 size w:=by
 intro m os dk _ x y
 obtain ⟨s,e1,o1⟩:=j9z x.1.rd
 obtain ⟨t,e2,o2⟩:=j9z y.1.rd
 have hx:=j9D x.2
 have hy:=j9D y.2
 have f1:ElI.v x=[.int .i64 (nmI 0 x.1.d),s]:=e1
 have f2:ElI.v y=[.int .i64 (nmI 0 y.1.d),t]:=e2
 rw [f1,f2]
 have h:=cmpRoot_calls s t (nmI 0 x.1.d) (nmI 0 y.1.d) o1 o2 hx.1 hx.2 hy.1 hy.2 (sortWorldK (ElI.v (ty:=ty) (w:=w) (cts:=[.i .i64,.s]) (j:=0)) 2 w blk 0 m dk os)
 rw [Array.append_empty]
 exact h
theorem jaw {G:Glob} {ty:Nat → Option TI} (hty:∀ te,ty 68=some te → te.cts=[.i .i64,.s]):j6Q Tryz.prog G ty 76 (j95 68 77 0) :=
 j9X hty (fun w blk cap d hH hb hs=>by
  simp only [kC] at hs
  exact sortStableR_calls 2 Tryz.isAgg68 Tryz.sizeOf68 ElI.v (fun x y=>ElI.n x - ElI.n y) 77 #[] blk 0 cap d w (enters_of Tryz.func77 (by kernel_rfl) rfl) (j6J blk d.size)
   ⟨fun x=>(RdL.length x.1.rd).1,fun x=>RdL.one x.1.rd,hH,hb⟩ (j9V fun x:ElI ty w [.i .i64,.s] 0=>ElI.n x) (by omega))
  (fun fv w=>sortStableNilR_calls fv w)
set_option linter.unusedSimpArgs false
def JH (T:Int → Option (List UInt8)) (rec:Nat → List (List DC) → Int → Option (List (List DC) × Int)):MA → List DC × Int × Int → Option (List DC × Int × Int)
 | .txt off,(x,k,r) =>
  match T k with
  | some s=>some (x.set off (.s s),k,r)
  | none=>none
 | .bool off,(x,k,r)=>some (x.set off (.b (k % 3 == 0)),k,r)
 | .int off,(x,k,r)=>some (x.set off (.i k),k,r)
 | .sub off f,(x,k,r) =>
  match rec f (x.getD off d0).ll k with
  | some (l',k')=>some (x.set off (.sl l'),k,k')
  | none=>none
 | .inc,(x,k,r)=>if k + 1 < 4611686018427387904 then some (x,k + 1,r) else none
 | .upd,(x,k,r)=>if 0 ≤ r ∧ r < 4611686018427387904 then some (x,r,r) else none
def kY (T:Int → Option (List UInt8)) (rec:Nat → List (List DC) → Int → Option (List (List DC) × Int)):List MA → List DC × Int × Int → Option (List DC × Int × Int)
 | [],p=>some p
 | m :: ms,p =>
  match JH T rec m p with
  | some q=>kY T rec ms q
  | none=>none
section
variable {T:Int → Option (List UInt8)} {rec:Nat → List (List DC) → Int → Option (List (List DC) × Int)} {tab:Nat → Option (List MA)}
theorem Xy {l:List (List DC)} {i:Nat} {x:List DC} (h:i < l.length):(l.set i x).getD i []=x:=by
 rw [List.getD_eq_getElem?_getD,List.getElem?_set,if_pos rfl,if_pos h]
 rfl
theorem j6F {i:Nat} {m:MA} {l:List (List DC)} {x x':List DC} {k k' r r':Int} (hi:i < l.length) (h:JH T rec m (x,k,r)=some (x',k',r')):zz T rec i m ⟨l.set i x,k,r⟩=some ⟨l.set i x',k',r'⟩:=by
 have hx:∀ (off:Nat) (d:DC),j1y (l.set i x) i off d=l.set i (x.set off d):=fun off d=>by
  unfold j1y
  rw [Xy hi,List.set_set]
 cases m with
 | txt off =>
  simp only [JH] at h
  simp only [zz]
  split at h
  ·rename_i s hs
   simp only [j8,j9] at h
   obtain ⟨rfl,rfl,rfl⟩:=h
   try rw [hs]
   simp only [hx]
  ·simp at h
 | bool off =>
  simp only [JH,j8,j9] at h
  obtain ⟨rfl,rfl,rfl⟩:=h
  simp only [zz,hx]
 | int off =>
  simp only [JH,j8,j9] at h
  obtain ⟨rfl,rfl,rfl⟩:=h
  simp only [zz,hx]
 | sub off f =>
  simp only [JH] at h
  simp only [zz]
  rw [Xy hi]
  split at h
  ·rename_i l' k1 hs
   simp only [j8,j9] at h
   obtain ⟨rfl,rfl,rfl⟩:=h
   try rw [hs]
   simp only [hx]
  ·simp at h
 | inc =>
  simp only [JH] at h
  simp only [zz]
  split at h
  ·rename_i hb
   simp only [j8,j9] at h
   obtain ⟨rfl,rfl,rfl⟩:=h
   rw [if_pos hb]
  ·simp at h
 | upd =>
  simp only [JH] at h
  simp only [zz]
  split at h
  ·rename_i hb
   simp only [j8,j9] at h
   obtain ⟨rfl,rfl,rfl⟩:=h
   rw [if_pos hb]
  ·simp at h
theorem j1q {i:Nat} {l:List (List DC)} (hi:i < l.length):∀ {ms:List MA} {x x':List DC} {k k' r r':Int},kY T rec ms (x,k,r)=some (x',k',r') → pj T rec i ms ⟨l.set i x,k,r⟩=some ⟨l.set i x',k',r'⟩
 | [],x,x',k,k',r,r',h=>by
  simp only [kY,j8,j9] at h
  obtain ⟨rfl,rfl,rfl⟩:=h
  rfl
 | m :: ms,x,x',k,k',r,r',h=>by
  rw [kY] at h
  rw [pj]
  split at h
  ·rename_i q hq
   obtain ⟨x1,k1,r1⟩:=q
   rw [j6F hi hq]
   exact j1q hi h
  ·simp at h
inductive Chain {α:Type} (R:α → Int → α → Int → Prop):List α → Int → List α → Int → Prop
 | nil (k:Int):Chain R [] k [] k
 | cons {x x':α} {xs xs':List α} {k k1 k':Int}:R x k x' k1 → Chain R xs k1 xs' k' → Chain R (x :: xs) k (x' :: xs') k'
theorem Chain.len {α:Type} {R:α → Int → α → Int → Prop} {vs vs':List α} {k k':Int} (h:Chain R vs k vs' k'):vs'.length=vs.length:=by
 induction h with
 | nil=>rfl
 | cons _ _ ih=>simp [ih]
theorem Chain.mono {α:Type} {R S:α → Int → α → Int → Prop} (hRS:∀ x k x' k',R x k x' k' → S x k x' k') {vs vs':List α} {k k':Int} (h:Chain R vs k vs' k'):Chain S vs k vs' k':=by
 induction h with
 | nil k=>exact .nil k
 | cons h1 _ ih=>exact .cons (hRS _ _ _ _ h1) ih
def kT {α:Type} (T:Int → Option (List UInt8)) (tab:Nat → Option (List MA)) (ms:List MA) (enc:α → List DC) (x:α) (k:Int) (x':α) (k':Int):Prop :=
 ∃ n,∀ m,n ≤ m → ∀ r,∃ r',kY T (mkF T tab m) ms (enc x,k,r)=some (enc x',k',r')
theorem j59 {α:Type} {ms:List MA} {enc:α → List DC} {vs vs':List α} {k k':Int} (h:Chain (kT T tab ms enc) vs k vs' k'):∃ n,∀ m,n ≤ m → ∀ (pre:List (List DC)) (r:Int),∃ r',
  KB T (mkF T tab m) ms vs.length pre.length ⟨pre ++ vs.map enc,k,r⟩=some ⟨pre ++ vs'.map enc,k',r'⟩:=by
 induction h with
 | nil k=>exact ⟨0,fun m _ pre r=>⟨r,rfl⟩⟩
 | cons h1 h2 ih =>
  rename_i x x' xs xs' k k1 k'
  obtain ⟨n1,h1⟩:=h1
  obtain ⟨n2,h2⟩:=ih
  refine ⟨max n1 n2,fun m hm pre r=>?_⟩
  obtain ⟨r1,e1⟩:=h1 m (by omega) r
  obtain ⟨r2,e2⟩:=h2 m (by omega) (pre ++ [enc x']) r1
  refine ⟨r2,?_⟩
  have hi:pre.length < (pre ++ enc x :: xs.map enc).length:=by simp
  have hset:∀ y,(pre ++ enc x :: xs.map enc).set pre.length y=pre ++ y :: xs.map enc:=fun y=>by
   rw [List.set_append_right _ _ (Nat.le_refl _),Nat.sub_self]
   rfl
  have e3:=j1q (i:=pre.length) hi e1
  rw [hset,hset] at e3
  rw [jl,jn,KB,e3]
  rw [jA] at e2
  simpa using e2
def Mk (T:Int → Option (List UInt8)) (tab:Nat → Option (List MA)) (f:Nat) (l:List (List DC)) (k:Int) (l':List (List DC)) (k':Int):Prop:=∃ n,mkF T tab n f l k=some (l',k')
theorem j5s {α:Type} {ms:List MA} {enc:α → List DC} {vs vs':List α} {k k':Int} {f:Nat} (hf:tab f=some ms) (hl:vs.length < 4611686018427387904) (h0:0 ≤ k) (hk:k < 4611686018427387904) (h:Chain (kT T tab ms enc) vs k vs' k') :
  Mk T tab f (vs.map enc) k (vs'.map enc) k':=by
 obtain ⟨n,hn⟩:=j59 h
 obtain ⟨r,e⟩:=hn n (Nat.le_refl _) [] 0
 refine ⟨n + 1,?_⟩
 rw [mkF,hf]
 dsimp only
 unfold j4g
 rw [if_pos ⟨by simpa using hl,h0,hk⟩,List.length_map]
 simp only [ju,jk] at e
 rw [e]
theorem j1r {α:Type} {R:α → Int → α → Int → Prop} {enc:α → List DC}:∀ (vs:List α),(∀ x ∈ vs,∀ k:Int,0 ≤ k → k + 30 * ((1 + jP (enc x):Nat):Int) < 4611686018427387904 → ∃ x' k',R x k x' k' ∧ k ≤ k' ∧ k' ≤ k + 30 * ((1 + jP (enc x):Nat):Int)) →
  ∀ k:Int,0 ≤ k → k + 30 * ((DC.wt (.sl (vs.map enc)):Nat):Int) < 4611686018427387904 → ∃ vs' k',Chain R vs k vs' k' ∧ k ≤ k' ∧ k' ≤ k + 30 * ((DC.wt (.sl (vs.map enc)):Nat):Int)
 | [],_,k,h0,hk=>⟨[],k,.nil k,by omega,by omega⟩
 | x :: vs,hs,k,h0,hk=>by
  have hw:DC.wt (.sl ((x :: vs).map enc))=(1 + jP (enc x)) + DC.wt (.sl (vs.map enc)):=by
   simp only [DC.wt,jn,jl,List.length_map,wtV]
   omega
  rw [hw] at hk ⊢
  obtain ⟨x',k1,e1,e2,e3⟩:=hs x (by simp) k h0 (by omega)
  obtain ⟨vs',k2,c1,c2,c3⟩:=j1r vs (fun y hy=>hs y (by simp [hy])) k1 (by omega) (by omega)
  exact ⟨x' :: vs',k2,.cons e1 c1,by omega,by omega⟩
theorem zM {α:Type} {ms:List MA} {enc:α → List DC} {Q:Int → α → Int → Prop} {f:Nat} (hf:tab f=some ms) (vs:List α)
  (hs:∀ x ∈ vs,∀ k:Int,0 ≤ k → k + 30 * ((1 + jP (enc x):Nat):Int) < 4611686018427387904 → ∃ x' k',(kT T tab ms enc x k x' k' ∧ Q k x' k') ∧ k ≤ k' ∧ k' ≤ k + 30 * ((1 + jP (enc x):Nat):Int))
  {k:Int} (h0:0 ≤ k) (hk:k + 30 * ((DC.wt (.sl (vs.map enc)):Nat):Int) < 4611686018427387904) :
  ∃ vs' k',Mk T tab f (vs.map enc) k (vs'.map enc) k' ∧ k ≤ k' ∧ k' ≤ k + 30 * ((DC.wt (.sl (vs.map enc)):Nat):Int) ∧ Chain (fun _ k x' k'=>Q k x' k') vs k vs' k':=by
 obtain ⟨vs',k',c,b1,b2⟩:=j1r (R:=fun x k x' k'=>kT T tab ms enc x k x' k' ∧ Q k x' k') vs hs k h0 hk
 have hl:vs.length ≤ DC.wt (.sl (vs.map enc)):=by simp [DC.wt]
 exact ⟨vs',k',j5s hf (by omega) h0 (by omega) (c.mono fun _ _ _ _ h=>h.1),b1,b2,c.mono fun _ _ _ _ h=>h.2⟩
theorem yI {α:Type} {enc:α → List DC} {F:List DC → Out} {vs vs':List α} {k k':Int}
  (h:Chain (fun _ k x' k'=>∀ (l:List (List DC)) (i:Nat),i < l.length → l.length ≤ 9223372036854775807 → l.getD i []=enc x' → F [.sl l,.i k,.i (i:Int)] = .norm [.sl l,.i k',.i ((i + 1:Nat):Int)]) vs k vs' k')
  (hend:∀ (l:List (List DC)) (k:Int),F [.sl l,.i k,.i (l.length:Int)] = .ex 0 [.i k]) :
  ∀ (pre:List (List DC)),pre.length + vs'.length ≤ 9223372036854775807 → jK F [.sl (pre ++ vs'.map enc),.i k,.i (pre.length:Int)] = .ex 0 [.i k']:=by
 induction h with
 | nil k=>intro pre _; rw [List.map_nil,jC]; exact kH (hend pre k)
 | cons h1 h2 ih =>
  rename_i x x' xs xs' k k1 k'
  intro pre hp
  rw [jO (h1 (pre ++ (x' :: xs').map enc) pre.length (by simp) (by simpa using hp) (by rw [jn,List.getD_eq_getElem?_getD,List.getElem?_append_right (Nat.le_refl _),Nat.sub_self]; rfl))]
  have:=ih (pre ++ [enc x']) (by simp only [jA,jl,jk] at hp ⊢; omega)
  rw [jA] at this
  simpa using this
theorem jR {off:Nat} {ms:List MA} {x:List DC} {k r:Int} {s:List UInt8} {o:Option (List DC × Int × Int)} (h:T k=some s) (h2:kY T rec ms (x.set off (.s s),k,r)=o):kY T rec (.txt off :: ms) (x,k,r)=o:=by
 simp only [kY,JH,h]
 exact h2
theorem QO {off:Nat} {ms:List MA} {x:List DC} {k r:Int} {o:Option (List DC × Int × Int)} (h2:kY T rec ms (x.set off (.b (k % 3 == 0)),k,r)=o):kY T rec (.bool off :: ms) (x,k,r)=o:=h2
theorem JB {off:Nat} {ms:List MA} {x:List DC} {k r:Int} {o:Option (List DC × Int × Int)} (h2:kY T rec ms (x.set off (.i k),k,r)=o):kY T rec (.int off :: ms) (x,k,r)=o:=h2
theorem jH {ms:List MA} {x:List DC} {k r:Int} {o:Option (List DC × Int × Int)} (h:k + 1 < 4611686018427387904) (h2:kY T rec ms (x,k + 1,r)=o):kY T rec (.inc :: ms) (x,k,r)=o:=by
 simp only [kY,JH,if_pos h]
 exact h2
theorem jZ {ms:List MA} {x:List DC} {k r:Int} {o:Option (List DC × Int × Int)} (h:0 ≤ r ∧ r < 4611686018427387904) (h2:kY T rec ms (x,r,r)=o):kY T rec (.upd :: ms) (x,k,r)=o:=by
 simp only [kY,JH,if_pos h]
 exact h2
theorem ka {off f:Nat} {ms:List MA} {x:List DC} {k r k':Int} {l l':List (List DC)} {o:Option (List DC × Int × Int)} (hl:(x.getD off d0).ll=l) (h:rec f l k=some (l',k')) (h2:kY T rec ms (x.set off (.sl l'),k,k')=o):kY T rec (.sub off f :: ms) (x,k,r)=o:=by
 simp only [kY,JH,hl,h]
 exact h2
theorem Mk.at {f:Nat} {l l':List (List DC)} {k k':Int} (h:Mk T tab f l k l' k'):mkV T tab f [l] k=some ([l'],k'):=j99 h.choose_spec
end
def jai (o:Oper):Option (Nat × Nat × Nat × Nat) :=
 match o.op,o.dst,o.guard with
 | .fieldAddr t (.tmp s) j,some d,none=>some (t,s,j,d)
 | _,_,_=>none
def jah (o:Oper):Option (Nat × Nat × Nat) :=
 match o.op,o.dst,o.guard with
 | .load t (.tmp s),some d,none=>some (t,s,d)
 | _,_,_=>none
def j6P (o:Oper):Option (Nat × Nat) :=
 match o.op,o.dst,o.guard with
 | .move (.tmp s),some d,none=>some (s,d)
 | .assign (.tmp s),some d,none=>some (s,d)
 | _,_,_=>none
def jak (o:Oper):Option (Nat × Nat × Nat × Nat) :=
 match o.op,o.dst,o.guard with
 | .call cc,some d,none =>
  match cc.callee,cc.args.toList with
  | .value (.func f),[.tmp x,.tmp y]=>some (f,x,y,d)
  | _,_=>none
 | _,_,_=>none
def jal (o:Oper):Option (Nat × Nat) :=
 match o.op,o.dst,o.guard with
 | .box t (.tmp 0),some d,none=>some (t,d)
 | _,_,_=>none
def jaj (o:Oper):Option Nat :=
 match o.op,o.dst,o.guard with
 | .assign (.const _),some d,none=>some d
 | _,_,_=>none
def j4V (ty:Nat → Option TI) (mt:Nat → Option Nat) (tb b m:Nat) (ops:List Oper):Option ((Nat × Nat) × Nat) :=
 match ops with
 | [o1,o2,o3,o4,o5] =>
  match jai o1,jah o2,j6P o3,jak o4,j6P o5 with
  | some (t1,s1,j,d1),some (t2,s2,d2),some (s3,d3),some (f,x,y,d4),some (s5,d5) =>
   match ty t1,ty t2,mt f with
   | some ti1,some ti2,some e =>
    match ti1.flds[j]? with
    | some (off,n,_) =>
     if 0 < n ∧ jL (some ti1)=true ∧ jL (some ti2)=false ∧ s1=b ∧ s2=d1 ∧ s3=1 ∧ x=d2 ∧ y=d3 ∧ s5=d4 ∧ d5=1 ∧ b < d1 ∧ b < d2 ∧ b < d3 ∧ b < d4 ∧ d1 < m ∧ d2 < m ∧ d3 < m ∧ d4 < m ∧ d2 ≠ d3 then some ((off,e),f) else none
    | none=>none
   | _,_,_=>none
  | _,_,_,_,_=>none
 | _=>none
def j5D (m rT:Nat) (ops:List Oper):Bool :=
 match ops with
 | [o1,o2] =>
  match j6P o1,j6P o2 with
  | some (s1,d1),some (s2,d2)=>decide (s1=1 ∧ s2=d1 ∧ d2=rT ∧ d1 < m ∧ rT < m)
  | _,_=>false
 | _=>false
def yN (ty:Nat → Option TI) (mt:Nat → Option Nat) (tb b m rT:Nat):Code → Option (List ((Nat × Nat) × Nat))
 | .seq (.region _ ops false) .ret=>if j5D m rT ops.toList=true then some [] else none
 | .seq (.region _ ops false) rest =>
  match j4V ty mt tb b m ops.toList,yN ty mt tb b m rT rest with
  | some p,some l=>some (p :: l)
  | _,_=>none
 | _=>none
def j4K (ty:Nat → Option TI) (mt:Nat → Option Nat) (fd:Func):Option (List ((Nat × Nat) × Nat)) :=
 match fd.body with
 | some (.seq (.region _ r0 false) rest) =>
  match r0.toList,fd.results.toList with
  | [o1,o2],[.tmp rT] =>
   match jal o1,jaj o2 with
   | some (t,b),some d=>if 1 < b ∧ 1 < d ∧ b < fd.ntmps ∧ d ≠ b then yN ty mt t b fd.ntmps rT rest else none
   | _,_=>none
  | _,_=>none
 | _=>none
def mkA (T:Int → Option (List UInt8)) (tab:Nat → Option (List MA)) (n:Nat):List Nat → List (List (List DC)) → Int → Option (List (List (List DC)) × Int)
 | [],[],k=>some ([],k)
 | f :: fs,l :: ls,k =>
  match mkF T tab n f l k with
  | some (l',k') =>
   match mkA T tab n fs ls k' with
   | some (ls',k'')=>some (l' :: ls',k'')
   | none=>none
  | none=>none
 | _,_,_=>none
section
variable {P:Program} {T:Int → Option (List UInt8)} {tab:Nat → Option (List MA)} {mt:Nat → Option Nat} {tf:Nat} {ty:Nat → Option TI} {a:Act} {w:World} {o:Oper} {Q:Exit → Act → World → Prop}
theorem qo {d:Nat} {u:Value} (h:d < a.tmps.size):(a.put (some d) u).eval (.tmp d)=u:=by
 show (a.tmps.setIfInBounds d u).getD d undef=u
 rw [Array.getD_eq_getD_getElem?,Array.getElem?_setIfInBounds_self_of_lt h]
 rfl
theorem p6 {d e:Nat} {u:Value} (h:d ≠ e):(a.put (some d) u).eval (.tmp e)=a.eval (.tmp e):=by
 show (a.tmps.setIfInBounds d u).getD e undef=a.tmps.getD e undef
 rw [Array.getD_eq_getD_getElem?,Array.getD_eq_getD_getElem?,Array.getElem?_setIfInBounds_ne h]
theorem Ku {d:Option Tmp} {u:Value}:(a.put d u).tmps.size=a.tmps.size:=by cases d <;> simp [Act.put]
theorem QS {d:Option Tmp} {u:Value}:(a.put d u).defers=a.defers:=by cases d <;> rfl
theorem j0p {s d:Nat} (h:j6P o=some (s,d)) {N:Act → World → Prop} (hn:N (a.put (some d) (a.eval (.tmp s))) w):o.guard=none ∧ o.wp P a w N Q:=by
 unfold j6P at h
 split at h
 ·rename_i s' d' h1 h2 h3
  simp only [j8,j9] at h
  obtain ⟨rfl,rfl⟩:=h
  exact ⟨h3,jE (v:=a.eval (.tmp s')) (w':=w) (by simp [execOp,h1]) (by rw [h2]; exact hn)⟩
 ·rename_i s' d' h1 h2 h3
  simp only [j8,j9] at h
  obtain ⟨rfl,rfl⟩:=h
  exact ⟨h3,jE (v:=a.eval (.tmp s')) (w':=w) (by simp [execOp,h1]) (by rw [h2]; exact hn)⟩
 ·simp at h
theorem j9s {d:Nat} (h:jaj o=some d) {N:Act → World → Prop} (hn:∀ u,N (a.put (some d) u) w):o.guard=none ∧ o.wp P a w N Q:=by
 unfold jaj at h
 split at h
 ·rename_i v d' h1 h2 h3
  simp only [j8] at h
  subst h
  exact ⟨h3,jE (v:=a.eval (.const v)) (w':=w) (by simp [execOp,h1]) (by rw [h2]; exact hn _)⟩
 ·simp at h
theorem j9w {t d:Nat} (h:jal o=some (t,d)) {vs:List Value} (ha:a.eval (.tmp 0) = .agg vs.toArray) {N:Act → World → Prop} (hn:N (a.put (some d) (.pointer (some ⟨w.heap.size,0,none⟩))) (w.alloc (.cells vs.toArray t))):o.guard=none ∧ o.wp P a w N Q:=by
 unfold jal at h
 split at h
 ·rename_i h1 h2 h3
  simp only [j8,j9] at h
  obtain ⟨rfl,rfl⟩:=h
  refine ⟨h3,jE (v:=.pointer (some ⟨w.heap.size,0,none⟩)) (w':=w.alloc (.cells vs.toArray _)) ?_ (by rw [h2]; exact hn)⟩
  simp [execOp,h1,Instr.box,newVar,newRow,ha,Value.cells]
 ·simp at h
theorem j9j (hty:pH P ty) {t s j d:Nat} (h:jai o=some (t,s,j,d)) {ti:TI} (ht:ty t=some ti) (hst:jL (some ti)=true) {off n:Nat} {ag:Bool} (hj:ti.flds[j]? = some (off,n,ag)) (h0:0 < n) {blk:Nat} (ha:a.eval (.tmp s) = .pointer (some ⟨blk,0,none⟩))
  {N:Act → World → Prop} (hn:N (a.put (some d) (.pointer (some ⟨blk,off,none⟩))) w):o.guard=none ∧ o.wp P a w N Q:=by
 unfold jai at h
 split at h
 ·rename_i h1 h2 h3
  simp only [j8,j9] at h
  obtain ⟨rfl,rfl,rfl,rfl⟩:=h
  obtain ⟨fs,hu,hn',hf⟩:=Qv hty ht hst
  rename_i j' d'
  have hjl:j' < ti.flds.length:=by
   rcases jp j' ti.flds.length with h' | h'
   ·exact h'
   ·simp [List.getElem?_eq_none h'] at hj
  have hfj:fs[j']? = some fs[j']:=Array.getElem?_eq_getElem (by omega)
  have hok:=hf j' _ _ hfj hj
  have hoff:fs[j'].offset=off:=hok.off
  refine ⟨h3,jE (v:=.pointer (some ⟨blk,off,none⟩)) (w':=w) ?_ (by rw [h2]; exact hn)⟩
  simp [execOp,h1,Instr.fieldAt,run_underlying hu,hfj,ha,Instr.sureAddr,Kp _ _ _ _ hok.size h0,hoff]
 ·simp at h
theorem j9e (hty:pH P ty) {t s d:Nat} (h:jah o=some (t,s,d)) {ti:TI} (ht:ty t=some ti) (hst:jL (some ti)=false) {blk off:Nat} (ha:a.eval (.tmp s) = .pointer (some ⟨blk,off,none⟩)) {u:Value} (hu:w.cell? ⟨blk,off,none⟩=some u)
  {N:Act → World → Prop} (hn:N (a.put (some d) u) w):o.guard=none ∧ o.wp P a w N Q:=by
 unfold jah at h
 split at h
 ·rename_i h1 h2 h3
  simp only [j8,j9] at h
  obtain ⟨rfl,rfl,rfl⟩:=h
  have htk:=hty _ ti ht
  have h4:=htk.one hst
  have hrun:=JA htk w blk off [u] (by rw [h4]; rfl) (fun j y hy=>by
   cases j with
   | zero =>
    simp only [List.getElem?_cons_zero,j8] at hy
    subst hy
    exact hu
   | succ j=>simp at hy)
  rw [hst] at hrun
  refine ⟨h3,jE (v:=u) (w':=w) ?_ (by rw [h2]; exact hn)⟩
  simp [execOp,h1,Instr.loadAt,ha,Instr.sureAddr,hrun]
 ·simp at h
theorem j9t {f x y d:Nat} (h:jak o=some (f,x,y,d)) {fd:Func} (q1:P.funcs[f]? = some fd) (q2:(fd.name == "runtime.NumGoroutine")=false) (q3:fd.body.isNone=false) {R:Ending → World → Prop} (hc:Calls P f #[a.eval (.tmp x),a.eval (.tmp y)] w R)
  {N:Act → World → Prop} (hn:∀ en w',R en w' → ∃ u,en = .returned u ∧ N (a.put (some d) u) w'):o.guard=none ∧ o.wp P a w N Q:=by
 unfold jak at h
 split at h
 ·rename_i cc d0 h1 h2 h3
  split at h
  ·rename_i f' x' y' hcal hargs
   simp only [j8,j9] at h
   obtain ⟨rfl,rfl,rfl,rfl⟩:=h
   have ha:cc.args.map a.eval = #[a.eval (.tmp x'),a.eval (.tmp y')]:=by
    apply Array.toList_inj.1
    simp [hargs]
   have hrun:=Ki (P:=P) h1 hcal (show a.eval (.func f') = .func (.func f') #[] #[] from rfl) q1 q2 q3 w
   rw [ha] at hrun
   refine ⟨h3,?_⟩
   unfold Oper.wp
   rw [hrun]
   show Calls P f' _ w _
   refine Calls.mono (by simpa using hc) fun en w' hen=>?_
   obtain ⟨u,rfl,hN⟩:=hn en w' hen
   rw [h2]
   exact hN
  ·simp at h
 ·simp at h
theorem Rds.frame {w':World} {vs:List Value} {ps:List (Nat × Nat)} {ls:List (List (List DC))} {Fs:List (List Nat)} (h:Rds ty w vs ps ls Fs) (hb:∀ b ∈ Fs.flatten,w'.heap[b]? = w.heap[b]?):Rds ty w' vs ps ls Fs:=by
 induction h with
 | nil=>exact .nil
 | cons off e v l F ps ls Fs hv hr _ ih =>
  exact .cons _ _ _ _ _ _ _ _ hv (hr.frame fun b h=>hb b (by simp [h])) (ih fun b h=>hb b (by rw [List.flatten_cons]; exact List.mem_append_right _ h))
theorem j7I {vs:List Value}:∀ {ps:List (Nat × Nat)} {ls:List (List (List DC))} {Fs:List (List Nat)},Rds ty w vs ps ls Fs → Own w Fs.flatten → ∀ (j off e:Nat),ps[j]? = some (off,e) →
  ∃ v l F,vs[off]? = some v ∧ ls[j]? = some l ∧ RdC ty w (.sl e) (.sl l) v F ∧ Own w F ∧ (∀ b ∈ F,b ∈ Fs.flatten) ∧
   ∀ (w':World) (l':List (List DC)),(∀ b ∈ Fs.flatten,b ∉ F → w'.heap[b]? = w.heap[b]?) → RdC ty w' (.sl e) (.sl l') v F → Rds ty w' vs ps (ls.set j l') Fs:=by
 intro ps ls Fs h
 induction h with
 | nil=>intro _ j off e hj; simp at hj
 | cons off0 e0 v l F ps ls Fs hv hr hrest ih =>
  intro ho j off e hj
  rw [List.flatten_cons] at ho ⊢
  have hnd:=ho.nodup
  rw [List.nodup_append] at hnd
  obtain ⟨n1,n2,n3⟩:=hnd
  cases j with
  | zero =>
   simp only [List.getElem?_cons_zero,j8,j9] at hj
   obtain ⟨rfl,rfl⟩:=hj
   refine ⟨v,l,F,hv,rfl,hr,⟨n1,fun b hb=>ho.open' b (by simp [hb])⟩,fun b hb=>by simp [hb],fun w' l' hw hr'=>?_⟩
   refine .cons _ _ _ _ _ _ _ _ hv hr' ?_
   exact Rds.frame hrest fun b hb=>hw b (by simp [hb]) fun hF=>n3 b hF b hb rfl
  | succ j =>
   obtain ⟨v',l',F',k1,k2,k3,k4,k5,k6⟩:=ih ⟨n2,fun b hb=>ho.open' b (by simp [hb])⟩ j off e hj
   refine ⟨v',l',F',k1,k2,k3,k4,fun b hb=>List.mem_append_right _ (k5 b hb),fun w' l2 hw hr'=>?_⟩
   refine .cons _ _ _ _ _ _ _ _ hv ?_ (k6 w' l2 (fun b hb hF=>hw b (List.mem_append_right _ hb) hF) hr')
   exact hr.frame fun b hb=>hw b (by simp [hb]) fun hF=>n3 b hb b (k5 b hF) rfl
structure BS (ty:Nat → Option TI) (b m:Nat) (ps:List (Nat × Nat)) (vs:List Value) (Fs:List (List Nat)) (w0:World) (ls:List (List (List DC))) (k:Int) (a:Act) (w:World):Prop where
 sz:a.tmps.size=m
 s1:a.eval (.tmp 1) = .int .i64 k
 sb:∃ blk t,a.eval (.tmp b) = .pointer (some ⟨blk,0,none⟩) ∧ w.heap[blk]? = some (.cells vs.toArray t (0,0)) ∧ blk ∉ Fs.flatten
 rd:Rds ty w vs ps ls Fs
 own:Own w Fs.flatten
 wr:Wrote w0 w Fs.flatten
 df:a.defers=[]
theorem Z9 {ops:Array Oper} (h:Q .normal a w):wpOps P ops Q [] a w:=h
theorem j9W (h:TabOk P ty T tf mt tab) {b m tb n:Nat} (hb:1 < b) (hbm:b < m) {ps:List (Nat × Nat)} {vs:List Value} {Fs:List (List Nat)} {w0:World} {ls:List (List (List DC))} {k k':Int} {id:Nat} {ops:Array Oper} {off e f j:Nat} {l l':List (List DC)}
  (hs:j4V ty mt tb b m ops.toList=some ((off,e),f)) (hj:ps[j]? = some (off,e)) (hl:ls[j]? = some l) (hm:mkF T tab n f l k=some (l',k')) (hB:BS ty b m ps vs Fs w0 ls k a w)
  (hQ:∀ a' w',BS ty b m ps vs Fs w0 (ls.set j l') k' a' w' → Q .normal a' w'):(Code.region id ops false).wp P Q a w:=by
 unfold j4V at hs
 split at hs
 ·rename_i o1 o2 o3 o4 o5 hops
  split at hs
  ·rename_i t1 s1 j1 d1 t2 s2 d2 s3 d3 f' x y d4 s5 d5 h1 h2 h3 h4 h5
   split at hs
   ·rename_i ti1 ti2 e' ht1 ht2 hmt
    split at hs
    ·rename_i off' n' ag hfl
     split at hs
     ·rename_i hc
      simp only [j8,j9] at hs
      obtain ⟨⟨rfl,rfl⟩,rfl⟩:=hs
      obtain ⟨c0,c1,c2,rfl,rfl,rfl,rfl,rfl,rfl,rfl,l1,l2,l3,l4,m1,m2,m3,m4,ne⟩:=hc
      obtain ⟨v,l0,F,k1,k2,k3,k4,k5,k6⟩:=j7I hB.rd hB.own j _ _ hj
      rw [hl] at k2
      obtain rfl:=Option.some.inj k2
      obtain ⟨blk,tt,p1,p2,p3⟩:=hB.sb
      have hops':ops = #[o1,o2,o3,o4,o5]:=by apply Array.toList_inj.1; simpa using hops
      subst hops'
      refine wp_region ?_
      show wpOps P _ Q [0,1,2,3,4] a w
      have hsz:=hB.sz
      obtain ⟨g1,w1⟩:=j9j (Q:=Q) (o:=o1) (P:=P) h.tyo h1 ht1 c1 hfl c0 p1 (N:=wpOps P #[o1,o2,o3,o4,o5] Q [1,2,3,4]) (by
       obtain ⟨g2,w2⟩:=j9e (Q:=Q) (o:=o2) (P:=P) (w:=w) (blk:=blk) (off:=off') (a:=a.put (some s2) (.pointer (some ⟨blk,off',none⟩))) h.tyo h2 ht2 c2 (qo (by rw [hsz]; exact m1)) (u:=v) (by simp [World.cell?,p2,k1]) (N:=wpOps P #[o1,o2,o3,o4,o5] Q [2,3,4]) (by
        obtain ⟨g3,w3⟩:=j0p (Q:=Q) (o:=o3) (P:=P) (w:=w) h3 (a:=(a.put (some s2) (.pointer (some ⟨blk,off',none⟩))).put (some x) v) (N:=wpOps P #[o1,o2,o3,o4,o5] Q [3,4]) (by
         have e1:((a.put (some s2) (.pointer (some ⟨blk,off',none⟩))).put (some x) v).eval (.tmp 1) = .int .i64 k:=by
          rw [p6 (by omega),p6 (by omega)]
          exact hB.s1
         rw [e1]
         generalize ha3:((a.put (some s2) (.pointer (some ⟨blk,off',none⟩))).put (some x) v).put (some y) (.int .i64 k)=a3
         have z3:a3.tmps.size=m:=by subst ha3; simp only [Ku]; exact hsz
         have x2:a3.eval (.tmp x)=v:=by
          subst ha3
          rw [p6 (Ne.symm ne),qo (by rw [Ku,hsz]; exact m2)]
         have x3:a3.eval (.tmp y) = .int .i64 k:=by
          subst ha3
          exact qo (by simp only [Ku]; rw [hsz]; exact m3)
         have xb:a3.eval (.tmp s1) = .pointer (some ⟨blk,0,none⟩):=by
          subst ha3
          rw [p6 (by omega),p6 (by omega),p6 (by omega)]
          exact p1
         have xd:a3.defers=[]:=by subst ha3; simp only [QS]; exact hB.df
         obtain ⟨fd,q1,q2,q3⟩:=h.fd f' (.inr ⟨_,hmt⟩)
         have hcall:=j5k h n f' _ hmt w v l k l' k' F k3 k4 hm
         rw [← x2,← x3] at hcall
         obtain ⟨g4,w4⟩:=j9t (Q:=Q) (o:=o4) (P:=P) (w:=w) (a:=a3) h4 q1 q2 q3 hcall (N:=wpOps P #[o1,o2,o3,o4,o5] Q [4]) (by
          rintro en w' ⟨rfl,hwr,hrd⟩
          rw [x2] at hrd
          refine ⟨_,rfl,?_⟩
          obtain ⟨g5,w5⟩:=j0p (Q:=Q) (o:=o5) (P:=P) (w:=w') h5 (a:=a3.put (some s5) (.int .i64 k')) (N:=wpOps P #[o1,o2,o3,o4,o5] Q []) (by
           rw [qo (by rw [z3]; exact m4)]
           refine Z9 (hQ _ _ ?_)
           have hbl:blk < w.heap.size:=kU p2
           refine ⟨by simp only [Ku]; exact z3,qo (by rw [Ku,z3]; omega),⟨blk,tt,?_,?_,p3⟩,?_,hB.own.wrote hwr,hB.wr.trans hwr k5,by simp only [QS]; exact xd⟩
           ·rw [p6 (by omega),p6 (by omega)]
            exact xb
           ·rw [hwr.block blk hbl fun hF=>p3 (k5 blk hF)]
            exact p2
           ·refine k6 w' l' (fun c hc hcF=>?_) hrd
            obtain ⟨cs,t,hcs⟩:=hB.own.open' c hc
            exact hwr.block c (kU hcs) hcF)
          exact jV rfl g5 w5)
         exact jV rfl g4 w4)
        exact jV rfl g3 w3)
       exact jV rfl g2 w2)
      exact jV rfl g1 w1
     ·simp at hs
    ·simp at hs
   ·simp at hs
  ·simp at hs
 ·simp at hs
theorem jae {m rT:Nat} {id:Nat} {ops:Array Oper} (h:j5D m rT ops.toList=true) {k:Int} (hsz:a.tmps.size=m) (hk:a.eval (.tmp 1) = .int .i64 k) (hd:a.defers=[]) (hQ:∀ a',a'.eval (.tmp rT) = .int .i64 k → a'.defers=[] → Q .normal a' w) :
  (Code.region id ops false).wp P Q a w:=by
 unfold j5D at h
 split at h
 ·rename_i o1 o2 hops
  split at h
  ·rename_i s1 d1 s2 d2 h1 h2
   obtain ⟨rfl,rfl,rfl,m1,m2⟩:=of_decide_eq_true h
   have hops':ops = #[o1,o2]:=by apply Array.toList_inj.1; simpa using hops
   subst hops'
   refine wp_region ?_
   show wpOps P _ Q [0,1] a w
   obtain ⟨g1,w1⟩:=j0p (Q:=Q) (o:=o1) (P:=P) (w:=w) (a:=a) h1 (N:=wpOps P #[o1,o2] Q [1]) (by
    rw [hk]
    obtain ⟨g2,w2⟩:=j0p (Q:=Q) (o:=o2) (P:=P) (w:=w) (a:=a.put (some s2) (.int .i64 k)) h2 (N:=wpOps P #[o1,o2] Q []) (by
     rw [qo (by rw [hsz]; exact m1)]
     exact Z9 (hQ _ (qo (by rw [Ku,hsz]; exact m2)) (by simp only [QS]; exact hd)))
    exact jV rfl g2 w2)
   exact jV rfl g1 w1
  ·simp at h
 ·simp at h
theorem j5Q (h:TabOk P ty T tf mt tab) {b m tb n rT:Nat} (hb:1 < b) (hbm:b < m) {ps:List (Nat × Nat)} {vs:List Value} {Fs:List (List Nat)} {w0:World} {fd:Func} (hres:fd.results.toList=[.tmp rT]) {k':Int} :
  ∀ (code:Code) (l:List ((Nat × Nat) × Nat)) (i:Nat) (ls ls2:List (List (List DC))) (k:Int) (a:Act) (w:World),yN ty mt tb b m rT code=some l → ps.drop i=l.map Prod.fst → mkA T tab n (l.map Prod.snd) (ls.drop i) k=some (ls2,k') → BS ty b m ps vs Fs w0 ls k a w →
  code.wp P (bodyPost P fd fun en w'=>en = .returned (.int .i64 k') ∧ Wrote w0 w' Fs.flatten ∧ Rds ty w' vs ps (ls.take i ++ ls2) Fs) a w
 | .seq x y,l,i,ls,ls2,k,a,w,e,hps,hm,hB=>by
  unfold yN at e
  split at e
  ·rename_i id ops heq
   injection heq with hx hy
   subst hx
   subst hy
   split at e
   ·rename_i he
    simp only [j8] at e
    subst e
    have hls:ls.drop i=[]:=by
     cases hc:ls.drop i with
     | nil=>rfl
     | cons _ _=>rw [hc] at hm; simp [mkA] at hm
    rw [hls] at hm
    simp only [List.map_nil,mkA,j8,j9] at hm
    obtain ⟨rfl,rfl⟩:=hm
    have htake:ls.take i=ls:=by
     have:=List.take_append_drop i ls
     rw [hls,jC] at this
     exact this
    refine wp_seq (jae he hB.sz hB.s1 hB.df fun a' he' hd'=>wp_ret ?_)
    refine ⟨hd',.int .i64 k,?_,rfl,hB.wr,?_⟩
    ·rw [ZP hres]
     exact congrArg (fun z=>Result.ok z w) he'
    ·rw [htake,jC]
     exact hB.rd
   ·simp at e
  ·rename_i id ops rest heq
   injection heq with hx hy
   subst hx
   subst hy
   split at e
   ·rename_i p l1 h1 h2
    simp only [j8] at e
    subst e
    obtain ⟨⟨off,e'⟩,f⟩:=p
    have hj:ps[i]? = some (off,e'):=by
     have:(ps.drop i)[0]? = some (off,e'):=by rw [hps]; rfl
     rwa [List.getElem?_drop,Nat.add_zero] at this
    have hps':ps.drop (i + 1)=l1.map Prod.fst:=by
     rw [← List.drop_drop,hps]
     rfl
    cases hc:ls.drop i with
    | nil=>rw [hc] at hm; simp [mkA] at hm
    | cons l0 lr =>
     rw [hc,jn,mkA] at hm
     split at hm
     ·rename_i l0' k1 hm1
      split at hm
      ·rename_i ls3 k2 hm2
       simp only [j8,j9] at hm
       obtain ⟨rfl,rfl⟩:=hm
       have hl:ls[i]? = some l0:=by
        have:(ls.drop i)[0]? = some l0:=by rw [hc]; rfl
        rwa [List.getElem?_drop,Nat.add_zero] at this
       have hlt:i < ls.length:=(List.getElem?_eq_some_iff.1 hl).1
       refine wp_seq (j9W h hb hbm h1 hj hl hm1 hB fun a' w' hB'=>?_)
       have hd:(ls.set i l0').drop (i + 1)=lr:=by
        rw [List.drop_set_of_lt (by omega),← List.drop_drop,hc]
        rfl
       have ht:(ls.set i l0').take (i + 1)=ls.take i ++ [l0']:=by
        rw [List.take_succ_eq_append_getElem (by simpa using hlt),List.take_set_of_le (by omega)]
        simp
       have ih:=j5Q h hb hbm hres y l1 (i + 1) (ls.set i l0') ls3 k1 a' w' h2 hps' (by rw [hd]; exact hm2) hB'
       rw [ht,jq] at ih
       exact ih
      ·simp at hm
     ·simp at hm
   ·simp at e
  ·simp at e
 | .skip,_,_,_,_,_,_,_,e,_,_,_=>by simp [yN] at e
 | .region _ _ _,_,_,_,_,_,_,_,e,_,_,_=>by simp [yN] at e
 | .cond _ _ _,_,_,_,_,_,_,_,e,_,_,_=>by simp [yN] at e
 | .block _ _,_,_,_,_,_,_,_,e,_,_,_=>by simp [yN] at e
 | .loop _,_,_,_,_,_,_,_,e,_,_,_=>by simp [yN] at e
 | .exit _,_,_,_,_,_,_,_,e,_,_,_=>by simp [yN] at e
 | .ret,_,_,_,_,_,_,_,e,_,_,_=>by simp [yN] at e
 | .label _,_,_,_,_,_,_,_,e,_,_,_=>by simp [yN] at e
 | .goto _,_,_,_,_,_,_,_,e,_,_,_=>by simp [yN] at e
open Classical in
noncomputable def j4h (T:Int → Option (List UInt8)) (tab:Nat → Option (List MA)) (fs:List Nat) (ls:List (List (List DC))) (k:Int):Option (List (List (List DC)) × Int) :=
 if h:∃ r n,mkA T tab n fs ls k=some r then some (Classical.choose h) else none
theorem j84 {fs:List Nat} {ls:List (List (List DC))} {k:Int} {r:List (List (List DC)) × Int} (h:j4h T tab fs ls k=some r):∃ n,mkA T tab n fs ls k=some r:=by
 unfold j4h at h
 split at h
 ·rename_i hx
  have h2:=Classical.choose_spec hx
  rw [Option.some.inj h] at h2
  exact h2
 ·simp at h
theorem j5l {n m:Nat} (hnm:n ≤ m):∀ {fs:List Nat} {ls:List (List (List DC))} {k:Int} {r:List (List (List DC)) × Int},mkA T tab n fs ls k=some r → mkA T tab m fs ls k=some r
 | [],[],k,r,h=>h
 | [],_ :: _,k,r,h=>by simp [mkA] at h
 | _ :: _,[],k,r,h=>by simp [mkA] at h
 | f :: fs,l :: ls,k,r,h=>by
  rw [mkA] at h ⊢
  split at h
  ·rename_i l' k1 h1
   rw [pA hnm h1]
   dsimp only
   split at h
   ·rename_i ls' k2 h2
    rw [j5l hnm h2]
    exact h
   ·simp at h
  ·simp at h
theorem j83 {n:Nat} {fs:List Nat} {ls:List (List (List DC))} {k:Int} {r:List (List (List DC)) × Int} (h:mkA T tab n fs ls k=some r):j4h T tab fs ls k=some r:=by
 unfold j4h
 have hx:∃ r n,mkA T tab n fs ls k=some r:=⟨r,n,h⟩
 rw [dif_pos hx]
 obtain ⟨m,h4⟩:=Classical.choose_spec hx
 have a:=j5l (Nat.le_max_left n m) h
 have b:=j5l (Nat.le_max_right n m) h4
 rw [a] at b
 exact b.symm
noncomputable def jaA (T:Int → Option (List UInt8)) (tab:Nat → Option (List MA)) (n:Nat) (l:List ((Nat × Nat) × Nat)):MK:=⟨true,n,l.map Prod.fst,j4h T tab (l.map Prod.snd)⟩
theorem j9b (h:TabOk P ty T tf mt tab) {f nc:Nat} {fd:Func} {l:List ((Nat × Nat) × Nat)} (hf:P.funcs[f]? = some fd) (hs:j4K ty mt fd=some l):j3D P ty f (jaA T tab nc l):=by
 intro w arg vs k ls ls' k' Fs hagg hone hlen hcell hr ho hm
 have harg:arg = .agg vs.toArray:=hagg rfl
 subst harg
 obtain ⟨n,hm⟩:=j84 hm
 unfold j4K at hs
 split at hs
 ·rename_i id r0 rest hbody
  split at hs
  ·rename_i o1 o2 rT hr0 hres
   split at hs
   ·rename_i t b d hb hd
    split at hs
    ·rename_i hc
     obtain ⟨c1,c2,c3,c4⟩:=hc
     refine calls_of_wp hf hbody (wp_seq ?_)
     have hops:r0 = #[o1,o2]:=by apply Array.toList_inj.1; simpa using hr0
     subst hops
     generalize ha0:({ tmps:=#[.agg vs.toArray,.int .i64 k] ++ Array.replicate (fd.ntmps - (#[Value.agg vs.toArray,Value.int .i64 k]).size) undef,defers:=[] }:Act)=a0
     have hsz0:a0.tmps.size=fd.ntmps:=by subst ha0; simp; omega
     have q0:a0.eval (.tmp 0) = .agg vs.toArray:=by
      subst ha0
      show Array.getD _ 0 undef=_
      rw [Array.getD_eq_getD_getElem?,(Array.getElem?_append_left (by simp)).trans rfl]
      rfl
     have q1:a0.eval (.tmp 1) = .int .i64 k:=by
      subst ha0
      show Array.getD _ 1 undef=_
      rw [Array.getD_eq_getD_getElem?,(Array.getElem?_append_left (by simp)).trans rfl]
      rfl
     have hd0:a0.defers=[]:=by subst ha0; rfl
     have hlt:∀ x ∈ Fs.flatten,x < w.heap.size:=fun x hx=>by
      obtain ⟨cs,t,hcs⟩:=ho.open' x hx
      exact kU hcs
     have hfr:∀ x ∈ Fs.flatten,(w.alloc (.cells vs.toArray t)).heap[x]? = w.heap[x]?:=fun x hx=>heap_alloc_old _ _ (hlt x hx)
     refine wp_region ?_
     show wpOps P _ _ [0,1] a0 w
     obtain ⟨g1,w1⟩:=j9w (o:=o1) (P:=P) (w:=w) (a:=a0) (Q:=Exit.then (rest.wp P (bodyPost P fd fun en w'=>en = .returned (.int .i64 k') ∧ Wrote w w' Fs.flatten ∧ Rds ty w' vs (l.map Prod.fst) ls' Fs)) (bodyPost P fd fun en w'=>en = .returned (.int .i64 k') ∧ Wrote w w' Fs.flatten ∧ Rds ty w' vs (l.map Prod.fst) ls' Fs)) hb q0
      (N:=wpOps P #[o1,o2] (Exit.then (rest.wp P (bodyPost P fd fun en w'=>en = .returned (.int .i64 k') ∧ Wrote w w' Fs.flatten ∧ Rds ty w' vs (l.map Prod.fst) ls' Fs)) (bodyPost P fd fun en w'=>en = .returned (.int .i64 k') ∧ Wrote w w' Fs.flatten ∧ Rds ty w' vs (l.map Prod.fst) ls' Fs)) [1]) (by
       obtain ⟨g2,w2⟩:=j9s (o:=o2) (P:=P) (w:=w.alloc (.cells vs.toArray t)) (a:=a0.put (some b) (.pointer (some ⟨w.heap.size,0,none⟩))) (Q:=Exit.then (rest.wp P (bodyPost P fd fun en w'=>en = .returned (.int .i64 k') ∧ Wrote w w' Fs.flatten ∧ Rds ty w' vs (l.map Prod.fst) ls' Fs)) (bodyPost P fd fun en w'=>en = .returned (.int .i64 k') ∧ Wrote w w' Fs.flatten ∧ Rds ty w' vs (l.map Prod.fst) ls' Fs)) hd
        (N:=wpOps P #[o1,o2] (Exit.then (rest.wp P (bodyPost P fd fun en w'=>en = .returned (.int .i64 k') ∧ Wrote w w' Fs.flatten ∧ Rds ty w' vs (l.map Prod.fst) ls' Fs)) (bodyPost P fd fun en w'=>en = .returned (.int .i64 k') ∧ Wrote w w' Fs.flatten ∧ Rds ty w' vs (l.map Prod.fst) ls' Fs)) []) (fun u=>by
         refine Z9 ?_
         have:=j5Q (ps:=l.map Prod.fst) (vs:=vs) (Fs:=Fs) (w0:=w) (n:=n) (k':=k') h c1 c3 hres rest l 0 ls ls' k ((a0.put (some b) (.pointer (some ⟨w.heap.size,0,none⟩))).put (some d) u) (w.alloc (.cells vs.toArray t)) hs rfl (by rw [List.drop_zero]; exact hm)
          ⟨by simp only [Ku]; exact hsz0,by rw [p6 (by omega),p6 (by omega)]; exact q1,⟨w.heap.size,t,by rw [p6 c4,qo (by rw [hsz0]; exact c3)],heap_alloc_new w _,fun hx=>absurd (hlt _ hx) (Nat.lt_irrefl _)⟩,
           hr.frame hfr,ho.frame hfr,⟨rfl,rfl,rfl,by show w.heap.size ≤ (w.heap.push _).size; simp,fun x hx _=>heap_alloc_old _ _ hx,fun x hx cs t' hcs=>⟨cs,by rw [hfr x hx]; exact hcs,rfl⟩⟩,by simp only [QS]; exact hd0⟩
         rw [List.take_zero,ju] at this
         exact this)
       exact jV rfl g2 w2)
     exact jV rfl g1 w1
    ·simp at hs
   ·simp at hs
  ·simp at hs
 ·simp at hs
end
abbrev ou:KC:=.one .u
abbrev ob:KC:=.one .b
abbrev os:KC:=.one .s
abbrev oi:KC:=.one (.i .i64)
abbrev ol (e:Nat):KC:=.one (.sl e)
def uu (n:Nat) (l:List KC):List KC:=List.replicate n (.one .u) ++ l
def vv (n:Nat) (l:List KO):List KO:=List.replicate n .u ++ l
noncomputable def tyL:List (Nat × TI):=[(3,⟨.int .i64,[.i .i64],8,[],false⟩),
 (4,⟨.bool,[.b],1,[],false⟩),
 (5,⟨.int .u8,[.i .u8],1,[],false⟩),
 (9,⟨.str,[.s],16,[],false⟩),
 (22,⟨.slice 44,[.sl 44],24,[],false⟩),
 (24,⟨.slice 50,[.sl 50],24,[],false⟩),
 (30,⟨.slice 68,[.sl 68],24,[],false⟩),
 (32,⟨.struct,[.sl 50,.sl 50,.sl 68],72,[(0,1,false),(1,1,false),(2,1,false)],false⟩),
 (37,⟨.slice 9,[.sl 9],24,[],false⟩),
 (38,⟨.slice 118,[.sl 118],24,[],false⟩),
 (39,⟨.slice 124,[.sl 124],24,[],false⟩),
 (40,⟨.slice 127,[.sl 127],24,[],false⟩),
 (41,⟨.slice 129,[.sl 129],24,[],false⟩),
 (42,⟨.slice 133,[.sl 133],24,[],false⟩),
 (44,⟨.struct,[.i .i64,.b,.s,.s,.sl 9,.sl 118,.sl 124,.sl 127,.sl 129,.b,.sl 133],200,[(0,1,false),(1,1,false),(2,1,false),(3,1,false),(4,1,false),(5,1,false),(6,1,false),(7,1,false),(8,1,false),(9,1,false),(10,1,false)],false⟩),
 (45,⟨.slice 97,[.sl 97],24,[],false⟩),
 (46,⟨.slice 102,[.sl 102],24,[],false⟩),
 (47,⟨.slice 105,[.sl 105],24,[],false⟩),
 (48,⟨.slice 108,[.sl 108],24,[],false⟩),
 (50,⟨.struct,[.i .i64,.b,.s,.s,.sl 9,.sl 97,.sl 102,.sl 105,.sl 68,.b,.sl 108],200,[(0,1,false),(1,1,false),(2,1,false),(3,1,false),(4,1,false),(5,1,false),(6,1,false),(7,1,false),(8,1,false),(9,1,false),(10,1,false)],false⟩),
 (68,⟨.struct,[.i .i64,.s],24,[(0,1,false),(1,1,false)],false⟩),
 (93,⟨.slice 5,[.sl 5],24,[],false⟩),
 (95,⟨.struct,[.s,.s],32,[(0,1,false),(1,1,false)],false⟩),
 (97,⟨.struct,[.s,.s,.sl 102,.s,.s,.sl 108],112,[(0,1,false),(1,1,false),(2,1,false),(3,2,true),(5,1,false)],false⟩),
 (98,⟨.slice 100,[.sl 100],24,[],false⟩),
 (100,⟨.struct,[.i .i64,.s,.sl 100,.sl 9],72,[(0,1,false),(1,1,false),(2,1,false),(3,1,false)],false⟩),
 (102,⟨.struct,[.s,.s,.s,.s,.b,.i .i64,.s,.sl 100,.sl 9,.sl 108],168,[(0,1,false),(1,1,false),(2,2,true),(4,1,false),(5,4,true),(9,1,false)],false⟩),
 (105,⟨.struct,[.s,.s,.sl 108],56,[(0,1,false),(1,1,false),(2,1,false)],false⟩),
 (106,⟨.slice 149,[.sl 149],24,[],false⟩),
 (108,⟨.struct,[.s,.sl 149],40,[(0,1,false),(1,1,false)],false⟩),
 (116,⟨.struct,[.s,.s],32,[(0,1,false),(1,1,false)],false⟩),
 (118,⟨.struct,[.s,.s,.sl 124,.s,.s,.sl 133],112,[(0,1,false),(1,1,false),(2,1,false),(3,2,true),(5,1,false)],false⟩),
 (120,⟨.slice 122,[.sl 122],24,[],false⟩),
 (122,⟨.struct,[.i .i64,.s,.sl 122,.sl 9],72,[(0,1,false),(1,1,false),(2,1,false),(3,1,false)],false⟩),
 (124,⟨.struct,[.s,.s,.s,.s,.b,.i .i64,.s,.sl 122,.sl 9,.sl 133],168,[(0,1,false),(1,1,false),(2,2,true),(4,1,false),(5,4,true),(9,1,false)],false⟩),
 (127,⟨.struct,[.s,.s,.sl 133],56,[(0,1,false),(1,1,false),(2,1,false)],false⟩),
 (129,⟨.struct,[.i .i64,.s],24,[(0,1,false),(1,1,false)],false⟩),
 (131,⟨.slice 168,[.sl 168],24,[],false⟩),
 (133,⟨.struct,[.s,.sl 168],40,[(0,1,false),(1,1,false)],false⟩),
 (149,⟨.struct,[.s,.i .i64,.s,.sl 100,.sl 9],88,[(0,1,false),(1,4,true)],false⟩),
 (168,⟨.struct,[.s,.i .i64,.s,.sl 122,.sl 9],88,[(0,1,false),(1,4,true)],false⟩)]
theorem tys:tyB Tryz.prog tyL=true:=by kernel_rfl
noncomputable def j9i:FI:=jJ Tryz.f25 1 [.ct (.i .i64)] [(false,[.ct .s])] (fun _=>(.s .n (.s .n (.s .n (.s (.b (.b (.s .n (.b (.s (.r [0,0,0,0,0,0,0,0,0] none) .n) ⟨oi :: ou :: ou :: os :: uu 16 [],.u :: []⟩)) ⟨oi :: ou :: ou :: os :: uu 16 [],.u :: []⟩) ⟨uu 3 (os :: uu 16 []),.u :: []⟩) .n)))))
noncomputable def pc:List DC → Out:=fun v1 =>
  if (decide ((v1.getD 0 d0).ii > (0:Int)))=true then
   ja (if (10:Int)=0 then
     .fail
    else
     if (Qp [[DC.i (IntKind.u8.wrap (IntKind.i64.wrap ((48:Int) + (((v1.getD 0 d0).ii).tmod (10:Int)))))]]).length + ((v1.getD 1 d0).ss).length < kC then
      if (10:Int)=0 then
       .fail
      else
       .norm [.i (IntKind.i64.wrap (((v1.getD 0 d0).ii).tdiv (10:Int))),.s ((Qp [[DC.i (IntKind.u8.wrap (IntKind.i64.wrap ((48:Int) + (((v1.getD 0 d0).ii).tmod (10:Int)))))]]) ++ ((v1.getD 1 d0).ss))]
     else
      .fail) 1 fun v2 =>
   .norm [.i ((v2.getD 0 d0).ii),.s ((v2.getD 1 d0).ss)]
  else
   .ex 0 [.s ((v1.getD 1 d0).ss)]
noncomputable def jz (a:List DC):Out :=
  if (decide ((a.getD 0 d0).ii ≤ (0:Int)))=true then
   .ret [.s ([109,48]:List UInt8)]
  else
   ja (jK pc [.i ((a.getD 0 d0).ii),.s ([]:List UInt8)]) 0 fun v3 =>
   if ([109]:List UInt8).length + ((v3.getD 0 d0).ss).length < kC then
    .ret [.s (([109]:List UInt8) ++ ((v3.getD 0 d0).ss))]
   else
    .fail
noncomputable def j9u:Cfg:=⟨fun t=>Kf t tyL,fun f=>Kf f [(25,j9i)]⟩
theorem jbe:∀ x ∈ [(25,j9i)],FnOk Tryz.prog Glob.none j9u.ty x.1 x.2:=all_cons (ji Tryz.func25 (by kernel_rfl)) j6b
theorem eq0 (a:List DC):kV j9u 25 ⟨[.one (.i .i64)],[]⟩ a=jz a:=(jt j9u 25 _ a).trans (by kernel_rfl)
theorem j98 (k:Int) (o:List UInt8) (h0:0 < k) (h1:k < 4611686018427387904) (ho:o.length ≤ 100):∃ c,pc [.i k,.s o] = .norm [.i (k / 10),.s (c :: o)]:=by
 have hw:IntKind.i64.wrap (k.tdiv 10)=k / 10:=by
  rw [Int.tdiv_eq_ediv_of_nonneg (by omega)]
  exact jM (by omega) (by omega)
 have hl:1 + o.length < kC:=by unfold kC; omega
 refine ⟨UInt8.ofNat (IntKind.u8.wrap (IntKind.i64.wrap (48 + k.tmod 10))).toNat,?_⟩
 simp only [pc,List.getD_cons_zero,List.getD_cons_succ,DC.ii_i,DC.ss_s,hw]
 simp [h0,hl,Qp,ja]
 try rfl
theorem j60:∀ (m:Nat) (k:Int) (o:List UInt8),0 ≤ k → k < 4611686018427387904 → k < 10 ^ m → o.length + m ≤ 100 → ∃ s:List UInt8,s.length ≤ 100 ∧ jK pc [.i k,.s o] = .ex 0 [.s s]
 | 0,k,o,h0,_,h1,ho=>by
  have:k=0:=by simp at h1; omega
  subst this
  exact ⟨o,by omega,kH (by simp [pc])⟩
 | m + 1,k,o,h0,hb,h1,ho=>by
  by_cases hk:0 < k
  ·obtain ⟨c,hc⟩:=j98 k o hk hb (by omega)
   rw [jO hc]
   refine j60 m (k / 10) (c :: o) (by omega) (by omega) ?_ (by simp; omega)
   rw [Int.pow_succ] at h1
   omega
  ·have:k=0:=by omega
   subst this
   exact ⟨o,by omega,kH (by simp [pc])⟩
theorem jaz (k:Int) (h0:0 ≤ k) (h1:k < 4611686018427387904):∃ s,jz [.i k] = .ret [.s s]:=by
 by_cases hk:k ≤ 0
 ·exact ⟨[109,48],by simp [jz,hk]⟩
 ·obtain ⟨s,hs,h⟩:=j60 19 k [] h0 h1 (by rw [show (10:Int) ^ 19=10000000000000000000 from by decide]; omega) (by simp)
  have hl:1 + s.length < kC:=by unfold kC; omega
  refine ⟨109 :: s,?_⟩
  simp only [jz,List.getD_cons_zero,List.getD_cons_succ,DC.ii_i,DC.ss_s,h,ja]
  simp [hk,hl,Nat.add_comm]
  try (unfold kC; omega)
noncomputable def zA (k:Int):List UInt8:=match jz [.i k] with | .ret [.s s]=>s | _=>[]
theorem qi {k:Int} (h0:0 ≤ k) (h1:k < 4611686018427387904):jz [.i k] = .ret [.s (zA k)]:=by
 obtain ⟨s,h⟩:=jaz k h0 h1
 unfold zA
 rw [h]
noncomputable def mT:Int → Option (List UInt8):=fun k=>some (zA k)
def j7Y:List MA:=[.int 0,.inc,.bool 1,.inc,.txt 2,.inc,.txt 3,.inc,.sub 4 26,.upd,.sub 5 27,.upd,.sub 6 28,.upd,.sub 7 29,.upd,.sub 8 30,.upd,.bool 9,.inc,.sub 10 31,.upd]
def j7X:List MA:=[.txt 0,.inc]
def j7W:List MA:=[.txt 0,.inc,.txt 1,.inc,.sub 2 28,.upd,.txt 3,.inc,.txt 4,.inc,.sub 5 31,.upd]
def j7V:List MA:=[.txt 0,.inc,.txt 1,.inc,.txt 2,.inc,.txt 3,.inc,.bool 4,.inc,.int 5,.inc,.txt 6,.inc,.sub 7 68,.upd,.sub 8 26,.upd,.sub 9 31,.upd]
def j7U:List MA:=[.txt 0,.inc,.txt 1,.inc,.sub 2 31,.upd]
def j7T:List MA:=[.int 0,.inc,.txt 1,.inc]
def j7S:List MA:=[.txt 0,.inc,.sub 1 69,.upd]
def j7R:List MA:=[.int 0,.inc,.txt 1,.inc,.sub 2 68,.upd,.sub 3 26,.upd]
def j7Q:List MA:=[.txt 0,.inc,.int 1,.inc,.txt 2,.inc,.sub 3 68,.upd,.sub 4 26,.upd]
noncomputable def ti9:TI:=⟨.str,[.s],16,[],false⟩
noncomputable def jbd:TI:=⟨.struct,[.i .i64,.b,.s,.s,.sl 9,.sl 97,.sl 102,.sl 105,.sl 68,.b,.sl 108],200,[(0,1,false),(1,1,false),(2,1,false),(3,1,false),(4,1,false),(5,1,false),(6,1,false),(7,1,false),(8,1,false),(9,1,false),(10,1,false)],false⟩
noncomputable def jbc:TI:=⟨.struct,[.i .i64,.s],24,[(0,1,false),(1,1,false)],false⟩
noncomputable def jbb:TI:=⟨.struct,[.s,.s,.sl 102,.s,.s,.sl 108],112,[(0,1,false),(1,1,false),(2,1,false),(3,2,true),(5,1,false)],false⟩
noncomputable def jau:TI:=⟨.struct,[.i .i64,.s,.sl 100,.sl 9],72,[(0,1,false),(1,1,false),(2,1,false),(3,1,false)],false⟩
noncomputable def jat:TI:=⟨.struct,[.s,.s,.s,.s,.b,.i .i64,.s,.sl 100,.sl 9,.sl 108],168,[(0,1,false),(1,1,false),(2,2,true),(4,1,false),(5,4,true),(9,1,false)],false⟩
noncomputable def jas:TI:=⟨.struct,[.s,.s,.sl 108],56,[(0,1,false),(1,1,false),(2,1,false)],false⟩
noncomputable def jar:TI:=⟨.struct,[.s,.sl 149],40,[(0,1,false),(1,1,false)],false⟩
noncomputable def jaq:TI:=⟨.struct,[.s,.i .i64,.s,.sl 100,.sl 9],88,[(0,1,false),(1,4,true)],false⟩
def pe:Nat → Option (List MA):=fun f=>Kf f [(10,j7Y),(26,j7X),(27,j7W),(28,j7V),(29,j7U),(30,j7T),(31,j7S),(68,j7R),(69,j7Q)]
def mMt:Nat → Option Nat:=fun f=>Kf f [(10,50),(26,9),(27,97),(28,102),(29,105),(30,68),(31,108),(68,100),(69,149)]
theorem Qj:TabOk Tryz.prog (fun t=>Kf t tyL) mT 25 mMt pe where
 tyo:=(j0A tys).1
 fd:=by
  rintro f (rfl | ⟨e,he⟩)
  ·exact ⟨_,Tryz.func25,by kernel_rfl,rfl⟩
  have:=VN he
  simp only [List.mem_cons,j9,List.not_mem_nil,or_false] at this
  rcases this with ⟨rfl,rfl⟩ | ⟨rfl,rfl⟩ | ⟨rfl,rfl⟩ | ⟨rfl,rfl⟩ | ⟨rfl,rfl⟩ | ⟨rfl,rfl⟩ | ⟨rfl,rfl⟩ | ⟨rfl,rfl⟩ | ⟨rfl,rfl⟩
  ·exact ⟨_,Tryz.func10,by kernel_rfl,rfl⟩
  ·exact ⟨_,Tryz.func26,by kernel_rfl,rfl⟩
  ·exact ⟨_,Tryz.func27,by kernel_rfl,rfl⟩
  ·exact ⟨_,Tryz.func28,by kernel_rfl,rfl⟩
  ·exact ⟨_,Tryz.func29,by kernel_rfl,rfl⟩
  ·exact ⟨_,Tryz.func30,by kernel_rfl,rfl⟩
  ·exact ⟨_,Tryz.func31,by kernel_rfl,rfl⟩
  ·exact ⟨_,Tryz.func68,by kernel_rfl,rfl⟩
  ·exact ⟨_,Tryz.func69,by kernel_rfl,rfl⟩
 tfc:=by
  intro k s w h0 h1 hs
  obtain rfl:zA k=s:=Option.some.inj hs
  exact j6B (cfg:=j9u) (G:=Glob.none) (j0A tys).1 (by kernel_rfl) (j9F jbe) (f:=25) (fi:=j9i) (by kernel_rfl) ⟨trivial,fun _ h=>h.elim⟩ rfl rfl (kV.evt ((eq0 _).trans (qi h0 h1)))
 tfs:=fun k _ _=>⟨_,rfl⟩
 sh:=by
  intro f e he
  have:=VN he
  simp only [List.mem_cons,j9,List.not_mem_nil,or_false] at this
  rcases this with ⟨rfl,rfl⟩ | ⟨rfl,rfl⟩ | ⟨rfl,rfl⟩ | ⟨rfl,rfl⟩ | ⟨rfl,rfl⟩ | ⟨rfl,rfl⟩ | ⟨rfl,rfl⟩ | ⟨rfl,rfl⟩ | ⟨rfl,rfl⟩
  ·exact ⟨jbd,Tryz.f10,j7Y,by kernel_rfl,Tryz.func10,by kernel_rfl,by kernel_rfl⟩
  ·exact ⟨ti9,Tryz.f26,j7X,by kernel_rfl,Tryz.func26,by kernel_rfl,by kernel_rfl⟩
  ·exact ⟨jbb,Tryz.f27,j7W,by kernel_rfl,Tryz.func27,by kernel_rfl,by kernel_rfl⟩
  ·exact ⟨jat,Tryz.f28,j7V,by kernel_rfl,Tryz.func28,by kernel_rfl,by kernel_rfl⟩
  ·exact ⟨jas,Tryz.f29,j7U,by kernel_rfl,Tryz.func29,by kernel_rfl,by kernel_rfl⟩
  ·exact ⟨jbc,Tryz.f30,j7T,by kernel_rfl,Tryz.func30,by kernel_rfl,by kernel_rfl⟩
  ·exact ⟨jar,Tryz.f31,j7S,by kernel_rfl,Tryz.func31,by kernel_rfl,by kernel_rfl⟩
  ·exact ⟨jau,Tryz.f68,j7R,by kernel_rfl,Tryz.func68,by kernel_rfl,by kernel_rfl⟩
  ·exact ⟨jaq,Tryz.f69,j7Q,by kernel_rfl,Tryz.func69,by kernel_rfl,by kernel_rfl⟩
noncomputable def pE:Hint:=⟨ol 9 :: [],[]⟩
noncomputable def kZ:Hint:=⟨ol 68 :: [],[]⟩
noncomputable def fi4:FI:=jJ Tryz.f4 22 [.ct (.sl 44)] [(false,[.ct .b])] (fun _=>(.s .n (.s .n (.s .n (.s .n (.s (.r [0,0,1,4,0] none) (.s (.r [0,5,0] none) (.s (.r [0,6,9,0] none) (.s .n (.s (.s (.r [0,0,10,0,0] none) .n) (.s .n (.s .n (.s (.s (.r [] (some ⟨ol 44 :: uu 3 (.one (.ptr 4 0) :: ou :: .one (.ptr 9 0) :: uu 35 (ob :: uu 26 [])),vv 4 (.var 32 [.own 50 11,.own 50 12,.own 68 13] :: vv 4 (.var 32 [.own 1050 14,.own 1050 15,.own 68 16] :: vv 12 []))⟩)) .n) (.s .n (.s .n (.s .n (.s .n (.s .n (.s .n (.s (.r [0,17,18,21,0] none) .n))))))))))))))))))))
noncomputable def fi5:FI:=jJ Tryz.f5 0 [.ct (.sl 44),.ct (.i .i64)] [(false,[.ct (.i .i64)])] (fun _=>(.s .n (.s .n (.s .n (.s (.s .n (.b (.b (.s .n (.s (.b .n ⟨ol 44 :: oi :: uu 3 (oi :: uu 21 []),[]⟩) .n)) ⟨ol 44 :: oi :: uu 3 (oi :: uu 21 []),[]⟩) ⟨ou :: oi :: uu 25 [],[]⟩)) .n)))))
noncomputable def fi7:FI:=jJ Tryz.f7 11 [.ct (.sl 44)] [(false,[.new 1050])] (fun _=>(.s .n (.s (.r [0,0,1,0] none) (.s (.s .n (.b (.b (.s .n (.s (.b (.r [0,0,0,0,0,0,3,0,0] none) ⟨ol 44 :: ou :: ou :: .one (.own 1050 9) :: oi :: uu 18 [],vv 11 []⟩) .n)) ⟨ol 44 :: ou :: ou :: .one (.own 1050 2) :: oi :: uu 18 [],vv 11 []⟩) ⟨uu 3 (.one (.own 1050 10) :: uu 19 []),vv 11 []⟩)) .n))))
noncomputable def jcu:FI:=jJ Tryz.f12 38 [.ct (.sl 50)] [(true,[.new 50,.new 50,.new 68])] (fun _=>(.s (.r [0] none) (.s (.r [0,1,0,2,0,3,0] none) (.s .n (.s (.s .n (.b (.b (.s .n (.s (.b (.s (.s .n (.c (.s (.r [6,0,0,0,0] none) (.s .n (.s (.s (.r [] (some ⟨ol 50 :: ou :: .one (.ptr 0 0) :: .one (.ptr 3 0) :: oi :: oi :: os :: uu 32 (ob :: uu 43 []),.var 32 [.nil,.nil,.nil] :: .u :: .u :: .var 32 [.own 50 7,.own 50 8,.own 68 34] :: vv 34 []⟩)) (.c (.r [0,0,0,0,0,10,11,0,0] none) .n (some ⟨ol 50 :: ou :: .one (.ptr 0 0) :: .one (.ptr 3 0) :: oi :: oi :: uu 77 [],.var 32 [.nil,.nil,.nil] :: .u :: .u :: .var 32 [.own 50 12,.own 50 13,.own 68 14] :: vv 34 []⟩))) .n))) .n none)) (.s .n (.b (.b (.s .n (.s (.b (.s .n (.c (.r [0,0,0,0,0,0,0,0,0,0,18,19,0,0] none) .n (some ⟨ol 50 :: ou :: .one (.ptr 0 0) :: .one (.ptr 3 0) :: oi :: oi :: ou :: ou :: oi :: uu 74 [],.var 32 [.nil,.nil,.nil] :: .u :: .u :: .var 32 [.own 50 20,.own 50 21,.own 68 22] :: vv 34 []⟩))) ⟨ol 50 :: ou :: .one (.ptr 0 0) :: .one (.ptr 3 0) :: oi :: oi :: ou :: ou :: oi :: uu 74 [],.var 32 [.nil,.nil,.nil] :: .u :: .u :: .var 32 [.own 50 23,.own 50 24,.own 68 25] :: vv 34 []⟩) .n)) ⟨ol 50 :: ou :: .one (.ptr 0 0) :: .one (.ptr 3 0) :: oi :: oi :: ou :: ou :: oi :: uu 74 [],.var 32 [.nil,.nil,.nil] :: .u :: .u :: .var 32 [.own 50 15,.own 50 16,.own 68 26] :: vv 34 []⟩) ⟨ol 50 :: ou :: .one (.ptr 0 0) :: .one (.ptr 3 0) :: oi :: oi :: uu 77 [],.var 32 [.nil,.nil,.nil] :: .u :: .u :: .var 32 [.own 50 27,.own 50 28,.own 68 29] :: vv 34 []⟩))) ⟨ol 50 :: ou :: .one (.ptr 0 0) :: .one (.ptr 3 0) :: oi :: oi :: uu 77 [],.var 32 [.nil,.nil,.nil] :: .u :: .u :: .var 32 [.own 50 30,.own 50 31,.own 68 32] :: vv 34 []⟩) .n)) ⟨ol 50 :: ou :: .one (.ptr 0 0) :: .one (.ptr 3 0) :: oi :: oi :: uu 77 [],.var 32 [.nil,.nil,.nil] :: .u :: .u :: .var 32 [.own 50 4,.own 50 5,.own 68 33] :: vv 34 []⟩) ⟨ou :: ou :: .one (.ptr 0 0) :: .one (.ptr 3 0) :: uu 79 [],.var 32 [.nil,.nil,.nil] :: .u :: .u :: .var 32 [.own 50 35,.own 50 36,.own 68 37] :: vv 34 []⟩)) .n)))))
noncomputable def jct:FI:=jJ Tryz.f13 56 [.ct (.sl 50)] [(true,[.new 1050,.new 1050,.new 68])] (fun _=>(.s (.r [0] none) (.s (.r [0,1,0] none) (.s (.s (.r [0,2,0,0] none) (.b (.b (.s .n (.s .n (.s (.b (.s (.r [0,4,10,0] none) (.b (.s .n (.c (.r [0,0,11,17,18,0,0] none) (.s (.r [19,0,0] none) (.c (.r [0,0,25,31,32,0,0] none) .n (some ⟨ol 50 :: ou :: .one (.ptr 0 0) :: .one (.ptr 1 0) :: uu 4 (.one (.own 4050 33) :: oi :: oi :: uu 28 []),.var 32 [.nil,.nil,.nil] :: .var 32 [.own 1050 34,.own 1050 46,.nil] :: vv 54 []⟩))) (some ⟨ol 50 :: ou :: .one (.ptr 0 0) :: .one (.ptr 1 0) :: uu 4 (.one (.own 4050 35) :: oi :: oi :: uu 28 []),.var 32 [.nil,.nil,.nil] :: .var 32 [.own 1050 36,.own 1050 37,.nil] :: vv 54 []⟩))) ⟨ol 50 :: ou :: .one (.ptr 0 0) :: .one (.ptr 1 0) :: uu 4 (.one (.own 4050 38) :: oi :: oi :: uu 28 []),.var 32 [.nil,.nil,.nil] :: .var 32 [.own 1050 39,.own 1050 40,.nil] :: vv 54 []⟩)) ⟨ol 50 :: ou :: .one (.ptr 0 0) :: .one (.ptr 1 0) :: uu 4 (.one (.own 4050 41) :: oi :: oi :: uu 28 []),.var 32 [.nil,.nil,.nil] :: .var 32 [.own 1050 42,.own 1050 43,.nil] :: vv 54 []⟩) .n))) ⟨ol 50 :: ou :: .one (.ptr 0 0) :: .one (.ptr 1 0) :: uu 4 (.one (.own 4050 3) :: oi :: oi :: uu 28 []),.var 32 [.nil,.nil,.nil] :: .var 32 [.own 1050 44,.own 1050 45,.nil] :: vv 54 []⟩) ⟨ol 50 :: ou :: .one (.ptr 0 0) :: .one (.ptr 1 0) :: uu 35 [],.var 32 [.nil,.nil,.nil] :: .var 32 [.own 1050 47,.own 1050 48,.nil] :: vv 54 []⟩)) (.s (.r [0,49,52,0,0] none) (.s (.r [53,0] none) .n))))))
noncomputable def jcs:FI:=jJ Tryz.f14 2 [.ag [.sl 50,.sl 50,.sl 68],.ag [.sl 50,.sl 50,.sl 68]] [(false,[.ct .b])] (fun _=>(.s (.r [0,1,0] none) .n))
noncomputable def fi9:FI:=jJ Tryz.f9 0 [.ct (.sl 50),.ct (.sl 50)] [(false,[.ct .b])] (fun _=>(.s .n (.s .n (.s (.s .n (.b (.b (.s .n (.s (.b .n ⟨ol 50 :: ol 50 :: uu 3 (oi :: uu 21 []),[]⟩) .n)) ⟨ol 50 :: ol 50 :: uu 3 (oi :: uu 21 []),[]⟩) ⟨uu 27 [],[]⟩)) .n))))
noncomputable def jcq:FI:=jJ Tryz.f16 1 [.ag [.sl 50,.sl 50,.sl 68],.ct (.i .i64)] [(false,[.ct (.i .i64)])] (fun _=>(.s (.r [0,0] none) .n))
noncomputable def jcp:FI:=jJ Tryz.f17 1 [.ag [.i .i64,.b,.s,.s,.sl 9,.sl 118,.sl 124,.sl 127,.sl 129,.b,.sl 133],.ct (.i .i64)] [(false,[.ct (.i .i64)])] (fun _=>(.s (.r [0,0] none) .n))
noncomputable def jcn:FI:=jJ Tryz.f19 9 [.ag [.i .i64,.b,.s,.s,.sl 9,.sl 118,.sl 124,.sl 127,.sl 129,.b,.sl 133]] [(true,[.ct (.i .i64),.ct .b,.ct .s,.ct .s,.new 9,.new 1097,.new 1102,.new 1105,.new 68,.ct .b,.new 1108])] (fun _=>(.s (.r [0,1] none) (.s (.r [2] none) (.s .n (.s .n (.s .n (.s .n (.s (.r [0,0,3,0,0] none) (.s (.r [0,0,4,0,0] none) (.s (.r [0,0,5,0,0] none) (.s (.r [0,0,6,0,0] none) (.s (.r [0,0,7,0,0] none) (.s .n (.s (.r [0,0,8,0,0] none) .n))))))))))))))
noncomputable def jc7:FI:=jJ Tryz.f38 8 [.ct (.sl 50),.ct (.i .i64)] [(false,[.new 50])] (fun _=>(.s .n (.s (.r [0,0] none) (.s (.s .n (.b (.b (.s .n (.s (.b (.s .n (.c (.r [0,0,0,0,0,2,3,0] none) .n (some ⟨ol 50 :: oi :: uu 3 (.one (.own 50 4) :: oi :: uu 24 []),vv 8 []⟩))) ⟨ol 50 :: oi :: uu 3 (.one (.own 50 5) :: oi :: uu 24 []),vv 8 []⟩) .n)) ⟨ol 50 :: oi :: uu 3 (.one (.own 50 1) :: oi :: uu 24 []),vv 8 []⟩) ⟨uu 5 (.one (.own 50 6) :: uu 25 []),vv 8 []⟩)) (.s (.r [0,7,0] none) .n)))))
noncomputable def jc6:FI:=jJ Tryz.f39 0 [.ct (.sl 50),.ct (.i .i64),.ct .s] [(false,[.ct (.i .i64)])] (fun _=>(.s .n (.s (.s .n (.b (.b (.s .n (.s (.b (.s (.r [] (some ⟨ol 50 :: oi :: os :: uu 4 (oi :: uu 26 (ob :: ou :: [])),[]⟩)) .n) ⟨ol 50 :: oi :: os :: uu 4 (oi :: uu 28 []),[]⟩) .n)) ⟨ol 50 :: oi :: os :: uu 4 (oi :: uu 28 []),[]⟩) ⟨uu 36 [],[]⟩)) .n)))
noncomputable def jc5:FI:=jJ Tryz.f40 1 [.ag [.sl 50,.sl 50,.sl 68],.ct .s] [(false,[.ct (.i .i64)])] (fun _=>(.s (.r [0,0] none) (.s (.s .n (.b (.b (.s (.s (.r [] (some ⟨ou :: os :: .one (.ptr 0 0) :: ou :: ou :: oi :: uu 10 (ob :: uu 11 []),.var 32 [.sl 50,.sl 50,.sl 68] :: []⟩)) .n) (.s (.b .n ⟨ou :: os :: .one (.ptr 0 0) :: ou :: ou :: oi :: uu 22 [],.var 32 [.sl 50,.sl 50,.sl 68] :: []⟩) .n)) ⟨ou :: os :: .one (.ptr 0 0) :: ou :: ou :: oi :: uu 22 [],.var 32 [.sl 50,.sl 50,.sl 68] :: []⟩) ⟨uu 28 [],.u :: []⟩)) .n)))
noncomputable def fi8:FI:=jJ Tryz.f8 1 [.ct (.sl 50)] [(false,[.new 1050])] (fun _=>(.s .n (.s (.r [0,0,0] none) .n)))
noncomputable def jc4:FI:=jJ Tryz.f41 1 [.ag [.i .i64,.b,.s,.s,.sl 9,.sl 97,.sl 102,.sl 105,.sl 68,.b,.sl 108]] [(false,[.ct .b])] (fun _=>(.s (.r [0,0] none) (.s (.r [] (some ⟨ou :: ou :: ob :: uu 8 [],.u :: []⟩)) .n)))
noncomputable def jc3:FI:=jJ Tryz.f42 21 [.ct (.sl 50),.ag [.sl 50,.sl 50,.sl 68]] [(false,[.new 68])] (fun _=>(.s (.r [0,0] none) (.s .n (.s .n (.s (.s .n (.c (.s (.s .n (.b (.b (.s .n (.s .n (.s (.b (.s (.r [0,0,1,0] none) (.s .n (.c (.r [0,0,2,3,0] none) .n (some ⟨uu 6 (.one (.own 68 4) :: uu 13 (ol 68 :: oi :: oi :: uu 45 [])),vv 21 []⟩)))) ⟨uu 6 (.one (.own 68 5) :: uu 13 (ol 68 :: oi :: oi :: uu 45 [])),vv 21 []⟩) .n))) ⟨uu 6 (.one (.own 68 6) :: uu 13 (ol 68 :: oi :: oi :: uu 45 [])),vv 21 []⟩) ⟨uu 6 (.one (.own 68 7) :: uu 61 []),vv 21 []⟩)) .n) .n none)) (.s (.s (.r [8,0,0] none) (.b (.b (.s .n (.s .n (.s (.b (.s .n (.s .n (.s (.r [] (some ⟨uu 3 (.one (.ptr 0 0) :: ou :: ou :: .one (.own 68 19) :: ou :: ou :: oi :: os :: uu 27 (.one (.own 9 10) :: oi :: oi :: uu 17 (ob :: uu 9 []))),.var 32 [.sl 50,.sl 50,.sl 68] :: vv 20 []⟩)) (.c (.r [0,0,0,0,0,12,13,0] none) .n (some ⟨uu 3 (.one (.ptr 0 0) :: ou :: ou :: .one (.own 68 14) :: uu 31 (.one (.own 9 15) :: oi :: oi :: uu 27 [])),.var 32 [.sl 50,.sl 50,.sl 68] :: vv 20 []⟩))))) ⟨uu 3 (.one (.ptr 0 0) :: ou :: ou :: .one (.own 68 16) :: uu 31 (.one (.own 9 17) :: oi :: oi :: uu 27 [])),.var 32 [.sl 50,.sl 50,.sl 68] :: vv 20 []⟩) .n))) ⟨uu 3 (.one (.ptr 0 0) :: ou :: ou :: .one (.own 68 18) :: uu 31 (.one (.own 9 9) :: oi :: oi :: uu 27 [])),.var 32 [.sl 50,.sl 50,.sl 68] :: vv 20 []⟩) ⟨uu 6 (.one (.own 68 20) :: uu 61 []),vv 21 []⟩)) .n))))))
noncomputable def jc2:FI:=jJ Tryz.f43 0 [.ct (.sl 68),.ct (.sl 68)] [(false,[.ct .b])] (fun _=>(.s .n (.s .n (.s (.s .n (.b (.b (.s .n (.s (.b .n ⟨ol 68 :: ol 68 :: uu 3 (oi :: uu 21 []),[]⟩) .n)) ⟨ol 68 :: ol 68 :: uu 3 (oi :: uu 21 []),[]⟩) ⟨uu 27 [],[]⟩)) .n))))
noncomputable def jck:FI:=jJ Tryz.f24 2 [.ag [.i .i64,.b,.s,.s,.sl 9,.sl 97,.sl 102,.sl 105,.sl 68,.b,.sl 108],.ag [.i .i64,.b,.s,.s,.sl 9,.sl 97,.sl 102,.sl 105,.sl 68,.b,.sl 108]] [(false,[.ct .b])] (fun _=>(.s (.r [0,1,0] none) .n))
noncomputable def jcv:FI:=jJ Tryz.f11 0 [.ct (.sl 50),.ct (.i .i64)] [(false,[.ct (.i .i64)])] (fun _=>(.s .n (.s (.s .n (.b (.b (.s .n (.s (.b .n ⟨ol 50 :: oi :: uu 3 (oi :: uu 112 []),[]⟩) .n)) ⟨ol 50 :: oi :: uu 3 (oi :: uu 112 []),[]⟩) ⟨ou :: oi :: uu 116 [],[]⟩)) .n)))
noncomputable def jc9:FI:=jJ Tryz.f36 0 [.ct (.sl 68),.ct (.i .i64)] [(false,[.ct (.i .i64)])] (fun _=>(.s .n (.s (.s .n (.b (.b (.s .n (.s (.b .n ⟨ol 68 :: oi :: uu 3 (oi :: uu 26 []),[]⟩) .n)) ⟨ol 68 :: oi :: uu 3 (oi :: uu 26 []),[]⟩) ⟨ou :: oi :: uu 30 [],[]⟩)) .n)))
noncomputable def jc1:FI:=jJ Tryz.f44 0 [.ct (.sl 9),.ct (.i .i64)] [(false,[.ct (.i .i64)])] (fun _=>(.s .n (.s .n (.s .n (.s (.s .n (.b (.b (.s .n (.s (.b .n ⟨ol 9 :: oi :: uu 3 (oi :: uu 22 []),[]⟩) .n)) ⟨ol 9 :: oi :: uu 3 (oi :: uu 22 []),[]⟩) ⟨ou :: oi :: uu 26 [],[]⟩)) .n)))))
noncomputable def jc0:FI:=jJ Tryz.f45 0 [.ct (.sl 118),.ct (.i .i64)] [(false,[.ct (.i .i64)])] (fun _=>(.s .n (.s .n (.s .n (.s (.s .n (.b (.b (.s .n (.s (.b .n ⟨ol 118 :: oi :: uu 3 (oi :: uu 21 []),[]⟩) .n)) ⟨ol 118 :: oi :: uu 3 (oi :: uu 21 []),[]⟩) ⟨ou :: oi :: uu 25 [],[]⟩)) .n)))))
noncomputable def jbZ:FI:=jJ Tryz.f46 0 [.ct (.sl 124),.ct (.i .i64)] [(false,[.ct (.i .i64)])] (fun _=>(.s .n (.s .n (.s .n (.s (.s .n (.b (.b (.s .n (.s (.b .n ⟨ol 124 :: oi :: uu 3 (oi :: uu 21 []),[]⟩) .n)) ⟨ol 124 :: oi :: uu 3 (oi :: uu 21 []),[]⟩) ⟨ou :: oi :: uu 25 [],[]⟩)) .n)))))
noncomputable def jbY:FI:=jJ Tryz.f47 0 [.ct (.sl 127),.ct (.i .i64)] [(false,[.ct (.i .i64)])] (fun _=>(.s .n (.s .n (.s .n (.s (.s .n (.b (.b (.s .n (.s (.b .n ⟨ol 127 :: oi :: uu 3 (oi :: uu 21 []),[]⟩) .n)) ⟨ol 127 :: oi :: uu 3 (oi :: uu 21 []),[]⟩) ⟨ou :: oi :: uu 25 [],[]⟩)) .n)))))
noncomputable def jbX:FI:=jJ Tryz.f48 0 [.ct (.sl 129),.ct (.i .i64)] [(false,[.ct (.i .i64)])] (fun _=>(.s .n (.s .n (.s .n (.s (.s .n (.b (.b (.s .n (.s (.b .n ⟨ol 129 :: oi :: uu 3 (oi :: uu 21 []),[]⟩) .n)) ⟨ol 129 :: oi :: uu 3 (oi :: uu 21 []),[]⟩) ⟨ou :: oi :: uu 25 [],[]⟩)) .n)))))
noncomputable def jbW:FI:=jJ Tryz.f49 0 [.ct (.sl 133),.ct (.i .i64)] [(false,[.ct (.i .i64)])] (fun _=>(.s .n (.s .n (.s .n (.s (.s .n (.b (.b (.s .n (.s (.b .n ⟨ol 133 :: oi :: uu 3 (oi :: uu 21 []),[]⟩) .n)) ⟨ol 133 :: oi :: uu 3 (oi :: uu 21 []),[]⟩) ⟨ou :: oi :: uu 25 [],[]⟩)) .n)))))
noncomputable def jbR:FI:=jJ Tryz.f54 4 [.ct (.sl 9)] [(false,[.new 9])] (fun _=>(.s .n (.s (.r [0,0,0,0] none) (.s (.s .n (.b (.b (.s .n (.s (.b .n ⟨ol 9 :: ou :: ou :: .one (.own 9 2) :: oi :: uu 17 [],vv 4 []⟩) .n)) ⟨ol 9 :: ou :: ou :: .one (.own 9 1) :: oi :: uu 17 [],vv 4 []⟩) ⟨uu 3 (.one (.own 9 3) :: uu 18 []),vv 4 []⟩)) .n))))
noncomputable def jbQ:FI:=jJ Tryz.f55 7 [.ct (.sl 118)] [(false,[.new 1097])] (fun _=>(.s .n (.s (.r [0,0,1,0] none) (.s (.s .n (.b (.b (.s .n (.s (.b (.r [0,0,0,0,0,0,3,0,0] none) ⟨ol 118 :: ou :: ou :: .one (.own 1097 5) :: oi :: uu 18 [],vv 7 []⟩) .n)) ⟨ol 118 :: ou :: ou :: .one (.own 1097 2) :: oi :: uu 18 [],vv 7 []⟩) ⟨uu 3 (.one (.own 1097 6) :: uu 19 []),vv 7 []⟩)) .n))))
noncomputable def jbP:FI:=jJ Tryz.f56 8 [.ct (.sl 124)] [(false,[.new 1102])] (fun _=>(.s .n (.s (.r [0,0,1,0] none) (.s (.s .n (.b (.b (.s .n (.s (.b (.r [0,0,0,0,0,0,3,0,0] none) ⟨ol 124 :: ou :: ou :: .one (.own 1102 6) :: oi :: uu 18 [],vv 8 []⟩) .n)) ⟨ol 124 :: ou :: ou :: .one (.own 1102 2) :: oi :: uu 18 [],vv 8 []⟩) ⟨uu 3 (.one (.own 1102 7) :: uu 19 []),vv 8 []⟩)) .n))))
noncomputable def jbO:FI:=jJ Tryz.f57 6 [.ct (.sl 127)] [(false,[.new 1105])] (fun _=>(.s .n (.s (.r [0,0,1,0] none) (.s (.s .n (.b (.b (.s .n (.s (.b (.r [0,0,0,0,0,0,3,0,0] none) ⟨ol 127 :: ou :: ou :: .one (.own 1105 4) :: oi :: uu 18 [],vv 6 []⟩) .n)) ⟨ol 127 :: ou :: ou :: .one (.own 1105 2) :: oi :: uu 18 [],vv 6 []⟩) ⟨uu 3 (.one (.own 1105 5) :: uu 19 []),vv 6 []⟩)) .n))))
noncomputable def jbN:FI:=jJ Tryz.f58 4 [.ct (.sl 129)] [(false,[.new 68])] (fun _=>(.s .n (.s (.r [0,0,0,0] none) (.s (.s .n (.b (.b (.s .n (.s (.b .n ⟨ol 129 :: ou :: ou :: .one (.own 68 2) :: oi :: uu 18 [],vv 4 []⟩) .n)) ⟨ol 129 :: ou :: ou :: .one (.own 68 1) :: oi :: uu 18 [],vv 4 []⟩) ⟨uu 3 (.one (.own 68 3) :: uu 19 []),vv 4 []⟩)) .n))))
noncomputable def jbM:FI:=jJ Tryz.f59 6 [.ct (.sl 133)] [(false,[.new 1108])] (fun _=>(.s .n (.s (.r [0,0,1,0] none) (.s (.s .n (.b (.b (.s .n (.s (.b (.r [0,0,0,0,0,0,3,0,0] none) ⟨ol 133 :: ou :: ou :: .one (.own 1108 4) :: oi :: uu 18 [],vv 6 []⟩) .n)) ⟨ol 133 :: ou :: ou :: .one (.own 1108 2) :: oi :: uu 18 [],vv 6 []⟩) ⟨uu 3 (.one (.own 1108 5) :: uu 19 []),vv 6 []⟩)) .n))))
noncomputable def jbB:FI:=jJ Tryz.f72 0 [.ct (.i .i64)] [(false,[.ct (.i .i64)])] (fun _=>(.s .n (.s (.s .n (.b .n ⟨uu 8 [],[]⟩)) .n)))
noncomputable def fi6:FI:=jJ Tryz.f6 35 [.ct (.sl 50)] [(false,[.new 50])] (fun _=>(.s .n (.s (.s .n (.c (.s (.r [0,0] none) (.s (.s .n (.b (.b (.s .n (.s (.b (.r [0,0,0,0,0,2,8,9,0] none) ⟨ol 50 :: ou :: ou :: .one (.own 50 10) :: oi :: uu 89 [],vv 35 []⟩) .n)) ⟨ol 50 :: ou :: ou :: .one (.own 50 1) :: oi :: uu 89 [],vv 35 []⟩) ⟨uu 3 (.one (.own 50 11) :: uu 90 []),vv 35 []⟩)) .n)) .n none)) (.s (.r [0,0,0,0,0,12,0] none) (.s (.r [0,0,0,0,0,13,0] none) (.s (.r [14,0] none) (.s .n (.s .n (.s (.b (.b (.s (.s (.r [] (some ⟨uu 5 (.one (.own 50 18) :: .one (.own 50 19) :: .one (.own 50 20) :: oi :: oi :: uu 41 (ob :: uu 42 [])),vv 35 []⟩)) .n) (.b (.s (.r [] (some ⟨uu 5 (.one (.own 50 21) :: .one (.own 50 22) :: .one (.own 50 23) :: oi :: oi :: uu 64 (ob :: uu 19 [])),vv 35 []⟩)) (.c (.s (.r [0,0,0,0,0,24,25,0] none) .n) (.s (.r [0,0,0,0,0,26,27,0] none) .n) (some ⟨uu 5 (.one (.own 50 28) :: .one (.own 50 29) :: .one (.own 50 30) :: oi :: oi :: uu 84 []),vv 35 []⟩))) ⟨uu 5 (.one (.own 50 31) :: .one (.own 50 32) :: .one (.own 50 33) :: oi :: oi :: uu 84 []),vv 35 []⟩)) ⟨uu 5 (.one (.own 50 15) :: .one (.own 50 16) :: .one (.own 50 17) :: oi :: oi :: uu 84 []),vv 35 []⟩) ⟨uu 7 (.one (.own 50 34) :: uu 86 []),vv 35 []⟩) .n)))))))))
noncomputable def jcm:FI:=jJ Tryz.f20 12 [.ct (.sl 50)] [(false,[.new 1050])] (fun _=>(.s .n (.s .n (.s (.s .n (.b (.b (.s .n (.s .n (.s (.b (.s (.r [0,0,0,0] none) (.r [0,0,1,7,8,0] none)) ⟨uu 3 (.one (.own 1050 9) :: ou :: ou :: ol 50 :: oi :: oi :: uu 10 []),vv 12 []⟩) .n))) ⟨uu 3 (.one (.own 1050 10) :: ou :: ou :: ol 50 :: oi :: oi :: uu 10 []),vv 12 []⟩) ⟨uu 3 (.one (.own 1050 11) :: uu 15 []),vv 12 []⟩)) .n))))
noncomputable def jbA:FI:=jJ Tryz.f73 1 [.ct (.sl 50),.fn] [(false,[.ct (.i .i64)])] (fun h=>match h.tm with
  | [_,.one (.fn 74 _)]=>(.s .n (.s (.s .n (.b (.b (.s .n (.s .n (.s (.b .n ⟨ol 50 :: .one (.fn 74 []) :: uu 5 (oi :: oi :: uu 10 []),.u :: []⟩) .n))) ⟨ol 50 :: .one (.fn 74 []) :: uu 5 (oi :: oi :: uu 10 []),.u :: []⟩) ⟨uu 19 [],.u :: []⟩)) .n))
  | [_,.one (.fn 122 _)]=>(.s .n (.s (.s .n (.b (.b (.s .n (.s .n (.s (.b .n ⟨ol 50 :: .one (.fn 122 [0]) :: uu 5 (oi :: oi :: uu 10 []),.var 9 [.s] :: []⟩) .n))) ⟨ol 50 :: .one (.fn 122 [0]) :: uu 5 (oi :: oi :: uu 10 []),.var 9 [.s] :: []⟩) ⟨uu 19 [],.var 9 [.s] :: []⟩)) .n))
  | _=>.n)
noncomputable def jby:FI:=jJ Tryz.f75 1 [.ct (.i .i64)] [(false,[.ct .s])] (fun _=>(.s .n (.s (.r [0,0] none) .n)))
noncomputable def jbw:FI:=jJ Tryz.f78 1 [.ag [.sl 50,.sl 50,.sl 68],.ct .s] [(false,[.ct (.i .i64)])] (fun _=>(.s (.r [0,0] none) .n))
noncomputable def jbv:FI:=jJ Tryz.f79 2 [.ag [.i .i64,.s],.ag [.i .i64,.s]] [(false,[.ct .b])] (fun _=>(.s (.r [0,1,0] none) .n))
noncomputable def jbK:FI:=jJ Tryz.f63 0 [.ct (.sl 9),.ct (.sl 9)] [(false,[.ct .b])] (fun _=>(.s .n (.s .n (.s (.s .n (.b (.b (.s .n (.s (.b .n ⟨ol 9 :: ol 9 :: uu 3 (oi :: uu 20 []),[]⟩) .n)) ⟨ol 9 :: ol 9 :: uu 3 (oi :: uu 20 []),[]⟩) ⟨uu 26 [],[]⟩)) .n))))
noncomputable def jbJ:FI:=jJ Tryz.f64 0 [.ct (.sl 97),.ct (.sl 97)] [(false,[.ct .b])] (fun _=>(.s .n (.s .n (.s (.s .n (.b (.b (.s .n (.s (.b .n ⟨ol 97 :: ol 97 :: uu 3 (oi :: uu 21 []),[]⟩) .n)) ⟨ol 97 :: ol 97 :: uu 3 (oi :: uu 21 []),[]⟩) ⟨uu 27 [],[]⟩)) .n))))
noncomputable def jbI:FI:=jJ Tryz.f65 0 [.ct (.sl 102),.ct (.sl 102)] [(false,[.ct .b])] (fun _=>(.s .n (.s .n (.s (.s .n (.b (.b (.s .n (.s (.b .n ⟨ol 102 :: ol 102 :: uu 3 (oi :: uu 21 []),[]⟩) .n)) ⟨ol 102 :: ol 102 :: uu 3 (oi :: uu 21 []),[]⟩) ⟨uu 27 [],[]⟩)) .n))))
noncomputable def jbH:FI:=jJ Tryz.f66 0 [.ct (.sl 105),.ct (.sl 105)] [(false,[.ct .b])] (fun _=>(.s .n (.s .n (.s (.s .n (.b (.b (.s .n (.s (.b .n ⟨ol 105 :: ol 105 :: uu 3 (oi :: uu 21 []),[]⟩) .n)) ⟨ol 105 :: ol 105 :: uu 3 (oi :: uu 21 []),[]⟩) ⟨uu 27 [],[]⟩)) .n))))
noncomputable def jbG:FI:=jJ Tryz.f67 0 [.ct (.sl 108),.ct (.sl 108)] [(false,[.ct .b])] (fun _=>(.s .n (.s .n (.s (.s .n (.b (.b (.s .n (.s (.b .n ⟨ol 108 :: ol 108 :: uu 3 (oi :: uu 21 []),[]⟩) .n)) ⟨ol 108 :: ol 108 :: uu 3 (oi :: uu 21 []),[]⟩) ⟨uu 27 [],[]⟩)) .n))))
noncomputable def jcd:FI:=jJ Tryz.f32 0 [.ct (.sl 9),.ct (.i .i64)] [(false,[.ct (.i .i64)])] (fun _=>(.s .n (.s (.s .n (.b (.b (.s .n (.s (.b .n ⟨ol 9 :: oi :: uu 3 (oi :: uu 16 []),[]⟩) .n)) ⟨ol 9 :: oi :: uu 3 (oi :: uu 16 []),[]⟩) ⟨ou :: oi :: uu 20 [],[]⟩)) .n)))
noncomputable def jcc:FI:=jJ Tryz.f33 0 [.ct (.sl 97),.ct (.i .i64)] [(false,[.ct (.i .i64)])] (fun _=>(.s .n (.s (.s .n (.b (.b (.s .n (.s (.b .n ⟨ol 97 :: oi :: uu 3 (oi :: uu 67 []),[]⟩) .n)) ⟨ol 97 :: oi :: uu 3 (oi :: uu 67 []),[]⟩) ⟨ou :: oi :: uu 71 [],[]⟩)) .n)))
noncomputable def jcb:FI:=jJ Tryz.f34 0 [.ct (.sl 102),.ct (.i .i64)] [(false,[.ct (.i .i64)])] (fun _=>(.s .n (.s (.s .n (.b (.b (.s .n (.s (.b .n ⟨ol 102 :: oi :: uu 3 (oi :: uu 110 []),[]⟩) .n)) ⟨ol 102 :: oi :: uu 3 (oi :: uu 110 []),[]⟩) ⟨ou :: oi :: uu 114 [],[]⟩)) .n)))
noncomputable def jca:FI:=jJ Tryz.f35 0 [.ct (.sl 105),.ct (.i .i64)] [(false,[.ct (.i .i64)])] (fun _=>(.s .n (.s (.s .n (.b (.b (.s .n (.s (.b .n ⟨ol 105 :: oi :: uu 3 (oi :: uu 36 []),[]⟩) .n)) ⟨ol 105 :: oi :: uu 3 (oi :: uu 36 []),[]⟩) ⟨ou :: oi :: uu 40 [],[]⟩)) .n)))
noncomputable def jc8:FI:=jJ Tryz.f37 0 [.ct (.sl 108),.ct (.i .i64)] [(false,[.ct (.i .i64)])] (fun _=>(.s .n (.s (.s .n (.b (.b (.s .n (.s (.b .n ⟨ol 108 :: oi :: uu 3 (oi :: uu 26 []),[]⟩) .n)) ⟨ol 108 :: oi :: uu 3 (oi :: uu 26 []),[]⟩) ⟨ou :: oi :: uu 30 [],[]⟩)) .n)))
noncomputable def jbu:FI:=jJ Tryz.f80 1 [.ag [.s,.s,.sl 124,.s,.s,.sl 133],.ct (.i .i64)] [(false,[.ct (.i .i64)])] (fun _=>(.s (.r [0,0] none) .n))
noncomputable def jbt:FI:=jJ Tryz.f81 1 [.ag [.s,.s,.s,.s,.b,.i .i64,.s,.sl 122,.sl 9,.sl 133],.ct (.i .i64)] [(false,[.ct (.i .i64)])] (fun _=>(.s (.r [0,0] none) .n))
noncomputable def jbs:FI:=jJ Tryz.f82 1 [.ag [.s,.s,.sl 133],.ct (.i .i64)] [(false,[.ct (.i .i64)])] (fun _=>(.s (.r [0,0] none) .n))
noncomputable def jbr:FI:=jJ Tryz.f83 1 [.ag [.i .i64,.s],.ct (.i .i64)] [(false,[.ct (.i .i64)])] (fun _=>(.s (.r [0,0] none) .n))
noncomputable def jbq:FI:=jJ Tryz.f84 1 [.ag [.s,.sl 168],.ct (.i .i64)] [(false,[.ct (.i .i64)])] (fun _=>(.s (.r [0,0] none) .n))
noncomputable def jbn:FI:=jJ Tryz.f87 5 [.ag [.s,.s,.sl 124,.s,.s,.sl 133]] [(true,[.ct .s,.ct .s,.new 1102,.ct .s,.ct .s,.new 1108])] (fun _=>(.s (.r [0,1] none) (.s (.r [2] none) (.s .n (.s .n (.s (.r [0,0,3,0,0] none) (.s .n (.s (.r [0,0,4,0,0] none) .n))))))))
noncomputable def jbm:FI:=jJ Tryz.f88 6 [.ag [.s,.s,.s,.s,.b,.i .i64,.s,.sl 122,.sl 9,.sl 133]] [(true,[.ct .s,.ct .s,.ct .s,.ct .s,.ct .b,.ct (.i .i64),.ct .s,.new 1100,.new 9,.new 1108])] (fun _=>(.s (.r [0,1] none) (.s (.r [2] none) (.s .n (.s .n (.s .n (.s .n (.s (.r [0,0,3,0,0] none) (.s (.r [0,0,5,0,0] none) .n)))))))))
noncomputable def jbl:FI:=jJ Tryz.f89 4 [.ag [.s,.s,.sl 133]] [(true,[.ct .s,.ct .s,.new 1108])] (fun _=>(.s (.r [0,1] none) (.s (.r [2] none) (.s .n (.s .n (.s (.r [0,0,3,0,0] none) .n))))))
noncomputable def jbk:FI:=jJ Tryz.f90 3 [.ag [.i .i64,.s]] [(true,[.ct (.i .i64),.ct .s])] (fun _=>(.s (.r [0,1] none) (.s (.r [2] none) .n)))
noncomputable def jbj:FI:=jJ Tryz.f91 4 [.ag [.s,.sl 168]] [(true,[.ct .s,.new 1149])] (fun _=>(.s (.r [0,1] none) (.s (.r [2] none) (.s .n (.s (.r [0,0,3,0,0] none) .n)))))
noncomputable def jco:FI:=jJ Tryz.f18 11 [.ag [.i .i64,.b,.s,.s,.sl 9,.sl 97,.sl 102,.sl 105,.sl 68,.b,.sl 108]] [(true,[.ct (.i .i64),.ct .b,.ct .s,.ct .s,.new 9,.new 1097,.new 1102,.new 1105,.new 68,.ct .b,.new 1108])] (fun _=>(.s (.r [0,1] none) (.s (.r [2,0,0,3,0,0] none) (.s (.r [0,0,4,0,0] none) (.s (.r [0,0,5,0,0] none) (.s (.r [0,0,6,0,0] none) (.s (.r [8,0,0,9,0,0] none) (.s (.r [0,0,10,0,0] none) .n))))))))
noncomputable def jbL:FI:=jJ Tryz.f60 8 [.ag [.i .i64,.b,.s,.s,.sl 9,.sl 97,.sl 102,.sl 105,.sl 68,.b,.sl 108]] [(true,[.ct (.i .i64),.ct .b,.ct .s,.ct .s,.new 9,.new 1097,.new 1102,.new 1105,.new 68,.ct .b,.new 1108])] (fun _=>(.s (.r [0,1] none) (.s (.r [0,0,2,0,0] none) (.s (.r [0,0,3,0,0] none) (.s (.r [0,0,4,0,0] none) (.s (.r [0,0,5,0,0] none) (.s (.r [0,0,6,0,0] none) (.s (.r [0,0,7,0,0] none) .n))))))))
noncomputable def jbz:FI:=jJ Tryz.f74 1 [.ag [.i .i64,.b,.s,.s,.sl 9,.sl 97,.sl 102,.sl 105,.sl 68,.b,.sl 108]] [(false,[.ct .b])] (fun _=>(.s (.r [0,0] none) .n))
noncomputable def jaV:FI:=jJ Tryz.f105 0 [.ct (.i .i64),.ct (.i .i64),.ct (.i .i64)] [(false,[.ct .b])] (fun _=>(.s .n (.s (.r [] (some ⟨uu 6 (ob :: uu 8 []),[]⟩)) .n)))
noncomputable def jaU:FI:=jJ Tryz.f107 1 [.ct (.sl 50),.ct .s] [(false,[.ct (.i .i64)])] (fun _=>(.s (.r [0,0] none) .n))
noncomputable def jaZ:FI:=jJ Tryz.f101 2 [.ag [.s,.s,.sl 102,.s,.s,.sl 108],.ag [.s,.s,.sl 102,.s,.s,.sl 108]] [(false,[.ct .b])] (fun _=>(.s (.r [0,1,0] none) .n))
noncomputable def jaY:FI:=jJ Tryz.f102 2 [.ag [.s,.s,.s,.s,.b,.i .i64,.s,.sl 100,.sl 9,.sl 108],.ag [.s,.s,.s,.s,.b,.i .i64,.s,.sl 100,.sl 9,.sl 108]] [(false,[.ct .b])] (fun _=>(.s (.r [0,1,0] none) .n))
noncomputable def jaX:FI:=jJ Tryz.f103 2 [.ag [.s,.s,.sl 108],.ag [.s,.s,.sl 108]] [(false,[.ct .b])] (fun _=>(.s (.r [0,1,0] none) .n))
noncomputable def jaW:FI:=jJ Tryz.f104 2 [.ag [.s,.sl 149],.ag [.s,.sl 149]] [(false,[.ct .b])] (fun _=>(.s (.r [0,1,0] none) .n))
noncomputable def jbD:FI:=jJ Tryz.f70 0 [.ct (.sl 100),.ct (.i .i64)] [(false,[.ct (.i .i64)])] (fun _=>(.s .n (.s (.s .n (.b (.b (.s .n (.s (.b .n ⟨ol 100 :: oi :: uu 3 (oi :: uu 44 []),[]⟩) .n)) ⟨ol 100 :: oi :: uu 3 (oi :: uu 44 []),[]⟩) ⟨ou :: oi :: uu 48 [],[]⟩)) .n)))
noncomputable def jbC:FI:=jJ Tryz.f71 0 [.ct (.sl 149),.ct (.i .i64)] [(false,[.ct (.i .i64)])] (fun _=>(.s .n (.s (.s .n (.b (.b (.s .n (.s (.b .n ⟨ol 149 :: oi :: uu 3 (oi :: uu 58 []),[]⟩) .n)) ⟨ol 149 :: oi :: uu 3 (oi :: uu 58 []),[]⟩) ⟨ou :: oi :: uu 62 [],[]⟩)) .n)))
noncomputable def jaT:FI:=jJ Tryz.f108 1 [.ag [.s,.s],.ct (.i .i64)] [(false,[.ct (.i .i64)])] (fun _=>(.s (.r [0,0] none) .n))
noncomputable def jaS:FI:=jJ Tryz.f109 1 [.ag [.i .i64,.s,.sl 122,.sl 9],.ct (.i .i64)] [(false,[.ct (.i .i64)])] (fun _=>(.s (.r [0,0] none) .n))
noncomputable def jaR:FI:=jJ Tryz.f110 0 [.ct (.sl 168),.ct (.i .i64)] [(false,[.ct (.i .i64)])] (fun _=>(.s .n (.s .n (.s .n (.s (.s .n (.b (.b (.s .n (.s (.b .n ⟨ol 168 :: oi :: uu 3 (oi :: uu 21 []),[]⟩) .n)) ⟨ol 168 :: oi :: uu 3 (oi :: uu 21 []),[]⟩) ⟨ou :: oi :: uu 25 [],[]⟩)) .n)))))
noncomputable def jaQ:FI:=jJ Tryz.f111 3 [.ag [.s,.s]] [(true,[.ct .s,.ct .s])] (fun _=>(.s (.r [0,1] none) (.s (.r [2] none) .n)))
noncomputable def jaP:FI:=jJ Tryz.f112 5 [.ag [.i .i64,.s,.sl 122,.sl 9]] [(true,[.ct (.i .i64),.ct .s,.new 1100,.new 9])] (fun _=>(.s (.r [0,1] none) (.s (.r [2] none) (.s .n (.s .n (.s (.r [0,0,3,0,0] none) (.s (.r [0,0,4,0,0] none) .n)))))))
noncomputable def jaO:FI:=jJ Tryz.f113 7 [.ct (.sl 168)] [(false,[.new 1149])] (fun _=>(.s .n (.s (.r [0,0,1,0] none) (.s (.s .n (.b (.b (.s .n (.s (.b (.r [0,0,0,0,0,0,3,0,0] none) ⟨ol 168 :: ou :: ou :: .one (.own 1149 5) :: oi :: uu 18 [],vv 7 []⟩) .n)) ⟨ol 168 :: ou :: ou :: .one (.own 1149 2) :: oi :: uu 18 [],vv 7 []⟩) ⟨uu 3 (.one (.own 1149 6) :: uu 19 []),vv 7 []⟩)) .n))))
noncomputable def jbV:FI:=jJ Tryz.f50 11 [.ct (.sl 97)] [(false,[.new 1097])] (fun _=>(.s .n (.s (.r [1,0] none) (.s (.s .n (.b (.b (.s .n (.s (.b (.s (.r [0,0,0,0,3,0] none) (.s (.r [0,0,4,0,0] none) (.s (.r [0,0,5,0,0] none) (.r [0,0,7,8,0] none)))) ⟨ol 97 :: ou :: ou :: .one (.own 1097 9) :: oi :: uu 25 [],vv 11 []⟩) .n)) ⟨ol 97 :: ou :: ou :: .one (.own 1097 2) :: oi :: uu 25 [],vv 11 []⟩) ⟨uu 3 (.one (.own 1097 10) :: uu 26 []),vv 11 []⟩)) .n))))
noncomputable def jbU:FI:=jJ Tryz.f51 11 [.ct (.sl 102)] [(false,[.new 1102])] (fun _=>(.s .n (.s (.r [1,0] none) (.s (.s .n (.b (.b (.s .n (.s (.b (.s (.r [0,0,0,0,3,0] none) (.s (.r [0,0,4,0,0] none) (.s (.r [0,0,6,0,0] none) (.r [0,0,7,8,0] none)))) ⟨ol 102 :: ou :: ou :: .one (.own 1102 9) :: oi :: uu 25 [],vv 11 []⟩) .n)) ⟨ol 102 :: ou :: ou :: .one (.own 1102 2) :: oi :: uu 25 [],vv 11 []⟩) ⟨uu 3 (.one (.own 1102 10) :: uu 26 []),vv 11 []⟩)) .n))))
noncomputable def jbT:FI:=jJ Tryz.f52 9 [.ct (.sl 105)] [(false,[.new 1105])] (fun _=>(.s .n (.s (.r [1,0] none) (.s (.s .n (.b (.b (.s .n (.s (.b (.s (.r [0,0,0,0,3,0] none) (.s (.r [0,0,4,0,0] none) (.r [0,0,5,6,0] none))) ⟨ol 105 :: ou :: ou :: .one (.own 1105 7) :: oi :: uu 21 [],vv 9 []⟩) .n)) ⟨ol 105 :: ou :: ou :: .one (.own 1105 2) :: oi :: uu 21 [],vv 9 []⟩) ⟨uu 3 (.one (.own 1105 8) :: uu 22 []),vv 9 []⟩)) .n))))
noncomputable def jbS:FI:=jJ Tryz.f53 9 [.ct (.sl 108)] [(false,[.new 1108])] (fun _=>(.s .n (.s (.r [1,0] none) (.s (.s .n (.b (.b (.s .n (.s (.b (.r [0,0,0,0,0,0,0,0,0,0,0,3,0,5,6,0] none) ⟨ol 108 :: ou :: ou :: .one (.own 1108 7) :: oi :: uu 23 [],vv 9 []⟩) .n)) ⟨ol 108 :: ou :: ou :: .one (.own 1108 2) :: oi :: uu 23 [],vv 9 []⟩) ⟨uu 3 (.one (.own 1108 8) :: uu 24 []),vv 9 []⟩)) .n))))
noncomputable def jaa:FI:={ jJ Tryz.f92 4 [.ct (.sl 9)] [(false,[.new 9])] (fun _=>.n) with prim:=some (ZU 9) }
noncomputable def jap:AC:=ann (j8C (Tryz.f92.body.getD .skip)) .n
noncomputable def jan:AC:=ann (j8B (Tryz.f92.body.getD .skip)) (.s (.r [0,0,2,0] none) .n)
theorem jcy:∀ b l,(b=true → l=[]) → l.length < kC → j2J (fun t=>Kf t tyL) jaa 9 jap jan b l = .ret [.sl l]:=by
 intro b l h1 h2
 cases b with
 | true =>
  obtain rfl:=h1 rfl
  kernel_rfl
 | false =>
  refine (show j2J (fun t=>Kf t tyL) jaa 9 jap jan false l=(if ([]:List (List DC)).length + l.length < kC then Out.ret [.sl ([] ++ l)] else .fail) from by kernel_rfl).trans ?_
  rw [if_pos (by simpa using h2),ju]
noncomputable def jbi:FI:=jJ Tryz.f93 8 [.ct (.sl 97)] [(false,[.new 1097])] (fun _=>(.s .n (.s .n (.s (.s .n (.b (.b (.s .n (.s .n (.s (.b (.s (.r [0,0,0,0] none) (.s (.r [0,0,1,0,0] none) (.s (.r [0,0,2,0,0] none) (.r [0,0,3,4,0] none)))) ⟨uu 3 (.one (.own 1097 5) :: ou :: ou :: ol 97 :: oi :: oi :: uu 17 []),vv 8 []⟩) .n))) ⟨uu 3 (.one (.own 1097 6) :: ou :: ou :: ol 97 :: oi :: oi :: uu 17 []),vv 8 []⟩) ⟨uu 3 (.one (.own 1097 7) :: uu 22 []),vv 8 []⟩)) .n))))
noncomputable def jbh:FI:=jJ Tryz.f94 10 [.ct (.sl 102)] [(false,[.new 1102])] (fun _=>(.s .n (.s .n (.s (.s .n (.b (.b (.s .n (.s .n (.s (.b (.s (.r [0,0,0,0] none) (.s (.r [0,0,1,0,0] none) (.s (.r [0,0,3,0,0] none) (.r [0,0,5,6,0] none)))) ⟨uu 3 (.one (.own 1102 7) :: ou :: ou :: ol 102 :: oi :: oi :: uu 17 []),vv 10 []⟩) .n))) ⟨uu 3 (.one (.own 1102 8) :: ou :: ou :: ol 102 :: oi :: oi :: uu 17 []),vv 10 []⟩) ⟨uu 3 (.one (.own 1102 9) :: uu 22 []),vv 10 []⟩)) .n))))
noncomputable def jbg:FI:=jJ Tryz.f95 8 [.ct (.sl 105)] [(false,[.new 1105])] (fun _=>(.s .n (.s .n (.s (.s .n (.b (.b (.s .n (.s .n (.s (.b (.s (.r [0,0,0,0] none) (.s (.r [0,0,1,0,0] none) (.r [0,0,3,4,0] none))) ⟨uu 3 (.one (.own 1105 5) :: ou :: ou :: ol 105 :: oi :: oi :: uu 13 []),vv 8 []⟩) .n))) ⟨uu 3 (.one (.own 1105 6) :: ou :: ou :: ol 105 :: oi :: oi :: uu 13 []),vv 8 []⟩) ⟨uu 3 (.one (.own 1105 7) :: uu 18 []),vv 8 []⟩)) .n))))
noncomputable def ja9:FI:={ jJ Tryz.f96 4 [.ct (.sl 68)] [(false,[.new 68])] (fun _=>.n) with prim:=some (ZU 68) }
noncomputable def jao:AC:=ann (j8C (Tryz.f96.body.getD .skip)) .n
noncomputable def jam:AC:=ann (j8B (Tryz.f96.body.getD .skip)) (.s (.r [0,0,2,0] none) .n)
theorem jcx:∀ b l,(b=true → l=[]) → l.length < kC → j2J (fun t=>Kf t tyL) ja9 68 jao jam b l = .ret [.sl l]:=by
 intro b l h1 h2
 cases b with
 | true =>
  obtain rfl:=h1 rfl
  kernel_rfl
 | false =>
  refine (show j2J (fun t=>Kf t tyL) ja9 68 jao jam false l=(if ([]:List (List DC)).length + l.length < kC then Out.ret [.sl ([] ++ l)] else .fail) from by kernel_rfl).trans ?_
  rw [if_pos (by simpa using h2),ju]
noncomputable def jbf:FI:=jJ Tryz.f97 8 [.ct (.sl 108)] [(false,[.new 1108])] (fun _=>(.s .n (.s .n (.s (.s .n (.b (.b (.s .n (.s .n (.s (.b (.s (.r [0,0,0,0] none) (.r [0,0,0,0,0,1,0,3,4,0] none)) ⟨uu 3 (.one (.own 1108 5) :: ou :: ou :: ol 108 :: oi :: oi :: uu 14 []),vv 8 []⟩) .n))) ⟨uu 3 (.one (.own 1108 6) :: ou :: ou :: ol 108 :: oi :: oi :: uu 14 []),vv 8 []⟩) ⟨uu 3 (.one (.own 1108 7) :: uu 19 []),vv 8 []⟩)) .n))))
noncomputable def jaL:FI:=jJ Tryz.f117 2 [.ag [.s,.s],.ag [.s,.s]] [(false,[.ct .b])] (fun _=>(.s (.r [0,1,0] none) .n))
noncomputable def jaK:FI:=jJ Tryz.f118 2 [.ag [.i .i64,.s,.sl 100,.sl 9],.ag [.i .i64,.s,.sl 100,.sl 9]] [(false,[.ct .b])] (fun _=>(.s (.r [0,1,0] none) .n))
noncomputable def jaJ:FI:=jJ Tryz.f119 0 [.ct (.sl 149),.ct (.sl 149)] [(false,[.ct .b])] (fun _=>(.s .n (.s .n (.s (.s .n (.b (.b (.s .n (.s (.b .n ⟨ol 149 :: ol 149 :: uu 3 (oi :: uu 21 []),[]⟩) .n)) ⟨ol 149 :: ol 149 :: uu 3 (oi :: uu 21 []),[]⟩) ⟨uu 27 [],[]⟩)) .n))))
noncomputable def jaH:FI:=jJ Tryz.f123 0 [.ct (.sl 122),.ct (.i .i64)] [(false,[.ct (.i .i64)])] (fun _=>(.s .n (.s .n (.s .n (.s (.s .n (.b (.b (.s .n (.s (.b .n ⟨ol 122 :: oi :: uu 3 (oi :: uu 21 []),[]⟩) .n)) ⟨ol 122 :: oi :: uu 3 (oi :: uu 21 []),[]⟩) ⟨ou :: oi :: uu 25 [],[]⟩)) .n)))))
noncomputable def jaG:FI:=jJ Tryz.f124 1 [.ag [.s,.i .i64,.s,.sl 122,.sl 9],.ct (.i .i64)] [(false,[.ct (.i .i64)])] (fun _=>(.s (.r [0,0] none) .n))
noncomputable def jaF:FI:=jJ Tryz.f125 7 [.ct (.sl 122)] [(false,[.new 1100])] (fun _=>(.s .n (.s (.r [0,0,1,0] none) (.s (.s .n (.b (.b (.s .n (.s (.b (.r [0,0,0,0,0,0,3,0,0] none) ⟨ol 122 :: ou :: ou :: .one (.own 1100 5) :: oi :: uu 18 [],vv 7 []⟩) .n)) ⟨ol 122 :: ou :: ou :: .one (.own 1100 2) :: oi :: uu 18 [],vv 7 []⟩) ⟨uu 3 (.one (.own 1100 6) :: uu 19 []),vv 7 []⟩)) .n))))
noncomputable def jaE:FI:=jJ Tryz.f126 5 [.ag [.s,.i .i64,.s,.sl 122,.sl 9]] [(true,[.ct .s,.ct (.i .i64),.ct .s,.new 1100,.new 9])] (fun _=>(.s (.r [0,1] none) (.s (.r [2] none) (.s .n (.s (.r [0,0,3,0,0] none) .n)))))
noncomputable def jbp:FI:=jJ Tryz.f85 16 [.ag [.i .i64,.s,.sl 100,.sl 9]] [(true,[.ct (.i .i64),.ct .s,.new 1100,.new 9])] (fun _=>(.s (.r [0,1] none) (.s (.r [0,0,0,0,2,0,0,3,0,4,0] none) (.s (.s .n (.b (.b (.s .n (.s (.b (.r [0,0,0,0,0,0,0,6,9,10,0,0] none) ⟨ou :: .one (.ptr 0 0) :: .one (.ptr 1 0) :: .one (.ptr 4 0) :: oi :: uu 28 [],.var 100 [.i .i64,.s,.sl 100,.sl 9] :: .var 100 [.i .i64,.s,.nil,.nil] :: .u :: .u :: .var 100 [.i .i64,.s,.own 1100 11,.own 9 12] :: vv 11 []⟩) .n)) ⟨ou :: .one (.ptr 0 0) :: .one (.ptr 1 0) :: .one (.ptr 4 0) :: oi :: uu 28 [],.var 100 [.i .i64,.s,.sl 100,.sl 9] :: .var 100 [.i .i64,.s,.nil,.nil] :: .u :: .u :: .var 100 [.i .i64,.s,.own 1100 13,.own 9 5] :: vv 11 []⟩) ⟨ou :: ou :: .one (.ptr 1 0) :: .one (.ptr 4 0) :: uu 29 [],.u :: .var 100 [.i .i64,.s,.nil,.nil] :: .u :: .u :: .var 100 [.i .i64,.s,.own 1100 14,.own 9 15] :: vv 11 []⟩)) .n))))
noncomputable def jbo:FI:=jJ Tryz.f86 9 [.ct (.sl 149)] [(false,[.new 1149])] (fun _=>(.s .n (.s (.r [1,0] none) (.s (.s .n (.b (.b (.s .n (.s (.b (.r [0,0,0,0,0,0,0,0,0,0,0,3,0,5,6,0] none) ⟨ol 149 :: ou :: ou :: .one (.own 1149 7) :: oi :: uu 23 [],vv 9 []⟩) .n)) ⟨ol 149 :: ou :: ou :: .one (.own 1149 2) :: oi :: uu 23 [],vv 9 []⟩) ⟨uu 3 (.one (.own 1149 8) :: uu 24 []),vv 9 []⟩)) .n))))
noncomputable def jaN:FI:=jJ Tryz.f114 16 [.ag [.i .i64,.s,.sl 100,.sl 9]] [(true,[.ct (.i .i64),.ct .s,.new 1100,.new 9])] (fun _=>(.s (.r [0,1] none) (.s (.r [0,0,0,0,0,0,2,0,3,0] none) (.s (.s .n (.b (.b (.s .n (.s .n (.s (.b (.s (.r [0,0,5,0] none) (.r [0,0,0,6,9,10,0,0] none)) ⟨ou :: ou :: .one (.ptr 1 0) :: .one (.ptr 3 0) :: uu 11 (ol 100 :: oi :: oi :: uu 12 []),.u :: .var 100 [.i .i64,.s,.nil,.nil] :: .u :: .var 100 [.i .i64,.s,.own 1100 11,.own 9 12] :: vv 12 []⟩) .n))) ⟨ou :: ou :: .one (.ptr 1 0) :: .one (.ptr 3 0) :: uu 11 (ol 100 :: oi :: oi :: uu 12 []),.u :: .var 100 [.i .i64,.s,.nil,.nil] :: .u :: .var 100 [.i .i64,.s,.own 1100 13,.own 9 4] :: vv 12 []⟩) ⟨ou :: ou :: .one (.ptr 1 0) :: .one (.ptr 3 0) :: uu 26 [],.u :: .var 100 [.i .i64,.s,.nil,.nil] :: .u :: .var 100 [.i .i64,.s,.own 1100 14,.own 9 15] :: vv 12 []⟩)) .n))))
noncomputable def jaM:FI:=jJ Tryz.f115 8 [.ct (.sl 149)] [(false,[.new 1149])] (fun _=>(.s .n (.s .n (.s (.s .n (.b (.b (.s .n (.s .n (.s (.b (.s (.r [0,0,0,0] none) (.r [0,0,0,0,0,1,0,3,4,0] none)) ⟨uu 3 (.one (.own 1149 5) :: ou :: ou :: ol 149 :: oi :: oi :: uu 14 []),vv 8 []⟩) .n))) ⟨uu 3 (.one (.own 1149 6) :: ou :: ou :: ol 149 :: oi :: oi :: uu 14 []),vv 8 []⟩) ⟨uu 3 (.one (.own 1149 7) :: uu 19 []),vv 8 []⟩)) .n))))
noncomputable def jaI:FI:=jJ Tryz.f122 2 [.ag [.i .i64,.b,.s,.s,.sl 9,.sl 97,.sl 102,.sl 105,.sl 68,.b,.sl 108],.ptr] [(false,[.ct .b])] (fun _=>(.s (.r [1,0] none) .n))
noncomputable def jaD:FI:=jJ Tryz.f128 0 [.ct (.sl 100),.ct (.sl 100)] [(false,[.ct .b])] (fun _=>(.s .n (.s .n (.s (.s .n (.b (.b (.s .n (.s (.b .n ⟨ol 100 :: ol 100 :: uu 3 (oi :: uu 21 []),[]⟩) .n)) ⟨ol 100 :: ol 100 :: uu 3 (oi :: uu 21 []),[]⟩) ⟨uu 27 [],[]⟩)) .n))))
noncomputable def jaC:FI:=jJ Tryz.f129 2 [.ag [.s,.i .i64,.s,.sl 100,.sl 9],.ag [.s,.i .i64,.s,.sl 100,.sl 9]] [(false,[.ct .b])] (fun _=>(.s (.r [0,1,0] none) .n))
noncomputable def jcw:FI:={ jJ Tryz.f10 0 [] [] (fun _=>.n) with mark:=some (mkI mT pe 10 50) }
noncomputable def jcj:FI:={ jJ Tryz.f26 0 [] [] (fun _=>.n) with mark:=some (mkI mT pe 26 9) }
noncomputable def jci:FI:={ jJ Tryz.f27 0 [] [] (fun _=>.n) with mark:=some (mkI mT pe 27 97) }
noncomputable def jch:FI:={ jJ Tryz.f28 0 [] [] (fun _=>.n) with mark:=some (mkI mT pe 28 102) }
noncomputable def jcg:FI:={ jJ Tryz.f29 0 [] [] (fun _=>.n) with mark:=some (mkI mT pe 29 105) }
noncomputable def jcf:FI:={ jJ Tryz.f30 0 [] [] (fun _=>.n) with mark:=some (mkI mT pe 30 68) }
noncomputable def jce:FI:={ jJ Tryz.f31 0 [] [] (fun _=>.n) with mark:=some (mkI mT pe 31 108) }
noncomputable def jbF:FI:={ jJ Tryz.f68 0 [] [] (fun _=>.n) with mark:=some (mkI mT pe 68 100) }
noncomputable def jbE:FI:={ jJ Tryz.f69 0 [] [] (fun _=>.n) with mark:=some (mkI mT pe 69 149) }
noncomputable def jcr:FI:={ jJ Tryz.f15 0 [] [] (fun _=>.n) with mark:=some (jaA mT pe 3 [((0,50),10),((1,50),10),((2,68),30)]) }
noncomputable def jcl:FI:={ jJ Tryz.f21 0 [] [] (fun _=>.n) with stf:=some (j94 50 22 3) }
noncomputable def jbx:FI:={ jJ Tryz.f76 0 [] [] (fun _=>.n) with stf:=some (j95 68 77 0) }
noncomputable def fnL:List (Nat × FI):=[(4,fi4),(5,fi5),(7,fi7),(12,jcu),(13,jct),(14,jcs),(9,fi9),(16,jcq),(17,jcp),(19,jcn),(38,jc7),(39,jc6),(40,jc5),(8,fi8),(41,jc4),(42,jc3),(43,jc2),(24,jck),(11,jcv),(36,jc9),(44,jc1),(45,jc0),(46,jbZ),(47,jbY),(48,jbX),(49,jbW),(54,jbR),(55,jbQ),(56,jbP),(57,jbO),(58,jbN),(59,jbM),(72,jbB),(6,fi6),(20,jcm),(73,jbA),(75,jby),(78,jbw),(79,jbv),(63,jbK),(64,jbJ),(65,jbI),(66,jbH),(67,jbG),(25,j9i),(32,jcd),(33,jcc),(34,jcb),(35,jca),(37,jc8),(80,jbu),(81,jbt),(82,jbs),(83,jbr),(84,jbq),(87,jbn),(88,jbm),(89,jbl),(90,jbk),(91,jbj),(18,jco),(60,jbL),(74,jbz),(105,jaV),(107,jaU),(101,jaZ),(102,jaY),(103,jaX),(104,jaW),(70,jbD),(71,jbC),(108,jaT),(109,jaS),(110,jaR),(111,jaQ),(112,jaP),(113,jaO),(50,jbV),(51,jbU),(52,jbT),(53,jbS),(92,jaa),(93,jbi),(94,jbh),(95,jbg),(96,ja9),(97,jbf),(117,jaL),(118,jaK),(119,jaJ),(123,jaH),(124,jaG),(125,jaF),(126,jaE),(85,jbp),(86,jbo),(114,jaN),(115,jaM),(122,jaI),(128,jaD),(129,jaC),(10,jcw),(26,jcj),(27,jci),(28,jch),(29,jcg),(30,jcf),(31,jce),(68,jbF),(69,jbE),(15,jcr),(21,jcl),(76,jbx)]
noncomputable def cfg:Cfg:=⟨fun t=>Kf t tyL,fun f=>Kf f fnL⟩
theorem fns:∀ x ∈ fnL,FnOk Tryz.prog Glob.none cfg.ty x.1 x.2 :=
 all_cons (ji Tryz.func4 (by kernel_rfl)) <|
 all_cons (ji Tryz.func5 (by kernel_rfl)) <|
 all_cons (ji Tryz.func7 (by kernel_rfl)) <|
 all_cons (ji Tryz.func12 (by kernel_rfl)) <|
 all_cons (ji Tryz.func13 (by kernel_rfl)) <|
 all_cons (ji Tryz.func14 (by kernel_rfl)) <|
 all_cons (ji Tryz.func9 (by kernel_rfl)) <|
 all_cons (ji Tryz.func16 (by kernel_rfl)) <|
 all_cons (ji Tryz.func17 (by kernel_rfl)) <|
 all_cons (ji Tryz.func19 (by kernel_rfl)) <|
 all_cons (ji Tryz.func38 (by kernel_rfl)) <|
 all_cons (ji Tryz.func39 (by kernel_rfl)) <|
 all_cons (ji Tryz.func40 (by kernel_rfl)) <|
 all_cons (ji Tryz.func8 (by kernel_rfl)) <|
 all_cons (ji Tryz.func41 (by kernel_rfl)) <|
 all_cons (ji Tryz.func42 (by kernel_rfl)) <|
 all_cons (ji Tryz.func43 (by kernel_rfl)) <|
 all_cons (ji Tryz.func24 (by kernel_rfl)) <|
 all_cons (ji Tryz.func11 (by kernel_rfl)) <|
 all_cons (ji Tryz.func36 (by kernel_rfl)) <|
 all_cons (ji Tryz.func44 (by kernel_rfl)) <|
 all_cons (ji Tryz.func45 (by kernel_rfl)) <|
 all_cons (ji Tryz.func46 (by kernel_rfl)) <|
 all_cons (ji Tryz.func47 (by kernel_rfl)) <|
 all_cons (ji Tryz.func48 (by kernel_rfl)) <|
 all_cons (ji Tryz.func49 (by kernel_rfl)) <|
 all_cons (ji Tryz.func54 (by kernel_rfl)) <|
 all_cons (ji Tryz.func55 (by kernel_rfl)) <|
 all_cons (ji Tryz.func56 (by kernel_rfl)) <|
 all_cons (ji Tryz.func57 (by kernel_rfl)) <|
 all_cons (ji Tryz.func58 (by kernel_rfl)) <|
 all_cons (ji Tryz.func59 (by kernel_rfl)) <|
 all_cons (ji Tryz.func72 (by kernel_rfl)) <|
 all_cons (ji Tryz.func6 (by kernel_rfl)) <|
 all_cons (ji Tryz.func20 (by kernel_rfl)) <|
 all_cons (ji Tryz.func73 (by kernel_rfl)) <|
 all_cons (ji Tryz.func75 (by kernel_rfl)) <|
 all_cons (ji Tryz.func78 (by kernel_rfl)) <|
 all_cons (ji Tryz.func79 (by kernel_rfl)) <|
 all_cons (ji Tryz.func63 (by kernel_rfl)) <|
 all_cons (ji Tryz.func64 (by kernel_rfl)) <|
 all_cons (ji Tryz.func65 (by kernel_rfl)) <|
 all_cons (ji Tryz.func66 (by kernel_rfl)) <|
 all_cons (ji Tryz.func67 (by kernel_rfl)) <|
 all_cons (ji Tryz.func25 (by kernel_rfl)) <|
 all_cons (ji Tryz.func32 (by kernel_rfl)) <|
 all_cons (ji Tryz.func33 (by kernel_rfl)) <|
 all_cons (ji Tryz.func34 (by kernel_rfl)) <|
 all_cons (ji Tryz.func35 (by kernel_rfl)) <|
 all_cons (ji Tryz.func37 (by kernel_rfl)) <|
 all_cons (ji Tryz.func80 (by kernel_rfl)) <|
 all_cons (ji Tryz.func81 (by kernel_rfl)) <|
 all_cons (ji Tryz.func82 (by kernel_rfl)) <|
 all_cons (ji Tryz.func83 (by kernel_rfl)) <|
 all_cons (ji Tryz.func84 (by kernel_rfl)) <|
 all_cons (ji Tryz.func87 (by kernel_rfl)) <|
 all_cons (ji Tryz.func88 (by kernel_rfl)) <|
 all_cons (ji Tryz.func89 (by kernel_rfl)) <|
 all_cons (ji Tryz.func90 (by kernel_rfl)) <|
 all_cons (ji Tryz.func91 (by kernel_rfl)) <|
 all_cons (ji Tryz.func18 (by kernel_rfl)) <|
 all_cons (ji Tryz.func60 (by kernel_rfl)) <|
 all_cons (ji Tryz.func74 (by kernel_rfl)) <|
 all_cons (ji Tryz.func105 (by kernel_rfl)) <|
 all_cons (ji Tryz.func107 (by kernel_rfl)) <|
 all_cons (ji Tryz.func101 (by kernel_rfl)) <|
 all_cons (ji Tryz.func102 (by kernel_rfl)) <|
 all_cons (ji Tryz.func103 (by kernel_rfl)) <|
 all_cons (ji Tryz.func104 (by kernel_rfl)) <|
 all_cons (ji Tryz.func70 (by kernel_rfl)) <|
 all_cons (ji Tryz.func71 (by kernel_rfl)) <|
 all_cons (ji Tryz.func108 (by kernel_rfl)) <|
 all_cons (ji Tryz.func109 (by kernel_rfl)) <|
 all_cons (ji Tryz.func110 (by kernel_rfl)) <|
 all_cons (ji Tryz.func111 (by kernel_rfl)) <|
 all_cons (ji Tryz.func112 (by kernel_rfl)) <|
 all_cons (ji Tryz.func113 (by kernel_rfl)) <|
 all_cons (ji Tryz.func50 (by kernel_rfl)) <|
 all_cons (ji Tryz.func51 (by kernel_rfl)) <|
 all_cons (ji Tryz.func52 (by kernel_rfl)) <|
 all_cons (ji Tryz.func53 (by kernel_rfl)) <|
 all_cons (j0R (e:=9) (ac:=jap) (ar:=jan) (j0A tys).1 (by kernel_rfl) Tryz.func92 (by kernel_rfl) (by kernel_rfl) rfl rfl ⟨_,_,_,_,_,_,_,rfl,⟨rfl,rfl,rfl⟩,⟨rfl,rfl,rfl⟩,⟨rfl,rfl,rfl⟩,Tryz.underlying37⟩ rfl rfl (by decide +kernel) jcy) <|
 all_cons (ji Tryz.func93 (by kernel_rfl)) <|
 all_cons (ji Tryz.func94 (by kernel_rfl)) <|
 all_cons (ji Tryz.func95 (by kernel_rfl)) <|
 all_cons (j0R (e:=68) (ac:=jao) (ar:=jam) (j0A tys).1 (by kernel_rfl) Tryz.func96 (by kernel_rfl) (by kernel_rfl) rfl rfl ⟨_,_,_,_,_,_,_,rfl,⟨rfl,rfl,rfl⟩,⟨rfl,rfl,rfl⟩,⟨rfl,rfl,rfl⟩,Tryz.underlying30⟩ rfl rfl (by decide +kernel) jcx) <|
 all_cons (ji Tryz.func97 (by kernel_rfl)) <|
 all_cons (ji Tryz.func117 (by kernel_rfl)) <|
 all_cons (ji Tryz.func118 (by kernel_rfl)) <|
 all_cons (ji Tryz.func119 (by kernel_rfl)) <|
 all_cons (ji Tryz.func123 (by kernel_rfl)) <|
 all_cons (ji Tryz.func124 (by kernel_rfl)) <|
 all_cons (ji Tryz.func125 (by kernel_rfl)) <|
 all_cons (ji Tryz.func126 (by kernel_rfl)) <|
 all_cons (ji Tryz.func85 (by kernel_rfl)) <|
 all_cons (ji Tryz.func86 (by kernel_rfl)) <|
 all_cons (ji Tryz.func114 (by kernel_rfl)) <|
 all_cons (ji Tryz.func115 (by kernel_rfl)) <|
 all_cons (ji Tryz.func122 (by kernel_rfl)) <|
 all_cons (ji Tryz.func128 (by kernel_rfl)) <|
 all_cons (ji Tryz.func129 (by kernel_rfl)) <|
 all_cons (Jw (ji Tryz.func10 (by kernel_rfl)) rfl (QW Qj (f:=10) (e:=50) (by kernel_rfl))) <|
 all_cons (Jw (ji Tryz.func26 (by kernel_rfl)) rfl (QW Qj (f:=26) (e:=9) (by kernel_rfl))) <|
 all_cons (Jw (ji Tryz.func27 (by kernel_rfl)) rfl (QW Qj (f:=27) (e:=97) (by kernel_rfl))) <|
 all_cons (Jw (ji Tryz.func28 (by kernel_rfl)) rfl (QW Qj (f:=28) (e:=102) (by kernel_rfl))) <|
 all_cons (Jw (ji Tryz.func29 (by kernel_rfl)) rfl (QW Qj (f:=29) (e:=105) (by kernel_rfl))) <|
 all_cons (Jw (ji Tryz.func30 (by kernel_rfl)) rfl (QW Qj (f:=30) (e:=68) (by kernel_rfl))) <|
 all_cons (Jw (ji Tryz.func31 (by kernel_rfl)) rfl (QW Qj (f:=31) (e:=108) (by kernel_rfl))) <|
 all_cons (Jw (ji Tryz.func68 (by kernel_rfl)) rfl (QW Qj (f:=68) (e:=100) (by kernel_rfl))) <|
 all_cons (Jw (ji Tryz.func69 (by kernel_rfl)) rfl (QW Qj (f:=69) (e:=149) (by kernel_rfl))) <|
 all_cons (Jw (ji Tryz.func15 (by kernel_rfl)) rfl (j9b Qj Tryz.func15 (by kernel_rfl))) <|
 all_cons (j7f (ji Tryz.func21 (by kernel_rfl)) (jav fun te h=>by injection (show Kf 50 tyL=some te from h) with h; subst h; rfl)) <|
 all_cons (j7f (ji Tryz.func76 (by kernel_rfl)) (jaw fun te h=>by injection (show Kf 68 tyL=some te from h) with h; subst h; rfl)) <| j6b
noncomputable def zK (a:List DC):Out:=kV cfg 4 ⟨ol 44 :: [],[]⟩ a
noncomputable def Jp (a:List DC):Out:=kV cfg 5 ⟨ol 44 :: oi :: [],[]⟩ a
noncomputable def pR (a:List DC):Out:=kV cfg 7 ⟨ol 44 :: [],[]⟩ a
noncomputable def JI (a:List DC):Out:=kV cfg 12 ⟨ol 50 :: [],[]⟩ a
noncomputable def zd (a:List DC):Out:=kV cfg 13 ⟨ol 50 :: [],[]⟩ a
noncomputable def qK (a:List DC):Out:=kV cfg 14 ⟨.agg [.sl 50,.sl 50,.sl 68] :: .agg [.sl 50,.sl 50,.sl 68] :: [],[]⟩ a
noncomputable def qP (a:List DC):Out:=kV cfg 9 ⟨ol 50 :: ol 50 :: [],[]⟩ a
noncomputable def pI (a:List DC):Out:=kV cfg 16 ⟨.agg [.sl 50,.sl 50,.sl 68] :: oi :: [],[]⟩ a
noncomputable def Ka (a:List DC):Out:=kV cfg 17 ⟨.agg [.i .i64,.b,.s,.s,.sl 9,.sl 118,.sl 124,.sl 127,.sl 129,.b,.sl 133] :: oi :: [],[]⟩ a
noncomputable def K7 (a:List DC):Out:=kV cfg 19 ⟨.agg [.i .i64,.b,.s,.s,.sl 9,.sl 118,.sl 124,.sl 127,.sl 129,.b,.sl 133] :: [],[]⟩ a
noncomputable def yZ (a:List DC):Out:=kV cfg 38 ⟨ol 50 :: oi :: [],[]⟩ a
noncomputable def QQ (a:List DC):Out:=kV cfg 39 ⟨ol 50 :: oi :: os :: [],[]⟩ a
noncomputable def Qf (a:List DC):Out:=kV cfg 40 ⟨.agg [.sl 50,.sl 50,.sl 68] :: os :: [],[]⟩ a
noncomputable def JN (a:List DC):Out:=kV cfg 8 ⟨ol 50 :: [],[]⟩ a
noncomputable def Qg (a:List DC):Out:=kV cfg 41 ⟨.agg [.i .i64,.b,.s,.s,.sl 9,.sl 97,.sl 102,.sl 105,.sl 68,.b,.sl 108] :: [],[]⟩ a
noncomputable def Kt (a:List DC):Out:=kV cfg 42 ⟨ol 50 :: .agg [.sl 50,.sl 50,.sl 68] :: [],[]⟩ a
noncomputable def yp (a:List DC):Out:=kV cfg 43 ⟨ol 68 :: ol 68 :: [],[]⟩ a
noncomputable def Kd (a:List DC):Out:=kV cfg 24 ⟨.agg [.i .i64,.b,.s,.s,.sl 9,.sl 97,.sl 102,.sl 105,.sl 68,.b,.sl 108] :: .agg [.i .i64,.b,.s,.s,.sl 9,.sl 97,.sl 102,.sl 105,.sl 68,.b,.sl 108] :: [],[]⟩ a
noncomputable def qJ (a:List DC):Out:=kV cfg 11 ⟨ol 50 :: oi :: [],[]⟩ a
noncomputable def qg (a:List DC):Out:=kV cfg 36 ⟨ol 68 :: oi :: [],[]⟩ a
noncomputable def yD (a:List DC):Out:=kV cfg 44 ⟨ol 9 :: oi :: [],[]⟩ a
noncomputable def qu (a:List DC):Out:=kV cfg 45 ⟨ol 118 :: oi :: [],[]⟩ a
noncomputable def qI (a:List DC):Out:=kV cfg 46 ⟨ol 124 :: oi :: [],[]⟩ a
noncomputable def qY (a:List DC):Out:=kV cfg 47 ⟨ol 127 :: oi :: [],[]⟩ a
noncomputable def zH (a:List DC):Out:=kV cfg 48 ⟨ol 129 :: oi :: [],[]⟩ a
noncomputable def pS (a:List DC):Out:=kV cfg 49 ⟨ol 133 :: oi :: [],[]⟩ a
noncomputable def yB (a:List DC):Out:=kV cfg 54 ⟨ol 9 :: [],[]⟩ a
noncomputable def qt (a:List DC):Out:=kV cfg 55 ⟨ol 118 :: [],[]⟩ a
noncomputable def qH (a:List DC):Out:=kV cfg 56 ⟨ol 124 :: [],[]⟩ a
noncomputable def qW (a:List DC):Out:=kV cfg 57 ⟨ol 127 :: [],[]⟩ a
noncomputable def zF (a:List DC):Out:=kV cfg 58 ⟨ol 129 :: [],[]⟩ a
noncomputable def pQ (a:List DC):Out:=kV cfg 59 ⟨ol 133 :: [],[]⟩ a
noncomputable def z8 (a:List DC):Out:=kV cfg 72 ⟨oi :: [],[]⟩ a
noncomputable def qG (a:List DC):Out:=kV cfg 6 ⟨ol 50 :: [],[]⟩ a
noncomputable def J9 (a:List DC):Out:=kV cfg 20 ⟨ol 50 :: [],[]⟩ a
noncomputable def jX (a:List DC):Out:=kV cfg 73 ⟨ol 50 :: .one (.fn 74 []) :: [],[]⟩ a
noncomputable def Qi (a:List DC):Out:=kV cfg 75 ⟨oi :: [],[]⟩ a
noncomputable def Qh (a:List DC):Out:=kV cfg 78 ⟨.agg [.sl 50,.sl 50,.sl 68] :: os :: [],[]⟩ a
noncomputable def Js (a:List DC):Out:=kV cfg 79 ⟨.agg [.i .i64,.s] :: .agg [.i .i64,.s] :: [],[]⟩ a
noncomputable def yF (a:List DC):Out:=kV cfg 63 ⟨ol 9 :: ol 9 :: [],[]⟩ a
noncomputable def qv (a:List DC):Out:=kV cfg 64 ⟨ol 97 :: ol 97 :: [],[]⟩ a
noncomputable def qL (a:List DC):Out:=kV cfg 65 ⟨ol 102 :: ol 102 :: [],[]⟩ a
noncomputable def ya (a:List DC):Out:=kV cfg 66 ⟨ol 105 :: ol 105 :: [],[]⟩ a
noncomputable def pT (a:List DC):Out:=kV cfg 67 ⟨ol 108 :: ol 108 :: [],[]⟩ a
noncomputable def jG (a:List DC):Out:=kV cfg 25 ⟨oi :: [],[]⟩ a
noncomputable def kw (a:List DC):Out:=kV cfg 32 ⟨ol 9 :: oi :: [],[]⟩ a
noncomputable def pK (a:List DC):Out:=kV cfg 33 ⟨ol 97 :: oi :: [],[]⟩ a
noncomputable def pJ (a:List DC):Out:=kV cfg 34 ⟨ol 102 :: oi :: [],[]⟩ a
noncomputable def pX (a:List DC):Out:=kV cfg 35 ⟨ol 105 :: oi :: [],[]⟩ a
noncomputable def pd (a:List DC):Out:=kV cfg 37 ⟨ol 108 :: oi :: [],[]⟩ a
noncomputable def qX (a:List DC):Out:=kV cfg 80 ⟨.agg [.s,.s,.sl 124,.s,.s,.sl 133] :: oi :: [],[]⟩ a
noncomputable def zI (a:List DC):Out:=kV cfg 81 ⟨.agg [.s,.s,.s,.s,.b,.i .i64,.s,.sl 122,.sl 9,.sl 133] :: oi :: [],[]⟩ a
noncomputable def yE (a:List DC):Out:=kV cfg 82 ⟨.agg [.s,.s,.sl 133] :: oi :: [],[]⟩ a
noncomputable def Jo (a:List DC):Out:=kV cfg 83 ⟨.agg [.i .i64,.s] :: oi :: [],[]⟩ a
noncomputable def K9 (a:List DC):Out:=kV cfg 84 ⟨.agg [.s,.sl 168] :: oi :: [],[]⟩ a
noncomputable def qV (a:List DC):Out:=kV cfg 87 ⟨.agg [.s,.s,.sl 124,.s,.s,.sl 133] :: [],[]⟩ a
noncomputable def zG (a:List DC):Out:=kV cfg 88 ⟨.agg [.s,.s,.s,.s,.b,.i .i64,.s,.sl 122,.sl 9,.sl 133] :: [],[]⟩ a
noncomputable def yC (a:List DC):Out:=kV cfg 89 ⟨.agg [.s,.s,.sl 133] :: [],[]⟩ a
noncomputable def Jl (a:List DC):Out:=kV cfg 90 ⟨.agg [.i .i64,.s] :: [],[]⟩ a
noncomputable def K6 (a:List DC):Out:=kV cfg 91 ⟨.agg [.s,.sl 168] :: [],[]⟩ a
noncomputable def Kr (a:List DC):Out:=kV cfg 18 ⟨.agg [.i .i64,.b,.s,.s,.sl 9,.sl 97,.sl 102,.sl 105,.sl 68,.b,.sl 108] :: [],[]⟩ a
noncomputable def JM (a:List DC):Out:=kV cfg 60 ⟨.agg [.i .i64,.b,.s,.s,.sl 9,.sl 97,.sl 102,.sl 105,.sl 68,.b,.sl 108] :: [],[]⟩ a
noncomputable def Qq (a:List DC):Out:=kV cfg 74 ⟨.agg [.i .i64,.b,.s,.s,.sl 9,.sl 97,.sl 102,.sl 105,.sl 68,.b,.sl 108] :: [],[]⟩ a
noncomputable def Zd (a:List DC):Out:=kV cfg 105 ⟨oi :: oi :: oi :: [],[]⟩ a
noncomputable def QR (a:List DC):Out:=kV cfg 107 ⟨ol 50 :: os :: [],[]⟩ a
noncomputable def qZ (a:List DC):Out:=kV cfg 101 ⟨.agg [.s,.s,.sl 102,.s,.s,.sl 108] :: .agg [.s,.s,.sl 102,.s,.s,.sl 108] :: [],[]⟩ a
noncomputable def zJ (a:List DC):Out:=kV cfg 102 ⟨.agg [.s,.s,.s,.s,.b,.i .i64,.s,.sl 100,.sl 9,.sl 108] :: .agg [.s,.s,.s,.s,.b,.i .i64,.s,.sl 100,.sl 9,.sl 108] :: [],[]⟩ a
noncomputable def yG (a:List DC):Out:=kV cfg 103 ⟨.agg [.s,.s,.sl 108] :: .agg [.s,.s,.sl 108] :: [],[]⟩ a
noncomputable def Kc (a:List DC):Out:=kV cfg 104 ⟨.agg [.s,.sl 149] :: .agg [.s,.sl 149] :: [],[]⟩ a
noncomputable def p8 (a:List DC):Out:=kV cfg 70 ⟨ol 100 :: oi :: [],[]⟩ a
noncomputable def za (a:List DC):Out:=kV cfg 71 ⟨ol 149 :: oi :: [],[]⟩ a
noncomputable def Jn (a:List DC):Out:=kV cfg 108 ⟨.agg [.s,.s] :: oi :: [],[]⟩ a
noncomputable def qf (a:List DC):Out:=kV cfg 109 ⟨.agg [.i .i64,.s,.sl 122,.sl 9] :: oi :: [],[]⟩ a
noncomputable def Jq (a:List DC):Out:=kV cfg 110 ⟨ol 168 :: oi :: [],[]⟩ a
noncomputable def Jk (a:List DC):Out:=kV cfg 111 ⟨.agg [.s,.s] :: [],[]⟩ a
noncomputable def qe (a:List DC):Out:=kV cfg 112 ⟨.agg [.i .i64,.s,.sl 122,.sl 9] :: [],[]⟩ a
noncomputable def Jm (a:List DC):Out:=kV cfg 113 ⟨ol 168 :: [],[]⟩ a
noncomputable def yn (a:List DC):Out:=kV cfg 50 ⟨ol 97 :: [],[]⟩ a
noncomputable def qU (a:List DC):Out:=kV cfg 51 ⟨ol 102 :: [],[]⟩ a
noncomputable def ym (a:List DC):Out:=kV cfg 52 ⟨ol 105 :: [],[]⟩ a
noncomputable def qd (a:List DC):Out:=kV cfg 53 ⟨ol 108 :: [],[]⟩ a
noncomputable def pD (a:List DC):Out:=kV cfg 92 pE a
noncomputable def zk (a:List DC):Out:=kV cfg 93 ⟨ol 97 :: [],[]⟩ a
noncomputable def zc (a:List DC):Out:=kV cfg 94 ⟨ol 102 :: [],[]⟩ a
noncomputable def zL (a:List DC):Out:=kV cfg 95 ⟨ol 105 :: [],[]⟩ a
noncomputable def pP (a:List DC):Out:=kV cfg 96 kZ a
noncomputable def pp (a:List DC):Out:=kV cfg 97 ⟨ol 108 :: [],[]⟩ a
noncomputable def kf (a:List DC):Out:=kV cfg 73 ⟨ol 50 :: .one (.fn 122 [0]) :: [],.var 9 [.s] :: []⟩ a
noncomputable def Jr (a:List DC):Out:=kV cfg 117 ⟨.agg [.s,.s] :: .agg [.s,.s] :: [],[]⟩ a
noncomputable def qh (a:List DC):Out:=kV cfg 118 ⟨.agg [.i .i64,.s,.sl 100,.sl 9] :: .agg [.i .i64,.s,.sl 100,.sl 9] :: [],[]⟩ a
noncomputable def Jt (a:List DC):Out:=kV cfg 119 ⟨ol 149 :: ol 149 :: [],[]⟩ a
noncomputable def JK (a:List DC):Out:=kV cfg 123 ⟨ol 122 :: oi :: [],[]⟩ a
noncomputable def Kb (a:List DC):Out:=kV cfg 124 ⟨.agg [.s,.i .i64,.s,.sl 122,.sl 9] :: oi :: [],[]⟩ a
noncomputable def JJ (a:List DC):Out:=kV cfg 125 ⟨ol 122 :: [],[]⟩ a
noncomputable def K8 (a:List DC):Out:=kV cfg 126 ⟨.agg [.s,.i .i64,.s,.sl 122,.sl 9] :: [],[]⟩ a
noncomputable def yo (a:List DC):Out:=kV cfg 85 ⟨.agg [.i .i64,.s,.sl 100,.sl 9] :: [],[]⟩ a
noncomputable def Ks (a:List DC):Out:=kV cfg 86 ⟨ol 149 :: [],[]⟩ a
noncomputable def pL (a:List DC):Out:=kV cfg 114 ⟨.agg [.i .i64,.s,.sl 100,.sl 9] :: [],[]⟩ a
noncomputable def Ja (a:List DC):Out:=kV cfg 115 ⟨ol 149 :: [],[]⟩ a
noncomputable def VH (a:List DC):Out:=kV cfg 122 ⟨.agg [.i .i64,.b,.s,.s,.sl 9,.sl 97,.sl 102,.sl 105,.sl 68,.b,.sl 108] :: .one (.ptr 0 0) :: [],.var 9 [.s] :: []⟩ a
noncomputable def JL (a:List DC):Out:=kV cfg 128 ⟨ol 100 :: ol 100 :: [],[]⟩ a
noncomputable def Ke (a:List DC):Out:=kV cfg 129 ⟨.agg [.s,.i .i64,.s,.sl 100,.sl 9] :: .agg [.s,.i .i64,.s,.sl 100,.sl 9] :: [],[]⟩ a
noncomputable def J1 (a:List DC):Out :=
 (Jp [.sl ((a.getD 0 d0).ll),.i (1048576:Int)]).bindR fun r1 =>
 if (decide ((r1.getD 0 d0).ii < (0:Int)))=true then
 .ret [.b true]
 else
 (pR [.sl ((a.getD 0 d0).ll)]).bindR fun r2 =>
 (JI [.sl ((r2.getD 0 d0).ll)]).bindR fun r3 =>
 (pR [.sl ((a.getD 0 d0).ll)]).bindR fun r4 =>
 (zd [.sl ((r4.getD 0 d0).ll)]).bindR fun r5 =>
 (qK [.sl ((r5.getD 0 d0).ll),.sl ((r5.getD 1 d0).ll),.sl ((r5.getD 2 d0).ll),.sl ((r3.getD 0 d0).ll),.sl ((r3.getD 1 d0).ll),.sl ((r3.getD 2 d0).ll)]).bindR fun r6 =>
 if (!((r6.getD 0 d0).bb))=true then
 .ret [.b false]
 else
 (pR [.sl ((a.getD 0 d0).ll)]).bindR fun r7 =>
 (qP [.sl ((r4.getD 0 d0).ll),.sl ((r7.getD 0 d0).ll)]).bindR fun r8 =>
 if (!((r8.getD 0 d0).bb))=true then
 .ret [.b false]
 else
 j2v Out.fail (mkV mT pe 10 [(r4.getD 0 d0).ll] (1:Int)) 1 fun l9 k10 =>
 jy (if (decide (k10 < (0:Int)))=true then
 .norm [.sl ((a.getD 0 d0).ll),.b true,.sl ((r3.getD 0 d0).ll),.sl ((r3.getD 1 d0).ll),.sl ((r3.getD 2 d0).ll),.sl ((r5.getD 0 d0).ll),.sl ((r5.getD 1 d0).ll),.sl ((r5.getD 2 d0).ll)]
 else
 (qK [.sl ((r5.getD 0 d0).ll),.sl ((r5.getD 1 d0).ll),.sl ((r5.getD 2 d0).ll),.sl ((r3.getD 0 d0).ll),.sl ((r3.getD 1 d0).ll),.sl ((r3.getD 2 d0).ll)]).bindR fun r11 =>
 .norm [.sl ((a.getD 0 d0).ll),.b (!((r11.getD 0 d0).bb)),.sl ((r3.getD 0 d0).ll),.sl ((r3.getD 1 d0).ll),.sl ((r3.getD 2 d0).ll),.sl ((r5.getD 0 d0).ll),.sl ((r5.getD 1 d0).ll),.sl ((r5.getD 2 d0).ll)]) fun v12 =>
 if (v12.getD 1 d0).bb=true then
 .ret [.b false]
 else
 j2v Out.fail (j4h mT pe [10,10,30] [(v12.getD 5 d0).ll,(v12.getD 6 d0).ll,(v12.getD 7 d0).ll] (1:Int)) 3 fun l13 k14 =>
 (pI [.sl (l13.getD 0 []),.sl (l13.getD 1 []),.sl (l13.getD 2 []),.i (1:Int)]).bindR fun r15 =>
 if (decide ((r15.getD 0 d0).ii < (0:Int)))=true then
 .ret [.b false]
 else
 if ((r15.getD 0 d0).ii != k14)=true then
 .ret [.b false]
 else
 (pR [.sl ((v12.getD 0 d0).ll)]).bindR fun r16 =>
 (zd [.sl ((r16.getD 0 d0).ll)]).bindR fun r17 =>
 (qK [.sl ((r17.getD 0 d0).ll),.sl ((r17.getD 1 d0).ll),.sl ((r17.getD 2 d0).ll),.sl ((v12.getD 2 d0).ll),.sl ((v12.getD 3 d0).ll),.sl ((v12.getD 4 d0).ll)]).bindR fun r18 =>
 if (!((r18.getD 0 d0).bb))=true then
 .ret [.b false]
 else
 (pI [.sl (l13.getD 0 []),.sl (l13.getD 1 []),.sl (l13.getD 2 []),.i (1:Int)]).bindR fun r19 =>
 if (decide ((r19.getD 0 d0).ii < (0:Int)))=true then
 .ret [.b false]
 else
 if ((r19.getD 0 d0).ii != k14)=true then
 .ret [.b false]
 else
 .ret [.b true]
theorem Qz a:zK a=J1 a:=(jt cfg 4 _ a).trans (by kernel_rfl)
noncomputable def JW:List DC → Out:=fun v1 =>
 if (decide ((v1.getD 2 d0).ii < (((v1.getD 0 d0).ll).length:Int)))=true then
 ja (if 44=44 ∧ 0 ≤ (v1.getD 2 d0).ii ∧ (v1.getD 2 d0).ii < (((v1.getD 0 d0).ll).length:Int) then
 (Ka [.i (((((v1.getD 0 d0).ll).getD ((v1.getD 2 d0).ii).toNat []).getD 0 d0).ii),.b (((((v1.getD 0 d0).ll).getD ((v1.getD 2 d0).ii).toNat []).getD 1 d0).bb),.s (((((v1.getD 0 d0).ll).getD ((v1.getD 2 d0).ii).toNat []).getD 2 d0).ss),.s (((((v1.getD 0 d0).ll).getD ((v1.getD 2 d0).ii).toNat []).getD 3 d0).ss),.sl (((((v1.getD 0 d0).ll).getD ((v1.getD 2 d0).ii).toNat []).getD 4 d0).ll),.sl (((((v1.getD 0 d0).ll).getD ((v1.getD 2 d0).ii).toNat []).getD 5 d0).ll),.sl (((((v1.getD 0 d0).ll).getD ((v1.getD 2 d0).ii).toNat []).getD 6 d0).ll),.sl (((((v1.getD 0 d0).ll).getD ((v1.getD 2 d0).ii).toNat []).getD 7 d0).ll),.sl (((((v1.getD 0 d0).ll).getD ((v1.getD 2 d0).ii).toNat []).getD 8 d0).ll),.b (((((v1.getD 0 d0).ll).getD ((v1.getD 2 d0).ii).toNat []).getD 9 d0).bb),.sl (((((v1.getD 0 d0).ll).getD ((v1.getD 2 d0).ii).toNat []).getD 10 d0).ll),.i ((v1.getD 1 d0).ii)]).bindR fun r2 =>
 if (decide ((r2.getD 0 d0).ii < (0:Int)))=true then
 .ret [.i (-1:Int)]
 else
 .norm [.sl ((v1.getD 0 d0).ll),.i ((r2.getD 0 d0).ii),.i ((v1.getD 2 d0).ii)]
 else
 .fail) 1 fun v3 =>
 .norm [.sl ((v3.getD 0 d0).ll),.i ((v3.getD 1 d0).ii),.i (IntKind.i64.wrap ((v3.getD 2 d0).ii + (1:Int)))]
 else
 .ex 0 [.i ((v1.getD 1 d0).ii)]
noncomputable def XI (a:List DC):Out :=
 if (decide ((IntKind.i64.wrap ((a.getD 1 d0).ii - (((a.getD 0 d0).ll).length:Int))) < (0:Int)))=true then
 .ret [.i (-1:Int)]
 else
 ja (jK JW [.sl ((a.getD 0 d0).ll),.i (IntKind.i64.wrap ((a.getD 1 d0).ii - (((a.getD 0 d0).ll).length:Int))),.i (0:Int)]) 0 fun v4 =>
 .ret [.i ((v4.getD 0 d0).ii)]
theorem j1f a:Jp a=XI a:=(jt cfg 5 _ a).trans (by kernel_rfl)
noncomputable def JT:List DC → Out:=fun v1 =>
 if (decide ((v1.getD 2 d0).ii < (((v1.getD 0 d0).ll).length:Int)))=true then
 ja (if 44=44 ∧ 0 ≤ (v1.getD 2 d0).ii ∧ (v1.getD 2 d0).ii < (((v1.getD 0 d0).ll).length:Int) then
 (K7 [.i (((((v1.getD 0 d0).ll).getD ((v1.getD 2 d0).ii).toNat []).getD 0 d0).ii),.b (((((v1.getD 0 d0).ll).getD ((v1.getD 2 d0).ii).toNat []).getD 1 d0).bb),.s (((((v1.getD 0 d0).ll).getD ((v1.getD 2 d0).ii).toNat []).getD 2 d0).ss),.s (((((v1.getD 0 d0).ll).getD ((v1.getD 2 d0).ii).toNat []).getD 3 d0).ss),.sl (((((v1.getD 0 d0).ll).getD ((v1.getD 2 d0).ii).toNat []).getD 4 d0).ll),.sl (((((v1.getD 0 d0).ll).getD ((v1.getD 2 d0).ii).toNat []).getD 5 d0).ll),.sl (((((v1.getD 0 d0).ll).getD ((v1.getD 2 d0).ii).toNat []).getD 6 d0).ll),.sl (((((v1.getD 0 d0).ll).getD ((v1.getD 2 d0).ii).toNat []).getD 7 d0).ll),.sl (((((v1.getD 0 d0).ll).getD ((v1.getD 2 d0).ii).toNat []).getD 8 d0).ll),.b (((((v1.getD 0 d0).ll).getD ((v1.getD 2 d0).ii).toNat []).getD 9 d0).bb),.sl (((((v1.getD 0 d0).ll).getD ((v1.getD 2 d0).ii).toNat []).getD 10 d0).ll)]).bindR fun r2 =>
 if 50=50 ∧ 0 ≤ (v1.getD 2 d0).ii ∧ (v1.getD 2 d0).ii < (((v1.getD 1 d0).ll).length:Int) then
 .norm [.sl ((v1.getD 0 d0).ll),.sl (((v1.getD 1 d0).ll).set (((v1.getD 2 d0).ii).toNat) (kF (((v1.getD 1 d0).ll).getD (((v1.getD 2 d0).ii).toNat) []) 0 [DC.i ((r2.getD 0 d0).ii),DC.b ((r2.getD 1 d0).bb),DC.s ((r2.getD 2 d0).ss),DC.s ((r2.getD 3 d0).ss),DC.sl ((r2.getD 4 d0).ll),DC.sl ((r2.getD 5 d0).ll),DC.sl ((r2.getD 6 d0).ll),DC.sl ((r2.getD 7 d0).ll),DC.sl ((r2.getD 8 d0).ll),DC.b ((r2.getD 9 d0).bb),DC.sl ((r2.getD 10 d0).ll)])),.i ((v1.getD 2 d0).ii)]
 else
 .fail
 else
 .fail) 1 fun v3 =>
 .norm [.sl ((v3.getD 0 d0).ll),.sl ((v3.getD 1 d0).ll),.i (IntKind.i64.wrap ((v3.getD 2 d0).ii + (1:Int)))]
 else
 .ex 0 [.sl ((v1.getD 1 d0).ll)]
noncomputable def XD (a:List DC):Out :=
 if 0 ≤ (((a.getD 0 d0).ll).length:Int) ∧ (((a.getD 0 d0).ll).length:Int) < (kC:Int) ∧ (((a.getD 0 d0).ll).length:Int)=(((a.getD 0 d0).ll).length:Int) ∧ 200 ≤ 1024 ∧ 0 < 11 ∧ dp 50=false then
 ja (jK JT [.sl ((a.getD 0 d0).ll),.sl (List.replicate (((a.getD 0 d0).ll).length:Int).toNat [DC.i 0,DC.b false,DC.s [],DC.s [],DC.sl [],DC.sl [],DC.sl [],DC.sl [],DC.sl [],DC.b false,DC.sl []]),.i (0:Int)]) 0 fun v4 =>
 .ret [.sl ((v4.getD 0 d0).ll)]
 else
 .fail
theorem j1a a:pR a=XD a:=(jt cfg 7 _ a).trans (by kernel_rfl)
noncomputable def kJ:List DC → Out:=fun v20 =>
 if 50=50 ∧ 0 ≤ (v20.getD 1 d0).ii ∧ (v20.getD 1 d0).ii < (((v20.getD 0 d0).ll).length:Int) then
 if (decide ((v20.getD 3 d0).ii < ((((((v20.getD 0 d0).ll).getD ((v20.getD 1 d0).ii).toNat []).getD 8 d0).ll).length:Int)))=true then
 ja (if 50=50 ∧ 0 ≤ (v20.getD 1 d0).ii ∧ (v20.getD 1 d0).ii < (((v20.getD 0 d0).ll).length:Int) then
 if 68=68 ∧ 0 ≤ (v20.getD 3 d0).ii ∧ (v20.getD 3 d0).ii < ((((((v20.getD 0 d0).ll).getD ((v20.getD 1 d0).ii).toNat []).getD 8 d0).ll).length:Int) then
 jy (if ((((((((v20.getD 0 d0).ll).getD ((v20.getD 1 d0).ii).toNat []).getD 8 d0).ll).getD ((v20.getD 3 d0).ii).toNat []).getD 0 d0).ii == (v20.getD 2 d0).ii)=true then
 if 50=50 ∧ 0 ≤ (v20.getD 1 d0).ii ∧ (v20.getD 1 d0).ii < (((v20.getD 0 d0).ll).length:Int) then
 if 68=68 ∧ 0 ≤ (v20.getD 3 d0).ii ∧ (v20.getD 3 d0).ii < ((((((v20.getD 0 d0).ll).getD ((v20.getD 1 d0).ii).toNat []).getD 8 d0).ll).length:Int) then
 if ((v20.getD 6 d0).ll).length + [[DC.i ((((((((v20.getD 0 d0).ll).getD ((v20.getD 1 d0).ii).toNat []).getD 8 d0).ll).getD ((v20.getD 3 d0).ii).toNat []).getD 0 d0).ii),DC.s ((((((((v20.getD 0 d0).ll).getD ((v20.getD 1 d0).ii).toNat []).getD 8 d0).ll).getD ((v20.getD 3 d0).ii).toNat []).getD 1 d0).ss)]].length < kC then
 .norm [.sl ((v20.getD 0 d0).ll),.i ((v20.getD 1 d0).ii),.i ((v20.getD 2 d0).ii),.i ((v20.getD 3 d0).ii),.sl ((v20.getD 4 d0).ll),.sl ((v20.getD 5 d0).ll),.sl (((v20.getD 6 d0).ll) ++ [[DC.i ((((((((v20.getD 0 d0).ll).getD ((v20.getD 1 d0).ii).toNat []).getD 8 d0).ll).getD ((v20.getD 3 d0).ii).toNat []).getD 0 d0).ii),DC.s ((((((((v20.getD 0 d0).ll).getD ((v20.getD 1 d0).ii).toNat []).getD 8 d0).ll).getD ((v20.getD 3 d0).ii).toNat []).getD 1 d0).ss)]])]
 else
 .fail
 else
 .fail
 else
 .fail
 else
 .norm [.sl ((v20.getD 0 d0).ll),.i ((v20.getD 1 d0).ii),.i ((v20.getD 2 d0).ii),.i ((v20.getD 3 d0).ii),.sl ((v20.getD 4 d0).ll),.sl ((v20.getD 5 d0).ll),.sl ((v20.getD 6 d0).ll)]) fun v21 =>
 .norm [.sl ((v21.getD 0 d0).ll),.i ((v21.getD 1 d0).ii),.i ((v21.getD 2 d0).ii),.i ((v21.getD 3 d0).ii),.sl ((v21.getD 4 d0).ll),.sl ((v21.getD 5 d0).ll),.sl ((v21.getD 6 d0).ll)]
 else
 .fail
 else
 .fail) 3 fun v22 =>
 .norm [.sl ((v22.getD 0 d0).ll),.i ((v22.getD 1 d0).ii),.i ((v22.getD 2 d0).ii),.i (IntKind.i64.wrap ((v22.getD 3 d0).ii + (1:Int))),.sl ((v22.getD 4 d0).ll),.sl ((v22.getD 5 d0).ll),.sl ((v22.getD 6 d0).ll)]
 else
 .ex 2 [.sl ((v20.getD 0 d0).ll),.i ((v20.getD 1 d0).ii),.i ((v20.getD 2 d0).ii),.sl ((v20.getD 4 d0).ll),.sl ((v20.getD 5 d0).ll),.sl ((v20.getD 6 d0).ll)]
 else
 .fail
noncomputable def kt:List DC → Out:=fun v16 =>
 if (decide ((v16.getD 2 d0).ii ≤ (3:Int)))=true then
 ja (if (decide ((v16.getD 1 d0).ii < (0:Int)))=true then
 if 9=9 ∧ 0 ≤ (v16.getD 2 d0).ii ∧ (v16.getD 2 d0).ii < ([[DC.s ([]:List UInt8)],[DC.s ([81,117,101,114,121]:List UInt8)],[DC.s ([77,117,116,97,116,105,111,110]:List UInt8)],[DC.s ([83,117,98,115,99,114,105,112,116,105,111,110]:List UInt8)]].length:Int) then
 (Qf [.sl ((v16.getD 3 d0).ll),.sl ((v16.getD 4 d0).ll),.sl ((v16.getD 5 d0).ll),.s ((([[DC.s ([]:List UInt8)],[DC.s ([81,117,101,114,121]:List UInt8)],[DC.s ([77,117,116,97,116,105,111,110]:List UInt8)],[DC.s ([83,117,98,115,99,114,105,112,116,105,111,110]:List UInt8)]].getD ((v16.getD 2 d0).ii).toNat []).getD 0 d0).ss)]).bindR fun r17 =>
 jy (if (decide ((r17.getD 0 d0).ii ≥ (0:Int)))=true then
 if 50=50 ∧ 0 ≤ (r17.getD 0 d0).ii ∧ (r17.getD 0 d0).ii < (((v16.getD 3 d0).ll).length:Int) then
 .norm [.sl ((v16.getD 0 d0).ll),.i ((v16.getD 1 d0).ii),.i ((v16.getD 2 d0).ii),.s ((([[DC.s ([]:List UInt8)],[DC.s ([81,117,101,114,121]:List UInt8)],[DC.s ([77,117,116,97,116,105,111,110]:List UInt8)],[DC.s ([83,117,98,115,99,114,105,112,116,105,111,110]:List UInt8)]].getD ((v16.getD 2 d0).ii).toNat []).getD 0 d0).ss),.b (((((v16.getD 3 d0).ll).getD ((r17.getD 0 d0).ii).toNat []).getD 0 d0).ii == (2:Int)),.sl ((v16.getD 3 d0).ll),.sl ((v16.getD 4 d0).ll),.sl ((v16.getD 5 d0).ll)]
 else
 .fail
 else
 .norm [.sl ((v16.getD 0 d0).ll),.i ((v16.getD 1 d0).ii),.i ((v16.getD 2 d0).ii),.s ((([[DC.s ([]:List UInt8)],[DC.s ([81,117,101,114,121]:List UInt8)],[DC.s ([77,117,116,97,116,105,111,110]:List UInt8)],[DC.s ([83,117,98,115,99,114,105,112,116,105,111,110]:List UInt8)]].getD ((v16.getD 2 d0).ii).toNat []).getD 0 d0).ss),.b false,.sl ((v16.getD 3 d0).ll),.sl ((v16.getD 4 d0).ll),.sl ((v16.getD 5 d0).ll)]) fun v18 =>
 jy (if (v18.getD 4 d0).bb=true then
 if ((v18.getD 7 d0).ll).length + [[DC.i ((v18.getD 2 d0).ii),DC.s ((v18.getD 3 d0).ss)]].length < kC then
 .norm [.sl ((v18.getD 0 d0).ll),.i ((v18.getD 1 d0).ii),.i ((v18.getD 2 d0).ii),.sl ((v18.getD 5 d0).ll),.sl ((v18.getD 6 d0).ll),.sl (((v18.getD 7 d0).ll) ++ [[DC.i ((v18.getD 2 d0).ii),DC.s ((v18.getD 3 d0).ss)]])]
 else
 .fail
 else
 .norm [.sl ((v18.getD 0 d0).ll),.i ((v18.getD 1 d0).ii),.i ((v18.getD 2 d0).ii),.sl ((v18.getD 5 d0).ll),.sl ((v18.getD 6 d0).ll),.sl ((v18.getD 7 d0).ll)]) fun v19 =>
 .ex 1 [.sl ((v19.getD 0 d0).ll),.i ((v19.getD 1 d0).ii),.i ((v19.getD 2 d0).ii),.sl ((v19.getD 3 d0).ll),.sl ((v19.getD 4 d0).ll),.sl ((v19.getD 5 d0).ll)]
 else
 .fail
 else
 ja (jK kJ [.sl ((v16.getD 0 d0).ll),.i ((v16.getD 1 d0).ii),.i ((v16.getD 2 d0).ii),.i (0:Int),.sl ((v16.getD 3 d0).ll),.sl ((v16.getD 4 d0).ll),.sl ((v16.getD 5 d0).ll)]) 2 fun v23 =>
 .norm [.sl ((v23.getD 0 d0).ll),.i ((v23.getD 1 d0).ii),.i ((v23.getD 2 d0).ii),.sl ((v23.getD 3 d0).ll),.sl ((v23.getD 4 d0).ll),.sl ((v23.getD 5 d0).ll)]) 1 fun v24 =>
 .norm [.sl ((v24.getD 0 d0).ll),.i ((v24.getD 1 d0).ii),.i (IntKind.i64.wrap ((v24.getD 2 d0).ii + (1:Int))),.sl ((v24.getD 3 d0).ll),.sl ((v24.getD 4 d0).ll),.sl ((v24.getD 5 d0).ll)]
 else
 .ex 0 [.sl ((v16.getD 3 d0).ll),.sl ((v16.getD 4 d0).ll),.sl ((v16.getD 5 d0).ll)]
noncomputable def Vc (a:List DC):Out :=
 (yZ [.sl ((a.getD 0 d0).ll),.i (0:Int)]).bindR fun r1 =>
 (yZ [.sl ((a.getD 0 d0).ll),.i (1:Int)]).bindR fun r2 =>
 (QQ [.sl ((a.getD 0 d0).ll),.i (2:Int),.s ([]:List UInt8)]).bindR fun r3 =>
 ja (jK kt [.sl ((a.getD 0 d0).ll),.i ((r3.getD 0 d0).ii),.i (1:Int),.sl ((r1.getD 0 d0).ll),.sl ((r2.getD 0 d0).ll),.sl []]) 0 fun v25 =>
 .ret [.sl ((v25.getD 0 d0).ll),.sl ((v25.getD 1 d0).ll),.sl ((v25.getD 2 d0).ll)]
theorem Zr a:JI a=Vc a:=(jt cfg 12 _ a).trans (by kernel_rfl)
noncomputable def ku:List DC → Out:=fun v8 =>
 if (decide ((v8.getD 3 d0).ii < (v8.getD 2 d0).ii))=true then
 ja (if 50=50 ∧ 0 ≤ (v8.getD 3 d0).ii ∧ (v8.getD 3 d0).ii < (((v8.getD 1 d0).ll).length:Int) then
 if 0 < (((v8.getD 1 d0).ll).getD ((v8.getD 3 d0).ii).toNat []).length then
 ja (jy (if (((((v8.getD 1 d0).ll).getD ((v8.getD 3 d0).ii).toNat []).getD 0 d0).ii == (7:Int))=true then
 if ((v8.getD 5 d0).ll).length + [[DC.i (((((v8.getD 1 d0).ll).getD ((v8.getD 3 d0).ii).toNat []).getD 0 d0).ii),DC.b (((((v8.getD 1 d0).ll).getD ((v8.getD 3 d0).ii).toNat []).getD 1 d0).bb),DC.s (((((v8.getD 1 d0).ll).getD ((v8.getD 3 d0).ii).toNat []).getD 2 d0).ss),DC.s (((((v8.getD 1 d0).ll).getD ((v8.getD 3 d0).ii).toNat []).getD 3 d0).ss),DC.sl (((((v8.getD 1 d0).ll).getD ((v8.getD 3 d0).ii).toNat []).getD 4 d0).ll),DC.sl (((((v8.getD 1 d0).ll).getD ((v8.getD 3 d0).ii).toNat []).getD 5 d0).ll),DC.sl (((((v8.getD 1 d0).ll).getD ((v8.getD 3 d0).ii).toNat []).getD 6 d0).ll),DC.sl (((((v8.getD 1 d0).ll).getD ((v8.getD 3 d0).ii).toNat []).getD 7 d0).ll),DC.sl (((((v8.getD 1 d0).ll).getD ((v8.getD 3 d0).ii).toNat []).getD 8 d0).ll),DC.b (((((v8.getD 1 d0).ll).getD ((v8.getD 3 d0).ii).toNat []).getD 9 d0).bb),DC.sl (((((v8.getD 1 d0).ll).getD ((v8.getD 3 d0).ii).toNat []).getD 10 d0).ll)]].length < kC ∧ 24=24 then
 .norm [.sl ((v8.getD 0 d0).ll),.sl (((v8.getD 1 d0).ll).set (((v8.getD 3 d0).ii).toNat) []),.i ((v8.getD 2 d0).ii),.i ((v8.getD 3 d0).ii),.sl ((v8.getD 4 d0).ll),.sl (((v8.getD 5 d0).ll) ++ [[DC.i (((((v8.getD 1 d0).ll).getD ((v8.getD 3 d0).ii).toNat []).getD 0 d0).ii),DC.b (((((v8.getD 1 d0).ll).getD ((v8.getD 3 d0).ii).toNat []).getD 1 d0).bb),DC.s (((((v8.getD 1 d0).ll).getD ((v8.getD 3 d0).ii).toNat []).getD 2 d0).ss),DC.s (((((v8.getD 1 d0).ll).getD ((v8.getD 3 d0).ii).toNat []).getD 3 d0).ss),DC.sl (((((v8.getD 1 d0).ll).getD ((v8.getD 3 d0).ii).toNat []).getD 4 d0).ll),DC.sl (((((v8.getD 1 d0).ll).getD ((v8.getD 3 d0).ii).toNat []).getD 5 d0).ll),DC.sl (((((v8.getD 1 d0).ll).getD ((v8.getD 3 d0).ii).toNat []).getD 6 d0).ll),DC.sl (((((v8.getD 1 d0).ll).getD ((v8.getD 3 d0).ii).toNat []).getD 7 d0).ll),DC.sl (((((v8.getD 1 d0).ll).getD ((v8.getD 3 d0).ii).toNat []).getD 8 d0).ll),DC.b (((((v8.getD 1 d0).ll).getD ((v8.getD 3 d0).ii).toNat []).getD 9 d0).bb),DC.sl (((((v8.getD 1 d0).ll).getD ((v8.getD 3 d0).ii).toNat []).getD 10 d0).ll)]])]
 else
 .fail
 else
 (Qg [.i (((((v8.getD 1 d0).ll).getD ((v8.getD 3 d0).ii).toNat []).getD 0 d0).ii),.b (((((v8.getD 1 d0).ll).getD ((v8.getD 3 d0).ii).toNat []).getD 1 d0).bb),.s (((((v8.getD 1 d0).ll).getD ((v8.getD 3 d0).ii).toNat []).getD 2 d0).ss),.s (((((v8.getD 1 d0).ll).getD ((v8.getD 3 d0).ii).toNat []).getD 3 d0).ss),.sl (((((v8.getD 1 d0).ll).getD ((v8.getD 3 d0).ii).toNat []).getD 4 d0).ll),.sl (((((v8.getD 1 d0).ll).getD ((v8.getD 3 d0).ii).toNat []).getD 5 d0).ll),.sl (((((v8.getD 1 d0).ll).getD ((v8.getD 3 d0).ii).toNat []).getD 6 d0).ll),.sl (((((v8.getD 1 d0).ll).getD ((v8.getD 3 d0).ii).toNat []).getD 7 d0).ll),.sl (((((v8.getD 1 d0).ll).getD ((v8.getD 3 d0).ii).toNat []).getD 8 d0).ll),.b (((((v8.getD 1 d0).ll).getD ((v8.getD 3 d0).ii).toNat []).getD 9 d0).bb),.sl (((((v8.getD 1 d0).ll).getD ((v8.getD 3 d0).ii).toNat []).getD 10 d0).ll)]).bindR fun r9 =>
 jy (if (r9.getD 0 d0).bb=true then
 if ((v8.getD 4 d0).ll).length + [[DC.i (((((v8.getD 1 d0).ll).getD ((v8.getD 3 d0).ii).toNat []).getD 0 d0).ii),DC.b (((((v8.getD 1 d0).ll).getD ((v8.getD 3 d0).ii).toNat []).getD 1 d0).bb),DC.s (((((v8.getD 1 d0).ll).getD ((v8.getD 3 d0).ii).toNat []).getD 2 d0).ss),DC.s (((((v8.getD 1 d0).ll).getD ((v8.getD 3 d0).ii).toNat []).getD 3 d0).ss),DC.sl (((((v8.getD 1 d0).ll).getD ((v8.getD 3 d0).ii).toNat []).getD 4 d0).ll),DC.sl (((((v8.getD 1 d0).ll).getD ((v8.getD 3 d0).ii).toNat []).getD 5 d0).ll),DC.sl (((((v8.getD 1 d0).ll).getD ((v8.getD 3 d0).ii).toNat []).getD 6 d0).ll),DC.sl (((((v8.getD 1 d0).ll).getD ((v8.getD 3 d0).ii).toNat []).getD 7 d0).ll),DC.sl (((((v8.getD 1 d0).ll).getD ((v8.getD 3 d0).ii).toNat []).getD 8 d0).ll),DC.b (((((v8.getD 1 d0).ll).getD ((v8.getD 3 d0).ii).toNat []).getD 9 d0).bb),DC.sl (((((v8.getD 1 d0).ll).getD ((v8.getD 3 d0).ii).toNat []).getD 10 d0).ll)]].length < kC ∧ 24=24 then
 .norm [.sl ((v8.getD 0 d0).ll),.sl (((v8.getD 1 d0).ll).set (((v8.getD 3 d0).ii).toNat) []),.i ((v8.getD 2 d0).ii),.i ((v8.getD 3 d0).ii),.sl (((v8.getD 4 d0).ll) ++ [[DC.i (((((v8.getD 1 d0).ll).getD ((v8.getD 3 d0).ii).toNat []).getD 0 d0).ii),DC.b (((((v8.getD 1 d0).ll).getD ((v8.getD 3 d0).ii).toNat []).getD 1 d0).bb),DC.s (((((v8.getD 1 d0).ll).getD ((v8.getD 3 d0).ii).toNat []).getD 2 d0).ss),DC.s (((((v8.getD 1 d0).ll).getD ((v8.getD 3 d0).ii).toNat []).getD 3 d0).ss),DC.sl (((((v8.getD 1 d0).ll).getD ((v8.getD 3 d0).ii).toNat []).getD 4 d0).ll),DC.sl (((((v8.getD 1 d0).ll).getD ((v8.getD 3 d0).ii).toNat []).getD 5 d0).ll),DC.sl (((((v8.getD 1 d0).ll).getD ((v8.getD 3 d0).ii).toNat []).getD 6 d0).ll),DC.sl (((((v8.getD 1 d0).ll).getD ((v8.getD 3 d0).ii).toNat []).getD 7 d0).ll),DC.sl (((((v8.getD 1 d0).ll).getD ((v8.getD 3 d0).ii).toNat []).getD 8 d0).ll),DC.b (((((v8.getD 1 d0).ll).getD ((v8.getD 3 d0).ii).toNat []).getD 9 d0).bb),DC.sl (((((v8.getD 1 d0).ll).getD ((v8.getD 3 d0).ii).toNat []).getD 10 d0).ll)]]),.sl ((v8.getD 5 d0).ll)]
 else
 .fail
 else
 .norm [.sl ((v8.getD 0 d0).ll),.sl (((v8.getD 1 d0).ll).set (((v8.getD 3 d0).ii).toNat) []),.i ((v8.getD 2 d0).ii),.i ((v8.getD 3 d0).ii),.sl ((v8.getD 4 d0).ll),.sl ((v8.getD 5 d0).ll)]) fun v10 =>
 .norm [.sl ((v10.getD 0 d0).ll),.sl ((v10.getD 1 d0).ll),.i ((v10.getD 2 d0).ii),.i ((v10.getD 3 d0).ii),.sl ((v10.getD 4 d0).ll),.sl ((v10.getD 5 d0).ll)]) fun v11 =>
 .norm [.sl ((v11.getD 0 d0).ll),.sl ((v11.getD 1 d0).ll),.i ((v11.getD 2 d0).ii),.i ((v11.getD 3 d0).ii),.sl ((v11.getD 4 d0).ll),.sl ((v11.getD 5 d0).ll)]) 2 fun v12 =>
 .norm [.sl ((v12.getD 0 d0).ll),.sl ((v12.getD 1 d0).ll),.i ((v12.getD 2 d0).ii),.i ((v12.getD 3 d0).ii),.sl ((v12.getD 4 d0).ll),.sl ((v12.getD 5 d0).ll)]
 else
 .fail
 else
 .fail) 1 fun v13 =>
 .norm [.sl ((v13.getD 0 d0).ll),.sl ((v13.getD 1 d0).ll),.i ((v13.getD 2 d0).ii),.i (IntKind.i64.wrap ((v13.getD 3 d0).ii + (1:Int))),.sl ((v13.getD 4 d0).ll),.sl ((v13.getD 5 d0).ll)]
 else
 .ex 0 [.sl ((v8.getD 0 d0).ll),.sl ((v8.getD 4 d0).ll),.sl ((v8.getD 5 d0).ll)]
noncomputable def Vq (a:List DC):Out :=
 (JN [.sl ((a.getD 0 d0).ll)]).bindR fun r1 =>
 ja (jK ku [.sl ((a.getD 0 d0).ll),.sl ((r1.getD 0 d0).ll),.i (((r1.getD 0 d0).ll).length:Int),.i (0:Int),.sl [],.sl []]) 0 fun v14 =>
 (Kt [.sl ((v14.getD 0 d0).ll),.sl ((v14.getD 1 d0).ll),.sl ((v14.getD 2 d0).ll),.sl []]).bindR fun r15 =>
 .ret [.sl ((v14.getD 1 d0).ll),.sl ((v14.getD 2 d0).ll),.sl ((r15.getD 0 d0).ll)]
theorem ZF a:zd a=Vq a:=(jt cfg 13 _ a).trans (by kernel_rfl)
noncomputable def Vl (a:List DC):Out :=
 (qP [.sl ((a.getD 0 d0).ll),.sl ((a.getD 3 d0).ll)]).bindR fun r1 =>
 if (!((r1.getD 0 d0).bb))=true then
 .ret [.b false]
 else
 (qP [.sl ((a.getD 1 d0).ll),.sl ((a.getD 4 d0).ll)]).bindR fun r2 =>
 if (!((r2.getD 0 d0).bb))=true then
 .ret [.b false]
 else
 (yp [.sl ((a.getD 2 d0).ll),.sl ((a.getD 5 d0).ll)]).bindR fun r3 =>
 if (!((r3.getD 0 d0).bb))=true then
 .ret [.b false]
 else
 .ret [.b true]
theorem ZA a:qK a=Vl a:=(jt cfg 14 _ a).trans (by kernel_rfl)
noncomputable def JZ:List DC → Out:=fun v1 =>
 if (decide ((v1.getD 2 d0).ii < (((v1.getD 0 d0).ll).length:Int)))=true then
 ja (if 50=50 ∧ 0 ≤ (v1.getD 2 d0).ii ∧ (v1.getD 2 d0).ii < (((v1.getD 0 d0).ll).length:Int) then
 if 50=50 ∧ 0 ≤ (v1.getD 2 d0).ii ∧ (v1.getD 2 d0).ii < (((v1.getD 1 d0).ll).length:Int) then
 (Kd [.i (((((v1.getD 0 d0).ll).getD ((v1.getD 2 d0).ii).toNat []).getD 0 d0).ii),.b (((((v1.getD 0 d0).ll).getD ((v1.getD 2 d0).ii).toNat []).getD 1 d0).bb),.s (((((v1.getD 0 d0).ll).getD ((v1.getD 2 d0).ii).toNat []).getD 2 d0).ss),.s (((((v1.getD 0 d0).ll).getD ((v1.getD 2 d0).ii).toNat []).getD 3 d0).ss),.sl (((((v1.getD 0 d0).ll).getD ((v1.getD 2 d0).ii).toNat []).getD 4 d0).ll),.sl (((((v1.getD 0 d0).ll).getD ((v1.getD 2 d0).ii).toNat []).getD 5 d0).ll),.sl (((((v1.getD 0 d0).ll).getD ((v1.getD 2 d0).ii).toNat []).getD 6 d0).ll),.sl (((((v1.getD 0 d0).ll).getD ((v1.getD 2 d0).ii).toNat []).getD 7 d0).ll),.sl (((((v1.getD 0 d0).ll).getD ((v1.getD 2 d0).ii).toNat []).getD 8 d0).ll),.b (((((v1.getD 0 d0).ll).getD ((v1.getD 2 d0).ii).toNat []).getD 9 d0).bb),.sl (((((v1.getD 0 d0).ll).getD ((v1.getD 2 d0).ii).toNat []).getD 10 d0).ll),.i (((((v1.getD 1 d0).ll).getD ((v1.getD 2 d0).ii).toNat []).getD 0 d0).ii),.b (((((v1.getD 1 d0).ll).getD ((v1.getD 2 d0).ii).toNat []).getD 1 d0).bb),.s (((((v1.getD 1 d0).ll).getD ((v1.getD 2 d0).ii).toNat []).getD 2 d0).ss),.s (((((v1.getD 1 d0).ll).getD ((v1.getD 2 d0).ii).toNat []).getD 3 d0).ss),.sl (((((v1.getD 1 d0).ll).getD ((v1.getD 2 d0).ii).toNat []).getD 4 d0).ll),.sl (((((v1.getD 1 d0).ll).getD ((v1.getD 2 d0).ii).toNat []).getD 5 d0).ll),.sl (((((v1.getD 1 d0).ll).getD ((v1.getD 2 d0).ii).toNat []).getD 6 d0).ll),.sl (((((v1.getD 1 d0).ll).getD ((v1.getD 2 d0).ii).toNat []).getD 7 d0).ll),.sl (((((v1.getD 1 d0).ll).getD ((v1.getD 2 d0).ii).toNat []).getD 8 d0).ll),.b (((((v1.getD 1 d0).ll).getD ((v1.getD 2 d0).ii).toNat []).getD 9 d0).bb),.sl (((((v1.getD 1 d0).ll).getD ((v1.getD 2 d0).ii).toNat []).getD 10 d0).ll)]).bindR fun r2 =>
 if (!((r2.getD 0 d0).bb))=true then
 .ret [.b false]
 else
 .norm [.sl ((v1.getD 0 d0).ll),.sl ((v1.getD 1 d0).ll),.i ((v1.getD 2 d0).ii)]
 else
 .fail
 else
 .fail) 1 fun v3 =>
 .norm [.sl ((v3.getD 0 d0).ll),.sl ((v3.getD 1 d0).ll),.i (IntKind.i64.wrap ((v3.getD 2 d0).ii + (1:Int)))]
 else
 .ex 0 []
noncomputable def XN (a:List DC):Out :=
 if ((((a.getD 0 d0).ll).length:Int) != (((a.getD 1 d0).ll).length:Int))=true then
 .ret [.b false]
 else
 ja (jK JZ [.sl ((a.getD 0 d0).ll),.sl ((a.getD 1 d0).ll),.i (0:Int)]) 0 fun v4 =>
 .ret [.b true]
theorem j1k a:qP a=XN a:=(jt cfg 9 _ a).trans (by kernel_rfl)
noncomputable def Q5 (a:List DC):Out :=
 (qJ [.sl ((a.getD 0 d0).ll),.i ((a.getD 3 d0).ii)]).bindR fun r1 =>
 if (decide ((r1.getD 0 d0).ii < (0:Int)))=true then
 .ret [.i (-1:Int)]
 else
 (qJ [.sl ((a.getD 1 d0).ll),.i ((r1.getD 0 d0).ii)]).bindR fun r2 =>
 if (decide ((r2.getD 0 d0).ii < (0:Int)))=true then
 .ret [.i (-1:Int)]
 else
 (qg [.sl ((a.getD 2 d0).ll),.i ((r2.getD 0 d0).ii)]).bindR fun r3 =>
 if (decide ((r3.getD 0 d0).ii < (0:Int)))=true then
 .ret [.i (-1:Int)]
 else
 .ret [.i ((r3.getD 0 d0).ii)]
theorem Yd a:pI a=Q5 a:=(jt cfg 16 _ a).trans (by kernel_rfl)
noncomputable def Z2 (a:List DC):Out :=
 if (decide ((IntKind.i64.wrap ((a.getD 11 d0).ii - (((a.getD 2 d0).ss).length:Int))) < (0:Int)))=true then
 .ret [.i (-1:Int)]
 else
 if (decide ((IntKind.i64.wrap ((IntKind.i64.wrap ((a.getD 11 d0).ii - (((a.getD 2 d0).ss).length:Int))) - (((a.getD 3 d0).ss).length:Int))) < (0:Int)))=true then
 .ret [.i (-1:Int)]
 else
 (yD [.sl ((a.getD 4 d0).ll),.i (IntKind.i64.wrap ((IntKind.i64.wrap ((a.getD 11 d0).ii - (((a.getD 2 d0).ss).length:Int))) - (((a.getD 3 d0).ss).length:Int)))]).bindR fun r1 =>
 if (decide ((r1.getD 0 d0).ii < (0:Int)))=true then
 .ret [.i (-1:Int)]
 else
 (qu [.sl ((a.getD 5 d0).ll),.i ((r1.getD 0 d0).ii)]).bindR fun r2 =>
 if (decide ((r2.getD 0 d0).ii < (0:Int)))=true then
 .ret [.i (-1:Int)]
 else
 (qI [.sl ((a.getD 6 d0).ll),.i ((r2.getD 0 d0).ii)]).bindR fun r3 =>
 if (decide ((r3.getD 0 d0).ii < (0:Int)))=true then
 .ret [.i (-1:Int)]
 else
 (qY [.sl ((a.getD 7 d0).ll),.i ((r3.getD 0 d0).ii)]).bindR fun r4 =>
 if (decide ((r4.getD 0 d0).ii < (0:Int)))=true then
 .ret [.i (-1:Int)]
 else
 (zH [.sl ((a.getD 8 d0).ll),.i ((r4.getD 0 d0).ii)]).bindR fun r5 =>
 if (decide ((r5.getD 0 d0).ii < (0:Int)))=true then
 .ret [.i (-1:Int)]
 else
 (pS [.sl ((a.getD 10 d0).ll),.i ((r5.getD 0 d0).ii)]).bindR fun r6 =>
 if (decide ((r6.getD 0 d0).ii < (0:Int)))=true then
 .ret [.i (-1:Int)]
 else
 .ret [.i ((r6.getD 0 d0).ii)]
theorem j1R a:Ka a=Z2 a:=(jt cfg 17 _ a).trans (by kernel_rfl)
noncomputable def YZ (a:List DC):Out :=
 (yB [.sl ((a.getD 4 d0).ll)]).bindR fun r1 =>
 (qt [.sl ((a.getD 5 d0).ll)]).bindR fun r2 =>
 (qH [.sl ((a.getD 6 d0).ll)]).bindR fun r3 =>
 (qW [.sl ((a.getD 7 d0).ll)]).bindR fun r4 =>
 (zF [.sl ((a.getD 8 d0).ll)]).bindR fun r5 =>
 (pQ [.sl ((a.getD 10 d0).ll)]).bindR fun r6 =>
 .ret [.i ((a.getD 0 d0).ii),.b ((a.getD 1 d0).bb),.s ((a.getD 2 d0).ss),.s ((a.getD 3 d0).ss),.sl ((r1.getD 0 d0).ll),.sl ((r2.getD 0 d0).ll),.sl ((r3.getD 0 d0).ll),.sl ((r4.getD 0 d0).ll),.sl ((r5.getD 0 d0).ll),.b ((a.getD 9 d0).bb),.sl ((r6.getD 0 d0).ll)]
theorem j1O a:K7 a=YZ a:=(jt cfg 19 _ a).trans (by kernel_rfl)
noncomputable def kI:List DC → Out:=fun v1 =>
 if (decide ((v1.getD 3 d0).ii < (((v1.getD 0 d0).ll).length:Int)))=true then
 ja (if 50=50 ∧ 0 ≤ (v1.getD 3 d0).ii ∧ (v1.getD 3 d0).ii < (((v1.getD 0 d0).ll).length:Int) then
 (z8 [.i (((((v1.getD 0 d0).ll).getD ((v1.getD 3 d0).ii).toNat []).getD 0 d0).ii)]).bindR fun r2 =>
 jy (if ((r2.getD 0 d0).ii == (v1.getD 1 d0).ii)=true then
 if 50=50 ∧ 0 ≤ (v1.getD 3 d0).ii ∧ (v1.getD 3 d0).ii < (((v1.getD 0 d0).ll).length:Int) then
 if ((v1.getD 2 d0).ll).length + [[DC.i (((((v1.getD 0 d0).ll).getD ((v1.getD 3 d0).ii).toNat []).getD 0 d0).ii),DC.b (((((v1.getD 0 d0).ll).getD ((v1.getD 3 d0).ii).toNat []).getD 1 d0).bb),DC.s (((((v1.getD 0 d0).ll).getD ((v1.getD 3 d0).ii).toNat []).getD 2 d0).ss),DC.s (((((v1.getD 0 d0).ll).getD ((v1.getD 3 d0).ii).toNat []).getD 3 d0).ss),DC.sl (((((v1.getD 0 d0).ll).getD ((v1.getD 3 d0).ii).toNat []).getD 4 d0).ll),DC.sl (((((v1.getD 0 d0).ll).getD ((v1.getD 3 d0).ii).toNat []).getD 5 d0).ll),DC.sl (((((v1.getD 0 d0).ll).getD ((v1.getD 3 d0).ii).toNat []).getD 6 d0).ll),DC.sl (((((v1.getD 0 d0).ll).getD ((v1.getD 3 d0).ii).toNat []).getD 7 d0).ll),DC.sl (((((v1.getD 0 d0).ll).getD ((v1.getD 3 d0).ii).toNat []).getD 8 d0).ll),DC.b (((((v1.getD 0 d0).ll).getD ((v1.getD 3 d0).ii).toNat []).getD 9 d0).bb),DC.sl (((((v1.getD 0 d0).ll).getD ((v1.getD 3 d0).ii).toNat []).getD 10 d0).ll)]].length < kC then
 .norm [.sl ((v1.getD 0 d0).ll),.i ((v1.getD 1 d0).ii),.sl (((v1.getD 2 d0).ll) ++ [[DC.i (((((v1.getD 0 d0).ll).getD ((v1.getD 3 d0).ii).toNat []).getD 0 d0).ii),DC.b (((((v1.getD 0 d0).ll).getD ((v1.getD 3 d0).ii).toNat []).getD 1 d0).bb),DC.s (((((v1.getD 0 d0).ll).getD ((v1.getD 3 d0).ii).toNat []).getD 2 d0).ss),DC.s (((((v1.getD 0 d0).ll).getD ((v1.getD 3 d0).ii).toNat []).getD 3 d0).ss),DC.sl (((((v1.getD 0 d0).ll).getD ((v1.getD 3 d0).ii).toNat []).getD 4 d0).ll),DC.sl (((((v1.getD 0 d0).ll).getD ((v1.getD 3 d0).ii).toNat []).getD 5 d0).ll),DC.sl (((((v1.getD 0 d0).ll).getD ((v1.getD 3 d0).ii).toNat []).getD 6 d0).ll),DC.sl (((((v1.getD 0 d0).ll).getD ((v1.getD 3 d0).ii).toNat []).getD 7 d0).ll),DC.sl (((((v1.getD 0 d0).ll).getD ((v1.getD 3 d0).ii).toNat []).getD 8 d0).ll),DC.b (((((v1.getD 0 d0).ll).getD ((v1.getD 3 d0).ii).toNat []).getD 9 d0).bb),DC.sl (((((v1.getD 0 d0).ll).getD ((v1.getD 3 d0).ii).toNat []).getD 10 d0).ll)]]),.i ((v1.getD 3 d0).ii)]
 else
 .fail
 else
 .fail
 else
 .norm [.sl ((v1.getD 0 d0).ll),.i ((v1.getD 1 d0).ii),.sl ((v1.getD 2 d0).ll),.i ((v1.getD 3 d0).ii)]) fun v3 =>
 .norm [.sl ((v3.getD 0 d0).ll),.i ((v3.getD 1 d0).ii),.sl ((v3.getD 2 d0).ll),.i ((v3.getD 3 d0).ii)]
 else
 .fail) 1 fun v4 =>
 .norm [.sl ((v4.getD 0 d0).ll),.i ((v4.getD 1 d0).ii),.sl ((v4.getD 2 d0).ll),.i (IntKind.i64.wrap ((v4.getD 3 d0).ii + (1:Int)))]
 else
 .ex 0 [.sl ((v1.getD 2 d0).ll)]
noncomputable def Va (a:List DC):Out :=
 ja (jK kI [.sl ((a.getD 0 d0).ll),.i ((a.getD 1 d0).ii),.sl [],.i (0:Int)]) 0 fun v5 =>
 (qG [.sl ((v5.getD 0 d0).ll)]).bindR fun r6 =>
 .ret [.sl ((r6.getD 0 d0).ll)]
theorem Zp a:yZ a=Va a:=(jt cfg 38 _ a).trans (by kernel_rfl)
noncomputable def ql:List DC → Out:=fun v1 =>
 if (decide ((v1.getD 3 d0).ii < (((v1.getD 0 d0).ll).length:Int)))=true then
 ja (jy (if 50=50 ∧ 0 ≤ (v1.getD 3 d0).ii ∧ (v1.getD 3 d0).ii < (((v1.getD 0 d0).ll).length:Int) then
 (z8 [.i (((((v1.getD 0 d0).ll).getD ((v1.getD 3 d0).ii).toNat []).getD 0 d0).ii)]).bindR fun r2 =>
 if ((r2.getD 0 d0).ii == (v1.getD 1 d0).ii)=true then
 if ((v1.getD 1 d0).ii == (2:Int))=true then
 .norm [.sl ((v1.getD 0 d0).ll),.i ((v1.getD 1 d0).ii),.s ((v1.getD 2 d0).ss),.i ((v1.getD 3 d0).ii),.b true]
 else
 if 50=50 ∧ 0 ≤ (v1.getD 3 d0).ii ∧ (v1.getD 3 d0).ii < (((v1.getD 0 d0).ll).length:Int) then
 .norm [.sl ((v1.getD 0 d0).ll),.i ((v1.getD 1 d0).ii),.s ((v1.getD 2 d0).ss),.i ((v1.getD 3 d0).ii),.b (((((v1.getD 0 d0).ll).getD ((v1.getD 3 d0).ii).toNat []).getD 3 d0).ss == (v1.getD 2 d0).ss)]
 else
 .fail
 else
 .norm [.sl ((v1.getD 0 d0).ll),.i ((v1.getD 1 d0).ii),.s ((v1.getD 2 d0).ss),.i ((v1.getD 3 d0).ii),.b false]
 else
 .fail) fun v3 =>
 if (v3.getD 4 d0).bb=true then
 .ret [.i ((v3.getD 3 d0).ii)]
 else
 .norm [.sl ((v3.getD 0 d0).ll),.i ((v3.getD 1 d0).ii),.s ((v3.getD 2 d0).ss),.i ((v3.getD 3 d0).ii)]) 1 fun v4 =>
 .norm [.sl ((v4.getD 0 d0).ll),.i ((v4.getD 1 d0).ii),.s ((v4.getD 2 d0).ss),.i (IntKind.i64.wrap ((v4.getD 3 d0).ii + (1:Int)))]
 else
 .ex 0 []
noncomputable def YX (a:List DC):Out :=
 ja (jK ql [.sl ((a.getD 0 d0).ll),.i ((a.getD 1 d0).ii),.s ((a.getD 2 d0).ss),.i (0:Int)]) 0 fun v5 =>
 .ret [.i (-1:Int)]
theorem j1M a:QQ a=YX a:=(jt cfg 39 _ a).trans (by kernel_rfl)
noncomputable def ze:List DC → Out:=fun v1 =>
 jy (if (decide ((v1.getD 1 d0).ii < (((v1.getD 2 d0).ll).length:Int)))=true then
 .norm [.s ((v1.getD 0 d0).ss),.i ((v1.getD 1 d0).ii),.b (decide ((((v1.getD 2 d0).ll).length:Int) ≤ (60:Int))),.sl ((v1.getD 2 d0).ll),.sl ((v1.getD 3 d0).ll),.sl ((v1.getD 4 d0).ll)]
 else
 .norm [.s ((v1.getD 0 d0).ss),.i ((v1.getD 1 d0).ii),.b false,.sl ((v1.getD 2 d0).ll),.sl ((v1.getD 3 d0).ll),.sl ((v1.getD 4 d0).ll)]) fun v2 =>
 if (v2.getD 2 d0).bb=true then
 ja (if 50=50 ∧ 0 ≤ (v2.getD 1 d0).ii ∧ (v2.getD 1 d0).ii < (((v2.getD 3 d0).ll).length:Int) then
 if (((((v2.getD 3 d0).ll).getD ((v2.getD 1 d0).ii).toNat []).getD 3 d0).ss == (v2.getD 0 d0).ss)=true then
 .ret [.i ((v2.getD 1 d0).ii)]
 else
 .norm [.s ((v2.getD 0 d0).ss),.i ((v2.getD 1 d0).ii),.sl ((v2.getD 3 d0).ll),.sl ((v2.getD 4 d0).ll),.sl ((v2.getD 5 d0).ll)]
 else
 .fail) 1 fun v3 =>
 .norm [.s ((v3.getD 0 d0).ss),.i (IntKind.i64.wrap ((v3.getD 1 d0).ii + (1:Int))),.sl ((v3.getD 2 d0).ll),.sl ((v3.getD 3 d0).ll),.sl ((v3.getD 4 d0).ll)]
 else
 .ex 0 []
noncomputable def Xz (a:List DC):Out :=
 ja (jK ze [.s ((a.getD 3 d0).ss),.i (0:Int),.sl ((a.getD 0 d0).ll),.sl ((a.getD 1 d0).ll),.sl ((a.getD 2 d0).ll)]) 0 fun v4 =>
 .ret [.i (-1:Int)]
theorem j16 a:Qf a=Xz a:=(jt cfg 40 _ a).trans (by kernel_rfl)
noncomputable def Vp (a:List DC):Out :=
 (J9 [.sl ((a.getD 0 d0).ll)]).bindR fun r1 =>
 if ((r1.getD 0 d0).ll).length < kC then
 .ret [.sl (j41 3 ((r1.getD 0 d0).ll))]
 else
 .fail
theorem ZE a:JN a=Vp a:=(jt cfg 8 _ a).trans (by kernel_rfl)
noncomputable def XP (a:List DC):Out :=
 jy (if ((a.getD 0 d0).ii != (7:Int))=true then
 .norm [.b ((a.getD 0 d0).ii != (8:Int))]
 else
 .norm [.b false]) fun v1 =>
 .ret [.b ((v1.getD 0 d0).bb)]
theorem j1m a:Qg a=XP a:=(jt cfg 41 _ a).trans (by kernel_rfl)
noncomputable def kX:List DC → Out:=fun v6 =>
 if (decide ((v6.getD 3 d0).ii < (v6.getD 2 d0).ii))=true then
 ja (if 68=68 ∧ 0 ≤ (v6.getD 3 d0).ii ∧ (v6.getD 3 d0).ii < (((v6.getD 1 d0).ll).length:Int) then
 (Qi [.i (((((v6.getD 1 d0).ll).getD ((v6.getD 3 d0).ii).toNat []).getD 0 d0).ii)]).bindR fun r7 =>
 jy (if (!((r7.getD 0 d0).ss == ([]:List UInt8)))=true then
 if ((v6.getD 0 d0).ll).length + [[DC.i (((((v6.getD 1 d0).ll).getD ((v6.getD 3 d0).ii).toNat []).getD 0 d0).ii),DC.s (((((v6.getD 1 d0).ll).getD ((v6.getD 3 d0).ii).toNat []).getD 1 d0).ss)]].length < kC then
 .norm [.sl (((v6.getD 0 d0).ll) ++ [[DC.i (((((v6.getD 1 d0).ll).getD ((v6.getD 3 d0).ii).toNat []).getD 0 d0).ii),DC.s (((((v6.getD 1 d0).ll).getD ((v6.getD 3 d0).ii).toNat []).getD 1 d0).ss)]]),.sl ((v6.getD 1 d0).ll),.i ((v6.getD 2 d0).ii),.i ((v6.getD 3 d0).ii)]
 else
 .fail
 else
 .norm [.sl ((v6.getD 0 d0).ll),.sl ((v6.getD 1 d0).ll),.i ((v6.getD 2 d0).ii),.i ((v6.getD 3 d0).ii)]) fun v8 =>
 .norm [.sl ((v8.getD 0 d0).ll),.sl ((v8.getD 1 d0).ll),.i ((v8.getD 2 d0).ii),.i ((v8.getD 3 d0).ii)]
 else
 .fail) 1 fun v9 =>
 .norm [.sl ((v9.getD 0 d0).ll),.sl ((v9.getD 1 d0).ll),.i ((v9.getD 2 d0).ii),.i (IntKind.i64.wrap ((v9.getD 3 d0).ii + (1:Int)))]
 else
 .ex 0 [.sl ((v6.getD 0 d0).ll)]
noncomputable def pu:List DC → Out:=fun v16 =>
 if (decide ((v16.getD 3 d0).ii < (v16.getD 2 d0).ii))=true then
 ja (if 9=9 ∧ 0 ≤ (v16.getD 3 d0).ii ∧ (v16.getD 3 d0).ii < (((v16.getD 1 d0).ll).length:Int) then
 (Qh [.sl ((v16.getD 4 d0).ll),.sl ((v16.getD 5 d0).ll),.sl ((v16.getD 6 d0).ll),.s (((((v16.getD 1 d0).ll).getD ((v16.getD 3 d0).ii).toNat []).getD 0 d0).ss)]).bindR fun r17 =>
 jy (if (decide ((r17.getD 0 d0).ii ≥ (0:Int)))=true then
 if 50=50 ∧ 0 ≤ (r17.getD 0 d0).ii ∧ (r17.getD 0 d0).ii < (((v16.getD 4 d0).ll).length:Int) then
 .norm [.sl ((v16.getD 0 d0).ll),.i ((v16.getD 3 d0).ii),.s (((((v16.getD 1 d0).ll).getD ((v16.getD 3 d0).ii).toNat []).getD 0 d0).ss),.sl ((v16.getD 1 d0).ll),.i ((v16.getD 2 d0).ii),.i ((v16.getD 3 d0).ii),.b (((((v16.getD 4 d0).ll).getD ((r17.getD 0 d0).ii).toNat []).getD 0 d0).ii == (2:Int)),.sl ((v16.getD 4 d0).ll),.sl ((v16.getD 5 d0).ll),.sl ((v16.getD 6 d0).ll)]
 else
 .fail
 else
 .norm [.sl ((v16.getD 0 d0).ll),.i ((v16.getD 3 d0).ii),.s (((((v16.getD 1 d0).ll).getD ((v16.getD 3 d0).ii).toNat []).getD 0 d0).ss),.sl ((v16.getD 1 d0).ll),.i ((v16.getD 2 d0).ii),.i ((v16.getD 3 d0).ii),.b false,.sl ((v16.getD 4 d0).ll),.sl ((v16.getD 5 d0).ll),.sl ((v16.getD 6 d0).ll)]) fun v18 =>
 jy (if (v18.getD 6 d0).bb=true then
 if ((v18.getD 0 d0).ll).length + [[DC.i (IntKind.i64.wrap ((v18.getD 1 d0).ii + (1:Int))),DC.s ((v18.getD 2 d0).ss)]].length < kC then
 .norm [.sl (((v18.getD 0 d0).ll) ++ [[DC.i (IntKind.i64.wrap ((v18.getD 1 d0).ii + (1:Int))),DC.s ((v18.getD 2 d0).ss)]]),.sl ((v18.getD 3 d0).ll),.i ((v18.getD 4 d0).ii),.i ((v18.getD 5 d0).ii),.sl ((v18.getD 7 d0).ll),.sl ((v18.getD 8 d0).ll),.sl ((v18.getD 9 d0).ll)]
 else
 .fail
 else
 .norm [.sl ((v18.getD 0 d0).ll),.sl ((v18.getD 3 d0).ll),.i ((v18.getD 4 d0).ii),.i ((v18.getD 5 d0).ii),.sl ((v18.getD 7 d0).ll),.sl ((v18.getD 8 d0).ll),.sl ((v18.getD 9 d0).ll)]) fun v19 =>
 .norm [.sl ((v19.getD 0 d0).ll),.sl ((v19.getD 1 d0).ll),.i ((v19.getD 2 d0).ii),.i ((v19.getD 3 d0).ii),.sl ((v19.getD 4 d0).ll),.sl ((v19.getD 5 d0).ll),.sl ((v19.getD 6 d0).ll)]
 else
 .fail) 3 fun v20 =>
 .norm [.sl ((v20.getD 0 d0).ll),.sl ((v20.getD 1 d0).ll),.i ((v20.getD 2 d0).ii),.i (IntKind.i64.wrap ((v20.getD 3 d0).ii + (1:Int))),.sl ((v20.getD 4 d0).ll),.sl ((v20.getD 5 d0).ll),.sl ((v20.getD 6 d0).ll)]
 else
 .ex 2 [.sl ((v16.getD 0 d0).ll)]
noncomputable def Xa (a:List DC):Out :=
 (jX [.sl ((a.getD 0 d0).ll)]).bindR fun r1 =>
 if (decide ((r1.getD 0 d0).ii ≥ (0:Int)))=true then
 if 50=50 ∧ 0 ≤ (r1.getD 0 d0).ii ∧ (r1.getD 0 d0).ii < (((a.getD 0 d0).ll).length:Int) then
 ja (jK kX [.sl [],.sl (((((a.getD 0 d0).ll).getD ((r1.getD 0 d0).ii).toNat []).getD 8 d0).ll),.i ((((((a.getD 0 d0).ll).getD ((r1.getD 0 d0).ii).toNat []).getD 8 d0).ll).length:Int),.i (0:Int)]) 0 fun v10 =>
 if (rgI 0 ((v10.getD 0 d0).ll)) < kC then
 .ret [.sl (j40 0 ((v10.getD 0 d0).ll))]
 else
 .fail
 else
 .fail
 else
 ja (jK pu [.sl [],.sl [[DC.s ([81,117,101,114,121]:List UInt8)],[DC.s ([77,117,116,97,116,105,111,110]:List UInt8)],[DC.s ([83,117,98,115,99,114,105,112,116,105,111,110]:List UInt8)]],.i ([[DC.s ([81,117,101,114,121]:List UInt8)],[DC.s ([77,117,116,97,116,105,111,110]:List UInt8)],[DC.s ([83,117,98,115,99,114,105,112,116,105,111,110]:List UInt8)]].length:Int),.i (0:Int),.sl ((a.getD 1 d0).ll),.sl ((a.getD 2 d0).ll),.sl ((a.getD 3 d0).ll)]) 2 fun v21 =>
 .ret [.sl ((v21.getD 0 d0).ll)]
theorem j0g a:Kt a=Xa a:=(jt cfg 42 _ a).trans (by kernel_rfl)
noncomputable def Jg:List DC → Out:=fun v1 =>
 if (decide ((v1.getD 2 d0).ii < (((v1.getD 0 d0).ll).length:Int)))=true then
 ja (if 68=68 ∧ 0 ≤ (v1.getD 2 d0).ii ∧ (v1.getD 2 d0).ii < (((v1.getD 0 d0).ll).length:Int) then
 if 68=68 ∧ 0 ≤ (v1.getD 2 d0).ii ∧ (v1.getD 2 d0).ii < (((v1.getD 1 d0).ll).length:Int) then
 (Js [.i (((((v1.getD 0 d0).ll).getD ((v1.getD 2 d0).ii).toNat []).getD 0 d0).ii),.s (((((v1.getD 0 d0).ll).getD ((v1.getD 2 d0).ii).toNat []).getD 1 d0).ss),.i (((((v1.getD 1 d0).ll).getD ((v1.getD 2 d0).ii).toNat []).getD 0 d0).ii),.s (((((v1.getD 1 d0).ll).getD ((v1.getD 2 d0).ii).toNat []).getD 1 d0).ss)]).bindR fun r2 =>
 if (!((r2.getD 0 d0).bb))=true then
 .ret [.b false]
 else
 .norm [.sl ((v1.getD 0 d0).ll),.sl ((v1.getD 1 d0).ll),.i ((v1.getD 2 d0).ii)]
 else
 .fail
 else
 .fail) 1 fun v3 =>
 .norm [.sl ((v3.getD 0 d0).ll),.sl ((v3.getD 1 d0).ll),.i (IntKind.i64.wrap ((v3.getD 2 d0).ii + (1:Int)))]
 else
 .ex 0 []
noncomputable def X8 (a:List DC):Out :=
 if ((((a.getD 0 d0).ll).length:Int) != (((a.getD 1 d0).ll).length:Int))=true then
 .ret [.b false]
 else
 ja (jK Jg [.sl ((a.getD 0 d0).ll),.sl ((a.getD 1 d0).ll),.i (0:Int)]) 0 fun v4 =>
 .ret [.b true]
theorem j0e a:yp a=X8 a:=(jt cfg 43 _ a).trans (by kernel_rfl)
noncomputable def Z5 (a:List DC):Out :=
 if ((a.getD 0 d0).ii != (a.getD 11 d0).ii)=true then
 .ret [.b false]
 else
 if (!((a.getD 1 d0).bb == (a.getD 12 d0).bb))=true then
 .ret [.b false]
 else
 if (!((a.getD 2 d0).ss == (a.getD 13 d0).ss))=true then
 .ret [.b false]
 else
 if (!((a.getD 3 d0).ss == (a.getD 14 d0).ss))=true then
 .ret [.b false]
 else
 (yF [.sl ((a.getD 4 d0).ll),.sl ((a.getD 15 d0).ll)]).bindR fun r1 =>
 if (!((r1.getD 0 d0).bb))=true then
 .ret [.b false]
 else
 (qv [.sl ((a.getD 5 d0).ll),.sl ((a.getD 16 d0).ll)]).bindR fun r2 =>
 if (!((r2.getD 0 d0).bb))=true then
 .ret [.b false]
 else
 (qL [.sl ((a.getD 6 d0).ll),.sl ((a.getD 17 d0).ll)]).bindR fun r3 =>
 if (!((r3.getD 0 d0).bb))=true then
 .ret [.b false]
 else
 (ya [.sl ((a.getD 7 d0).ll),.sl ((a.getD 18 d0).ll)]).bindR fun r4 =>
 if (!((r4.getD 0 d0).bb))=true then
 .ret [.b false]
 else
 (yp [.sl ((a.getD 8 d0).ll),.sl ((a.getD 19 d0).ll)]).bindR fun r5 =>
 if (!((r5.getD 0 d0).bb))=true then
 .ret [.b false]
 else
 if (!((a.getD 9 d0).bb == (a.getD 20 d0).bb))=true then
 .ret [.b false]
 else
 (pT [.sl ((a.getD 10 d0).ll),.sl ((a.getD 21 d0).ll)]).bindR fun r6 =>
 if (!((r6.getD 0 d0).bb))=true then
 .ret [.b false]
 else
 .ret [.b true]
theorem j1U a:Kd a=Z5 a:=(jt cfg 24 _ a).trans (by kernel_rfl)
noncomputable def kL:List DC → Out:=fun v1 =>
 if (decide ((v1.getD 2 d0).ii < (((v1.getD 0 d0).ll).length:Int)))=true then
 ja (if 50=50 ∧ 0 ≤ (v1.getD 2 d0).ii ∧ (v1.getD 2 d0).ii < (((v1.getD 0 d0).ll).length:Int) then
 if (((((v1.getD 0 d0).ll).getD ((v1.getD 2 d0).ii).toNat []).getD 0 d0).ii != (v1.getD 1 d0).ii)=true then
 .ret [.i (-1:Int)]
 else
 if 50=50 ∧ 0 ≤ (v1.getD 2 d0).ii ∧ (v1.getD 2 d0).ii < (((v1.getD 0 d0).ll).length:Int) then
 if (3:Int)=0 then
 .fail
 else
 if (!(((((v1.getD 0 d0).ll).getD ((v1.getD 2 d0).ii).toNat []).getD 1 d0).bb == (((IntKind.i64.wrap ((v1.getD 1 d0).ii + (1:Int))).tmod (3:Int)) == (0:Int))))=true then
 .ret [.i (-1:Int)]
 else
 if 50=50 ∧ 0 ≤ (v1.getD 2 d0).ii ∧ (v1.getD 2 d0).ii < (((v1.getD 0 d0).ll).length:Int) then
 (jG [.i (IntKind.i64.wrap ((IntKind.i64.wrap ((v1.getD 1 d0).ii + (1:Int))) + (1:Int)))]).bindR fun r2 =>
 if (!(((((v1.getD 0 d0).ll).getD ((v1.getD 2 d0).ii).toNat []).getD 2 d0).ss == (r2.getD 0 d0).ss))=true then
 .ret [.i (-1:Int)]
 else
 if 50=50 ∧ 0 ≤ (v1.getD 2 d0).ii ∧ (v1.getD 2 d0).ii < (((v1.getD 0 d0).ll).length:Int) then
 (jG [.i (IntKind.i64.wrap ((IntKind.i64.wrap ((IntKind.i64.wrap ((v1.getD 1 d0).ii + (1:Int))) + (1:Int))) + (1:Int)))]).bindR fun r3 =>
 if (!(((((v1.getD 0 d0).ll).getD ((v1.getD 2 d0).ii).toNat []).getD 3 d0).ss == (r3.getD 0 d0).ss))=true then
 .ret [.i (-1:Int)]
 else
 if 50=50 ∧ 0 ≤ (v1.getD 2 d0).ii ∧ (v1.getD 2 d0).ii < (((v1.getD 0 d0).ll).length:Int) then
 (kw [.sl (((((v1.getD 0 d0).ll).getD ((v1.getD 2 d0).ii).toNat []).getD 4 d0).ll),.i (IntKind.i64.wrap ((IntKind.i64.wrap ((IntKind.i64.wrap ((IntKind.i64.wrap ((v1.getD 1 d0).ii + (1:Int))) + (1:Int))) + (1:Int))) + (1:Int)))]).bindR fun r4 =>
 if (decide ((r4.getD 0 d0).ii < (0:Int)))=true then
 .ret [.i (-1:Int)]
 else
 if 50=50 ∧ 0 ≤ (v1.getD 2 d0).ii ∧ (v1.getD 2 d0).ii < (((v1.getD 0 d0).ll).length:Int) then
 (pK [.sl (((((v1.getD 0 d0).ll).getD ((v1.getD 2 d0).ii).toNat []).getD 5 d0).ll),.i ((r4.getD 0 d0).ii)]).bindR fun r5 =>
 if (decide ((r5.getD 0 d0).ii < (0:Int)))=true then
 .ret [.i (-1:Int)]
 else
 if 50=50 ∧ 0 ≤ (v1.getD 2 d0).ii ∧ (v1.getD 2 d0).ii < (((v1.getD 0 d0).ll).length:Int) then
 (pJ [.sl (((((v1.getD 0 d0).ll).getD ((v1.getD 2 d0).ii).toNat []).getD 6 d0).ll),.i ((r5.getD 0 d0).ii)]).bindR fun r6 =>
 if (decide ((r6.getD 0 d0).ii < (0:Int)))=true then
 .ret [.i (-1:Int)]
 else
 if 50=50 ∧ 0 ≤ (v1.getD 2 d0).ii ∧ (v1.getD 2 d0).ii < (((v1.getD 0 d0).ll).length:Int) then
 (pX [.sl (((((v1.getD 0 d0).ll).getD ((v1.getD 2 d0).ii).toNat []).getD 7 d0).ll),.i ((r6.getD 0 d0).ii)]).bindR fun r7 =>
 if (decide ((r7.getD 0 d0).ii < (0:Int)))=true then
 .ret [.i (-1:Int)]
 else
 if 50=50 ∧ 0 ≤ (v1.getD 2 d0).ii ∧ (v1.getD 2 d0).ii < (((v1.getD 0 d0).ll).length:Int) then
 (qg [.sl (((((v1.getD 0 d0).ll).getD ((v1.getD 2 d0).ii).toNat []).getD 8 d0).ll),.i ((r7.getD 0 d0).ii)]).bindR fun r8 =>
 if (decide ((r8.getD 0 d0).ii < (0:Int)))=true then
 .ret [.i (-1:Int)]
 else
 if 50=50 ∧ 0 ≤ (v1.getD 2 d0).ii ∧ (v1.getD 2 d0).ii < (((v1.getD 0 d0).ll).length:Int) then
 if (3:Int)=0 then
 .fail
 else
 if (!(((((v1.getD 0 d0).ll).getD ((v1.getD 2 d0).ii).toNat []).getD 9 d0).bb == ((((r8.getD 0 d0).ii).tmod (3:Int)) == (0:Int))))=true then
 .ret [.i (-1:Int)]
 else
 if 50=50 ∧ 0 ≤ (v1.getD 2 d0).ii ∧ (v1.getD 2 d0).ii < (((v1.getD 0 d0).ll).length:Int) then
 (pd [.sl (((((v1.getD 0 d0).ll).getD ((v1.getD 2 d0).ii).toNat []).getD 10 d0).ll),.i (IntKind.i64.wrap ((r8.getD 0 d0).ii + (1:Int)))]).bindR fun r9 =>
 if (decide ((r9.getD 0 d0).ii < (0:Int)))=true then
 .ret [.i (-1:Int)]
 else
 .norm [.sl ((v1.getD 0 d0).ll),.i ((r9.getD 0 d0).ii),.i ((v1.getD 2 d0).ii)]
 else
 .fail
 else
 .fail
 else
 .fail
 else
 .fail
 else
 .fail
 else
 .fail
 else
 .fail
 else
 .fail
 else
 .fail
 else
 .fail
 else
 .fail) 1 fun v10 =>
 .norm [.sl ((v10.getD 0 d0).ll),.i ((v10.getD 1 d0).ii),.i (IntKind.i64.wrap ((v10.getD 2 d0).ii + (1:Int)))]
 else
 .ex 0 [.i ((v1.getD 1 d0).ii)]
noncomputable def Vi (a:List DC):Out :=
 ja (jK kL [.sl ((a.getD 0 d0).ll),.i ((a.getD 1 d0).ii),.i (0:Int)]) 0 fun v11 =>
 .ret [.i ((v11.getD 0 d0).ii)]
theorem Zx a:qJ a=Vi a:=(jt cfg 11 _ a).trans (by kernel_rfl)
noncomputable def ky:List DC → Out:=fun v1 =>
 if (decide ((v1.getD 2 d0).ii < (((v1.getD 0 d0).ll).length:Int)))=true then
 ja (if 68=68 ∧ 0 ≤ (v1.getD 2 d0).ii ∧ (v1.getD 2 d0).ii < (((v1.getD 0 d0).ll).length:Int) then
 if (((((v1.getD 0 d0).ll).getD ((v1.getD 2 d0).ii).toNat []).getD 0 d0).ii != (v1.getD 1 d0).ii)=true then
 .ret [.i (-1:Int)]
 else
 if 68=68 ∧ 0 ≤ (v1.getD 2 d0).ii ∧ (v1.getD 2 d0).ii < (((v1.getD 0 d0).ll).length:Int) then
 (jG [.i (IntKind.i64.wrap ((v1.getD 1 d0).ii + (1:Int)))]).bindR fun r2 =>
 if (!(((((v1.getD 0 d0).ll).getD ((v1.getD 2 d0).ii).toNat []).getD 1 d0).ss == (r2.getD 0 d0).ss))=true then
 .ret [.i (-1:Int)]
 else
 .norm [.sl ((v1.getD 0 d0).ll),.i (IntKind.i64.wrap ((IntKind.i64.wrap ((v1.getD 1 d0).ii + (1:Int))) + (1:Int))),.i ((v1.getD 2 d0).ii)]
 else
 .fail
 else
 .fail) 1 fun v3 =>
 .norm [.sl ((v3.getD 0 d0).ll),.i ((v3.getD 1 d0).ii),.i (IntKind.i64.wrap ((v3.getD 2 d0).ii + (1:Int)))]
 else
 .ex 0 [.i ((v1.getD 1 d0).ii)]
noncomputable def QF (a:List DC):Out :=
 ja (jK ky [.sl ((a.getD 0 d0).ll),.i ((a.getD 1 d0).ii),.i (0:Int)]) 0 fun v4 =>
 .ret [.i ((v4.getD 0 d0).ii)]
theorem YL a:qg a=QF a:=(jt cfg 36 _ a).trans (by kernel_rfl)
noncomputable def zq:List DC → Out:=fun v1 =>
 if (decide ((v1.getD 2 d0).ii < (((v1.getD 0 d0).ll).length:Int)))=true then
 ja (if 9=9 ∧ 0 ≤ (v1.getD 2 d0).ii ∧ (v1.getD 2 d0).ii < (((v1.getD 0 d0).ll).length:Int) then
 if (decide ((IntKind.i64.wrap ((v1.getD 1 d0).ii - ((((((v1.getD 0 d0).ll).getD ((v1.getD 2 d0).ii).toNat []).getD 0 d0).ss).length:Int))) < (0:Int)))=true then
 .ret [.i (-1:Int)]
 else
 .norm [.sl ((v1.getD 0 d0).ll),.i (IntKind.i64.wrap ((v1.getD 1 d0).ii - ((((((v1.getD 0 d0).ll).getD ((v1.getD 2 d0).ii).toNat []).getD 0 d0).ss).length:Int))),.i ((v1.getD 2 d0).ii)]
 else
 .fail) 1 fun v2 =>
 .norm [.sl ((v2.getD 0 d0).ll),.i ((v2.getD 1 d0).ii),.i (IntKind.i64.wrap ((v2.getD 2 d0).ii + (1:Int)))]
 else
 .ex 0 [.i ((v1.getD 1 d0).ii)]
noncomputable def QD (a:List DC):Out :=
 if (decide ((IntKind.i64.wrap ((a.getD 1 d0).ii - (((a.getD 0 d0).ll).length:Int))) < (0:Int)))=true then
 .ret [.i (-1:Int)]
 else
 ja (jK zq [.sl ((a.getD 0 d0).ll),.i (IntKind.i64.wrap ((a.getD 1 d0).ii - (((a.getD 0 d0).ll).length:Int))),.i (0:Int)]) 0 fun v3 =>
 .ret [.i ((v3.getD 0 d0).ii)]
theorem YJ a:yD a=QD a:=(jt cfg 44 _ a).trans (by kernel_rfl)
noncomputable def yy:List DC → Out:=fun v1 =>
 if (decide ((v1.getD 2 d0).ii < (((v1.getD 0 d0).ll).length:Int)))=true then
 ja (if 118=118 ∧ 0 ≤ (v1.getD 2 d0).ii ∧ (v1.getD 2 d0).ii < (((v1.getD 0 d0).ll).length:Int) then
 (qX [.s (((((v1.getD 0 d0).ll).getD ((v1.getD 2 d0).ii).toNat []).getD 0 d0).ss),.s (((((v1.getD 0 d0).ll).getD ((v1.getD 2 d0).ii).toNat []).getD 1 d0).ss),.sl (((((v1.getD 0 d0).ll).getD ((v1.getD 2 d0).ii).toNat []).getD 2 d0).ll),.s (((((v1.getD 0 d0).ll).getD ((v1.getD 2 d0).ii).toNat []).getD 3 d0).ss),.s (((((v1.getD 0 d0).ll).getD ((v1.getD 2 d0).ii).toNat []).getD 4 d0).ss),.sl (((((v1.getD 0 d0).ll).getD ((v1.getD 2 d0).ii).toNat []).getD 5 d0).ll),.i ((v1.getD 1 d0).ii)]).bindR fun r2 =>
 if (decide ((r2.getD 0 d0).ii < (0:Int)))=true then
 .ret [.i (-1:Int)]
 else
 .norm [.sl ((v1.getD 0 d0).ll),.i ((r2.getD 0 d0).ii),.i ((v1.getD 2 d0).ii)]
 else
 .fail) 1 fun v3 =>
 .norm [.sl ((v3.getD 0 d0).ll),.i ((v3.getD 1 d0).ii),.i (IntKind.i64.wrap ((v3.getD 2 d0).ii + (1:Int)))]
 else
 .ex 0 [.i ((v1.getD 1 d0).ii)]
noncomputable def KI (a:List DC):Out :=
 if (decide ((IntKind.i64.wrap ((a.getD 1 d0).ii - (((a.getD 0 d0).ll).length:Int))) < (0:Int)))=true then
 .ret [.i (-1:Int)]
 else
 ja (jK yy [.sl ((a.getD 0 d0).ll),.i (IntKind.i64.wrap ((a.getD 1 d0).ii - (((a.getD 0 d0).ll).length:Int))),.i (0:Int)]) 0 fun v4 =>
 .ret [.i ((v4.getD 0 d0).ii)]
theorem Xp a:qu a=KI a:=(jt cfg 45 _ a).trans (by kernel_rfl)
noncomputable def zY:List DC → Out:=fun v1 =>
 if (decide ((v1.getD 2 d0).ii < (((v1.getD 0 d0).ll).length:Int)))=true then
 ja (if 124=124 ∧ 0 ≤ (v1.getD 2 d0).ii ∧ (v1.getD 2 d0).ii < (((v1.getD 0 d0).ll).length:Int) then
 (zI [.s (((((v1.getD 0 d0).ll).getD ((v1.getD 2 d0).ii).toNat []).getD 0 d0).ss),.s (((((v1.getD 0 d0).ll).getD ((v1.getD 2 d0).ii).toNat []).getD 1 d0).ss),.s (((((v1.getD 0 d0).ll).getD ((v1.getD 2 d0).ii).toNat []).getD 2 d0).ss),.s (((((v1.getD 0 d0).ll).getD ((v1.getD 2 d0).ii).toNat []).getD 3 d0).ss),.b (((((v1.getD 0 d0).ll).getD ((v1.getD 2 d0).ii).toNat []).getD 4 d0).bb),.i (((((v1.getD 0 d0).ll).getD ((v1.getD 2 d0).ii).toNat []).getD 5 d0).ii),.s (((((v1.getD 0 d0).ll).getD ((v1.getD 2 d0).ii).toNat []).getD 6 d0).ss),.sl (((((v1.getD 0 d0).ll).getD ((v1.getD 2 d0).ii).toNat []).getD 7 d0).ll),.sl (((((v1.getD 0 d0).ll).getD ((v1.getD 2 d0).ii).toNat []).getD 8 d0).ll),.sl (((((v1.getD 0 d0).ll).getD ((v1.getD 2 d0).ii).toNat []).getD 9 d0).ll),.i ((v1.getD 1 d0).ii)]).bindR fun r2 =>
 if (decide ((r2.getD 0 d0).ii < (0:Int)))=true then
 .ret [.i (-1:Int)]
 else
 .norm [.sl ((v1.getD 0 d0).ll),.i ((r2.getD 0 d0).ii),.i ((v1.getD 2 d0).ii)]
 else
 .fail) 1 fun v3 =>
 .norm [.sl ((v3.getD 0 d0).ll),.i ((v3.getD 1 d0).ii),.i (IntKind.i64.wrap ((v3.getD 2 d0).ii + (1:Int)))]
 else
 .ex 0 [.i ((v1.getD 1 d0).ii)]
noncomputable def Vg (a:List DC):Out :=
 if (decide ((IntKind.i64.wrap ((a.getD 1 d0).ii - (((a.getD 0 d0).ll).length:Int))) < (0:Int)))=true then
 .ret [.i (-1:Int)]
 else
 ja (jK zY [.sl ((a.getD 0 d0).ll),.i (IntKind.i64.wrap ((a.getD 1 d0).ii - (((a.getD 0 d0).ll).length:Int))),.i (0:Int)]) 0 fun v4 =>
 .ret [.i ((v4.getD 0 d0).ii)]
theorem Zv a:qI a=Vg a:=(jt cfg 46 _ a).trans (by kernel_rfl)
noncomputable def yS:List DC → Out:=fun v1 =>
 if (decide ((v1.getD 2 d0).ii < (((v1.getD 0 d0).ll).length:Int)))=true then
 ja (if 127=127 ∧ 0 ≤ (v1.getD 2 d0).ii ∧ (v1.getD 2 d0).ii < (((v1.getD 0 d0).ll).length:Int) then
 (yE [.s (((((v1.getD 0 d0).ll).getD ((v1.getD 2 d0).ii).toNat []).getD 0 d0).ss),.s (((((v1.getD 0 d0).ll).getD ((v1.getD 2 d0).ii).toNat []).getD 1 d0).ss),.sl (((((v1.getD 0 d0).ll).getD ((v1.getD 2 d0).ii).toNat []).getD 2 d0).ll),.i ((v1.getD 1 d0).ii)]).bindR fun r2 =>
 if (decide ((r2.getD 0 d0).ii < (0:Int)))=true then
 .ret [.i (-1:Int)]
 else
 .norm [.sl ((v1.getD 0 d0).ll),.i ((r2.getD 0 d0).ii),.i ((v1.getD 2 d0).ii)]
 else
 .fail) 1 fun v3 =>
 .norm [.sl ((v3.getD 0 d0).ll),.i ((v3.getD 1 d0).ii),.i (IntKind.i64.wrap ((v3.getD 2 d0).ii + (1:Int)))]
 else
 .ex 0 [.i ((v1.getD 1 d0).ii)]
noncomputable def Q3 (a:List DC):Out :=
 if (decide ((IntKind.i64.wrap ((a.getD 1 d0).ii - (((a.getD 0 d0).ll).length:Int))) < (0:Int)))=true then
 .ret [.i (-1:Int)]
 else
 ja (jK yS [.sl ((a.getD 0 d0).ll),.i (IntKind.i64.wrap ((a.getD 1 d0).ii - (((a.getD 0 d0).ll).length:Int))),.i (0:Int)]) 0 fun v4 =>
 .ret [.i ((v4.getD 0 d0).ii)]
theorem Yb a:qY a=Q3 a:=(jt cfg 47 _ a).trans (by kernel_rfl)
noncomputable def Jf:List DC → Out:=fun v1 =>
 if (decide ((v1.getD 2 d0).ii < (((v1.getD 0 d0).ll).length:Int)))=true then
 ja (if 129=129 ∧ 0 ≤ (v1.getD 2 d0).ii ∧ (v1.getD 2 d0).ii < (((v1.getD 0 d0).ll).length:Int) then
 (Jo [.i (((((v1.getD 0 d0).ll).getD ((v1.getD 2 d0).ii).toNat []).getD 0 d0).ii),.s (((((v1.getD 0 d0).ll).getD ((v1.getD 2 d0).ii).toNat []).getD 1 d0).ss),.i ((v1.getD 1 d0).ii)]).bindR fun r2 =>
 if (decide ((r2.getD 0 d0).ii < (0:Int)))=true then
 .ret [.i (-1:Int)]
 else
 .norm [.sl ((v1.getD 0 d0).ll),.i ((r2.getD 0 d0).ii),.i ((v1.getD 2 d0).ii)]
 else
 .fail) 1 fun v3 =>
 .norm [.sl ((v3.getD 0 d0).ll),.i ((v3.getD 1 d0).ii),.i (IntKind.i64.wrap ((v3.getD 2 d0).ii + (1:Int)))]
 else
 .ex 0 [.i ((v1.getD 1 d0).ii)]
noncomputable def X5 (a:List DC):Out :=
 if (decide ((IntKind.i64.wrap ((a.getD 1 d0).ii - (((a.getD 0 d0).ll).length:Int))) < (0:Int)))=true then
 .ret [.i (-1:Int)]
 else
 ja (jK Jf [.sl ((a.getD 0 d0).ll),.i (IntKind.i64.wrap ((a.getD 1 d0).ii - (((a.getD 0 d0).ll).length:Int))),.i (0:Int)]) 0 fun v4 =>
 .ret [.i ((v4.getD 0 d0).ii)]
theorem j0b a:zH a=X5 a:=(jt cfg 48 _ a).trans (by kernel_rfl)
noncomputable def JV:List DC → Out:=fun v1 =>
 if (decide ((v1.getD 2 d0).ii < (((v1.getD 0 d0).ll).length:Int)))=true then
 ja (if 133=133 ∧ 0 ≤ (v1.getD 2 d0).ii ∧ (v1.getD 2 d0).ii < (((v1.getD 0 d0).ll).length:Int) then
 (K9 [.s (((((v1.getD 0 d0).ll).getD ((v1.getD 2 d0).ii).toNat []).getD 0 d0).ss),.sl (((((v1.getD 0 d0).ll).getD ((v1.getD 2 d0).ii).toNat []).getD 1 d0).ll),.i ((v1.getD 1 d0).ii)]).bindR fun r2 =>
 if (decide ((r2.getD 0 d0).ii < (0:Int)))=true then
 .ret [.i (-1:Int)]
 else
 .norm [.sl ((v1.getD 0 d0).ll),.i ((r2.getD 0 d0).ii),.i ((v1.getD 2 d0).ii)]
 else
 .fail) 1 fun v3 =>
 .norm [.sl ((v3.getD 0 d0).ll),.i ((v3.getD 1 d0).ii),.i (IntKind.i64.wrap ((v3.getD 2 d0).ii + (1:Int)))]
 else
 .ex 0 [.i ((v1.getD 1 d0).ii)]
noncomputable def XH (a:List DC):Out :=
 if (decide ((IntKind.i64.wrap ((a.getD 1 d0).ii - (((a.getD 0 d0).ll).length:Int))) < (0:Int)))=true then
 .ret [.i (-1:Int)]
 else
 ja (jK JV [.sl ((a.getD 0 d0).ll),.i (IntKind.i64.wrap ((a.getD 1 d0).ii - (((a.getD 0 d0).ll).length:Int))),.i (0:Int)]) 0 fun v4 =>
 .ret [.i ((v4.getD 0 d0).ii)]
theorem j1e a:pS a=XH a:=(jt cfg 49 _ a).trans (by kernel_rfl)
noncomputable def zp:List DC → Out:=fun v1 =>
 if (decide ((v1.getD 2 d0).ii < (((v1.getD 0 d0).ll).length:Int)))=true then
 ja (if 9=9 ∧ 0 ≤ (v1.getD 2 d0).ii ∧ (v1.getD 2 d0).ii < (((v1.getD 0 d0).ll).length:Int) then
 if 9=9 ∧ 0 ≤ (v1.getD 2 d0).ii ∧ (v1.getD 2 d0).ii < (((v1.getD 1 d0).ll).length:Int) then
 .norm [.sl ((v1.getD 0 d0).ll),.sl (((v1.getD 1 d0).ll).set (((v1.getD 2 d0).ii).toNat) (kF (((v1.getD 1 d0).ll).getD (((v1.getD 2 d0).ii).toNat) []) 0 [DC.s (((((v1.getD 0 d0).ll).getD ((v1.getD 2 d0).ii).toNat []).getD 0 d0).ss)])),.i ((v1.getD 2 d0).ii)]
 else
 .fail
 else
 .fail) 1 fun v2 =>
 .norm [.sl ((v2.getD 0 d0).ll),.sl ((v2.getD 1 d0).ll),.i (IntKind.i64.wrap ((v2.getD 2 d0).ii + (1:Int)))]
 else
 .ex 0 [.sl ((v1.getD 1 d0).ll)]
noncomputable def QB (a:List DC):Out :=
 if 0 ≤ (((a.getD 0 d0).ll).length:Int) ∧ (((a.getD 0 d0).ll).length:Int) < (kC:Int) ∧ (((a.getD 0 d0).ll).length:Int)=(((a.getD 0 d0).ll).length:Int) ∧ 16 ≤ 1024 ∧ 0 < 1 ∧ dp 9=false then
 ja (jK zp [.sl ((a.getD 0 d0).ll),.sl (List.replicate (((a.getD 0 d0).ll).length:Int).toNat [DC.s []]),.i (0:Int)]) 0 fun v3 =>
 .ret [.sl ((v3.getD 0 d0).ll)]
 else
 .fail
theorem YH a:yB a=QB a:=(jt cfg 54 _ a).trans (by kernel_rfl)
noncomputable def yx:List DC → Out:=fun v1 =>
 if (decide ((v1.getD 2 d0).ii < (((v1.getD 0 d0).ll).length:Int)))=true then
 ja (if 118=118 ∧ 0 ≤ (v1.getD 2 d0).ii ∧ (v1.getD 2 d0).ii < (((v1.getD 0 d0).ll).length:Int) then
 (qV [.s (((((v1.getD 0 d0).ll).getD ((v1.getD 2 d0).ii).toNat []).getD 0 d0).ss),.s (((((v1.getD 0 d0).ll).getD ((v1.getD 2 d0).ii).toNat []).getD 1 d0).ss),.sl (((((v1.getD 0 d0).ll).getD ((v1.getD 2 d0).ii).toNat []).getD 2 d0).ll),.s (((((v1.getD 0 d0).ll).getD ((v1.getD 2 d0).ii).toNat []).getD 3 d0).ss),.s (((((v1.getD 0 d0).ll).getD ((v1.getD 2 d0).ii).toNat []).getD 4 d0).ss),.sl (((((v1.getD 0 d0).ll).getD ((v1.getD 2 d0).ii).toNat []).getD 5 d0).ll)]).bindR fun r2 =>
 if 97=97 ∧ 0 ≤ (v1.getD 2 d0).ii ∧ (v1.getD 2 d0).ii < (((v1.getD 1 d0).ll).length:Int) then
 .norm [.sl ((v1.getD 0 d0).ll),.sl (((v1.getD 1 d0).ll).set (((v1.getD 2 d0).ii).toNat) (kF (((v1.getD 1 d0).ll).getD (((v1.getD 2 d0).ii).toNat) []) 0 [DC.s ((r2.getD 0 d0).ss),DC.s ((r2.getD 1 d0).ss),DC.sl ((r2.getD 2 d0).ll),DC.s ((r2.getD 3 d0).ss),DC.s ((r2.getD 4 d0).ss),DC.sl ((r2.getD 5 d0).ll)])),.i ((v1.getD 2 d0).ii)]
 else
 .fail
 else
 .fail) 1 fun v3 =>
 .norm [.sl ((v3.getD 0 d0).ll),.sl ((v3.getD 1 d0).ll),.i (IntKind.i64.wrap ((v3.getD 2 d0).ii + (1:Int)))]
 else
 .ex 0 [.sl ((v1.getD 1 d0).ll)]
noncomputable def KH (a:List DC):Out :=
 if 0 ≤ (((a.getD 0 d0).ll).length:Int) ∧ (((a.getD 0 d0).ll).length:Int) < (kC:Int) ∧ (((a.getD 0 d0).ll).length:Int)=(((a.getD 0 d0).ll).length:Int) ∧ 112 ≤ 1024 ∧ 0 < 6 ∧ dp 97=false then
 ja (jK yx [.sl ((a.getD 0 d0).ll),.sl (List.replicate (((a.getD 0 d0).ll).length:Int).toNat [DC.s [],DC.s [],DC.sl [],DC.s [],DC.s [],DC.sl []]),.i (0:Int)]) 0 fun v4 =>
 .ret [.sl ((v4.getD 0 d0).ll)]
 else
 .fail
theorem Xo a:qt a=KH a:=(jt cfg 55 _ a).trans (by kernel_rfl)
noncomputable def zW:List DC → Out:=fun v1 =>
 if (decide ((v1.getD 2 d0).ii < (((v1.getD 0 d0).ll).length:Int)))=true then
 ja (if 124=124 ∧ 0 ≤ (v1.getD 2 d0).ii ∧ (v1.getD 2 d0).ii < (((v1.getD 0 d0).ll).length:Int) then
 (zG [.s (((((v1.getD 0 d0).ll).getD ((v1.getD 2 d0).ii).toNat []).getD 0 d0).ss),.s (((((v1.getD 0 d0).ll).getD ((v1.getD 2 d0).ii).toNat []).getD 1 d0).ss),.s (((((v1.getD 0 d0).ll).getD ((v1.getD 2 d0).ii).toNat []).getD 2 d0).ss),.s (((((v1.getD 0 d0).ll).getD ((v1.getD 2 d0).ii).toNat []).getD 3 d0).ss),.b (((((v1.getD 0 d0).ll).getD ((v1.getD 2 d0).ii).toNat []).getD 4 d0).bb),.i (((((v1.getD 0 d0).ll).getD ((v1.getD 2 d0).ii).toNat []).getD 5 d0).ii),.s (((((v1.getD 0 d0).ll).getD ((v1.getD 2 d0).ii).toNat []).getD 6 d0).ss),.sl (((((v1.getD 0 d0).ll).getD ((v1.getD 2 d0).ii).toNat []).getD 7 d0).ll),.sl (((((v1.getD 0 d0).ll).getD ((v1.getD 2 d0).ii).toNat []).getD 8 d0).ll),.sl (((((v1.getD 0 d0).ll).getD ((v1.getD 2 d0).ii).toNat []).getD 9 d0).ll)]).bindR fun r2 =>
 if 102=102 ∧ 0 ≤ (v1.getD 2 d0).ii ∧ (v1.getD 2 d0).ii < (((v1.getD 1 d0).ll).length:Int) then
 .norm [.sl ((v1.getD 0 d0).ll),.sl (((v1.getD 1 d0).ll).set (((v1.getD 2 d0).ii).toNat) (kF (((v1.getD 1 d0).ll).getD (((v1.getD 2 d0).ii).toNat) []) 0 [DC.s ((r2.getD 0 d0).ss),DC.s ((r2.getD 1 d0).ss),DC.s ((r2.getD 2 d0).ss),DC.s ((r2.getD 3 d0).ss),DC.b ((r2.getD 4 d0).bb),DC.i ((r2.getD 5 d0).ii),DC.s ((r2.getD 6 d0).ss),DC.sl ((r2.getD 7 d0).ll),DC.sl ((r2.getD 8 d0).ll),DC.sl ((r2.getD 9 d0).ll)])),.i ((v1.getD 2 d0).ii)]
 else
 .fail
 else
 .fail) 1 fun v3 =>
 .norm [.sl ((v3.getD 0 d0).ll),.sl ((v3.getD 1 d0).ll),.i (IntKind.i64.wrap ((v3.getD 2 d0).ii + (1:Int)))]
 else
 .ex 0 [.sl ((v1.getD 1 d0).ll)]
noncomputable def Ve (a:List DC):Out :=
 if 0 ≤ (((a.getD 0 d0).ll).length:Int) ∧ (((a.getD 0 d0).ll).length:Int) < (kC:Int) ∧ (((a.getD 0 d0).ll).length:Int)=(((a.getD 0 d0).ll).length:Int) ∧ 168 ≤ 1024 ∧ 0 < 10 ∧ dp 102=false then
 ja (jK zW [.sl ((a.getD 0 d0).ll),.sl (List.replicate (((a.getD 0 d0).ll).length:Int).toNat [DC.s [],DC.s [],DC.s [],DC.s [],DC.b false,DC.i 0,DC.s [],DC.sl [],DC.sl [],DC.sl []]),.i (0:Int)]) 0 fun v4 =>
 .ret [.sl ((v4.getD 0 d0).ll)]
 else
 .fail
theorem Zt a:qH a=Ve a:=(jt cfg 56 _ a).trans (by kernel_rfl)
noncomputable def yR:List DC → Out:=fun v1 =>
 if (decide ((v1.getD 2 d0).ii < (((v1.getD 0 d0).ll).length:Int)))=true then
 ja (if 127=127 ∧ 0 ≤ (v1.getD 2 d0).ii ∧ (v1.getD 2 d0).ii < (((v1.getD 0 d0).ll).length:Int) then
 (yC [.s (((((v1.getD 0 d0).ll).getD ((v1.getD 2 d0).ii).toNat []).getD 0 d0).ss),.s (((((v1.getD 0 d0).ll).getD ((v1.getD 2 d0).ii).toNat []).getD 1 d0).ss),.sl (((((v1.getD 0 d0).ll).getD ((v1.getD 2 d0).ii).toNat []).getD 2 d0).ll)]).bindR fun r2 =>
 if 105=105 ∧ 0 ≤ (v1.getD 2 d0).ii ∧ (v1.getD 2 d0).ii < (((v1.getD 1 d0).ll).length:Int) then
 .norm [.sl ((v1.getD 0 d0).ll),.sl (((v1.getD 1 d0).ll).set (((v1.getD 2 d0).ii).toNat) (kF (((v1.getD 1 d0).ll).getD (((v1.getD 2 d0).ii).toNat) []) 0 [DC.s ((r2.getD 0 d0).ss),DC.s ((r2.getD 1 d0).ss),DC.sl ((r2.getD 2 d0).ll)])),.i ((v1.getD 2 d0).ii)]
 else
 .fail
 else
 .fail) 1 fun v3 =>
 .norm [.sl ((v3.getD 0 d0).ll),.sl ((v3.getD 1 d0).ll),.i (IntKind.i64.wrap ((v3.getD 2 d0).ii + (1:Int)))]
 else
 .ex 0 [.sl ((v1.getD 1 d0).ll)]
noncomputable def Q1 (a:List DC):Out :=
 if 0 ≤ (((a.getD 0 d0).ll).length:Int) ∧ (((a.getD 0 d0).ll).length:Int) < (kC:Int) ∧ (((a.getD 0 d0).ll).length:Int)=(((a.getD 0 d0).ll).length:Int) ∧ 56 ≤ 1024 ∧ 0 < 3 ∧ dp 105=false then
 ja (jK yR [.sl ((a.getD 0 d0).ll),.sl (List.replicate (((a.getD 0 d0).ll).length:Int).toNat [DC.s [],DC.s [],DC.sl []]),.i (0:Int)]) 0 fun v4 =>
 .ret [.sl ((v4.getD 0 d0).ll)]
 else
 .fail
theorem Y9 a:qW a=Q1 a:=(jt cfg 57 _ a).trans (by kernel_rfl)
noncomputable def Je:List DC → Out:=fun v1 =>
 if (decide ((v1.getD 2 d0).ii < (((v1.getD 0 d0).ll).length:Int)))=true then
 ja (if 129=129 ∧ 0 ≤ (v1.getD 2 d0).ii ∧ (v1.getD 2 d0).ii < (((v1.getD 0 d0).ll).length:Int) then
 (Jl [.i (((((v1.getD 0 d0).ll).getD ((v1.getD 2 d0).ii).toNat []).getD 0 d0).ii),.s (((((v1.getD 0 d0).ll).getD ((v1.getD 2 d0).ii).toNat []).getD 1 d0).ss)]).bindR fun r2 =>
 if 68=68 ∧ 0 ≤ (v1.getD 2 d0).ii ∧ (v1.getD 2 d0).ii < (((v1.getD 1 d0).ll).length:Int) then
 .norm [.sl ((v1.getD 0 d0).ll),.sl (((v1.getD 1 d0).ll).set (((v1.getD 2 d0).ii).toNat) (kF (((v1.getD 1 d0).ll).getD (((v1.getD 2 d0).ii).toNat) []) 0 [DC.i ((r2.getD 0 d0).ii),DC.s ((r2.getD 1 d0).ss)])),.i ((v1.getD 2 d0).ii)]
 else
 .fail
 else
 .fail) 1 fun v3 =>
 .norm [.sl ((v3.getD 0 d0).ll),.sl ((v3.getD 1 d0).ll),.i (IntKind.i64.wrap ((v3.getD 2 d0).ii + (1:Int)))]
 else
 .ex 0 [.sl ((v1.getD 1 d0).ll)]
noncomputable def X2 (a:List DC):Out :=
 if 0 ≤ (((a.getD 0 d0).ll).length:Int) ∧ (((a.getD 0 d0).ll).length:Int) < (kC:Int) ∧ (((a.getD 0 d0).ll).length:Int)=(((a.getD 0 d0).ll).length:Int) ∧ 24 ≤ 1024 ∧ 0 < 2 ∧ dp 68=false then
 ja (jK Je [.sl ((a.getD 0 d0).ll),.sl (List.replicate (((a.getD 0 d0).ll).length:Int).toNat [DC.i 0,DC.s []]),.i (0:Int)]) 0 fun v4 =>
 .ret [.sl ((v4.getD 0 d0).ll)]
 else
 .fail
theorem j08 a:zF a=X2 a:=(jt cfg 58 _ a).trans (by kernel_rfl)
noncomputable def JS:List DC → Out:=fun v1 =>
 if (decide ((v1.getD 2 d0).ii < (((v1.getD 0 d0).ll).length:Int)))=true then
 ja (if 133=133 ∧ 0 ≤ (v1.getD 2 d0).ii ∧ (v1.getD 2 d0).ii < (((v1.getD 0 d0).ll).length:Int) then
 (K6 [.s (((((v1.getD 0 d0).ll).getD ((v1.getD 2 d0).ii).toNat []).getD 0 d0).ss),.sl (((((v1.getD 0 d0).ll).getD ((v1.getD 2 d0).ii).toNat []).getD 1 d0).ll)]).bindR fun r2 =>
 if 108=108 ∧ 0 ≤ (v1.getD 2 d0).ii ∧ (v1.getD 2 d0).ii < (((v1.getD 1 d0).ll).length:Int) then
 .norm [.sl ((v1.getD 0 d0).ll),.sl (((v1.getD 1 d0).ll).set (((v1.getD 2 d0).ii).toNat) (kF (((v1.getD 1 d0).ll).getD (((v1.getD 2 d0).ii).toNat) []) 0 [DC.s ((r2.getD 0 d0).ss),DC.sl ((r2.getD 1 d0).ll)])),.i ((v1.getD 2 d0).ii)]
 else
 .fail
 else
 .fail) 1 fun v3 =>
 .norm [.sl ((v3.getD 0 d0).ll),.sl ((v3.getD 1 d0).ll),.i (IntKind.i64.wrap ((v3.getD 2 d0).ii + (1:Int)))]
 else
 .ex 0 [.sl ((v1.getD 1 d0).ll)]
noncomputable def XC (a:List DC):Out :=
 if 0 ≤ (((a.getD 0 d0).ll).length:Int) ∧ (((a.getD 0 d0).ll).length:Int) < (kC:Int) ∧ (((a.getD 0 d0).ll).length:Int)=(((a.getD 0 d0).ll).length:Int) ∧ 40 ≤ 1024 ∧ 0 < 2 ∧ dp 108=false then
 ja (jK JS [.sl ((a.getD 0 d0).ll),.sl (List.replicate (((a.getD 0 d0).ll).length:Int).toNat [DC.s [],DC.sl []]),.i (0:Int)]) 0 fun v4 =>
 .ret [.sl ((v4.getD 0 d0).ll)]
 else
 .fail
theorem j19 a:pQ a=XC a:=(jt cfg 59 _ a).trans (by kernel_rfl)
noncomputable def Vb (a:List DC):Out :=
 ja (if ((a.getD 0 d0).ii == (7:Int))=true then
 .ret [.i (1:Int)]
 else
 if ((a.getD 0 d0).ii == (8:Int))=true then
 .ret [.i (2:Int)]
 else
 .norm []) 0 fun v1 =>
 .ret [.i (0:Int)]
theorem Zq a:z8 a=Vb a:=(jt cfg 72 _ a).trans (by kernel_rfl)
noncomputable def pM:List DC → Out:=fun v1 =>
 if (decide ((v1.getD 2 d0).ii < (((v1.getD 0 d0).ll).length:Int)))=true then
 ja (if 50=50 ∧ 0 ≤ (v1.getD 2 d0).ii ∧ (v1.getD 2 d0).ii < (((v1.getD 0 d0).ll).length:Int) then
 (Kr [.i (((((v1.getD 0 d0).ll).getD ((v1.getD 2 d0).ii).toNat []).getD 0 d0).ii),.b (((((v1.getD 0 d0).ll).getD ((v1.getD 2 d0).ii).toNat []).getD 1 d0).bb),.s (((((v1.getD 0 d0).ll).getD ((v1.getD 2 d0).ii).toNat []).getD 2 d0).ss),.s (((((v1.getD 0 d0).ll).getD ((v1.getD 2 d0).ii).toNat []).getD 3 d0).ss),.sl (((((v1.getD 0 d0).ll).getD ((v1.getD 2 d0).ii).toNat []).getD 4 d0).ll),.sl (((((v1.getD 0 d0).ll).getD ((v1.getD 2 d0).ii).toNat []).getD 5 d0).ll),.sl (((((v1.getD 0 d0).ll).getD ((v1.getD 2 d0).ii).toNat []).getD 6 d0).ll),.sl (((((v1.getD 0 d0).ll).getD ((v1.getD 2 d0).ii).toNat []).getD 7 d0).ll),.sl (((((v1.getD 0 d0).ll).getD ((v1.getD 2 d0).ii).toNat []).getD 8 d0).ll),.b (((((v1.getD 0 d0).ll).getD ((v1.getD 2 d0).ii).toNat []).getD 9 d0).bb),.sl (((((v1.getD 0 d0).ll).getD ((v1.getD 2 d0).ii).toNat []).getD 10 d0).ll)]).bindR fun r2 =>
 if ((v1.getD 1 d0).ll).length + [[DC.i ((r2.getD 0 d0).ii),DC.b ((r2.getD 1 d0).bb),DC.s ((r2.getD 2 d0).ss),DC.s ((r2.getD 3 d0).ss),DC.sl ((r2.getD 4 d0).ll),DC.sl ((r2.getD 5 d0).ll),DC.sl ((r2.getD 6 d0).ll),DC.sl ((r2.getD 7 d0).ll),DC.sl ((r2.getD 8 d0).ll),DC.b ((r2.getD 9 d0).bb),DC.sl ((r2.getD 10 d0).ll)]].length < kC then
 .norm [.sl ((v1.getD 0 d0).ll),.sl (((v1.getD 1 d0).ll) ++ [[DC.i ((r2.getD 0 d0).ii),DC.b ((r2.getD 1 d0).bb),DC.s ((r2.getD 2 d0).ss),DC.s ((r2.getD 3 d0).ss),DC.sl ((r2.getD 4 d0).ll),DC.sl ((r2.getD 5 d0).ll),DC.sl ((r2.getD 6 d0).ll),DC.sl ((r2.getD 7 d0).ll),DC.sl ((r2.getD 8 d0).ll),DC.b ((r2.getD 9 d0).bb),DC.sl ((r2.getD 10 d0).ll)]]),.i ((v1.getD 2 d0).ii)]
 else
 .fail
 else
 .fail) 1 fun v3 =>
 .norm [.sl ((v3.getD 0 d0).ll),.sl ((v3.getD 1 d0).ll),.i (IntKind.i64.wrap ((v3.getD 2 d0).ii + (1:Int)))]
 else
 .ex 0 [.sl ((v1.getD 1 d0).ll)]
noncomputable def jS:List DC → Out:=fun v7 =>
 jy (if (decide ((v7.getD 3 d0).ii < (((v7.getD 0 d0).ll).length:Int)))=true then
 .norm [.sl ((v7.getD 0 d0).ll),.sl ((v7.getD 1 d0).ll),.sl ((v7.getD 2 d0).ll),.i ((v7.getD 3 d0).ii),.i ((v7.getD 4 d0).ii),.b true]
 else
 .norm [.sl ((v7.getD 0 d0).ll),.sl ((v7.getD 1 d0).ll),.sl ((v7.getD 2 d0).ll),.i ((v7.getD 3 d0).ii),.i ((v7.getD 4 d0).ii),.b (decide ((v7.getD 4 d0).ii < (((v7.getD 1 d0).ll).length:Int)))]) fun v8 =>
 if (v8.getD 5 d0).bb=true then
 ja (jy (if (decide ((v8.getD 4 d0).ii ≥ (((v8.getD 1 d0).ll).length:Int)))=true then
 .norm [.sl ((v8.getD 0 d0).ll),.sl ((v8.getD 1 d0).ll),.sl ((v8.getD 2 d0).ll),.i ((v8.getD 3 d0).ii),.i ((v8.getD 4 d0).ii),.b true]
 else
 if (decide ((v8.getD 3 d0).ii < (((v8.getD 0 d0).ll).length:Int)))=true then
 if 50=50 ∧ 0 ≤ (v8.getD 3 d0).ii ∧ (v8.getD 3 d0).ii < (((v8.getD 0 d0).ll).length:Int) then
 if 50=50 ∧ 0 ≤ (v8.getD 4 d0).ii ∧ (v8.getD 4 d0).ii < (((v8.getD 1 d0).ll).length:Int) then
 .norm [.sl ((v8.getD 0 d0).ll),.sl ((v8.getD 1 d0).ll),.sl ((v8.getD 2 d0).ll),.i ((v8.getD 3 d0).ii),.i ((v8.getD 4 d0).ii),.b (Op.bytesLess (((((v8.getD 0 d0).ll).getD ((v8.getD 3 d0).ii).toNat []).getD 3 d0).ss) (((((v8.getD 1 d0).ll).getD ((v8.getD 4 d0).ii).toNat []).getD 3 d0).ss) || ((((v8.getD 0 d0).ll).getD ((v8.getD 3 d0).ii).toNat []).getD 3 d0).ss == ((((v8.getD 1 d0).ll).getD ((v8.getD 4 d0).ii).toNat []).getD 3 d0).ss)]
 else
 .fail
 else
 .fail
 else
 .norm [.sl ((v8.getD 0 d0).ll),.sl ((v8.getD 1 d0).ll),.sl ((v8.getD 2 d0).ll),.i ((v8.getD 3 d0).ii),.i ((v8.getD 4 d0).ii),.b false]) fun v9 =>
 jy (if (v9.getD 5 d0).bb=true then
 if 50=50 ∧ 0 ≤ (v9.getD 3 d0).ii ∧ (v9.getD 3 d0).ii < (((v9.getD 0 d0).ll).length:Int) then
 if ((v9.getD 2 d0).ll).length + [[DC.i (((((v9.getD 0 d0).ll).getD ((v9.getD 3 d0).ii).toNat []).getD 0 d0).ii),DC.b (((((v9.getD 0 d0).ll).getD ((v9.getD 3 d0).ii).toNat []).getD 1 d0).bb),DC.s (((((v9.getD 0 d0).ll).getD ((v9.getD 3 d0).ii).toNat []).getD 2 d0).ss),DC.s (((((v9.getD 0 d0).ll).getD ((v9.getD 3 d0).ii).toNat []).getD 3 d0).ss),DC.sl (((((v9.getD 0 d0).ll).getD ((v9.getD 3 d0).ii).toNat []).getD 4 d0).ll),DC.sl (((((v9.getD 0 d0).ll).getD ((v9.getD 3 d0).ii).toNat []).getD 5 d0).ll),DC.sl (((((v9.getD 0 d0).ll).getD ((v9.getD 3 d0).ii).toNat []).getD 6 d0).ll),DC.sl (((((v9.getD 0 d0).ll).getD ((v9.getD 3 d0).ii).toNat []).getD 7 d0).ll),DC.sl (((((v9.getD 0 d0).ll).getD ((v9.getD 3 d0).ii).toNat []).getD 8 d0).ll),DC.b (((((v9.getD 0 d0).ll).getD ((v9.getD 3 d0).ii).toNat []).getD 9 d0).bb),DC.sl (((((v9.getD 0 d0).ll).getD ((v9.getD 3 d0).ii).toNat []).getD 10 d0).ll)]].length < kC then
 .norm [.sl ((v9.getD 0 d0).ll),.sl ((v9.getD 1 d0).ll),.sl (((v9.getD 2 d0).ll) ++ [[DC.i (((((v9.getD 0 d0).ll).getD ((v9.getD 3 d0).ii).toNat []).getD 0 d0).ii),DC.b (((((v9.getD 0 d0).ll).getD ((v9.getD 3 d0).ii).toNat []).getD 1 d0).bb),DC.s (((((v9.getD 0 d0).ll).getD ((v9.getD 3 d0).ii).toNat []).getD 2 d0).ss),DC.s (((((v9.getD 0 d0).ll).getD ((v9.getD 3 d0).ii).toNat []).getD 3 d0).ss),DC.sl (((((v9.getD 0 d0).ll).getD ((v9.getD 3 d0).ii).toNat []).getD 4 d0).ll),DC.sl (((((v9.getD 0 d0).ll).getD ((v9.getD 3 d0).ii).toNat []).getD 5 d0).ll),DC.sl (((((v9.getD 0 d0).ll).getD ((v9.getD 3 d0).ii).toNat []).getD 6 d0).ll),DC.sl (((((v9.getD 0 d0).ll).getD ((v9.getD 3 d0).ii).toNat []).getD 7 d0).ll),DC.sl (((((v9.getD 0 d0).ll).getD ((v9.getD 3 d0).ii).toNat []).getD 8 d0).ll),DC.b (((((v9.getD 0 d0).ll).getD ((v9.getD 3 d0).ii).toNat []).getD 9 d0).bb),DC.sl (((((v9.getD 0 d0).ll).getD ((v9.getD 3 d0).ii).toNat []).getD 10 d0).ll)]]),.i (IntKind.i64.wrap ((v9.getD 3 d0).ii + (1:Int))),.i ((v9.getD 4 d0).ii)]
 else
 .fail
 else
 .fail
 else
 if 50=50 ∧ 0 ≤ (v9.getD 4 d0).ii ∧ (v9.getD 4 d0).ii < (((v9.getD 1 d0).ll).length:Int) then
 if ((v9.getD 2 d0).ll).length + [[DC.i (((((v9.getD 1 d0).ll).getD ((v9.getD 4 d0).ii).toNat []).getD 0 d0).ii),DC.b (((((v9.getD 1 d0).ll).getD ((v9.getD 4 d0).ii).toNat []).getD 1 d0).bb),DC.s (((((v9.getD 1 d0).ll).getD ((v9.getD 4 d0).ii).toNat []).getD 2 d0).ss),DC.s (((((v9.getD 1 d0).ll).getD ((v9.getD 4 d0).ii).toNat []).getD 3 d0).ss),DC.sl (((((v9.getD 1 d0).ll).getD ((v9.getD 4 d0).ii).toNat []).getD 4 d0).ll),DC.sl (((((v9.getD 1 d0).ll).getD ((v9.getD 4 d0).ii).toNat []).getD 5 d0).ll),DC.sl (((((v9.getD 1 d0).ll).getD ((v9.getD 4 d0).ii).toNat []).getD 6 d0).ll),DC.sl (((((v9.getD 1 d0).ll).getD ((v9.getD 4 d0).ii).toNat []).getD 7 d0).ll),DC.sl (((((v9.getD 1 d0).ll).getD ((v9.getD 4 d0).ii).toNat []).getD 8 d0).ll),DC.b (((((v9.getD 1 d0).ll).getD ((v9.getD 4 d0).ii).toNat []).getD 9 d0).bb),DC.sl (((((v9.getD 1 d0).ll).getD ((v9.getD 4 d0).ii).toNat []).getD 10 d0).ll)]].length < kC then
 .norm [.sl ((v9.getD 0 d0).ll),.sl ((v9.getD 1 d0).ll),.sl (((v9.getD 2 d0).ll) ++ [[DC.i (((((v9.getD 1 d0).ll).getD ((v9.getD 4 d0).ii).toNat []).getD 0 d0).ii),DC.b (((((v9.getD 1 d0).ll).getD ((v9.getD 4 d0).ii).toNat []).getD 1 d0).bb),DC.s (((((v9.getD 1 d0).ll).getD ((v9.getD 4 d0).ii).toNat []).getD 2 d0).ss),DC.s (((((v9.getD 1 d0).ll).getD ((v9.getD 4 d0).ii).toNat []).getD 3 d0).ss),DC.sl (((((v9.getD 1 d0).ll).getD ((v9.getD 4 d0).ii).toNat []).getD 4 d0).ll),DC.sl (((((v9.getD 1 d0).ll).getD ((v9.getD 4 d0).ii).toNat []).getD 5 d0).ll),DC.sl (((((v9.getD 1 d0).ll).getD ((v9.getD 4 d0).ii).toNat []).getD 6 d0).ll),DC.sl (((((v9.getD 1 d0).ll).getD ((v9.getD 4 d0).ii).toNat []).getD 7 d0).ll),DC.sl (((((v9.getD 1 d0).ll).getD ((v9.getD 4 d0).ii).toNat []).getD 8 d0).ll),DC.b (((((v9.getD 1 d0).ll).getD ((v9.getD 4 d0).ii).toNat []).getD 9 d0).bb),DC.sl (((((v9.getD 1 d0).ll).getD ((v9.getD 4 d0).ii).toNat []).getD 10 d0).ll)]]),.i ((v9.getD 3 d0).ii),.i (IntKind.i64.wrap ((v9.getD 4 d0).ii + (1:Int)))]
 else
 .fail
 else
 .fail) fun v10 =>
 .norm [.sl ((v10.getD 0 d0).ll),.sl ((v10.getD 1 d0).ll),.sl ((v10.getD 2 d0).ll),.i ((v10.getD 3 d0).ii),.i ((v10.getD 4 d0).ii)]) 3 fun v11 =>
 .norm [.sl ((v11.getD 0 d0).ll),.sl ((v11.getD 1 d0).ll),.sl ((v11.getD 2 d0).ll),.i ((v11.getD 3 d0).ii),.i ((v11.getD 4 d0).ii)]
 else
 .ex 2 [.sl ((v8.getD 2 d0).ll)]
noncomputable def JR (a:List DC):Out :=
 if (decide ((((a.getD 0 d0).ll).length:Int) < (2:Int)))=true then
 ja (jK pM [.sl ((a.getD 0 d0).ll),.sl [],.i (0:Int)]) 0 fun v4 =>
 .ret [.sl ((v4.getD 0 d0).ll)]
 else
 if (2:Int)=0 then
 .fail
 else
 if 0 ≤ (IntKind.i64.wrap ((((a.getD 0 d0).ll).length:Int).tdiv (2:Int))) ∧ (IntKind.i64.wrap ((((a.getD 0 d0).ll).length:Int).tdiv (2:Int))) ≤ (((a.getD 0 d0).ll).length:Int) then
 (qG [.sl (((a.getD 0 d0).ll).take (IntKind.i64.wrap ((((a.getD 0 d0).ll).length:Int).tdiv (2:Int))).toNat)]).bindR fun r5 =>
 if (2:Int)=0 then
 .fail
 else
 if 0 ≤ (IntKind.i64.wrap ((((a.getD 0 d0).ll).length:Int).tdiv (2:Int))) ∧ (IntKind.i64.wrap ((((a.getD 0 d0).ll).length:Int).tdiv (2:Int))) ≤ (((a.getD 0 d0).ll).length:Int) then
 (qG [.sl (((a.getD 0 d0).ll).drop (IntKind.i64.wrap ((((a.getD 0 d0).ll).length:Int).tdiv (2:Int))).toNat)]).bindR fun r6 =>
 ja (jK jS [.sl ((r5.getD 0 d0).ll),.sl ((r6.getD 0 d0).ll),.sl [],.i (0:Int),.i (0:Int)]) 2 fun v12 =>
 .ret [.sl ((v12.getD 0 d0).ll)]
 else
 .fail
 else
 .fail
theorem Qy a:qG a=JR a:=(jt cfg 6 _ a).trans (by kernel_rfl)
noncomputable def qD:List DC → Out:=fun v4 =>
 if (decide ((v4.getD 3 d0).ii < (v4.getD 2 d0).ii))=true then
 ja (if 50=50 ∧ 0 ≤ (v4.getD 3 d0).ii ∧ (v4.getD 3 d0).ii < (((v4.getD 1 d0).ll).length:Int) then
 (JM [.i (((((v4.getD 1 d0).ll).getD ((v4.getD 3 d0).ii).toNat []).getD 0 d0).ii),.b (((((v4.getD 1 d0).ll).getD ((v4.getD 3 d0).ii).toNat []).getD 1 d0).bb),.s (((((v4.getD 1 d0).ll).getD ((v4.getD 3 d0).ii).toNat []).getD 2 d0).ss),.s (((((v4.getD 1 d0).ll).getD ((v4.getD 3 d0).ii).toNat []).getD 3 d0).ss),.sl (((((v4.getD 1 d0).ll).getD ((v4.getD 3 d0).ii).toNat []).getD 4 d0).ll),.sl (((((v4.getD 1 d0).ll).getD ((v4.getD 3 d0).ii).toNat []).getD 5 d0).ll),.sl (((((v4.getD 1 d0).ll).getD ((v4.getD 3 d0).ii).toNat []).getD 6 d0).ll),.sl (((((v4.getD 1 d0).ll).getD ((v4.getD 3 d0).ii).toNat []).getD 7 d0).ll),.sl (((((v4.getD 1 d0).ll).getD ((v4.getD 3 d0).ii).toNat []).getD 8 d0).ll),.b (((((v4.getD 1 d0).ll).getD ((v4.getD 3 d0).ii).toNat []).getD 9 d0).bb),.sl (((((v4.getD 1 d0).ll).getD ((v4.getD 3 d0).ii).toNat []).getD 10 d0).ll)]).bindR fun r5 =>
 if ((v4.getD 0 d0).ll).length + [[DC.i ((r5.getD 0 d0).ii),DC.b ((r5.getD 1 d0).bb),DC.s ((r5.getD 2 d0).ss),DC.s ((r5.getD 3 d0).ss),DC.sl ((r5.getD 4 d0).ll),DC.sl ((r5.getD 5 d0).ll),DC.sl ((r5.getD 6 d0).ll),DC.sl ((r5.getD 7 d0).ll),DC.sl ((r5.getD 8 d0).ll),DC.b ((r5.getD 9 d0).bb),DC.sl ((r5.getD 10 d0).ll)]].length < kC ∧ 24=24 then
 .norm [.sl (((v4.getD 0 d0).ll) ++ [[DC.i ((r5.getD 0 d0).ii),DC.b ((r5.getD 1 d0).bb),DC.s ((r5.getD 2 d0).ss),DC.s ((r5.getD 3 d0).ss),DC.sl ((r5.getD 4 d0).ll),DC.sl ((r5.getD 5 d0).ll),DC.sl ((r5.getD 6 d0).ll),DC.sl ((r5.getD 7 d0).ll),DC.sl ((r5.getD 8 d0).ll),DC.b ((r5.getD 9 d0).bb),DC.sl ((r5.getD 10 d0).ll)]]),.sl ((v4.getD 1 d0).ll),.i ((v4.getD 2 d0).ii),.i ((v4.getD 3 d0).ii)]
 else
 .fail
 else
 .fail) 1 fun v6 =>
 .norm [.sl ((v6.getD 0 d0).ll),.sl ((v6.getD 1 d0).ll),.i ((v6.getD 2 d0).ii),.i (IntKind.i64.wrap ((v6.getD 3 d0).ii + (1:Int)))]
 else
 .ex 0 [.sl ((v4.getD 0 d0).ll)]
noncomputable def QK (a:List DC):Out :=
 ja (jK qD [.sl [],.sl ((a.getD 0 d0).ll),.i (((a.getD 0 d0).ll).length:Int),.i (0:Int)]) 0 fun v7 =>
 .ret [.sl ((v7.getD 0 d0).ll)]
theorem YQ a:J9 a=QK a:=(jt cfg 20 _ a).trans (by kernel_rfl)
noncomputable def jT:List DC → Out:=fun v1 =>
 if (decide ((v1.getD 2 d0).ii < (v1.getD 1 d0).ii))=true then
 ja (if 50=50 ∧ 0 ≤ (v1.getD 2 d0).ii ∧ (v1.getD 2 d0).ii < (((v1.getD 0 d0).ll).length:Int) then
 (Qq [.i (((((v1.getD 0 d0).ll).getD ((v1.getD 2 d0).ii).toNat []).getD 0 d0).ii),.b (((((v1.getD 0 d0).ll).getD ((v1.getD 2 d0).ii).toNat []).getD 1 d0).bb),.s (((((v1.getD 0 d0).ll).getD ((v1.getD 2 d0).ii).toNat []).getD 2 d0).ss),.s (((((v1.getD 0 d0).ll).getD ((v1.getD 2 d0).ii).toNat []).getD 3 d0).ss),.sl (((((v1.getD 0 d0).ll).getD ((v1.getD 2 d0).ii).toNat []).getD 4 d0).ll),.sl (((((v1.getD 0 d0).ll).getD ((v1.getD 2 d0).ii).toNat []).getD 5 d0).ll),.sl (((((v1.getD 0 d0).ll).getD ((v1.getD 2 d0).ii).toNat []).getD 6 d0).ll),.sl (((((v1.getD 0 d0).ll).getD ((v1.getD 2 d0).ii).toNat []).getD 7 d0).ll),.sl (((((v1.getD 0 d0).ll).getD ((v1.getD 2 d0).ii).toNat []).getD 8 d0).ll),.b (((((v1.getD 0 d0).ll).getD ((v1.getD 2 d0).ii).toNat []).getD 9 d0).bb),.sl (((((v1.getD 0 d0).ll).getD ((v1.getD 2 d0).ii).toNat []).getD 10 d0).ll)]).bindR fun r2 =>
 if (r2.getD 0 d0).bb=true then
 .ret [.i ((v1.getD 2 d0).ii)]
 else
 .norm [.sl ((v1.getD 0 d0).ll),.i ((v1.getD 1 d0).ii),.i ((v1.getD 2 d0).ii)]
 else
 .fail) 1 fun v3 =>
 .norm [.sl ((v3.getD 0 d0).ll),.i ((v3.getD 1 d0).ii),.i (IntKind.i64.wrap ((v3.getD 2 d0).ii + (1:Int)))]
 else
 .ex 0 []
noncomputable def kD (a:List DC):Out :=
 ja (jK jT [.sl ((a.getD 0 d0).ll),.i (((a.getD 0 d0).ll).length:Int),.i (0:Int)]) 0 fun v4 =>
 .ret [.i (-1:Int)]
theorem qj a:jX a=kD a:=(jt cfg 73 _ a).trans (by kernel_rfl)
noncomputable def yX (a:List DC):Out :=
 (Zd [.i ((a.getD 0 d0).ii),.i (1:Int),.i (IntKind.i64.wrap (([[DC.s ([]:List UInt8)],[DC.s ([113,117,101,114,121]:List UInt8)],[DC.s ([109,117,116,97,116,105,111,110]:List UInt8)],[DC.s ([115,117,98,115,99,114,105,112,116,105,111,110]:List UInt8)]].length:Int) - (1:Int)))]).bindR fun r1 =>
 if (!((r1.getD 0 d0).bb))=true then
 .ret [.s ([]:List UInt8)]
 else
 if 9=9 ∧ 0 ≤ (a.getD 0 d0).ii ∧ (a.getD 0 d0).ii < ([[DC.s ([]:List UInt8)],[DC.s ([113,117,101,114,121]:List UInt8)],[DC.s ([109,117,116,97,116,105,111,110]:List UInt8)],[DC.s ([115,117,98,115,99,114,105,112,116,105,111,110]:List UInt8)]].length:Int) then
 .ret [.s ((([[DC.s ([]:List UInt8)],[DC.s ([113,117,101,114,121]:List UInt8)],[DC.s ([109,117,116,97,116,105,111,110]:List UInt8)],[DC.s ([115,117,98,115,99,114,105,112,116,105,111,110]:List UInt8)]].getD ((a.getD 0 d0).ii).toNat []).getD 0 d0).ss)]
 else
 .fail
theorem j1o a:Qi a=yX a:=(jt cfg 75 _ a).trans (by kernel_rfl)
noncomputable def XQ (a:List DC):Out :=
 (QR [.sl ((a.getD 0 d0).ll),.s ((a.getD 3 d0).ss)]).bindR fun r1 =>
 .ret [.i ((r1.getD 0 d0).ii)]
theorem j1n a:Qh a=XQ a:=(jt cfg 78 _ a).trans (by kernel_rfl)
noncomputable def XL (a:List DC):Out :=
 if ((a.getD 0 d0).ii != (a.getD 2 d0).ii)=true then
 .ret [.b false]
 else
 if (!((a.getD 1 d0).ss == (a.getD 3 d0).ss))=true then
 .ret [.b false]
 else
 .ret [.b true]
theorem j1i a:Js a=XL a:=(jt cfg 79 _ a).trans (by kernel_rfl)
noncomputable def zr:List DC → Out:=fun v1 =>
 if (decide ((v1.getD 2 d0).ii < (((v1.getD 0 d0).ll).length:Int)))=true then
 ja (if 9=9 ∧ 0 ≤ (v1.getD 2 d0).ii ∧ (v1.getD 2 d0).ii < (((v1.getD 0 d0).ll).length:Int) then
 if 9=9 ∧ 0 ≤ (v1.getD 2 d0).ii ∧ (v1.getD 2 d0).ii < (((v1.getD 1 d0).ll).length:Int) then
 if (!(((((v1.getD 0 d0).ll).getD ((v1.getD 2 d0).ii).toNat []).getD 0 d0).ss == ((((v1.getD 1 d0).ll).getD ((v1.getD 2 d0).ii).toNat []).getD 0 d0).ss))=true then
 .ret [.b false]
 else
 .norm [.sl ((v1.getD 0 d0).ll),.sl ((v1.getD 1 d0).ll),.i ((v1.getD 2 d0).ii)]
 else
 .fail
 else
 .fail) 1 fun v2 =>
 .norm [.sl ((v2.getD 0 d0).ll),.sl ((v2.getD 1 d0).ll),.i (IntKind.i64.wrap ((v2.getD 2 d0).ii + (1:Int)))]
 else
 .ex 0 []
noncomputable def QG (a:List DC):Out :=
 if ((((a.getD 0 d0).ll).length:Int) != (((a.getD 1 d0).ll).length:Int))=true then
 .ret [.b false]
 else
 ja (jK zr [.sl ((a.getD 0 d0).ll),.sl ((a.getD 1 d0).ll),.i (0:Int)]) 0 fun v3 =>
 .ret [.b true]
theorem YM a:yF a=QG a:=(jt cfg 63 _ a).trans (by kernel_rfl)
noncomputable def yz:List DC → Out:=fun v1 =>
 if (decide ((v1.getD 2 d0).ii < (((v1.getD 0 d0).ll).length:Int)))=true then
 ja (if 97=97 ∧ 0 ≤ (v1.getD 2 d0).ii ∧ (v1.getD 2 d0).ii < (((v1.getD 0 d0).ll).length:Int) then
 if 97=97 ∧ 0 ≤ (v1.getD 2 d0).ii ∧ (v1.getD 2 d0).ii < (((v1.getD 1 d0).ll).length:Int) then
 (qZ [.s (((((v1.getD 0 d0).ll).getD ((v1.getD 2 d0).ii).toNat []).getD 0 d0).ss),.s (((((v1.getD 0 d0).ll).getD ((v1.getD 2 d0).ii).toNat []).getD 1 d0).ss),.sl (((((v1.getD 0 d0).ll).getD ((v1.getD 2 d0).ii).toNat []).getD 2 d0).ll),.s (((((v1.getD 0 d0).ll).getD ((v1.getD 2 d0).ii).toNat []).getD 3 d0).ss),.s (((((v1.getD 0 d0).ll).getD ((v1.getD 2 d0).ii).toNat []).getD 4 d0).ss),.sl (((((v1.getD 0 d0).ll).getD ((v1.getD 2 d0).ii).toNat []).getD 5 d0).ll),.s (((((v1.getD 1 d0).ll).getD ((v1.getD 2 d0).ii).toNat []).getD 0 d0).ss),.s (((((v1.getD 1 d0).ll).getD ((v1.getD 2 d0).ii).toNat []).getD 1 d0).ss),.sl (((((v1.getD 1 d0).ll).getD ((v1.getD 2 d0).ii).toNat []).getD 2 d0).ll),.s (((((v1.getD 1 d0).ll).getD ((v1.getD 2 d0).ii).toNat []).getD 3 d0).ss),.s (((((v1.getD 1 d0).ll).getD ((v1.getD 2 d0).ii).toNat []).getD 4 d0).ss),.sl (((((v1.getD 1 d0).ll).getD ((v1.getD 2 d0).ii).toNat []).getD 5 d0).ll)]).bindR fun r2 =>
 if (!((r2.getD 0 d0).bb))=true then
 .ret [.b false]
 else
 .norm [.sl ((v1.getD 0 d0).ll),.sl ((v1.getD 1 d0).ll),.i ((v1.getD 2 d0).ii)]
 else
 .fail
 else
 .fail) 1 fun v3 =>
 .norm [.sl ((v3.getD 0 d0).ll),.sl ((v3.getD 1 d0).ll),.i (IntKind.i64.wrap ((v3.getD 2 d0).ii + (1:Int)))]
 else
 .ex 0 []
noncomputable def KK (a:List DC):Out :=
 if ((((a.getD 0 d0).ll).length:Int) != (((a.getD 1 d0).ll).length:Int))=true then
 .ret [.b false]
 else
 ja (jK yz [.sl ((a.getD 0 d0).ll),.sl ((a.getD 1 d0).ll),.i (0:Int)]) 0 fun v4 =>
 .ret [.b true]
theorem Xr a:qv a=KK a:=(jt cfg 64 _ a).trans (by kernel_rfl)
noncomputable def J0:List DC → Out:=fun v1 =>
 if (decide ((v1.getD 2 d0).ii < (((v1.getD 0 d0).ll).length:Int)))=true then
 ja (if 102=102 ∧ 0 ≤ (v1.getD 2 d0).ii ∧ (v1.getD 2 d0).ii < (((v1.getD 0 d0).ll).length:Int) then
 if 102=102 ∧ 0 ≤ (v1.getD 2 d0).ii ∧ (v1.getD 2 d0).ii < (((v1.getD 1 d0).ll).length:Int) then
 (zJ [.s (((((v1.getD 0 d0).ll).getD ((v1.getD 2 d0).ii).toNat []).getD 0 d0).ss),.s (((((v1.getD 0 d0).ll).getD ((v1.getD 2 d0).ii).toNat []).getD 1 d0).ss),.s (((((v1.getD 0 d0).ll).getD ((v1.getD 2 d0).ii).toNat []).getD 2 d0).ss),.s (((((v1.getD 0 d0).ll).getD ((v1.getD 2 d0).ii).toNat []).getD 3 d0).ss),.b (((((v1.getD 0 d0).ll).getD ((v1.getD 2 d0).ii).toNat []).getD 4 d0).bb),.i (((((v1.getD 0 d0).ll).getD ((v1.getD 2 d0).ii).toNat []).getD 5 d0).ii),.s (((((v1.getD 0 d0).ll).getD ((v1.getD 2 d0).ii).toNat []).getD 6 d0).ss),.sl (((((v1.getD 0 d0).ll).getD ((v1.getD 2 d0).ii).toNat []).getD 7 d0).ll),.sl (((((v1.getD 0 d0).ll).getD ((v1.getD 2 d0).ii).toNat []).getD 8 d0).ll),.sl (((((v1.getD 0 d0).ll).getD ((v1.getD 2 d0).ii).toNat []).getD 9 d0).ll),.s (((((v1.getD 1 d0).ll).getD ((v1.getD 2 d0).ii).toNat []).getD 0 d0).ss),.s (((((v1.getD 1 d0).ll).getD ((v1.getD 2 d0).ii).toNat []).getD 1 d0).ss),.s (((((v1.getD 1 d0).ll).getD ((v1.getD 2 d0).ii).toNat []).getD 2 d0).ss),.s (((((v1.getD 1 d0).ll).getD ((v1.getD 2 d0).ii).toNat []).getD 3 d0).ss),.b (((((v1.getD 1 d0).ll).getD ((v1.getD 2 d0).ii).toNat []).getD 4 d0).bb),.i (((((v1.getD 1 d0).ll).getD ((v1.getD 2 d0).ii).toNat []).getD 5 d0).ii),.s (((((v1.getD 1 d0).ll).getD ((v1.getD 2 d0).ii).toNat []).getD 6 d0).ss),.sl (((((v1.getD 1 d0).ll).getD ((v1.getD 2 d0).ii).toNat []).getD 7 d0).ll),.sl (((((v1.getD 1 d0).ll).getD ((v1.getD 2 d0).ii).toNat []).getD 8 d0).ll),.sl (((((v1.getD 1 d0).ll).getD ((v1.getD 2 d0).ii).toNat []).getD 9 d0).ll)]).bindR fun r2 =>
 if (!((r2.getD 0 d0).bb))=true then
 .ret [.b false]
 else
 .norm [.sl ((v1.getD 0 d0).ll),.sl ((v1.getD 1 d0).ll),.i ((v1.getD 2 d0).ii)]
 else
 .fail
 else
 .fail) 1 fun v3 =>
 .norm [.sl ((v3.getD 0 d0).ll),.sl ((v3.getD 1 d0).ll),.i (IntKind.i64.wrap ((v3.getD 2 d0).ii + (1:Int)))]
 else
 .ex 0 []
noncomputable def Vm (a:List DC):Out :=
 if ((((a.getD 0 d0).ll).length:Int) != (((a.getD 1 d0).ll).length:Int))=true then
 .ret [.b false]
 else
 ja (jK J0 [.sl ((a.getD 0 d0).ll),.sl ((a.getD 1 d0).ll),.i (0:Int)]) 0 fun v4 =>
 .ret [.b true]
theorem ZB a:qL a=Vm a:=(jt cfg 65 _ a).trans (by kernel_rfl)
noncomputable def yT:List DC → Out:=fun v1 =>
 if (decide ((v1.getD 2 d0).ii < (((v1.getD 0 d0).ll).length:Int)))=true then
 ja (if 105=105 ∧ 0 ≤ (v1.getD 2 d0).ii ∧ (v1.getD 2 d0).ii < (((v1.getD 0 d0).ll).length:Int) then
 if 105=105 ∧ 0 ≤ (v1.getD 2 d0).ii ∧ (v1.getD 2 d0).ii < (((v1.getD 1 d0).ll).length:Int) then
 (yG [.s (((((v1.getD 0 d0).ll).getD ((v1.getD 2 d0).ii).toNat []).getD 0 d0).ss),.s (((((v1.getD 0 d0).ll).getD ((v1.getD 2 d0).ii).toNat []).getD 1 d0).ss),.sl (((((v1.getD 0 d0).ll).getD ((v1.getD 2 d0).ii).toNat []).getD 2 d0).ll),.s (((((v1.getD 1 d0).ll).getD ((v1.getD 2 d0).ii).toNat []).getD 0 d0).ss),.s (((((v1.getD 1 d0).ll).getD ((v1.getD 2 d0).ii).toNat []).getD 1 d0).ss),.sl (((((v1.getD 1 d0).ll).getD ((v1.getD 2 d0).ii).toNat []).getD 2 d0).ll)]).bindR fun r2 =>
 if (!((r2.getD 0 d0).bb))=true then
 .ret [.b false]
 else
 .norm [.sl ((v1.getD 0 d0).ll),.sl ((v1.getD 1 d0).ll),.i ((v1.getD 2 d0).ii)]
 else
 .fail
 else
 .fail) 1 fun v3 =>
 .norm [.sl ((v3.getD 0 d0).ll),.sl ((v3.getD 1 d0).ll),.i (IntKind.i64.wrap ((v3.getD 2 d0).ii + (1:Int)))]
 else
 .ex 0 []
noncomputable def Q8 (a:List DC):Out :=
 if ((((a.getD 0 d0).ll).length:Int) != (((a.getD 1 d0).ll).length:Int))=true then
 .ret [.b false]
 else
 ja (jK yT [.sl ((a.getD 0 d0).ll),.sl ((a.getD 1 d0).ll),.i (0:Int)]) 0 fun v4 =>
 .ret [.b true]
theorem Yg a:ya a=Q8 a:=(jt cfg 66 _ a).trans (by kernel_rfl)
noncomputable def JY:List DC → Out:=fun v1 =>
 if (decide ((v1.getD 2 d0).ii < (((v1.getD 0 d0).ll).length:Int)))=true then
 ja (if 108=108 ∧ 0 ≤ (v1.getD 2 d0).ii ∧ (v1.getD 2 d0).ii < (((v1.getD 0 d0).ll).length:Int) then
 if 108=108 ∧ 0 ≤ (v1.getD 2 d0).ii ∧ (v1.getD 2 d0).ii < (((v1.getD 1 d0).ll).length:Int) then
 (Kc [.s (((((v1.getD 0 d0).ll).getD ((v1.getD 2 d0).ii).toNat []).getD 0 d0).ss),.sl (((((v1.getD 0 d0).ll).getD ((v1.getD 2 d0).ii).toNat []).getD 1 d0).ll),.s (((((v1.getD 1 d0).ll).getD ((v1.getD 2 d0).ii).toNat []).getD 0 d0).ss),.sl (((((v1.getD 1 d0).ll).getD ((v1.getD 2 d0).ii).toNat []).getD 1 d0).ll)]).bindR fun r2 =>
 if (!((r2.getD 0 d0).bb))=true then
 .ret [.b false]
 else
 .norm [.sl ((v1.getD 0 d0).ll),.sl ((v1.getD 1 d0).ll),.i ((v1.getD 2 d0).ii)]
 else
 .fail
 else
 .fail) 1 fun v3 =>
 .norm [.sl ((v3.getD 0 d0).ll),.sl ((v3.getD 1 d0).ll),.i (IntKind.i64.wrap ((v3.getD 2 d0).ii + (1:Int)))]
 else
 .ex 0 []
noncomputable def XM (a:List DC):Out :=
 if ((((a.getD 0 d0).ll).length:Int) != (((a.getD 1 d0).ll).length:Int))=true then
 .ret [.b false]
 else
 ja (jK JY [.sl ((a.getD 0 d0).ll),.sl ((a.getD 1 d0).ll),.i (0:Int)]) 0 fun v4 =>
 .ret [.b true]
theorem j1j a:pT a=XM a:=(jt cfg 67 _ a).trans (by kernel_rfl)
theorem ko a:jG a=jz a:=(jt cfg 25 _ a).trans (by kernel_rfl)
noncomputable def kk:List DC → Out:=fun v1 =>
 if (decide ((v1.getD 2 d0).ii < (((v1.getD 0 d0).ll).length:Int)))=true then
 ja (if 9=9 ∧ 0 ≤ (v1.getD 2 d0).ii ∧ (v1.getD 2 d0).ii < (((v1.getD 0 d0).ll).length:Int) then
 (jG [.i ((v1.getD 1 d0).ii)]).bindR fun r2 =>
 if (!(((((v1.getD 0 d0).ll).getD ((v1.getD 2 d0).ii).toNat []).getD 0 d0).ss == (r2.getD 0 d0).ss))=true then
 .ret [.i (-1:Int)]
 else
 .norm [.sl ((v1.getD 0 d0).ll),.i (IntKind.i64.wrap ((v1.getD 1 d0).ii + (1:Int))),.i ((v1.getD 2 d0).ii)]
 else
 .fail) 1 fun v3 =>
 .norm [.sl ((v3.getD 0 d0).ll),.i ((v3.getD 1 d0).ii),.i (IntKind.i64.wrap ((v3.getD 2 d0).ii + (1:Int)))]
 else
 .ex 0 [.i ((v1.getD 1 d0).ii)]
noncomputable def KJ (a:List DC):Out :=
 ja (jK kk [.sl ((a.getD 0 d0).ll),.i ((a.getD 1 d0).ii),.i (0:Int)]) 0 fun v4 =>
 .ret [.i ((v4.getD 0 d0).ii)]
theorem Xq a:kw a=KJ a:=(jt cfg 32 _ a).trans (by kernel_rfl)
noncomputable def ke:List DC → Out:=fun v1 =>
 if (decide ((v1.getD 2 d0).ii < (((v1.getD 0 d0).ll).length:Int)))=true then
 ja (if 97=97 ∧ 0 ≤ (v1.getD 2 d0).ii ∧ (v1.getD 2 d0).ii < (((v1.getD 0 d0).ll).length:Int) then
 (jG [.i ((v1.getD 1 d0).ii)]).bindR fun r2 =>
 if (!(((((v1.getD 0 d0).ll).getD ((v1.getD 2 d0).ii).toNat []).getD 0 d0).ss == (r2.getD 0 d0).ss))=true then
 .ret [.i (-1:Int)]
 else
 if 97=97 ∧ 0 ≤ (v1.getD 2 d0).ii ∧ (v1.getD 2 d0).ii < (((v1.getD 0 d0).ll).length:Int) then
 (jG [.i (IntKind.i64.wrap ((v1.getD 1 d0).ii + (1:Int)))]).bindR fun r3 =>
 if (!(((((v1.getD 0 d0).ll).getD ((v1.getD 2 d0).ii).toNat []).getD 1 d0).ss == (r3.getD 0 d0).ss))=true then
 .ret [.i (-1:Int)]
 else
 if 97=97 ∧ 0 ≤ (v1.getD 2 d0).ii ∧ (v1.getD 2 d0).ii < (((v1.getD 0 d0).ll).length:Int) then
 (pJ [.sl (((((v1.getD 0 d0).ll).getD ((v1.getD 2 d0).ii).toNat []).getD 2 d0).ll),.i (IntKind.i64.wrap ((IntKind.i64.wrap ((v1.getD 1 d0).ii + (1:Int))) + (1:Int)))]).bindR fun r4 =>
 if (decide ((r4.getD 0 d0).ii < (0:Int)))=true then
 .ret [.i (-1:Int)]
 else
 if 97=97 ∧ 0 ≤ (v1.getD 2 d0).ii ∧ (v1.getD 2 d0).ii < (((v1.getD 0 d0).ll).length:Int) then
 (jG [.i ((r4.getD 0 d0).ii)]).bindR fun r5 =>
 if (!(((((v1.getD 0 d0).ll).getD ((v1.getD 2 d0).ii).toNat []).getD 3 d0).ss == (r5.getD 0 d0).ss))=true then
 .ret [.i (-1:Int)]
 else
 if 97=97 ∧ 0 ≤ (v1.getD 2 d0).ii ∧ (v1.getD 2 d0).ii < (((v1.getD 0 d0).ll).length:Int) then
 (jG [.i (IntKind.i64.wrap ((r4.getD 0 d0).ii + (1:Int)))]).bindR fun r6 =>
 if (!(((((v1.getD 0 d0).ll).getD ((v1.getD 2 d0).ii).toNat []).getD 4 d0).ss == (r6.getD 0 d0).ss))=true then
 .ret [.i (-1:Int)]
 else
 if 97=97 ∧ 0 ≤ (v1.getD 2 d0).ii ∧ (v1.getD 2 d0).ii < (((v1.getD 0 d0).ll).length:Int) then
 (pd [.sl (((((v1.getD 0 d0).ll).getD ((v1.getD 2 d0).ii).toNat []).getD 5 d0).ll),.i (IntKind.i64.wrap ((IntKind.i64.wrap ((r4.getD 0 d0).ii + (1:Int))) + (1:Int)))]).bindR fun r7 =>
 if (decide ((r7.getD 0 d0).ii < (0:Int)))=true then
 .ret [.i (-1:Int)]
 else
 .norm [.sl ((v1.getD 0 d0).ll),.i ((r7.getD 0 d0).ii),.i ((v1.getD 2 d0).ii)]
 else
 .fail
 else
 .fail
 else
 .fail
 else
 .fail
 else
 .fail
 else
 .fail) 1 fun v8 =>
 .norm [.sl ((v8.getD 0 d0).ll),.i ((v8.getD 1 d0).ii),.i (IntKind.i64.wrap ((v8.getD 2 d0).ii + (1:Int)))]
 else
 .ex 0 [.i ((v1.getD 1 d0).ii)]
noncomputable def JG (a:List DC):Out :=
 ja (jK ke [.sl ((a.getD 0 d0).ll),.i ((a.getD 1 d0).ii),.i (0:Int)]) 0 fun v9 =>
 .ret [.i ((v9.getD 0 d0).ii)]
theorem Vv a:pK a=JG a:=(jt cfg 33 _ a).trans (by kernel_rfl)
noncomputable def kq:List DC → Out:=fun v1 =>
 if (decide ((v1.getD 2 d0).ii < (((v1.getD 0 d0).ll).length:Int)))=true then
 ja (if 102=102 ∧ 0 ≤ (v1.getD 2 d0).ii ∧ (v1.getD 2 d0).ii < (((v1.getD 0 d0).ll).length:Int) then
 (jG [.i ((v1.getD 1 d0).ii)]).bindR fun r2 =>
 if (!(((((v1.getD 0 d0).ll).getD ((v1.getD 2 d0).ii).toNat []).getD 0 d0).ss == (r2.getD 0 d0).ss))=true then
 .ret [.i (-1:Int)]
 else
 if 102=102 ∧ 0 ≤ (v1.getD 2 d0).ii ∧ (v1.getD 2 d0).ii < (((v1.getD 0 d0).ll).length:Int) then
 (jG [.i (IntKind.i64.wrap ((v1.getD 1 d0).ii + (1:Int)))]).bindR fun r3 =>
 if (!(((((v1.getD 0 d0).ll).getD ((v1.getD 2 d0).ii).toNat []).getD 1 d0).ss == (r3.getD 0 d0).ss))=true then
 .ret [.i (-1:Int)]
 else
 if 102=102 ∧ 0 ≤ (v1.getD 2 d0).ii ∧ (v1.getD 2 d0).ii < (((v1.getD 0 d0).ll).length:Int) then
 (jG [.i (IntKind.i64.wrap ((IntKind.i64.wrap ((v1.getD 1 d0).ii + (1:Int))) + (1:Int)))]).bindR fun r4 =>
 if (!(((((v1.getD 0 d0).ll).getD ((v1.getD 2 d0).ii).toNat []).getD 2 d0).ss == (r4.getD 0 d0).ss))=true then
 .ret [.i (-1:Int)]
 else
 if 102=102 ∧ 0 ≤ (v1.getD 2 d0).ii ∧ (v1.getD 2 d0).ii < (((v1.getD 0 d0).ll).length:Int) then
 (jG [.i (IntKind.i64.wrap ((IntKind.i64.wrap ((IntKind.i64.wrap ((v1.getD 1 d0).ii + (1:Int))) + (1:Int))) + (1:Int)))]).bindR fun r5 =>
 if (!(((((v1.getD 0 d0).ll).getD ((v1.getD 2 d0).ii).toNat []).getD 3 d0).ss == (r5.getD 0 d0).ss))=true then
 .ret [.i (-1:Int)]
 else
 if 102=102 ∧ 0 ≤ (v1.getD 2 d0).ii ∧ (v1.getD 2 d0).ii < (((v1.getD 0 d0).ll).length:Int) then
 if (3:Int)=0 then
 .fail
 else
 if (!(((((v1.getD 0 d0).ll).getD ((v1.getD 2 d0).ii).toNat []).getD 4 d0).bb == (((IntKind.i64.wrap ((IntKind.i64.wrap ((IntKind.i64.wrap ((IntKind.i64.wrap ((v1.getD 1 d0).ii + (1:Int))) + (1:Int))) + (1:Int))) + (1:Int))).tmod (3:Int)) == (0:Int))))=true then
 .ret [.i (-1:Int)]
 else
 if 102=102 ∧ 0 ≤ (v1.getD 2 d0).ii ∧ (v1.getD 2 d0).ii < (((v1.getD 0 d0).ll).length:Int) then
 if (((((v1.getD 0 d0).ll).getD ((v1.getD 2 d0).ii).toNat []).getD 5 d0).ii != (IntKind.i64.wrap ((IntKind.i64.wrap ((IntKind.i64.wrap ((IntKind.i64.wrap ((IntKind.i64.wrap ((v1.getD 1 d0).ii + (1:Int))) + (1:Int))) + (1:Int))) + (1:Int))) + (1:Int))))=true then
 .ret [.i (-1:Int)]
 else
 if 102=102 ∧ 0 ≤ (v1.getD 2 d0).ii ∧ (v1.getD 2 d0).ii < (((v1.getD 0 d0).ll).length:Int) then
 (jG [.i (IntKind.i64.wrap ((IntKind.i64.wrap ((IntKind.i64.wrap ((IntKind.i64.wrap ((IntKind.i64.wrap ((IntKind.i64.wrap ((v1.getD 1 d0).ii + (1:Int))) + (1:Int))) + (1:Int))) + (1:Int))) + (1:Int))) + (1:Int)))]).bindR fun r6 =>
 if (!(((((v1.getD 0 d0).ll).getD ((v1.getD 2 d0).ii).toNat []).getD 6 d0).ss == (r6.getD 0 d0).ss))=true then
 .ret [.i (-1:Int)]
 else
 if 102=102 ∧ 0 ≤ (v1.getD 2 d0).ii ∧ (v1.getD 2 d0).ii < (((v1.getD 0 d0).ll).length:Int) then
 (p8 [.sl (((((v1.getD 0 d0).ll).getD ((v1.getD 2 d0).ii).toNat []).getD 7 d0).ll),.i (IntKind.i64.wrap ((IntKind.i64.wrap ((IntKind.i64.wrap ((IntKind.i64.wrap ((IntKind.i64.wrap ((IntKind.i64.wrap ((IntKind.i64.wrap ((v1.getD 1 d0).ii + (1:Int))) + (1:Int))) + (1:Int))) + (1:Int))) + (1:Int))) + (1:Int))) + (1:Int)))]).bindR fun r7 =>
 if (decide ((r7.getD 0 d0).ii < (0:Int)))=true then
 .ret [.i (-1:Int)]
 else
 if 102=102 ∧ 0 ≤ (v1.getD 2 d0).ii ∧ (v1.getD 2 d0).ii < (((v1.getD 0 d0).ll).length:Int) then
 (kw [.sl (((((v1.getD 0 d0).ll).getD ((v1.getD 2 d0).ii).toNat []).getD 8 d0).ll),.i ((r7.getD 0 d0).ii)]).bindR fun r8 =>
 if (decide ((r8.getD 0 d0).ii < (0:Int)))=true then
 .ret [.i (-1:Int)]
 else
 if 102=102 ∧ 0 ≤ (v1.getD 2 d0).ii ∧ (v1.getD 2 d0).ii < (((v1.getD 0 d0).ll).length:Int) then
 (pd [.sl (((((v1.getD 0 d0).ll).getD ((v1.getD 2 d0).ii).toNat []).getD 9 d0).ll),.i ((r8.getD 0 d0).ii)]).bindR fun r9 =>
 if (decide ((r9.getD 0 d0).ii < (0:Int)))=true then
 .ret [.i (-1:Int)]
 else
 .norm [.sl ((v1.getD 0 d0).ll),.i ((r9.getD 0 d0).ii),.i ((v1.getD 2 d0).ii)]
 else
 .fail
 else
 .fail
 else
 .fail
 else
 .fail
 else
 .fail
 else
 .fail
 else
 .fail
 else
 .fail
 else
 .fail
 else
 .fail) 1 fun v10 =>
 .norm [.sl ((v10.getD 0 d0).ll),.i ((v10.getD 1 d0).ii),.i (IntKind.i64.wrap ((v10.getD 2 d0).ii + (1:Int)))]
 else
 .ex 0 [.i ((v1.getD 1 d0).ii)]
noncomputable def Q6 (a:List DC):Out :=
 ja (jK kq [.sl ((a.getD 0 d0).ll),.i ((a.getD 1 d0).ii),.i (0:Int)]) 0 fun v11 =>
 .ret [.i ((v11.getD 0 d0).ii)]
theorem Ye a:pJ a=Q6 a:=(jt cfg 34 _ a).trans (by kernel_rfl)
noncomputable def ki:List DC → Out:=fun v1 =>
 if (decide ((v1.getD 2 d0).ii < (((v1.getD 0 d0).ll).length:Int)))=true then
 ja (if 105=105 ∧ 0 ≤ (v1.getD 2 d0).ii ∧ (v1.getD 2 d0).ii < (((v1.getD 0 d0).ll).length:Int) then
 (jG [.i ((v1.getD 1 d0).ii)]).bindR fun r2 =>
 if (!(((((v1.getD 0 d0).ll).getD ((v1.getD 2 d0).ii).toNat []).getD 0 d0).ss == (r2.getD 0 d0).ss))=true then
 .ret [.i (-1:Int)]
 else
 if 105=105 ∧ 0 ≤ (v1.getD 2 d0).ii ∧ (v1.getD 2 d0).ii < (((v1.getD 0 d0).ll).length:Int) then
 (jG [.i (IntKind.i64.wrap ((v1.getD 1 d0).ii + (1:Int)))]).bindR fun r3 =>
 if (!(((((v1.getD 0 d0).ll).getD ((v1.getD 2 d0).ii).toNat []).getD 1 d0).ss == (r3.getD 0 d0).ss))=true then
 .ret [.i (-1:Int)]
 else
 if 105=105 ∧ 0 ≤ (v1.getD 2 d0).ii ∧ (v1.getD 2 d0).ii < (((v1.getD 0 d0).ll).length:Int) then
 (pd [.sl (((((v1.getD 0 d0).ll).getD ((v1.getD 2 d0).ii).toNat []).getD 2 d0).ll),.i (IntKind.i64.wrap ((IntKind.i64.wrap ((v1.getD 1 d0).ii + (1:Int))) + (1:Int)))]).bindR fun r4 =>
 if (decide ((r4.getD 0 d0).ii < (0:Int)))=true then
 .ret [.i (-1:Int)]
 else
 .norm [.sl ((v1.getD 0 d0).ll),.i ((r4.getD 0 d0).ii),.i ((v1.getD 2 d0).ii)]
 else
 .fail
 else
 .fail
 else
 .fail) 1 fun v5 =>
 .norm [.sl ((v5.getD 0 d0).ll),.i ((v5.getD 1 d0).ii),.i (IntKind.i64.wrap ((v5.getD 2 d0).ii + (1:Int)))]
 else
 .ex 0 [.i ((v1.getD 1 d0).ii)]
noncomputable def K4 (a:List DC):Out :=
 ja (jK ki [.sl ((a.getD 0 d0).ll),.i ((a.getD 1 d0).ii),.i (0:Int)]) 0 fun v6 =>
 .ret [.i ((v6.getD 0 d0).ii)]
theorem VO a:pX a=K4 a:=(jt cfg 35 _ a).trans (by kernel_rfl)
noncomputable def kK:List DC → Out:=fun v1 =>
 if (decide ((v1.getD 2 d0).ii < (((v1.getD 0 d0).ll).length:Int)))=true then
 ja (if 108=108 ∧ 0 ≤ (v1.getD 2 d0).ii ∧ (v1.getD 2 d0).ii < (((v1.getD 0 d0).ll).length:Int) then
 (jG [.i ((v1.getD 1 d0).ii)]).bindR fun r2 =>
 if (!(((((v1.getD 0 d0).ll).getD ((v1.getD 2 d0).ii).toNat []).getD 0 d0).ss == (r2.getD 0 d0).ss))=true then
 .ret [.i (-1:Int)]
 else
 if 108=108 ∧ 0 ≤ (v1.getD 2 d0).ii ∧ (v1.getD 2 d0).ii < (((v1.getD 0 d0).ll).length:Int) then
 (za [.sl (((((v1.getD 0 d0).ll).getD ((v1.getD 2 d0).ii).toNat []).getD 1 d0).ll),.i (IntKind.i64.wrap ((v1.getD 1 d0).ii + (1:Int)))]).bindR fun r3 =>
 if (decide ((r3.getD 0 d0).ii < (0:Int)))=true then
 .ret [.i (-1:Int)]
 else
 .norm [.sl ((v1.getD 0 d0).ll),.i ((r3.getD 0 d0).ii),.i ((v1.getD 2 d0).ii)]
 else
 .fail
 else
 .fail) 1 fun v4 =>
 .norm [.sl ((v4.getD 0 d0).ll),.i ((v4.getD 1 d0).ii),.i (IntKind.i64.wrap ((v4.getD 2 d0).ii + (1:Int)))]
 else
 .ex 0 [.i ((v1.getD 1 d0).ii)]
noncomputable def Vh (a:List DC):Out :=
 ja (jK kK [.sl ((a.getD 0 d0).ll),.i ((a.getD 1 d0).ii),.i (0:Int)]) 0 fun v5 =>
 .ret [.i ((v5.getD 0 d0).ii)]
theorem Zw a:pd a=Vh a:=(jt cfg 37 _ a).trans (by kernel_rfl)
noncomputable def Q2 (a:List DC):Out :=
 if (decide ((IntKind.i64.wrap ((a.getD 6 d0).ii - (((a.getD 0 d0).ss).length:Int))) < (0:Int)))=true then
 .ret [.i (-1:Int)]
 else
 if (decide ((IntKind.i64.wrap ((IntKind.i64.wrap ((a.getD 6 d0).ii - (((a.getD 0 d0).ss).length:Int))) - (((a.getD 1 d0).ss).length:Int))) < (0:Int)))=true then
 .ret [.i (-1:Int)]
 else
 (qI [.sl ((a.getD 2 d0).ll),.i (IntKind.i64.wrap ((IntKind.i64.wrap ((a.getD 6 d0).ii - (((a.getD 0 d0).ss).length:Int))) - (((a.getD 1 d0).ss).length:Int)))]).bindR fun r1 =>
 if (decide ((r1.getD 0 d0).ii < (0:Int)))=true then
 .ret [.i (-1:Int)]
 else
 (Jn [.s ((a.getD 3 d0).ss),.s ((a.getD 4 d0).ss),.i ((r1.getD 0 d0).ii)]).bindR fun r2 =>
 if (decide ((r2.getD 0 d0).ii < (0:Int)))=true then
 .ret [.i (-1:Int)]
 else
 (pS [.sl ((a.getD 5 d0).ll),.i ((r2.getD 0 d0).ii)]).bindR fun r3 =>
 if (decide ((r3.getD 0 d0).ii < (0:Int)))=true then
 .ret [.i (-1:Int)]
 else
 .ret [.i ((r3.getD 0 d0).ii)]
theorem Ya a:qX a=Q2 a:=(jt cfg 80 _ a).trans (by kernel_rfl)
noncomputable def X6 (a:List DC):Out :=
 if (decide ((IntKind.i64.wrap ((a.getD 10 d0).ii - (((a.getD 0 d0).ss).length:Int))) < (0:Int)))=true then
 .ret [.i (-1:Int)]
 else
 if (decide ((IntKind.i64.wrap ((IntKind.i64.wrap ((a.getD 10 d0).ii - (((a.getD 0 d0).ss).length:Int))) - (((a.getD 1 d0).ss).length:Int))) < (0:Int)))=true then
 .ret [.i (-1:Int)]
 else
 (Jn [.s ((a.getD 2 d0).ss),.s ((a.getD 3 d0).ss),.i (IntKind.i64.wrap ((IntKind.i64.wrap ((a.getD 10 d0).ii - (((a.getD 0 d0).ss).length:Int))) - (((a.getD 1 d0).ss).length:Int)))]).bindR fun r1 =>
 if (decide ((r1.getD 0 d0).ii < (0:Int)))=true then
 .ret [.i (-1:Int)]
 else
 (qf [.i ((a.getD 5 d0).ii),.s ((a.getD 6 d0).ss),.sl ((a.getD 7 d0).ll),.sl ((a.getD 8 d0).ll),.i ((r1.getD 0 d0).ii)]).bindR fun r2 =>
 if (decide ((r2.getD 0 d0).ii < (0:Int)))=true then
 .ret [.i (-1:Int)]
 else
 (pS [.sl ((a.getD 9 d0).ll),.i ((r2.getD 0 d0).ii)]).bindR fun r3 =>
 if (decide ((r3.getD 0 d0).ii < (0:Int)))=true then
 .ret [.i (-1:Int)]
 else
 .ret [.i ((r3.getD 0 d0).ii)]
theorem j0c a:zI a=X6 a:=(jt cfg 81 _ a).trans (by kernel_rfl)
noncomputable def QE (a:List DC):Out :=
 if (decide ((IntKind.i64.wrap ((a.getD 3 d0).ii - (((a.getD 0 d0).ss).length:Int))) < (0:Int)))=true then
 .ret [.i (-1:Int)]
 else
 if (decide ((IntKind.i64.wrap ((IntKind.i64.wrap ((a.getD 3 d0).ii - (((a.getD 0 d0).ss).length:Int))) - (((a.getD 1 d0).ss).length:Int))) < (0:Int)))=true then
 .ret [.i (-1:Int)]
 else
 (pS [.sl ((a.getD 2 d0).ll),.i (IntKind.i64.wrap ((IntKind.i64.wrap ((a.getD 3 d0).ii - (((a.getD 0 d0).ss).length:Int))) - (((a.getD 1 d0).ss).length:Int)))]).bindR fun r1 =>
 if (decide ((r1.getD 0 d0).ii < (0:Int)))=true then
 .ret [.i (-1:Int)]
 else
 .ret [.i ((r1.getD 0 d0).ii)]
theorem YK a:yE a=QE a:=(jt cfg 82 _ a).trans (by kernel_rfl)
noncomputable def XG (a:List DC):Out :=
 if (decide ((IntKind.i64.wrap ((a.getD 2 d0).ii - (((a.getD 1 d0).ss).length:Int))) < (0:Int)))=true then
 .ret [.i (-1:Int)]
 else
 .ret [.i (IntKind.i64.wrap ((a.getD 2 d0).ii - (((a.getD 1 d0).ss).length:Int)))]
theorem j1d a:Jo a=XG a:=(jt cfg 83 _ a).trans (by kernel_rfl)
noncomputable def Z1 (a:List DC):Out :=
 if (decide ((IntKind.i64.wrap ((a.getD 2 d0).ii - (((a.getD 0 d0).ss).length:Int))) < (0:Int)))=true then
 .ret [.i (-1:Int)]
 else
 (Jq [.sl ((a.getD 1 d0).ll),.i (IntKind.i64.wrap ((a.getD 2 d0).ii - (((a.getD 0 d0).ss).length:Int)))]).bindR fun r1 =>
 if (decide ((r1.getD 0 d0).ii < (0:Int)))=true then
 .ret [.i (-1:Int)]
 else
 .ret [.i ((r1.getD 0 d0).ii)]
theorem j1Q a:K9 a=Z1 a:=(jt cfg 84 _ a).trans (by kernel_rfl)
noncomputable def Q0 (a:List DC):Out :=
 (qH [.sl ((a.getD 2 d0).ll)]).bindR fun r1 =>
 (Jk [.s ((a.getD 3 d0).ss),.s ((a.getD 4 d0).ss)]).bindR fun r2 =>
 (pQ [.sl ((a.getD 5 d0).ll)]).bindR fun r3 =>
 .ret [.s ((a.getD 0 d0).ss),.s ((a.getD 1 d0).ss),.sl ((r1.getD 0 d0).ll),.s ((r2.getD 0 d0).ss),.s ((r2.getD 1 d0).ss),.sl ((r3.getD 0 d0).ll)]
theorem Y8 a:qV a=Q0 a:=(jt cfg 87 _ a).trans (by kernel_rfl)
noncomputable def X3 (a:List DC):Out :=
 (Jk [.s ((a.getD 2 d0).ss),.s ((a.getD 3 d0).ss)]).bindR fun r1 =>
 (qe [.i ((a.getD 5 d0).ii),.s ((a.getD 6 d0).ss),.sl ((a.getD 7 d0).ll),.sl ((a.getD 8 d0).ll)]).bindR fun r2 =>
 (pQ [.sl ((a.getD 9 d0).ll)]).bindR fun r3 =>
 .ret [.s ((a.getD 0 d0).ss),.s ((a.getD 1 d0).ss),.s ((r1.getD 0 d0).ss),.s ((r1.getD 1 d0).ss),.b ((a.getD 4 d0).bb),.i ((r2.getD 0 d0).ii),.s ((r2.getD 1 d0).ss),.sl ((r2.getD 2 d0).ll),.sl ((r2.getD 3 d0).ll),.sl ((r3.getD 0 d0).ll)]
theorem j09 a:zG a=X3 a:=(jt cfg 88 _ a).trans (by kernel_rfl)
noncomputable def QC (a:List DC):Out :=
 (pQ [.sl ((a.getD 2 d0).ll)]).bindR fun r1 =>
 .ret [.s ((a.getD 0 d0).ss),.s ((a.getD 1 d0).ss),.sl ((r1.getD 0 d0).ll)]
theorem YI a:yC a=QC a:=(jt cfg 89 _ a).trans (by kernel_rfl)
noncomputable def XB (a:List DC):Out :=
 .ret [.i ((a.getD 0 d0).ii),.s ((a.getD 1 d0).ss)]
theorem j18 a:Jl a=XB a:=(jt cfg 90 _ a).trans (by kernel_rfl)
noncomputable def YY (a:List DC):Out :=
 (Jm [.sl ((a.getD 1 d0).ll)]).bindR fun r1 =>
 .ret [.s ((a.getD 0 d0).ss),.sl ((r1.getD 0 d0).ll)]
theorem j1N a:K6 a=YY a:=(jt cfg 91 _ a).trans (by kernel_rfl)
noncomputable def VX (a:List DC):Out :=
 if ([]:List (List DC)).length + ((a.getD 4 d0).ll).length < kC then
 (yn [.sl ((a.getD 5 d0).ll)]).bindR fun r1 =>
 (qU [.sl ((a.getD 6 d0).ll)]).bindR fun r2 =>
 (ym [.sl ((a.getD 7 d0).ll)]).bindR fun r3 =>
 if ([]:List (List DC)).length + ((a.getD 8 d0).ll).length < kC then
 (qd [.sl ((a.getD 10 d0).ll)]).bindR fun r4 =>
 .ret [.i ((a.getD 0 d0).ii),.b ((a.getD 1 d0).bb),.s ((a.getD 2 d0).ss),.s ((a.getD 3 d0).ss),.sl (([]:List (List DC)) ++ ((a.getD 4 d0).ll)),.sl ((r1.getD 0 d0).ll),.sl ((r2.getD 0 d0).ll),.sl ((r3.getD 0 d0).ll),.sl (([]:List (List DC)) ++ ((a.getD 8 d0).ll)),.b ((a.getD 9 d0).bb),.sl ((r4.getD 0 d0).ll)]
 else
 .fail
 else
 .fail
theorem j03 a:Kr a=VX a:=(jt cfg 18 _ a).trans (by kernel_rfl)
noncomputable def Vo (a:List DC):Out :=
 (pD [.sl ((a.getD 4 d0).ll)]).bindR fun r1 =>
 (zk [.sl ((a.getD 5 d0).ll)]).bindR fun r2 =>
 (zc [.sl ((a.getD 6 d0).ll)]).bindR fun r3 =>
 (zL [.sl ((a.getD 7 d0).ll)]).bindR fun r4 =>
 (pP [.sl ((a.getD 8 d0).ll)]).bindR fun r5 =>
 (pp [.sl ((a.getD 10 d0).ll)]).bindR fun r6 =>
 .ret [.i ((a.getD 0 d0).ii),.b ((a.getD 1 d0).bb),.s ((a.getD 2 d0).ss),.s ((a.getD 3 d0).ss),.sl ((r1.getD 0 d0).ll),.sl ((r2.getD 0 d0).ll),.sl ((r3.getD 0 d0).ll),.sl ((r4.getD 0 d0).ll),.sl ((r5.getD 0 d0).ll),.b ((a.getD 9 d0).bb),.sl ((r6.getD 0 d0).ll)]
theorem ZD a:JM a=Vo a:=(jt cfg 60 _ a).trans (by kernel_rfl)
noncomputable def QI (a:List DC):Out :=
 .ret [.b ((a.getD 0 d0).ii == (8:Int))]
theorem YO a:Qq a=QI a:=(jt cfg 74 _ a).trans (by kernel_rfl)
noncomputable def ZL (a:List DC):Out :=
 jy (if (decide ((a.getD 0 d0).ii ≥ (a.getD 1 d0).ii))=true then
 .norm [.b (decide ((a.getD 0 d0).ii ≤ (a.getD 2 d0).ii))]
 else
 .norm [.b false]) fun v1 =>
 .ret [.b ((v1.getD 0 d0).bb)]
theorem j5x a:Zd a=ZL a:=(jt cfg 105 _ a).trans (by kernel_rfl)
noncomputable def Z7 (a:List DC):Out :=
 if (decide ((((a.getD 0 d0).ll).length:Int) > (60:Int)))=true then
 .ret [.i (-1:Int)]
 else
 (kf [.sl ((a.getD 0 d0).ll),.s ((a.getD 1 d0).ss)]).bindR fun r1 =>
 .ret [.i ((r1.getD 0 d0).ii)]
theorem j1W a:QR a=Z7 a:=(jt cfg 107 _ a).trans (by kernel_rfl)
noncomputable def Q7 (a:List DC):Out :=
 if (!((a.getD 0 d0).ss == (a.getD 6 d0).ss))=true then
 .ret [.b false]
 else
 if (!((a.getD 1 d0).ss == (a.getD 7 d0).ss))=true then
 .ret [.b false]
 else
 (qL [.sl ((a.getD 2 d0).ll),.sl ((a.getD 8 d0).ll)]).bindR fun r1 =>
 if (!((r1.getD 0 d0).bb))=true then
 .ret [.b false]
 else
 (Jr [.s ((a.getD 3 d0).ss),.s ((a.getD 4 d0).ss),.s ((a.getD 9 d0).ss),.s ((a.getD 10 d0).ss)]).bindR fun r2 =>
 if (!((r2.getD 0 d0).bb))=true then
 .ret [.b false]
 else
 (pT [.sl ((a.getD 5 d0).ll),.sl ((a.getD 11 d0).ll)]).bindR fun r3 =>
 if (!((r3.getD 0 d0).bb))=true then
 .ret [.b false]
 else
 .ret [.b true]
theorem Yf a:qZ a=Q7 a:=(jt cfg 101 _ a).trans (by kernel_rfl)
noncomputable def X9 (a:List DC):Out :=
 if (!((a.getD 0 d0).ss == (a.getD 10 d0).ss))=true then
 .ret [.b false]
 else
 if (!((a.getD 1 d0).ss == (a.getD 11 d0).ss))=true then
 .ret [.b false]
 else
 (Jr [.s ((a.getD 2 d0).ss),.s ((a.getD 3 d0).ss),.s ((a.getD 12 d0).ss),.s ((a.getD 13 d0).ss)]).bindR fun r1 =>
 if (!((r1.getD 0 d0).bb))=true then
 .ret [.b false]
 else
 if (!((a.getD 4 d0).bb == (a.getD 14 d0).bb))=true then
 .ret [.b false]
 else
 (qh [.i ((a.getD 5 d0).ii),.s ((a.getD 6 d0).ss),.sl ((a.getD 7 d0).ll),.sl ((a.getD 8 d0).ll),.i ((a.getD 15 d0).ii),.s ((a.getD 16 d0).ss),.sl ((a.getD 17 d0).ll),.sl ((a.getD 18 d0).ll)]).bindR fun r2 =>
 if (!((r2.getD 0 d0).bb))=true then
 .ret [.b false]
 else
 (pT [.sl ((a.getD 9 d0).ll),.sl ((a.getD 19 d0).ll)]).bindR fun r3 =>
 if (!((r3.getD 0 d0).bb))=true then
 .ret [.b false]
 else
 .ret [.b true]
theorem j0f a:zJ a=X9 a:=(jt cfg 102 _ a).trans (by kernel_rfl)
end Go.Proofs.QV
