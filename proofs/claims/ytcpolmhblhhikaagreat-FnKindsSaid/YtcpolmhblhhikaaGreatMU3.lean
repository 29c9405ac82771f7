import Derived.Test.YtcpolmhblhhikaaGreatMU2
import Derived.Laws.BytesArg
import Derived.Laws.IdiomStrings
import Derived.Laws.Slices
import Derived.Laws.Tables
import Derived.Great.BuildSlice
import Derived.Lib.AppendStr
import Derived.Lib.Strings
/- One operation: arithmetic,comparisons,conversions,values that are put together. -/
namespace Go.Proofs.QV
open Go
open _root_.Option.some renaming injEq → j8
open _root_.Prod.mk renaming injEq → ji
open _root_.List renaming eq_nil_of_length_eq_zero → jm, map_cons → js, flatMap_cons → jn, nil_append → jg, append_assoc → jD, mem_append → jC, length_append → jj, append_nil → jv, length_nil → jf
open _root_.Nat renaming lt_or_ge → jA
open _root_.Bool renaming and_eq_true → jk
set_option linter.unusedVariables false
section
variable {P:Program} {ty:Nat → Option TI} {A:An} {g:Gh} {tm:List C} {H:List HS} {a:Act} {w:World} {o:Oper} {Q:Exit → Act → World → Prop}
theorem j6l (op:BinOp) (t:TypeId) (x y:Operand) (k:IntKind) (n:Int) (v:Value):(eqGuard op t x y (.int k n) v).run P w = .ok () w:=by
 unfold eqGuard
 cases op <;> simp
theorem j6k (op:BinOp) (t:TypeId) (x y:Operand) (s:ByteArray) (v:Value):(eqGuard op t x y (.string s) v).run P w = .ok () w:=by
 unfold eqGuard
 cases op <;> simp
theorem j5g (op:BinOp) (t:TypeId) (x y:Operand) (s:Bool) (v:Value):(eqGuard op t x y (.bool s) v).run P w = .ok () w:=by
 unfold eqGuard
 cases op <;> simp
theorem j6Y {op:BinOp} {k:IntKind} {m n:Int} {s:S} (t:TypeId) (e:j5a op k m n=some s) (v:Value) (hv:SR ty g H w s v) :
  (binOp op t (.int k m) (.int k n)).run P w = .ok v w:=by
 unfold j5a at e
 cases op <;> simp only [j8,reduceCtorEq] at e <;> subst e <;> rw [show v=_ from hv] <;> simp [binOp,Op.intArith,Op.intBits,Op.intCmp]
theorem j6X {op:BinOp} {m n:List UInt8} {s:S} (t:TypeId) (e:j4L op m n=some s) (v:Value) (hv:SR ty g H w s v) :
  (binOp op t (.string ⟨m.toArray⟩) (.string ⟨n.toArray⟩)).run P w = .ok v w:=by
 unfold j4L at e
 cases op <;> simp only [j8,reduceCtorEq] at e <;> subst e <;> rw [show v=_ from hv] <;> simp [binOp,Op.stringOp]
theorem XX {t:TypeId} (m n:Bool) (hu:P.underlying t=some .bool):(Op.equal t (.bool m) (.bool n)).run P w = .ok (m == n) w:=by
 have:∀ d,(Op.equalIn (d + 1) t (.bool m) (.bool n)).run P w = .ok (m == n) w:=fun d=>by simp [Op.equalIn,run_underlying hu]
 exact this 9999
theorem j9k (hty:y9 P ty) (op:BinOp) (t yt:TypeId) (x y:Operand) (ho:o.op = .binOp op t x y yt) (h:Rel ty A g ⟨tm,H⟩ a w) {c:C}
  (e:Yn (ρ:=Option C) ty none op t (opd tm x) (opd tm y) some=some c) :
  o.wp P a w (pD ty A g H w ⟨ka tm o.dst c,H⟩) Q:=by
 have hx:=h.opd x
 have hy:=h.opd y
 have fin:∀ v:Value,(do eqGuard op t x y (a.eval x) (a.eval y); binOp op t (a.eval x) (a.eval y):Sem Value).run P w = .ok v w → CR ty g H w c v → o.wp P a w (pD ty A g H w ⟨ka tm o.dst c,H⟩) Q:=by
  intro v hr hc
  refine jV (v:=v) (w':=w) ?_ (kR h hc)
  simp only [execOp,ho]
  rw [Sem.run_bind,hr]
  rfl
 unfold Yn at e
 split at e
 ·rename_i k m k' n hm hn
  rw [hm] at hx
  rw [hn] at hy
  have ex:a.eval x = .int k m:=hx
  have ey:a.eval y = .int k' n:=hy
  rw [ex,ey] at fin
  have fin':∀ v:Value,(binOp op t (.int k m) (.int k' n)).run P w = .ok v w → CR ty g H w c v → o.wp P a w (pD ty A g H w ⟨ka tm o.dst c,H⟩) Q :=
   fun v hr hc=>fin v (by rw [Sem.run_bind,j6l]; exact hr) hc
  split at e
  ·split at e
   ·simp at e
   ·rename_i hb
    simp only [j8] at e
    subst e
    exact fin' _ (by simp [binOp,Op.shift,hb]) rfl
  ·split at e
   ·simp at e
   ·rename_i hb
    simp only [j8] at e
    subst e
    exact fin' _ (by simp [binOp,Op.shift,hb]) rfl
  ·split at e
   ·rename_i hk
    subst hk
    split at e
    ·simp at e
    ·rename_i hb
     simp only [j8] at e
     subst e
     exact fin' _ (by simp [binOp,Op.intDiv,hb]) rfl
   ·simp at e
  ·split at e
   ·rename_i hk
    subst hk
    split at e
    ·simp at e
    ·rename_i hb
     simp only [j8] at e
     subst e
     exact fin' _ (by simp [binOp,Op.intDiv,hb]) rfl
   ·simp at e
  ·split at e
   ·rename_i hk
    subst hk
    split at e
    ·rename_i s hs
     simp only [j8] at e
     subst e
     obtain ⟨v,hv⟩:∃ v,SR ty g H w s v:=by
      unfold j5a at hs
      cases op <;> simp only [j8,reduceCtorEq] at hs <;> subst hs <;> exact ⟨_,rfl⟩
     exact fin' v (j6Y t hs v hv) hv
    ·simp at e
   ·simp at e
 ·rename_i m n hm hn
  rw [hm] at hx
  rw [hn] at hy
  have ex:a.eval x = .string ⟨m.toArray⟩:=hx
  have ey:a.eval y = .string ⟨n.toArray⟩:=hy
  rw [ex,ey] at fin
  have fin':∀ v:Value,(binOp op t (.string ⟨m.toArray⟩) (.string ⟨n.toArray⟩)).run P w = .ok v w → CR ty g H w c v → o.wp P a w (pD ty A g H w ⟨ka tm o.dst c,H⟩) Q :=
   fun v hr hc=>fin v (by rw [Sem.run_bind,j6k]; exact hr) hc
  split at e
  ·split at e
   ·rename_i hb
    simp only [j8] at e
    subst e
    refine fin' (.string ⟨(m ++ n).toArray⟩) ?_ rfl
    have hs:∀ l:List UInt8,(ByteArray.mk l.toArray).size=l.length:=fun l=>by simp [ByteArray.size]
    have hcat:(ByteArray.mk m.toArray) ++ (ByteArray.mk n.toArray)=ByteArray.mk (m ++ n).toArray:=by
     apply ByteArray.ext
     simp
    have hlim:¬ (((m.length + n.length:Nat):Int) > IntKind.i64.max):=by
     simp only [jT] at hb
     have:IntKind.i64.max=9223372036854775807:=by decide
     rw [this]
     omega
    simp only [binOp,Op.stringOp,hs]
    rw [if_neg hlim,hcat]
    rfl
   ·simp at e
  ·split at e
   ·rename_i s hs
    simp only [j8] at e
    subst e
    obtain ⟨v,hv⟩:∃ v,SR ty g H w s v:=by
     unfold j4L at hs
     cases op <;> simp only [j8,reduceCtorEq] at hs <;> subst hs <;> exact ⟨_,rfl⟩
    exact fin' v (j6X t hs v hv) hv
   ·simp at e
 ·rename_i m n hm hn
  rw [hm] at hx
  rw [hn] at hy
  have ex:a.eval x = .bool m:=hx
  have ey:a.eval y = .bool n:=hy
  rw [ex,ey] at fin
  have fin':∀ v:Value,(binOp op t (.bool m) (.bool n)).run P w = .ok v w → CR ty g H w c v → o.wp P a w (pD ty A g H w ⟨ka tm o.dst c,H⟩) Q :=
   fun v hr hc=>fin v (by rw [Sem.run_bind,j5g]; exact hr) hc
  have hu:∀ ti:TI,ty t=some ti → ti.kd = .bool → P.underlying t=some .bool:=by
   intro ti ht hk
   obtain ⟨d,hd,hkd⟩:=(hty t ti ht).kd
   rw [hd]
   cases d <;> simp [j5n,hk] at hkd <;> rfl
  split at e
  ·rename_i ti ht
   simp only [j8] at e
   subst e
   exact fin' _ (by simp only [binOp]; rw [Sem.run_bind,XX m n (hu _ ht rfl)]; rfl) rfl
  ·rename_i ti ht
   simp only [j8] at e
   subst e
   exact fin' _ (by simp only [binOp]; rw [Sem.run_bind,XX m n (hu _ ht rfl)]; rfl) rfl
  ·simp at e
 ·rename_i l m hm hn
  rw [hm] at hx
  rw [hn] at hy
  obtain ⟨xs,ex,sx⟩:=hx
  obtain ⟨ys,ey,sy⟩:=hy
  rw [ex,ey] at fin
  split at e
  ·rename_i r ti hr ht
   split at e
   ·rename_i hc
    simp only [j8] at e
    subst e
    exact fin _ ((hty t ti ht).eq xs ys l m r hc.1 hr hc.2.2.2.1 hc.2.2.2.2 g H w ty sx sy (by rw [sx.length]; exact hc.2.1) (by rw [sy.length]; exact hc.2.2.1) x y).1 rfl
   ·simp at e
  ·rename_i r ti hr ht
   split at e
   ·rename_i hc
    simp only [j8] at e
    subst e
    exact fin _ ((hty t ti ht).eq xs ys l m r hc.1 hr hc.2.2.2.1 hc.2.2.2.2 g H w ty sx sy (by rw [sx.length]; exact hc.2.1) (by rw [sy.length]; exact hc.2.2.1) x y).2 rfl
   ·simp at e
  ·simp at e
 ·simp at e
end
section
variable {P:Program} {ty:Nat → Option TI} {A:An} {g:Gh} {tm:List C} {H:List HS} {a:Act} {w:World} {o:Oper} {Q:Exit → Act → World → Prop}
theorem j30 (hty:y9 P ty) {t:Nat} {ti:TI} (ht:ty t=some ti) {k:IntKind} (hk:ti.kd = .int k):P.underlying t=some (.int k) ∧ ti.cts=[.i k]:=by
 obtain ⟨d,hd,hkd⟩:=(hty t ti ht).kd
 rw [hd]
 cases d <;> simp [j5n,hk] at hkd
 simp [hkd]
theorem ZG (hty:y9 P ty) {t:Nat} {ti:TI} (ht:ty t=some ti) (hk:ti.kd = .str):P.underlying t=some .string:=by
 obtain ⟨d,hd,hkd⟩:=(hty t ti ht).kd
 rw [hd]
 cases d <;> simp [j5n,hk] at hkd
 rfl
theorem j0l (hty:y9 P ty) {t:Nat} {ti:TI} (ht:ty t=some ti) {e:Nat} (hk:ti.kd = .slice e):P.underlying t=some (.slice e):=by
 obtain ⟨d,hd,hkd⟩:=(hty t ti ht).kd
 rw [hd]
 cases d <;> simp [j5n,hk] at hkd
 simp [hkd]
theorem Kk (hty:y9 P ty) {t e:Nat} (h:Jc (ty t)=some e):P.underlying t=some (.slice e):=by
 unfold Jc at h
 split at h
 ·rename_i ti ht
  split at h
  ·rename_i e' hk
   simp only [j8] at h
   subst h
   exact j0l hty ht hk
  ·simp at h
 ·simp at h
theorem j1f (hty:y9 P ty) {t:Nat} {ti:TI} (ht:ty t=some ti) (hk:jQ (some ti)=true):∃ fs,P.underlying t=some (.struct fs) ∧ fs.size=ti.flds.length ∧
  ∀ (j:Nat) (f:Go.Field) (x:Nat × Nat × Bool),fs[j]? = some f → ti.flds[j]? = some x → FldOk P ti.cts.length f x:=by
 obtain ⟨d,hd,hkd⟩:=(hty t ti ht).kd
 rw [hd]
 cases d with
 | struct fs=>exact ⟨fs,rfl,hkd.2.1,hkd.2.2⟩
 | _=>simp [j5n] at hkd <;> simp [jQ,hkd] at hk
theorem j9e (t:TypeId) (x:Operand) (ho:o.op = .unOp .not t x) (h:Rel ty A g ⟨tm,H⟩ a w) {b:Bool} (hx:opd tm x = .one (.bool b)) :
  o.wp P a w (pD ty A g H w ⟨ka tm o.dst (.one (.bool (!b))),H⟩) Q:=by
 have rx:=h.opd x
 rw [hx] at rx
 have ex:a.eval x = .bool b:=rx
 exact jV (v:=.bool (!b)) (w':=w) (by simp [execOp,ho,ex,Op.unary]) (kR h rfl)
theorem j9f (t:TypeId) (x:Operand) (ho:o.op = .unOp .neg t x) (h:Rel ty A g ⟨tm,H⟩ a w) {k:IntKind} {n:Int} (hx:opd tm x = .one (.int k n)) :
  o.wp P a w (pD ty A g H w ⟨ka tm o.dst (.one (.int k (k.wrap (0 - n)))),H⟩) Q:=by
 have rx:=h.opd x
 rw [hx] at rx
 have ex:a.eval x = .int k n:=rx
 exact jV (v:=.int k (k.wrap (0 - n))) (w':=w) (by simp [execOp,ho,ex,Op.unary,Op.intArith]) (kR h rfl)
theorem Zz (h:Rel ty A g ⟨tm,H⟩ a w) {s:S} {v:Value} {e:Nat} {l:List (List DC)} (hs:SR ty g H w s v) (e1:za H s=some (e,l)) :
  (∃ F,RdC ty w (.sl e) (.sl l) v F ∧ ∀ b ∈ F,g.I b) ∨
  (∃ (ti:TI) (vs:List Value) (F:List Nat) (id:Nat),s = .own id ∧ jp H id = .live (.row e l) ∧ v=g.val id ∧ ty e=some ti ∧ 0 < ti.cts.length ∧ w.ownsRow 0 e ti.cts.length v l.length vs ∧ RdV ty w ti.cts l vs F ∧ ∀ b ∈ F,g.I b):=by
 unfold za at e1
 split at e1
 ·simp only [j8,ji] at e1
  obtain ⟨rfl,rfl⟩:=e1
  exact .inl hs
 ·rename_i id
  split at e1
  ·rename_i e' l' hr
   split at e1
   ·rename_i hde
    simp only [j8,ji] at e1
    obtain ⟨rfl,rfl⟩:=e1
    obtain ⟨ti,vs,F,h1,h0,h2,h3,h4,h5⟩:=h.ob id _ hr
    have hv:=hs.2.2 ⟨_,_,.inl hr⟩
    rw [ku hde] at h1 h2
    exact .inr ⟨ti,vs,F,id,rfl,hr,hv,h1,h0,by rw [hv]; exact h2,h3.v (Xn hde),(kz.shallow hde).1 h4⟩
   ·simp at e1
  ·rename_i e' l' hr
   simp only [j8,ji] at e1
   obtain ⟨rfl,rfl⟩:=e1
   obtain ⟨F,h1,h2⟩:=h.ob id _ hr
   exact .inl ⟨F,by rw [hs.2.2 ⟨_,_,.inr (.inl hr)⟩]; exact h1,h2⟩
  ·simp at e1
 ·simp at e1
theorem VI {v:Value} {e:Nat} {l:List (List DC)}
  (h:(∃ F,RdC ty w (.sl e) (.sl l) v F ∧ ∀ b ∈ F,g.I b) ∨
  (∃ (ti:TI) (vs:List Value) (F:List Nat),ty e=some ti ∧ 0 < ti.cts.length ∧ w.ownsRow 0 e ti.cts.length v l.length vs ∧ RdV ty w ti.cts l vs F ∧ ∀ b ∈ F,g.I b)) :
  ∃ (ad:Option Addr) (cap:Nat),v = .slice ad l.length cap ∧ (l=[] ∨ ∃ (ti:TI) (vs:List Value) (F:List Nat) (b off:Nat),ty e=some ti ∧ 0 < ti.cts.length ∧ ad=some ⟨b,off,none⟩ ∧
   (∀ (j:Nat) (u:Value),vs[j]? = some u → w.cell? ⟨b,off + j,none⟩=some u) ∧ RdV ty w ti.cts l vs F ∧ ∀ b ∈ F,g.I b) ∧ (l ≠ [] → ad ≠ none):=by
 rcases h with ⟨F,h1,h2⟩ | ⟨ti,vs,F,h1,h0,h2,h3,h4⟩
 ·cases h1 with
  | nil e a c=>exact ⟨a,c,rfl,.inl rfl,fun h=>absurd rfl h⟩
  | sl e ti b off n cap l vs F k1 k0 k2 k3 k4 k5 k6 =>
   subst k2
   exact ⟨_,_,rfl,.inr ⟨ti,vs,F,b,off,k1,k0,rfl,k5,k6,fun c hc=>h2 c (by simp [hc])⟩,fun _=>by simp⟩
 ·rcases h2.2 with ⟨hv,hn⟩ | ⟨k,cap,cur,hv,hk,hg,hnc,hcm,hcs,htake⟩
  ·have:l=[]:=jm hn
   subst this
   exact ⟨none,0,by rw [hv]; rfl,.inl rfl,fun h=>absurd rfl h⟩
  ·refine ⟨_,_,hv,.inr ⟨ti,vs,F,k,0,h1,h0,rfl,fun j u hu=>?_,h3,h4⟩,fun _=>by simp⟩
   have hjl:j < vs.length:=by
    rcases jA j vs.length with h' | h'
    ·exact h'
    ·simp [List.getElem?_eq_none h'] at hu
   rw [Nat.zero_add,World.ownsRow.cellAt (w:=w) (g:=k) (n:=l.length) (cap:=cap) (xs:=vs) (base:=0) (e:=e) (size:=ti.cts.length) (by rw [← hv]; exact h2) j (by have:=h2.1; omega)]
   exact hu
theorem j4v {l:List (List DC)} {vs:List Value} {F:List Nat}:RdV ty w [.i .u8] l vs F → vs=(l.map fun x=>(x.getD 0 d0).ii).map (Value.int .u8)
 | .nil _=>rfl
 | .cons _ x l v vs F G h1 h2=>by
  have ih:=j4v h2
  cases h1 with
  | cons t ts x xs v' vs' F' G' k1 k2 =>
   cases k1
   cases k2
   simp [ih,DC.ii]
theorem j8e (hty:y9 P ty) (src dst:TypeId) (x:Operand) (ho:o.op = .convert src dst x) (h:Rel ty A g ⟨tm,H⟩ a w) {c:C} {cl:Cls} {H':List HS}
  (e:K3 (ρ:=Option (Cls × List HS × C)) ty none src dst ⟨tm,H⟩ (opd tm x) (fun cl H c=>some (cl,H,c))=some (cl,H',c)) :
  H'=H ∧ o.wp P a w (pD ty A g H w ⟨ka tm o.dst c,H⟩) Q:=by
 have rx:=h.opd x
 have fin:∀ v:Value,(convert src dst (a.eval x)).run P w = .ok v w → CR ty g H w c v → o.wp P a w (pD ty A g H w ⟨ka tm o.dst c,H⟩) Q :=
  fun v hr hc=>jV (v:=v) (w':=w) (by simp only [execOp,ho]; rw [Sem.run_bind,hr]; rfl) (kR h hc)
 unfold K3 at e
 split at e
 ·rename_i tx ty' hs hd
  split at e
  ·rename_i k k' k'' n hk hk' hx
   simp only [j8,ji] at e
   obtain ⟨_,rfl,rfl⟩:=e
   rw [hx] at rx
   refine ⟨rfl,fin (.int k' (k'.wrap n)) ?_ rfl⟩
   rw [show a.eval x=_ from rx]
   simp [convert,run_underlying (j30 hty hs hk).1,run_underlying (j30 hty hd hk').1,Conv.intToInt]
  ·rename_i l hk hk' hx
   simp only [j8,ji] at e
   obtain ⟨_,rfl,rfl⟩:=e
   rw [hx] at rx
   refine ⟨rfl,fin (.string ⟨l.toArray⟩) ?_ rfl⟩
   rw [show a.eval x=_ from rx]
   simp [convert,run_underlying (ZG hty hs hk),run_underlying (ZG hty hd hk')]
  ·rename_i el s hk hk' hx
   rw [hx] at rx
   have hsu:=j0l hty hs hk
   have hdu:=ZG hty hd hk'
   split at e
   ·rename_i te e' l hte hsl
    split at e
    ·rename_i hee
     subst hee
     simp only [j8,ji] at e
     obtain ⟨_,rfl,rfl⟩:=e
     have heu:=j30 hty hte rfl
     refine ⟨rfl,fin (.string ⟨(KH l).toArray⟩) ?_ rfl⟩
     have hm:=VI (v:=a.eval x) (by
      rcases Zz h rx hsl with h1 | ⟨ti,vs,F,id,_,_,_,h1⟩
      ·exact .inl h1
      ·exact .inr ⟨ti,vs,F,h1⟩)
     obtain ⟨ad,cap,hv,hm,hne⟩:=hm
     rw [hv]
     rcases hm with rfl | ⟨ti,vs,F,b,off,h1,h0,rfl,h2,h3,h4⟩
     ·cases ad with
      | none=>exact run_convert_bytes_nil w src e' hsu heu.1 _ _ dst hdu
      | some ad=>exact run_convert_bytes_back w src dst e' ad cap [] hsu heu.1 hdu (fun j hj=>by simp at hj)
     ·obtain rfl:=Option.some.inj (hte.symm.trans h1)
      have h3':RdV ty w [.i .u8] l vs F:=heu.2 ▸ h3
      have hvs:=j4v h3'
      have:=run_convert_bytes_arg (P:=P) w src e' hsu heu.1 b off l.length cap (l.map fun x=>(x.getD 0 d0).ii) (by simp) (fun i hi=>by
       refine h2 i _ ?_
       rw [hvs,List.getElem?_map,List.getD_eq_getElem?_getD]
       simp [hi]) dst hdu
      rw [this]
      simp [strOfNums,KH]
    ·simp at e
   ·rename_i hte hsl
    split at e
    ·simp only [j8,ji] at e
     obtain ⟨_,rfl,rfl⟩:=e
     have heu:=j30 hty hte rfl
     refine ⟨rfl,fin (.string ⟨([]:List UInt8).toArray⟩) ?_ rfl⟩
     rw [show a.eval x=_ from rx]
     exact run_convert_bytes_nil w src el hsu heu.1 _ _ dst hdu
    ·simp at e
   ·simp at e
  ·simp at e
 ·simp at e
end
section
variable {P:Program} {ty:Nat → Option TI} {A:An} {g:Gh} {tm:List C} {H:List HS} {a:Act} {w:World} {o:Oper} {Q:Exit → Act → World → Prop}
theorem j3y (x:Operand) (ho:o.op = .nilCheck x) (h:Rel ty A g ⟨tm,H⟩ a w) {id off t:Nat} {cs:List S} (hx:opd tm x = .one (.ptr id off)) (hv:jp H id = .live (.var t cs)) :
  o.wp P a w (pD ty A g H w ⟨ka tm o.dst (.one (.ptr id off)),H⟩) Q:=by
 have rx:=h.opd x
 rw [hx] at rx
 have ex:=rx.2.2 ⟨_,_,hv⟩
 exact jV (v:=a.eval x) (w':=w) (by simp [execOp,ho,ex]) (kR h rx)
theorem j2M {P:Program} (b off:Nat) (f:Go.Field) (w:World) {n:Nat} (hi:∃ inf,P.info? f.type=some inf ∧ inf.size=n) (h0:0 < n) :
  (fieldPlace ⟨b,off,none⟩ f).run P w = .ok ⟨b,off + f.offset,none⟩ w:=by
 obtain ⟨inf,hi,hs⟩:=hi
 have:¬ inf.size=0:=by omega
 simp [fieldPlace,Jk hi,this,Addr.add_lit]
theorem Qm (hty:y9 P ty) (t:TypeId) (x:Operand) (j:Nat) (ho:o.op = .fieldAddr t x j) (h:Rel ty A g ⟨tm,H⟩ a w) {ti:TI} (ht:ty t=some ti) (hst:jQ (some ti)=true)
  {off n:Nat} {ag:Bool} (hj:ti.flds[j]? = some (off,n,ag)) (h0:0 < n) {c:C}
  (hc:(∃ id o' t' cs,opd tm x = .one (.ptr id o') ∧ jp H id = .live (.var t' cs) ∧ c = .one (.ptr id (o' + off))) ∨ (∃ e y o',opd tm x = .elS e y o' ∧ c = .elS e y (o' + off)) ∨
   (∃ e id ix o' e' l,opd tm x = .elO e id ix o' ∧ jp H id = .live (.row e' l) ∧ c = .elO e id ix (o' + off))) :
  o.wp P a w (pD ty A g H w ⟨ka tm o.dst c,H⟩) Q:=by
 have rx:=h.opd x
 obtain ⟨fs,hu,hn,hf⟩:=j1f hty ht hst
 have hjl:j < ti.flds.length:=by
  rcases jA j ti.flds.length with h' | h'
  ·exact h'
  ·simp [List.getElem?_eq_none h'] at hj
 have hfj:fs[j]? = some fs[j]:=Array.getElem?_eq_getElem (by omega)
 have hok:=hf j _ _ hfj hj
 have fin:∀ (b o':Nat),a.eval x = .pointer (some ⟨b,o',none⟩) → CR ty g H w c (.pointer (some ⟨b,o' + off,none⟩)) → o.wp P a w (pD ty A g H w ⟨ka tm o.dst c,H⟩) Q:=by
  intro b o' he hcr
  refine jV (v:=.pointer (some ⟨b,o' + off,none⟩)) (w':=w) ?_ (kR h hcr)
  have:fs[j].offset=off:=hok.off
  simp [execOp,ho,Instr.fieldAt,run_underlying hu,hfj,he,Instr.sureAddr,j2M _ _ _ _ hok.size h0,this]
 rcases hc with ⟨id,o',t',cs,hx,hv,rfl⟩ | ⟨e,y,o',hx,rfl⟩ | ⟨e,id,ix,o',e',l,hx,hv,rfl⟩
 ·rw [hx] at rx
  exact fin _ _ (rx.2.2 ⟨_,_,hv⟩) ⟨rx.1,rfl,fun hr=>by
   obtain ⟨t2,cs2,hr⟩:=hr
   rfl⟩
 ·rw [hx] at rx
  obtain ⟨ti',b,o2,vs,F,h1,h2,h3,h4,h5,h6⟩:=rx
  exact fin _ _ h2 ⟨ti',b,o2,vs,F,h1,by rw [Nat.add_assoc],h3,h4,h5,h6⟩
 ·rw [hx] at rx
  obtain ⟨ti',b,len,cap,h1,h2,h3,h4⟩:=rx.2 ⟨_,_,.inl hv⟩
  exact fin _ _ h4 ⟨rx.1,fun _=>⟨ti',b,len,cap,h1,h2,h3,by rw [Nat.add_assoc]⟩⟩
theorem j9r {P:Program} {f n:Nat} {ag:Bool} (hok:∃ d,P.underlying f=some d ∧ Xl d=ag) (hi:∃ inf,P.info? f=some inf ∧ inf.size=n) (vs:List Value) (off:Nat)
  (hfit:off + n ≤ vs.length) (h0:0 < n) (w:World) :
  (part f vs.toArray off).run P w = .ok (if ag then .agg ((vs.drop off).take n).toArray else ((vs.drop off).take n).headD undef) w:=by
 obtain ⟨d,hd,hs⟩:=hok
 obtain ⟨inf,hi,hsz⟩:=hi
 unfold part
 rw [Sem.run_bind,YP hd,Result.andThen_ok,hs]
 cases ag with
 | true =>
  simp [Jk hi,hsz,List.extract_eq_take_drop]
 | false =>
  have h1:vs[off]? = some vs[off]:=List.getElem?_eq_getElem (by omega)
  have h2:((vs.drop off).take n).headD undef=vs[off]:=by
   cases n with
   | zero=>omega
   | succ m =>
    rw [List.drop_eq_getElem_cons (by omega)]
    rfl
  simp only [List.getElem?_toArray,h1,h2]
  simp
theorem j6R (hty:y9 P ty) (t:TypeId) (x:Operand) (j:Nat) (ho:o.op = .field t x j) (h:Rel ty A g ⟨tm,H⟩ a w) {ti:TI} (ht:ty t=some ti) (hst:jQ (some ti)=true)
  {off n:Nat} {ag:Bool} (hj:ti.flds[j]? = some (off,n,ag)) (h0:0 < n) {l:List S} (hx:opd tm x = .agg l) (hfit:off + n ≤ l.length) :
  o.wp P a w (pD ty A g H w ⟨ka tm o.dst (mkC ag ((l.drop off).take n)),H⟩) Q:=by
 have rx:=h.opd x
 rw [hx] at rx
 obtain ⟨vs,hv,hs⟩:=rx
 obtain ⟨fs,hu,hn,hf⟩:=j1f hty ht hst
 have hjl:j < ti.flds.length:=by
  rcases jA j ti.flds.length with h' | h'
  ·exact h'
  ·simp [List.getElem?_eq_none h'] at hj
 have hfj:fs[j]? = some fs[j]:=Array.getElem?_eq_getElem (by omega)
 have hok:=hf j _ _ hfj hj
 have e1:fs[j].offset=off:=hok.off
 have:=hs.length
 refine jV (v:=if ag then .agg ((vs.drop off).take n).toArray else ((vs.drop off).take n).headD undef) (w':=w) ?_ (kR h (j9N ((hs.drop off).take n)))
 simp [execOp,ho,Instr.field,run_underlying hu,hfj,hv,asAgg,e1,j9r (n:=n) (ag:=ag) hok.agg hok.size vs off (by omega) h0]
theorem j9u {ti:TI} {e:Nat} {l:List (List DC)} {vs:List Value} {F:List Nat} {b off:Nat} (h1:ty e=some ti)
  (h2:∀ (j:Nat) (u:Value),vs[j]? = some u → w.cell? ⟨b,off + j,none⟩=some u) (h3:RdV ty w ti.cts l vs F) (h4:∀ c ∈ F,g.I c) (hb:g.I b) (ix:Nat) (hix:ix < l.length) :
  CR ty g H w (.elS e (l.getD ix []) 0) (.pointer (some ⟨b,off + ix * ti.cts.length,none⟩)):=by
 obtain ⟨u,G,q1,q2,q3⟩:=h3.at ix hix
 refine ⟨ti,b,off + ix * ti.cts.length,u,G,h1,rfl,fun j x hx=>?_,q1,fun c hc=>h4 c (q2 c hc),hb⟩
 have hj:j < ti.cts.length:=by
  have:=(RdL.length q1).1
  rcases jA j u.length with h' | h'
  ·omega
  ·simp [List.getElem?_eq_none h'] at hx
 rw [Nat.add_assoc]
 exact h2 _ x (by rw [q3 j hj]; exact hx)
theorem j5K {P:Program} {t e:Nat} (hu:P.underlying t=some (.slice e)) {inf:TypeInfo} (hi:P.info? e=some inf) (b off n cap:Nat) (k:IntKind) (i:Int) (h:0 ≤ i ∧ i < (n:Int)) (w:World) :
  (Instr.indexAt t (.slice (some ⟨b,off,none⟩) n cap) (.int k i)).run P w = .ok (.pointer (some ⟨b,off + i.toNat * inf.size,none⟩)) w:=by
 simp [Instr.indexAt,asIntOf,run_underlying hu,h.1,h.2,Jk hi,Addr.add_lit]
theorem j2H (hty:y9 P ty) (t:TypeId) (x i:Operand) (ho:o.op = .indexAddr t x i) (h:Rel ty A g ⟨tm,H⟩ a w) {e0:Nat} (ht:Jc (ty t)=some e0) {cl:Cls} {c:C}
  (e:yH (ρ:=Option (Cls × C)) none e0 ⟨tm,H⟩ (opd tm x) (opd tm i) (fun cl c=>some (cl,c))=some (cl,c)) :
  o.wp P a w (pD ty A g H w ⟨ka tm o.dst c,H⟩) Q:=by
 have hu:=Kk hty ht
 unfold yH at e
 have rx:=h.opd x
 have ri:=h.opd i
 split at e
 ·rename_i k n hi
  rw [hi] at ri
  have ei:a.eval i = .int k n:=ri
  have fin:∀ (ti:TI) (b off len cap:Nat),ty e0=some ti → a.eval x = .slice (some ⟨b,off,none⟩) len cap → 0 ≤ n → n < (len:Int) →
    CR ty g H w c (.pointer (some ⟨b,off + n.toNat * ti.cts.length,none⟩)) → o.wp P a w (pD ty A g H w ⟨ka tm o.dst c,H⟩) Q:=by
   intro ti b off len cap h1 h2 h3 h4 h5
   obtain ⟨inf,z,hinf,hsz,_⟩:=(hty e0 ti h1).info
   refine jV (v:=.pointer (some ⟨b,off + n.toNat * ti.cts.length,none⟩)) (w':=w) ?_ (kR h h5)
   rw [← hsz]
   simp [execOp,ho,h2,ei,j5K hu hinf b off len cap k n ⟨h3,h4⟩]
  have fz:∀ (l:List (List DC)) (F:List Nat),RdC ty w (.sl e0) (.sl l) (a.eval x) F → (∀ b ∈ F,g.I b) → 0 ≤ n → n < (l.length:Int) → c = .elS e0 (l.getD n.toNat []) 0 →
    o.wp P a w (pD ty A g H w ⟨ka tm o.dst c,H⟩) Q:=by
   intro l F h1 h2 h3 h4 h5
   generalize hv:a.eval x=v at h1
   cases h1 with
   | nil=>simp at h4; omega
   | sl _ ti b off len cap _ vs F' k1 k0 k2 k3 k4 k5 k6 =>
    rw [h5] at fin ⊢
    exact fin ti b off len cap k1 hv h3 (by omega) (j9u k1 k5 k6 (fun c hc=>h2 c (by simp [hc])) (h2 b (by simp)) _ (by omega))
  split at e
  ·rename_i e' l hx
   rw [hx] at rx
   split at e
   ·rename_i hc
    obtain ⟨rfl,hc⟩:=hc
    obtain ⟨F,h1,h2⟩:=rx
    simp only [j8,ji] at e
    exact fz l F h1 h2 hc.1 hc.2 e.2.symm
   ·simp at e
  ·rename_i id hx
   rw [hx] at rx
   split at e
   ·rename_i e' l hr
    split at e
    ·rename_i hc
     obtain ⟨rfl,hc⟩:=hc
     simp only [j8,ji] at e
     obtain ⟨ti,vs,F,h1,h0,h2,h3,h4,h5⟩:=h.ob id _ hr
     have hv:=rx.2.2 ⟨_,_,.inl hr⟩
     rcases h2.2 with ⟨_,hn⟩ | ⟨b,cap,cur,hval,_⟩
     ·omega
     ·have:=fin ti b 0 l.length cap h1 (hv.trans hval) hc.1 hc.2
      rw [← e.2] at this ⊢
      exact this ⟨qj hr,fun _=>⟨ti,b,l.length,cap,h1,hval,by omega,by simp⟩⟩
    ·simp at e
   ·rename_i e' l hr
    split at e
    ·rename_i hc
     obtain ⟨rfl,hc⟩:=hc
     simp only [j8,ji] at e
     obtain ⟨F,h1,h2⟩:=h.ob id _ hr
     exact fz l F (by rw [rx.2.2 ⟨_,_,.inr (.inl hr)⟩]; exact h1) h2 hc.1 hc.2 e.2.symm
    ·simp at e
   ·rename_i e' l ix' hr
    split at e
    ·rename_i hc
     obtain ⟨rfl,hc⟩:=hc
     simp only [j8,ji] at e
     obtain ⟨_,_,ti,vs,F1,F2,h1,h0,h2,_⟩:=h.ob id _ hr
     have hv:=rx.2.2 ⟨_,_,.inr (.inr (.inr ⟨_,hr⟩))⟩
     rcases h2.2 with ⟨_,hn⟩ | ⟨b,cap,cur,hval,_⟩
     ·omega
     ·have:=fin ti b 0 l.length cap h1 (hv.trans hval) hc.1 hc.2
      rw [← e.2] at this ⊢
      exact this ⟨qj hr,fun _=>⟨ti,b,l.length,cap,h1,hval,by omega,by simp⟩⟩
    ·simp at e
   ·simp at e
  ·simp at e
 ·simp at e
theorem j6Q (hty:y9 P ty) (t:TypeId) (x i:Operand) (ho:o.op = .index t x i) (h:Rel ty A g ⟨tm,H⟩ a w) {ti:TI} (ht:ty t=some ti) (hk:ti.kd = .str) {l:List UInt8} {k:IntKind} {n:Int}
  (hx:opd tm x = .one (.str l)) (hi:opd tm i = .one (.int k n)) (hc:0 ≤ n ∧ n < (l.length:Int)) :
  o.wp P a w (pD ty A g H w ⟨ka tm o.dst (.one (.int .u8 ((l.getD n.toNat 0).toNat:Int))),H⟩) Q:=by
 have rx:=h.opd x
 have ri:=h.opd i
 rw [hx] at rx
 rw [hi] at ri
 have ex:a.eval x = .string ⟨l.toArray⟩:=rx
 have ei:a.eval i = .int k n:=ri
 have hs:(ByteArray.mk l.toArray).size=l.length:=by simp [ByteArray.size]
 have hn:n.toNat < l.length:=by omega
 refine jV (v:=.int .u8 ((l.getD n.toNat 0).toNat:Int)) (w':=w) ?_ (kR h rfl)
 have hg:(ByteArray.mk l.toArray)[n.toNat]'(by rw [hs]; exact hn)=l.getD n.toNat 0:=by
  rw [List.getD_eq_getElem?_getD,List.getElem?_eq_getElem hn]
  rfl
 simp only [execOp,ho,ex,ei]
 rw [Sem.run_bind,run_index_string w t _ k n (ZG hty ht hk),dif_pos (by rw [hs]; exact hc),hg]
 rfl
theorem j4M (x:Operand) (j:Nat) (ho:o.op = .extract x j) (h:Rel ty A g ⟨tm,H⟩ a w) {l:List (Bool × List S)} {ag:Bool} {ss:List S} (hx:opd tm x = .tup l) (hj:l[j]? = some (ag,ss)) :
  o.wp P a w (pD ty A g H w ⟨ka tm o.dst (mkC ag ss),H⟩) Q:=by
 have rx:=h.opd x
 rw [hx] at rx
 obtain ⟨vs,h1,h2,h3⟩:=rx
 have hjl:j < vs.length:=by
  rw [h2]
  rcases jA j l.length with h' | h'
  ·exact h'
  ·simp [List.getElem?_eq_none h'] at hj
 have hv:vs[j]? = some vs[j]:=List.getElem?_eq_getElem hjl
 obtain ⟨h4,h5⟩:=h3 j ag ss _ hj hv
 refine jV (v:=vs[j]) (w':=w) (by simp [execOp,ho,Instr.extract,h1,hv]) (kR h ?_)
 cases ag with
 | true =>
  obtain ⟨us,h6,h7⟩:=h4 rfl
  rw [h6]
  exact ⟨us,rfl,h7⟩
 | false=>exact h5 rfl
theorem KG {P:Program} {ρ:Operand → Value} {o:Oper} {c:Call} {b:Builtin} (ho:o.op = .call c) (hc:c.callee = .builtin b) (w:World) :
  ∃ consts,(execOp ρ o).run P w=(builtin b c.argTypes o.type consts (c.args.map ρ)).run P w:=by
 simp only [execOp,ho,resolve,hc,invoke,Sem.run_bind,Sem.run_pure,Result.andThen_ok]
 exact ⟨_,rfl⟩
theorem Y7 (h:Rel ty A g ⟨tm,H⟩ a w):∀ (l:List Operand) (cs:List C),yE tm l=cs → ∃ vs:List Value,l.map a.eval=vs ∧ vs.length=cs.length ∧ ∀ (i:Nat) (c:C) (v:Value),cs[i]? = some c → vs[i]? = some v → CR ty g H w c v
 | [],_,rfl=>⟨[],rfl,rfl,fun i c v h=>by simp [yE] at h⟩
 | x :: l,_,rfl=>by
  obtain ⟨vs,h1,h2,h3⟩:=Y7 h l _ rfl
  refine ⟨a.eval x :: vs,by simp [h1],by simp [yE,h2],fun i c v hi hv=>?_⟩
  cases i with
  | zero =>
   simp only [yE,List.getElem?_cons_zero,j8] at hi hv
   subst hi
   subst hv
   exact h.opd x
  | succ i =>
   simp only [yE,List.getElem?_cons_succ] at hi hv
   exact h3 i c v hi hv
theorem jal (h:Rel ty A g ⟨tm,H⟩ a w) {args:Array Operand} {c:C} (he:yE tm args.toList=[c]):∃ v,args.map a.eval = #[v] ∧ CR ty g H w c v:=by
 obtain ⟨vs,h1,h2,h3⟩:=Y7 h args.toList _ he
 match vs,h2 with
 | [v],_ =>
  refine ⟨v,?_,h3 0 c v rfl rfl⟩
  apply Array.toList_inj.1
  simpa using h1
theorem Yo (h:Rel ty A g ⟨tm,H⟩ a w) {args:Array Operand} {c d:C} (he:yE tm args.toList=[c,d]):∃ u v,args.map a.eval = #[u,v] ∧ CR ty g H w c u ∧ CR ty g H w d v:=by
 obtain ⟨vs,h1,h2,h3⟩:=Y7 h args.toList _ he
 match vs,h2 with
 | [u,v],_ =>
  refine ⟨u,v,?_,h3 0 c u rfl rfl,h3 1 d v rfl rfl⟩
  apply Array.toList_inj.1
  simpa using h1
theorem j6U (h:Rel ty A g ⟨tm,H⟩ a w) {s:S} {v:Value} {e:Nat} {l:List (List DC)} (hs:SR ty g H w s v) (e1:za H s=some (e,l)):∃ ad cap,v = .slice ad l.length cap:=by
 rcases Zz h hs e1 with h1 | ⟨ti,vs,F,id,_,_,_,h1⟩
 ·obtain ⟨ad,cap,hv,_⟩:=VI (.inl h1)
  exact ⟨ad,cap,hv⟩
 ·obtain ⟨ad,cap,hv,_⟩:=VI (.inr ⟨ti,vs,F,h1⟩)
  exact ⟨ad,cap,hv⟩
theorem j9t (h:Rel ty A g ⟨tm,H⟩ a w) {id:Nat} {v:Value} {e:Nat} {l:List (List DC)} (hs:SR ty g H w (.own id) v) (hr:jp H id = .live (.row e l)):∃ ad cap,v = .slice ad l.length cap:=by
 obtain ⟨ti,vs,F,h1,h0,h2,h3,h4,h5⟩:=h.ob id _ hr
 rw [hs.2.2 ⟨_,_,.inl hr⟩]
 rcases h2.2 with ⟨hv,hn⟩ | ⟨k,cap,cur,hv,_⟩
 ·exact ⟨none,0,by rw [hv,hn]⟩
 ·exact ⟨_,_,hv⟩
theorem jaX (h:Rel ty A g ⟨tm,H⟩ a w) {id:Nat} {v:Value} {e:Nat} {l:List (List DC)} (hs:SR ty g H w (.own id) v) (hr:jp H id = .live (.fz e l)):∃ ad cap,v = .slice ad l.length cap:=by
 obtain ⟨F,h1,h2⟩:=h.ob id _ hr
 rw [hs.2.2 ⟨_,_,.inr (.inl hr)⟩]
 obtain ⟨ad,cap,hv,_⟩:=VI (.inl ⟨F,h1,h2⟩)
 exact ⟨ad,cap,hv⟩
theorem j9i (hty:y9 P ty) {c:Call} (ho:o.op = .call c) (hb:c.callee = .builtin .len) {t:TypeId} (hat:c.argTypes.toList=[t]) {x r:C} {ti:TI} {cl:Cls} (h:Rel ty A g ⟨tm,H⟩ a w) (ht:ty t=some ti)
  (hx:yE tm c.args.toList=[x])
  (hk:(ti.kd = .str ∧ ∃ l,x = .one (.str l)) ∨ ((∃ e,ti.kd = .slice e) ∧ ∀ l,x ≠ .one (.str l)))
  (e:Jq (ρ:=Option (Cls × C)) none ⟨tm,H⟩ x (fun cl c=>some (cl,c))=some (cl,r)) :
  o.wp P a w (pD ty A g H w ⟨ka tm o.dst r,H⟩) Q:=by
 obtain ⟨v,hv,rv⟩:=jal h hx
 have hat':c.argTypes = #[t]:=by apply Array.toList_inj.1; simpa using hat
 have fin:∀ n:Nat,(Builtin.len_ #[t] o.type #[v]).run P w = .ok (.int .i64 (n:Int)) w → r = .one (.int .i64 (n:Int)) → o.wp P a w (pD ty A g H w ⟨ka tm o.dst r,H⟩) Q:=by
  intro n hr hn
  refine jV (v:=.int .i64 (n:Int)) (w':=w) ?_ (kR h (by rw [hn]; rfl))
  obtain ⟨cs,hcs⟩:=KG (ρ:=a.eval) ho hb w
  rw [hcs,hv,hat']
  simp only [builtin]
  rw [Sem.run_bind,hr]
  rfl
 have sl:∀ (e:Nat) (ad:Option Addr) (n cap:Nat),ti.kd = .slice e → v = .slice ad n cap → (Builtin.len_ #[t] o.type #[v]).run P w = .ok (.int .i64 (n:Int)) w:=by
  intro e ad n cap hk hv
  simp [Builtin.len_,run_underlying (j0l hty ht hk),hv,goInt]
 unfold Jq at e
 split at e
 ·rename_i l
  simp only [j8,ji] at e
  have ev:v = .string ⟨l.toArray⟩:=rv
  rcases hk with ⟨hk,_⟩ | ⟨_,hk⟩
  ·refine fin l.length ?_ e.2.symm
   rw [ev,run_len_string w t _ _ (ZG hty ht hk)]
   simp [goInt,ByteArray.size]
  ·exact absurd rfl (hk l)
 ·simp only [j8,ji] at e
  rcases hk with ⟨_,l,hk⟩ | ⟨⟨e',hk⟩,_⟩
  ·simp at hk
  ·exact fin 0 (sl e' none 0 0 hk rv) e.2.symm
 ·rename_i e1 l
  simp only [j8,ji] at e
  rcases hk with ⟨_,l,hk⟩ | ⟨⟨e',hk⟩,_⟩
  ·simp at hk
  ·obtain ⟨ad,cap,hv⟩:=j6U h (s:=.sl e1 l) rv rfl
   exact fin l.length (sl e' ad _ cap hk hv) e.2.symm
 ·rename_i id
  split at e
  ·rename_i e1 l hsl
   simp only [j8,ji] at e
   rcases hk with ⟨_,l,hk⟩ | ⟨⟨e',hk⟩,_⟩
   ·simp at hk
   ·obtain ⟨ad,cap,hv⟩:=j9t h rv hsl
    exact fin l.length (sl e' ad _ cap hk hv) e.2.symm
  ·rename_i e1 l hsl
   simp only [j8,ji] at e
   rcases hk with ⟨_,l,hk⟩ | ⟨⟨e',hk⟩,_⟩
   ·simp at hk
   ·obtain ⟨ad,cap,hv⟩:=jaX h rv hsl
    exact fin l.length (sl e' ad _ cap hk hv) e.2.symm
  ·simp at e
 ·simp at e
theorem j9g {c:Call} (ho:o.op = .call c) (hb:c.callee = .builtin .min) {k k':IntKind} {m n:Int} (h:Rel ty A g ⟨tm,H⟩ a w) (hx:yE tm c.args.toList=[.one (.int k m),.one (.int k' n)]) :
  o.wp P a w (pD ty A g H w ⟨ka tm o.dst (.one (.int k (if n < m then n else m))),H⟩) Q:=by
 obtain ⟨u,v,hv,ru,rv⟩:=Yo h hx
 have eu:u = .int k m:=ru
 have ev:v = .int k' n:=rv
 refine jV (v:=.int k (if n < m then n else m)) (w':=w) ?_ (kR h rfl)
 obtain ⟨cs,hcs⟩:=KG (ρ:=a.eval) ho hb w
 rw [hcs,hv,eu,ev]
 simp [builtin,Builtin.min_,Builtin.min2]
theorem j9h {c:Call} (ho:o.op = .call c) (hb:c.callee = .builtin .max) {k k':IntKind} {m n:Int} (h:Rel ty A g ⟨tm,H⟩ a w) (hx:yE tm c.args.toList=[.one (.int k m),.one (.int k' n)]) :
  o.wp P a w (pD ty A g H w ⟨ka tm o.dst (.one (.int k (if m < n then n else m))),H⟩) Q:=by
 obtain ⟨u,v,hv,ru,rv⟩:=Yo h hx
 have eu:u = .int k m:=ru
 have ev:v = .int k' n:=rv
 refine jV (v:=.int k (if m < n then n else m)) (w':=w) ?_ (kR h rfl)
 obtain ⟨cs,hcs⟩:=KG (ρ:=a.eval) ho hb w
 rw [hcs,hv,eu,ev]
 simp [builtin,Builtin.max_,Builtin.max2]
theorem j7X (h:Rel ty A g ⟨tm,H⟩ a w):∀ (l:List Operand) (ids:List Nat),(yE tm l).mapM (fun c=>match c with | C.one (.ptr id 0)=>some id | _=>none)=some ids →
  (l.map a.eval).length=ids.length ∧ ∀ (i id:Nat),ids[i]? = some id → nf H id ∧ (kN H id → (l.map a.eval)[i]? = some (.pointer (some ⟨g.blk id,0,none⟩)))
 | [],ids,e=>by
  simp [yE] at e
  subst e
  exact ⟨rfl,fun i id h=>by simp at h⟩
 | x :: l,ids,e=>by
  simp only [yE,List.mapM_cons,Option.bind_eq_bind] at e
  have rx:=h.opd x
  split at e
  ·rename_i id hx
   rw [hx] at rx
   cases hm:(yE tm l).mapM (fun c=>match c with | C.one (.ptr id 0)=>some id | _=>none) with
   | none=>rw [hm] at e; simp at e
   | some ids' =>
    rw [hm] at e
    simp at e
    subst e
    obtain ⟨h1,h2⟩:=j7X h l ids' hm
    refine ⟨by simpa using h1,fun i id' hi=>?_⟩
    cases i with
    | zero =>
     simp only [List.getElem?_cons_zero,j8] at hi
     subst hi
     exact ⟨rx.1,fun hv=>by simp [rx.2.2 hv]⟩
    | succ i =>
     simp only [List.getElem?_cons_succ] at hi
     simpa using h2 i id' hi
  ·simp at e
theorem j3z (f:FuncId) (first captured:Array Operand) (ho:o.op = .makeFunc (.func f) first captured) (hf:first.toList=[]) (h:Rel ty A g ⟨tm,H⟩ a w) {ids:List Nat}
  (e:(yE tm captured.toList).mapM (fun c=>match c with | C.one (.ptr id 0)=>some id | _=>none)=some ids) :
  o.wp P a w (pD ty A g H w ⟨ka tm o.dst (.one (.fn f ids)),H⟩) Q:=by
 obtain ⟨h1,h2⟩:=j7X h _ _ e
 have hf':first = #[]:=by apply Array.toList_inj.1; simpa using hf
 refine jV (v:=.func (.func f) #[] (captured.map a.eval)) (w':=w) (by simp [execOp,ho,Instr.makeFunc,hf']) (kR h ?_)
 refine ⟨captured.map a.eval,rfl,by simpa using h1,fun i id hi=>?_⟩
 obtain ⟨h3,h4⟩:=h2 i id hi
 exact ⟨h3,fun hv=>by simpa using h4 hv⟩
end
section
variable {P:Program} {ty:Nat → Option TI} {A:An} {g:Gh} {tm:List C} {H:List HS} {a:Act} {w:World} {o:Oper} {Q:Exit → Act → World → Prop}
theorem YX {α ρ:Type} {lo hi:Option C} {l:List α} {k:List α → Option ρ} {r:ρ} (e:Yi none lo hi l k=some r) :
  ∃ m n:Nat,m ≤ n ∧ n ≤ l.length ∧ k ((l.take n).drop m)=some r ∧ ((lo=none ∧ m=0) ∨ ∃ kd,lo=some (.one (.int kd (m:Int)))) ∧ ((hi=none ∧ n=l.length) ∨ ∃ kd,hi=some (.one (.int kd (n:Int)))):=by
 unfold Yi at e
 split at e
 ·exact ⟨0,l.length,Nat.zero_le _,Nat.le_refl _,by simpa using e,.inl ⟨rfl,rfl⟩,.inl ⟨rfl,rfl⟩⟩
 ·rename_i kd m
  split at e
  ·rename_i hc
   exact ⟨m.toNat,l.length,by omega,Nat.le_refl _,by simpa using e,.inr ⟨kd,by rw [Int.toNat_of_nonneg hc.1]⟩,.inl ⟨rfl,rfl⟩⟩
  ·simp at e
 ·rename_i kd n
  split at e
  ·rename_i hc
   exact ⟨0,n.toNat,Nat.zero_le _,by omega,by simpa using e,.inl ⟨rfl,rfl⟩,.inr ⟨kd,by rw [Int.toNat_of_nonneg hc.1]⟩⟩
  ·simp at e
 ·rename_i kd m kd' n
  split at e
  ·rename_i hc
   exact ⟨m.toNat,n.toNat,by omega,by omega,e,.inr ⟨kd,by rw [Int.toNat_of_nonneg hc.1]⟩,.inr ⟨kd',by rw [Int.toNat_of_nonneg (by omega)]⟩⟩
  ·simp at e
 ·simp at e
theorem j2N {P:Program} (sl:Bool) (len cap m n:Nat) (lo hi:Option Value) (h1:m ≤ n) (h2:n ≤ len) (h3:len ≤ cap)
  (hl:(lo=none ∧ m=0) ∨ ∃ kd,lo=some (.int kd (m:Int))) (hh:(hi=none ∧ n=len) ∨ ∃ kd,hi=some (.int kd (n:Int))) (w:World) :
  (Instr.sliceBounds sl len cap lo hi none).run P w = .ok (m,n,cap) w:=by
 have a1:(m:Int) ≤ (n:Int):=by omega
 have a2:(n:Int) ≤ (cap:Int):=by omega
 rcases hl with ⟨rfl,rfl⟩ | ⟨kl,rfl⟩ <;> rcases hh with ⟨rfl,rfl⟩ | ⟨kh,rfl⟩ <;>
  simp [Instr.sliceBounds,run_sliceBound,a1,a2]
theorem j0k (h:Rel ty A g ⟨tm,H⟩ a w) {lo:Option Operand} {m:Nat} {d:Nat} (hl:(lo.map (opd tm)=none ∧ m=d) ∨ ∃ kd,lo.map (opd tm)=some (.one (.int kd (m:Int)))) :
  (lo.map a.eval=none ∧ m=d) ∨ ∃ kd,lo.map a.eval=some (.int kd (m:Int)):=by
 cases lo with
 | none =>
  rcases hl with ⟨_,hl⟩ | ⟨_,hl⟩
  ·exact .inl ⟨rfl,hl⟩
  ·simp at hl
 | some x =>
  rcases hl with ⟨hl,_⟩ | ⟨kd,hl⟩
  ·simp at hl
  ·simp only [Option.map_some,j8] at hl ⊢
   have:=h.opd x
   rw [hl] at this
   exact .inr ⟨kd,this⟩
theorem jbR {e:Nat} {ti:TI} {l:List (List DC)} {v:Value} {F:List Nat} (hr:RdC ty w (.sl e) (.sl l) v F) (ht:ty e=some ti) {m n:Nat} (h1:m ≤ n) (h2:n ≤ l.length) :
  ∃ ad cap,v = .slice ad l.length cap ∧ (l.length ≤ cap) ∧ ∃ F',RdC ty w (.sl e) (.sl ((l.take n).drop m)) (sliced ad m n cap ti.cts.length) F' ∧ ∀ b ∈ F',b ∈ F:=by
 cases hr with
 | nil =>
  rename_i ad cap
  simp at h2
  obtain rfl:n=0:=h2
  obtain rfl:m=0:=by omega
  refine ⟨ad,cap,rfl,Nat.zero_le _,[],?_,fun _ h=>by cases h⟩
  simp only [List.take_nil,List.drop_nil,sliced,Nat.sub_self]
  exact .nil _ _ _
 | sl _ ti' b off k cap _ vs F k1 k0 k2 k3 k4 k5 k6 =>
  obtain rfl:ti=ti':=by rw [ht] at k1; exact Option.some.inj k1
  subst k2
  refine ⟨_,_,rfl,k4,?_⟩
  by_cases hmn:m=n
  ·subst hmn
   refine ⟨[],?_,fun _ h=>by cases h⟩
   have:(l.take m).drop m=[]:=by apply List.drop_of_length_le; simp; omega
   rw [this,sliced,Nat.sub_self]
   exact .nil _ _ _
  ·obtain ⟨F1,r1,i1⟩:=k6.take n
   obtain ⟨F2,r2,i2⟩:=r1.drop m
   have hne:(l.take n).drop m ≠ []:=by
    intro h
    have:=congrArg List.length h
    simp at this
    omega
   refine ⟨b :: F2,?_,fun c hc=>?_⟩
   ·have hcap:¬ cap=m:=by omega
    simp only [sliced,if_neg hcap,Option.map_some,Addr.add_lit]
    refine .sl e ti b _ _ _ _ _ F2 ht k0 (by simp; omega) hne (by omega) (fun j v hj=>?_) r2
    rw [List.getElem?_drop] at hj
    have:v=v ∧ vs[m * ti.cts.length + j]? = some v:=by
     refine ⟨rfl,?_⟩
     rw [List.getElem?_take] at hj
     split at hj
     ·exact hj
     ·simp at hj
    rw [Nat.add_assoc]
    exact k5 _ v this.2
   ·rcases List.mem_cons.1 hc with rfl | hc
    ·simp
    ·simp [i1 c (i2 c hc)]
theorem j3D {P:Program} {t e:Nat} (hu:P.underlying t=some (.slice e)) {inf:TypeInfo} (hi:P.info? e=some inf) (ad:Option Addr) (len cap m n:Nat) (lo hi':Option Value) (h1:m ≤ n) (h2:n ≤ len) (h3:len ≤ cap)
  (hl:(lo=none ∧ m=0) ∨ ∃ kd,lo=some (.int kd (m:Int))) (hh:(hi'=none ∧ n=len) ∨ ∃ kd,hi'=some (.int kd (n:Int))) (w:World) :
  (Instr.sliceAt t (.slice ad len cap) lo hi' none).run P w = .ok (sliced ad m n cap inf.size) w:=by
 have he:P.elem t=e:=by simp [Program.elem,hu]
 have hu':P.underlying t=some (.slice (P.elem t)):=by rw [he]; exact hu
 rw [run_sliceAt_slice w t _ _ _ _ hu',run_slice_any w t _ _ _ hu',j2N true len cap m n lo hi' h1 h2 h3 hl hh,Result.andThen_ok,he,Jk hi,Result.andThen_ok]
theorem j6O (hty:y9 P ty) (t:TypeId) (x:Operand) (lo hi:Option Operand) (ho:o.op = .slice t x lo hi none) (h:Rel ty A g ⟨tm,H⟩ a w) {cl:Cls} {H':List HS} {c:C}
  (e:zo (ρ:=Option (Cls × List HS × C)) ty none t ⟨tm,H⟩ (opd tm x) (lo.map (opd tm)) (hi.map (opd tm)) (fun cl H c=>some (cl,H,c))=some (cl,H',c)) :
  o.wp P a w (pD ty A g H w ⟨ka tm o.dst c,H'⟩) Q:=by
 have rx:=h.opd x
 unfold zo at e
 have sl:∀ (ti te:TI) (el:Nat) (g':Gh) (H1:List HS) (l:List (List DC)) (F:List Nat) (m n:Nat),ty t=some ti → ti.kd = .slice el → ty el=some te → Rel ty A g' ⟨tm,H1⟩ a w → (∀ b,g.I b → g'.I b) →
   RdC ty w (.sl el) (.sl l) (a.eval x) F → (∀ b ∈ F,g'.I b) → m ≤ n → n ≤ l.length →
   ((lo.map (opd tm)=none ∧ m=0) ∨ ∃ kd,lo.map (opd tm)=some (.one (.int kd (m:Int)))) → ((hi.map (opd tm)=none ∧ n=l.length) ∨ ∃ kd,hi.map (opd tm)=some (.one (.int kd (n:Int)))) →
   c = .one (.sl el ((l.take n).drop m)) → H'=H1 → o.wp P a w (pD ty A g H w ⟨ka tm o.dst c,H'⟩) Q:=by
  intro ti te el g' H1 l F m n ht hk hte hr hI hrd hF h1 h2 hlo hhi hc hH
  subst hH
  obtain ⟨inf,z,hinf,hsz,_⟩:=(hty el te hte).info
  obtain ⟨ad,cap,hv,hcap,F',r',i'⟩:=jbR hrd hte h1 h2
  refine jV (v:=sliced ad m n cap te.cts.length) (w':=w) ?_ ⟨g',hr.put o.dst (by rw [hc]; exact ⟨F',r',fun b hb=>hF b (i' b hb)⟩),hI⟩
  have:=j3D (j0l hty ht hk) hinf ad l.length cap m n _ _ h1 h2 hcap (j0k h hlo) (j0k h hhi) w
  simp only [execOp,ho,hv,Option.map_none]
  rw [Sem.run_bind,this,hsz]
  rfl
 split at e
 ·rename_i ti ht
  split at e
  ·rename_i l hk hx
   rw [hx] at rx
   have ex:a.eval x = .string ⟨l.toArray⟩:=rx
   obtain ⟨m,n,h1,h2,h3,h4,h5⟩:=YX e
   simp only [j8,ji] at h3
   obtain ⟨_,rfl,rfl⟩:=h3
   have hs:(ByteArray.mk l.toArray).size=l.length:=by simp [ByteArray.size]
   refine jV (v:=.string ⟨((l.take n).drop m).toArray⟩) (w':=w) ?_ (kR h rfl)
   have hu:=ZG hty ht hk
   have hb:=j2N (P:=P) false l.length l.length m n _ _ h1 h2 (Nat.le_refl _) (j0k h h4) (j0k h h5) w
   have hcut:(ByteArray.mk l.toArray).extract m n=⟨((l.take n).drop m).toArray⟩:=by
    apply ByteArray.ext
    apply Array.toList_inj.1
    rw [Lib.extract_data]
    simp [List.drop_take]
   simp only [execOp,ho,ex,Option.map_none]
   rw [Sem.run_bind,run_sliceAt_string w t _ _ _ _ hu]
   simp [Instr.slice,run_underlying hu,hs,hb,hcut]
  ·rename_i el el' l hk hx
   rw [hx] at rx
   split at e
   ·rename_i hee
    obtain ⟨rfl,hte⟩:=hee
    obtain ⟨te,hte⟩:=Option.isSome_iff_exists.1 hte
    obtain ⟨m,n,h1,h2,h3,h4,h5⟩:=YX e
    simp only [j8,ji] at h3
    obtain ⟨_,h3,h3'⟩:=h3
    obtain ⟨F,r1,r2⟩:=rx
    exact sl ti te el' g H l F m n ht hk hte h (fun _ h=>h) r1 r2 h1 h2 h4 h5 h3'.symm h3.symm
   ·simp at e
  ·rename_i el id hk hx
   rw [hx] at rx
   split at e
   ·rename_i e' l hr
    split at e
    ·rename_i hee
     obtain ⟨rfl,hh,hte⟩:=hee
     obtain ⟨te,hte⟩:=Option.isSome_iff_exists.1 hte
     obtain ⟨m,n,h1,h2,h3,h4,h5⟩:=YX e
     simp only [j8,ji] at h3
     obtain ⟨_,h3,h3'⟩:=h3
     obtain ⟨g',r1,c1,F,r2,i2⟩:=h.freeze hr hh
     have hval:=(c1.row id (qj hr) ⟨_,l,.inr (.inl (jt _ (jF hr)))⟩).2
     exact sl ti te _ g' _ l F m n ht hk hte r1 c1.I (by rw [rx.2.2 ⟨_,_,.inl hr⟩,← hval]; exact r2) i2 h1 h2 h4 h5 h3'.symm h3.symm
    ·simp at e
   ·rename_i e' l hr
    split at e
    ·rename_i hee
     obtain ⟨rfl,hte⟩:=hee
     obtain ⟨te,hte⟩:=Option.isSome_iff_exists.1 hte
     obtain ⟨m,n,h1,h2,h3,h4,h5⟩:=YX e
     simp only [j8,ji] at h3
     obtain ⟨_,h3,h3'⟩:=h3
     obtain ⟨F,r1,r2⟩:=h.ob id _ hr
     exact sl ti te e' g H l F m n ht hk hte h (fun _ h=>h) (by rw [rx.2.2 ⟨_,_,.inr (.inl hr)⟩]; exact r1) r2 h1 h2 h4 h5 h3'.symm h3.symm
    ·simp at e
   ·simp at e
  ·simp at e
 ·simp at e
end
section
variable {P:Program} {ty:Nat → Option TI} {A:An} {g:Gh} {tm:List C} {H:List HS} {a:Act} {w:World} {o:Oper} {Q:Exit → Act → World → Prop}
theorem Rel.grow (h:Rel ty A g ⟨tm,H⟩ a w) {base e:Nat} {te:TI} {l:List (List DC)} {v':Value} {vs:List Value} {F:List Nat} {w':World} {vo:Option Nat} (hf:jp H base = .free)
  (hte:ty (yz e)=some te) (h0:0 < te.cts.length) (hg:w.grownBy w' vo)
  (hvo:∀ b,vo=some b → ¬ g.I b ∧ (A.w0.heap.size ≤ b ∨ A.Pm b) ∧ ∀ i p,jp H i = .live p → ¬ jM g i p b)
  (hown:w'.ownsRow 0 (yz e) te.cts.length v' l.length vs) (hrd:RdV ty w te.cts l vs F) (hF:Ve A g H w e F) (hF2:dp e=true → ∀ b ∈ F,vo ≠ some b) (hv':∀ b,v'.ownBlock=some b → vo=some b ∨ w.heap.size ≤ b) :
  ∃ g',Rel ty A g' ⟨tm,jB H base (.live (.row e l))⟩ a w' ∧ Ch g g' H (jB H base (.live (.row e l))) w w' ∧ g'.val base=v':=by
 have hlt:=kM hf
 let g':Gh:={ g with val:=fun i=>if i=base then v' else g.val i,dom:=fun i=>if i=base then (fun b=>b ∈ F) else g.dom i }
 have hdom:∀ b,g'.dom base b ↔ b ∈ F:=fun b=>by simp [g']
 have hval:g'.val base=v':=by simp [g']
 have hnot:∀ b,v'.ownBlock=some b → ¬ g.I b ∧ (A.w0.heap.size ≤ b ∨ A.Pm b) ∧ ∀ i p,jp H i = .live p → ¬ jM g i p b:=by
  intro b hb
  rcases hv' b hb with hb | hb
  ·exact hvo b hb
  ·exact ⟨fun hI=>absurd (h.lt b hI) (by omega),.inl (Nat.le_trans h.keep.size hb),fun i p hi hp=>absurd (h.oblk_lt hi hp) (by omega)⟩
 have hold:∀ b,b < w.heap.size → (∀ c,vo=some c → b ≠ c) → w'.heap[b]? = w.heap[b]?:=fun b hb hne=>hg.block b hb fun e=>hne b e.symm rfl
 have hFw:∀ b ∈ F,w'.heap[b]? = w.heap[b]?:=fun b hb=>by
  cases he:dp e with
  | false =>
   have hI:=(Ve.shallow he).1 hF b hb
   exact hold b (h.lt b hI) fun c hc=>by rintro rfl; exact (hvo b hc).1 hI
  | true =>
   obtain ⟨k1,k2⟩:=(Ve.deep he).1 hF
   obtain ⟨cs,t,hcs⟩:=k1.open' b hb
   exact hold b (J4 hcs) fun c hc e=>hF2 he b hb (by rw [hc,e])
 have hnew:∀ b,zq g' base e b → ¬ g.I b ∧ (A.w0.heap.size ≤ b ∨ A.Pm b) ∧ ∀ i p,jp H i = .live p → ¬ jM g i p b:=fun b hb=>by
  rcases hb with hb | ⟨he,hb⟩
  ·exact hnot b (by rw [← hval]; exact hb)
  ·exact ((Ve.deep he).1 hF).2 b ((hdom b).1 hb)
 have r:=h.upd (id:=base) (x:=.live (.row e l)) (g':=g') (w':=w') hlt (by simp) rfl (fun i hi=>by simp [g',hi]) (fun hn=>absurd hn (kx hf)) (fun hn=>absurd hn (kx hf))
  (fun b hb=>by
   rcases hb with hb | ⟨i,p,_,hi,hb⟩
   ·exact hold b (h.lt b hb) fun c hc=>by rintro rfl; exact (hvo b hc).1 hb
   ·exact hold b (h.oblk_lt hi hb) fun c hc=>by rintro rfl; exact (hvo b hc).2.2 i p hi hb) hg.size
  (fun hch p hp=>by
   obtain rfl:Obj'.row e l=p:=by simpa using hp
   refine ⟨⟨te,vs,F,hte,h0,by rw [hval]; exact hown,.of (hrd.frame hFw),?_,fun b hb=>(hnew b hb).1⟩,fun b hb=>⟨(hnew b hb).1,(hnew b hb).2.1,fun i p _ hi=>(hnew b hb).2.2 i p hi⟩⟩
   cases he:dp e with
   | false =>
    have hI:=(Ve.shallow he).1 hF
    exact (kz.shallow he).2 hI
   | true =>
    obtain ⟨k1,k2⟩:=(Ve.deep he).1 hF
    refine (kz.deep he).2 ⟨k1.frame hFw,hdom,fun b hb hb'=>?_⟩
    rw [hval] at hb'
    rcases hv' b hb' with hb' | hb'
    ·exact hF2 he b hb hb'
    ·obtain ⟨cs,t,hcs⟩:=k1.open' b hb
     have:=J4 hcs
     omega)
  (fun hm _=>absurd (h.nfm base hm) (kx hf))
  (h.keep.trans hg.os hg.tape hg.output hg.size fun b hb hp hm=>hold b (Nat.lt_of_lt_of_le hb h.keep.size) fun c hc=>by
   rintro rfl
   rcases (hvo b hc).2.1 with h1 | h1
   ·omega
   ·exact hm h1)
 exact ⟨g',r.1,r.2,hval⟩
theorem j0a {g':Gh} {H':List HS} {w':World} {base e:Nat} {l:List (List DC)} {v':Value} (hr:Rel ty A g' ⟨tm,H'⟩ a w') (hI:∀ b,g.I b → g'.I b) (hb:jp H' base = .live (.row e l)) (hv:g'.val base=v') (h1:v'.oneCell'=true) :
  pD ty A g H w ⟨ka tm o.dst (.one (.own base)),H'⟩ (a.put o.dst v') w' :=
 ⟨g',hr.put o.dst (c:=.one (.own base)) ⟨qj hb,h1,fun _=>hv.symm⟩,hI⟩
theorem Y6 {w:World} {b e s n:Nat} {v:Value} {xs:List Value} (h:w.ownsRow b e s v n xs):v.oneCell'=true:=by
 rcases h.2 with ⟨rfl,_⟩ | ⟨_,_,_,rfl,_⟩ <;> rfl
theorem Zb {P:Program} {t e:Nat} {oty:TypeId} {inf:TypeInfo} {z:Value} (hu:P.underlying t=some (.slice e)) (hi:P.info? e=some inf) (hz:inf.zero=some z) (hzs:z.cells.size=inf.size) (h0:0 < inf.size)
  (w:World) {v:Value} {n:Nat} {xs:List Value} (hown:w.ownsRow 0 e inf.size v n xs) (ad:Addr) (m c:Nat) (news:List Value) (hl:news.length=m * inf.size)
  (hnews:∀ j u,news[j]? = some u → w.cell? (ad.add j)=some u) (h1:∀ u ∈ news,u.oneCell'=true) (h63:n + m ≤ maxLen) (hbytes:(n + m) * inf.bytes ≤ 140737488355328) :
  ∃ v' w',(Builtin.append_ #[t,t] oty #[v,.slice (some ad) m c]).run P w = .ok v' w' ∧ w'.ownsRow 0 e inf.size v' (n + m) (xs ++ news) ∧ w.grownBy w' v.ownBlock ∧
   ∀ b,v'.ownBlock=some b → v.ownBlock=some b ∨ w.heap.size ≤ b:=by
 rcases hown.2 with ⟨rfl,rfl⟩ | ⟨k,cap,cur,rfl,hk,hg,hnc,hcm,hcs,htake⟩
 ·have hx:xs=[]:=jm (by simpa using hown.1)
  subst hx
  obtain ⟨v',w',h2,h3,h4,h5⟩:=run_append_own (P:=P) w w.heap.size t oty e inf z inf.size inf.bytes hu hi hz rfl rfl hzs h0 (.slice none 0 0) 0 [] (World.ownsRow_nil _ _ _ _) ad m c news hl hnews h1 h63 hbytes (Nat.le_refl _)
  refine ⟨v',w',h2,⟨h3.1,?_⟩,h4,fun b hb=>.inr (h3.lt b hb).1⟩
  rcases h3.2 with h3 | ⟨k,cap,cur,q1,q2,q3⟩
  ·exact .inl h3
  ·exact .inr ⟨k,cap,cur,q1,Nat.zero_le _,q3⟩
 ·by_cases hroom:n + m ≤ cap
  ·obtain ⟨w',h2,h3,h4⟩:=run_append_fits (P:=P) w 0 t oty e inf inf.size hu hi rfl k n cap xs hown ad m c news hl hnews h1 hroom
   exact ⟨_,w',h2,h3,h4,fun b hb=>.inl hb⟩
  ·obtain ⟨v',w',h2,h3,h4,h5⟩:=run_append_own (P:=P) w 0 t oty e inf z inf.size inf.bytes hu hi hz rfl rfl hzs h0 _ n xs hown ad m c news hl hnews h1 h63 hbytes (Nat.zero_le _)
   have holds:∀ j u,xs[j]? = some u → w.cell? ((⟨k,0,none⟩:Addr).add j)=some u:=hown.cells (g:=k) rfl
   have hr:=run_append_grow (P:=P) w t oty e inf z hu hi hz ⟨k,0,none⟩ n cap xs hown.1 holds ad m c news hl hnews (by omega) (by simp only [maxLen] at h63; omega) (growslice_fits (by omega) hbytes)
   have he:=h2.symm.trans hr
   simp only [Result.ok.injEq] at he
   refine ⟨v',w',h2,h3,h4,fun b hb=>.inr ?_⟩
   rw [he.1] at hb
   simp only [Value.ownBlock,j8] at hb
   omega
theorem XY {P:Program} {t u e:Nat} {oty:TypeId} {inf:TypeInfo} (hu:P.underlying t=some (.slice e)) (huu:P.underlying u=some .string) (hi:P.info? e=some inf) (hz:inf.zero=some (.int .u8 0)) (hs:inf.size=1) (hby:inf.bytes=1)
  (w:World) {v:Value} {n:Nat} {xs:List Value} (hown:w.ownsRow 0 e 1 v n xs) (s:ByteArray) (h63:n + s.size ≤ maxLen) (hbytes:n + s.size ≤ 140737488355328) :
  ∃ v' w',(Builtin.append_ #[t,u] oty #[v,.string s]).run P w = .ok v' w' ∧ w'.ownsRow 0 e 1 v' (n + s.size) (xs ++ Lib.strCells s) ∧ w.grownBy w' v.ownBlock ∧
   ∀ b,v'.ownBlock=some b → v.ownBlock=some b ∨ w.heap.size ≤ b:=by
 rcases hown.2 with ⟨rfl,rfl⟩ | ⟨k,cap,cur,rfl,hk,hg,hnc,hcm,hcs,htake⟩
 ·have hx:xs=[]:=jm (by simpa using hown.1)
  subst hx
  obtain ⟨v',w',h2,h3,h4,h5⟩:=Lib.run_append_own_string (P:=P) w w.heap.size t u oty e inf hu huu hi hz hs hby (.slice none 0 0) 0 [] (World.ownsRow_nil _ _ _ _) s h63 hbytes (Nat.le_refl _)
  refine ⟨v',w',h2,⟨h3.1,?_⟩,h4,fun b hb=>.inr (h3.lt b hb).1⟩
  rcases h3.2 with h3 | ⟨k,cap,cur,q1,q2,q3⟩
  ·exact .inl h3
  ·exact .inr ⟨k,cap,cur,q1,Nat.zero_le _,q3⟩
 ·obtain ⟨v',w',h2,h3,h4,h5⟩:=Lib.run_append_own_string (P:=P) w 0 t u oty e inf hu huu hi hz hs hby _ n xs hown s h63 hbytes (Nat.zero_le _)
  refine ⟨v',w',h2,h3,h4,fun b hb=>?_⟩
  by_cases hroom:n + s.size ≤ cap
  ·have hr:=Lib.run_append_room_string (P:=P) w t u oty e inf hu huu hi hs k n cap cur hg s hroom (by rw [hcs]; omega)
   have he:=h2.symm.trans hr
   simp only [Result.ok.injEq] at he
   rw [he.1] at hb
   exact .inl hb
  ·have holds:∀ j u,xs[j]? = some u → w.cell? ((⟨k,0,none⟩:Addr).add j)=some u:=hown.cells (g:=k) rfl
   have hr:=Lib.run_append_grow_string (P:=P) w t u oty e inf (.int .u8 0) hu huu hi hz ⟨k,0,none⟩ n cap xs (by rw [hs]; simpa using hown.1) holds s (by omega) (by simp only [maxLen] at h63; omega) (by rw [hby]; exact growslice_fits (by omega) (by omega))
   have he:=h2.symm.trans hr
   simp only [Result.ok.injEq] at he
   right
   rw [he.1] at hb
   simp only [Value.ownBlock,j8] at hb
   omega
theorem Qo {P:Program} {t e:Nat} {oty:TypeId} {inf:TypeInfo} (hu:P.underlying t=some (.slice e)) (hi:P.info? e=some inf) (w:World) {v:Value} {n:Nat} {xs:List Value} {b:Nat} (c:Nat) (hown:w.ownsRow b e inf.size v n xs) :
  (Builtin.append_ #[t,t] oty #[v,.slice none 0 c]).run P w = .ok v w:=by
 rcases hown.2 with ⟨rfl,rfl⟩ | ⟨g,cap,cur,rfl,_,_,hnc,_⟩
 ·simp [Builtin.append_,run_underlying hu,sizeOf,typeInfo,hi,Builtin.lenOf,Builtin.firstCells]
 ·simp [Builtin.append_,run_underlying hu,sizeOf,typeInfo,hi,Builtin.lenOf,Builtin.firstCells,hnc,storeCells]
theorem j4w:∀ l:List UInt8,RdV ty w [.i .u8] (JW l) (l.map fun b=>Value.int .u8 b.toNat) []
 | []=>.nil _
 | c :: l=>by
  have:=RdV.cons (ty:=ty) (w:=w) [.i .u8] [DC.i c.toNat] (JW l) [Value.int .u8 c.toNat] _ _ _ (.cons _ _ _ _ _ _ _ _ (.i .u8 c.toNat) .nil) (j4w l)
  exact this
theorem j7U (e:Nat):dp (up e)=true:=by
 unfold dp up
 rw [Nat.ble_eq]
 exact Nat.le_add_left _ _
theorem j8Y {e:Nat} (h:dp e=false):yz (up e)=e:=by
 have hh:hq (up e)=false:=by
  unfold dp at h
  unfold hq up
  rw [Bool.eq_false_iff] at h ⊢
  intro k
  rw [Ne,Nat.ble_eq] at h
  rw [Nat.ble_eq] at k
  omega
 unfold yz
 rw [j7U,hh]
 show up e - 1000=e
 unfold up
 exact Nat.add_sub_cancel e 1000
theorem j8X (base e:Nat):(upE base e=e ∧ Nat.beq (base % 2) 1=false) ∨ (upE base e=up e ∧ Nat.beq (base % 2) 1=true):=by
 unfold upE
 cases Nat.beq (base % 2) 1 with
 | false=>exact .inl ⟨rfl,rfl⟩
 | true=>exact .inr ⟨rfl,rfl⟩
theorem YS (h:Rel ty A g ⟨tm,H⟩ a w) {e:Nat} {te:TI} (hte:ty (yz e)=some te) {x:C} {v:Value} {l:List (List DC)} {H1:List HS} (hx:CR ty g H w x v) (e1:JR H e x=some (l,H1)) :
  Rel ty A g ⟨tm,H1⟩ a w ∧ Ch g g H H1 w w ∧ ∃ (xs:List Value) (F:List Nat),w.ownsRow 0 (yz e) te.cts.length v l.length xs ∧ RdV ty w te.cts l xs F ∧ Ve A g H1 w e F ∧ (dp e=true → ∀ b ∈ F,v.ownBlock ≠ some b) ∧
   (∀ b,v.ownBlock=some b → ¬ g.I b ∧ (A.w0.heap.size ≤ b ∨ A.Pm b) ∧ ∀ i p,jp H1 i = .live p → ¬ jM g i p b) ∧
   (∀ b,(dp e=true ∧ b ∈ F) ∨ v.ownBlock=some b → ∃ id l,jp H id = .live (.row e l) ∧ zq g id e b) ∧ ∀ i p,jp H1 i = .live p → jp H i = .live p:=by
 unfold JR at e1
 split at e1
 ·simp only [j8,ji] at e1
  obtain ⟨rfl,rfl⟩:=e1
  have hv:v = .slice none 0 0:=hx
  subst hv
  refine ⟨h,.refl _ _ _,[],[],World.ownsRow_nil _ _ _ _,.nil _,?_,fun _ b hb=>(by cases hb),fun b hb=>by simp [Value.ownBlock] at hb,fun b hb=>?_,fun _ _ h=>h⟩
  ·cases he:dp e with
   | false=>exact (Ve.shallow he).2 fun b hb=>by cases hb
   | true=>exact (Ve.deep he).2 ⟨⟨List.nodup_nil,fun b hb=>by cases hb⟩,fun b hb=>by cases hb⟩
  ·rcases hb with ⟨_,hb⟩ | hb
   ·cases hb
   ·simp [Value.ownBlock] at hb
 ·rename_i id
  split at e1
  ·rename_i e' l' hr
   split at e1
   ·rename_i hee
    obtain ⟨rfl,hh⟩:=hee
    simp only [j8,ji] at e1
    obtain ⟨rfl,rfl⟩:=e1
    obtain ⟨r1,c1⟩:=h.kill hr
    obtain ⟨ti,vs,F,h1,h0,h2,h3,h4,h5⟩:=h.ob id _ hr
    have h3:=h3.v hh
    obtain rfl:te=ti:=by rw [hte] at h1; exact Option.some.inj h1
    have hv:v=g.val id:=hx.2.2 ⟨_,_,.inl hr⟩
    subst hv
    have hsub:∀ i p,jp (jB H id .dead) i = .live p → i ≠ id ∧ jp H i = .live p:=by
     intro i p hi
     by_cases e:id=i
     ·subst e
      rw [jt _ (jF hr)] at hi
      cases hi
     ·rw [jo _ e] at hi
      exact ⟨fun k=>e k.symm,hi⟩
    have hall:∀ b,zq g id e' b → ¬ g.I b ∧ (A.w0.heap.size ≤ b ∨ A.Pm b) ∧ ∀ i p,jp (jB H id .dead) i = .live p → ¬ jM g i p b:=fun b hb =>
     ⟨h5 b hb,h.ow id _ b hr hb,fun i p hi hp=>h.sep i id p _ b (hsub i p hi).1 (hsub i p hi).2 hr hp hb⟩
    refine ⟨r1,c1,vs,F,h2,h3,?_,fun he b hb=>((kz.deep he).1 h4).2.2 b hb,fun b hb=>hall b (.inl hb),fun b hb=>⟨id,_,hr,?_⟩,fun i p hi=>(hsub i p hi).2⟩
    ·cases he:dp e' with
     | false=>exact (Ve.shallow he).2 ((kz.shallow he).1 h4)
     | true =>
      obtain ⟨k1,k2,k3⟩:=(kz.deep he).1 h4
      exact (Ve.deep he).2 ⟨k1,fun b hb=>hall b (.inr ⟨he,(k2 b).2 hb⟩)⟩
    ·rcases hb with ⟨he,hb⟩ | hb
     ·exact .inr ⟨he,(((kz.deep he).1 h4).2.1 b).2 hb⟩
     ·exact .inl hb
   ·simp at e1
  ·simp at e1
 ·simp at e1
theorem j10 (hty:y9 P ty) {d:Nat} {c:Call} (ho:o.op = .call c) (hb:c.callee = .builtin .append) {t base el:Nat} (hat:c.argTypes.toList=[t,t]) {x y:C} {te:TI} (h:Rel ty A g ⟨tm,H⟩ a w)
  (hx:yE tm c.args.toList=[x,y]) (hd:dp d=true) (hu':yz d=el) (ht:Jc (ty t)=some el) (hte:ty el=some te) (hc:te.bytes ≤ 1024 ∧ 0 < te.cts.length) {l m:List (List DC)} {H1 H2:List HS} (ho1:JR H d x=some (l,H1)) (hn1:JR H1 d y=some (m,H2))
  (hf:jp H2 base = .free) (hlim:l.length + m.length < jT) :
  o.wp P a w (pD ty A g H w ⟨ka tm o.dst (.one (.own base)),jB H2 base (.live (.row d (l ++ m)))⟩) Q:=by
 obtain ⟨v1,v2,hv,r1,r2⟩:=Yo h hx
 have hat':c.argTypes = #[t,t]:=by apply Array.toList_inj.1; simpa using hat
 have hu:=Kk hty ht
 obtain ⟨inf,z,hinf,hsz,hby,hz,hzc⟩:=(hty el te hte).info
 have hte':ty (yz d)=some te:=by rw [hu']; exact hte
 obtain ⟨k1,c1,xs,F,k2,k3,k4,k4',k5,k6,k7⟩:=YS h hte' r1 ho1
 obtain ⟨j1,d1,ys,G,j2,j3,j4,j4',j5,j6,j7⟩:=YS k1 hte' (CR.mono c1 r2) hn1
 rw [hu'] at k2 j2
 have hzs:z.cells.size=inf.size:=by rw [hzc,hsz]; simp
 have hn:l.length + m.length ≤ maxLen:=by simp only [jT] at hlim; simp only [maxLen]; omega
 have hbb:(l.length + m.length) * inf.bytes ≤ 140737488355328:=by
  rw [hby]
  refine Nat.le_trans (Nat.mul_le_mul (Nat.le_of_lt hlim) hc.1) ?_
  simp [jT]
 obtain ⟨kn1,kn2⟩:=(Ve.deep hd).1 k4
 obtain ⟨jn1,jn2⟩:=(Ve.deep hd).1 j4
 have hFG:∀ b ∈ F,b ∉ G:=fun b hb hb'=>by
  obtain ⟨id,l',q1,q2⟩:=j6 b (.inl ⟨hd,hb'⟩)
  exact (kn2 b hb).2.2 id _ q1 q2
 have hnew:Ve A g H2 w d (F ++ G):=by
  refine (Ve.deep hd).2 ⟨⟨List.nodup_append.2 ⟨kn1.nodup,jn1.nodup,fun a ha b hb e=>hFG a ha (e ▸ hb)⟩,fun b hb=>?_⟩,fun b hb=>?_⟩
  ·rcases List.mem_append.1 hb with hb | hb
   ·exact kn1.open' b hb
   ·exact jn1.open' b hb
  ·rcases List.mem_append.1 hb with hb | hb
   ·exact ⟨(kn2 b hb).1,(kn2 b hb).2.1,fun i p hi=>(kn2 b hb).2.2 i p (j7 i p hi)⟩
   ·exact jn2 b hb
 have hF2:∀ b ∈ F ++ G,v1.ownBlock ≠ some b:=fun b hb hb'=>by
  rcases List.mem_append.1 hb with hb | hb
  ·exact k4' hd b hb hb'
  ·obtain ⟨id,l',q1,q2⟩:=j6 b (.inl ⟨hd,hb⟩)
   exact (k5 b hb').2.2 id _ q1 q2
 have fin:∀ (v':Value) (w':World),(Builtin.append_ #[t,t] o.type #[v1,v2]).run P w = .ok v' w' → w'.ownsRow 0 el te.cts.length v' (l.length + m.length) (xs ++ ys) → w.grownBy w' v1.ownBlock →
   (∀ b,v'.ownBlock=some b → v1.ownBlock=some b ∨ w.heap.size ≤ b) →
   o.wp P a w (pD ty A g H w ⟨ka tm o.dst (.one (.own base)),jB H2 base (.live (.row d (l ++ m)))⟩) Q:=by
  intro v' w' hr hown hgr hv'
  obtain ⟨g',q1,q2,q3⟩:=j1.grow (base:=base) (e:=d) (l:=l ++ m) hf hte' hc.2 hgr (fun b hb=>⟨(k5 b hb).1,(k5 b hb).2.1,fun i p hi=>(k5 b hb).2.2 i p (j7 i p hi)⟩)
   (by rw [hu']; simpa using hown) (k3.append j3) hnew (fun _=>hF2) hv'
  refine jV (v:=v') (w':=w') ?_ (j0a q1 q2.I (jt _ (kM hf)) q3 (Y6 hown))
  obtain ⟨cs,hcs⟩:=KG (ρ:=a.eval) ho hb w
  rw [hcs,hv,hat']
  simp only [builtin]
  rw [Sem.run_bind,hr]
  rfl
 rw [← hsz] at k2
 rcases j2.2 with ⟨hv2,hm0⟩ | ⟨k,cap,cur,hv2,hk,hg,hnc,hcm,hcs,htake⟩
 ·have hm:m=[]:=jm hm0
  have hy:ys=[]:=jm (by rw [j2.1,hm0,Nat.zero_mul])
  subst hm hy
  refine fin v1 w ?_ (by rw [← hsz]; simpa using k2) ⟨rfl,rfl,rfl,Nat.le_refl _,fun _ _ _=>rfl⟩ (fun b hb=>.inl hb)
  rw [hv2]
  exact Qo hu hinf w 0 k2
 ·obtain ⟨v',w',q1,q2,q3,q4⟩:=Zb (P:=P) (oty:=o.type) hu hinf hz hzs (by omega) w k2 ⟨k,0,none⟩ m.length cap ys (by rw [hsz]; exact j2.1) (fun j q hj=>by
   have hjl:j < ys.length:=by
    rcases jA j ys.length with h' | h'
    ·exact h'
    ·simp [List.getElem?_eq_none h'] at hj
   have:=World.ownsRow.cellAt (w:=w) (g:=k) (n:=m.length) (cap:=cap) (xs:=ys) (base:=0) (e:=el) (size:=te.cts.length) (by rw [← hv2]; exact j2) j (by have:=j2.1; omega)
   rw [Addr.add_lit,Nat.zero_add,this]
   exact hj) j3.one hn hbb
  exact fin v' w' (by rw [hv2]; exact q1) (by rw [← hsz]; exact q2) q3 q4
theorem j5B (hty:y9 P ty) {c:Call} (ho:o.op = .call c) (hb:c.callee = .builtin .append) {t u base:Nat} (hat:c.argTypes.toList=[t,u]) {x y r:C} (h:Rel ty A g ⟨tm,H⟩ a w)
  (hx:yE tm c.args.toList=[x,y]) {H':List HS}
  (e:px (ρ:=Option (List HS × C)) ty none t u base ⟨tm,H⟩ x y (fun H c=>some (H,c))=some (H',r)) :
  o.wp P a w (pD ty A g H w ⟨ka tm o.dst r,H'⟩) Q:=by
 obtain ⟨v1,v2,hv,r1,r2⟩:=Yo h hx
 have hat':c.argTypes = #[t,u]:=by apply Array.toList_inj.1; simpa using hat
 unfold px at e
 split at e
 ·simp at e
 ·rename_i el ht
  split at e
  ·simp at e
  ·rename_i te hte
   have hu:=Kk hty ht
   split at e
   ·rename_i hc
    obtain ⟨inf,z,hinf,hsz,hby,hz,hzc⟩:=(hty el te hte).info
    obtain ⟨hcb,hc0,hde⟩:=hc
    have hc:te.bytes ≤ 1024 ∧ 0 < te.cts.length:=⟨hcb,hc0⟩
    have hte':ty (yz el)=some te:=by rw [ku hde]; exact hte
    split at e
    ·rename_i hdp
     clear hdp
     split at e
     ·rename_i l H1 m ho1 hn1
      split at e
      ·rename_i hf
       split at e
       ·rename_i hlim
        simp only [j8,ji] at e
        obtain ⟨rfl,rfl⟩:=e
        obtain ⟨k1,c1,xs,F,k2,k3,k4,_,k5,_,_⟩:=YS h hte' r1 ho1
        rw [ku hde] at k2
        have k4:=(Ve.shallow hde).1 k4
        have hzs:z.cells.size=inf.size:=by rw [hzc,hsz]; simp
        have hn:l.length + m.length ≤ maxLen:=by simp only [jT] at hlim; simp only [maxLen]; omega
        have hbb:(l.length + m.length) * inf.bytes ≤ 140737488355328:=by
         rw [hby]
         refine Nat.le_trans (Nat.mul_le_mul (Nat.le_of_lt hlim) hc.1) ?_
         simp [jT]
        have fin:∀ (v':Value) (w':World) (ms:List Value) (G:List Nat),(Builtin.append_ #[t,u] o.type #[v1,v2]).run P w = .ok v' w' → w'.ownsRow 0 el te.cts.length v' (l.length + m.length) (xs ++ ms) → w.grownBy w' v1.ownBlock →
          (∀ b,v'.ownBlock=some b → v1.ownBlock=some b ∨ w.heap.size ≤ b) → RdV ty w te.cts m ms G → (∀ b ∈ G,g.I b) →
          o.wp P a w (pD ty A g H w ⟨ka tm o.dst (.one (.own base)),jB H1 base (.live (.row el (l ++ m)))⟩) Q:=by
         intro v' w' ms G hr hown hgr hv' hrd hG
         obtain ⟨g',q1,q2,q3⟩:=k1.grow (base:=base) (e:=el) (l:=l ++ m) hf hte' hc.2 hgr k5 (by rw [ku hde]; simpa using hown) (k3.append hrd) ((Ve.shallow hde).2 fun b hb=>by
          rcases List.mem_append.1 hb with hb | hb
          ·exact k4 b hb
          ·exact hG b hb) (fun he=>by rw [hde] at he; cases he) hv'
         refine jV (v:=v') (w':=w') ?_ (j0a q1 q2.I (jt _ (kM hf)) q3 (Y6 hown))
         obtain ⟨cs,hcs⟩:=KG (ρ:=a.eval) ho hb w
         rw [hcs,hv,hat']
         simp only [builtin]
         rw [Sem.run_bind,hr]
         rfl
        rw [← hsz] at k2
        have nothing:∀ (cc:Nat),m=[] → u=t → v2 = .slice none 0 cc → o.wp P a w (pD ty A g H w ⟨ka tm o.dst (.one (.own base)),jB H1 base (.live (.row el (l ++ m)))⟩) Q:=by
         intro cc hm hut hv2
         subst hm
         subst hut
         refine fin v1 w [] [] ?_ (by rw [← hsz]; simpa using k2) ⟨rfl,rfl,rfl,Nat.le_refl _,fun _ _ _=>rfl⟩ (fun b hb=>.inl hb) (.nil _) (fun _ h=>by cases h)
         rw [hv2]
         exact Qo hu hinf w cc k2
        unfold j0e at hn1
        split at hn1
        ·split at hn1
         ·rename_i hut
          simp only [j8] at hn1
          exact nothing 0 hn1.symm hut r2
         ·simp at hn1
        ·rename_i s
         split at hn1
         ·rename_i tu hk hu'
          split at hn1
          ·rename_i hb1
           simp only [j8] at hn1
           subst hn1
           have huu:=ZG hty hu' rfl
           have hei:=j30 hty hte hk
           have hst:jQ (some te)=false:=by simp [jQ,hk]
           obtain ⟨inf',hinf',hz'⟩:=(hty el te hte).zero1 hst
           obtain rfl:inf=inf':=by rw [hinf] at hinf'; exact Option.some.inj hinf'
           rw [hei.2] at hz'
           have hs1:inf.size=1:=by rw [hsz,hei.2]; rfl
           have hbs:(ByteArray.mk s.toArray).size=s.length:=by simp [ByteArray.size]
           have hml:(JW s).length=s.length:=by simp [JW]
           rw [hml] at hn hlim hbb
           obtain ⟨v',w',q1,q2,q3,q4⟩:=XY (P:=P) (t:=t) (u:=u) (e:=el) (oty:=o.type) (inf:=inf) hu huu hinf hz' hs1 (by rw [hby]; exact hb1) w (by rw [← hs1]; exact k2) ⟨s.toArray⟩ (by rw [hbs]; exact hn) (by rw [hbs]; simp only [jT] at hlim; omega)
           have ev:v2 = .string ⟨s.toArray⟩:=r2
           refine fin v' w' (s.map fun b=>Value.int .u8 b.toNat) [] (by rw [ev]; exact q1) ?_ q3 q4 (by rw [hei.2]; exact j4w s) (fun _ h=>by cases h)
           rw [← hsz,hs1,hml]
           rw [hbs] at q2
           simpa [Lib.strCells] using q2
          ·simp at hn1
         ·simp at hn1
        ·rename_i s _ _
         split at hn1
         ·rename_i e'' l2 hsl
          split at hn1
          ·rename_i hee
           obtain ⟨rfl,rfl⟩:=hee
           simp only [j8] at hn1
           subst hn1
           have hm:=VI (v:=v2) (by
            rcases Zz h r2 hsl with h1 | ⟨ti,vs,F,id,_,_,_,h1⟩
            ·exact .inl h1
            ·exact .inr ⟨ti,vs,F,h1⟩)
           obtain ⟨ad,cap,hv2,hm,hne⟩:=hm
           have some_case:∀ (b':Addr) (ms:List Value) (G:List Nat),ad=some b' → ms.length=l2.length * inf.size → (∀ j q,ms[j]? = some q → w.cell? (b'.add j)=some q) → RdV ty w te.cts l2 ms G → (∀ b ∈ G,g.I b) →
             o.wp P a w (pD ty A g H w ⟨ka tm o.dst (.one (.own base)),jB H1 base (.live (.row e'' (l ++ l2)))⟩) Q:=by
            intro b' ms G hb' hml hcell hrd hG
            obtain ⟨v',w',q1,q2,q3,q4⟩:=Zb (P:=P) (oty:=o.type) hu hinf hz hzs (by omega) w k2 b' l2.length cap ms hml hcell hrd.one hn hbb
            exact fin v' w' ms G (by rw [hv2,hb']; exact q1) (by rw [← hsz]; exact q2) q3 q4 hrd hG
           rcases hm with rfl | ⟨ti,vs,F',b,off,p1,p0,rfl,p2,p3,p4⟩
           ·cases ad with
            | none=>exact nothing cap rfl rfl hv2
            | some b'=>exact some_case b' [] [] rfl (by simp) (fun j q hj=>by simp at hj) (.nil _) (fun _ h=>by cases h)
           ·obtain rfl:=Option.some.inj (hte.symm.trans p1)
            exact some_case ⟨b,off,none⟩ vs F' rfl (by rw [hsz]; exact p3.length) (fun j q hj=>by rw [Addr.add_lit]; exact p2 j q hj) p3 p4
          ·simp at hn1
         ·simp at hn1
        ·simp at hn1
       ·simp at e
      ·simp at e
     ·simp at e
    ·split at e
     ·rename_i l H1 ho1
      split at e
      ·rename_i m H2 hn1
       split at e
       ·rename_i hf
        split at e
        ·rename_i hlim
         simp only [j8,ji] at e
         obtain ⟨rfl,rfl⟩:=e
         obtain ⟨hlim,rfl⟩:=hlim
         exact j10 hty ho hb hat h hx (j7U el) (j8Y hde) ht hte hc ho1 hn1 hf hlim
        ·simp at e
       ·simp at e
      ·simp at e
     ·simp at e
   ·simp at e
end
section
variable {P:Program} {ty:Nat → Option TI} {A:An} {g:Gh} {tm:List C} {H:List HS} {a:Act} {w:World} {o:Oper} {Q:Exit → Act → World → Prop}
theorem j8Q (t:CT):RdC ty w t (j3S t) (Q5 t) []:=by
 cases t
 ·exact .b _
 ·exact .i _ _
 ·exact .s _
 ·exact .nil _ _ _
theorem j5s:∀ ts:List CT,RdL ty w ts (ts.map j3S) (ts.map Q5) []
 | []=>.nil
 | t :: ts=>RdL.cons t ts _ _ _ _ [] [] (j8Q t) (j5s ts)
theorem j5r (ts:List CT):∀ n:Nat,RdV ty w ts (List.replicate n (ts.map j3S)) (List.replicate n (ts.map Q5)).flatten []
 | 0=>.nil _
 | n + 1=>by
  rw [List.replicate_succ,List.replicate_succ,List.flatten_cons]
  exact RdV.cons ts _ _ _ _ [] [] (j5s ts) (j5r ts n)
theorem j2V (z:Value) (zs:List Value) (hz:z.cells=zs.toArray) (h0:0 < zs.length) (n:Nat):(madeCells z.cells (n * zs.length)).toList=(List.replicate n zs).flatten:=by
 have h1:(List.replicate n zs).flatten=(List.replicate n z).flatMap fun v=>v.cells.toList:=by
  induction n with
  | zero=>rfl
  | succ n ih=>simp [List.replicate_succ,ih,hz]
 rw [h1]
 have hs:∀ v ∈ List.replicate n z,v.cells.size=zs.length:=by
  intro v hv
  rw [List.eq_of_mem_replicate hv,hz]
  simp
 apply List.ext_getElem?
 intro k
 rw [Great.flat_get h0 _ hs k]
 have hsz:z.cells.size=zs.length:=by rw [hz]; simp
 by_cases hk:k < n * zs.length
 ·have hd:k / zs.length < n:=Nat.div_lt_of_lt_mul (by rw [Nat.mul_comm]; exact hk)
  have hm:k % zs.length < z.cells.size:=by rw [hsz]; exact Nat.mod_lt _ h0
  simp [madeCells,hk,hd,hsz]
  rw [Array.getElem?_eq_getElem hm]
  simp [getElem!_pos,hm]
 ·have hd:¬ k / zs.length < n:=by
   intro h
   have:=(Nat.div_lt_iff_lt_mul h0).1 h
   omega
  simp [madeCells,hk,hd]
theorem jdD {e:Nat} (base:Nat) (hde:dp e=false):yz (upE base e)=e ∧ Ve A g H w (upE base e) []:=by
 rcases j8X base e with ⟨h,_⟩ | ⟨h,_⟩
 ·rw [h]
  exact ⟨ku hde,(Ve.shallow hde).2 fun b hb=>by cases hb⟩
 ·rw [h]
  generalize hd:up e=d
  have h1:dp d=true:=by rw [← hd]; exact j7U e
  exact ⟨by rw [← hd]; exact j8Y hde,(Ve.deep h1).2 ⟨⟨List.nodup_nil,fun b hb=>by cases hb⟩,fun b hb=>by cases hb⟩⟩
theorem j2G (hty:y9 P ty) (t:TypeId) (x y:Operand) (base:Nat) (ho:o.op = .makeSlice t x y) (h:Rel ty A g ⟨tm,H⟩ a w) {e:Nat} {te:TI} (ht:Jc (ty t)=some e) (hte:ty e=some te) {m:Int}
  (hx:opd tm x = .one (.int .i64 m)) (hy:opd tm y = .one (.int .i64 m)) (hf:jp H base = .free) (hc:0 ≤ m ∧ m < (jT:Int)) (hb:te.bytes ≤ 1024) (h0:0 < te.cts.length) (hde:dp e=false) :
  o.wp P a w (pD ty A g H w ⟨ka tm o.dst (.one (.own base)),jB H base (.live (.row (upE base e) (List.replicate m.toNat (te.cts.map j3S))))⟩) Q:=by
 have rx:=h.opd x
 have ry:=h.opd y
 rw [hx] at rx
 rw [hy] at ry
 obtain ⟨n,rfl⟩:=Int.eq_ofNat_of_zero_le hc.1
 have hn:n < jT:=by exact Int.ofNat_lt.1 hc.2
 obtain ⟨inf,z,hinf,hsz,hby,hz,hzc⟩:=(hty e te hte).info
 have hzl:z.cells=(te.cts.map Q5).toArray:=hzc
 obtain ⟨w',h1,h2,h3⟩:=run_make_full (P:=P) w 0 t e inf z te.cts.length (Kk hty ht) hinf hz hsz .i64 .i64 n (by
  rw [hby]
  refine Nat.le_trans (Nat.mul_le_mul hb (Nat.le_of_lt hn)) ?_
  simp [jT]) (by simp only [jT] at hn; simp only [maxLen]; omega) (Nat.zero_le _)
 have hcell:=j2V z (te.cts.map Q5) hzl (by simpa using h0) n
 rw [List.length_map] at hcell
 rw [hcell] at h2
 obtain ⟨hud,hnew⟩:=jdD (A:=A) (g:=g) (H:=H) (w:=w) base hde
 obtain ⟨g',q1,q2,q3⟩:=h.grow (base:=base) (e:=upE base e) (l:=List.replicate n (te.cts.map j3S)) hf (by rw [hud]; exact hte) h0 h3 (fun b hb=>by simp at hb) (by rw [hud]; simpa using h2) (j5r te.cts n) hnew (fun _ b hb=>by cases hb)
  (fun b hb=>.inr (by simp only [Value.ownBlock,j8] at hb; omega))
 refine jV (v:=.slice (some ⟨w.heap.size,0,none⟩) n n) (w':=w') ?_ (j0a q1 q2.I (jt _ (kM hf)) q3 rfl)
 simp only [execOp,ho]
 rw [show a.eval x=_ from rx,show a.eval y=_ from ry,Sem.run_bind,h1]
 rfl
theorem j44:∀ (parts:List (Nat × Operand)) {j:Nat} {ts:List CT} {l:List (List DC)} {g:Gh} {H H1:List HS},Rel ty A g ⟨tm,H⟩ a w → yi ty false H ts j (parts.map fun p=>(p.1,opd tm p.2))=some (l,H1) →
  ∃ (g':Gh) (F:List Nat) (vs:List Value),Rel ty A g' ⟨tm,H1⟩ a w ∧ Ch g g' H H1 w w ∧ RdV ty w ts l (vs.flatMap fun v=>v.cells.toList) F ∧ (∀ b ∈ F,g'.I b) ∧ (∀ v ∈ vs,v.cells.size=ts.length) ∧
   parts.map (fun p=>(p.1,a.eval p.2))=(vs.zipIdx j).map (fun x=>(x.2,x.1)) ∧ vs.length=l.length
 | [],j,ts,l,g,H,H1,h,e=>by
  simp only [List.map_nil,yi,j8,ji] at e
  obtain ⟨rfl,rfl⟩:=e
  exact ⟨g,[],[],h,.refl _ _ _,.nil _,fun _ h=>by (cases h),fun _ h=>by (cases h),rfl,rfl⟩
 | (i,x) :: parts,j,ts,l,g,H,H1,h,e=>by
  simp only [js,yi,QE] at e
  split at e
  ·rename_i hij
   subst hij
   split at e
   ·rename_i ss hss
    split at e
    ·rename_i d H2 hd
     split at e
     ·rename_i ds H3 hds
      simp only [j8,ji] at e
      obtain ⟨rfl,rfl⟩:=e
      obtain ⟨us,u1,u2,u3,u4⟩:=Yk (h.opd x) hss
      obtain ⟨g1,F1,r1,c1,d1,i1⟩:=j00 h u2 hd
      obtain ⟨g2,F2,vs,r2,c2,d2,i2,k1,k2,k3⟩:=j44 parts r1 hds
      refine ⟨g2,F1 ++ F2,a.eval x :: vs,r2,c1.trans c2,?_,fun b hb=>?_,fun v hv=>?_,?_,by simp [k3]⟩
      ·rw [jn,u1]
       exact .cons _ _ _ _ _ _ _ d1 d2
      ·rcases List.mem_append.1 hb with hb | hb
       ·exact c2.I b (i1 b hb)
       ·exact i2 b hb
      ·rcases List.mem_cons.1 hv with rfl | hv
       ·rw [u1]; simpa using d1.length.1
       ·exact k1 v hv
      ·simp [k2]
     ·simp at e
    ·simp at e
   ·simp at e
  ·simp at e
theorem j45:∀ (parts:List (Nat × Operand)) {j:Nat} {ts:List CT} {l:List (List DC)} {H H1:List HS},Rel ty A g ⟨tm,H⟩ a w → yi ty true H ts j (parts.map fun p=>(p.1,opd tm p.2))=some (l,H1) →
  ∃ (F:List Nat) (vs:List Value),Rel ty A g ⟨tm,H1⟩ a w ∧ Ch g g H H1 w w ∧ RdV ty w ts l (vs.flatMap fun v=>v.cells.toList) F ∧ Mv g H H1 w F ∧ (∀ v ∈ vs,v.cells.size=ts.length) ∧
   parts.map (fun p=>(p.1,a.eval p.2))=(vs.zipIdx j).map (fun x=>(x.2,x.1)) ∧ vs.length=l.length
 | [],j,ts,l,H,H1,h,e=>by
  simp only [List.map_nil,yi,j8,ji] at e
  obtain ⟨rfl,rfl⟩:=e
  exact ⟨[],[],h,.refl _ _ _,.nil _,.nil _ _ _,fun _ h=>by (cases h),rfl,rfl⟩
 | (i,x) :: parts,j,ts,l,H,H1,h,e=>by
  simp only [js,yi,QE] at e
  split at e
  ·rename_i hij
   subst hij
   split at e
   ·rename_i ss hss
    split at e
    ·rename_i d H2 hd
     split at e
     ·rename_i ds H3 hds
      simp only [j8,ji] at e
      obtain ⟨rfl,rfl⟩:=e
      obtain ⟨us,u1,u2,u3,u4⟩:=Yk (h.opd x) hss
      obtain ⟨F1,r1,c1,d1,i1⟩:=j0g h u2 hd
      obtain ⟨F2,vs,r2,c2,d2,i2,k1,k2,k3⟩:=j45 parts r1 hds
      refine ⟨F1 ++ F2,a.eval x :: vs,r2,c1.trans c2,?_,i1.trans i2,fun v hv=>?_,?_,by simp [k3]⟩
      ·rw [jn,u1]
       exact .cons _ _ _ _ _ _ _ d1 d2
      ·rcases List.mem_cons.1 hv with rfl | hv
       ·rw [u1]; simpa using d1.length.1
       ·exact k1 v hv
      ·simp [k2]
     ·simp at e
    ·simp at e
   ·simp at e
  ·simp at e
theorem j1T (hty:y9 P ty) (t:TypeId) (n:Nat) (parts:Array (Nat × Operand)) (base:Nat) (ho:o.op = .buildSlice t n parts) (h:Rel ty A g ⟨tm,H⟩ a w) {e:Nat} {te:TI} (ht:Jc (ty t)=some e) (hte:ty e=some te)
  {l:List (List DC)} {H1:List HS} (hr:yi ty (Nat.beq (base % 2) 1) H te.cts 0 (parts.toList.map fun p=>(p.1,opd tm p.2))=some (l,H1)) (hf:jp H1 base = .free)
  (hc:l.length=n ∧ n ≤ 10000 ∧ 0 < te.cts.length ∧ te.cts.length ≤ 1024 ∧ dp e=false) :
  o.wp P a w (pD ty A g H w ⟨ka tm o.dst (.one (.own base)),jB H1 base (.live (.row (upE base e) l))⟩) Q:=by
 obtain ⟨hn,h10,h0,h1024,hde⟩:=hc
 obtain ⟨hud,_⟩:=jdD (A:=A) (g:=g) (H:=H) (w:=w) base hde
 obtain ⟨g1,F,vs,r1,c1,d1,i1,k1,k2,k3⟩:∃ (g':Gh) (F:List Nat) (vs:List Value),Rel ty A g' ⟨tm,H1⟩ a w ∧ Ch g g' H H1 w w ∧ RdV ty w te.cts l (vs.flatMap fun v=>v.cells.toList) F ∧ Ve A g' H1 w (upE base e) F ∧ (∀ v ∈ vs,v.cells.size=te.cts.length) ∧
   parts.toList.map (fun p=>(p.1,a.eval p.2))=(vs.zipIdx 0).map (fun x=>(x.2,x.1)) ∧ vs.length=l.length:=by
  rcases j8X base e with ⟨h1,h2⟩ | ⟨h1,h2⟩
  ·rw [h2] at hr
   rw [h1]
   obtain ⟨g1,F,vs,r1,c1,d1,i1,k⟩:=j44 parts.toList h hr
   exact ⟨g1,F,vs,r1,c1,d1,(Ve.shallow hde).2 i1,k⟩
  ·rw [h2] at hr
   rw [h1]
   obtain ⟨F,vs,r1,c1,d1,i1,k⟩:=j45 parts.toList h hr
   have hd:=j7U e
   generalize up e=d at hd ⊢
   exact ⟨g,F,vs,r1,c1,d1,i1.new h hd,k⟩
 obtain ⟨inf,z,hinf,hsz,hby,hz,hzc⟩:=(hty e te hte).info
 have hcl:(vs.flatMap fun v=>v.cells.toList).length=n * te.cts.length:=by rw [d1.length,hn]
 have hrun:(Instr.buildSlice t n (parts.map fun x=>(x.1,a.eval x.2))).run P w = .ok (.slice (some ⟨w.heap.size,0,none⟩) n n) (w.alloc (.cells (vs.flatMap fun v=>v.cells.toList).toArray e)):=by
  have hp:(parts.map fun x=>(x.1,a.eval x.2)).toList=(vs.zipIdx 0).map (fun x=>(x.2,x.1)):=by simpa using k2
  by_cases hz0:n=0
  ·subst hz0
   have hv:vs=[]:=jm (by omega)
   subst hv
   simp at hp
   simp [Instr.buildSlice,run_underlying (Kk hty ht),Jk hinf,Instr.fill,newRow,hp]
   rw [show Array.range 0 = #[] from by simp [Array.range]]
   simp
  ·have hm:n * te.cts.length ≤ 10000 * 1024:=Nat.mul_le_mul h10 h1024
   have hpos:0 < n * te.cts.length:=Nat.mul_pos (by omega) h0
   refine run_buildSlice w t e n _ _ inf z (Kk hty ht) hinf hz (by rw [hsz]; omega) (by rw [hsz]; omega) ?_
   rw [hp,hsz]
   exact Great.fill_whole h0 vs _ k1 (by rw [k3,hn]; simp)
 have hown:=World.ownsRow_lit (base:=0) (e:=e) (size:=te.cts.length) w (vs.flatMap fun v=>v.cells.toList).toArray n (Nat.zero_le _) (by simp only [maxLen]; omega) (by simpa using hcl)
 obtain ⟨g',q1,q2,q3⟩:=r1.grow (base:=base) (e:=upE base e) (l:=l) hf (by rw [hud]; exact hte) h0 (World.grownBy_alloc w _ none) (fun b hb=>by simp at hb) (by rw [hn,hud]; simpa using hown) d1 i1 (fun _ b _=>by simp)
  (fun b hb=>.inr (by simp only [Value.ownBlock,j8] at hb; omega))
 refine jV (v:=.slice (some ⟨w.heap.size,0,none⟩) n n) ?_ (j0a q1 (fun b hb=>q2.I b (c1.I b hb)) (jt _ (kM hf)) q3 rfl)
 simp only [execOp,ho]
 rw [Sem.run_bind,hrun]
 rfl
theorem j7g (cs:List Value) (off:Nat) (cells:List Value) (hfit:off + cs.length ≤ cells.length) :
  (cs.toArray.zipIdx.foldl (fun (acc:Array Value) (x:Value × Nat)=>acc.setIfInBounds (off + x.2) x.1) cells.toArray)=(cells.take off ++ (cs ++ cells.drop (off + cs.length))).toArray:=by
 have h:=Great.foldl_set off cs 0 cells.toArray
 rw [← Array.foldl_toList,Array.toList_zipIdx]
 apply Array.ext_getElem?
 intro k
 rw [h.2 k]
 simp only [Nat.add_zero,List.size_toArray,List.getElem?_toArray]
 by_cases hk:off ≤ k ∧ k < off + cs.length
 ·rw [if_pos ⟨hk.1,hk.2,by omega⟩,List.getElem?_append_right (by simp; omega),List.getElem?_append_left (by simp; omega)]
  congr 1
  simp
  omega
 ·rw [if_neg (by omega)]
  by_cases h2:k < off
  ·rw [List.getElem?_append_left (by simp; omega),List.getElem?_take,if_pos h2]
  ·rw [List.getElem?_append_right (by simp; omega),List.getElem?_append_right (by simp; omega),List.getElem?_drop]
   congr 1
   simp
   omega
theorem j7T (h:Rel ty A g ⟨tm,H⟩ a w) (place:Nat → Option (Nat × Nat)) (flds:List (Nat × Nat × Bool)) (hpl:∀ (j:Nat) (x:Nat × Nat × Bool),flds[j]? = some x → place j=some (x.1,x.2.1)) (n:Nat)
  (hfit:∀ (j:Nat) (x:Nat × Nat × Bool),flds[j]? = some x → x.1 + x.2.1 ≤ n) :
  ∀ (parts:List (Nat × Operand)) (z r:List S) (zs:List Value),j1w flds z (parts.map fun p=>(p.1,opd tm p.2))=some r → qr ty g H w z zs → z.length=n →
  ∃ rs:List Value,Instr.fill place zs.toArray (parts.map fun p=>(p.1,a.eval p.2))=some rs.toArray ∧ qr ty g H w r rs ∧ r.length=n
 | [],z,r,zs,e,hz,hn=>by
  simp only [List.map_nil,j1w,j8] at e
  subst e
  exact ⟨zs,rfl,hz,hn⟩
 | (j,x) :: parts,z,r,zs,e,hz,hn=>by
  simp only [js,j1w] at e
  split at e
  ·rename_i off k ag ss hj hss
   split at e
   ·rename_i hk
    obtain ⟨us,u1,u2,u3,u4⟩:=Yk (h.opd x) hss
    have hf:=hfit j _ hj
    have hzl:=hz.length
    simp only at hf
    have hs:qr ty g H w (XV z off ss) (zs.take off ++ (us ++ zs.drop (off + us.length))):=by
     rw [u4]
     exact (hz.take off).append (u2.append (hz.drop (off + ss.length)))
    obtain ⟨rs,q1,q2,q3⟩:=j7T h place flds hpl n hfit parts _ _ _ e hs (by simp [XV]; omega)
    refine ⟨rs,?_,q2,q3⟩
    rw [← q1]
    simp only [js]
    rw [Instr.fill,hpl j _ hj]
    simp only [u1,List.size_toArray]
    rw [if_neg (by simp; omega)]
    congr 1
    exact j7g us off zs (by omega)
   ·simp at e
  ·simp at e
theorem j6S (hty:y9 P ty) (t:TypeId) (parts:Array (Nat × Operand)) (ho:o.op = .build t parts) (h:Rel ty A g ⟨tm,H⟩ a w) {ti:TI} (ht:ty t=some ti) (hst:jQ (some ti)=true) {ss:List S}
  (hb:j1w ti.flds (ti.cts.map j5q) (parts.toList.map fun p=>(p.1,opd tm p.2))=some ss) :
  o.wp P a w (pD ty A g H w ⟨ka tm o.dst (.agg ss),H⟩) Q:=by
 obtain ⟨fs,hu,hn,hf⟩:=j1f hty ht hst
 obtain ⟨inf,z,hinf,hsz,hby,hz,hzc⟩:=(hty t ti ht).info
 have hpl:∀ (j:Nat) (x:Nat × Nat × Bool),ti.flds[j]? = some x → (fs.toList.map fun f=>(f.offset,((P.info? f.type).map (·.size)).getD 0))[j]? = some (x.1,x.2.1):=by
  intro j x hj
  have hjl:j < ti.flds.length:=by
   rcases jA j ti.flds.length with h' | h'
   ·exact h'
   ·simp [List.getElem?_eq_none h'] at hj
  have hfj:fs[j]? = some fs[j]:=Array.getElem?_eq_getElem (by omega)
  have hok:=hf j _ _ hfj hj
  obtain ⟨i',hi',hs'⟩:=hok.size
  have:=hok.off
  simp [hfj,hi',hs',this]
 have hplaces:fs.toList.mapM (fun f=>(P.info? f.type).map fun i=>(f.offset,i.size))=some (fs.toList.map fun f=>(f.offset,((P.info? f.type).map (·.size)).getD 0)):=by
  have:∀ l:List Go.Field,(∀ f ∈ l,∃ i,P.info? f.type=some i) → l.mapM (fun f=>(P.info? f.type).map fun i=>(f.offset,i.size))=some (l.map fun f=>(f.offset,((P.info? f.type).map (·.size)).getD 0)):=by
   intro l
   induction l with
   | nil=>intro _; rfl
   | cons f l ih =>
    intro hl
    obtain ⟨i,hi⟩:=hl f (by simp)
    rw [List.mapM_cons,ih (fun f hf=>hl f (by simp [hf]))]
    simp [hi]
  refine this _ fun f hfm=>?_
  obtain ⟨j,hj,rfl⟩:=List.getElem_of_mem hfm
  have hj':j < fs.size:=by simpa using hj
  obtain ⟨i',hi',_⟩:=(hf j fs[j] (ti.flds[j]'(by omega)) (Array.getElem?_eq_getElem hj') (List.getElem?_eq_getElem (by omega))).size
  exact ⟨i',by simpa using hi'⟩
 obtain ⟨rs,q1,q2,q3⟩:=j7T h (fun x=>(fs.toList.map fun f=>(f.offset,((P.info? f.type).map (·.size)).getD 0)).toArray[x]?) ti.flds (fun j x hj=>by simpa using hpl j x hj) ti.cts.length (fun j x hj=>by
  have hjl:j < ti.flds.length:=by
   rcases jA j ti.flds.length with h' | h'
   ·exact h'
   ·simp [List.getElem?_eq_none h'] at hj
  exact (hf j _ _ (Array.getElem?_eq_getElem (show j < fs.size by omega)) hj).fit) parts.toList _ _ _ hb (j2C (ty:=ty) (g:=g) (H:=H) (w:=w) ti.cts).1 (by simp)
 have hbuilt:P.built t (parts.map fun x=>(x.1,a.eval x.2)).toList=some rs.toArray:=by
  unfold Program.built
  simp only [hinf,hu,hz,hplaces]
  rw [hzc]
  have:(parts.map fun x=>(x.1,a.eval x.2)).toList=parts.toList.map fun p=>(p.1,a.eval p.2):=by simp
  rw [this]
  exact q1
 refine jV (v:=.agg rs.toArray) (w':=w) ?_ (kR h ⟨rs,rfl,q2⟩)
 simp only [execOp,ho]
 rw [Sem.run_bind,run_build w t _ _ hbuilt]
 rfl
end
section
variable {P:Program} {ty:Nat → Option TI} {A:An} {tm:List C} {a:Act} {w:World} {o:Oper} {Q:Exit → Act → World → Prop}
theorem j0Z:∀ {ts:List CT} {x:List DC} {u:List Value} {G:List Nat},RdL ty w ts x u G → ∀ {g:Gh} {H H1:List HS} {ss:List S} (y:List DC) (j p:Nat),Rel ty A g ⟨tm,H⟩ a w → Own w G →
  (∀ b ∈ G,¬ g.I b ∧ (A.w0.heap.size ≤ b ∨ A.Pm b) ∧ ∀ i q,jp H i = .live q → ¬ jM g i q b) → (∀ i,i < ts.length → y.getD (j + i) d0=x.getD i d0) → yB ts y j p H=some (ss,H1) →
  ∃ g',Rel ty A g' ⟨tm,H1⟩ a w ∧ Ch g g' H H1 w w ∧ qr ty g' H1 w ss u
 | _,_,_,_,.nil,g,H,H1,ss,y,j,p,h,hO,hG,hy,e=>by
  simp only [yB,j8,ji] at e
  obtain ⟨rfl,rfl⟩:=e
  exact ⟨g,h,.refl _ _ _,trivial⟩
 | _,_,_,_,.cons t ts d xs v vs F G hd hr,g,H,H1,ss,y,j,p,h,hO,hG,hy,e=>by
  have hy0:y.getD j d0=d:=by simpa using hy 0 (by simp)
  have hys:∀ i,i < ts.length → y.getD (j + 1 + i) d0=xs.getD i d0:=fun i hi=>by
   have:=hy (i + 1) (by simpa using hi)
   rw [show j + 1 + i=j + (i + 1) by omega]
   simpa using this
  have hnd:=List.nodup_append.1 hO.nodup
  have hOF:Own w F:=⟨hnd.1,fun b hb=>hO.open' b (by simp [hb])⟩
  have hOG:Own w G:=⟨hnd.2.1,fun b hb=>hO.open' b (by simp [hb])⟩
  have flat:∀ (s:S),(∀ (g:Gh) (H:List HS),SR ty g H w s v) → (match yB ts y (j + 1) p H with | some (ss,H2)=>some (s :: ss,H2) | none=>none)=some (ss,H1) →
    ∃ g',Rel ty A g' ⟨tm,H1⟩ a w ∧ Ch g g' H H1 w w ∧ qr ty g' H1 w ss (v :: vs):=by
   intro s hs e
   split at e
   ·rename_i ss2 H2 e2
    simp only [j8,ji] at e
    obtain ⟨rfl,rfl⟩:=e
    obtain ⟨g',r,c,q⟩:=j0Z hr y (j + 1) p h hOG (fun b hb=>hG b (by simp [hb])) hys e2
    exact ⟨g',r,c,hs _ _,q⟩
   ·simp at e
  cases t with
  | b =>
   refine flat (j8s .b (y.getD j d0)) (fun g H=>?_) e
   rw [hy0]
   cases hd
   rfl
  | i k =>
   refine flat (j8s (.i k) (y.getD j d0)) (fun g H=>?_) e
   rw [hy0]
   cases hd
   rfl
  | s =>
   refine flat (j8s .s (y.getD j d0)) (fun g H=>?_) e
   rw [hy0]
   cases hd
   rfl
  | sl el =>
   have hdl:d = .sl d.ll:=by cases hd <;> rfl
   simp only [yB] at e
   split at e
   ·rename_i hf
    split at e
    ·rename_i ss2 H2 e2
     simp only [j8,ji] at e
     obtain ⟨rfl,rfl⟩:=e
     have hlt:=kM hf
     let g2:Gh:={ I:=g.I,blk:=g.blk,val:=fun i=>if i=p then v else g.val i,dom:=fun i=>if i=p then fun b=>b ∈ F else g.dom i }
     have hv2:g2.val p=v:=by simp [g2]
     have hd2:g2.dom p=fun b=>b ∈ F:=by simp [g2]
     have up:=h.upd (id:=p) (x:=.live (.pt el (y.getD j d0).ll)) (g':=g2) (w':=w) hlt (by simp) rfl (fun i hi=>by simp [g2,hi]) (fun hn=>absurd hn (kx hf)) (fun hn=>absurd hn (kx hf))
      (fun b hb=>rfl) (Nat.le_refl _)
      (fun hch q hq=>by
       simp only [HS.live.injEq] at hq
       subst hq
       refine ⟨⟨F,by rw [hv2,hy0,← hdl]; exact hd,hOF,fun b=>by rw [hd2],fun b hb=>?_⟩,fun b hb=>?_⟩
       ·rw [hd2] at hb
        exact (hG b (by simp [show b ∈ F from hb])).1
       ·have hb:b ∈ F:=by
         have:g2.dom p b:=hb
         rw [hd2] at this
         exact this
        obtain ⟨z1,z2,z3⟩:=hG b (by simp [hb])
        exact ⟨z1,z2,fun i q _ hi=>z3 i q hi⟩)
      (fun hm _=>absurd (h.nfm p hm) (kx hf)) h.keep
     have hG2:∀ b ∈ G,¬ g2.I b ∧ (A.w0.heap.size ≤ b ∨ A.Pm b) ∧ ∀ i q,jp (jB H p (.live (.pt el (y.getD j d0).ll))) i = .live q → ¬ jM g2 i q b:=fun b hb=>by
      obtain ⟨z1,z2,z3⟩:=hG b (by simp [hb])
      refine ⟨z1,z2,fun i q hi hq=>?_⟩
      by_cases hip:p=i
      ·subst hip
       rw [jt _ hlt] at hi
       simp only [HS.live.injEq] at hi
       subst hi
       have:g2.dom p b:=hq
       rw [hd2] at this
       exact hnd.2.2 b this b hb rfl
      ·rw [jo _ hip] at hi
       refine z3 i q hi ?_
       cases q with
       | var t cs=>exact hq
       | row e l =>
        have h1:g2.val i=g.val i:=by simp only [g2]; rw [if_neg (fun k=>hip k.symm)]
        have h2:g2.dom i=g.dom i:=by simp only [g2]; rw [if_neg (fun k=>hip k.symm)]
        have hq':zq g2 i e b:=hq
        rw [Ku h1 h2] at hq'
        exact hq'
       | fz e l=>exact hq
       | pt e l =>
        have h2:g2.dom i=g.dom i:=by simp only [g2]; rw [if_neg (fun k=>hip k.symm)]
        have hq':g2.dom i b:=hq
        rw [h2] at hq'
        exact hq'
       | hl e l ix =>
        have h1:g2.val i=g.val i:=by simp only [g2]; rw [if_neg (fun k=>hip k.symm)]
        have h2:g2.dom i=g.dom i:=by simp only [g2]; rw [if_neg (fun k=>hip k.symm)]
        have hq':zq g2 i e b:=hq
        rw [Ku h1 h2] at hq'
        exact hq'
     obtain ⟨g',r,c,q⟩:=j0Z hr y (j + 1) (p + 1) up.1 hOG hG2 hys e2
     have hnf:nf (jB H p (.live (.pt el (y.getD j d0).ll))) p:=qj (jt _ hlt)
     exact ⟨g',r,up.2.trans c,⟨c.nf p hnf,hd.one,fun hrow=>by rw [(c.row p hnf hrow).2,hv2]⟩,q⟩
    ·simp at e
   ·simp at e
theorem RdH.out {ts:List CT}:∀ {l:List (List DC)} {vs:List Value} {F:List Nat},RdH ty w ts l vs F → ∀ (ix:Nat),ix < l.length → 0 < (l.getD ix []).length →
  ∃ (u:List Value) (F1 G F2:List Nat),(vs.drop (ix * ts.length)).take ts.length=u ∧ F=F1 ++ (G ++ F2) ∧ RdL ty w ts (l.getD ix []) u G ∧ RdH ty w ts (l.set ix []) vs (F1 ++ F2):=by
 intro l vs F h
 induction h with
 | nil=>intro ix h; simp at h
 | gone l v vs G h1 h2 ih =>
  intro ix hi hx
  cases ix with
  | zero=>simp at hx
  | succ ix =>
   obtain ⟨u,F1,G1,F2,q1,q2,q3,q4⟩:=ih ix (by simpa using hi) (by simpa using hx)
   refine ⟨u,F1,G1,F2,?_,q2,by simpa using q3,?_⟩
   ·rw [List.drop_append,List.drop_of_length_le (by rw [h1,Nat.succ_mul]; omega),jg,← q1]
    congr 2
    rw [h1,Nat.succ_mul]; omega
   ·rw [List.set_cons_succ]
    exact .gone _ _ _ _ h1 q4
 | cons x l v vs F G h1 h2 ih =>
  intro ix hi hx
  have hl:=(RdL.length h1).1
  cases ix with
  | zero =>
   refine ⟨v,[],F,G,?_,rfl,by simpa using h1,?_⟩
   ·rw [Nat.zero_mul,List.drop_zero,← hl,List.take_left']
    rfl
   ·rw [List.set_cons_zero]
    exact .gone _ _ _ _ hl h2
  | succ ix =>
   obtain ⟨u,F1,G1,F2,q1,q2,q3,q4⟩:=ih ix (by simpa using hi) (by simpa using hx)
   refine ⟨u,F ++ F1,G1,F2,?_,by rw [q2]; simp,by simpa using q3,?_⟩
   ·rw [List.drop_append,List.drop_of_length_le (by rw [hl,Nat.succ_mul]; omega),jg,← q1]
    congr 2
    rw [hl,Nat.succ_mul]; omega
   ·rw [List.set_cons_succ,jD]
    exact .cons _ _ _ _ _ _ h1 q4
theorem j5y (hty:y9 P ty) (t:TypeId) (x:Operand) (base:Nat) (ho:o.op = .load t x) {g:Gh} {H:List HS} (h:Rel ty A g ⟨tm,H⟩ a w) {c:Cls} {H':List HS} {id ix e':Nat} {ti te:TI} {l:List (List DC)} {ss:List S} {N:Obj'}
  (ht:ty t=some ti) (hid:opd tm x = .elO e' id ix 0) (hte:ty (yz e')=some te) (hrow:jp H id = .live (.row e' l)) (hdp:dp e'=true) (hcts:te.cts=ti.cts) (hst:jQ (some ti)=true)
  {vs u:List Value} {F F1 G F2:List Nat} (k2:w.ownsRow 0 (yz e') te.cts.length (g.val id) l.length vs) (k4:kz g w id e' F) (k5:∀ b,zq g id e' b → ¬ g.I b)
  (q2:(vs.drop (ix * te.cts.length)).take te.cts.length=u) (q3:F=F1 ++ (G ++ F2)) (q4:RdL ty w te.cts (l.getD ix []) u G)
  (hN:∀ g2:Gh,g2.I=g.I → g2.val=g.val → (∀ b,g2.dom id b ↔ b ∈ F1 ++ F2) → Own w (F1 ++ F2) → (∀ b ∈ F1 ++ F2,(g.val id).ownBlock ≠ some b) → (∀ b,zq g2 id e' b → ¬ g2.I b) → ∀ H2,OR ty g2 H2 w id N)
  (hNo:∀ g2:Gh,∀ b,jM g2 id N b ↔ zq g2 id e' b) (hNk:∀ b,(A.w0.heap.size ≤ b ∨ A.Pm b) → j19 A b N) (hNv:∀ t cs,N ≠ .var t cs) (hlen0:ix < l.length)
  (hcs:yB ti.cts (l.getD ix []) 0 base (jB H id (.live N))=some (ss,H')) :
  o.wp P a w (pD ty A g H w ⟨ka tm o.dst (.agg ss),H'⟩) Q:=by
 have hx:=h.opd x
 have htk:=hty t ti ht
 rw [hid] at hx
 obtain ⟨ti',b,len,cap,h1,h2,h3,h4⟩:=hx.2 ⟨_,_,.inl hrow⟩
 obtain rfl:te=ti':=by rw [hte] at h1; exact Option.some.inj h1
 have hlen:l.length=len:=by
  rcases k2.2 with ⟨hv,_⟩ | ⟨_,_,_,hv,_⟩
  ·rw [h2] at hv; simp at hv
  ·rw [h2] at hv; simp at hv; exact hv.2.1.symm
 obtain ⟨L1,L2,L3⟩:=(kz.deep hdp).1 k4
 have hGF:∀ b ∈ G,b ∈ F:=fun b hb=>by rw [q3]; simp [hb]
 have n1:=L1.nodup
 rw [q3] at n1
 have n2:=List.nodup_append.1 n1
 have n3:=List.nodup_append.1 n2.2.1
 have hOG:Own w G:=⟨n3.1,fun b hb=>L1.open' b (hGF b hb)⟩
 have hlt:=jF hrow
 have hR:Own w (F1 ++ F2):=⟨List.nodup_append.2 ⟨n2.1,n3.2.1,fun x hx y hy=>n2.2.2 x hx y (List.mem_append.2 (.inr hy))⟩,fun b hb=>L1.open' b (by rw [q3]; simp only [jC] at hb ⊢; rcases hb with hb | hb <;> simp [hb])⟩
 have hGn:∀ b ∈ G,b ∉ F1 ++ F2:=fun b hb hb'=>by
  rcases List.mem_append.1 hb' with hb' | hb'
  ·exact n2.2.2 b hb' b (List.mem_append.2 (.inl hb)) rfl
  ·exact n3.2.2 b hb b hb' rfl
 have hsubF:∀ b ∈ F1 ++ F2,b ∈ F:=fun b hb=>by rw [q3]; simp only [jC] at hb ⊢; rcases hb with hb | hb <;> simp [hb]
 let g2:Gh:={ I:=g.I,blk:=g.blk,val:=g.val,dom:=fun i=>if i=id then fun b=>b ∈ F1 ++ F2 else g.dom i }
 have hd2:g2.dom id=fun b=>b ∈ F1 ++ F2:=by simp [g2]
 have hrb:∀ b,zq g2 id e' b → zq g id e' b:=fun b hb=>by
  rcases hb with hb | ⟨h1,h2⟩
  ·exact .inl hb
  ·rw [hd2] at h2
   exact .inr ⟨h1,(L2 b).2 (hsubF b h2)⟩
 have up:=h.upd (id:=id) (x:=.live N) (g':=g2) (w':=w) hlt (by simp) rfl (fun i hi=>by simp [g2,hi]) (fun _ _=>⟨⟨_,_,.inl hrow⟩,rfl⟩)
  (fun _ hx=>by obtain ⟨t,cs,hx⟩:=hx; rw [jt _ hlt] at hx; exact absurd (HS.live.inj hx) (hNv t cs)) (fun b hb=>rfl) (Nat.le_refl _)
  (fun hch q hq=>by
   simp only [HS.live.injEq] at hq
   subst hq
   refine ⟨hN g2 rfl rfl (fun b=>by rw [hd2]) hR (fun b hb=>L3 b (hsubF b hb)) (fun b hb=>k5 b (hrb b hb)) _,fun b hb=>?_⟩
   have hb':=hrb b ((hNo g2 b).1 hb)
   exact ⟨k5 b hb',hNk b (show A.w0.heap.size ≤ b ∨ A.Pm b from h.ow id (.row e' l) b hrow hb'),fun i q hne hi hq=>h.sep id i _ q b (fun k=>hne k.symm) hrow hi hb' hq⟩)
  (fun hm hx=>by obtain ⟨t,cs,hx⟩:=hx; rw [jt _ hlt] at hx; exact absurd (HS.live.inj hx) (hNv t cs)) h.keep
 obtain ⟨r0,c0⟩:=up
 have hG:∀ b ∈ G,¬ g2.I b ∧ (A.w0.heap.size ≤ b ∨ A.Pm b) ∧ ∀ i q,jp (jB H id (.live N)) i = .live q → ¬ jM g2 i q b:=fun b hb=>by
  have hob:jM g id (.row e' l) b:=.inr ⟨hdp,(L2 b).2 (hGF b hb)⟩
  refine ⟨k5 b hob,h.ow id _ b hrow hob,fun i q hi hq=>?_⟩
  by_cases hii:id=i
  ·subst hii
   rw [jt _ hlt] at hi
   simp only [HS.live.injEq] at hi
   subst hi
   rcases (hNo g2 b).1 hq with hq | ⟨_,hq⟩
   ·exact L3 b (hGF b hb) hq
   ·rw [hd2] at hq
    exact hGn b hb hq
  ·rw [jo _ hii] at hi
   refine h.sep id i _ q b hii hrow hi hob ?_
   have h2:g2.dom i=g.dom i:=by simp only [g2]; rw [if_neg (fun k=>hii k.symm)]
   cases q with
   | var t cs=>exact hq
   | row e l =>
    have hq':zq g2 i e b:=hq
    rw [Ku (g:=g) (g':=g2) rfl h2] at hq'
    exact hq'
   | fz e l=>exact hq
   | pt e l =>
    have hq':g2.dom i b:=hq
    rw [h2] at hq'
    exact hq'
   | hl e l ix =>
    have hq':zq g2 i e b:=hq
    rw [Ku (g:=g) (g':=g2) rfl h2] at hq'
    exact hq'
 rw [← hcts] at hcs
 obtain ⟨g',r1,c1,s1⟩:=j0Z q4 (l.getD ix []) 0 base r0 hOG hG (fun i _=>by rw [Nat.zero_add]) hcs
 have hul:=(RdL.length q4).1
 refine jV (v:=.agg u.toArray) (w':=w) ?_ ⟨g',r1.put o.dst (c:=.agg ss) ⟨u,rfl,s1⟩,fun b hb=>c1.I b (c0.I b hb)⟩
 have hcell:∀ (j:Nat) (y:Value),u[j]? = some y → w.cell? ⟨b,ix * te.cts.length + 0 + j,none⟩=some y:=fun j y hy=>by
  have hj:j < te.cts.length:=by
   rcases jA j u.length with h' | h'
   ·omega
   ·simp [List.getElem?_eq_none h'] at hy
  have hk:ix * te.cts.length + 0 + j < l.length * te.cts.length:=by
   have:=Nat.mul_le_mul_right te.cts.length (show ix + 1 ≤ l.length by omega)
   rw [Nat.succ_mul] at this
   omega
  rw [World.ownsRow.cellAt (w:=w) (g:=b) (n:=l.length) (cap:=cap) (xs:=vs) (base:=0) (e:=yz e') (size:=te.cts.length) (by rw [hlen,← h2,← hlen]; exact k2) _ hk]
  rw [← q2,List.getElem?_take_of_lt hj,List.getElem?_drop] at hy
  rw [← hy,Nat.add_zero]
 have hl2:u.length=ti.cts.length:=by rw [hul,hcts]
 have:=XW htk w b (ix * te.cts.length + 0) u hl2 hcell
 rw [hst] at this
 simp only [Nat.add_zero,if_true] at this h4
 simp [execOp,ho,Instr.loadAt,h4,Instr.sureAddr,this]
theorem j8b (hty:y9 P ty) (t:TypeId) (x:Operand) (base:Nat) (ho:o.op = .load t x) {g:Gh} {H:List HS} (h:Rel ty A g ⟨tm,H⟩ a w) {c:Cls} {H':List HS} {v:C}
  (e:V1 (ρ:=Option (Cls × List HS × C)) ty none t base H (opd tm x) (fun c H v=>some (c,H,v))=some (c,H',v)) :
  o.wp P a w (pD ty A g H w ⟨ka tm o.dst v,H'⟩) Q:=by
 unfold V1 at e
 have hx:=h.opd x
 split at e
 ·rename_i ti el id ix ht hid
  split at e
  ·rename_i te e' l hte hrow
   split at e
   ·rename_i hc
    obtain ⟨hee,hdp,hsame,hst⟩:=hc
    subst hee
    have hcts:=CT.sameL_eq hsame
    obtain ⟨ti'',vs,F,k1,k0,k2,k3,k4,k5⟩:=h.ob id _ hrow
    obtain rfl:te=ti'':=by rw [hte] at k1; exact Option.some.inj k1
    have hlt:ix < l.length:=by
     have hx':=hx
     rw [hid] at hx'
     obtain ⟨ti',b,len,cap,h1,h2,h3,h4⟩:=hx'.2 ⟨_,_,.inl hrow⟩
     rcases k2.2 with ⟨hv,_⟩ | ⟨_,_,_,hv,_⟩
     ·rw [h2] at hv; simp at hv
     ·rw [h2] at hv; simp at hv; have:=hv.2.1; omega
    split at e
    ·rename_i hh
     split at e
     ·rename_i ss H1 hcs
      simp only [j8,ji] at e
      obtain ⟨_,rfl,rfl⟩:=e
      have k3:=k3.v hh
      obtain ⟨z,u,F1,G,F2,q1,q2,q3,q4,q5⟩:=RdV.upd k3 ix hlt
      have hz:l.getD ix []=z:=by rw [List.getD_eq_getElem?_getD,q1]; rfl
      refine j5y (c:=c) hty t x base ho h ht hid hte hrow hdp hcts hst k2 k4 k5 q2 q3 (by rw [hz]; exact q4) (N:=.hl e' l ix) ?_ (fun g2 b=>Iff.rfl) (fun b hb=>hb) (fun t cs k=>by cases k) hlt hcs
      intro g2 hI hv hd hR hn hb H2
      exact ⟨hdp,hlt,te,vs,F1,F2,hte,k0,by rw [hv]; exact k2,k3.length,fun w' x' v' Fr' h1 h2=>q5 w' x' v' Fr' h1 h2,hR,hd,by rw [hv]; exact hn,hb⟩
     ·simp at e
    ·rename_i hh
     split at e
     ·rename_i hpos
      split at e
      ·rename_i ss H1 hcs
       simp only [j8,ji] at e
       obtain ⟨_,rfl,rfl⟩:=e
       obtain ⟨u,F1,G,F2,q2,q3,q4,q5⟩:=RdH.out k3.h ix hlt hpos
       refine j5y (c:=c) hty t x base ho h ht hid hte hrow hdp hcts hst k2 k4 k5 q2 q3 q4 (N:=.row e' (l.set ix [])) ?_ (fun g2 b=>Iff.rfl) (fun b hb=>hb) (fun t cs k=>by cases k) hlt hcs
       intro g2 hI hv hd hR hn hb H2
       exact ⟨te,vs,F1 ++ F2,hte,k0,by rw [hv,List.length_set]; exact k2,.ofH hh q5,(kz.deep hdp).2 ⟨hR,hd,by rw [hv]; exact hn⟩,hb⟩
      ·simp at e
     ·simp at e
   ·simp at e
  ·simp at e
 ·simp at e
end
section
variable {P:Program} {ty:Nat → Option TI} {A:An} {tm:List C} {a:Act} {w:World}
def j4o:Obj' → Bool
 | .row e _=>dp e
 | .pt _ _=>true
 | _=>false
def p8 (g:Gh) (H:List HS) (v:Value) (b:Nat):Prop:=∃ j o,jp H j = .live o ∧ j4o o=true ∧ g.val j=v ∧ g.dom j b
def yR (ty:Nat → Option TI) (I D:Nat → Prop) (w:World) (e:Nat) (l:List (List DC)) (v:Value):Prop :=
 match pq e with
 | false=>∃ (ti:TI) (vs:List Value) (F:List Nat),ty (yz e)=some ti ∧ 0 < ti.cts.length ∧ w.ownsRow 0 (yz e) ti.cts.length v l.length vs ∧ RdR ty w e ti.cts l vs F ∧ yY I D v w e F
 | true=>∃ (F:List Nat),RdC ty w (.sl (e - 2000)) (.sl l) v F ∧ Own w F ∧ ∀ b,D b ↔ b ∈ F
def ZH (D:Nat → Prop) (v:Value) (e b:Nat):Prop :=
 match pq e with
 | false=>j7D D v e b
 | true=>D b
theorem yR.row {I D:Nat → Prop} {w:World} {e:Nat} {l:List (List DC)} {v:Value} (h:yR ty I D w e l v) (hp:pq e=false) :
  ∃ (ti:TI) (vs:List Value) (F:List Nat),ty (yz e)=some ti ∧ 0 < ti.cts.length ∧ w.ownsRow 0 (yz e) ti.cts.length v l.length vs ∧ RdR ty w e ti.cts l vs F ∧ yY I D v w e F:=by
 unfold yR at h; rw [hp] at h; exact h
theorem yR.part {I D:Nat → Prop} {w:World} {e:Nat} {l:List (List DC)} {v:Value} (h:yR ty I D w e l v) (hp:pq e=true) :
  ∃ (F:List Nat),RdC ty w (.sl (e - 2000)) (.sl l) v F ∧ Own w F ∧ ∀ b,D b ↔ b ∈ F:=by
 unfold yR at h; rw [hp] at h; exact h
theorem yR.ofRow {I D:Nat → Prop} {w:World} {e:Nat} {l:List (List DC)} {v:Value} (hp:pq e=false)
  (h:∃ (ti:TI) (vs:List Value) (F:List Nat),ty (yz e)=some ti ∧ 0 < ti.cts.length ∧ w.ownsRow 0 (yz e) ti.cts.length v l.length vs ∧ RdR ty w e ti.cts l vs F ∧ yY I D v w e F):yR ty I D w e l v:=by
 unfold yR; rw [hp]; exact h
theorem yR.ofPart {I D:Nat → Prop} {w:World} {e:Nat} {l:List (List DC)} {v:Value} (hp:pq e=true)
  (h:∃ (F:List Nat),RdC ty w (.sl (e - 2000)) (.sl l) v F ∧ Own w F ∧ ∀ b,D b ↔ b ∈ F):yR ty I D w e l v:=by
 unfold yR; rw [hp]; exact h
theorem yR.one {I D:Nat → Prop} {w:World} {e:Nat} {l:List (List DC)} {v:Value} (h:yR ty I D w e l v):v.oneCell'=true:=by
 cases hp:pq e with
 | false=>obtain ⟨_,_,_,_,_,h3,_⟩:=h.row hp; exact Y6 h3
 | true=>obtain ⟨_,h3,_⟩:=h.part hp; exact h3.one
theorem ja4 {n:Nat} (h:1000 ≤ n):dp n=true:=by
 unfold dp; rw [Nat.ble_eq]; exact h
theorem jcb {n:Nat} (h:dp n=true):1000 ≤ n:=by
 unfold dp at h; rwa [Nat.ble_eq] at h
theorem jbc {n:Nat} (h:4000 ≤ n):hq n=true:=by
 unfold hq; rw [Nat.ble_eq]; exact h
theorem jbL {n:Nat} (h:n < 4000):hq n=false:=by
 unfold hq; rw [Bool.eq_false_iff,Ne,Nat.ble_eq]; exact Nat.not_le_of_lt h
theorem jbn {n:Nat} (h:4000 ≤ n):yz n=n - 4000:=by
 unfold yz; rw [ja4 (Nat.le_trans (by decide) h),jbc h]
theorem jbo {n:Nat} (h:dp n=true) (k:hq n=false):yz n=n - 1000:=by
 unfold yz; rw [h,k]
theorem j7F {e:Nat} (h:dp e=false):pq (e + 2000)=true:=by
 have h1:e < 1000:=Decidable.byContradiction fun k=>by
  rw [ja4 (Nat.le_of_not_lt k)] at h
  cases h
 have h2:e + 2000 < 4000:=Nat.lt_of_lt_of_le (Nat.add_lt_add_right h1 2000) (by decide)
 have h3:2000 ≤ e + 2000:=Nat.le_add_left _ _
 generalize e + 2000=n at h2 h3 ⊢
 unfold pq
 rw [jbL h2]
 show Nat.ble 2000 n=true
 rw [Nat.ble_eq]
 exact h3
theorem j0m {D:Nat → Prop} {v:Value} {e b:Nat} (hp:pq e=false):ZH D v e b=j7D D v e b:=by unfold ZH; rw [hp]
theorem YU {D:Nat → Prop} {v:Value} {e b:Nat} (hp:pq e=true):ZH D v e b=D b:=by unfold ZH; rw [hp]
theorem Kj {e:Nat} {l:List (List DC)} (hp:pq e=false):kS e l = .row e l:=by unfold kS; rw [hp]
theorem Jp {e:Nat} {l:List (List DC)} (hp:pq e=true):kS e l = .pt (e - 2000) l:=by unfold kS; rw [hp]
theorem j4k {e t:Nat} {l:List (List DC)} {cs:List S} (h:kS e l = .var t cs):False:=by
 unfold kS at h; split at h <;> cases h
theorem j52 {A:An} {b e:Nat} {l:List (List DC)} (h:A.w0.heap.size ≤ b ∨ A.Pm b):j19 A b (kS e l):=by
 unfold kS; split <;> exact h
theorem pw {g:Gh} {id e b:Nat} {l:List (List DC)}:jM g id (kS e l) b ↔ ZH (g.dom id) (g.val id) e b:=by
 cases hp:pq e with
 | false=>rw [Kj hp,j0m hp]; exact Iff.rfl
 | true=>rw [Jp hp,YU hp]; exact Iff.rfl
theorem yR.or {g:Gh} {H:List HS} {w:World} {id e:Nat} {l:List (List DC)} (h:yR ty g.I (g.dom id) w e l (g.val id)) (hn:∀ b,ZH (g.dom id) (g.val id) e b → ¬ g.I b):OR ty g H w id (kS e l):=by
 cases hp:pq e with
 | false =>
  rw [Kj hp]
  obtain ⟨ti,vs,F,h1,h2,h3,h4,h5⟩:=h.row hp
  exact ⟨ti,vs,F,h1,h2,h3,h4,h5,fun b hb=>hn b (by rw [j0m hp]; exact hb)⟩
 | true =>
  rw [Jp hp]
  obtain ⟨F,h1,h2,h3⟩:=h.part hp
  exact ⟨F,h1,h2,h3,fun b hb=>hn b (by rw [YU hp]; exact hb)⟩
structure Loose (ty:Nat → Option TI) (A:An) (g:Gh) (D:Nat → Prop) (H:List HS) (w:World) (e:Nat) (l:List (List DC)) (v:Value):Prop where
 row:yR ty g.I D w e l v
 own:∀ b,ZH D v e b → ¬ g.I b ∧ (A.w0.heap.size ≤ b ∨ A.Pm b) ∧ ∀ i p,jp H i = .live p → ¬ jM g i p b
def NF (ty:Nat → Option TI) (A:An) (g:Gh) (H0 H:List HS) (w:World) (k:K1) (dd:List DC) (v:Value):Prop :=
 match k with
 | .u=>dd=[]
 | .b=>∃ x,dd=[.b x] ∧ v = .bool x
 | .i k=>∃ n,dd=[.i n] ∧ v = .int k n
 | .s=>∃ l,dd=[.s l] ∧ v = .string ⟨l.toArray⟩
 | .sl e=>∃ l F,dd=[.sl l] ∧ RdC ty w (.sl e) (.sl l) v F ∧ ∀ b ∈ F,g.I b
 | .own e _=>∃ l,dd=[.sl l] ∧ Loose ty A g (p8 g H0 v) H w e l v
 | .ptr id off=>dd=[] ∧ v.oneCell'=true ∧ (kN H0 id → v = .pointer (some ⟨g.blk id,off,none⟩))
 | .fn f caps=>dd=[] ∧ ∃ vs:Array Value,v = .func (.func f) #[] vs ∧ vs.size=caps.length ∧ ∀ (i id:Nat),caps[i]? = some id → (kN H0 id → vs[i]? = some (.pointer (some ⟨g.blk id,0,none⟩)))
 | .nil=>dd=[] ∧ v = .slice none 0 0
def FL (ty:Nat → Option TI) (A:An) (g:Gh) (H0 H:List HS) (w:World) (v:List DC):Nat → List K1 → List Value → Prop
 | _,[],[]=>True
 | n,k :: ks,u :: us=>(∃ dd,dd.length=k.cnt ∧ (∀ i,i < k.cnt → v.getD (n + i) d0=dd.getD i d0) ∧ NF ty A g H0 H w k dd u) ∧ FL ty A g H0 H w v (n + k.cnt) ks us
 | _,_,_=>False
def Zx (B:Value → Nat → Nat → Prop):List K1 → List Value → Prop
 | .own e0 _ :: ks,u :: us=>(∀ b,B u e0 b → ∀ (i:Nat) (e id:Nat) (x:Value),ks[i]? = some (.own e id) → us[i]? = some x → ¬ B x e b) ∧ Zx B ks us
 | _ :: ks,_ :: us=>Zx B ks us
 | _,_=>True
def ZZ (g:Gh) (H0:List HS) (v:Value) (e b:Nat):Prop:=ZH (p8 g H0 v) v e b
theorem yY.mono {I I' D:Nat → Prop} {v:Value} {e:Nat} {F:List Nat} (h:yY I D v w e F) (hI:∀ b,I b → I' b):yY I' D v w e F:=by
 unfold yY at h ⊢
 split <;> rename_i he <;> rw [he] at h
 ·exact fun b hb=>hI b (h b hb)
 ·exact h
theorem yR.mono {I I' D:Nat → Prop} {e:Nat} {l:List (List DC)} {v:Value} (h:yR ty I D w e l v) (hI:∀ b,I b → I' b):yR ty I' D w e l v:=by
 cases hp:pq e with
 | false =>
  obtain ⟨ti,vs,F,h1,h2,h3,h4,h5⟩:=h.row hp
  exact .ofRow hp ⟨ti,vs,F,h1,h2,h3,h4,h5.mono hI⟩
 | true=>exact .ofPart hp (h.part hp)
theorem Loose.mono {g g':Gh} {D:Nat → Prop} {H H':List HS} {e:Nat} {l:List (List DC)} {v:Value} (h:Loose ty A g D H w e l v) (hI:∀ b,g.I b → g'.I b)
  (hn:∀ b,g'.I b → g.I b ∨ ∃ i p,jp H i = .live p ∧ jM g i p b) (hH:∀ i p,jp H' i = .live p → (∃ q,jp H i = .live q ∧ ∀ b,jM g' i p b → jM g i q b)):Loose ty A g' D H' w e l v:=by
 refine ⟨h.row.mono hI,fun b hb=>?_⟩
 obtain ⟨k1,k2,k3⟩:=h.own b hb
 refine ⟨fun hI'=>?_,k2,fun i p hi hp=>?_⟩
 ·rcases hn b hI' with h' | ⟨i,p,hi,hp⟩
  ·exact k1 h'
  ·exact k3 i p hi hp
 ·obtain ⟨q,hq,hb'⟩:=hH i p hi
  exact k3 i q hq (hb' b hp)
theorem Kh {g g':Gh} (hb:g'.blk=g.blk) (hv:g'.val=g.val) (hd:g'.dom=g.dom) (i:Nat) (p:Obj'):jM g' i p=jM g i p:=by
 funext b
 cases p <;> simp only [jM,zq,hb,hv,hd]
theorem zj {g g':Gh} (hv:g'.val=g.val) (hd:g'.dom=g.dom) (H:List HS):p8 g' H=p8 g H:=by
 funext v b
 simp only [p8,hv,hd]
theorem j3T {g g':Gh} (hv:g'.val=g.val) (hd:g'.dom=g.dom) (H:List HS):ZZ g' H=ZZ g H:=by
 funext v e b
 simp only [ZZ,zj hv hd]
structure Src (g g':Gh) (H H':List HS):Prop where
 I:∀ b,g.I b → g'.I b
 new:∀ b,g'.I b → g.I b ∨ ∃ i p,jp H i = .live p ∧ (∀ t cs,p ≠ .var t cs) ∧ jM g i p b
 blk:g'.blk=g.blk
 val:g'.val=g.val
 dom:g'.dom=g.dom
 old:∀ i p,jp H' i = .live p → jp H i = .live p ∨ ∃ e l q,p = .fz e l ∧ jp H i = .live q
 var:∀ id,kN H id → kN H' id
theorem Src.refl (g:Gh) (H:List HS):Src g g H H:=⟨fun _ h=>h,fun _ h=>.inl h,rfl,rfl,rfl,fun i p h=>.inl h,fun _ h=>h⟩
theorem Src.trans {g g' g'':Gh} {H H' H'':List HS} (h:Src g g' H H') (k:Src g' g'' H' H''):Src g g'' H H'':=by
 refine ⟨fun b hb=>k.I b (h.I b hb),fun b hb=>?_,k.blk.trans h.blk,k.val.trans h.val,k.dom.trans h.dom,fun i p hi=>?_,fun id hv=>k.var id (h.var id hv)⟩
 ·rcases k.new b hb with hb | ⟨i,p,hi,hnv,hp⟩
  ·exact h.new b hb
  ·rcases h.old i _ hi with hq | ⟨e',l',q,hq,hq'⟩
   ·exact .inr ⟨i,p,hq,hnv,by rw [← Kh h.blk h.val h.dom]; exact hp⟩
   ·subst hq; simp [jM] at hp
 ·rcases k.old i p hi with hq | ⟨e,l,q,rfl,hq⟩
  ·exact h.old i p hq
  ·rcases h.old i q hq with hr | ⟨_,_,r,_,hr⟩
   ·exact .inr ⟨e,l,q,rfl,hr⟩
   ·exact .inr ⟨e,l,r,rfl,hr⟩
theorem Src.live {g g':Gh} {H H':List HS} (s:Src g g' H H') (i:Nat) (p:Obj') (hi:jp H' i = .live p):∃ q,jp H i = .live q ∧ ∀ b,jM g' i p b → jM g i q b:=by
 rcases s.old i p hi with hq | ⟨e,l,q,rfl,hq⟩
 ·exact ⟨p,hq,fun b hb=>by rw [← Kh s.blk s.val s.dom]; exact hb⟩
 ·exact ⟨q,hq,fun b hb=>by simp [jM] at hb⟩
theorem Src.newI {g g':Gh} {H H':List HS} (s:Src g g' H H') (b:Nat) (hb:g'.I b):g.I b ∨ ∃ i p,jp H i = .live p ∧ jM g i p b:=by
 rcases s.new b hb with h | ⟨i,p,h1,_,h2⟩
 ·exact .inl h
 ·exact .inr ⟨i,p,h1,h2⟩
theorem NF.mono {g g':Gh} {H0 H H':List HS} {k:K1} {dd:List DC} {v:Value} (s:Src g g' H H') (h:NF ty A g H0 H w k dd v):NF ty A g' H0 H' w k dd v:=by
 cases k with
 | sl e=>obtain ⟨l,F,h1,h2,h3⟩:=h; exact ⟨l,F,h1,h2,fun b hb=>s.I b (h3 b hb)⟩
 | own e id=>obtain ⟨l,h1,h2⟩:=h; exact ⟨l,h1,by rw [zj s.val s.dom]; exact h2.mono s.I s.newI s.live⟩
 | ptr id off=>obtain ⟨h1,h2,h3⟩:=h; exact ⟨h1,h2,fun hv=>by rw [s.blk]; exact h3 hv⟩
 | fn f caps=>obtain ⟨h1,vs,h2,h3,h4⟩:=h; exact ⟨h1,vs,h2,h3,fun i id hi hv=>by rw [s.blk]; exact h4 i id hi hv⟩
 | _=>exact h
theorem VM {H:List HS} {id:Nat} {x:HS} (hlt:id < H.length) {i:Nat} {p:Obj'} (hi:jp (jB H id x) i = .live p):(i=id ∧ x = .live p) ∨ (i ≠ id ∧ jp H i = .live p):=by
 by_cases e:id=i
 ·subst e; rw [jt _ hlt] at hi; exact .inl ⟨rfl,hi⟩
 ·rw [jo _ e] at hi; exact .inr ⟨fun h=>e h.symm,hi⟩
theorem j93 {g:Gh} {H:List HS} (h:Rel ty A g ⟨tm,H⟩ a w) {e:Nat} {s:S} {v:Value} {d:DC} {H':List HS} (hs:SR ty g H w s v) (e1:Vt H (.sl e) s=some (d,H')) :
  ∃ g' F l,d = .sl l ∧ Rel ty A g' ⟨tm,H'⟩ a w ∧ Ch g g' H H' w w ∧ Src g g' H H' ∧ RdC ty w (.sl e) (.sl l) v F ∧ ∀ b ∈ F,g'.I b:=by
 cases s with
 | sl e2 l =>
  simp only [Vt] at e1
  split at e1
  ·rename_i hk
   subst hk
   simp only [j8,ji] at e1
   obtain ⟨rfl,rfl⟩:=e1
   obtain ⟨F,h1,h2⟩:=hs
   exact ⟨g,F,l,rfl,h,.refl _ _ _,.refl _ _,h1,h2⟩
  ·simp at e1
 | nil =>
  simp only [Vt,j8,ji] at e1
  obtain ⟨rfl,rfl⟩:=e1
  exact ⟨g,[],[],rfl,h,.refl _ _ _,.refl _ _,by rw [show v=_ from hs]; exact .nil _ _ _,fun _ h=>by (cases h)⟩
 | own id =>
  obtain ⟨hn,_,hv⟩:=hs
  simp only [Vt] at e1
  split at e1
  ·rename_i e2 l hr
   split at e1
   ·rename_i hk
    obtain ⟨rfl,hh⟩:=hk
    simp only [j8,ji] at e1
    obtain ⟨rfl,rfl⟩:=e1
    obtain ⟨g',h1,h2,⟨F,h3,h4⟩,h5,h6,h7,h8⟩:=h.freeze2 hr hh
    refine ⟨g',F,l,rfl,h1,h2,⟨h2.I,fun b hb=>?_,h5,h6,h8,fun i p hi=>?_,fun i hvi=>?_⟩,by rw [hv ⟨_,_,.inl hr⟩,← h6]; exact h3,h4⟩
    ·rcases h7 b hb with hb | hb
     ·exact .inl hb
     ·exact .inr ⟨id,_,hr,(fun _ _ h=>by cases h),hb⟩
    ·rcases VM (jF hr) hi with ⟨rfl,hx⟩ | ⟨_,hi⟩
     ·exact .inr ⟨_,l,_,by simpa using hx.symm,hr⟩
     ·exact .inl hi
    ·obtain ⟨t,cs,hc⟩:=hvi
     have:id ≠ i:=by rintro rfl; rw [hr] at hc; simp at hc
     exact ⟨t,cs,by rw [jo _ this]; exact hc⟩
   ·simp at e1
  ·rename_i e2 l hr
   split at e1
   ·rename_i hk
    subst hk
    simp only [j8,ji] at e1
    obtain ⟨rfl,rfl⟩:=e1
    obtain ⟨F,h3,h4⟩:=h.read_fz hr
    exact ⟨g,F,l,rfl,h,.refl _ _ _,.refl _ _,by rw [hv ⟨_,_,.inr (.inl hr)⟩]; exact h3,h4⟩
   ·simp at e1
  ·rename_i e2 l hr
   split at e1
   ·rename_i hk
    subst hk
    simp only [j8,ji] at e1
    obtain ⟨rfl,rfl⟩:=e1
    obtain ⟨g',h1,h2,⟨F,h3,h4⟩,h5,h6,h7,h8⟩:=h.freezeP hr
    refine ⟨g',F,l,rfl,h1,h2,⟨h2.I,fun b hb=>?_,h5,h6,h8,fun i p hi=>?_,fun i hvi=>?_⟩,by rw [hv ⟨_,_,.inr (.inr (.inl hr))⟩,← h6]; exact h3,h4⟩
    ·rcases h7 b hb with hb | hb
     ·exact .inl hb
     ·exact .inr ⟨id,_,hr,(fun _ _ h=>by cases h),hb⟩
    ·rcases VM (jF hr) hi with ⟨rfl,hx⟩ | ⟨_,hi⟩
     ·exact .inr ⟨_,l,_,by simpa using hx.symm,hr⟩
     ·exact .inl hi
    ·obtain ⟨t,cs,hc⟩:=hvi
     have:id ≠ i:=by rintro rfl; rw [hr] at hc; simp at hc
     exact ⟨t,cs,by rw [jo _ this]; exact hc⟩
   ·simp at e1
  ·simp at e1
 | _=>simp [Vt] at e1
theorem j8t {g:Gh} {H H0:List HS} (h:Rel ty A g ⟨tm,H⟩ a w) (h0:∀ id,kN H0 id → kN H id) (hU:∀ j o,jp H j = .live o → j4o o=true → ∀ b,p8 g H0 (g.val j) b ↔ g.dom j b) (hN:∀ b,¬ p8 g H0 (.slice none 0 0) b) {k:K1} {s:S} {v:Value} {d:List DC} {H':List HS} (hs:SR ty g H w s v) (e1:zF ty H k s=some (d,H')) :
  ∃ g',Rel ty A g' ⟨tm,H'⟩ a w ∧ Ch g g' H H' w w ∧ Src g g' H H' ∧ NF ty A g' H0 H' w k d v ∧ d.length=k.cnt ∧
   (∀ e id,k = .own e id → ∀ b,ZZ g H0 v e b → ∃ i p,jp H i = .live p ∧ jM g i p b):=by
 have triv:∀ {d'},NF ty A g H0 H w k d' v → d'=d → H=H' → d.length=k.cnt → (∀ e id,k ≠ .own e id) → ∃ g',Rel ty A g' ⟨tm,H'⟩ a w ∧ Ch g g' H H' w w ∧ Src g g' H H' ∧ NF ty A g' H0 H' w k d v ∧ d.length=k.cnt ∧
   (∀ e id,k = .own e id → ∀ b,ZZ g H0 v e b → ∃ i p,jp H i = .live p ∧ jM g i p b):=by
  intro d' h1 h2 h3 h4 h5
  subst h2
  subst h3
  exact ⟨g,h,.refl _ _ _,.refl _ _,h1,h4,fun e id hk=>absurd hk (h5 e id)⟩
 unfold zF at e1
 split at e1
 ·simp only [j8,ji] at e1
  obtain ⟨rfl,rfl⟩:=e1
  exact triv (show NF ty A g H0 H w .u [] v from rfl) rfl rfl rfl (by simp)
 ·simp only [j8,ji] at e1
  obtain ⟨rfl,rfl⟩:=e1
  exact triv (show NF ty A g H0 H w .b _ v from ⟨_,rfl,hs⟩) rfl rfl rfl (by simp)
 ·split at e1
  ·rename_i hk
   subst hk
   simp only [j8,ji] at e1
   obtain ⟨rfl,rfl⟩:=e1
   exact triv (show NF ty A g H0 H w (.i _) _ v from ⟨_,rfl,hs⟩) rfl rfl rfl (by simp)
  ·simp at e1
 ·simp only [j8,ji] at e1
  obtain ⟨rfl,rfl⟩:=e1
  exact triv (show NF ty A g H0 H w .s _ v from ⟨_,rfl,hs⟩) rfl rfl rfl (by simp)
 ·split at e1
  ·rename_i d' H1 hd
   simp only [j8,ji] at e1
   obtain ⟨rfl,rfl⟩:=e1
   obtain ⟨g',F,l,rfl,h1,h2,h3,h4,h5⟩:=j93 h hs hd
   exact ⟨g',h1,h2,h3,⟨l,F,rfl,h4,h5⟩,rfl,by simp⟩
  ·simp at e1
 ·rename_i e id0 id
  split at e1
  ·rename_i e' l hr
   have key:∀ en:Nat,pq en=false → dp en=dp e' → yz en=yz e' → (∀ (ts:List CT) (vs:List Value) (F:List Nat),RdR ty w e' ts l vs F → RdR ty w en ts l vs F) → e=en → some ([DC.sl l],jB H id .dead)=some (d,H') →
     ∃ g',Rel ty A g' ⟨tm,H'⟩ a w ∧ Ch g g' H H' w w ∧ Src g g' H H' ∧ NF ty A g' H0 H' w (.own e id0) d v ∧ d.length=(K1.own e id0).cnt ∧
      (∀ e1 id1,K1.own e id0 = .own e1 id1 → ∀ b,ZZ g H0 v e1 b → ∃ i p,jp H i = .live p ∧ jM g i p b):=by
    intro en hpq hdn hun hrd hk e1
    subst hk
    simp only [j8,ji] at e1
    obtain ⟨rfl,rfl⟩:=e1
    obtain ⟨h1,h2⟩:=h.kill hr
    obtain ⟨ti,vs,F,k1,k0,k2,k3,k4,k5⟩:=h.ob id _ hr
    have hv:=hs.2.2 ⟨_,_,.inl hr⟩
    have hlt:=jF hr
    have hD:∀ b,ZH (p8 g H0 v) v e b ↔ zq g id e' b:=fun b=>by
     rw [j0m hpq]
     unfold zq j7D
     rw [hv,hdn]
     constructor
     ·rintro (hb | ⟨he,hb⟩)
      ·exact .inl hb
      ·exact .inr ⟨he,(hU id _ hr he b).1 hb⟩
     ·rintro (hb | ⟨he,hb⟩)
      ·exact .inl hb
      ·exact .inr ⟨he,(hU id _ hr he b).2 hb⟩
    have hL:yY g.I (p8 g H0 v) v w e F:=by
     unfold kz yY at k4
     unfold yY
     rw [hdn]
     cases he:dp e' with
     | false=>rw [he] at k4; exact k4
     | true =>
      rw [he] at k4
      rw [hv]
      exact ⟨k4.1,fun b=>(hU id _ hr he b).trans (k4.2.1 b),k4.2.2⟩
    have hR:yR ty g.I (p8 g H0 v) w e l v:=.ofRow hpq ⟨ti,vs,F,by rw [hun]; exact k1,k0,by rw [hv,hun]; exact k2,hrd _ _ _ k3,hL⟩
    refine ⟨g,h1,h2,⟨fun _ h=>h,fun _ h=>.inl h,rfl,rfl,rfl,fun i p hi=>?_,fun i hvi=>?_⟩,⟨l,rfl,⟨hR,fun b hb=>?_⟩⟩,rfl,fun _ _ hk b hb=>⟨id,_,hr,by
     simp only [K1.own.injEq] at hk
     rw [← hk.1] at hb
     exact (hD b).1 hb⟩⟩
    ·rcases VM hlt hi with ⟨_,hx⟩ | ⟨_,hi⟩
     ·simp at hx
     ·exact .inl hi
    ·obtain ⟨t,cs,hc⟩:=hvi
     have:id ≠ i:=by rintro rfl; rw [hr] at hc; simp at hc
     exact ⟨t,cs,by rw [jo _ this]; exact hc⟩
    ·have hb:=(hD b).1 hb
     refine ⟨k5 b hb,h.ow id _ b hr hb,fun i p hi hp=>?_⟩
     rcases VM hlt hi with ⟨_,hx⟩ | ⟨hne,hi⟩
     ·simp at hx
     ·exact h.sep i id p _ b hne hi hr hp hb
   split at e1
   ·rename_i hk
    obtain ⟨rfl,hpq⟩:=hk
    exact key e' hpq rfl rfl (fun _ _ _ h=>h) rfl e1
   ·split at e1
    ·rename_i hk
     obtain ⟨rfl,hde,hhe,_⟩:=hk
     have hge:4000 ≤ e' + 3000:=Nat.add_le_add_right (jcb hde) 3000
     have hun:e' + 3000 - 4000=e' - 1000:=Nat.add_sub_add_right e' 3000 1000
     generalize e' + 3000=n at *
     have hh:=jbc hge
     exact key n (by unfold pq; rw [hh]) (by rw [ja4 (Nat.le_trans (by decide) hge),hde]) (by rw [jbn hge,jbo hde hhe,hun]) (fun _ _ _ h=>.ofH hh h.h) rfl e1
    ·simp at e1
  ·rename_i e' l hr
   split at e1
   ·rename_i hk
    simp only [j8,ji] at e1
    obtain ⟨rfl,rfl⟩:=e1
    obtain ⟨hk,hdk⟩:=hk
    have hpq:pq e=true:=by rw [hk]; exact j7F hdk
    have hee:e - 2000=e':=by rw [hk]; exact Nat.add_sub_cancel _ _
    obtain ⟨h1,h2⟩:=h.kill hr
    obtain ⟨F,k1,k2,k3,k5⟩:=h.ob id _ hr
    have hv:=hs.2.2 ⟨_,_,.inr (.inr (.inl hr))⟩
    have hlt:=jF hr
    have hD:∀ b,ZH (p8 g H0 v) v e b ↔ g.dom id b:=fun b=>by
     rw [YU hpq,hv]
     exact hU id _ hr rfl b
    have hR:yR ty g.I (p8 g H0 v) w e l v:=.ofPart hpq ⟨F,by rw [hee,hv]; exact k1,k2,fun b=>by rw [hv]; exact (hU id _ hr rfl b).trans (k3 b)⟩
    refine ⟨g,h1,h2,⟨fun _ h=>h,fun _ h=>.inl h,rfl,rfl,rfl,fun i p hi=>?_,fun i hvi=>?_⟩,⟨l,rfl,⟨hR,fun b hb=>?_⟩⟩,rfl,fun _ _ hk b hb=>⟨id,_,hr,by
     simp only [K1.own.injEq] at hk
     rw [← hk.1] at hb
     exact (hD b).1 hb⟩⟩
    ·rcases VM hlt hi with ⟨_,hx⟩ | ⟨_,hi⟩
     ·simp at hx
     ·exact .inl hi
    ·obtain ⟨t,cs,hc⟩:=hvi
     have:id ≠ i:=by rintro rfl; rw [hr] at hc; simp at hc
     exact ⟨t,cs,by rw [jo _ this]; exact hc⟩
    ·have hb:=(hD b).1 hb
     refine ⟨k5 b hb,h.ow id _ b hr hb,fun i p hi hp=>?_⟩
     rcases VM hlt hi with ⟨_,hx⟩ | ⟨hne,hi⟩
     ·simp at hx
     ·exact h.sep i id p _ b hne hi hr hp hb
   ·simp at e1
  ·simp at e1
 ·rename_i e id
  split at e1
  ·rename_i hpq
   simp only [j8,ji] at e1
   obtain ⟨rfl,rfl⟩:=e1
   have hv:v = .slice none 0 0:=hs
   subst hv
   have hno:∀ b,¬ ZH (p8 g H0 (.slice none 0 0)) (.slice none 0 0) e b:=fun b hb=>by
    rw [YU hpq] at hb
    exact hN b hb
   exact ⟨g,h,.refl _ _ _,.refl _ _,⟨[],rfl,⟨.ofPart hpq ⟨[],.nil _ _ _,⟨List.nodup_nil,fun b hb=>by cases hb⟩,fun b=>⟨fun hb=>absurd hb (hN b),fun hb=>by cases hb⟩⟩,fun b hb=>absurd hb (hno b)⟩⟩,rfl,fun _ _ hk b hb=>by
    simp only [K1.own.injEq] at hk
    rw [← hk.1] at hb
    exact absurd hb (hno b)⟩
  rename_i hpq
  split at e1
  ·rename_i ti hti
   split at e1
   ·rename_i h0'
    simp only [j8,ji] at e1
    obtain ⟨rfl,rfl⟩:=e1
    have hv:v = .slice none 0 0:=hs
    subst hv
    have hno:∀ b,¬ ZH (p8 g H0 (.slice none 0 0)) (.slice none 0 0) e b:=fun b hb=>by
     rw [j0m hpq] at hb
     rcases hb with hb | ⟨_,hb⟩
     ·simp [Value.ownBlock] at hb
     ·exact hN b hb
    have hL:yY g.I (p8 g H0 (.slice none 0 0)) (.slice none 0 0) w e []:=by
     unfold yY
     split
     ·exact fun b hb=>by cases hb
     ·exact ⟨⟨List.nodup_nil,fun b hb=>by cases hb⟩,fun b=>⟨fun hb=>absurd hb (hN b),fun hb=>by cases hb⟩,fun b hb=>by cases hb⟩
    exact ⟨g,h,.refl _ _ _,.refl _ _,⟨[],rfl,⟨.ofRow hpq ⟨ti,[],[],hti,h0',World.ownsRow_nil _ _ _ _,.of (.nil _),hL⟩,fun b hb=>absurd hb (hno b)⟩⟩,rfl,fun _ _ hk b hb=>by
     simp only [K1.own.injEq] at hk
     rw [← hk.1] at hb
     exact absurd hb (hno b)⟩
   ·simp at e1
  ·simp at e1
 ·split at e1
  ·rename_i hk
   obtain ⟨rfl,rfl⟩:=hk
   simp only [j8,ji] at e1
   obtain ⟨rfl,rfl⟩:=e1
   exact triv (show NF ty A g H0 H w (.ptr _ _) [] v from ⟨rfl,hs.2.1,fun hv=>hs.2.2 (h0 _ hv)⟩) rfl rfl rfl (by simp)
  ·simp at e1
 ·split at e1
  ·rename_i hk
   obtain ⟨rfl,rfl⟩:=hk
   simp only [j8,ji] at e1
   obtain ⟨rfl,rfl⟩:=e1
   obtain ⟨vs,h1,h2,h3⟩:=hs
   exact triv (show NF ty A g H0 H w (.fn _ _) [] v from ⟨rfl,vs,h1,h2,fun i id hi hv=>(h3 i id hi).2 (h0 _ hv)⟩) rfl rfl rfl (by simp)
  ·simp at e1
 ·simp only [j8,ji] at e1
  obtain ⟨rfl,rfl⟩:=e1
  exact triv (show NF ty A g H0 H w .nil [] v from ⟨rfl,hs⟩) rfl rfl rfl (by simp)
 ·simp at e1
theorem Y8:∀ {ks:List K1} {ss:List S} {vs:List Value} {g:Gh} {H H0 H1:List HS} {d:List DC} (pre post:List DC),Rel ty A g ⟨tm,H⟩ a w → (∀ id,kN H0 id → kN H id) →
  (∀ j o,jp H j = .live o → j4o o=true → ∀ b,p8 g H0 (g.val j) b ↔ g.dom j b) → (∀ b,¬ p8 g H0 (.slice none 0 0) b) → qr ty g H w ss vs → pT ty H ks ss=some (d,H1) →
  ∃ g1,Rel ty A g1 ⟨tm,H1⟩ a w ∧ Src g g1 H H1 ∧ FL ty A g1 H0 H1 w (pre ++ (d ++ post)) pre.length ks vs ∧ Zx (ZZ g H0) ks vs ∧ d.length=VB ks ∧
   ∀ (i:Nat) (e id:Nat) (x:Value),ks[i]? = some (.own e id) → vs[i]? = some x → ∀ b,ZZ g H0 x e b → ∃ j p,jp H j = .live p ∧ jM g j p b
 | [],[],[],g,H,H0,H1,d,pre,post,h,h0,hU,hN,hs,e=>by
  simp only [pT,j8,ji] at e
  obtain ⟨rfl,rfl⟩:=e
  exact ⟨g,h,.refl _ _,trivial,trivial,rfl,fun i e id x hi=>by simp at hi⟩
 | k :: ks,s :: ss,v :: vs,g,H,H0,H2,d,pre,post,h,h0,hU,hN,hs,e=>by
  simp only [pT] at e
  split at e
  ·rename_i d1 H1 e1
   split at e
   ·rename_i d2 H2' e2
    simp only [j8,ji] at e
    obtain ⟨rfl,rfl⟩:=e
    obtain ⟨g1,r1,c1,s1,n1,l1,o1⟩:=j8t h h0 hU hN hs.1 e1
    obtain ⟨g2,r2,s2,n2,a2,l2,o2⟩:=Y8 (pre ++ d1) post r1 (fun id hv=>s1.var id (h0 id hv)) (fun j o hj hd b=>by
     rw [zj s1.val s1.dom,s1.val,s1.dom]
     rcases s1.old j _ hj with hq | ⟨_,_,_,hq,_⟩
     ·exact hU j o hq hd b
     ·subst hq; cases hd) (by rw [zj s1.val s1.dom]; exact hN) (hs.2.mono c1) e2
    rw [j3T s1.val s1.dom] at a2 o2
    refine ⟨g2,r2,s1.trans s2,⟨⟨d1,l1,fun i hi=>?_,n1.mono s2⟩,?_⟩,?_,by simp [VB,l1,l2],fun i e id x hi hx b hb=>?_⟩
    ·simp only [List.getD_eq_getElem?_getD]
     rw [List.getElem?_append_right (by omega),Nat.add_sub_cancel_left,jD,List.getElem?_append_left (by omega)]
    ·have:pre ++ (d1 ++ d2 ++ post)=pre ++ d1 ++ (d2 ++ post):=by simp
     rw [this,← l1,← jj]
     exact n2
    ·cases k with
     | own e id =>
      refine ⟨fun b hb i e' id' x hi hx hxb=>?_,a2⟩
      obtain ⟨j,p,hj,hp⟩:=o2 i e' id' x hi hx b hxb
      obtain ⟨l,_,hl⟩:=n1
      refine (hl.own b ?_).2.2 j p hj hp
      rw [zj s1.val s1.dom]
      exact hb
     | _=>exact a2
    ·cases i with
     | zero =>
      simp only [List.getElem?_cons_zero,j8] at hi hx
      subst hx
      exact o1 e id hi b hb
     | succ i =>
      simp only [List.getElem?_cons_succ] at hi hx
      obtain ⟨j,p,hj,hp⟩:=o2 i e id x hi hx b hb
      obtain ⟨q,hq,hq'⟩:=s1.live j p hj
      exact ⟨j,q,hq,hq' b hp⟩
   ·simp at e
  ·simp at e
 | [],_ :: _,_,_,_,_,_,_,_,_,_,_,_,_,_,e=>by simp [pT] at e
 | _ :: _,[],_,_,_,_,_,_,_,_,_,_,_,_,_,e=>by simp [pT] at e
 | [],[],_ :: _,_,_,_,_,_,_,_,_,_,_,_,hs,_=>hs.elim
 | _ :: _,_ :: _,[],_,_,_,_,_,_,_,_,_,_,_,hs,_=>hs.elim
theorem yG (v:List DC):∀ (n:Nat) (a b:List K1),mkL v n (a ++ b)=mkL v n a ++ mkL v (n + VB a) b
 | n,[],b=>rfl
 | n,k :: a,b=>by simp [mkL,VB,yG v (n + k.cnt) a b,Nat.add_assoc]
theorem yF (v:List DC):∀ (n:Nat) (a:List K1),(mkL v n a).length=a.length
 | n,[]=>rfl
 | n,k :: a=>by simp [mkL,yF v (n + k.cnt) a]
theorem qr.split {g:Gh} {H:List HS}:∀ {a b:List S} {xs:List Value},qr ty g H w (a ++ b) xs → ∃ ys zs,xs=ys ++ zs ∧ qr ty g H w a ys ∧ qr ty g H w b zs
 | [],b,xs,h=>⟨[],xs,rfl,trivial,h⟩
 | s :: a,b,x :: xs,h=>by
  obtain ⟨ys,zs,h1,h2,h3⟩:=qr.split (a:=a) h.2
  exact ⟨x :: ys,zs,by simp [h1],⟨h.1,h2⟩,h3⟩
 | s :: a,b,[],h=>h.elim
theorem qr.unappend {g:Gh} {H:List HS} {a b:List S} {xs ys:List Value} (h:qr ty g H w (a ++ b) (xs ++ ys)) (hl:xs.length=a.length):qr ty g H w a xs ∧ qr ty g H w b ys:=by
 obtain ⟨us,vs,h1,h2,h3⟩:=qr.split h
 have:=h2.length
 obtain ⟨rfl,rfl⟩:=List.append_inj h1 (by omega)
 exact ⟨h2,h3⟩
theorem j4P:∀ {ks:List KC} {cs:List C} {p:List S} {us:List Value} {g:Gh} {H:List HS},Jz ks cs=some p → us.length=cs.length → (∀ (i:Nat) (c:C) (v:Value),cs[i]? = some c → us[i]? = some v → CR ty g H w c v) →
  ∃ vs:List Value,qr ty g H w p vs ∧ p.length=(ks.flatMap KC.kinds).length ∧
   ∀ (g':Gh) (H':List HS) (v:List DC) (n:Nat),qr ty g' H' w (mkL v n (ks.flatMap KC.kinds)) vs →
    (mkT v n ks).length=us.length ∧ ∀ (i:Nat) (c:C) (u:Value),(mkT v n ks)[i]? = some c → us[i]? = some u → CR ty g' H' w c u
 | [],[],p,us,g,H,e,hl,hc=>by
  simp only [Jz,j8] at e
  subst e
  have:us=[]:=jm hl
  subst this
  exact ⟨[],trivial,rfl,fun g' H' v n h=>⟨rfl,fun i c u hi=>by simp [mkT] at hi⟩⟩
 | k :: ks,c :: cs,p,us,g,H,e,hl,hc=>by
  match us,hl with
  | u :: us,hl =>
   have hcs:∀ (i:Nat) (c:C) (v:Value),cs[i]? = some c → us[i]? = some v → CR ty g H w c v:=fun i c v h1 h2=>hc (i + 1) c v h1 h2
   have hl':us.length=cs.length:=by simpa using hl
   have hc0:=hc 0 c u rfl rfl
   have one:∀ (k1:K1) (s:S) (r:List S),k = .one k1 → p=s :: r → Jz ks cs=some r → SR ty g H w s u → ∃ vs:List Value,qr ty g H w p vs ∧ p.length=((k :: ks).flatMap KC.kinds).length ∧
     ∀ (g':Gh) (H':List HS) (v:List DC) (n:Nat),qr ty g' H' w (mkL v n ((k :: ks).flatMap KC.kinds)) vs →
      (mkT v n (k :: ks)).length=(u :: us).length ∧ ∀ (i:Nat) (c:C) (u':Value),(mkT v n (k :: ks))[i]? = some c → (u :: us)[i]? = some u' → CR ty g' H' w c u':=by
    intro k1 s r hk hp hr hs
    subst hk
    subst hp
    obtain ⟨vs,h1,h2,h3⟩:=j4P hr hl' hcs
    refine ⟨u :: vs,⟨hs,h1⟩,by simp [KC.kinds,h2],fun g' H' v n hh=>?_⟩
    simp only [jn,KC.kinds,List.singleton_append,mkL] at hh
    obtain ⟨q1,q2⟩:=h3 g' H' v (n + k1.cnt) hh.2
    refine ⟨by simp [mkT,q1],fun i c u' hi hu=>?_⟩
    cases i with
    | zero =>
     simp only [mkT,List.getElem?_cons_zero,j8] at hi hu
     subst hi
     subst hu
     exact hh.1
    | succ i =>
     simp only [mkT,List.getElem?_cons_succ] at hi hu
     exact q2 i c u' hi hu
   unfold Jz at e
   split at e
   ·rename_i heq _; simp at heq
   ·rename_i ks' c' cs' hk hcc
    simp only [List.cons.injEq] at hk hcc
    obtain ⟨rfl,rfl⟩:=hk
    obtain ⟨rfl,rfl⟩:=hcc
    split at e
    ·rename_i r hr
     simp only [j8] at e
     exact one .u .undef r rfl e.symm hr trivial
    ·simp at e
   ·rename_i k1 ks' s cs' _ hk hcc
    simp only [List.cons.injEq] at hk hcc
    obtain ⟨rfl,rfl⟩:=hk
    obtain ⟨rfl,rfl⟩:=hcc
    split at e
    ·rename_i r hr
     simp only [j8] at e
     exact one k1 s r rfl e.symm hr hc0
    ·simp at e
   ·rename_i l ks' ss cs' hk hcc
    simp only [List.cons.injEq] at hk hcc
    obtain ⟨rfl,rfl⟩:=hk
    obtain ⟨rfl,rfl⟩:=hcc
    split at e
    ·rename_i hlen
     split at e
     ·rename_i r hr
      simp only [j8] at e
      subst e
      obtain ⟨xs,hx,hs⟩:=hc0
      obtain ⟨vs,h1,h2,h3⟩:=j4P hr hl' hcs
      refine ⟨xs ++ vs,hs.append h1,by simp [KC.kinds,h2,hlen],fun g' H' v n hh=>?_⟩
      simp only [jn,KC.kinds,yG] at hh
      obtain ⟨hh1,hh2⟩:=hh.unappend (by rw [hs.length,yF,hlen])
      obtain ⟨q1,q2⟩:=h3 g' H' v _ hh2
      refine ⟨by simp [mkT,q1],fun i c u' hi hu=>?_⟩
      cases i with
      | zero =>
       simp only [mkT,List.getElem?_cons_zero,j8] at hi hu
       subst hi
       subst hu
       exact ⟨xs,hx,hh1⟩
      | succ i =>
       simp only [mkT,List.getElem?_cons_succ] at hi hu
       exact q2 i c u' hi hu
     ·simp at e
    ·simp at e
   ·simp at e
 | [],_ :: _,_,_,_,_,e,_,_=>by simp [Jz] at e
 | .one _ :: _,[],_,_,_,_,e,_,_=>by simp [Jz] at e
 | .agg _ :: _,[],_,_,_,_,e,_,_=>by simp [Jz] at e
theorem j4Q {g:Gh} {H:List HS} (h:Rel ty A g ⟨tm,H⟩ a w):∀ {ks:List KO} {id:Nat} {q:List S},j02 H id ks=some q →
  ∃ vs:List Value,qr ty g H w q vs ∧ q.length=(ks.flatMap KO.kinds).length ∧ (∀ (i t:Nat) (l:List K1),ks[i]? = some (.var t l) → kN H (id + i)) ∧
   ∀ (g':Gh) (H':List HS) (v:List DC) (n:Nat) (ks0:List K1),qr ty g' H' w (mkL v n (ks.flatMap KO.kinds)) vs →
    ∀ (i t:Nat) (cs:List S),(mkO v ks0 n id ks)[i]? = some (.live (.var t cs)) → (∀ t' l,ks[i]? ≠ some (.var t' l)) ∨
     ∃ us:List Value,w.heap[g.blk (id + i)]? = some (.cells us.toArray t (0,0)) ∧ qr ty g' H' w cs us ∧ ∀ u ∈ us,u.oneCell'=true
 | [],id,q,e=>by
  simp only [j02,j8] at e
  subst e
  exact ⟨[],trivial,rfl,fun i t l hi=>by simp at hi,fun g' H' v n ks0 _ i t cs hi=>by simp [mkO] at hi⟩
 | .u :: ks,id,q,e=>by
  simp only [j02] at e
  obtain ⟨vs,h1,h2,h4,h3⟩:=j4Q h e
  refine ⟨vs,h1,by simpa [KO.kinds] using h2,fun i t l hi=>?_,fun g' H' v n ks0 hh i t cs hi=>?_⟩
  ·cases i with
   | zero=>simp at hi
   | succ i=>rw [show id + (i + 1)=id + 1 + i by omega]; exact h4 i t l (by simpa using hi)
  ·cases i with
   | zero=>exact .inl fun t' l h=>by simp at h
   | succ i =>
    rcases h3 g' H' v n ks0 (by simpa [KO.kinds] using hh) i t cs (by simpa [mkO] using hi) with h | ⟨us,k1,k2⟩
    ·exact .inl fun t' l hk=>h t' l (by simpa using hk)
    ·exact .inr ⟨us,by rw [show id + (i + 1)=id + 1 + i by omega]; exact k1,k2⟩
 | .var t l :: ks,id,q,e=>by
  simp only [j02] at e
  split at e
  ·rename_i t' cs hv
   split at e
   ·rename_i hc
    obtain ⟨rfl,hc⟩:=hc
    split at e
    ·rename_i r hr
     simp only [j8] at e
     subst e
     obtain ⟨vs,h1,h2,h4,h3⟩:=j4Q h hr
     obtain ⟨us,k1,k2,k3,k4⟩:=h.ob id _ hv
     refine ⟨us ++ vs,k2.append h1,by simp [KO.kinds,h2,hc],fun i t l' hi=>?_,fun g' H' v n ks0 hh i t cs' hi=>?_⟩
     ·cases i with
      | zero=>exact ⟨_,_,hv⟩
      | succ i=>rw [show id + (i + 1)=id + 1 + i by omega]; exact h4 i t l' (by simpa using hi)
     ·simp only [jn,KO.kinds,yG] at hh
      obtain ⟨hh1,hh2⟩:=hh.unappend (by rw [k2.length,yF,hc])
      cases i with
      | zero =>
       simp only [mkO,List.getElem?_cons_zero,j8,HS.live.injEq,Obj'.var.injEq] at hi
       obtain ⟨rfl,rfl⟩:=hi
       exact .inr ⟨us,k1,hh1,k4⟩
      | succ i =>
       rcases h3 g' H' v _ ks0 hh2 i t cs' (by simpa [mkO] using hi) with h | ⟨us,k1,k2⟩
       ·exact .inl fun t' l hk=>h t' l (by simpa using hk)
       ·exact .inr ⟨us,by rw [show id + (i + 1)=id + 1 + i by omega]; exact k1,k2⟩
    ·simp at e
   ·simp at e
  ·simp at e
def qD (id:Nat):List K1 → List Value → Value
 | .own _ i :: ks,u :: us=>if i=id then u else qD id ks us
 | _ :: ks,_ :: us=>qD id ks us
 | _,_=>.nilIface
theorem QH {g:Gh} {H0 H:List HS} {v:List DC} (id:Nat):∀ {n:Nat} {ks:List K1} {us:List Value},FL ty A g H0 H w v n ks us →
  (zC v id n ks = .free ∧ ∀ (i:Nat) (e:Nat),ks[i]? ≠ some (.own e id)) ∨
  ∃ (e:Nat) (l:List (List DC)) (i:Nat),zC v id n ks = .live (kS e l) ∧ Loose ty A g (p8 g H0 (qD id ks us)) H w e l (qD id ks us) ∧ ks[i]? = some (.own e id) ∧ us[i]? = some (qD id ks us)
 | _,[],[],_=>.inl ⟨rfl,fun i e h=>by simp at h⟩
 | n,k :: ks,u :: us,⟨⟨dd,hd,hv,hn⟩,hf⟩=>by
  have other:(∀ e,k ≠ .own e id) → zC v id n (k :: ks)=zC v id (n + k.cnt) ks → qD id (k :: ks) (u :: us)=qD id ks us →
    (zC v id n (k :: ks) = .free ∧ ∀ (i:Nat) (e:Nat),(k :: ks)[i]? ≠ some (.own e id)) ∨
    ∃ (e:Nat) (l:List (List DC)) (i:Nat),zC v id n (k :: ks) = .live (kS e l) ∧ Loose ty A g (p8 g H0 (qD id (k :: ks) (u :: us))) H w e l (qD id (k :: ks) (u :: us)) ∧ (k :: ks)[i]? = some (.own e id) ∧ (u :: us)[i]? = some (qD id (k :: ks) (u :: us)):=by
   intro h1 h2 h3
   rw [h2,h3]
   rcases QH id hf with ⟨q1,q2⟩ | ⟨e,l,i,q1,q2,q3,q4⟩
   ·refine .inl ⟨q1,fun i e hi=>?_⟩
    cases i with
    | zero=>exact h1 e (by simpa using hi)
    | succ i=>exact q2 i e (by simpa using hi)
   ·exact .inr ⟨e,l,i + 1,q1,q2,by simpa using q3,by simpa using q4⟩
  cases k with
  | own e i =>
   by_cases hi:i=id
   ·subst hi
    obtain ⟨l,rfl,hl⟩:=hn
    have:=hv 0 (by simp [K1.cnt])
    simp only [Nat.add_zero,List.getD_cons_zero] at this
    exact .inr ⟨e,l,0,by rw [zC,if_pos rfl,this]; rfl,by simpa [qD] using hl,rfl,by simp [qD]⟩
   ·exact other (fun e' h=>by simp at h; exact hi h.2) (by simp [zC,hi,K1.cnt]) (by simp [qD,hi])
  | _=>exact other (fun e' h=>by simp at h) rfl rfl
 | _,[],_ :: _,h=>h.elim
 | _,_ :: _,[],h=>h.elim
theorem Jw {x:Nat} {l:List Nat} (h:y6 (x :: l)=true):x ∉ l ∧ y6 l=true:=by
 simp only [y6,jk,Bool.not_eq_true',List.contains_eq_mem,decide_eq_false_iff_not] at h
 exact h
theorem V8 {ks:List K1} {i e id:Nat} (h:ks[i]? = some (.own e id)):id ∈ ks.flatMap K1.ids :=
 List.mem_flatMap.2 ⟨_,List.mem_of_getElem? h,by simp [K1.ids]⟩
theorem KD {id:Nat}:∀ {ks:List K1} {us:List Value} {i e:Nat} {u:Value},y6 (ks.flatMap K1.ids)=true → ks[i]? = some (.own e id) → us[i]? = some u → qD id ks us=u
 | [],_,i,e,u,_,h,_=>by simp at h
 | k :: ks,[],i,e,u,_,_,h=>by simp at h
 | k :: ks,x :: us,0,e,u,hn,h1,h2=>by
  simp only [List.getElem?_cons_zero,j8] at h1 h2
  subst h1
  subst h2
  simp [qD]
 | k :: ks,x :: us,i + 1,e,u,hn,h1,h2=>by
  simp only [List.getElem?_cons_succ] at h1 h2
  cases k with
  | own e' id' =>
   have hn':y6 (id' :: ks.flatMap K1.ids)=true:=by simpa [K1.ids] using hn
   obtain ⟨k1,k2⟩:=Jw hn'
   have:id' ≠ id:=by
    rintro rfl
    exact k1 (V8 h1)
   simp [qD,this,KD k2 h1 h2]
  | _ =>
   simp only [qD]
   exact KD (by simpa [K1.ids] using hn) h1 h2
theorem QK {B:Value → Nat → Nat → Prop}:∀ {ks:List K1} {us:List Value} {i j e id e' id':Nat} {u x:Value},Zx B ks us → ks[i]? = some (.own e id) → us[i]? = some u → ks[j]? = some (.own e' id') → us[j]? = some x → i < j → ∀ b,B u e b → ¬ B x e' b
 | [],_,i,j,_,_,_,_,_,_,_,h,_,_,_,_=>by simp at h
 | k :: ks,[],i,j,_,_,_,_,_,_,_,_,h,_,_,_=>by simp at h
 | k :: ks,y :: us,0,0,_,_,_,_,_,_,_,_,_,_,_,h=>by omega
 | k :: ks,y :: us,0,j + 1,e,id,e',id',u,x,ha,h1,h2,h3,h4,_=>by
  simp only [List.getElem?_cons_zero,j8] at h1 h2
  simp only [List.getElem?_cons_succ] at h3 h4
  subst h1
  subst h2
  exact fun b hb=>ha.1 b hb j e' id' x h3 h4
 | k :: ks,y :: us,i + 1,0,_,_,_,_,_,_,_,_,_,_,_,h=>by omega
 | k :: ks,y :: us,i + 1,j + 1,e,id,e',id',u,x,ha,h1,h2,h3,h4,hij=>by
  simp only [List.getElem?_cons_succ] at h1 h2 h3 h4
  have ha':Zx B ks us:=by
   cases k with
   | own _ _=>exact ha.2
   | _=>exact ha
  exact QK ha' h1 h2 h3 h4 (by omega)
theorem jaq {g g':Gh} {H0 H H':List HS} {v:List DC} (hI:∀ b,g.I b → g'.I b) (hb:g'.blk=g.blk):∀ {n:Nat} {ks:List K1} {us:List Value},FL ty A g H0 H w v n ks us →
  (∀ (i e id:Nat) (u:Value),ks[i]? = some (.own e id) → us[i]? = some u → nf H' id ∧ g'.val id=u) →
  (∀ id ∈ ks.flatMap K1.pids,nf H' id ∧ (kN H' id → kN H0 id)) → qr ty g' H' w (mkL v n ks) us
 | _,[],[],_,_,_=>trivial
 | n,k :: ks,u :: us,⟨⟨dd,hd,hv,hn⟩,hf⟩,ho,hp=>by
  refine ⟨?_,jaq hI hb hf (fun i e id x h1 h2=>ho (i + 1) e id x (by simpa using h1) (by simpa using h2)) (fun id hid=>hp id (by simp only [jn,jC]; exact .inr hid))⟩
  have h0:0 < k.cnt → v.getD n d0=dd.getD 0 d0:=fun h=>by simpa using hv 0 h
  have hpk:∀ id ∈ k.pids,nf H' id ∧ (kN H' id → kN H0 id):=fun id hid=>hp id (by simp only [jn,jC]; exact .inl hid)
  cases k with
  | u=>trivial
  | b =>
   obtain ⟨x,rfl,rfl⟩:=hn
   simp only [K1.mk,SR]
   rw [h0 (by simp [K1.cnt])]
   rfl
  | i kd =>
   obtain ⟨x,rfl,rfl⟩:=hn
   simp only [K1.mk,SR]
   rw [h0 (by simp [K1.cnt])]
   rfl
  | s =>
   obtain ⟨x,rfl,rfl⟩:=hn
   simp only [K1.mk,SR]
   rw [h0 (by simp [K1.cnt])]
   rfl
  | sl e =>
   obtain ⟨l,F,rfl,h1,h2⟩:=hn
   simp only [K1.mk,SR]
   rw [h0 (by simp [K1.cnt])]
   exact ⟨F,h1,fun b hb=>hI b (h2 b hb)⟩
  | own e id =>
   obtain ⟨l,rfl,hl⟩:=hn
   obtain ⟨h1,h2⟩:=ho 0 e id u rfl rfl
   exact ⟨h1,hl.row.one,fun _=>h2.symm⟩
  | ptr id off =>
   obtain ⟨_,h1,h2⟩:=hn
   obtain ⟨h3,h4⟩:=hpk id (by simp [K1.pids])
   exact ⟨h3,h1,fun hv=>by rw [hb]; exact h2 (h4 hv)⟩
  | fn f caps =>
   obtain ⟨_,vs,h1,h2,h3⟩:=hn
   refine ⟨vs,h1,h2,fun i id hi=>?_⟩
   obtain ⟨h4,h5⟩:=hpk id (by simpa [K1.pids] using List.mem_of_getElem? hi)
   exact ⟨h4,fun hv=>by rw [hb]; exact h3 i id hi (h5 hv)⟩
  | nil=>exact hn.2
 | _,[],_ :: _,h,_,_=>h.elim
 | _,_ :: _,[],h,_,_=>h.elim
theorem j2x (v:List DC) (ks0:List K1):∀ (kos:List KO) (n id i:Nat),
  ((mkO v ks0 n id kos)[i]? = none ∧ kos[i]? = none) ∨ ((mkO v ks0 n id kos)[i]? = some (zC v (id + i) 0 ks0) ∧ kos[i]? = some .u) ∨ ∃ t l cs,(mkO v ks0 n id kos)[i]? = some (.live (.var t cs)) ∧ kos[i]? = some (.var t l)
 | [],n,id,i=>.inl ⟨by simp [mkO],by simp⟩
 | .u :: kos,n,id,0=>.inr (.inl ⟨by simp [mkO],rfl⟩)
 | .var t l :: kos,n,id,0=>.inr (.inr ⟨t,l,mkL v n l,by simp [mkO],rfl⟩)
 | .u :: kos,n,id,i + 1=>by
  have:=j2x v ks0 kos n (id + 1) i
  rw [show id + 1 + i=id + (i + 1) by omega] at this
  simpa [mkO] using this
 | .var t l :: kos,n,id,i + 1=>by
  have:=j2x v ks0 kos (n + VB l) (id + 1) i
  rw [show id + 1 + i=id + (i + 1) by omega] at this
  simpa [mkO] using this
theorem j7H {g:Gh} {H:List HS} (h:Rel ty A g ⟨tm,H⟩ a w) {j b:Nat} {o:Obj'} (hj:jp H j = .live o) (ho:j4o o=true) (hb:g.dom j b):∃ k off m c,g.val j = .slice (some ⟨k,off,none⟩) m c ∧ 0 < m ∧ jM g j o k:=by
 cases o with
 | var t cs=>cases ho
 | fz e l=>cases ho
 | hl e l ix=>cases ho
 | row e l =>
  obtain ⟨ti,vs,F,k1,k0,k2,k3,k4,k5⟩:=h.ob j _ hj
  have hl0:l ≠ []:=fun hl=>by
   subst hl
   have k3:=k3.h
   cases k3
   exact absurd ((((kz.deep ho).1 k4).2.1 b).1 hb) (by simp)
  rcases k2.2 with ⟨hn,hl⟩ | ⟨k,cap,cur,hn,_⟩
  ·exact absurd (jm hl) hl0
  ·exact ⟨k,0,_,cap,hn,List.length_pos_iff.2 hl0,.inl (by rw [hn]; rfl)⟩
 | pt e l =>
  obtain ⟨F,k1,k2,k3,k5⟩:=h.ob j _ hj
  generalize hv:g.val j=v at k1
  cases k1 with
  | nil=>exact absurd ((k3 b).1 hb) (by simp)
  | sl _ ti k off n cap _ vs F h1 h0 h2 h3=>exact ⟨k,off,n,cap,rfl,by rw [h2]; exact List.length_pos_iff.2 h3,(k3 k).2 (by simp)⟩
theorem jbC {g:Gh} {H:List HS} (h:Rel ty A g ⟨tm,H⟩ a w) {j k off m c:Nat} {o:Obj'} (hj:jp H j = .live o) (ho:j4o o=true) (hv:g.val j = .slice (some ⟨k,off,none⟩) m c) (hm:0 < m):jM g j o k:=by
 cases o with
 | var t cs=>cases ho
 | fz e l=>cases ho
 | hl e l ix=>cases ho
 | row e l=>exact .inl (by rw [hv]; rfl)
 | pt e l =>
  obtain ⟨F,k1,k2,k3,k5⟩:=h.ob j _ hj
  rw [hv] at k1
  cases k1 with
  | nil=>exact absurd hm (Nat.lt_irrefl 0)
  | sl _ ti _ _ _ _ _ vs F h1 h0 h2 h3=>exact (k3 k).2 (by simp)
theorem j01 {g:Gh} {H:List HS} (h:Rel ty A g ⟨tm,H⟩ a w) (j:Nat) (o:Obj') (hj:jp H j = .live o) (hd:j4o o=true) (b:Nat):p8 g H (g.val j) b ↔ g.dom j b:=by
 constructor
 ·rintro ⟨j',o',hj',hd',hv,hb⟩
  by_cases hjj:j'=j
  ·rw [← hjj]; exact hb
  ·obtain ⟨k,off,m,c,h1,h2,h3⟩:=j7H h hj' hd' hb
   exact absurd (jbC h hj hd (by rw [← hv]; exact h1) h2) (h.sep j' j _ _ k hjj hj' hj h3)
 ·exact fun hb=>⟨j,o,hj,hd,rfl,hb⟩
theorem j2u {g:Gh} {H:List HS} (h:Rel ty A g ⟨tm,H⟩ a w) (b:Nat):¬ p8 g H (.slice none 0 0) b:=by
 rintro ⟨j',o',hj',hd',hv,hb⟩
 obtain ⟨k,off,m,c,h1,h2,h3⟩:=j7H h hj' hd' hb
 rw [hv] at h1
 simp at h1
theorem Xj {g:Gh} {st:St} {mm:Nat} {h:Hint} {v:List DC} (hr:Rel ty A g st a w) (hm:A.m=mm) (e:j0d ty mm h st=some v):∃ g',Rel ty A g' (KJ h v) a w:=by
 obtain ⟨tm,H⟩:=st
 unfold j0d at e
 split at e
 ·rename_i hok
  split at e
  ·rename_i p q hp hq
   split at e
   ·rename_i v' H1 hv
    simp only [j8] at e
    subst e
    simp only at hp hq hv
    obtain ⟨vs1,a1,a2,a3⟩:=j4P (us:=a.tmps.toList) (ty:=ty) (w:=w) (g:=g) (H:=H) hp (by simpa using hr.len.symm) (fun i c x h1 h2=>hr.tm i c x h1 (by simpa using h2))
    obtain ⟨vs2,b1,b2,b3,b4⟩:=j4Q hr hq
    have hU:=j01 hr
    have hN:=j2u hr
    obtain ⟨g1,r1,s1,f1,ap,l1,_⟩:=Y8 (H0:=H) [] [] hr (fun _ h=>h) hU hN (a1.append b1) hv
    simp only [jg,jv,jf] at f1
    simp only [Hint.okM,Hint.ok,jk,List.all_eq_true] at hok
    obtain ⟨⟨⟨hnd,hids⟩,hpids⟩,hmm⟩:=hok
    have hV1:vs1.length=(h.tm.flatMap KC.kinds).length:=by rw [a1.length,a2]
    let g':Gh:={ I:=g1.I,blk:=g.blk,val:=fun id=>qD id h.kinds (vs1 ++ vs2),dom:=fun id=>p8 g H (qD id h.kinds (vs1 ++ vs2)) }
    let H':=mkO v' h.kinds (VB (h.tm.flatMap KC.kinds)) 0 h.ob
    have hget:∀ id,(jp H' id = .dead ∧ h.ob[id]? = none) ∨ (jp H' id=zC v' id 0 h.kinds ∧ h.ob[id]? = some .u) ∨ ∃ t l cs,jp H' id = .live (.var t cs) ∧ h.ob[id]? = some (.var t l) ∧ H'[id]? = some (.live (.var t cs)):=by
     intro id
     rcases j2x v' h.kinds h.ob (VB (h.tm.flatMap KC.kinds)) 0 id with ⟨k1,k2⟩ | ⟨k1,k2⟩ | ⟨t,l,cs,k1,k2⟩
     ·exact .inl ⟨by simp [jp,H',List.getD_eq_getElem?_getD,k1],k2⟩
     ·exact .inr (.inl ⟨by simp [jp,H',List.getD_eq_getElem?_getD,k1],k2⟩)
     ·exact .inr (.inr ⟨t,l,cs,by simp [jp,H',List.getD_eq_getElem?_getD,k1],k2,k1⟩)
    have hvar:∀ id,kN H' id → kN H id:=by
     intro id ⟨t,cs,hc⟩
     rcases hget id with ⟨k1,_⟩ | ⟨k1,_⟩ | ⟨t',l,cs',k1,k2,_⟩
     ·rw [k1] at hc; simp at hc
     ·rw [k1] at hc
      rcases QH id f1 with ⟨q1,_⟩ | ⟨e,l,i,q1,_⟩
      ·rw [q1] at hc; simp at hc
      ·rw [q1] at hc; exact (j4k (HS.live.inj hc)).elim
     ·have:=b3 id t' l k2
      rwa [Nat.zero_add] at this
    have hown:∀ (i e id:Nat) (u:Value),h.kinds[i]? = some (.own e id) → (vs1 ++ vs2)[i]? = some u → nf H' id ∧ g'.val id=u:=by
     intro i e id u h1 h2
     refine ⟨?_,KD hnd h1 h2⟩
     have hin:=hids id (V8 h1)
     rcases hget id with ⟨_,k2⟩ | ⟨k1,_⟩ | ⟨t,l,cs,k1,k2,_⟩
     ·rw [k2] at hin; simp at hin
     ·rcases QH id f1 with ⟨q1,q2⟩ | ⟨e',l,i',q1,_⟩
      ·exact absurd h1 (q2 i e)
      ·exact qj (k1.trans q1)
     ·exact qj k1
    have hptr:∀ id ∈ h.kinds.flatMap K1.pids,nf H' id ∧ (kN H' id → kN H id):=by
     intro id hid
     refine ⟨?_,hvar id⟩
     have hin:=hpids id hid
     rcases hget id with ⟨_,k2⟩ | ⟨_,k2⟩ | ⟨t,l,cs,k1,k2,_⟩
     ·rw [k2] at hin; simp at hin
     ·rw [k2] at hin; simp [KO.isU] at hin
     ·exact qj k1
    have hsrl:qr ty g' H' w (mkL v' 0 h.kinds) (vs1 ++ vs2):=jaq (g:=g1) (g':=g') (fun _ h=>h) s1.blk.symm f1 hown hptr
    rw [Hint.kinds,yG,Nat.zero_add] at hsrl
    obtain ⟨t1,t2⟩:=hsrl.unappend (by rw [hV1,yF])
    obtain ⟨c1,c2⟩:=a3 g' H' v' 0 t1
    have hobj:∀ id o,jp H' id = .live o → (∃ t cs us,o = .var t cs ∧ w.heap[g.blk id]? = some (.cells us.toArray t (0,0)) ∧ qr ty g' H' w cs us ∧ (∀ u ∈ us,u.oneCell'=true) ∧ kN H id) ∨
      ∃ (e:Nat) (l:List (List DC)) (i:Nat),o=kS e l ∧ Loose ty A g1 (g'.dom id) H1 w e l (g'.val id) ∧ h.kinds[i]? = some (.own e id) ∧ (vs1 ++ vs2)[i]? = some (g'.val id):=by
     intro id o ho
     rcases hget id with ⟨k1,_⟩ | ⟨k1,_⟩ | ⟨t,l,cs,k1,k2,k3⟩
     ·rw [k1] at ho; simp at ho
     ·rcases QH id f1 with ⟨q1,_⟩ | ⟨e,l,i,q1,q2,q3,q4⟩
      ·rw [k1,q1] at ho; simp at ho
      ·rw [k1,q1] at ho
       simp only [HS.live.injEq] at ho
       rw [zj s1.val s1.dom] at q2
       exact .inr ⟨e,l,i,ho.symm,q2,q3,q4⟩
     ·rw [k1] at ho
      simp only [HS.live.injEq] at ho
      rcases b4 g' H' v' _ h.kinds t2 id t cs k3 with hno | ⟨us,u1,u2,u3⟩
      ·exact absurd k2 (hno t l)
      ·rw [Nat.zero_add] at u1
       exact .inl ⟨t,cs,us,ho.symm,u1,u2,u3,hvar id ⟨t,cs,k1⟩⟩
    have hvarI:∀ id,kN H id → ¬ g1.I (g.blk id):=by
     intro id ⟨t,cs,hc⟩ hI
     obtain ⟨_,_,_,k3,_⟩:=hr.ob id _ hc
     rcases s1.new _ hI with hI | ⟨i,p,hi,hnv,hb⟩
     ·exact k3 hI
     ·by_cases hii:i=id
      ·subst hii
       rw [hc] at hi
       simp only [HS.live.injEq] at hi
       exact hnv t cs hi.symm
      ·exact hr.sep i id _ _ _ hii hi hc hb rfl
    refine ⟨g',⟨by simpa [KJ] using c1,fun i c x h1 h2=>c2 i c x h1 (by simpa using h2),fun id o ho=>?_,fun i j o p b hij hi hj hb hb'=>?_,r1.lt,r1.inI,fun id o b ho hb=>?_,fun j hj=>?_,fun j hj hv=>?_,r1.keep,r1.df⟩⟩
    ·rcases hobj id o ho with ⟨t,cs,us,rfl,k1,k2,k3,k4⟩ | ⟨e,l,i,rfl,k1,k2,k3⟩
     ·exact ⟨us,k1,k2,hvarI id k4,k3⟩
     ·exact yR.or k1.row fun b hb=>(k1.own b hb).1
    ·rcases hobj i o hi with ⟨t,cs,us,rfl,k1,k2,k3,k4⟩ | ⟨e,l,n,rfl,k1,k2,k3⟩
     ·rcases hobj j p hj with ⟨t',cs',us',rfl,k1',k2',k3',k4'⟩ | ⟨e,l,n,rfl,k1',k2',k3'⟩
      ·obtain ⟨t1,c1,h1⟩:=k4
       obtain ⟨t2,c2,h2⟩:=k4'
       exact hr.sep i j _ _ b hij h1 h2 (show jM g i (.var t1 c1) b from hb) (show jM g j (.var t2 c2) b from hb')
      ·obtain ⟨t1,c1,h1⟩:=s1.var i k4
       refine (k1'.own b (pw.1 hb')).2.2 i _ h1 ?_
       rw [Kh s1.blk s1.val s1.dom]
       exact hb
     ·rcases hobj j p hj with ⟨t',cs',us',rfl,k1',k2',k3',k4'⟩ | ⟨e',l',n',rfl,k1',k2',k3'⟩
      ·obtain ⟨t1,c1,h1⟩:=s1.var j k4'
       refine (k1.own b (pw.1 hb)).2.2 j _ h1 ?_
       rw [Kh s1.blk s1.val s1.dom]
       exact hb'
      ·rcases Nat.lt_trichotomy n n' with hlt | rfl | hlt
       ·exact QK ap k2 k3 k2' k3' hlt b (pw.1 hb) (pw.1 hb')
       ·rw [k2] at k2'
        simp only [j8,K1.own.injEq] at k2'
        exact hij k2'.2
       ·exact QK ap k2' k3' k2 k3 hlt b (pw.1 hb') (pw.1 hb)
    ·rcases hobj id o ho with ⟨t,cs,us,rfl,k1,k2,k3,k4⟩ | ⟨e,l,i,rfl,k1,k2,k3⟩
     ·obtain ⟨t1,c1,h1⟩:=k4
      exact hr.ow id (.var t1 c1) b h1 hb
     ·exact j52 (k1.own b (pw.1 hb)).2.1
    ·have:=hmm j (by rw [List.mem_range,← hm]; exact hj)
     rcases hget j with ⟨_,k2⟩ | ⟨_,k2⟩ | ⟨t,l,cs,k1,k2,_⟩
     ·rw [k2] at this; simp at this
     ·rw [k2] at this; simp [KO.isU] at this
     ·exact qj k1
    ·exact hr.pb j hj (hvar j hv)
   ·simp at e
  ·simp at e
 ·simp at e
end
set_option linter.unusedSimpArgs false
section
variable {ρ:Type} {ty:Nat → Option TI} {fn:Nat → Option FI} {cl:Nat → Hint → List DC → Out} {fail:ρ}
def via {α:Type} (fail:ρ) (x:Option α) (K:α → ρ):ρ :=
 match x with
 | some a=>K a
 | none=>fail
theorem j1e {t:Nat} {st:St} {a:C} {K:Cls → C → ρ}:JS ty fail t st a K=via fail (JS ty none t st a fun c v=>some (c,v)) fun r=>K r.1 r.2:=by
 unfold JS
 repeat' split
 all_goals first | rfl | simp_all [via]
theorem j88 {t base:Nat} {H:List HS} {a:C} {K:Cls → List HS → C → ρ}:V1 ty fail t base H a K=via fail (V1 ty none t base H a fun c H v=>some (c,H,v)) fun r=>K r.1 r.2.1 r.2.2:=by
 unfold V1
 repeat' split
 all_goals first | rfl | simp_all [via]
theorem qw {t:Nat} {st:St} {a v:C} {K:List HS → ρ}:yC ty fail t st a v K=via fail (yC ty none t st a v some) K:=by
 unfold yC
 repeat' split
 all_goals first | rfl | simp_all [via]
theorem yP {op:BinOp} {t:Nat} {x y:C} {K:C → ρ}:Yn ty fail op t x y K=via fail (Yn ty none op t x y some) K:=by
 unfold Yn
 repeat' split
 all_goals first | rfl | simp_all [via]
theorem j8I {s t:Nat} {st:St} {x:C} {K:Cls → List HS → C → ρ}:K3 ty fail s t st x K=via fail (K3 ty none s t st x fun c H v=>some (c,H,v)) fun r=>K r.1 r.2.1 r.2.2:=by
 unfold K3
 repeat' split
 all_goals first | rfl | simp_all [via]
theorem j0G {α:Type} {lo hi:Option C} {l:List α} {K:List α → ρ}:Yi fail lo hi l K=via fail (Yi none lo hi l some) K:=by
 unfold Yi
 repeat' split
 all_goals first | rfl | simp_all [via]
theorem j6V {t:Nat} {st:St} {x:C} {lo hi:Option C} {K:Cls → List HS → C → ρ}:zo ty fail t st x lo hi K=via fail (zo ty none t st x lo hi fun c H v=>some (c,H,v)) fun r=>K r.1 r.2.1 r.2.2:=by
 have key:∀ {α:Type} (l:List α) (k:List α → Cls × List HS × C),Yi fail lo hi l (fun x=>K (k x).1 (k x).2.1 (k x).2.2)=via fail (Yi none lo hi l fun x=>some (k x)) fun r=>K r.1 r.2.1 r.2.2:=by
  intro α l k
  rw [j0G (fail:=fail),j0G (fail:=none) (K:=fun x=>some (k x))]
  cases Yi none lo hi l some <;> rfl
 unfold zo
 repeat' split
 all_goals first
  | rfl
  | exact key _ (fun x=>(_,_,_))
  | simp_all [via]
theorem ZI {e:Nat} {st:St} {x i:C} {K:Cls → C → ρ}:yH fail e st x i K=via fail (yH none e st x i fun c v=>some (c,v)) fun r=>K r.1 r.2:=by
 unfold yH
 repeat' split
 all_goals first | rfl | simp_all [via]
theorem j2Z {st:St} {x:C} {K:Cls → C → ρ}:Jq fail st x K=via fail (Jq none st x fun c v=>some (c,v)) fun r=>K r.1 r.2:=by
 unfold Jq
 repeat' split
 all_goals first | rfl | simp_all [via]
theorem pm {t u base:Nat} {st:St} {x y:C} {K:List HS → C → ρ}:px ty fail t u base st x y K=via fail (px ty none t u base st x y fun H v=>some (H,v)) fun r=>K r.1 r.2:=by
 unfold px
 repeat' split
 all_goals first | rfl | simp_all [via]
theorem j8x {H:List HS} {m:MK} {args:List C} {K:List HS → C → ρ}:j4n ty fail H m args K=via fail (j4n ty none H m args fun H v=>some (H,v)) fun r=>K r.1 r.2:=by
 unfold j4n j9P
 repeat' split
 all_goals first | rfl | simp_all [via]
theorem qa {base f:Nat} {st:St} {caps:List Nat} {args:List C} {K:List HS → C → ρ}:qG ty fn cl fail base st f caps args K=via fail (qG ty fn cl none base st f caps args fun H v=>some (H,v)) fun r=>K r.1 r.2:=by
 unfold qG
 dsimp only
 repeat' split
 all_goals first | rfl | exact j8x | simp_all [via]
theorem QY {α β:Type} (x:Option α) (k:α → Option β) (K:β → ρ):via fail (via none x k) K=via fail x fun a=>via fail (k a) K:=by
 cases x <;> rfl
theorem VH {base:Nat} {o:Oper} {tm:List C} {H:List HS} {K:Cls → List HS → C → ρ} :
  stepV ty fn cl fail base o tm H K=via fail (stepV ty fn cl none base o tm H fun c H v=>some (c,H,v)) fun r=>K r.1 r.2.1 r.2.2:=by
 have l1:∀ {t:Nat} {st:St} {a:C},JS ty fail t st a (fun c v=>K c H v)=via fail (JS ty none t st a fun c v=>some (c,H,v)) fun r=>K r.1 r.2.1 r.2.2:=by
  intro t st a
  rw [j1e (fail:=fail),j1e (fail:=none) (K:=fun c v=>some (c,H,v)),QY]
  rfl
 have l2:∀ {t:Nat} {st:St} {a v:C} {c:Cls},yC ty fail t st a v (fun H=>K c H (.one .undef))=via fail (yC ty none t st a v fun H=>some (c,H,C.one S.undef)) fun r=>K r.1 r.2.1 r.2.2:=by
  intro t st a v c
  rw [qw (fail:=fail),qw (fail:=none) (K:=fun H=>some (c,H,C.one S.undef)),QY]
  rfl
 have l3:∀ {op:BinOp} {t:Nat} {x y:C},Yn ty fail op t x y (fun v=>K .t H v)=via fail (Yn ty none op t x y fun v=>some (Cls.t,H,v)) fun r=>K r.1 r.2.1 r.2.2:=by
  intro op t x y
  rw [yP (fail:=fail),yP (fail:=none) (K:=fun v=>some (Cls.t,H,v)),QY]
  rfl
 have l4:∀ {e:Nat} {st:St} {x i:C},yH fail e st x i (fun c v=>K c H v)=via fail (yH none e st x i fun c v=>some (c,H,v)) fun r=>K r.1 r.2.1 r.2.2:=by
  intro e st x i
  rw [ZI (fail:=fail),ZI (fail:=none) (K:=fun c v=>some (c,H,v)),QY]
  rfl
 have l5:∀ {st:St} {x:C},Jq fail st x (fun c v=>K c H v)=via fail (Jq none st x fun c v=>some (c,H,v)) fun r=>K r.1 r.2.1 r.2.2:=by
  intro st x
  rw [j2Z (fail:=fail),j2Z (fail:=none) (K:=fun c v=>some (c,H,v)),QY]
  rfl
 have l6:∀ {t u base:Nat} {st:St} {x y:C} {c:Cls},px ty fail t u base st x y (fun H v=>K c H v)=via fail (px ty none t u base st x y fun H v=>some (c,H,v)) fun r=>K r.1 r.2.1 r.2.2:=by
  intro t u base st x y c
  rw [pm (fail:=fail),pm (fail:=none) (K:=fun H v=>some (c,H,v)),QY]
  rfl
 have l7:∀ {base f:Nat} {st:St} {caps:List Nat} {args:List C} {c:Cls},qG ty fn cl fail base st f caps args (fun H v=>K c H v)=via fail (qG ty fn cl none base st f caps args fun H v=>some (c,H,v)) fun r=>K r.1 r.2.1 r.2.2:=by
  intro base f st caps args c
  rw [qa (fail:=fail),qa (fail:=none) (K:=fun H v=>some (c,H,v)),QY]
  rfl
 unfold stepV
 split
 all_goals try first | exact l1 | exact l3 | exact j8I
 all_goals repeat' split
 all_goals first
  | rfl
  | exact l1
  | exact j88
  | exact l2
  | exact l4
  | exact l5
  | exact l6
  | exact l7
  | exact j6V
  | simp_all [via]
end
section
variable {P:Program} {ty:Nat → Option TI} {fn:Nat → Option FI} {cl:Nat → Hint → List DC → Out} {A:An}
def J7 (P:Program) (ty:Nat → Option TI) (fn:Nat → Option FI) (cl:Nat → Hint → List DC → Out) (A:An):Prop :=
 ∀ (o:Oper) (c:Call) (fop:Operand) (f:Nat) (caps:List Nat) (base:Nat) (tm:List C) (H H':List HS) (v:C) (g:Gh) (a:Act) (w:World) (Q:Exit → Act → World → Prop),
  o.op = .call c → c.callee = .value fop → opd tm fop = .one (.fn f caps) → Rel ty A g ⟨tm,H⟩ a w →
  qG ty fn cl none base ⟨tm,H⟩ f caps (yE tm c.args.toList) (fun H v=>some (H,v))=some (H',v) → o.wp P a w (pD ty A g H w ⟨ka tm o.dst v,H'⟩) Q
theorem jr {α β:Type} {c c':Cls} {a a':α} {b b':β} (h:some (c,a,b)=some (c',a',b')):c=c' ∧ a=a' ∧ b=b':=by
 simpa using h
theorem jaD (hty:y9 P ty) (hcall:J7 P ty fn cl A) {g:Gh} {tm:List C} {H H':List HS} {a:Act} {w:World} {o:Oper} {Q:Exit → Act → World → Prop} {base:Nat} {c:Cls} {v:C}
  (h:Rel ty A g ⟨tm,H⟩ a w) (e:stepV ty fn cl none base o tm H (fun c H v=>some (c,H,v))=some (c,H',v)):o.wp P a w (pD ty A g H w ⟨ka tm o.dst v,H'⟩) Q:=by
 unfold stepV at e
 split at e
 ·rename_i x ho
  obtain ⟨_,rfl,rfl⟩:=jr e
  exact j3X x (.inl ho) h
 ·rename_i x ho
  obtain ⟨_,rfl,rfl⟩:=jr e
  exact j3X x (.inr ho) h
 ·rename_i x y z ho
  split at e
  ·rename_i b hx
   have second:=j6P (P:=P) (Q:=Q) x y z ho h hx
   split at e
   ·rename_i s t hy hz
    have:=j8c (P:=P) (Q:=Q) x y z ho h hx hy hz
    split at e
    ·rename_i r hr
     obtain ⟨_,rfl,rfl⟩:=jr e
     rw [hr] at this
     exact this
    ·rename_i hr
     rw [hr] at this
     split at e
     ·rename_i hb
      obtain ⟨_,rfl,rfl⟩:=jr e
      simpa [hb] using this
     ·rename_i hb
      obtain ⟨_,rfl,rfl⟩:=jr e
      simpa [hb] using this
   ·split at e
    ·rename_i hb
     obtain ⟨_,rfl,rfl⟩:=jr e
     rw [if_pos hb] at second
     exact second
    ·rename_i hb
     obtain ⟨_,rfl,rfl⟩:=jr e
     rw [if_neg hb] at second
     exact second
  ·simp at e
 ·rename_i t ho
  split at e
  ·rename_i ti ht hf
   obtain ⟨_,rfl,rfl⟩:=jr e
   exact j6T hty t base ti ho h ht hf
  ·simp at e
 ·rename_i t x ho
  split at e
  ·rename_i ti ss ht hx hf
   split at e
   ·obtain ⟨_,rfl,rfl⟩:=jr e
    exact j9j t base ss x ho h hx hf
   ·simp at e
  ·simp at e
 ·rename_i t parts ho
  split at e
  ·rename_i ti ht
   split at e
   ·rename_i ss hs
    split at e
    ·rename_i hst
     obtain ⟨_,rfl,rfl⟩:=jr e
     exact j6S hty t parts ho h ht hst hs
    ·simp at e
   ·simp at e
  ·simp at e
 ·rename_i t n parts ho
  split at e
  ·rename_i el ht
   split at e
   ·rename_i te hte
    split at e
    ·rename_i l H1 hr
     split at e
     ·rename_i hf
      split at e
      ·rename_i hc
       obtain ⟨_,rfl,rfl⟩:=jr e
       exact j1T hty t n parts base ho h ht hte hr hf hc
      ·simp at e
     ·simp at e
    ·simp at e
   ·simp at e
  ·simp at e
 ·rename_i t x ho
  cases hT:j1g ty t (opd tm x) with
  | true =>
   rw [hT] at e
   exact j8b hty t x base ho h e
  | false =>
  rw [hT] at e
  dsimp only at e
  rw [j1e] at e
  cases hl:JS ty none t ⟨tm,H⟩ (opd tm x) fun c v=>some (c,v) with
  | none=>rw [hl] at e; simp [via] at e
  | some r =>
   rw [hl] at e
   obtain ⟨_,rfl,rfl⟩:=jr e
   exact j8d hty t x ho h (c:=r.1) (v:=r.2) hl
 ·rename_i t x y ho
  split at e
  ·rename_i hd
   rw [qw] at e
   cases hl:yC ty none t ⟨tm,H⟩ (opd tm x) (opd tm y) some with
   | none=>rw [hl] at e; simp [via] at e
   | some r =>
    rw [hl] at e
    obtain ⟨_,rfl,rfl⟩:=jr e
    have:=j6N (Q:=Q) hty t x y ho hd h hl
    rw [hd]
    exact this
  ·simp at e
 ·rename_i x ho
  split at e
  ·rename_i id off hx
   split at e
   ·rename_i t cs hv
    obtain ⟨_,rfl,rfl⟩:=jr e
    exact j3y x ho h hx hv
   ·simp at e
  ·simp at e
 ·rename_i op t x y t' ho
  rw [yP] at e
  cases hl:Yn ty none op t (opd tm x) (opd tm y) some with
  | none=>rw [hl] at e; simp [via] at e
  | some r =>
   rw [hl] at e
   obtain ⟨_,rfl,rfl⟩:=jr e
   exact j9k hty op t t' x y ho h hl
 ·rename_i op t x ho
  split at e
  ·rename_i b hx
   obtain ⟨_,rfl,rfl⟩:=jr e
   exact j9e t x ho h hx
  ·rename_i k n hx
   obtain ⟨_,rfl,rfl⟩:=jr e
   exact j9f t x ho h hx
  ·simp at e
 ·rename_i s t x ho
  obtain ⟨rfl,h2⟩:=j8e (Q:=Q) hty s t x ho h e
  exact h2
 ·rename_i f first captured ho
  split at e
  ·rename_i fi hf
   split at e
   ·rename_i ids hids
    obtain ⟨_,rfl,rfl⟩:=jr e
    exact j3z fi first captured ho hf h hids
   ·simp at e
  ·simp at e
 ·rename_i t x y ho
  split at e
  ·rename_i el m n ht hx hy
   split at e
   ·rename_i te hte hf
    split at e
    ·rename_i hc
     obtain ⟨_,rfl,rfl⟩:=jr e
     obtain ⟨h1,h2,rfl,h3,h4⟩:=hc
     exact j2G hty t x y base ho h ht hte hx hy hf ⟨h1,h2⟩ h3 h4.1 h4.2
    ·simp at e
   ·simp at e
  ·simp at e
 ·rename_i t x lo hi mx ho
  split at e
  ·exact j6O hty t x lo hi ho h e
  ·simp at e
 ·rename_i t x j ho
  split at e
  ·rename_i ti ht
   split at e
   ·rename_i off n ag hj
    split at e
    ·rename_i hc
     split at e
     ·rename_i id o' hx
      split at e
      ·rename_i t' cs hv
       obtain ⟨_,rfl,rfl⟩:=jr e
       exact Qm hty t x j ho h ht hc.2 hj hc.1 (.inl ⟨_,_,_,_,hx,hv,rfl⟩)
      ·simp at e
     ·rename_i el y o' hx
      obtain ⟨_,rfl,rfl⟩:=jr e
      exact Qm hty t x j ho h ht hc.2 hj hc.1 (.inr (.inl ⟨_,_,_,hx,rfl⟩))
     ·rename_i el id ix o' hx
      split at e
      ·rename_i e' l hv
       obtain ⟨_,rfl,rfl⟩:=jr e
       exact Qm hty t x j ho h ht hc.2 hj hc.1 (.inr (.inr ⟨_,_,_,_,_,_,hx,hv,rfl⟩))
      ·simp at e
     ·simp at e
    ·simp at e
   ·simp at e
  ·simp at e
 ·rename_i t x j ho
  split at e
  ·rename_i ti l ht hx
   split at e
   ·rename_i off n ag hj
    split at e
    ·rename_i hc
     obtain ⟨_,rfl,rfl⟩:=jr e
     exact j6R hty t x j ho h ht hc.2.2 hj hc.2.1 hx hc.1
    ·simp at e
   ·simp at e
  ·simp at e
 ·rename_i t x i ho
  split at e
  ·rename_i el ht
   rw [ZI] at e
   cases hl:yH none el ⟨tm,H⟩ (opd tm x) (opd tm i) fun c v=>some (c,v) with
   | none=>rw [hl] at e; simp [via] at e
   | some r =>
    rw [hl] at e
    obtain ⟨_,rfl,rfl⟩:=jr e
    exact j2H hty t x i ho h ht (cl:=r.1) (c:=r.2) hl
  ·simp at e
 ·rename_i t x i ho
  split at e
  ·rename_i ti l k n ht hx hi
   split at e
   ·rename_i hc
    obtain ⟨_,rfl,rfl⟩:=jr e
    exact j6Q hty t x i ho h ht rfl hx hi hc
   ·simp at e
  ·simp at e
 ·rename_i x j ho
  split at e
  ·rename_i l hx
   split at e
   ·rename_i ag ss hj
    obtain ⟨_,rfl,rfl⟩:=jr e
    exact j4M x j ho h hx hj
   ·simp at e
  ·simp at e
 ·rename_i c' ho
  split at e
  ·rename_i fop hc
   split at e
   ·rename_i f caps hf
    rw [qa] at e
    cases hl:qG ty fn cl none base ⟨tm,H⟩ f caps (yE tm c'.args.toList) fun H v=>some (H,v) with
    | none=>rw [hl] at e; simp [via] at e
    | some r =>
     rw [hl] at e
     obtain ⟨_,rfl,rfl⟩:=jr e
     exact hcall o c' fop f caps base tm H _ _ g a w Q ho hc hf h hl
   ·simp at e
  ·rename_i b hb
   split at e
   ·rename_i x hx
    have fin:∀ (t:TypeId) (ti:TI),c'.argTypes.toList=[t] → ty t=some ti → ((ti.kd = .str ∧ ∃ l,x = .one (.str l)) ∨ ((∃ e,ti.kd = .slice e) ∧ ∀ l,x ≠ .one (.str l))) →
      (Jq none ⟨tm,H⟩ x fun cl v=>some (cl,H,v))=some (c,H',v) → o.wp P a w (pD ty A g H w ⟨ka tm o.dst v,H'⟩) Q:=by
     intro t ti h1 h2 h3 e
     rw [j2Z] at e
     cases hl:Jq none ⟨tm,H⟩ x fun c v=>some (c,v) with
     | none=>rw [hl] at e; simp [via] at e
     | some r =>
      rw [hl] at e
      obtain ⟨_,rfl,rfl⟩:=jr e
      exact j9i hty ho hb h1 h h2 hx h3 (cl:=r.1) (r:=r.2) hl
    split at e
    ·rename_i t hat
     split at e
     ·rename_i ti ht
      split at e
      ·rename_i l
       exact fin t _ hat ht (.inl ⟨rfl,l,rfl⟩) e
      ·simp at e
     ·rename_i ti ht
      split at e
      ·simp at e
      ·rename_i hno
       exact fin t _ hat ht (.inr ⟨⟨_,rfl⟩,fun l hl=>hno l hl⟩) e
     ·simp at e
    ·simp at e
   ·rename_i k m k' n hx
    obtain ⟨_,rfl,rfl⟩:=jr e
    exact j9g ho hb h hx
   ·rename_i k m k' n hx
    obtain ⟨_,rfl,rfl⟩:=jr e
    exact j9h ho hb h hx
   ·rename_i x y hx
    split at e
    ·rename_i t u hat
     rw [pm] at e
     cases hl:px ty none t u base ⟨tm,H⟩ x y fun H v=>some (H,v) with
     | none=>rw [hl] at e; simp [via] at e
     | some r =>
      rw [hl] at e
      obtain ⟨_,rfl,rfl⟩:=jr e
      exact j5B hty ho hb hat h hx hl
    ·simp at e
   ·simp at e
  ·simp at e
 ·simp at e
end
section
variable {ty:Nat → Option TI} {fn:Nat → Option FI} {cl:Nat → Hint → List DC → Out}
abbrev V3:=Option (Cls × List HS × C)
abbrev QT:Cls → List HS → C → V3:=fun c H v=>some (c,H,v)
theorem j1C {base:Nat} {o:Oper} {tm tm':List C} {H:List HS} (h:∀ x ∈ o.op.operands,opd tm x=opd tm' x) :
  stepV ty fn cl (none:V3) base o tm H QT=stepV ty fn cl none base o tm' H QT:=by
 have hl:∀ l:List Operand,(∀ x ∈ l,opd tm x=opd tm' x) → yE tm l=yE tm' l:=by
  intro l
  induction l with
  | nil=>intro _; rfl
  | cons x l ih=>intro hx; simp [yE,hx x (by simp),ih fun y hy=>hx y (by simp [hy])]
 have hp:∀ parts:List (Nat × Operand),(∀ p ∈ parts,opd tm p.2=opd tm' p.2) → (parts.map fun p=>(p.1,opd tm p.2))=parts.map fun p=>(p.1,opd tm' p.2) :=
  fun parts hx=>List.map_congr_left fun p hp=>by rw [hx p hp]
 obtain ⟨dst,op,type,pos,after,guard⟩:=o
 cases op with
 | move x=>simp only [Op.operands] at h; simp only [stepV,h x (by simp)]
 | assign x=>simp only [Op.operands] at h; simp only [stepV,h x (by simp)]
 | pick c x y=>simp only [Op.operands] at h; simp only [stepV,h c (by simp),h x (by simp),h y (by simp)]
 | box t x=>simp only [Op.operands] at h; simp only [stepV,h x (by simp)]
 | build t ps=>simp only [Op.operands] at h; simp only [stepV,hp ps.toList fun p hp=>h p.2 (by simp; exact ⟨p.1,by simpa using hp⟩)]
 | buildSlice t n ps=>simp only [Op.operands] at h; simp only [stepV,hp ps.toList fun p hp=>h p.2 (by simp; exact ⟨p.1,by simpa using hp⟩)]
 | load t x=>simp only [Op.operands] at h; simp only [stepV,h x (by simp)]; rfl
 | store t x y=>simp only [Op.operands] at h; simp only [stepV,h x (by simp),h y (by simp)]; cases dst <;> rfl
 | nilCheck x=>simp only [Op.operands] at h; simp only [stepV,h x (by simp)]
 | binOp op t x y t'=>simp only [Op.operands] at h; simp only [stepV,h x (by simp),h y (by simp)]
 | unOp op t x=>simp only [Op.operands] at h; simp only [stepV,h x (by simp)]
 | convert s t x=>simp only [Op.operands] at h; simp only [stepV,h x (by simp)]; rfl
 | makeFunc f first captured=>simp only [Op.operands] at h; simp only [stepV,hl captured.toList fun x hx=>h x (by simp at hx ⊢; exact .inr hx)]
 | makeSlice t x y=>simp only [Op.operands] at h; simp only [stepV,h x (by simp),h y (by simp)]
 | slice t x lo hi mx =>
  simp only [Op.operands] at h
  have h1:lo.map (opd tm)=lo.map (opd tm'):=by cases lo <;> simp; exact h _ (by simp)
  have h2:hi.map (opd tm)=hi.map (opd tm'):=by cases hi <;> simp; exact h _ (by simp)
  simp only [stepV,h x (by simp),h1,h2]
  cases mx <;> rfl
 | fieldAddr t x j=>simp only [Op.operands] at h; simp only [stepV,h x (by simp)]
 | field t x j=>simp only [Op.operands] at h; simp only [stepV,h x (by simp)]
 | indexAddr t x i=>simp only [Op.operands] at h; simp only [stepV,h x (by simp),h i (by simp)]; cases Jc (ty t) <;> rfl
 | index t x i=>simp only [Op.operands] at h; simp only [stepV,h x (by simp),h i (by simp)]
 | extract x j=>simp only [Op.operands] at h; simp only [stepV,h x (by simp)]
 | call c =>
  simp only [Op.operands,Call.operands] at h
  have hargs:=hl c.args.toList fun x hx=>h x (by simp; exact .inr (by simpa using hx))
  cases hc:c.callee with
  | value f =>
   rw [hc] at h
   simp only [stepV,hc,hargs,h f (by simp)]
   split <;> rfl
  | builtin b =>
   simp only [stepV,hc,hargs]
   split
   all_goals first | rfl | (repeat' split) <;> rfl
  | invoke r m=>simp only [stepV,hc]
 | _=>rfl
def j1S (f:List HS → V3) (H:List HS):Prop :=
 ∀ c H' v,f H=some (c,H',v) → (c = .t → H'=H ∧ ∀ H3,f H3=some (.t,H3,v)) ∧ (c = .r → H'=H)
theorem j8y {t:Nat} {tm:List C} {a:C} (H:List HS):j1S (fun H=>JS ty (none:V3) t ⟨tm,H⟩ a fun c v=>QT c H v) H:=by
 intro c H' v e
 dsimp only at e
 unfold JS at e
 dsimp only at e
 repeat' split at e
 all_goals first
  | (simp at e; done)
  | (obtain ⟨rfl,rfl,rfl⟩:=jr e; refine ⟨fun h=>?_,fun _=>rfl⟩; first | (simp at h; done) | (refine ⟨rfl,fun H3=>?_⟩; simp_all [JS]))
theorem j8J {s t:Nat} {tm:List C} {x:C} (H:List HS):j1S (fun H=>K3 ty (none:V3) s t ⟨tm,H⟩ x QT) H:=by
 intro c H' v e
 dsimp only at e
 unfold K3 at e
 dsimp only at e
 repeat' split at e
 all_goals first
  | (simp at e; done)
  | (obtain ⟨rfl,rfl,rfl⟩:=jr e; refine ⟨fun h=>?_,fun _=>rfl⟩; first | (simp at h; done) | (refine ⟨rfl,fun H3=>?_⟩; simp_all [K3,za]))
theorem pf {α:Type} {lo hi:Option C} {l:List α} {k:List α → V3} {r:Cls × List HS × C} (e:Yi none lo hi l k=some r):∃ l',Yi none lo hi l some=some l' ∧ k l'=some r:=by
 rw [j0G] at e
 cases h:Yi none lo hi l some with
 | none=>rw [h] at e; simp [via] at e
 | some l'=>rw [h] at e; exact ⟨l',rfl,e⟩
theorem j5h {α:Type} {lo hi:Option C} {l:List α} {k:List α → V3} {l':List α} (e:Yi none lo hi l some=some l'):Yi none lo hi l k=k l':=by
 rw [j0G,e]
 rfl
theorem j6W {t:Nat} {tm:List C} {x:C} {lo hi:Option C} (H:List HS):j1S (fun H=>zo ty (none:V3) t ⟨tm,H⟩ x lo hi QT) H:=by
 intro c H' v e
 simp only [zo] at e
 split at e
 ·rename_i ti ht
  split at e
  ·rename_i l hk
   obtain ⟨l',h1,h2⟩:=pf e
   obtain ⟨rfl,rfl,rfl⟩:=jr h2
   refine ⟨fun _=>⟨rfl,fun H3=>?_⟩,fun h=>by simp at h⟩
   simp only [zo,ht,hk]
   exact j5h h1
  ·rename_i el el' l hk
   split at e
   ·rename_i hc
    obtain ⟨l',h1,h2⟩:=pf e
    obtain ⟨rfl,rfl,rfl⟩:=jr h2
    refine ⟨fun _=>⟨rfl,fun H3=>?_⟩,fun h=>by simp at h⟩
    simp only [zo,ht,hk]
    rw [if_pos hc]
    exact j5h h1
   ·simp at e
  ·rename_i el id hk
   split at e
   ·split at e
    ·obtain ⟨l',h1,h2⟩:=pf e
     obtain ⟨rfl,rfl,rfl⟩:=jr h2
     exact ⟨fun h=>by simp at h,fun h=>by simp at h⟩
    ·simp at e
   ·split at e
    ·obtain ⟨l',h1,h2⟩:=pf e
     obtain ⟨rfl,rfl,rfl⟩:=jr h2
     exact ⟨fun h=>by simp at h,fun _=>rfl⟩
    ·simp at e
   ·simp at e
  ·simp at e
 ·simp at e
theorem j7d {e0:Nat} {tm:List C} {x i:C} (H:List HS):j1S (fun H=>yH (none:V3) e0 ⟨tm,H⟩ x i fun c v=>QT c H v) H:=by
 intro c H' v e
 dsimp only at e
 unfold yH at e
 dsimp only at e
 repeat' split at e
 all_goals first
  | (simp at e; done)
  | (obtain ⟨rfl,rfl,rfl⟩:=jr e; refine ⟨fun h=>?_,fun _=>rfl⟩; first | (simp at h; done) | (refine ⟨rfl,fun H3=>?_⟩; simp_all [yH]))
theorem j9S {tm:List C} {x:C} (H:List HS):j1S (fun H=>Jq (none:V3) ⟨tm,H⟩ x fun c v=>QT c H v) H:=by
 intro c H' v e
 dsimp only at e
 unfold Jq at e
 dsimp only at e
 repeat' split at e
 all_goals first
  | (simp at e; done)
  | (obtain ⟨rfl,rfl,rfl⟩:=jr e; refine ⟨fun h=>?_,fun _=>rfl⟩; first | (simp at h; done) | (refine ⟨rfl,fun H3=>?_⟩; simp_all [Jq]))
theorem j6L {H H':List HS} {t:CT} {s:S} {d:DC} (hs:s.noOwn=true) (e:Vt H t s=some (d,H')):H'=H:=by
  unfold Vt at e
  split at e
  all_goals first
    | (simp at e; done)
    | (simp only [j8,ji] at e; exact e.2.symm)
    | (split at e
       · simp only [j8,ji] at e; exact e.2.symm
       · simp at e)
    | (simp [S.noOwn] at hs)
theorem j55 {H H':List HS} {k:K1} {s:S} {d:List DC} (hs:s.noOwn=true) (e:zF ty H k s=some (d,H')):H'=H:=by
  unfold zF at e
  split at e
  case h_5 =>
    split at e
    · rename_i hd
      simp only [j8,ji] at e
      rw [← e.2]
      exact j6L hs hd
    · simp at e
  case h_6=>simp [S.noOwn] at hs
  case h_7 =>
    split at e
    · simp only [j8,ji] at e; exact e.2.symm
    split at e
    · split at e
      · simp only [j8,ji] at e; exact e.2.symm
      · simp at e
    · simp at e
  all_goals first
    | (simp at e; done)
    | (simp only [j8,ji] at e; exact e.2.symm)
    | (split at e
       · simp only [j8,ji] at e; exact e.2.symm
       · simp at e)
theorem j1I:∀ {ks:List K1} {ss:List S} {H H':List HS} {d:List DC},ss.all S.noOwn=true → pT ty H ks ss=some (d,H') → H'=H
 | [],[],H,H',d,_,e=>by
  simp only [pT,j8,ji] at e
  exact e.2.symm
 | k :: ks,s :: ss,H,H',d,hs,e=>by
  simp only [List.all_cons,jk] at hs
  simp only [pT] at e
  split at e
  ·rename_i d1 H1 h1
   split at e
   ·rename_i d2 H2 h2
    simp only [j8,ji] at e
    obtain rfl:=j55 hs.1 h1
    rw [← e.2]
    exact j1I hs.2 h2
   ·simp at e
  ·simp at e
 | [],_ :: _,_,_,_,_,e=>by simp [pT] at e
 | _ :: _,[],_,_,_,_,e=>by simp [pT] at e
theorem Qn:∀ {ks:List KC} {cs:List C} {p:List S},cs.all C.noOwn=true → Jz ks cs=some p → p.all S.noOwn=true
 | [],[],p,_,e=>by
  simp only [Jz,j8] at e
  subst e
  rfl
 | k :: ks,c :: cs,p,hc,e=>by
  simp only [List.all_cons,jk] at hc
  unfold Jz at e
  split at e
  ·rename_i heq _; simp at heq
  ·rename_i ks' c' cs' hk hcc
   simp only [List.cons.injEq] at hk hcc
   obtain ⟨rfl,rfl⟩:=hk
   obtain ⟨rfl,rfl⟩:=hcc
   split at e
   ·rename_i r hr
    simp only [j8] at e
    subst e
    simp [S.noOwn,Qn hc.2 hr]
   ·simp at e
  ·rename_i k1 ks' s cs' _ hk hcc
   simp only [List.cons.injEq] at hk hcc
   obtain ⟨rfl,rfl⟩:=hk
   obtain ⟨rfl,rfl⟩:=hcc
   split at e
   ·rename_i r hr
    simp only [j8] at e
    subst e
    have:=hc.1
    simp only [C.noOwn] at this
    simp [this,Qn hc.2 hr]
   ·simp at e
  ·rename_i l ks' ss cs' hk hcc
   simp only [List.cons.injEq] at hk hcc
   obtain ⟨rfl,rfl⟩:=hk
   obtain ⟨rfl,rfl⟩:=hcc
   split at e
   ·split at e
    ·rename_i r hr
     simp only [j8] at e
     subst e
     have:=hc.1
     simp only [C.noOwn] at this
     rw [List.all_append,this,Qn hc.2 hr]
     rfl
    ·simp at e
   ·simp at e
  ·simp at e
 | [],_ :: _,_,_,e=>by simp [Jz] at e
 | .one _ :: _,[],_,_,e=>by simp [Jz] at e
 | .agg _ :: _,[],_,_,e=>by simp [Jz] at e
theorem j2F {H H' H3:List HS} {t:CT} {s:S} {d:DC} (hs:s.noOwn=true) (e:Vt H t s=some (d,H')):Vt H3 t s=some (d,H3):=by
  unfold Vt at e ⊢
  split at e
  all_goals first
    | (simp at e; done)
    | (simp only [j8,ji] at e; obtain ⟨rfl,_⟩:=e; rfl)
    | (split at e
       · rename_i hc; simp only [j8,ji] at e; obtain ⟨rfl,_⟩:=e; simp [hc]
       · simp at e)
    | (simp [S.noOwn] at hs)
theorem j56 {H H' H3:List HS} {k:K1} {s:S} {d:List DC} (hs:s.noOwn=true) (e:zF ty H k s=some (d,H')):zF ty H3 k s=some (d,H3):=by
  unfold zF at e ⊢
  split at e
  case h_5 =>
    split at e
    · rename_i hd
      simp only [j8,ji] at e
      obtain ⟨rfl,_⟩:=e
      rw [j2F hs hd]
    · simp at e
  case h_6=>simp [S.noOwn] at hs
  case h_7 =>
    split at e
    · simp only [j8,ji] at e
      obtain ⟨rfl,_⟩:=e
      first | rfl | (rename_i hpq; simp only [hpq])
    rename_i hpq
    try rw [hpq]
    try dsimp only
    split at e
    · rename_i hte
      split at e
      · rename_i hc
        simp only [j8,ji] at e
        obtain ⟨rfl,_⟩:=e
        simp only [hte,hc,if_true]
      · simp at e
    · simp at e
  all_goals first
    | (simp at e; done)
    | (simp only [j8,ji] at e; obtain ⟨rfl,_⟩:=e; rfl)
    | (split at e
       · rename_i hc; simp only [j8,ji] at e; obtain ⟨rfl,_⟩:=e; simp [hc]
       · simp at e)
theorem j1J:∀ {ks:List K1} {ss:List S} {H H':List HS} {d:List DC} (H3:List HS),ss.all S.noOwn=true → pT ty H ks ss=some (d,H') → pT ty H3 ks ss=some (d,H3)
 | [],[],H,H',d,H3,_,e=>by
  simp only [pT,j8,ji] at e
  rw [← e.1]
  rfl
 | k :: ks,s :: ss,H,H',d,H3,hs,e=>by
  simp only [List.all_cons,jk] at hs
  simp only [pT] at e ⊢
  split at e
  ·rename_i d1 H1 h1
   split at e
   ·rename_i d2 H2 h2
    simp only [j8,ji] at e
    obtain ⟨rfl,_⟩:=e
    rw [j56 (H3:=H3) hs.1 h1]
    dsimp only
    rw [j1J H3 hs.2 h2]
   ·simp at e
  ·simp at e
 | [],_ :: _,_,_,_,_,_,e=>by simp [pT] at e
 | _ :: _,[],_,_,_,_,_,e=>by simp [pT] at e
theorem j1H (v:List DC):∀ {L:List RK} {i n:Nat} {H:List HS},L.all RK.isCt=true → pY v n (rkK i L) H=some H
 | [],i,n,H,_=>by simp only [rkK,pY]
 | r :: L,i,n,H,h=>by
  simp only [List.all_cons,jk] at h
  cases r with
  | ct c=>cases c <;> (show pY v (n + 1) (rkK i L) H=some H; exact j1H v h.2)
  | new el=>simp [RK.isCt] at h
theorem j8M {base f:Nat} {caps:List Nat} {args:List C} {H:List HS} (hc:pQ fn base f caps args H = .t) (H3:List HS):pQ fn base f caps args H3 = .t:=by
 unfold pQ at hc ⊢
 repeat' split at hc
 all_goals first
  | (simp at hc; done)
  | simp_all
theorem jb2 {base f:Nat} {tm:List C} {H H':List HS} {caps:List Nat} {args:List C} {v:C} (hc:pQ fn base f caps args H = .t) (e:qG ty fn cl none base ⟨tm,H⟩ f caps args (fun H v=>some (H,v))=some (H',v)) :
  H'=H ∧ ∀ H3,qG ty fn cl none base ⟨tm,H3⟩ f caps args (fun H v=>some (H,v))=some (H3,v):=by
 unfold pQ at hc
 cases hf:fn f with
 | none=>rw [hf] at hc; simp at hc
 | some fi =>
  rw [hf] at hc
  dsimp only at hc
  cases hst:fi.stf with
  | some m=>rw [hst] at hc; simp at hc
  | none =>
  rw [hst] at hc
  dsimp only at hc
  cases hmk:fi.mark with
  | some m=>rw [hmk] at hc; simp at hc
  | none =>
  rw [hmk] at hc
  dsimp only at hc
  split at hc
  ·rename_i h1 h2 h3
   suffices key:∀ H3,H'=H ∧ qG ty fn cl none base ⟨tm,H3⟩ f [] args (fun H v=>some (H,v))=some (H3,v) from ⟨(key H).1,fun H3=>(key H3).2⟩
   intro H3
   unfold qG at e ⊢
   rw [hf] at e
   simp only [hf]
   dsimp only at e ⊢
   rw [hst] at e ⊢
   dsimp only at e ⊢
   rw [hmk] at e ⊢
   dsimp only at e ⊢
   simp only [List.map_nil,jv,h1] at e ⊢
   split at e
   ·rename_i kcs kos e1 e2
    simp only [j1X,j8] at e2
    subst e2
    simp only [jf] at e1
    simp only [j1X,jf,e1]
    split at e
    ·rename_i p q e3 e4
     simp only [Vu,j8] at e4
     subst e4
     simp only [Vu,e3]
     split at e
     ·rename_i v0 H1 e5
      have hno:=j1I (by rw [jv]; exact Qn h2 e3) e5
      have e6:=j1J H3 (by rw [jv]; exact Qn h2 e3) e5
      rw [e6]
      dsimp only
      have hrk:(fi.rk.flatMap Prod.snd).all RK.isCt=true:=by
       rw [List.all_flatMap]
       exact h3
      split at e
      ·rename_i hok
       have hok2:(y6 [] && (([]:List Nat).all (j59 H3)) && ({ tm:=kcs,ob:=[] ++ List.replicate (fi.pk.filter PK.isMv).length .u }:Hint).ok)=true:=by
        simp only [jk] at hok ⊢
        exact ⟨⟨hok.1.1,rfl⟩,hok.2⟩
       rw [if_pos hok2]
       split at e
       ·rename_i r hr
        have pr:∀ HH,pY r 0 (zT base fi.rk) HH=some HH:=fun HH=>j1H r hrk
        have pv:∀ m HH,qU r m [] [] HH=HH:=fun m HH=>by rw [qU]; intro _ _ _ _ _ h; simp at h
        split at e
        ·rw [pr] at e ⊢
         simp only [j8,ji] at e ⊢
         exact ⟨e.1.symm,trivial,e.2⟩
        ·rw [pv] at e ⊢
         rw [pr] at e ⊢
         simp only [j8,ji] at e ⊢
         exact ⟨by rw [← e.1,hno],trivial,e.2⟩
       ·simp at e
      ·simp at e
     ·simp at e
    ·simp at e
   ·simp at e
  ·simp at hc
  ·split at hc <;> simp at hc
  ·simp at hc
theorem j8f {base:Nat} {o:Oper} {tm:List C} (H:List HS):j1S (fun H=>stepV ty fn cl (none:V3) base o tm H QT) H:=by
  obtain ⟨dst,op,type,pos,after,guard⟩:=o
  have triv:∀ v:C,j1S (fun H=>(some (Cls.t,H,v):V3)) H:=by
    intro v c H' v' e
    obtain ⟨rfl,rfl,rfl⟩:=jr e
    exact ⟨fun _=>⟨rfl,fun _=>rfl⟩,fun h=>by simp at h⟩
  have none_ok:j1S (fun _=>(none:V3)) H:=fun c H' v e=>by simp at e
  cases op with
  | move x=>exact triv _
  | assign x=>exact triv _
  | load t x =>
    intro c H' v e
    simp only [stepV] at e ⊢
    cases hT:j1g ty t (opd tm x) with
    | true =>
      rw [hT] at e
      dsimp only at e
      unfold V1 at e
      repeat' split at e
      all_goals first
        | (simp at e; done)
        | (obtain ⟨rfl,rfl,rfl⟩:=jr e; exact ⟨fun h=>by simp at h,fun h=>by simp at h⟩)
    | false =>
      rw [hT] at e
      exact j8y H c H' v e
  | convert s t x=>exact j8J H
  | slice t x lo hi mx =>
    cases mx with
    | none=>exact j6W H
    | some m=>exact none_ok
  | indexAddr t x i =>
    simp only [stepV]
    cases Jc (ty t) with
    | none=>exact none_ok
    | some e=>exact j7d H
  | binOp op t x y t' =>
    intro c H' v e
    simp only [stepV] at e ⊢
    rw [yP] at e
    cases hl:Yn ty none op t (opd tm x) (opd tm y) some with
    | none=>rw [hl] at e; simp [via] at e
    | some r =>
      rw [hl] at e
      obtain ⟨rfl,rfl,rfl⟩:=jr e
      refine ⟨fun _=>⟨rfl,fun H3=>?_⟩,fun h=>by simp at h⟩
      rw [yP,hl]
      rfl
  | call c =>
    cases hc:c.callee with
    | value f =>
      intro c' H' v e
      simp only [stepV,hc] at e
      split at e
      · rename_i f' caps hf
        rw [qa] at e
        cases hl:qG ty fn cl none base ⟨tm,H⟩ f' caps (yE tm c.args.toList) fun H v=>some (H,v) with
        | none=>rw [hl] at e; simp [via] at e
        | some r =>
          rw [hl] at e
          obtain ⟨rfl,rfl,rfl⟩:=jr e
          refine ⟨fun h=>?_,fun h=>?_⟩
          · obtain ⟨k1,k2⟩:=jb2 h hl
            refine ⟨k1,fun H3=>?_⟩
            simp only [stepV,hc,hf]
            rw [qa,k2 H3,j8M h H3]
            rfl
          · exfalso
            unfold pQ at h
            repeat' split at h
            all_goals simp at h
      · simp at e
    | invoke r m =>
      intro c' H' v e
      simp [stepV,hc] at e
    | builtin b =>
      intro c' H' v e
      simp only [stepV,hc] at e
      have ln:∀ (x:C) (H:List HS),(Jq (none:V3) ⟨tm,H⟩ x fun c v=>QT c H v)=some (c',H',v) → (c' = .t → H'=H ∧ ∀ H3,(Jq (none:V3) ⟨tm,H3⟩ x fun c v=>QT c H3 v)=some (.t,H3,v)) ∧ (c' = .r → H'=H) :=
        fun x H e=>j9S (tm:=tm) (x:=x) H c' H' v e
      split at e
      · rename_i x hx
        split at e
        · rename_i t hat
          split at e
          · rename_i ti ht
            split at e
            · rename_i l
              obtain ⟨k1,k2⟩:=ln _ H e
              exact ⟨fun h=>⟨(k1 h).1,fun H3=>by simp only [stepV,hc,hx,hat,ht]; exact (k1 h).2 H3⟩,k2⟩
            · simp at e
          · rename_i ti ht
            split at e
            · simp at e
            · rename_i hno
              obtain ⟨k1,k2⟩:=ln _ H e
              refine ⟨fun h=>⟨(k1 h).1,fun H3=>?_⟩,k2⟩
              simp only [stepV,hc,hx,hat,ht]
              exact (k1 h).2 H3
          · simp at e
        · simp at e
      · rename_i hx
        obtain ⟨rfl,rfl,rfl⟩:=jr e
        exact ⟨fun _=>⟨rfl,fun H3=>by simp only [stepV,hc,hx]⟩,fun h=>by simp at h⟩
      · rename_i hx
        obtain ⟨rfl,rfl,rfl⟩:=jr e
        exact ⟨fun _=>⟨rfl,fun H3=>by simp only [stepV,hc,hx]⟩,fun h=>by simp at h⟩
      · rename_i x y hx
        split at e
        · rw [pm] at e
          cases hl:px ty none _ _ base ⟨tm,H⟩ x y fun H v=>some (H,v) with
          | none=>rw [hl] at e; simp [via] at e
          | some r =>
            rw [hl] at e
            obtain ⟨rfl,rfl,rfl⟩:=jr e
            exact ⟨fun h=>by simp at h,fun h=>by simp at h⟩
        · simp at e
      · simp at e
  | store t x y =>
    intro c' H' v e
    simp only [stepV] at e
    split at e
    · rw [qw] at e
      cases hl:yC ty none t ⟨tm,H⟩ (opd tm x) (opd tm y) some with
      | none=>rw [hl] at e; simp [via] at e
      | some r =>
        rw [hl] at e
        obtain ⟨rfl,rfl,rfl⟩:=jr e
        have no:XT (opd tm x) ≠ .t ∧ XT (opd tm x) ≠ .r:=by
          unfold XT
          split <;> simp
        exact ⟨fun h=>absurd h no.1,fun h=>absurd h no.2⟩
    · simp at e
  | _ =>
    intro c' H' v e
    simp only [stepV] at e
    repeat' split at e
    all_goals first
      | (simp at e; done)
      | (obtain ⟨rfl,rfl,rfl⟩:=jr e
         refine ⟨fun h=>?_,fun h=>?_⟩
         · first
           | (simp at h; done)
           | (refine ⟨rfl,fun H3=>?_⟩; simp_all [stepV])
         · first
           | (simp at h; done)
           | rfl)
end
end Go.Proofs.QV
