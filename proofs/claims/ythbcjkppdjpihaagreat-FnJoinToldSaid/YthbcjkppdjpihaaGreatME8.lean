import Derived.Sort.LotA
import Derived.Test.YthbcjkppdjpihaaGreatME7
import Derived.Shelf.SlSortCmp.KitK
import Derived.Lib.Bytealg
/- The stable sort of the library,in plain Lean: what its bodies compute,and that this is the stable sort. -/
namespace Go.Proofs.QV
open Go Go.Sort
open _root_.Bool renaming and_eq_true → jg
open _root_.List renaming append_assoc → jy, getElem_mem → jo, flatMap_cons → jh, length_append → js, length_cons → jd, eq_nil_of_length_eq_zero → jn
open _root_.Option.some renaming injEq → j8
open _root_.Prod.mk renaming injEq → jb
set_option linter.unusedVariables false
set_option linter.unusedSimpArgs false
set_option linter.unusedSectionVars false
section
variable {α:Type} [Inhabited α]
theorem j11 (d:Array α) {i j:Nat} (hi:i < d.size) (hj:j < d.size) (x:Nat):(swp d i j)[x]! = if x=i then d[j]! else if x=j then d[i]! else d[x]!:=by
 by_cases h1:x=i
 ·subst h1
  rw [if_pos rfl]
  by_cases h2:x=j
  ·subst h2; exact swp_right d x x hj
  ·exact swp_left d x j hi h2
 ·rw [if_neg h1]
  by_cases h2:x=j
  ·subst h2; rw [if_pos rfl]; exact swp_right d i x hj
  ·rw [if_neg h2]; exact swp_other d i j x h1 h2
def Yo (a b:Nat):Nat → Array α → Array α
 | 0,d=>d
 | n + 1,d=>swp (Yo a b n d) (a + n) (b + n)
theorem p9 (a b:Nat):∀ (n:Nat) (d:Array α),(Yo a b n d).size=d.size
 | 0,d=>rfl
 | n + 1,d=>by rw [Yo,size_swp,p9 a b n d]
theorem Yn (a b:Nat):∀ (n:Nat) (d:Array α),a + n ≤ b → b + n ≤ d.size → ∀ x,(Yo a b n d)[x]! = if a ≤ x ∧ x < a + n then d[x + (b - a)]! else if b ≤ x ∧ x < b + n then d[x - (b - a)]! else d[x]!
 | 0,d,_,_,x=>by rw [if_neg (by omega),if_neg (by omega)]; rfl
 | n + 1,d,h1,h2,x=>by
  have ih:=Yn a b n d (by omega) (by omega)
  rw [Yo,j11 _ (by rw [p9]; omega) (by rw [p9]; omega),ih,ih,ih]
  ((repeat' split) <;> first | rfl | (exfalso; omega) | (congr 1; omega))
def rot (m i j:Nat) (d:Array α):Array α :=
 if i=j then Yo (m - i) m i d
 else if h:j < i ∧ 0 < j then rot m (i - j) j (Yo (m - i) m j d)
 else if h:i < j ∧ 0 < i then rot m i (j - i) (Yo (m - i) (m + j - i) i d)
 else d
termination_by i + j
theorem j8L (m:Nat):∀ (g i j:Nat) (d:Array α),i + j ≤ g → 0 < i → 0 < j → i ≤ m → m + j ≤ d.size → (rot m i j d).size=d.size ∧ ∀ x,(rot m i j d)[x]! = if m - i ≤ x ∧ x < m - i + j then d[x + i]! else if m - i + j ≤ x ∧ x < m + j then d[x - j]! else d[x]!:=by
 intro g
 induction g with
 | zero=>intro i j d h; omega
 | succ g ih =>
  intro i j d h hi hj him hm
  rw [rot]
  by_cases e:i=j
  ·subst e
   rw [if_pos rfl]
   refine ⟨p9 _ _ _ _,fun x=>?_⟩
   rw [Yn _ _ _ _ (by omega) (by omega)]
   ((repeat' split) <;> first | rfl | (exfalso; omega) | (congr 1; omega))
  ·rw [if_neg e]
   by_cases hji:j < i
   ·rw [dif_pos ⟨hji,hj⟩]
    have s:=p9 (m - i) m j d
    obtain ⟨r1,r2⟩:=ih (i - j) j (Yo (m - i) m j d) (by omega) (by omega) hj (by omega) (by omega)
    have q:=Yn (m - i) m j d (by omega) (by omega)
    refine ⟨by rw [r1,s],fun x=>?_⟩
    rw [r2,q,q,q]
    ((repeat' split) <;> first | rfl | (exfalso; omega) | (congr 1; omega))
   ·rw [dif_neg (by omega),dif_pos ⟨by omega,hi⟩]
    have s:=p9 (m - i) (m + j - i) i d
    obtain ⟨r1,r2⟩:=ih i (j - i) (Yo (m - i) (m + j - i) i d) (by omega) hi (by omega) him (by omega)
    have q:=Yn (m - i) (m + j - i) i d (by omega) (by omega)
    refine ⟨by rw [r1,s],fun x=>?_⟩
    rw [r2,q,q,q]
    ((repeat' split) <;> first | rfl | (exfalso; omega) | (congr 1; omega))
def shR (a:Nat):Nat → Array α → Array α
 | 0,d=>d
 | n + 1,d=>swp (shR a n d) (a + n) (a + n + 1)
theorem QO (a:Nat):∀ (n:Nat) (d:Array α),(shR a n d).size=d.size
 | 0,d=>rfl
 | n + 1,d=>by rw [shR,size_swp,QO a n d]
theorem j5W (a:Nat):∀ (n:Nat) (d:Array α),a + n < d.size → ∀ x,(shR a n d)[x]! = if a ≤ x ∧ x < a + n then d[x + 1]! else if x=a + n then d[a]! else d[x]!
 | 0,d,_,x=>by
  rw [if_neg (by omega)]
  split
  ·rename_i h; rw [h]; rfl
  ·rfl
 | n + 1,d,h,x=>by
  have ih:=j5W a n d (by omega)
  rw [shR,j11 _ (by rw [QO]; omega) (by rw [QO]; omega),ih,ih,ih]
  ((repeat' split) <;> first | rfl | (exfalso; omega) | (congr 1; omega))
def shL (m:Nat):Nat → Array α → Array α
 | 0,d=>d
 | n + 1,d=>swp (shL m n d) (m - n) (m - n - 1)
theorem QP (m:Nat):∀ (n:Nat) (d:Array α),(shL m n d).size=d.size
 | 0,d=>rfl
 | n + 1,d=>by rw [shL,size_swp,QP m n d]
theorem j5X (m:Nat):∀ (n:Nat) (d:Array α),n ≤ m → m < d.size → ∀ x,(shL m n d)[x]! = if m - n < x ∧ x ≤ m then d[x - 1]! else if x=m - n then d[m]! else d[x]!
 | 0,d,_,_,x=>by
  rw [if_neg (by omega)]
  split
  ·rename_i h; rw [h]; rfl
  ·rfl
 | n + 1,d,h,h2,x=>by
  have ih:=j5X m n d (by omega) (by omega)
  rw [shL,j11 _ (by rw [QP]; omega) (by rw [QP]; omega),ih,ih,ih]
  ((repeat' split) <;> first | rfl | (exfalso; omega) | (congr 1; omega))
def bs (p:Nat → Bool) (i j:Nat):Nat :=
 if h:i < j then (if p ((i + j) / 2) then bs p ((i + j) / 2 + 1) j else bs p i ((i + j) / 2)) else i
termination_by j - i
theorem j1d (p:Nat → Bool):∀ (g i j:Nat),j - i ≤ g → i ≤ j → i ≤ bs p i j ∧ bs p i j ≤ j ∧ (i < bs p i j → p (bs p i j - 1)=true) ∧ (bs p i j < j → p (bs p i j)=false):=by
 intro g
 induction g with
 | zero =>
  intro i j h1 h2
  rw [bs,dif_neg (by omega)]
  exact ⟨by omega,by omega,by omega,by omega⟩
 | succ g ih =>
  intro i j h1 h2
  rw [bs]
  by_cases h:i < j
  ·rw [dif_pos h]
   cases hp:p ((i + j) / 2) with
   | true =>
    rw [if_pos rfl]
    obtain ⟨r1,r2,r3,r4⟩:=ih ((i + j) / 2 + 1) j (by omega) (by omega)
    refine ⟨by omega,r2,fun _=>?_,r4⟩
    by_cases e:bs p ((i + j) / 2 + 1) j=(i + j) / 2 + 1
    ·rw [e]; exact hp
    ·exact r3 (by omega)
   | false =>
    rw [if_neg (by decide)]
    obtain ⟨r1,r2,r3,r4⟩:=ih i ((i + j) / 2) (by omega) (by omega)
    refine ⟨r1,by omega,r3,fun _=>?_⟩
    by_cases e:bs p i ((i + j) / 2)=(i + j) / 2
    ·rw [e]; exact hp
    ·exact r4 (by omega)
  ·rw [dif_neg h]
   exact ⟨by omega,by omega,by omega,by omega⟩
def za (d:Array α) (a b:Nat):List α:=(List.range' a (b - a)).map fun x=>d[x]!
theorem j14 (d:Array α) (a b:Nat):(za d a b).length=b - a:=by simp [za]
theorem pp (d:Array α) {a b c:Nat} (h1:a ≤ b) (h2:b ≤ c):za d a c=za d a b ++ za d b c:=by
 unfold za
 rw [← List.map_append]
 congr 1
 have e:List.range' b (c - b)=List.range' (a + (b - a)) (c - b):=by congr 1; omega
 rw [e,List.range'_append_1]
 congr 1
 omega
theorem Zc (d e:Array α) {a b a' b':Nat} (hl:b - a=b' - a') (h:∀ t,t < b - a → d[a + t]! = e[a' + t]!):za d a b=za e a' b':=by
 apply List.ext_getElem
 ·rw [j14,j14,hl]
 ·intro n h1 h2
  rw [j14] at h1
  simp only [za,List.getElem_map,List.getElem_range',Nat.one_mul]
  exact h n h1
theorem yE (d e:Array α) {a b:Nat} (h:∀ x,a ≤ x → x < b → d[x]! = e[x]!):za d a b=za e a b :=
 Zc d e rfl fun t ht=>h _ (by omega) (by omega)
theorem VS {d:Array α} {a b:Nat} {y:α}:y ∈ za d a b ↔ ∃ x,a ≤ x ∧ x < b ∧ d[x]! = y:=by
 unfold za
 rw [List.mem_map]
 constructor
 ·rintro ⟨x,h,rfl⟩
  have:=List.mem_range'_1.1 h
  exact ⟨x,by omega,by omega,rfl⟩
 ·rintro ⟨x,h1,h2,rfl⟩
  exact ⟨x,List.mem_range'_1.2 ⟨by omega,by omega⟩,rfl⟩
variable (lt:α → α → Bool)
def flt (k:α) (l:List α):List α:=l.filter fun x=>!lt x k && !lt k x
variable {lt}
theorem Q9 (k:α) (u v:List α):flt lt k (u ++ v)=flt lt k u ++ flt lt k v:=List.filter_append ..
theorem VW (hS:SWO lt) {l l':List α} (h:∀ k,flt lt k l=flt lt k l') {x:α} (hx:x ∈ l):x ∈ l':=by
 have:x ∈ flt lt x l:=List.mem_filter.2 ⟨hx,by simp [hS.irrefl]⟩
 rw [h] at this
 exact (List.mem_filter.1 this).1
theorem j35 (hS:SWO lt) {u v:List α} (h:∀ x ∈ u,∀ y ∈ v,lt y x=true) (k:α):flt lt k (v ++ u)=flt lt k (u ++ v):=by
 rw [Q9,Q9]
 by_cases hu:flt lt k u=[]
 ·rw [hu]; simp
 ·obtain ⟨x,hx⟩:=List.exists_mem_of_ne_nil _ hu
  obtain ⟨hx1,hx2⟩:=List.mem_filter.1 hx
  have hv:flt lt k v=[]:=by
   refine List.filter_eq_nil_iff.2 fun y hy hc=>?_
   simp only [jg,Bool.not_eq_true'] at hc hx2
   have:=hS.ntrans y k x hc.1 hx2.2
   rw [h x hx1 y hy] at this
   cases this
  rw [hv]; simp
theorem j1P (hS:SWO lt):∀ {l l':List α},l.Pairwise (fun x y=>lt y x=false) → l'.Pairwise (fun x y=>lt y x=false) → (∀ k,flt lt k l=flt lt k l') → l=l'
 | [],[],_,_,_=>rfl
 | [],y :: l',_,_,h=>by
  have:=VW hS (fun k=>(h k).symm) (List.mem_cons_self (a:=y) (l:=l'))
  cases this
 | x :: l,[],_,_,h=>by
  have:=VW hS h (List.mem_cons_self (a:=x) (l:=l))
  cases this
 | x :: l,y :: l',h1,h2,h=>by
  obtain ⟨p1,p2⟩:=List.pairwise_cons.1 h1
  obtain ⟨q1,q2⟩:=List.pairwise_cons.1 h2
  have e1:lt y x=false:=by
   rcases List.mem_cons.1 (VW hS (fun k=>(h k).symm) (List.mem_cons_self (a:=y) (l:=l'))) with e | e
   ·subst e; exact hS.irrefl _
   ·exact p1 _ e
  have e2:lt x y=false:=by
   rcases List.mem_cons.1 (VW hS h (List.mem_cons_self (a:=x) (l:=l))) with e | e
   ·subst e; exact hS.irrefl _
   ·exact q1 _ e
  have hx:=h x
  simp only [flt,List.filter_cons,hS.irrefl,e1,e2,Bool.not_false,Bool.and_self,if_true] at hx
  obtain ⟨rfl,_⟩:=List.cons.inj hx
  congr 1
  refine j1P hS p2 q2 fun k=>?_
  have hk:=h k
  simp only [flt,List.filter_cons] at hk ⊢
  split at hk
  ·exact (List.cons.inj hk).2
  ·exact hk
end
end Go.Proofs.QV

namespace Go.Proofs.QV
open Go Go.Sort
open _root_.Bool renaming and_eq_true → jg
open _root_.List renaming append_assoc → jy, getElem_mem → jo, flatMap_cons → jh, length_append → js, length_cons → jd, eq_nil_of_length_eq_zero → jn
open _root_.Option.some renaming injEq → j8
open _root_.Prod.mk renaming injEq → jb
set_option linter.unusedVariables false
set_option linter.unusedSimpArgs false
set_option linter.unusedSectionVars false
section
variable {α:Type} [Inhabited α] {lt:α → α → Bool}
structure SPost (lt:α → α → Bool) (d d':Array α) (a b:Nat):Prop where
 size:d'.size=d.size
 out:∀ x,x < a ∨ b ≤ x → d'[x]! = d[x]!
 srt:SortedIn lt a b d'
 flt:∀ k,flt lt k (za d' a b)=flt lt k (za d a b)
theorem SPost.refl {d:Array α} {a b:Nat} (h:SortedIn lt a b d):SPost lt d d a b:=⟨rfl,fun _ _=>rfl,h,fun _=>rfl⟩
theorem Kh (hS:SWO lt) {d:Array α} {a b:Nat} (h:SortedIn lt a b d) {p q:Nat} (h1:a ≤ p) (h2:p ≤ q) (h3:q < b):lt d[q]! d[p]! = false:=by
 by_cases e:p=q
 ·subst e; exact hS.irrefl _
 ·exact h p q h1 (by omega) h3
theorem XN (hS:SWO lt) {d d1 d2 d3:Array α} {a s m mid e b:Nat} (h1:a ≤ s) (h2:s ≤ m) (h3:m ≤ e) (h4:e ≤ b) (hmid:mid=s + (e - m))
  (U:SortedIn lt a m d) (V:SortedIn lt m b d) (F1:a < s → e < b → lt d[e]! d[s - 1]! = false) (F2:s < m → m < e → lt d[e - 1]! d[s]! = true)
  (hs:d1.size=d.size) (hg:∀ x,d1[x]! = if s ≤ x ∧ x < mid then d[x + (m - s)]! else if mid ≤ x ∧ x < e then d[x - (mid - s)]! else d[x]!)
  (H1:SPost lt d1 d2 a mid) (H2:SPost lt d2 d3 mid b):SPost lt d d3 a b:=by
 have cross:∀ x y,a ≤ x → x < mid → mid ≤ y → y < b → lt d1[y]! d1[x]! = false:=by
  intro x y x1 x2 y1 y2
  have Y1:y < e → d1[y]! = d[y - (mid - s)]!:=fun hy=>by rw [hg,if_neg (by omega),if_pos (by omega)]
  have Y2:¬ y < e → d1[y]! = d[y]!:=fun hy=>by rw [hg,if_neg (by omega),if_neg (by omega)]
  by_cases hx:s ≤ x
  ·have X:d1[x]! = d[x + (m - s)]!:=by rw [hg,if_pos (by omega)]
   rw [X]
   by_cases hy:y < e
   ·rw [Y1 hy]
    have f2:=F2 (by omega) (by omega)
    have g1:=Kh hS U (p:=s) (q:=y - (mid - s)) h1 (by omega) (by omega)
    have g2:=Kh hS V (p:=x + (m - s)) (q:=e - 1) (by omega) (by omega) (by omega)
    exact hS.ntrans _ _ _ (hS.ntrans _ _ _ g1 (hS.asymmA f2)) g2
   ·rw [Y2 hy]
    exact Kh hS V (by omega) (by omega) y2
  ·have X:d1[x]! = d[x]!:=by rw [hg,if_neg (by omega),if_neg (by omega)]
   rw [X]
   by_cases hy:y < e
   ·rw [Y1 hy]
    exact Kh hS U x1 (by omega) (by omega)
   ·rw [Y2 hy]
    have f1:=F1 (by omega) (by omega)
    have g1:=Kh hS V (p:=e) (q:=y) h3 (by omega) y2
    have g2:=Kh hS U (p:=x) (q:=s - 1) x1 (by omega) (by omega)
    exact hS.ntrans _ _ _ (hS.ntrans _ _ _ g1 f1) g2
 have e12:za d2 mid b=za d1 mid b:=yE _ _ fun x x1 x2=>H1.out x (.inr x1)
 have e32:za d3 a mid=za d2 a mid:=yE _ _ fun x x1 x2=>H2.out x (.inl x2)
 refine ⟨by rw [H2.size,H1.size,hs],fun x hx=>?_,fun p q p1 p2 p3=>?_,fun k=>?_⟩
 ·rw [H2.out x (by omega),H1.out x (by omega),hg,if_neg (by omega),if_neg (by omega)]
 ·by_cases hq:q < mid
  ·rw [H2.out p (.inl (by omega)),H2.out q (.inl hq)]
   exact H1.srt p q p1 p2 hq
  ·by_cases hp:mid ≤ p
   ·exact H2.srt p q hp p2 p3
   ·rw [H2.out p (.inl (by omega))]
    have i1:d2[p]! ∈ za d1 a mid:=VW hS H1.flt (VS.2 ⟨p,p1,by omega,rfl⟩)
    have i2:d3[q]! ∈ za d1 mid b:=by rw [← e12]; exact VW hS H2.flt (VS.2 ⟨q,by omega,p3,rfl⟩)
    obtain ⟨x,x1,x2,x3⟩:=VS.1 i1
    obtain ⟨y,y1,y2,y3⟩:=VS.1 i2
    rw [← x3,← y3]
    exact cross x y x1 x2 y1 y2
 ·have s1:za d1 a s=za d a s:=yE _ _ fun x x1 x2=>by rw [hg,if_neg (by omega),if_neg (by omega)]
  have s2:za d1 s mid=za d m e:=Zc _ _ (by omega) fun t ht=>by rw [hg,if_pos (by omega)]; congr 1; omega
  have s3:za d1 mid e=za d s m:=Zc _ _ (by omega) fun t ht=>by rw [hg,if_neg (by omega),if_pos (by omega)]; congr 1; omega
  have s4:za d1 e b=za d e b:=yE _ _ fun x x1 x2=>by rw [hg,if_neg (by omega),if_neg (by omega)]
  rw [pp d3 (show a ≤ mid by omega) (show mid ≤ b by omega),e32,Q9,H1.flt,H2.flt,e12,← Q9,pp d1 h1 (show s ≤ mid by omega),pp d1 (show mid ≤ e by omega) h4,s1,s2,s3,s4,
   pp d (show a ≤ m by omega) (show m ≤ b by omega),pp d h1 h2,pp d h3 h4]
  have hc:flt lt k (za d m e ++ za d s m)=flt lt k (za d s m ++ za d m e):=by
   refine j35 hS (fun x hx y hy=>?_) k
   obtain ⟨i,i1,i2,rfl⟩:=VS.1 hx
   obtain ⟨j,j1,j2,rfl⟩:=VS.1 hy
   cases hl:lt d[j]! d[i]! with
   | true=>rfl
   | false =>
    have f2:=F2 (by omega) (by omega)
    have g1:=Kh hS V (p:=j) (q:=e - 1) j1 (by omega) (by omega)
    have g2:=Kh hS U (p:=s) (q:=i) h1 i1 i2
    rw [hS.ntrans _ _ _ (hS.ntrans _ _ _ g1 hl) g2] at f2
    cases f2
  simp only [Q9,jy] at hc ⊢
  rw [← jy (flt lt k (za d m e)),hc,jy]
def X6 (lt:α → α → Bool) (d:Array α) (a m b:Nat):Nat :=
 bs (fun c=>!lt d[(a + b) / 2 + m - 1 - c]! d[c]!) (if (a + b) / 2 < m then (a + b) / 2 + m - b else a) (if (a + b) / 2 < m then (a + b) / 2 else m)
def Jd (d:Array α) (a m b s:Nat):Array α:=if s < m ∧ m < (a + b) / 2 + m - s then rot m (m - s) ((a + b) / 2 - s) d else d
def qn (lt:α → α → Bool):Nat → Nat → Nat → Nat → Array α → Array α
 | 0,_,_,_,d=>d
 | g + 1,a,m,b,d =>
  if m - a=1 then shR a (bs (fun h=>lt d[h]! d[a]!) m b - 1 - a) d
  else if b - m=1 then shL m (m - bs (fun h=>!lt d[m]! d[h]!) a m) d
  else
   let s:=X6 lt d a m b
   let d1:=Jd d a m b s
   let d2:=if a < s ∧ s < (a + b) / 2 then qn lt g a s ((a + b) / 2) d1 else d1
   if (a + b) / 2 < (a + b) / 2 + m - s ∧ (a + b) / 2 + m - s < b then qn lt g ((a + b) / 2) ((a + b) / 2 + m - s) b d2 else d2
theorem j3b {d:Array α} {a m b:Nat} (h1:a < m) (h2:m < b):a ≤ X6 lt d a m b ∧ X6 lt d a m b ≤ m ∧ X6 lt d a m b ≤ (a + b) / 2 ∧ (a + b) / 2 + m - X6 lt d a m b ≤ b ∧
  (a < X6 lt d a m b → (a + b) / 2 + m - X6 lt d a m b < b → lt d[(a + b) / 2 + m - X6 lt d a m b]! d[X6 lt d a m b - 1]! = false) ∧
  (X6 lt d a m b < m → m < (a + b) / 2 + m - X6 lt d a m b → lt d[(a + b) / 2 + m - X6 lt d a m b - 1]! d[X6 lt d a m b]! = true):=by
 unfold X6
 by_cases h:(a + b) / 2 < m
 ·rw [if_pos h,if_pos h]
  obtain ⟨r1,r2,r3,r4⟩:=j1d (fun c=>!lt d[(a + b) / 2 + m - 1 - c]! d[c]!) _ ((a + b) / 2 + m - b) ((a + b) / 2) (Nat.le_refl _) (by omega)
  generalize bs _ _ _=s at *
  simp only [Bool.not_eq_true',Bool.not_eq_false'] at r3 r4
  refine ⟨by omega,by omega,by omega,by omega,fun q1 q2=>?_,fun q1 q2=>?_⟩
  ·have:=r3 (by omega)
   rwa [show (a + b) / 2 + m - 1 - (s - 1)=(a + b) / 2 + m - s by omega] at this
  ·have:=r4 (by omega)
   rwa [show (a + b) / 2 + m - 1 - s=(a + b) / 2 + m - s - 1 by omega] at this
 ·rw [if_neg h,if_neg h]
  obtain ⟨r1,r2,r3,r4⟩:=j1d (fun c=>!lt d[(a + b) / 2 + m - 1 - c]! d[c]!) _ a m (Nat.le_refl _) (by omega)
  generalize bs _ _ _=s at *
  simp only [Bool.not_eq_true',Bool.not_eq_false'] at r3 r4
  refine ⟨by omega,by omega,by omega,by omega,fun q1 q2=>?_,fun q1 q2=>?_⟩
  ·have:=r3 (by omega)
   rwa [show (a + b) / 2 + m - 1 - (s - 1)=(a + b) / 2 + m - s by omega] at this
  ·have:=r4 (by omega)
   rwa [show (a + b) / 2 + m - 1 - s=(a + b) / 2 + m - s - 1 by omega] at this
theorem j7F {d:Array α} {a m b s:Nat} (h1:a < m) (h2:m < b) (hb:b ≤ d.size) (q1:a ≤ s) (q2:s ≤ m) (q3:s ≤ (a + b) / 2) (q4:(a + b) / 2 + m - s ≤ b):(Jd d a m b s).size=d.size ∧
  ∀ x,(Jd d a m b s)[x]! = if s ≤ x ∧ x < (a + b) / 2 then d[x + (m - s)]! else if (a + b) / 2 ≤ x ∧ x < (a + b) / 2 + m - s then d[x - ((a + b) / 2 - s)]! else d[x]!:=by
 unfold Jd
 by_cases h:s < m ∧ m < (a + b) / 2 + m - s
 ·rw [if_pos h]
  obtain ⟨r1,r2⟩:=j8L m _ (m - s) ((a + b) / 2 - s) d (Nat.le_refl _) (by omega) (by omega) (by omega) (by omega)
  refine ⟨r1,fun x=>?_⟩
  rw [r2]
  ((repeat' split) <;> first | rfl | (exfalso; omega) | (congr 1; omega))
 ·rw [if_neg h]
  refine ⟨rfl,fun x=>?_⟩
  ((repeat' split) <;> first | rfl | (exfalso; omega) | (congr 1; omega))
theorem j2A (hS:SWO lt):∀ (g a m b:Nat) (d:Array α),b - a ≤ g → a < m → m < b → b ≤ d.size → SortedIn lt a m d → SortedIn lt m b d → SPost lt d (qn lt g a m b d) a b:=by
 intro g
 induction g with
 | zero=>intro a m b d h; omega
 | succ g ih =>
  intro a m b d hg h1 h2 hb U V
  rw [qn]
  by_cases c1:m - a=1
  ·rw [if_pos c1]
   obtain ⟨r1,r2,r3,r4⟩:=j1d (fun h=>lt d[h]! d[a]!) _ m b (Nat.le_refl _) (by omega)
   generalize bs _ _ _=r at *
   have q:=j5W a (r - 1 - a) d (by omega)
   have qs:=QO a (r - 1 - a) d
   generalize shR a (r - 1 - a) d=d1 at *
   refine XN hS (d1:=d1) (d2:=d1) (s:=a) (m:=m) (mid:=a + (r - m)) (e:=r) (Nat.le_refl _) (by omega) r1 r2 rfl U V (by omega) (fun _ h=>r3 h) qs (fun x=>by rw [q]; ((repeat' split) <;> first | rfl | (exfalso; omega) | (congr 1; omega)))
    (SPost.refl fun x y x1 x2 x3=>?_) (SPost.refl fun x y x1 x2 x3=>?_)
   ·rw [q,q,if_pos (by omega),if_pos (by omega)]
    exact V _ _ (by omega) (by omega) (by omega)
   ·rw [q y,if_neg (by omega),if_neg (by omega),q x,if_neg (by omega)]
    by_cases hx:x=a + (r - 1 - a)
    ·rw [if_pos hx]
     exact hS.ntrans _ _ _ (Kh hS V (p:=r) (q:=y) r1 (by omega) x3) (r4 (by omega))
    ·rw [if_neg hx]
     exact V _ _ (by omega) x2 x3
  ·rw [if_neg c1]
   by_cases c2:b - m=1
   ·rw [if_pos c2]
    obtain ⟨r1,r2,r3,r4⟩:=j1d (fun h=>!lt d[m]! d[h]!) _ a m (Nat.le_refl _) (by omega)
    generalize bs _ _ _=r at *
    simp only [Bool.not_eq_true',Bool.not_eq_false'] at r3 r4
    have q:=j5X m (m - r) d (by omega) (by omega)
    have qs:=QP m (m - r) d
    generalize shL m (m - r) d=d1 at *
    refine XN hS (d1:=d1) (d2:=d1) (s:=r) (m:=m) (mid:=r + (b - m)) (e:=b) r1 r2 (by omega) (Nat.le_refl _) rfl U V (by omega) (fun h _=>by rw [show b - 1=m by omega]; exact r4 h) qs (fun x=>by rw [q]; ((repeat' split) <;> first | rfl | (exfalso; omega) | (congr 1; omega)))
     (SPost.refl fun x y x1 x2 x3=>?_) (SPost.refl fun x y x1 x2 x3=>?_)
    ·rw [q x,if_neg (by omega),if_neg (by omega),q y,if_neg (by omega)]
     by_cases hy:y=m - (m - r)
     ·rw [if_pos hy]
      exact hS.ntrans _ _ _ (r3 (by omega)) (Kh hS U (p:=x) (q:=r - 1) x1 (by omega) (by omega))
     ·rw [if_neg hy]
      exact U _ _ x1 x2 (by omega)
    ·rw [q,q,if_pos (by omega),if_pos (by omega)]
     exact U _ _ (by omega) (by omega) (by omega)
   ·rw [if_neg c2]
    obtain ⟨q1,q2,q3,q4,q5,q6⟩:=j3b (lt:=lt) (d:=d) h1 h2
    generalize X6 lt d a m b=s at *
    obtain ⟨k1,k2⟩:=j7F h1 h2 hb q1 q2 q3 q4
    show SPost lt d (if (a + b) / 2 < (a + b) / 2 + m - s ∧ (a + b) / 2 + m - s < b then qn lt g ((a + b) / 2) ((a + b) / 2 + m - s) b (if a < s ∧ s < (a + b) / 2 then qn lt g a s ((a + b) / 2) (Jd d a m b s) else Jd d a m b s) else (if a < s ∧ s < (a + b) / 2 then qn lt g a s ((a + b) / 2) (Jd d a m b s) else Jd d a m b s)) a b
    generalize Jd d a m b s=d1 at *
    have S1:SortedIn lt a s d1:=fun x y x1 x2 x3=>by
     rw [k2,k2,if_neg (by omega),if_neg (by omega),if_neg (by omega),if_neg (by omega)]
     exact U _ _ x1 x2 (by omega)
    have S2:SortedIn lt s ((a + b) / 2) d1:=fun x y x1 x2 x3=>by
     rw [k2,k2,if_pos (by omega),if_pos (by omega)]
     exact V _ _ (by omega) (by omega) (by omega)
    have S3:SortedIn lt ((a + b) / 2) ((a + b) / 2 + m - s) d1:=fun x y x1 x2 x3=>by
     rw [k2,k2,if_neg (by omega),if_pos (by omega),if_neg (by omega),if_pos (by omega)]
     exact U _ _ (by omega) (by omega) (by omega)
    have S4:SortedIn lt ((a + b) / 2 + m - s) b d1:=fun x y x1 x2 x3=>by
     rw [k2,k2,if_neg (by omega),if_neg (by omega),if_neg (by omega),if_neg (by omega)]
     exact V _ _ (by omega) x2 x3
    have H1:SPost lt d1 (if a < s ∧ s < (a + b) / 2 then qn lt g a s ((a + b) / 2) d1 else d1) a ((a + b) / 2):=by
     by_cases c:a < s ∧ s < (a + b) / 2
     ·rw [if_pos c]
      exact ih a s ((a + b) / 2) d1 (by omega) c.1 c.2 (by omega) S1 S2
     ·rw [if_neg c]
      refine SPost.refl ?_
      by_cases e:a=s
      ·rw [e]; rw [e] at S2; exact S2
      ·have:s=(a + b) / 2:=by omega
       rw [← this]; exact S1
    generalize (if a < s ∧ s < (a + b) / 2 then qn lt g a s ((a + b) / 2) d1 else d1)=d2 at *
    refine XN hS (d1:=d1) (d2:=d2) (s:=s) (m:=m) (mid:=(a + b) / 2) (e:=(a + b) / 2 + m - s) q1 q2 (by omega) q4 (by omega) U V q5 q6 k1 k2 H1 ?_
    have S3':SortedIn lt ((a + b) / 2) ((a + b) / 2 + m - s) d2:=fun x y x1 x2 x3=>by
     rw [H1.out x (.inr x1),H1.out y (.inr (by omega))]
     exact S3 x y x1 x2 x3
    have S4':SortedIn lt ((a + b) / 2 + m - s) b d2:=fun x y x1 x2 x3=>by
     rw [H1.out x (.inr (by omega)),H1.out y (.inr (by omega))]
     exact S4 x y x1 x2 x3
    by_cases c:(a + b) / 2 < (a + b) / 2 + m - s ∧ (a + b) / 2 + m - s < b
    ·rw [if_pos c]
     exact ih ((a + b) / 2) ((a + b) / 2 + m - s) b d2 (by omega) c.1 c.2 (by rw [H1.size,k1]; exact hb) S3' S4'
    ·rw [if_neg c]
     refine SPost.refl ?_
     by_cases e:(a + b) / 2=(a + b) / 2 + m - s
     ·rw [e]; exact S4'
     ·have:(a + b) / 2 + m - s=b:=by omega
      rw [this] at S3'; exact S3'
end
end Go.Proofs.QV

namespace Go.Proofs.QV
open Go Go.Sort
open _root_.Bool renaming and_eq_true → jg
open _root_.List renaming append_assoc → jy, getElem_mem → jo, flatMap_cons → jh, length_append → js, length_cons → jd, eq_nil_of_length_eq_zero → jn
open _root_.Option.some renaming injEq → j8
open _root_.Prod.mk renaming injEq → jb
set_option linter.unusedVariables false
set_option linter.unusedSimpArgs false
set_option linter.unusedSectionVars false
section
variable {α:Type} [Inhabited α] {lt:α → α → Bool}
theorem j13 (d:Array α) (a:Nat):za d a (a + 1)=[d[a]!]:=by simp [za]
theorem j9b (hS:SWO lt) {d:Array α} {a b j:Nat} (h1:a ≤ j) (h2:j + 1 < b) (hb:b ≤ d.size) (hl:lt d[j + 1]! d[j]! = true) (k:α):flt lt k (za (swp d (j + 1) j) a b)=flt lt k (za d a b):=by
 have q:=j11 d (i:=j + 1) (j:=j) (by omega) (by omega)
 rw [pp _ h1 (show j ≤ b by omega),pp _ (show j ≤ j + 1 by omega) (show j + 1 ≤ b by omega),pp _ (show j + 1 ≤ j + 1 + 1 by omega) (show j + 1 + 1 ≤ b by omega),j13,j13]
 rw [pp d h1 (show j ≤ b by omega),pp d (show j ≤ j + 1 by omega) (show j + 1 ≤ b by omega),pp d (show j + 1 ≤ j + 1 + 1 by omega) (show j + 1 + 1 ≤ b by omega),j13,j13]
 have e1:za (swp d (j + 1) j) a j=za d a j:=yE _ _ fun x x1 x2=>by rw [q,if_neg (by omega),if_neg (by omega)]
 have e2:za (swp d (j + 1) j) (j + 1 + 1) b=za d (j + 1 + 1) b:=yE _ _ fun x x1 x2=>by rw [q,if_neg (by omega),if_neg (by omega)]
 have e3:(swp d (j + 1) j)[j]! = d[j + 1]!:=by rw [q,if_neg (by omega),if_pos rfl]
 have e4:(swp d (j + 1) j)[j + 1]! = d[j]!:=by rw [q,if_pos rfl]
 rw [e1,e2,e3,e4]
 have hc:flt lt k ([d[j + 1]!] ++ [d[j]!])=flt lt k ([d[j]!] ++ [d[j + 1]!]):=j35 hS (fun x hx y hy=>by
  rw [List.mem_singleton.1 hx,List.mem_singleton.1 hy]; exact hl) k
 simp only [Q9] at hc ⊢
 rw [← jy (flt lt k [d[j + 1]!]),hc,jy]
theorem j30 (hS:SWO lt) (a b i:Nat) (hib:i < b) (k:α):∀ (j:Nat) (d:Array α),j ≤ i → b ≤ d.size → (insInner lt a j d).size=d.size ∧ flt lt k (za (insInner lt a j d) a b)=flt lt k (za d a b)
 | 0,d,_,_=>⟨rfl,rfl⟩
 | j + 1,d,hj,hb=>by
  unfold insInner
  split
  ·rename_i hc
   simp only [jg,decide_eq_true_eq] at hc
   obtain ⟨r1,r2⟩:=j30 hS a b i hib k j (swp d (j + 1) j) (by omega) (by rw [size_swp]; exact hb)
   exact ⟨by rw [r1,size_swp],by rw [r2]; exact j9b hS (by omega) (by omega) hb hc.2 k⟩
  ·exact ⟨rfl,rfl⟩
theorem j2O (hS:SWO lt) (a b:Nat) (k:α):∀ (n i:Nat) (d:Array α),b - i=n → b ≤ d.size → flt lt k (za (insOuter lt a b i d) a b)=flt lt k (za d a b)
 | 0,i,d,hn,hb=>by rw [insOuter,if_neg (by omega)]
 | n + 1,i,d,hn,hb=>by
  obtain ⟨r1,r2⟩:=j30 hS a b i (by omega) k i d (Nat.le_refl _) hb
  rw [insOuter,if_pos (by omega),j2O hS a b k n (i + 1) _ (by omega) (by rw [r1]; exact hb),r2]
theorem j1N (hS:SWO lt) {d:Array α} {a b:Nat} (hab:a ≤ b) (hb:b ≤ d.size):SPost lt d (insertionSort lt d a b) a b:=by
 obtain ⟨⟨p1,p2,_⟩,p3⟩:=insertionSort_holds hS d a b hab hb
 exact ⟨p1,p2,p3,fun k=>j2O hS a b k _ (a + 1) d rfl hb⟩
theorem VR {d d':Array α} {a b n:Nat} (h:SPost lt d d' a b) (hab:a ≤ b) (hb:b ≤ n) (k:α):flt lt k (za d' 0 n)=flt lt k (za d 0 n):=by
 rw [pp d' (Nat.zero_le a) (show a ≤ n by omega),pp d' hab hb,pp d (Nat.zero_le a) (show a ≤ n by omega),pp d hab hb]
 have e1:za d' 0 a=za d 0 a:=yE _ _ fun x _ x2=>h.out x (.inl x2)
 have e2:za d' b n=za d b n:=yE _ _ fun x x1 _=>h.out x (.inr x1)
 rw [e1,e2]
 simp only [Q9,h.flt]
theorem yR {B c a:Nat} (h1:B ∣ c) (h2:B ∣ a) (h:c < a):c + B ≤ a:=by
 obtain ⟨x,rfl⟩:=h1
 obtain ⟨y,rfl⟩:=h2
 have:x < y:=by
  refine Nat.lt_of_not_le fun hh=>?_
  have:=Nat.mul_le_mul_left B hh
  omega
 have:=Nat.mul_le_mul_left B (show x + 1 ≤ y from this)
 rwa [Nat.mul_add,Nat.mul_one] at this
def j0T (lt:α → α → Bool) (n B a:Nat) (d:Array α):Array α :=
 if h:a + B ≤ n ∧ 0 < B then j0T lt n B (a + B) (insertionSort lt d a (a + B)) else insertionSort lt d a n
termination_by n - a
def mrg (lt:α → α → Bool) (n B a:Nat) (d:Array α):Array α :=
 if h:a + 2 * B ≤ n ∧ 0 < B then mrg lt n B (a + 2 * B) (qn lt (2 * B) a (a + B) (a + 2 * B) d) else if a + B < n then qn lt (n - a) a (a + B) n d else d
termination_by n - a
def yy (lt:α → α → Bool) (n B:Nat) (d:Array α):Array α :=
 if h:B < n ∧ 0 < B then yy lt n (2 * B) (mrg lt n B 0 d) else d
termination_by n - B
def kt (lt:α → α → Bool) (d:Array α):Array α:=yy lt d.size 20 (j0T lt d.size 20 0 d)
structure Done (lt:α → α → Bool) (n B:Nat) (d d':Array α):Prop where
 size:d'.size=d.size
 flt:∀ k,flt lt k (za d' 0 n)=flt lt k (za d 0 n)
 blk:∀ c,B ∣ c → SortedIn lt c (min (c + B) n) d'
theorem j75 (hS:SWO lt) (n B:Nat) (hB:0 < B):∀ (g a:Nat) (d:Array α),n - a ≤ g → B ∣ a → a ≤ n → n ≤ d.size → (∀ c,B ∣ c → c < a → SortedIn lt c (c + B) d) → Done lt n B d (j0T lt n B a d):=by
 intro g
 have fin:∀ (a:Nat) (d:Array α),¬ a + B ≤ n → B ∣ a → a ≤ n → n ≤ d.size → (∀ c,B ∣ c → c < a → SortedIn lt c (c + B) d) → Done lt n B d (insertionSort lt d a n):=by
  intro a d h ha han hn hc
  have P:=j1N hS han hn
  refine ⟨P.size,fun k=>VR P han (Nat.le_refl _) k,fun c c1=>?_⟩
  by_cases h1:c < a
  ·have:=yR c1 ha h1
   intro p q p1 p2 p3
   rw [P.out p (.inl (by omega)),P.out q (.inl (by omega))]
   exact hc c c1 h1 p q p1 p2 (by omega)
  ·by_cases h2:a < c
   ·have:=yR ha c1 h2
    intro p q p1 p2 p3
    omega
   ·intro p q p1 p2 p3
    exact P.srt p q (by omega) p2 (by omega)
 induction g with
 | zero =>
  intro a d h ha han hn hc
  rw [j0T,dif_neg (by omega)]
  exact fin a d (by omega) ha han hn hc
 | succ g ih =>
  intro a d h ha han hn hc
  rw [j0T]
  by_cases hl:a + B ≤ n
  ·rw [dif_pos ⟨hl,hB⟩]
   have P:=j1N (lt:=lt) hS (d:=d) (a:=a) (b:=a + B) (by omega) (by omega)
   obtain ⟨r1,r2,r3⟩:=ih (a + B) (insertionSort lt d a (a + B)) (by omega) (Nat.dvd_add ha (Nat.dvd_refl _)) hl (by rw [P.size]; exact hn) (fun c c1 c2=>by
    by_cases h1:c < a
    ·have:=yR c1 ha h1
     intro p q p1 p2 p3
     rw [P.out p (.inl (by omega)),P.out q (.inl (by omega))]
     exact hc c c1 h1 p q p1 p2 p3
    ·by_cases h2:a < c
     ·have:=yR ha c1 h2
      omega
     ·have:c=a:=by omega
      subst this
      exact P.srt)
   exact ⟨by rw [r1,P.size],fun k=>by rw [r2,VR P (by omega) hl],r3⟩
  ·rw [dif_neg (by omega)]
   exact fin a d hl ha han hn hc
theorem j7X (hS:SWO lt) (n B:Nat) (hB:0 < B):∀ (g a:Nat) (d:Array α),n - a ≤ g → 2 * B ∣ a → n ≤ d.size → (∀ c,2 * B ∣ c → c < a → SortedIn lt c (min (c + 2 * B) n) d) → (∀ c,B ∣ c → a ≤ c → SortedIn lt c (min (c + B) n) d) → Done lt n (2 * B) d (mrg lt n B a d):=by
 intro g
 have hB2:B ∣ 2 * B:=⟨2,by omega⟩
 have fin:∀ (a:Nat) (d:Array α),¬ a + 2 * B ≤ n → 2 * B ∣ a → n ≤ d.size → (∀ c,2 * B ∣ c → c < a → SortedIn lt c (min (c + 2 * B) n) d) → (∀ c,B ∣ c → a ≤ c → SortedIn lt c (min (c + B) n) d) → Done lt n (2 * B) d (if a + B < n then qn lt (n - a) a (a + B) n d else d):=by
  intro a d h ha hn hc he
  have haB:B ∣ a:=Nat.dvd_trans hB2 ha
  have s1:=he a haB (Nat.le_refl _)
  by_cases hm:a + B < n
  ·rw [if_pos hm]
   have s2:=he (a + B) (Nat.dvd_add haB (Nat.dvd_refl _)) (by omega)
   rw [show min (a + B) n=a + B by omega] at s1
   rw [show min (a + B + B) n=n by omega] at s2
   have P:=j2A hS (n - a) a (a + B) n d (Nat.le_refl _) (by omega) hm hn s1 s2
   refine ⟨P.size,fun k=>VR P (by omega) (Nat.le_refl _) k,fun c c1=>?_⟩
   by_cases h1:c < a
   ·have:=yR c1 ha h1
    intro p q p1 p2 p3
    rw [P.out p (.inl (by omega)),P.out q (.inl (by omega))]
    exact hc c c1 h1 p q p1 p2 p3
   ·by_cases h2:a < c
    ·have:=yR ha c1 h2
     intro p q p1 p2 p3
     omega
    ·intro p q p1 p2 p3
     exact P.srt p q (by omega) p2 (by omega)
  ·rw [if_neg hm]
   refine ⟨rfl,fun _=>rfl,fun c c1=>?_⟩
   by_cases h1:c < a
   ·exact hc c c1 h1
   ·by_cases h2:a < c
    ·have:=yR ha c1 h2
     intro p q p1 p2 p3
     omega
    ·intro p q p1 p2 p3
     exact s1 p q (by omega) p2 (by omega)
 induction g with
 | zero =>
  intro a d h ha hn hc he
  rw [mrg,dif_neg (by omega)]
  exact fin a d (by omega) ha hn hc he
 | succ g ih =>
  intro a d h ha hn hc he
  rw [mrg]
  by_cases hl:a + 2 * B ≤ n
  ·rw [dif_pos ⟨hl,hB⟩]
   have haB:B ∣ a:=Nat.dvd_trans hB2 ha
   have s1:=he a haB (Nat.le_refl _)
   have s2:=he (a + B) (Nat.dvd_add haB (Nat.dvd_refl _)) (by omega)
   rw [show min (a + B) n=a + B by omega] at s1
   rw [show min (a + B + B) n=a + 2 * B by omega] at s2
   have P:=j2A hS (2 * B) a (a + B) (a + 2 * B) d (by omega) (by omega) (by omega) (by omega) s1 s2
   obtain ⟨r1,r2,r3⟩:=ih (a + 2 * B) _ (by omega) (Nat.dvd_add ha (Nat.dvd_refl _)) (by rw [P.size]; exact hn) (fun c c1 c2=>by
    by_cases h1:c < a
    ·have:=yR c1 ha h1
     intro p q p1 p2 p3
     rw [P.out p (.inl (by omega)),P.out q (.inl (by omega))]
     exact hc c c1 h1 p q p1 p2 p3
    ·by_cases h2:a < c
     ·have:=yR ha c1 h2
      omega
     ·intro p q p1 p2 p3
      exact P.srt p q (by omega) p2 (by omega)) (fun c c1 c2 p q p1 p2 p3=>by
    rw [P.out p (.inr (by omega)),P.out q (.inr (by omega))]
    exact he c c1 (by omega) p q p1 p2 p3)
   exact ⟨by rw [r1,P.size],fun k=>by rw [r2,VR P (by omega) hl],r3⟩
  ·rw [dif_neg (by omega)]
   exact fin a d hl ha hn hc he
theorem j4y (hS:SWO lt) (n:Nat):∀ (g B:Nat) (d:Array α),0 < B → n - B ≤ g → n ≤ d.size → (∀ c,B ∣ c → SortedIn lt c (min (c + B) n) d) → (yy lt n B d).size=d.size ∧ (∀ k,flt lt k (za (yy lt n B d) 0 n)=flt lt k (za d 0 n)) ∧ SortedIn lt 0 n (yy lt n B d):=by
 intro g
 induction g with
 | zero =>
  intro B d hB hg hn hc
  rw [yy,dif_neg (by omega)]
  have:=hc 0 (Nat.dvd_zero _)
  rw [show min (0 + B) n=n by omega] at this
  exact ⟨rfl,fun _=>rfl,this⟩
 | succ g ih =>
  intro B d hB hg hn hc
  rw [yy]
  by_cases hl:B < n
  ·rw [dif_pos ⟨hl,hB⟩]
   obtain ⟨r1,r2,r3⟩:=j7X hS n B hB n 0 d (by omega) (Nat.dvd_zero _) hn (fun c _ h=>by omega) (fun c c1 _=>hc c c1)
   obtain ⟨q1,q2,q3⟩:=ih (2 * B) (mrg lt n B 0 d) (by omega) (by omega) (by rw [r1]; exact hn) r3
   exact ⟨by rw [q1,r1],fun k=>by rw [q2,r2],q3⟩
  ·rw [dif_neg (by omega)]
   have:=hc 0 (Nat.dvd_zero _)
   rw [show min (0 + B) n=n by omega] at this
   exact ⟨rfl,fun _=>rfl,this⟩
theorem j5Y (d:Array α):za d 0 d.size=d.toList:=by
 apply List.ext_getElem
 ·rw [j14]; simp
 ·intro i h1 h2
  have hi:i < d.size:=by simpa using h2
  simp [za,getElem!_pos d i hi]
theorem j5b (hS:SWO lt) (d:Array α) {l:List α} (h1:l.Pairwise fun x y=>lt y x=false) (h2:∀ k,flt lt k l=flt lt k d.toList):(kt lt d).toList=l:=by
 obtain ⟨r1,r2,r3⟩:=j75 hS d.size 20 (by omega) d.size 0 d (by omega) (Nat.dvd_zero _) (Nat.zero_le _) (Nat.le_refl _) (fun c _ h=>by omega)
 obtain ⟨q1,q2,q3⟩:=j4y hS d.size d.size 20 _ (by omega) (by omega) (by rw [r1]; exact Nat.le_refl _) r3
 have hs:(kt lt d).size=d.size:=by unfold kt; rw [q1,r1]
 have hf:∀ k,flt lt k (kt lt d).toList=flt lt k d.toList:=fun k=>by
  rw [← j5Y,← j5Y d,hs]
  unfold kt
  rw [q2,r2]
 refine j1P hS ?_ h1 fun k=>by rw [hf,h2]
 rw [List.pairwise_iff_getElem]
 intro i j hi hj hij
 have hi':i < (kt lt d).size:=by simpa using hi
 have hj':j < (kt lt d).size:=by simpa using hj
 have this:lt (kt lt d)[j]! (kt lt d)[i]! = false:=q3 i j (Nat.zero_le _) hij (by rw [← hs]; exact hj')
 rw [getElem!_pos _ i hi',getElem!_pos _ j hj'] at this
 rw [Array.getElem_toList,Array.getElem_toList]
 exact this
end
end Go.Proofs.QV

namespace Go.Proofs.QV
open Go Go.Sort Go.Lib
open _root_.Bool renaming and_eq_true → jg
open _root_.List renaming append_assoc → jy, getElem_mem → jo, flatMap_cons → jh, length_append → js, length_cons → jd, eq_nil_of_length_eq_zero → jn
open _root_.Option.some renaming injEq → j8
open _root_.Prod.mk renaming injEq → jb
set_option linter.unusedVariables false
set_option linter.unusedSimpArgs false
set_option linter.unusedSectionVars false
theorem j9p:∀ a b:List UInt8,(compareBytes a b < 0) ↔ a < b
 | [],[]=>by simp [compareBytes]
 | [],b :: t=>by simp [compareBytes]
 | a :: s,[]=>by simp [compareBytes]
 | a :: s,b :: t=>by
  unfold compareBytes
  rw [List.cons_lt_cons_iff]
  by_cases h:a < b
  ·simp [h]
  ·by_cases h2:b < a
   ·have hne:a ≠ b:=fun e=>by subst e; exact h h2
    simp [h,h2,hne]
   ·have he:a=b:=UInt8.le_antisymm (UInt8.not_lt.1 h2) (UInt8.not_lt.1 h)
    rw [if_neg h,if_neg h2,j9p s t]
    simp [he]
section
variable {α:Type} [Inhabited α] (f:α → List UInt8)
theorem j1G (x y:α):ltOf (fun x y=>compareBytes (f x) (f y)) x y=decide (f x < f y):=by
 unfold ltOf
 simp only [j9p]
theorem j9i {a b c:List UInt8} (h:a ≤ b) (k:b ≤ c):a ≤ c:=by
 refine List.not_lt.1 fun h2=>?_
 by_cases e:a=b
 ·subst e; exact absurd h2 (List.not_lt.2 k)
 ·have hab:a < b:=Decidable.byContradiction fun h3=>e (List.le_antisymm h (List.not_lt.1 h3))
  exact absurd (List.lt_trans h2 hab) (List.not_lt.2 k)
theorem jad:SWO (ltOf fun x y:α=>compareBytes (f x) (f y)):=by
 refine ⟨fun x=>?_,fun x y z h k=>?_,fun x y z h k=>?_⟩
 ·rw [j1G]; exact decide_eq_false (List.lt_irrefl _)
 ·rw [j1G,decide_eq_true_eq] at *
  exact List.lt_trans h k
 ·rw [j1G,decide_eq_false_iff_not,List.not_lt] at *
  exact j9i k h
theorem j9g (a b c:α) (h:decide (f a ≤ f b)=true) (k:decide (f b ≤ f c)=true):decide (f a ≤ f c)=true:=by
 rw [decide_eq_true_eq] at *
 exact j9i h k
theorem j7W (a b:α):(decide (f a ≤ f b) || decide (f b ≤ f a))=true:=by
 by_cases k:f a < f b
 ·simp [List.le_of_lt k]
 ·simp [List.not_lt.1 k]
theorem j9N (l:List α):(l.mergeSort fun x y=>decide (f x ≤ f y)).Pairwise fun x y=>ltOf (fun x y=>compareBytes (f x) (f y)) y x=false:=by
 refine (List.pairwise_mergeSort (j9g f) (j7W f) l).imp fun {x y} h=>?_
 rw [j1G,decide_eq_false_iff_not,List.not_lt]
 simpa using h
theorem j9O (l:List α) (k:α):flt (ltOf fun x y=>compareBytes (f x) (f y)) k (l.mergeSort fun x y=>decide (f x ≤ f y))=flt (ltOf fun x y=>compareBytes (f x) (f y)) k l:=by
 have hp:∀ x:α,(!ltOf (fun x y:α=>compareBytes (f x) (f y)) x k && !ltOf (fun x y:α=>compareBytes (f x) (f y)) k x)=true → f x=f k:=fun x h=>by
  simp only [j1G,jg,Bool.not_eq_true',decide_eq_false_iff_not,List.not_lt] at h
  exact List.le_antisymm h.2 h.1
 unfold flt
 have s1:(l.filter fun x=>!ltOf (fun x y:α=>compareBytes (f x) (f y)) x k && !ltOf (fun x y:α=>compareBytes (f x) (f y)) k x).Sublist (l.mergeSort fun x y=>decide (f x ≤ f y)):=by
  refine List.sublist_mergeSort (j9g f) (j7W f) ?_ List.filter_sublist
  rw [List.pairwise_iff_getElem]
  intro i j hi hj hij
  have h1:=hp _ (List.mem_filter.1 (jo hi)).2
  have h2:=hp _ (List.mem_filter.1 (jo hj)).2
  rw [h1,h2]
  simp [List.le_refl]
 have s2:=s1.filter fun x=>!ltOf (fun x y:α=>compareBytes (f x) (f y)) x k && !ltOf (fun x y:α=>compareBytes (f x) (f y)) k x
 rw [List.filter_filter] at s2
 simp only [Bool.and_self] at s2
 refine (s2.eq_of_length ?_).symm
 exact ((List.mergeSort_perm l _).filter _).length_eq.symm
theorem j3x (d:Array α):(kt (ltOf fun x y:α=>compareBytes (f x) (f y)) d).toList=d.toList.mergeSort fun x y=>decide (f x ≤ f y) :=
 j5b (jad f) d (j9N f _) (j9O f _)
end
def nmD (j:Nat) (x:List DC):List UInt8:=(x.getD j d0).ss
def j4h (j:Nat) (l:List (List DC)):List (List DC):=l.mergeSort fun x y=>decide (nmD j x ≤ nmD j y)
def j8N (e cf j:Nat):Nat → List HS → List C → Option (Nat × List HS × C):=fun _ H args =>
 match args with
 | [.one (.own id),.one (.fn f [])] =>
  match ji H id with
  | .live (.row e' l) =>
   match Nat.beq (po e') e && !(hq e'),Nat.beq f cf with
   | true,true=>some (l.length,jv H id (.live (.row e' (j4h j l))),.tup [])
   | _,_=>none
  | _=>none
 | _=>none
section
variable {P:Program} {ty:Nat → Option TI} {A:An} {g:Gh} {tm:List C} {H:List HS} {a:Act} {w:World}
theorem jbc {cts:List CT}:∀ {l:List (List DC)} {vs:List Value} {F:List Nat},RdV ty w cts l vs F → (∀ b ∈ F,b < w.heap.size) → ∃ zs:List (El ty w cts),zs.map El.d=l ∧ zs.flatMap El.v=vs ∧ zs.flatMap El.F=F
 | _,_,_,.nil _,_=>⟨[],rfl,rfl,rfl⟩
 | _,_,_,.cons _ x l v vs F G h1 h2,h=>by
  obtain ⟨zs,a,b,c⟩:=jbc h2 fun c hc=>h c (by simp [hc])
  exact ⟨⟨v,x,F,h1,fun c hc=>h c (by simp [hc])⟩ :: zs,by simp [a],by simp [b],by simp [c]⟩
theorem j6i {cts:List CT} {w':World}:∀ zs:List (El ty w cts),(∀ z ∈ zs,∀ b ∈ z.F,w'.heap[b]? = w.heap[b]?) → RdV ty w' cts (zs.map El.d) (zs.flatMap El.v) (zs.flatMap El.F)
 | [],_=>.nil _
 | z :: zs,h=>by
  have:=RdV.cons (ty:=ty) (w:=w') cts z.d (zs.map El.d) z.v (zs.flatMap El.v) z.F (zs.flatMap El.F) (z.rd.frame fun b hb=>h z (by simp) b hb) (j6i zs fun y hy=>h y (by simp [hy]))
  simpa using this
theorem j8d {cts:List CT} (zs:List (El ty w cts)):(zs.flatMap El.v).length=zs.length * cts.length:=by
 induction zs with
 | nil=>simp
 | cons z zs ih =>
  have:=(RdL.length z.rd).1
  rw [jh,js,ih,this,jd,Nat.succ_mul]
  omega
theorem j1Q {cts:List CT} (zs:List (El ty w cts)):(flatK El.v cts.length zs.toArray).toList=zs.flatMap El.v:=by
 apply List.ext_getElem?
 intro t
 by_cases ht:t < zs.length * cts.length
 ·have hk:0 < cts.length:=by
   rcases Nat.eq_zero_or_pos cts.length with h | h
   ·rw [h] at ht; simp at ht
   ·exact h
  have hj:t / cts.length < zs.length:=(Nat.div_lt_iff_lt_mul hk).2 ht
  have hi:t % cts.length < cts.length:=Nat.mod_lt _ hk
  have hs:t < (flatK El.v cts.length zs.toArray).size:=by rw [size_flatK]; simpa using ht
  have h1:=get_flatK El.v cts.length zs.toArray t (by simpa using ht)
  have hz:zs.toArray[t / cts.length]! = zs[t / cts.length]!:=by simp [hj]
  rw [hz] at h1
  have hl:(zs[t / cts.length]!).v.length=cts.length:=(RdL.length (zs[t / cts.length]!).rd).1
  have h2:=j3V zs (t / cts.length) (t % cts.length) ((zs[t / cts.length]!).v[t % cts.length]!) hj (by
   rw [List.getElem?_eq_getElem (by omega)]
   exact congrArg some (getElem!_pos _ _ (by omega)).symm)
  rw [Nat.div_add_mod'] at h2
  rw [h2,Array.getElem?_toList,← h1,Array.getElem?_eq_getElem hs]
  exact congrArg some (getElem!_pos _ t hs).symm
 ·rw [List.getElem?_eq_none (by simp; omega),List.getElem?_eq_none (by rw [j8d]; omega)]
theorem j5m {w:World} {b e k:Nat} {cur F:Array Value} {os:Array Obj} (hb:w.heap[b]? = some (.cells cur e (0,0))) (hn:F.size ≤ cur.size) :
  (grow (putRow id (Sort.ahead w k) b 0 F) os).os=w.os ∧ (grow (putRow id (Sort.ahead w k) b 0 F) os).tape=w.tape ∧ (grow (putRow id (Sort.ahead w k) b 0 F) os).output=w.output ∧ w.heap.size ≤ (grow (putRow id (Sort.ahead w k) b 0 F) os).heap.size ∧
   (∀ c,c < w.heap.size → c ≠ b → (grow (putRow id (Sort.ahead w k) b 0 F) os).heap[c]? = w.heap[c]?) ∧
   ∃ cur',(grow (putRow id (Sort.ahead w k) b 0 F) os).heap[b]? = some (.cells cur' e (0,0)) ∧ cur'.size=cur.size ∧ cur'.toList.take F.size=F.toList:=by
 have hlt:=kM hb
 refine ⟨rfl,rfl,rfl,by simp,fun c hc hne=>?_,putCells id 0 F cur,?_,by simp [putCells],?_⟩
 ·rw [heap_grow_old _ _ (by simpa using hc)]
  simp only [putRow,mapBlock,Array.getElem?_modify,if_neg (fun h:b=c=>hne h.symm)]
  rfl
 ·rw [heap_grow_old _ _ (by simpa using hlt)]
  simp [putRow,mapBlock,Array.getElem?_modify,hb,onCells]
 ·apply List.ext_getElem?
  intro j
  by_cases hj:j < F.size
  ·rw [List.getElem?_take_of_lt hj,Array.getElem?_toList,Array.getElem?_toList,putCells,Array.getElem?_mapIdx,Array.getElem?_eq_getElem (by omega),Array.getElem?_eq_getElem hj]
   simp [hj]
  ·rw [List.getElem?_eq_none (by simp; omega),List.getElem?_eq_none (by simp; omega)]
theorem j5B {w:World} {b e:Nat} {cur F:Array Value} (hb:w.heap[b]? = some (.cells cur e (0,0))) (ht:cur.toList.take F.size=F.toList):Holds id w b 0 F:=by
 intro j hj
 have h1:(cur.toList.take F.size)[j]? = some F[j]:=by rw [ht]; simp [hj]
 rw [List.getElem?_take_of_lt hj,Array.getElem?_toList] at h1
 refine ⟨?_,?_⟩
 ·unfold World.cell?
  simp [hb,h1,hj]
 ·unfold World.frozen?
  simp [hb]
theorem j7C (h:Rel ty A g ⟨tm,H⟩ a w) {id e b cap:Nat} {l l':List (List DC)} {ti:TI} {w':World} {cur':Array Value} {vs':List Value} {F':List Nat} (hr:ji H id = .live (.row e l)) (ht:ty (po e)=some ti) (h0:0 < ti.cts.length)
  (hv:g.val id = .slice (some ⟨b,0,none⟩) l.length cap) (hn:l.length ≤ cap) (hcap:cap ≤ maxLen) (hl:l'.length=l.length) (os:w'.os=w.os) (tp:w'.tape=w.tape) (out:w'.output=w.output) (hs:w.heap.size ≤ w'.heap.size) (ho:∀ c,c < w.heap.size → c ≠ b → w'.heap[c]? = w.heap[c]?)
  (hb:w'.heap[b]? = some (.cells cur' (po e) (0,0))) (hcs:cur'.size=cap * ti.cts.length) (htk:cur'.toList.take (l.length * ti.cts.length)=vs') (hrd:RdV ty w' ti.cts l' vs' F') (hle:jS g w' id e F'):Rel ty A g ⟨tm,jv H id (.live (.row e l'))⟩ a w':=by
 have hob:(g.val id).ownBlock=some b:=by rw [hv]; rfl
 have hrb:qB g id e b:=.inl hob
 obtain ⟨_,_,_,_,_,_,_,_,hI⟩:=h.ob id _ hr
 refine (h.upd (g':=g) (jz hr) (by simp) rfl (fun _ _=>⟨rfl,rfl,rfl⟩) (fun _ _=>⟨⟨_,_,.inl hr⟩,rfl⟩) (fun _ hx=>?_) (fun c hcx=>?_) hs (fun _ o ho'=>?_) (fun _ hx=>?_) ?_).1
 ·obtain ⟨t,cs,hx⟩:=hx; simp [jm _ (jz hr)] at hx
 ·rcases hcx with hcx | ⟨i,p,hi,hp,hcx⟩
  ·exact ho c (h.lt c hcx) fun e=>hI b hrb (e ▸ hcx)
  ·exact ho c (h.oblk_lt hp hcx) fun e=>h.sep i id p _ b hi hp hr (e ▸ hcx) hrb
 ·obtain rfl:Obj'.row e l'=o:=by simpa using ho'
  refine ⟨⟨ti,vs',F',ht,h0,?_,.of hrd,hle,hI⟩,fun c hcx=>?_⟩
  ·rw [hv,hl]
   exact ⟨by rw [← hl]; exact hrd.length,.inr ⟨b,cap,cur',rfl,Nat.zero_le _,hb,hn,hcap,hcs,htk⟩⟩
  ·have hcx:qB g id e c:=hcx
   exact ⟨hI c hcx,h.ow id (.row e l) c hr hcx,fun i p hi hp=>h.sep i id p _ c hi hp hr |> fun k hk=>k hk hcx⟩
 ·obtain ⟨t,cs,hx⟩:=hx; simp [jm _ (jz hr)] at hx
 ·exact h.keep.trans os tp out hs fun c hc' hp hm=>by
   by_cases hcb:c=b
   ·subst hcb
    exact absurd (h.ow id (.row e l) c hr hrb) fun k=>by
     rcases k with k | k
     ·omega
     ·exact hm k
   ·exact ho c (Nat.lt_of_lt_of_le hc' h.keep.size) hcb
theorem j6B {H:List HS} {id:Nat} {o:Obj'} (hr:ji H id = .live o):jv H id (.live o)=H:=by
 apply List.ext_getElem?
 intro j
 unfold jv
 rw [List.getElem?_set]
 split
 ·rename_i hj
  subst hj
  have hlt:=jz hr
  rw [if_pos hlt]
  have h2:=hr
  unfold ji at h2
  rw [List.getD_eq_getElem?_getD,List.getElem?_eq_getElem hlt] at h2
  rw [List.getElem?_eq_getElem hlt]
  simpa using h2.symm
 ·rfl
theorem j7M (h:Rel ty A g ⟨tm,H⟩ a w) {id e' b cap n:Nat} {l:List (List DC)} {ti:TI} {F:List Nat} {cur:Array Value} {os:Array Obj} (hr:ji H id = .live (.row e' l)) (k1:ty (po e')=some ti) (k0:0 < ti.cts.length)
  (hv:g.val id = .slice (some ⟨b,0,none⟩) l.length cap) (hg:w.heap[b]? = some (.cells cur (po e') (0,0))) (hnc:l.length ≤ cap) (hcm:cap ≤ maxLen) (hcs:cur.size=cap * ti.cts.length) (k4:jS g w id e' F) (k5:∀ b,qB g id e' b → ¬ g.I b)
  (lF:∀ b ∈ F,b < w.heap.size) {zs D:List (El ty w ti.cts)} (z3:zs.flatMap El.F=F) (hzl:zs.length=l.length) (hp:D.Perm zs) :
  Rel ty A g ⟨tm,jv H id (.live (.row e' (D.map El.d)))⟩ a (grow (putRow _root_.id (Sort.ahead w n) b 0 (flatK El.v ti.cts.length D.toArray)) os):=by
 have hdl:D.length=l.length:=by rw [hp.length_eq,hzl]
 have hfs2:(flatK El.v ti.cts.length D.toArray).size=l.length * ti.cts.length:=by rw [size_flatK]; simp [hdl]
 obtain ⟨y1,y2,y3,y4,y5,cur',y6,y7,y8⟩:=j5m (w:=w) (k:=n) (os:=os) (F:=flatK El.v ti.cts.length D.toArray) hg (by rw [hfs2,hcs]; exact Nat.mul_le_mul_right _ hnc)
 rw [hfs2,j1Q] at y8
 have hFp:(D.flatMap El.F).Perm F:=by rw [← z3]; exact hp.flatMap_right _
 have hFb:∀ c ∈ F,(grow (putRow _root_.id (Sort.ahead w n) b 0 (flatK El.v ti.cts.length D.toArray)) os).heap[c]? = w.heap[c]?:=fun c hcF=>by
  refine y5 c (lF c hcF) fun e=>?_
  subst e
  have hob:(g.val id).ownBlock=some c:=by rw [hv]; rfl
  unfold jS pF at k4
  split at k4
  ·exact k5 c (.inl hob) (k4 c hcF)
  ·exact k4.2.2 c hcF hob
 have hrd:=j6i (w':=grow (putRow _root_.id (Sort.ahead w n) b 0 (flatK El.v ti.cts.length D.toArray)) os) D fun z hz c hc=>hFb c (hFp.mem_iff.1 (List.mem_flatMap.2 ⟨z,hz,hc⟩))
 have hle:jS g (grow (putRow _root_.id (Sort.ahead w n) b 0 (flatK El.v ti.cts.length D.toArray)) os) id e' (D.flatMap El.F):=by
  unfold jS pF at k4 ⊢
  split at k4
  ·exact fun c hc=>k4 c (hFp.mem_iff.1 hc)
  ·obtain ⟨o1,o2,o3⟩:=k4
   refine ⟨⟨hFp.nodup_iff.2 o1.nodup,fun c hc=>?_⟩,fun c=>(o2 c).trans hFp.mem_iff.symm,fun c hc=>o3 c (hFp.mem_iff.1 hc)⟩
   have hc':=hFp.mem_iff.1 hc
   rw [hFb c hc']
   exact o1.open' c hc'
 exact j7C h hr k1 k0 hv hnc hcm (by rw [List.length_map,hdl]) y1 y2 y3 y4 y5 y6 (by rw [y7,hcs]) y8 hrd hle
theorem j9z {G:Glob} {f e cf j:Nat} {cts:List CT} (hte:∀ te,ty e=some te → te.cts=cts)
  (hS:∀ (w:World) (blk cap:Nat) (d:Array (El ty w cts)),HoldsK El.v cts.length w blk 0 d → blk < w.heap.size → d.size < jN → Calls P f #[.slice (some ⟨blk,0,none⟩) d.size cap,.func (.func cf) #[] #[]] w fun en w'=>en = .returned (.tuple #[]) ∧ SWK El.v cts.length w blk 0 (kt (ltOf fun x y=>compareBytes (nmD j x.d) (nmD j y.d)) d) w')
  (hN:∀ (fv:Value) (w:World),Calls P f #[.slice none 0 0,fv] w fun en w'=>en = .returned (.tuple #[]) ∧ w'=w):j4W P G ty f (j8N e cf j):=by
 intro A g tm H H' a w base n args vals c hA h hlen hcr hq hlim
 unfold j8N at hq
 split at hq
 ·rename_i id f'
  split at hq
  ·rename_i e' l hr
   split at hq
   ·rename_i b1 b2
    rw [jg,Bool.not_eq_true'] at b1
    obtain ⟨b1,hh⟩:=b1
    obtain rfl:=Nat.eq_of_beq_eq_true b1
    obtain rfl:=Nat.eq_of_beq_eq_true b2
    simp only [j8,jb] at hq
    obtain ⟨rfl,rfl,rfl⟩:=hq
    match vals,hlen with
    | [v1,v2],_ =>
     have hv1:=hcr 0 _ v1 rfl rfl
     have hv2:=hcr 1 _ v2 rfl rfl
     have e1:v1=g.val id:=hv1.2.2 ⟨_,_,.inl hr⟩
     obtain ⟨lb,e2,hl2,_⟩:=hv2
     obtain rfl:lb = #[]:=by simpa using hl2
     obtain ⟨ti,vs,F,k1,k0,k2,k3,k4,k5⟩:=h.ob id _ hr
     have k3:=k3.v hh
     have hct:=hte ti k1
     subst hct
     have htup:∀ (g':Gh) (H2:List HS) (w2:World),CR ty g' H2 w2 (.tup []) (.tuple #[]):=fun _ _ _=>⟨[],rfl,rfl,fun i a ss u hi=>by simp at hi⟩
     have lF:∀ b ∈ F,b < w.heap.size:=fun b hb=>by
      rcases k4.all b hb with hb | hb
      ·exact h.lt b hb
      ·exact h.oblk_lt hr hb
     obtain ⟨zs,z1,z2,z3⟩:=jbc k3 lF
     have hzl:zs.length=l.length:=by rw [← z1,List.length_map]
     subst e1 e2
     rcases k2.2 with ⟨hv,hn⟩ | ⟨b,cap,cur,hv,hk,hg,hnc,hcm,hcs,htake⟩
     ·have hl0:l=[]:=jn hn
      subst hl0
      show Calls P f #[g.val id,_] w _
      rw [hv]
      refine Calls.mono (hN _ w) fun en w' hen=>?_
      obtain ⟨rfl,rfl⟩:=hen
      have:j4h j []=[]:=by simp [j4h]
      rw [this,j6B hr]
      exact ⟨_,g,rfl,h,fun _ h=>h,htup _ _ _⟩
     ·show Calls P f #[g.val id,.func (.func f') #[] #[]] w _
      rw [hv]
      have hbl:b < w.heap.size:=kM hg
      have hfs:(flatK El.v ti.cts.length zs.toArray).size=l.length * ti.cts.length:=by rw [size_flatK]; simp [hzl]
      have hc:=hS w b cap zs.toArray (j5B hg (by rw [hfs,j1Q,z2]; exact htake)) hbl (by simpa [hzl] using hlim)
      rw [show zs.toArray.size=l.length by simpa using hzl] at hc
      refine Calls.mono hc fun en w' hen=>?_
      obtain ⟨rfl,n,os,rfl⟩:=hen
      have hm:=j3x (fun x:El ty w ti.cts=>nmD j x.d) zs.toArray
      generalize hD:kt (ltOf fun x y:El ty w ti.cts=>compareBytes (nmD j x.d) (nmD j y.d)) zs.toArray=D at hm
      obtain ⟨D⟩:=D
      have hm:D=zs.mergeSort fun x y=>decide (nmD j x.d ≤ nmD j y.d):=hm
      have hp:D.Perm zs:=by rw [hm]; exact List.mergeSort_perm _ _
      have hdd:D.map El.d=j4h j l:=by
       rw [hm,← z1]
       unfold j4h
       exact List.map_mergeSort fun x _ y _=>rfl
      have hrel:=j7M (n:=n) (os:=os) h hr k1 k0 hv hg hnc hcm hcs k4 k5 lF z3 hzl hp
      rw [hdd] at hrel
      exact ⟨_,g,rfl,hrel,fun _ h=>h,htup _ _ _⟩
   ·simp at hq
  ·simp at hq
 ·simp at hq
end
end Go.Proofs.QV
