import Derived.Test.YtcpolmhblhhikaaGreatMU3
/- What is read stays where a new variable is made; what makes a new variable looks at nothing else. -/
namespace Go.Proofs.QV
open Go
open _root_.Nat renaming lt_or_ge → jA
open _root_.Option.some renaming injEq → j8
open _root_.Prod.mk renaming injEq → ji
open _root_.List renaming flatMap_cons → jn, mem_append → jC, append_nil → jv, eq_nil_of_length_eq_zero → jm, cons_append → jh, nil_append → jg, map_cons → js, length_append → jj, length_cons → jb, length_nil → jf, getElem_mem → ju
open _root_.Bool renaming and_eq_true → jk
open Out renaming andThenB → j9
set_option linter.unusedVariables false
set_option linter.unusedSimpArgs false
section
variable {ty:Nat → Option TI} {fn:Nat → Option FI} {cl:Nat → Hint → List DC → Out}
theorem Zf {H:List HS} {b:Nat} {x:HS} (h:jp H b = .free):jp (jB H b x) b=x:=by
 simp only [jp,jB,List.getD_eq_getElem?_getD] at h ⊢
 have:b < H.length:=by
  rcases jA b H.length with h' | h'
  ·exact h'
  ·rw [List.getElem?_eq_none h'] at h; simp at h
 rw [List.getElem?_set_self this]
 rfl
theorem j4r {H:List HS} {b id:Nat} {x:HS} {o:Obj'} (hf:jp H b = .free) (h:jp H id = .live o):jp (jB H b x) id = .live o:=by
 rw [jo,h]
 intro hb
 subst hb
 rw [hf] at h
 simp at h
theorem j4T {H:List HS} {b:Nat} {x:HS} {s:S} {r:Nat × List (List DC)} (hf:jp H b = .free) (h:za H s=some r):za (jB H b x) s=some r:=by
 unfold za at h ⊢
 split at h
 ·exact h
 ·rename_i id
  split at h
  ·rename_i hl; rw [j4r hf hl]; exact h
  ·rename_i hl; rw [j4r hf hl]; exact h
  ·simp at h
 ·simp at h
theorem jb1 {s t:Nat} {tm:List C} {x:C} {H H':List HS} {b:Nat} {hs:HS} {v:C} (hf:jp H b = .free) (e:K3 ty (none:V3) s t ⟨tm,H⟩ x QT=some (.r,H',v)):K3 ty (none:V3) s t ⟨tm,jB H b hs⟩ x QT=some (.r,jB H b hs,v):=by
 have key:∀ {s r},za H s=some r → za (jB H b hs) s=some r:=fun h=>j4T hf h
 unfold K3 at e ⊢
 dsimp only at e ⊢
 repeat' split at e
 all_goals first
  | (simp at e; done)
  | (obtain ⟨h1,rfl,rfl⟩:=jr e; first | (simp at h1; done) | skip)
 all_goals rename_i hl _
 all_goals
  have hl2:=key hl
  simp_all
theorem jaE {base b:Nat} {o:Oper} {tm:List C} {H H':List HS} {hs:HS} {v:C} (hf:jp H b = .free) (e:stepV ty fn cl (none:V3) base o tm H QT=some (.r,H',v)):stepV ty fn cl (none:V3) base o tm (jB H b hs) QT=some (.r,jB H b hs,v):=by
 obtain ⟨dst,op,type,pos,after,guard⟩:=o
 cases op with
 | convert s t x=>exact jb1 hf e
 | load t x =>
  simp only [stepV] at e
  unfold V1 JS at e
  dsimp only at e
  repeat' split at e
  all_goals simp at e
 | slice t x lo hi mx =>
  cases mx with
  | none =>
   simp only [stepV,zo] at e
   repeat' split at e
   all_goals first
    | (simp at e; done)
    | (obtain ⟨l',h1,h2⟩:=pf e; obtain ⟨h3,_⟩:=jr h2; simp at h3)
  | some m=>simp [stepV] at e
 | indexAddr t x i =>
  simp only [stepV] at e
  unfold yH at e
  dsimp only at e
  repeat' split at e
  all_goals simp at e
 | binOp op t x y t' =>
  simp only [stepV] at e
  rw [yP] at e
  cases hl:Yn ty none op t (opd tm x) (opd tm y) some with
  | none=>rw [hl] at e; simp [via] at e
  | some r=>rw [hl] at e; simp [via] at e
 | store t a x =>
  simp only [stepV] at e
  split at e
  ·rw [qw] at e
   cases hl:yC ty none t ⟨tm,H⟩ (opd tm a) (opd tm x) some with
   | none=>rw [hl] at e; simp [via] at e
   | some r =>
    rw [hl] at e
    obtain ⟨h,_⟩:=jr e
    unfold XT at h
    split at h <;> simp at h
  ·simp at e
 | call c =>
  cases hc:c.callee with
  | value f =>
   simp only [stepV,hc] at e
   split at e
   ·rename_i f' caps hfn
    rw [qa] at e
    cases hl:qG ty fn cl none base ⟨tm,H⟩ f' caps (yE tm c.args.toList) fun H v=>some (H,v) with
    | none=>rw [hl] at e; simp [via] at e
    | some r =>
     rw [hl] at e
     obtain ⟨hcl,rfl,rfl⟩:=jr e
     exfalso
     unfold pQ at hcl
     repeat' split at hcl
     all_goals simp at hcl
   ·simp at e
  | invoke r m=>simp [stepV,hc] at e
  | builtin bn =>
   simp only [stepV,hc] at e
   have ln:∀ (x:C),(Jq (none:V3) ⟨tm,H⟩ x fun c v=>QT c H v)=some (.r,H',v) → False:=by
    intro x e
    unfold Jq at e
    dsimp only at e
    repeat' split at e
    all_goals simp at e
   split at e
   ·exfalso
    split at e
    ·split at e
     ·split at e
      ·exact ln _ e
      ·simp at e
     ·split at e
      ·simp at e
      ·exact ln _ e
     ·simp at e
    ·simp at e
   ·simp at e
   ·simp at e
   ·split at e
    ·rw [pm] at e
     cases hl:px ty none _ _ base ⟨tm,H⟩ _ _ fun H v=>some (H,v) with
     | none=>rw [hl] at e; simp [via] at e
     | some r=>rw [hl] at e; simp [via] at e
    ·simp at e
   ·simp at e
 | _ =>
  simp only [stepV] at e
  repeat' split at e
  all_goals simp at e
theorem j9n {base id:Nat} {o:Oper} {tm:List C} {H H':List HS} {v:C} (e:stepV ty fn cl (none:V3) base o tm H QT=some (.rv id,H',v)) :
  H'=H ∧ (∃ ob,jp H id = .live ob) ∧ ∀ H3,jp H3 id=jp H id → stepV ty fn cl (none:V3) base o tm H3 QT=some (.rv id,H3,v):=by
 obtain ⟨dst,op,type,pos,after,guard⟩:=o
 cases op with
 | load t x =>
  simp only [stepV] at e ⊢
  cases hT:j1g ty t (opd tm x) with
  | true =>
   rw [hT] at e
   unfold V1 at e
   dsimp only at e
   repeat' split at e
   all_goals first
    | (simp at e; done)
    | (obtain ⟨h1,rfl,rfl⟩:=jr e; simp at h1; done)
  | false =>
  rw [hT] at e
  dsimp only at e ⊢
  unfold JS at e ⊢
  dsimp only at e ⊢
  repeat' split at e
  all_goals first
   | (simp at e; done)
   | (obtain ⟨h1,rfl,rfl⟩:=jr e; first | (simp at h1; done) | skip)
  all_goals
   simp only [Cls.rv.injEq] at h1
   subst h1
   refine ⟨rfl,⟨_,by assumption⟩,fun H3 h3=>?_⟩
   simp_all
 | indexAddr t x i =>
  simp only [stepV] at e ⊢
  unfold yH at e ⊢
  dsimp only at e ⊢
  repeat' split at e
  all_goals first
   | (simp at e; done)
   | (obtain ⟨h1,rfl,rfl⟩:=jr e; first | (simp at h1; done) | skip)
  all_goals
   simp only [Cls.rv.injEq] at h1
   subst h1
   refine ⟨rfl,⟨_,by assumption⟩,fun H3 h3=>?_⟩
   simp_all
 | nilCheck x =>
  simp only [stepV] at e ⊢
  repeat' split at e
  all_goals first
   | (simp at e; done)
   | (obtain ⟨h1,rfl,rfl⟩:=jr e; first | (simp at h1; done) | skip)
  all_goals
   simp only [Cls.rv.injEq] at h1
   subst h1
   refine ⟨rfl,⟨_,by assumption⟩,fun H3 h3=>?_⟩
   simp_all
 | fieldAddr t x j =>
  simp only [stepV] at e ⊢
  repeat' split at e
  all_goals first
   | (simp at e; done)
   | (obtain ⟨h1,rfl,rfl⟩:=jr e; first | (simp at h1; done) | skip)
  all_goals
   simp only [Cls.rv.injEq] at h1
   subst h1
   refine ⟨rfl,⟨_,by assumption⟩,fun H3 h3=>?_⟩
   simp_all
 | slice t x lo hi mx =>
  cases mx with
  | some m=>simp [stepV] at e
  | none =>
   simp only [stepV,zo] at e ⊢
   split at e
   ·rename_i ti ht
    split at e
    ·obtain ⟨l',h1,h2⟩:=pf e
     obtain ⟨h3,_⟩:=jr h2
     simp at h3
    ·split at e
     ·obtain ⟨l',h1,h2⟩:=pf e
      obtain ⟨h3,_⟩:=jr h2
      simp at h3
     ·simp at e
    ·split at e
     ·split at e
      ·obtain ⟨l',h1,h2⟩:=pf e
       obtain ⟨h3,_⟩:=jr h2
       simp at h3
      ·simp at e
     ·rename_i hl
      split at e
      ·rename_i hc
       obtain ⟨l',h1,h2⟩:=pf e
       obtain ⟨h3,rfl,rfl⟩:=jr h2
       simp only [Cls.rv.injEq] at h3
       subst h3
       refine ⟨rfl,⟨_,hl⟩,fun H3 h3=>?_⟩
       rw [h3,hl]
       dsimp only
       rw [if_pos hc]
       exact j5h h1
      ·simp at e
     ·simp at e
    ·simp at e
   ·simp at e
 | convert s t x =>
  simp only [stepV] at e
  unfold K3 at e
  dsimp only at e
  repeat' split at e
  all_goals simp at e
 | binOp op t x y t' =>
  simp only [stepV] at e
  rw [yP] at e
  cases hl:Yn ty none op t (opd tm x) (opd tm y) some with
  | none=>rw [hl] at e; simp [via] at e
  | some r=>rw [hl] at e; simp [via] at e
 | store t a x =>
  simp only [stepV] at e
  split at e
  ·rw [qw] at e
   cases hl:yC ty none t ⟨tm,H⟩ (opd tm a) (opd tm x) some with
   | none=>rw [hl] at e; simp [via] at e
   | some r =>
    rw [hl] at e
    obtain ⟨h,_⟩:=jr e
    unfold XT at h
    split at h <;> simp at h
  ·simp at e
 | call c =>
  cases hc:c.callee with
  | value f =>
   simp only [stepV,hc] at e
   split at e
   ·rename_i f' caps hfn
    rw [qa] at e
    cases hl:qG ty fn cl none base ⟨tm,H⟩ f' caps (yE tm c.args.toList) fun H v=>some (H,v) with
    | none=>rw [hl] at e; simp [via] at e
    | some r =>
     rw [hl] at e
     obtain ⟨hcl,rfl,rfl⟩:=jr e
     exfalso
     unfold pQ at hcl
     repeat' split at hcl
     all_goals simp at hcl
   ·simp at e
  | invoke r m=>simp [stepV,hc] at e
  | builtin bn =>
   simp only [stepV,hc] at e ⊢
   have ln:∀ (x:C),(Jq (none:V3) ⟨tm,H⟩ x fun c v=>QT c H v)=some (.rv id,H',v) → H'=H ∧ (∃ ob,jp H id = .live ob) ∧ ∀ H3,jp H3 id=jp H id → (Jq (none:V3) ⟨tm,H3⟩ x fun c v=>QT c H3 v)=some (.rv id,H3,v):=by
    intro x e
    unfold Jq at e ⊢
    dsimp only at e ⊢
    split at e
    ·simp at e
    ·simp at e
    ·simp at e
    ·rename_i id'
     cases hg:jp H id' with
     | live ob =>
      rw [hg] at e
      cases ob with
      | var t cs=>simp at e
      | row e2 l =>
       simp only [] at e
       obtain ⟨h1,rfl,rfl⟩:=jr e
       simp only [Cls.rv.injEq] at h1
       subst h1
       exact ⟨rfl,⟨_,hg⟩,fun H3 h3=>by rw [h3,hg]⟩
      | fz e2 l =>
       simp only [] at e
       obtain ⟨h1,rfl,rfl⟩:=jr e
       simp only [Cls.rv.injEq] at h1
       subst h1
       exact ⟨rfl,⟨_,hg⟩,fun H3 h3=>by rw [h3,hg]⟩
      | pt e2 l=>simp at e
      | hl e2 l ix=>simp at e
     | free=>rw [hg] at e; simp at e
     | dead=>rw [hg] at e; simp at e
    ·simp at e
   split at e
   ·split at e
    ·split at e
     ·split at e
      ·exact ln _ e
      ·simp at e
     ·split at e
      ·simp at e
      ·exact ln _ e
     ·simp at e
    ·simp at e
   ·simp at e
   ·simp at e
   ·split at e
    ·rw [pm] at e
     cases hl:px ty none _ _ base ⟨tm,H⟩ _ _ fun H v=>some (H,v) with
     | none=>rw [hl] at e; simp [via] at e
     | some r=>rw [hl] at e; simp [via] at e
    ·simp at e
   ·simp at e
 | _ =>
  simp only [stepV] at e
  repeat' split at e
  all_goals simp at e
theorem j9m {base id:Nat} {o:Oper} {tm:List C} {H H':List HS} {v:C} (e:stepV ty fn cl (none:V3) base o tm H QT=some (.st id,H',v)) :
  ∃ x,H'=jB H id x ∧ ∀ H3,jp H3 id=jp H id → stepV ty fn cl (none:V3) base o tm H3 QT=some (.st id,jB H3 id x,v):=by
 obtain ⟨dst,op,type,pos,after,guard⟩:=o
 cases op with
 | store t a x =>
  simp only [stepV] at e ⊢
  split at e
  ·rw [qw] at e
   cases hl:yC ty none t ⟨tm,H⟩ (opd tm a) (opd tm x) some with
   | none=>rw [hl] at e; simp [via] at e
   | some r =>
    rw [hl] at e
    obtain ⟨h,h2,h4⟩:=jr e
    unfold XT at h
    split at h
    ·rename_i id' off ha
     simp only [Cls.st.injEq] at h
     subst h
     rw [ha] at hl
     unfold yC at hl
     split at hl
     ·rename_i ti ss ht hx
      split at hl
      ·rename_i hss
       dsimp only at hl
       split at hl
       ·rename_i t' cs hg
        split at hl
        ·rename_i hle
         simp only [j8] at hl
         refine ⟨_,by rw [← h2,← hl],fun H3 h3=>?_⟩
         rw [ha]
         unfold yC
         simp only [ht,hx]
         rw [if_pos hss]
         rw [h3,hg]
         simp only [hle,if_true,← h4]
         rfl
        ·simp at hl
       ·simp at hl
      ·simp at hl
     ·simp at hl
    ·simp at h
  ·simp at e
 | load t x =>
  simp only [stepV] at e
  unfold V1 JS at e
  dsimp only at e
  repeat' split at e
  all_goals simp at e
 | indexAddr t x i =>
  simp only [stepV] at e
  unfold yH at e
  dsimp only at e
  repeat' split at e
  all_goals simp at e
 | slice t x lo hi mx =>
  cases mx with
  | none =>
   simp only [stepV,zo] at e
   repeat' split at e
   all_goals first
    | (simp at e; done)
    | (obtain ⟨l',h1,h2⟩:=pf e; obtain ⟨h3,_⟩:=jr h2; simp at h3)
  | some m=>simp [stepV] at e
 | convert s t x =>
  simp only [stepV] at e
  unfold K3 at e
  dsimp only at e
  repeat' split at e
  all_goals simp at e
 | binOp op t x y t' =>
  simp only [stepV] at e
  rw [yP] at e
  cases hl:Yn ty none op t (opd tm x) (opd tm y) some with
  | none=>rw [hl] at e; simp [via] at e
  | some r=>rw [hl] at e; simp [via] at e
 | call c =>
  cases hc:c.callee with
  | value f =>
   simp only [stepV,hc] at e
   split at e
   ·rename_i f' caps hfn
    rw [qa] at e
    cases hl:qG ty fn cl none base ⟨tm,H⟩ f' caps (yE tm c.args.toList) fun H v=>some (H,v) with
    | none=>rw [hl] at e; simp [via] at e
    | some r =>
     rw [hl] at e
     obtain ⟨hcl,rfl,rfl⟩:=jr e
     exfalso
     unfold pQ at hcl
     repeat' split at hcl
     all_goals simp at hcl
   ·simp at e
  | invoke r m=>simp [stepV,hc] at e
  | builtin bn =>
   simp only [stepV,hc] at e
   have ln:∀ (x:C),(Jq (none:V3) ⟨tm,H⟩ x fun c v=>QT c H v)=some (.st id,H',v) → False:=by
    intro x e
    unfold Jq at e
    dsimp only at e
    repeat' split at e
    all_goals simp at e
   split at e
   ·exfalso
    split at e
    ·split at e
     ·split at e
      ·exact ln _ e
      ·simp at e
     ·split at e
      ·simp at e
      ·exact ln _ e
     ·simp at e
    ·simp at e
   ·simp at e
   ·simp at e
   ·split at e
    ·rw [pm] at e
     cases hl:px ty none _ _ base ⟨tm,H⟩ _ _ fun H v=>some (H,v) with
     | none=>rw [hl] at e; simp [via] at e
     | some r=>rw [hl] at e; simp [via] at e
    ·simp at e
   ·simp at e
 | _ =>
  simp only [stepV] at e
  repeat' split at e
  all_goals simp at e
theorem jaF {base:Nat} {o:Oper} {tm:List C} {H H':List HS} {v:C} (e:stepV ty fn cl (none:V3) base o tm H QT=some (.n,H',v)) :
  jp H base = .free ∧ ∃ ob,H'=jB H base (.live ob) ∧ ∀ H3,jp H3 base = .free → stepV ty fn cl (none:V3) base o tm H3 QT=some (.n,jB H3 base (.live ob),v):=by
 obtain ⟨dst,op,type,pos,after,guard⟩:=o
 cases op with
 | alloc t =>
  simp only [stepV] at e
  repeat' split at e
  all_goals simp at e
 | box t x =>
  simp only [stepV] at e
  repeat' split at e
  all_goals simp at e
 | load t x =>
  simp only [stepV] at e
  unfold V1 JS at e
  dsimp only at e
  repeat' split at e
  all_goals simp at e
 | convert s t x =>
  simp only [stepV] at e
  unfold K3 at e
  dsimp only at e
  repeat' split at e
  all_goals simp at e
 | slice t x lo hi mx =>
  cases mx with
  | none =>
   simp only [stepV,zo] at e
   repeat' split at e
   all_goals first
    | (simp at e; done)
    | (obtain ⟨l',h1,h2⟩:=pf e; obtain ⟨h3,_⟩:=jr h2; simp at h3)
  | some m=>simp [stepV] at e
 | indexAddr t x i =>
  simp only [stepV] at e
  unfold yH at e
  dsimp only at e
  repeat' split at e
  all_goals simp at e
 | binOp op t x y t' =>
  simp only [stepV] at e
  rw [yP] at e
  cases hl:Yn ty none op t (opd tm x) (opd tm y) some with
  | none=>rw [hl] at e; simp [via] at e
  | some r=>rw [hl] at e; simp [via] at e
 | store t a x =>
  simp only [stepV] at e
  split at e
  ·rw [qw] at e
   cases hl:yC ty none t ⟨tm,H⟩ (opd tm a) (opd tm x) some with
   | none=>rw [hl] at e; simp [via] at e
   | some r =>
    rw [hl] at e
    obtain ⟨h,_⟩:=jr e
    unfold XT at h
    split at h <;> simp at h
  ·simp at e
 | call c =>
  cases hc:c.callee with
  | value f =>
   simp only [stepV,hc] at e
   split at e
   ·rename_i f' caps hfn
    rw [qa] at e
    cases hl:qG ty fn cl none base ⟨tm,H⟩ f' caps (yE tm c.args.toList) fun H v=>some (H,v) with
    | none=>rw [hl] at e; simp [via] at e
    | some r =>
     rw [hl] at e
     obtain ⟨hcl,rfl,rfl⟩:=jr e
     exfalso
     unfold pQ at hcl
     repeat' split at hcl
     all_goals simp at hcl
   ·simp at e
  | invoke r m=>simp [stepV,hc] at e
  | builtin bn =>
   simp only [stepV,hc] at e
   have ln:∀ (x:C),(Jq (none:V3) ⟨tm,H⟩ x fun c v=>QT c H v)=some (.n,H',v) → False:=by
    intro x e
    unfold Jq at e
    dsimp only at e
    repeat' split at e
    all_goals simp at e
   split at e
   ·exfalso
    split at e
    ·split at e
     ·split at e
      ·exact ln _ e
      ·simp at e
     ·split at e
      ·simp at e
      ·exact ln _ e
     ·simp at e
    ·simp at e
   ·simp at e
   ·simp at e
   ·split at e
    ·rw [pm] at e
     cases hl:px ty none _ _ base ⟨tm,H⟩ _ _ fun H v=>some (H,v) with
     | none=>rw [hl] at e; simp [via] at e
     | some r=>rw [hl] at e; simp [via] at e
    ·simp at e
   ·simp at e
 | _ =>
  simp only [stepV] at e
  repeat' split at e
  all_goals simp at e
theorem j5x {H H':List HS} {t:CT} {s:S} {d:DC} {j:Nat} (hj:j ∉ s.touch) (e:Vt H t s=some (d,H')):jp H' j=jp H j:=by
  unfold Vt at e
  repeat' split at e
  all_goals first
    | (simp at e; done)
    | (simp only [j8,ji] at e; obtain ⟨_,rfl⟩:=e; rfl)
    | (simp only [j8,ji] at e
       obtain ⟨_,rfl⟩:=e
       exact jo _ fun h=>hj (by simp [S.touch,h]))
theorem j3W:∀ {ts:List CT} {ss:List S} {H H':List HS} {d:List DC} {j:Nat},j ∉ ss.flatMap S.touch → yZ H ts ss=some (d,H') → jp H' j=jp H j
 | [],[],H,H',d,j,_,e=>by
  simp only [yZ,j8,ji] at e
  obtain ⟨_,rfl⟩:=e
  rfl
 | t :: ts,s :: ss,H,H',d,j,hj,e=>by
  rw [jn,jC,not_or] at hj
  rw [yZ] at e
  split at e
  ·rename_i h1
   split at e
   ·rename_i h2
    simp only [j8,ji] at e
    obtain ⟨_,rfl⟩:=e
    rw [j3W hj.2 h2,j5x hj.1 h1]
   ·simp at e
  ·simp at e
 | [],_ :: _,_,_,_,_,_,e=>by simp [yZ] at e
 | _ :: _,[],_,_,_,_,_,e=>by simp [yZ] at e
theorem j9L {H H':List HS} {t:CT} {s:S} {d:DC} {j:Nat} (hj:j ∉ s.touch) (e:j1c ty H t s=some (d,H')):jp H' j=jp H j:=by
  unfold j1c at e
  repeat' split at e
  all_goals first
    | (simp at e; done)
    | (simp only [j8,ji] at e; obtain ⟨_,rfl⟩:=e; rfl)
    | (simp only [j8,ji] at e
       obtain ⟨_,rfl⟩:=e
       exact jo _ fun h=>hj (by simp [S.touch,h]))
theorem j4j:∀ {ts:List CT} {ss:List S} {H H':List HS} {d:List DC} {j:Nat},j ∉ ss.flatMap S.touch → ze ty H ts ss=some (d,H') → jp H' j=jp H j
 | [],[],H,H',d,j,_,e=>by
  simp only [ze,j8,ji] at e
  obtain ⟨_,rfl⟩:=e
  rfl
 | t :: ts,s :: ss,H,H',d,j,hj,e=>by
  rw [jn,jC,not_or] at hj
  rw [ze] at e
  split at e
  ·rename_i h1
   split at e
   ·rename_i h2
    simp only [j8,ji] at e
    obtain ⟨_,rfl⟩:=e
    rw [j4j hj.2 h2,j9L hj.1 h1]
   ·simp at e
  ·simp at e
 | [],_ :: _,_,_,_,_,_,e=>by simp [ze] at e
 | _ :: _,[],_,_,_,_,_,e=>by simp [ze] at e
theorem j75 {d0':Bool} {ts:List CT} {ss:List S} {H H':List HS} {d:List DC} {j:Nat} (hj:j ∉ ss.flatMap S.touch) (e:QE ty d0' H ts ss=some (d,H')):jp H' j=jp H j:=by
 cases d0' with
 | false=>exact j3W hj e
 | true=>exact j4j hj e
theorem j1O {c:C} {ss:List S} (h:c.cells=some ss):ss.flatMap S.touch=c.touch:=by
 unfold C.cells at h
 split at h
 ·split at h
  ·simp only [j8] at h; subst h; simp [C.touch]
  ·simp at h
 ·split at h
  ·simp only [j8] at h; subst h; rfl
  ·simp at h
 ·simp at h
theorem j2Q {dd:Bool} {ts:List CT}:∀ {l:List (Nat × C)} {n:Nat} {H H':List HS} {d:List (List DC)} {j:Nat},j ∉ l.flatMap (fun p=>p.2.touch) → yi ty dd H ts n l=some (d,H') → jp H' j=jp H j
 | [],n,H,H',d,j,_,e=>by
  simp only [yi,j8,ji] at e
  obtain ⟨_,rfl⟩:=e
  rfl
 | (i,c) :: l,n,H,H',d,j,hj,e=>by
  rw [jn,jC,not_or] at hj
  rw [yi] at e
  split at e
  ·split at e
   ·rename_i ss hc
    split at e
    ·rename_i h1
     split at e
     ·rename_i h2
      simp only [j8,ji] at e
      obtain ⟨_,rfl⟩:=e
      rw [j2Q hj.2 h2,j75 (by rw [j1O hc]; exact hj.1) h1]
     ·simp at e
    ·simp at e
   ·simp at e
  ·simp at e
theorem j7a {H H':List HS} {k:K1} {s:S} {d:List DC} {j:Nat} (hj:j ∉ s.touch) (e:zF ty H k s=some (d,H')):jp H' j=jp H j:=by
  unfold zF at e
  repeat' split at e
  all_goals first
    | (simp at e; done)
    | (simp only [j8,ji] at e; obtain ⟨_,rfl⟩:=e; rfl)
    | (rename_i h1; simp only [j8,ji] at e; obtain ⟨_,rfl⟩:=e; exact j5x hj h1)
    | (simp only [j8,ji] at e
       obtain ⟨_,rfl⟩:=e
       exact jo _ fun h=>hj (by simp [S.touch,h]))
theorem j4f:∀ {ks:List K1} {ss:List S} {H H':List HS} {d:List DC} {j:Nat},j ∉ ss.flatMap S.touch → pT ty H ks ss=some (d,H') → jp H' j=jp H j
 | [],[],H,H',d,j,_,e=>by
  simp only [pT,j8,ji] at e
  obtain ⟨_,rfl⟩:=e
  rfl
 | k :: ks,s :: ss,H,H',d,j,hj,e=>by
  rw [jn,jC,not_or] at hj
  rw [pT] at e
  split at e
  ·rename_i h1
   split at e
   ·rename_i h2
    simp only [j8,ji] at e
    obtain ⟨_,rfl⟩:=e
    rw [j4f hj.2 h2,j7a hj.1 h1]
   ·simp at e
  ·simp at e
 | [],_ :: _,_,_,_,_,_,e=>by simp [pT] at e
 | _ :: _,[],_,_,_,_,_,e=>by simp [pT] at e
theorem j2I:∀ {ks:List KC} {cs:List C} {p:List S} {j:Nat},j ∉ cs.flatMap C.touch → Jz ks cs=some p → j ∉ p.flatMap S.touch
 | ks,cs,p,j,hj,e=>by
  induction cs generalizing ks p with
  | nil =>
   unfold Jz at e
   split at e
   all_goals first
    | (simp at e; done)
    | (simp only [j8] at e; subst e; simp)
    | (rename_i h; simp at h; done)
    | skip
   all_goals simp_all
  | cons c cs ih =>
   rw [jn,jC,not_or] at hj
   unfold Jz at e
   split at e
   ·rename_i h; simp at h
   ·rename_i h
    obtain ⟨rfl,rfl⟩:=h
    split at e
    ·rename_i r hr
     simp only [j8] at e
     subst e
     have:=ih _ _ hj.2 hr
     simpa [S.touch] using this
    ·simp at e
   ·rename_i h
    obtain ⟨rfl,rfl⟩:=h
    split at e
    ·rename_i r hr
     simp only [j8] at e
     subst e
     rw [jn,jC,not_or]
     exact ⟨hj.1,ih _ _ hj.2 hr⟩
    ·simp at e
   ·rename_i h
    obtain ⟨rfl,rfl⟩:=h
    split at e
    ·split at e
     ·rename_i r hr
      simp only [j8] at e
      subst e
      rw [List.flatMap_append,jC,not_or]
      exact ⟨hj.1,ih _ _ hj.2 hr⟩
     ·simp at e
    ·simp at e
   ·simp at e
theorem V6 (v:List DC):∀ {ks:List K1} {n:Nat} {H H':List HS} {j:Nat},j ∉ ks.flatMap K1.ids → pY v n ks H=some H' → jp H' j=jp H j
 | [],n,H,H',j,_,e=>by
  simp only [pY,j8] at e
  rw [e]
 | k :: ks,n,H,H',j,hj,e=>by
  rw [jn,jC,not_or] at hj
  cases k with
  | own e0 id =>
   rw [pY] at e
   split at e
   ·rw [V6 v hj.2 e]
    exact jo _ fun h=>hj.1 (by simp [K1.ids,h])
   ·simp at e
  | _=>exact V6 v hj.2 e
theorem kA {H:List HS} {i j:Nat} {x y:HS} (h:i ≠ j):jB (jB H i x) j y=jB (jB H j y) i x:=by
 simp only [jB]
 rw [List.set_comm _ _ h]
theorem j4O:∀ {ids:List Nat} {kos:List KO} {q:List S} {H:List HS},X6 H ids=true → Vu H ids kos=some q → q.flatMap S.touch=[]
 | [],[],q,H,_,e=>by
  simp only [Vu,j8] at e
  subst e
  rfl
 | id :: ids,.var t l :: ks,q,H,h,e=>by
  unfold X6 at h
  rw [List.all_cons,jk] at h
  simp only [Vu] at e
  split at e
  ·rename_i t' cs hv
   split at e
   ·split at e
    ·rename_i r hr
     simp only [j8] at e
     subst e
     rw [List.flatMap_append,j4O (ids:=ids) h.2 hr,jv]
     have h1:=h.1
     rw [hv] at h1
     dsimp only at h1
     rw [List.all_eq_true] at h1
     rw [List.flatMap_eq_nil_iff]
     intro s hs
     have:=h1 s hs
     cases s <;> first | rfl | simp [S.noOwn] at this
    ·simp at e
   ·simp at e
  ·simp at e
 | _ :: _,.u :: _,_,_,_,e=>by simp [Vu] at e
 | [],_ :: _,_,_,_,e=>by simp [Vu] at e
 | _ :: _,[],_,_,_,e=>by simp [Vu] at e
theorem Qf {H:List HS} {i j:Nat} {x:HS} (h:i ≠ j):jp (jB H j x) i=jp H i:=jo _ (Ne.symm h)
theorem j6I {ids:List Nat} {H:List HS} {j:Nat} {x:HS} (hj:j ∉ ids):X6 (jB H j x) ids=X6 H ids:=by
 unfold X6
 rw [Bool.eq_iff_iff,List.all_eq_true,List.all_eq_true]
 have key:∀ id ∈ ids,jp (jB H j x) id=jp H id:=fun id hid=>Qf fun e=>hj (e ▸ hid)
 constructor
 ·intro h id hid
  have:=h id hid
  rwa [key id hid] at this
 ·intro h id hid
  rw [key id hid]
  exact h id hid
theorem j61:∀ {ids:List Nat} {H:List HS} {j:Nat} {x:HS},j ∉ ids → j1X ty (jB H j x) ids=j1X ty H ids
 | [],_,_,_,_=>rfl
 | id :: ids,H,j,x,hj=>by
  simp only [List.mem_cons,not_or] at hj
  simp only [j1X,Qf (Ne.symm hj.1),j61 hj.2]
theorem j5F:∀ {ids:List Nat} {kos:List KO} {H:List HS} {j:Nat} {x:HS},j ∉ ids → Vu (jB H j x) ids kos=Vu H ids kos
 | [],[],_,_,_,_=>rfl
 | [],_ :: _,_,_,_,_=>rfl
 | id :: ids,.u :: ks,_,_,_,_=>rfl
 | id :: ids,[],_,_,_,_=>rfl
 | id :: ids,.var t l :: ks,H,j,x,hj=>by
  simp only [List.mem_cons,not_or] at hj
  simp only [Vu,Qf (Ne.symm hj.1),j5F hj.2]
theorem j1F (v:List DC):∀ {ids:List Nat} {kos:List KO} {n:Nat} {H:List HS} {j:Nat} {x:HS},j ∉ ids → qU v n ids kos (jB H j x)=jB (qU v n ids kos H) j x
 | [],kos,n,H,j,x,_=>by cases kos <;> rfl
 | id :: ids,[],n,H,j,x,_=>rfl
 | id :: ids,.u :: ks,n,H,j,x,_=>rfl
 | id :: ids,.var t l :: ks,n,H,j,x,hj=>by
  simp only [List.mem_cons,not_or] at hj
  simp only [qU]
  rw [kA hj.1,j1F v hj.2]
theorem j2S (v:List DC):∀ {ids:List Nat} {kos:List KO} {n:Nat} {H:List HS} {j:Nat},j ∉ ids → jp (qU v n ids kos H) j=jp H j
 | [],kos,n,H,j,_=>by cases kos <;> rfl
 | id :: ids,[],n,H,j,_=>rfl
 | id :: ids,.u :: ks,n,H,j,_=>rfl
 | id :: ids,.var t l :: ks,n,H,j,hj=>by
  simp only [List.mem_cons,not_or] at hj
  simp only [qU]
  rw [j2S v hj.2,Qf hj.1]
theorem ZY {base f:Nat} {caps:List Nat} {args:List C} {H:List HS} {l:List Nat} (hc:pQ fn base f caps args H = .wl l) :
  ∃ (fi:FI) (ids:List Nat),fn f=some fi ∧ fi.stf=none ∧ fi.mark=none ∧ caps=[] ∧ pV fi.pk args=ids ∧ X6 H ids=true ∧
   (∀ j,j ∉ l → j ∉ args.flatMap C.touch ∧ j ∉ (zT base fi.rk).flatMap K1.ids ∧ j ∉ ids) ∧ ∀ H3,X6 H3 ids=true → pQ fn base f caps args H3 = .wl l:=by
 unfold pQ at hc
 cases hf:fn f with
 | none=>rw [hf] at hc; simp at hc
 | some fi =>
  rw [hf] at hc
  dsimp only at hc
  cases hst:fi.stf with
  | some m=>rw [hst] at hc; simp at hc
  | none =>
  rw [hst] at hc
  dsimp only at hc
  cases hmk:fi.mark with
  | some m=>rw [hmk] at hc; simp at hc
  | none =>
  rw [hmk] at hc
  dsimp only at hc
  cases caps with
  | cons _ _=>simp at hc
  | nil =>
  cases hid:pV fi.pk args with
  | nil =>
   rw [hid] at hc
   refine ⟨fi,[],rfl,hst,hmk,rfl,hid,rfl,fun j hj=>?_,fun H3 _=>?_⟩
   ·split at hc
    all_goals first
     | (simp at hc; done)
     | (simp only [Cls.wl.injEq] at hc; subst hc; rw [jC,not_or] at hj; exact ⟨hj.1,hj.2,by simp⟩)
     | simp_all
   ·unfold pQ
    rw [hf]
    dsimp only
    rw [hst]
    dsimp only
    rw [hmk]
    dsimp only
    rw [hid]
    revert hc
    cases args.all C.noOwn <;> cases (fi.rk.all fun r=>r.2.all RK.isCt) <;> exact fun hc=>hc
  | cons i is =>
   rw [hid] at hc
   dsimp only at hc
   cases hv:X6 H (i :: is) with
   | false=>rw [hv] at hc; simp at hc
   | true =>
    rw [hv] at hc
    simp only [Cls.wl.injEq] at hc
    subst hc
    refine ⟨fi,i :: is,rfl,hst,hmk,rfl,hid,hv,fun j hj=>?_,fun H3 h3=>?_⟩
    ·rw [jC,jC,not_or,not_or] at hj
     exact ⟨hj.1,hj.2.1,hj.2.2⟩
    ·unfold pQ
     rw [hf]
     dsimp only
     rw [hst]
     dsimp only
     rw [hmk]
     dsimp only
     rw [hid]
     dsimp only
     rw [h3]
theorem j6t {base f:Nat} {caps:List Nat} {args:List C} {H:List HS} {l:List Nat} {j:Nat} {x:HS} (hc:pQ fn base f caps args H = .wl l) (hj:j ∉ l):pQ fn base f caps args (jB H j x) = .wl l:=by
 obtain ⟨fi,ids,_,_,_,_,_,hv,hl,h3⟩:=ZY hc
 exact h3 _ (by rw [j6I (hl j hj).2.2]; exact hv)
theorem j8L {base f:Nat} {tm:List C} {H H':List HS} {args:List C} {v:C} {l:List Nat} {caps:List Nat} (hc:pQ fn base f caps args H = .wl l) (e:qG ty fn cl none base ⟨tm,H⟩ f caps args (fun H v=>some (H,v))=some (H',v)) :
  ∀ j,j ∉ l → jp H' j=jp H j:=by
 intro j hjl
 obtain ⟨fi,ids,hf,hst,hmk,rfl,hid,hvn,hl,_⟩:=ZY hc
 obtain ⟨hj1,hj2,hj3⟩:=hl j hjl
 unfold qG at e
 rw [hf] at e
 dsimp only at e
 rw [hst] at e
 dsimp only at e
 rw [hmk] at e
 dsimp only at e
 simp only [List.map_nil,jv,hid] at e
 split at e
 ·rename_i kcs kos e1 e2
  split at e
  ·rename_i p q e3 e4
   split at e
   ·rename_i v0 H1 e5
    have h5:=j4f (j:=j) (by
     rw [List.flatMap_append,j4O hvn e4,jv]
     exact j2I hj1 e3) e5
    split at e
    ·split at e
     ·rename_i r hr
      split at e
      ·split at e
       ·rename_i H2 h2
        simp only [j8,ji] at e
        obtain ⟨rfl,_⟩:=e
        exact V6 r hj2 h2
       ·simp at e
      ·split at e
       ·rename_i H2 h2
        simp only [j8,ji] at e
        obtain ⟨rfl,_⟩:=e
        rw [V6 r hj2 h2,j2S r hj3,h5]
       ·simp at e
     ·simp at e
    ·simp at e
   ·simp at e
  ·simp at e
 ·simp at e
theorem ZE {H H1:List HS} {e:Nat} {x:C} {l:List (List DC)} {j:Nat} (hj:j ∉ x.touch) (ho:JR H e x=some (l,H1)):jp H1 j=jp H j:=by
 unfold JR at ho
 repeat' split at ho
 all_goals first
  | (simp at ho; done)
  | skip
 ·simp only [j8,ji] at ho
  obtain ⟨_,rfl⟩:=ho
  rfl
 ·simp only [j8,ji] at ho
  obtain ⟨_,rfl⟩:=ho
  exact jo _ fun h=>hj (by simp [C.touch,S.touch,h])
theorem j6C {t u base:Nat} {tm:List C} {H H':List HS} {x y v:C} (e:px ty none t u base ⟨tm,H⟩ x y (fun H v=>some (H,v))=some (H',v)):∀ j,j ∉ base :: (x.touch ++ y.touch) → jp H' j=jp H j:=by
 intro j hj
 simp only [List.mem_cons,jC,not_or] at hj
 unfold px at e
 split at e
 ·simp at e
 split at e
 ·simp at e
 split at e
 case isFalse=>simp at e
 split at e
 ·split at e
  case h_2=>simp at e
  rename_i ho hm
  repeat' split at e
  all_goals first
   | (simp at e; done)
   | skip
  simp only [j8,ji] at e
  obtain ⟨rfl,_⟩:=e
  rw [jo _ fun h=>hj.1 h.symm]
  exact ZE hj.2.1 ho
 ·split at e
  case h_2=>simp at e
  rename_i ho
  split at e
  case h_2=>simp at e
  rename_i hm
  repeat' split at e
  all_goals first
   | (simp at e; done)
   | skip
  simp only [j8,ji] at e
  obtain ⟨rfl,_⟩:=e
  rw [jo _ fun h=>hj.1 h.symm,ZE hj.2.2 hm]
  exact ZE hj.2.1 ho
theorem Zy:∀ {ts:List CT} {y:List DC} {k p:Nat} {H H1:List HS} {ss:List S},yB ts y k p H=some (ss,H1) → ∀ j,j ∉ List.range' p (slN ts) → jp H1 j=jp H j
 | [],y,k,p,H,H1,ss,e,j,_=>by
  simp only [yB,j8,ji] at e
  rw [e.2]
 | t :: ts,y,k,p,H,H1,ss,e,j,hj=>by
  have rest:∀ (s:S),(match yB ts y (k + 1) p H with | some (ss,H2)=>some (s :: ss,H2) | none=>none)=some (ss,H1) → j ∉ List.range' p (slN ts) → jp H1 j=jp H j:=by
   intro s e hj
   split at e
   ·rename_i h1
    simp only [j8,ji] at e
    obtain ⟨_,rfl⟩:=e
    exact Zy h1 j hj
   ·simp at e
  cases t with
  | b=>exact rest _ e hj
  | i kd=>exact rest _ e hj
  | s=>exact rest _ e hj
  | sl el =>
   simp only [yB] at e
   split at e
   ·split at e
    ·rename_i h1
     simp only [j8,ji] at e
     obtain ⟨_,rfl⟩:=e
     rw [slN,List.range'_succ,List.mem_cons,not_or] at hj
     rw [Zy h1 j hj.2,jo _ fun h=>hj.1 h.symm]
    ·simp at e
   ·simp at e
theorem X7:∀ {ts:List CT} {y:List DC} {k p:Nat} {H H1:List HS} {ss:List S} {j:Nat} {x:HS},j ∉ List.range' p (slN ts) → yB ts y k p H=some (ss,H1) → yB ts y k p (jB H j x)=some (ss,jB H1 j x)
 | [],y,k,p,H,H1,ss,j,x,_,e=>by
  simp only [yB,j8,ji] at e ⊢
  exact ⟨e.1,by rw [e.2]⟩
 | t :: ts,y,k,p,H,H1,ss,j,x,hj,e=>by
  have rest:∀ (s:S),(match yB ts y (k + 1) p H with | some (ss,H2)=>some (s :: ss,H2) | none=>none)=some (ss,H1) → j ∉ List.range' p (slN ts) →
    (match yB ts y (k + 1) p (jB H j x) with | some (ss,H2)=>some (s :: ss,H2) | none=>none)=some (ss,jB H1 j x):=by
   intro s e hj
   split at e
   ·rename_i h1
    simp only [j8,ji] at e
    obtain ⟨rfl,rfl⟩:=e
    rw [X7 hj h1]
   ·simp at e
  cases t with
  | b=>exact rest _ e hj
  | i kd=>exact rest _ e hj
  | s=>exact rest _ e hj
  | sl el =>
   simp only [yB] at e ⊢
   split at e
   ·rename_i hf
    split at e
    ·rename_i h1
     simp only [j8,ji] at e
     obtain ⟨rfl,rfl⟩:=e
     rw [slN,List.range'_succ,List.mem_cons,not_or] at hj
     rw [jo _ hj.1,hf]
     dsimp only
     have:=X7 (x:=x) hj.2 h1
     rw [kA fun h=>hj.1 h.symm] at this
     rw [this]
    ·simp at e
   ·simp at e
theorem j9l {base:Nat} {o:Oper} {tm:List C} {H H':List HS} {v:C} {l:List Nat} (e:stepV ty fn cl (none:V3) base o tm H QT=some (.wl l,H',v)):∀ j,j ∉ l → jp H' j=jp H j:=by
 obtain ⟨dst,op,type,pos,after,guard⟩:=o
 cases op with
 | buildSlice t n parts =>
  simp only [stepV] at e
  repeat' split at e
  all_goals first
   | (simp at e; done)
   | skip
  rename_i hr _ _ _
  obtain ⟨h1,rfl,rfl⟩:=jr e
  have h1:=j6z h1
  subst h1
  intro j hj
  rw [List.mem_cons,not_or] at hj
  rw [jo _ fun h=>hj.1 h.symm]
  refine j2Q ?_ hr
  exact hj.2
 | load t x =>
  simp only [stepV] at e
  cases hT:j1g ty t (opd tm x) with
  | true =>
   rw [hT] at e
   dsimp only at e
   unfold V1 at e
   repeat' split at e
   all_goals first
    | (simp at e; done)
    | skip
   all_goals
    rename_i hcs
    obtain ⟨h1,rfl,rfl⟩:=jr e
    simp only [Cls.wl.injEq] at h1
    subst h1
    intro j hj
    rw [List.mem_cons,not_or] at hj
    rw [Zy hcs j hj.2,jo _ fun h=>hj.1 h.symm]
  | false =>
  rw [hT] at e
  unfold JS at e
  dsimp only at e
  repeat' split at e
  all_goals simp at e
 | convert s t x =>
  simp only [stepV] at e
  unfold K3 at e
  dsimp only at e
  repeat' split at e
  all_goals simp at e
 | slice t x lo hi mx =>
  cases mx with
  | none =>
   simp only [stepV,zo] at e
   repeat' split at e
   all_goals first
    | (simp at e; done)
    | (obtain ⟨l',h1,h2⟩:=pf e; obtain ⟨h3,_⟩:=jr h2; simp at h3)
  | some m=>simp [stepV] at e
 | indexAddr t x i =>
  simp only [stepV] at e
  unfold yH at e
  dsimp only at e
  repeat' split at e
  all_goals simp at e
 | binOp op t x y t' =>
  simp only [stepV] at e
  rw [yP] at e
  cases hl:Yn ty none op t (opd tm x) (opd tm y) some with
  | none=>rw [hl] at e; simp [via] at e
  | some r=>rw [hl] at e; simp [via] at e
 | store t a x =>
  simp only [stepV] at e
  split at e
  ·rw [qw] at e
   cases hl:yC ty none t ⟨tm,H⟩ (opd tm a) (opd tm x) some with
   | none=>rw [hl] at e; simp [via] at e
   | some r =>
    rw [hl] at e
    obtain ⟨h,_⟩:=jr e
    unfold XT at h
    split at h <;> simp at h
  ·simp at e
 | call c =>
  cases hc:c.callee with
  | value f =>
   simp only [stepV,hc] at e
   split at e
   ·rename_i f' caps hfn
    rw [qa] at e
    cases hl:qG ty fn cl none base ⟨tm,H⟩ f' caps (yE tm c.args.toList) fun H v=>some (H,v) with
    | none=>rw [hl] at e; simp [via] at e
    | some r =>
     rw [hl] at e
     obtain ⟨hcl,rfl,rfl⟩:=jr e
     exact j8L hcl hl
   ·simp at e
  | invoke r m=>simp [stepV,hc] at e
  | builtin bn =>
   simp only [stepV,hc] at e
   have ln:∀ (x:C),(Jq (none:V3) ⟨tm,H⟩ x fun c v=>QT c H v)=some (.wl l,H',v) → False:=by
    intro x e
    unfold Jq at e
    dsimp only at e
    repeat' split at e
    all_goals simp at e
   split at e
   ·exfalso
    split at e
    ·split at e
     ·split at e
      ·exact ln _ e
      ·simp at e
     ·split at e
      ·simp at e
      ·exact ln _ e
     ·simp at e
    ·simp at e
   ·simp at e
   ·simp at e
   ·split at e
    ·rw [pm] at e
     cases hl:px ty none _ _ base ⟨tm,H⟩ _ _ fun H v=>some (H,v) with
     | none=>rw [hl] at e; simp [via] at e
     | some r =>
      rw [hl] at e
      obtain ⟨h1,rfl,rfl⟩:=jr e
      simp only [Cls.wl.injEq] at h1
      subst h1
      exact j6C hl
    ·simp at e
   ·simp at e
 | _ =>
  simp only [stepV] at e
  repeat' split at e
  all_goals simp at e
theorem j5w {H H':List HS} {t:CT} {s:S} {d:DC} {j:Nat} {x:HS} (hj:j ∉ s.touch) (e:Vt H t s=some (d,H')):Vt (jB H j x) t s=some (d,jB H' j x):=by
  cases s with
  | own id =>
    have hne:id ≠ j:=fun h=>hj (by simp [S.touch,h])
    cases t with
    | sl e0 =>
      simp only [Vt] at e ⊢
      rw [jo _ (fun h=>hne h.symm)]
      split at e
      · rename_i e2 l hg
        try rw [hg]
        try dsimp only
        split at e
        · rename_i h2
          rw [if_pos h2]
          simp only [j8,ji] at e ⊢
          exact ⟨e.1,by rw [← e.2,kA hne]⟩
        · simp at e
      · rename_i e2 l hg
        try rw [hg]
        try dsimp only
        split at e
        · rename_i h2
          rw [if_pos h2]
          simp only [j8,ji] at e ⊢
          exact ⟨e.1,by rw [← e.2]⟩
        · simp at e
      · rename_i e2 l hg
        try rw [hg]
        try dsimp only
        split at e
        · rename_i h2
          rw [if_pos h2]
          simp only [j8,ji] at e ⊢
          exact ⟨e.1,by rw [← e.2,kA hne]⟩
        · simp at e
      · simp at e
    | _=>simp [Vt] at e
  | _ =>
    cases t <;> simp only [Vt] at e ⊢
    all_goals first
      | (simp at e; done)
      | (simp only [j8,ji] at e ⊢; exact ⟨e.1,by rw [← e.2]⟩)
      | (split at e
         · rename_i h2
           rw [if_pos h2]
           simp only [j8,ji] at e ⊢
           exact ⟨e.1,by rw [← e.2]⟩
         · simp at e)
theorem j3V:∀ {ts:List CT} {ss:List S} {H H':List HS} {d:List DC} {j:Nat} {x:HS},j ∉ ss.flatMap S.touch → yZ H ts ss=some (d,H') → yZ (jB H j x) ts ss=some (d,jB H' j x)
 | [],[],H,H',d,j,x,_,e=>by
  simp only [yZ,j8,ji] at e ⊢
  exact ⟨e.1,by rw [← e.2]⟩
 | t :: ts,s :: ss,H,H',d,j,x,hj,e=>by
  rw [jn,jC,not_or] at hj
  rw [yZ] at e ⊢
  split at e
  ·rename_i h1
   rw [j5w hj.1 h1]
   try dsimp only
   split at e
   ·rename_i h2
    rw [j3V hj.2 h2]
    try dsimp only
    simp only [j8,ji] at e ⊢
    exact ⟨e.1,by rw [← e.2]⟩
   ·simp at e
  ·simp at e
 | [],_ :: _,_,_,_,_,_,_,e=>by simp [yZ] at e
 | _ :: _,[],_,_,_,_,_,_,e=>by simp [yZ] at e
theorem j9K {H H':List HS} {t:CT} {s:S} {d:DC} {j:Nat} {x:HS} (hj:j ∉ s.touch) (e:j1c ty H t s=some (d,H')):j1c ty (jB H j x) t s=some (d,jB H' j x):=by
  cases s with
  | own id =>
    have hne:id ≠ j:=fun h=>hj (by simp [S.touch,h])
    cases t with
    | sl e0 =>
      simp only [j1c] at e ⊢
      rw [jo _ (fun h=>hne h.symm)]
      split at e
      · rename_i e2 l hg
        try rw [hg]
        try dsimp only
        split at e
        · rename_i h2
          rw [if_pos h2]
          simp only [j8,ji] at e ⊢
          exact ⟨e.1,by rw [← e.2,kA hne]⟩
        · simp at e
      · rename_i e2 l hg
        try rw [hg]
        try dsimp only
        split at e
        · rename_i h2
          rw [if_pos h2]
          simp only [j8,ji] at e ⊢
          exact ⟨e.1,by rw [← e.2,kA hne]⟩
        · simp at e
      · simp at e
    | _=>simp [j1c] at e
  | _ =>
    cases t <;> simp only [j1c] at e ⊢
    all_goals first
      | (simp at e; done)
      | (simp only [j8,ji] at e ⊢; exact ⟨e.1,by rw [← e.2]⟩)
      | (split at e
         · rename_i h2
           rw [if_pos h2]
           simp only [j8,ji] at e ⊢
           exact ⟨e.1,by rw [← e.2]⟩
         · simp at e)
theorem j4i:∀ {ts:List CT} {ss:List S} {H H':List HS} {d:List DC} {j:Nat} {x:HS},j ∉ ss.flatMap S.touch → ze ty H ts ss=some (d,H') → ze ty (jB H j x) ts ss=some (d,jB H' j x)
 | [],[],H,H',d,j,x,_,e=>by
  simp only [ze,j8,ji] at e ⊢
  exact ⟨e.1,by rw [← e.2]⟩
 | t :: ts,s :: ss,H,H',d,j,x,hj,e=>by
  rw [jn,jC,not_or] at hj
  rw [ze] at e ⊢
  split at e
  ·rename_i h1
   rw [j9K hj.1 h1]
   try dsimp only
   split at e
   ·rename_i h2
    rw [j4i hj.2 h2]
    try dsimp only
    simp only [j8,ji] at e ⊢
    exact ⟨e.1,by rw [← e.2]⟩
   ·simp at e
  ·simp at e
 | [],_ :: _,_,_,_,_,_,_,e=>by simp [ze] at e
 | _ :: _,[],_,_,_,_,_,_,e=>by simp [ze] at e
theorem j74 {d0':Bool} {ts:List CT} {ss:List S} {H H':List HS} {d:List DC} {j:Nat} {x:HS} (hj:j ∉ ss.flatMap S.touch) (e:QE ty d0' H ts ss=some (d,H')):QE ty d0' (jB H j x) ts ss=some (d,jB H' j x):=by
 cases d0' with
 | false=>exact j3V hj e
 | true=>exact j4i hj e
theorem j2P {dd:Bool} {ts:List CT}:∀ {l:List (Nat × C)} {n:Nat} {H H':List HS} {d:List (List DC)} {j:Nat} {x:HS},j ∉ l.flatMap (fun p=>p.2.touch) → yi ty dd H ts n l=some (d,H') → yi ty dd (jB H j x) ts n l=some (d,jB H' j x)
 | [],n,H,H',d,j,x,_,e=>by
  simp only [yi,j8,ji] at e ⊢
  exact ⟨e.1,by rw [← e.2]⟩
 | (i,c) :: l,n,H,H',d,j,x,hj,e=>by
  rw [jn,jC,not_or] at hj
  rw [yi] at e ⊢
  split at e
  ·rename_i hi
   rw [if_pos hi]
   split at e
   ·rename_i ss hc
    try rw [hc]
    try dsimp only
    split at e
    ·rename_i h1
     rw [j74 (by rw [j1O hc]; exact hj.1) h1]
     try dsimp only
     split at e
     ·rename_i h2
      rw [j2P hj.2 h2]
      try dsimp only
      simp only [j8,ji] at e ⊢
      exact ⟨e.1,by rw [← e.2]⟩
     ·simp at e
    ·simp at e
   ·simp at e
  ·simp at e
theorem j79 {H H':List HS} {k:K1} {s:S} {d:List DC} {j:Nat} {x:HS} (hj:j ∉ s.touch) (e:zF ty H k s=some (d,H')):zF ty (jB H j x) k s=some (d,jB H' j x):=by
  cases k with
  | sl e0 =>
    simp only [zF] at e ⊢
    split at e
    · rename_i h1
      rw [j5w hj h1]
      try dsimp only
      simp only [j8,ji] at e ⊢
      exact ⟨e.1,by rw [← e.2]⟩
    · simp at e
  | own e0 i0 =>
    cases s with
    | own id =>
      have hne:id ≠ j:=fun h=>hj (by simp [S.touch,h])
      simp only [zF] at e ⊢
      rw [jo _ (fun h=>hne h.symm)]
      split at e
      · rename_i e2 l hg
        try rw [hg]
        try dsimp only
        split at e
        · rename_i h2
          rw [if_pos h2]
          simp only [j8,ji] at e ⊢
          exact ⟨e.1,by rw [← e.2,kA hne]⟩
        · rename_i h2
          rw [if_neg h2]
          split at e
          · rename_i h3
            rw [if_pos h3]
            simp only [j8,ji] at e ⊢
            exact ⟨e.1,by rw [← e.2,kA hne]⟩
          · simp at e
      · rename_i e2 l hg
        try rw [hg]
        try dsimp only
        split at e
        · rename_i h2
          rw [if_pos h2]
          simp only [j8,ji] at e ⊢
          exact ⟨e.1,by rw [← e.2,kA hne]⟩
        · simp at e
      · simp at e
    | nil =>
      simp only [zF] at e ⊢
      split at e
      · simp only [j8,ji] at e ⊢
        exact ⟨e.1,by rw [← e.2]⟩
      split at e
      · rename_i ti ht
        try rw [ht]
        try dsimp only
        split at e
        · rename_i h2
          rw [if_pos h2]
          simp only [j8,ji] at e ⊢
          exact ⟨e.1,by rw [← e.2]⟩
        · simp at e
      · simp at e
    | _=>simp [zF] at e
  | _ =>
    cases s <;> simp only [zF] at e ⊢
    all_goals first
      | (simp at e; done)
      | (simp only [j8,ji] at e ⊢; exact ⟨e.1,by rw [← e.2]⟩)
      | (split at e
         · rename_i h2
           rw [if_pos h2]
           simp only [j8,ji] at e ⊢
           exact ⟨e.1,by rw [← e.2]⟩
         · simp at e)
theorem j4e:∀ {ks:List K1} {ss:List S} {H H':List HS} {d:List DC} {j:Nat} {x:HS},j ∉ ss.flatMap S.touch → pT ty H ks ss=some (d,H') → pT ty (jB H j x) ks ss=some (d,jB H' j x)
 | [],[],H,H',d,j,x,_,e=>by
  simp only [pT,j8,ji] at e ⊢
  exact ⟨e.1,by rw [← e.2]⟩
 | k :: ks,s :: ss,H,H',d,j,x,hj,e=>by
  rw [jn,jC,not_or] at hj
  rw [pT] at e ⊢
  split at e
  ·rename_i h1
   rw [j79 hj.1 h1]
   try dsimp only
   split at e
   ·rename_i h2
    rw [j4e hj.2 h2]
    try dsimp only
    simp only [j8,ji] at e ⊢
    exact ⟨e.1,by rw [← e.2]⟩
   ·simp at e
  ·simp at e
 | [],_ :: _,_,_,_,_,_,_,e=>by simp [pT] at e
 | _ :: _,[],_,_,_,_,_,_,e=>by simp [pT] at e
theorem V5 (v:List DC):∀ {ks:List K1} {n:Nat} {H H':List HS} {j:Nat} {x:HS},j ∉ ks.flatMap K1.ids → pY v n ks H=some H' → pY v n ks (jB H j x)=some (jB H' j x)
 | [],n,H,H',j,x,_,e=>by
  simp only [pY,j8] at e ⊢
  rw [e]
 | k :: ks,n,H,H',j,x,hj,e=>by
  rw [jn,jC,not_or] at hj
  cases k with
  | own e0 id =>
   have hne:id ≠ j:=fun h=>hj.1 (by simp [K1.ids,h])
   rw [pY] at e ⊢
   rw [jo _ (fun h=>hne h.symm)]
   split at e
   ·rename_i hg
    try rw [hg]
    try dsimp only
    rw [← kA hne]
    exact V5 v hj.2 e
   ·simp at e
  | _=>exact V5 (ks:=ks) v hj.2 e
theorem j8K {base f:Nat} {tm:List C} {H H':List HS} {args:List C} {v:C} {l:List Nat} {caps:List Nat} {j:Nat} {x:HS} (hc:pQ fn base f caps args H = .wl l) (hjl:j ∉ l) (e:qG ty fn cl none base ⟨tm,H⟩ f caps args (fun H v=>some (H,v))=some (H',v)) :
  qG ty fn cl none base ⟨tm,jB H j x⟩ f caps args (fun H v=>some (H,v))=some (jB H' j x,v):=by
 obtain ⟨fi,ids,hf,hst,hmk,rfl,hid,hvn,hl,_⟩:=ZY hc
 obtain ⟨hj1,hj2,hj3⟩:=hl j hjl
 unfold qG at e ⊢
 rw [hf] at e
 try simp only [hf]
 dsimp only at e ⊢
 rw [hst] at e
 simp only [hst]
 dsimp only at e
 rw [hmk] at e
 simp only [hmk]
 dsimp only at e ⊢
 simp only [List.map_nil,jv,hid] at e ⊢
 rw [j61 hj3]
 split at e
 ·rename_i kcs kos e1 e2
  try simp only [e1,e2]
  rw [j5F hj3]
  split at e
  ·rename_i p q e3 e4
   try simp only [e3,e4]
   split at e
   ·rename_i v0 H1 e5
    rw [j4e (x:=x) (by
     rw [List.flatMap_append,j4O hvn e4,jv]
     exact j2I hj1 e3) e5]
    try dsimp only
    split at e
    ·rename_i hok
     have hok2:(y6 ids && (([]:List Nat).all (j59 (jB H j x))) && ({ tm:=kcs,ob:=kos ++ List.replicate (fi.pk.filter PK.isMv).length .u }:Hint).ok)=true:=by
      simp only [jk] at hok ⊢
      exact ⟨⟨hok.1.1,rfl⟩,hok.2⟩
     rw [if_pos hok2]
     split at e
     ·rename_i r hr
      split at e
      ·split at e
       ·rename_i H2 h2
        rw [V5 r hj2 h2]
        simp only [j8,ji] at e ⊢
        exact ⟨by rw [← e.1],e.2⟩
       ·simp at e
      ·rw [j1F r hj3]
       split at e
       ·rename_i H2 h2
        rw [V5 r hj2 h2]
        simp only [j8,ji] at e ⊢
        exact ⟨by rw [← e.1],e.2⟩
       ·simp at e
     ·simp at e
    ·simp at e
   ·simp at e
  ·simp at e
 ·simp at e
theorem j5I {H:List HS} {s:S} {j:Nat} {x:HS} (hj:j ∉ s.touch):za (jB H j x) s=za H s:=by
 cases s with
 | own id =>
  have hne:id ≠ j:=fun h=>hj (by simp [S.touch,h])
  simp only [za]
  rw [jo _ (fun h=>hne h.symm)]
 | _=>rfl
theorem j64 {H:List HS} {t u e0:Nat} {te:TI} {y:C} {j:Nat} {x:HS} (hj:j ∉ y.touch):j0e ty (jB H j x) t u e0 te y=j0e ty H t u e0 te y:=by
 cases y with
 | one s =>
  cases s with
  | own id=>simp only [j0e]; rw [j5I hj]
  | _=>rfl
 | _=>rfl
theorem j6c {H:List HS} {y:C} {j:Nat} {x:HS} (hj:j ∉ y.touch):j9V (jB H j x) y=j9V H y:=by
 cases y with
 | one s =>
  cases s with
  | own id =>
   have hne:id ≠ j:=fun h=>hj (by simp [C.touch,S.touch,h])
   simp only [j9V]
   rw [jo _ (fun h=>hne h.symm)]
  | _=>rfl
 | _=>rfl
theorem ZD {H H1:List HS} {e0:Nat} {a:C} {l:List (List DC)} {j:Nat} {x:HS} (hj:j ∉ a.touch) (ho:JR H e0 a=some (l,H1)):JR (jB H j x) e0 a=some (l,jB H1 j x):=by
 unfold JR at ho ⊢
 split at ho
 ·simp only [j8,ji] at ho ⊢
  exact ⟨ho.1,by rw [ho.2]⟩
 ·rename_i id
  have hne:id ≠ j:=fun h=>hj (by simp [C.touch,S.touch,h])
  try dsimp only
  rw [jo _ (fun h=>hne h.symm)]
  split at ho
  ·rename_i e2 l2 hg
   try rw [hg]
   try dsimp only
   split at ho
   ·rename_i h2
    rw [if_pos h2]
    simp only [j8,ji] at ho ⊢
    exact ⟨ho.1,by rw [← ho.2,kA hne]⟩
   ·simp at ho
  ·simp at ho
 ·simp at ho
theorem j6B {t u base:Nat} {tm:List C} {H H':List HS} {a y v:C} {j:Nat} {x:HS} (hj:j ∉ base :: (a.touch ++ y.touch)) (e:px ty none t u base ⟨tm,H⟩ a y (fun H v=>some (H,v))=some (H',v)) :
  px ty none t u base ⟨tm,jB H j x⟩ a y (fun H v=>some (H,v))=some (jB H' j x,v):=by
 simp only [List.mem_cons,jC,not_or] at hj
 unfold px at e ⊢
 split at e
 ·simp at e
 ·rename_i e0 he0
  split at e
  ·simp at e
  ·rename_i te hte
   dsimp only at e ⊢
   split at e
   ·rename_i hb
    rw [if_pos hb,j6c hj.2.1,j6c hj.2.2]
    split at e
    ·split at e
     ·rename_i l H1 m ho hm
      rw [ZD hj.2.1 ho,j64 hj.2.2,hm]
      try dsimp only
      rw [jo _ hj.1]
      split at e
      ·rename_i hg
       try rw [hg]
       try dsimp only
       split at e
       ·rename_i hl
        rw [if_pos hl]
        simp only [j8,ji] at e ⊢
        exact ⟨by rw [← e.1,kA hj.1],e.2⟩
       ·simp at e
      ·simp at e
     ·simp at e
    ·split at e
     ·rename_i l H1 ho
      rw [ZD hj.2.1 ho]
      try dsimp only
      split at e
      ·rename_i m H2 hm
       rw [ZD hj.2.2 hm]
       try dsimp only
       rw [jo _ hj.1]
       split at e
       ·rename_i hg
        try rw [hg]
        try dsimp only
        split at e
        ·rename_i hl
         rw [if_pos hl]
         simp only [j8,ji] at e ⊢
         exact ⟨by rw [← e.1,kA hj.1],e.2⟩
        ·simp at e
       ·simp at e
      ·simp at e
     ·simp at e
   ·simp at e
theorem j4N {base:Nat} {o:Oper} {tm:List C} {H H':List HS} {v:C} {l:List Nat} {j:Nat} {x:HS} (hj:j ∉ l) (e:stepV ty fn cl (none:V3) base o tm H QT=some (.wl l,H',v)):stepV ty fn cl (none:V3) base o tm (jB H j x) QT=some (.wl l,jB H' j x,v):=by
 obtain ⟨dst,op,type,pos,after,guard⟩:=o
 cases op with
 | buildSlice t n parts =>
  simp only [stepV] at e ⊢
  split at e
  ·rename_i e0 he0
   try rw [he0]
   try dsimp only
   split at e
   ·rename_i te hte
    try rw [hte]
    try dsimp only
    split at e
    ·rename_i l0 H1 hr
     split at e
     ·rename_i hg
      split at e
      ·rename_i hc
       obtain ⟨h1,rfl,rfl⟩:=jr e
       have hl:=j6z h1
       subst hl
       simp only [List.mem_cons,not_or] at hj
       rw [j2P hj.2 hr]
       dsimp only
       rw [jo _ hj.1,hg]
       dsimp only
       rw [if_pos hc]
       show some (JX _ _,jB (jB H1 j x) base _,_)=_
       rw [h1,kA hj.1]
      ·simp at e
     ·simp at e
    ·simp at e
   ·simp at e
  ·simp at e
 | load t y =>
  simp only [stepV] at e ⊢
  cases hT:j1g ty t (opd tm y) with
  | true =>
   rw [hT] at e
   dsimp only at e ⊢
   unfold V1 at e ⊢
   split at e
   ·rename_i ti el id ix hti hid
    split at e
    ·rename_i te e' l0 hte hr
     split at e
     ·rename_i hc
      split at e
      ·rename_i hh
       split at e
       ·rename_i ss H1 hcs
        obtain ⟨h1,rfl,rfl⟩:=jr e
        simp only [Cls.wl.injEq] at h1
        subst h1
        rw [List.mem_cons,not_or] at hj
        rw [hte,jo _ hj.1,hr]
        dsimp only
        rw [if_pos hc]
        try rw [hh]
        try dsimp only
        rw [kA hj.1,X7 hj.2 hcs]
       ·simp at e
      ·rename_i hh
       split at e
       ·rename_i hpos
        split at e
        ·rename_i ss H1 hcs
         obtain ⟨h1,rfl,rfl⟩:=jr e
         simp only [Cls.wl.injEq] at h1
         subst h1
         rw [List.mem_cons,not_or] at hj
         rw [hte,jo _ hj.1,hr]
         dsimp only
         rw [if_pos hc]
         try rw [hh]
         try dsimp only
         rw [if_pos hpos,kA hj.1,X7 hj.2 hcs]
        ·simp at e
       ·simp at e
     ·simp at e
    ·simp at e
   ·simp at e
  | false =>
  rw [hT] at e
  unfold JS at e
  dsimp only at e
  repeat' split at e
  all_goals simp at e
 | convert s t x =>
  simp only [stepV] at e
  unfold K3 at e
  dsimp only at e
  repeat' split at e
  all_goals simp at e
 | slice t x lo hi mx =>
  cases mx with
  | none =>
   simp only [stepV,zo] at e
   repeat' split at e
   all_goals first
    | (simp at e; done)
    | (obtain ⟨l',h1,h2⟩:=pf e; obtain ⟨h3,_⟩:=jr h2; simp at h3)
  | some m=>simp [stepV] at e
 | indexAddr t x i =>
  simp only [stepV] at e
  unfold yH at e
  dsimp only at e
  repeat' split at e
  all_goals simp at e
 | binOp op t x y t' =>
  simp only [stepV] at e
  rw [yP] at e
  cases hl:Yn ty none op t (opd tm x) (opd tm y) some with
  | none=>rw [hl] at e; simp [via] at e
  | some r=>rw [hl] at e; simp [via] at e
 | store t a x =>
  simp only [stepV] at e
  split at e
  ·rw [qw] at e
   cases hl:yC ty none t ⟨tm,H⟩ (opd tm a) (opd tm x) some with
   | none=>rw [hl] at e; simp [via] at e
   | some r =>
    rw [hl] at e
    obtain ⟨h,_⟩:=jr e
    unfold XT at h
    split at h <;> simp at h
  ·simp at e
 | call c =>
  cases hc:c.callee with
  | value f =>
   simp only [stepV,hc] at e
   split at e
   ·rename_i f' caps hfn
    rw [qa] at e
    cases hl:qG ty fn cl none base ⟨tm,H⟩ f' caps (yE tm c.args.toList) fun H v=>some (H,v) with
    | none=>rw [hl] at e; simp [via] at e
    | some r =>
     rw [hl] at e
     obtain ⟨hcl,rfl,rfl⟩:=jr e
     simp only [stepV,hc,hfn]
     rw [qa,j8K (H':=r.1) (v:=r.2) hcl hj hl,j6t hcl hj]
     rfl
   ·simp at e
  | invoke r m=>simp [stepV,hc] at e
  | builtin bn =>
   simp only [stepV,hc] at e
   have ln:∀ (x:C),(Jq (none:V3) ⟨tm,H⟩ x fun c v=>QT c H v)=some (.wl l,H',v) → False:=by
    intro x e
    unfold Jq at e
    dsimp only at e
    repeat' split at e
    all_goals simp at e
   split at e
   ·exfalso
    split at e
    ·split at e
     ·split at e
      ·exact ln _ e
      ·simp at e
     ·split at e
      ·simp at e
      ·exact ln _ e
     ·simp at e
    ·simp at e
   ·simp at e
   ·simp at e
   ·split at e
    ·rw [pm] at e
     cases hl:px ty none _ _ base ⟨tm,H⟩ _ _ fun H v=>some (H,v) with
     | none=>rw [hl] at e; simp [via] at e
     | some r =>
      rw [hl] at e
      obtain ⟨h1,rfl,rfl⟩:=jr e
      simp only [Cls.wl.injEq] at h1
      subst h1
      rename_i hat
      simp only [stepV,hc]
      simp only [*]
      rw [pm,j6B (H':=r.1) (v:=r.2) hj hl]
      rfl
    ·simp at e
   ·simp at e
 | _ =>
  simp only [stepV] at e
  repeat' split at e
  all_goals simp at e
theorem j6q {c:C} {ss:List S} (hc:c.noOwn=true) (h:c.cells=some ss):ss.all S.noOwn=true:=by
 unfold C.cells at h
 split at h
 ·split at h
  ·simp only [j8] at h; subst h; simpa [C.noOwn] using hc
  ·simp at h
 ·split at h
  ·simp only [j8] at h; subst h; exact hc
  ·simp at h
 ·simp at h
theorem j1B:∀ {ts:List CT} {ss:List S} {H H':List HS} {d:List DC} (H3:List HS),ss.all S.noOwn=true → yZ H ts ss=some (d,H') → yZ H3 ts ss=some (d,H3)
 | [],[],H,H',d,H3,_,e=>by
  simp only [yZ,j8,ji] at e ⊢
  exact ⟨e.1,trivial⟩
 | t :: ts,s :: ss,H,H',d,H3,hs,e=>by
  rw [List.all_cons,jk] at hs
  rw [yZ] at e ⊢
  split at e
  ·rename_i h1
   rw [j2F hs.1 h1]
   dsimp only
   split at e
   ·rename_i h2
    rw [j1B H3 hs.2 h2]
    simp only [j8,ji] at e ⊢
    exact ⟨e.1,trivial⟩
   ·simp at e
  ·simp at e
 | [],_ :: _,_,_,_,_,_,e=>by simp [yZ] at e
 | _ :: _,[],_,_,_,_,_,e=>by simp [yZ] at e
theorem j7c {t:CT} {sc:S} {H H':List HS} {d:DC} {H3:List HS} (hs:sc.noOwn=true) (e:j1c ty H t sc=some (d,H')):j1c ty H3 t sc=some (d,H3):=by
  cases sc with
  | own id=>simp [S.noOwn] at hs
  | _ =>
    cases t <;> simp only [j1c] at e ⊢
    all_goals first
      | (simp at e; done)
      | (simp only [j8,ji] at e ⊢; exact ⟨e.1,trivial⟩)
      | (split at e
         · rename_i h2
           rw [if_pos h2]
           simp only [j8,ji] at e ⊢
           exact ⟨e.1,trivial⟩
         · simp at e)
theorem j1K:∀ {ts:List CT} {ss:List S} {H H':List HS} {d:List DC} (H3:List HS),ss.all S.noOwn=true → ze ty H ts ss=some (d,H') → ze ty H3 ts ss=some (d,H3)
 | [],[],H,H',d,H3,_,e=>by
  simp only [ze,j8,ji] at e ⊢
  exact ⟨e.1,trivial⟩
 | t :: ts,s :: ss,H,H',d,H3,hs,e=>by
  rw [List.all_cons,jk] at hs
  rw [ze] at e ⊢
  split at e
  ·rename_i h1
   rw [j7c hs.1 h1]
   dsimp only
   split at e
   ·rename_i h2
    rw [j1K H3 hs.2 h2]
    simp only [j8,ji] at e ⊢
    exact ⟨e.1,trivial⟩
   ·simp at e
  ·simp at e
 | [],_ :: _,_,_,_,_,_,e=>by simp [ze] at e
 | _ :: _,[],_,_,_,_,_,e=>by simp [ze] at e
theorem j4Y {d0':Bool} {ts:List CT} {ss:List S} {H H':List HS} {d:List DC} (H3:List HS) (hs:ss.all S.noOwn=true) (e:QE ty d0' H ts ss=some (d,H')):QE ty d0' H3 ts ss=some (d,H3):=by
 cases d0' with
 | false=>exact j1B H3 hs e
 | true=>exact j1K H3 hs e
theorem X9 {dd:Bool} {ts:List CT}:∀ {l:List (Nat × C)} {n:Nat} {H H':List HS} {d:List (List DC)} (H3:List HS),l.all (fun p=>p.2.noOwn)=true → yi ty dd H ts n l=some (d,H') → yi ty dd H3 ts n l=some (d,H3)
 | [],n,H,H',d,H3,_,e=>by
  simp only [yi,j8,ji] at e ⊢
  exact ⟨e.1,trivial⟩
 | (i,c) :: l,n,H,H',d,H3,hl,e=>by
  rw [List.all_cons,jk] at hl
  rw [yi] at e ⊢
  split at e
  ·rename_i hi
   try rw [if_pos hi]
   split at e
   ·rename_i ss hc
    try rw [hc]
    try dsimp only
    split at e
    ·rename_i h1
     rw [j4Y H3 (j6q hl.1 hc) h1]
     dsimp only
     split at e
     ·rename_i h2
      rw [X9 H3 hl.2 h2]
      simp only [j8,ji] at e ⊢
      exact ⟨e.1,trivial⟩
     ·simp at e
    ·simp at e
   ·simp at e
  ·simp at e
theorem j9o {base i:Nat} {o:Oper} {tm:List C} {H H':List HS} {v:C} (e:stepV ty fn cl (none:V3) base o tm H QT=some (.nb i,H',v)) :
  i=base ∧ jp H base = .free ∧ ∃ ob,H'=jB H base (.live ob) ∧ ∀ H3,jp H3 base = .free → stepV ty fn cl (none:V3) base o tm H3 QT=some (.nb i,jB H3 base (.live ob),v):=by
 obtain ⟨dst,op,type,pos,after,guard⟩:=o
 cases op with
 | buildSlice t n parts =>
  simp only [stepV] at e ⊢
  split at e
  ·rename_i e0 he0
   try rw [he0]
   try dsimp only
   split at e
   ·rename_i te hte
    try rw [hte]
    try dsimp only
    split at e
    ·rename_i l0 H1 hr
     split at e
     ·rename_i hg
      split at e
      ·rename_i hc
       obtain ⟨h1,rfl,rfl⟩:=jr e
       obtain ⟨hb,hno⟩:=jaf h1
       have hH:=X9 H hno hr
       rw [hr] at hH
       simp only [j8,ji,true_and] at hH
       subst hH
       refine ⟨hb,hg,_,rfl,fun H3 h3=>?_⟩
       rw [X9 H3 hno hr]
       dsimp only
       rw [h3]
       dsimp only
       rw [if_pos hc]
       show some (JX _ _,_,_)=_
       rw [h1]
      ·simp at e
     ·simp at e
    ·simp at e
   ·simp at e
  ·simp at e
 | alloc t =>
  simp only [stepV] at e ⊢
  split at e
  ·rename_i ti ht hb
   obtain ⟨h1,rfl,rfl⟩:=jr e
   simp only [Cls.nb.injEq] at h1
   subst h1
   exact ⟨rfl,hb,_,rfl,fun H3 h3=>by simp only [ht,h3]⟩
  ·simp at e
 | box t x =>
  simp only [stepV] at e ⊢
  split at e
  ·rename_i ti ss ht hx hb
   split at e
   ·rename_i hl
    obtain ⟨h1,rfl,rfl⟩:=jr e
    simp only [Cls.nb.injEq] at h1
    subst h1
    exact ⟨rfl,hb,_,rfl,fun H3 h3=>by simp only [ht,hx,h3,hl,if_true]⟩
   ·simp at e
  ·simp at e
 | load t x =>
  simp only [stepV] at e
  unfold V1 JS at e
  dsimp only at e
  repeat' split at e
  all_goals simp at e
 | convert s t x =>
  simp only [stepV] at e
  unfold K3 at e
  dsimp only at e
  repeat' split at e
  all_goals simp at e
 | slice t x lo hi mx =>
  cases mx with
  | none =>
   simp only [stepV,zo] at e
   repeat' split at e
   all_goals first
    | (simp at e; done)
    | (obtain ⟨l',h1,h2⟩:=pf e; obtain ⟨h3,_⟩:=jr h2; simp at h3)
  | some m=>simp [stepV] at e
 | indexAddr t x i =>
  simp only [stepV] at e
  unfold yH at e
  dsimp only at e
  repeat' split at e
  all_goals simp at e
 | binOp op t x y t' =>
  simp only [stepV] at e
  rw [yP] at e
  cases hl:Yn ty none op t (opd tm x) (opd tm y) some with
  | none=>rw [hl] at e; simp [via] at e
  | some r=>rw [hl] at e; simp [via] at e
 | store t a x =>
  simp only [stepV] at e
  split at e
  ·rw [qw] at e
   cases hl:yC ty none t ⟨tm,H⟩ (opd tm a) (opd tm x) some with
   | none=>rw [hl] at e; simp [via] at e
   | some r =>
    rw [hl] at e
    obtain ⟨h,_⟩:=jr e
    unfold XT at h
    split at h <;> simp at h
  ·simp at e
 | call c =>
  cases hc:c.callee with
  | value f =>
   simp only [stepV,hc] at e
   split at e
   ·rename_i f' caps hfn
    rw [qa] at e
    cases hl:qG ty fn cl none base ⟨tm,H⟩ f' caps (yE tm c.args.toList) fun H v=>some (H,v) with
    | none=>rw [hl] at e; simp [via] at e
    | some r =>
     rw [hl] at e
     obtain ⟨hcl,rfl,rfl⟩:=jr e
     exfalso
     unfold pQ at hcl
     repeat' split at hcl
     all_goals simp at hcl
   ·simp at e
  | invoke r m=>simp [stepV,hc] at e
  | builtin bn =>
   simp only [stepV,hc] at e
   have ln:∀ (x:C),(Jq (none:V3) ⟨tm,H⟩ x fun c v=>QT c H v)=some (.nb i,H',v) → False:=by
    intro x e
    unfold Jq at e
    dsimp only at e
    repeat' split at e
    all_goals simp at e
   split at e
   ·exfalso
    split at e
    ·split at e
     ·split at e
      ·exact ln _ e
      ·simp at e
     ·split at e
      ·simp at e
      ·exact ln _ e
     ·simp at e
    ·simp at e
   ·simp at e
   ·simp at e
   ·split at e
    ·rw [pm] at e
     cases hl:px ty none _ _ base ⟨tm,H⟩ _ _ fun H v=>some (H,v) with
     | none=>rw [hl] at e; simp [via] at e
     | some r =>
      rw [hl] at e
      simp [via] at e
    ·simp at e
   ·simp at e
 | _ =>
  simp only [stepV] at e
  repeat' split at e
  all_goals simp at e
end
section
variable {P:Program} {ty:Nat → Option TI} {fn:Nat → Option FI} {cl:Nat → Hint → List DC → Out} {A:An}
noncomputable def op1 (ty:Nat → Option TI) (fn:Nat → Option FI) (cl:Nat → Hint → List DC → Out) (all:Array Oper) (base:Nat) (o:Oper) (st:St):Option (Cls × St) :=
 opR ty fn cl none all base o st fun c st'=>some (c,st')
theorem j8g {ρ:Type} {fail:ρ} {base:Nat} {o:Oper} {st:St} {K:Cls → St → ρ} :
  Z8 ty fn cl fail base o st K=via fail (Z8 ty fn cl none base o st fun c st'=>some (c,st')) fun r=>K r.1 r.2:=by
 unfold Z8
 dsimp only
 have h2:=VH (ty:=ty) (fn:=fn) (cl:=cl) (fail:=(none:Option (Cls × St))) (base:=base) (o:=o) (tm:=st.tm) (H:=st.H) (K:=fun c H v=>some (c,{ tm:=ka st.tm o.dst v,H:=H }))
 rw [h2,QY,VH (fail:=fail)]
 rfl
theorem j7J {ρ:Type} {fail:ρ} {all:Array Oper} {base:Nat} {o:Oper} {st:St} {K:Cls → St → ρ} :
  opR ty fn cl fail all base o st K=via fail (op1 ty fn cl all base o st) fun r=>K r.1 r.2:=by
 unfold op1 opR
 simp only [YV,V2]
 repeat' split
 all_goals first | rfl | exact j8g
theorem j9p {tm:List C} {d:Nat} {c:C} (h:tm.getD d (.one .undef)=c) (hc:c ≠ .one .undef):tm.set d c=tm:=by
 apply List.ext_getElem?
 intro i
 rw [List.getElem?_set]
 split
 ·rename_i hi
  subst hi
  rw [List.getD_eq_getElem?_getD] at h
  cases hk:tm[d]? with
  | none=>rw [hk] at h; exact absurd h.symm hc
  | some x =>
   rw [hk] at h
   have hlt:d < tm.length:=by
    rcases jA d tm.length with h' | h'
    ·exact h'
    ·simp [List.getElem?_eq_none h'] at hk
   simp only [Option.getD_some] at h
   simp [hlt,h]
 ·rfl
def gd (all:Array Oper) (o:Oper) (tm:List C):Option Bool :=
 match o.guard with
 | none=>some true
 | some (j,want) =>
  match (all[j]?).bind (·.dst) with
  | none=>none
  | some d =>
   match tm.getD d (.one .undef) with
   | .one (.bool b)=>some (b == want)
   | .tup []=>some false
   | _=>none
theorem zD {all:Array Oper} {base:Nat} {o:Oper} {tm:List C} {H:List HS} :
  op1 ty fn cl all base o ⟨tm,H⟩=match gd all o tm with
   | none=>none
   | some true=>(stepV ty fn cl (none:V3) base o tm H QT).map fun r=>(r.1,⟨ka tm o.dst r.2.2,r.2.1⟩)
   | some false=>some (.t,⟨ka tm o.dst (.tup []),H⟩):=by
 have st:Z8 ty fn cl none base o ⟨tm,H⟩ (fun c st'=>some (c,st'))=(stepV ty fn cl (none:V3) base o tm H QT).map fun r=>(r.1,⟨ka tm o.dst r.2.2,r.2.1⟩):=by
  unfold Z8
  rw [VH]
  cases stepV ty fn cl (none:V3) base o tm H QT <;> rfl
 unfold op1 opR gd
 simp only [YV,V2]
 cases hg:o.guard with
 | none=>exact st
 | some jw =>
  obtain ⟨j,want⟩:=jw
  dsimp only
  cases hd:(all[j]?).bind (·.dst) with
  | none=>rfl
  | some d =>
   dsimp only
   cases hc:tm.getD d (.one .undef) with
   | one s =>
    cases s with
    | bool b =>
     have hs:=j9p hc (by simp)
     cases b <;> cases want <;> simp [hs,st]
    | _=>rfl
   | tup l=>cases l <;> rfl
   | _=>rfl
theorem j4s {g:Gh} {tm:List C} {H:List HS} {a:Act} {w:World} (h:Rel ty A g ⟨tm,H⟩ a w) {all:Array Oper} {o:Oper} {b:Bool} (e:gd all o tm=some b):Region.wanted o (yielded all a.tmps)=b:=by
 unfold gd at e
 unfold Region.wanted
 split at e
 ·rename_i hg
  rw [hg]
  simpa using e
 ·rename_i j want hg
  rw [hg]
  dsimp only
  split at e
  ·simp at e
  ·rename_i d hd
   unfold yielded
   rw [hd]
   simp only [Option.bind_some]
   have hr:=h.getD d
   rw [Array.getD_eq_getD_getElem?] at hr
   split at e
   ·rename_i x hx
    rw [hx] at hr
    have hv:(a.tmps[d]?).getD undef = .bool x:=hr
    cases ht:a.tmps[d]? with
    | none=>rw [ht] at hv; simp [undef] at hv
    | some v =>
     rw [ht] at hv
     simp only [Option.getD_some] at hv
     subst hv
     simp only [j8] at e
     simp only []
     rw [← e]
     cases x <;> cases want <;> rfl
   ·rename_i hx
    rw [hx] at hr
    obtain ⟨vs,h1,h2,_⟩:=hr
    have:vs=[]:=jm (by simpa using h2)
    subst this
    simp only [j8] at e
    subst e
    cases ht:a.tmps[d]? with
    | none=>simp
    | some v =>
     rw [ht] at h1
     simp only [Option.getD_some] at h1
     subst h1
     simp
   ·simp at e
theorem j78 (hty:y9 P ty) (hcall:J7 P ty fn cl A) {g:Gh} {tm:List C} {H:List HS} {a:Act} {w:World} {Q:Exit → Act → World → Prop} {all:Array Oper} {i base:Nat} {o:Oper} {c:Cls} {st':St} {K:Act → World → Prop}
  (ho:all[i]? = some o) (h:Rel ty A g ⟨tm,H⟩ a w) (e:op1 ty fn cl all base o ⟨tm,H⟩=some (c,st')) (hK:∀ g' a' w',Rel ty A g' st' a' w' → K a' w'):wpOp P all Q i K a w:=by
 rw [zD] at e
 unfold wpOp
 rw [ho]
 dsimp only
 split at e
 ·simp at e
 ·rename_i hg
  rw [j4s h hg,if_pos rfl]
  cases hs:stepV ty fn cl (none:V3) base o tm H QT with
  | none=>rw [hs] at e; simp at e
  | some r =>
   rw [hs] at e
   simp only [Option.map_some,j8,ji] at e
   obtain ⟨rfl,rfl⟩:=e
   refine .inl (Oper.wp_mono (fun a' w' hp=>?_) (jaD (Q:=Q) hty hcall h (c:=r.1) (H':=r.2.1) (v:=r.2.2) hs))
   obtain ⟨g',h1,_⟩:=hp
   exact hK g' a' w' h1
 ·rename_i hg
  rw [j4s h hg,if_neg (by simp)]
  simp only [j8,ji] at e
  obtain ⟨rfl,rfl⟩:=e
  exact hK g _ w (h.put o.dst (c:=.tup []) ⟨[],rfl,rfl,fun i a ss u hi=>by simp at hi⟩)
theorem j49 {tm:List C} {dst:Option Tmp} {v:C} {d:Nat} (h:∀ x,dst=some x → x ≠ d):(ka tm dst v).getD d (.one .undef)=tm.getD d (.one .undef):=by
 cases dst with
 | none=>rfl
 | some x =>
  simp only [ka,V2,List.getD_eq_getElem?_getD]
  rw [List.getElem?_set_ne (h x rfl)]
theorem j18 {tm:List C} {x y:Option Tmp} {u v:C} (h:∀ d,x=some d → y ≠ some d):ka (ka tm x u) y v=ka (ka tm y v) x u:=by
 cases x with
 | none=>rfl
 | some d =>
  cases y with
  | none=>rfl
  | some e =>
   have:d ≠ e:=fun hde=>h d rfl (by rw [hde])
   simp only [ka,V2]
   exact List.set_comm _ _ this
theorem j9Y {all:Array Oper} {o:Oper} {tm:List C} {dst:Option Tmp} {v:C} (h:∀ d,dst=some d → d ∉ o.looksAt all):gd all o (ka tm dst v)=gd all o tm:=by
 unfold gd
 cases hg:o.guard with
 | none=>rfl
 | some jw =>
  obtain ⟨j,want⟩:=jw
  dsimp only
  cases hd:(all[j]?).bind (·.dst) with
  | none=>rfl
  | some d =>
   dsimp only
   rw [j49 fun x hx hxd=>h x hx (by subst hxd; simp [Oper.looksAt,hg,hd])]
theorem j7I {all:Array Oper} {o:Oper} {tm:List C} {dst:Option Tmp} {v:C} (h:∀ d,dst=some d → d ∉ o.looksAt all):∀ x ∈ o.op.operands,opd (ka tm dst v) x=opd tm x:=by
 intro x hx
 cases x with
 | tmp t =>
  simp only [opd,YV]
  exact j49 fun d hd hdt=>h d hd (by
   subst hdt
   exact List.mem_append_left _ (List.mem_filterMap.2 ⟨.tmp d,by simpa using hx,rfl⟩))
 | _=>rfl
theorem j7K {all:Array Oper} {base:Nat} {o:Oper} {tm:List C} {H:List HS} {dst:Option Tmp} {u:C} (h:∀ d,dst=some d → d ∉ o.looksAt all) (h2:∀ d,dst=some d → o.dst ≠ some d) {c:Cls} {st':St} :
  op1 ty fn cl all base o ⟨tm,H⟩=some (c,st') → op1 ty fn cl all base o ⟨ka tm dst u,H⟩=some (c,⟨ka st'.tm dst u,st'.H⟩):=by
 intro e
 rw [zD] at e ⊢
 rw [j9Y h]
 split at e
 ·simp at e
 ·rename_i hg
  rw [j1C (j7I h)]
  cases hs:stepV ty fn cl (none:V3) base o tm H QT with
  | none=>rw [hs] at e; simp at e
  | some r =>
   rw [hs] at e
   simp only [Option.map_some,j8,ji] at e ⊢
   obtain ⟨rfl,rfl⟩:=e
   exact ⟨rfl,by rw [j18 h2]⟩
 ·rename_i hg
  simp only [j8,ji] at e ⊢
  obtain ⟨rfl,rfl⟩:=e
  exact ⟨rfl,by rw [j18 h2]⟩
theorem j8r {all:Array Oper} {base:Nat} {o:Oper} {tm:List C} {H:List HS} {dst:Option Tmp} {u:C} (h:∀ d,dst=some d → d ∉ o.looksAt all) (h2:∀ d,dst=some d → o.dst ≠ some d) {c:Cls} {st':St}
  (e:op1 ty fn cl all base o ⟨ka tm dst u,H⟩=some (c,st')):∃ st'',op1 ty fn cl all base o ⟨tm,H⟩=some (c,st'') ∧ st'=⟨ka st''.tm dst u,st''.H⟩:=by
 cases hk:op1 ty fn cl all base o ⟨tm,H⟩ with
 | none =>
  rw [zD] at e hk
  rw [j9Y h] at e
  split at hk
  ·rename_i hg; rw [hg] at e; simp at e
  ·rename_i hg
   rw [hg] at e
   dsimp only at e
   rw [j1C (j7I h)] at e
   simp only [Option.map_eq_none_iff] at hk
   rw [hk] at e
   simp at e
  ·simp at hk
 | some r =>
  obtain ⟨c',st''⟩:=r
  have:=j7K (u:=u) h h2 hk
  rw [this] at e
  simp only [j8,ji] at e
  obtain ⟨rfl,rfl⟩:=e
  exact ⟨st'',rfl,rfl⟩
theorem j7M {all:Array Oper} {base:Nat} {o:Oper} {tm:List C} {H:List HS} {c:Cls} {st':St} (e:op1 ty fn cl all base o ⟨tm,H⟩=some (c,st')) :
  (∃ v,st'.tm=ka tm o.dst v) ∧ (c = .t → st'.H=H ∧ ∀ H3,op1 ty fn cl all base o ⟨tm,H3⟩=some (.t,⟨st'.tm,H3⟩)) ∧ (c = .r → st'.H=H):=by
 rw [zD] at e
 split at e
 ·simp at e
 ·rename_i hg
  cases hs:stepV ty fn cl (none:V3) base o tm H QT with
  | none=>rw [hs] at e; simp at e
  | some r =>
   obtain ⟨c',H',v⟩:=r
   rw [hs] at e
   simp only [Option.map_some,j8,ji] at e
   obtain ⟨rfl,rfl⟩:=e
   obtain ⟨k1,k2⟩:=j8f H c' H' v hs
   refine ⟨⟨v,rfl⟩,fun hc=>⟨(k1 hc).1,fun H3=>?_⟩,k2⟩
   rw [zD,hg]
   dsimp only
   have:=(k1 hc).2 H3
   dsimp only at this
   rw [this]
   rfl
 ·rename_i hg
  simp only [j8,ji] at e
  obtain ⟨rfl,rfl⟩:=e
  refine ⟨⟨_,rfl⟩,fun _=>⟨rfl,fun H3=>?_⟩,fun h=>by simp at h⟩
  rw [zD,hg]
theorem jbb {all:Array Oper} {base b:Nat} {o:Oper} {tm:List C} {H:List HS} {hs:HS} {st':St} (hb:jp H b = .free) (e:op1 ty fn cl all base o ⟨tm,H⟩=some (.r,st')):op1 ty fn cl all base o ⟨tm,jB H b hs⟩=some (.r,⟨st'.tm,jB H b hs⟩):=by
 rw [zD] at e ⊢
 split at e
 ·simp at e
 ·rename_i hg
  cases hs:stepV ty fn cl (none:V3) base o tm H QT with
  | none=>rw [hs] at e; simp at e
  | some r =>
   obtain ⟨c',H',v⟩:=r
   rw [hs] at e
   simp only [Option.map_some,j8,ji] at e
   obtain ⟨rfl,rfl⟩:=e
   rw [jaE hb hs]
   rfl
 ·simp only [j8,ji] at e
  simp at e
theorem j7L {all:Array Oper} {base:Nat} {o:Oper} {tm:List C} {H:List HS} {st':St} (e:op1 ty fn cl all base o ⟨tm,H⟩=some (.n,st')) :
  jp H base = .free ∧ ∃ ob,st'.H=jB H base (.live ob) ∧ ∀ H3,jp H3 base = .free → op1 ty fn cl all base o ⟨tm,H3⟩=some (.n,⟨st'.tm,jB H3 base (.live ob)⟩):=by
 rw [zD] at e
 split at e
 ·simp at e
 ·rename_i hg
  cases hs:stepV ty fn cl (none:V3) base o tm H QT with
  | none=>rw [hs] at e; simp at e
  | some r =>
   obtain ⟨c',H',v⟩:=r
   rw [hs] at e
   simp only [Option.map_some,j8,ji] at e
   obtain ⟨rfl,rfl⟩:=e
   obtain ⟨h1,ob,h2,h3⟩:=jaF hs
   refine ⟨h1,ob,h2,fun H3 hf=>?_⟩
   rw [zD,hg]
   dsimp only
   rw [h3 H3 hf]
   rfl
 ·simp only [j8,ji] at e
  simp at e
theorem j1a {all:Array Oper} {base id:Nat} {o:Oper} {tm:List C} {H:List HS} {st':St} (e:op1 ty fn cl all base o ⟨tm,H⟩=some (.rv id,st')) :
  st'.H=H ∧ (∃ ob,jp H id = .live ob) ∧ ∀ H3,jp H3 id=jp H id → op1 ty fn cl all base o ⟨tm,H3⟩=some (.rv id,⟨st'.tm,H3⟩):=by
 rw [zD] at e
 split at e
 ·simp at e
 ·rename_i hg
  cases hs:stepV ty fn cl (none:V3) base o tm H QT with
  | none=>rw [hs] at e; simp at e
  | some r =>
   obtain ⟨c',H',v⟩:=r
   rw [hs] at e
   simp only [Option.map_some,j8,ji] at e
   obtain ⟨rfl,rfl⟩:=e
   obtain ⟨h1,h2,h3⟩:=j9n hs
   refine ⟨h1,h2,fun H3 hf=>?_⟩
   rw [zD,hg]
   dsimp only
   rw [h3 H3 hf]
   rfl
 ·simp only [j8,ji] at e
  simp at e
theorem j53 {all:Array Oper} {base id:Nat} {o:Oper} {tm:List C} {H:List HS} {st':St} (e:op1 ty fn cl all base o ⟨tm,H⟩=some (.st id,st')) :
  ∃ x,st'.H=jB H id x ∧ ∀ H3,jp H3 id=jp H id → op1 ty fn cl all base o ⟨tm,H3⟩=some (.st id,⟨st'.tm,jB H3 id x⟩):=by
 rw [zD] at e
 split at e
 ·simp at e
 ·rename_i hg
  cases hs:stepV ty fn cl (none:V3) base o tm H QT with
  | none=>rw [hs] at e; simp at e
  | some r =>
   obtain ⟨c',H',v⟩:=r
   rw [hs] at e
   simp only [Option.map_some,j8,ji] at e
   obtain ⟨rfl,rfl⟩:=e
   obtain ⟨x,h1,h3⟩:=j9m hs
   refine ⟨x,h1,fun H3 hf=>?_⟩
   rw [zD,hg]
   dsimp only
   rw [h3 H3 hf]
   rfl
 ·simp only [j8,ji] at e
  simp at e
theorem j77 {all:Array Oper} {base:Nat} {o:Oper} {tm:List C} {H:List HS} {st':St} {l:List Nat} (e:op1 ty fn cl all base o ⟨tm,H⟩=some (.wl l,st')):∀ j,j ∉ l → jp st'.H j=jp H j:=by
 rw [zD] at e
 split at e
 ·simp at e
 ·rename_i hg
  cases hs:stepV ty fn cl (none:V3) base o tm H QT with
  | none=>rw [hs] at e; simp at e
  | some r =>
   obtain ⟨c',H',v⟩:=r
   rw [hs] at e
   simp only [Option.map_some,j8,ji] at e
   obtain ⟨rfl,rfl⟩:=e
   exact j9l hs
 ·simp only [j8,ji] at e
  simp at e
theorem j2U {all:Array Oper} {base:Nat} {o:Oper} {tm:List C} {H:List HS} {st':St} {l:List Nat} {j:Nat} {x:HS} (hj:j ∉ l) (e:op1 ty fn cl all base o ⟨tm,H⟩=some (.wl l,st')):op1 ty fn cl all base o ⟨tm,jB H j x⟩=some (.wl l,⟨st'.tm,jB st'.H j x⟩):=by
 rw [zD] at e ⊢
 split at e
 ·simp at e
 ·rename_i hg
  cases hs:stepV ty fn cl (none:V3) base o tm H QT with
  | none=>rw [hs] at e; simp at e
  | some r =>
   obtain ⟨c',H',v⟩:=r
   rw [hs] at e
   simp only [Option.map_some,j8,ji] at e
   obtain ⟨rfl,rfl⟩:=e
   rw [j4N hj hs]
   rfl
 ·simp only [j8,ji] at e
  simp at e
theorem j1b {all:Array Oper} {base i:Nat} {o:Oper} {tm:List C} {H:List HS} {st':St} (e:op1 ty fn cl all base o ⟨tm,H⟩=some (.nb i,st')) :
  i=base ∧ jp H base = .free ∧ ∃ ob,st'.H=jB H base (.live ob) ∧ ∀ H3,jp H3 base = .free → op1 ty fn cl all base o ⟨tm,H3⟩=some (.nb i,⟨st'.tm,jB H3 base (.live ob)⟩):=by
 rw [zD] at e
 split at e
 ·simp at e
 ·rename_i hg
  cases hs:stepV ty fn cl (none:V3) base o tm H QT with
  | none=>rw [hs] at e; simp at e
  | some r =>
   obtain ⟨c',H',v⟩:=r
   rw [hs] at e
   simp only [Option.map_some,j8,ji] at e
   obtain ⟨rfl,rfl⟩:=e
   obtain ⟨h0,h1,ob,h2,h3⟩:=j9o hs
   refine ⟨h0,h1,ob,h2,fun H3 hf=>?_⟩
   rw [zD,hg]
   dsimp only
   rw [h3 H3 hf]
   rfl
 ·simp only [j8,ji] at e
  simp at e
theorem j3Z {H:List HS} {b:Nat} {x:HS} (h:jp H b=x):jB H b x=H:=by
 subst h
 simp only [jB,jp]
 apply List.ext_getElem?
 intro i
 rw [List.getElem?_set]
 split
 ·rename_i hi
  subst hi
  split
  ·rename_i hl
   rw [List.getD_eq_getElem?_getD,List.getElem?_eq_getElem hl]
   rfl
  ·rename_i hl
   rw [List.getElem?_eq_none (by omega)]
 ·rfl
theorem j3Y {H:List HS} {b:Nat} {x y:HS}:jB (jB H b x) b y=jB H b y:=by
 simp only [jB,List.set_set]
theorem Kw {j:Nat} {l:List Nat} (h:(!(l.any (Nat.beq j)))=true):j ∉ l:=by
 intro hm
 rw [Bool.not_eq_true',List.any_eq_false] at h
 exact h j hm (Nat.beq_refl j)
theorem j9G {all:Array Oper} {b1 b2:Nat} {x y:Oper} {st st1 st2:St} {c1 c2:Cls} (e1:op1 ty fn cl all b1 x st=some (c1,st1)) (e2:op1 ty fn cl all b2 y st1=some (c2,st2)) (hf:Cls.free c1 c2=true)
  (ha:Oper.apart all x y=true):∃ st3,op1 ty fn cl all b2 y st=some (c2,st3) ∧ op1 ty fn cl all b1 x st3=some (c1,st2):=by
 obtain ⟨a1,a2,a3⟩:=Oper.apart_spec ha
 have a2':∀ d,y.dst=some d → x.dst ≠ some d:=fun d h1 h2=>a2 d h2 h1
 obtain ⟨tm,H⟩:=st
 obtain ⟨tm1,H1⟩:=st1
 obtain ⟨⟨v,hv⟩,t1,r1⟩:=j7M e1
 simp only at hv t1 r1
 subst hv
 obtain ⟨⟨tm3,H3⟩,k1,k2⟩:=j8r a1 a2 e2
 subst k2
 obtain ⟨⟨u,hu⟩,t2,r2⟩:=j7M k1
 simp only at hu t2 r2 ⊢
 subst hu
 have fin:∀ HH,op1 ty fn cl all b2 y ⟨tm,H⟩=some (c2,⟨ka tm y.dst u,HH⟩) → op1 ty fn cl all b1 x ⟨tm,HH⟩=some (c1,⟨ka tm x.dst v,H3⟩) →
   ∃ st3,op1 ty fn cl all b2 y ⟨tm,H⟩=some (c2,st3) ∧ op1 ty fn cl all b1 x st3=some (c1,⟨ka (ka tm y.dst u) x.dst v,H3⟩):=by
  intro HH h1 h2
  refine ⟨_,h1,?_⟩
  have:=j7K (u:=u) a3 a2' h2
  rw [this,j18 a2']
 cases c1 with
 | t =>
  obtain ⟨rfl,t1'⟩:=t1 rfl
  exact fin H3 k1 (t1' H3)
 | r =>
  obtain rfl:=r1 rfl
  cases c2 with
  | t =>
   obtain ⟨rfl,t2⟩:=t2 rfl
   exact fin _ k1 e1
  | r =>
   obtain rfl:=r2 rfl
   exact fin _ k1 e1
  | rv j =>
   obtain ⟨rfl,_⟩:=j1a k1
   exact fin _ k1 e1
  | n =>
   obtain ⟨n1,ob,n2,n3⟩:=j7L k1
   dsimp only at n2
   subst n2
   exact fin _ k1 (jbb (hs:=.live ob) n1 e1)
  | w=>simp [Cls.free] at hf
  | wl l=>simp [Cls.free] at hf
  | nb l =>
   obtain ⟨n0,n1,ob,n2,n3⟩:=j1b k1
   dsimp only at n2
   subst n2
   exact fin _ k1 (jbb (hs:=.live ob) n1 e1)
  | st j=>simp [Cls.free] at hf
 | w =>
  cases c2 with
  | t =>
   obtain ⟨rfl,t2'⟩:=t2 rfl
   exact fin H (t2' H) e1
  | _=>simp [Cls.free] at hf
 | n =>
  obtain ⟨m1,ob1,m2,m3⟩:=j7L e1
  dsimp only at m2
  subst m2
  cases c2 with
  | t =>
   obtain ⟨rfl,t2'⟩:=t2 rfl
   exact fin H (t2' H) e1
  | n =>
   obtain ⟨n1,ob2,n2,n3⟩:=j7L k1
   dsimp only at n2
   subst n2
   have hne:b1 ≠ b2:=by
    intro h
    subst h
    rw [Zf m1] at n1
    simp at n1
   have f2:jp H b2 = .free:=by rw [jo _ hne] at n1; exact n1
   have f1:jp (jB H b2 (.live ob2)) b1 = .free:=by rw [jo _ (fun h=>hne h.symm)]; exact m1
   have:=m3 _ f1
   refine fin (jB H b2 (.live ob2)) (n3 H f2) ?_
   rw [this]
   simp only [jB]
   rw [List.set_comm _ _ hne]
  | _=>simp [Cls.free] at hf
 | rv i =>
  obtain ⟨h1,⟨ob,hob⟩,h3⟩:=j1a e1
  dsimp only at h1
  subst h1
  cases c2 with
  | t =>
   obtain ⟨rfl,_⟩:=t2 rfl
   exact fin _ k1 e1
  | r =>
   obtain rfl:=r2 rfl
   exact fin _ k1 e1
  | rv j =>
   obtain ⟨rfl,_⟩:=j1a k1
   exact fin _ k1 e1
  | n =>
   obtain ⟨n1,ob2,n2,n3⟩:=j7L k1
   dsimp only at n2
   subst n2
   have hne:b2 ≠ i:=by
    intro h
    subst h
    rw [hob] at n1
    simp at n1
   exact fin _ k1 (h3 _ (jo _ hne))
  | st j =>
   obtain ⟨z,z1,z2⟩:=j53 k1
   dsimp only at z1
   subst z1
   have hne:j ≠ i:=by
    intro h
    subst h
    simp [Cls.free] at hf
   exact fin _ k1 (h3 _ (jo _ hne))
  | w=>simp [Cls.free] at hf
  | wl l=>exact fin _ k1 (h3 _ (j77 k1 i (Kw hf)))
  | nb j =>
   obtain ⟨rfl,n1,ob2,n2,n3⟩:=j1b k1
   dsimp only at n2
   subst n2
   have hne:j ≠ i:=by
    intro h
    subst h
    simp [Cls.free] at hf
   exact fin _ k1 (h3 _ (jo _ hne))
 | wl l =>
  have w1:=j77 e1
  dsimp only at w1
  cases c2 with
  | t =>
   obtain ⟨rfl,t2'⟩:=t2 rfl
   exact fin H (t2' H) e1
  | rv j =>
   obtain ⟨h1,_,h3⟩:=j1a k1
   dsimp only at h1
   subst h1
   exact fin H (h3 H (w1 j (Kw hf)).symm) e1
  | nb j =>
   obtain ⟨rfl,n1,ob2,n2,n3⟩:=j1b k1
   dsimp only at n2
   subst n2
   have hm:=Kw hf
   exact fin (jB H j (.live ob2)) (n3 H ((w1 j hm).symm.trans n1)) (j2U hm e1)
  | _=>simp [Cls.free] at hf
 | nb i =>
  obtain ⟨rfl,m1,ob1,m2,m3⟩:=j1b e1
  dsimp only at m2
  subst m2
  cases c2 with
  | t =>
   obtain ⟨rfl,t2'⟩:=t2 rfl
   exact fin H (t2' H) e1
  | rv j =>
   obtain ⟨h1,_,h3⟩:=j1a k1
   dsimp only at h1
   subst h1
   have hne:i ≠ j:=by
    intro h
    subst h
    simp [Cls.free] at hf
   exact fin H (h3 H (jo _ hne).symm) e1
  | nb j =>
   obtain ⟨rfl,n1,ob2,n2,n3⟩:=j1b k1
   dsimp only at n2
   subst n2
   have hne:i ≠ j:=by
    intro h
    subst h
    simp [Cls.free] at hf
   have f2:jp H j = .free:=by rw [jo _ hne] at n1; exact n1
   have f1:jp (jB H j (.live ob2)) i = .free:=by rw [jo _ (fun h=>hne h.symm)]; exact m1
   have:=m3 _ f1
   refine fin (jB H j (.live ob2)) (n3 H f2) ?_
   rw [this,kA hne]
  | wl l =>
   have hm:=Kw hf
   have hk:=j2U (x:=jp H i) hm k1
   have hw:=j77 k1 i hm
   dsimp only at hk hw
   rw [j3Y,j3Z rfl] at hk
   refine fin _ hk ?_
   have h3:jp H3 i = .live ob1:=hw.trans (Zf m1)
   have hlt:i < H3.length:=by
    rcases jA i H3.length with h | h
    ·exact h
    ·simp only [jp,List.getD_eq_getElem?_getD] at h3
     rw [List.getElem?_eq_none h] at h3
     simp at h3
   have f1:jp (jB H3 i (jp H i)) i = .free:=(jt _ hlt).trans m1
   rw [m3 _ f1,j3Y,j3Z h3]
  | st j =>
   obtain ⟨z,z1,z2⟩:=j53 k1
   dsimp only at z1
   subst z1
   have hne:i ≠ j:=by
    intro h
    subst h
    simp [Cls.free] at hf
   refine fin (jB H j z) (z2 H (jo _ hne).symm) ?_
   rw [m3 _ ((jo _ (fun h=>hne h.symm)).trans m1),kA (fun h=>hne h.symm)]
  | _=>simp [Cls.free] at hf
 | st i =>
  obtain ⟨z,z1,z2⟩:=j53 e1
  dsimp only at z1
  subst z1
  cases c2 with
  | t =>
   obtain ⟨rfl,t2'⟩:=t2 rfl
   exact fin H (t2' H) e1
  | rv j =>
   obtain ⟨h1,_,h3⟩:=j1a k1
   dsimp only at h1
   subst h1
   have hne:i ≠ j:=by
    intro h
    subst h
    simp [Cls.free] at hf
   exact fin H (h3 H (jo _ hne).symm) e1
  | st j =>
   obtain ⟨y0,y1,y2⟩:=j53 k1
   dsimp only at y1
   subst y1
   have hne:i ≠ j:=by
    intro h
    subst h
    simp [Cls.free] at hf
   refine fin (jB H j y0) (y2 H (jo _ hne).symm) ?_
   rw [z2 _ (jo _ (fun h=>hne h.symm))]
   simp only [jB]
   rw [List.set_comm _ _ hne]
  | nb j =>
   obtain ⟨rfl,n1,ob2,n2,n3⟩:=j1b k1
   dsimp only at n2
   subst n2
   have hne:i ≠ j:=by
    intro h
    subst h
    simp [Cls.free] at hf
   refine fin (jB H j (.live ob2)) (n3 H ((jo _ hne).symm.trans n1)) ?_
   rw [z2 _ (jo _ (fun h=>hne h.symm)),kA (fun h=>hne h.symm)]
  | _=>simp [Cls.free] at hf
end
section
variable {P:Program} {ty:Nat → Option TI} {fn:Nat → Option FI} {cl:Nat → Hint → List DC → Out} {A:An}
noncomputable def Jl (ty:Nat → Option TI) (fn:Nat → Option FI) (cl:Nat → Hint → List DC → Out) (ops:Array Oper) (ids:List Nat):List Nat → St → Option (List Cls × St)
 | [],st=>some ([],st)
 | i :: L,st =>
  match ops[i]? with
  | none=>none
  | some o =>
   match op1 ty fn cl ops (ids.getD i 0) o st with
   | none=>none
   | some (c,st1) =>
    match Jl ty fn cl ops ids L st1 with
    | none=>none
    | some (cs,st2)=>some (c :: cs,st2)
theorem j14 {ρ:Type} {fail:ρ} {all:Array Oper} {o:Oper} {base:Nat} {rest:List (Oper × Nat)} {acc:List Cls} {st:St} {K:List Cls → St → ρ} :
  runR ty fn cl fail all ((o,base) :: rest) acc st K=opR ty fn cl fail all base o st fun c st'=>runR ty fn cl fail all rest (c :: acc) st' K:=by
 rw [runR]
 simp only [j9Z]
theorem j2O {ρ:Type} {fail:ρ} {ops:Array Oper} {ids:List Nat} {K:List Cls → St → ρ}:∀ (m n:Nat) (acc:List Cls) (st:St),n + m=ops.size →
  runR ty fn cl fail ops (KB (ops.toList.drop n) (ids.drop n)) acc st K=via fail (Jl ty fn cl ops ids (List.range' n m) st) fun r=>K (acc.reverse ++ r.1) r.2
 | 0,n,acc,st,h=>by
  have:ops.toList.drop n=[]:=List.drop_of_length_le (by simp; omega)
  simp [this,KB,runR,Jl,via]
 | m + 1,n,acc,st,h=>by
  have hn:n < ops.size:=by omega
  have hd:ops.toList.drop n=ops[n] :: ops.toList.drop (n + 1):=by
   rw [List.drop_eq_getElem_cons (by simpa using hn)]
   simp
  have hh:(ids.drop n).headD 0=ids.getD n 0:=by
   rw [List.headD_eq_head?_getD,List.head?_drop,List.getD_eq_getElem?_getD]
  have hdd:(ids.drop n).drop 1=ids.drop (n + 1):=by rw [List.drop_drop]
  rw [hd,KB,j14,j7J,List.range'_succ,Jl,Array.getElem?_eq_getElem hn,hh,hdd]
  dsimp only
  cases h1:op1 ty fn cl ops (ids.getD n 0) ops[n] st with
  | none=>rfl
  | some r =>
   obtain ⟨c,st1⟩:=r
   simp only [via]
   rw [j2O m (n + 1) (c :: acc) st1 (by omega)]
   cases h2:Jl ty fn cl ops ids (List.range' (n + 1) m) st1 with
   | none=>rfl
   | some r=>simp [via]
theorem j42 {ρ:Type} {fail:ρ} {ops:Array Oper} {ids:List Nat} {K:List Cls → St → ρ}:∀ (m n:Nat) (acc:List Cls) (st:St),n + m ≤ ops.size →
  runR ty fn cl fail ops ((KB (ops.toList.drop n) (ids.drop n)).take m) acc st K=via fail (Jl ty fn cl ops ids (List.range' n m) st) fun r=>K (acc.reverse ++ r.1) r.2
 | 0,n,acc,st,h=>by
  simp [runR,Jl,via]
 | m + 1,n,acc,st,h=>by
  have hn:n < ops.size:=by omega
  have hd:ops.toList.drop n=ops[n] :: ops.toList.drop (n + 1):=by
   rw [List.drop_eq_getElem_cons (by simpa using hn)]
   simp
  have hh:(ids.drop n).headD 0=ids.getD n 0:=by
   rw [List.headD_eq_head?_getD,List.head?_drop,List.getD_eq_getElem?_getD]
  have hdd:(ids.drop n).drop 1=ids.drop (n + 1):=by rw [List.drop_drop]
  rw [hd,KB,List.take_succ_cons,j14,j7J,List.range'_succ,Jl,Array.getElem?_eq_getElem hn,hh,hdd]
  dsimp only
  cases h1:op1 ty fn cl ops (ids.getD n 0) ops[n] st with
  | none=>rfl
  | some r =>
   obtain ⟨c,st1⟩:=r
   simp only [via]
   rw [j42 m (n + 1) (c :: acc) st1 (by omega)]
   cases h2:Jl ty fn cl ops ids (List.range' (n + 1) m) st1 with
   | none=>rfl
   | some r=>simp [via]
theorem QX:∀ (l:List Oper) (ids:List Nat),(KB l ids).length=l.length
 | [],_=>rfl
 | o :: l,ids=>by simp [KB,QX l]
theorem j3Q:∀ (k:Nat) (l:List Oper) (ids:List Nat),(KB l ids).drop k=KB (l.drop k) (ids.drop k)
 | 0,_,_=>rfl
 | k + 1,[],ids=>by simp [KB]
 | k + 1,o :: l,ids=>by
  rw [KB,List.drop_succ_cons,j3Q k,List.drop_succ_cons,List.drop_drop,Nat.add_comm 1 k]
theorem j43 {ρ:Type} {fail:ρ} {ops:Array Oper} {ids:List Nat} {K:List Cls → St → ρ} {st:St} {x:ρ} (e:runR ty fn cl fail ops (KB ops.toList ids) [] st K=x) :
  x=fail ∨ ∃ cs st',Jl ty fn cl ops ids (List.range ops.size) st=some (cs,st') ∧ K cs st'=x:=by
 have:=j2O (ty:=ty) (fn:=fn) (cl:=cl) (fail:=fail) (ops:=ops) (ids:=ids) (K:=K) ops.size 0 [] st (by simp)
 rw [List.drop_zero,List.drop_zero] at this
 rw [this,← List.range_eq_range'] at e
 cases h:Jl ty fn cl ops ids (List.range ops.size) st with
 | none=>rw [h] at e; exact .inl e.symm
 | some r =>
  rw [h] at e
  exact .inr ⟨r.1,r.2,rfl,by simpa [via] using e⟩
theorem j4V (hty:y9 P ty) (hcall:J7 P ty fn cl A) {ops:Array Oper} {ids:List Nat} {Q:Exit → Act → World → Prop}:∀ {L:List Nat} {st st':St} {cs:List Cls} {g:Gh} {a:Act} {w:World},
  Jl ty fn cl ops ids L st=some (cs,st') → Rel ty A g st a w → (∀ g' a' w',Rel ty A g' st' a' w' → Q .normal a' w') → wpOps P ops Q L a w
 | [],st,st',cs,g,a,w,e,h,hQ=>by
  simp only [Jl,j8,ji] at e
  obtain ⟨_,rfl⟩:=e
  exact hQ g a w h
 | i :: L,st,st',cs,g,a,w,e,h,hQ=>by
  rw [wpOps_cons]
  rw [Jl] at e
  split at e
  ·simp at e
  ·rename_i o ho
   split at e
   ·simp at e
   ·rename_i c st1 h1
    split at e
    ·simp at e
    ·rename_i cs2 st2 h2
     simp only [j8,ji] at e
     obtain ⟨_,rfl⟩:=e
     obtain ⟨tm,H⟩:=st
     exact j78 hty hcall ho h h1 fun g' a' w' hr=>j4V hty hcall h2 hr hQ
theorem j04 (hty:y9 P ty) (hcall:J7 P ty fn cl A) {ops:Array Oper} {ids:List Nat} {Q:Exit → Act → World → Prop} {R:List Nat}:∀ {L:List Nat} {st st':St} {cs:List Cls} {g:Gh} {a:Act} {w:World},
  Jl ty fn cl ops ids L st=some (cs,st') → Rel ty A g st a w → (∀ g' a' w',Rel ty A g' st' a' w' → wpOps P ops Q R a' w') → wpOps P ops Q (L ++ R) a w
 | [],st,st',cs,g,a,w,e,h,hQ=>by
  simp only [Jl,j8,ji] at e
  obtain ⟨_,rfl⟩:=e
  exact hQ g a w h
 | i :: L,st,st',cs,g,a,w,e,h,hQ=>by
  rw [jh,wpOps_cons]
  rw [Jl] at e
  split at e
  ·simp at e
  ·rename_i o ho
   split at e
   ·simp at e
   ·rename_i c st1 h1
    split at e
    ·simp at e
    ·rename_i cs2 st2 h2
     simp only [j8,ji] at e
     obtain ⟨_,rfl⟩:=e
     obtain ⟨tm,H⟩:=st
     exact j78 hty hcall ho h h1 fun g' a' w' hr=>j04 hty hcall h2 hr hQ
theorem j41 {ops:Array Oper} {ids:List Nat} {i:Nat} {o:Oper} (ho:ops[i]? = some o) {cls:Nat → Cls}:∀ {R1 R2:List Nat} {st st':St},Jl ty fn cl ops ids (R1 ++ i :: R2) st=some ((R1 ++ i :: R2).map cls,st') →
  (∀ k ∈ R1,Cls.free (cls k) (cls i)=true ∧ ∀ x,ops[k]? = some x → Oper.apart ops x o=true) →
  ∃ st1,op1 ty fn cl ops (ids.getD i 0) o st=some (cls i,st1) ∧ Jl ty fn cl ops ids (R1 ++ R2) st1=some ((R1 ++ R2).map cls,st')
 | [],R2,st,st',e,_=>by
  rw [jg,Jl,ho] at e
  dsimp only at e
  split at e
  ·simp at e
  ·rename_i c st1 h1
   split at e
   ·simp at e
   ·rename_i cs st2 h2
    simp only [js,j8,ji,List.cons.injEq] at e
    obtain ⟨⟨rfl,rfl⟩,rfl⟩:=e
    exact ⟨st1,h1,h2⟩
 | k :: R1,R2,st,st',e,hk=>by
  rw [jh,Jl] at e
  split at e
  ·simp at e
  ·rename_i x hx
   split at e
   ·simp at e
   ·rename_i c st1 h1
    split at e
    ·simp at e
    ·rename_i cs st2 h2
     simp only [js,j8,ji,List.cons.injEq] at e
     obtain ⟨⟨rfl,rfl⟩,rfl⟩:=e
     obtain ⟨st3,k1,k2⟩:=j41 ho h2 fun j hj=>hk j (by simp [hj])
     obtain ⟨q1,q2⟩:=hk k (by simp)
     obtain ⟨st4,p1,p2⟩:=j9G h1 k1 q1 (q2 x hx)
     refine ⟨st4,p1,?_⟩
     rw [jh,Jl,hx]
     dsimp only
     rw [p2]
     dsimp only
     rw [k2]
     rfl
def j7s (ops:Array Oper) (L:Nat → Prop):Prop:=∀ (j:Nat) (o:Oper),ops[j]? = some o → L j → ∀ e ∈ o.after,Region.binds .any e=true → L e.on
theorem j3q (L:Nat → Prop) (acc:Array Nat) (hacc:∀ n,L n → ∀ k,(acc.getD n 0).testBit k=true → L k):∀ (l:List Edge) (s:Nat),(∀ e ∈ l,Region.binds .any e=true → L e.on) → (∀ k,s.testBit k=true → L k) →
  ∀ k,(l.foldl (fun s e=>if Region.binds .any e then s ||| 2 ^ e.on ||| acc.getD e.on 0 else s) s).testBit k=true → L k
 | [],s,_,hs=>hs
 | e :: l,s,he,hs=>by
  rw [List.foldl_cons]
  refine j3q L acc hacc l _ (fun e' h=>he e' (by simp [h])) fun k hk=>?_
  split at hk
  ·rename_i hb
   rw [Nat.testBit_or,Nat.testBit_or,Bool.or_eq_true,Bool.or_eq_true] at hk
   have hL:=he e (by simp) hb
   rcases hk with (hk | hk) | hk
   ·exact hs k hk
   ·rw [Nat.testBit_two_pow] at hk
    simp only [decide_eq_true_eq] at hk
    rw [← hk]
    exact hL
   ·exact hacc e.on hL k hk
  ·exact hs k hk
theorem j4y {ops:Array Oper} {L:Nat → Prop} (hc:j7s ops L):∀ (l2 l1:List Oper) (acc:Array Nat),ops.toList=l1 ++ l2 → acc.size=l1.length →
  (∀ (j:Nat) (o:Oper),l1[j]? = some o → (∀ e ∈ o.after,Region.binds .any e=true → L e.on) → ∀ k,(acc.getD j 0).testBit k=true → L k) →
  ∀ (j:Nat) (o:Oper),ops[j]? = some o → (∀ e ∈ o.after,Region.binds .any e=true → L e.on) →
   ∀ k,((l2.foldl (fun acc o=>acc.push (o.after.foldl (fun s e=>if Region.binds .any e then s ||| 2 ^ e.on ||| acc.getD e.on 0 else s) 0)) acc).getD j 0).testBit k=true → L k
 | [],l1,acc,hl,hs,hinv=>by
  intro j o ho he k hk
  rw [jv] at hl
  exact hinv j o (by rw [← hl]; simpa using ho) he k hk
 | x :: l2,l1,acc,hl,hs,hinv=>by
  rw [List.foldl_cons]
  refine j4y hc l2 (l1 ++ [x]) _ (by simp [hl]) (by simp [hs]) fun j o ho he k hk=>?_
  have hacc:∀ n,L n → ∀ k,(acc.getD n 0).testBit k=true → L k:=by
   intro n hn k hk
   by_cases hlt:n < l1.length
   ·have h1:ops[n]? = some l1[n]:=by
     have h0:ops.toList[n]? = some l1[n]:=by rw [hl,List.getElem?_append_left hlt,List.getElem?_eq_getElem hlt]
     simpa using h0
    exact hinv n _ (List.getElem?_eq_getElem hlt) (hc n _ h1 hn) k hk
   ·rw [Array.getD_eq_getD_getElem?,Array.getElem?_eq_none (by omega)] at hk
    simp at hk
  by_cases hj:j < l1.length
  ·rw [List.getElem?_append_left hj] at ho
   refine hinv j o ho he k ?_
   rw [Array.getD_eq_getD_getElem?,Array.getElem?_push,if_neg (by omega)] at hk
   rw [Array.getD_eq_getD_getElem?]
   exact hk
  ·rw [List.getElem?_append_right (by omega)] at ho
   have hj':j=acc.size:=by
    rcases jA 0 (j - l1.length) with h' | h'
    ·rw [List.getElem?_eq_none (by simp; omega)] at ho; simp at ho
    ·omega
   have hx:x=o:=by
    rw [hj',hs,Nat.sub_self] at ho
    simpa using ho
   subst hx
   rw [Array.getD_eq_getD_getElem?,Array.getElem?_push,if_pos hj',Option.getD_some,← Array.foldl_toList] at hk
   exact j3q L acc hacc x.after.toList 0 (fun e hm=>he e (by simpa using hm)) (fun k hk=>by simp at hk) k hk
theorem j8P {ops:Array Oper} {L:Nat → Prop} (hc:j7s ops L) {j:Nat} {o:Oper} (ho:ops[j]? = some o) (he:∀ e ∈ o.after,Region.binds .any e=true → L e.on) {k:Nat} (hk:((Region.before ops).getD j 0).testBit k=true):L k:=by
 unfold Region.before at hk
 rw [← Array.foldl_toList] at hk
 exact j4y hc ops.toList [] #[] (by simp) rfl (fun j o h=>by simp at h) j o ho he k hk
theorem jaH (hty:y9 P ty) (hcall:J7 P ty fn cl A) {ops:Array Oper} {ids:List Nat} {Q:Exit → Act → World → Prop} {cls:Nat → Cls}
  (hb:∀ j x,ops[j]? = some x → ∀ e ∈ x.after,Region.binds .any e=true → e.on < j)
  (hd:∀ i j x y,i < j → ops[i]? = some x → ops[j]? = some y → ((Region.before ops).getD j 0).testBit i=true ∨ (Cls.free (cls i) (cls j)=true ∧ Oper.apart ops x y=true)) :
  ∀ (fuel:Nat) (listed:Array Bool) (R:List Nat) {st st':St} {g:Gh} {a:Act} {w:World},listed.size=ops.size → R=(List.range ops.size).filter (fun i=>!listed.getD i true) → R.length ≤ fuel →
  j7s ops (fun i=>listed.getD i false=true) → Jl ty fn cl ops ids R st=some (R.map cls,st') → Rel ty A g st a w → (∀ g' a' w',Rel ty A g' st' a' w' → Q .normal a' w') → wpAny P .any ops Q fuel listed a w:=by
 have ready_mem:∀ (listed:Array Bool) i,i ∈ Region.ready .any ops listed → i < ops.size ∧ listed.getD i true=false ∧ ∃ o,ops[i]? = some o ∧ ∀ e ∈ o.after,Region.binds .any e=true → listed.getD e.on false=true:=by
  intro listed i hi
  simp only [Region.ready,List.mem_filter,List.mem_range,jk,Bool.not_eq_true'] at hi
  obtain ⟨h1,h2,h3⟩:=hi
  refine ⟨h1,h2,ops[i],Array.getElem?_eq_getElem h1,fun e he hb=>?_⟩
  rw [Array.getElem?_eq_getElem h1] at h3
  simp only [Option.map_some,Option.getD_some] at h3
  have:=Array.all_eq_true_iff_forall_mem.1 h3 e he
  simpa [hb] using this
 have setg:∀ (listed:Array Bool) (i k:Nat) (d:Bool),listed.size=ops.size → i < ops.size → (listed.setIfInBounds i true).getD k d=if i=k then true else listed.getD k d:=by
  intro listed i k d hs hi
  rw [Array.getD_eq_getD_getElem?,Array.getElem?_setIfInBounds,Array.getD_eq_getD_getElem?]
  split
  ·rw [if_pos (by omega)]; rfl
  ·rfl
 intro fuel
 induction fuel with
 | zero =>
  intro listed R st st' g a w hs hR hlen hc e h hQ
  have hR0:R=[]:=jm (by omega)
  rw [hR0] at e
  simp only [Jl,List.map_nil,j8,ji] at e
  obtain ⟨_,rfl⟩:=e
  refine ⟨?_,hQ g a w h⟩
  cases hr:Region.ready .any ops listed with
  | nil=>rfl
  | cons i l =>
   obtain ⟨h1,h2,_⟩:=ready_mem listed i (by rw [hr]; simp)
   have:i ∈ R:=by
    rw [hR,List.mem_filter,List.mem_range]
    exact ⟨h1,by rw [h2]; rfl⟩
   rw [hR0] at this
   simp at this
 | succ fuel ih =>
  intro listed R st st' g a w hs hR hlen hc e h hQ
  refine ⟨fun hr=>?_,fun i hi=>?_⟩
  ·have hR0:R=[]:=by
    cases hRc:R with
    | nil=>rfl
    | cons i l =>
     exfalso
     have hmem:i ∈ R:=by rw [hRc]; simp
     rw [hR,List.mem_filter,List.mem_range] at hmem
     have hlt:=hmem.1
     have hmin:∀ k,k < i → listed.getD k true=true:=by
      intro k hk
      cases hg:listed.getD k true with
      | true=>rfl
      | false =>
       exfalso
       have hkR:k ∈ R:=by rw [hR,List.mem_filter,List.mem_range]; exact ⟨by omega,by rw [hg]; rfl⟩
       have hsort:R.Pairwise (· < ·):=by rw [hR]; exact List.Pairwise.filter _ List.pairwise_lt_range
       rw [hRc] at hkR hsort
       rcases List.mem_cons.1 hkR with rfl | hkl
       ·omega
       ·have:=(List.pairwise_cons.1 hsort).1 k hkl
        omega
     have:i ∈ Region.ready .any ops listed:=by
      simp only [Region.ready,List.mem_filter,List.mem_range,jk,Bool.not_eq_true']
      refine ⟨hlt,by have:=hmem.2; rw [Bool.not_eq_true'] at this; exact this,?_⟩
      rw [Array.getElem?_eq_getElem hlt]
      simp only [Option.map_some,Option.getD_some]
      rw [Array.all_eq_true_iff_forall_mem]
      intro ed hed
      cases hbd:Region.binds .any ed with
      | false=>rfl
      | true =>
       have hon:=hb i _ (Array.getElem?_eq_getElem hlt) ed hed hbd
       have:=hmin ed.on hon
       rw [Array.getD_eq_getD_getElem?,Array.getElem?_eq_getElem (by omega)] at this ⊢
       simpa using this
     rw [hr] at this
     simp at this
   rw [hR0] at e
   simp only [Jl,List.map_nil,j8,ji] at e
   obtain ⟨_,rfl⟩:=e
   exact hQ g a w h
  ·obtain ⟨h1,h2,o,ho,hpre⟩:=ready_mem listed i hi
   have hsplit:List.range ops.size=List.range i ++ i :: List.range' (i + 1) (ops.size - i - 1):=by
    have h3:ops.size=i + (ops.size - i):=by omega
    have h4:ops.size - i=(ops.size - i - 1) + 1:=by omega
    conv=>lhs; rw [h3,List.range_add]
    congr 1
    rw [h4,Nat.add_sub_cancel,List.range_succ_eq_map,js,Nat.add_zero,List.map_map,List.range'_eq_map_range]
    congr 1
    refine List.map_congr_left fun k _=>?_
    simp only [Function.comp,Nat.succ_eq_add_one]
    omega
   have hRs:R=(List.range i).filter (fun k=>!listed.getD k true) ++ i :: (List.range' (i + 1) (ops.size - i - 1)).filter (fun k=>!listed.getD k true):=by
    rw [hR,hsplit,List.filter_append,List.filter_cons,if_pos (by simp [h2])]
   rw [hRs] at e
   obtain ⟨st1,k1,k2⟩:=j41 ho e (fun k hk=>by
    simp only [List.mem_filter,List.mem_range,Bool.not_eq_true'] at hk
    obtain ⟨hki,hkl⟩:=hk
    have hx:ops[k]? = some ops[k]:=Array.getElem?_eq_getElem (by omega)
    rcases hd k i _ _ hki hx ho with hbit | hok
    ·exfalso
     have:=j8P hc ho hpre hbit
     rw [Array.getD_eq_getD_getElem?,Array.getElem?_eq_getElem (by omega)] at this hkl
     simp at this hkl
     rw [this] at hkl
     simp at hkl
    ·refine ⟨hok.1,fun x hx'=>?_⟩
     rw [hx] at hx'
     simp only [j8] at hx'
     rw [← hx']
     exact hok.2)
   obtain ⟨tm,H⟩:=st
   refine j78 hty hcall ho h k1 fun g' a' w' hr=>?_
   refine ih (listed.setIfInBounds i true) _ (by simpa using hs) ?_ ?_ ?_ k2 hr hQ
   ·rw [hsplit,List.filter_append,List.filter_cons,if_neg (by rw [setg _ _ _ _ hs h1]; simp)]
    congr 1
    ·refine List.filter_congr fun k hk=>?_
     rw [List.mem_range] at hk
     rw [setg _ _ _ _ hs h1,if_neg (by omega)]
    ·refine List.filter_congr fun k hk=>?_
     rw [List.mem_range'_1] at hk
     rw [setg _ _ _ _ hs h1,if_neg (by omega)]
   ·have:=congrArg List.length hRs
    simp only [jj,jb] at this ⊢
    omega
   ·intro j x hx hj ed hed hbd
    rw [setg _ _ _ _ hs h1] at hj ⊢
    split
    ·rfl
    ·split at hj
     ·rename_i hij
      subst hij
      rw [ho] at hx
      simp only [j8] at hx
      subst hx
      exact hpre ed hed hbd
     ·exact hc j x hx hj ed hed hbd
theorem j1E {ops:Array Oper} {ids:List Nat}:∀ {L:List Nat} {st st':St} {cs:List Cls},Jl ty fn cl ops ids L st=some (cs,st') → cs.length=L.length
 | [],st,st',cs,e=>by
  simp only [Jl,j8,ji] at e
  rw [← e.1]
  rfl
 | i :: L,st,st',cs,e=>by
  rw [Jl] at e
  split at e
  ·simp at e
  ·split at e
   ·simp at e
   ·split at e
    ·simp at e
    ·rename_i h2
     simp only [j8,ji] at e
     rw [← e.1,jb,jb,j1E h2]
theorem j6n {ops:Array Oper} {cs:List Cls} (h:KW ops cs=true) (j:Nat) (hj:j < ops.size) :
  (∀ e ∈ (ops.getD j default).after.toList,(!Region.binds .any e || Nat.blt e.on j)=true) ∧ ∀ i,i < j →
   (((Region.before ops).getD j 0).testBit i || (Cls.free (cs.getD i .w) (cs.getD j .w) && Oper.apart ops (ops.getD i default) (ops.getD j default)))=true:=by
 simp only [KW,j6m,jk,List.all_eq_true,List.mem_range] at h
 obtain ⟨⟨h1,h2⟩,h3⟩:=h
 refine ⟨h1 j hj,fun i hi=>?_⟩
 cases hb:((Region.before ops).getD j 0).testBit i with
 | true=>rfl
 | false =>
  have hm:(i,j) ∈ j2z ops:=by
   unfold j2z
   rw [List.mem_flatMap]
   refine ⟨j,List.mem_range.2 hj,List.mem_map.2 ⟨i,List.mem_filter.2 ⟨List.mem_range.2 hi,by rw [hb]; rfl⟩,rfl⟩⟩
  rw [h3 _ hm,h2 _ hm]
  rfl
theorem j48 (hty:y9 P ty) (hcall:J7 P ty fn cl A) (hm:P.follows .mixedOrders=true) {id:Nat} {ops:Array Oper} {draw:Bool} {ids:List Nat} {Q:Exit → Act → World → Prop} {st:St} {g:Gh} {a:Act} {w:World} (h:Rel ty A g st a w)
  {cs:List Cls} {st':St} (e:Jl ty fn cl ops ids (List.range ops.size) st=some (cs,st')) (hd:(draw && !(KW ops cs))=false) (hQ:∀ g' a' w',Rel ty A g' st' a' w' → Q .normal a' w'):(Code.region id ops draw).wp P Q a w:=by
 cases draw with
 | false=>exact wp_region (j4V hty hcall e h hQ)
 | true =>
  simp only [Bool.true_and,Bool.not_eq_false'] at hd
  have hlen:cs.length=ops.size:=by rw [j1E e,List.length_range]
  have hcs:cs=(List.range ops.size).map fun i=>cs.getD i .w:=by
   apply List.ext_getElem?
   intro i
   rw [List.getElem?_map]
   by_cases hi:i < ops.size
   ·rw [List.getElem?_range hi]
    simp [List.getD_eq_getElem?_getD,List.getElem?_eq_getElem (show i < cs.length by omega)]
   ·rw [List.getElem?_eq_none (by omega),List.getElem?_eq_none (by simp; omega)]
    rfl
  have hfilt:(List.range ops.size).filter (fun i=>!(Array.replicate ops.size false).getD i true)=List.range ops.size:=by
   rw [List.filter_eq_self]
   intro i hi
   rw [List.mem_range] at hi
   simp [Array.getD_eq_getD_getElem?,hi]
  have hd:=j6n hd
  have hrel:Rel ty A g st a { w with drawn:=w.drawn + 1 }:=by
   have hch:Ch g g st.H st.H w { w with drawn:=w.drawn + 1 }:=⟨fun _ h=>h,fun _ _=>rfl,fun _ h=>h,fun _ _ h=>⟨h,rfl⟩,fun _ _ h=>⟨h,rfl⟩⟩
   obtain ⟨tm,H⟩:=st
   exact h.ch hch (fun i o ho=>OR.mono hch rfl rfl rfl (fun b hb=>⟨rfl,yo h ho hb⟩) (h.ob i o ho)) h.sep h.lt h.inI h.ow h.pb (h.keep.trans rfl rfl rfl (Nat.le_refl _) fun _ _ _ _=>rfl)
  refine wp_region_any hm (jaH (ids:=ids) (cls:=fun i=>cs.getD i .w) hty hcall (fun j x hx ed hed hbd=>?_) (fun i j x y hij hx hy=>?_) ops.size _ (List.range ops.size) (by simp) hfilt.symm (by simp) ?_ (by rw [← hcs]; exact e) hrel hQ)
  ·have hj:j < ops.size:=by
    rcases jA j ops.size with h' | h'
    ·exact h'
    ·simp [Array.getElem?_eq_none h'] at hx
   have:=(hd j hj).1 ed (by
    rw [Array.getD_eq_getD_getElem?,hx]
    simpa using hed)
   rw [hbd] at this
   simpa [Nat.blt_eq] using this
  ·have hj:j < ops.size:=by
    rcases jA j ops.size with h' | h'
    ·exact h'
    ·simp [Array.getElem?_eq_none h'] at hy
   have:=(hd j hj).2 i hij
   rw [Bool.or_eq_true,jk,Array.getD_eq_getD_getElem? (xs:=ops),hx,Array.getD_eq_getD_getElem? (xs:=ops),hy] at this
   exact this
  ·intro j o ho hL
   rw [Array.getD_eq_getD_getElem?] at hL
   have hj:j < ops.size:=by
    rcases jA j ops.size with h' | h'
    ·exact h'
    ·simp [Array.getElem?_eq_none h'] at ho
   simp [hj] at hL
end
section
variable {P:Program} {ty:Nat → Option TI} {fn:Nat → Option FI} {cl:Nat → Hint → List DC → Out} {A:An}
def EQ (ty:Nat → Option TI) (A:An) (rt:St → Out) (Γ:Nat → Option Hint) (o:Out) (K:St → Out):Exit → Act → World → Prop
 | .normal,a,w=>∃ g st,Rel ty A g st a w ∧ K st=o
 | .exit id,a,w=>∃ g h v,Γ id=some h ∧ o = .ex id v ∧ Rel ty A g (KJ h v) a w
 | .ret,a,w=>∃ g st,Rel ty A g st a w ∧ rt st=o
 | _,_,_=>False
theorem KF {mm:Nat} {h:Hint} {st:St} {o:Out} (e:qh ty mm h st=o) (ho:o ≠ .fail):∃ v,o = .norm v ∧ j0d ty mm h st=some v:=by
 unfold qh at e
 split at e
 ·rename_i v hv
  exact ⟨v,e.symm,hv⟩
 ·exact absurd e.symm ho
theorem j9q (hty:y9 P ty) (hcall:J7 P ty fn cl A) {mm:Nat} (hA:A.m=mm) {ops:Array Oper} {ids:List Nat} {K:St → Out} {o:Out} {Q:Exit → Act → World → Prop} (ho:o ≠ .fail)
  (hQ:∀ g st a w,Rel ty A g st a w → K st=o → Q .normal a w):∀ (segs:List (Nat × Hint)) (n m:Nat) (st:St) (g:Gh) (a:Act) (w:World),n + m=ops.size → Rel ty A g st a w →
  segR ty fn cl mm ops segs (KB (ops.toList.drop n) (ids.drop n)) st K=o → wpOps P ops Q (List.range' n m) a w
 | [],n,m,st,g,a,w,hs,h,e=>by
  rw [segR,j2O m n [] st hs] at e
  cases hr:Jl ty fn cl ops ids (List.range' n m) st with
  | none=>rw [hr] at e; exact absurd e.symm ho
  | some r =>
   rw [hr] at e
   exact j4V hty hcall hr h fun g' a' w' hrel=>hQ g' _ a' w' hrel e
 | (k,hn) :: segs,n,m,st,g,a,w,hs,h,e=>by
  rw [segR] at e
  have hk:(KB (ops.toList.drop n) (ids.drop n)).take k=(KB (ops.toList.drop n) (ids.drop n)).take (min k m):=by
   rw [show min k m=min k (KB (ops.toList.drop n) (ids.drop n)).length by rw [QX,List.length_drop,Array.length_toList]; omega]
   exact List.take_eq_take_min
  have hd:(KB (ops.toList.drop n) (ids.drop n)).drop k=(KB (ops.toList.drop n) (ids.drop n)).drop (min k m):=by
   rcases Nat.le_total k m with hle | hle
   ·rw [Nat.min_eq_left hle]
   ·rw [Nat.min_eq_right hle,List.drop_of_length_le (by rw [QX,List.length_drop,Array.length_toList]; omega),List.drop_of_length_le (by rw [QX,List.length_drop,Array.length_toList]; omega)]
  rw [hk,hd,j3Q,List.drop_drop,List.drop_drop,j42 (min k m) n [] st (by omega)] at e
  cases hr:Jl ty fn cl ops ids (List.range' n (min k m)) st with
  | none=>rw [hr] at e; exact absurd e.symm ho
  | some r =>
   rw [hr] at e
   simp only [via] at e
   have hsplit:List.range' n m=List.range' n (min k m) ++ List.range' (n + min k m) (m - min k m):=by
    have:=List.range'_append_1 (s:=n) (m:=min k m) (n:=m - min k m)
    rw [this]
    congr 1
    omega
   rw [hsplit]
   have hne:qh ty mm hn r.2 ≠ .fail:=by
    intro hf
    rw [hf] at e
    exact ho e.symm
   obtain ⟨v,h1,h2⟩:=KF rfl hne
   rw [h1] at e
   refine j04 hty hcall hr h fun g' a' w' hrel=>?_
   obtain ⟨g2,hr2⟩:=Xj hrel hA h2
   exact j9q hty hcall hA ho hQ segs _ _ _ g2 a' w' (by omega) hr2 e
theorem Ky (hty:y9 P ty) (hcall:J7 P ty fn cl A) (hm:P.follows .mixedOrders=true) {mm lf:Nat} (hA:A.m=mm) {rt:St → Out} (hrt:∀ st v,rt st ≠ .norm v) (hrx:∀ st id v,rt st ≠ .ex id v) :
  ∀ (c:AC) (Γ:Nat → Option Hint) (st:St) (K:St → Out) (o:Out) (g:Gh) (a:Act) (w:World),Rel ty A g st a w → exec ty fn cl mm lf rt c Γ st K=o → o ≠ .fail → c.code.wp P (EQ ty A rt Γ o K) a w
 | .skip,Γ,st,K,o,g,a,w,h,e,ho=>wp_skip ⟨g,st,h,e⟩
 | .region id ops draw ids none,Γ,st,K,o,g,a,w,h,e,ho=>by
  rw [exec] at e
  rcases j43 e with he | ⟨cs,st',h1,h2⟩
  ·exact absurd he ho
  ·cases hd:draw && !(KW ops cs) with
   | true=>rw [hd] at h2; exact absurd h2.symm ho
   | false =>
    rw [hd] at h2
    exact j48 hty hcall hm h h1 hd fun g' a' w' hr=>⟨g',st',hr,h2⟩
 | .region id ops draw ids (some hn),Γ,st,K,o,g,a,w,h,e,ho=>by
  rw [exec] at e
  generalize hx:(runR ty fn cl Out.fail ops (KB ops.toList ids) [] st fun cs st'=>match draw && !(KW ops cs) with
   | true=>.fail
   | false=>qh ty mm hn st')=x at e
  rcases j43 hx with he | ⟨cs,st',h1,h2⟩
  ·rw [he] at e; exact absurd e.symm ho
  ·cases hd:draw && !(KW ops cs) with
   | true=>rw [hd] at h2; dsimp only at h2; rw [← h2] at e; exact absurd e.symm ho
   | false =>
    rw [hd] at h2
    dsimp only at h2
    have hxf:x ≠ .fail:=by rintro rfl; exact ho e.symm
    obtain ⟨v,rfl,hv⟩:=KF h2 hxf
    exact j48 hty hcall hm h h1 hd fun g' a' w' hr=>by
     obtain ⟨g2,hr2⟩:=Xj hr hA hv
     exact ⟨g2,KJ hn v,hr2,e⟩
 | .rcut id ops ids segs,Γ,st,K,o,g,a,w,h,e,ho=>by
  rw [exec] at e
  refine wp_region ?_
  rw [List.range_eq_range']
  exact j9q (ids:=ids) hty hcall hA ho (fun g st a w hr hk=>⟨g,st,hr,hk⟩) segs 0 ops.size st g a w (by simp) h (by simpa using e)
 | .seq x y,Γ,st,K,o,g,a,w,h,e,ho=>by
  rw [exec] at e
  refine wp_seq (wp_mono (Ky hty hcall hm hA hrt hrx x Γ st _ o g a w h e ho) fun ex a' w' hq=>?_)
  cases ex with
  | normal =>
   obtain ⟨g',st',hr,hk⟩:=hq
   exact Ky hty hcall hm hA hrt hrx y Γ st' K o g' a' w' hr hk ho
  | exit id=>exact hq
  | ret=>exact hq
  | goto l=>exact hq.elim
  | panic c=>exact hq.elim
  | outgrown=>exact hq.elim
 | .cond c x y none,Γ,st,K,o,g,a,w,h,e,ho=>by
  rw [exec] at e
  obtain ⟨tm,H⟩:=st
  split at e
  ·rename_i b hb
   have hc:=h.opd c
   dsimp only at hb
   rw [hb] at hc
   refine wp_cond (t:=b) (show a.eval c = .bool b from hc) ?_
   cases b with
   | true=>exact Ky hty hcall hm hA hrt hrx x Γ _ K o g a w h (by simpa using e) ho
   | false=>exact Ky hty hcall hm hA hrt hrx y Γ _ K o g a w h (by simpa using e) ho
  ·exact absurd e.symm ho
 | .cond c x y (some hn),Γ,st,K,o,g,a,w,h,e,ho=>by
  rw [exec] at e
  obtain ⟨tm,H⟩:=st
  split at e
  ·rename_i b hb
   have hc:=h.opd c
   dsimp only at hb
   rw [hb] at hc
   refine wp_cond (t:=b) (show a.eval c = .bool b from hc) ?_
   have fin:∀ (z:AC) (i:Out),exec ty fn cl mm lf rt z Γ ⟨tm,H⟩ (qh ty mm hn)=i → i.andThen (fun v=>K (KJ hn v))=o → (∀ (o':Out),exec ty fn cl mm lf rt z Γ ⟨tm,H⟩ (qh ty mm hn)=o' → o' ≠ .fail → z.code.wp P (EQ ty A rt Γ o' (qh ty mm hn)) a w) →
     z.code.wp P (EQ ty A rt Γ o K) a w:=by
    intro z i hi hio ih
    have hif:i ≠ .fail:=by rintro rfl; exact ho hio.symm
    refine wp_mono (ih i hi hif) fun ex a' w' hq=>?_
    cases ex with
    | normal =>
     obtain ⟨g',st',hr,hk⟩:=hq
     obtain ⟨v,rfl,hv⟩:=KF hk hif
     obtain ⟨g2,hr2⟩:=Xj hr hA hv
     exact ⟨g2,KJ hn v,hr2,hio⟩
    | exit id =>
     obtain ⟨g',h',v,k1,rfl,k3⟩:=hq
     exact ⟨g',h',v,k1,hio.symm,k3⟩
    | ret =>
     obtain ⟨g',st',hr,rfl⟩:=hq
     refine ⟨g',st',hr,?_⟩
     rw [← hio]
     cases hrs:rt st' with
     | norm v=>exact absurd hrs (hrt st' v)
     | ex id v=>rfl
     | ret v=>rfl
     | fail=>rfl
    | goto l=>exact hq.elim
    | panic c=>exact hq.elim
    | outgrown=>exact hq.elim
   cases b with
   | true=>exact fin x _ rfl (by simpa using e) fun o' h1 h2=>Ky hty hcall hm hA hrt hrx x Γ _ _ o' g a w h h1 h2
   | false=>exact fin y _ rfl (by simpa using e) fun o' h1 h2=>Ky hty hcall hm hA hrt hrx y Γ _ _ o' g a w h h1 h2
  ·exact absurd e.symm ho
 | .block id body hn,Γ,st,K,o,g,a,w,h,e,ho=>by
  rw [exec] at e
  generalize hi:exec ty fn cl mm lf rt body (fun j=>if j=id then some hn else Γ j) st (qh ty mm hn)=i at e
  have hif:i ≠ .fail:=by rintro rfl; exact ho e.symm
  refine wp_block (wp_mono (Ky hty hcall hm hA hrt hrx body _ st _ i g a w h hi hif) fun ex a' w' hq=>?_)
  cases ex with
  | normal =>
   obtain ⟨g',st',hr,hk⟩:=hq
   obtain ⟨v,rfl,hv⟩:=KF hk hif
   obtain ⟨g2,hr2⟩:=Xj hr hA hv
   exact ⟨g2,KJ hn v,hr2,e⟩
  | exit j =>
   obtain ⟨g',h',v,k1,rfl,k3⟩:=hq
   simp only [Exit.inBlock]
   simp only [j9] at e
   dsimp only at k1
   by_cases hj:j=id
   ·rw [if_pos hj] at k1 e ⊢
    simp only [j8] at k1
    subst k1
    exact ⟨g',KJ hn v,k3,e⟩
   ·rw [if_neg hj] at k1 e ⊢
    exact ⟨g',h',v,k1,e.symm,k3⟩
  | ret =>
   obtain ⟨g',st',hr,rfl⟩:=hq
   refine ⟨g',st',hr,?_⟩
   rw [← e]
   cases hrs:rt st' with
   | norm v=>exact absurd hrs (hrt st' v)
   | ex id v=>exact absurd hrs (hrx st' id v)
   | ret v=>rfl
   | fail=>rfl
  | goto l=>exact hq.elim
  | panic c=>exact hq.elim
  | outgrown=>exact hq.elim
 | .loop body hn,Γ,st,K,o,g,a,w,h,e,ho=>by
  rw [exec] at e
  split at e
  ·rename_i v0 hv0
   obtain ⟨g0,hr0⟩:=Xj h hA hv0
   refine wp_loop_ghost (fun n a w=>∃ v g,Rel ty A g (KJ hn v) a w ∧ pU (fun v=>exec ty fn cl mm lf rt body Γ (KJ hn v) (qh ty mm hn)) n v=o) lf ⟨v0,g0,hr0,e⟩ fun n a w hI=>?_
   obtain ⟨v,g,hr,hl⟩:=hI
   cases n with
   | zero=>exact absurd hl.symm ho
   | succ n =>
    rw [pU] at hl
    generalize hi:exec ty fn cl mm lf rt body Γ (KJ hn v) (qh ty mm hn)=i at hl
    have hif:i ≠ .fail:=by rintro rfl; exact ho hl.symm
    refine wp_mono (Ky hty hcall hm hA hrt hrx body Γ _ _ i g a w hr hi hif) fun ex a' w' hq=>?_
    cases ex with
    | normal =>
     obtain ⟨g',st',hr,hk⟩:=hq
     obtain ⟨v',rfl,hv⟩:=KF hk hif
     obtain ⟨g2,hr2⟩:=Xj hr hA hv
     exact ⟨n,Nat.lt_succ_self n,v',g2,hr2,hl⟩
    | exit id =>
     obtain ⟨g',h',v',k1,rfl,k3⟩:=hq
     exact ⟨g',h',v',k1,hl.symm,k3⟩
    | ret =>
     obtain ⟨g',st',hr,rfl⟩:=hq
     refine ⟨g',st',hr,?_⟩
     rw [← hl]
     cases hrs:rt st' with
     | norm v=>exact absurd hrs (hrt st' v)
     | ex id v=>rfl
     | ret v=>rfl
     | fail=>rfl
    | goto l=>exact hq.elim
    | panic c=>exact hq.elim
    | outgrown=>exact hq.elim
  ·exact absurd e.symm ho
 | .exit id,Γ,st,K,o,g,a,w,h,e,ho=>by
  rw [exec] at e
  split at e
  ·rename_i hn hg
   split at e
   ·rename_i v hv
    obtain ⟨g2,hr2⟩:=Xj h hA hv
    exact wp_exit ⟨g2,hn,v,hg,e.symm,hr2⟩
   ·exact absurd e.symm ho
  ·exact absurd e.symm ho
 | .ret,Γ,st,K,o,g,a,w,h,e,ho=>by
  rw [exec] at e
  exact wp_ret ⟨g,st,h,e⟩
end
section
variable {P:Program} {ty:Nat → Option TI} {fn:Nat → Option FI} {cl:Nat → Hint → List DC → Out} {A:An}
def RVs:List (Bool × List RK) → List Value → List Value → Prop
 | [],[],us=>us=[]
 | (a,ks) :: rs,v :: vs,us=>∃ u1 u2,us=u1 ++ u2 ∧ u1.length=ks.length ∧ (a=true → v = .agg u1.toArray) ∧ (a=false → u1=[v]) ∧ RVs rs vs u2
 | _,_,_=>False
def OV (w:World) (b:Nat → Nat):Nat → List KO → List Value → Prop
 | _,[],us=>us=[]
 | j,.var t l :: ks,us=>∃ u1 u2,us=u1 ++ u2 ∧ u1.length=l.length ∧ w.heap[b j]? = some (.cells u1.toArray t (0,0)) ∧ (∀ u ∈ u1,u.oneCell'=true) ∧ OV w b (j + 1) ks u2
 | _,.u :: _,_=>False
structure Res (ty:Nat → Option TI) (A:An) (kos:List KO) (rk:List (Bool × List RK)) (r:List DC) (vs:List Value) (w':World):Prop where
 ex:∃ (g1:Gh) (H0 H1:List HS) (us1 us2:List Value),RVs rk vs us1 ∧ OV w' A.pb 0 kos us2 ∧ FL ty A g1 H0 H1 w' r 0 (zT 0 rk ++ kos.flatMap KO.kinds) (us1 ++ us2) ∧ Zx (ZZ g1 H0) (zT 0 rk ++ kos.flatMap KO.kinds) (us1 ++ us2) ∧
  (∀ b,g1.I b → b < w'.heap.size ∧ (A.I0 b ∨ A.w0.heap.size ≤ b ∨ A.Pm b)) ∧ (∀ j,j < A.m → ¬ g1.I (A.pb j)) ∧ ∀ j,j < A.m → ∃ o,jp H1 j = .live o ∧ jM g1 j o (A.pb j)
 keep:Keep A w'
def Xa (vs:List Value):Value :=
 match vs with
 | [v]=>v
 | vs=>.tuple vs.toArray
structure Glob where
 gb:Nat → Prop
 ok:World → Prop
 dep:∀ w w':World,(∀ b,gb b → w'.heap[b]? = w.heap[b]?) → ok w → ok w'
def Glob.none:Glob:=⟨fun _=>False,fun _=>True,fun _ _ _ _=>trivial⟩
def AOk (G:Glob) (A:An):Prop:=G.ok A.w0 ∧ ∀ b,G.gb b → b < A.w0.heap.size ∧ ¬ A.Pv b ∧ ¬ A.Pm b
def j84 (P:Program) (G:Glob) (ty:Nat → Option TI) (f:Nat) (fi:FI) (h:Hint) (v r:List DC):Prop :=
 ∀ (A:An) (g:Gh) (vals:Array Value) (w:World),AOk G A → Rel ty A g (yD fi h v) { tmps:=vals ++ Array.replicate (fi.ntmps - vals.size) undef,defers:=[] } w → vals.size=h.tm.length → A.w0=w → A.m=(KO.vars h.ob).length →
  Calls P f vals w fun
   | .returned rv,w'=>∃ vs,rv=Xa vs ∧ Res ty A (KO.vars h.ob) fi.rk r vs w'
   | _,_=>False
def j5p (P:Program) (G:Glob) (ty:Nat → Option TI) (fn:Nat → Option FI) (cl:Nat → Hint → List DC → Out):Prop :=
 ∀ f fi h v r,fn f=some fi → cl f h v = .ret r → j84 P G ty f fi h v r
structure Wrote (w w':World) (F:List Nat):Prop where
 os:w'.os=w.os
 tape:w'.tape=w.tape
 output:w'.output=w.output
 size:w.heap.size ≤ w'.heap.size
 block:∀ b,b < w.heap.size → b ∉ F → w'.heap[b]? = w.heap[b]?
 shape:∀ b ∈ F,∀ cs t,w.heap[b]? = some (.cells cs t (0,0)) → ∃ cs',w'.heap[b]? = some (.cells cs' t (0,0)) ∧ cs'.size=cs.size
inductive Rds (ty:Nat → Option TI) (w:World) (vs:List Value):List (Nat × Nat) → List (List (List DC)) → List (List Nat) → Prop
 | nil:Rds ty w vs [] [] []
 | cons (off e:Nat) (v:Value) (l:List (List DC)) (F:List Nat) (ps:List (Nat × Nat)) (ls:List (List (List DC))) (Fs:List (List Nat)) :
   vs[off]? = some v → RdC ty w (.sl e) (.sl l) v F → Rds ty w vs ps ls Fs → Rds ty w vs ((off,e) :: ps) (l :: ls) (F :: Fs)
def jc1 (P:Program) (ty:Nat → Option TI) (f:Nat) (m:MK):Prop :=
 ∀ (w:World) (arg:Value) (vs:List Value) (k:Int) (ls ls':List (List (List DC))) (k':Int) (Fs:List (List Nat)),(m.agg=true → arg = .agg vs.toArray) → (m.agg=false → vs=[arg]) → vs.length=m.n → (∀ u ∈ vs,u.oneCell'=true) →
  Rds ty w vs m.parts ls Fs → Own w Fs.flatten → m.run ls k=some (ls',k') →
  Calls P f #[arg,.int .i64 k] w fun en w'=>en = .returned (.int .i64 k') ∧ Wrote w w' Fs.flatten ∧ Rds ty w' vs m.parts ls' Fs
def j7p (P:Program) (G:Glob) (ty:Nat → Option TI) (f:Nat) (q:Nat → List HS → List C → Option (Nat × List HS × C)):Prop :=
 ∀ (A:An) (g:Gh) (tm:List C) (H H':List HS) (a:Act) (w:World) (base n:Nat) (args:List C) (vals:List Value) (c:C),AOk G A → Rel ty A g ⟨tm,H⟩ a w → vals.length=args.length →
  (∀ (i:Nat) (c:C) (v:Value),args[i]? = some c → vals[i]? = some v → CR ty g H w c v) → q base H args=some (n,H',c) → n < jT →
  Calls P f vals.toArray w fun en w'=>∃ v g',en = .returned v ∧ Rel ty A g' ⟨tm,H'⟩ a w' ∧ (∀ b,g.I b → g'.I b) ∧ CR ty g' H' w' c v
structure FnOk (P:Program) (G:Glob) (ty:Nat → Option TI) (f:Nat) (fi:FI):Prop where
 ex:∃ fd,P.funcs[f]? = some fd ∧ (fd.name == "runtime.NumGoroutine")=false ∧ fd.body.isNone=false ∧ (fi.prim=none → (∀ h,fd.body=some (fi.body h).code) ∧ fd.ntmps=fi.ntmps ∧ fd.results.toList=fi.res)
 prim:∀ p,fi.prim=some p → ∀ h v r,p h v=some r → j84 P G ty f fi h v r
 mark:∀ m,fi.mark=some m → jc1 P ty f m
 stf:∀ q,fi.stf=some q → j7p P G ty f q
def j70 (tmps:Array Value):ResultVar → Sem Value
 | .tmp t=>pure (tmps.getD t undef)
 | .cell a t=>do loadVar t (← asAddr (tmps.getD a undef))
theorem j1D {fd:Func} {tmps:Array Value} {w:World} {vs:List Value} (h:(fd.results.toList.mapM (j70 tmps)).run P w = .ok vs w):(results fd tmps).run P w = .ok (Xa vs) w:=by
 unfold results
 rw [Sem.run_bind,Array.mapM_eq_mapM_toList]
 simp only [Sem.run_map]
 have hf:(fun x=>match x with
  | ResultVar.tmp t=>pure (tmps.getD t undef)
  | ResultVar.cell a t=>do loadVar t (← asAddr (tmps.getD a undef)):ResultVar → Sem Value)=j70 tmps:=by
  funext x
  cases x <;> rfl
 have h':∀ f:ResultVar → Sem Value,f=j70 tmps → (fd.results.toList.mapM f).run P w = .ok vs w:=fun f hf=>by rw [hf]; exact h
 rw [h' _ (by funext x; cases x <;> rfl)]
 simp only [Result.andThen_ok,Sem.run_pure]
 match vs with
 | []=>rfl
 | [v]=>rfl
 | _ :: _ :: _=>rfl
theorem YR (hty:y9 P ty) {g:Gh} {st:St} {a:Act} {w:World} (h:Rel ty A g st a w):∀ {rs:List ResultVar} {rk:List (Bool × List RK)} {p:List S},Vv ty st rs rk=some p →
  ∃ vs us:List Value,(rs.mapM (j70 a.tmps)).run P w = .ok vs w ∧ qr ty g st.H w p us ∧ RVs rk vs us
 | [],[],p,e=>by
  simp only [Vv,j8] at e
  subst e
  exact ⟨[],[],rfl,trivial,rfl⟩
 | .tmp t :: rs,(ag,ks) :: rk,p,e=>by
  obtain ⟨tm,H⟩:=st
  unfold Vv at e
  have hr:=h.getD t
  split at e
  ·rename_i s l hs hl
   split at e
   ·rename_i hk
    simp only [j8] at e
    subst e
    obtain ⟨vs,us,h1,h2,h3⟩:=YR hty h hl
    dsimp only at hs
    rw [hs] at hr
    refine ⟨a.tmps.getD t undef :: vs,a.tmps.getD t undef :: us,?_,⟨hr,h2⟩,[a.tmps.getD t undef],us,rfl,by simp [hk],fun h=>by simp at h,fun _=>rfl,h3⟩
    rw [List.mapM_cons,Sem.run_bind,j70,Sem.run_pure,Result.andThen_ok,Sem.run_bind,h1]
    rfl
   ·simp at e
  ·rename_i ss l hs hl
   split at e
   ·rename_i hk
    simp only [j8] at e
    subst e
    obtain ⟨vs,us,h1,h2,h3⟩:=YR hty h hl
    dsimp only at hs
    rw [hs] at hr
    obtain ⟨xs,hx,hxs⟩:=hr
    refine ⟨a.tmps.getD t undef :: vs,xs ++ us,?_,hxs.append h2,xs,us,rfl,by rw [hxs.length,hk],fun _=>hx,fun h=>by simp at h,h3⟩
    rw [List.mapM_cons,Sem.run_bind,j70,Sem.run_pure,Result.andThen_ok,Sem.run_bind,h1]
    rfl
   ·simp at e
  ·simp at e
 | .cell pt t :: rs,(ag,ks) :: rk,p,e=>by
  obtain ⟨tm,H⟩:=st
  unfold Vv at e
  have hr:=h.getD pt
  split at e
  ·rename_i id ti l hs ht hl
   split at e
   ·rename_i t' cs hv
    split at e
    ·rename_i hc
     simp only [j8] at e
     subst e
     obtain ⟨vs,us,h1,h2,h3⟩:=YR hty h hl
     dsimp only at hs hv
     rw [hs] at hr
     have hp:a.tmps.getD pt undef = .pointer (some ⟨g.blk id,0,none⟩):=hr.2.2 ⟨_,_,hv⟩
     obtain ⟨xs,k1,k2,k3,k4⟩:=h.ob id _ hv
     have hxl:=k2.length
     have htk:=hty t ti ht
     have hload:=XW htk w (g.blk id) 0 xs (by omega) (fun j u hu=>by
      rw [Nat.zero_add]
      simp [World.cell?,k1,hu])
     refine ⟨(if jQ (some ti) then .agg xs.toArray else xs.headD undef) :: vs,xs ++ us,?_,k2.append h2,xs,us,rfl,by omega,fun ha=>?_,fun ha=>?_,h3⟩
     ·rw [List.mapM_cons,Sem.run_bind,j70,hp]
      simp only [asAddr,Sem.run_bind,Sem.run_pure,Result.andThen_ok,hload,h1]
     ·rw [hc.2.2,ha,if_pos rfl]
     ·have:=htk.one (by rw [hc.2.2,ha])
      match xs,hxl with
      | [],hxl=>simp at hxl; omega
      | [x],_=>rw [hc.2.2,ha]; rfl
      | _ :: _ :: _,hxl=>simp at hxl; omega
    ·simp at e
   ·simp at e
  ·simp at e
 | [],_ :: _,_,e=>by simp [Vv] at e
 | .tmp _ :: _,[],_,e=>by simp [Vv] at e
 | .cell _ _ :: _,[],_,e=>by simp [Vv] at e
theorem j7A {g:Gh} {H:List HS} {w:World} {tm:List C} {a:Act} (h:Rel ty A g ⟨tm,H⟩ a w):∀ {ks:List KO} {id:Nat} {q:List S},j02 H id (KO.vars ks)=some q → (∀ j,j < (KO.vars ks).length → g.blk (id + j)=A.pb (id + j)) →
  ∃ us:List Value,qr ty g H w q us ∧ OV w A.pb id (KO.vars ks) us ∧ q.length=((KO.vars ks).flatMap KO.kinds).length ∧ ∀ j,j < (KO.vars ks).length → kN H (id + j)
 | [],id,q,e,_=>by
  simp only [KO.vars,j02,j8] at e
  subst e
  exact ⟨[],trivial,rfl,rfl,fun j hj=>by simp [KO.vars] at hj⟩
 | .u :: _,id,q,e,_=>by
  simp only [KO.vars,j02,j8] at e
  subst e
  exact ⟨[],trivial,rfl,rfl,fun j hj=>by simp [KO.vars] at hj⟩
 | .var t l :: ks,id,q,e,hb=>by
  simp only [KO.vars,j02] at e
  split at e
  ·rename_i t' cs hv
   split at e
   ·rename_i hc
    obtain ⟨rfl,hc⟩:=hc
    split at e
    ·rename_i r hr
     simp only [j8] at e
     subst e
     obtain ⟨us,h1,h2,h3,h4⟩:=j7A h hr (fun j hj=>by
      have:=hb (j + 1) (by simp [KO.vars]; exact hj)
      rw [show id + 1 + j=id + (j + 1) by omega]
      exact this)
     obtain ⟨xs,k1,k2,k3,k4⟩:=h.ob id _ hv
     refine ⟨xs ++ us,k2.append h1,⟨xs,us,rfl,by rw [k2.length,hc],?_,k4,h2⟩,by simp [KO.vars,KO.kinds,h3,hc],fun j hj=>?_⟩
     ·have:=hb 0 (by simp [KO.vars])
      rw [Nat.add_zero] at this
      rw [← this]
      exact k1
     ·cases j with
      | zero=>exact ⟨_,_,hv⟩
      | succ j =>
       rw [show id + (j + 1)=id + 1 + j by omega]
       exact h4 j (by simpa [KO.vars] using hj)
    ·simp at e
   ·simp at e
  ·simp at e
theorem jbz (hty:y9 P ty) {g:Gh} {st:St} {a:Act} {w:World} (h:Rel ty A g st a w) {fi:FI} {hn:Hint} {r:List DC} (hm:A.m=(KO.vars hn.ob).length) (e:JF ty fi hn st = .ret r) {fd:Func} (hres:fd.results.toList=fi.res) :
  ∃ vs,(results fd a.tmps).run P w = .ok (Xa vs) w ∧ Res ty A (KO.vars hn.ob) fi.rk r vs w:=by
 unfold JF at e
 split at e
 ·rename_i p q hp hq
  split at e
  ·rename_i v H1 hv
   simp only [Out.ret.injEq] at e
   subst e
   obtain ⟨vs,us1,h1,h2,h3⟩:=YR hty h hp
   obtain ⟨tm,H⟩:=st
   have hall:∀ j,j < (KO.vars hn.ob).length → kN H j:=by
    have:∀ {ks:List KO} {id:Nat} {q:List S},j02 H id (KO.vars ks)=some q → ∀ j,j < (KO.vars ks).length → kN H (id + j):=by
     intro ks
     induction ks with
     | nil=>intro id q _ j hj; simp [KO.vars] at hj
     | cons k ks ih =>
      intro id q e j hj
      cases k with
      | u=>simp [KO.vars] at hj
      | var t l =>
       simp only [KO.vars,j02] at e
       split at e
       ·rename_i t' cs hv
        split at e
        ·split at e
         ·rename_i r hr
          cases j with
          | zero=>exact ⟨_,_,hv⟩
          | succ j =>
           rw [show id + (j + 1)=id + 1 + j by omega]
           exact ih hr j (by simpa [KO.vars] using hj)
         ·simp at e
        ·simp at e
       ·simp at e
    intro j hj
    have:=this hq j hj
    rwa [Nat.zero_add] at this
   obtain ⟨us2,b1,b2,b3,b4⟩:=j7A h hq (fun j hj=>by
    rw [Nat.zero_add]
    exact h.pb j (by omega) (hall j hj))
   obtain ⟨g1,r1,s1,f1,ap,l1,_⟩:=Y8 (H0:=H) [] [] h (fun _ h=>h) (j01 h) (j2u h) (h2.append b1) hv
   rw [← j3T s1.val s1.dom] at ap
   simp only [jg,jv,jf] at f1
   have hlive:∀ j,j < A.m → ∃ o,jp H1 j = .live o ∧ jM g1 j o (A.pb j):=by
    intro j hj
    obtain ⟨t,cs,hc⟩:=s1.var j (hall j (by omega))
    refine ⟨_,hc,?_⟩
    show g1.blk j=A.pb j
    rw [s1.blk]
    exact h.pb j hj (hall j (by omega))
   refine ⟨vs,j1D (by rw [hres]; exact h1),⟨g1,H,H1,us1,us2,h3,b2,f1,ap,fun b hb=>⟨r1.lt b hb,r1.inI b hb⟩,fun j hj hI=>?_,hlive⟩,h.keep⟩
   obtain ⟨o,ho,hb⟩:=hlive j hj
   exact yo r1 ho hb hI
  ·simp at e
 ·simp at e
theorem j47 (fi:FI) (h:Hint) (st:St):(∀ v,JF ty fi h st ≠ .norm v) ∧ ∀ id v,JF ty fi h st ≠ .ex id v:=by
 unfold JF
 constructor
 ·intro v
  repeat' split
  all_goals simp
 ·intro id v
  repeat' split
  all_goals simp
theorem j6s {cfg:Cfg} {G:Glob} (hty:y9 P cfg.ty) (hm:P.follows .mixedOrders=true) (hfn:∀ f fi,cfg.fn f=some fi → FnOk P G cfg.ty f fi)
  (step:∀ cl,j5p P G cfg.ty cfg.fn cl → ∀ A,AOk G A → J7 P cfg.ty cfg.fn cl A)  :∀ k,j5p P G cfg.ty cfg.fn (zg cfg k)
 | 0=>fun f fi h v r hf e=>by simp [zg] at e
 | k + 1=>fun f fi h v r hf e=>by
  have ih:=j6s hty hm hfn step k
  rw [zg,hf] at e
  dsimp only at e
  obtain ⟨⟨fd,h1,h2,h3,h4⟩,h5,_⟩:=hfn f fi hf
  split at e
  ·rename_i p hp
   split at e
   ·rename_i r' hr
    simp only [Out.ret.injEq] at e
    subst e
    exact h5 p hp h v r' hr
   ·simp at e
  ·rename_i hp
   obtain ⟨k1,k2,k3⟩:=h4 hp
   intro A g vals w hA hr hvs hw hmm
   refine calls_of_wp h1 (k1 h) ?_
   rw [k2]
   refine wp_mono (Ky hty (step _ ih A hA) hm hmm (fun st v=>(j47 fi h st).1 v) (fun st id v=>(j47 fi h st).2 id v) (fi.body h) _ _ _ (.ret r) g _ w hr e (by simp)) fun ex a' w' hq=>?_
   have fin:∀ g' st',Rel cfg.ty A g' st' a' w' → JF cfg.ty fi h st' = .ret r → a'.defers=[] ∧ ∃ v,(results fd a'.tmps).run P w' = .ok v w' ∧ ∃ vs,v=Xa vs ∧ Res cfg.ty A (KO.vars h.ob) fi.rk r vs w':=by
    intro g' st' hr' hk
    obtain ⟨vs,q1,q2⟩:=jbz hty hr' hmm hk k3
    exact ⟨hr'.df,_,q1,vs,rfl,q2⟩
   cases ex with
   | normal =>
    obtain ⟨g',st',hr',hk⟩:=hq
    exact fin g' st' hr' hk
   | ret =>
    obtain ⟨g',st',hr',hk⟩:=hq
    exact fin g' st' hr' hk
   | exit id =>
    obtain ⟨_,_,_,hk,_⟩:=hq
    simp at hk
   | goto l=>exact hq.elim
   | panic c=>exact hq.elim
   | outgrown=>exact hq.elim
end
section
variable {P:Program} {ty:Nat → Option TI} {fn:Nat → Option FI} {cl:Nat → Hint → List DC → Out} {A:An} {w:World}
def KZ:List KC → List Value → List Value → Prop
 | [],[],vs=>vs=[]
 | .one _ :: ks,u :: us,vs=>∃ r,vs=u :: r ∧ KZ ks us r
 | .agg l :: ks,u :: us,vs=>∃ x r,u = .agg (List.toArray x) ∧ x.length=l.length ∧ vs=x ++ r ∧ KZ ks us r
 | _,_,_=>False
theorem YO {g:Gh} {H:List HS}:∀ {ks:List KC} {cs:List C} {p:List S} {us:List Value},Jz ks cs=some p → us.length=cs.length → (∀ (i:Nat) (c:C) (v:Value),cs[i]? = some c → us[i]? = some v → CR ty g H w c v) →
  ∃ vs:List Value,qr ty g H w p vs ∧ KZ ks us vs
 | [],[],p,us,e,hl,hc=>by
  simp only [Jz,j8] at e
  subst e
  have:us=[]:=jm hl
  subst this
  exact ⟨[],trivial,rfl⟩
 | k :: ks,c :: cs,p,us,e,hl,hc=>by
  match us,hl with
  | u :: us,hl =>
   have hcs:∀ (i:Nat) (c:C) (v:Value),cs[i]? = some c → us[i]? = some v → CR ty g H w c v:=fun i c v h1 h2=>hc (i + 1) c v h1 h2
   have hl':us.length=cs.length:=by simpa using hl
   have hc0:=hc 0 c u rfl rfl
   unfold Jz at e
   split at e
   ·rename_i heq _; simp at heq
   ·rename_i ks' c' cs' hk hcc
    simp only [List.cons.injEq] at hk hcc
    obtain ⟨rfl,rfl⟩:=hk
    obtain ⟨rfl,rfl⟩:=hcc
    split at e
    ·rename_i r hr
     simp only [j8] at e
     subst e
     obtain ⟨vs,h1,h2⟩:=YO hr hl' hcs
     exact ⟨u :: vs,⟨trivial,h1⟩,vs,rfl,h2⟩
    ·simp at e
   ·rename_i k1 ks' s cs' _ hk hcc
    simp only [List.cons.injEq] at hk hcc
    obtain ⟨rfl,rfl⟩:=hk
    obtain ⟨rfl,rfl⟩:=hcc
    split at e
    ·rename_i r hr
     simp only [j8] at e
     subst e
     obtain ⟨vs,h1,h2⟩:=YO hr hl' hcs
     exact ⟨u :: vs,⟨hc0,h1⟩,vs,rfl,h2⟩
    ·simp at e
   ·rename_i l ks' ss cs' hk hcc
    simp only [List.cons.injEq] at hk hcc
    obtain ⟨rfl,rfl⟩:=hk
    obtain ⟨rfl,rfl⟩:=hcc
    split at e
    ·rename_i hlen
     split at e
     ·rename_i r hr
      simp only [j8] at e
      subst e
      obtain ⟨xs,hx,hs⟩:=hc0
      obtain ⟨vs,h1,h2⟩:=YO hr hl' hcs
      exact ⟨xs ++ vs,hs.append h1,xs,vs,hx,by rw [hs.length,hlen],rfl,h2⟩
     ·simp at e
    ·simp at e
   ·simp at e
 | [],_ :: _,_,_,e,_,_=>by simp [Jz] at e
 | .one _ :: _,[],_,_,e,_,_=>by simp [Jz] at e
 | .agg _ :: _,[],_,_,e,_,_=>by simp [Jz] at e
theorem KZ.data:∀ {ks:List KC} {us vs:List Value},KZ (ks.map KC.data) us vs → KZ ks us vs
 | [],[],vs,h=>h
 | .one k :: ks,u :: us,vs,⟨r,h1,h2⟩=>⟨r,h1,KZ.data h2⟩
 | .agg l :: ks,u :: us,vs,⟨x,r,h1,h2,h3,h4⟩=>⟨x,r,h1,by simpa using h2,h3,KZ.data h4⟩
 | [],_ :: _,_,h=>h.elim
 | .one _ :: _,[],_,h=>h.elim
 | .agg _ :: _,[],_,h=>h.elim
theorem KZ.length:∀ {ks:List KC} {us vs:List Value},KZ ks us vs → us.length=ks.length ∧ vs.length=(ks.flatMap KC.kinds).length
 | [],[],vs,h=>by rw [show vs=[] from h]; exact ⟨rfl,rfl⟩
 | .one k :: ks,u :: us,vs,⟨r,h1,h2⟩=>by
  obtain ⟨a,b⟩:=KZ.length h2
  subst h1
  exact ⟨by simp [a],by simp [KC.kinds,b]⟩
 | .agg l :: ks,u :: us,vs,⟨x,r,h1,h2,h3,h4⟩=>by
  obtain ⟨a,b⟩:=KZ.length h4
  subst h3
  exact ⟨by simp [a],by simp [KC.kinds,b,h2]⟩
 | [],_ :: _,_,h=>h.elim
 | .one _ :: _,[],_,h=>h.elim
 | .agg _ :: _,[],_,h=>h.elim
theorem KZ.mkT {g:Gh} {H:List HS} (v:List DC):∀ {ks:List KC} {us vs:List Value} (n:Nat),KZ ks us vs → qr ty g H w (mkL v n (ks.flatMap KC.kinds)) vs →
  (mkT v n ks).length=us.length ∧ ∀ (i:Nat) (c:C) (u:Value),(Go.Proofs.QV.mkT v n ks)[i]? = some c → us[i]? = some u → CR ty g H w c u
 | [],[],vs,n,_,_=>⟨rfl,fun i c u hi=>by simp [Go.Proofs.QV.mkT] at hi⟩
 | .one k :: ks,u :: us,vs,n,⟨r,h1,h2⟩,hs=>by
  subst h1
  simp only [jn,KC.kinds,List.singleton_append,mkL] at hs
  obtain ⟨q1,q2⟩:=KZ.mkT v (n + k.cnt) h2 hs.2
  refine ⟨by simp [Go.Proofs.QV.mkT,q1],fun i c u' hi hu=>?_⟩
  cases i with
  | zero =>
   simp only [Go.Proofs.QV.mkT,List.getElem?_cons_zero,j8] at hi hu
   subst hi
   subst hu
   exact hs.1
  | succ i =>
   simp only [Go.Proofs.QV.mkT,List.getElem?_cons_succ] at hi hu
   exact q2 i c u' hi hu
 | .agg l :: ks,u :: us,vs,n,⟨x,r,h1,h2,h3,h4⟩,hs=>by
  subst h3
  simp only [jn,KC.kinds,yG] at hs
  obtain ⟨hh1,hh2⟩:=hs.unappend (by rw [yF,h2])
  obtain ⟨q1,q2⟩:=KZ.mkT v _ h4 hh2
  refine ⟨by simp [Go.Proofs.QV.mkT,q1],fun i c u' hi hu=>?_⟩
  cases i with
  | zero =>
   simp only [Go.Proofs.QV.mkT,List.getElem?_cons_zero,j8] at hi hu
   subst hi
   subst hu
   exact ⟨x,h1,hh1⟩
  | succ i =>
   simp only [Go.Proofs.QV.mkT,List.getElem?_cons_succ] at hi hu
   exact q2 i c u' hi hu
 | [],_ :: _,_,_,h,_=>h.elim
 | .one _ :: _,[],_,_,h,_=>h.elim
 | .agg _ :: _,[],_,_,h,_=>h.elim
def PF (ty:Nat → Option TI) (g:Gh) (H:List HS) (w:World) (ids:List Nat) (ks:List K1) (vs:List Value):Prop :=
 ∀ (i:Nat) (k:K1) (u:Value),ks[i]? = some k → vs[i]? = some u →
  (∀ m off,k = .ptr m off → off=0 ∧ ∃ id,ids[m]? = some id ∧ SR ty g H w (.ptr id 0) u) ∧
  (∀ f caps,k = .fn f caps → ∃ caps0:List Nat,SR ty g H w (.fn f caps0) u ∧ caps.length=caps0.length ∧ ∀ (j m:Nat),caps[j]? = some m → ids[m]? = caps0[j]?)
theorem CT.k1_plain (t:CT):(∀ m off,t.k1 ≠ .ptr m off) ∧ (∀ f caps,t.k1 ≠ .fn f caps) ∧ t.k1.data=t.k1 ∧ t.k1.cnt=1 ∧ t.k1.ids=[] ∧ t.k1.pids=[]:=by
 cases t <;> exact ⟨fun _ _ h=>by simp [CT.k1] at h,fun _ _ h=>by simp [CT.k1] at h,rfl,rfl,rfl,rfl⟩
theorem j5j {g:Gh} {H:List HS} {ids:List Nat}:∀ {ps:List PK} {cs:List C} {n r:Nat} {kcs:List KC} {us vs:List Value},yX n r ps cs=some kcs → KZ kcs us vs →
  (∀ (i:Nat) (c:C) (v:Value),cs[i]? = some c → us[i]? = some v → CR ty g H w c v) → (∀ (j id:Nat),(pV ps cs)[j]? = some id → ids[n + j]? = some id) → PF ty g H w ids (kcs.flatMap KC.kinds) vs
 | [],[],n,r,kcs,us,vs,e,hf,hc,hi=>by
  simp only [yX,j8] at e
  subst e
  intro i k u h
  simp at h
 | p :: ps,c :: cs,n,r,kcs,us,vs,e,hf,hc,hi=>by
  have one:∀ (k1:K1) (n' r':Nat) (l:List KC),yX n' r' ps cs=some l → kcs = .one k1 :: l → (∀ (j id:Nat),(pV ps cs)[j]? = some id → ids[n' + j]? = some id) →
    (∀ u,CR ty g H w c u → (∀ m off,k1 = .ptr m off → off=0 ∧ ∃ id,ids[m]? = some id ∧ SR ty g H w (.ptr id 0) u) ∧
     (∀ f caps,k1 = .fn f caps → ∃ caps0:List Nat,SR ty g H w (.fn f caps0) u ∧ caps.length=caps0.length ∧ ∀ (j m:Nat),caps[j]? = some m → ids[m]? = caps0[j]?)) →
    PF ty g H w ids (kcs.flatMap KC.kinds) vs:=by
   intro k1 n' r' l hl hk hids hk1
   subst hk
   match us,hf with
   | u :: us,⟨rr,h1,h2⟩ =>
    subst h1
    have ih:=j5j hl h2 (fun i c v a b=>hc (i + 1) c v a b) hids
    intro i k x hik hix
    simp only [jn,KC.kinds,List.singleton_append] at hik
    cases i with
    | zero =>
     simp only [List.getElem?_cons_zero,j8] at hik hix
     subst hik
     subst hix
     exact hk1 u (hc 0 c u rfl rfl)
    | succ i =>
     simp only [List.getElem?_cons_succ] at hik hix
     exact ih i k x hik hix
  cases p with
  | ct t =>
   simp only [yX] at e
   split at e
   ·rename_i l hl
    simp only [j8] at e
    refine one t.k1 n r l hl e.symm (by simpa [pV] using hi) fun u _=>⟨fun m off h=>absurd h ((CT.k1_plain t).1 m off),fun f caps h=>absurd h ((CT.k1_plain t).2.1 f caps)⟩
   ·simp at e
  | ag ts =>
   simp only [yX] at e
   split at e
   ·rename_i l hl
    simp only [j8] at e
    subst e
    match us,hf with
    | u :: us,⟨x,rr,h1,h2,h3,h4⟩ =>
     subst h3
     have ih:=j5j hl h4 (fun i c v a b=>hc (i + 1) c v a b) (by simpa [pV] using hi)
     intro i k y hik hiy
     simp only [jn,KC.kinds] at hik
     have hlen:(ts.map CT.k1).length=x.length:=h2.symm
     by_cases hlt:i < x.length
     ·rw [List.getElem?_append_left (by omega),List.getElem?_map] at hik
      cases ht:ts[i]? with
      | none=>rw [ht] at hik; simp at hik
      | some t =>
       rw [ht] at hik
       simp only [Option.map_some,j8] at hik
       subst hik
       exact ⟨fun m off h=>absurd h ((CT.k1_plain t).1 m off),fun f caps h=>absurd h ((CT.k1_plain t).2.1 f caps)⟩
     ·rw [List.getElem?_append_right (by omega)] at hik hiy
      rw [hlen] at hik
      exact ih _ k y hik hiy
   ·simp at e
  | mv el =>
   simp only [yX] at e
   split at e
   ·rename_i l hl
    simp only [j8] at e
    exact one (.own el r) n (r + 1) l hl e.symm (by simpa [pV] using hi) fun u _=>⟨fun m off h=>by simp at h,fun f caps h=>by simp at h⟩
   ·simp at e
  | ptr =>
   cases c with
   | one s =>
    cases s with
    | ptr id0 off0 =>
     cases off0 with
     | succ _=>simp [yX] at e
     | zero =>
      simp only [yX] at e
      split at e
      ·rename_i l hl
       simp only [j8] at e
       refine one (.ptr n 0) (n + 1) r l hl e.symm (fun j id hj=>?_) fun u hu=>⟨fun m off h=>?_,fun f caps h=>by simp at h⟩
       ·rw [Nat.add_assoc,Nat.add_comm 1 j]
        exact hi (j + 1) id (by simpa [pV] using hj)
       ·simp only [K1.ptr.injEq] at h
        obtain ⟨rfl,rfl⟩:=h
        exact ⟨rfl,id0,by have:=hi 0 id0 (by simp [pV]); simpa using this,hu⟩
      ·simp at e
    | _=>simp [yX] at e
   | _=>simp [yX] at e
  | fn =>
   cases c with
   | one s =>
    cases s with
    | fn f0 caps0 =>
     simp only [yX] at e
     split at e
     ·rename_i l hl
      simp only [j8] at e
      refine one (.fn f0 (List.range' n caps0.length)) (n + caps0.length) r l hl e.symm (fun j id hj=>?_) fun u hu=>⟨fun m off h=>by simp at h,fun f caps h=>?_⟩
      ·rw [Nat.add_assoc]
       exact hi (caps0.length + j) id (by simp only [pV]; rw [List.getElem?_append_right (by omega),Nat.add_sub_cancel_left]; exact hj)
      ·simp only [K1.fn.injEq] at h
       obtain ⟨rfl,rfl⟩:=h
       refine ⟨caps0,hu,by simp,fun j m hj=>?_⟩
       have hjl:j < caps0.length:=by
        rcases jA j caps0.length with h' | h'
        ·exact h'
        ·rw [List.getElem?_eq_none (by simpa using h')] at hj; simp at hj
       rw [List.getElem?_range' hjl] at hj
       simp only [Nat.one_mul,j8] at hj
       rw [← hj,List.getElem?_eq_getElem hjl]
       exact hi j _ (by simp only [pV]; rw [List.getElem?_append_left hjl,List.getElem?_eq_getElem hjl])
     ·simp at e
    | _=>simp [yX] at e
   | _=>simp [yX] at e
 | [],_ :: _,_,_,_,_,_,e,_,_,_=>by simp [yX] at e
 | p :: _,[],_,_,_,_,_,e,_,_,_=>by cases p <;> simp [yX] at e
theorem j54 {H:List HS}:∀ {ids:List Nat} {kos:List KO},j1X ty H ids=some kos → kos.length=ids.length ∧ (∀ (j:Nat) (k:KO),kos[j]? = some k → ∃ t l,k = .var t l) ∧ (∀ id ∈ ids,kN H id) ∧ ∀ k ∈ kos.flatMap KO.kinds,∃ t:CT,k=t.k1
 | [],kos,e=>by
  simp only [j1X,j8] at e
  subst e
  exact ⟨rfl,fun j k h=>by simp at h,fun _ h=>by simp at h,fun _ h=>by simp at h⟩
 | id :: ids,kos,e=>by
  simp only [j1X] at e
  split at e
  ·rename_i t cs hv
   split at e
   ·rename_i ti l hti hl
    simp only [j8] at e
    subst e
    obtain ⟨h1,h2,h3,h4⟩:=j54 hl
    refine ⟨by simp [h1],fun j k hj=>?_,fun i hi=>?_,fun k hk=>?_⟩
    ·cases j with
     | zero=>simp only [List.getElem?_cons_zero,j8] at hj; exact ⟨_,_,hj.symm⟩
     | succ j=>exact h2 j k (by simpa using hj)
    ·rcases List.mem_cons.1 hi with rfl | hi
     ·exact ⟨_,_,hv⟩
     ·exact h3 i hi
    ·simp only [jn,jC,KO.kinds,List.mem_map] at hk
     rcases hk with ⟨t,_,rfl⟩ | hk
     ·exact ⟨t,rfl⟩
     ·exact h4 k hk
   ·simp at e
  ·simp at e
theorem j5u:∀ {kos:List KO} (n:Nat),(∀ (j:Nat) (k:KO),kos[j]? = some k → ∃ t l,k = .var t l) → KO.vars (kos ++ List.replicate n .u)=kos
 | [],n,_=>by
  cases n <;> simp [KO.vars,List.replicate_succ]
 | k :: kos,n,h=>by
  obtain ⟨t,l,rfl⟩:=h 0 k rfl
  rw [jh,KO.vars,j5u n fun j k hj=>h (j + 1) k (by simpa using hj)]
theorem j7z {g:Gh} {H:List HS} {tm:List C} {a:Act} (h:Rel ty A g ⟨tm,H⟩ a w) (b:Nat → Nat):∀ {ids:List Nat} {kos:List KO} {q:List S} {j0:Nat},Vu H ids kos=some q → (∀ j id,ids[j]? = some id → b (j0 + j)=g.blk id) →
  ∃ us,qr ty g H w q us ∧ OV w b j0 kos us ∧ us.length=(kos.flatMap KO.kinds).length
 | [],[],q,j0,e,hb=>by
  simp only [Vu,j8] at e
  subst e
  exact ⟨[],trivial,rfl,rfl⟩
 | id :: ids,.var t l :: kos,q,j0,e,hb=>by
  simp only [Vu] at e
  split at e
  ·rename_i t' cs hv
   split at e
   ·rename_i hc
    obtain ⟨rfl,hc⟩:=hc
    split at e
    ·rename_i r hr
     simp only [j8] at e
     subst e
     obtain ⟨us,h1,h2,h3⟩:=j7z h b (j0:=j0 + 1) hr fun j i hj=>by
      have:=hb (j + 1) i (by simpa using hj)
      rw [show j0 + 1 + j=j0 + (j + 1) by omega]
      exact this
     obtain ⟨xs,k1,k2,k3,k4⟩:=h.ob id _ hv
     have:=hb 0 id rfl
     rw [Nat.add_zero] at this
     exact ⟨xs ++ us,k2.append h1,⟨xs,us,rfl,by rw [k2.length,hc],by rw [this]; exact k1,k4,h2⟩,by simp [KO.kinds,h3,k2.length,hc]⟩
    ·simp at e
   ·simp at e
  ·simp at e
 | [],_ :: _,_,_,e,_=>by simp [Vu] at e
 | _ :: _,[],_,_,e,_=>by simp [Vu] at e
 | _ :: _,.u :: _,_,_,e,_=>by simp [Vu] at e
theorem j9M {g:Gh} {H:List HS} (b:Nat → Nat) (v:List DC) (ks0:List K1) (rest:List KO):∀ {kos:List KO} {us:List Value} {j0 n id:Nat},OV w b j0 kos us → qr ty g H w (mkL v n (kos.flatMap KO.kinds)) us →
  ∀ (i t:Nat) (cs:List S),i < kos.length → (mkO v ks0 n id (kos ++ rest))[i]? = some (.live (.var t cs)) → ∃ us':List Value,w.heap[b (j0 + i)]? = some (.cells us'.toArray t (0,0)) ∧ qr ty g H w cs us' ∧ ∀ u ∈ us',u.oneCell'=true
 | [],us,j0,n,id,_,_,i,t,cs,hi,_=>by simp at hi
 | .var t l :: kos,us,j0,n,id,⟨u1,u2,h1,h2,h3,h4,h5⟩,hs,i,t',cs,hi,hg=>by
  subst h1
  simp only [jn,KO.kinds,yG] at hs
  obtain ⟨hh1,hh2⟩:=hs.unappend (by rw [yF,h2])
  cases i with
  | zero =>
   simp only [jh,mkO,List.getElem?_cons_zero,j8,HS.live.injEq,Obj'.var.injEq] at hg
   obtain ⟨rfl,rfl⟩:=hg
   exact ⟨u1,h3,hh1,h4⟩
  | succ i =>
   rw [show j0 + (i + 1)=j0 + 1 + i by omega]
   exact j9M b v ks0 rest h5 hh2 i t' cs (by simpa using hi) (by simpa [mkO] using hg)
 | .u :: _,_,_,_,_,h,_,_,_,_,_,_=>h.elim
theorem ja6 (k:K1):k.data.cnt=k.cnt:=by cases k <;> rfl
theorem YY {g g':Gh} {H0 H H':List HS} {v:List DC} (hI:∀ b,g.I b → g'.I b):∀ {n:Nat} {ks:List K1} {us:List Value},FL ty A g H0 H w v n (ks.map K1.data) us →
  (∀ (i e id:Nat) (u:Value),ks[i]? = some (.own e id) → us[i]? = some u → nf H' id ∧ g'.val id=u) →
  (∀ (i m off:Nat) (u:Value),ks[i]? = some (.ptr m off) → us[i]? = some u → SR ty g' H' w (.ptr m off) u) →
  (∀ (i f:Nat) (caps:List Nat) (u:Value),ks[i]? = some (.fn f caps) → us[i]? = some u → SR ty g' H' w (.fn f caps) u) → qr ty g' H' w (mkL v n ks) us
 | _,[],[],_,_,_,_=>trivial
 | n,k :: ks,u :: us,⟨⟨dd,hd,hv,hn⟩,hf⟩,ho,hp,hfn=>by
  have hf':FL ty A g H0 H w v (n + k.cnt) (ks.map K1.data) us:=by rw [← ja6]; exact hf
  refine ⟨?_,YY hI hf' (fun i e id x h1 h2=>ho (i + 1) e id x (by simpa using h1) (by simpa using h2)) (fun i m off x h1 h2=>hp (i + 1) m off x (by simpa using h1) (by simpa using h2))
   (fun i f caps x h1 h2=>hfn (i + 1) f caps x (by simpa using h1) (by simpa using h2))⟩
  have h0:0 < k.data.cnt → v.getD n d0=dd.getD 0 d0:=fun h=>by simpa using hv 0 h
  cases k with
  | u=>trivial
  | b =>
   obtain ⟨x,rfl,rfl⟩:=hn
   simp only [K1.mk,SR]
   rw [h0 (by simp [K1.cnt,K1.data])]
   rfl
  | i kd =>
   obtain ⟨x,rfl,rfl⟩:=hn
   simp only [K1.mk,SR]
   rw [h0 (by simp [K1.cnt,K1.data])]
   rfl
  | s =>
   obtain ⟨x,rfl,rfl⟩:=hn
   simp only [K1.mk,SR]
   rw [h0 (by simp [K1.cnt,K1.data])]
   rfl
  | sl e =>
   obtain ⟨l,F,rfl,h1,h2⟩:=hn
   simp only [K1.mk,SR]
   rw [h0 (by simp [K1.cnt,K1.data])]
   exact ⟨F,h1,fun b hb=>hI b (h2 b hb)⟩
  | own e id =>
   obtain ⟨l,rfl,hl⟩:=hn
   obtain ⟨h1,h2⟩:=ho 0 e id u rfl rfl
   exact ⟨h1,hl.row.one,fun _=>h2.symm⟩
  | ptr m off=>exact hp 0 m off u rfl rfl
  | fn f caps=>exact hfn 0 f caps u rfl rfl
  | nil=>exact hn.2
 | _,[],_ :: _,h,_,_,_=>h.elim
 | _,_ :: _,[],h,_,_,_=>h.elim
theorem Xi (v:List DC) (id:Nat):∀ (n:Nat) (ks:List K1),zC v id n (ks.map K1.data)=zC v id n ks
 | n,[]=>rfl
 | n,k :: ks=>by
  cases k <;> simp only [js,K1.data,zC,K1.cnt,Xi v id]
theorem j2E (id:Nat):∀ (ks:List K1) (us:List Value),qD id (ks.map K1.data) us=qD id ks us
 | [],us=>rfl
 | k :: ks,[]=>by cases k <;> rfl
 | k :: ks,u :: us=>by cases k <;> simp only [js,K1.data,qD,j2E id ks us]
theorem KI {ks:List K1} {i e id:Nat}:(ks.map K1.data)[i]? = some (.own e id) ↔ ks[i]? = some (.own e id):=by
 rw [List.getElem?_map]
 cases h:ks[i]? with
 | none=>simp
 | some k=>cases k <;> simp [K1.data]
end
section
variable {P:Program} {ty:Nat → Option TI} {fn:Nat → Option FI} {cl:Nat → Hint → List DC → Out} {A:An} {w:World}
theorem ZF:∀ kcs:List KC,kcs.flatMap (fun k=>k.data.kinds)=(kcs.flatMap KC.kinds).map K1.data
 | []=>rfl
 | .one k :: l=>by rw [jn,ZF l,jn,List.map_append]; rfl
 | .agg ks :: l=>by rw [jn,ZF l,jn,List.map_append]; rfl
theorem V9 {ks:List K1} (h:∀ k ∈ ks,∃ t:CT,k=t.k1):ks.map K1.data=ks:=by
 induction ks with
 | nil=>rfl
 | cons k ks ih =>
  obtain ⟨t,rfl⟩:=h k (by simp)
  rw [js,(CT.k1_plain t).2.2.1,ih fun k hk=>h k (by simp [hk])]
theorem j8F (n:Nat):(List.replicate n KO.u).flatMap KO.kinds=[]:=by
 induction n with
 | zero=>rfl
 | succ n ih=>rw [List.replicate_succ,jn,ih]; rfl
theorem jar {g:Gh} {H0 H:List HS} {v:List DC}:∀ {n:Nat} {ks:List K1} {us:List Value} {i e id:Nat} {u:Value},FL ty A g H0 H w v n ks us → ks[i]? = some (.own e id) → us[i]? = some u → ∃ l,Loose ty A g (p8 g H0 u) H w e l u
 | _,[],[],i,e,id,u,_,h,_=>by simp at h
 | n,k :: ks,x :: us,0,e,id,u,⟨⟨dd,_,_,hn⟩,_⟩,h1,h2=>by
  simp only [List.getElem?_cons_zero,j8] at h1 h2
  subst h1
  subst h2
  obtain ⟨l,_,hl⟩:=hn
  exact ⟨l,hl⟩
 | n,k :: ks,x :: us,i + 1,e,id,u,⟨_,hf⟩,h1,h2=>by
  simp only [List.getElem?_cons_succ] at h1 h2
  exact jar hf h1 h2
 | _,[],_ :: _,_,_,_,_,h,_,_=>h.elim
 | _,_ :: _,[],_,_,_,_,h,_,_=>h.elim
theorem QJ:∀ {ps:List PK} {cs:List C} {n r:Nat} {l:List KC},ps.all PK.plain=true → yX n r ps cs=some l → pV ps cs=[] ∧ ∀ k ∈ l.flatMap KC.kinds,∃ t:CT,k=t.k1
 | [],[],n,r,l,_,e=>by
  simp only [yX,j8] at e
  subst e
  exact ⟨rfl,fun k h=>by simp at h⟩
 | p :: ps,c :: cs,n,r,l,hp,e=>by
  simp only [List.all_cons,jk] at hp
  cases p with
  | ct t =>
   simp only [yX] at e
   split at e
   ·rename_i l' hl
    simp only [j8] at e
    subst e
    obtain ⟨h1,h2⟩:=QJ hp.2 hl
    refine ⟨by simpa [pV] using h1,fun k hk=>?_⟩
    simp only [jn,KC.kinds,List.singleton_append,List.mem_cons] at hk
    rcases hk with rfl | hk
    ·exact ⟨t,rfl⟩
    ·exact h2 k hk
   ·simp at e
  | ag ts =>
   simp only [yX] at e
   split at e
   ·rename_i l' hl
    simp only [j8] at e
    subst e
    obtain ⟨h1,h2⟩:=QJ hp.2 hl
    refine ⟨by simpa [pV] using h1,fun k hk=>?_⟩
    simp only [jn,KC.kinds,jC,List.mem_map] at hk
    rcases hk with ⟨t,_,rfl⟩ | hk
    ·exact ⟨t,rfl⟩
    ·exact h2 k hk
   ·simp at e
  | _=>simp [PK.plain] at hp
 | [],_ :: _,_,_,_,_,e=>by simp [yX] at e
 | p :: _,[],_,_,_,_,e=>by cases p <;> simp [yX] at e
theorem j4g:∀ {l:List Nat} {i j x:Nat},y6 l=true → l[i]? = some x → l[j]? = some x → i=j
 | [],i,j,x,_,h,_=>by simp at h
 | a :: l,0,0,x,_,_,_=>rfl
 | a :: l,0,j + 1,x,hn,h1,h2=>by
  simp only [List.getElem?_cons_zero,j8] at h1
  simp only [List.getElem?_cons_succ] at h2
  subst h1
  exact absurd (List.mem_of_getElem? h2) (Jw hn).1
 | a :: l,i + 1,0,x,hn,h1,h2=>by
  simp only [List.getElem?_cons_zero,j8] at h2
  simp only [List.getElem?_cons_succ] at h1
  subst h2
  exact absurd (List.mem_of_getElem? h1) (Jw hn).1
 | a :: l,i + 1,j + 1,x,hn,h1,h2=>by
  simp only [List.getElem?_cons_succ] at h1 h2
  rw [j4g (Jw hn).2 h1 h2]
structure Begun (A:An) (g1:Gh) (H1:List HS) (w:World) (ids:List Nat) (Ac:An):Prop where
 w0:Ac.w0=w
 m:Ac.m=ids.length
 pb:∀ (j id:Nat),ids[j]? = some id → Ac.pb j=g1.blk id
 Pv:∀ b,Ac.Pv b → ∃ id ∈ ids,b=g1.blk id
 Pm:∀ b,Ac.Pm b → b < w.heap.size ∧ ¬ g1.I b ∧ (A.w0.heap.size ≤ b ∨ A.Pm b) ∧ ∀ i p,jp H1 i = .live p → ¬ jM g1 i p b
 var:∀ id ∈ ids,kN H1 id
theorem j5D {g:Gh} {tm:List C} {H H1:List HS} {a:Act} (h:Rel ty A g ⟨tm,H⟩ a w) {fi:FI} {as:List C} {vals:List Value} (hv:vals.length=as.length)
  (hc:∀ (i:Nat) (c:C) (v:Value),as[i]? = some c → vals[i]? = some v → CR ty g H w c v) {kcs:List KC} {kos:List KO} {p q:List S} {v0:List DC} {nr:Nat}
  (e1:yX 0 (pV fi.pk as).length fi.pk as=some kcs) (e2:j1X ty H (pV fi.pk as)=some kos) (e3:Jz (kcs.map KC.data) as=some p) (e4:Vu H (pV fi.pk as) kos=some q)
  (e5:pT ty H (kcs.flatMap (fun k=>k.data.kinds) ++ kos.flatMap KO.kinds) (p ++ q)=some (v0,H1)) (hn:y6 (pV fi.pk as)=true) (hok:({ tm:=kcs,ob:=kos ++ List.replicate nr .u }:Hint).ok=true) :
  ∃ (g1:Gh) (Ac:An) (gc:Gh),Rel ty A g1 ⟨tm,H1⟩ a w ∧ Src g g1 H H1 ∧ Begun A g1 H1 w (pV fi.pk as) Ac ∧ Ac.I0=g1.I ∧ (fi.pk.all PK.plain=true → ∀ b,¬ Ac.Pm b) ∧
   Rel ty Ac gc (yD fi { tm:=kcs,ob:=kos ++ List.replicate nr .u } v0) { tmps:=vals.toArray ++ Array.replicate (fi.ntmps - vals.toArray.size) undef,defers:=[] } w ∧ vals.length=kcs.length:=by
 generalize hids:pV fi.pk as=ids at *
 let b:Nat → Nat:=fun j=>g.blk (ids.getD j 0)
 have hb:∀ (j id:Nat),ids[j]? = some id → b j=g.blk id:=fun j id hj=>by simp only [b]; rw [List.getD_eq_getElem?_getD,hj]; rfl
 obtain ⟨vs1,a1,a2⟩:=YO (us:=vals) e3 hv hc
 have a2:=a2.data
 obtain ⟨k1,k2,k3,k4⟩:=j54 e2
 obtain ⟨vs2,b1,b2,b3⟩:=j7z h b (j0:=0) e4 (fun j id hj=>by rw [Nat.zero_add]; exact hb j id hj)
 obtain ⟨g1,r1,s1,f1,ap,l1,o1⟩:=Y8 (H0:=H) [] [] h (fun _ h=>h) (j01 h) (j2u h) (a1.append b1) e5
 have hsd:=zj s1.val s1.dom H
 simp only [jg,jv,jf] at f1
 let hint:Hint:={ tm:=kcs,ob:=kos ++ List.replicate nr .u }
 have hkinds:hint.kinds=kcs.flatMap KC.kinds ++ kos.flatMap KO.kinds:=by simp [Hint.kinds,hint,j8F]
 have hdata:kcs.flatMap (fun k=>k.data.kinds) ++ kos.flatMap KO.kinds=hint.kinds.map K1.data:=by rw [hkinds,List.map_append,ZF,V9 k4]
 rw [hdata] at f1 ap o1
 simp only [Hint.ok,jk,List.all_eq_true] at hok
 obtain ⟨⟨hnd,hidsok⟩,hpids⟩:=hok
 let gc:Gh:={ I:=g1.I,blk:=b,val:=fun id=>qD id hint.kinds (vs1 ++ vs2),dom:=fun id=>p8 g H (qD id hint.kinds (vs1 ++ vs2)) }
 let Ac:An:={ w0:=w,I0:=g1.I,Pv:=fun x=>∃ id ∈ ids,x=g1.blk id,Pm:=fun x=>∃ (i e id:Nat) (u:Value),hint.kinds[i]? = some (.own e id) ∧ (vs1 ++ vs2)[i]? = some u ∧ ZZ g H u e x,m:=ids.length,pb:=b }
 have hloose:∀ (i e id:Nat) (u:Value),hint.kinds[i]? = some (.own e id) → (vs1 ++ vs2)[i]? = some u → ∃ l,Loose ty A g1 (p8 g H u) H1 w e l u:=fun i e id u h1 h2=>by
  obtain ⟨l,hl⟩:=jar f1 (KI.2 h1) h2
  rw [hsd] at hl
  exact ⟨l,hl⟩
 have hvar1:∀ id ∈ ids,kN H1 id:=fun id hid=>s1.var id (k3 id hid)
 have hvarI:∀ id ∈ ids,¬ g1.I (g1.blk id):=by
  intro id hid hI
  obtain ⟨t,cs,hcs⟩:=hvar1 id hid
  exact yo r1 hcs rfl hI
 have hbeg:Begun A g1 H1 w ids Ac:=by
  refine ⟨rfl,rfl,fun j id hj=>by rw [s1.blk]; exact hb j id hj,fun x hx=>hx,fun x hx=>?_,hvar1⟩
  obtain ⟨i,e,id,u,h1,h2,h3⟩:=hx
  obtain ⟨l,hl⟩:=hloose i e id u h1 h2
  refine ⟨?_,hl.own x h3⟩
  obtain ⟨j,p,hj,hp⟩:=o1 i e id u (KI.2 h1) h2 x h3
  exact h.oblk_lt hj hp
 let Hm:=mkO v0 hint.kinds (VB (hint.tm.flatMap KC.kinds)) 0 hint.ob
 have hst:yD fi hint v0=⟨mkT v0 0 kcs ++ List.replicate (fi.ntmps - (mkT v0 0 kcs).length) (.one .undef),Hm ++ List.replicate (fi.nobj - Hm.length) .free⟩:=rfl
 let Hc:=Hm ++ List.replicate (fi.nobj - Hm.length) .free
 have hget:∀ id,((jp Hc id = .dead ∨ jp Hc id = .free) ∧ hint.ob[id]? = none) ∨ (jp Hc id=zC v0 id 0 hint.kinds ∧ hint.ob[id]? = some .u) ∨
   ∃ t l cs,jp Hc id = .live (.var t cs) ∧ hint.ob[id]? = some (.var t l) ∧ Hm[id]? = some (.live (.var t cs)):=by
  intro id
  have hlt:∀ x,Hm[id]? = some x → jp Hc id=x:=by
   intro x hx
   have:id < Hm.length:=by
    rcases jA id Hm.length with h' | h'
    ·exact h'
    ·simp [List.getElem?_eq_none h'] at hx
   simp [jp,Hc,List.getD_eq_getElem?_getD,List.getElem?_append_left this,hx]
  rcases j2x v0 hint.kinds hint.ob (VB (hint.tm.flatMap KC.kinds)) 0 id with ⟨q1,q2⟩ | ⟨q1,q2⟩ | ⟨t,l,cs,q1,q2⟩
  ·refine .inl ⟨?_,q2⟩
   have hge:Hm.length ≤ id:=by
    rcases jA id Hm.length with h' | h'
    ·have:=List.getElem?_eq_getElem h'
     rw [show Hm[id]? = none from q1] at this
     simp at this
    ·exact h'
   simp only [jp,Hc,List.getD_eq_getElem?_getD]
   rw [List.getElem?_append_right hge]
   by_cases hr:id - Hm.length < fi.nobj - Hm.length
   ·right
    rw [List.getElem?_replicate,if_pos hr]
    rfl
   ·left
    rw [List.getElem?_replicate,if_neg hr]
    rfl
  ·exact .inr (.inl ⟨by simpa using hlt _ q1,q2⟩)
  ·exact .inr (.inr ⟨t,l,cs,hlt _ q1,q2,q1⟩)
 have hvarlt:∀ (id t:Nat) (l:List K1),hint.ob[id]? = some (.var t l) → id < ids.length:=by
  intro id t l hid
  rcases jA id kos.length with h' | h'
  ·omega
  ·simp only [hint] at hid
   rw [List.getElem?_append_right h',List.getElem?_replicate] at hid
   split at hid <;> simp at hid
 have hobv:∀ (id:Nat),id < ids.length → ∃ t l,hint.ob[id]? = some (.var t l):=by
  intro id hid
  have h1:id < kos.length:=by omega
  obtain ⟨t,l,ht⟩:=k2 id _ (List.getElem?_eq_getElem h1)
  exact ⟨t,l,by simp only [hint]; rw [List.getElem?_append_left h1,List.getElem?_eq_getElem h1,ht]⟩
 have hnfv:∀ id,id < ids.length → nf Hc id:=by
  intro id hid
  obtain ⟨t,l,hob⟩:=hobv id hid
  rcases hget id with ⟨_,q2⟩ | ⟨_,q2⟩ | ⟨t',l',cs,q1,_⟩
  ·rw [hob] at q2; simp at q2
  ·rw [hob] at q2; simp at q2
  ·exact qj q1
 have hown:∀ (i e id:Nat) (u:Value),hint.kinds[i]? = some (.own e id) → (vs1 ++ vs2)[i]? = some u → nf Hc id ∧ gc.val id=u:=by
  intro i e id u h1 h2
  refine ⟨?_,KD hnd h1 h2⟩
  have hin:=hidsok id (V8 h1)
  rcases hget id with ⟨_,q2⟩ | ⟨q1,q2⟩ | ⟨t,l,cs,q1,q2,_⟩
  ·rw [show (kos ++ List.replicate nr KO.u)[id]? = none from q2] at hin; simp at hin
  ·rcases QH id f1 with ⟨z1,z2⟩ | ⟨e',l,i',z1,_⟩
   ·exact absurd (KI.2 h1) (z2 i e)
   ·rw [Xi] at z1
    exact qj (q1.trans z1)
  ·exact qj q1
 have hpf:PF ty g H w ids hint.kinds (vs1 ++ vs2):=by
  have h1:=j5j (ids:=ids) e1 a2 hc (fun j id hj=>by rw [Nat.zero_add,← hids]; exact hj)
  intro i k u hik hiu
  rw [hkinds] at hik
  have hl:=a2.length.2
  rcases jA i (kcs.flatMap KC.kinds).length with h' | h'
  ·rw [List.getElem?_append_left h'] at hik
   rw [List.getElem?_append_left (by omega)] at hiu
   exact h1 i k u hik hiu
  ·rw [List.getElem?_append_right h'] at hik
   obtain ⟨t,rfl⟩:=k4 k (List.mem_of_getElem? hik)
   exact ⟨fun m off h=>absurd h ((CT.k1_plain t).1 m off),fun f caps h=>absurd h ((CT.k1_plain t).2.1 f caps)⟩
 have hsrl:qr ty gc Hc w (mkL v0 0 hint.kinds) (vs1 ++ vs2):=by
  refine YY (g:=g1) (g':=gc) (fun _ h=>h) f1 hown (fun i m off u h1 h2=>?_) (fun i f caps u h1 h2=>?_)
  ·obtain ⟨rfl,id,hid,hs⟩:=(hpf i _ u h1 h2).1 m off rfl
   have hm:m < ids.length:=by
    rcases jA m ids.length with h' | h'
    ·exact h'
    ·simp [List.getElem?_eq_none h'] at hid
   refine ⟨hnfv m hm,hs.2.1,fun _=>?_⟩
   have:=hs.2.2 (k3 id (List.mem_of_getElem? hid))
   rw [this]
   simp only [gc]
   rw [hb m id hid]
  ·obtain ⟨caps0,⟨xs,x1,x2,x3⟩,hl,hcap⟩:=(hpf i _ u h1 h2).2 f caps rfl
   refine ⟨xs,x1,by omega,fun j m hj=>?_⟩
   have hjl:j < caps0.length:=by
    rcases jA j caps0.length with h' | h'
    ·exact h'
    ·rw [List.getElem?_eq_none (by omega)] at hj; simp at hj
   have h0:=hcap j m hj
   rw [List.getElem?_eq_getElem hjl] at h0
   have hm:m < ids.length:=by
    rcases jA m ids.length with h' | h'
    ·exact h'
    ·simp [List.getElem?_eq_none h'] at h0
   refine ⟨hnfv m hm,fun _=>?_⟩
   have:=(x3 j _ (List.getElem?_eq_getElem hjl)).2 (k3 _ (List.mem_of_getElem? h0))
   rw [this]
   simp only [gc]
   rw [hb m _ h0]
 rw [hkinds,yG,Nat.zero_add] at hsrl
 obtain ⟨t1,t2⟩:=hsrl.unappend (by rw [a2.length.2,yF])
 obtain ⟨c1,c2⟩:=KZ.mkT v0 0 a2 t1
 have hobj:∀ id o,jp Hc id = .live o → (∃ t cs us,o = .var t cs ∧ w.heap[b id]? = some (.cells us.toArray t (0,0)) ∧ qr ty gc Hc w cs us ∧ (∀ u ∈ us,u.oneCell'=true) ∧ ∃ i,ids[id]? = some i) ∨
   ∃ (e:Nat) (l:List (List DC)) (i:Nat),o=kS e l ∧ Loose ty A g1 (gc.dom id) H1 w e l (gc.val id) ∧ hint.kinds[i]? = some (.own e id) ∧ (vs1 ++ vs2)[i]? = some (gc.val id):=by
  intro id o ho
  rcases hget id with ⟨q1 | q1,_⟩ | ⟨q1,_⟩ | ⟨t,l,cs,q1,q2,q3⟩
  ·rw [q1] at ho; simp at ho
  ·rw [q1] at ho; simp at ho
  ·rcases QH id f1 with ⟨z1,_⟩ | ⟨e,l,i,z1,z2,z3,z4⟩
   ·rw [Xi] at z1
    rw [q1,z1] at ho; simp at ho
   ·rw [Xi] at z1
    rw [j2E] at z2 z4
    rw [hsd] at z2
    rw [q1,z1] at ho
    simp only [HS.live.injEq] at ho
    exact .inr ⟨e,l,i,ho.symm,z2,KI.1 z3,z4⟩
  ·rw [q1] at ho
   simp only [HS.live.injEq] at ho
   have hlt:=hvarlt id t l q2
   obtain ⟨us,u1,u2,u3⟩:=j9M b v0 hint.kinds (List.replicate nr .u) b2 t2 id t cs (by omega) q3
   rw [Nat.zero_add] at u1
   exact .inl ⟨t,cs,us,ho.symm,u1,u2,u3,ids[id],List.getElem?_eq_getElem hlt⟩
 refine ⟨g1,Ac,gc,r1,s1,hbeg,rfl,fun hpl x hx=>?_,?_,a2.length.1⟩
 ·obtain ⟨i,e,id,u,h1,_⟩:=hx
  have hp:=(QJ hpl e1).2
  rw [hkinds] at h1
  have:=List.mem_of_getElem? h1
  rw [jC] at this
  rcases this with hk | hk
  ·obtain ⟨t,ht⟩:=hp _ hk
   cases t <;> simp [CT.k1] at ht
  ·obtain ⟨t,ht⟩:=k4 _ hk
   cases t <;> simp [CT.k1] at ht
 ·rw [hst]
  refine ⟨?_,fun i c x h1 h2=>?_,fun id o ho=>?_,fun i j o p x hij hi hj hx hx'=>?_,r1.lt,fun x hx=>.inl hx,fun id o x ho hx=>?_,fun j hj=>hnfv j hj,fun j hj hvj=>rfl,⟨rfl,rfl,rfl,Nat.le_refl _,fun _ _ _ _=>rfl⟩,rfl⟩
  ·simp [c1]
  ·simp only [Array.getElem?_append,List.size_toArray,List.getElem?_toArray] at h2
   rcases jA i (mkT v0 0 kcs).length with h' | h'
   ·rw [List.getElem?_append_left h'] at h1
    rw [if_pos (by omega)] at h2
    exact c2 i c x h1 h2
   ·rw [List.getElem?_append_right h',List.getElem?_replicate] at h1
    split at h1
    ·simp only [j8] at h1
     subst h1
     trivial
    ·simp at h1
  ·rcases hobj id o ho with ⟨t,cs,us,rfl,q1,q2,q3,i,q4⟩ | ⟨e,l,i,rfl,q1,q2,q3⟩
   ·refine ⟨us,q1,q2,?_,q3⟩
    have:=hvarI i (List.mem_of_getElem? q4)
    simp only [gc]
    rw [hb id i q4,← s1.blk]
    exact this
   ·exact yR.or q1.row fun x hx=>(q1.own x hx).1
  ·rcases hobj i o hi with ⟨t,cs,us,rfl,q1,q2,q3,n,q4⟩ | ⟨e,l,n,rfl,q1,q2,q3⟩
   ·rcases hobj j p hj with ⟨t',cs',us',rfl,q1',q2',q3',n',q4'⟩ | ⟨e',l',n',rfl,q1',q2',q3'⟩
    ·obtain ⟨tx,cx,hx1⟩:=k3 n (List.mem_of_getElem? q4)
     obtain ⟨ty',cy,hy1⟩:=k3 n' (List.mem_of_getElem? q4')
     have hne:n ≠ n':=by
      rintro rfl
      exact hij (j4g hn q4 q4')
     have hx:b i=x:=hx
     have hx':b j=x:=hx'
     rw [hb i n q4] at hx
     rw [hb j n' q4'] at hx'
     exact h.sep n n' _ _ x hne hx1 hy1 (show jM g n (.var tx cx) x from hx) (show jM g n' (.var ty' cy) x from hx')
    ·obtain ⟨tx,cx,hx1⟩:=hvar1 n (List.mem_of_getElem? q4)
     refine (q1'.own x (pw.1 hx')).2.2 n _ hx1 ?_
     have hx:b i=x:=hx
     rw [hb i n q4] at hx
     show g1.blk n=x
     rw [s1.blk]
     exact hx
   ·rcases hobj j p hj with ⟨t',cs',us',rfl,q1',q2',q3',n',q4'⟩ | ⟨e',l',n',rfl,q1',q2',q3'⟩
    ·obtain ⟨tx,cx,hx1⟩:=hvar1 n' (List.mem_of_getElem? q4')
     refine (q1.own x (pw.1 hx)).2.2 n' _ hx1 ?_
     have hx':b j=x:=hx'
     rw [hb j n' q4'] at hx'
     show g1.blk n'=x
     rw [s1.blk]
     exact hx'
    ·rcases Nat.lt_trichotomy n n' with hlt | rfl | hlt
     ·exact QK ap (KI.2 q2) q3 (KI.2 q2') q3' hlt x (pw.1 hx) (pw.1 hx')
     ·rw [q2] at q2'
      simp only [j8,K1.own.injEq] at q2'
      exact hij q2'.2
     ·exact QK ap (KI.2 q2') q3' (KI.2 q2) q3 hlt x (pw.1 hx') (pw.1 hx)
  ·rcases hobj id o ho with ⟨t,cs,us,rfl,q1,q2,q3,i,q4⟩ | ⟨e,l,i,rfl,q1,q2,q3⟩
   ·have hx:b id=x:=hx
    exact .inr ⟨i,List.mem_of_getElem? q4,by rw [← hx,s1.blk]; exact hb id i q4⟩
   ·exact j52 (.inr ⟨i,e,id,_,q2,q3,pw.1 hx⟩)
end
section
variable {P:Program} {ty:Nat → Option TI} {fn:Nat → Option FI} {cl:Nat → Hint → List DC → Out} {A:An} {w:World}
theorem j6E {g:Gh} {H0 H:List HS} {v:List DC}:∀ {n:Nat} {ks ks':List K1} {us us':List Value},FL ty A g H0 H w v n (ks ++ ks') (us ++ us') → us.length=ks.length → FL ty A g H0 H w v n ks us ∧ FL ty A g H0 H w v (n + VB ks) ks' us'
 | n,[],ks',[],us',h,_=>⟨trivial,h⟩
 | n,k :: ks,ks',u :: us,us',⟨h1,h2⟩,hl=>by
  obtain ⟨a,b⟩:=j6E (ks:=ks) (us:=us) h2 (by simpa using hl)
  exact ⟨⟨h1,a⟩,by rw [VB,← Nat.add_assoc]; exact b⟩
 | _,[],_,_ :: _,_,_,hl=>by simp at hl
 | _,_ :: _,_,[],_,_,hl=>by simp at hl
theorem j06 (r:RK) (i:Nat):(r.k1 i).cnt=1:=by
 cases r with
 | ct c=>cases c <;> rfl
 | new e=>rfl
theorem YQ:∀ (l:List RK) (i:Nat),(rkK i l).length=l.length ∧ VB (rkK i l)=l.length
 | [],i=>⟨rfl,rfl⟩
 | r :: l,i=>by
  obtain ⟨a,b⟩:=YQ l (r.nx i)
  exact ⟨by simp [rkK,a],by simp [rkK,VB,b,j06]; omega⟩
theorem j2R:∀ (l m:List RK) (i:Nat),rkK i (l ++ m)=rkK i l ++ rkK (rkN i l) m
 | [],m,i=>rfl
 | r :: l,m,i=>by simp [rkK,rkN,j2R l m (r.nx i)]
theorem jbl {g:Gh} {H0 H:List HS} {v:List DC} {X:List K1}:∀ {L:List RK} {i j n:Nat} {us:List Value},FL ty A g H0 H w v n (rkK i L ++ X) us → FL ty A g H0 H w v n (rkK j L ++ X) us
 | [],i,j,n,us,h=>h
 | r :: L,i,j,n,[],h=>h.elim
 | r :: L,i,j,n,u :: us,h=>by
  simp only [rkK,jh] at h ⊢
  obtain ⟨⟨dd,h1,h2,h3⟩,h4⟩:=h
  rw [j06] at h1 h2 h4
  refine ⟨⟨dd,by rw [j06]; exact h1,by rw [j06]; exact h2,?_⟩,by rw [j06]; exact jbl h4⟩
  cases r with
  | ct c=>exact h3
  | new e=>exact h3
theorem j9F {X:List K1}:∀ {L:List RK} {i j n e id:Nat},(rkK i L ++ X)[n]? = some (.own e id) → ∃ id',(rkK j L ++ X)[n]? = some (.own e id')
 | [],i,j,n,e,id,h=>⟨id,h⟩
 | r :: L,i,j,0,e,id,h=>by
  simp only [rkK,jh,List.getElem?_cons_zero,j8] at h ⊢
  cases r with
  | ct c=>cases c <;> simp [RK.k1,CT.k1] at h
  | new e' =>
   simp only [RK.k1,K1.own.injEq] at h ⊢
   exact ⟨j,h.1,rfl⟩
 | r :: L,i,j,n + 1,e,id,h=>by
  simp only [rkK,jh,List.getElem?_cons_succ] at h ⊢
  exact j9F h
theorem j3w {B:Value → Nat → Nat → Prop} {X:List K1}:∀ {L:List RK} {i j:Nat} {us:List Value},Zx B (rkK i L ++ X) us → Zx B (rkK j L ++ X) us
 | [],i,j,us,h=>h
 | r :: L,i,j,[],h=>by
  simp only [rkK,jh]
  cases r with
  | ct c=>cases c <;> trivial
  | new e=>trivial
 | r :: L,i,j,u :: us,h=>by
  simp only [rkK,jh] at h ⊢
  cases r with
  | ct c=>cases c <;> exact j3w (i:=i) (j:=j) h
  | new e =>
   refine ⟨fun b hb n e' id x hn hx=>?_,j3w (i:=i + 1) h.2⟩
   obtain ⟨id',hn'⟩:=j9F (j:=i + 1) hn
   exact h.1 b hb n e' id' x hn' hx
theorem j5L:∀ {L:List RK} {i:Nat} {k:K1},k ∈ rkK i L → (∃ t:CT,k=t.k1) ∨ ∃ e id,k = .own e id
 | [],i,k,h=>by simp [rkK] at h
 | r :: L,i,k,h=>by
  simp only [rkK,List.mem_cons] at h
  rcases h with rfl | h
  ·cases r with
   | ct c=>exact .inl ⟨c,rfl⟩
   | new e=>exact .inr ⟨e,i,rfl⟩
  ·exact j5L h
theorem j68 {ks:List K1} (h:∀ k ∈ ks,(∃ t:CT,k=t.k1) ∨ ∃ e id,k = .own e id):ks.map K1.data=ks:=by
 induction ks with
 | nil=>rfl
 | cons k ks ih =>
  rw [js,ih fun k hk=>h k (by simp [hk])]
  rcases h k (by simp) with ⟨t,rfl⟩ | ⟨e,id,rfl⟩
  ·rw [(CT.k1_plain t).2.2.1]
  ·rfl
theorem Y3 (v:List DC):∀ {ks:List K1} {n:Nat} {H H2:List HS},pY v n ks H=some H2 →
  y6 (ks.flatMap K1.ids)=true ∧ (∀ id ∈ ks.flatMap K1.ids,jp H id = .free ∧ jp H2 id=zC v id n ks) ∧ ∀ id,id ∉ ks.flatMap K1.ids → jp H2 id=jp H id
 | [],n,H,H2,e=>by
  simp only [pY,j8] at e
  subst e
  exact ⟨rfl,fun id h=>by simp at h,fun id _=>rfl⟩
 | k :: ks,n,H,H2,e=>by
  have other:pY v (n + k.cnt) ks H=some H2 → k.ids=[] → (∀ id,zC v id n (k :: ks)=zC v id (n + k.cnt) ks) →
    y6 ((k :: ks).flatMap K1.ids)=true ∧ (∀ id ∈ (k :: ks).flatMap K1.ids,jp H id = .free ∧ jp H2 id=zC v id n (k :: ks)) ∧ ∀ id,id ∉ (k :: ks).flatMap K1.ids → jp H2 id=jp H id:=by
   intro h1 h2 h3
   obtain ⟨a,b,c⟩:=Y3 v h1
   rw [jn,h2,jg]
   exact ⟨a,fun id hid=>⟨(b id hid).1,by rw [h3]; exact (b id hid).2⟩,c⟩
  cases k with
  | own e' id0 =>
   simp only [pY] at e
   split at e
   ·rename_i hf
    obtain ⟨a,b,c⟩:=Y3 v e
    have hlt:=kM hf
    have hnot:id0 ∉ ks.flatMap K1.ids:=by
     intro hmem
     have:=(b id0 hmem).1
     rw [jt _ hlt] at this
     simp at this
    have hne:∀ id ∈ ks.flatMap K1.ids,id0 ≠ id:=fun id hid h=>hnot (h ▸ hid)
    refine ⟨?_,fun id hid=>?_,fun id hid=>?_⟩
    ·simp only [jn,K1.ids,List.singleton_append,y6,jk,Bool.not_eq_true',List.contains_eq_mem,decide_eq_false_iff_not]
     exact ⟨hnot,a⟩
    ·simp only [jn,K1.ids,List.singleton_append,List.mem_cons] at hid
     rcases hid with rfl | hid
     ·refine ⟨hf,?_⟩
      rw [c id hnot,jt _ hlt,zC,if_pos rfl]
     ·obtain ⟨b1,b2⟩:=b id hid
      rw [jo _ (hne id hid)] at b1
      refine ⟨b1,?_⟩
      rw [b2,zC,if_neg (hne id hid)]
    ·simp only [jn,K1.ids,List.singleton_append,List.mem_cons,not_or] at hid
     rw [c id hid.2,jo _ fun h=>hid.1 h.symm]
   ·simp at e
  | _=>exact other e rfl fun _=>rfl
theorem J3 (v:List DC):∀ {ids:List Nat} {kos:List KO} {n:Nat} {H:List HS} {id:Nat},id ∉ ids → jp (qU v n ids kos H) id=jp H id
 | [],kos,n,H,id,_=>by cases kos <;> rfl
 | i :: ids,[],n,H,id,_=>rfl
 | i :: ids,.u :: kos,n,H,id,_=>rfl
 | i :: ids,.var t l :: kos,n,H,id,h=>by
  simp only [List.mem_cons,not_or] at h
  rw [qU,J3 v h.2,jo _ fun k=>h.1 k.symm]
theorem j1G (v:List DC) {g:Gh} {H':List HS} (b blk:Nat → Nat):∀ {ids:List Nat} {kos:List KO} {n j0:Nat} {H:List HS} {us:List Value},y6 ids=true → OV w b j0 kos us → qr ty g H' w (mkL v n (kos.flatMap KO.kinds)) us →
  (∀ j id,ids[j]? = some id → b (j0 + j)=blk id) → kos.length=ids.length → (∀ id ∈ ids,id < H.length) →
  ∀ id ∈ ids,∃ (t:Nat) (cs:List S) (us':List Value),jp (qU v n ids kos H) id = .live (.var t cs) ∧ w.heap[blk id]? = some (.cells us'.toArray t (0,0)) ∧ qr ty g H' w cs us' ∧ ∀ u ∈ us',u.oneCell'=true
 | [],kos,n,j0,H,us,_,_,_,_,_,_=>fun id h=>by simp at h
 | i :: ids,[],n,j0,H,us,_,_,_,_,hl,_=>by simp at hl
 | i :: ids,.u :: kos,n,j0,H,us,_,h,_,_,_,_=>h.elim
 | i :: ids,.var t l :: kos,n,j0,H,us,hn,⟨u1,u2,h1,h2,h3,h4,h5⟩,hs,hb,hl,hlt=>by
  subst h1
  simp only [jn,KO.kinds,yG] at hs
  obtain ⟨hh1,hh2⟩:=hs.unappend (by rw [yF,h2])
  obtain ⟨n1,n2⟩:=Jw hn
  intro id hid
  rcases List.mem_cons.1 hid with rfl | hid
  ·refine ⟨t,mkL v n l,u1,?_,?_,hh1,h4⟩
   ·rw [qU,J3 v n1,jt _ (hlt id (by simp))]
   ·have:=hb 0 id rfl
    rw [Nat.add_zero] at this
    rw [← this]
    exact h3
  ·rw [qU]
   exact j1G v b blk n2 h5 hh2 (fun j k hj=>by
    have:=hb (j + 1) k (by simpa using hj)
    rw [show j0 + 1 + j=j0 + (j + 1) by omega]
    exact this) (by simpa using hl) (fun k hk=>by simp only [jB,List.length_set]; exact hlt k (by simp [hk])) id hid
theorem j7B {g:Gh} {H:List HS} (v:List DC):∀ {rk:List (Bool × List RK)} {vs us:List Value} {n id:Nat},RVs rk vs us → qr ty g H w (mkL v n (rkK id (rk.flatMap Prod.snd))) us →
  vs.length=(j3E v n id rk).length ∧ ∀ (i:Nat) (a:Bool) (ss:List S) (u:Value),(j3E v n id rk)[i]? = some (a,ss) → vs[i]? = some u →
   (a=true → ∃ us:List Value,u = .agg us.toArray ∧ qr ty g H w ss us) ∧ (a=false → SR ty g H w (ss.headD .undef) u)
 | [],[],us,n,id,_,_=>⟨rfl,fun i a ss u h=>by simp [j3E] at h⟩
 | (a,l) :: rk,x :: vs,us,n,id,⟨u1,u2,h1,h2,h3,h4,h5⟩,hs=>by
  subst h1
  simp only [jn,j2R,yG,(YQ l id).2] at hs
  obtain ⟨hh1,hh2⟩:=hs.unappend (by rw [yF,(YQ l id).1,h2])
  obtain ⟨q1,q2⟩:=j7B v h5 hh2
  refine ⟨by simp [j3E,q1],fun i a' ss u hi hu=>?_⟩
  cases i with
  | zero =>
   simp only [j3E,List.getElem?_cons_zero,j8,ji] at hi hu
   obtain ⟨rfl,rfl⟩:=hi
   subst hu
   refine ⟨fun ha=>⟨u1,h3 ha,hh1⟩,fun ha=>?_⟩
   have:=h4 ha
   subst this
   exact hh1.head
  | succ i =>
   simp only [j3E,List.getElem?_cons_succ] at hi hu
   exact q2 i a' ss u hi hu
 | [],_ :: _,_,_,_,h,_=>h.elim
 | _ :: _,[],_,_,_,h,_=>h.elim
theorem jaJ {g:Gh} {H:List HS} (v:List DC) {rk:List (Bool × List RK)} {vs us:List Value} {id:Nat} (h:RVs rk vs us) (hs:qr ty g H w (mkL v 0 (zT id rk)) us):CR ty g H w (j71 v id rk) (Xa vs):=by
 obtain ⟨q1,q2⟩:=j7B v h hs
 match rk,vs,h with
 | [(a,l)],[x],h =>
  obtain ⟨h3,h4⟩:=q2 0 a (mkL v 0 (rkK id l)) x rfl rfl
  simp only [j71,Xa]
  cases a with
  | true =>
   obtain ⟨us,k1,k2⟩:=h3 rfl
   exact ⟨us,k1,k2⟩
  | false=>exact h4 rfl
 | [],vs,h =>
  have:vs=[]:=by
   cases vs with
   | nil=>rfl
   | cons _ _=>exact h.elim
  subst this
  exact ⟨[],rfl,q1,q2⟩
 | x :: y :: rk,vs,h =>
  match vs,q1 with
  | [],q1=>simp [j3E] at q1
  | [_],q1=>simp [j3E] at q1
  | v1 :: v2 :: vs,q1=>exact ⟨_,rfl,q1,q2⟩
 | [(a,l)],[],h=>exact h.elim
 | [(a,l)],_ :: _ :: _,⟨_,_,_,_,_,_,h⟩=>exact h.elim
theorem j3s {gB:Gh} {tm:List C} {HB:List HS} {a:Act} (h:Rel ty A gB ⟨tm,HB⟩ a w) {ids:List Nat} {Ac:An} (hbeg:Begun A gB HB w ids Ac) {kos:List KO} {rk:List (Bool × List RK)} {r:List DC} {vs us1 us2:List Value} {gr:Gh} {H0r H1r:List HS} {w':World}
  (hkl:kos.length=ids.length) (hkc:∀ k ∈ kos.flatMap KO.kinds,∃ t:CT,k=t.k1) (hrv:RVs rk vs us1) (hov:OV w' Ac.pb 0 kos us2) (hfl:FL ty Ac gr H0r H1r w' r 0 (zT 0 rk ++ kos.flatMap KO.kinds) (us1 ++ us2))
  (hap:Zx (ZZ gr H0r) (zT 0 rk ++ kos.flatMap KO.kinds) (us1 ++ us2)) (hI:∀ b,gB.I b → gr.I b) (hIr:∀ b,gr.I b → b < w'.heap.size ∧ (gB.I b ∨ w.heap.size ≤ b ∨ Ac.Pm b)) (hpb:∀ j,j < ids.length → ¬ gr.I (Ac.pb j))
  (hlive:∀ j,j < ids.length → ∃ o,jp H1r j = .live o ∧ jM gr j o (Ac.pb j)) (hkeep:Keep Ac w') (hnd:y6 ids=true) (hus1:us1.length=(zT 0 rk).length) {base:Nat} {H2:List HS}
  (hput:pY r 0 (zT base rk) (qU r (VB (zT base rk)) ids kos HB)=some H2) :
  ∃ g2,Rel ty A g2 ⟨tm,H2⟩ a w' ∧ (∀ b,gB.I b → g2.I b) ∧ CR ty g2 H2 w' (j71 r base rk) (Xa vs):=by
 let ks:=zT base rk
 have hfl':FL ty Ac gr H0r H1r w' r 0 (ks ++ kos.flatMap KO.kinds) (us1 ++ us2):=jbl hfl
 have hap':Zx (ZZ gr H0r) (ks ++ kos.flatMap KO.kinds) (us1 ++ us2):=j3w hap
 have hus1':us1.length=ks.length:=by rw [hus1]; simp only [ks,zT]; rw [(YQ _ _).1,(YQ _ _).1]
 obtain ⟨f1,f2⟩:=j6E hfl' hus1'
 rw [Nat.zero_add] at f2
 obtain ⟨n1,n2,n3⟩:=Y3 r hput
 let g2:Gh:={ I:=gr.I,blk:=gB.blk,val:=fun id=>if (ks.flatMap K1.ids).contains id=true then qD id ks us1 else gB.val id,dom:=fun id=>if (ks.flatMap K1.ids).contains id=true then p8 gr H0r (qD id ks us1) else gB.dom id }
 have hmem:∀ id,(ks.flatMap K1.ids).contains id=true ↔ id ∈ ks.flatMap K1.ids:=fun id=>by simp
 have hvlt:∀ id ∈ ids,id < HB.length:=fun id hid=>by
  obtain ⟨t,cs,hc⟩:=hbeg.var id hid
  exact jF hc
 have hkk:∀ k ∈ ks,(∃ t:CT,k=t.k1) ∨ ∃ e id,k = .own e id:=fun k hk=>j5L hk
 have hkr:ks.map K1.data=ks:=j68 hkk
 have hrow:∀ id ∈ ks.flatMap K1.ids,∃ (e:Nat) (l:List (List DC)) (i:Nat),jp H2 id = .live (kS e l) ∧ Loose ty Ac gr (g2.dom id) H1r w' e l (g2.val id) ∧ ks[i]? = some (.own e id) ∧ us1[i]? = some (g2.val id):=by
  intro id hid
  rcases QH id f1 with ⟨z1,z2⟩ | ⟨e,l,i,z1,z2,z3,z4⟩
  ·exfalso
   obtain ⟨k,hk,hkid⟩:=List.mem_flatMap.1 hid
   cases k with
   | own e i =>
    simp only [K1.ids,List.mem_singleton] at hkid
    subst hkid
    obtain ⟨j,hj⟩:=List.getElem?_of_mem hk
    exact z2 j e hj
   | _=>simp [K1.ids] at hkid
  ·have hv:g2.val id=qD id ks us1:=by simp only [g2]; rw [if_pos ((hmem id).2 hid)]
   have hd:g2.dom id=p8 gr H0r (qD id ks us1):=by simp only [g2]; rw [if_pos ((hmem id).2 hid)]
   exact ⟨e,l,i,(n2 id hid).2.trans z1,by rw [hv,hd]; exact z2,z3,by rw [hv]; exact z4⟩
 have hnew:∀ id ∈ ks.flatMap K1.ids,id ∉ ids ∧ jp HB id = .free:=by
  intro id hid
  have hf:=(n2 id hid).1
  have hno:id ∉ ids:=by
   intro hin
   have key:∀ {ids:List Nat} {kos:List KO} {n:Nat} {H:List HS},kos.length=ids.length → (∀ k ∈ kos,∃ t l,k=KO.var t l) → (∀ i ∈ ids,i < H.length) → id ∈ ids → jp (qU r n ids kos H) id ≠ .free:=by
    intro ids
    induction ids with
    | nil=>intro kos n H _ _ _ h; simp at h
    | cons i ids ih =>
     intro kos n H hl hk hlt hin
     cases kos with
     | nil=>simp at hl
     | cons k kos =>
      obtain ⟨t,l,rfl⟩:=hk k (by simp)
      rw [qU]
      by_cases hids:id ∈ ids
      ·exact ih (by simpa using hl) (fun k hk'=>hk k (by simp [hk'])) (fun i hi=>by simp only [jB,List.length_set]; exact hlt i (by simp [hi])) hids
      ·rcases List.mem_cons.1 hin with rfl | h'
       ·rw [J3 r hids,jt _ (hlt id (by simp))]
        simp
       ·exact absurd h' hids
   refine key hkl (fun k hk=>?_) hvlt hin hf
   obtain ⟨j,hj⟩:=List.getElem?_of_mem hk
   cases k with
   | var t l=>exact ⟨t,l,rfl⟩
   | u =>
    exfalso
    have:∀ {kos:List KO} {us:List Value} {j0:Nat},OV w' Ac.pb j0 kos us → KO.u ∉ kos:=by
     intro kos
     induction kos with
     | nil=>intro us j0 _ h; simp at h
     | cons k kos ih =>
      intro us j0 h hm
      cases k with
      | u=>exact h.elim
      | var t l =>
       obtain ⟨u1,u2,_,_,_,_,h5⟩:=h
       rcases List.mem_cons.1 hm with hm | hm
       ·simp at hm
       ·exact ih h5 hm
    exact this hov hk
  rw [J3 r hno] at hf
  exact ⟨hno,hf⟩
 have hval:∀ id,id ∉ ks.flatMap K1.ids → g2.val id=gB.val id:=by
  intro id hid
  simp only [g2]
  rw [if_neg (by rw [hmem]; exact hid)]
 have hdom:∀ id,id ∉ ks.flatMap K1.ids → g2.dom id=gB.dom id:=by
  intro id hid
  simp only [g2]
  rw [if_neg (by rw [hmem]; exact hid)]
 have hvb:∀ id ∈ ks.flatMap K1.ids,∀ e b,ZH (g2.dom id) (g2.val id) e b → ZZ gr H0r (g2.val id) e b:=by
  intro id hid e b hb
  have hv:g2.val id=qD id ks us1:=by simp only [g2]; rw [if_pos ((hmem id).2 hid)]
  have hd:g2.dom id=p8 gr H0r (qD id ks us1):=by simp only [g2]; rw [if_pos ((hmem id).2 hid)]
  unfold ZZ
  rw [hd,← hv] at hb
  exact hb
 have hown2:∀ (i e id:Nat) (u:Value),ks[i]? = some (.own e id) → us1[i]? = some u → nf H2 id ∧ g2.val id=u:=by
  intro i e id u h1 h2
  have hin:=V8 h1
  obtain ⟨e',l,i',z1,_,z3,z4⟩:=hrow id hin
  refine ⟨qj z1,?_⟩
  simp only [g2]
  rw [if_pos ((hmem id).2 hin)]
  exact KD n1 h1 h2
 have hs1:qr ty g2 H2 w' (mkL r 0 ks) us1:=YY (g:=gr) (g':=g2) (fun _ h=>h) (by rw [hkr]; exact f1) hown2
  (fun i m off u h1 h2=>by
   rcases hkk _ (List.mem_of_getElem? h1) with ⟨t,ht⟩ | ⟨e,id,ht⟩
   ·exact absurd ht.symm ((CT.k1_plain t).1 m off)
   ·simp at ht)
  (fun i f caps u h1 h2=>by
   rcases hkk _ (List.mem_of_getElem? h1) with ⟨t,ht⟩ | ⟨e,id,ht⟩
   ·exact absurd ht.symm ((CT.k1_plain t).2.1 f caps)
   ·simp at ht)
 have hs2:qr ty g2 H2 w' (mkL r (VB ks) (kos.flatMap KO.kinds)) us2:=YY (g:=gr) (g':=g2) (fun _ h=>h) (by rw [V9 hkc]; exact f2)
  (fun i e id u h1 h2=>by
   obtain ⟨t,ht⟩:=hkc _ (List.mem_of_getElem? h1)
   cases t <;> simp [CT.k1] at ht)
  (fun i m off u h1 h2=>by
   obtain ⟨t,ht⟩:=hkc _ (List.mem_of_getElem? h1)
   exact absurd ht.symm ((CT.k1_plain t).1 m off))
  (fun i f caps u h1 h2=>by
   obtain ⟨t,ht⟩:=hkc _ (List.mem_of_getElem? h1)
   exact absurd ht.symm ((CT.k1_plain t).2.1 f caps))
 have hvars:∀ id ∈ ids,∃ (t:Nat) (cs:List S) (us':List Value),jp H2 id = .live (.var t cs) ∧ w'.heap[gB.blk id]? = some (.cells us'.toArray t (0,0)) ∧ qr ty g2 H2 w' cs us' ∧ ∀ u ∈ us',u.oneCell'=true:=by
  intro id hid
  obtain ⟨t,cs,us',z1,z2⟩:=j1G r (w:=w') (g:=g2) (H':=H2) Ac.pb gB.blk hnd hov hs2 (fun j i hj=>by rw [Nat.zero_add]; exact hbeg.pb j i hj) hkl hvlt id hid
  refine ⟨t,cs,us',?_,z2⟩
  rw [n3 id (fun hin=>(hnew id hin).1 hid)]
  exact z1
 have hcase:∀ id,(id ∈ ks.flatMap K1.ids) ∨ (id ∈ ids ∧ id ∉ ks.flatMap K1.ids) ∨ (id ∉ ids ∧ id ∉ ks.flatMap K1.ids ∧ jp H2 id=jp HB id):=by
  intro id
  by_cases h1:id ∈ ks.flatMap K1.ids
  ·exact .inl h1
  ·by_cases h2:id ∈ ids
   ·exact .inr (.inl ⟨h2,h1⟩)
   ·refine .inr (.inr ⟨h2,h1,?_⟩)
    rw [n3 id h1,J3 r h2]
 have hw0:=hbeg.w0
 have hblock:∀ b,b < w.heap.size → ¬ Ac.Pv b → ¬ Ac.Pm b → w'.heap[b]? = w.heap[b]?:=fun b h1 h2 h3=>by
  have:=hkeep.block b (by rw [hw0]; exact h1) h2 h3
  rwa [hw0] at this
 have hvarI:∀ id ∈ ids,¬ gB.I (gB.blk id):=fun id hid hI=>by
  obtain ⟨t,cs,hc⟩:=hbeg.var id hid
  exact yo h hc rfl hI
 have hPvI:∀ b,gB.I b → ¬ Ac.Pv b:=fun b hb hp=>by
  obtain ⟨id,hid,rfl⟩:=hbeg.Pv b hp
  exact hvarI id hid hb
 have hsize:w.heap.size ≤ w'.heap.size:=by have:=hkeep.size; rwa [hw0] at this
 have hch:Ch gB g2 HB H2 w w':=by
  refine ⟨hI,fun b hb=>hblock b (h.lt b hb) (hPvI b hb) (fun hp=>(hbeg.Pm b hp).2.1 hb),fun id hn=>?_,fun id hn hr=>?_,fun id hn hr=>?_⟩
  ·rcases hcase id with h1 | ⟨h1,_⟩ | ⟨_,_,h3⟩
   ·exact absurd hn (kx (hnew id h1).2)
   ·obtain ⟨t,cs,us',z1,_⟩:=hvars id h1
    exact qj z1
   ·simpa [nf,h3] using hn
  ·rcases hcase id with h1 | ⟨h1,h2⟩ | ⟨_,h2,h3⟩
   ·exact absurd hn (kx (hnew id h1).2)
   ·obtain ⟨t,cs,us',z1,_⟩:=hvars id h1
    obtain ⟨e,l,hr⟩:=hr
    rw [z1] at hr
    simp at hr
   ·exact ⟨by simpa [Xv,h3] using hr,hval id h2⟩
  ·rcases hcase id with h1 | ⟨h1,h2⟩ | ⟨_,h2,h3⟩
   ·exact absurd hn (kx (hnew id h1).2)
   ·exact ⟨hbeg.var id h1,rfl⟩
   ·exact ⟨by simpa [kN,h3] using hr,rfl⟩
 have hobj:∀ id o,jp H2 id = .live o → (∃ (e:Nat) (l:List (List DC)) (i:Nat),o=kS e l ∧ Loose ty Ac gr (g2.dom id) H1r w' e l (g2.val id) ∧ ks[i]? = some (.own e id) ∧ us1[i]? = some (g2.val id)) ∨
   (∃ (t:Nat) (cs:List S) (us':List Value),o = .var t cs ∧ id ∈ ids ∧ w'.heap[gB.blk id]? = some (.cells us'.toArray t (0,0)) ∧ qr ty g2 H2 w' cs us' ∧ ∀ u ∈ us',u.oneCell'=true) ∨ (id ∉ ids ∧ id ∉ ks.flatMap K1.ids ∧ jp HB id = .live o):=by
  intro id o ho
  rcases hcase id with h1 | ⟨h1,h2⟩ | ⟨h1,h2,h3⟩
  ·obtain ⟨e,l,i,z1,z2,z3,z4⟩:=hrow id h1
   rw [z1] at ho
   simp only [HS.live.injEq] at ho
   exact .inl ⟨e,l,i,ho.symm,z2,z3,z4⟩
  ·obtain ⟨t,cs,us',z1,z2,z3,z4⟩:=hvars id h1
   rw [z1] at ho
   simp only [HS.live.injEq] at ho
   exact .inr (.inl ⟨t,cs,us',ho.symm,h1,z2,z3,z4⟩)
  ·exact .inr (.inr ⟨h1,h2,h3 ▸ ho⟩)
 have hpbid:∀ id ∈ ids,∃ j,j < ids.length ∧ Ac.pb j=gB.blk id:=by
  intro id hid
  obtain ⟨j,hj⟩:=List.getElem?_of_mem hid
  have hlt:j < ids.length:=by
   rcases jA j ids.length with h' | h'
   ·exact h'
   ·simp [List.getElem?_eq_none h'] at hj
  exact ⟨j,hlt,hbeg.pb j id hj⟩
 have hvarr:∀ id ∈ ids,¬ gr.I (gB.blk id):=by
  intro id hid
  obtain ⟨j,h1,h2⟩:=hpbid id hid
  rw [← h2]
  exact hpb j h1
 have hold:∀ id o b,id ∉ ids → jp HB id = .live o → jM gB id o b → b < w.heap.size ∧ ¬ Ac.Pv b ∧ ¬ Ac.Pm b ∧ ¬ gr.I b:=by
  intro id o b hid ho hb
  have hlt:=h.oblk_lt ho hb
  have hPm:¬ Ac.Pm b:=fun hp=>(hbeg.Pm b hp).2.2.2 id o ho hb
  refine ⟨hlt,fun hp=>?_,hPm,fun hIb=>?_⟩
  ·obtain ⟨i,hi,rfl⟩:=hbeg.Pv b hp
   obtain ⟨t,cs,hc⟩:=hbeg.var i hi
   exact h.sep id i o _ _ (fun e=>hid (e ▸ hi)) ho hc hb rfl
  ·rcases (hIr b hIb).2 with h1 | h1 | h1
   ·exact yo h ho hb h1
   ·omega
   ·exact hPm h1
 have hlo:∀ e l id,Loose ty Ac gr (g2.dom id) H1r w' e l (g2.val id) → ∀ b,ZH (g2.dom id) (g2.val id) e b → ¬ gr.I b ∧ (w.heap.size ≤ b ∨ Ac.Pm b) ∧ ∀ i ∈ ids,gB.blk i ≠ b:=by
  intro e l id hl b hb
  obtain ⟨q1,q2,q3⟩:=hl.own b hb
  rw [hw0] at q2
  refine ⟨q1,q2,fun i hi hib=>?_⟩
  obtain ⟨j,j1,j2⟩:=hpbid i hi
  obtain ⟨o,ho,hob⟩:=hlive j j1
  exact q3 j o ho (by rw [← hib,← j2]; exact hob)
 have hblk2:∀ id o,id ∉ ks.flatMap K1.ids → jM g2 id o=jM gB id o:=by
  intro id o hid
  cases o with
  | var t cs=>rfl
  | row e l=>funext b; exact Ku (hval id hid) (hdom id hid) b
  | fz e l=>rfl
  | pt e l=>funext b; simp only [jM,hdom id hid]
  | hl e l ix=>funext b; exact Ku (hval id hid) (hdom id hid) b
 refine ⟨g2,h.ch hch (fun id o ho=>?_) (fun i j o p b hij hi hj hb hb'=>?_) (fun b hb=>(hIr b hb).1) (fun b hb=>?_) (fun id o b ho hb=>?_) (fun j hj hv=>?_) ?_,hI,jaJ r hrv hs1⟩
 ·rcases hobj id o ho with ⟨e,l,i,rfl,z1,z2,z3⟩ | ⟨t,cs,us',rfl,z0,z1,z2,z3⟩ | ⟨z1,z2,z3⟩
  ·exact yR.or z1.row fun b hb=>(z1.own b hb).1
  ·exact ⟨us',z1,z2,hvarr id z0,z3⟩
  ·refine OR.mono hch (hval id z2) rfl (hdom id z2) (fun b hb=>?_) (h.ob id o z3)
   obtain ⟨q1,q2,q3,q4⟩:=hold id o b z1 z3 hb
   exact ⟨hblock b q1 q2 q3,q4⟩
 ·rcases hobj i o hi with ⟨e,l,n,rfl,z1,z2,z3⟩ | ⟨t,cs,us',rfl,z0,z1,z2,z3⟩ | ⟨z1,z2,z3⟩
  ·have hb:=pw.1 hb
   have hx:=hlo e l i z1 b hb
   rcases hobj j p hj with ⟨e',l',n',rfl,y1,y2,y3⟩ | ⟨t',cs',us',rfl,y0,y1,y2,y3⟩ | ⟨y1,y2,y3⟩
   ·have kl:∀ {n:Nat} {e id:Nat},ks[n]? = some (.own e id) → (ks ++ kos.flatMap KO.kinds)[n]? = some (.own e id):=fun {n e id} hk=>by
     have:n < ks.length:=by
      rcases jA n ks.length with h' | h'
      ·exact h'
      ·simp [List.getElem?_eq_none h'] at hk
     rw [List.getElem?_append_left this]
     exact hk
    have ul:∀ {n:Nat} {u:Value},us1[n]? = some u → (us1 ++ us2)[n]? = some u:=fun {n u} hk=>by
     have:n < us1.length:=by
      rcases jA n us1.length with h' | h'
      ·exact h'
      ·simp [List.getElem?_eq_none h'] at hk
     rw [List.getElem?_append_left this]
     exact hk
    rcases Nat.lt_trichotomy n n' with hlt | rfl | hlt
    ·exact QK hap' (kl z2) (ul z3) (kl y2) (ul y3) hlt b (hvb i (V8 z2) _ b hb) (hvb j (V8 y2) _ b (pw.1 hb'))
    ·rw [z2] at y2
     simp only [j8,K1.own.injEq] at y2
     exact hij y2.2
    ·exact QK hap' (kl y2) (ul y3) (kl z2) (ul z3) hlt b (hvb j (V8 y2) _ b (pw.1 hb')) (hvb i (V8 z2) _ b hb)
   ·exact hx.2.2 j y0 hb'
   ·rw [hblk2 j p y2] at hb'
    obtain ⟨q1,q2,q3,q4⟩:=hold j p b y1 y3 hb'
    rcases hx.2.1 with h1 | h1
    ·omega
    ·exact q3 h1
  ·have hb:gB.blk i=b:=hb
   obtain ⟨tx,cx,hx1⟩:=hbeg.var i z0
   rcases hobj j p hj with ⟨e',l',n',rfl,y1,y2,y3⟩ | ⟨t',cs',us',rfl,y0,y1,y2,y3⟩ | ⟨y1,y2,y3⟩
   ·exact (hlo e' l' j y1 b (pw.1 hb')).2.2 i z0 hb
   ·have hb':gB.blk j=b:=hb'
    obtain ⟨ty',cy,hy1⟩:=hbeg.var j y0
    exact h.sep i j _ _ b hij hx1 hy1 hb hb'
   ·rw [hblk2 j p y2] at hb'
    exact h.sep i j _ _ b hij hx1 y3 hb hb'
  ·rw [hblk2 i o z2] at hb
   rcases hobj j p hj with ⟨e',l',n',rfl,y1,y2,y3⟩ | ⟨t',cs',us',rfl,y0,y1,y2,y3⟩ | ⟨y1,y2,y3⟩
   ·obtain ⟨q1,q2,q3,q4⟩:=hold i o b z1 z3 hb
    rcases (hlo e' l' j y1 b (pw.1 hb')).2.1 with h1 | h1
    ·omega
    ·exact q3 h1
   ·have hb':gB.blk j=b:=hb'
    obtain ⟨ty',cy,hy1⟩:=hbeg.var j y0
    exact h.sep i j _ _ b hij z3 hy1 hb hb'
   ·rw [hblk2 j p y2] at hb'
    exact h.sep i j _ _ b hij z3 y3 hb hb'
 ·rcases (hIr b hb).2 with h1 | h1 | h1
  ·exact h.inI b h1
  ·exact .inr (.inl (Nat.le_trans h.keep.size h1))
  ·rcases (hbeg.Pm b h1).2.2.1 with h2 | h2
   ·exact .inr (.inl h2)
   ·exact .inr (.inr h2)
 ·rcases hobj id o ho with ⟨e,l,i,rfl,z1,z2,z3⟩ | ⟨t,cs,us',rfl,z0,z1,z2,z3⟩ | ⟨z1,z2,z3⟩
  ·refine j52 ?_
   rcases (hlo e l id z1 b (pw.1 hb)).2.1 with h1 | h1
   ·exact .inl (Nat.le_trans h.keep.size h1)
   ·exact (hbeg.Pm b h1).2.2.1
  ·obtain ⟨tx,cx,hx1⟩:=hbeg.var id z0
   exact h.ow id (.var tx cx) b hx1 hb
  ·rw [hblk2 id o z2] at hb
   exact h.ow id o b z3 hb
 ·exact h.pb j hj (by
   obtain ⟨a1,a2⟩:=hch.var j (h.nfm j hj) hv
   exact a1)
 ·refine h.keep.trans (by rw [hkeep.os,hw0]) (by rw [hkeep.tape,hw0]) (by rw [hkeep.output,hw0]) hsize fun b hb hp hm=>hblock b (Nat.lt_of_lt_of_le hb h.keep.size) (fun hpv=>?_) (fun hpm=>?_)
  ·obtain ⟨id,hid,rfl⟩:=hbeg.Pv b hpv
   obtain ⟨t,cs,hc⟩:=hbeg.var id hid
   rcases h.ow id _ _ hc rfl with h1 | h1
   ·omega
   ·exact hp h1
  ·rcases (hbeg.Pm b hpm).2.2.1 with h1 | h1
   ·omega
   ·exact hm h1
end
section
variable {P:Program} {ty:Nat → Option TI} {A:An} {g:Gh} {tm:List C} {H:List HS} {a:Act} {w:World}
theorem qr.at {g:Gh} {H:List HS} {w:World}:∀ {ss:List S} {vs:List Value},qr ty g H w ss vs → ∀ (off:Nat),ss.getD off .undef ≠ .undef → ∃ v,vs[off]? = some v ∧ SR ty g H w (ss.getD off .undef) v
 | [],[],_,off,h=>absurd (by simp) h
 | s :: ss,v :: vs,⟨h1,h2⟩,0,_=>⟨v,rfl,h1⟩
 | s :: ss,v :: vs,⟨h1,h2⟩,off + 1,h=>by
  simp only [List.getD_cons_succ] at h ⊢
  exact qr.at h2 off h
 | [],_ :: _,h,_,_=>h.elim
 | _ :: _,[],h,_,_=>h.elim
def tE (e:Nat):Nat:=match pq e with | true=>e - 2000 | false=>yz e
def j7R (ty:Nat → Option TI) (e:Nat):Prop:=pq e=false → (dp e || Xw ty (yz e))=true
def jaZ (g:Gh) (id e:Nat) (F:List Nat):Prop:=(pq e=true → ∀ b,g.dom id b ↔ b ∈ F) ∧ (pq e=false → dp e=true → ∀ b,g.dom id b ↔ b ∈ F.tail)
theorem j6b {H:List HS} {id e:Nat} {l:List (List DC)} (h:jp H id = .live (kS e l)):Xv H id:=by
 cases hp:pq e with
 | false=>rw [Kj hp] at h; exact ⟨_,_,.inl h⟩
 | true=>rw [Jp hp] at h; exact ⟨_,_,.inr (.inr (.inl h))⟩
theorem j1d (h:Rel ty A g ⟨tm,H⟩ a w) {ss:List S} {vs:List Value} (hs:qr ty g H w ss vs):∀ {ps:List (Nat × Nat)} {rows:List (Option (Nat × Nat) × List (List DC))},yM ty H ss ps=some rows → y6 (zG (rows.map Prod.fst))=true →
  ∃ Fs,Rds ty w vs ps (rows.map Prod.snd) Fs ∧ Own w Fs.flatten ∧ (∀ b ∈ Fs.flatten,∃ id ∈ zG (rows.map Prod.fst),∃ e l,jp H id = .live (kS e l) ∧ jM g id (kS e l) b) ∧
   ∀ (w':World) (ls':List (List (List DC))),Rds ty w' vs ps ls' Fs → ∀ H0:List HS,(∀ id ∈ zG (rows.map Prod.fst),id < H0.length) →
    (∀ id ∈ zG (rows.map Prod.fst),∃ e l l' F,jp H id = .live (kS e l) ∧ j7R ty e ∧ RdC ty w (.sl (tE e)) (.sl l) (g.val id) F ∧ RdC ty w' (.sl (tE e)) (.sl l') (g.val id) F ∧ (∀ b ∈ F,b ∈ Fs.flatten) ∧
     jaZ g id e F ∧ Own w F ∧ (∀ b ∈ Fs.flatten,jM g id (kS e l) b → b ∈ F) ∧ jp (yQ (rows.map Prod.fst) ls' H0) id = .live (kS e l')) ∧
    ∀ id,id ∉ zG (rows.map Prod.fst) → jp (yQ (rows.map Prod.fst) ls' H0) id=jp H0 id
 | [],rows,e,_=>by
  simp only [yM,j8] at e
  subst e
  refine ⟨[],.nil,⟨List.nodup_nil,fun b hb=>by simp at hb⟩,fun b hb=>by simp at hb,fun w' ls' hr H0 _=>⟨fun id hid=>by simp [zG] at hid,fun id _=>?_⟩⟩
  cases hr
  rfl
 | (off,e) :: ps,rows,e1,hn=>by
  simp only [yM] at e1
  split at e1
  ·rename_i id hid
   have fin:∀ (e':Nat) (l:List (List DC)) (F:List Nat),jp H id = .live (kS e' l) → tE e'=e → j7R ty e' → RdC ty w (.sl (tE e')) (.sl l) (g.val id) F → Own w F → (∀ b ∈ F,jM g id (kS e' l) b) → jaZ g id e' F →
     (match yM ty H ss ps with | some r=>some ((some (id,e'),l) :: r) | none=>none)=some rows →
     ∃ Fs,Rds ty w vs ((off,e) :: ps) (rows.map Prod.snd) Fs ∧ Own w Fs.flatten ∧ (∀ b ∈ Fs.flatten,∃ id ∈ zG (rows.map Prod.fst),∃ e l,jp H id = .live (kS e l) ∧ jM g id (kS e l) b) ∧
      ∀ (w':World) (ls':List (List (List DC))),Rds ty w' vs ((off,e) :: ps) ls' Fs → ∀ H0:List HS,(∀ id ∈ zG (rows.map Prod.fst),id < H0.length) →
       (∀ id ∈ zG (rows.map Prod.fst),∃ e l l' F,jp H id = .live (kS e l) ∧ j7R ty e ∧ RdC ty w (.sl (tE e)) (.sl l) (g.val id) F ∧ RdC ty w' (.sl (tE e)) (.sl l') (g.val id) F ∧ (∀ b ∈ F,b ∈ Fs.flatten) ∧
        jaZ g id e F ∧ Own w F ∧ (∀ b ∈ Fs.flatten,jM g id (kS e l) b → b ∈ F) ∧ jp (yQ (rows.map Prod.fst) ls' H0) id = .live (kS e l')) ∧
       ∀ id,id ∉ zG (rows.map Prod.fst) → jp (yQ (rows.map Prod.fst) ls' H0) id=jp H0 id:=by
    intro e' l F hl hu hd f1 f2 f3 f5 e1
    split at e1
    ·rename_i r hr
     simp only [j8] at e1
     subst e1
     simp only [js,zG] at hn ⊢
     obtain ⟨n1,n2⟩:=Jw hn
     obtain ⟨Fs,k1,k2,k3,k4⟩:=j1d h hs hr n2
     obtain ⟨v,hv,hsr⟩:=hs.at off (by rw [hid]; simp)
     rw [hid] at hsr
     have hval:v=g.val id:=hsr.2.2 (j6b hl)
     subst hval
     have hdisj:∀ b ∈ F,b ∉ Fs.flatten:=fun b hb hb'=>by
      obtain ⟨id2,hid2,e2,l2,q1,q2⟩:=k3 b hb'
      have hne:id ≠ id2:=fun e=>n1 (e ▸ hid2)
      exact h.sep id id2 _ _ b hne hl q1 (f3 b hb) q2
     refine ⟨F :: Fs,.cons off e _ l F _ _ _ hv (by rw [← hu]; exact f1) k1,⟨?_,fun b hb=>?_⟩,fun b hb=>?_,fun w' ls' hR H0 hlt=>?_⟩
     ·rw [List.flatten_cons]
      exact List.nodup_append.2 ⟨f2.nodup,k2.nodup,fun x hx y hy exy=>hdisj x hx (exy ▸ hy)⟩
     ·rw [List.flatten_cons] at hb
      rcases List.mem_append.1 hb with hb | hb
      ·exact f2.open' b hb
      ·exact k2.open' b hb
     ·rw [List.flatten_cons] at hb
      rcases List.mem_append.1 hb with hb | hb
      ·exact ⟨id,by simp,e',l,hl,f3 b hb⟩
      ·obtain ⟨id2,hid2,r2⟩:=k3 b hb
       exact ⟨id2,by simp [hid2],r2⟩
     ·cases hR with
      | cons _ _ v' l' F' _ ls2 Fs' z1 z2 z3 =>
       rw [hv] at z1
       obtain rfl:=Option.some.inj z1
       simp only [yQ]
       have hltid:id < H0.length:=hlt id (by simp)
       obtain ⟨y1,y2⟩:=k4 w' ls2 z3 (jB H0 id (.live (kS e' l'))) (fun i hi=>by simp only [jB,List.length_set]; exact hlt i (by simp [hi]))
       refine ⟨fun i hi=>?_,fun i hi=>?_⟩
       ·rcases List.mem_cons.1 hi with rfl | hi
        ·refine ⟨e',l,l',F,hl,hd,f1,by rw [hu]; exact z2,fun b hb=>by rw [List.flatten_cons]; exact List.mem_append.2 (.inl hb),f5,f2,fun b hb hr=>?_,?_⟩
         ·rw [List.flatten_cons] at hb
          rcases List.mem_append.1 hb with hb | hb
          ·exact hb
          ·obtain ⟨id2,hid2,e2,l2,q1,q2⟩:=k3 b hb
           exact absurd q2 (h.sep i id2 _ _ b (fun e=>n1 (e ▸ hid2)) hl q1 hr)
         rw [y2 i n1,jt _ hltid]
        ·obtain ⟨e2,l2,l2',F2,q1,q2,q3,q4,q5,q6,q7,q9,q8⟩:=y1 i hi
         refine ⟨e2,l2,l2',F2,q1,q2,q3,q4,fun b hb=>by rw [List.flatten_cons]; exact List.mem_append.2 (.inr (q5 b hb)),q6,q7,fun b hb hr=>?_,q8⟩
         rw [List.flatten_cons] at hb
         rcases List.mem_append.1 hb with hb | hb
         ·exact absurd hr (h.sep id i _ _ b (fun e=>n1 (e ▸ hi)) hl q1 (f3 b hb))
         ·exact q9 b hb hr
       ·simp only [List.mem_cons,not_or] at hi
        rw [y2 i hi.2,jo _ fun k=>hi.1 k.symm]
    ·simp at e1
   split at e1
   ·rename_i e' l hl
    split at e1
    ·rename_i hc
     obtain ⟨hu,hpq,hh,hd⟩:=hc
     rw [← hu] at hd
     have hd':dp e'=true ∨ Xw ty (yz e')=true:=by simpa using hd
     obtain ⟨F,f1,f2,f3,f4,f5⟩:=(h.ob id _ hl).whole2 hh hd'
     have htE:tE e'=yz e':=by unfold tE; rw [hpq]
     have hmk:kS e' l = .row e' l:=Kj hpq
     exact fin e' l F (by rw [hmk]; exact hl) (by rw [htE]; exact hu) (fun _=>hd) (by rw [htE]; exact f1) f2 (fun b hb=>by rw [hmk]; exact f3 b hb) ⟨(fun k=>by rw [hpq] at k; cases k),fun _=>f5⟩ e1
    ·simp at e1
   ·rename_i e' l hl
    split at e1
    ·rename_i hc
     obtain ⟨hc,hdk⟩:=hc
     have hpq:pq (e' + 2000)=true:=j7F hdk
     have hee:e' + 2000 - 2000=e':=Nat.add_sub_cancel _ _
     have htE:tE (e' + 2000)=e':=by unfold tE; rw [hpq]; exact hee
     have hmk:kS (e' + 2000) l = .pt e' l:=by rw [Jp hpq,hee]
     obtain ⟨F,f1,f2,f3,f4⟩:=h.ob id _ hl
     exact fin (e' + 2000) l F (by rw [hmk]; exact hl) (by rw [htE]; exact hc) (fun k=>by rw [hpq] at k; cases k) (by rw [htE]; exact f1) f2 (fun b hb=>by rw [hmk]; exact (f3 b).2 hb) ⟨fun _=>f3,(fun k=>by rw [hpq] at k; cases k)⟩ e1
    ·simp at e1
   ·simp at e1
  ·rename_i hid
   split at e1
   ·rename_i r hr
    simp only [j8] at e1
    subst e1
    simp only [js,zG] at hn ⊢
    obtain ⟨Fs,k1,k2,k3,k4⟩:=j1d h hs hr hn
    obtain ⟨v,hv,hsr⟩:=hs.at off (by rw [hid]; simp)
    rw [hid] at hsr
    have hval:v = .slice none 0 0:=hsr
    subst hval
    refine ⟨[] :: Fs,.cons off e _ [] [] _ _ _ hv (.nil e none 0) k1,by simpa using k2,fun b hb=>k3 b (by simpa using hb),fun w' ls' hR H0 hlt=>?_⟩
    cases hR with
    | cons _ _ v' l' F' _ ls2 Fs' z1 z2 z3 =>
     simp only [yQ]
     obtain ⟨y1,y2⟩:=k4 w' ls2 z3 H0 hlt
     refine ⟨fun i hi=>?_,y2⟩
     obtain ⟨e2,l2,l2',F2,q1,q2,q3,q4,q5,q6,q7,q9,q8⟩:=y1 i hi
     exact ⟨e2,l2,l2',F2,q1,q2,q3,q4,fun b hb=>by simpa using q5 b hb,q6,q7,fun b hb hr=>q9 b (by simpa using hb) hr,q8⟩
   ·simp at e1
  ·simp at e1
theorem OR.written {H':List HS} {w':World} {id e:Nat} {l l':List (List DC)} {F Fa:List Nat} (h:OR ty g H w id (.row e l)) (hd:(dp e || Xw ty (yz e))=true) (hw:Wrote w w' Fa) (hlt:∀ b,(g.val id).ownBlock=some b → b < w.heap.size)
  (hF:RdC ty w (.sl (yz e)) (.sl l) (g.val id) F) (hF':RdC ty w' (.sl (yz e)) (.sl l') (g.val id) F) (hsub:∀ b ∈ F,b ∈ Fa) (hown:∀ b ∈ Fa,b ∈ F ∨ ¬ zq g id e b) (hO:Own w F) (hdom:dp e=true → ∀ b,g.dom id b ↔ b ∈ F.tail):OR ty g H' w' id (.row e l'):=by
 obtain ⟨ti,vs,F0,h1,h0,h2,h3,h4,h5⟩:=h
 have hfl:dp e=false → ti.cts.all CT.flat=true:=fun he=>by
  rw [he,Bool.false_or] at hd
  unfold Xw at hd
  rw [h1] at hd
  exact hd
 have hO':Own w' F:=⟨hO.nodup,fun b hb=>by
  obtain ⟨cs,t,hc⟩:=hO.open' b hb
  obtain ⟨cs',hc',_⟩:=hw.shape b (hsub b hb) cs t hc
  exact ⟨cs',t,hc'⟩⟩
 generalize hv:g.val id=v at hF hF' h2 hlt
 cases hF' with
 | nil _ a c =>
  have hl:l=[]:=by
   cases hF with
   | nil=>rfl
  subst hl
  refine ⟨ti,[],[],h1,h0,?_,.of (.nil _),?_,h5⟩
  ·rw [hv]
   have hvs:vs=[]:=by have h3:=h3.h; cases h3; rfl
   subst hvs
   refine ⟨h2.1,?_⟩
   rcases h2.2 with h2 | ⟨k,cap,cur,e1,e2,e3,e4⟩
   ·exact .inl h2
   ·refine .inr ⟨k,cap,cur,e1,e2,?_,e4⟩
    have hk:k < w.heap.size:=hlt k (by rw [e1]; rfl)
    rw [hw.block k hk fun hb=>?_]
    ·exact e3
    ·rcases hown k hb with hb | hb
     ·cases hb
     ·exact hb (.inl (by rw [hv,e1]; rfl))
  ·cases he:dp e with
   | false=>exact (kz.shallow he).2 fun b hb=>by cases hb
   | true=>exact (kz.deep he).2 ⟨⟨List.nodup_nil,fun b hb=>by cases hb⟩,hdom he,fun b hb=>by cases hb⟩
 | sl _ ti' b off n cap _ vs' F1 k1 k0 k2 k3 k4 k5 k6 =>
  obtain rfl:ti=ti':=by rw [h1] at k1; exact Option.some.inj k1
  rcases h2.2 with ⟨hn,_⟩ | ⟨k,cap',cur,e1,e2,e3,e4,e5,e6,e7⟩
  ·simp at hn
  ·simp only [Value.slice.injEq,j8,Addr.mk.injEq,and_true] at e1
   obtain ⟨⟨rfl,rfl⟩,hll,rfl⟩:=e1
   obtain ⟨cur',c1,c2⟩:=hw.shape b (hsub b (by simp)) cur _ e3
   have hvl:=k6.length
   have hsz:vs'.length=n * ti.cts.length:=by rw [hvl,k2]
   have hcap:n * ti.cts.length ≤ cap * ti.cts.length:=Nat.mul_le_mul_right _ k4
   have hcell:∀ (j:Nat) (u:Value),vs'[j]? = some u → cur'[j]? = some u:=fun j u hu=>by
    have:=k5 j u hu
    rw [Nat.zero_add] at this
    simpa [World.cell?,c1] using this
   refine ⟨ti,vs',F1,h1,h0,?_,.of k6,?_,h5⟩
   ·rw [hv]
    refine ⟨hvl,.inr ⟨b,cap,cur',?_,Nat.zero_le _,c1,by rw [← k2]; exact k4,e5,by rw [c2]; exact e6,?_⟩⟩
    ·rw [k2]
    ·rw [← k2]
     apply List.ext_getElem?
     intro j
     rw [List.getElem?_take]
     by_cases hj:j < n * ti.cts.length
     ·rw [if_pos hj]
      have hjl:j < vs'.length:=by omega
      have:=hcell j _ (List.getElem?_eq_getElem hjl)
      rw [Array.getElem?_toList,this,List.getElem?_eq_getElem hjl]
     ·rw [if_neg hj,List.getElem?_eq_none (by omega)]
   ·have hnd:=List.nodup_cons.1 hO'.nodup
    cases he:dp e with
    | false=>exact (kz.shallow he).2 fun c hc=>by rw [k6.flat (hfl he)] at hc; cases hc
    | true=>exact (kz.deep he).2 ⟨⟨hnd.2,fun c hc=>hO'.open' c (by simp [hc])⟩,hdom he,fun c hc hc'=>by
      rw [hv] at hc'
      simp only [Value.ownBlock,j8] at hc'
      subst hc'
      exact hnd.1 hc⟩
theorem OR.writtenP {H':List HS} {w':World} {id e:Nat} {l l':List (List DC)} {F Fa:List Nat} (h:OR ty g H w id (.pt e l)) (hw:Wrote w w' Fa) (hF':RdC ty w' (.sl e) (.sl l') (g.val id) F) (hsub:∀ b ∈ F,b ∈ Fa) (hO:Own w F) (hdom:∀ b,g.dom id b ↔ b ∈ F):OR ty g H' w' id (.pt e l'):=by
 obtain ⟨_,_,_,_,h5⟩:=h
 exact ⟨F,hF',⟨hO.nodup,fun b hb=>by
  obtain ⟨cs,t,hc⟩:=hO.open' b hb
  obtain ⟨cs',hc',_⟩:=hw.shape b (hsub b hb) cs t hc
  exact ⟨cs',t,hc'⟩⟩,hdom,h5⟩
theorem Rel.marked (h:Rel ty A g ⟨tm,H⟩ a w) {ids:List Nat} {H2:List HS} {w':World} {Fa:List Nat} (hw:Wrote w w' Fa)
  (hF:∀ b ∈ Fa,∃ id ∈ ids,∃ e l,jp H id = .live (kS e l) ∧ jM g id (kS e l) b)
  (h1:∀ id ∈ ids,∃ e l l' F,jp H id = .live (kS e l) ∧ j7R ty e ∧ RdC ty w (.sl (tE e)) (.sl l) (g.val id) F ∧ RdC ty w' (.sl (tE e)) (.sl l') (g.val id) F ∧ (∀ b ∈ F,b ∈ Fa) ∧
   jaZ g id e F ∧ Own w F ∧ (∀ b ∈ Fa,jM g id (kS e l) b → b ∈ F) ∧ jp H2 id = .live (kS e l'))
  (h2:∀ id,id ∉ ids → jp H2 id=jp H id):Rel ty A g ⟨tm,H2⟩ a w':=by
 have hFI:∀ b ∈ Fa,¬ g.I b:=fun b hb=>by
  obtain ⟨id,_,e,l,k1,k2⟩:=hF b hb
  exact yo h k1 k2
 have hback:∀ i o,jp H2 i = .live o → ∃ p,jp H i = .live p ∧ jM g i o=jM g i p ∧ ((i ∉ ids ∧ o=p) ∨ i ∈ ids) ∧ ∀ b,j19 A b o=j19 A b p:=by
  intro i o hi
  by_cases hid:i ∈ ids
  ·obtain ⟨e,l,l',F,q1,q2,q3,q4,q5,q6,q7,q9,q8⟩:=h1 i hid
   rw [q8] at hi
   simp only [HS.live.injEq] at hi
   subst hi
   refine ⟨_,q1,?_,.inr hid,fun b=>?_⟩
   ·funext b; exact propext (pw.trans pw.symm)
   ·cases hp:pq e with
    | false=>rw [Kj hp,Kj hp]; rfl
    | true=>rw [Jp hp,Jp hp]; rfl
  ·rw [h2 i hid] at hi
   exact ⟨o,hi,rfl,.inl ⟨hid,rfl⟩,fun _=>rfl⟩
 have hch:Ch g g H H2 w w':=by
  refine ⟨fun _ h=>h,fun b hb=>hw.block b (h.lt b hb) fun k=>hFI b k hb,fun i hi=>?_,fun i hi hr=>?_,fun i hi hr=>?_⟩
  ·by_cases hid:i ∈ ids
   ·obtain ⟨e,l,l',F,q1,q2,q3,q4,q5,q6,q7,q9,q8⟩:=h1 i hid
    exact qj q8
   ·simpa [nf,h2 i hid] using hi
  ·refine ⟨?_,rfl⟩
   by_cases hid:i ∈ ids
   ·obtain ⟨e,l,l',F,q1,q2,q3,q4,q5,q6,q7,q9,q8⟩:=h1 i hid
    exact j6b q1
   ·simpa [Xv,h2 i hid] using hr
  ·refine ⟨?_,rfl⟩
   by_cases hid:i ∈ ids
   ·obtain ⟨e,l,l',F,q1,q2,q3,q4,q5,q6,q7,q9,q8⟩:=h1 i hid
    obtain ⟨t,cs,hr⟩:=hr
    rw [q8] at hr
    exact (j4k (HS.live.inj hr)).elim
   ·simpa [kN,h2 i hid] using hr
 have hblk:∀ i o b,i ∉ ids → jp H i = .live o → jM g i o b → w'.heap[b]? = w.heap[b]?:=fun i o b hid ho hb =>
  hw.block b (h.oblk_lt ho hb) fun k=>by
   obtain ⟨id,hin,e,l,k1,k2⟩:=hF b k
   exact h.sep i id o _ b (fun x=>hid (x ▸ hin)) ho k1 hb k2
 refine h.ch hch (fun id o ho=>?_) (fun i j o p b hij hi hj hb hb'=>?_) (fun b hb=>Nat.lt_of_lt_of_le (h.lt b hb) hw.size) h.inI (fun id o b ho hb=>?_) (fun j hj hv=>?_) ?_
 ·by_cases hid:id ∈ ids
  ·obtain ⟨e,l,l',F,q1,q2,q3,q4,q5,q6,q7,q9,q8⟩:=h1 id hid
   rw [q8] at ho
   simp only [HS.live.injEq] at ho
   subst ho
   cases hp:pq e with
   | false =>
    have htE:tE e=yz e:=by unfold tE; rw [hp]
    rw [Kj hp] at q1 q9 ⊢
    rw [htE] at q3 q4
    refine (h.ob id _ q1).written (q2 hp) hw (fun b hb=>h.oblk_lt q1 (.inl hb)) q3 q4 q5 (fun b hb=>?_) q7 (q6.2 hp)
    by_cases hbF:b ∈ F
    ·exact .inl hbF
    ·exact .inr fun hr=>hbF (q9 b hb hr)
   | true =>
    have htE:tE e=e - 2000:=by unfold tE; rw [hp]
    rw [Jp hp] at q1 ⊢
    rw [htE] at q4
    exact (h.ob id _ q1).writtenP hw q4 q5 q7 (q6.1 hp)
  ·rw [h2 id hid] at ho
   exact OR.mono hch rfl rfl rfl (fun b hb=>⟨hblk id o b hid ho hb,yo h ho hb⟩) (h.ob id o ho)
 ·obtain ⟨p1,q1,e1,_,_⟩:=hback i o hi
  obtain ⟨p2,q2,e2,_,_⟩:=hback j p hj
  rw [e1] at hb
  rw [e2] at hb'
  exact h.sep i j _ _ b hij q1 q2 hb hb'
 ·obtain ⟨p1,q1,e1,_,e3⟩:=hback id o ho
  rw [e1] at hb
  rw [e3]
  exact h.ow id p1 b q1 hb
 ·exact h.pb j hj (hch.var j (h.nfm j hj) hv).1
 ·refine h.keep.trans hw.os hw.tape hw.output hw.size fun b hb hp hm=>hw.block b (Nat.lt_of_lt_of_le hb h.keep.size) fun k=>?_
  obtain ⟨id,hin,e,l,k1,k2⟩:=hF b k
  exact j0c (h.ow id _ b k1 k2) hb hp hm rfl
end
section
variable {P:Program} {ty:Nat → Option TI} {fn:Nat → Option FI} {cl:Nat → Hint → List DC → Out} {A:An} {w:World}
theorem j5P:∀ {ts:List CT} {x:List DC} {v:List Value} {F:List Nat},RdL ty w ts x v F → ts.all CT.flat=true → RdL ty w ts x v []
 | _,_,_,_,.nil,_=>.nil
 | _,_,_,_,.cons t ts x xs v vs F G h1 h2,hf=>by
  simp only [List.all_cons,jk] at hf
  have h3:RdC ty w t x v []:=by
   cases h1 with
   | b x=>exact .b x
   | i k n=>exact .i k n
   | s l=>exact .s l
   | nil e a c=>exact .nil e a c
   | sl=>simp [CT.flat] at hf
  exact RdL.cons t ts x xs v vs [] [] h3 (j5P h2 hf.2)
theorem j5O:∀ {ts:List CT} {l:List (List DC)} {v:List Value} {F:List Nat},RdV ty w ts l v F → ts.all CT.flat=true → RdV ty w ts l v []
 | _,_,_,_,.nil ts,_=>.nil ts
 | _,_,_,_,.cons ts x l v vs F G h1 h2,hf=>RdV.cons ts x l v vs [] [] (j5P h1 hf) (j5O h2 hf)
theorem j7q {g:Gh} {H0 H:List HS} {v:List DC} {I2:Nat → Prop} (hn:∀ b,(A.w0.heap.size ≤ b ∨ A.Pm b) → ¬ g.I b → ¬ I2 b):∀ {n:Nat} {ks:List K1} {us:List Value},FL ty A g H0 H w v n ks us →
  (∀ e,K1.sl e ∈ ks → ∀ (l:List (List DC)) (v:Value) (F:List Nat),RdC ty w (.sl e) (.sl l) v F → (∀ b ∈ F,g.I b) → ∃ F',RdC ty w (.sl e) (.sl l) v F' ∧ ∀ b ∈ F',I2 b) →
  (∀ e id,K1.own e id ∈ ks → dp e=false → ∀ (ti:TI) (l:List (List DC)) (vs:List Value) (F:List Nat),ty e=some ti → RdV ty w ti.cts l vs F → (∀ b ∈ F,g.I b) → ∃ F',RdV ty w ti.cts l vs F' ∧ ∀ b ∈ F',I2 b) →
  FL ty A { g with I:=I2 } H0 H w v n ks us
 | _,[],[],_,_,_=>trivial
 | n,k :: ks,u :: us,⟨⟨dd,h1,h2,h3⟩,h4⟩,hs,ho=>by
  refine ⟨⟨dd,h1,h2,?_⟩,j7q hn h4 (fun e he=>hs e (by simp [he])) (fun e id he=>ho e id (by simp [he]))⟩
  cases k with
  | sl e =>
   obtain ⟨l,F,q1,q2,q3⟩:=h3
   obtain ⟨F',q4,q5⟩:=hs e (by simp) l u F q2 q3
   exact ⟨l,F',q1,q4,q5⟩
  | own e id =>
   obtain ⟨l,q1,q2⟩:=h3
   have hown:∀ b,ZH (p8 g H0 u) u e b → ¬ I2 b ∧ (A.w0.heap.size ≤ b ∨ A.Pm b) ∧ ∀ i p,jp H i = .live p → ¬ jM { g with I:=I2 } i p b:=fun b hb=>by
    obtain ⟨y1,y2,y3⟩:=q2.own b hb
    refine ⟨hn b y2 y1,y2,fun i p hi=>?_⟩
    have:=y3 i p hi
    rwa [Kh rfl rfl rfl]
   cases hpq:pq e with
   | true=>exact ⟨l,q1,⟨.ofPart hpq (q2.row.part hpq),hown⟩⟩
   | false =>
   obtain ⟨ti,vs,F,z1,z2,z3,z4,z5⟩:=q2.row.row hpq
   have hrow:∃ F',RdR ty w e ti.cts l vs F' ∧ yY I2 (p8 g H0 u) u w e F':=by
    cases he:dp e with
    | false =>
     unfold yY at z5 ⊢
     rw [he] at z5 ⊢
     rw [ku he] at z1
     obtain ⟨F',y1,y2⟩:=ho e id (by simp) he ti l vs F z1 (z4.v (Xn he)) z5
     exact ⟨F',.of y1,y2⟩
    | true =>
     refine ⟨F,z4,?_⟩
     unfold yY at z5 ⊢
     rw [he] at z5 ⊢
     exact z5
   obtain ⟨F',z6,z7⟩:=hrow
   exact ⟨l,q1,⟨.ofRow hpq ⟨ti,vs,F',z1,z2,z3,z6,z7⟩,hown⟩⟩
  | _=>exact h3
 | _,[],_ :: _,h,_,_=>h.elim
 | _,_ :: _,[],h,_,_=>h.elim
theorem RVs.length:∀ {rk:List (Bool × List RK)} {vs us:List Value},RVs rk vs us → us.length=(rk.flatMap Prod.snd).length
 | [],[],us,h=>by rw [show us=[] from h]; rfl
 | (a,l) :: rk,v :: vs,us,⟨u1,u2,h1,h2,h3,h4,h5⟩=>by
  subst h1
  simp [h2,RVs.length h5]
 | [],_ :: _,_,h=>h.elim
 | _ :: _,[],_,h=>h.elim
theorem j4W {f:FuncId} {fd:Func} {vals:Array Value} (h1:P.funcs[f]? = some fd) (h2:(fd.name == "runtime.NumGoroutine")=false) (h3:fd.body.isNone=false) (w:World):(callFunc f vals).run P w = .ok (.enter f vals) w:=by
 have h3':fd.body ≠ none:=by intro h; rw [h] at h3; simp at h3
 have h2':fd.name ≠ "runtime.NumGoroutine":=by intro h; rw [h] at h2; simp at h2
 unfold callFunc
 simp [h1,h2',h3']
theorem j13 {o:Oper} {c:Call} {fop:Operand} {a:Act} {f:FuncId} {xs:Array Value} {fd:Func} (ho:o.op = .call c) (hc:c.callee = .value fop) (hf:a.eval fop = .func (.func f) #[] xs) (h1:P.funcs[f]? = some fd)
  (h2:(fd.name == "runtime.NumGoroutine")=false) (h3:fd.body.isNone=false) (w:World):(execOp a.eval o).run P w = .ok (.enter f (c.args.map a.eval ++ xs)) w:=by
 have:=j4W (P:=P) (vals:=c.args.map a.eval ++ xs) h1 h2 h3 w
 simp only [execOp,ho,resolve,hc,hf,Deferred.ofValue,Sem.run_bind,Sem.run_pure,Result.andThen_ok,invoke]
 rw [show (#[] ++ c.args.map a.eval:Array Value)=c.args.map a.eval by simp]
 exact this
theorem j5M:∀ {L:List RK} {i:Nat},L.all (RK.flat ty)=true → (∀ e,K1.sl e ∉ rkK i L) ∧ ∀ e id,K1.own e id ∈ rkK i L → dp e=false → ∀ ti,ty e=some ti → ti.cts.all CT.flat=true
 | [],i,_=>⟨fun e h=>by simp [rkK] at h,fun e id h=>by simp [rkK] at h⟩
 | r :: L,i,h=>by
  simp only [List.all_cons,jk] at h
  obtain ⟨a,b⟩:=j5M (i:=r.nx i) h.2
  refine ⟨fun e he=>?_,fun e id he hde ti hti=>?_⟩
  ·simp only [rkK,List.mem_cons] at he
   rcases he with he | he
   ·cases r with
    | ct c =>
     cases c with
     | sl e'=>simp [RK.flat] at h
     | _=>simp [RK.k1,CT.k1] at he
    | new e'=>simp [RK.k1] at he
   ·exact a e he
  ·simp only [rkK,List.mem_cons] at he
   rcases he with he | he
   ·cases r with
    | ct c=>cases c <;> simp [RK.k1,CT.k1] at he
    | new e' =>
     simp only [RK.k1,K1.own.injEq] at he
     obtain ⟨rfl,_⟩:=he
     have h1:=h.1
     simp only [RK.flat,hde,Bool.false_or,Xw,hti] at h1
     exact h1
   ·exact b e id he hde ti hti
theorem j8w {g:Gh} {H:List HS} {agg:Bool} {n:Nat} {c:C} {ss:List S} {v:Value} (h:CR ty g H w c v) (e:j57 agg n c=some ss) :
  ∃ vs:List Value,(agg=true → v = .agg vs.toArray) ∧ (agg=false → vs=[v]) ∧ qr ty g H w ss vs ∧ vs.length=n ∧ ∀ u ∈ vs,u.oneCell'=true:=by
 unfold j57 at e
 split at e
 ·split at e
  ·rename_i s hc
   obtain ⟨rfl,rfl,hd⟩:=hc
   simp only [j8] at e
   subst e
   exact ⟨[v],fun h=>(by cases h),fun _=>rfl,⟨h,trivial⟩,rfl,fun u hu=>by
    simp only [List.mem_singleton] at hu
    subst hu
    exact SR.one h hd⟩
  ·simp at e
 ·split at e
  ·rename_i l hc
   obtain ⟨rfl,rfl,hd⟩:=hc
   simp only [j8] at e
   subst e
   obtain ⟨vs,h1,h2⟩:=h
   exact ⟨vs,fun _=>h1,fun h=>(by cases h),h2,h2.length,qr.one h2 hd⟩
  ·simp at e
 ·simp at e
theorem j6A (ls:List (List (List DC))):∀ (rs:List (Option (Nat × Nat))) (j:Nat) (H:List HS),ls.length=j + rs.length → j4z ls j rs H=yQ rs (ls.drop j) H
 | [],j,H,h=>by cases hl:ls.drop j <;> rfl
 | r :: rs,j,H,h=>by
  have hj:j < ls.length:=by rw [h]; simp
  rw [List.drop_eq_getElem_cons hj]
  have hg:ls.getD j []=ls[j]:=by rw [List.getD_eq_getElem?_getD,List.getElem?_eq_getElem hj]; rfl
  have ih:=fun H=>j6A ls rs (j + 1) H (by rw [h]; simp only [jb]; omega)
  cases r with
  | none=>rw [j4z,yQ,ih]
  | some p =>
   obtain ⟨id,e⟩:=p
   rw [j4z,yQ,ih,hg]
theorem j9Q {ty:Nat → Option TI} {H:List HS} {m:MK} {args:List C}:j4n ty none H m args (fun H v=>some (H,v))=j7O ty H m args:=by
 unfold j4n j9P j7O
 split
 ·split
  ·split
   ·rename_i rows _
    cases hn:y6 (zG (rows.map Prod.fst)) with
    | true =>
     dsimp only
     split
     ·rename_i x y h1
      rw [h1]
      dsimp only
      split
      ·rename_i hl
       rw [j6A _ _ 0 H (by rw [hl]; simp),List.drop_zero]
      ·rfl
     ·rename_i h1
      rw [h1]
    | false=>rfl
   ·rfl
  ·rfl
 ·rfl
theorem j8v {G:Glob} (hfn:∀ f fi,fn f=some fi → FnOk P G ty f fi) {f:Nat} {fi:FI} {m:MK} (hfi:fn f=some fi) (hm:fi.mark=some m) {o:Oper} {c:Call} {fop:Operand} {g:Gh} {tm:List C} {H H':List HS} {v:C} {a:Act} {Q:Exit → Act → World → Prop}
  (ho:o.op = .call c) (hc:c.callee = .value fop) (hf:opd tm fop = .one (.fn f [])) (h:Rel ty A g ⟨tm,H⟩ a w) (e:j7O ty H m (yE tm c.args.toList)=some (H',v)) :
  o.wp P a w (pD ty A g H w ⟨ka tm o.dst v,H'⟩) Q:=by
 unfold j7O at e
 split at e
 ·rename_i x k hargs
  split at e
  ·rename_i ss hss
   split at e
   ·rename_i rows hrows
    split at e
    ·rename_i ls' k' hn hrun
     split at e
     ·rename_i hlen
      simp only [j8,ji] at e
      obtain ⟨rfl,rfl⟩:=e
      obtain ⟨⟨fd,d1,d2,d3,_⟩,_,d5,_⟩:=hfn f fi hfi
      have rf:=h.opd fop
      rw [hf] at rf
      obtain ⟨xs,x1,x2,x3⟩:=rf
      have hx0:xs = #[]:=Array.eq_empty_of_size_eq_zero (by simpa using x2)
      subst hx0
      have hrun1:=j13 (P:=P) ho hc x1 d1 d2 d3 w
      obtain ⟨va,vk,hv,r1,r2⟩:=Yo h hargs
      have ek:vk = .int .i64 k:=r2
      subst ek
      obtain ⟨vs,y1,y2,y3,y4,y5⟩:=j8w r1 hss
      obtain ⟨Fs,z1,z2,z3,z4⟩:=j1d h y3 hrows hn
      have hcalls:=d5 m hm w va vs k _ ls' k' Fs y1 y2 y4 y5 z1 z2 hrun
      unfold Oper.wp
      rw [hrun1]
      show Calls P f _ w _
      rw [hv]
      refine Calls.mono (by simpa using hcalls) fun en w' hen=>?_
      obtain ⟨rfl,hw,hR⟩:=hen
      have hidlt:∀ id ∈ zG (rows.map Prod.fst),id < H.length:=fun id hid=>by
       have key:∀ {ps:List (Nat × Nat)} {rows:List (Option (Nat × Nat) × List (List DC))},yM ty H ss ps=some rows → ∀ id ∈ zG (rows.map Prod.fst),id < H.length:=by
        intro ps
        induction ps with
        | nil =>
         intro rows e id hid
         simp only [yM,j8] at e
         subst e
         simp [zG] at hid
        | cons p ps ih =>
         intro rows e id hid
         obtain ⟨off,e0⟩:=p
         simp only [yM] at e
         split at e
         ·split at e
          ·rename_i hl
           split at e
           ·split at e
            ·rename_i r hr
             simp only [j8] at e
             subst e
             simp only [js,zG,List.mem_cons] at hid
             rcases hid with rfl | hid
             ·exact jF hl
             ·exact ih hr id hid
            ·simp at e
           ·simp at e
          ·rename_i hl
           split at e
           ·split at e
            ·rename_i r hr
             simp only [j8] at e
             subst e
             simp only [js,zG,List.mem_cons] at hid
             rcases hid with rfl | hid
             ·exact jF hl
             ·exact ih hr id hid
            ·simp at e
           ·simp at e
          ·simp at e
         ·split at e
          ·rename_i r hr
           simp only [j8] at e
           subst e
           simp only [js,zG] at hid
           exact ih hr id hid
          ·simp at e
         ·simp at e
       exact key hrows id hid
      obtain ⟨q1,q2⟩:=z4 w' ls' hR H hidlt
      exact ⟨g,(h.marked hw z3 q1 q2).put o.dst (show CR ty g _ w' (.one (.int .i64 k')) (.int .i64 k') from rfl),fun _ h=>h⟩
     ·simp at e
    ·simp at e
   ·simp at e
  ·simp at e
 ·simp at e
theorem j9c {G:Glob} (hfn:∀ f fi,fn f=some fi → FnOk P G ty f fi) {A:An} (hA:AOk G A) {f:Nat} {fi:FI} {q:Nat → List HS → List C → Option (Nat × List HS × C)} (hfi:fn f=some fi) (hm:fi.stf=some q) {o:Oper} {c:Call} {fop:Operand} {g:Gh} {base n:Nat} {tm:List C} {H H':List HS} {v:C} {a:Act} {w:World} {Q:Exit → Act → World → Prop}
  (ho:o.op = .call c) (hc:c.callee = .value fop) (hf:opd tm fop = .one (.fn f [])) (h:Rel ty A g ⟨tm,H⟩ a w) (e:q base H (yE tm c.args.toList)=some (n,H',v)) (hn:n < jT) :
  o.wp P a w (pD ty A g H w ⟨ka tm o.dst v,H'⟩) Q:=by
 obtain ⟨⟨fd,d1,d2,d3,_⟩,_,_,d5⟩:=hfn f fi hfi
 have rf:=h.opd fop
 rw [hf] at rf
 obtain ⟨xs,x1,x2,x3⟩:=rf
 have hx0:xs = #[]:=Array.eq_empty_of_size_eq_zero (by simpa using x2)
 subst hx0
 have hrun1:=j13 (P:=P) ho hc x1 d1 d2 d3 w
 obtain ⟨vs,hv,hl,hcr⟩:=Y7 h c.args.toList _ rfl
 have hcalls:=d5 q hm A g tm H H' a w base n _ vs v hA h hl hcr e hn
 unfold Oper.wp
 rw [hrun1]
 show Calls P f _ w _
 have hv':c.args.map a.eval=vs.toArray:=by apply Array.toList_inj.1; simpa using hv
 rw [hv']
 refine Calls.mono (by simpa only [jv,Array.append_empty] using hcalls) fun en w' hen=>?_
 obtain ⟨v',g',rfl,h1,h2,h3⟩:=hen
 exact ⟨g',h1.put o.dst h3,h2⟩
theorem j4u {G:Glob} (hfn:∀ f fi,fn f=some fi → FnOk P G ty f fi) (hcl:j5p P G ty fn cl) (A:An) (hA:AOk G A):J7 P ty fn cl A:=by
 intro o c fop f caps base tm H H' v g a w Q ho hc hf h e
 unfold qG at e
 dsimp only at e
 split at e
 ·simp at e
 ·rename_i fi hfi
  split at e
  ·rename_i q hq
   split at e
   ·split at e
    ·rename_i r hr
     split at e
     ·rename_i hn
      simp only [j8] at e
      obtain ⟨n2,H2,v2⟩:=r
      simp only [ji] at e
      obtain ⟨rfl,rfl⟩:=e
      exact j9c hfn hA hfi hq ho hc hf h hr hn
     ·simp at e
    ·simp at e
   ·simp at e
  split at e
  ·rename_i m hm
   split at e
   ·rw [j9Q] at e
    exact j8v hfn hfi hm ho hc hf h e
   ·simp at e
  split at e
  ·rename_i kcs kos e1 e2
   split at e
   ·rename_i p q e3 e4
    split at e
    ·rename_i v0 H1 e5
     split at e
     ·rename_i hchk
      split at e
      ·rename_i r hr
       simp only [jk] at hchk
       obtain ⟨⟨hnd,hcapv⟩,hok⟩:=hchk
       obtain ⟨⟨fd,d1,d2,d3,_⟩,_,_⟩:=hfn f fi hfi
       have rf:=h.opd fop
       rw [hf] at rf
       obtain ⟨xs,x1,x2,x3⟩:=rf
       have hrun:=j13 (P:=P) ho hc x1 d1 d2 d3 w
       obtain ⟨vs0,y1,y2,y3⟩:=Y7 h c.args.toList _ rfl
       have hcc:∀ (i:Nat) (s:C) (u:Value),(yE tm c.args.toList ++ caps.map fun id=>C.one (.ptr id 0))[i]? = some s → (vs0 ++ xs.toList)[i]? = some u → CR ty g H w s u:=by
        intro i s u hs hu
        rcases jA i vs0.length with h' | h'
        ·rw [List.getElem?_append_left (by omega)] at hs
         rw [List.getElem?_append_left h'] at hu
         exact y3 i s u hs hu
        ·rw [List.getElem?_append_right (by omega),List.getElem?_map] at hs
         rw [List.getElem?_append_right h',y2] at hu
         cases hid:caps[i - (yE tm c.args.toList).length]? with
         | none=>rw [hid] at hs; simp at hs
         | some id =>
          rw [hid] at hs
          simp only [Option.map_some,j8] at hs
          subst hs
          obtain ⟨z1,z2⟩:=x3 _ id hid
          have hv:kN H id:=by
           have:=List.all_eq_true.1 hcapv id (List.mem_of_getElem? hid)
           unfold j59 at this
           split at this
           ·rename_i hh; exact ⟨_,_,hh⟩
           ·simp at this
          have:=z2 hv
          rw [Array.getElem?_toList,this] at hu
          simp only [j8] at hu
          subst hu
          exact ⟨z1,rfl,fun _=>rfl⟩
       obtain ⟨g1,Ac,gc,r1,s1,hbeg,hI0,hplain,hrel,hlen⟩:=j5D h (fi:=fi) (vals:=vs0 ++ xs.toList) (by simp [y2,x2]) hcc e1 e2 e3 e4 e5 hnd hok
       obtain ⟨k1,k2,k3,k4⟩:=j54 e2
       have hvars:KO.vars (kos ++ List.replicate (fi.pk.filter PK.isMv).length .u)=kos:=j5u _ k2
       have hvals:(vs0 ++ xs.toList).toArray=c.args.map a.eval ++ xs:=by
        apply Array.toList_inj.1
        simp [← y1]
       have hAc:AOk G Ac:=by
        refine ⟨?_,fun b hb=>?_⟩
        ·rw [hbeg.w0]
         refine G.dep A.w0 w (fun b hb=>?_) hA.1
         obtain ⟨z1,z2,z3⟩:=hA.2 b hb
         exact h.keep.block b z1 z2 z3
        ·obtain ⟨z1,z2,z3⟩:=hA.2 b hb
         refine ⟨by rw [hbeg.w0]; exact Nat.lt_of_lt_of_le z1 h.keep.size,fun hp=>?_,fun hp=>?_⟩
         ·obtain ⟨id,hid,rfl⟩:=hbeg.Pv b hp
          obtain ⟨t,cs,hv⟩:=hbeg.var id hid
          rcases r1.ow id _ _ hv rfl with h' | h'
          ·omega
          ·exact z2 h'
         ·obtain ⟨_,_,h',_⟩:=hbeg.Pm b hp
          rcases h' with h' | h'
          ·omega
          ·exact z3 h'
       have hcalls:=hcl f fi _ v0 r hfi hr Ac gc (c.args.map a.eval ++ xs) w hAc (by rw [← hvals]; exact hrel) (by rw [← hvals]; simpa using hlen) hbeg.w0 (by dsimp only; rw [hvars,hbeg.m]; exact k1.symm)
       unfold Oper.wp
       rw [hrun]
       show Calls P f _ w _
       refine Calls.mono hcalls fun en w' hen=>?_
       cases en with
       | returned rv =>
        obtain ⟨vs,rfl,hres⟩:=hen
        obtain ⟨⟨gr,H0r,H1r,us1,us2,q1,q2,q3,q4,q5,q6,q7⟩,hkeep⟩:=hres
        dsimp only at q2 q3 q4
        rw [hvars] at q2 q3 q4
        have hus1:us1.length=(zT 0 fi.rk).length:=by rw [q1.length]; simp only [zT]; rw [(YQ _ _).1]
        show pD ty A g H w _ _ w'
        have fin:∀ (gB:Gh) (H2:List HS),(∃ g2,Rel ty A g2 ⟨tm,H2⟩ a w' ∧ (∀ b,gB.I b → g2.I b) ∧ CR ty g2 H2 w' (j71 r base fi.rk) (Xa vs)) → (∀ b,g.I b → gB.I b) → some (H2,j71 r base fi.rk)=some (H',v) →
          pD ty A g H w ⟨ka tm o.dst v,H'⟩ (a.put o.dst (Xa vs)) w':=by
         intro gB H2 hx hgI he
         simp only [j8,ji] at he
         obtain ⟨rfl,rfl⟩:=he
         obtain ⟨g2,z1,z2,z3⟩:=hx
         exact ⟨g2,z1.put o.dst z3,fun b hb=>z2 b (hgI b hb)⟩
        split at e
        ·rename_i hflat
         simp only [jk] at hflat
         obtain ⟨hfl,hpl⟩:=hflat
         obtain ⟨hidn,_⟩:=QJ hpl e1
         rw [hidn] at k1 hbeg
         have hk0:kos=[]:=jm k1
         subst hk0
         have hPm:=hplain hpl
         split at e
         ·rename_i H2 hput
          refine fin g H2 ?_ (fun _ h=>h) e
          have hflatL:(fi.rk.flatMap Prod.snd).all (RK.flat ty)=true:=by
           rw [List.all_flatMap]
           exact hfl
          have hkf:=j5M (ty:=ty) (i:=0) hflatL
          have hm0:Ac.m=0:=hbeg.m
          have hf2:FL ty Ac { gr with I:=g.I } H0r H1r w' r 0 (zT 0 fi.rk ++ ([]:List KO).flatMap KO.kinds) (us1 ++ us2):=by
           refine j7q (fun b hb _=>?_) q3 (fun e he=>?_) (fun e id he hde ti l vs F hti hrd _=>?_)
           ·rcases hb with hb | hb
            ·rw [hbeg.w0] at hb
             exact fun hI=>absurd (h.lt b hI) (by omega)
            ·exact absurd hb (hPm b)
           ·simp only [List.flatMap_nil,jv] at he
            exact absurd he (hkf.1 e)
           ·simp only [List.flatMap_nil,jv] at he
            exact ⟨[],j5O hrd (hkf.2 e id he hde ti hti),fun _ h=>by cases h⟩
          exact j3s h (ids:=[]) (Ac:=Ac) (kos:=[]) (gr:={ gr with I:=g.I }) ⟨hbeg.w0,hbeg.m,fun j id hj=>by simp at hj,fun b hb=>by
            obtain ⟨id,hid,_⟩:=hbeg.Pv b hb
            simp at hid,fun b hb=>absurd hb (hPm b),fun id hid=>by simp at hid⟩ rfl (fun k hk=>by simp at hk) q1 q2 hf2 q4 (fun _ h=>h)
           (fun b hb=>⟨Nat.lt_of_lt_of_le (h.lt b hb) (by have:=hkeep.size; rwa [hbeg.w0] at this),.inl hb⟩) (fun j hj=>by simp at hj) (fun j hj=>by simp at hj) hkeep rfl hus1 hput
         ·simp at e
        ·rename_i hflat
         split at e
         ·rename_i H2 hput
          refine fin g1 H2 ?_ s1.I e
          have hf2:FL ty Ac { gr with I:=fun b=>g1.I b ∨ gr.I b } H0r H1r w' r 0 (zT 0 fi.rk ++ kos.flatMap KO.kinds) (us1 ++ us2):=by
           refine j7q (fun b hb hnb hI=>?_) q3 (fun e he l v F hrd hF=>⟨F,hrd,fun b hb=>.inr (hF b hb)⟩) (fun e id he _ ti l vs F hti hrd hF=>⟨F,hrd,fun b hb=>.inr (hF b hb)⟩)
           rcases hI with hI | hI
           ·rcases hb with hb | hb
            ·rw [hbeg.w0] at hb
             exact absurd (r1.lt b hI) (by omega)
            ·exact (hbeg.Pm b hb).2.1 hI
           ·exact hnb hI
          have hsz:w.heap.size ≤ w'.heap.size:=by have:=hkeep.size; rwa [hbeg.w0] at this
          refine j3s r1 hbeg (gr:={ gr with I:=fun b=>g1.I b ∨ gr.I b }) k1 k4 q1 q2 hf2 q4 (fun _ h=>.inl h) (fun b hb=>?_) (fun j hj hI=>?_) (fun j hj=>?_) hkeep hnd hus1 hput
          ·rcases hb with hb | hb
           ·exact ⟨Nat.lt_of_lt_of_le (r1.lt b hb) hsz,.inl hb⟩
           ·obtain ⟨z1,z2⟩:=q5 b hb
            rw [hI0,hbeg.w0] at z2
            exact ⟨z1,z2⟩
          ·have hj':j < Ac.m:=by rw [hbeg.m]; exact hj
           rcases hI with hI | hI
           ·rw [hbeg.pb j _ (List.getElem?_eq_getElem hj)] at hI
            obtain ⟨t,cs,hc⟩:=hbeg.var _ (ju hj)
            exact yo r1 hc rfl hI
           ·exact q6 j hj' hI
          ·obtain ⟨o',z1,z2⟩:=q7 j (by rw [hbeg.m]; exact hj)
           exact ⟨o',z1,by rw [Kh rfl rfl rfl]; exact z2⟩
         ·simp at e
       | panicked ch=>exact hen.elim
       | outgrown=>exact hen.elim
      ·simp at e
     ·simp at e
    ·simp at e
   ·simp at e
  ·simp at e
theorem Yl {cfg:Cfg} {G:Glob} (hty:y9 P cfg.ty) (hm:P.follows .mixedOrders=true) (hfn:∀ f fi,cfg.fn f=some fi → FnOk P G cfg.ty f fi) (k:Nat):j5p P G cfg.ty cfg.fn (zg cfg k) :=
 j6s hty hm hfn (fun cl hcl A hA=>j4u hfn hcl A hA) k
end
end Go.Proofs.QV
#print axioms Go.Proofs.QV.Yl
