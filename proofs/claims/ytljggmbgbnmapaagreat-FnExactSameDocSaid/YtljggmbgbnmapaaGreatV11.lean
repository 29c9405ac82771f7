/- One operation: rows that are made, put together, grown. -/
import Derived.Test.YtljggmbgbnmapaaGreatV10
namespace Go.Proofs.YtljggmbgbnmapaaGreatV
open Go
set_option linter.unusedVariables false

section
variable {P : Program} {ty : Nat → Option TI} {A : An} {g : Gh} {tm : List C} {H : List HS} {a : Act} {w : World} {o : Oper} {Q : Exit → Act → World → Prop}

/-- A row is there, newly or in the place of one that is given away. -/
theorem Rel.grow (h : Rel ty A g ⟨tm, H⟩ a w) {base e : Nat} {te : TI} {l : List (List DC)} {v' : Value} {vs : List Value} {F : List Nat} {w' : World} {vo : Option Nat} (hf : getH H base = .free)
    (hte : ty e = some te) (h0 : 0 < te.cts.length) (hg : w.grownBy w' vo)
    (hvo : ∀ b, vo = some b → ¬ g.I b ∧ (A.w0.heap.size ≤ b ∨ A.Pm b) ∧ ∀ i p, getH H i = .live p → oblk g i p ≠ some b)
    (hown : w'.ownsRow 0 e te.cts.length v' l.length vs) (hrd : RdV ty w te.cts l vs F) (hF : ∀ b ∈ F, g.I b) (hv' : ∀ b, v'.ownBlock = some b → vo = some b ∨ w.heap.size ≤ b) :
    ∃ g', Rel ty A g' ⟨tm, setH H base (.live (.row e l))⟩ a w' ∧ Ch g g' H (setH H base (.live (.row e l))) w w' ∧ g'.val base = v' := by
  have hlt := getH_lt_free hf
  let g' : Gh := { g with val := fun i => if i = base then v' else g.val i }
  have hval : g'.val base = v' := by simp [g']
  have hnot : ∀ b, v'.ownBlock = some b → ¬ g.I b ∧ (A.w0.heap.size ≤ b ∨ A.Pm b) ∧ ∀ i p, getH H i = .live p → oblk g i p ≠ some b := by
    intro b hb
    rcases hv' b hb with hb | hb
    · exact hvo b hb
    · exact ⟨fun hI => absurd (h.lt b hI) (by omega), .inl (Nat.le_trans h.keep.size hb), fun i p hi hp => absurd (h.oblk_lt hi hp) (by omega)⟩
  have hold : ∀ b, b < w.heap.size → (∀ c, vo = some c → b ≠ c) → w'.heap[b]? = w.heap[b]? := fun b hb hne => hg.block b hb fun e => hne b e.symm rfl
  have r := h.upd (id := base) (x := .live (.row e l)) (g' := g') (w' := w') hlt (by simp) rfl (fun i hi => by simp [g', hi]) (fun hn => absurd hn (not_nf_free hf)) (fun hn => absurd hn (not_nf_free hf))
    (fun b hb => by
      rcases hb with hb | ⟨i, p, _, hi, hb⟩
      · exact hold b (h.lt b hb) fun c hc => by rintro rfl; exact (hvo b hc).1 hb
      · exact hold b (h.oblk_lt hi hb) fun c hc => by rintro rfl; exact (hvo b hc).2.2 i p hi hb) hg.size
    (fun hch p hp => by
      obtain rfl : Obj'.row e l = p := by simpa using hp
      refine ⟨⟨te, vs, F, hte, h0, by rw [hval]; exact hown, hrd.frame fun b hb => hch.Iw b (hF b hb), hF, fun b hb => (hnot b (by rw [← hval]; exact hb)).1⟩, fun b hb => ?_⟩
      have := hnot b (by rw [← hval]; exact hb)
      exact ⟨this.1, this.2.1, fun i p _ hi => this.2.2 i p hi⟩)
    (fun hm _ => absurd (h.nfm base hm) (not_nf_free hf))
    (h.keep.trans hg.os hg.tape hg.output hg.size fun b hb hp hm => hold b (Nat.lt_of_lt_of_le hb h.keep.size) fun c hc => by
      rintro rfl
      rcases (hvo b hc).2.1 with h1 | h1
      · omega
      · exact hm h1)
  exact ⟨g', r.1, r.2, hval⟩

/-- A new row's slot. -/
theorem post_row {g' : Gh} {H' : List HS} {w' : World} {base e : Nat} {l : List (List DC)} {v' : Value} (hr : Rel ty A g' ⟨tm, H'⟩ a w') (hI : ∀ b, g.I b → g'.I b) (hb : getH H' base = .live (.row e l)) (hv : g'.val base = v') (h1 : v'.oneCell' = true) :
    Post ty A g H w ⟨putC tm o.dst (.one (.own base)), H'⟩ (a.put o.dst v') w' :=
  ⟨g', hr.put o.dst (c := .one (.own base)) ⟨nf_live hb, h1, fun _ => hv.symm⟩, hI⟩

theorem ownsRow_one {w : World} {b e s n : Nat} {v : Value} {xs : List Value} (h : w.ownsRow b e s v n xs) : v.oneCell' = true := by
  rcases h.2 with ⟨rfl, _⟩ | ⟨_, _, _, rfl, _⟩ <;> rfl

/-- 'append' of cells in memory to what the call owns. -/
theorem run_append_ex {P : Program} {t e : Nat} {oty : TypeId} {inf : TypeInfo} {z : Value} (hu : P.underlying t = some (.slice e)) (hi : P.info? e = some inf) (hz : inf.zero = some z) (hzs : z.cells.size = inf.size) (h0 : 0 < inf.size)
    (w : World) {v : Value} {n : Nat} {xs : List Value} (hown : w.ownsRow 0 e inf.size v n xs) (ad : Addr) (m c : Nat) (news : List Value) (hl : news.length = m * inf.size)
    (hnews : ∀ j u, news[j]? = some u → w.cell? (ad.add j) = some u) (h1 : ∀ u ∈ news, u.oneCell' = true) (h63 : n + m ≤ maxLen) (hbytes : (n + m) * inf.bytes ≤ 140737488355328) :
    ∃ v' w', (Builtin.append_ #[t, t] oty #[v, .slice (some ad) m c]).run P w = .ok v' w' ∧ w'.ownsRow 0 e inf.size v' (n + m) (xs ++ news) ∧ w.grownBy w' v.ownBlock ∧
      ∀ b, v'.ownBlock = some b → v.ownBlock = some b ∨ w.heap.size ≤ b := by
  rcases hown.2 with ⟨rfl, rfl⟩ | ⟨k, cap, cur, rfl, hk, hg, hnc, hcm, hcs, htake⟩
  · have hx : xs = [] := List.eq_nil_of_length_eq_zero (by simpa using hown.1)
    subst hx
    obtain ⟨v', w', h2, h3, h4, h5⟩ := run_append_own (P := P) w w.heap.size t oty e inf z inf.size inf.bytes hu hi hz rfl rfl hzs h0 (.slice none 0 0) 0 [] (World.ownsRow_nil _ _ _ _) ad m c news hl hnews h1 h63 hbytes (Nat.le_refl _)
    refine ⟨v', w', h2, ⟨h3.1, ?_⟩, h4, fun b hb => .inr (h3.lt b hb).1⟩
    rcases h3.2 with h3 | ⟨k, cap, cur, q1, q2, q3⟩
    · exact .inl h3
    · exact .inr ⟨k, cap, cur, q1, Nat.zero_le _, q3⟩
  · by_cases hroom : n + m ≤ cap
    · obtain ⟨w', h2, h3, h4⟩ := run_append_fits (P := P) w 0 t oty e inf inf.size hu hi rfl k n cap xs hown ad m c news hl hnews h1 hroom
      exact ⟨_, w', h2, h3, h4, fun b hb => .inl hb⟩
    · obtain ⟨v', w', h2, h3, h4, h5⟩ := run_append_own (P := P) w 0 t oty e inf z inf.size inf.bytes hu hi hz rfl rfl hzs h0 _ n xs hown ad m c news hl hnews h1 h63 hbytes (Nat.zero_le _)
      have holds : ∀ j u, xs[j]? = some u → w.cell? ((⟨k, 0, none⟩ : Addr).add j) = some u := hown.cells (g := k) rfl
      have hr := run_append_grow (P := P) w t oty e inf z hu hi hz ⟨k, 0, none⟩ n cap xs hown.1 holds ad m c news hl hnews (by omega) (by simp only [maxLen] at h63; omega) (growslice_fits (by omega) hbytes)
      have he := h2.symm.trans hr
      simp only [Result.ok.injEq] at he
      refine ⟨v', w', h2, h3, h4, fun b hb => .inr ?_⟩
      rw [he.1] at hb
      simp only [Value.ownBlock, Option.some.injEq] at hb
      omega

theorem run_append_ex_string {P : Program} {t u e : Nat} {oty : TypeId} {inf : TypeInfo} (hu : P.underlying t = some (.slice e)) (huu : P.underlying u = some .string) (hi : P.info? e = some inf) (hz : inf.zero = some (.int .u8 0)) (hs : inf.size = 1) (hby : inf.bytes = 1)
    (w : World) {v : Value} {n : Nat} {xs : List Value} (hown : w.ownsRow 0 e 1 v n xs) (s : ByteArray) (h63 : n + s.size ≤ maxLen) (hbytes : n + s.size ≤ 140737488355328) :
    ∃ v' w', (Builtin.append_ #[t, u] oty #[v, .string s]).run P w = .ok v' w' ∧ w'.ownsRow 0 e 1 v' (n + s.size) (xs ++ Lib.strCells s) ∧ w.grownBy w' v.ownBlock ∧
      ∀ b, v'.ownBlock = some b → v.ownBlock = some b ∨ w.heap.size ≤ b := by
  rcases hown.2 with ⟨rfl, rfl⟩ | ⟨k, cap, cur, rfl, hk, hg, hnc, hcm, hcs, htake⟩
  · have hx : xs = [] := List.eq_nil_of_length_eq_zero (by simpa using hown.1)
    subst hx
    obtain ⟨v', w', h2, h3, h4, h5⟩ := Lib.run_append_own_string (P := P) w w.heap.size t u oty e inf hu huu hi hz hs hby (.slice none 0 0) 0 [] (World.ownsRow_nil _ _ _ _) s h63 hbytes (Nat.le_refl _)
    refine ⟨v', w', h2, ⟨h3.1, ?_⟩, h4, fun b hb => .inr (h3.lt b hb).1⟩
    rcases h3.2 with h3 | ⟨k, cap, cur, q1, q2, q3⟩
    · exact .inl h3
    · exact .inr ⟨k, cap, cur, q1, Nat.zero_le _, q3⟩
  · obtain ⟨v', w', h2, h3, h4, h5⟩ := Lib.run_append_own_string (P := P) w 0 t u oty e inf hu huu hi hz hs hby _ n xs hown s h63 hbytes (Nat.zero_le _)
    refine ⟨v', w', h2, h3, h4, fun b hb => ?_⟩
    by_cases hroom : n + s.size ≤ cap
    · have hr := Lib.run_append_room_string (P := P) w t u oty e inf hu huu hi hs k n cap cur hg s hroom (by rw [hcs]; omega)
      have he := h2.symm.trans hr
      simp only [Result.ok.injEq] at he
      rw [he.1] at hb
      exact .inl hb
    · have holds : ∀ j u, xs[j]? = some u → w.cell? ((⟨k, 0, none⟩ : Addr).add j) = some u := hown.cells (g := k) rfl
      have hr := Lib.run_append_grow_string (P := P) w t u oty e inf (.int .u8 0) hu huu hi hz ⟨k, 0, none⟩ n cap xs (by rw [hs]; simpa using hown.1) holds s (by omega) (by simp only [maxLen] at h63; omega) (by rw [hby]; exact growslice_fits (by omega) (by omega))
      have he := h2.symm.trans hr
      simp only [Result.ok.injEq] at he
      right
      rw [he.1] at hb
      simp only [Value.ownBlock, Option.some.injEq] at hb
      omega

/-- Nothing is appended. -/
theorem run_append_ex_none {P : Program} {t e : Nat} {oty : TypeId} {inf : TypeInfo} (hu : P.underlying t = some (.slice e)) (hi : P.info? e = some inf) (w : World) {v : Value} {n : Nat} {xs : List Value} {b : Nat} (c : Nat) (hown : w.ownsRow b e inf.size v n xs) :
    (Builtin.append_ #[t, t] oty #[v, .slice none 0 c]).run P w = .ok v w := by
  rcases hown.2 with ⟨rfl, rfl⟩ | ⟨g, cap, cur, rfl, _, _, hnc, _⟩
  · simp [Builtin.append_, run_underlying hu, sizeOf, typeInfo, hi, Builtin.lenOf, Builtin.firstCells]
  · simp [Builtin.append_, run_underlying hu, sizeOf, typeInfo, hi, Builtin.lenOf, Builtin.firstCells, hnc, storeCells]

theorem bytes_rdv : ∀ l : List UInt8, RdV ty w [.i .u8] (bytesRow l) (l.map fun b => Value.int .u8 b.toNat) []
  | [] => .nil _
  | c :: l => by
    have := RdV.cons (ty := ty) (w := w) [.i .u8] [DC.i c.toNat] (bytesRow l) [Value.int .u8 c.toNat] _ _ _ (.cons _ _ _ _ _ _ _ _ (.i .u8 c.toNat) .nil) (bytes_rdv l)
    exact this

/-- What is appended to. -/
theorem oldRow_ok (h : Rel ty A g ⟨tm, H⟩ a w) {e : Nat} {te : TI} (hte : ty e = some te) {x : C} {v : Value} {l : List (List DC)} {H1 : List HS} (hx : CR ty g H w x v) (e1 : oldRow H e x = some (l, H1)) :
    Rel ty A g ⟨tm, H1⟩ a w ∧ Ch g g H H1 w w ∧ ∃ (xs : List Value) (F : List Nat), w.ownsRow 0 e te.cts.length v l.length xs ∧ RdV ty w te.cts l xs F ∧ (∀ b ∈ F, g.I b) ∧
      ∀ b, v.ownBlock = some b → ¬ g.I b ∧ (A.w0.heap.size ≤ b ∨ A.Pm b) ∧ ∀ i p, getH H1 i = .live p → oblk g i p ≠ some b := by
  unfold oldRow at e1
  split at e1
  · simp only [Option.some.injEq, Prod.mk.injEq] at e1
    obtain ⟨rfl, rfl⟩ := e1
    have hv : v = .slice none 0 0 := hx
    subst hv
    exact ⟨h, .refl _ _ _, [], [], World.ownsRow_nil _ _ _ _, .nil _, fun _ h => by (cases h), fun b hb => by simp [Value.ownBlock] at hb⟩
  · rename_i id
    split at e1
    · rename_i e' l' hr
      split at e1
      · rename_i hee
        subst hee
        simp only [Option.some.injEq, Prod.mk.injEq] at e1
        obtain ⟨rfl, rfl⟩ := e1
        obtain ⟨r1, c1⟩ := h.kill hr
        obtain ⟨ti, vs, F, h1, h0, h2, h3, h4, h5⟩ := h.ob id _ hr
        obtain rfl : te = ti := by rw [hte] at h1; exact Option.some.inj h1
        have hv : v = g.val id := hx.2.2 ⟨_, _, .inl hr⟩
        subst hv
        refine ⟨r1, c1, vs, F, h2, h3, h4, fun b hb => ⟨h5 b hb, h.ow id _ b hr hb, fun i p hi hp => ?_⟩⟩
        by_cases hid : id = i
        · subst hid
          rw [getH_set_same _ (getH_lt_live hr)] at hi
          simp at hi
        · rw [getH_set_ne _ hid] at hi
          exact h.sep i id p _ b (fun k => hid k.symm) hi hr hp hb
      · simp at e1
    · simp at e1
  · simp at e1

theorem step_append (hty : TyOk P ty) {c : Call} (ho : o.op = .call c) (hb : c.callee = .builtin .append) {t u base : Nat} (hat : c.argTypes.toList = [t, u]) {x y r : C} (h : Rel ty A g ⟨tm, H⟩ a w)
    (hx : opds tm c.args.toList = [x, y]) {H' : List HS}
    (e : appendR (ρ := Option (List HS × C)) ty none t u base ⟨tm, H⟩ x y (fun H c => some (H, c)) = some (H', r)) :
    o.wp P a w (Post ty A g H w ⟨putC tm o.dst r, H'⟩) Q := by
  obtain ⟨v1, v2, hv, r1, r2⟩ := args_two h hx
  have hat' : c.argTypes = #[t, u] := by apply Array.toList_inj.1; simpa using hat
  unfold appendR at e
  split at e
  · simp at e
  · rename_i el ht
    split at e
    · simp at e
    · rename_i te hte
      have hu := isSlice_ok hty ht
      split at e
      · rename_i hc
        obtain ⟨inf, z, hinf, hsz, hby, hz, hzc⟩ := (hty el te hte).info
        split at e
        · rename_i l H1 m ho1 hn1
          split at e
          · rename_i hf
            split at e
            · rename_i hlim
              simp only [Option.some.injEq, Prod.mk.injEq] at e
              obtain ⟨rfl, rfl⟩ := e
              obtain ⟨k1, c1, xs, F, k2, k3, k4, k5⟩ := oldRow_ok h hte r1 ho1
              have hzs : z.cells.size = inf.size := by rw [hzc, hsz]; simp
              have hn : l.length + m.length ≤ maxLen := by simp only [LIM] at hlim; simp only [maxLen]; omega
              have hbb : (l.length + m.length) * inf.bytes ≤ 140737488355328 := by
                rw [hby]
                refine Nat.le_trans (Nat.mul_le_mul (Nat.le_of_lt hlim) hc.1) ?_
                simp [LIM]
              have fin : ∀ (v' : Value) (w' : World) (ms : List Value) (G : List Nat), (Builtin.append_ #[t, u] o.type #[v1, v2]).run P w = .ok v' w' → w'.ownsRow 0 el te.cts.length v' (l.length + m.length) (xs ++ ms) → w.grownBy w' v1.ownBlock →
                  (∀ b, v'.ownBlock = some b → v1.ownBlock = some b ∨ w.heap.size ≤ b) → RdV ty w te.cts m ms G → (∀ b ∈ G, g.I b) →
                  o.wp P a w (Post ty A g H w ⟨putC tm o.dst (.one (.own base)), setH H1 base (.live (.row el (l ++ m)))⟩) Q := by
                intro v' w' ms G hr hown hgr hv' hrd hG
                obtain ⟨g', q1, q2, q3⟩ := k1.grow (base := base) (e := el) (l := l ++ m) hf hte hc.2 hgr k5 (by simpa using hown) (k3.append hrd) (fun b hb => by
                  rcases List.mem_append.1 hb with hb | hb
                  · exact k4 b hb
                  · exact hG b hb) hv'
                refine wp_value (v := v') (w' := w') ?_ (post_row q1 q2.I (getH_set_same _ (getH_lt_free hf)) q3 (ownsRow_one hown))
                obtain ⟨cs, hcs⟩ := run_builtin (ρ := a.eval) ho hb w
                rw [hcs, hv, hat']
                simp only [builtin]
                rw [Sem.run_bind, hr]
                rfl
              rw [← hsz] at k2
              have nothing : ∀ (cc : Nat), m = [] → u = t → v2 = .slice none 0 cc → o.wp P a w (Post ty A g H w ⟨putC tm o.dst (.one (.own base)), setH H1 base (.live (.row el (l ++ m)))⟩) Q := by
                intro cc hm hut hv2
                subst hm
                subst hut
                refine fin v1 w [] [] ?_ (by rw [← hsz]; simpa using k2) ⟨rfl, rfl, rfl, Nat.le_refl _, fun _ _ _ => rfl⟩ (fun b hb => .inl hb) (.nil _) (fun _ h => by cases h)
                rw [hv2]
                exact run_append_ex_none hu hinf w cc k2
              unfold newRows at hn1
              split at hn1
              · split at hn1
                · rename_i hut
                  simp only [Option.some.injEq] at hn1
                  exact nothing 0 hn1.symm hut r2
                · simp at hn1
              · rename_i s
                split at hn1
                · rename_i tu hk hu'
                  split at hn1
                  · rename_i hb1
                    simp only [Option.some.injEq] at hn1
                    subst hn1
                    have huu := kd_str hty hu' rfl
                    have hei := kd_int hty hte hk
                    have hst : isStruct (some te) = false := by simp [isStruct, hk]
                    obtain ⟨inf', hinf', hz'⟩ := (hty el te hte).zero1 hst
                    obtain rfl : inf = inf' := by rw [hinf] at hinf'; exact Option.some.inj hinf'
                    rw [hei.2] at hz'
                    have hs1 : inf.size = 1 := by rw [hsz, hei.2]; rfl
                    have hbs : (ByteArray.mk s.toArray).size = s.length := by simp [ByteArray.size]
                    have hml : (bytesRow s).length = s.length := by simp [bytesRow]
                    rw [hml] at hn hlim hbb
                    obtain ⟨v', w', q1, q2, q3, q4⟩ := run_append_ex_string (P := P) (t := t) (u := u) (e := el) (oty := o.type) (inf := inf) hu huu hinf hz' hs1 (by rw [hby]; exact hb1) w (by rw [← hs1]; exact k2) ⟨s.toArray⟩ (by rw [hbs]; exact hn) (by rw [hbs]; simp only [LIM] at hlim; omega)
                    have ev : v2 = .string ⟨s.toArray⟩ := r2
                    refine fin v' w' (s.map fun b => Value.int .u8 b.toNat) [] (by rw [ev]; exact q1) ?_ q3 q4 (by rw [hei.2]; exact bytes_rdv s) (fun _ h => by cases h)
                    rw [← hsz, hs1, hml]
                    rw [hbs] at q2
                    simpa [Lib.strCells] using q2
                  · simp at hn1
                · simp at hn1
              · rename_i s _ _
                split at hn1
                · rename_i e'' l2 hsl
                  split at hn1
                  · rename_i hee
                    obtain ⟨rfl, rfl⟩ := hee
                    simp only [Option.some.injEq] at hn1
                    subst hn1
                    have hm := slice_mem (v := v2) (by
                      rcases sliceOf_ok h r2 hsl with h1 | ⟨ti, vs, F, id, _, _, _, h1⟩
                      · exact .inl h1
                      · exact .inr ⟨ti, vs, F, h1⟩)
                    obtain ⟨ad, cap, hv2, hm, hne⟩ := hm
                    have some_case : ∀ (b' : Addr) (ms : List Value) (G : List Nat), ad = some b' → ms.length = l2.length * inf.size → (∀ j q, ms[j]? = some q → w.cell? (b'.add j) = some q) → RdV ty w te.cts l2 ms G → (∀ b ∈ G, g.I b) →
                        o.wp P a w (Post ty A g H w ⟨putC tm o.dst (.one (.own base)), setH H1 base (.live (.row e'' (l ++ l2)))⟩) Q := by
                      intro b' ms G hb' hml hcell hrd hG
                      obtain ⟨v', w', q1, q2, q3, q4⟩ := run_append_ex (P := P) (oty := o.type) hu hinf hz hzs (by omega) w k2 b' l2.length cap ms hml hcell hrd.one hn hbb
                      exact fin v' w' ms G (by rw [hv2, hb']; exact q1) (by rw [← hsz]; exact q2) q3 q4 hrd hG
                    rcases hm with rfl | ⟨ti, vs, F', b, off, p1, p0, rfl, p2, p3, p4⟩
                    · cases ad with
                      | none => exact nothing cap rfl rfl hv2
                      | some b' => exact some_case b' [] [] rfl (by simp) (fun j q hj => by simp at hj) (.nil _) (fun _ h => by cases h)
                    · obtain rfl := Option.some.inj (hte.symm.trans p1)
                      exact some_case ⟨b, off, none⟩ vs F' rfl (by rw [hsz]; exact p3.length) (fun j q hj => by rw [Addr.add_lit]; exact p2 j q hj) p3 p4
                  · simp at hn1
                · simp at hn1
              · simp at hn1
            · simp at e
          · simp at e
        · simp at e
      · simp at e

end
end Go.Proofs.YtljggmbgbnmapaaGreatV
