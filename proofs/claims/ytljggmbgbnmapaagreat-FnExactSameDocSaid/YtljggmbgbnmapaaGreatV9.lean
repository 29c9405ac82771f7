/- One operation: addresses, fields, indexes, lengths, components, function values. -/
import Derived.Test.YtljggmbgbnmapaaGreatV8
namespace Go.Proofs.YtljggmbgbnmapaaGreatV
open Go
set_option linter.unusedVariables false

section
variable {P : Program} {ty : Nat → Option TI} {A : An} {g : Gh} {tm : List C} {H : List HS} {a : Act} {w : World} {o : Oper} {Q : Exit → Act → World → Prop}

theorem step_nilCheck (x : Operand) (ho : o.op = .nilCheck x) (h : Rel ty A g ⟨tm, H⟩ a w) {id off t : Nat} {cs : List S} (hx : opd tm x = .one (.ptr id off)) (hv : getH H id = .live (.var t cs)) :
    o.wp P a w (Post ty A g H w ⟨putC tm o.dst (.one (.ptr id off)), H⟩) Q := by
  have rx := h.opd x
  rw [hx] at rx
  have ex := rx.2.2 ⟨_, _, hv⟩
  exact wp_value (v := a.eval x) (w' := w) (by simp [execOp, ho, ex]) (post_put h rx)

theorem run_fieldPlace {P : Program} (b off : Nat) (f : Go.Field) (w : World) {n : Nat} (hi : ∃ inf, P.info? f.type = some inf ∧ inf.size = n) (h0 : 0 < n) :
    (fieldPlace ⟨b, off, none⟩ f).run P w = .ok ⟨b, off + f.offset, none⟩ w := by
  obtain ⟨inf, hi, hs⟩ := hi
  have : ¬ inf.size = 0 := by omega
  simp [fieldPlace, run_sizeOf hi, this, Addr.add_lit]

theorem step_fieldAddr (hty : TyOk P ty) (t : TypeId) (x : Operand) (j : Nat) (ho : o.op = .fieldAddr t x j) (h : Rel ty A g ⟨tm, H⟩ a w) {ti : TI} (ht : ty t = some ti) (hst : isStruct (some ti) = true)
    {off n : Nat} {ag : Bool} (hj : ti.flds[j]? = some (off, n, ag)) (h0 : 0 < n) {c : C}
    (hc : (∃ id o' t' cs, opd tm x = .one (.ptr id o') ∧ getH H id = .live (.var t' cs) ∧ c = .one (.ptr id (o' + off))) ∨ (∃ e y o', opd tm x = .elS e y o' ∧ c = .elS e y (o' + off)) ∨
      (∃ e id ix o' e' l, opd tm x = .elO e id ix o' ∧ getH H id = .live (.row e' l) ∧ c = .elO e id ix (o' + off))) :
    o.wp P a w (Post ty A g H w ⟨putC tm o.dst c, H⟩) Q := by
  have rx := h.opd x
  obtain ⟨fs, hu, hn, hf⟩ := kd_struct hty ht hst
  have hjl : j < ti.flds.length := by
    rcases Nat.lt_or_ge j ti.flds.length with h' | h'
    · exact h'
    · simp [List.getElem?_eq_none h'] at hj
  have hfj : fs[j]? = some fs[j] := Array.getElem?_eq_getElem (by omega)
  have hok := hf j _ _ hfj hj
  have fin : ∀ (b o' : Nat), a.eval x = .pointer (some ⟨b, o', none⟩) → CR ty g H w c (.pointer (some ⟨b, o' + off, none⟩)) → o.wp P a w (Post ty A g H w ⟨putC tm o.dst c, H⟩) Q := by
    intro b o' he hcr
    refine wp_value (v := .pointer (some ⟨b, o' + off, none⟩)) (w' := w) ?_ (post_put h hcr)
    have : fs[j].offset = off := hok.off
    simp [execOp, ho, Instr.fieldAt, run_underlying hu, hfj, he, Instr.sureAddr, run_fieldPlace _ _ _ _ hok.size h0, this]
  rcases hc with ⟨id, o', t', cs, hx, hv, rfl⟩ | ⟨e, y, o', hx, rfl⟩ | ⟨e, id, ix, o', e', l, hx, hv, rfl⟩
  · rw [hx] at rx
    exact fin _ _ (rx.2.2 ⟨_, _, hv⟩) ⟨rx.1, rfl, fun hr => by
      obtain ⟨t2, cs2, hr⟩ := hr
      rfl⟩
  · rw [hx] at rx
    obtain ⟨ti', b, o2, vs, F, h1, h2, h3, h4, h5, h6⟩ := rx
    exact fin _ _ h2 ⟨ti', b, o2, vs, F, h1, by rw [Nat.add_assoc], h3, h4, h5, h6⟩
  · rw [hx] at rx
    obtain ⟨ti', b, len, cap, h1, h2, h3, h4⟩ := rx.2 ⟨_, _, .inl hv⟩
    exact fin _ _ h4 ⟨rx.1, fun _ => ⟨ti', b, len, cap, h1, h2, h3, by rw [Nat.add_assoc]⟩⟩

/-- A part of a record's cells, as a value. -/
theorem run_part {P : Program} {f n : Nat} {ag : Bool} (hok : ∃ d, P.underlying f = some d ∧ isAggD d = ag) (hi : ∃ inf, P.info? f = some inf ∧ inf.size = n) (vs : List Value) (off : Nat)
    (hfit : off + n ≤ vs.length) (h0 : 0 < n) (w : World) :
    (part f vs.toArray off).run P w = .ok (if ag then .agg ((vs.drop off).take n).toArray else ((vs.drop off).take n).headD undef) w := by
  obtain ⟨d, hd, hs⟩ := hok
  obtain ⟨inf, hi, hsz⟩ := hi
  unfold part
  rw [Sem.run_bind, run_isAgg hd, Result.andThen_ok, hs]
  cases ag with
  | true =>
    simp [run_sizeOf hi, hsz, List.extract_eq_take_drop]
  | false =>
    have h1 : vs[off]? = some vs[off] := List.getElem?_eq_getElem (by omega)
    have h2 : ((vs.drop off).take n).headD undef = vs[off] := by
      cases n with
      | zero => omega
      | succ m =>
        rw [List.drop_eq_getElem_cons (by omega)]
        rfl
    simp only [List.getElem?_toArray, h1, h2]
    simp

theorem step_field (hty : TyOk P ty) (t : TypeId) (x : Operand) (j : Nat) (ho : o.op = .field t x j) (h : Rel ty A g ⟨tm, H⟩ a w) {ti : TI} (ht : ty t = some ti) (hst : isStruct (some ti) = true)
    {off n : Nat} {ag : Bool} (hj : ti.flds[j]? = some (off, n, ag)) (h0 : 0 < n) {l : List S} (hx : opd tm x = .agg l) (hfit : off + n ≤ l.length) :
    o.wp P a w (Post ty A g H w ⟨putC tm o.dst (mkC ag ((l.drop off).take n)), H⟩) Q := by
  have rx := h.opd x
  rw [hx] at rx
  obtain ⟨vs, hv, hs⟩ := rx
  obtain ⟨fs, hu, hn, hf⟩ := kd_struct hty ht hst
  have hjl : j < ti.flds.length := by
    rcases Nat.lt_or_ge j ti.flds.length with h' | h'
    · exact h'
    · simp [List.getElem?_eq_none h'] at hj
  have hfj : fs[j]? = some fs[j] := Array.getElem?_eq_getElem (by omega)
  have hok := hf j _ _ hfj hj
  have e1 : fs[j].offset = off := hok.off
  have := hs.length
  refine wp_value (v := if ag then .agg ((vs.drop off).take n).toArray else ((vs.drop off).take n).headD undef) (w' := w) ?_ (post_put h (mkC_ok ((hs.drop off).take n)))
  simp [execOp, ho, Instr.field, run_underlying hu, hfj, hv, asAgg, e1, run_part (n := n) (ag := ag) hok.agg hok.size vs off (by omega) h0]

/-- The j-th element's cells. -/
theorem row_elem {ti : TI} {e : Nat} {l : List (List DC)} {vs : List Value} {F : List Nat} {b off : Nat} (h1 : ty e = some ti)
    (h2 : ∀ (j : Nat) (u : Value), vs[j]? = some u → w.cell? ⟨b, off + j, none⟩ = some u) (h3 : RdV ty w ti.cts l vs F) (h4 : ∀ c ∈ F, g.I c) (hb : g.I b) (ix : Nat) (hix : ix < l.length) :
    CR ty g H w (.elS e (l.getD ix []) 0) (.pointer (some ⟨b, off + ix * ti.cts.length, none⟩)) := by
  obtain ⟨u, G, q1, q2, q3⟩ := h3.at ix hix
  refine ⟨ti, b, off + ix * ti.cts.length, u, G, h1, rfl, fun j x hx => ?_, q1, fun c hc => h4 c (q2 c hc), hb⟩
  have hj : j < ti.cts.length := by
    have := (RdL.length q1).1
    rcases Nat.lt_or_ge j u.length with h' | h'
    · omega
    · simp [List.getElem?_eq_none h'] at hx
  rw [Nat.add_assoc]
  exact h2 _ x (by rw [q3 j hj]; exact hx)

theorem run_indexAt {P : Program} {t e : Nat} (hu : P.underlying t = some (.slice e)) {inf : TypeInfo} (hi : P.info? e = some inf) (b off n cap : Nat) (k : IntKind) (i : Int) (h : 0 ≤ i ∧ i < (n : Int)) (w : World) :
    (Instr.indexAt t (.slice (some ⟨b, off, none⟩) n cap) (.int k i)).run P w = .ok (.pointer (some ⟨b, off + i.toNat * inf.size, none⟩)) w := by
  simp [Instr.indexAt, asIntOf, run_underlying hu, h.1, h.2, run_sizeOf hi, Addr.add_lit]

theorem step_indexAddr (hty : TyOk P ty) (t : TypeId) (x i : Operand) (ho : o.op = .indexAddr t x i) (h : Rel ty A g ⟨tm, H⟩ a w) {e0 : Nat} (ht : isSlice (ty t) = some e0) {cl : Cls} {c : C}
    (e : indexR (ρ := Option (Cls × C)) none e0 ⟨tm, H⟩ (opd tm x) (opd tm i) (fun cl c => some (cl, c)) = some (cl, c)) :
    o.wp P a w (Post ty A g H w ⟨putC tm o.dst c, H⟩) Q := by
  have hu := isSlice_ok hty ht
  unfold indexR at e
  have rx := h.opd x
  have ri := h.opd i
  split at e
  · rename_i k n hi
    rw [hi] at ri
    have ei : a.eval i = .int k n := ri
    have fin : ∀ (ti : TI) (b off len cap : Nat), ty e0 = some ti → a.eval x = .slice (some ⟨b, off, none⟩) len cap → 0 ≤ n → n < (len : Int) →
        CR ty g H w c (.pointer (some ⟨b, off + n.toNat * ti.cts.length, none⟩)) → o.wp P a w (Post ty A g H w ⟨putC tm o.dst c, H⟩) Q := by
      intro ti b off len cap h1 h2 h3 h4 h5
      obtain ⟨inf, z, hinf, hsz, _⟩ := (hty e0 ti h1).info
      refine wp_value (v := .pointer (some ⟨b, off + n.toNat * ti.cts.length, none⟩)) (w' := w) ?_ (post_put h h5)
      rw [← hsz]
      simp [execOp, ho, h2, ei, run_indexAt hu hinf b off len cap k n ⟨h3, h4⟩]
    have fz : ∀ (l : List (List DC)) (F : List Nat), RdC ty w (.sl e0) (.sl l) (a.eval x) F → (∀ b ∈ F, g.I b) → 0 ≤ n → n < (l.length : Int) → c = .elS e0 (l.getD n.toNat []) 0 →
        o.wp P a w (Post ty A g H w ⟨putC tm o.dst c, H⟩) Q := by
      intro l F h1 h2 h3 h4 h5
      generalize hv : a.eval x = v at h1
      cases h1 with
      | nil => simp at h4; omega
      | sl _ ti b off len cap _ vs F' k1 k0 k2 k3 k4 k5 k6 =>
        rw [h5] at fin ⊢
        exact fin ti b off len cap k1 hv h3 (by omega) (row_elem k1 k5 k6 (fun c hc => h2 c (by simp [hc])) (h2 b (by simp)) _ (by omega))
    split at e
    · rename_i e' l hx
      rw [hx] at rx
      split at e
      · rename_i hc
        obtain ⟨rfl, hc⟩ := hc
        obtain ⟨F, h1, h2⟩ := rx
        simp only [Option.some.injEq, Prod.mk.injEq] at e
        exact fz l F h1 h2 hc.1 hc.2 e.2.symm
      · simp at e
    · rename_i id hx
      rw [hx] at rx
      split at e
      · rename_i e' l hr
        split at e
        · rename_i hc
          obtain ⟨rfl, hc⟩ := hc
          simp only [Option.some.injEq, Prod.mk.injEq] at e
          obtain ⟨ti, vs, F, h1, h0, h2, h3, h4, h5⟩ := h.ob id _ hr
          have hv := rx.2.2 ⟨_, _, .inl hr⟩
          rcases h2.2 with ⟨_, hn⟩ | ⟨b, cap, cur, hval, _⟩
          · omega
          · have := fin ti b 0 l.length cap h1 (hv.trans hval) hc.1 hc.2
            rw [← e.2] at this ⊢
            exact this ⟨nf_live hr, fun _ => ⟨ti, b, l.length, cap, h1, hval, by omega, by simp⟩⟩
        · simp at e
      · rename_i e' l hr
        split at e
        · rename_i hc
          obtain ⟨rfl, hc⟩ := hc
          simp only [Option.some.injEq, Prod.mk.injEq] at e
          obtain ⟨F, h1, h2⟩ := h.ob id _ hr
          exact fz l F (by rw [rx.2.2 ⟨_, _, .inr hr⟩]; exact h1) h2 hc.1 hc.2 e.2.symm
        · simp at e
      · simp at e
    · simp at e
  · simp at e

theorem step_index (hty : TyOk P ty) (t : TypeId) (x i : Operand) (ho : o.op = .index t x i) (h : Rel ty A g ⟨tm, H⟩ a w) {ti : TI} (ht : ty t = some ti) (hk : ti.kd = .str) {l : List UInt8} {k : IntKind} {n : Int}
    (hx : opd tm x = .one (.str l)) (hi : opd tm i = .one (.int k n)) (hc : 0 ≤ n ∧ n < (l.length : Int)) :
    o.wp P a w (Post ty A g H w ⟨putC tm o.dst (.one (.int .u8 ((l.getD n.toNat 0).toNat : Int))), H⟩) Q := by
  have rx := h.opd x
  have ri := h.opd i
  rw [hx] at rx
  rw [hi] at ri
  have ex : a.eval x = .string ⟨l.toArray⟩ := rx
  have ei : a.eval i = .int k n := ri
  have hs : (ByteArray.mk l.toArray).size = l.length := by simp [ByteArray.size]
  have hn : n.toNat < l.length := by omega
  refine wp_value (v := .int .u8 ((l.getD n.toNat 0).toNat : Int)) (w' := w) ?_ (post_put h rfl)
  have hg : (ByteArray.mk l.toArray)[n.toNat]'(by rw [hs]; exact hn) = l.getD n.toNat 0 := by
    rw [List.getD_eq_getElem?_getD, List.getElem?_eq_getElem hn]
    rfl
  simp only [execOp, ho, ex, ei]
  rw [Sem.run_bind, run_index_string w t _ k n (kd_str hty ht hk), dif_pos (by rw [hs]; exact hc), hg]
  rfl

theorem step_extract (x : Operand) (j : Nat) (ho : o.op = .extract x j) (h : Rel ty A g ⟨tm, H⟩ a w) {l : List (Bool × List S)} {ag : Bool} {ss : List S} (hx : opd tm x = .tup l) (hj : l[j]? = some (ag, ss)) :
    o.wp P a w (Post ty A g H w ⟨putC tm o.dst (mkC ag ss), H⟩) Q := by
  have rx := h.opd x
  rw [hx] at rx
  obtain ⟨vs, h1, h2, h3⟩ := rx
  have hjl : j < vs.length := by
    rw [h2]
    rcases Nat.lt_or_ge j l.length with h' | h'
    · exact h'
    · simp [List.getElem?_eq_none h'] at hj
  have hv : vs[j]? = some vs[j] := List.getElem?_eq_getElem hjl
  obtain ⟨h4, h5⟩ := h3 j ag ss _ hj hv
  refine wp_value (v := vs[j]) (w' := w) (by simp [execOp, ho, Instr.extract, h1, hv]) (post_put h ?_)
  cases ag with
  | true =>
    obtain ⟨us, h6, h7⟩ := h4 rfl
    rw [h6]
    exact ⟨us, rfl, h7⟩
  | false => exact h5 rfl

/-- A call of a function that is built in. -/
theorem run_builtin {P : Program} {ρ : Operand → Value} {o : Oper} {c : Call} {b : Builtin} (ho : o.op = .call c) (hc : c.callee = .builtin b) (w : World) :
    ∃ consts, (execOp ρ o).run P w = (builtin b c.argTypes o.type consts (c.args.map ρ)).run P w := by
  simp only [execOp, ho, resolve, hc, invoke, Sem.run_bind, Sem.run_pure, Result.andThen_ok]
  exact ⟨_, rfl⟩

theorem opds_map (h : Rel ty A g ⟨tm, H⟩ a w) : ∀ (l : List Operand) (cs : List C), opds tm l = cs → ∃ vs : List Value, l.map a.eval = vs ∧ vs.length = cs.length ∧ ∀ (i : Nat) (c : C) (v : Value), cs[i]? = some c → vs[i]? = some v → CR ty g H w c v
  | [], _, rfl => ⟨[], rfl, rfl, fun i c v h => by simp [opds] at h⟩
  | x :: l, _, rfl => by
    obtain ⟨vs, h1, h2, h3⟩ := opds_map h l _ rfl
    refine ⟨a.eval x :: vs, by simp [h1], by simp [opds, h2], fun i c v hi hv => ?_⟩
    cases i with
    | zero =>
      simp only [opds, List.getElem?_cons_zero, Option.some.injEq] at hi hv
      subst hi
      subst hv
      exact h.opd x
    | succ i =>
      simp only [opds, List.getElem?_cons_succ] at hi hv
      exact h3 i c v hi hv

theorem args_one (h : Rel ty A g ⟨tm, H⟩ a w) {args : Array Operand} {c : C} (he : opds tm args.toList = [c]) : ∃ v, args.map a.eval = #[v] ∧ CR ty g H w c v := by
  obtain ⟨vs, h1, h2, h3⟩ := opds_map h args.toList _ he
  match vs, h2 with
  | [v], _ =>
    refine ⟨v, ?_, h3 0 c v rfl rfl⟩
    apply Array.toList_inj.1
    simpa using h1

theorem args_two (h : Rel ty A g ⟨tm, H⟩ a w) {args : Array Operand} {c d : C} (he : opds tm args.toList = [c, d]) : ∃ u v, args.map a.eval = #[u, v] ∧ CR ty g H w c u ∧ CR ty g H w d v := by
  obtain ⟨vs, h1, h2, h3⟩ := opds_map h args.toList _ he
  match vs, h2 with
  | [u, v], _ =>
    refine ⟨u, v, ?_, h3 0 c u rfl rfl, h3 1 d v rfl rfl⟩
    apply Array.toList_inj.1
    simpa using h1

theorem slice_lenv (h : Rel ty A g ⟨tm, H⟩ a w) {s : S} {v : Value} {e : Nat} {l : List (List DC)} (hs : SR ty g H w s v) (e1 : sliceOf H s = some (e, l)) : ∃ ad cap, v = .slice ad l.length cap := by
  rcases sliceOf_ok h hs e1 with h1 | ⟨ti, vs, F, id, _, _, _, h1⟩
  · obtain ⟨ad, cap, hv, _⟩ := slice_mem (.inl h1)
    exact ⟨ad, cap, hv⟩
  · obtain ⟨ad, cap, hv, _⟩ := slice_mem (.inr ⟨ti, vs, F, h1⟩)
    exact ⟨ad, cap, hv⟩

theorem step_len (hty : TyOk P ty) {c : Call} (ho : o.op = .call c) (hb : c.callee = .builtin .len) {t : TypeId} (hat : c.argTypes.toList = [t]) {x r : C} {ti : TI} {cl : Cls} (h : Rel ty A g ⟨tm, H⟩ a w) (ht : ty t = some ti)
    (hx : opds tm c.args.toList = [x])
    (hk : (ti.kd = .str ∧ ∃ l, x = .one (.str l)) ∨ ((∃ e, ti.kd = .slice e) ∧ ∀ l, x ≠ .one (.str l)))
    (e : lenR (ρ := Option (Cls × C)) none ⟨tm, H⟩ x (fun cl c => some (cl, c)) = some (cl, r)) :
    o.wp P a w (Post ty A g H w ⟨putC tm o.dst r, H⟩) Q := by
  obtain ⟨v, hv, rv⟩ := args_one h hx
  have hat' : c.argTypes = #[t] := by apply Array.toList_inj.1; simpa using hat
  have fin : ∀ n : Nat, (Builtin.len_ #[t] o.type #[v]).run P w = .ok (.int .i64 (n : Int)) w → r = .one (.int .i64 (n : Int)) → o.wp P a w (Post ty A g H w ⟨putC tm o.dst r, H⟩) Q := by
    intro n hr hn
    refine wp_value (v := .int .i64 (n : Int)) (w' := w) ?_ (post_put h (by rw [hn]; rfl))
    obtain ⟨cs, hcs⟩ := run_builtin (ρ := a.eval) ho hb w
    rw [hcs, hv, hat']
    simp only [builtin]
    rw [Sem.run_bind, hr]
    rfl
  have sl : ∀ (e : Nat) (ad : Option Addr) (n cap : Nat), ti.kd = .slice e → v = .slice ad n cap → (Builtin.len_ #[t] o.type #[v]).run P w = .ok (.int .i64 (n : Int)) w := by
    intro e ad n cap hk hv
    simp [Builtin.len_, run_underlying (kd_slice hty ht hk), hv, goInt]
  unfold lenR at e
  split at e
  · rename_i l
    simp only [Option.some.injEq, Prod.mk.injEq] at e
    have ev : v = .string ⟨l.toArray⟩ := rv
    rcases hk with ⟨hk, _⟩ | ⟨_, hk⟩
    · refine fin l.length ?_ e.2.symm
      rw [ev, run_len_string w t _ _ (kd_str hty ht hk)]
      simp [goInt, ByteArray.size]
    · exact absurd rfl (hk l)
  · simp only [Option.some.injEq, Prod.mk.injEq] at e
    rcases hk with ⟨_, l, hk⟩ | ⟨⟨e', hk⟩, _⟩
    · simp at hk
    · exact fin 0 (sl e' none 0 0 hk rv) e.2.symm
  · rename_i e1 l
    simp only [Option.some.injEq, Prod.mk.injEq] at e
    rcases hk with ⟨_, l, hk⟩ | ⟨⟨e', hk⟩, _⟩
    · simp at hk
    · obtain ⟨ad, cap, hv⟩ := slice_lenv h (s := .sl e1 l) rv rfl
      exact fin l.length (sl e' ad _ cap hk hv) e.2.symm
  · rename_i id
    split at e
    · rename_i e1 l hsl
      simp only [Option.some.injEq, Prod.mk.injEq] at e
      rcases hk with ⟨_, l, hk⟩ | ⟨⟨e', hk⟩, _⟩
      · simp at hk
      · obtain ⟨ad, cap, hv⟩ := slice_lenv (s := .own id) h rv hsl
        exact fin l.length (sl e' ad _ cap hk hv) e.2.symm
    · simp at e
  · simp at e

theorem step_min {c : Call} (ho : o.op = .call c) (hb : c.callee = .builtin .min) {k k' : IntKind} {m n : Int} (h : Rel ty A g ⟨tm, H⟩ a w) (hx : opds tm c.args.toList = [.one (.int k m), .one (.int k' n)]) :
    o.wp P a w (Post ty A g H w ⟨putC tm o.dst (.one (.int k (if n < m then n else m))), H⟩) Q := by
  obtain ⟨u, v, hv, ru, rv⟩ := args_two h hx
  have eu : u = .int k m := ru
  have ev : v = .int k' n := rv
  refine wp_value (v := .int k (if n < m then n else m)) (w' := w) ?_ (post_put h rfl)
  obtain ⟨cs, hcs⟩ := run_builtin (ρ := a.eval) ho hb w
  rw [hcs, hv, eu, ev]
  simp [builtin, Builtin.min_, Builtin.min2]

theorem step_max {c : Call} (ho : o.op = .call c) (hb : c.callee = .builtin .max) {k k' : IntKind} {m n : Int} (h : Rel ty A g ⟨tm, H⟩ a w) (hx : opds tm c.args.toList = [.one (.int k m), .one (.int k' n)]) :
    o.wp P a w (Post ty A g H w ⟨putC tm o.dst (.one (.int k (if m < n then n else m))), H⟩) Q := by
  obtain ⟨u, v, hv, ru, rv⟩ := args_two h hx
  have eu : u = .int k m := ru
  have ev : v = .int k' n := rv
  refine wp_value (v := .int k (if m < n then n else m)) (w' := w) ?_ (post_put h rfl)
  obtain ⟨cs, hcs⟩ := run_builtin (ρ := a.eval) ho hb w
  rw [hcs, hv, eu, ev]
  simp [builtin, Builtin.max_, Builtin.max2]

/-- A function value with what it holds. -/
theorem caps_ok (h : Rel ty A g ⟨tm, H⟩ a w) : ∀ (l : List Operand) (ids : List Nat), (opds tm l).mapM (fun c => match c with | C.one (.ptr id 0) => some id | _ => none) = some ids →
    (l.map a.eval).length = ids.length ∧ ∀ (i id : Nat), ids[i]? = some id → nf H id ∧ (isVar H id → (l.map a.eval)[i]? = some (.pointer (some ⟨g.blk id, 0, none⟩)))
  | [], ids, e => by
    simp [opds] at e
    subst e
    exact ⟨rfl, fun i id h => by simp at h⟩
  | x :: l, ids, e => by
    simp only [opds, List.mapM_cons, Option.bind_eq_bind] at e
    have rx := h.opd x
    split at e
    · rename_i id hx
      rw [hx] at rx
      cases hm : (opds tm l).mapM (fun c => match c with | C.one (.ptr id 0) => some id | _ => none) with
      | none => rw [hm] at e; simp at e
      | some ids' =>
        rw [hm] at e
        simp at e
        subst e
        obtain ⟨h1, h2⟩ := caps_ok h l ids' hm
        refine ⟨by simpa using h1, fun i id' hi => ?_⟩
        cases i with
        | zero =>
          simp only [List.getElem?_cons_zero, Option.some.injEq] at hi
          subst hi
          exact ⟨rx.1, fun hv => by simp [rx.2.2 hv]⟩
        | succ i =>
          simp only [List.getElem?_cons_succ] at hi
          simpa using h2 i id' hi
    · simp at e

theorem step_makeFunc (f : FuncId) (first captured : Array Operand) (ho : o.op = .makeFunc (.func f) first captured) (hf : first.toList = []) (h : Rel ty A g ⟨tm, H⟩ a w) {ids : List Nat}
    (e : (opds tm captured.toList).mapM (fun c => match c with | C.one (.ptr id 0) => some id | _ => none) = some ids) :
    o.wp P a w (Post ty A g H w ⟨putC tm o.dst (.one (.fn f ids)), H⟩) Q := by
  obtain ⟨h1, h2⟩ := caps_ok h _ _ e
  have hf' : first = #[] := by apply Array.toList_inj.1; simpa using hf
  refine wp_value (v := .func (.func f) #[] (captured.map a.eval)) (w' := w) (by simp [execOp, ho, Instr.makeFunc, hf']) (post_put h ?_)
  refine ⟨captured.map a.eval, rfl, by simpa using h1, fun i id hi => ?_⟩
  obtain ⟨h3, h4⟩ := h2 i id hi
  exact ⟨h3, fun hv => by simpa using h4 hv⟩

end
end Go.Proofs.YtljggmbgbnmapaaGreatV
