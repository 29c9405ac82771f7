/- The loaded code with notes for the evaluator laid beside it. -/
import Derived.Test.YtljggmbgbnmapaaGreatV24
import Derived.KernelRfl
namespace Go.Proofs.YtljggmbgbnmapaaGreatV
open Go
set_option linter.unusedVariables false

/-- Notes, in the code's own shape: n: none. -/
inductive AT where
  | n
  | r (ids : List Nat) (h : Option Hint)
  | s (a b : AT)
  | c (x y : AT) (h : Option Hint)
  | b (x : AT) (h : Hint)

def AT.fst : AT → AT
  | .s x _ => x
  | .c x _ _ => x
  | .b x _ => x
  | _ => .n
def AT.snd : AT → AT
  | .s _ y => y
  | .c _ y _ => y
  | _ => .n
def AT.opt : AT → Option Hint
  | .r _ h => h
  | .c _ _ h => h
  | _ => none
def AT.ids : AT → List Nat
  | .r l _ => l
  | _ => []
def AT.hint : AT → Hint
  | .b _ h => h
  | _ => ⟨[], []⟩

def ann : Code → AT → AC
  | .skip, _ => .skip
  | .region id ops draw, t => .region id ops draw t.ids t.opt
  | .seq a b, t => .seq (ann a t.fst) (ann b t.snd)
  | .cond c x y, t => .cond c (ann x t.fst) (ann y t.snd) t.opt
  | .block id b, t => .block id (ann b t.fst) t.hint
  | .loop b, t => .loop (ann b t.fst) t.hint
  | .exit id, _ => .exit id
  | .ret, _ => .ret
  | _, _ => .skip

def annOk : Code → Bool
  | .skip => true
  | .region _ _ _ => true
  | .seq a b => annOk a && annOk b
  | .cond _ x y => annOk x && annOk y
  | .block _ b => annOk b
  | .loop b => annOk b
  | .exit _ => true
  | .ret => true
  | _ => false

theorem ann_code : ∀ (c : Code) (t : AT), annOk c = true → (ann c t).code = c
  | .skip, _, _ => rfl
  | .region _ _ _, _, _ => rfl
  | .seq a b, t, h => by
    simp only [annOk, Bool.and_eq_true] at h
    simp only [ann, AC.code, ann_code a _ h.1, ann_code b _ h.2]
  | .cond _ x y, t, h => by
    simp only [annOk, Bool.and_eq_true] at h
    simp only [ann, AC.code, ann_code x _ h.1, ann_code y _ h.2]
  | .block _ b, t, h => by
    simp only [annOk] at h
    simp only [ann, AC.code, ann_code b _ h]
  | .loop b, t, h => by
    simp only [annOk] at h
    simp only [ann, AC.code, ann_code b _ h]
  | .exit _, _, _ => rfl
  | .ret, _, _ => rfl
  | .label _, _, h => by simp [annOk] at h
  | .goto _, _, h => by simp [annOk] at h

/-- A function of the program, with its notes. -/
def mkFI (fd : Func) (nobj : Nat) (pk : List PK) (rk : List (Bool × List RK)) (t : Hint → AT) : FI :=
  { ntmps := fd.ntmps, nobj := nobj, pk := pk, rk := rk, res := fd.results.toList, body := fun h => ann (fd.body.getD .skip) (t h), prim := none }

def fdOk (fd : Func) : Bool := !(fd.name == "runtime.NumGoroutine") && match fd.body with | some c => annOk c | none => false

theorem mkFI_ok {P : Program} {ty : Nat → Option TI} {f : Nat} {fd : Func} {nobj : Nat} {pk : List PK} {rk : List (Bool × List RK)} {t : Hint → AT} (h1 : P.funcs[f]? = some fd) (h2 : fdOk fd = true) : FnOk P ty f (mkFI fd nobj pk rk t) := by
  unfold fdOk at h2
  rw [Bool.and_eq_true] at h2
  obtain ⟨h2, h3⟩ := h2
  refine ⟨⟨fd, h1, by simpa using h2, ?_, fun _ => ?_⟩, fun p hp => by simp [mkFI] at hp⟩
  · cases hb : fd.body with
    | none => rw [hb] at h3; simp at h3
    | some c => rfl
  · cases hb : fd.body with
    | none => rw [hb] at h3; simp at h3
    | some c =>
      rw [hb] at h3
      refine ⟨fun h => ?_, rfl, rfl⟩
      simp only [mkFI, hb, Option.getD_some]
      rw [ann_code c (t h) h3]

/-- A table by numbers. -/
def look {α : Type} (n : Nat) : List (Nat × α) → Option α
  | [] => none
  | (m, x) :: l => bif Nat.beq m n then some x else look n l

theorem look_mem {α : Type} {n : Nat} {x : α} : ∀ {l : List (Nat × α)}, look n l = some x → (n, x) ∈ l
  | [], h => by simp [look] at h
  | (m, y) :: l, h => by
    rw [look] at h
    cases hb : Nat.beq m n with
    | true =>
      rw [hb] at h
      simp only [cond_true, Option.some.injEq] at h
      subst h
      have := Nat.eq_of_beq_eq_true hb
      subst this
      simp
    | false =>
      rw [hb] at h
      exact List.mem_cons_of_mem _ (look_mem h)

end Go.Proofs.YtljggmbgbnmapaaGreatV
