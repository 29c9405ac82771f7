import Derived.Test.YtelhaocbeabchaaMB5
import Derived.Test.YtelhaocbeabchaaMB6
import Derived.Test.YtelhaocbeabchaaProg
/- The functions that write numbers (written by a program). -/
namespace Go.Proofs.QV
open Go
set_option linter.unusedVariables false
set_option linter.unusedSimpArgs false
set_option maxRecDepth 100000
abbrev ou : KC := .one .u
abbrev ob : KC := .one .b
abbrev os : KC := .one .s
abbrev oi : KC := .one (.i .i64)
abbrev ol (e : Nat) : KC := .one (.sl e)
def uu (n : Nat) (l : List KC) : List KC := List.replicate n (.one .u) ++ l
def vv (n : Nat) (l : List KO) : List KO := List.replicate n .u ++ l
noncomputable def tyL : List (Nat × TI) := [(3, ⟨.int .i64, [.i .i64], 8, [], false⟩),
  (4, ⟨.bool, [.b], 1, [], false⟩),
  (5, ⟨.int .u8, [.i .u8], 1, [], false⟩),
  (9, ⟨.str, [.s], 16, [], false⟩),
  (24, ⟨.slice 9, [.sl 9], 24, [], false⟩),
  (26, ⟨.slice 83, [.sl 83], 24, [], false⟩),
  (46, ⟨.slice 63, [.sl 63], 24, [], false⟩),
  (58, ⟨.slice 127, [.sl 127], 24, [], false⟩),
  (59, ⟨.slice 129, [.sl 129], 24, [], false⟩),
  (60, ⟨.slice 131, [.sl 131], 24, [], false⟩),
  (61, ⟨.slice 122, [.sl 122], 24, [], false⟩),
  (63, ⟨.struct, [.i .i64, .b, .s, .s, .sl 9, .sl 127, .sl 83, .sl 129, .sl 131, .b, .sl 122], 200, [(0, 1, false), (1, 1, false), (2, 1, false), (3, 1, false), (4, 1, false), (5, 1, false), (6, 1, false), (7, 1, false), (8, 1, false), (9, 1, false), (10, 1, false)], false⟩),
  (78, ⟨.struct, [.s, .s], 32, [(0, 1, false), (1, 1, false)], false⟩),
  (79, ⟨.slice 81, [.sl 81], 24, [], false⟩),
  (81, ⟨.struct, [.i .i64, .s, .sl 81, .sl 9], 72, [(0, 1, false), (1, 1, false), (2, 1, false), (3, 1, false)], false⟩),
  (83, ⟨.struct, [.s, .s, .s, .s, .b, .i .i64, .s, .sl 81, .sl 9, .sl 122], 168, [(0, 1, false), (1, 1, false), (2, 2, true), (4, 1, false), (5, 4, true), (9, 1, false)], false⟩),
  (119, ⟨.slice 5, [.sl 5], 24, [], false⟩),
  (120, ⟨.slice 161, [.sl 161], 24, [], false⟩),
  (122, ⟨.struct, [.s, .sl 161], 40, [(0, 1, false), (1, 1, false)], false⟩),
  (127, ⟨.struct, [.s, .s, .sl 83, .s, .s, .sl 122], 112, [(0, 1, false), (1, 1, false), (2, 1, false), (3, 2, true), (5, 1, false)], false⟩),
  (129, ⟨.struct, [.s, .s, .sl 122], 56, [(0, 1, false), (1, 1, false), (2, 1, false)], false⟩),
  (131, ⟨.struct, [.i .i64, .s], 24, [(0, 1, false), (1, 1, false)], false⟩),
  (161, ⟨.struct, [.s, .i .i64, .s, .sl 81, .sl 9], 88, [(0, 1, false), (1, 4, true)], false⟩)]
theorem tys : tyB Try.prog tyL = true := by kernel_rfl
noncomputable def fi40 : FI := mkFI Try.f40 1 [.ct (.i .i64)] [(false, [.ct .s])] (fun _ => (.s .n (.s .n (.s .n (.s (.b (.b (.s .n (.b (.s (.r [0, 0, 0, 0, 0, 0, 0, 0, 0] none) .n) ⟨oi :: ou :: ou :: os :: uu 16 [], .u :: []⟩)) ⟨oi :: ou :: ou :: os :: uu 16 [], .u :: []⟩) ⟨uu 3 (os :: uu 16 []), .u :: []⟩) .n)))))
noncomputable def E_laws_markTextL1 : List DC → Out := fun v1 =>
    if (decide ((v1.getD 0 d0).ii > (0 : Int))) = true then
      Out.andThenB (if (10 : Int) = 0 then
          .fail
        else
          if (rowBytes [[DC.i (IntKind.u8.wrap (IntKind.i64.wrap ((48 : Int) + (((v1.getD 0 d0).ii).tmod (10 : Int)))))]]).length + ((v1.getD 1 d0).ss).length < LIM then
            if (10 : Int) = 0 then
              .fail
            else
              .norm [.i (IntKind.i64.wrap (((v1.getD 0 d0).ii).tdiv (10 : Int))), .s ((rowBytes [[DC.i (IntKind.u8.wrap (IntKind.i64.wrap ((48 : Int) + (((v1.getD 0 d0).ii).tmod (10 : Int)))))]]) ++ ((v1.getD 1 d0).ss))]
          else
            .fail) 1 fun v2 =>
      .norm [.i ((v2.getD 0 d0).ii), .s ((v2.getD 1 d0).ss)]
    else
      .ex 0 [.s ((v1.getD 1 d0).ss)]
noncomputable def E_laws_markText (a : List DC) : Out :=
    if (decide ((a.getD 0 d0).ii ≤ (0 : Int))) = true then
      .ret [.s ([109, 48] : List UInt8)]
    else
      Out.andThenB (Loop E_laws_markTextL1 [.i ((a.getD 0 d0).ii), .s ([] : List UInt8)]) 0 fun v3 =>
      if ([109] : List UInt8).length + ((v3.getD 0 d0).ss).length < LIM then
        .ret [.s (([109] : List UInt8) ++ ((v3.getD 0 d0).ss))]
      else
        .fail
noncomputable def cfg0 : Cfg := ⟨fun t => look t tyL, fun f => look f [(40, fi40)]⟩
theorem fns0 : ∀ x ∈ [(40, fi40)], FnOk Try.prog Glob.none cfg0.ty x.1 x.2 := all_cons (mkFI_ok Try.func40 (by kernel_rfl)) all_nil
theorem eq0 (a : List DC) : Run cfg0 40 ⟨[.one (.i .i64)], []⟩ a = E_laws_markText a := (Run_eq cfg0 40 _ a).trans (by kernel_rfl)
theorem mt_step (k : Int) (o : List UInt8) (h0 : 0 < k) (h1 : k < 4611686018427387904) (ho : o.length ≤ 100) : ∃ c, E_laws_markTextL1 [.i k, .s o] = .norm [.i (k / 10), .s (c :: o)] := by
  have hw : IntKind.i64.wrap (k.tdiv 10) = k / 10 := by
    rw [Int.tdiv_eq_ediv_of_nonneg (by omega)]
    exact wrap64 (by omega) (by omega)
  have hl : 1 + o.length < LIM := by unfold LIM; omega
  refine ⟨UInt8.ofNat (IntKind.u8.wrap (IntKind.i64.wrap (48 + k.tmod 10))).toNat, ?_⟩
  simp only [E_laws_markTextL1, List.getD_cons_zero, List.getD_cons_succ, DC.ii_i, DC.ss_s, hw]
  simp [h0, hl, rowBytes, Out.andThenB]
  try rfl
theorem mt_loop : ∀ (m : Nat) (k : Int) (o : List UInt8), 0 ≤ k → k < 4611686018427387904 → k < 10 ^ m → o.length + m ≤ 100 → ∃ s : List UInt8, s.length ≤ 100 ∧ Loop E_laws_markTextL1 [.i k, .s o] = .ex 0 [.s s]
  | 0, k, o, h0, _, h1, ho => by
    have : k = 0 := by simp at h1; omega
    subst this
    exact ⟨o, by omega, Loop_ex (by simp [E_laws_markTextL1])⟩
  | m + 1, k, o, h0, hb, h1, ho => by
    by_cases hk : 0 < k
    · obtain ⟨c, hc⟩ := mt_step k o hk hb (by omega)
      rw [Loop_norm hc]
      refine mt_loop m (k / 10) (c :: o) (by omega) (by omega) ?_ (by simp; omega)
      rw [Int.pow_succ] at h1
      omega
    · have : k = 0 := by omega
      subst this
      exact ⟨o, by omega, Loop_ex (by simp [E_laws_markTextL1])⟩
theorem mt_ok (k : Int) (h0 : 0 ≤ k) (h1 : k < 4611686018427387904) : ∃ s, E_laws_markText [.i k] = .ret [.s s] := by
  by_cases hk : k ≤ 0
  · exact ⟨[109, 48], by simp [E_laws_markText, hk]⟩
  · obtain ⟨s, hs, h⟩ := mt_loop 19 k [] h0 h1 (by have : (10 : Int) ^ 19 = 10000000000000000000 := by decide
                                                   omega) (by simp)
    have hl : 1 + s.length < LIM := by unfold LIM; omega
    refine ⟨109 :: s, ?_⟩
    simp only [E_laws_markText, List.getD_cons_zero, List.getD_cons_succ, DC.ii_i, DC.ss_s, h, Out.andThenB]
    simp [hk, hl, Nat.add_comm]
    try (unfold LIM; omega)
noncomputable def mtx (k : Int) : List UInt8 := match E_laws_markText [.i k] with | .ret [.s s] => s | _ => []
theorem mtx_eq {k : Int} (h0 : 0 ≤ k) (h1 : k < 4611686018427387904) : E_laws_markText [.i k] = .ret [.s (mtx k)] := by
  obtain ⟨s, h⟩ := mt_ok k h0 h1
  unfold mtx
  rw [h]
noncomputable def mT : Int → Option (List UInt8) := fun k => some (mtx k)
def ms13 : List MA := [.txt 0, .inc, .txt 1, .inc, .txt 2, .inc, .txt 3, .inc, .bool 4, .inc, .int 5, .inc, .txt 6, .inc, .sub 7 41, .upd, .sub 8 14, .upd, .sub 9 42, .upd]
def ms14 : List MA := [.txt 0, .inc]
def ms26 : List MA := [.int 0, .inc, .bool 1, .inc, .txt 2, .inc, .txt 3, .inc, .sub 4 14, .upd, .sub 5 55, .upd, .sub 6 13, .upd, .sub 7 56, .upd, .sub 8 57, .upd, .bool 9, .inc, .sub 10 42, .upd]
def ms41 : List MA := [.int 0, .inc, .txt 1, .inc, .sub 2 41, .upd, .sub 3 14, .upd]
def ms42 : List MA := [.txt 0, .inc, .sub 1 84, .upd]
def ms55 : List MA := [.txt 0, .inc, .txt 1, .inc, .sub 2 13, .upd, .txt 3, .inc, .txt 4, .inc, .sub 5 42, .upd]
def ms56 : List MA := [.txt 0, .inc, .txt 1, .inc, .sub 2 42, .upd]
def ms57 : List MA := [.int 0, .inc, .txt 1, .inc]
def ms84 : List MA := [.txt 0, .inc, .int 1, .inc, .txt 2, .inc, .sub 3 41, .upd, .sub 4 14, .upd]
noncomputable def ti9 : TI := ⟨.str, [.s], 16, [], false⟩
noncomputable def ti63 : TI := ⟨.struct, [.i .i64, .b, .s, .s, .sl 9, .sl 127, .sl 83, .sl 129, .sl 131, .b, .sl 122], 200, [(0, 1, false), (1, 1, false), (2, 1, false), (3, 1, false), (4, 1, false), (5, 1, false), (6, 1, false), (7, 1, false), (8, 1, false), (9, 1, false), (10, 1, false)], false⟩
noncomputable def ti81 : TI := ⟨.struct, [.i .i64, .s, .sl 81, .sl 9], 72, [(0, 1, false), (1, 1, false), (2, 1, false), (3, 1, false)], false⟩
noncomputable def ti83 : TI := ⟨.struct, [.s, .s, .s, .s, .b, .i .i64, .s, .sl 81, .sl 9, .sl 122], 168, [(0, 1, false), (1, 1, false), (2, 2, true), (4, 1, false), (5, 4, true), (9, 1, false)], false⟩
noncomputable def ti122 : TI := ⟨.struct, [.s, .sl 161], 40, [(0, 1, false), (1, 1, false)], false⟩
noncomputable def ti127 : TI := ⟨.struct, [.s, .s, .sl 83, .s, .s, .sl 122], 112, [(0, 1, false), (1, 1, false), (2, 1, false), (3, 2, true), (5, 1, false)], false⟩
noncomputable def ti129 : TI := ⟨.struct, [.s, .s, .sl 122], 56, [(0, 1, false), (1, 1, false), (2, 1, false)], false⟩
noncomputable def ti131 : TI := ⟨.struct, [.i .i64, .s], 24, [(0, 1, false), (1, 1, false)], false⟩
noncomputable def ti161 : TI := ⟨.struct, [.s, .i .i64, .s, .sl 81, .sl 9], 88, [(0, 1, false), (1, 4, true)], false⟩
def mTab : Nat → Option (List MA) := fun f => look f [(13, ms13), (14, ms14), (26, ms26), (41, ms41), (42, ms42), (55, ms55), (56, ms56), (57, ms57), (84, ms84)]
def mMt : Nat → Option Nat := fun f => look f [(13, 83), (14, 9), (26, 63), (41, 81), (42, 122), (55, 127), (56, 129), (57, 131), (84, 161)]
theorem mtabok : TabOk Try.prog (fun t => look t tyL) mT 40 mMt mTab where
  tyo := (tyB_ok tys).1
  fd := by
    rintro f (rfl | ⟨e, he⟩)
    · exact ⟨_, Try.func40, by kernel_rfl, rfl⟩
    have := look_mem he
    simp only [List.mem_cons, Prod.mk.injEq, List.not_mem_nil, or_false] at this
    rcases this with ⟨rfl, rfl⟩ | ⟨rfl, rfl⟩ | ⟨rfl, rfl⟩ | ⟨rfl, rfl⟩ | ⟨rfl, rfl⟩ | ⟨rfl, rfl⟩ | ⟨rfl, rfl⟩ | ⟨rfl, rfl⟩ | ⟨rfl, rfl⟩
    · exact ⟨_, Try.func13, by kernel_rfl, rfl⟩
    · exact ⟨_, Try.func14, by kernel_rfl, rfl⟩
    · exact ⟨_, Try.func26, by kernel_rfl, rfl⟩
    · exact ⟨_, Try.func41, by kernel_rfl, rfl⟩
    · exact ⟨_, Try.func42, by kernel_rfl, rfl⟩
    · exact ⟨_, Try.func55, by kernel_rfl, rfl⟩
    · exact ⟨_, Try.func56, by kernel_rfl, rfl⟩
    · exact ⟨_, Try.func57, by kernel_rfl, rfl⟩
    · exact ⟨_, Try.func84, by kernel_rfl, rfl⟩
  tfc := by
    intro k s w h0 h1 hs
    obtain rfl : mtx k = s := Option.some.inj hs
    exact int_calls (cfg := cfg0) (G := Glob.none) (tyB_ok tys).1 (by kernel_rfl) (fn_ok fns0) (f := 40) (fi := fi40) (by kernel_rfl) ⟨trivial, fun _ h => h.elim⟩ rfl rfl (Run.evt ((eq0 _).trans (mtx_eq h0 h1)))
  tfs := fun k _ _ => ⟨_, rfl⟩
  sh := by
    intro f e he
    have := look_mem he
    simp only [List.mem_cons, Prod.mk.injEq, List.not_mem_nil, or_false] at this
    rcases this with ⟨rfl, rfl⟩ | ⟨rfl, rfl⟩ | ⟨rfl, rfl⟩ | ⟨rfl, rfl⟩ | ⟨rfl, rfl⟩ | ⟨rfl, rfl⟩ | ⟨rfl, rfl⟩ | ⟨rfl, rfl⟩ | ⟨rfl, rfl⟩
    · exact ⟨ti83, Try.f13, ms13, by kernel_rfl, Try.func13, by kernel_rfl, by kernel_rfl⟩
    · exact ⟨ti9, Try.f14, ms14, by kernel_rfl, Try.func14, by kernel_rfl, by kernel_rfl⟩
    · exact ⟨ti63, Try.f26, ms26, by kernel_rfl, Try.func26, by kernel_rfl, by kernel_rfl⟩
    · exact ⟨ti81, Try.f41, ms41, by kernel_rfl, Try.func41, by kernel_rfl, by kernel_rfl⟩
    · exact ⟨ti122, Try.f42, ms42, by kernel_rfl, Try.func42, by kernel_rfl, by kernel_rfl⟩
    · exact ⟨ti127, Try.f55, ms55, by kernel_rfl, Try.func55, by kernel_rfl, by kernel_rfl⟩
    · exact ⟨ti129, Try.f56, ms56, by kernel_rfl, Try.func56, by kernel_rfl, by kernel_rfl⟩
    · exact ⟨ti131, Try.f57, ms57, by kernel_rfl, Try.func57, by kernel_rfl, by kernel_rfl⟩
    · exact ⟨ti161, Try.f84, ms84, by kernel_rfl, Try.func84, by kernel_rfl, by kernel_rfl⟩
noncomputable def fi5 : FI := mkFI Try.f5 3 [] [(false, [.ct .b])] (fun _ => (.s .n (.s (.r [0, 0] none) (.s (.r [1, 0] none) (.s .n (.s .n (.s .n (.s .n (.s .n (.s .n (.s .n (.s (.r [2, 0] none) .n))))))))))))
noncomputable def fi23 : FI := mkFI Try.f23 18 [] [(false, [.new 1063])] (fun _ => (.s .n (.s (.r [0, 0, 0, 1, 2, 0, 3, 0] none) (.s (.r [0, 4, 10, 17, 0] none) .n))))
noncomputable def fi24 : FI := mkFI Try.f24 16 [] [(false, [.new 1063])] (fun _ => (.s .n (.s (.r [0, 0, 0, 0, 0] none) (.s (.r [0, 1, 2, 0, 3, 0] none) (.s (.s (.r [4, 0, 0] none) (.b (.b (.s .n (.s .n (.s (.b (.s .n (.s (.r [0, 0, 7, 0] none) (.r [0, 0, 0, 9, 10, 0, 11, 12, 0] none))) ⟨ou :: ou :: .one (.own 1063 13) :: uu 11 (.one (.own 9 14) :: oi :: oi :: uu 15 []), vv 16 []⟩) .n))) ⟨ou :: ou :: .one (.own 1063 5) :: uu 11 (.one (.own 9 6) :: oi :: oi :: uu 15 []), vv 16 []⟩) ⟨ou :: ou :: .one (.own 1063 15) :: uu 29 [], vv 16 []⟩)) .n)))))
noncomputable def fi25 : FI := mkFI Try.f25 0 [.ct (.sl 63), .ct (.sl 63)] [(false, [.ct .b])] (fun _ => (.s .n (.s .n (.s (.s .n (.b (.b (.s .n (.s (.b .n ⟨ol 63 :: ol 63 :: uu 3 (oi :: uu 21 []), []⟩) .n)) ⟨ol 63 :: ol 63 :: uu 3 (oi :: uu 21 []), []⟩) ⟨uu 27 [], []⟩)) .n))))
noncomputable def fi27 : FI := mkFI Try.f27 0 [.ct (.sl 63), .ct (.i .i64)] [(false, [.ct (.i .i64)])] (fun _ => (.s .n (.s (.s .n (.b (.b (.s .n (.s (.b .n ⟨ol 63 :: oi :: uu 3 (oi :: uu 112 []), []⟩) .n)) ⟨ol 63 :: oi :: uu 3 (oi :: uu 112 []), []⟩) ⟨ou :: oi :: uu 116 [], []⟩)) .n)))
noncomputable def fi54 : FI := mkFI Try.f54 3 [.ct .s] [(true, [.ct (.i .i64), .ct .b, .ct .s, .ct .s, .new 9, .new 1127, .new 1083, .new 1129, .new 131, .ct .b, .new 1122])] (fun _ => (.s (.r [0] none) (.s (.r [0, 0, 0, 1, 2, 0, 0] none) .n)))
noncomputable def fi32 : FI := mkFI Try.f32 2 [.ag [.i .i64, .b, .s, .s, .sl 9, .sl 127, .sl 83, .sl 129, .sl 131, .b, .sl 122], .ag [.i .i64, .b, .s, .s, .sl 9, .sl 127, .sl 83, .sl 129, .sl 131, .b, .sl 122]] [(false, [.ct .b])] (fun _ => (.s (.r [0, 1, 0] none) .n))
noncomputable def fi15 : FI := mkFI Try.f15 0 [.ct (.sl 9), .ct (.i .i64)] [(false, [.ct (.i .i64)])] (fun _ => (.s .n (.s (.s .n (.b (.b (.s .n (.s (.b .n ⟨ol 9 :: oi :: uu 3 (oi :: uu 16 []), []⟩) .n)) ⟨ol 9 :: oi :: uu 3 (oi :: uu 16 []), []⟩) ⟨ou :: oi :: uu 20 [], []⟩)) .n)))
noncomputable def fi58 : FI := mkFI Try.f58 0 [.ct (.sl 127), .ct (.i .i64)] [(false, [.ct (.i .i64)])] (fun _ => (.s .n (.s (.s .n (.b (.b (.s .n (.s (.b .n ⟨ol 127 :: oi :: uu 3 (oi :: uu 67 []), []⟩) .n)) ⟨ol 127 :: oi :: uu 3 (oi :: uu 67 []), []⟩) ⟨ou :: oi :: uu 71 [], []⟩)) .n)))
noncomputable def fi59 : FI := mkFI Try.f59 0 [.ct (.sl 83), .ct (.i .i64)] [(false, [.ct (.i .i64)])] (fun _ => (.s .n (.s (.s .n (.b (.b (.s .n (.s (.b .n ⟨ol 83 :: oi :: uu 3 (oi :: uu 110 []), []⟩) .n)) ⟨ol 83 :: oi :: uu 3 (oi :: uu 110 []), []⟩) ⟨ou :: oi :: uu 114 [], []⟩)) .n)))
noncomputable def fi60 : FI := mkFI Try.f60 0 [.ct (.sl 129), .ct (.i .i64)] [(false, [.ct (.i .i64)])] (fun _ => (.s .n (.s (.s .n (.b (.b (.s .n (.s (.b .n ⟨ol 129 :: oi :: uu 3 (oi :: uu 36 []), []⟩) .n)) ⟨ol 129 :: oi :: uu 3 (oi :: uu 36 []), []⟩) ⟨ou :: oi :: uu 40 [], []⟩)) .n)))
noncomputable def fi61 : FI := mkFI Try.f61 0 [.ct (.sl 131), .ct (.i .i64)] [(false, [.ct (.i .i64)])] (fun _ => (.s .n (.s (.s .n (.b (.b (.s .n (.s (.b .n ⟨ol 131 :: oi :: uu 3 (oi :: uu 26 []), []⟩) .n)) ⟨ol 131 :: oi :: uu 3 (oi :: uu 26 []), []⟩) ⟨ou :: oi :: uu 30 [], []⟩)) .n)))
noncomputable def fi62 : FI := mkFI Try.f62 0 [.ct (.sl 122), .ct (.i .i64)] [(false, [.ct (.i .i64)])] (fun _ => (.s .n (.s (.s .n (.b (.b (.s .n (.s (.b .n ⟨ol 122 :: oi :: uu 3 (oi :: uu 26 []), []⟩) .n)) ⟨ol 122 :: oi :: uu 3 (oi :: uu 26 []), []⟩) ⟨ou :: oi :: uu 30 [], []⟩)) .n)))
noncomputable def fi11 : FI := mkFI Try.f11 0 [.ct (.sl 9), .ct (.sl 9)] [(false, [.ct .b])] (fun _ => (.s .n (.s .n (.s (.s .n (.b (.b (.s .n (.s (.b .n ⟨ol 9 :: ol 9 :: uu 3 (oi :: uu 20 []), []⟩) .n)) ⟨ol 9 :: ol 9 :: uu 3 (oi :: uu 20 []), []⟩) ⟨uu 26 [], []⟩)) .n))))
noncomputable def fi73 : FI := mkFI Try.f73 0 [.ct (.sl 127), .ct (.sl 127)] [(false, [.ct .b])] (fun _ => (.s .n (.s .n (.s (.s .n (.b (.b (.s .n (.s (.b .n ⟨ol 127 :: ol 127 :: uu 3 (oi :: uu 21 []), []⟩) .n)) ⟨ol 127 :: ol 127 :: uu 3 (oi :: uu 21 []), []⟩) ⟨uu 27 [], []⟩)) .n))))
noncomputable def fi12 : FI := mkFI Try.f12 0 [.ct (.sl 83), .ct (.sl 83)] [(false, [.ct .b])] (fun _ => (.s .n (.s .n (.s (.s .n (.b (.b (.s .n (.s (.b .n ⟨ol 83 :: ol 83 :: uu 3 (oi :: uu 21 []), []⟩) .n)) ⟨ol 83 :: ol 83 :: uu 3 (oi :: uu 21 []), []⟩) ⟨uu 27 [], []⟩)) .n))))
noncomputable def fi74 : FI := mkFI Try.f74 0 [.ct (.sl 129), .ct (.sl 129)] [(false, [.ct .b])] (fun _ => (.s .n (.s .n (.s (.s .n (.b (.b (.s .n (.s (.b .n ⟨ol 129 :: ol 129 :: uu 3 (oi :: uu 21 []), []⟩) .n)) ⟨ol 129 :: ol 129 :: uu 3 (oi :: uu 21 []), []⟩) ⟨uu 27 [], []⟩)) .n))))
noncomputable def fi75 : FI := mkFI Try.f75 0 [.ct (.sl 131), .ct (.sl 131)] [(false, [.ct .b])] (fun _ => (.s .n (.s .n (.s (.s .n (.b (.b (.s .n (.s (.b .n ⟨ol 131 :: ol 131 :: uu 3 (oi :: uu 21 []), []⟩) .n)) ⟨ol 131 :: ol 131 :: uu 3 (oi :: uu 21 []), []⟩) ⟨uu 27 [], []⟩)) .n))))
noncomputable def fi76 : FI := mkFI Try.f76 0 [.ct (.sl 122), .ct (.sl 122)] [(false, [.ct .b])] (fun _ => (.s .n (.s .n (.s (.s .n (.b (.b (.s .n (.s (.b .n ⟨ol 122 :: ol 122 :: uu 3 (oi :: uu 21 []), []⟩) .n)) ⟨ol 122 :: ol 122 :: uu 3 (oi :: uu 21 []), []⟩) ⟨uu 27 [], []⟩)) .n))))
noncomputable def fi88 : FI := mkFI Try.f88 0 [.ct (.sl 81), .ct (.i .i64)] [(false, [.ct (.i .i64)])] (fun _ => (.s .n (.s (.s .n (.b (.b (.s .n (.s (.b .n ⟨ol 81 :: oi :: uu 3 (oi :: uu 44 []), []⟩) .n)) ⟨ol 81 :: oi :: uu 3 (oi :: uu 44 []), []⟩) ⟨ou :: oi :: uu 48 [], []⟩)) .n)))
noncomputable def fi89 : FI := mkFI Try.f89 0 [.ct (.sl 161), .ct (.i .i64)] [(false, [.ct (.i .i64)])] (fun _ => (.s .n (.s (.s .n (.b (.b (.s .n (.s (.b .n ⟨ol 161 :: oi :: uu 3 (oi :: uu 58 []), []⟩) .n)) ⟨ol 161 :: oi :: uu 3 (oi :: uu 58 []), []⟩) ⟨ou :: oi :: uu 62 [], []⟩)) .n)))
noncomputable def fi107 : FI := mkFI Try.f107 2 [.ag [.s, .s, .sl 83, .s, .s, .sl 122], .ag [.s, .s, .sl 83, .s, .s, .sl 122]] [(false, [.ct .b])] (fun _ => (.s (.r [0, 1, 0] none) .n))
noncomputable def fi39 : FI := mkFI Try.f39 2 [.ag [.s, .s, .s, .s, .b, .i .i64, .s, .sl 81, .sl 9, .sl 122], .ag [.s, .s, .s, .s, .b, .i .i64, .s, .sl 81, .sl 9, .sl 122]] [(false, [.ct .b])] (fun _ => (.s (.r [0, 1, 0] none) .n))
noncomputable def fi108 : FI := mkFI Try.f108 2 [.ag [.s, .s, .sl 122], .ag [.s, .s, .sl 122]] [(false, [.ct .b])] (fun _ => (.s (.r [0, 1, 0] none) .n))
noncomputable def fi109 : FI := mkFI Try.f109 2 [.ag [.i .i64, .s], .ag [.i .i64, .s]] [(false, [.ct .b])] (fun _ => (.s (.r [0, 1, 0] none) .n))
noncomputable def fi110 : FI := mkFI Try.f110 2 [.ag [.s, .sl 161], .ag [.s, .sl 161]] [(false, [.ct .b])] (fun _ => (.s (.r [0, 1, 0] none) .n))
noncomputable def fi82 : FI := mkFI Try.f82 2 [.ag [.s, .s], .ag [.s, .s]] [(false, [.ct .b])] (fun _ => (.s (.r [0, 1, 0] none) .n))
noncomputable def fi83 : FI := mkFI Try.f83 2 [.ag [.i .i64, .s, .sl 81, .sl 9], .ag [.i .i64, .s, .sl 81, .sl 9]] [(false, [.ct .b])] (fun _ => (.s (.r [0, 1, 0] none) .n))
noncomputable def fi121 : FI := mkFI Try.f121 0 [.ct (.sl 161), .ct (.sl 161)] [(false, [.ct .b])] (fun _ => (.s .n (.s .n (.s (.s .n (.b (.b (.s .n (.s (.b .n ⟨ol 161 :: ol 161 :: uu 3 (oi :: uu 21 []), []⟩) .n)) ⟨ol 161 :: ol 161 :: uu 3 (oi :: uu 21 []), []⟩) ⟨uu 27 [], []⟩)) .n))))
noncomputable def fi114 : FI := mkFI Try.f114 0 [.ct (.sl 81), .ct (.sl 81)] [(false, [.ct .b])] (fun _ => (.s .n (.s .n (.s (.s .n (.b (.b (.s .n (.s (.b .n ⟨ol 81 :: ol 81 :: uu 3 (oi :: uu 21 []), []⟩) .n)) ⟨ol 81 :: ol 81 :: uu 3 (oi :: uu 21 []), []⟩) ⟨uu 27 [], []⟩)) .n))))
noncomputable def fi124 : FI := mkFI Try.f124 2 [.ag [.s, .i .i64, .s, .sl 81, .sl 9], .ag [.s, .i .i64, .s, .sl 81, .sl 9]] [(false, [.ct .b])] (fun _ => (.s (.r [0, 1, 0] none) .n))
noncomputable def fi13 : FI := { mkFI Try.f13 0 [] [] (fun _ => .n) with mark := some (mkI mT mTab 13 83) }
noncomputable def fi14 : FI := { mkFI Try.f14 0 [] [] (fun _ => .n) with mark := some (mkI mT mTab 14 9) }
noncomputable def fi26 : FI := { mkFI Try.f26 0 [] [] (fun _ => .n) with mark := some (mkI mT mTab 26 63) }
noncomputable def fi41 : FI := { mkFI Try.f41 0 [] [] (fun _ => .n) with mark := some (mkI mT mTab 41 81) }
noncomputable def fi42 : FI := { mkFI Try.f42 0 [] [] (fun _ => .n) with mark := some (mkI mT mTab 42 122) }
noncomputable def fi55 : FI := { mkFI Try.f55 0 [] [] (fun _ => .n) with mark := some (mkI mT mTab 55 127) }
noncomputable def fi56 : FI := { mkFI Try.f56 0 [] [] (fun _ => .n) with mark := some (mkI mT mTab 56 129) }
noncomputable def fi57 : FI := { mkFI Try.f57 0 [] [] (fun _ => .n) with mark := some (mkI mT mTab 57 131) }
noncomputable def fi84 : FI := { mkFI Try.f84 0 [] [] (fun _ => .n) with mark := some (mkI mT mTab 84 161) }
noncomputable def fnL : List (Nat × FI) := [(5, fi5), (23, fi23), (24, fi24), (25, fi25), (27, fi27), (54, fi54), (32, fi32), (40, fi40), (15, fi15), (58, fi58), (59, fi59), (60, fi60), (61, fi61), (62, fi62), (11, fi11), (73, fi73), (12, fi12), (74, fi74), (75, fi75), (76, fi76), (88, fi88), (89, fi89), (107, fi107), (39, fi39), (108, fi108), (109, fi109), (110, fi110), (82, fi82), (83, fi83), (121, fi121), (114, fi114), (124, fi124), (13, fi13), (14, fi14), (26, fi26), (41, fi41), (42, fi42), (55, fi55), (56, fi56), (57, fi57), (84, fi84)]
noncomputable def cfg : Cfg := ⟨fun t => look t tyL, fun f => look f fnL⟩
theorem fns : ∀ x ∈ fnL, FnOk Try.prog Glob.none cfg.ty x.1 x.2 :=
  all_cons (mkFI_ok Try.func5 (by kernel_rfl)) <|
  all_cons (mkFI_ok Try.func23 (by kernel_rfl)) <|
  all_cons (mkFI_ok Try.func24 (by kernel_rfl)) <|
  all_cons (mkFI_ok Try.func25 (by kernel_rfl)) <|
  all_cons (mkFI_ok Try.func27 (by kernel_rfl)) <|
  all_cons (mkFI_ok Try.func54 (by kernel_rfl)) <|
  all_cons (mkFI_ok Try.func32 (by kernel_rfl)) <|
  all_cons (mkFI_ok Try.func40 (by kernel_rfl)) <|
  all_cons (mkFI_ok Try.func15 (by kernel_rfl)) <|
  all_cons (mkFI_ok Try.func58 (by kernel_rfl)) <|
  all_cons (mkFI_ok Try.func59 (by kernel_rfl)) <|
  all_cons (mkFI_ok Try.func60 (by kernel_rfl)) <|
  all_cons (mkFI_ok Try.func61 (by kernel_rfl)) <|
  all_cons (mkFI_ok Try.func62 (by kernel_rfl)) <|
  all_cons (mkFI_ok Try.func11 (by kernel_rfl)) <|
  all_cons (mkFI_ok Try.func73 (by kernel_rfl)) <|
  all_cons (mkFI_ok Try.func12 (by kernel_rfl)) <|
  all_cons (mkFI_ok Try.func74 (by kernel_rfl)) <|
  all_cons (mkFI_ok Try.func75 (by kernel_rfl)) <|
  all_cons (mkFI_ok Try.func76 (by kernel_rfl)) <|
  all_cons (mkFI_ok Try.func88 (by kernel_rfl)) <|
  all_cons (mkFI_ok Try.func89 (by kernel_rfl)) <|
  all_cons (mkFI_ok Try.func107 (by kernel_rfl)) <|
  all_cons (mkFI_ok Try.func39 (by kernel_rfl)) <|
  all_cons (mkFI_ok Try.func108 (by kernel_rfl)) <|
  all_cons (mkFI_ok Try.func109 (by kernel_rfl)) <|
  all_cons (mkFI_ok Try.func110 (by kernel_rfl)) <|
  all_cons (mkFI_ok Try.func82 (by kernel_rfl)) <|
  all_cons (mkFI_ok Try.func83 (by kernel_rfl)) <|
  all_cons (mkFI_ok Try.func121 (by kernel_rfl)) <|
  all_cons (mkFI_ok Try.func114 (by kernel_rfl)) <|
  all_cons (mkFI_ok Try.func124 (by kernel_rfl)) <|
  all_cons (mark_fn (mkFI_ok Try.func13 (by kernel_rfl)) rfl (mkI_ok mtabok (f := 13) (e := 83) (by kernel_rfl))) <|
  all_cons (mark_fn (mkFI_ok Try.func14 (by kernel_rfl)) rfl (mkI_ok mtabok (f := 14) (e := 9) (by kernel_rfl))) <|
  all_cons (mark_fn (mkFI_ok Try.func26 (by kernel_rfl)) rfl (mkI_ok mtabok (f := 26) (e := 63) (by kernel_rfl))) <|
  all_cons (mark_fn (mkFI_ok Try.func41 (by kernel_rfl)) rfl (mkI_ok mtabok (f := 41) (e := 81) (by kernel_rfl))) <|
  all_cons (mark_fn (mkFI_ok Try.func42 (by kernel_rfl)) rfl (mkI_ok mtabok (f := 42) (e := 122) (by kernel_rfl))) <|
  all_cons (mark_fn (mkFI_ok Try.func55 (by kernel_rfl)) rfl (mkI_ok mtabok (f := 55) (e := 127) (by kernel_rfl))) <|
  all_cons (mark_fn (mkFI_ok Try.func56 (by kernel_rfl)) rfl (mkI_ok mtabok (f := 56) (e := 129) (by kernel_rfl))) <|
  all_cons (mark_fn (mkFI_ok Try.func57 (by kernel_rfl)) rfl (mkI_ok mtabok (f := 57) (e := 131) (by kernel_rfl))) <|
  all_cons (mark_fn (mkFI_ok Try.func84 (by kernel_rfl)) rfl (mkI_ok mtabok (f := 84) (e := 161) (by kernel_rfl))) <| all_nil
noncomputable def r_laws_FnExactBuiltDirs (a : List DC) : Out := Run cfg 5 ⟨[], []⟩ a
noncomputable def r_spec_BuiltDirs (a : List DC) : Out := Run cfg 23 ⟨[], []⟩ a
noncomputable def r_impl_BuiltDirs (a : List DC) : Out := Run cfg 24 ⟨[], []⟩ a
noncomputable def r_laws_eqDefS (a : List DC) : Out := Run cfg 25 ⟨ol 63 :: ol 63 :: [], []⟩ a
noncomputable def r_laws_heldDefS (a : List DC) : Out := Run cfg 27 ⟨ol 63 :: oi :: [], []⟩ a
noncomputable def r_spec_l17Flow (a : List DC) : Out := Run cfg 54 ⟨os :: [], []⟩ a
noncomputable def r_laws_eqDef (a : List DC) : Out := Run cfg 32 ⟨.agg [.i .i64, .b, .s, .s, .sl 9, .sl 127, .sl 83, .sl 129, .sl 131, .b, .sl 122] :: .agg [.i .i64, .b, .s, .s, .sl 9, .sl 127, .sl 83, .sl 129, .sl 131, .b, .sl 122] :: [], []⟩ a
noncomputable def r_laws_markText (a : List DC) : Out := Run cfg 40 ⟨oi :: [], []⟩ a
noncomputable def r_laws_heldStringS (a : List DC) : Out := Run cfg 15 ⟨ol 9 :: oi :: [], []⟩ a
noncomputable def r_laws_heldFieldDefS (a : List DC) : Out := Run cfg 58 ⟨ol 127 :: oi :: [], []⟩ a
noncomputable def r_laws_heldInDefS (a : List DC) : Out := Run cfg 59 ⟨ol 83 :: oi :: [], []⟩ a
noncomputable def r_laws_heldEnumDefS (a : List DC) : Out := Run cfg 60 ⟨ol 129 :: oi :: [], []⟩ a
noncomputable def r_laws_heldRootS (a : List DC) : Out := Run cfg 61 ⟨ol 131 :: oi :: [], []⟩ a
noncomputable def r_laws_heldDirS (a : List DC) : Out := Run cfg 62 ⟨ol 122 :: oi :: [], []⟩ a
noncomputable def r_laws_eqStringS (a : List DC) : Out := Run cfg 11 ⟨ol 9 :: ol 9 :: [], []⟩ a
noncomputable def r_laws_eqFieldDefS (a : List DC) : Out := Run cfg 73 ⟨ol 127 :: ol 127 :: [], []⟩ a
noncomputable def r_laws_eqInDefS (a : List DC) : Out := Run cfg 12 ⟨ol 83 :: ol 83 :: [], []⟩ a
noncomputable def r_laws_eqEnumDefS (a : List DC) : Out := Run cfg 74 ⟨ol 129 :: ol 129 :: [], []⟩ a
noncomputable def r_laws_eqRootS (a : List DC) : Out := Run cfg 75 ⟨ol 131 :: ol 131 :: [], []⟩ a
noncomputable def r_laws_eqDirS (a : List DC) : Out := Run cfg 76 ⟨ol 122 :: ol 122 :: [], []⟩ a
noncomputable def r_laws_heldValueS (a : List DC) : Out := Run cfg 88 ⟨ol 81 :: oi :: [], []⟩ a
noncomputable def r_laws_heldArgS (a : List DC) : Out := Run cfg 89 ⟨ol 161 :: oi :: [], []⟩ a
noncomputable def r_laws_eqFieldDef (a : List DC) : Out := Run cfg 107 ⟨.agg [.s, .s, .sl 83, .s, .s, .sl 122] :: .agg [.s, .s, .sl 83, .s, .s, .sl 122] :: [], []⟩ a
noncomputable def r_laws_eqInDef (a : List DC) : Out := Run cfg 39 ⟨.agg [.s, .s, .s, .s, .b, .i .i64, .s, .sl 81, .sl 9, .sl 122] :: .agg [.s, .s, .s, .s, .b, .i .i64, .s, .sl 81, .sl 9, .sl 122] :: [], []⟩ a
noncomputable def r_laws_eqEnumDef (a : List DC) : Out := Run cfg 108 ⟨.agg [.s, .s, .sl 122] :: .agg [.s, .s, .sl 122] :: [], []⟩ a
noncomputable def r_laws_eqRoot (a : List DC) : Out := Run cfg 109 ⟨.agg [.i .i64, .s] :: .agg [.i .i64, .s] :: [], []⟩ a
noncomputable def r_laws_eqDir (a : List DC) : Out := Run cfg 110 ⟨.agg [.s, .sl 161] :: .agg [.s, .sl 161] :: [], []⟩ a
noncomputable def r_laws_eqType (a : List DC) : Out := Run cfg 82 ⟨.agg [.s, .s] :: .agg [.s, .s] :: [], []⟩ a
noncomputable def r_laws_eqValue (a : List DC) : Out := Run cfg 83 ⟨.agg [.i .i64, .s, .sl 81, .sl 9] :: .agg [.i .i64, .s, .sl 81, .sl 9] :: [], []⟩ a
noncomputable def r_laws_eqArgS (a : List DC) : Out := Run cfg 121 ⟨ol 161 :: ol 161 :: [], []⟩ a
noncomputable def r_laws_eqValueS (a : List DC) : Out := Run cfg 114 ⟨ol 81 :: ol 81 :: [], []⟩ a
noncomputable def r_laws_eqArg (a : List DC) : Out := Run cfg 124 ⟨.agg [.s, .i .i64, .s, .sl 81, .sl 9] :: .agg [.s, .i .i64, .s, .sl 81, .sl 9] :: [], []⟩ a
noncomputable def E_laws_FnExactBuiltDirs (a : List DC) : Out :=
 (r_spec_BuiltDirs []).bindR fun r1 =>
 (r_impl_BuiltDirs []).bindR fun r2 =>
 (r_laws_eqDefS [.sl ((r2.getD 0 d0).ll), .sl ((r1.getD 0 d0).ll)]).bindR fun r3 =>
 if (!((r3.getD 0 d0).bb)) = true then
 .ret [.b false]
 else
 markM Out.fail (mkV mT mTab 26 [(r2.getD 0 d0).ll] (1 : Int)) 1 fun l4 k5 =>
 (r_laws_heldDefS [.sl (l4.getD 0 []), .i (1 : Int)]).bindR fun r6 =>
 if (decide ((r6.getD 0 d0).ii < (0 : Int))) = true then
 .ret [.b false]
 else
 if ((r6.getD 0 d0).ii != k5) = true then
 .ret [.b false]
 else
 (r_impl_BuiltDirs []).bindR fun r7 =>
 (r_laws_eqDefS [.sl ((r7.getD 0 d0).ll), .sl ((r1.getD 0 d0).ll)]).bindR fun r8 =>
 if (!((r8.getD 0 d0).bb)) = true then
 .ret [.b false]
 else
 (r_laws_heldDefS [.sl (l4.getD 0 []), .i (1 : Int)]).bindR fun r9 =>
 if (decide ((r9.getD 0 d0).ii < (0 : Int))) = true then
 .ret [.b false]
 else
 if ((r9.getD 0 d0).ii != k5) = true then
 .ret [.b false]
 else
 .ret [.b true]
theorem eq_laws_FnExactBuiltDirs a : r_laws_FnExactBuiltDirs a = E_laws_FnExactBuiltDirs a := (Run_eq cfg 5 _ a).trans (by kernel_rfl)
noncomputable def E_spec_BuiltDirs (a : List DC) : Out :=
 (r_spec_l17Flow [.s ([105, 110, 99, 108, 117, 100, 101] : List UInt8)]).bindR fun r1 =>
 (r_spec_l17Flow [.s ([115, 107, 105, 112] : List UInt8)]).bindR fun r2 =>
 .ret [.sl [[DC.i (7 : Int), DC.b false, DC.s [], DC.s ([100, 101, 112, 114, 101, 99, 97, 116, 101, 100] : List UInt8), DC.sl [[DC.s ([70, 73, 69, 76, 68, 95, 68, 69, 70, 73, 78, 73, 84, 73, 79, 78] : List UInt8)], [DC.s ([65, 82, 71, 85, 77, 69, 78, 84, 95, 68, 69, 70, 73, 78, 73, 84, 73, 79, 78] : List UInt8)], [DC.s ([73, 78, 80, 85, 84, 95, 70, 73, 69, 76, 68, 95, 68, 69, 70, 73, 78, 73, 84, 73, 79, 78] : List UInt8)], [DC.s ([69, 78, 85, 77, 95, 86, 65, 76, 85, 69] : List UInt8)]], DC.sl [], DC.sl [[DC.s ([114, 101, 97, 115, 111, 110] : List UInt8), DC.s [], DC.s ([83, 116, 114, 105, 110, 103] : List UInt8), DC.s [], DC.b true, DC.i (4 : Int), DC.s ([78, 111, 32, 108, 111, 110, 103, 101, 114, 32, 115, 117, 112, 112, 111, 114, 116, 101, 100] : List UInt8), DC.sl [], DC.sl [], DC.sl []]], DC.sl [], DC.sl [], DC.b false, DC.sl []], [DC.i ((r1.getD 0 d0).ii), DC.b ((r1.getD 1 d0).bb), DC.s ((r1.getD 2 d0).ss), DC.s ((r1.getD 3 d0).ss), DC.sl ((r1.getD 4 d0).ll), DC.sl ((r1.getD 5 d0).ll), DC.sl ((r1.getD 6 d0).ll), DC.sl ((r1.getD 7 d0).ll), DC.sl ((r1.getD 8 d0).ll), DC.b ((r1.getD 9 d0).bb), DC.sl ((r1.getD 10 d0).ll)], [DC.i ((r2.getD 0 d0).ii), DC.b ((r2.getD 1 d0).bb), DC.s ((r2.getD 2 d0).ss), DC.s ((r2.getD 3 d0).ss), DC.sl ((r2.getD 4 d0).ll), DC.sl ((r2.getD 5 d0).ll), DC.sl ((r2.getD 6 d0).ll), DC.sl ((r2.getD 7 d0).ll), DC.sl ((r2.getD 8 d0).ll), DC.b ((r2.getD 9 d0).bb), DC.sl ((r2.getD 10 d0).ll)]]]
theorem eq_spec_BuiltDirs a : r_spec_BuiltDirs a = E_spec_BuiltDirs a := (Run_eq cfg 23 _ a).trans (by kernel_rfl)
noncomputable def E_impl_BuiltDirsL1 : List DC → Out := fun v1 =>
 if (decide ((v1.getD 3 d0).ii < (v1.getD 2 d0).ii)) = true then
 Out.andThenB (if 9 = 9 ∧ 0 ≤ (v1.getD 3 d0).ii ∧ (v1.getD 3 d0).ii < (((v1.getD 1 d0).ll).length : Int) then
 if ((v1.getD 0 d0).ll).length + [[DC.i (7 : Int), DC.b false, DC.s [], DC.s (((((v1.getD 1 d0).ll).getD ((v1.getD 3 d0).ii).toNat []).getD 0 d0).ss), DC.sl [[DC.s ([70, 73, 69, 76, 68] : List UInt8)], [DC.s ([70, 82, 65, 71, 77, 69, 78, 84, 95, 83, 80, 82, 69, 65, 68] : List UInt8)], [DC.s ([73, 78, 76, 73, 78, 69, 95, 70, 82, 65, 71, 77, 69, 78, 84] : List UInt8)]], DC.sl [], DC.sl [[DC.s ([105, 102] : List UInt8), DC.s [], DC.s ([66, 111, 111, 108, 101, 97, 110] : List UInt8), DC.s ([33] : List UInt8), DC.b false, DC.i (0 : Int), DC.s [], DC.sl [], DC.sl [], DC.sl []]], DC.sl [], DC.sl [], DC.b false, DC.sl []]].length < LIM ∧ 46 = 46 then
 .norm [.sl (((v1.getD 0 d0).ll) ++ [[DC.i (7 : Int), DC.b false, DC.s [], DC.s (((((v1.getD 1 d0).ll).getD ((v1.getD 3 d0).ii).toNat []).getD 0 d0).ss), DC.sl [[DC.s ([70, 73, 69, 76, 68] : List UInt8)], [DC.s ([70, 82, 65, 71, 77, 69, 78, 84, 95, 83, 80, 82, 69, 65, 68] : List UInt8)], [DC.s ([73, 78, 76, 73, 78, 69, 95, 70, 82, 65, 71, 77, 69, 78, 84] : List UInt8)]], DC.sl [], DC.sl [[DC.s ([105, 102] : List UInt8), DC.s [], DC.s ([66, 111, 111, 108, 101, 97, 110] : List UInt8), DC.s ([33] : List UInt8), DC.b false, DC.i (0 : Int), DC.s [], DC.sl [], DC.sl [], DC.sl []]], DC.sl [], DC.sl [], DC.b false, DC.sl []]]), .sl ((v1.getD 1 d0).ll), .i ((v1.getD 2 d0).ii), .i ((v1.getD 3 d0).ii)]
 else
 .fail
 else
 .fail) 1 fun v2 =>
 .norm [.sl ((v2.getD 0 d0).ll), .sl ((v2.getD 1 d0).ll), .i ((v2.getD 2 d0).ii), .i (IntKind.i64.wrap ((v2.getD 3 d0).ii + (1 : Int)))]
 else
 .ex 0 [.sl ((v1.getD 0 d0).ll)]
noncomputable def E_impl_BuiltDirs (a : List DC) : Out :=
 Out.andThenB (Loop E_impl_BuiltDirsL1 [.sl [[DC.i (7 : Int), DC.b false, DC.s [], DC.s ([100, 101, 112, 114, 101, 99, 97, 116, 101, 100] : List UInt8), DC.sl [[DC.s ([70, 73, 69, 76, 68, 95, 68, 69, 70, 73, 78, 73, 84, 73, 79, 78] : List UInt8)], [DC.s ([65, 82, 71, 85, 77, 69, 78, 84, 95, 68, 69, 70, 73, 78, 73, 84, 73, 79, 78] : List UInt8)], [DC.s ([73, 78, 80, 85, 84, 95, 70, 73, 69, 76, 68, 95, 68, 69, 70, 73, 78, 73, 84, 73, 79, 78] : List UInt8)], [DC.s ([69, 78, 85, 77, 95, 86, 65, 76, 85, 69] : List UInt8)]], DC.sl [], DC.sl [[DC.s ([114, 101, 97, 115, 111, 110] : List UInt8), DC.s [], DC.s ([83, 116, 114, 105, 110, 103] : List UInt8), DC.s [], DC.b true, DC.i (4 : Int), DC.s ([78, 111, 32, 108, 111, 110, 103, 101, 114, 32, 115, 117, 112, 112, 111, 114, 116, 101, 100] : List UInt8), DC.sl [], DC.sl [], DC.sl []]], DC.sl [], DC.sl [], DC.b false, DC.sl []]], .sl [[DC.s ([105, 110, 99, 108, 117, 100, 101] : List UInt8)], [DC.s ([115, 107, 105, 112] : List UInt8)]], .i ([[DC.s ([105, 110, 99, 108, 117, 100, 101] : List UInt8)], [DC.s ([115, 107, 105, 112] : List UInt8)]].length : Int), .i (0 : Int)]) 0 fun v3 =>
 .ret [.sl ((v3.getD 0 d0).ll)]
theorem eq_impl_BuiltDirs a : r_impl_BuiltDirs a = E_impl_BuiltDirs a := (Run_eq cfg 24 _ a).trans (by kernel_rfl)
noncomputable def E_laws_eqDefSL1 : List DC → Out := fun v1 =>
 if (decide ((v1.getD 2 d0).ii < (((v1.getD 0 d0).ll).length : Int))) = true then
 Out.andThenB (if 63 = 63 ∧ 0 ≤ (v1.getD 2 d0).ii ∧ (v1.getD 2 d0).ii < (((v1.getD 0 d0).ll).length : Int) then
 if 63 = 63 ∧ 0 ≤ (v1.getD 2 d0).ii ∧ (v1.getD 2 d0).ii < (((v1.getD 1 d0).ll).length : Int) then
 (r_laws_eqDef [.i (((((v1.getD 0 d0).ll).getD ((v1.getD 2 d0).ii).toNat []).getD 0 d0).ii), .b (((((v1.getD 0 d0).ll).getD ((v1.getD 2 d0).ii).toNat []).getD 1 d0).bb), .s (((((v1.getD 0 d0).ll).getD ((v1.getD 2 d0).ii).toNat []).getD 2 d0).ss), .s (((((v1.getD 0 d0).ll).getD ((v1.getD 2 d0).ii).toNat []).getD 3 d0).ss), .sl (((((v1.getD 0 d0).ll).getD ((v1.getD 2 d0).ii).toNat []).getD 4 d0).ll), .sl (((((v1.getD 0 d0).ll).getD ((v1.getD 2 d0).ii).toNat []).getD 5 d0).ll), .sl (((((v1.getD 0 d0).ll).getD ((v1.getD 2 d0).ii).toNat []).getD 6 d0).ll), .sl (((((v1.getD 0 d0).ll).getD ((v1.getD 2 d0).ii).toNat []).getD 7 d0).ll), .sl (((((v1.getD 0 d0).ll).getD ((v1.getD 2 d0).ii).toNat []).getD 8 d0).ll), .b (((((v1.getD 0 d0).ll).getD ((v1.getD 2 d0).ii).toNat []).getD 9 d0).bb), .sl (((((v1.getD 0 d0).ll).getD ((v1.getD 2 d0).ii).toNat []).getD 10 d0).ll), .i (((((v1.getD 1 d0).ll).getD ((v1.getD 2 d0).ii).toNat []).getD 0 d0).ii), .b (((((v1.getD 1 d0).ll).getD ((v1.getD 2 d0).ii).toNat []).getD 1 d0).bb), .s (((((v1.getD 1 d0).ll).getD ((v1.getD 2 d0).ii).toNat []).getD 2 d0).ss), .s (((((v1.getD 1 d0).ll).getD ((v1.getD 2 d0).ii).toNat []).getD 3 d0).ss), .sl (((((v1.getD 1 d0).ll).getD ((v1.getD 2 d0).ii).toNat []).getD 4 d0).ll), .sl (((((v1.getD 1 d0).ll).getD ((v1.getD 2 d0).ii).toNat []).getD 5 d0).ll), .sl (((((v1.getD 1 d0).ll).getD ((v1.getD 2 d0).ii).toNat []).getD 6 d0).ll), .sl (((((v1.getD 1 d0).ll).getD ((v1.getD 2 d0).ii).toNat []).getD 7 d0).ll), .sl (((((v1.getD 1 d0).ll).getD ((v1.getD 2 d0).ii).toNat []).getD 8 d0).ll), .b (((((v1.getD 1 d0).ll).getD ((v1.getD 2 d0).ii).toNat []).getD 9 d0).bb), .sl (((((v1.getD 1 d0).ll).getD ((v1.getD 2 d0).ii).toNat []).getD 10 d0).ll)]).bindR fun r2 =>
 if (!((r2.getD 0 d0).bb)) = true then
 .ret [.b false]
 else
 .norm [.sl ((v1.getD 0 d0).ll), .sl ((v1.getD 1 d0).ll), .i ((v1.getD 2 d0).ii)]
 else
 .fail
 else
 .fail) 1 fun v3 =>
 .norm [.sl ((v3.getD 0 d0).ll), .sl ((v3.getD 1 d0).ll), .i (IntKind.i64.wrap ((v3.getD 2 d0).ii + (1 : Int)))]
 else
 .ex 0 []
noncomputable def E_laws_eqDefS (a : List DC) : Out :=
 if ((((a.getD 0 d0).ll).length : Int) != (((a.getD 1 d0).ll).length : Int)) = true then
 .ret [.b false]
 else
 Out.andThenB (Loop E_laws_eqDefSL1 [.sl ((a.getD 0 d0).ll), .sl ((a.getD 1 d0).ll), .i (0 : Int)]) 0 fun v4 =>
 .ret [.b true]
theorem eq_laws_eqDefS a : r_laws_eqDefS a = E_laws_eqDefS a := (Run_eq cfg 25 _ a).trans (by kernel_rfl)
noncomputable def E_laws_heldDefSL1 : List DC → Out := fun v1 =>
 if (decide ((v1.getD 2 d0).ii < (((v1.getD 0 d0).ll).length : Int))) = true then
 Out.andThenB (if 63 = 63 ∧ 0 ≤ (v1.getD 2 d0).ii ∧ (v1.getD 2 d0).ii < (((v1.getD 0 d0).ll).length : Int) then
 if (((((v1.getD 0 d0).ll).getD ((v1.getD 2 d0).ii).toNat []).getD 0 d0).ii != (v1.getD 1 d0).ii) = true then
 .ret [.i (-1 : Int)]
 else
 if 63 = 63 ∧ 0 ≤ (v1.getD 2 d0).ii ∧ (v1.getD 2 d0).ii < (((v1.getD 0 d0).ll).length : Int) then
 if (3 : Int) = 0 then
 .fail
 else
 if (!(((((v1.getD 0 d0).ll).getD ((v1.getD 2 d0).ii).toNat []).getD 1 d0).bb == (((IntKind.i64.wrap ((v1.getD 1 d0).ii + (1 : Int))).tmod (3 : Int)) == (0 : Int)))) = true then
 .ret [.i (-1 : Int)]
 else
 if 63 = 63 ∧ 0 ≤ (v1.getD 2 d0).ii ∧ (v1.getD 2 d0).ii < (((v1.getD 0 d0).ll).length : Int) then
 (r_laws_markText [.i (IntKind.i64.wrap ((IntKind.i64.wrap ((v1.getD 1 d0).ii + (1 : Int))) + (1 : Int)))]).bindR fun r2 =>
 if (!(((((v1.getD 0 d0).ll).getD ((v1.getD 2 d0).ii).toNat []).getD 2 d0).ss == (r2.getD 0 d0).ss)) = true then
 .ret [.i (-1 : Int)]
 else
 if 63 = 63 ∧ 0 ≤ (v1.getD 2 d0).ii ∧ (v1.getD 2 d0).ii < (((v1.getD 0 d0).ll).length : Int) then
 (r_laws_markText [.i (IntKind.i64.wrap ((IntKind.i64.wrap ((IntKind.i64.wrap ((v1.getD 1 d0).ii + (1 : Int))) + (1 : Int))) + (1 : Int)))]).bindR fun r3 =>
 if (!(((((v1.getD 0 d0).ll).getD ((v1.getD 2 d0).ii).toNat []).getD 3 d0).ss == (r3.getD 0 d0).ss)) = true then
 .ret [.i (-1 : Int)]
 else
 if 63 = 63 ∧ 0 ≤ (v1.getD 2 d0).ii ∧ (v1.getD 2 d0).ii < (((v1.getD 0 d0).ll).length : Int) then
 (r_laws_heldStringS [.sl (((((v1.getD 0 d0).ll).getD ((v1.getD 2 d0).ii).toNat []).getD 4 d0).ll), .i (IntKind.i64.wrap ((IntKind.i64.wrap ((IntKind.i64.wrap ((IntKind.i64.wrap ((v1.getD 1 d0).ii + (1 : Int))) + (1 : Int))) + (1 : Int))) + (1 : Int)))]).bindR fun r4 =>
 if (decide ((r4.getD 0 d0).ii < (0 : Int))) = true then
 .ret [.i (-1 : Int)]
 else
 if 63 = 63 ∧ 0 ≤ (v1.getD 2 d0).ii ∧ (v1.getD 2 d0).ii < (((v1.getD 0 d0).ll).length : Int) then
 (r_laws_heldFieldDefS [.sl (((((v1.getD 0 d0).ll).getD ((v1.getD 2 d0).ii).toNat []).getD 5 d0).ll), .i ((r4.getD 0 d0).ii)]).bindR fun r5 =>
 if (decide ((r5.getD 0 d0).ii < (0 : Int))) = true then
 .ret [.i (-1 : Int)]
 else
 if 63 = 63 ∧ 0 ≤ (v1.getD 2 d0).ii ∧ (v1.getD 2 d0).ii < (((v1.getD 0 d0).ll).length : Int) then
 (r_laws_heldInDefS [.sl (((((v1.getD 0 d0).ll).getD ((v1.getD 2 d0).ii).toNat []).getD 6 d0).ll), .i ((r5.getD 0 d0).ii)]).bindR fun r6 =>
 if (decide ((r6.getD 0 d0).ii < (0 : Int))) = true then
 .ret [.i (-1 : Int)]
 else
 if 63 = 63 ∧ 0 ≤ (v1.getD 2 d0).ii ∧ (v1.getD 2 d0).ii < (((v1.getD 0 d0).ll).length : Int) then
 (r_laws_heldEnumDefS [.sl (((((v1.getD 0 d0).ll).getD ((v1.getD 2 d0).ii).toNat []).getD 7 d0).ll), .i ((r6.getD 0 d0).ii)]).bindR fun r7 =>
 if (decide ((r7.getD 0 d0).ii < (0 : Int))) = true then
 .ret [.i (-1 : Int)]
 else
 if 63 = 63 ∧ 0 ≤ (v1.getD 2 d0).ii ∧ (v1.getD 2 d0).ii < (((v1.getD 0 d0).ll).length : Int) then
 (r_laws_heldRootS [.sl (((((v1.getD 0 d0).ll).getD ((v1.getD 2 d0).ii).toNat []).getD 8 d0).ll), .i ((r7.getD 0 d0).ii)]).bindR fun r8 =>
 if (decide ((r8.getD 0 d0).ii < (0 : Int))) = true then
 .ret [.i (-1 : Int)]
 else
 if 63 = 63 ∧ 0 ≤ (v1.getD 2 d0).ii ∧ (v1.getD 2 d0).ii < (((v1.getD 0 d0).ll).length : Int) then
 if (3 : Int) = 0 then
 .fail
 else
 if (!(((((v1.getD 0 d0).ll).getD ((v1.getD 2 d0).ii).toNat []).getD 9 d0).bb == ((((r8.getD 0 d0).ii).tmod (3 : Int)) == (0 : Int)))) = true then
 .ret [.i (-1 : Int)]
 else
 if 63 = 63 ∧ 0 ≤ (v1.getD 2 d0).ii ∧ (v1.getD 2 d0).ii < (((v1.getD 0 d0).ll).length : Int) then
 (r_laws_heldDirS [.sl (((((v1.getD 0 d0).ll).getD ((v1.getD 2 d0).ii).toNat []).getD 10 d0).ll), .i (IntKind.i64.wrap ((r8.getD 0 d0).ii + (1 : Int)))]).bindR fun r9 =>
 if (decide ((r9.getD 0 d0).ii < (0 : Int))) = true then
 .ret [.i (-1 : Int)]
 else
 .norm [.sl ((v1.getD 0 d0).ll), .i ((r9.getD 0 d0).ii), .i ((v1.getD 2 d0).ii)]
 else
 .fail
 else
 .fail
 else
 .fail
 else
 .fail
 else
 .fail
 else
 .fail
 else
 .fail
 else
 .fail
 else
 .fail
 else
 .fail
 else
 .fail) 1 fun v10 =>
 .norm [.sl ((v10.getD 0 d0).ll), .i ((v10.getD 1 d0).ii), .i (IntKind.i64.wrap ((v10.getD 2 d0).ii + (1 : Int)))]
 else
 .ex 0 [.i ((v1.getD 1 d0).ii)]
noncomputable def E_laws_heldDefS (a : List DC) : Out :=
 Out.andThenB (Loop E_laws_heldDefSL1 [.sl ((a.getD 0 d0).ll), .i ((a.getD 1 d0).ii), .i (0 : Int)]) 0 fun v11 =>
 .ret [.i ((v11.getD 0 d0).ii)]
theorem eq_laws_heldDefS a : r_laws_heldDefS a = E_laws_heldDefS a := (Run_eq cfg 27 _ a).trans (by kernel_rfl)
noncomputable def E_spec_l17Flow (a : List DC) : Out :=
 .ret [.i (7 : Int), .b false, .s [], .s ((a.getD 0 d0).ss), .sl [[DC.s ([70, 73, 69, 76, 68] : List UInt8)], [DC.s ([70, 82, 65, 71, 77, 69, 78, 84, 95, 83, 80, 82, 69, 65, 68] : List UInt8)], [DC.s ([73, 78, 76, 73, 78, 69, 95, 70, 82, 65, 71, 77, 69, 78, 84] : List UInt8)]], .sl [], .sl [[DC.s ([105, 102] : List UInt8), DC.s [], DC.s ([66, 111, 111, 108, 101, 97, 110] : List UInt8), DC.s ([33] : List UInt8), DC.b false, DC.i (0 : Int), DC.s [], DC.sl [], DC.sl [], DC.sl []]], .sl [], .sl [], .b false, .sl []]
theorem eq_spec_l17Flow a : r_spec_l17Flow a = E_spec_l17Flow a := (Run_eq cfg 54 _ a).trans (by kernel_rfl)
noncomputable def E_laws_eqDef (a : List DC) : Out :=
 if ((a.getD 0 d0).ii != (a.getD 11 d0).ii) = true then
 .ret [.b false]
 else
 if (!((a.getD 1 d0).bb == (a.getD 12 d0).bb)) = true then
 .ret [.b false]
 else
 if (!((a.getD 2 d0).ss == (a.getD 13 d0).ss)) = true then
 .ret [.b false]
 else
 if (!((a.getD 3 d0).ss == (a.getD 14 d0).ss)) = true then
 .ret [.b false]
 else
 (r_laws_eqStringS [.sl ((a.getD 4 d0).ll), .sl ((a.getD 15 d0).ll)]).bindR fun r1 =>
 if (!((r1.getD 0 d0).bb)) = true then
 .ret [.b false]
 else
 (r_laws_eqFieldDefS [.sl ((a.getD 5 d0).ll), .sl ((a.getD 16 d0).ll)]).bindR fun r2 =>
 if (!((r2.getD 0 d0).bb)) = true then
 .ret [.b false]
 else
 (r_laws_eqInDefS [.sl ((a.getD 6 d0).ll), .sl ((a.getD 17 d0).ll)]).bindR fun r3 =>
 if (!((r3.getD 0 d0).bb)) = true then
 .ret [.b false]
 else
 (r_laws_eqEnumDefS [.sl ((a.getD 7 d0).ll), .sl ((a.getD 18 d0).ll)]).bindR fun r4 =>
 if (!((r4.getD 0 d0).bb)) = true then
 .ret [.b false]
 else
 (r_laws_eqRootS [.sl ((a.getD 8 d0).ll), .sl ((a.getD 19 d0).ll)]).bindR fun r5 =>
 if (!((r5.getD 0 d0).bb)) = true then
 .ret [.b false]
 else
 if (!((a.getD 9 d0).bb == (a.getD 20 d0).bb)) = true then
 .ret [.b false]
 else
 (r_laws_eqDirS [.sl ((a.getD 10 d0).ll), .sl ((a.getD 21 d0).ll)]).bindR fun r6 =>
 if (!((r6.getD 0 d0).bb)) = true then
 .ret [.b false]
 else
 .ret [.b true]
theorem eq_laws_eqDef a : r_laws_eqDef a = E_laws_eqDef a := (Run_eq cfg 32 _ a).trans (by kernel_rfl)
theorem eq_laws_markText a : r_laws_markText a = E_laws_markText a := (Run_eq cfg 40 _ a).trans (by kernel_rfl)
noncomputable def E_laws_heldStringSL1 : List DC → Out := fun v1 =>
 if (decide ((v1.getD 2 d0).ii < (((v1.getD 0 d0).ll).length : Int))) = true then
 Out.andThenB (if 9 = 9 ∧ 0 ≤ (v1.getD 2 d0).ii ∧ (v1.getD 2 d0).ii < (((v1.getD 0 d0).ll).length : Int) then
 (r_laws_markText [.i ((v1.getD 1 d0).ii)]).bindR fun r2 =>
 if (!(((((v1.getD 0 d0).ll).getD ((v1.getD 2 d0).ii).toNat []).getD 0 d0).ss == (r2.getD 0 d0).ss)) = true then
 .ret [.i (-1 : Int)]
 else
 .norm [.sl ((v1.getD 0 d0).ll), .i (IntKind.i64.wrap ((v1.getD 1 d0).ii + (1 : Int))), .i ((v1.getD 2 d0).ii)]
 else
 .fail) 1 fun v3 =>
 .norm [.sl ((v3.getD 0 d0).ll), .i ((v3.getD 1 d0).ii), .i (IntKind.i64.wrap ((v3.getD 2 d0).ii + (1 : Int)))]
 else
 .ex 0 [.i ((v1.getD 1 d0).ii)]
noncomputable def E_laws_heldStringS (a : List DC) : Out :=
 Out.andThenB (Loop E_laws_heldStringSL1 [.sl ((a.getD 0 d0).ll), .i ((a.getD 1 d0).ii), .i (0 : Int)]) 0 fun v4 =>
 .ret [.i ((v4.getD 0 d0).ii)]
theorem eq_laws_heldStringS a : r_laws_heldStringS a = E_laws_heldStringS a := (Run_eq cfg 15 _ a).trans (by kernel_rfl)
noncomputable def E_laws_heldFieldDefSL1 : List DC → Out := fun v1 =>
 if (decide ((v1.getD 2 d0).ii < (((v1.getD 0 d0).ll).length : Int))) = true then
 Out.andThenB (if 127 = 127 ∧ 0 ≤ (v1.getD 2 d0).ii ∧ (v1.getD 2 d0).ii < (((v1.getD 0 d0).ll).length : Int) then
 (r_laws_markText [.i ((v1.getD 1 d0).ii)]).bindR fun r2 =>
 if (!(((((v1.getD 0 d0).ll).getD ((v1.getD 2 d0).ii).toNat []).getD 0 d0).ss == (r2.getD 0 d0).ss)) = true then
 .ret [.i (-1 : Int)]
 else
 if 127 = 127 ∧ 0 ≤ (v1.getD 2 d0).ii ∧ (v1.getD 2 d0).ii < (((v1.getD 0 d0).ll).length : Int) then
 (r_laws_markText [.i (IntKind.i64.wrap ((v1.getD 1 d0).ii + (1 : Int)))]).bindR fun r3 =>
 if (!(((((v1.getD 0 d0).ll).getD ((v1.getD 2 d0).ii).toNat []).getD 1 d0).ss == (r3.getD 0 d0).ss)) = true then
 .ret [.i (-1 : Int)]
 else
 if 127 = 127 ∧ 0 ≤ (v1.getD 2 d0).ii ∧ (v1.getD 2 d0).ii < (((v1.getD 0 d0).ll).length : Int) then
 (r_laws_heldInDefS [.sl (((((v1.getD 0 d0).ll).getD ((v1.getD 2 d0).ii).toNat []).getD 2 d0).ll), .i (IntKind.i64.wrap ((IntKind.i64.wrap ((v1.getD 1 d0).ii + (1 : Int))) + (1 : Int)))]).bindR fun r4 =>
 if (decide ((r4.getD 0 d0).ii < (0 : Int))) = true then
 .ret [.i (-1 : Int)]
 else
 if 127 = 127 ∧ 0 ≤ (v1.getD 2 d0).ii ∧ (v1.getD 2 d0).ii < (((v1.getD 0 d0).ll).length : Int) then
 (r_laws_markText [.i ((r4.getD 0 d0).ii)]).bindR fun r5 =>
 if (!(((((v1.getD 0 d0).ll).getD ((v1.getD 2 d0).ii).toNat []).getD 3 d0).ss == (r5.getD 0 d0).ss)) = true then
 .ret [.i (-1 : Int)]
 else
 if 127 = 127 ∧ 0 ≤ (v1.getD 2 d0).ii ∧ (v1.getD 2 d0).ii < (((v1.getD 0 d0).ll).length : Int) then
 (r_laws_markText [.i (IntKind.i64.wrap ((r4.getD 0 d0).ii + (1 : Int)))]).bindR fun r6 =>
 if (!(((((v1.getD 0 d0).ll).getD ((v1.getD 2 d0).ii).toNat []).getD 4 d0).ss == (r6.getD 0 d0).ss)) = true then
 .ret [.i (-1 : Int)]
 else
 if 127 = 127 ∧ 0 ≤ (v1.getD 2 d0).ii ∧ (v1.getD 2 d0).ii < (((v1.getD 0 d0).ll).length : Int) then
 (r_laws_heldDirS [.sl (((((v1.getD 0 d0).ll).getD ((v1.getD 2 d0).ii).toNat []).getD 5 d0).ll), .i (IntKind.i64.wrap ((IntKind.i64.wrap ((r4.getD 0 d0).ii + (1 : Int))) + (1 : Int)))]).bindR fun r7 =>
 if (decide ((r7.getD 0 d0).ii < (0 : Int))) = true then
 .ret [.i (-1 : Int)]
 else
 .norm [.sl ((v1.getD 0 d0).ll), .i ((r7.getD 0 d0).ii), .i ((v1.getD 2 d0).ii)]
 else
 .fail
 else
 .fail
 else
 .fail
 else
 .fail
 else
 .fail
 else
 .fail) 1 fun v8 =>
 .norm [.sl ((v8.getD 0 d0).ll), .i ((v8.getD 1 d0).ii), .i (IntKind.i64.wrap ((v8.getD 2 d0).ii + (1 : Int)))]
 else
 .ex 0 [.i ((v1.getD 1 d0).ii)]
noncomputable def E_laws_heldFieldDefS (a : List DC) : Out :=
 Out.andThenB (Loop E_laws_heldFieldDefSL1 [.sl ((a.getD 0 d0).ll), .i ((a.getD 1 d0).ii), .i (0 : Int)]) 0 fun v9 =>
 .ret [.i ((v9.getD 0 d0).ii)]
theorem eq_laws_heldFieldDefS a : r_laws_heldFieldDefS a = E_laws_heldFieldDefS a := (Run_eq cfg 58 _ a).trans (by kernel_rfl)
noncomputable def E_laws_heldInDefSL1 : List DC → Out := fun v1 =>
 if (decide ((v1.getD 2 d0).ii < (((v1.getD 0 d0).ll).length : Int))) = true then
 Out.andThenB (if 83 = 83 ∧ 0 ≤ (v1.getD 2 d0).ii ∧ (v1.getD 2 d0).ii < (((v1.getD 0 d0).ll).length : Int) then
 (r_laws_markText [.i ((v1.getD 1 d0).ii)]).bindR fun r2 =>
 if (!(((((v1.getD 0 d0).ll).getD ((v1.getD 2 d0).ii).toNat []).getD 0 d0).ss == (r2.getD 0 d0).ss)) = true then
 .ret [.i (-1 : Int)]
 else
 if 83 = 83 ∧ 0 ≤ (v1.getD 2 d0).ii ∧ (v1.getD 2 d0).ii < (((v1.getD 0 d0).ll).length : Int) then
 (r_laws_markText [.i (IntKind.i64.wrap ((v1.getD 1 d0).ii + (1 : Int)))]).bindR fun r3 =>
 if (!(((((v1.getD 0 d0).ll).getD ((v1.getD 2 d0).ii).toNat []).getD 1 d0).ss == (r3.getD 0 d0).ss)) = true then
 .ret [.i (-1 : Int)]
 else
 if 83 = 83 ∧ 0 ≤ (v1.getD 2 d0).ii ∧ (v1.getD 2 d0).ii < (((v1.getD 0 d0).ll).length : Int) then
 (r_laws_markText [.i (IntKind.i64.wrap ((IntKind.i64.wrap ((v1.getD 1 d0).ii + (1 : Int))) + (1 : Int)))]).bindR fun r4 =>
 if (!(((((v1.getD 0 d0).ll).getD ((v1.getD 2 d0).ii).toNat []).getD 2 d0).ss == (r4.getD 0 d0).ss)) = true then
 .ret [.i (-1 : Int)]
 else
 if 83 = 83 ∧ 0 ≤ (v1.getD 2 d0).ii ∧ (v1.getD 2 d0).ii < (((v1.getD 0 d0).ll).length : Int) then
 (r_laws_markText [.i (IntKind.i64.wrap ((IntKind.i64.wrap ((IntKind.i64.wrap ((v1.getD 1 d0).ii + (1 : Int))) + (1 : Int))) + (1 : Int)))]).bindR fun r5 =>
 if (!(((((v1.getD 0 d0).ll).getD ((v1.getD 2 d0).ii).toNat []).getD 3 d0).ss == (r5.getD 0 d0).ss)) = true then
 .ret [.i (-1 : Int)]
 else
 if 83 = 83 ∧ 0 ≤ (v1.getD 2 d0).ii ∧ (v1.getD 2 d0).ii < (((v1.getD 0 d0).ll).length : Int) then
 if (3 : Int) = 0 then
 .fail
 else
 if (!(((((v1.getD 0 d0).ll).getD ((v1.getD 2 d0).ii).toNat []).getD 4 d0).bb == (((IntKind.i64.wrap ((IntKind.i64.wrap ((IntKind.i64.wrap ((IntKind.i64.wrap ((v1.getD 1 d0).ii + (1 : Int))) + (1 : Int))) + (1 : Int))) + (1 : Int))).tmod (3 : Int)) == (0 : Int)))) = true then
 .ret [.i (-1 : Int)]
 else
 if 83 = 83 ∧ 0 ≤ (v1.getD 2 d0).ii ∧ (v1.getD 2 d0).ii < (((v1.getD 0 d0).ll).length : Int) then
 if (((((v1.getD 0 d0).ll).getD ((v1.getD 2 d0).ii).toNat []).getD 5 d0).ii != (IntKind.i64.wrap ((IntKind.i64.wrap ((IntKind.i64.wrap ((IntKind.i64.wrap ((IntKind.i64.wrap ((v1.getD 1 d0).ii + (1 : Int))) + (1 : Int))) + (1 : Int))) + (1 : Int))) + (1 : Int)))) = true then
 .ret [.i (-1 : Int)]
 else
 if 83 = 83 ∧ 0 ≤ (v1.getD 2 d0).ii ∧ (v1.getD 2 d0).ii < (((v1.getD 0 d0).ll).length : Int) then
 (r_laws_markText [.i (IntKind.i64.wrap ((IntKind.i64.wrap ((IntKind.i64.wrap ((IntKind.i64.wrap ((IntKind.i64.wrap ((IntKind.i64.wrap ((v1.getD 1 d0).ii + (1 : Int))) + (1 : Int))) + (1 : Int))) + (1 : Int))) + (1 : Int))) + (1 : Int)))]).bindR fun r6 =>
 if (!(((((v1.getD 0 d0).ll).getD ((v1.getD 2 d0).ii).toNat []).getD 6 d0).ss == (r6.getD 0 d0).ss)) = true then
 .ret [.i (-1 : Int)]
 else
 if 83 = 83 ∧ 0 ≤ (v1.getD 2 d0).ii ∧ (v1.getD 2 d0).ii < (((v1.getD 0 d0).ll).length : Int) then
 (r_laws_heldValueS [.sl (((((v1.getD 0 d0).ll).getD ((v1.getD 2 d0).ii).toNat []).getD 7 d0).ll), .i (IntKind.i64.wrap ((IntKind.i64.wrap ((IntKind.i64.wrap ((IntKind.i64.wrap ((IntKind.i64.wrap ((IntKind.i64.wrap ((IntKind.i64.wrap ((v1.getD 1 d0).ii + (1 : Int))) + (1 : Int))) + (1 : Int))) + (1 : Int))) + (1 : Int))) + (1 : Int))) + (1 : Int)))]).bindR fun r7 =>
 if (decide ((r7.getD 0 d0).ii < (0 : Int))) = true then
 .ret [.i (-1 : Int)]
 else
 if 83 = 83 ∧ 0 ≤ (v1.getD 2 d0).ii ∧ (v1.getD 2 d0).ii < (((v1.getD 0 d0).ll).length : Int) then
 (r_laws_heldStringS [.sl (((((v1.getD 0 d0).ll).getD ((v1.getD 2 d0).ii).toNat []).getD 8 d0).ll), .i ((r7.getD 0 d0).ii)]).bindR fun r8 =>
 if (decide ((r8.getD 0 d0).ii < (0 : Int))) = true then
 .ret [.i (-1 : Int)]
 else
 if 83 = 83 ∧ 0 ≤ (v1.getD 2 d0).ii ∧ (v1.getD 2 d0).ii < (((v1.getD 0 d0).ll).length : Int) then
 (r_laws_heldDirS [.sl (((((v1.getD 0 d0).ll).getD ((v1.getD 2 d0).ii).toNat []).getD 9 d0).ll), .i ((r8.getD 0 d0).ii)]).bindR fun r9 =>
 if (decide ((r9.getD 0 d0).ii < (0 : Int))) = true then
 .ret [.i (-1 : Int)]
 else
 .norm [.sl ((v1.getD 0 d0).ll), .i ((r9.getD 0 d0).ii), .i ((v1.getD 2 d0).ii)]
 else
 .fail
 else
 .fail
 else
 .fail
 else
 .fail
 else
 .fail
 else
 .fail
 else
 .fail
 else
 .fail
 else
 .fail
 else
 .fail) 1 fun v10 =>
 .norm [.sl ((v10.getD 0 d0).ll), .i ((v10.getD 1 d0).ii), .i (IntKind.i64.wrap ((v10.getD 2 d0).ii + (1 : Int)))]
 else
 .ex 0 [.i ((v1.getD 1 d0).ii)]
noncomputable def E_laws_heldInDefS (a : List DC) : Out :=
 Out.andThenB (Loop E_laws_heldInDefSL1 [.sl ((a.getD 0 d0).ll), .i ((a.getD 1 d0).ii), .i (0 : Int)]) 0 fun v11 =>
 .ret [.i ((v11.getD 0 d0).ii)]
theorem eq_laws_heldInDefS a : r_laws_heldInDefS a = E_laws_heldInDefS a := (Run_eq cfg 59 _ a).trans (by kernel_rfl)
noncomputable def E_laws_heldEnumDefSL1 : List DC → Out := fun v1 =>
 if (decide ((v1.getD 2 d0).ii < (((v1.getD 0 d0).ll).length : Int))) = true then
 Out.andThenB (if 129 = 129 ∧ 0 ≤ (v1.getD 2 d0).ii ∧ (v1.getD 2 d0).ii < (((v1.getD 0 d0).ll).length : Int) then
 (r_laws_markText [.i ((v1.getD 1 d0).ii)]).bindR fun r2 =>
 if (!(((((v1.getD 0 d0).ll).getD ((v1.getD 2 d0).ii).toNat []).getD 0 d0).ss == (r2.getD 0 d0).ss)) = true then
 .ret [.i (-1 : Int)]
 else
 if 129 = 129 ∧ 0 ≤ (v1.getD 2 d0).ii ∧ (v1.getD 2 d0).ii < (((v1.getD 0 d0).ll).length : Int) then
 (r_laws_markText [.i (IntKind.i64.wrap ((v1.getD 1 d0).ii + (1 : Int)))]).bindR fun r3 =>
 if (!(((((v1.getD 0 d0).ll).getD ((v1.getD 2 d0).ii).toNat []).getD 1 d0).ss == (r3.getD 0 d0).ss)) = true then
 .ret [.i (-1 : Int)]
 else
 if 129 = 129 ∧ 0 ≤ (v1.getD 2 d0).ii ∧ (v1.getD 2 d0).ii < (((v1.getD 0 d0).ll).length : Int) then
 (r_laws_heldDirS [.sl (((((v1.getD 0 d0).ll).getD ((v1.getD 2 d0).ii).toNat []).getD 2 d0).ll), .i (IntKind.i64.wrap ((IntKind.i64.wrap ((v1.getD 1 d0).ii + (1 : Int))) + (1 : Int)))]).bindR fun r4 =>
 if (decide ((r4.getD 0 d0).ii < (0 : Int))) = true then
 .ret [.i (-1 : Int)]
 else
 .norm [.sl ((v1.getD 0 d0).ll), .i ((r4.getD 0 d0).ii), .i ((v1.getD 2 d0).ii)]
 else
 .fail
 else
 .fail
 else
 .fail) 1 fun v5 =>
 .norm [.sl ((v5.getD 0 d0).ll), .i ((v5.getD 1 d0).ii), .i (IntKind.i64.wrap ((v5.getD 2 d0).ii + (1 : Int)))]
 else
 .ex 0 [.i ((v1.getD 1 d0).ii)]
noncomputable def E_laws_heldEnumDefS (a : List DC) : Out :=
 Out.andThenB (Loop E_laws_heldEnumDefSL1 [.sl ((a.getD 0 d0).ll), .i ((a.getD 1 d0).ii), .i (0 : Int)]) 0 fun v6 =>
 .ret [.i ((v6.getD 0 d0).ii)]
theorem eq_laws_heldEnumDefS a : r_laws_heldEnumDefS a = E_laws_heldEnumDefS a := (Run_eq cfg 60 _ a).trans (by kernel_rfl)
noncomputable def E_laws_heldRootSL1 : List DC → Out := fun v1 =>
 if (decide ((v1.getD 2 d0).ii < (((v1.getD 0 d0).ll).length : Int))) = true then
 Out.andThenB (if 131 = 131 ∧ 0 ≤ (v1.getD 2 d0).ii ∧ (v1.getD 2 d0).ii < (((v1.getD 0 d0).ll).length : Int) then
 if (((((v1.getD 0 d0).ll).getD ((v1.getD 2 d0).ii).toNat []).getD 0 d0).ii != (v1.getD 1 d0).ii) = true then
 .ret [.i (-1 : Int)]
 else
 if 131 = 131 ∧ 0 ≤ (v1.getD 2 d0).ii ∧ (v1.getD 2 d0).ii < (((v1.getD 0 d0).ll).length : Int) then
 (r_laws_markText [.i (IntKind.i64.wrap ((v1.getD 1 d0).ii + (1 : Int)))]).bindR fun r2 =>
 if (!(((((v1.getD 0 d0).ll).getD ((v1.getD 2 d0).ii).toNat []).getD 1 d0).ss == (r2.getD 0 d0).ss)) = true then
 .ret [.i (-1 : Int)]
 else
 .norm [.sl ((v1.getD 0 d0).ll), .i (IntKind.i64.wrap ((IntKind.i64.wrap ((v1.getD 1 d0).ii + (1 : Int))) + (1 : Int))), .i ((v1.getD 2 d0).ii)]
 else
 .fail
 else
 .fail) 1 fun v3 =>
 .norm [.sl ((v3.getD 0 d0).ll), .i ((v3.getD 1 d0).ii), .i (IntKind.i64.wrap ((v3.getD 2 d0).ii + (1 : Int)))]
 else
 .ex 0 [.i ((v1.getD 1 d0).ii)]
noncomputable def E_laws_heldRootS (a : List DC) : Out :=
 Out.andThenB (Loop E_laws_heldRootSL1 [.sl ((a.getD 0 d0).ll), .i ((a.getD 1 d0).ii), .i (0 : Int)]) 0 fun v4 =>
 .ret [.i ((v4.getD 0 d0).ii)]
theorem eq_laws_heldRootS a : r_laws_heldRootS a = E_laws_heldRootS a := (Run_eq cfg 61 _ a).trans (by kernel_rfl)
noncomputable def E_laws_heldDirSL1 : List DC → Out := fun v1 =>
 if (decide ((v1.getD 2 d0).ii < (((v1.getD 0 d0).ll).length : Int))) = true then
 Out.andThenB (if 122 = 122 ∧ 0 ≤ (v1.getD 2 d0).ii ∧ (v1.getD 2 d0).ii < (((v1.getD 0 d0).ll).length : Int) then
 (r_laws_markText [.i ((v1.getD 1 d0).ii)]).bindR fun r2 =>
 if (!(((((v1.getD 0 d0).ll).getD ((v1.getD 2 d0).ii).toNat []).getD 0 d0).ss == (r2.getD 0 d0).ss)) = true then
 .ret [.i (-1 : Int)]
 else
 if 122 = 122 ∧ 0 ≤ (v1.getD 2 d0).ii ∧ (v1.getD 2 d0).ii < (((v1.getD 0 d0).ll).length : Int) then
 (r_laws_heldArgS [.sl (((((v1.getD 0 d0).ll).getD ((v1.getD 2 d0).ii).toNat []).getD 1 d0).ll), .i (IntKind.i64.wrap ((v1.getD 1 d0).ii + (1 : Int)))]).bindR fun r3 =>
 if (decide ((r3.getD 0 d0).ii < (0 : Int))) = true then
 .ret [.i (-1 : Int)]
 else
 .norm [.sl ((v1.getD 0 d0).ll), .i ((r3.getD 0 d0).ii), .i ((v1.getD 2 d0).ii)]
 else
 .fail
 else
 .fail) 1 fun v4 =>
 .norm [.sl ((v4.getD 0 d0).ll), .i ((v4.getD 1 d0).ii), .i (IntKind.i64.wrap ((v4.getD 2 d0).ii + (1 : Int)))]
 else
 .ex 0 [.i ((v1.getD 1 d0).ii)]
noncomputable def E_laws_heldDirS (a : List DC) : Out :=
 Out.andThenB (Loop E_laws_heldDirSL1 [.sl ((a.getD 0 d0).ll), .i ((a.getD 1 d0).ii), .i (0 : Int)]) 0 fun v5 =>
 .ret [.i ((v5.getD 0 d0).ii)]
theorem eq_laws_heldDirS a : r_laws_heldDirS a = E_laws_heldDirS a := (Run_eq cfg 62 _ a).trans (by kernel_rfl)
noncomputable def E_laws_eqStringSL1 : List DC → Out := fun v1 =>
 if (decide ((v1.getD 2 d0).ii < (((v1.getD 0 d0).ll).length : Int))) = true then
 Out.andThenB (if 9 = 9 ∧ 0 ≤ (v1.getD 2 d0).ii ∧ (v1.getD 2 d0).ii < (((v1.getD 0 d0).ll).length : Int) then
 if 9 = 9 ∧ 0 ≤ (v1.getD 2 d0).ii ∧ (v1.getD 2 d0).ii < (((v1.getD 1 d0).ll).length : Int) then
 if (!(((((v1.getD 0 d0).ll).getD ((v1.getD 2 d0).ii).toNat []).getD 0 d0).ss == ((((v1.getD 1 d0).ll).getD ((v1.getD 2 d0).ii).toNat []).getD 0 d0).ss)) = true then
 .ret [.b false]
 else
 .norm [.sl ((v1.getD 0 d0).ll), .sl ((v1.getD 1 d0).ll), .i ((v1.getD 2 d0).ii)]
 else
 .fail
 else
 .fail) 1 fun v2 =>
 .norm [.sl ((v2.getD 0 d0).ll), .sl ((v2.getD 1 d0).ll), .i (IntKind.i64.wrap ((v2.getD 2 d0).ii + (1 : Int)))]
 else
 .ex 0 []
noncomputable def E_laws_eqStringS (a : List DC) : Out :=
 if ((((a.getD 0 d0).ll).length : Int) != (((a.getD 1 d0).ll).length : Int)) = true then
 .ret [.b false]
 else
 Out.andThenB (Loop E_laws_eqStringSL1 [.sl ((a.getD 0 d0).ll), .sl ((a.getD 1 d0).ll), .i (0 : Int)]) 0 fun v3 =>
 .ret [.b true]
theorem eq_laws_eqStringS a : r_laws_eqStringS a = E_laws_eqStringS a := (Run_eq cfg 11 _ a).trans (by kernel_rfl)
noncomputable def E_laws_eqFieldDefSL1 : List DC → Out := fun v1 =>
 if (decide ((v1.getD 2 d0).ii < (((v1.getD 0 d0).ll).length : Int))) = true then
 Out.andThenB (if 127 = 127 ∧ 0 ≤ (v1.getD 2 d0).ii ∧ (v1.getD 2 d0).ii < (((v1.getD 0 d0).ll).length : Int) then
 if 127 = 127 ∧ 0 ≤ (v1.getD 2 d0).ii ∧ (v1.getD 2 d0).ii < (((v1.getD 1 d0).ll).length : Int) then
 (r_laws_eqFieldDef [.s (((((v1.getD 0 d0).ll).getD ((v1.getD 2 d0).ii).toNat []).getD 0 d0).ss), .s (((((v1.getD 0 d0).ll).getD ((v1.getD 2 d0).ii).toNat []).getD 1 d0).ss), .sl (((((v1.getD 0 d0).ll).getD ((v1.getD 2 d0).ii).toNat []).getD 2 d0).ll), .s (((((v1.getD 0 d0).ll).getD ((v1.getD 2 d0).ii).toNat []).getD 3 d0).ss), .s (((((v1.getD 0 d0).ll).getD ((v1.getD 2 d0).ii).toNat []).getD 4 d0).ss), .sl (((((v1.getD 0 d0).ll).getD ((v1.getD 2 d0).ii).toNat []).getD 5 d0).ll), .s (((((v1.getD 1 d0).ll).getD ((v1.getD 2 d0).ii).toNat []).getD 0 d0).ss), .s (((((v1.getD 1 d0).ll).getD ((v1.getD 2 d0).ii).toNat []).getD 1 d0).ss), .sl (((((v1.getD 1 d0).ll).getD ((v1.getD 2 d0).ii).toNat []).getD 2 d0).ll), .s (((((v1.getD 1 d0).ll).getD ((v1.getD 2 d0).ii).toNat []).getD 3 d0).ss), .s (((((v1.getD 1 d0).ll).getD ((v1.getD 2 d0).ii).toNat []).getD 4 d0).ss), .sl (((((v1.getD 1 d0).ll).getD ((v1.getD 2 d0).ii).toNat []).getD 5 d0).ll)]).bindR fun r2 =>
 if (!((r2.getD 0 d0).bb)) = true then
 .ret [.b false]
 else
 .norm [.sl ((v1.getD 0 d0).ll), .sl ((v1.getD 1 d0).ll), .i ((v1.getD 2 d0).ii)]
 else
 .fail
 else
 .fail) 1 fun v3 =>
 .norm [.sl ((v3.getD 0 d0).ll), .sl ((v3.getD 1 d0).ll), .i (IntKind.i64.wrap ((v3.getD 2 d0).ii + (1 : Int)))]
 else
 .ex 0 []
noncomputable def E_laws_eqFieldDefS (a : List DC) : Out :=
 if ((((a.getD 0 d0).ll).length : Int) != (((a.getD 1 d0).ll).length : Int)) = true then
 .ret [.b false]
 else
 Out.andThenB (Loop E_laws_eqFieldDefSL1 [.sl ((a.getD 0 d0).ll), .sl ((a.getD 1 d0).ll), .i (0 : Int)]) 0 fun v4 =>
 .ret [.b true]
theorem eq_laws_eqFieldDefS a : r_laws_eqFieldDefS a = E_laws_eqFieldDefS a := (Run_eq cfg 73 _ a).trans (by kernel_rfl)
noncomputable def E_laws_eqInDefSL1 : List DC → Out := fun v1 =>
 if (decide ((v1.getD 2 d0).ii < (((v1.getD 0 d0).ll).length : Int))) = true then
 Out.andThenB (if 83 = 83 ∧ 0 ≤ (v1.getD 2 d0).ii ∧ (v1.getD 2 d0).ii < (((v1.getD 0 d0).ll).length : Int) then
 if 83 = 83 ∧ 0 ≤ (v1.getD 2 d0).ii ∧ (v1.getD 2 d0).ii < (((v1.getD 1 d0).ll).length : Int) then
 (r_laws_eqInDef [.s (((((v1.getD 0 d0).ll).getD ((v1.getD 2 d0).ii).toNat []).getD 0 d0).ss), .s (((((v1.getD 0 d0).ll).getD ((v1.getD 2 d0).ii).toNat []).getD 1 d0).ss), .s (((((v1.getD 0 d0).ll).getD ((v1.getD 2 d0).ii).toNat []).getD 2 d0).ss), .s (((((v1.getD 0 d0).ll).getD ((v1.getD 2 d0).ii).toNat []).getD 3 d0).ss), .b (((((v1.getD 0 d0).ll).getD ((v1.getD 2 d0).ii).toNat []).getD 4 d0).bb), .i (((((v1.getD 0 d0).ll).getD ((v1.getD 2 d0).ii).toNat []).getD 5 d0).ii), .s (((((v1.getD 0 d0).ll).getD ((v1.getD 2 d0).ii).toNat []).getD 6 d0).ss), .sl (((((v1.getD 0 d0).ll).getD ((v1.getD 2 d0).ii).toNat []).getD 7 d0).ll), .sl (((((v1.getD 0 d0).ll).getD ((v1.getD 2 d0).ii).toNat []).getD 8 d0).ll), .sl (((((v1.getD 0 d0).ll).getD ((v1.getD 2 d0).ii).toNat []).getD 9 d0).ll), .s (((((v1.getD 1 d0).ll).getD ((v1.getD 2 d0).ii).toNat []).getD 0 d0).ss), .s (((((v1.getD 1 d0).ll).getD ((v1.getD 2 d0).ii).toNat []).getD 1 d0).ss), .s (((((v1.getD 1 d0).ll).getD ((v1.getD 2 d0).ii).toNat []).getD 2 d0).ss), .s (((((v1.getD 1 d0).ll).getD ((v1.getD 2 d0).ii).toNat []).getD 3 d0).ss), .b (((((v1.getD 1 d0).ll).getD ((v1.getD 2 d0).ii).toNat []).getD 4 d0).bb), .i (((((v1.getD 1 d0).ll).getD ((v1.getD 2 d0).ii).toNat []).getD 5 d0).ii), .s (((((v1.getD 1 d0).ll).getD ((v1.getD 2 d0).ii).toNat []).getD 6 d0).ss), .sl (((((v1.getD 1 d0).ll).getD ((v1.getD 2 d0).ii).toNat []).getD 7 d0).ll), .sl (((((v1.getD 1 d0).ll).getD ((v1.getD 2 d0).ii).toNat []).getD 8 d0).ll), .sl (((((v1.getD 1 d0).ll).getD ((v1.getD 2 d0).ii).toNat []).getD 9 d0).ll)]).bindR fun r2 =>
 if (!((r2.getD 0 d0).bb)) = true then
 .ret [.b false]
 else
 .norm [.sl ((v1.getD 0 d0).ll), .sl ((v1.getD 1 d0).ll), .i ((v1.getD 2 d0).ii)]
 else
 .fail
 else
 .fail) 1 fun v3 =>
 .norm [.sl ((v3.getD 0 d0).ll), .sl ((v3.getD 1 d0).ll), .i (IntKind.i64.wrap ((v3.getD 2 d0).ii + (1 : Int)))]
 else
 .ex 0 []
noncomputable def E_laws_eqInDefS (a : List DC) : Out :=
 if ((((a.getD 0 d0).ll).length : Int) != (((a.getD 1 d0).ll).length : Int)) = true then
 .ret [.b false]
 else
 Out.andThenB (Loop E_laws_eqInDefSL1 [.sl ((a.getD 0 d0).ll), .sl ((a.getD 1 d0).ll), .i (0 : Int)]) 0 fun v4 =>
 .ret [.b true]
theorem eq_laws_eqInDefS a : r_laws_eqInDefS a = E_laws_eqInDefS a := (Run_eq cfg 12 _ a).trans (by kernel_rfl)
noncomputable def E_laws_eqEnumDefSL1 : List DC → Out := fun v1 =>
 if (decide ((v1.getD 2 d0).ii < (((v1.getD 0 d0).ll).length : Int))) = true then
 Out.andThenB (if 129 = 129 ∧ 0 ≤ (v1.getD 2 d0).ii ∧ (v1.getD 2 d0).ii < (((v1.getD 0 d0).ll).length : Int) then
 if 129 = 129 ∧ 0 ≤ (v1.getD 2 d0).ii ∧ (v1.getD 2 d0).ii < (((v1.getD 1 d0).ll).length : Int) then
 (r_laws_eqEnumDef [.s (((((v1.getD 0 d0).ll).getD ((v1.getD 2 d0).ii).toNat []).getD 0 d0).ss), .s (((((v1.getD 0 d0).ll).getD ((v1.getD 2 d0).ii).toNat []).getD 1 d0).ss), .sl (((((v1.getD 0 d0).ll).getD ((v1.getD 2 d0).ii).toNat []).getD 2 d0).ll), .s (((((v1.getD 1 d0).ll).getD ((v1.getD 2 d0).ii).toNat []).getD 0 d0).ss), .s (((((v1.getD 1 d0).ll).getD ((v1.getD 2 d0).ii).toNat []).getD 1 d0).ss), .sl (((((v1.getD 1 d0).ll).getD ((v1.getD 2 d0).ii).toNat []).getD 2 d0).ll)]).bindR fun r2 =>
 if (!((r2.getD 0 d0).bb)) = true then
 .ret [.b false]
 else
 .norm [.sl ((v1.getD 0 d0).ll), .sl ((v1.getD 1 d0).ll), .i ((v1.getD 2 d0).ii)]
 else
 .fail
 else
 .fail) 1 fun v3 =>
 .norm [.sl ((v3.getD 0 d0).ll), .sl ((v3.getD 1 d0).ll), .i (IntKind.i64.wrap ((v3.getD 2 d0).ii + (1 : Int)))]
 else
 .ex 0 []
noncomputable def E_laws_eqEnumDefS (a : List DC) : Out :=
 if ((((a.getD 0 d0).ll).length : Int) != (((a.getD 1 d0).ll).length : Int)) = true then
 .ret [.b false]
 else
 Out.andThenB (Loop E_laws_eqEnumDefSL1 [.sl ((a.getD 0 d0).ll), .sl ((a.getD 1 d0).ll), .i (0 : Int)]) 0 fun v4 =>
 .ret [.b true]
theorem eq_laws_eqEnumDefS a : r_laws_eqEnumDefS a = E_laws_eqEnumDefS a := (Run_eq cfg 74 _ a).trans (by kernel_rfl)
noncomputable def E_laws_eqRootSL1 : List DC → Out := fun v1 =>
 if (decide ((v1.getD 2 d0).ii < (((v1.getD 0 d0).ll).length : Int))) = true then
 Out.andThenB (if 131 = 131 ∧ 0 ≤ (v1.getD 2 d0).ii ∧ (v1.getD 2 d0).ii < (((v1.getD 0 d0).ll).length : Int) then
 if 131 = 131 ∧ 0 ≤ (v1.getD 2 d0).ii ∧ (v1.getD 2 d0).ii < (((v1.getD 1 d0).ll).length : Int) then
 (r_laws_eqRoot [.i (((((v1.getD 0 d0).ll).getD ((v1.getD 2 d0).ii).toNat []).getD 0 d0).ii), .s (((((v1.getD 0 d0).ll).getD ((v1.getD 2 d0).ii).toNat []).getD 1 d0).ss), .i (((((v1.getD 1 d0).ll).getD ((v1.getD 2 d0).ii).toNat []).getD 0 d0).ii), .s (((((v1.getD 1 d0).ll).getD ((v1.getD 2 d0).ii).toNat []).getD 1 d0).ss)]).bindR fun r2 =>
 if (!((r2.getD 0 d0).bb)) = true then
 .ret [.b false]
 else
 .norm [.sl ((v1.getD 0 d0).ll), .sl ((v1.getD 1 d0).ll), .i ((v1.getD 2 d0).ii)]
 else
 .fail
 else
 .fail) 1 fun v3 =>
 .norm [.sl ((v3.getD 0 d0).ll), .sl ((v3.getD 1 d0).ll), .i (IntKind.i64.wrap ((v3.getD 2 d0).ii + (1 : Int)))]
 else
 .ex 0 []
noncomputable def E_laws_eqRootS (a : List DC) : Out :=
 if ((((a.getD 0 d0).ll).length : Int) != (((a.getD 1 d0).ll).length : Int)) = true then
 .ret [.b false]
 else
 Out.andThenB (Loop E_laws_eqRootSL1 [.sl ((a.getD 0 d0).ll), .sl ((a.getD 1 d0).ll), .i (0 : Int)]) 0 fun v4 =>
 .ret [.b true]
theorem eq_laws_eqRootS a : r_laws_eqRootS a = E_laws_eqRootS a := (Run_eq cfg 75 _ a).trans (by kernel_rfl)
noncomputable def E_laws_eqDirSL1 : List DC → Out := fun v1 =>
 if (decide ((v1.getD 2 d0).ii < (((v1.getD 0 d0).ll).length : Int))) = true then
 Out.andThenB (if 122 = 122 ∧ 0 ≤ (v1.getD 2 d0).ii ∧ (v1.getD 2 d0).ii < (((v1.getD 0 d0).ll).length : Int) then
 if 122 = 122 ∧ 0 ≤ (v1.getD 2 d0).ii ∧ (v1.getD 2 d0).ii < (((v1.getD 1 d0).ll).length : Int) then
 (r_laws_eqDir [.s (((((v1.getD 0 d0).ll).getD ((v1.getD 2 d0).ii).toNat []).getD 0 d0).ss), .sl (((((v1.getD 0 d0).ll).getD ((v1.getD 2 d0).ii).toNat []).getD 1 d0).ll), .s (((((v1.getD 1 d0).ll).getD ((v1.getD 2 d0).ii).toNat []).getD 0 d0).ss), .sl (((((v1.getD 1 d0).ll).getD ((v1.getD 2 d0).ii).toNat []).getD 1 d0).ll)]).bindR fun r2 =>
 if (!((r2.getD 0 d0).bb)) = true then
 .ret [.b false]
 else
 .norm [.sl ((v1.getD 0 d0).ll), .sl ((v1.getD 1 d0).ll), .i ((v1.getD 2 d0).ii)]
 else
 .fail
 else
 .fail) 1 fun v3 =>
 .norm [.sl ((v3.getD 0 d0).ll), .sl ((v3.getD 1 d0).ll), .i (IntKind.i64.wrap ((v3.getD 2 d0).ii + (1 : Int)))]
 else
 .ex 0 []
noncomputable def E_laws_eqDirS (a : List DC) : Out :=
 if ((((a.getD 0 d0).ll).length : Int) != (((a.getD 1 d0).ll).length : Int)) = true then
 .ret [.b false]
 else
 Out.andThenB (Loop E_laws_eqDirSL1 [.sl ((a.getD 0 d0).ll), .sl ((a.getD 1 d0).ll), .i (0 : Int)]) 0 fun v4 =>
 .ret [.b true]
theorem eq_laws_eqDirS a : r_laws_eqDirS a = E_laws_eqDirS a := (Run_eq cfg 76 _ a).trans (by kernel_rfl)
noncomputable def E_laws_heldValueSL1 : List DC → Out := fun v1 =>
 if (decide ((v1.getD 2 d0).ii < (((v1.getD 0 d0).ll).length : Int))) = true then
 Out.andThenB (if 81 = 81 ∧ 0 ≤ (v1.getD 2 d0).ii ∧ (v1.getD 2 d0).ii < (((v1.getD 0 d0).ll).length : Int) then
 if (((((v1.getD 0 d0).ll).getD ((v1.getD 2 d0).ii).toNat []).getD 0 d0).ii != (v1.getD 1 d0).ii) = true then
 .ret [.i (-1 : Int)]
 else
 if 81 = 81 ∧ 0 ≤ (v1.getD 2 d0).ii ∧ (v1.getD 2 d0).ii < (((v1.getD 0 d0).ll).length : Int) then
 (r_laws_markText [.i (IntKind.i64.wrap ((v1.getD 1 d0).ii + (1 : Int)))]).bindR fun r2 =>
 if (!(((((v1.getD 0 d0).ll).getD ((v1.getD 2 d0).ii).toNat []).getD 1 d0).ss == (r2.getD 0 d0).ss)) = true then
 .ret [.i (-1 : Int)]
 else
 if 81 = 81 ∧ 0 ≤ (v1.getD 2 d0).ii ∧ (v1.getD 2 d0).ii < (((v1.getD 0 d0).ll).length : Int) then
 (r_laws_heldValueS [.sl (((((v1.getD 0 d0).ll).getD ((v1.getD 2 d0).ii).toNat []).getD 2 d0).ll), .i (IntKind.i64.wrap ((IntKind.i64.wrap ((v1.getD 1 d0).ii + (1 : Int))) + (1 : Int)))]).bindR fun r3 =>
 if (decide ((r3.getD 0 d0).ii < (0 : Int))) = true then
 .ret [.i (-1 : Int)]
 else
 if 81 = 81 ∧ 0 ≤ (v1.getD 2 d0).ii ∧ (v1.getD 2 d0).ii < (((v1.getD 0 d0).ll).length : Int) then
 (r_laws_heldStringS [.sl (((((v1.getD 0 d0).ll).getD ((v1.getD 2 d0).ii).toNat []).getD 3 d0).ll), .i ((r3.getD 0 d0).ii)]).bindR fun r4 =>
 if (decide ((r4.getD 0 d0).ii < (0 : Int))) = true then
 .ret [.i (-1 : Int)]
 else
 .norm [.sl ((v1.getD 0 d0).ll), .i ((r4.getD 0 d0).ii), .i ((v1.getD 2 d0).ii)]
 else
 .fail
 else
 .fail
 else
 .fail
 else
 .fail) 1 fun v5 =>
 .norm [.sl ((v5.getD 0 d0).ll), .i ((v5.getD 1 d0).ii), .i (IntKind.i64.wrap ((v5.getD 2 d0).ii + (1 : Int)))]
 else
 .ex 0 [.i ((v1.getD 1 d0).ii)]
noncomputable def E_laws_heldValueS (a : List DC) : Out :=
 Out.andThenB (Loop E_laws_heldValueSL1 [.sl ((a.getD 0 d0).ll), .i ((a.getD 1 d0).ii), .i (0 : Int)]) 0 fun v6 =>
 .ret [.i ((v6.getD 0 d0).ii)]
theorem eq_laws_heldValueS a : r_laws_heldValueS a = E_laws_heldValueS a := (Run_eq cfg 88 _ a).trans (by kernel_rfl)
noncomputable def E_laws_heldArgSL1 : List DC → Out := fun v1 =>
 if (decide ((v1.getD 2 d0).ii < (((v1.getD 0 d0).ll).length : Int))) = true then
 Out.andThenB (if 161 = 161 ∧ 0 ≤ (v1.getD 2 d0).ii ∧ (v1.getD 2 d0).ii < (((v1.getD 0 d0).ll).length : Int) then
 (r_laws_markText [.i ((v1.getD 1 d0).ii)]).bindR fun r2 =>
 if (!(((((v1.getD 0 d0).ll).getD ((v1.getD 2 d0).ii).toNat []).getD 0 d0).ss == (r2.getD 0 d0).ss)) = true then
 .ret [.i (-1 : Int)]
 else
 if 161 = 161 ∧ 0 ≤ (v1.getD 2 d0).ii ∧ (v1.getD 2 d0).ii < (((v1.getD 0 d0).ll).length : Int) then
 if (((((v1.getD 0 d0).ll).getD ((v1.getD 2 d0).ii).toNat []).getD 1 d0).ii != (IntKind.i64.wrap ((v1.getD 1 d0).ii + (1 : Int)))) = true then
 .ret [.i (-1 : Int)]
 else
 if 161 = 161 ∧ 0 ≤ (v1.getD 2 d0).ii ∧ (v1.getD 2 d0).ii < (((v1.getD 0 d0).ll).length : Int) then
 (r_laws_markText [.i (IntKind.i64.wrap ((IntKind.i64.wrap ((v1.getD 1 d0).ii + (1 : Int))) + (1 : Int)))]).bindR fun r3 =>
 if (!(((((v1.getD 0 d0).ll).getD ((v1.getD 2 d0).ii).toNat []).getD 2 d0).ss == (r3.getD 0 d0).ss)) = true then
 .ret [.i (-1 : Int)]
 else
 if 161 = 161 ∧ 0 ≤ (v1.getD 2 d0).ii ∧ (v1.getD 2 d0).ii < (((v1.getD 0 d0).ll).length : Int) then
 (r_laws_heldValueS [.sl (((((v1.getD 0 d0).ll).getD ((v1.getD 2 d0).ii).toNat []).getD 3 d0).ll), .i (IntKind.i64.wrap ((IntKind.i64.wrap ((IntKind.i64.wrap ((v1.getD 1 d0).ii + (1 : Int))) + (1 : Int))) + (1 : Int)))]).bindR fun r4 =>
 if (decide ((r4.getD 0 d0).ii < (0 : Int))) = true then
 .ret [.i (-1 : Int)]
 else
 if 161 = 161 ∧ 0 ≤ (v1.getD 2 d0).ii ∧ (v1.getD 2 d0).ii < (((v1.getD 0 d0).ll).length : Int) then
 (r_laws_heldStringS [.sl (((((v1.getD 0 d0).ll).getD ((v1.getD 2 d0).ii).toNat []).getD 4 d0).ll), .i ((r4.getD 0 d0).ii)]).bindR fun r5 =>
 if (decide ((r5.getD 0 d0).ii < (0 : Int))) = true then
 .ret [.i (-1 : Int)]
 else
 .norm [.sl ((v1.getD 0 d0).ll), .i ((r5.getD 0 d0).ii), .i ((v1.getD 2 d0).ii)]
 else
 .fail
 else
 .fail
 else
 .fail
 else
 .fail
 else
 .fail) 1 fun v6 =>
 .norm [.sl ((v6.getD 0 d0).ll), .i ((v6.getD 1 d0).ii), .i (IntKind.i64.wrap ((v6.getD 2 d0).ii + (1 : Int)))]
 else
 .ex 0 [.i ((v1.getD 1 d0).ii)]
noncomputable def E_laws_heldArgS (a : List DC) : Out :=
 Out.andThenB (Loop E_laws_heldArgSL1 [.sl ((a.getD 0 d0).ll), .i ((a.getD 1 d0).ii), .i (0 : Int)]) 0 fun v7 =>
 .ret [.i ((v7.getD 0 d0).ii)]
theorem eq_laws_heldArgS a : r_laws_heldArgS a = E_laws_heldArgS a := (Run_eq cfg 89 _ a).trans (by kernel_rfl)
noncomputable def E_laws_eqFieldDef (a : List DC) : Out :=
 if (!((a.getD 0 d0).ss == (a.getD 6 d0).ss)) = true then
 .ret [.b false]
 else
 if (!((a.getD 1 d0).ss == (a.getD 7 d0).ss)) = true then
 .ret [.b false]
 else
 (r_laws_eqInDefS [.sl ((a.getD 2 d0).ll), .sl ((a.getD 8 d0).ll)]).bindR fun r1 =>
 if (!((r1.getD 0 d0).bb)) = true then
 .ret [.b false]
 else
 (r_laws_eqType [.s ((a.getD 3 d0).ss), .s ((a.getD 4 d0).ss), .s ((a.getD 9 d0).ss), .s ((a.getD 10 d0).ss)]).bindR fun r2 =>
 if (!((r2.getD 0 d0).bb)) = true then
 .ret [.b false]
 else
 (r_laws_eqDirS [.sl ((a.getD 5 d0).ll), .sl ((a.getD 11 d0).ll)]).bindR fun r3 =>
 if (!((r3.getD 0 d0).bb)) = true then
 .ret [.b false]
 else
 .ret [.b true]
theorem eq_laws_eqFieldDef a : r_laws_eqFieldDef a = E_laws_eqFieldDef a := (Run_eq cfg 107 _ a).trans (by kernel_rfl)
noncomputable def E_laws_eqInDef (a : List DC) : Out :=
 if (!((a.getD 0 d0).ss == (a.getD 10 d0).ss)) = true then
 .ret [.b false]
 else
 if (!((a.getD 1 d0).ss == (a.getD 11 d0).ss)) = true then
 .ret [.b false]
 else
 (r_laws_eqType [.s ((a.getD 2 d0).ss), .s ((a.getD 3 d0).ss), .s ((a.getD 12 d0).ss), .s ((a.getD 13 d0).ss)]).bindR fun r1 =>
 if (!((r1.getD 0 d0).bb)) = true then
 .ret [.b false]
 else
 if (!((a.getD 4 d0).bb == (a.getD 14 d0).bb)) = true then
 .ret [.b false]
 else
 (r_laws_eqValue [.i ((a.getD 5 d0).ii), .s ((a.getD 6 d0).ss), .sl ((a.getD 7 d0).ll), .sl ((a.getD 8 d0).ll), .i ((a.getD 15 d0).ii), .s ((a.getD 16 d0).ss), .sl ((a.getD 17 d0).ll), .sl ((a.getD 18 d0).ll)]).bindR fun r2 =>
 if (!((r2.getD 0 d0).bb)) = true then
 .ret [.b false]
 else
 (r_laws_eqDirS [.sl ((a.getD 9 d0).ll), .sl ((a.getD 19 d0).ll)]).bindR fun r3 =>
 if (!((r3.getD 0 d0).bb)) = true then
 .ret [.b false]
 else
 .ret [.b true]
theorem eq_laws_eqInDef a : r_laws_eqInDef a = E_laws_eqInDef a := (Run_eq cfg 39 _ a).trans (by kernel_rfl)
noncomputable def E_laws_eqEnumDef (a : List DC) : Out :=
 if (!((a.getD 0 d0).ss == (a.getD 3 d0).ss)) = true then
 .ret [.b false]
 else
 if (!((a.getD 1 d0).ss == (a.getD 4 d0).ss)) = true then
 .ret [.b false]
 else
 (r_laws_eqDirS [.sl ((a.getD 2 d0).ll), .sl ((a.getD 5 d0).ll)]).bindR fun r1 =>
 if (!((r1.getD 0 d0).bb)) = true then
 .ret [.b false]
 else
 .ret [.b true]
theorem eq_laws_eqEnumDef a : r_laws_eqEnumDef a = E_laws_eqEnumDef a := (Run_eq cfg 108 _ a).trans (by kernel_rfl)
noncomputable def E_laws_eqRoot (a : List DC) : Out :=
 if ((a.getD 0 d0).ii != (a.getD 2 d0).ii) = true then
 .ret [.b false]
 else
 if (!((a.getD 1 d0).ss == (a.getD 3 d0).ss)) = true then
 .ret [.b false]
 else
 .ret [.b true]
theorem eq_laws_eqRoot a : r_laws_eqRoot a = E_laws_eqRoot a := (Run_eq cfg 109 _ a).trans (by kernel_rfl)
noncomputable def E_laws_eqDir (a : List DC) : Out :=
 if (!((a.getD 0 d0).ss == (a.getD 2 d0).ss)) = true then
 .ret [.b false]
 else
 (r_laws_eqArgS [.sl ((a.getD 1 d0).ll), .sl ((a.getD 3 d0).ll)]).bindR fun r1 =>
 if (!((r1.getD 0 d0).bb)) = true then
 .ret [.b false]
 else
 .ret [.b true]
theorem eq_laws_eqDir a : r_laws_eqDir a = E_laws_eqDir a := (Run_eq cfg 110 _ a).trans (by kernel_rfl)
noncomputable def E_laws_eqType (a : List DC) : Out :=
 if (!((a.getD 0 d0).ss == (a.getD 2 d0).ss)) = true then
 .ret [.b false]
 else
 if (!((a.getD 1 d0).ss == (a.getD 3 d0).ss)) = true then
 .ret [.b false]
 else
 .ret [.b true]
theorem eq_laws_eqType a : r_laws_eqType a = E_laws_eqType a := (Run_eq cfg 82 _ a).trans (by kernel_rfl)
noncomputable def E_laws_eqValue (a : List DC) : Out :=
 if ((a.getD 0 d0).ii != (a.getD 4 d0).ii) = true then
 .ret [.b false]
 else
 if (!((a.getD 1 d0).ss == (a.getD 5 d0).ss)) = true then
 .ret [.b false]
 else
 (r_laws_eqValueS [.sl ((a.getD 2 d0).ll), .sl ((a.getD 6 d0).ll)]).bindR fun r1 =>
 if (!((r1.getD 0 d0).bb)) = true then
 .ret [.b false]
 else
 (r_laws_eqStringS [.sl ((a.getD 3 d0).ll), .sl ((a.getD 7 d0).ll)]).bindR fun r2 =>
 if (!((r2.getD 0 d0).bb)) = true then
 .ret [.b false]
 else
 .ret [.b true]
theorem eq_laws_eqValue a : r_laws_eqValue a = E_laws_eqValue a := (Run_eq cfg 83 _ a).trans (by kernel_rfl)
noncomputable def E_laws_eqArgSL1 : List DC → Out := fun v1 =>
 if (decide ((v1.getD 2 d0).ii < (((v1.getD 0 d0).ll).length : Int))) = true then
 Out.andThenB (if 161 = 161 ∧ 0 ≤ (v1.getD 2 d0).ii ∧ (v1.getD 2 d0).ii < (((v1.getD 0 d0).ll).length : Int) then
 if 161 = 161 ∧ 0 ≤ (v1.getD 2 d0).ii ∧ (v1.getD 2 d0).ii < (((v1.getD 1 d0).ll).length : Int) then
 (r_laws_eqArg [.s (((((v1.getD 0 d0).ll).getD ((v1.getD 2 d0).ii).toNat []).getD 0 d0).ss), .i (((((v1.getD 0 d0).ll).getD ((v1.getD 2 d0).ii).toNat []).getD 1 d0).ii), .s (((((v1.getD 0 d0).ll).getD ((v1.getD 2 d0).ii).toNat []).getD 2 d0).ss), .sl (((((v1.getD 0 d0).ll).getD ((v1.getD 2 d0).ii).toNat []).getD 3 d0).ll), .sl (((((v1.getD 0 d0).ll).getD ((v1.getD 2 d0).ii).toNat []).getD 4 d0).ll), .s (((((v1.getD 1 d0).ll).getD ((v1.getD 2 d0).ii).toNat []).getD 0 d0).ss), .i (((((v1.getD 1 d0).ll).getD ((v1.getD 2 d0).ii).toNat []).getD 1 d0).ii), .s (((((v1.getD 1 d0).ll).getD ((v1.getD 2 d0).ii).toNat []).getD 2 d0).ss), .sl (((((v1.getD 1 d0).ll).getD ((v1.getD 2 d0).ii).toNat []).getD 3 d0).ll), .sl (((((v1.getD 1 d0).ll).getD ((v1.getD 2 d0).ii).toNat []).getD 4 d0).ll)]).bindR fun r2 =>
 if (!((r2.getD 0 d0).bb)) = true then
 .ret [.b false]
 else
 .norm [.sl ((v1.getD 0 d0).ll), .sl ((v1.getD 1 d0).ll), .i ((v1.getD 2 d0).ii)]
 else
 .fail
 else
 .fail) 1 fun v3 =>
 .norm [.sl ((v3.getD 0 d0).ll), .sl ((v3.getD 1 d0).ll), .i (IntKind.i64.wrap ((v3.getD 2 d0).ii + (1 : Int)))]
 else
 .ex 0 []
noncomputable def E_laws_eqArgS (a : List DC) : Out :=
 if ((((a.getD 0 d0).ll).length : Int) != (((a.getD 1 d0).ll).length : Int)) = true then
 .ret [.b false]
 else
 Out.andThenB (Loop E_laws_eqArgSL1 [.sl ((a.getD 0 d0).ll), .sl ((a.getD 1 d0).ll), .i (0 : Int)]) 0 fun v4 =>
 .ret [.b true]
theorem eq_laws_eqArgS a : r_laws_eqArgS a = E_laws_eqArgS a := (Run_eq cfg 121 _ a).trans (by kernel_rfl)
noncomputable def E_laws_eqValueSL1 : List DC → Out := fun v1 =>
 if (decide ((v1.getD 2 d0).ii < (((v1.getD 0 d0).ll).length : Int))) = true then
 Out.andThenB (if 81 = 81 ∧ 0 ≤ (v1.getD 2 d0).ii ∧ (v1.getD 2 d0).ii < (((v1.getD 0 d0).ll).length : Int) then
 if 81 = 81 ∧ 0 ≤ (v1.getD 2 d0).ii ∧ (v1.getD 2 d0).ii < (((v1.getD 1 d0).ll).length : Int) then
 (r_laws_eqValue [.i (((((v1.getD 0 d0).ll).getD ((v1.getD 2 d0).ii).toNat []).getD 0 d0).ii), .s (((((v1.getD 0 d0).ll).getD ((v1.getD 2 d0).ii).toNat []).getD 1 d0).ss), .sl (((((v1.getD 0 d0).ll).getD ((v1.getD 2 d0).ii).toNat []).getD 2 d0).ll), .sl (((((v1.getD 0 d0).ll).getD ((v1.getD 2 d0).ii).toNat []).getD 3 d0).ll), .i (((((v1.getD 1 d0).ll).getD ((v1.getD 2 d0).ii).toNat []).getD 0 d0).ii), .s (((((v1.getD 1 d0).ll).getD ((v1.getD 2 d0).ii).toNat []).getD 1 d0).ss), .sl (((((v1.getD 1 d0).ll).getD ((v1.getD 2 d0).ii).toNat []).getD 2 d0).ll), .sl (((((v1.getD 1 d0).ll).getD ((v1.getD 2 d0).ii).toNat []).getD 3 d0).ll)]).bindR fun r2 =>
 if (!((r2.getD 0 d0).bb)) = true then
 .ret [.b false]
 else
 .norm [.sl ((v1.getD 0 d0).ll), .sl ((v1.getD 1 d0).ll), .i ((v1.getD 2 d0).ii)]
 else
 .fail
 else
 .fail) 1 fun v3 =>
 .norm [.sl ((v3.getD 0 d0).ll), .sl ((v3.getD 1 d0).ll), .i (IntKind.i64.wrap ((v3.getD 2 d0).ii + (1 : Int)))]
 else
 .ex 0 []
noncomputable def E_laws_eqValueS (a : List DC) : Out :=
 if ((((a.getD 0 d0).ll).length : Int) != (((a.getD 1 d0).ll).length : Int)) = true then
 .ret [.b false]
 else
 Out.andThenB (Loop E_laws_eqValueSL1 [.sl ((a.getD 0 d0).ll), .sl ((a.getD 1 d0).ll), .i (0 : Int)]) 0 fun v4 =>
 .ret [.b true]
theorem eq_laws_eqValueS a : r_laws_eqValueS a = E_laws_eqValueS a := (Run_eq cfg 114 _ a).trans (by kernel_rfl)
noncomputable def E_laws_eqArg (a : List DC) : Out :=
 if (!((a.getD 0 d0).ss == (a.getD 5 d0).ss)) = true then
 .ret [.b false]
 else
 (r_laws_eqValue [.i ((a.getD 1 d0).ii), .s ((a.getD 2 d0).ss), .sl ((a.getD 3 d0).ll), .sl ((a.getD 4 d0).ll), .i ((a.getD 6 d0).ii), .s ((a.getD 7 d0).ss), .sl ((a.getD 8 d0).ll), .sl ((a.getD 9 d0).ll)]).bindR fun r1 =>
 if (!((r1.getD 0 d0).bb)) = true then
 .ret [.b false]
 else
 .ret [.b true]
theorem eq_laws_eqArg a : r_laws_eqArg a = E_laws_eqArg a := (Run_eq cfg 124 _ a).trans (by kernel_rfl)
theorem eqS_String (ns : List (List UInt8)) (hl : ns.length ≤ 1048576) : r_laws_eqStringS [.sl (ns.map S1), .sl (ns.map S1)] = .ret [.b true] := by
  rw [eq_laws_eqStringS]
  simp only [E_laws_eqStringS, List.getD_cons_zero, List.getD_cons_succ, DC.bb_b, DC.ii_i, DC.ss_s, DC.ll_sl]
  refine eqS_all (fun i hi => ?_) ?_
  · rw [List.length_map] at hi
    have hc1 : (i : Int) < (ns.length : Int) := by omega
    simp only [E_laws_eqStringSL1, List.getD_cons_zero, List.getD_cons_succ, DC.bb_b, DC.ii_i, DC.ss_s, DC.ll_sl, Int.toNat_natCast, List.length_map, map_getD hi, S1]
    simp [hi, hc1, wrap_succ hi (show ns.length ≤ 9223372036854775807 by omega)]
  · simp [E_laws_eqStringSL1]
theorem wsum_Value (v : TValue) : wtL (TValue.enc v) = v.text.length + DC.wt (.sl (v.items.map TValue.enc)) + DC.wt (.sl (v.names.map S1)) := by
  simp only [TValue.enc_eq, wtL, DC.wt]
  try omega
theorem eqS_Value' (vs : List TValue) (hs : ∀ v ∈ vs, wtL (TValue.enc v) ≤ 1048576 → r_laws_eqValue [.i v.kind, .s v.text, .sl (v.items.map TValue.enc), .sl (v.names.map S1), .i v.kind, .s v.text, .sl (v.items.map TValue.enc), .sl (v.names.map S1)] = .ret [.b true]) (hw : DC.wt (.sl (vs.map TValue.enc)) ≤ 1048576) : r_laws_eqValueS [.sl (vs.map TValue.enc), .sl (vs.map TValue.enc)] = .ret [.b true] := by
  rw [DC.wt, List.length_map] at hw
  have hl : vs.length ≤ 1048576 := by omega
  rw [eq_laws_eqValueS]
  simp only [E_laws_eqValueS, List.getD_cons_zero, List.getD_cons_succ, DC.bb_b, DC.ii_i, DC.ss_s, DC.ll_sl]
  refine eqS_all (fun i hi => ?_) ?_
  · rw [List.length_map] at hi
    have key := hs vs[i] (List.getElem_mem hi) (by have := wtV_mem (List.mem_map_of_mem (f := TValue.enc) (List.getElem_mem hi)); omega)
    have hc1 : (i : Int) < (vs.length : Int) := by omega
    simp only [E_laws_eqValueSL1, List.getD_cons_zero, List.getD_cons_succ, DC.bb_b, DC.ii_i, DC.ss_s, DC.ll_sl, Int.toNat_natCast, List.length_map, map_getD hi, TValue.enc_eq] at key ⊢
    simp only [key, List.getD_cons_zero, List.getD_cons_succ, DC.bb_b, DC.ii_i, DC.ss_s, DC.ll_sl, Out.bindR_ret]
    simp [hi, hc1, wrap_succ hi (show vs.length ≤ 9223372036854775807 by omega)]
  · simp [E_laws_eqValueSL1]
theorem eq_Value (v : TValue) : wtL (TValue.enc v) ≤ 1048576 → r_laws_eqValue [.i v.kind, .s v.text, .sl (v.items.map TValue.enc), .sl (v.names.map S1), .i v.kind, .s v.text, .sl (v.items.map TValue.enc), .sl (v.names.map S1)] = .ret [.b true] := by
  induction v using TValue.ind with | h v ih =>
  intro hw
  rw [wsum_Value] at hw
  rw [eq_laws_eqValue]
  simp only [E_laws_eqValue, List.getD_cons_zero, List.getD_cons_succ, DC.bb_b, DC.ii_i, DC.ss_s, DC.ll_sl, bne_self_eq_false, beq_self_eq_true, Bool.not_true, Bool.false_eq_true, if_false]
  rw [eqS_Value' v.items (fun x hx => ih x hx) (by omega)]
  simp only [Out.bindR_ret, List.getD_cons_zero, List.getD_cons_succ, DC.bb_b, DC.ii_i, DC.ss_s, DC.ll_sl, bne_self_eq_false, beq_self_eq_true, Bool.not_true, Bool.false_eq_true, if_false]
  rw [eqS_String v.names (by have h := hw; simp only [DC.wt, List.length_map] at h; omega)]
  simp only [Out.bindR_ret, List.getD_cons_zero, List.getD_cons_succ, DC.bb_b, DC.ii_i, DC.ss_s, DC.ll_sl, bne_self_eq_false, beq_self_eq_true, Bool.not_true, Bool.false_eq_true, if_false]
theorem wsum_Type (v : TType) : wtL (TType.enc v) = v.name.length + v.wraps.length := by
  simp only [TType.enc_eq, wtL, DC.wt]
  try omega
theorem eq_Type (v : TType) : wtL (TType.enc v) ≤ 1048576 → r_laws_eqType [.s v.name, .s v.wraps, .s v.name, .s v.wraps] = .ret [.b true] := by
  intro hw
  rw [wsum_Type] at hw
  rw [eq_laws_eqType]
  simp only [E_laws_eqType, List.getD_cons_zero, List.getD_cons_succ, DC.bb_b, DC.ii_i, DC.ss_s, DC.ll_sl, bne_self_eq_false, beq_self_eq_true, Bool.not_true, Bool.false_eq_true, if_false]
theorem wsum_Arg (v : TArg) : wtL (TArg.enc v) = v.name.length + wtL (TValue.enc v.value) := by
  simp only [TArg.enc_eq, wtL, DC.wt, TValue.enc_eq]
  try omega
theorem eq_Arg (v : TArg) : wtL (TArg.enc v) ≤ 1048576 → r_laws_eqArg [.s v.name, .i v.value.kind, .s v.value.text, .sl (v.value.items.map TValue.enc), .sl (v.value.names.map S1), .s v.name, .i v.value.kind, .s v.value.text, .sl (v.value.items.map TValue.enc), .sl (v.value.names.map S1)] = .ret [.b true] := by
  intro hw
  rw [wsum_Arg] at hw
  rw [eq_laws_eqArg]
  simp only [E_laws_eqArg, List.getD_cons_zero, List.getD_cons_succ, DC.bb_b, DC.ii_i, DC.ss_s, DC.ll_sl, bne_self_eq_false, beq_self_eq_true, Bool.not_true, Bool.false_eq_true, if_false]
  rw [eq_Value v.value (by omega)]
  simp only [Out.bindR_ret, List.getD_cons_zero, List.getD_cons_succ, DC.bb_b, DC.ii_i, DC.ss_s, DC.ll_sl, bne_self_eq_false, beq_self_eq_true, Bool.not_true, Bool.false_eq_true, if_false]
theorem eqS_Arg' (vs : List TArg) (hs : ∀ v ∈ vs, wtL (TArg.enc v) ≤ 1048576 → r_laws_eqArg [.s v.name, .i v.value.kind, .s v.value.text, .sl (v.value.items.map TValue.enc), .sl (v.value.names.map S1), .s v.name, .i v.value.kind, .s v.value.text, .sl (v.value.items.map TValue.enc), .sl (v.value.names.map S1)] = .ret [.b true]) (hw : DC.wt (.sl (vs.map TArg.enc)) ≤ 1048576) : r_laws_eqArgS [.sl (vs.map TArg.enc), .sl (vs.map TArg.enc)] = .ret [.b true] := by
  rw [DC.wt, List.length_map] at hw
  have hl : vs.length ≤ 1048576 := by omega
  rw [eq_laws_eqArgS]
  simp only [E_laws_eqArgS, List.getD_cons_zero, List.getD_cons_succ, DC.bb_b, DC.ii_i, DC.ss_s, DC.ll_sl]
  refine eqS_all (fun i hi => ?_) ?_
  · rw [List.length_map] at hi
    have key := hs vs[i] (List.getElem_mem hi) (by have := wtV_mem (List.mem_map_of_mem (f := TArg.enc) (List.getElem_mem hi)); omega)
    have hc1 : (i : Int) < (vs.length : Int) := by omega
    simp only [E_laws_eqArgSL1, List.getD_cons_zero, List.getD_cons_succ, DC.bb_b, DC.ii_i, DC.ss_s, DC.ll_sl, Int.toNat_natCast, List.length_map, map_getD hi, TArg.enc_eq] at key ⊢
    simp only [key, List.getD_cons_zero, List.getD_cons_succ, DC.bb_b, DC.ii_i, DC.ss_s, DC.ll_sl, Out.bindR_ret]
    simp [hi, hc1, wrap_succ hi (show vs.length ≤ 9223372036854775807 by omega)]
  · simp [E_laws_eqArgSL1]
theorem eqS_Arg (vs : List TArg) (hw : DC.wt (.sl (vs.map TArg.enc)) ≤ 1048576) : r_laws_eqArgS [.sl (vs.map TArg.enc), .sl (vs.map TArg.enc)] = .ret [.b true] := eqS_Arg' vs (fun v _ => eq_Arg v) hw
theorem wsum_Dir (v : TDir) : wtL (TDir.enc v) = v.name.length + DC.wt (.sl (v.args.map TArg.enc)) := by
  simp only [TDir.enc_eq, wtL, DC.wt]
  try omega
theorem eq_Dir (v : TDir) : wtL (TDir.enc v) ≤ 1048576 → r_laws_eqDir [.s v.name, .sl (v.args.map TArg.enc), .s v.name, .sl (v.args.map TArg.enc)] = .ret [.b true] := by
  intro hw
  rw [wsum_Dir] at hw
  rw [eq_laws_eqDir]
  simp only [E_laws_eqDir, List.getD_cons_zero, List.getD_cons_succ, DC.bb_b, DC.ii_i, DC.ss_s, DC.ll_sl, bne_self_eq_false, beq_self_eq_true, Bool.not_true, Bool.false_eq_true, if_false]
  rw [eqS_Arg v.args (by omega)]
  simp only [Out.bindR_ret, List.getD_cons_zero, List.getD_cons_succ, DC.bb_b, DC.ii_i, DC.ss_s, DC.ll_sl, bne_self_eq_false, beq_self_eq_true, Bool.not_true, Bool.false_eq_true, if_false]
theorem eqS_Dir' (vs : List TDir) (hs : ∀ v ∈ vs, wtL (TDir.enc v) ≤ 1048576 → r_laws_eqDir [.s v.name, .sl (v.args.map TArg.enc), .s v.name, .sl (v.args.map TArg.enc)] = .ret [.b true]) (hw : DC.wt (.sl (vs.map TDir.enc)) ≤ 1048576) : r_laws_eqDirS [.sl (vs.map TDir.enc), .sl (vs.map TDir.enc)] = .ret [.b true] := by
  rw [DC.wt, List.length_map] at hw
  have hl : vs.length ≤ 1048576 := by omega
  rw [eq_laws_eqDirS]
  simp only [E_laws_eqDirS, List.getD_cons_zero, List.getD_cons_succ, DC.bb_b, DC.ii_i, DC.ss_s, DC.ll_sl]
  refine eqS_all (fun i hi => ?_) ?_
  · rw [List.length_map] at hi
    have key := hs vs[i] (List.getElem_mem hi) (by have := wtV_mem (List.mem_map_of_mem (f := TDir.enc) (List.getElem_mem hi)); omega)
    have hc1 : (i : Int) < (vs.length : Int) := by omega
    simp only [E_laws_eqDirSL1, List.getD_cons_zero, List.getD_cons_succ, DC.bb_b, DC.ii_i, DC.ss_s, DC.ll_sl, Int.toNat_natCast, List.length_map, map_getD hi, TDir.enc_eq] at key ⊢
    simp only [key, List.getD_cons_zero, List.getD_cons_succ, DC.bb_b, DC.ii_i, DC.ss_s, DC.ll_sl, Out.bindR_ret]
    simp [hi, hc1, wrap_succ hi (show vs.length ≤ 9223372036854775807 by omega)]
  · simp [E_laws_eqDirSL1]
theorem eqS_Dir (vs : List TDir) (hw : DC.wt (.sl (vs.map TDir.enc)) ≤ 1048576) : r_laws_eqDirS [.sl (vs.map TDir.enc), .sl (vs.map TDir.enc)] = .ret [.b true] := eqS_Dir' vs (fun v _ => eq_Dir v) hw
theorem wsum_InDef (v : TInDef) : wtL (TInDef.enc v) = v.name.length + v.desc.length + wtL (TType.enc v.type') + wtL (TValue.enc v.default') + DC.wt (.sl (v.dirs.map TDir.enc)) := by
  simp only [TInDef.enc_eq, wtL, DC.wt, TType.enc_eq, TValue.enc_eq]
  try omega
theorem eq_InDef (v : TInDef) : wtL (TInDef.enc v) ≤ 1048576 → r_laws_eqInDef [.s v.name, .s v.desc, .s v.type'.name, .s v.type'.wraps, .b v.has', .i v.default'.kind, .s v.default'.text, .sl (v.default'.items.map TValue.enc), .sl (v.default'.names.map S1), .sl (v.dirs.map TDir.enc), .s v.name, .s v.desc, .s v.type'.name, .s v.type'.wraps, .b v.has', .i v.default'.kind, .s v.default'.text, .sl (v.default'.items.map TValue.enc), .sl (v.default'.names.map S1), .sl (v.dirs.map TDir.enc)] = .ret [.b true] := by
  intro hw
  rw [wsum_InDef] at hw
  rw [eq_laws_eqInDef]
  simp only [E_laws_eqInDef, List.getD_cons_zero, List.getD_cons_succ, DC.bb_b, DC.ii_i, DC.ss_s, DC.ll_sl, bne_self_eq_false, beq_self_eq_true, Bool.not_true, Bool.false_eq_true, if_false]
  rw [eq_Type v.type' (by omega)]
  simp only [Out.bindR_ret, List.getD_cons_zero, List.getD_cons_succ, DC.bb_b, DC.ii_i, DC.ss_s, DC.ll_sl, bne_self_eq_false, beq_self_eq_true, Bool.not_true, Bool.false_eq_true, if_false]
  rw [eq_Value v.default' (by omega)]
  simp only [Out.bindR_ret, List.getD_cons_zero, List.getD_cons_succ, DC.bb_b, DC.ii_i, DC.ss_s, DC.ll_sl, bne_self_eq_false, beq_self_eq_true, Bool.not_true, Bool.false_eq_true, if_false]
  rw [eqS_Dir v.dirs (by omega)]
  simp only [Out.bindR_ret, List.getD_cons_zero, List.getD_cons_succ, DC.bb_b, DC.ii_i, DC.ss_s, DC.ll_sl, bne_self_eq_false, beq_self_eq_true, Bool.not_true, Bool.false_eq_true, if_false]
theorem eqS_InDef' (vs : List TInDef) (hs : ∀ v ∈ vs, wtL (TInDef.enc v) ≤ 1048576 → r_laws_eqInDef [.s v.name, .s v.desc, .s v.type'.name, .s v.type'.wraps, .b v.has', .i v.default'.kind, .s v.default'.text, .sl (v.default'.items.map TValue.enc), .sl (v.default'.names.map S1), .sl (v.dirs.map TDir.enc), .s v.name, .s v.desc, .s v.type'.name, .s v.type'.wraps, .b v.has', .i v.default'.kind, .s v.default'.text, .sl (v.default'.items.map TValue.enc), .sl (v.default'.names.map S1), .sl (v.dirs.map TDir.enc)] = .ret [.b true]) (hw : DC.wt (.sl (vs.map TInDef.enc)) ≤ 1048576) : r_laws_eqInDefS [.sl (vs.map TInDef.enc), .sl (vs.map TInDef.enc)] = .ret [.b true] := by
  rw [DC.wt, List.length_map] at hw
  have hl : vs.length ≤ 1048576 := by omega
  rw [eq_laws_eqInDefS]
  simp only [E_laws_eqInDefS, List.getD_cons_zero, List.getD_cons_succ, DC.bb_b, DC.ii_i, DC.ss_s, DC.ll_sl]
  refine eqS_all (fun i hi => ?_) ?_
  · rw [List.length_map] at hi
    have key := hs vs[i] (List.getElem_mem hi) (by have := wtV_mem (List.mem_map_of_mem (f := TInDef.enc) (List.getElem_mem hi)); omega)
    have hc1 : (i : Int) < (vs.length : Int) := by omega
    simp only [E_laws_eqInDefSL1, List.getD_cons_zero, List.getD_cons_succ, DC.bb_b, DC.ii_i, DC.ss_s, DC.ll_sl, Int.toNat_natCast, List.length_map, map_getD hi, TInDef.enc_eq] at key ⊢
    simp only [key, List.getD_cons_zero, List.getD_cons_succ, DC.bb_b, DC.ii_i, DC.ss_s, DC.ll_sl, Out.bindR_ret]
    simp [hi, hc1, wrap_succ hi (show vs.length ≤ 9223372036854775807 by omega)]
  · simp [E_laws_eqInDefSL1]
theorem eqS_InDef (vs : List TInDef) (hw : DC.wt (.sl (vs.map TInDef.enc)) ≤ 1048576) : r_laws_eqInDefS [.sl (vs.map TInDef.enc), .sl (vs.map TInDef.enc)] = .ret [.b true] := eqS_InDef' vs (fun v _ => eq_InDef v) hw
theorem wsum_FieldDef (v : TFieldDef) : wtL (TFieldDef.enc v) = v.name.length + v.desc.length + DC.wt (.sl (v.args.map TInDef.enc)) + wtL (TType.enc v.type') + DC.wt (.sl (v.dirs.map TDir.enc)) := by
  simp only [TFieldDef.enc_eq, wtL, DC.wt, TType.enc_eq]
  try omega
theorem eq_FieldDef (v : TFieldDef) : wtL (TFieldDef.enc v) ≤ 1048576 → r_laws_eqFieldDef [.s v.name, .s v.desc, .sl (v.args.map TInDef.enc), .s v.type'.name, .s v.type'.wraps, .sl (v.dirs.map TDir.enc), .s v.name, .s v.desc, .sl (v.args.map TInDef.enc), .s v.type'.name, .s v.type'.wraps, .sl (v.dirs.map TDir.enc)] = .ret [.b true] := by
  intro hw
  rw [wsum_FieldDef] at hw
  rw [eq_laws_eqFieldDef]
  simp only [E_laws_eqFieldDef, List.getD_cons_zero, List.getD_cons_succ, DC.bb_b, DC.ii_i, DC.ss_s, DC.ll_sl, bne_self_eq_false, beq_self_eq_true, Bool.not_true, Bool.false_eq_true, if_false]
  rw [eqS_InDef v.args (by omega)]
  simp only [Out.bindR_ret, List.getD_cons_zero, List.getD_cons_succ, DC.bb_b, DC.ii_i, DC.ss_s, DC.ll_sl, bne_self_eq_false, beq_self_eq_true, Bool.not_true, Bool.false_eq_true, if_false]
  rw [eq_Type v.type' (by omega)]
  simp only [Out.bindR_ret, List.getD_cons_zero, List.getD_cons_succ, DC.bb_b, DC.ii_i, DC.ss_s, DC.ll_sl, bne_self_eq_false, beq_self_eq_true, Bool.not_true, Bool.false_eq_true, if_false]
  rw [eqS_Dir v.dirs (by omega)]
  simp only [Out.bindR_ret, List.getD_cons_zero, List.getD_cons_succ, DC.bb_b, DC.ii_i, DC.ss_s, DC.ll_sl, bne_self_eq_false, beq_self_eq_true, Bool.not_true, Bool.false_eq_true, if_false]
theorem eqS_FieldDef' (vs : List TFieldDef) (hs : ∀ v ∈ vs, wtL (TFieldDef.enc v) ≤ 1048576 → r_laws_eqFieldDef [.s v.name, .s v.desc, .sl (v.args.map TInDef.enc), .s v.type'.name, .s v.type'.wraps, .sl (v.dirs.map TDir.enc), .s v.name, .s v.desc, .sl (v.args.map TInDef.enc), .s v.type'.name, .s v.type'.wraps, .sl (v.dirs.map TDir.enc)] = .ret [.b true]) (hw : DC.wt (.sl (vs.map TFieldDef.enc)) ≤ 1048576) : r_laws_eqFieldDefS [.sl (vs.map TFieldDef.enc), .sl (vs.map TFieldDef.enc)] = .ret [.b true] := by
  rw [DC.wt, List.length_map] at hw
  have hl : vs.length ≤ 1048576 := by omega
  rw [eq_laws_eqFieldDefS]
  simp only [E_laws_eqFieldDefS, List.getD_cons_zero, List.getD_cons_succ, DC.bb_b, DC.ii_i, DC.ss_s, DC.ll_sl]
  refine eqS_all (fun i hi => ?_) ?_
  · rw [List.length_map] at hi
    have key := hs vs[i] (List.getElem_mem hi) (by have := wtV_mem (List.mem_map_of_mem (f := TFieldDef.enc) (List.getElem_mem hi)); omega)
    have hc1 : (i : Int) < (vs.length : Int) := by omega
    simp only [E_laws_eqFieldDefSL1, List.getD_cons_zero, List.getD_cons_succ, DC.bb_b, DC.ii_i, DC.ss_s, DC.ll_sl, Int.toNat_natCast, List.length_map, map_getD hi, TFieldDef.enc_eq] at key ⊢
    simp only [key, List.getD_cons_zero, List.getD_cons_succ, DC.bb_b, DC.ii_i, DC.ss_s, DC.ll_sl, Out.bindR_ret]
    simp [hi, hc1, wrap_succ hi (show vs.length ≤ 9223372036854775807 by omega)]
  · simp [E_laws_eqFieldDefSL1]
theorem eqS_FieldDef (vs : List TFieldDef) (hw : DC.wt (.sl (vs.map TFieldDef.enc)) ≤ 1048576) : r_laws_eqFieldDefS [.sl (vs.map TFieldDef.enc), .sl (vs.map TFieldDef.enc)] = .ret [.b true] := eqS_FieldDef' vs (fun v _ => eq_FieldDef v) hw
theorem wsum_EnumDef (v : TEnumDef) : wtL (TEnumDef.enc v) = v.name.length + v.desc.length + DC.wt (.sl (v.dirs.map TDir.enc)) := by
  simp only [TEnumDef.enc_eq, wtL, DC.wt]
  try omega
theorem eq_EnumDef (v : TEnumDef) : wtL (TEnumDef.enc v) ≤ 1048576 → r_laws_eqEnumDef [.s v.name, .s v.desc, .sl (v.dirs.map TDir.enc), .s v.name, .s v.desc, .sl (v.dirs.map TDir.enc)] = .ret [.b true] := by
  intro hw
  rw [wsum_EnumDef] at hw
  rw [eq_laws_eqEnumDef]
  simp only [E_laws_eqEnumDef, List.getD_cons_zero, List.getD_cons_succ, DC.bb_b, DC.ii_i, DC.ss_s, DC.ll_sl, bne_self_eq_false, beq_self_eq_true, Bool.not_true, Bool.false_eq_true, if_false]
  rw [eqS_Dir v.dirs (by omega)]
  simp only [Out.bindR_ret, List.getD_cons_zero, List.getD_cons_succ, DC.bb_b, DC.ii_i, DC.ss_s, DC.ll_sl, bne_self_eq_false, beq_self_eq_true, Bool.not_true, Bool.false_eq_true, if_false]
theorem eqS_EnumDef' (vs : List TEnumDef) (hs : ∀ v ∈ vs, wtL (TEnumDef.enc v) ≤ 1048576 → r_laws_eqEnumDef [.s v.name, .s v.desc, .sl (v.dirs.map TDir.enc), .s v.name, .s v.desc, .sl (v.dirs.map TDir.enc)] = .ret [.b true]) (hw : DC.wt (.sl (vs.map TEnumDef.enc)) ≤ 1048576) : r_laws_eqEnumDefS [.sl (vs.map TEnumDef.enc), .sl (vs.map TEnumDef.enc)] = .ret [.b true] := by
  rw [DC.wt, List.length_map] at hw
  have hl : vs.length ≤ 1048576 := by omega
  rw [eq_laws_eqEnumDefS]
  simp only [E_laws_eqEnumDefS, List.getD_cons_zero, List.getD_cons_succ, DC.bb_b, DC.ii_i, DC.ss_s, DC.ll_sl]
  refine eqS_all (fun i hi => ?_) ?_
  · rw [List.length_map] at hi
    have key := hs vs[i] (List.getElem_mem hi) (by have := wtV_mem (List.mem_map_of_mem (f := TEnumDef.enc) (List.getElem_mem hi)); omega)
    have hc1 : (i : Int) < (vs.length : Int) := by omega
    simp only [E_laws_eqEnumDefSL1, List.getD_cons_zero, List.getD_cons_succ, DC.bb_b, DC.ii_i, DC.ss_s, DC.ll_sl, Int.toNat_natCast, List.length_map, map_getD hi, TEnumDef.enc_eq] at key ⊢
    simp only [key, List.getD_cons_zero, List.getD_cons_succ, DC.bb_b, DC.ii_i, DC.ss_s, DC.ll_sl, Out.bindR_ret]
    simp [hi, hc1, wrap_succ hi (show vs.length ≤ 9223372036854775807 by omega)]
  · simp [E_laws_eqEnumDefSL1]
theorem eqS_EnumDef (vs : List TEnumDef) (hw : DC.wt (.sl (vs.map TEnumDef.enc)) ≤ 1048576) : r_laws_eqEnumDefS [.sl (vs.map TEnumDef.enc), .sl (vs.map TEnumDef.enc)] = .ret [.b true] := eqS_EnumDef' vs (fun v _ => eq_EnumDef v) hw
theorem wsum_Root (v : TRoot) : wtL (TRoot.enc v) = v.type'.length := by
  simp only [TRoot.enc_eq, wtL, DC.wt]
  try omega
theorem eq_Root (v : TRoot) : wtL (TRoot.enc v) ≤ 1048576 → r_laws_eqRoot [.i v.kind, .s v.type', .i v.kind, .s v.type'] = .ret [.b true] := by
  intro hw
  rw [wsum_Root] at hw
  rw [eq_laws_eqRoot]
  simp only [E_laws_eqRoot, List.getD_cons_zero, List.getD_cons_succ, DC.bb_b, DC.ii_i, DC.ss_s, DC.ll_sl, bne_self_eq_false, beq_self_eq_true, Bool.not_true, Bool.false_eq_true, if_false]
theorem eqS_Root' (vs : List TRoot) (hs : ∀ v ∈ vs, wtL (TRoot.enc v) ≤ 1048576 → r_laws_eqRoot [.i v.kind, .s v.type', .i v.kind, .s v.type'] = .ret [.b true]) (hw : DC.wt (.sl (vs.map TRoot.enc)) ≤ 1048576) : r_laws_eqRootS [.sl (vs.map TRoot.enc), .sl (vs.map TRoot.enc)] = .ret [.b true] := by
  rw [DC.wt, List.length_map] at hw
  have hl : vs.length ≤ 1048576 := by omega
  rw [eq_laws_eqRootS]
  simp only [E_laws_eqRootS, List.getD_cons_zero, List.getD_cons_succ, DC.bb_b, DC.ii_i, DC.ss_s, DC.ll_sl]
  refine eqS_all (fun i hi => ?_) ?_
  · rw [List.length_map] at hi
    have key := hs vs[i] (List.getElem_mem hi) (by have := wtV_mem (List.mem_map_of_mem (f := TRoot.enc) (List.getElem_mem hi)); omega)
    have hc1 : (i : Int) < (vs.length : Int) := by omega
    simp only [E_laws_eqRootSL1, List.getD_cons_zero, List.getD_cons_succ, DC.bb_b, DC.ii_i, DC.ss_s, DC.ll_sl, Int.toNat_natCast, List.length_map, map_getD hi, TRoot.enc_eq] at key ⊢
    simp only [key, List.getD_cons_zero, List.getD_cons_succ, DC.bb_b, DC.ii_i, DC.ss_s, DC.ll_sl, Out.bindR_ret]
    simp [hi, hc1, wrap_succ hi (show vs.length ≤ 9223372036854775807 by omega)]
  · simp [E_laws_eqRootSL1]
theorem eqS_Root (vs : List TRoot) (hw : DC.wt (.sl (vs.map TRoot.enc)) ≤ 1048576) : r_laws_eqRootS [.sl (vs.map TRoot.enc), .sl (vs.map TRoot.enc)] = .ret [.b true] := eqS_Root' vs (fun v _ => eq_Root v) hw
theorem wsum_Def (v : TDef) : wtL (TDef.enc v) = v.desc.length + v.name.length + DC.wt (.sl (v.faces.map S1)) + DC.wt (.sl (v.fields.map TFieldDef.enc)) + DC.wt (.sl (v.inputs.map TInDef.enc)) + DC.wt (.sl (v.values.map TEnumDef.enc)) + DC.wt (.sl (v.roots.map TRoot.enc)) + DC.wt (.sl (v.dirs.map TDir.enc)) := by
  simp only [TDef.enc_eq, wtL, DC.wt]
  try omega
theorem eq_Def (v : TDef) : wtL (TDef.enc v) ≤ 1048576 → r_laws_eqDef [.i v.kind, .b v.ext, .s v.desc, .s v.name, .sl (v.faces.map S1), .sl (v.fields.map TFieldDef.enc), .sl (v.inputs.map TInDef.enc), .sl (v.values.map TEnumDef.enc), .sl (v.roots.map TRoot.enc), .b v.repeat', .sl (v.dirs.map TDir.enc), .i v.kind, .b v.ext, .s v.desc, .s v.name, .sl (v.faces.map S1), .sl (v.fields.map TFieldDef.enc), .sl (v.inputs.map TInDef.enc), .sl (v.values.map TEnumDef.enc), .sl (v.roots.map TRoot.enc), .b v.repeat', .sl (v.dirs.map TDir.enc)] = .ret [.b true] := by
  intro hw
  rw [wsum_Def] at hw
  rw [eq_laws_eqDef]
  simp only [E_laws_eqDef, List.getD_cons_zero, List.getD_cons_succ, DC.bb_b, DC.ii_i, DC.ss_s, DC.ll_sl, bne_self_eq_false, beq_self_eq_true, Bool.not_true, Bool.false_eq_true, if_false]
  rw [eqS_String v.faces (by have h := hw; simp only [DC.wt, List.length_map] at h; omega)]
  simp only [Out.bindR_ret, List.getD_cons_zero, List.getD_cons_succ, DC.bb_b, DC.ii_i, DC.ss_s, DC.ll_sl, bne_self_eq_false, beq_self_eq_true, Bool.not_true, Bool.false_eq_true, if_false]
  rw [eqS_FieldDef v.fields (by omega)]
  simp only [Out.bindR_ret, List.getD_cons_zero, List.getD_cons_succ, DC.bb_b, DC.ii_i, DC.ss_s, DC.ll_sl, bne_self_eq_false, beq_self_eq_true, Bool.not_true, Bool.false_eq_true, if_false]
  rw [eqS_InDef v.inputs (by omega)]
  simp only [Out.bindR_ret, List.getD_cons_zero, List.getD_cons_succ, DC.bb_b, DC.ii_i, DC.ss_s, DC.ll_sl, bne_self_eq_false, beq_self_eq_true, Bool.not_true, Bool.false_eq_true, if_false]
  rw [eqS_EnumDef v.values (by omega)]
  simp only [Out.bindR_ret, List.getD_cons_zero, List.getD_cons_succ, DC.bb_b, DC.ii_i, DC.ss_s, DC.ll_sl, bne_self_eq_false, beq_self_eq_true, Bool.not_true, Bool.false_eq_true, if_false]
  rw [eqS_Root v.roots (by omega)]
  simp only [Out.bindR_ret, List.getD_cons_zero, List.getD_cons_succ, DC.bb_b, DC.ii_i, DC.ss_s, DC.ll_sl, bne_self_eq_false, beq_self_eq_true, Bool.not_true, Bool.false_eq_true, if_false]
  rw [eqS_Dir v.dirs (by omega)]
  simp only [Out.bindR_ret, List.getD_cons_zero, List.getD_cons_succ, DC.bb_b, DC.ii_i, DC.ss_s, DC.ll_sl, bne_self_eq_false, beq_self_eq_true, Bool.not_true, Bool.false_eq_true, if_false]
theorem eqS_Def' (vs : List TDef) (hs : ∀ v ∈ vs, wtL (TDef.enc v) ≤ 1048576 → r_laws_eqDef [.i v.kind, .b v.ext, .s v.desc, .s v.name, .sl (v.faces.map S1), .sl (v.fields.map TFieldDef.enc), .sl (v.inputs.map TInDef.enc), .sl (v.values.map TEnumDef.enc), .sl (v.roots.map TRoot.enc), .b v.repeat', .sl (v.dirs.map TDir.enc), .i v.kind, .b v.ext, .s v.desc, .s v.name, .sl (v.faces.map S1), .sl (v.fields.map TFieldDef.enc), .sl (v.inputs.map TInDef.enc), .sl (v.values.map TEnumDef.enc), .sl (v.roots.map TRoot.enc), .b v.repeat', .sl (v.dirs.map TDir.enc)] = .ret [.b true]) (hw : DC.wt (.sl (vs.map TDef.enc)) ≤ 1048576) : r_laws_eqDefS [.sl (vs.map TDef.enc), .sl (vs.map TDef.enc)] = .ret [.b true] := by
  rw [DC.wt, List.length_map] at hw
  have hl : vs.length ≤ 1048576 := by omega
  rw [eq_laws_eqDefS]
  simp only [E_laws_eqDefS, List.getD_cons_zero, List.getD_cons_succ, DC.bb_b, DC.ii_i, DC.ss_s, DC.ll_sl]
  refine eqS_all (fun i hi => ?_) ?_
  · rw [List.length_map] at hi
    have key := hs vs[i] (List.getElem_mem hi) (by have := wtV_mem (List.mem_map_of_mem (f := TDef.enc) (List.getElem_mem hi)); omega)
    have hc1 : (i : Int) < (vs.length : Int) := by omega
    simp only [E_laws_eqDefSL1, List.getD_cons_zero, List.getD_cons_succ, DC.bb_b, DC.ii_i, DC.ss_s, DC.ll_sl, Int.toNat_natCast, List.length_map, map_getD hi, TDef.enc_eq] at key ⊢
    simp only [key, List.getD_cons_zero, List.getD_cons_succ, DC.bb_b, DC.ii_i, DC.ss_s, DC.ll_sl, Out.bindR_ret]
    simp [hi, hc1, wrap_succ hi (show vs.length ≤ 9223372036854775807 by omega)]
  · simp [E_laws_eqDefSL1]
theorem eqS_Def (vs : List TDef) (hw : DC.wt (.sl (vs.map TDef.enc)) ≤ 1048576) : r_laws_eqDefS [.sl (vs.map TDef.enc), .sl (vs.map TDef.enc)] = .ret [.b true] := eqS_Def' vs (fun v _ => eq_Def v) hw
def rowAct (T : Int → Option (List UInt8)) (rec : Nat → List (List DC) → Int → Option (List (List DC) × Int)) : MA → List DC × Int × Int → Option (List DC × Int × Int)
  | .txt off, (x, k, r) =>
    match T k with
    | some s => some (x.set off (.s s), k, r)
    | none => none
  | .bool off, (x, k, r) => some (x.set off (.b (k % 3 == 0)), k, r)
  | .int off, (x, k, r) => some (x.set off (.i k), k, r)
  | .sub off f, (x, k, r) =>
    match rec f (x.getD off d0).ll k with
    | some (l', k') => some (x.set off (.sl l'), k, k')
    | none => none
  | .inc, (x, k, r) => if k + 1 < 4611686018427387904 then some (x, k + 1, r) else none
  | .upd, (x, k, r) => if 0 ≤ r ∧ r < 4611686018427387904 then some (x, r, r) else none
def rowActs (T : Int → Option (List UInt8)) (rec : Nat → List (List DC) → Int → Option (List (List DC) × Int)) : List MA → List DC × Int × Int → Option (List DC × Int × Int)
  | [], p => some p
  | m :: ms, p =>
    match rowAct T rec m p with
    | some q => rowActs T rec ms q
    | none => none
section
variable {T : Int → Option (List UInt8)} {rec : Nat → List (List DC) → Int → Option (List (List DC) × Int)} {tab : Nat → Option (List MA)}
theorem getD_set_self {l : List (List DC)} {i : Nat} {x : List DC} (h : i < l.length) : (l.set i x).getD i [] = x := by
  rw [List.getD_eq_getElem?_getD, List.getElem?_set, if_pos rfl, if_pos h]
  rfl
theorem doAct_row {i : Nat} {m : MA} {l : List (List DC)} {x x' : List DC} {k k' r r' : Int} (hi : i < l.length) (h : rowAct T rec m (x, k, r) = some (x', k', r')) : doAct T rec i m ⟨l.set i x, k, r⟩ = some ⟨l.set i x', k', r'⟩ := by
  have hx : ∀ (off : Nat) (d : DC), xset (l.set i x) i off d = l.set i (x.set off d) := fun off d => by
    unfold xset
    rw [getD_set_self hi, List.set_set]
  cases m with
  | txt off =>
    simp only [rowAct] at h
    simp only [doAct]
    split at h
    · rename_i s hs
      simp only [Option.some.injEq, Prod.mk.injEq] at h
      obtain ⟨rfl, rfl, rfl⟩ := h
      rw [hs]
      simp only [hx]
    · simp at h
  | bool off =>
    simp only [rowAct, Option.some.injEq, Prod.mk.injEq] at h
    obtain ⟨rfl, rfl, rfl⟩ := h
    simp only [doAct, hx]
  | int off =>
    simp only [rowAct, Option.some.injEq, Prod.mk.injEq] at h
    obtain ⟨rfl, rfl, rfl⟩ := h
    simp only [doAct, hx]
  | sub off f =>
    simp only [rowAct] at h
    simp only [doAct]
    rw [getD_set_self hi]
    split at h
    · rename_i l' k1 hs
      simp only [Option.some.injEq, Prod.mk.injEq] at h
      obtain ⟨rfl, rfl, rfl⟩ := h
      rw [hs]
      simp only [hx]
    · simp at h
  | inc =>
    simp only [rowAct] at h
    simp only [doAct]
    split at h
    · rename_i hb
      simp only [Option.some.injEq, Prod.mk.injEq] at h
      obtain ⟨rfl, rfl, rfl⟩ := h
      rw [if_pos hb]
    · simp at h
  | upd =>
    simp only [rowAct] at h
    simp only [doAct]
    split at h
    · rename_i hb
      simp only [Option.some.injEq, Prod.mk.injEq] at h
      obtain ⟨rfl, rfl, rfl⟩ := h
      rw [if_pos hb]
    · simp at h
theorem doActs_row {i : Nat} {l : List (List DC)} (hi : i < l.length) : ∀ {ms : List MA} {x x' : List DC} {k k' r r' : Int}, rowActs T rec ms (x, k, r) = some (x', k', r') → doActs T rec i ms ⟨l.set i x, k, r⟩ = some ⟨l.set i x', k', r'⟩
  | [], x, x', k, k', r, r', h => by
    simp only [rowActs, Option.some.injEq, Prod.mk.injEq] at h
    obtain ⟨rfl, rfl, rfl⟩ := h
    rfl
  | m :: ms, x, x', k, k', r, r', h => by
    rw [rowActs] at h
    rw [doActs]
    split at h
    · rename_i q hq
      obtain ⟨x1, k1, r1⟩ := q
      rw [doAct_row hi hq]
      exact doActs_row hi h
    · simp at h
inductive Chain {α : Type} (R : α → Int → α → Int → Prop) : List α → Int → List α → Int → Prop
  | nil (k : Int) : Chain R [] k [] k
  | cons {x x' : α} {xs xs' : List α} {k k1 k' : Int} : R x k x' k1 → Chain R xs k1 xs' k' → Chain R (x :: xs) k (x' :: xs') k'
theorem Chain.len {α : Type} {R : α → Int → α → Int → Prop} {vs vs' : List α} {k k' : Int} (h : Chain R vs k vs' k') : vs'.length = vs.length := by
  induction h with
  | nil => rfl
  | cons _ _ ih => simp [ih]
theorem Chain.mono {α : Type} {R S : α → Int → α → Int → Prop} (hRS : ∀ x k x' k', R x k x' k' → S x k x' k') {vs vs' : List α} {k k' : Int} (h : Chain R vs k vs' k') : Chain S vs k vs' k' := by
  induction h with
  | nil k => exact .nil k
  | cons h1 _ ih => exact .cons (hRS _ _ _ _ h1) ih
def MarkRow {α : Type} (T : Int → Option (List UInt8)) (tab : Nat → Option (List MA)) (ms : List MA) (enc : α → List DC) (x : α) (k : Int) (x' : α) (k' : Int) : Prop :=
  ∃ n, ∀ m, n ≤ m → ∀ r, ∃ r', rowActs T (mkF T tab m) ms (enc x, k, r) = some (enc x', k', r')
theorem rows_chain {α : Type} {ms : List MA} {enc : α → List DC} {vs vs' : List α} {k k' : Int} (h : Chain (MarkRow T tab ms enc) vs k vs' k') : ∃ n, ∀ m, n ≤ m → ∀ (pre : List (List DC)) (r : Int), ∃ r',
    doRows T (mkF T tab m) ms vs.length pre.length ⟨pre ++ vs.map enc, k, r⟩ = some ⟨pre ++ vs'.map enc, k', r'⟩ := by
  induction h with
  | nil k => exact ⟨0, fun m _ pre r => ⟨r, rfl⟩⟩
  | cons h1 h2 ih =>
    rename_i x x' xs xs' k k1 k'
    obtain ⟨n1, h1⟩ := h1
    obtain ⟨n2, h2⟩ := ih
    refine ⟨max n1 n2, fun m hm pre r => ?_⟩
    obtain ⟨r1, e1⟩ := h1 m (by omega) r
    obtain ⟨r2, e2⟩ := h2 m (by omega) (pre ++ [enc x']) r1
    refine ⟨r2, ?_⟩
    have hi : pre.length < (pre ++ enc x :: xs.map enc).length := by simp
    have hset : ∀ y, (pre ++ enc x :: xs.map enc).set pre.length y = pre ++ y :: xs.map enc := fun y => by
      rw [List.set_append_right _ _ (Nat.le_refl _), Nat.sub_self]
      rfl
    have e3 := doActs_row (i := pre.length) hi e1
    rw [hset, hset] at e3
    rw [List.length_cons, List.map_cons, doRows, e3]
    rw [List.length_append] at e2
    simpa using e2
def Mk (T : Int → Option (List UInt8)) (tab : Nat → Option (List MA)) (f : Nat) (l : List (List DC)) (k : Int) (l' : List (List DC)) (k' : Int) : Prop := ∃ n, mkF T tab n f l k = some (l', k')
theorem mark_chain {α : Type} {ms : List MA} {enc : α → List DC} {vs vs' : List α} {k k' : Int} {f : Nat} (hf : tab f = some ms) (hl : vs.length < 4611686018427387904) (h0 : 0 ≤ k) (hk : k < 4611686018427387904) (h : Chain (MarkRow T tab ms enc) vs k vs' k') :
    Mk T tab f (vs.map enc) k (vs'.map enc) k' := by
  obtain ⟨n, hn⟩ := rows_chain h
  obtain ⟨r, e⟩ := hn n (Nat.le_refl _) [] 0
  refine ⟨n + 1, ?_⟩
  rw [mkF, hf]
  dsimp only
  unfold mkRun
  rw [if_pos ⟨by simpa using hl, h0, hk⟩, List.length_map]
  simp only [List.nil_append, List.length_nil] at e
  rw [e]
theorem chain_make {α : Type} {R : α → Int → α → Int → Prop} {enc : α → List DC} : ∀ (vs : List α), (∀ x ∈ vs, ∀ k : Int, 0 ≤ k → k + 30 * ((1 + wtL (enc x) : Nat) : Int) < 4611686018427387904 → ∃ x' k', R x k x' k' ∧ k ≤ k' ∧ k' ≤ k + 30 * ((1 + wtL (enc x) : Nat) : Int)) →
    ∀ k : Int, 0 ≤ k → k + 30 * ((DC.wt (.sl (vs.map enc)) : Nat) : Int) < 4611686018427387904 → ∃ vs' k', Chain R vs k vs' k' ∧ k ≤ k' ∧ k' ≤ k + 30 * ((DC.wt (.sl (vs.map enc)) : Nat) : Int)
  | [], _, k, h0, hk => ⟨[], k, .nil k, by omega, by omega⟩
  | x :: vs, hs, k, h0, hk => by
    have hw : DC.wt (.sl ((x :: vs).map enc)) = (1 + wtL (enc x)) + DC.wt (.sl (vs.map enc)) := by
      simp only [DC.wt, List.map_cons, List.length_cons, List.length_map, wtV]
      omega
    rw [hw] at hk ⊢
    obtain ⟨x', k1, e1, e2, e3⟩ := hs x (by simp) k h0 (by omega)
    obtain ⟨vs', k2, c1, c2, c3⟩ := chain_make vs (fun y hy => hs y (by simp [hy])) k1 (by omega) (by omega)
    exact ⟨x' :: vs', k2, .cons e1 c1, by omega, by omega⟩
theorem mark_all {α : Type} {ms : List MA} {enc : α → List DC} {Q : Int → α → Int → Prop} {f : Nat} (hf : tab f = some ms) (vs : List α)
    (hs : ∀ x ∈ vs, ∀ k : Int, 0 ≤ k → k + 30 * ((1 + wtL (enc x) : Nat) : Int) < 4611686018427387904 → ∃ x' k', (MarkRow T tab ms enc x k x' k' ∧ Q k x' k') ∧ k ≤ k' ∧ k' ≤ k + 30 * ((1 + wtL (enc x) : Nat) : Int))
    {k : Int} (h0 : 0 ≤ k) (hk : k + 30 * ((DC.wt (.sl (vs.map enc)) : Nat) : Int) < 4611686018427387904) :
    ∃ vs' k', Mk T tab f (vs.map enc) k (vs'.map enc) k' ∧ k ≤ k' ∧ k' ≤ k + 30 * ((DC.wt (.sl (vs.map enc)) : Nat) : Int) ∧ Chain (fun _ k x' k' => Q k x' k') vs k vs' k' := by
  obtain ⟨vs', k', c, b1, b2⟩ := chain_make (R := fun x k x' k' => MarkRow T tab ms enc x k x' k' ∧ Q k x' k') vs hs k h0 hk
  have hl : vs.length ≤ DC.wt (.sl (vs.map enc)) := by simp [DC.wt]
  exact ⟨vs', k', mark_chain hf (by omega) h0 (by omega) (c.mono fun _ _ _ _ h => h.1), b1, b2, c.mono fun _ _ _ _ h => h.2⟩
theorem held_loop {α : Type} {enc : α → List DC} {F : List DC → Out} {vs vs' : List α} {k k' : Int}
    (h : Chain (fun _ k x' k' => ∀ (l : List (List DC)) (i : Nat), i < l.length → l.length ≤ 9223372036854775807 → l.getD i [] = enc x' → F [.sl l, .i k, .i (i : Int)] = .norm [.sl l, .i k', .i ((i + 1 : Nat) : Int)]) vs k vs' k')
    (hend : ∀ (l : List (List DC)) (k : Int), F [.sl l, .i k, .i (l.length : Int)] = .ex 0 [.i k]) :
    ∀ (pre : List (List DC)), pre.length + vs'.length ≤ 9223372036854775807 → Loop F [.sl (pre ++ vs'.map enc), .i k, .i (pre.length : Int)] = .ex 0 [.i k'] := by
  induction h with
  | nil k => intro pre _; rw [List.map_nil, List.append_nil]; exact Loop_ex (hend pre k)
  | cons h1 h2 ih =>
    rename_i x x' xs xs' k k1 k'
    intro pre hp
    rw [Loop_norm (h1 (pre ++ (x' :: xs').map enc) pre.length (by simp) (by simpa using hp) (by rw [List.map_cons, List.getD_eq_getElem?_getD, List.getElem?_append_right (Nat.le_refl _), Nat.sub_self]; rfl))]
    have := ih (pre ++ [enc x']) (by simp only [List.length_append, List.length_cons, List.length_nil] at hp ⊢; omega)
    rw [List.length_append] at this
    simpa using this
theorem rowActs_txt {off : Nat} {ms : List MA} {x : List DC} {k r : Int} {s : List UInt8} {o : Option (List DC × Int × Int)} (h : T k = some s) (h2 : rowActs T rec ms (x.set off (.s s), k, r) = o) : rowActs T rec (.txt off :: ms) (x, k, r) = o := by
  simp only [rowActs, rowAct, h]
  exact h2
theorem rowActs_bool {off : Nat} {ms : List MA} {x : List DC} {k r : Int} {o : Option (List DC × Int × Int)} (h2 : rowActs T rec ms (x.set off (.b (k % 3 == 0)), k, r) = o) : rowActs T rec (.bool off :: ms) (x, k, r) = o := h2
theorem rowActs_int {off : Nat} {ms : List MA} {x : List DC} {k r : Int} {o : Option (List DC × Int × Int)} (h2 : rowActs T rec ms (x.set off (.i k), k, r) = o) : rowActs T rec (.int off :: ms) (x, k, r) = o := h2
theorem rowActs_inc {ms : List MA} {x : List DC} {k r : Int} {o : Option (List DC × Int × Int)} (h : k + 1 < 4611686018427387904) (h2 : rowActs T rec ms (x, k + 1, r) = o) : rowActs T rec (.inc :: ms) (x, k, r) = o := by
  simp only [rowActs, rowAct, if_pos h]
  exact h2
theorem rowActs_upd {ms : List MA} {x : List DC} {k r : Int} {o : Option (List DC × Int × Int)} (h : 0 ≤ r ∧ r < 4611686018427387904) (h2 : rowActs T rec ms (x, r, r) = o) : rowActs T rec (.upd :: ms) (x, k, r) = o := by
  simp only [rowActs, rowAct, if_pos h]
  exact h2
theorem rowActs_sub {off f : Nat} {ms : List MA} {x : List DC} {k r k' : Int} {l l' : List (List DC)} {o : Option (List DC × Int × Int)} (hl : (x.getD off d0).ll = l) (h : rec f l k = some (l', k')) (h2 : rowActs T rec ms (x.set off (.sl l'), k, k') = o) : rowActs T rec (.sub off f :: ms) (x, k, r) = o := by
  simp only [rowActs, rowAct, hl, h]
  exact h2
theorem Mk.at {f : Nat} {l l' : List (List DC)} {k k' : Int} (h : Mk T tab f l k l' k') : mkV T tab f [l] k = some ([l'], k') := mkV_put h.choose_spec
end
theorem mh_String (v : (List UInt8)) : ∀ k : Int, 0 ≤ k → k + 30 * ((1 + wtL (S1 v) : Nat) : Int) < 4611686018427387904 → ∃ (x' : (List UInt8)) (k' : Int), (MarkRow mT mTab ms14 S1 v k x' k' ∧ (∀ (l : List (List DC)) (i : Nat), i < l.length → l.length ≤ 9223372036854775807 → l.getD i [] = S1 x' → E_laws_heldStringSL1 [.sl l, .i k, .i (i : Int)] = .norm [.sl l, .i k', .i ((i + 1 : Nat) : Int)])) ∧ k ≤ k' ∧ k' ≤ k + 30 * ((1 + wtL (S1 v) : Nat) : Int) := by
  intro k h0 hk
  refine ⟨mtx (k), k + 1, ⟨⟨0, fun m hm r => ?_⟩, ?_⟩, by omega, by omega⟩
  · refine ⟨r, ?_⟩
    unfold S1
    refine rowActs_txt (s := mtx (k)) rfl (rowActs_inc (by omega) ?_)
    exact rfl
  · intro l i hi hl hg
    have m0 : E_laws_markText [.i (k)] = .ret [.s (mtx (k))] := mtx_eq (by omega) (by omega)
    have w0 : IntKind.i64.wrap (k + 1) = k + 1 := wrap64 (by omega) (by omega)
    have hc1 : (i : Int) < (l.length : Int) := by omega
    simp only [E_laws_heldStringSL1, List.getD_cons_zero, List.getD_cons_succ, DC.bb_b, DC.ii_i, DC.ss_s, DC.ll_sl, Int.toNat_natCast, hg, S1, m0, w0, eq_laws_markText, Out.bindR_ret]
    simp [hi, hc1, wrap_succ hi hl, m0, w0]
theorem mhS_String' (vs : List (List UInt8)) (hs : ∀ v ∈ vs, ∀ k : Int, 0 ≤ k → k + 30 * ((1 + wtL (S1 v) : Nat) : Int) < 4611686018427387904 → ∃ (x' : (List UInt8)) (k' : Int), (MarkRow mT mTab ms14 S1 v k x' k' ∧ (∀ (l : List (List DC)) (i : Nat), i < l.length → l.length ≤ 9223372036854775807 → l.getD i [] = S1 x' → E_laws_heldStringSL1 [.sl l, .i k, .i (i : Int)] = .norm [.sl l, .i k', .i ((i + 1 : Nat) : Int)])) ∧ k ≤ k' ∧ k' ≤ k + 30 * ((1 + wtL (S1 v) : Nat) : Int)) (k : Int) (h0 : 0 ≤ k) (hk : k + 30 * ((DC.wt (.sl (vs.map S1)) : Nat) : Int) < 4611686018427387904) : ∃ (vs' : List (List UInt8)) (k' : Int), Mk mT mTab 14 (vs.map S1) k (vs'.map S1) k' ∧ k ≤ k' ∧ k' ≤ k + 30 * ((DC.wt (.sl (vs.map S1)) : Nat) : Int) ∧ r_laws_heldStringS [.sl (vs'.map S1), .i k] = .ret [.i k'] := by
  obtain ⟨vs', k', m, b1, b2, c⟩ := mark_all (Q := fun k x' k' => ∀ (l : List (List DC)) (i : Nat), i < l.length → l.length ≤ 9223372036854775807 → l.getD i [] = S1 x' → E_laws_heldStringSL1 [.sl l, .i k, .i (i : Int)] = .norm [.sl l, .i k', .i ((i + 1 : Nat) : Int)]) (f := 14) (ms := ms14) rfl vs hs h0 hk
  refine ⟨vs', k', m, b1, b2, ?_⟩
  have hl : vs.length ≤ DC.wt (.sl (vs.map S1)) := by simp [DC.wt]
  have hc := c.len
  have key : Loop E_laws_heldStringSL1 [.sl (vs'.map S1), .i k, .i (0 : Int)] = .ex 0 [.i k'] := held_loop c (fun l k => by simp [E_laws_heldStringSL1]) [] (by simp only [List.length_nil]; omega)
  rw [eq_laws_heldStringS]
  simp only [E_laws_heldStringS, List.getD_cons_zero, List.getD_cons_succ, DC.bb_b, DC.ii_i, DC.ss_s, DC.ll_sl, key, Out.andThenB]
  rfl
theorem mhS_String (vs : List (List UInt8)) (k : Int) (h0 : 0 ≤ k) (hk : k + 30 * ((DC.wt (.sl (vs.map S1)) : Nat) : Int) < 4611686018427387904) : ∃ (vs' : List (List UInt8)) (k' : Int), Mk mT mTab 14 (vs.map S1) k (vs'.map S1) k' ∧ k ≤ k' ∧ k' ≤ k + 30 * ((DC.wt (.sl (vs.map S1)) : Nat) : Int) ∧ r_laws_heldStringS [.sl (vs'.map S1), .i k] = .ret [.i k'] := mhS_String' vs (fun v _ => mh_String v) k h0 hk
theorem mhS_Value' (vs : List TValue) (hs : ∀ v ∈ vs, ∀ k : Int, 0 ≤ k → k + 30 * ((1 + wtL (TValue.enc v) : Nat) : Int) < 4611686018427387904 → ∃ (x' : TValue) (k' : Int), (MarkRow mT mTab ms41 TValue.enc v k x' k' ∧ (∀ (l : List (List DC)) (i : Nat), i < l.length → l.length ≤ 9223372036854775807 → l.getD i [] = TValue.enc x' → E_laws_heldValueSL1 [.sl l, .i k, .i (i : Int)] = .norm [.sl l, .i k', .i ((i + 1 : Nat) : Int)])) ∧ k ≤ k' ∧ k' ≤ k + 30 * ((1 + wtL (TValue.enc v) : Nat) : Int)) (k : Int) (h0 : 0 ≤ k) (hk : k + 30 * ((DC.wt (.sl (vs.map TValue.enc)) : Nat) : Int) < 4611686018427387904) : ∃ (vs' : List TValue) (k' : Int), Mk mT mTab 41 (vs.map TValue.enc) k (vs'.map TValue.enc) k' ∧ k ≤ k' ∧ k' ≤ k + 30 * ((DC.wt (.sl (vs.map TValue.enc)) : Nat) : Int) ∧ r_laws_heldValueS [.sl (vs'.map TValue.enc), .i k] = .ret [.i k'] := by
  obtain ⟨vs', k', m, b1, b2, c⟩ := mark_all (Q := fun k x' k' => ∀ (l : List (List DC)) (i : Nat), i < l.length → l.length ≤ 9223372036854775807 → l.getD i [] = TValue.enc x' → E_laws_heldValueSL1 [.sl l, .i k, .i (i : Int)] = .norm [.sl l, .i k', .i ((i + 1 : Nat) : Int)]) (f := 41) (ms := ms41) rfl vs hs h0 hk
  refine ⟨vs', k', m, b1, b2, ?_⟩
  have hl : vs.length ≤ DC.wt (.sl (vs.map TValue.enc)) := by simp [DC.wt]
  have hc := c.len
  have key : Loop E_laws_heldValueSL1 [.sl (vs'.map TValue.enc), .i k, .i (0 : Int)] = .ex 0 [.i k'] := held_loop c (fun l k => by simp [E_laws_heldValueSL1]) [] (by simp only [List.length_nil]; omega)
  rw [eq_laws_heldValueS]
  simp only [E_laws_heldValueS, List.getD_cons_zero, List.getD_cons_succ, DC.bb_b, DC.ii_i, DC.ss_s, DC.ll_sl, key, Out.andThenB]
  rfl
theorem mh_Value (v : TValue) : ∀ k : Int, 0 ≤ k → k + 30 * ((1 + wtL (TValue.enc v) : Nat) : Int) < 4611686018427387904 → ∃ (x' : TValue) (k' : Int), (MarkRow mT mTab ms41 TValue.enc v k x' k' ∧ (∀ (l : List (List DC)) (i : Nat), i < l.length → l.length ≤ 9223372036854775807 → l.getD i [] = TValue.enc x' → E_laws_heldValueSL1 [.sl l, .i k, .i (i : Int)] = .norm [.sl l, .i k', .i ((i + 1 : Nat) : Int)])) ∧ k ≤ k' ∧ k' ≤ k + 30 * ((1 + wtL (TValue.enc v) : Nat) : Int) := by
  induction v using TValue.ind with | h v ih =>
  intro k h0 hk
  rw [wsum_Value] at hk
  rw [wsum_Value]
  obtain ⟨a2, k2, ⟨n2, e2⟩, b2, c2, h2⟩ := mhS_Value' v.items (fun x hx => ih x hx) (k + 1 + 1) (by omega) (by omega)
  obtain ⟨a3, k3, ⟨n3, e3⟩, b3, c3, h3⟩ := mhS_String v.names (k2) (by omega) (by omega)
  refine ⟨⟨k, mtx (k + 1), a2, a3⟩, k3, ⟨⟨n2 + n3, fun m hm r => ?_⟩, ?_⟩, by omega, by omega⟩
  · refine ⟨k3, ?_⟩
    rw [TValue.enc_eq, TValue.enc_eq]
    refine rowActs_int (rowActs_inc (by omega) ?_)
    refine rowActs_txt (s := mtx (k + 1)) rfl (rowActs_inc (by omega) ?_)
    refine rowActs_sub (l := v.items.map TValue.enc) rfl (mkF_up (by omega) e2) (rowActs_upd ⟨by omega, by omega⟩ ?_)
    refine rowActs_sub (l := v.names.map S1) rfl (mkF_up (by omega) e3) (rowActs_upd ⟨by omega, by omega⟩ ?_)
    exact rfl
  · intro l i hi hl hg
    have w0 : IntKind.i64.wrap (k + 1) = k + 1 := wrap64 (by omega) (by omega)
    have m1 : E_laws_markText [.i (k + 1)] = .ret [.s (mtx (k + 1))] := mtx_eq (by omega) (by omega)
    have w1 : IntKind.i64.wrap (k + 1 + 1) = k + 1 + 1 := wrap64 (by omega) (by omega)
    have g2 : ¬ k2 < 0 := by omega
    have g3 : ¬ k3 < 0 := by omega
    have hc1 : (i : Int) < (l.length : Int) := by omega
    simp only [E_laws_heldValueSL1, List.getD_cons_zero, List.getD_cons_succ, DC.bb_b, DC.ii_i, DC.ss_s, DC.ll_sl, Int.toNat_natCast, hg, TValue.enc_eq, w0, m1, w1, h2, h3, eq_laws_markText, Out.bindR_ret]
    simp [hi, hc1, wrap_succ hi hl, g2, g3, w0, m1, w1, h2, h3]
theorem mhS_Value (vs : List TValue) (k : Int) (h0 : 0 ≤ k) (hk : k + 30 * ((DC.wt (.sl (vs.map TValue.enc)) : Nat) : Int) < 4611686018427387904) : ∃ (vs' : List TValue) (k' : Int), Mk mT mTab 41 (vs.map TValue.enc) k (vs'.map TValue.enc) k' ∧ k ≤ k' ∧ k' ≤ k + 30 * ((DC.wt (.sl (vs.map TValue.enc)) : Nat) : Int) ∧ r_laws_heldValueS [.sl (vs'.map TValue.enc), .i k] = .ret [.i k'] := mhS_Value' vs (fun v _ => mh_Value v) k h0 hk
theorem mh_Arg (v : TArg) : ∀ k : Int, 0 ≤ k → k + 30 * ((1 + wtL (TArg.enc v) : Nat) : Int) < 4611686018427387904 → ∃ (x' : TArg) (k' : Int), (MarkRow mT mTab ms84 TArg.enc v k x' k' ∧ (∀ (l : List (List DC)) (i : Nat), i < l.length → l.length ≤ 9223372036854775807 → l.getD i [] = TArg.enc x' → E_laws_heldArgSL1 [.sl l, .i k, .i (i : Int)] = .norm [.sl l, .i k', .i ((i + 1 : Nat) : Int)])) ∧ k ≤ k' ∧ k' ≤ k + 30 * ((1 + wtL (TArg.enc v) : Nat) : Int) := by
  intro k h0 hk
  rw [wsum_Arg, wsum_Value] at hk
  rw [wsum_Arg, wsum_Value]
  obtain ⟨a3, k3, ⟨n3, e3⟩, b3, c3, h3⟩ := mhS_Value v.value.items (k + 1 + 1 + 1) (by omega) (by omega)
  obtain ⟨a4, k4, ⟨n4, e4⟩, b4, c4, h4⟩ := mhS_String v.value.names (k3) (by omega) (by omega)
  refine ⟨⟨mtx (k), ⟨k + 1, mtx (k + 1 + 1), a3, a4⟩⟩, k4, ⟨⟨n3 + n4, fun m hm r => ?_⟩, ?_⟩, by omega, by omega⟩
  · refine ⟨k4, ?_⟩
    rw [TArg.enc_eq, TArg.enc_eq]
    refine rowActs_txt (s := mtx (k)) rfl (rowActs_inc (by omega) ?_)
    refine rowActs_int (rowActs_inc (by omega) ?_)
    refine rowActs_txt (s := mtx (k + 1 + 1)) rfl (rowActs_inc (by omega) ?_)
    refine rowActs_sub (l := v.value.items.map TValue.enc) rfl (mkF_up (by omega) e3) (rowActs_upd ⟨by omega, by omega⟩ ?_)
    refine rowActs_sub (l := v.value.names.map S1) rfl (mkF_up (by omega) e4) (rowActs_upd ⟨by omega, by omega⟩ ?_)
    exact rfl
  · intro l i hi hl hg
    have m0 : E_laws_markText [.i (k)] = .ret [.s (mtx (k))] := mtx_eq (by omega) (by omega)
    have w0 : IntKind.i64.wrap (k + 1) = k + 1 := wrap64 (by omega) (by omega)
    have w1 : IntKind.i64.wrap (k + 1 + 1) = k + 1 + 1 := wrap64 (by omega) (by omega)
    have m2 : E_laws_markText [.i (k + 1 + 1)] = .ret [.s (mtx (k + 1 + 1))] := mtx_eq (by omega) (by omega)
    have w2 : IntKind.i64.wrap (k + 1 + 1 + 1) = k + 1 + 1 + 1 := wrap64 (by omega) (by omega)
    have g3 : ¬ k3 < 0 := by omega
    have g4 : ¬ k4 < 0 := by omega
    have hc1 : (i : Int) < (l.length : Int) := by omega
    simp only [E_laws_heldArgSL1, List.getD_cons_zero, List.getD_cons_succ, DC.bb_b, DC.ii_i, DC.ss_s, DC.ll_sl, Int.toNat_natCast, hg, TArg.enc_eq, m0, w0, w1, m2, w2, h3, h4, eq_laws_markText, Out.bindR_ret]
    simp [hi, hc1, wrap_succ hi hl, g3, g4, m0, w0, w1, m2, w2, h3, h4]
theorem mhS_Arg' (vs : List TArg) (hs : ∀ v ∈ vs, ∀ k : Int, 0 ≤ k → k + 30 * ((1 + wtL (TArg.enc v) : Nat) : Int) < 4611686018427387904 → ∃ (x' : TArg) (k' : Int), (MarkRow mT mTab ms84 TArg.enc v k x' k' ∧ (∀ (l : List (List DC)) (i : Nat), i < l.length → l.length ≤ 9223372036854775807 → l.getD i [] = TArg.enc x' → E_laws_heldArgSL1 [.sl l, .i k, .i (i : Int)] = .norm [.sl l, .i k', .i ((i + 1 : Nat) : Int)])) ∧ k ≤ k' ∧ k' ≤ k + 30 * ((1 + wtL (TArg.enc v) : Nat) : Int)) (k : Int) (h0 : 0 ≤ k) (hk : k + 30 * ((DC.wt (.sl (vs.map TArg.enc)) : Nat) : Int) < 4611686018427387904) : ∃ (vs' : List TArg) (k' : Int), Mk mT mTab 84 (vs.map TArg.enc) k (vs'.map TArg.enc) k' ∧ k ≤ k' ∧ k' ≤ k + 30 * ((DC.wt (.sl (vs.map TArg.enc)) : Nat) : Int) ∧ r_laws_heldArgS [.sl (vs'.map TArg.enc), .i k] = .ret [.i k'] := by
  obtain ⟨vs', k', m, b1, b2, c⟩ := mark_all (Q := fun k x' k' => ∀ (l : List (List DC)) (i : Nat), i < l.length → l.length ≤ 9223372036854775807 → l.getD i [] = TArg.enc x' → E_laws_heldArgSL1 [.sl l, .i k, .i (i : Int)] = .norm [.sl l, .i k', .i ((i + 1 : Nat) : Int)]) (f := 84) (ms := ms84) rfl vs hs h0 hk
  refine ⟨vs', k', m, b1, b2, ?_⟩
  have hl : vs.length ≤ DC.wt (.sl (vs.map TArg.enc)) := by simp [DC.wt]
  have hc := c.len
  have key : Loop E_laws_heldArgSL1 [.sl (vs'.map TArg.enc), .i k, .i (0 : Int)] = .ex 0 [.i k'] := held_loop c (fun l k => by simp [E_laws_heldArgSL1]) [] (by simp only [List.length_nil]; omega)
  rw [eq_laws_heldArgS]
  simp only [E_laws_heldArgS, List.getD_cons_zero, List.getD_cons_succ, DC.bb_b, DC.ii_i, DC.ss_s, DC.ll_sl, key, Out.andThenB]
  rfl
theorem mhS_Arg (vs : List TArg) (k : Int) (h0 : 0 ≤ k) (hk : k + 30 * ((DC.wt (.sl (vs.map TArg.enc)) : Nat) : Int) < 4611686018427387904) : ∃ (vs' : List TArg) (k' : Int), Mk mT mTab 84 (vs.map TArg.enc) k (vs'.map TArg.enc) k' ∧ k ≤ k' ∧ k' ≤ k + 30 * ((DC.wt (.sl (vs.map TArg.enc)) : Nat) : Int) ∧ r_laws_heldArgS [.sl (vs'.map TArg.enc), .i k] = .ret [.i k'] := mhS_Arg' vs (fun v _ => mh_Arg v) k h0 hk
theorem mh_Dir (v : TDir) : ∀ k : Int, 0 ≤ k → k + 30 * ((1 + wtL (TDir.enc v) : Nat) : Int) < 4611686018427387904 → ∃ (x' : TDir) (k' : Int), (MarkRow mT mTab ms42 TDir.enc v k x' k' ∧ (∀ (l : List (List DC)) (i : Nat), i < l.length → l.length ≤ 9223372036854775807 → l.getD i [] = TDir.enc x' → E_laws_heldDirSL1 [.sl l, .i k, .i (i : Int)] = .norm [.sl l, .i k', .i ((i + 1 : Nat) : Int)])) ∧ k ≤ k' ∧ k' ≤ k + 30 * ((1 + wtL (TDir.enc v) : Nat) : Int) := by
  intro k h0 hk
  rw [wsum_Dir] at hk
  rw [wsum_Dir]
  obtain ⟨a1, k1, ⟨n1, e1⟩, b1, c1, h1⟩ := mhS_Arg v.args (k + 1) (by omega) (by omega)
  refine ⟨⟨mtx (k), a1⟩, k1, ⟨⟨n1, fun m hm r => ?_⟩, ?_⟩, by omega, by omega⟩
  · refine ⟨k1, ?_⟩
    rw [TDir.enc_eq, TDir.enc_eq]
    refine rowActs_txt (s := mtx (k)) rfl (rowActs_inc (by omega) ?_)
    refine rowActs_sub (l := v.args.map TArg.enc) rfl (mkF_up (by omega) e1) (rowActs_upd ⟨by omega, by omega⟩ ?_)
    exact rfl
  · intro l i hi hl hg
    have m0 : E_laws_markText [.i (k)] = .ret [.s (mtx (k))] := mtx_eq (by omega) (by omega)
    have w0 : IntKind.i64.wrap (k + 1) = k + 1 := wrap64 (by omega) (by omega)
    have g1 : ¬ k1 < 0 := by omega
    have hc1 : (i : Int) < (l.length : Int) := by omega
    simp only [E_laws_heldDirSL1, List.getD_cons_zero, List.getD_cons_succ, DC.bb_b, DC.ii_i, DC.ss_s, DC.ll_sl, Int.toNat_natCast, hg, TDir.enc_eq, m0, w0, h1, eq_laws_markText, Out.bindR_ret]
    simp [hi, hc1, wrap_succ hi hl, g1, m0, w0, h1]
theorem mhS_Dir' (vs : List TDir) (hs : ∀ v ∈ vs, ∀ k : Int, 0 ≤ k → k + 30 * ((1 + wtL (TDir.enc v) : Nat) : Int) < 4611686018427387904 → ∃ (x' : TDir) (k' : Int), (MarkRow mT mTab ms42 TDir.enc v k x' k' ∧ (∀ (l : List (List DC)) (i : Nat), i < l.length → l.length ≤ 9223372036854775807 → l.getD i [] = TDir.enc x' → E_laws_heldDirSL1 [.sl l, .i k, .i (i : Int)] = .norm [.sl l, .i k', .i ((i + 1 : Nat) : Int)])) ∧ k ≤ k' ∧ k' ≤ k + 30 * ((1 + wtL (TDir.enc v) : Nat) : Int)) (k : Int) (h0 : 0 ≤ k) (hk : k + 30 * ((DC.wt (.sl (vs.map TDir.enc)) : Nat) : Int) < 4611686018427387904) : ∃ (vs' : List TDir) (k' : Int), Mk mT mTab 42 (vs.map TDir.enc) k (vs'.map TDir.enc) k' ∧ k ≤ k' ∧ k' ≤ k + 30 * ((DC.wt (.sl (vs.map TDir.enc)) : Nat) : Int) ∧ r_laws_heldDirS [.sl (vs'.map TDir.enc), .i k] = .ret [.i k'] := by
  obtain ⟨vs', k', m, b1, b2, c⟩ := mark_all (Q := fun k x' k' => ∀ (l : List (List DC)) (i : Nat), i < l.length → l.length ≤ 9223372036854775807 → l.getD i [] = TDir.enc x' → E_laws_heldDirSL1 [.sl l, .i k, .i (i : Int)] = .norm [.sl l, .i k', .i ((i + 1 : Nat) : Int)]) (f := 42) (ms := ms42) rfl vs hs h0 hk
  refine ⟨vs', k', m, b1, b2, ?_⟩
  have hl : vs.length ≤ DC.wt (.sl (vs.map TDir.enc)) := by simp [DC.wt]
  have hc := c.len
  have key : Loop E_laws_heldDirSL1 [.sl (vs'.map TDir.enc), .i k, .i (0 : Int)] = .ex 0 [.i k'] := held_loop c (fun l k => by simp [E_laws_heldDirSL1]) [] (by simp only [List.length_nil]; omega)
  rw [eq_laws_heldDirS]
  simp only [E_laws_heldDirS, List.getD_cons_zero, List.getD_cons_succ, DC.bb_b, DC.ii_i, DC.ss_s, DC.ll_sl, key, Out.andThenB]
  rfl
theorem mhS_Dir (vs : List TDir) (k : Int) (h0 : 0 ≤ k) (hk : k + 30 * ((DC.wt (.sl (vs.map TDir.enc)) : Nat) : Int) < 4611686018427387904) : ∃ (vs' : List TDir) (k' : Int), Mk mT mTab 42 (vs.map TDir.enc) k (vs'.map TDir.enc) k' ∧ k ≤ k' ∧ k' ≤ k + 30 * ((DC.wt (.sl (vs.map TDir.enc)) : Nat) : Int) ∧ r_laws_heldDirS [.sl (vs'.map TDir.enc), .i k] = .ret [.i k'] := mhS_Dir' vs (fun v _ => mh_Dir v) k h0 hk
theorem mh_InDef (v : TInDef) : ∀ k : Int, 0 ≤ k → k + 30 * ((1 + wtL (TInDef.enc v) : Nat) : Int) < 4611686018427387904 → ∃ (x' : TInDef) (k' : Int), (MarkRow mT mTab ms13 TInDef.enc v k x' k' ∧ (∀ (l : List (List DC)) (i : Nat), i < l.length → l.length ≤ 9223372036854775807 → l.getD i [] = TInDef.enc x' → E_laws_heldInDefSL1 [.sl l, .i k, .i (i : Int)] = .norm [.sl l, .i k', .i ((i + 1 : Nat) : Int)])) ∧ k ≤ k' ∧ k' ≤ k + 30 * ((1 + wtL (TInDef.enc v) : Nat) : Int) := by
  intro k h0 hk
  rw [wsum_InDef, wsum_Type, wsum_Value] at hk
  rw [wsum_InDef, wsum_Type, wsum_Value]
  obtain ⟨a7, k7, ⟨n7, e7⟩, b7, c7, h7⟩ := mhS_Value v.default'.items (k + 1 + 1 + 1 + 1 + 1 + 1 + 1) (by omega) (by omega)
  obtain ⟨a8, k8, ⟨n8, e8⟩, b8, c8, h8⟩ := mhS_String v.default'.names (k7) (by omega) (by omega)
  obtain ⟨a9, k9, ⟨n9, e9⟩, b9, c9, h9⟩ := mhS_Dir v.dirs (k8) (by omega) (by omega)
  refine ⟨⟨mtx (k), mtx (k + 1), ⟨mtx (k + 1 + 1), mtx (k + 1 + 1 + 1)⟩, (k + 1 + 1 + 1 + 1) % 3 == 0, ⟨k + 1 + 1 + 1 + 1 + 1, mtx (k + 1 + 1 + 1 + 1 + 1 + 1), a7, a8⟩, a9⟩, k9, ⟨⟨n7 + n8 + n9, fun m hm r => ?_⟩, ?_⟩, by omega, by omega⟩
  · refine ⟨k9, ?_⟩
    rw [TInDef.enc_eq, TInDef.enc_eq]
    refine rowActs_txt (s := mtx (k)) rfl (rowActs_inc (by omega) ?_)
    refine rowActs_txt (s := mtx (k + 1)) rfl (rowActs_inc (by omega) ?_)
    refine rowActs_txt (s := mtx (k + 1 + 1)) rfl (rowActs_inc (by omega) ?_)
    refine rowActs_txt (s := mtx (k + 1 + 1 + 1)) rfl (rowActs_inc (by omega) ?_)
    refine rowActs_bool (rowActs_inc (by omega) ?_)
    refine rowActs_int (rowActs_inc (by omega) ?_)
    refine rowActs_txt (s := mtx (k + 1 + 1 + 1 + 1 + 1 + 1)) rfl (rowActs_inc (by omega) ?_)
    refine rowActs_sub (l := v.default'.items.map TValue.enc) rfl (mkF_up (by omega) e7) (rowActs_upd ⟨by omega, by omega⟩ ?_)
    refine rowActs_sub (l := v.default'.names.map S1) rfl (mkF_up (by omega) e8) (rowActs_upd ⟨by omega, by omega⟩ ?_)
    refine rowActs_sub (l := v.dirs.map TDir.enc) rfl (mkF_up (by omega) e9) (rowActs_upd ⟨by omega, by omega⟩ ?_)
    exact rfl
  · intro l i hi hl hg
    have m0 : E_laws_markText [.i (k)] = .ret [.s (mtx (k))] := mtx_eq (by omega) (by omega)
    have w0 : IntKind.i64.wrap (k + 1) = k + 1 := wrap64 (by omega) (by omega)
    have m1 : E_laws_markText [.i (k + 1)] = .ret [.s (mtx (k + 1))] := mtx_eq (by omega) (by omega)
    have w1 : IntKind.i64.wrap (k + 1 + 1) = k + 1 + 1 := wrap64 (by omega) (by omega)
    have m2 : E_laws_markText [.i (k + 1 + 1)] = .ret [.s (mtx (k + 1 + 1))] := mtx_eq (by omega) (by omega)
    have w2 : IntKind.i64.wrap (k + 1 + 1 + 1) = k + 1 + 1 + 1 := wrap64 (by omega) (by omega)
    have m3 : E_laws_markText [.i (k + 1 + 1 + 1)] = .ret [.s (mtx (k + 1 + 1 + 1))] := mtx_eq (by omega) (by omega)
    have w3 : IntKind.i64.wrap (k + 1 + 1 + 1 + 1) = k + 1 + 1 + 1 + 1 := wrap64 (by omega) (by omega)
    have t4 : Int.tmod (k + 1 + 1 + 1 + 1) 3 = (k + 1 + 1 + 1 + 1) % 3 := Int.tmod_eq_emod_of_nonneg (by omega)
    have w4 : IntKind.i64.wrap (k + 1 + 1 + 1 + 1 + 1) = k + 1 + 1 + 1 + 1 + 1 := wrap64 (by omega) (by omega)
    have w5 : IntKind.i64.wrap (k + 1 + 1 + 1 + 1 + 1 + 1) = k + 1 + 1 + 1 + 1 + 1 + 1 := wrap64 (by omega) (by omega)
    have m6 : E_laws_markText [.i (k + 1 + 1 + 1 + 1 + 1 + 1)] = .ret [.s (mtx (k + 1 + 1 + 1 + 1 + 1 + 1))] := mtx_eq (by omega) (by omega)
    have w6 : IntKind.i64.wrap (k + 1 + 1 + 1 + 1 + 1 + 1 + 1) = k + 1 + 1 + 1 + 1 + 1 + 1 + 1 := wrap64 (by omega) (by omega)
    have g7 : ¬ k7 < 0 := by omega
    have g8 : ¬ k8 < 0 := by omega
    have g9 : ¬ k9 < 0 := by omega
    have hc1 : (i : Int) < (l.length : Int) := by omega
    simp only [E_laws_heldInDefSL1, List.getD_cons_zero, List.getD_cons_succ, DC.bb_b, DC.ii_i, DC.ss_s, DC.ll_sl, Int.toNat_natCast, hg, TInDef.enc_eq, m0, w0, m1, w1, m2, w2, m3, w3, t4, w4, w5, m6, w6, h7, h8, h9, eq_laws_markText, Out.bindR_ret]
    simp [hi, hc1, wrap_succ hi hl, g7, g8, g9, m0, w0, m1, w1, m2, w2, m3, w3, t4, w4, w5, m6, w6, h7, h8, h9]
theorem mhS_InDef' (vs : List TInDef) (hs : ∀ v ∈ vs, ∀ k : Int, 0 ≤ k → k + 30 * ((1 + wtL (TInDef.enc v) : Nat) : Int) < 4611686018427387904 → ∃ (x' : TInDef) (k' : Int), (MarkRow mT mTab ms13 TInDef.enc v k x' k' ∧ (∀ (l : List (List DC)) (i : Nat), i < l.length → l.length ≤ 9223372036854775807 → l.getD i [] = TInDef.enc x' → E_laws_heldInDefSL1 [.sl l, .i k, .i (i : Int)] = .norm [.sl l, .i k', .i ((i + 1 : Nat) : Int)])) ∧ k ≤ k' ∧ k' ≤ k + 30 * ((1 + wtL (TInDef.enc v) : Nat) : Int)) (k : Int) (h0 : 0 ≤ k) (hk : k + 30 * ((DC.wt (.sl (vs.map TInDef.enc)) : Nat) : Int) < 4611686018427387904) : ∃ (vs' : List TInDef) (k' : Int), Mk mT mTab 13 (vs.map TInDef.enc) k (vs'.map TInDef.enc) k' ∧ k ≤ k' ∧ k' ≤ k + 30 * ((DC.wt (.sl (vs.map TInDef.enc)) : Nat) : Int) ∧ r_laws_heldInDefS [.sl (vs'.map TInDef.enc), .i k] = .ret [.i k'] := by
  obtain ⟨vs', k', m, b1, b2, c⟩ := mark_all (Q := fun k x' k' => ∀ (l : List (List DC)) (i : Nat), i < l.length → l.length ≤ 9223372036854775807 → l.getD i [] = TInDef.enc x' → E_laws_heldInDefSL1 [.sl l, .i k, .i (i : Int)] = .norm [.sl l, .i k', .i ((i + 1 : Nat) : Int)]) (f := 13) (ms := ms13) rfl vs hs h0 hk
  refine ⟨vs', k', m, b1, b2, ?_⟩
  have hl : vs.length ≤ DC.wt (.sl (vs.map TInDef.enc)) := by simp [DC.wt]
  have hc := c.len
  have key : Loop E_laws_heldInDefSL1 [.sl (vs'.map TInDef.enc), .i k, .i (0 : Int)] = .ex 0 [.i k'] := held_loop c (fun l k => by simp [E_laws_heldInDefSL1]) [] (by simp only [List.length_nil]; omega)
  rw [eq_laws_heldInDefS]
  simp only [E_laws_heldInDefS, List.getD_cons_zero, List.getD_cons_succ, DC.bb_b, DC.ii_i, DC.ss_s, DC.ll_sl, key, Out.andThenB]
  rfl
theorem mhS_InDef (vs : List TInDef) (k : Int) (h0 : 0 ≤ k) (hk : k + 30 * ((DC.wt (.sl (vs.map TInDef.enc)) : Nat) : Int) < 4611686018427387904) : ∃ (vs' : List TInDef) (k' : Int), Mk mT mTab 13 (vs.map TInDef.enc) k (vs'.map TInDef.enc) k' ∧ k ≤ k' ∧ k' ≤ k + 30 * ((DC.wt (.sl (vs.map TInDef.enc)) : Nat) : Int) ∧ r_laws_heldInDefS [.sl (vs'.map TInDef.enc), .i k] = .ret [.i k'] := mhS_InDef' vs (fun v _ => mh_InDef v) k h0 hk
theorem mh_FieldDef (v : TFieldDef) : ∀ k : Int, 0 ≤ k → k + 30 * ((1 + wtL (TFieldDef.enc v) : Nat) : Int) < 4611686018427387904 → ∃ (x' : TFieldDef) (k' : Int), (MarkRow mT mTab ms55 TFieldDef.enc v k x' k' ∧ (∀ (l : List (List DC)) (i : Nat), i < l.length → l.length ≤ 9223372036854775807 → l.getD i [] = TFieldDef.enc x' → E_laws_heldFieldDefSL1 [.sl l, .i k, .i (i : Int)] = .norm [.sl l, .i k', .i ((i + 1 : Nat) : Int)])) ∧ k ≤ k' ∧ k' ≤ k + 30 * ((1 + wtL (TFieldDef.enc v) : Nat) : Int) := by
  intro k h0 hk
  rw [wsum_FieldDef, wsum_Type] at hk
  rw [wsum_FieldDef, wsum_Type]
  obtain ⟨a2, k2, ⟨n2, e2⟩, b2, c2, h2⟩ := mhS_InDef v.args (k + 1 + 1) (by omega) (by omega)
  obtain ⟨a5, k5, ⟨n5, e5⟩, b5, c5, h5⟩ := mhS_Dir v.dirs (k2 + 1 + 1) (by omega) (by omega)
  refine ⟨⟨mtx (k), mtx (k + 1), a2, ⟨mtx (k2), mtx (k2 + 1)⟩, a5⟩, k5, ⟨⟨n2 + n5, fun m hm r => ?_⟩, ?_⟩, by omega, by omega⟩
  · refine ⟨k5, ?_⟩
    rw [TFieldDef.enc_eq, TFieldDef.enc_eq]
    refine rowActs_txt (s := mtx (k)) rfl (rowActs_inc (by omega) ?_)
    refine rowActs_txt (s := mtx (k + 1)) rfl (rowActs_inc (by omega) ?_)
    refine rowActs_sub (l := v.args.map TInDef.enc) rfl (mkF_up (by omega) e2) (rowActs_upd ⟨by omega, by omega⟩ ?_)
    refine rowActs_txt (s := mtx (k2)) rfl (rowActs_inc (by omega) ?_)
    refine rowActs_txt (s := mtx (k2 + 1)) rfl (rowActs_inc (by omega) ?_)
    refine rowActs_sub (l := v.dirs.map TDir.enc) rfl (mkF_up (by omega) e5) (rowActs_upd ⟨by omega, by omega⟩ ?_)
    exact rfl
  · intro l i hi hl hg
    have m0 : E_laws_markText [.i (k)] = .ret [.s (mtx (k))] := mtx_eq (by omega) (by omega)
    have w0 : IntKind.i64.wrap (k + 1) = k + 1 := wrap64 (by omega) (by omega)
    have m1 : E_laws_markText [.i (k + 1)] = .ret [.s (mtx (k + 1))] := mtx_eq (by omega) (by omega)
    have w1 : IntKind.i64.wrap (k + 1 + 1) = k + 1 + 1 := wrap64 (by omega) (by omega)
    have g2 : ¬ k2 < 0 := by omega
    have m3 : E_laws_markText [.i (k2)] = .ret [.s (mtx (k2))] := mtx_eq (by omega) (by omega)
    have w3 : IntKind.i64.wrap (k2 + 1) = k2 + 1 := wrap64 (by omega) (by omega)
    have m4 : E_laws_markText [.i (k2 + 1)] = .ret [.s (mtx (k2 + 1))] := mtx_eq (by omega) (by omega)
    have w4 : IntKind.i64.wrap (k2 + 1 + 1) = k2 + 1 + 1 := wrap64 (by omega) (by omega)
    have g5 : ¬ k5 < 0 := by omega
    have hc1 : (i : Int) < (l.length : Int) := by omega
    simp only [E_laws_heldFieldDefSL1, List.getD_cons_zero, List.getD_cons_succ, DC.bb_b, DC.ii_i, DC.ss_s, DC.ll_sl, Int.toNat_natCast, hg, TFieldDef.enc_eq, m0, w0, m1, w1, h2, m3, w3, m4, w4, h5, eq_laws_markText, Out.bindR_ret]
    simp [hi, hc1, wrap_succ hi hl, g2, g5, m0, w0, m1, w1, h2, m3, w3, m4, w4, h5]
theorem mhS_FieldDef' (vs : List TFieldDef) (hs : ∀ v ∈ vs, ∀ k : Int, 0 ≤ k → k + 30 * ((1 + wtL (TFieldDef.enc v) : Nat) : Int) < 4611686018427387904 → ∃ (x' : TFieldDef) (k' : Int), (MarkRow mT mTab ms55 TFieldDef.enc v k x' k' ∧ (∀ (l : List (List DC)) (i : Nat), i < l.length → l.length ≤ 9223372036854775807 → l.getD i [] = TFieldDef.enc x' → E_laws_heldFieldDefSL1 [.sl l, .i k, .i (i : Int)] = .norm [.sl l, .i k', .i ((i + 1 : Nat) : Int)])) ∧ k ≤ k' ∧ k' ≤ k + 30 * ((1 + wtL (TFieldDef.enc v) : Nat) : Int)) (k : Int) (h0 : 0 ≤ k) (hk : k + 30 * ((DC.wt (.sl (vs.map TFieldDef.enc)) : Nat) : Int) < 4611686018427387904) : ∃ (vs' : List TFieldDef) (k' : Int), Mk mT mTab 55 (vs.map TFieldDef.enc) k (vs'.map TFieldDef.enc) k' ∧ k ≤ k' ∧ k' ≤ k + 30 * ((DC.wt (.sl (vs.map TFieldDef.enc)) : Nat) : Int) ∧ r_laws_heldFieldDefS [.sl (vs'.map TFieldDef.enc), .i k] = .ret [.i k'] := by
  obtain ⟨vs', k', m, b1, b2, c⟩ := mark_all (Q := fun k x' k' => ∀ (l : List (List DC)) (i : Nat), i < l.length → l.length ≤ 9223372036854775807 → l.getD i [] = TFieldDef.enc x' → E_laws_heldFieldDefSL1 [.sl l, .i k, .i (i : Int)] = .norm [.sl l, .i k', .i ((i + 1 : Nat) : Int)]) (f := 55) (ms := ms55) rfl vs hs h0 hk
  refine ⟨vs', k', m, b1, b2, ?_⟩
  have hl : vs.length ≤ DC.wt (.sl (vs.map TFieldDef.enc)) := by simp [DC.wt]
  have hc := c.len
  have key : Loop E_laws_heldFieldDefSL1 [.sl (vs'.map TFieldDef.enc), .i k, .i (0 : Int)] = .ex 0 [.i k'] := held_loop c (fun l k => by simp [E_laws_heldFieldDefSL1]) [] (by simp only [List.length_nil]; omega)
  rw [eq_laws_heldFieldDefS]
  simp only [E_laws_heldFieldDefS, List.getD_cons_zero, List.getD_cons_succ, DC.bb_b, DC.ii_i, DC.ss_s, DC.ll_sl, key, Out.andThenB]
  rfl
theorem mhS_FieldDef (vs : List TFieldDef) (k : Int) (h0 : 0 ≤ k) (hk : k + 30 * ((DC.wt (.sl (vs.map TFieldDef.enc)) : Nat) : Int) < 4611686018427387904) : ∃ (vs' : List TFieldDef) (k' : Int), Mk mT mTab 55 (vs.map TFieldDef.enc) k (vs'.map TFieldDef.enc) k' ∧ k ≤ k' ∧ k' ≤ k + 30 * ((DC.wt (.sl (vs.map TFieldDef.enc)) : Nat) : Int) ∧ r_laws_heldFieldDefS [.sl (vs'.map TFieldDef.enc), .i k] = .ret [.i k'] := mhS_FieldDef' vs (fun v _ => mh_FieldDef v) k h0 hk
theorem mh_EnumDef (v : TEnumDef) : ∀ k : Int, 0 ≤ k → k + 30 * ((1 + wtL (TEnumDef.enc v) : Nat) : Int) < 4611686018427387904 → ∃ (x' : TEnumDef) (k' : Int), (MarkRow mT mTab ms56 TEnumDef.enc v k x' k' ∧ (∀ (l : List (List DC)) (i : Nat), i < l.length → l.length ≤ 9223372036854775807 → l.getD i [] = TEnumDef.enc x' → E_laws_heldEnumDefSL1 [.sl l, .i k, .i (i : Int)] = .norm [.sl l, .i k', .i ((i + 1 : Nat) : Int)])) ∧ k ≤ k' ∧ k' ≤ k + 30 * ((1 + wtL (TEnumDef.enc v) : Nat) : Int) := by
  intro k h0 hk
  rw [wsum_EnumDef] at hk
  rw [wsum_EnumDef]
  obtain ⟨a2, k2, ⟨n2, e2⟩, b2, c2, h2⟩ := mhS_Dir v.dirs (k + 1 + 1) (by omega) (by omega)
  refine ⟨⟨mtx (k), mtx (k + 1), a2⟩, k2, ⟨⟨n2, fun m hm r => ?_⟩, ?_⟩, by omega, by omega⟩
  · refine ⟨k2, ?_⟩
    rw [TEnumDef.enc_eq, TEnumDef.enc_eq]
    refine rowActs_txt (s := mtx (k)) rfl (rowActs_inc (by omega) ?_)
    refine rowActs_txt (s := mtx (k + 1)) rfl (rowActs_inc (by omega) ?_)
    refine rowActs_sub (l := v.dirs.map TDir.enc) rfl (mkF_up (by omega) e2) (rowActs_upd ⟨by omega, by omega⟩ ?_)
    exact rfl
  · intro l i hi hl hg
    have m0 : E_laws_markText [.i (k)] = .ret [.s (mtx (k))] := mtx_eq (by omega) (by omega)
    have w0 : IntKind.i64.wrap (k + 1) = k + 1 := wrap64 (by omega) (by omega)
    have m1 : E_laws_markText [.i (k + 1)] = .ret [.s (mtx (k + 1))] := mtx_eq (by omega) (by omega)
    have w1 : IntKind.i64.wrap (k + 1 + 1) = k + 1 + 1 := wrap64 (by omega) (by omega)
    have g2 : ¬ k2 < 0 := by omega
    have hc1 : (i : Int) < (l.length : Int) := by omega
    simp only [E_laws_heldEnumDefSL1, List.getD_cons_zero, List.getD_cons_succ, DC.bb_b, DC.ii_i, DC.ss_s, DC.ll_sl, Int.toNat_natCast, hg, TEnumDef.enc_eq, m0, w0, m1, w1, h2, eq_laws_markText, Out.bindR_ret]
    simp [hi, hc1, wrap_succ hi hl, g2, m0, w0, m1, w1, h2]
theorem mhS_EnumDef' (vs : List TEnumDef) (hs : ∀ v ∈ vs, ∀ k : Int, 0 ≤ k → k + 30 * ((1 + wtL (TEnumDef.enc v) : Nat) : Int) < 4611686018427387904 → ∃ (x' : TEnumDef) (k' : Int), (MarkRow mT mTab ms56 TEnumDef.enc v k x' k' ∧ (∀ (l : List (List DC)) (i : Nat), i < l.length → l.length ≤ 9223372036854775807 → l.getD i [] = TEnumDef.enc x' → E_laws_heldEnumDefSL1 [.sl l, .i k, .i (i : Int)] = .norm [.sl l, .i k', .i ((i + 1 : Nat) : Int)])) ∧ k ≤ k' ∧ k' ≤ k + 30 * ((1 + wtL (TEnumDef.enc v) : Nat) : Int)) (k : Int) (h0 : 0 ≤ k) (hk : k + 30 * ((DC.wt (.sl (vs.map TEnumDef.enc)) : Nat) : Int) < 4611686018427387904) : ∃ (vs' : List TEnumDef) (k' : Int), Mk mT mTab 56 (vs.map TEnumDef.enc) k (vs'.map TEnumDef.enc) k' ∧ k ≤ k' ∧ k' ≤ k + 30 * ((DC.wt (.sl (vs.map TEnumDef.enc)) : Nat) : Int) ∧ r_laws_heldEnumDefS [.sl (vs'.map TEnumDef.enc), .i k] = .ret [.i k'] := by
  obtain ⟨vs', k', m, b1, b2, c⟩ := mark_all (Q := fun k x' k' => ∀ (l : List (List DC)) (i : Nat), i < l.length → l.length ≤ 9223372036854775807 → l.getD i [] = TEnumDef.enc x' → E_laws_heldEnumDefSL1 [.sl l, .i k, .i (i : Int)] = .norm [.sl l, .i k', .i ((i + 1 : Nat) : Int)]) (f := 56) (ms := ms56) rfl vs hs h0 hk
  refine ⟨vs', k', m, b1, b2, ?_⟩
  have hl : vs.length ≤ DC.wt (.sl (vs.map TEnumDef.enc)) := by simp [DC.wt]
  have hc := c.len
  have key : Loop E_laws_heldEnumDefSL1 [.sl (vs'.map TEnumDef.enc), .i k, .i (0 : Int)] = .ex 0 [.i k'] := held_loop c (fun l k => by simp [E_laws_heldEnumDefSL1]) [] (by simp only [List.length_nil]; omega)
  rw [eq_laws_heldEnumDefS]
  simp only [E_laws_heldEnumDefS, List.getD_cons_zero, List.getD_cons_succ, DC.bb_b, DC.ii_i, DC.ss_s, DC.ll_sl, key, Out.andThenB]
  rfl
theorem mhS_EnumDef (vs : List TEnumDef) (k : Int) (h0 : 0 ≤ k) (hk : k + 30 * ((DC.wt (.sl (vs.map TEnumDef.enc)) : Nat) : Int) < 4611686018427387904) : ∃ (vs' : List TEnumDef) (k' : Int), Mk mT mTab 56 (vs.map TEnumDef.enc) k (vs'.map TEnumDef.enc) k' ∧ k ≤ k' ∧ k' ≤ k + 30 * ((DC.wt (.sl (vs.map TEnumDef.enc)) : Nat) : Int) ∧ r_laws_heldEnumDefS [.sl (vs'.map TEnumDef.enc), .i k] = .ret [.i k'] := mhS_EnumDef' vs (fun v _ => mh_EnumDef v) k h0 hk
theorem mh_Root (v : TRoot) : ∀ k : Int, 0 ≤ k → k + 30 * ((1 + wtL (TRoot.enc v) : Nat) : Int) < 4611686018427387904 → ∃ (x' : TRoot) (k' : Int), (MarkRow mT mTab ms57 TRoot.enc v k x' k' ∧ (∀ (l : List (List DC)) (i : Nat), i < l.length → l.length ≤ 9223372036854775807 → l.getD i [] = TRoot.enc x' → E_laws_heldRootSL1 [.sl l, .i k, .i (i : Int)] = .norm [.sl l, .i k', .i ((i + 1 : Nat) : Int)])) ∧ k ≤ k' ∧ k' ≤ k + 30 * ((1 + wtL (TRoot.enc v) : Nat) : Int) := by
  intro k h0 hk
  rw [wsum_Root] at hk
  rw [wsum_Root]
  refine ⟨⟨k, mtx (k + 1)⟩, k + 1 + 1, ⟨⟨0, fun m hm r => ?_⟩, ?_⟩, by omega, by omega⟩
  · refine ⟨r, ?_⟩
    rw [TRoot.enc_eq, TRoot.enc_eq]
    refine rowActs_int (rowActs_inc (by omega) ?_)
    refine rowActs_txt (s := mtx (k + 1)) rfl (rowActs_inc (by omega) ?_)
    exact rfl
  · intro l i hi hl hg
    have w0 : IntKind.i64.wrap (k + 1) = k + 1 := wrap64 (by omega) (by omega)
    have m1 : E_laws_markText [.i (k + 1)] = .ret [.s (mtx (k + 1))] := mtx_eq (by omega) (by omega)
    have w1 : IntKind.i64.wrap (k + 1 + 1) = k + 1 + 1 := wrap64 (by omega) (by omega)
    have hc1 : (i : Int) < (l.length : Int) := by omega
    simp only [E_laws_heldRootSL1, List.getD_cons_zero, List.getD_cons_succ, DC.bb_b, DC.ii_i, DC.ss_s, DC.ll_sl, Int.toNat_natCast, hg, TRoot.enc_eq, w0, m1, w1, eq_laws_markText, Out.bindR_ret]
    simp [hi, hc1, wrap_succ hi hl, w0, m1, w1]
theorem mhS_Root' (vs : List TRoot) (hs : ∀ v ∈ vs, ∀ k : Int, 0 ≤ k → k + 30 * ((1 + wtL (TRoot.enc v) : Nat) : Int) < 4611686018427387904 → ∃ (x' : TRoot) (k' : Int), (MarkRow mT mTab ms57 TRoot.enc v k x' k' ∧ (∀ (l : List (List DC)) (i : Nat), i < l.length → l.length ≤ 9223372036854775807 → l.getD i [] = TRoot.enc x' → E_laws_heldRootSL1 [.sl l, .i k, .i (i : Int)] = .norm [.sl l, .i k', .i ((i + 1 : Nat) : Int)])) ∧ k ≤ k' ∧ k' ≤ k + 30 * ((1 + wtL (TRoot.enc v) : Nat) : Int)) (k : Int) (h0 : 0 ≤ k) (hk : k + 30 * ((DC.wt (.sl (vs.map TRoot.enc)) : Nat) : Int) < 4611686018427387904) : ∃ (vs' : List TRoot) (k' : Int), Mk mT mTab 57 (vs.map TRoot.enc) k (vs'.map TRoot.enc) k' ∧ k ≤ k' ∧ k' ≤ k + 30 * ((DC.wt (.sl (vs.map TRoot.enc)) : Nat) : Int) ∧ r_laws_heldRootS [.sl (vs'.map TRoot.enc), .i k] = .ret [.i k'] := by
  obtain ⟨vs', k', m, b1, b2, c⟩ := mark_all (Q := fun k x' k' => ∀ (l : List (List DC)) (i : Nat), i < l.length → l.length ≤ 9223372036854775807 → l.getD i [] = TRoot.enc x' → E_laws_heldRootSL1 [.sl l, .i k, .i (i : Int)] = .norm [.sl l, .i k', .i ((i + 1 : Nat) : Int)]) (f := 57) (ms := ms57) rfl vs hs h0 hk
  refine ⟨vs', k', m, b1, b2, ?_⟩
  have hl : vs.length ≤ DC.wt (.sl (vs.map TRoot.enc)) := by simp [DC.wt]
  have hc := c.len
  have key : Loop E_laws_heldRootSL1 [.sl (vs'.map TRoot.enc), .i k, .i (0 : Int)] = .ex 0 [.i k'] := held_loop c (fun l k => by simp [E_laws_heldRootSL1]) [] (by simp only [List.length_nil]; omega)
  rw [eq_laws_heldRootS]
  simp only [E_laws_heldRootS, List.getD_cons_zero, List.getD_cons_succ, DC.bb_b, DC.ii_i, DC.ss_s, DC.ll_sl, key, Out.andThenB]
  rfl
theorem mhS_Root (vs : List TRoot) (k : Int) (h0 : 0 ≤ k) (hk : k + 30 * ((DC.wt (.sl (vs.map TRoot.enc)) : Nat) : Int) < 4611686018427387904) : ∃ (vs' : List TRoot) (k' : Int), Mk mT mTab 57 (vs.map TRoot.enc) k (vs'.map TRoot.enc) k' ∧ k ≤ k' ∧ k' ≤ k + 30 * ((DC.wt (.sl (vs.map TRoot.enc)) : Nat) : Int) ∧ r_laws_heldRootS [.sl (vs'.map TRoot.enc), .i k] = .ret [.i k'] := mhS_Root' vs (fun v _ => mh_Root v) k h0 hk
theorem mh_Def (v : TDef) : ∀ k : Int, 0 ≤ k → k + 30 * ((1 + wtL (TDef.enc v) : Nat) : Int) < 4611686018427387904 → ∃ (x' : TDef) (k' : Int), (MarkRow mT mTab ms26 TDef.enc v k x' k' ∧ (∀ (l : List (List DC)) (i : Nat), i < l.length → l.length ≤ 9223372036854775807 → l.getD i [] = TDef.enc x' → E_laws_heldDefSL1 [.sl l, .i k, .i (i : Int)] = .norm [.sl l, .i k', .i ((i + 1 : Nat) : Int)])) ∧ k ≤ k' ∧ k' ≤ k + 30 * ((1 + wtL (TDef.enc v) : Nat) : Int) := by
  intro k h0 hk
  rw [wsum_Def] at hk
  rw [wsum_Def]
  obtain ⟨a4, k4, ⟨n4, e4⟩, b4, c4, h4⟩ := mhS_String v.faces (k + 1 + 1 + 1 + 1) (by omega) (by omega)
  obtain ⟨a5, k5, ⟨n5, e5⟩, b5, c5, h5⟩ := mhS_FieldDef v.fields (k4) (by omega) (by omega)
  obtain ⟨a6, k6, ⟨n6, e6⟩, b6, c6, h6⟩ := mhS_InDef v.inputs (k5) (by omega) (by omega)
  obtain ⟨a7, k7, ⟨n7, e7⟩, b7, c7, h7⟩ := mhS_EnumDef v.values (k6) (by omega) (by omega)
  obtain ⟨a8, k8, ⟨n8, e8⟩, b8, c8, h8⟩ := mhS_Root v.roots (k7) (by omega) (by omega)
  obtain ⟨a10, k10, ⟨n10, e10⟩, b10, c10, h10⟩ := mhS_Dir v.dirs (k8 + 1) (by omega) (by omega)
  refine ⟨⟨k, (k + 1) % 3 == 0, mtx (k + 1 + 1), mtx (k + 1 + 1 + 1), a4, a5, a6, a7, a8, (k8) % 3 == 0, a10⟩, k10, ⟨⟨n4 + n5 + n6 + n7 + n8 + n10, fun m hm r => ?_⟩, ?_⟩, by omega, by omega⟩
  · refine ⟨k10, ?_⟩
    rw [TDef.enc_eq, TDef.enc_eq]
    refine rowActs_int (rowActs_inc (by omega) ?_)
    refine rowActs_bool (rowActs_inc (by omega) ?_)
    refine rowActs_txt (s := mtx (k + 1 + 1)) rfl (rowActs_inc (by omega) ?_)
    refine rowActs_txt (s := mtx (k + 1 + 1 + 1)) rfl (rowActs_inc (by omega) ?_)
    refine rowActs_sub (l := v.faces.map S1) rfl (mkF_up (by omega) e4) (rowActs_upd ⟨by omega, by omega⟩ ?_)
    refine rowActs_sub (l := v.fields.map TFieldDef.enc) rfl (mkF_up (by omega) e5) (rowActs_upd ⟨by omega, by omega⟩ ?_)
    refine rowActs_sub (l := v.inputs.map TInDef.enc) rfl (mkF_up (by omega) e6) (rowActs_upd ⟨by omega, by omega⟩ ?_)
    refine rowActs_sub (l := v.values.map TEnumDef.enc) rfl (mkF_up (by omega) e7) (rowActs_upd ⟨by omega, by omega⟩ ?_)
    refine rowActs_sub (l := v.roots.map TRoot.enc) rfl (mkF_up (by omega) e8) (rowActs_upd ⟨by omega, by omega⟩ ?_)
    refine rowActs_bool (rowActs_inc (by omega) ?_)
    refine rowActs_sub (l := v.dirs.map TDir.enc) rfl (mkF_up (by omega) e10) (rowActs_upd ⟨by omega, by omega⟩ ?_)
    exact rfl
  · intro l i hi hl hg
    have w0 : IntKind.i64.wrap (k + 1) = k + 1 := wrap64 (by omega) (by omega)
    have t1 : Int.tmod (k + 1) 3 = (k + 1) % 3 := Int.tmod_eq_emod_of_nonneg (by omega)
    have w1 : IntKind.i64.wrap (k + 1 + 1) = k + 1 + 1 := wrap64 (by omega) (by omega)
    have m2 : E_laws_markText [.i (k + 1 + 1)] = .ret [.s (mtx (k + 1 + 1))] := mtx_eq (by omega) (by omega)
    have w2 : IntKind.i64.wrap (k + 1 + 1 + 1) = k + 1 + 1 + 1 := wrap64 (by omega) (by omega)
    have m3 : E_laws_markText [.i (k + 1 + 1 + 1)] = .ret [.s (mtx (k + 1 + 1 + 1))] := mtx_eq (by omega) (by omega)
    have w3 : IntKind.i64.wrap (k + 1 + 1 + 1 + 1) = k + 1 + 1 + 1 + 1 := wrap64 (by omega) (by omega)
    have g4 : ¬ k4 < 0 := by omega
    have g5 : ¬ k5 < 0 := by omega
    have g6 : ¬ k6 < 0 := by omega
    have g7 : ¬ k7 < 0 := by omega
    have g8 : ¬ k8 < 0 := by omega
    have t9 : Int.tmod (k8) 3 = (k8) % 3 := Int.tmod_eq_emod_of_nonneg (by omega)
    have w9 : IntKind.i64.wrap (k8 + 1) = k8 + 1 := wrap64 (by omega) (by omega)
    have g10 : ¬ k10 < 0 := by omega
    have hc1 : (i : Int) < (l.length : Int) := by omega
    simp only [E_laws_heldDefSL1, List.getD_cons_zero, List.getD_cons_succ, DC.bb_b, DC.ii_i, DC.ss_s, DC.ll_sl, Int.toNat_natCast, hg, TDef.enc_eq, w0, t1, w1, m2, w2, m3, w3, h4, h5, h6, h7, h8, t9, w9, h10, eq_laws_markText, Out.bindR_ret]
    simp [hi, hc1, wrap_succ hi hl, g4, g5, g6, g7, g8, g10, w0, t1, w1, m2, w2, m3, w3, h4, h5, h6, h7, h8, t9, w9, h10]
theorem mhS_Def' (vs : List TDef) (hs : ∀ v ∈ vs, ∀ k : Int, 0 ≤ k → k + 30 * ((1 + wtL (TDef.enc v) : Nat) : Int) < 4611686018427387904 → ∃ (x' : TDef) (k' : Int), (MarkRow mT mTab ms26 TDef.enc v k x' k' ∧ (∀ (l : List (List DC)) (i : Nat), i < l.length → l.length ≤ 9223372036854775807 → l.getD i [] = TDef.enc x' → E_laws_heldDefSL1 [.sl l, .i k, .i (i : Int)] = .norm [.sl l, .i k', .i ((i + 1 : Nat) : Int)])) ∧ k ≤ k' ∧ k' ≤ k + 30 * ((1 + wtL (TDef.enc v) : Nat) : Int)) (k : Int) (h0 : 0 ≤ k) (hk : k + 30 * ((DC.wt (.sl (vs.map TDef.enc)) : Nat) : Int) < 4611686018427387904) : ∃ (vs' : List TDef) (k' : Int), Mk mT mTab 26 (vs.map TDef.enc) k (vs'.map TDef.enc) k' ∧ k ≤ k' ∧ k' ≤ k + 30 * ((DC.wt (.sl (vs.map TDef.enc)) : Nat) : Int) ∧ r_laws_heldDefS [.sl (vs'.map TDef.enc), .i k] = .ret [.i k'] := by
  obtain ⟨vs', k', m, b1, b2, c⟩ := mark_all (Q := fun k x' k' => ∀ (l : List (List DC)) (i : Nat), i < l.length → l.length ≤ 9223372036854775807 → l.getD i [] = TDef.enc x' → E_laws_heldDefSL1 [.sl l, .i k, .i (i : Int)] = .norm [.sl l, .i k', .i ((i + 1 : Nat) : Int)]) (f := 26) (ms := ms26) rfl vs hs h0 hk
  refine ⟨vs', k', m, b1, b2, ?_⟩
  have hl : vs.length ≤ DC.wt (.sl (vs.map TDef.enc)) := by simp [DC.wt]
  have hc := c.len
  have key : Loop E_laws_heldDefSL1 [.sl (vs'.map TDef.enc), .i k, .i (0 : Int)] = .ex 0 [.i k'] := held_loop c (fun l k => by simp [E_laws_heldDefSL1]) [] (by simp only [List.length_nil]; omega)
  rw [eq_laws_heldDefS]
  simp only [E_laws_heldDefS, List.getD_cons_zero, List.getD_cons_succ, DC.bb_b, DC.ii_i, DC.ss_s, DC.ll_sl, key, Out.andThenB]
  rfl
theorem mhS_Def (vs : List TDef) (k : Int) (h0 : 0 ≤ k) (hk : k + 30 * ((DC.wt (.sl (vs.map TDef.enc)) : Nat) : Int) < 4611686018427387904) : ∃ (vs' : List TDef) (k' : Int), Mk mT mTab 26 (vs.map TDef.enc) k (vs'.map TDef.enc) k' ∧ k ≤ k' ∧ k' ≤ k + 30 * ((DC.wt (.sl (vs.map TDef.enc)) : Nat) : Int) ∧ r_laws_heldDefS [.sl (vs'.map TDef.enc), .i k] = .ret [.i k'] := mhS_Def' vs (fun v _ => mh_Def v) k h0 hk
def bdFlow (n : List UInt8) : TDef := ⟨7, false, [], n, [[70, 73, 69, 76, 68], [70, 82, 65, 71, 77, 69, 78, 84, 95, 83, 80, 82, 69, 65, 68], [73, 78, 76, 73, 78, 69, 95, 70, 82, 65, 71, 77, 69, 78, 84]], [], [⟨[105, 102], [], ⟨[66, 111, 111, 108, 101, 97, 110], [33]⟩, false, ⟨0, [], [], []⟩, []⟩], [], [], false, []⟩
def bdOld : TDef := ⟨7, false, [], [100, 101, 112, 114, 101, 99, 97, 116, 101, 100], [[70, 73, 69, 76, 68, 95, 68, 69, 70, 73, 78, 73, 84, 73, 79, 78], [65, 82, 71, 85, 77, 69, 78, 84, 95, 68, 69, 70, 73, 78, 73, 84, 73, 79, 78], [73, 78, 80, 85, 84, 95, 70, 73, 69, 76, 68, 95, 68, 69, 70, 73, 78, 73, 84, 73, 79, 78], [69, 78, 85, 77, 95, 86, 65, 76, 85, 69]], [], [⟨[114, 101, 97, 115, 111, 110], [], ⟨[83, 116, 114, 105, 110, 103], []⟩, true, ⟨4, [78, 111, 32, 108, 111, 110, 103, 101, 114, 32, 115, 117, 112, 112, 111, 114, 116, 101, 100], [], []⟩, []⟩], [], [], false, []⟩
def bds : List TDef := [bdOld, bdFlow [105, 110, 99, 108, 117, 100, 101], bdFlow [115, 107, 105, 112]]
theorem spec_Flow (n : List UInt8) : r_spec_l17Flow [.s n] = .ret (TDef.enc (bdFlow n)) := by
  rw [eq_spec_l17Flow]
  rfl
theorem spec_BuiltDirs : r_spec_BuiltDirs [] = .ret [.sl (bds.map TDef.enc)] := by
  rw [eq_spec_BuiltDirs]
  simp only [E_spec_BuiltDirs, spec_Flow, Out.bindR_ret]
  rfl
theorem impl_step (l : List (List DC)) (i : Nat) (hi : i < 2) (hl : l.length + 1 < LIM) : E_impl_BuiltDirsL1 [.sl l, .sl [S1 [105, 110, 99, 108, 117, 100, 101], S1 [115, 107, 105, 112]], .i 2, .i (i : Int)] = .norm [.sl (l ++ [TDef.enc (bdFlow (([[105, 110, 99, 108, 117, 100, 101], [115, 107, 105, 112]] : List (List UInt8)).getD i []))]), .sl [S1 [105, 110, 99, 108, 117, 100, 101], S1 [115, 107, 105, 112]], .i 2, .i ((i + 1 : Nat) : Int)] := by
  have h : i = 0 ∨ i = 1 := by omega
  rcases h with rfl | rfl
  · simp only [E_impl_BuiltDirsL1, List.getD_cons_zero, List.getD_cons_succ, DC.ii_i, DC.ll_sl, S1]
    rw [if_pos (by decide), if_pos (by decide), if_pos ⟨by simpa using hl, by first | rfl | trivial⟩]
    simp only [Out.andThenB, if_true, List.getD_cons_zero, List.getD_cons_succ, DC.ii_i, DC.ll_sl]
    rfl
  · simp only [E_impl_BuiltDirsL1, List.getD_cons_zero, List.getD_cons_succ, DC.ii_i, DC.ll_sl, S1]
    rw [if_pos (by decide), if_pos (by decide), if_pos ⟨by simpa using hl, by first | rfl | trivial⟩]
    simp only [Out.andThenB, if_true, List.getD_cons_zero, List.getD_cons_succ, DC.ii_i, DC.ll_sl]
    rfl
theorem impl_BuiltDirs : r_impl_BuiltDirs [] = .ret [.sl (bds.map TDef.enc)] := by
  rw [eq_impl_BuiltDirs]
  have h0 := impl_step [TDef.enc bdOld] 0 (by omega) (by unfold LIM; simp)
  have h1 := impl_step ([TDef.enc bdOld] ++ [TDef.enc (bdFlow (([[105, 110, 99, 108, 117, 100, 101], [115, 107, 105, 112]] : List (List UInt8)).getD 0 []))]) 1 (by omega) (by unfold LIM; simp)
  have h2 : ∀ l, E_impl_BuiltDirsL1 [.sl l, .sl [S1 [105, 110, 99, 108, 117, 100, 101], S1 [115, 107, 105, 112]], .i 2, .i ((1 + 1 : Nat) : Int)] = .ex 0 [.sl l] := fun l => rfl
  have key : Loop E_impl_BuiltDirsL1 [.sl [TDef.enc bdOld], .sl [S1 [105, 110, 99, 108, 117, 100, 101], S1 [115, 107, 105, 112]], .i 2, .i ((0 : Nat) : Int)] = .ex 0 [.sl (bds.map TDef.enc)] := (Loop_norm h0).trans ((Loop_norm h1).trans (Loop_ex (h2 _)))
  show Out.andThenB (Loop E_impl_BuiltDirsL1 [.sl [TDef.enc bdOld], .sl [S1 [105, 110, 99, 108, 117, 100, 101], S1 [115, 107, 105, 112]], .i 2, .i ((0 : Nat) : Int)]) 0 (fun v3 => .ret [.sl ((v3.getD 0 d0).ll)]) = _
  rw [key]
  rfl
theorem bds_wt : DC.wt (.sl (bds.map TDef.enc)) ≤ 1048576 := Nat.le_of_ble_eq_true (by kernel_rfl)
theorem wfl_nil {ty : Nat → Option TI} {x : List DC} (h : WfL ty [] x) : x = [] := by cases h; rfl
theorem law_FnExactBuiltDirs (d : List DC) (hd : WfL cfg.ty [] d) : r_laws_FnExactBuiltDirs d = .ret [.b true] := by
  have hz := wfl_nil hd
  subst hz
  rw [eq_laws_FnExactBuiltDirs]
  simp only [E_laws_FnExactBuiltDirs, List.cons_append, List.nil_append, List.append_nil, List.getD_cons_zero, List.getD_cons_succ, DC.bb_b, DC.ii_i, DC.ss_s, DC.ll_sl]
  have hs := spec_BuiltDirs
  have hi := impl_BuiltDirs
  have hw := bds_wt
  obtain ⟨x1, k1, M1, p1, q1, H1⟩ := mhS_Def bds 1 (by omega) (by omega)
  have n1 : ¬ k1 < 0 := by omega
  simp only [List.nil_append, hs, hi, List.append_nil, List.getD_cons_zero, List.getD_cons_succ, DC.bb_b, DC.ii_i, DC.ss_s, DC.ll_sl, Out.bindR_ret, bne_self_eq_false, beq_self_eq_true, Bool.not_true, Bool.false_eq_true, if_false, eqS_Def bds hw, M1.at, markM, List.length_cons, List.length_nil, if_true, n1, decide_false, H1, Out.andThen]
end Go.Proofs.QV
