import Derived.Test.YtelhaocbeabchaaMR5
import Derived.Test.YtelhaocbeabchaaMR6
import Derived.Test.YtelhaocbeabchaaProg
/- The functions that write numbers (written by a program). -/
namespace Go.Proofs.QV
open Go
set_option linter.unusedVariables false
set_option linter.unusedSimpArgs false
set_option maxRecDepth 100000
abbrev ou : KC := .one .u
abbrev ob : KC := .one .b
abbrev os : KC := .one .s
abbrev oi : KC := .one (.i .i64)
abbrev ol (e : Nat) : KC := .one (.sl e)
def uu (n : Nat) (l : List KC) : List KC := List.replicate n (.one .u) ++ l
def vv (n : Nat) (l : List KO) : List KO := List.replicate n .u ++ l
noncomputable def tyL : List (Nat × TI) := [(3, ⟨.int .i64, [.i .i64], 8, [], false⟩),
  (4, ⟨.bool, [.b], 1, [], false⟩),
  (5, ⟨.int .u8, [.i .u8], 1, [], false⟩),
  (9, ⟨.str, [.s], 16, [], false⟩),
  (22, ⟨.slice 76, [.sl 76], 24, [], false⟩),
  (24, ⟨.slice 9, [.sl 9], 24, [], false⟩),
  (26, ⟨.slice 83, [.sl 83], 24, [], false⟩),
  (54, ⟨.slice 143, [.sl 143], 24, [], false⟩),
  (61, ⟨.slice 122, [.sl 122], 24, [], false⟩),
  (71, ⟨.struct, [.s, .s], 32, [(0, 1, false), (1, 1, false)], false⟩),
  (72, ⟨.slice 74, [.sl 74], 24, [], false⟩),
  (74, ⟨.struct, [.i .i64, .s, .sl 74, .sl 9], 72, [(0, 1, false), (1, 1, false), (2, 1, false), (3, 1, false)], false⟩),
  (76, ⟨.struct, [.s, .s, .s, .s, .b, .i .i64, .s, .sl 74, .sl 9, .sl 143], 168, [(0, 1, false), (1, 1, false), (2, 2, true), (4, 1, false), (5, 4, true), (9, 1, false)], false⟩),
  (78, ⟨.struct, [.s, .s], 32, [(0, 1, false), (1, 1, false)], false⟩),
  (79, ⟨.slice 81, [.sl 81], 24, [], false⟩),
  (81, ⟨.struct, [.i .i64, .s, .sl 81, .sl 9], 72, [(0, 1, false), (1, 1, false), (2, 1, false), (3, 1, false)], false⟩),
  (83, ⟨.struct, [.s, .s, .s, .s, .b, .i .i64, .s, .sl 81, .sl 9, .sl 122], 168, [(0, 1, false), (1, 1, false), (2, 2, true), (4, 1, false), (5, 4, true), (9, 1, false)], false⟩),
  (119, ⟨.slice 5, [.sl 5], 24, [], false⟩),
  (120, ⟨.slice 161, [.sl 161], 24, [], false⟩),
  (122, ⟨.struct, [.s, .sl 161], 40, [(0, 1, false), (1, 1, false)], false⟩),
  (141, ⟨.slice 169, [.sl 169], 24, [], false⟩),
  (143, ⟨.struct, [.s, .sl 169], 40, [(0, 1, false), (1, 1, false)], false⟩),
  (161, ⟨.struct, [.s, .i .i64, .s, .sl 81, .sl 9], 88, [(0, 1, false), (1, 4, true)], false⟩),
  (169, ⟨.struct, [.s, .i .i64, .s, .sl 74, .sl 9], 88, [(0, 1, false), (1, 4, true)], false⟩)]
theorem tys : tyB Try.prog tyL = true := by kernel_rfl
noncomputable def fi40 : FI := mkFI Try.f40 1 [.ct (.i .i64)] [(false, [.ct .s])] (fun _ => (.s .n (.s .n (.s .n (.s (.b (.b (.s .n (.b (.s (.r [0, 0, 0, 0, 0, 0, 0, 0, 0] none) .n) ⟨oi :: ou :: ou :: os :: uu 16 [], .u :: []⟩)) ⟨oi :: ou :: ou :: os :: uu 16 [], .u :: []⟩) ⟨uu 3 (os :: uu 16 []), .u :: []⟩) .n)))))
noncomputable def E_laws_markTextL1 : List DC → Out := fun v1 =>
    if (decide ((v1.getD 0 d0).ii > (0 : Int))) = true then
      Out.andThenB (if (10 : Int) = 0 then
          .fail
        else
          if (rowBytes [[DC.i (IntKind.u8.wrap (IntKind.i64.wrap ((48 : Int) + (((v1.getD 0 d0).ii).tmod (10 : Int)))))]]).length + ((v1.getD 1 d0).ss).length < LIM then
            if (10 : Int) = 0 then
              .fail
            else
              .norm [.i (IntKind.i64.wrap (((v1.getD 0 d0).ii).tdiv (10 : Int))), .s ((rowBytes [[DC.i (IntKind.u8.wrap (IntKind.i64.wrap ((48 : Int) + (((v1.getD 0 d0).ii).tmod (10 : Int)))))]]) ++ ((v1.getD 1 d0).ss))]
          else
            .fail) 1 fun v2 =>
      .norm [.i ((v2.getD 0 d0).ii), .s ((v2.getD 1 d0).ss)]
    else
      .ex 0 [.s ((v1.getD 1 d0).ss)]
noncomputable def E_laws_markText (a : List DC) : Out :=
    if (decide ((a.getD 0 d0).ii ≤ (0 : Int))) = true then
      .ret [.s ([109, 48] : List UInt8)]
    else
      Out.andThenB (Loop E_laws_markTextL1 [.i ((a.getD 0 d0).ii), .s ([] : List UInt8)]) 0 fun v3 =>
      if ([109] : List UInt8).length + ((v3.getD 0 d0).ss).length < LIM then
        .ret [.s (([109] : List UInt8) ++ ((v3.getD 0 d0).ss))]
      else
        .fail
noncomputable def cfg0 : Cfg := ⟨fun t => look t tyL, fun f => look f [(40, fi40)]⟩
theorem fns0 : ∀ x ∈ [(40, fi40)], FnOk Try.prog Glob.none cfg0.ty x.1 x.2 := all_cons (mkFI_ok Try.func40 (by kernel_rfl)) all_nil
theorem eq0 (a : List DC) : Run cfg0 40 ⟨[.one (.i .i64)], []⟩ a = E_laws_markText a := (Run_eq cfg0 40 _ a).trans (by kernel_rfl)
theorem mt_step (k : Int) (o : List UInt8) (h0 : 0 < k) (h1 : k < 4611686018427387904) (ho : o.length ≤ 100) : ∃ c, E_laws_markTextL1 [.i k, .s o] = .norm [.i (k / 10), .s (c :: o)] := by
  have hw : IntKind.i64.wrap (k.tdiv 10) = k / 10 := by
    rw [Int.tdiv_eq_ediv_of_nonneg (by omega)]
    exact wrap64 (by omega) (by omega)
  have hl : 1 + o.length < LIM := by unfold LIM; omega
  refine ⟨UInt8.ofNat (IntKind.u8.wrap (IntKind.i64.wrap (48 + k.tmod 10))).toNat, ?_⟩
  simp only [E_laws_markTextL1, List.getD_cons_zero, List.getD_cons_succ, DC.ii_i, DC.ss_s, hw]
  simp [h0, hl, rowBytes, Out.andThenB]
  try rfl
theorem mt_loop : ∀ (m : Nat) (k : Int) (o : List UInt8), 0 ≤ k → k < 4611686018427387904 → k < 10 ^ m → o.length + m ≤ 100 → ∃ s : List UInt8, s.length ≤ 100 ∧ Loop E_laws_markTextL1 [.i k, .s o] = .ex 0 [.s s]
  | 0, k, o, h0, _, h1, ho => by
    have : k = 0 := by simp at h1; omega
    subst this
    exact ⟨o, by omega, Loop_ex (by simp [E_laws_markTextL1])⟩
  | m + 1, k, o, h0, hb, h1, ho => by
    by_cases hk : 0 < k
    · obtain ⟨c, hc⟩ := mt_step k o hk hb (by omega)
      rw [Loop_norm hc]
      refine mt_loop m (k / 10) (c :: o) (by omega) (by omega) ?_ (by simp; omega)
      rw [Int.pow_succ] at h1
      omega
    · have : k = 0 := by omega
      subst this
      exact ⟨o, by omega, Loop_ex (by simp [E_laws_markTextL1])⟩
theorem mt_ok (k : Int) (h0 : 0 ≤ k) (h1 : k < 4611686018427387904) : ∃ s, E_laws_markText [.i k] = .ret [.s s] := by
  by_cases hk : k ≤ 0
  · exact ⟨[109, 48], by simp [E_laws_markText, hk]⟩
  · obtain ⟨s, hs, h⟩ := mt_loop 19 k [] h0 h1 (by have : (10 : Int) ^ 19 = 10000000000000000000 := by decide
                                                   omega) (by simp)
    have hl : 1 + s.length < LIM := by unfold LIM; omega
    refine ⟨109 :: s, ?_⟩
    simp only [E_laws_markText, List.getD_cons_zero, List.getD_cons_succ, DC.ii_i, DC.ss_s, h, Out.andThenB]
    simp [hk, hl, Nat.add_comm]
    try (unfold LIM; omega)
noncomputable def mtx (k : Int) : List UInt8 := match E_laws_markText [.i k] with | .ret [.s s] => s | _ => []
theorem mtx_eq {k : Int} (h0 : 0 ≤ k) (h1 : k < 4611686018427387904) : E_laws_markText [.i k] = .ret [.s (mtx k)] := by
  obtain ⟨s, h⟩ := mt_ok k h0 h1
  unfold mtx
  rw [h]
noncomputable def mT : Int → Option (List UInt8) := fun k => some (mtx k)
def ms13 : List MA := [.txt 0, .inc, .txt 1, .inc, .txt 2, .inc, .txt 3, .inc, .bool 4, .inc, .int 5, .inc, .txt 6, .inc, .sub 7 41, .upd, .sub 8 14, .upd, .sub 9 42, .upd]
def ms14 : List MA := [.txt 0, .inc]
def ms41 : List MA := [.int 0, .inc, .txt 1, .inc, .sub 2 41, .upd, .sub 3 14, .upd]
def ms42 : List MA := [.txt 0, .inc, .sub 1 84, .upd]
def ms84 : List MA := [.txt 0, .inc, .int 1, .inc, .txt 2, .inc, .sub 3 41, .upd, .sub 4 14, .upd]
noncomputable def ti9 : TI := ⟨.str, [.s], 16, [], false⟩
noncomputable def ti81 : TI := ⟨.struct, [.i .i64, .s, .sl 81, .sl 9], 72, [(0, 1, false), (1, 1, false), (2, 1, false), (3, 1, false)], false⟩
noncomputable def ti83 : TI := ⟨.struct, [.s, .s, .s, .s, .b, .i .i64, .s, .sl 81, .sl 9, .sl 122], 168, [(0, 1, false), (1, 1, false), (2, 2, true), (4, 1, false), (5, 4, true), (9, 1, false)], false⟩
noncomputable def ti122 : TI := ⟨.struct, [.s, .sl 161], 40, [(0, 1, false), (1, 1, false)], false⟩
noncomputable def ti161 : TI := ⟨.struct, [.s, .i .i64, .s, .sl 81, .sl 9], 88, [(0, 1, false), (1, 4, true)], false⟩
def mTab : Nat → Option (List MA) := fun f => look f [(13, ms13), (14, ms14), (41, ms41), (42, ms42), (84, ms84)]
def mMt : Nat → Option Nat := fun f => look f [(13, 83), (14, 9), (41, 81), (42, 122), (84, 161)]
theorem mtabok : TabOk Try.prog (fun t => look t tyL) mT 40 mMt mTab where
  tyo := (tyB_ok tys).1
  fd := by
    rintro f (rfl | ⟨e, he⟩)
    · exact ⟨_, Try.func40, by kernel_rfl, rfl⟩
    have := look_mem he
    simp only [List.mem_cons, Prod.mk.injEq, List.not_mem_nil, or_false] at this
    rcases this with ⟨rfl, rfl⟩ | ⟨rfl, rfl⟩ | ⟨rfl, rfl⟩ | ⟨rfl, rfl⟩ | ⟨rfl, rfl⟩
    · exact ⟨_, Try.func13, by kernel_rfl, rfl⟩
    · exact ⟨_, Try.func14, by kernel_rfl, rfl⟩
    · exact ⟨_, Try.func41, by kernel_rfl, rfl⟩
    · exact ⟨_, Try.func42, by kernel_rfl, rfl⟩
    · exact ⟨_, Try.func84, by kernel_rfl, rfl⟩
  tfc := by
    intro k s w h0 h1 hs
    obtain rfl : mtx k = s := Option.some.inj hs
    exact int_calls (cfg := cfg0) (G := Glob.none) (tyB_ok tys).1 (by kernel_rfl) (fn_ok fns0) (f := 40) (fi := fi40) (by kernel_rfl) ⟨trivial, fun _ h => h.elim⟩ rfl rfl (Run.evt ((eq0 _).trans (mtx_eq h0 h1)))
  tfs := fun k _ _ => ⟨_, rfl⟩
  sh := by
    intro f e he
    have := look_mem he
    simp only [List.mem_cons, Prod.mk.injEq, List.not_mem_nil, or_false] at this
    rcases this with ⟨rfl, rfl⟩ | ⟨rfl, rfl⟩ | ⟨rfl, rfl⟩ | ⟨rfl, rfl⟩ | ⟨rfl, rfl⟩
    · exact ⟨ti83, Try.f13, ms13, by kernel_rfl, Try.func13, by kernel_rfl, by kernel_rfl⟩
    · exact ⟨ti9, Try.f14, ms14, by kernel_rfl, Try.func14, by kernel_rfl, by kernel_rfl⟩
    · exact ⟨ti81, Try.f41, ms41, by kernel_rfl, Try.func41, by kernel_rfl, by kernel_rfl⟩
    · exact ⟨ti122, Try.f42, ms42, by kernel_rfl, Try.func42, by kernel_rfl, by kernel_rfl⟩
    · exact ⟨ti161, Try.f84, ms84, by kernel_rfl, Try.func84, by kernel_rfl, by kernel_rfl⟩
noncomputable def fi3 : FI := mkFI Try.f3 9 [.ct (.sl 76)] [(false, [.ct .b])] (fun _ => (.s .n (.s .n (.s .n (.s .n (.s (.r [0, 0, 1, 0] none) (.s (.r [0, 2, 0] none) (.s (.r [0, 3, 0] none) (.s .n (.s (.s (.r [0, 0, 4, 0, 0] none) .n) (.s .n (.s .n (.s (.s (.r [] (some ⟨ol 76 :: uu 3 (.one (.own 9 5) :: ou :: .one (.own 9 6) :: uu 35 (ob :: uu 26 [])), vv 9 []⟩)) .n) (.s .n (.s .n (.s .n (.s .n (.s .n (.s .n (.s (.r [0, 7, 8, 0] none) .n))))))))))))))))))))
noncomputable def fi7 : FI := mkFI Try.f7 0 [.ct (.sl 76), .ct (.i .i64)] [(false, [.ct (.i .i64)])] (fun _ => (.s .n (.s .n (.s .n (.s (.s .n (.b (.b (.s .n (.s (.b .n ⟨ol 76 :: oi :: uu 3 (oi :: uu 21 []), []⟩) .n)) ⟨ol 76 :: oi :: uu 3 (oi :: uu 21 []), []⟩) ⟨ou :: oi :: uu 25 [], []⟩)) .n)))))
noncomputable def fi9 : FI := mkFI Try.f9 8 [.ct (.sl 76)] [(false, [.new 1083])] (fun _ => (.s .n (.s (.r [0, 0, 1, 0] none) (.s (.s .n (.b (.b (.s .n (.s (.b (.r [0, 0, 0, 0, 0, 0, 3, 0, 0] none) ⟨ol 76 :: ou :: ou :: .one (.own 1083 6) :: oi :: uu 18 [], vv 8 []⟩) .n)) ⟨ol 76 :: ou :: ou :: .one (.own 1083 2) :: oi :: uu 18 [], vv 8 []⟩) ⟨uu 3 (.one (.own 1083 7) :: uu 19 []), vv 8 []⟩)) .n))))
noncomputable def fi8 : FI := mkFI Try.f8 9 [.ct (.sl 83)] [(false, [.new 9])] (fun _ => (.s .n (.s (.r [0, 0] none) (.s (.s .n (.b (.b (.s .n (.s (.b (.s (.r [] (some ⟨ol 83 :: ou :: ou :: .one (.own 9 2) :: oi :: uu 20 (ob :: uu 9 []), vv 9 []⟩)) (.c (.r [0, 0, 0, 0, 0, 0, 4, 5, 0] none) .n (some ⟨ol 83 :: ou :: ou :: .one (.own 9 6) :: oi :: uu 30 [], vv 9 []⟩))) ⟨ol 83 :: ou :: ou :: .one (.own 9 7) :: oi :: uu 30 [], vv 9 []⟩) .n)) ⟨ol 83 :: ou :: ou :: .one (.own 9 1) :: oi :: uu 30 [], vv 9 []⟩) ⟨uu 3 (.one (.own 9 8) :: uu 31 []), vv 9 []⟩)) .n))))
noncomputable def fi10 : FI := mkFI Try.f10 9 [.ct (.sl 83)] [(false, [.new 9])] (fun _ => (.s .n (.s (.r [0, 0] none) (.s (.s .n (.b (.b (.s .n (.s .n (.s (.b (.s (.r [0, 0, 2, 0] none) (.s (.r [] (some ⟨uu 3 (.one (.own 9 3) :: ou :: .one (.ptr 2 0) :: ou :: ol 83 :: oi :: oi :: uu 10 (ob :: uu 7 [])), .u :: .u :: .var 83 [.s, .s, .s, .s, .b, .i .i64, .s, .sl 81, .sl 9, .sl 122] :: vv 6 []⟩)) (.c (.r [0, 0, 0, 4, 5, 0] none) .n (some ⟨uu 3 (.one (.own 9 6) :: uu 3 (ol 83 :: oi :: oi :: uu 18 [])), vv 9 []⟩)))) ⟨uu 3 (.one (.own 9 7) :: uu 3 (ol 83 :: oi :: oi :: uu 18 [])), vv 9 []⟩) .n))) ⟨uu 3 (.one (.own 9 1) :: uu 3 (ol 83 :: oi :: oi :: uu 18 [])), vv 9 []⟩) ⟨uu 3 (.one (.own 9 8) :: uu 24 []), vv 9 []⟩)) .n))))
noncomputable def fi11 : FI := mkFI Try.f11 0 [.ct (.sl 9), .ct (.sl 9)] [(false, [.ct .b])] (fun _ => (.s .n (.s .n (.s (.s .n (.b (.b (.s .n (.s (.b .n ⟨ol 9 :: ol 9 :: uu 3 (oi :: uu 20 []), []⟩) .n)) ⟨ol 9 :: ol 9 :: uu 3 (oi :: uu 20 []), []⟩) ⟨uu 26 [], []⟩)) .n))))
noncomputable def fi12 : FI := mkFI Try.f12 0 [.ct (.sl 83), .ct (.sl 83)] [(false, [.ct .b])] (fun _ => (.s .n (.s .n (.s (.s .n (.b (.b (.s .n (.s (.b .n ⟨ol 83 :: ol 83 :: uu 3 (oi :: uu 21 []), []⟩) .n)) ⟨ol 83 :: ol 83 :: uu 3 (oi :: uu 21 []), []⟩) ⟨uu 27 [], []⟩)) .n))))
noncomputable def fi15 : FI := mkFI Try.f15 0 [.ct (.sl 9), .ct (.i .i64)] [(false, [.ct (.i .i64)])] (fun _ => (.s .n (.s (.s .n (.b (.b (.s .n (.s (.b .n ⟨ol 9 :: oi :: uu 3 (oi :: uu 16 []), []⟩) .n)) ⟨ol 9 :: oi :: uu 3 (oi :: uu 16 []), []⟩) ⟨ou :: oi :: uu 20 [], []⟩)) .n)))
noncomputable def fi35 : FI := mkFI Try.f35 1 [.ag [.s, .s, .s, .s, .b, .i .i64, .s, .sl 74, .sl 9, .sl 143], .ct (.i .i64)] [(false, [.ct (.i .i64)])] (fun _ => (.s (.r [0, 0] none) .n))
noncomputable def fi37 : FI := mkFI Try.f37 6 [.ag [.s, .s, .s, .s, .b, .i .i64, .s, .sl 74, .sl 9, .sl 143]] [(true, [.ct .s, .ct .s, .ct .s, .ct .s, .ct .b, .ct (.i .i64), .ct .s, .new 1081, .new 9, .new 1122])] (fun _ => (.s (.r [0, 1] none) (.s (.r [2] none) (.s .n (.s .n (.s .n (.s .n (.s (.r [0, 0, 3, 0, 0] none) (.s (.r [0, 0, 5, 0, 0] none) .n)))))))))
noncomputable def fi36 : FI := mkFI Try.f36 1 [.ag [.s, .s]] [(false, [.ct .b])] (fun _ => (.s (.r [0, 0] none) (.s (.r [] (some ⟨ou :: ou :: ob :: uu 14 [], .u :: []⟩)) .n)))
noncomputable def fi38 : FI := mkFI Try.f38 1 [.ag [.s, .s]] [(false, [.ct .b])] (fun _ => (.s (.r [0, 0] none) .n))
noncomputable def fi39 : FI := mkFI Try.f39 2 [.ag [.s, .s, .s, .s, .b, .i .i64, .s, .sl 81, .sl 9, .sl 122], .ag [.s, .s, .s, .s, .b, .i .i64, .s, .sl 81, .sl 9, .sl 122]] [(false, [.ct .b])] (fun _ => (.s (.r [0, 1, 0] none) .n))
noncomputable def fi77 : FI := mkFI Try.f77 1 [.ag [.s, .s], .ct (.i .i64)] [(false, [.ct (.i .i64)])] (fun _ => (.s (.r [0, 0] none) .n))
noncomputable def fi78 : FI := mkFI Try.f78 1 [.ag [.i .i64, .s, .sl 74, .sl 9], .ct (.i .i64)] [(false, [.ct (.i .i64)])] (fun _ => (.s (.r [0, 0] none) .n))
noncomputable def fi66 : FI := mkFI Try.f66 0 [.ct (.sl 143), .ct (.i .i64)] [(false, [.ct (.i .i64)])] (fun _ => (.s .n (.s .n (.s .n (.s (.s .n (.b (.b (.s .n (.s (.b .n ⟨ol 143 :: oi :: uu 3 (oi :: uu 21 []), []⟩) .n)) ⟨ol 143 :: oi :: uu 3 (oi :: uu 21 []), []⟩) ⟨ou :: oi :: uu 25 [], []⟩)) .n)))))
noncomputable def fi79 : FI := mkFI Try.f79 3 [.ag [.s, .s]] [(true, [.ct .s, .ct .s])] (fun _ => (.s (.r [0, 1] none) (.s (.r [2] none) .n)))
noncomputable def fi80 : FI := mkFI Try.f80 5 [.ag [.i .i64, .s, .sl 74, .sl 9]] [(true, [.ct (.i .i64), .ct .s, .new 1081, .new 9])] (fun _ => (.s (.r [0, 1] none) (.s (.r [2] none) (.s .n (.s .n (.s (.r [0, 0, 3, 0, 0] none) (.s (.r [0, 0, 4, 0, 0] none) .n)))))))
noncomputable def fi71 : FI := mkFI Try.f71 6 [.ct (.sl 143)] [(false, [.new 1122])] (fun _ => (.s .n (.s (.r [0, 0, 1, 0] none) (.s (.s .n (.b (.b (.s .n (.s (.b (.r [0, 0, 0, 0, 0, 0, 3, 0, 0] none) ⟨ol 143 :: ou :: ou :: .one (.own 1122 4) :: oi :: uu 18 [], vv 6 []⟩) .n)) ⟨ol 143 :: ou :: ou :: .one (.own 1122 2) :: oi :: uu 18 [], vv 6 []⟩) ⟨uu 3 (.one (.own 1122 5) :: uu 19 []), vv 6 []⟩)) .n))))
noncomputable def fi81 : FI := mkFI Try.f81 0 [.ct .s, .ct .s] [(false, [.ct .b])] (fun _ => .n)
noncomputable def fi82 : FI := mkFI Try.f82 2 [.ag [.s, .s], .ag [.s, .s]] [(false, [.ct .b])] (fun _ => (.s (.r [0, 1, 0] none) .n))
noncomputable def fi83 : FI := mkFI Try.f83 2 [.ag [.i .i64, .s, .sl 81, .sl 9], .ag [.i .i64, .s, .sl 81, .sl 9]] [(false, [.ct .b])] (fun _ => (.s (.r [0, 1, 0] none) .n))
noncomputable def fi76 : FI := mkFI Try.f76 0 [.ct (.sl 122), .ct (.sl 122)] [(false, [.ct .b])] (fun _ => (.s .n (.s .n (.s (.s .n (.b (.b (.s .n (.s (.b .n ⟨ol 122 :: ol 122 :: uu 3 (oi :: uu 21 []), []⟩) .n)) ⟨ol 122 :: ol 122 :: uu 3 (oi :: uu 21 []), []⟩) ⟨uu 27 [], []⟩)) .n))))
noncomputable def fi111 : FI := mkFI Try.f111 0 [.ct (.sl 74), .ct (.i .i64)] [(false, [.ct (.i .i64)])] (fun _ => (.s .n (.s .n (.s .n (.s (.s .n (.b (.b (.s .n (.s (.b .n ⟨ol 74 :: oi :: uu 3 (oi :: uu 21 []), []⟩) .n)) ⟨ol 74 :: oi :: uu 3 (oi :: uu 21 []), []⟩) ⟨ou :: oi :: uu 25 [], []⟩)) .n)))))
noncomputable def fi44 : FI := mkFI Try.f44 0 [.ct (.sl 9), .ct (.i .i64)] [(false, [.ct (.i .i64)])] (fun _ => (.s .n (.s .n (.s .n (.s (.s .n (.b (.b (.s .n (.s (.b .n ⟨ol 9 :: oi :: uu 3 (oi :: uu 22 []), []⟩) .n)) ⟨ol 9 :: oi :: uu 3 (oi :: uu 22 []), []⟩) ⟨ou :: oi :: uu 26 [], []⟩)) .n)))))
noncomputable def fi93 : FI := mkFI Try.f93 1 [.ag [.s, .sl 169], .ct (.i .i64)] [(false, [.ct (.i .i64)])] (fun _ => (.s (.r [0, 0] none) .n))
noncomputable def fi112 : FI := mkFI Try.f112 7 [.ct (.sl 74)] [(false, [.new 1081])] (fun _ => (.s .n (.s (.r [0, 0, 1, 0] none) (.s (.s .n (.b (.b (.s .n (.s (.b (.r [0, 0, 0, 0, 0, 0, 3, 0, 0] none) ⟨ol 74 :: ou :: ou :: .one (.own 1081 5) :: oi :: uu 18 [], vv 7 []⟩) .n)) ⟨ol 74 :: ou :: ou :: .one (.own 1081 2) :: oi :: uu 18 [], vv 7 []⟩) ⟨uu 3 (.one (.own 1081 6) :: uu 19 []), vv 7 []⟩)) .n))))
noncomputable def fi48 : FI := mkFI Try.f48 4 [.ct (.sl 9)] [(false, [.new 9])] (fun _ => (.s .n (.s (.r [0, 0, 0, 0] none) (.s (.s .n (.b (.b (.s .n (.s (.b .n ⟨ol 9 :: ou :: ou :: .one (.own 9 2) :: oi :: uu 17 [], vv 4 []⟩) .n)) ⟨ol 9 :: ou :: ou :: .one (.own 9 1) :: oi :: uu 17 [], vv 4 []⟩) ⟨uu 3 (.one (.own 9 3) :: uu 18 []), vv 4 []⟩)) .n))))
noncomputable def fi101 : FI := mkFI Try.f101 4 [.ag [.s, .sl 169]] [(true, [.ct .s, .new 1161])] (fun _ => (.s (.r [0, 1] none) (.s (.r [2] none) (.s .n (.s (.r [0, 0, 3, 0, 0] none) .n)))))
noncomputable def fi113 : FI := mkFI Try.f113 0 [.ct .s, .ct .s] [(false, [.ct .b])] (fun _ => (.s .n (.s (.r [] (some ⟨uu 4 (ob :: uu 16 []), []⟩)) .n)))
noncomputable def fi114 : FI := mkFI Try.f114 0 [.ct (.sl 81), .ct (.sl 81)] [(false, [.ct .b])] (fun _ => (.s .n (.s .n (.s (.s .n (.b (.b (.s .n (.s (.b .n ⟨ol 81 :: ol 81 :: uu 3 (oi :: uu 21 []), []⟩) .n)) ⟨ol 81 :: ol 81 :: uu 3 (oi :: uu 21 []), []⟩) ⟨uu 27 [], []⟩)) .n))))
noncomputable def fi110 : FI := mkFI Try.f110 2 [.ag [.s, .sl 161], .ag [.s, .sl 161]] [(false, [.ct .b])] (fun _ => (.s (.r [0, 1, 0] none) .n))
noncomputable def fi115 : FI := mkFI Try.f115 0 [.ct (.sl 169), .ct (.i .i64)] [(false, [.ct (.i .i64)])] (fun _ => (.s .n (.s .n (.s .n (.s (.s .n (.b (.b (.s .n (.s (.b .n ⟨ol 169 :: oi :: uu 3 (oi :: uu 21 []), []⟩) .n)) ⟨ol 169 :: oi :: uu 3 (oi :: uu 21 []), []⟩) ⟨ou :: oi :: uu 25 [], []⟩)) .n)))))
noncomputable def fi118 : FI := mkFI Try.f118 7 [.ct (.sl 169)] [(false, [.new 1161])] (fun _ => (.s .n (.s (.r [0, 0, 1, 0] none) (.s (.s .n (.b (.b (.s .n (.s (.b (.r [0, 0, 0, 0, 0, 0, 3, 0, 0] none) ⟨ol 169 :: ou :: ou :: .one (.own 1161 5) :: oi :: uu 18 [], vv 7 []⟩) .n)) ⟨ol 169 :: ou :: ou :: .one (.own 1161 2) :: oi :: uu 18 [], vv 7 []⟩) ⟨uu 3 (.one (.own 1161 6) :: uu 19 []), vv 7 []⟩)) .n))))
noncomputable def fi121 : FI := mkFI Try.f121 0 [.ct (.sl 161), .ct (.sl 161)] [(false, [.ct .b])] (fun _ => (.s .n (.s .n (.s (.s .n (.b (.b (.s .n (.s (.b .n ⟨ol 161 :: ol 161 :: uu 3 (oi :: uu 21 []), []⟩) .n)) ⟨ol 161 :: ol 161 :: uu 3 (oi :: uu 21 []), []⟩) ⟨uu 27 [], []⟩)) .n))))
noncomputable def fi122 : FI := mkFI Try.f122 1 [.ag [.s, .i .i64, .s, .sl 74, .sl 9], .ct (.i .i64)] [(false, [.ct (.i .i64)])] (fun _ => (.s (.r [0, 0] none) .n))
noncomputable def fi123 : FI := mkFI Try.f123 5 [.ag [.s, .i .i64, .s, .sl 74, .sl 9]] [(true, [.ct .s, .ct (.i .i64), .ct .s, .new 1081, .new 9])] (fun _ => (.s (.r [0, 1] none) (.s (.r [2] none) (.s .n (.s (.r [0, 0, 3, 0, 0] none) .n)))))
noncomputable def fi124 : FI := mkFI Try.f124 2 [.ag [.s, .i .i64, .s, .sl 81, .sl 9], .ag [.s, .i .i64, .s, .sl 81, .sl 9]] [(false, [.ct .b])] (fun _ => (.s (.r [0, 1, 0] none) .n))
noncomputable def fi13 : FI := { mkFI Try.f13 0 [] [] (fun _ => .n) with mark := some (mkI mT mTab 13 83) }
noncomputable def fi14 : FI := { mkFI Try.f14 0 [] [] (fun _ => .n) with mark := some (mkI mT mTab 14 9) }
noncomputable def fi41 : FI := { mkFI Try.f41 0 [] [] (fun _ => .n) with mark := some (mkI mT mTab 41 81) }
noncomputable def fi42 : FI := { mkFI Try.f42 0 [] [] (fun _ => .n) with mark := some (mkI mT mTab 42 122) }
noncomputable def fi84 : FI := { mkFI Try.f84 0 [] [] (fun _ => .n) with mark := some (mkI mT mTab 84 161) }
noncomputable def fnL : List (Nat × FI) := [(3, fi3), (7, fi7), (9, fi9), (8, fi8), (10, fi10), (11, fi11), (12, fi12), (15, fi15), (35, fi35), (37, fi37), (36, fi36), (38, fi38), (39, fi39), (40, fi40), (77, fi77), (78, fi78), (66, fi66), (79, fi79), (80, fi80), (71, fi71), (81, fi81), (82, fi82), (83, fi83), (76, fi76), (111, fi111), (44, fi44), (93, fi93), (112, fi112), (48, fi48), (101, fi101), (113, fi113), (114, fi114), (110, fi110), (115, fi115), (118, fi118), (121, fi121), (122, fi122), (123, fi123), (124, fi124), (13, fi13), (14, fi14), (41, fi41), (42, fi42), (84, fi84)]
noncomputable def cfg : Cfg := ⟨fun t => look t tyL, fun f => look f fnL⟩
theorem fns : ∀ x ∈ fnL, FnOk Try.prog Glob.none cfg.ty x.1 x.2 :=
  all_cons (mkFI_ok Try.func3 (by kernel_rfl)) <|
  all_cons (mkFI_ok Try.func7 (by kernel_rfl)) <|
  all_cons (mkFI_ok Try.func9 (by kernel_rfl)) <|
  all_cons (mkFI_ok Try.func8 (by kernel_rfl)) <|
  all_cons (mkFI_ok Try.func10 (by kernel_rfl)) <|
  all_cons (mkFI_ok Try.func11 (by kernel_rfl)) <|
  all_cons (mkFI_ok Try.func12 (by kernel_rfl)) <|
  all_cons (mkFI_ok Try.func15 (by kernel_rfl)) <|
  all_cons (mkFI_ok Try.func35 (by kernel_rfl)) <|
  all_cons (mkFI_ok Try.func37 (by kernel_rfl)) <|
  all_cons (mkFI_ok Try.func36 (by kernel_rfl)) <|
  all_cons (mkFI_ok Try.func38 (by kernel_rfl)) <|
  all_cons (mkFI_ok Try.func39 (by kernel_rfl)) <|
  all_cons (mkFI_ok Try.func40 (by kernel_rfl)) <|
  all_cons (mkFI_ok Try.func77 (by kernel_rfl)) <|
  all_cons (mkFI_ok Try.func78 (by kernel_rfl)) <|
  all_cons (mkFI_ok Try.func66 (by kernel_rfl)) <|
  all_cons (mkFI_ok Try.func79 (by kernel_rfl)) <|
  all_cons (mkFI_ok Try.func80 (by kernel_rfl)) <|
  all_cons (mkFI_ok Try.func71 (by kernel_rfl)) <|
  all_cons (mkFI_ok Try.func81 (by kernel_rfl)) <|
  all_cons (mkFI_ok Try.func82 (by kernel_rfl)) <|
  all_cons (mkFI_ok Try.func83 (by kernel_rfl)) <|
  all_cons (mkFI_ok Try.func76 (by kernel_rfl)) <|
  all_cons (mkFI_ok Try.func111 (by kernel_rfl)) <|
  all_cons (mkFI_ok Try.func44 (by kernel_rfl)) <|
  all_cons (mkFI_ok Try.func93 (by kernel_rfl)) <|
  all_cons (mkFI_ok Try.func112 (by kernel_rfl)) <|
  all_cons (mkFI_ok Try.func48 (by kernel_rfl)) <|
  all_cons (mkFI_ok Try.func101 (by kernel_rfl)) <|
  all_cons (mkFI_ok Try.func113 (by kernel_rfl)) <|
  all_cons (mkFI_ok Try.func114 (by kernel_rfl)) <|
  all_cons (mkFI_ok Try.func110 (by kernel_rfl)) <|
  all_cons (mkFI_ok Try.func115 (by kernel_rfl)) <|
  all_cons (mkFI_ok Try.func118 (by kernel_rfl)) <|
  all_cons (mkFI_ok Try.func121 (by kernel_rfl)) <|
  all_cons (mkFI_ok Try.func122 (by kernel_rfl)) <|
  all_cons (mkFI_ok Try.func123 (by kernel_rfl)) <|
  all_cons (mkFI_ok Try.func124 (by kernel_rfl)) <|
  all_cons (mark_fn (mkFI_ok Try.func13 (by kernel_rfl)) rfl (mkI_ok mtabok (f := 13) (e := 83) (by kernel_rfl))) <|
  all_cons (mark_fn (mkFI_ok Try.func14 (by kernel_rfl)) rfl (mkI_ok mtabok (f := 14) (e := 9) (by kernel_rfl))) <|
  all_cons (mark_fn (mkFI_ok Try.func41 (by kernel_rfl)) rfl (mkI_ok mtabok (f := 41) (e := 81) (by kernel_rfl))) <|
  all_cons (mark_fn (mkFI_ok Try.func42 (by kernel_rfl)) rfl (mkI_ok mtabok (f := 42) (e := 122) (by kernel_rfl))) <|
  all_cons (mark_fn (mkFI_ok Try.func84 (by kernel_rfl)) rfl (mkI_ok mtabok (f := 84) (e := 161) (by kernel_rfl))) <| all_nil
noncomputable def r_laws_FnExactRequiredIn (a : List DC) : Out := Run cfg 3 ⟨ol 76 :: [], []⟩ a
noncomputable def r_laws_szInDefS (a : List DC) : Out := Run cfg 7 ⟨ol 76 :: oi :: [], []⟩ a
noncomputable def r_laws_toInDefS (a : List DC) : Out := Run cfg 9 ⟨ol 76 :: [], []⟩ a
noncomputable def r_spec_RequiredIn (a : List DC) : Out := Run cfg 8 ⟨ol 83 :: [], []⟩ a
noncomputable def r_impl_RequiredIn (a : List DC) : Out := Run cfg 10 ⟨ol 83 :: [], []⟩ a
noncomputable def r_laws_eqStringS (a : List DC) : Out := Run cfg 11 ⟨ol 9 :: ol 9 :: [], []⟩ a
noncomputable def r_laws_eqInDefS (a : List DC) : Out := Run cfg 12 ⟨ol 83 :: ol 83 :: [], []⟩ a
noncomputable def r_laws_heldStringS (a : List DC) : Out := Run cfg 15 ⟨ol 9 :: oi :: [], []⟩ a
noncomputable def r_laws_szInDef (a : List DC) : Out := Run cfg 35 ⟨.agg [.s, .s, .s, .s, .b, .i .i64, .s, .sl 74, .sl 9, .sl 143] :: oi :: [], []⟩ a
noncomputable def r_laws_toInDef (a : List DC) : Out := Run cfg 37 ⟨.agg [.s, .s, .s, .s, .b, .i .i64, .s, .sl 74, .sl 9, .sl 143] :: [], []⟩ a
noncomputable def r_spec_Needed (a : List DC) : Out := Run cfg 36 ⟨.agg [.s, .s] :: [], []⟩ a
noncomputable def r_impl_Needed (a : List DC) : Out := Run cfg 38 ⟨.agg [.s, .s] :: [], []⟩ a
noncomputable def r_laws_eqInDef (a : List DC) : Out := Run cfg 39 ⟨.agg [.s, .s, .s, .s, .b, .i .i64, .s, .sl 81, .sl 9, .sl 122] :: .agg [.s, .s, .s, .s, .b, .i .i64, .s, .sl 81, .sl 9, .sl 122] :: [], []⟩ a
noncomputable def r_laws_markText (a : List DC) : Out := Run cfg 40 ⟨oi :: [], []⟩ a
noncomputable def r_laws_szType (a : List DC) : Out := Run cfg 77 ⟨.agg [.s, .s] :: oi :: [], []⟩ a
noncomputable def r_laws_szValue (a : List DC) : Out := Run cfg 78 ⟨.agg [.i .i64, .s, .sl 74, .sl 9] :: oi :: [], []⟩ a
noncomputable def r_laws_szDirS (a : List DC) : Out := Run cfg 66 ⟨ol 143 :: oi :: [], []⟩ a
noncomputable def r_laws_toType (a : List DC) : Out := Run cfg 79 ⟨.agg [.s, .s] :: [], []⟩ a
noncomputable def r_laws_toValue (a : List DC) : Out := Run cfg 80 ⟨.agg [.i .i64, .s, .sl 74, .sl 9] :: [], []⟩ a
noncomputable def r_laws_toDirS (a : List DC) : Out := Run cfg 71 ⟨ol 143 :: [], []⟩ a
noncomputable def r_strings_HasSuffix (a : List DC) : Out := Run cfg 81 ⟨os :: os :: [], []⟩ a
noncomputable def r_laws_eqType (a : List DC) : Out := Run cfg 82 ⟨.agg [.s, .s] :: .agg [.s, .s] :: [], []⟩ a
noncomputable def r_laws_eqValue (a : List DC) : Out := Run cfg 83 ⟨.agg [.i .i64, .s, .sl 81, .sl 9] :: .agg [.i .i64, .s, .sl 81, .sl 9] :: [], []⟩ a
noncomputable def r_laws_eqDirS (a : List DC) : Out := Run cfg 76 ⟨ol 122 :: ol 122 :: [], []⟩ a
noncomputable def r_laws_szValueS (a : List DC) : Out := Run cfg 111 ⟨ol 74 :: oi :: [], []⟩ a
noncomputable def r_laws_szStringS (a : List DC) : Out := Run cfg 44 ⟨ol 9 :: oi :: [], []⟩ a
noncomputable def r_laws_szDir (a : List DC) : Out := Run cfg 93 ⟨.agg [.s, .sl 169] :: oi :: [], []⟩ a
noncomputable def r_laws_toValueS (a : List DC) : Out := Run cfg 112 ⟨ol 74 :: [], []⟩ a
noncomputable def r_laws_toStringS (a : List DC) : Out := Run cfg 48 ⟨ol 9 :: [], []⟩ a
noncomputable def r_laws_toDir (a : List DC) : Out := Run cfg 101 ⟨.agg [.s, .sl 169] :: [], []⟩ a
noncomputable def r_internal_stringslite_HasSuffix (a : List DC) : Out := Run cfg 113 ⟨os :: os :: [], []⟩ a
noncomputable def r_laws_eqValueS (a : List DC) : Out := Run cfg 114 ⟨ol 81 :: ol 81 :: [], []⟩ a
noncomputable def r_laws_eqDir (a : List DC) : Out := Run cfg 110 ⟨.agg [.s, .sl 161] :: .agg [.s, .sl 161] :: [], []⟩ a
noncomputable def r_laws_szArgS (a : List DC) : Out := Run cfg 115 ⟨ol 169 :: oi :: [], []⟩ a
noncomputable def r_laws_toArgS (a : List DC) : Out := Run cfg 118 ⟨ol 169 :: [], []⟩ a
noncomputable def r_laws_eqArgS (a : List DC) : Out := Run cfg 121 ⟨ol 161 :: ol 161 :: [], []⟩ a
noncomputable def r_laws_szArg (a : List DC) : Out := Run cfg 122 ⟨.agg [.s, .i .i64, .s, .sl 74, .sl 9] :: oi :: [], []⟩ a
noncomputable def r_laws_toArg (a : List DC) : Out := Run cfg 123 ⟨.agg [.s, .i .i64, .s, .sl 74, .sl 9] :: [], []⟩ a
noncomputable def r_laws_eqArg (a : List DC) : Out := Run cfg 124 ⟨.agg [.s, .i .i64, .s, .sl 81, .sl 9] :: .agg [.s, .i .i64, .s, .sl 81, .sl 9] :: [], []⟩ a
noncomputable def E_laws_FnExactRequiredIn (a : List DC) : Out :=
 (r_laws_szInDefS [.sl ((a.getD 0 d0).ll), .i (1048576 : Int)]).bindR fun r1 =>
 if (decide ((r1.getD 0 d0).ii < (0 : Int))) = true then
 .ret [.b true]
 else
 (r_laws_toInDefS [.sl ((a.getD 0 d0).ll)]).bindR fun r2 =>
 (r_spec_RequiredIn [.sl ((r2.getD 0 d0).ll)]).bindR fun r3 =>
 (r_laws_toInDefS [.sl ((a.getD 0 d0).ll)]).bindR fun r4 =>
 (r_impl_RequiredIn [.sl ((r4.getD 0 d0).ll)]).bindR fun r5 =>
 (r_laws_eqStringS [.sl ((r5.getD 0 d0).ll), .sl ((r3.getD 0 d0).ll)]).bindR fun r6 =>
 if (!((r6.getD 0 d0).bb)) = true then
 .ret [.b false]
 else
 (r_laws_toInDefS [.sl ((a.getD 0 d0).ll)]).bindR fun r7 =>
 (r_laws_eqInDefS [.sl ((r4.getD 0 d0).ll), .sl ((r7.getD 0 d0).ll)]).bindR fun r8 =>
 if (!((r8.getD 0 d0).bb)) = true then
 .ret [.b false]
 else
 markM Out.fail (mkV mT mTab 13 [(r4.getD 0 d0).ll] (1 : Int)) 1 fun l9 k10 =>
 Out.andThen (if (decide (k10 < (0 : Int))) = true then
 .norm [.sl ((a.getD 0 d0).ll), .sl ((r3.getD 0 d0).ll), .sl ((r5.getD 0 d0).ll), .b true]
 else
 (r_laws_eqStringS [.sl ((r5.getD 0 d0).ll), .sl ((r3.getD 0 d0).ll)]).bindR fun r11 =>
 .norm [.sl ((a.getD 0 d0).ll), .sl ((r3.getD 0 d0).ll), .sl ((r5.getD 0 d0).ll), .b (!((r11.getD 0 d0).bb))]) fun v12 =>
 if (v12.getD 3 d0).bb = true then
 .ret [.b false]
 else
 markM Out.fail (mkV mT mTab 14 [(v12.getD 2 d0).ll] (1 : Int)) 1 fun l13 k14 =>
 (r_laws_heldStringS [.sl (l13.getD 0 []), .i (1 : Int)]).bindR fun r15 =>
 if (decide ((r15.getD 0 d0).ii < (0 : Int))) = true then
 .ret [.b false]
 else
 if ((r15.getD 0 d0).ii != k14) = true then
 .ret [.b false]
 else
 (r_laws_toInDefS [.sl ((v12.getD 0 d0).ll)]).bindR fun r16 =>
 (r_impl_RequiredIn [.sl ((r16.getD 0 d0).ll)]).bindR fun r17 =>
 (r_laws_eqStringS [.sl ((r17.getD 0 d0).ll), .sl ((v12.getD 1 d0).ll)]).bindR fun r18 =>
 if (!((r18.getD 0 d0).bb)) = true then
 .ret [.b false]
 else
 (r_laws_heldStringS [.sl (l13.getD 0 []), .i (1 : Int)]).bindR fun r19 =>
 if (decide ((r19.getD 0 d0).ii < (0 : Int))) = true then
 .ret [.b false]
 else
 if ((r19.getD 0 d0).ii != k14) = true then
 .ret [.b false]
 else
 .ret [.b true]
theorem eq_laws_FnExactRequiredIn a : r_laws_FnExactRequiredIn a = E_laws_FnExactRequiredIn a := (Run_eq cfg 3 _ a).trans (by kernel_rfl)
noncomputable def E_laws_szInDefSL1 : List DC → Out := fun v1 =>
 if (decide ((v1.getD 2 d0).ii < (((v1.getD 0 d0).ll).length : Int))) = true then
 Out.andThenB (if 76 = 76 ∧ 0 ≤ (v1.getD 2 d0).ii ∧ (v1.getD 2 d0).ii < (((v1.getD 0 d0).ll).length : Int) then
 (r_laws_szInDef [.s (((((v1.getD 0 d0).ll).getD ((v1.getD 2 d0).ii).toNat []).getD 0 d0).ss), .s (((((v1.getD 0 d0).ll).getD ((v1.getD 2 d0).ii).toNat []).getD 1 d0).ss), .s (((((v1.getD 0 d0).ll).getD ((v1.getD 2 d0).ii).toNat []).getD 2 d0).ss), .s (((((v1.getD 0 d0).ll).getD ((v1.getD 2 d0).ii).toNat []).getD 3 d0).ss), .b (((((v1.getD 0 d0).ll).getD ((v1.getD 2 d0).ii).toNat []).getD 4 d0).bb), .i (((((v1.getD 0 d0).ll).getD ((v1.getD 2 d0).ii).toNat []).getD 5 d0).ii), .s (((((v1.getD 0 d0).ll).getD ((v1.getD 2 d0).ii).toNat []).getD 6 d0).ss), .sl (((((v1.getD 0 d0).ll).getD ((v1.getD 2 d0).ii).toNat []).getD 7 d0).ll), .sl (((((v1.getD 0 d0).ll).getD ((v1.getD 2 d0).ii).toNat []).getD 8 d0).ll), .sl (((((v1.getD 0 d0).ll).getD ((v1.getD 2 d0).ii).toNat []).getD 9 d0).ll), .i ((v1.getD 1 d0).ii)]).bindR fun r2 =>
 if (decide ((r2.getD 0 d0).ii < (0 : Int))) = true then
 .ret [.i (-1 : Int)]
 else
 .norm [.sl ((v1.getD 0 d0).ll), .i ((r2.getD 0 d0).ii), .i ((v1.getD 2 d0).ii)]
 else
 .fail) 1 fun v3 =>
 .norm [.sl ((v3.getD 0 d0).ll), .i ((v3.getD 1 d0).ii), .i (IntKind.i64.wrap ((v3.getD 2 d0).ii + (1 : Int)))]
 else
 .ex 0 [.i ((v1.getD 1 d0).ii)]
noncomputable def E_laws_szInDefS (a : List DC) : Out :=
 if (decide ((IntKind.i64.wrap ((a.getD 1 d0).ii - (((a.getD 0 d0).ll).length : Int))) < (0 : Int))) = true then
 .ret [.i (-1 : Int)]
 else
 Out.andThenB (Loop E_laws_szInDefSL1 [.sl ((a.getD 0 d0).ll), .i (IntKind.i64.wrap ((a.getD 1 d0).ii - (((a.getD 0 d0).ll).length : Int))), .i (0 : Int)]) 0 fun v4 =>
 .ret [.i ((v4.getD 0 d0).ii)]
theorem eq_laws_szInDefS a : r_laws_szInDefS a = E_laws_szInDefS a := (Run_eq cfg 7 _ a).trans (by kernel_rfl)
noncomputable def E_laws_toInDefSL1 : List DC → Out := fun v1 =>
 if (decide ((v1.getD 2 d0).ii < (((v1.getD 0 d0).ll).length : Int))) = true then
 Out.andThenB (if 76 = 76 ∧ 0 ≤ (v1.getD 2 d0).ii ∧ (v1.getD 2 d0).ii < (((v1.getD 0 d0).ll).length : Int) then
 (r_laws_toInDef [.s (((((v1.getD 0 d0).ll).getD ((v1.getD 2 d0).ii).toNat []).getD 0 d0).ss), .s (((((v1.getD 0 d0).ll).getD ((v1.getD 2 d0).ii).toNat []).getD 1 d0).ss), .s (((((v1.getD 0 d0).ll).getD ((v1.getD 2 d0).ii).toNat []).getD 2 d0).ss), .s (((((v1.getD 0 d0).ll).getD ((v1.getD 2 d0).ii).toNat []).getD 3 d0).ss), .b (((((v1.getD 0 d0).ll).getD ((v1.getD 2 d0).ii).toNat []).getD 4 d0).bb), .i (((((v1.getD 0 d0).ll).getD ((v1.getD 2 d0).ii).toNat []).getD 5 d0).ii), .s (((((v1.getD 0 d0).ll).getD ((v1.getD 2 d0).ii).toNat []).getD 6 d0).ss), .sl (((((v1.getD 0 d0).ll).getD ((v1.getD 2 d0).ii).toNat []).getD 7 d0).ll), .sl (((((v1.getD 0 d0).ll).getD ((v1.getD 2 d0).ii).toNat []).getD 8 d0).ll), .sl (((((v1.getD 0 d0).ll).getD ((v1.getD 2 d0).ii).toNat []).getD 9 d0).ll)]).bindR fun r2 =>
 if 83 = 83 ∧ 0 ≤ (v1.getD 2 d0).ii ∧ (v1.getD 2 d0).ii < (((v1.getD 1 d0).ll).length : Int) then
 .norm [.sl ((v1.getD 0 d0).ll), .sl (((v1.getD 1 d0).ll).set (((v1.getD 2 d0).ii).toNat) (setRunD (((v1.getD 1 d0).ll).getD (((v1.getD 2 d0).ii).toNat) []) 0 [DC.s ((r2.getD 0 d0).ss), DC.s ((r2.getD 1 d0).ss), DC.s ((r2.getD 2 d0).ss), DC.s ((r2.getD 3 d0).ss), DC.b ((r2.getD 4 d0).bb), DC.i ((r2.getD 5 d0).ii), DC.s ((r2.getD 6 d0).ss), DC.sl ((r2.getD 7 d0).ll), DC.sl ((r2.getD 8 d0).ll), DC.sl ((r2.getD 9 d0).ll)])), .i ((v1.getD 2 d0).ii)]
 else
 .fail
 else
 .fail) 1 fun v3 =>
 .norm [.sl ((v3.getD 0 d0).ll), .sl ((v3.getD 1 d0).ll), .i (IntKind.i64.wrap ((v3.getD 2 d0).ii + (1 : Int)))]
 else
 .ex 0 [.sl ((v1.getD 1 d0).ll)]
noncomputable def E_laws_toInDefS (a : List DC) : Out :=
 if 0 ≤ (((a.getD 0 d0).ll).length : Int) ∧ (((a.getD 0 d0).ll).length : Int) < (LIM : Int) ∧ (((a.getD 0 d0).ll).length : Int) = (((a.getD 0 d0).ll).length : Int) ∧ 168 ≤ 1024 ∧ 0 < 10 ∧ dp 83 = false then
 Out.andThenB (Loop E_laws_toInDefSL1 [.sl ((a.getD 0 d0).ll), .sl (List.replicate (((a.getD 0 d0).ll).length : Int).toNat [DC.s [], DC.s [], DC.s [], DC.s [], DC.b false, DC.i 0, DC.s [], DC.sl [], DC.sl [], DC.sl []]), .i (0 : Int)]) 0 fun v4 =>
 .ret [.sl ((v4.getD 0 d0).ll)]
 else
 .fail
theorem eq_laws_toInDefS a : r_laws_toInDefS a = E_laws_toInDefS a := (Run_eq cfg 9 _ a).trans (by kernel_rfl)
noncomputable def E_spec_RequiredInL1 : List DC → Out := fun v1 =>
 if (decide ((v1.getD 2 d0).ii < (((v1.getD 0 d0).ll).length : Int))) = true then
 Out.andThenB (Out.andThen (if 83 = 83 ∧ 0 ≤ (v1.getD 2 d0).ii ∧ (v1.getD 2 d0).ii < (((v1.getD 0 d0).ll).length : Int) then
 (r_spec_Needed [.s (((((v1.getD 0 d0).ll).getD ((v1.getD 2 d0).ii).toNat []).getD 2 d0).ss), .s (((((v1.getD 0 d0).ll).getD ((v1.getD 2 d0).ii).toNat []).getD 3 d0).ss)]).bindR fun r2 =>
 if (r2.getD 0 d0).bb = true then
 if 83 = 83 ∧ 0 ≤ (v1.getD 2 d0).ii ∧ (v1.getD 2 d0).ii < (((v1.getD 0 d0).ll).length : Int) then
 .norm [.sl ((v1.getD 0 d0).ll), .sl ((v1.getD 1 d0).ll), .i ((v1.getD 2 d0).ii), .b (!(((((v1.getD 0 d0).ll).getD ((v1.getD 2 d0).ii).toNat []).getD 4 d0).bb))]
 else
 .fail
 else
 .norm [.sl ((v1.getD 0 d0).ll), .sl ((v1.getD 1 d0).ll), .i ((v1.getD 2 d0).ii), .b false]
 else
 .fail) fun v3 =>
 Out.andThen (if (v3.getD 3 d0).bb = true then
 if 83 = 83 ∧ 0 ≤ (v3.getD 2 d0).ii ∧ (v3.getD 2 d0).ii < (((v3.getD 0 d0).ll).length : Int) then
 if ((v3.getD 1 d0).ll).length + [[DC.s (((((v3.getD 0 d0).ll).getD ((v3.getD 2 d0).ii).toNat []).getD 0 d0).ss)]].length < LIM then
 .norm [.sl ((v3.getD 0 d0).ll), .sl (((v3.getD 1 d0).ll) ++ [[DC.s (((((v3.getD 0 d0).ll).getD ((v3.getD 2 d0).ii).toNat []).getD 0 d0).ss)]]), .i ((v3.getD 2 d0).ii)]
 else
 .fail
 else
 .fail
 else
 .norm [.sl ((v3.getD 0 d0).ll), .sl ((v3.getD 1 d0).ll), .i ((v3.getD 2 d0).ii)]) fun v4 =>
 .norm [.sl ((v4.getD 0 d0).ll), .sl ((v4.getD 1 d0).ll), .i ((v4.getD 2 d0).ii)]) 1 fun v5 =>
 .norm [.sl ((v5.getD 0 d0).ll), .sl ((v5.getD 1 d0).ll), .i (IntKind.i64.wrap ((v5.getD 2 d0).ii + (1 : Int)))]
 else
 .ex 0 [.sl ((v1.getD 1 d0).ll)]
noncomputable def E_spec_RequiredIn (a : List DC) : Out :=
 Out.andThenB (Loop E_spec_RequiredInL1 [.sl ((a.getD 0 d0).ll), .sl [], .i (0 : Int)]) 0 fun v6 =>
 .ret [.sl ((v6.getD 0 d0).ll)]
theorem eq_spec_RequiredIn a : r_spec_RequiredIn a = E_spec_RequiredIn a := (Run_eq cfg 8 _ a).trans (by kernel_rfl)
noncomputable def E_impl_RequiredInL1 : List DC → Out := fun v1 =>
 if (decide ((v1.getD 3 d0).ii < (v1.getD 2 d0).ii)) = true then
 Out.andThenB (if 83 = 83 ∧ 0 ≤ (v1.getD 3 d0).ii ∧ (v1.getD 3 d0).ii < (((v1.getD 1 d0).ll).length : Int) then
 Out.andThen ((r_impl_Needed [.s (((((v1.getD 1 d0).ll).getD ((v1.getD 3 d0).ii).toNat []).getD 2 d0).ss), .s (((((v1.getD 1 d0).ll).getD ((v1.getD 3 d0).ii).toNat []).getD 3 d0).ss)]).bindR fun r2 =>
 if (r2.getD 0 d0).bb = true then
 .norm [.sl ((v1.getD 0 d0).ll), .sl ((v1.getD 1 d0).ll), .i ((v1.getD 2 d0).ii), .i ((v1.getD 3 d0).ii), .b (!(((((v1.getD 1 d0).ll).getD ((v1.getD 3 d0).ii).toNat []).getD 4 d0).bb)), .s (((((v1.getD 1 d0).ll).getD ((v1.getD 3 d0).ii).toNat []).getD 0 d0).ss), .s (((((v1.getD 1 d0).ll).getD ((v1.getD 3 d0).ii).toNat []).getD 1 d0).ss), .s (((((v1.getD 1 d0).ll).getD ((v1.getD 3 d0).ii).toNat []).getD 2 d0).ss), .s (((((v1.getD 1 d0).ll).getD ((v1.getD 3 d0).ii).toNat []).getD 3 d0).ss), .b (((((v1.getD 1 d0).ll).getD ((v1.getD 3 d0).ii).toNat []).getD 4 d0).bb), .i (((((v1.getD 1 d0).ll).getD ((v1.getD 3 d0).ii).toNat []).getD 5 d0).ii), .s (((((v1.getD 1 d0).ll).getD ((v1.getD 3 d0).ii).toNat []).getD 6 d0).ss), .sl (((((v1.getD 1 d0).ll).getD ((v1.getD 3 d0).ii).toNat []).getD 7 d0).ll), .sl (((((v1.getD 1 d0).ll).getD ((v1.getD 3 d0).ii).toNat []).getD 8 d0).ll), .sl (((((v1.getD 1 d0).ll).getD ((v1.getD 3 d0).ii).toNat []).getD 9 d0).ll)]
 else
 .norm [.sl ((v1.getD 0 d0).ll), .sl ((v1.getD 1 d0).ll), .i ((v1.getD 2 d0).ii), .i ((v1.getD 3 d0).ii), .b false, .s (((((v1.getD 1 d0).ll).getD ((v1.getD 3 d0).ii).toNat []).getD 0 d0).ss), .s (((((v1.getD 1 d0).ll).getD ((v1.getD 3 d0).ii).toNat []).getD 1 d0).ss), .s (((((v1.getD 1 d0).ll).getD ((v1.getD 3 d0).ii).toNat []).getD 2 d0).ss), .s (((((v1.getD 1 d0).ll).getD ((v1.getD 3 d0).ii).toNat []).getD 3 d0).ss), .b (((((v1.getD 1 d0).ll).getD ((v1.getD 3 d0).ii).toNat []).getD 4 d0).bb), .i (((((v1.getD 1 d0).ll).getD ((v1.getD 3 d0).ii).toNat []).getD 5 d0).ii), .s (((((v1.getD 1 d0).ll).getD ((v1.getD 3 d0).ii).toNat []).getD 6 d0).ss), .sl (((((v1.getD 1 d0).ll).getD ((v1.getD 3 d0).ii).toNat []).getD 7 d0).ll), .sl (((((v1.getD 1 d0).ll).getD ((v1.getD 3 d0).ii).toNat []).getD 8 d0).ll), .sl (((((v1.getD 1 d0).ll).getD ((v1.getD 3 d0).ii).toNat []).getD 9 d0).ll)]) fun v3 =>
 Out.andThen (if (v3.getD 4 d0).bb = true then
 if ((v3.getD 0 d0).ll).length + [[DC.s ((v3.getD 5 d0).ss)]].length < LIM then
 .norm [.sl (((v3.getD 0 d0).ll) ++ [[DC.s ((v3.getD 5 d0).ss)]]), .sl ((v3.getD 1 d0).ll), .i ((v3.getD 2 d0).ii), .i ((v3.getD 3 d0).ii)]
 else
 .fail
 else
 .norm [.sl ((v3.getD 0 d0).ll), .sl ((v3.getD 1 d0).ll), .i ((v3.getD 2 d0).ii), .i ((v3.getD 3 d0).ii)]) fun v4 =>
 .norm [.sl ((v4.getD 0 d0).ll), .sl ((v4.getD 1 d0).ll), .i ((v4.getD 2 d0).ii), .i ((v4.getD 3 d0).ii)]
 else
 .fail) 1 fun v5 =>
 .norm [.sl ((v5.getD 0 d0).ll), .sl ((v5.getD 1 d0).ll), .i ((v5.getD 2 d0).ii), .i (IntKind.i64.wrap ((v5.getD 3 d0).ii + (1 : Int)))]
 else
 .ex 0 [.sl ((v1.getD 0 d0).ll)]
noncomputable def E_impl_RequiredIn (a : List DC) : Out :=
 Out.andThenB (Loop E_impl_RequiredInL1 [.sl [], .sl ((a.getD 0 d0).ll), .i (((a.getD 0 d0).ll).length : Int), .i (0 : Int)]) 0 fun v6 =>
 .ret [.sl ((v6.getD 0 d0).ll)]
theorem eq_impl_RequiredIn a : r_impl_RequiredIn a = E_impl_RequiredIn a := (Run_eq cfg 10 _ a).trans (by kernel_rfl)
noncomputable def E_laws_eqStringSL1 : List DC → Out := fun v1 =>
 if (decide ((v1.getD 2 d0).ii < (((v1.getD 0 d0).ll).length : Int))) = true then
 Out.andThenB (if 9 = 9 ∧ 0 ≤ (v1.getD 2 d0).ii ∧ (v1.getD 2 d0).ii < (((v1.getD 0 d0).ll).length : Int) then
 if 9 = 9 ∧ 0 ≤ (v1.getD 2 d0).ii ∧ (v1.getD 2 d0).ii < (((v1.getD 1 d0).ll).length : Int) then
 if (!(((((v1.getD 0 d0).ll).getD ((v1.getD 2 d0).ii).toNat []).getD 0 d0).ss == ((((v1.getD 1 d0).ll).getD ((v1.getD 2 d0).ii).toNat []).getD 0 d0).ss)) = true then
 .ret [.b false]
 else
 .norm [.sl ((v1.getD 0 d0).ll), .sl ((v1.getD 1 d0).ll), .i ((v1.getD 2 d0).ii)]
 else
 .fail
 else
 .fail) 1 fun v2 =>
 .norm [.sl ((v2.getD 0 d0).ll), .sl ((v2.getD 1 d0).ll), .i (IntKind.i64.wrap ((v2.getD 2 d0).ii + (1 : Int)))]
 else
 .ex 0 []
noncomputable def E_laws_eqStringS (a : List DC) : Out :=
 if ((((a.getD 0 d0).ll).length : Int) != (((a.getD 1 d0).ll).length : Int)) = true then
 .ret [.b false]
 else
 Out.andThenB (Loop E_laws_eqStringSL1 [.sl ((a.getD 0 d0).ll), .sl ((a.getD 1 d0).ll), .i (0 : Int)]) 0 fun v3 =>
 .ret [.b true]
theorem eq_laws_eqStringS a : r_laws_eqStringS a = E_laws_eqStringS a := (Run_eq cfg 11 _ a).trans (by kernel_rfl)
noncomputable def E_laws_eqInDefSL1 : List DC → Out := fun v1 =>
 if (decide ((v1.getD 2 d0).ii < (((v1.getD 0 d0).ll).length : Int))) = true then
 Out.andThenB (if 83 = 83 ∧ 0 ≤ (v1.getD 2 d0).ii ∧ (v1.getD 2 d0).ii < (((v1.getD 0 d0).ll).length : Int) then
 if 83 = 83 ∧ 0 ≤ (v1.getD 2 d0).ii ∧ (v1.getD 2 d0).ii < (((v1.getD 1 d0).ll).length : Int) then
 (r_laws_eqInDef [.s (((((v1.getD 0 d0).ll).getD ((v1.getD 2 d0).ii).toNat []).getD 0 d0).ss), .s (((((v1.getD 0 d0).ll).getD ((v1.getD 2 d0).ii).toNat []).getD 1 d0).ss), .s (((((v1.getD 0 d0).ll).getD ((v1.getD 2 d0).ii).toNat []).getD 2 d0).ss), .s (((((v1.getD 0 d0).ll).getD ((v1.getD 2 d0).ii).toNat []).getD 3 d0).ss), .b (((((v1.getD 0 d0).ll).getD ((v1.getD 2 d0).ii).toNat []).getD 4 d0).bb), .i (((((v1.getD 0 d0).ll).getD ((v1.getD 2 d0).ii).toNat []).getD 5 d0).ii), .s (((((v1.getD 0 d0).ll).getD ((v1.getD 2 d0).ii).toNat []).getD 6 d0).ss), .sl (((((v1.getD 0 d0).ll).getD ((v1.getD 2 d0).ii).toNat []).getD 7 d0).ll), .sl (((((v1.getD 0 d0).ll).getD ((v1.getD 2 d0).ii).toNat []).getD 8 d0).ll), .sl (((((v1.getD 0 d0).ll).getD ((v1.getD 2 d0).ii).toNat []).getD 9 d0).ll), .s (((((v1.getD 1 d0).ll).getD ((v1.getD 2 d0).ii).toNat []).getD 0 d0).ss), .s (((((v1.getD 1 d0).ll).getD ((v1.getD 2 d0).ii).toNat []).getD 1 d0).ss), .s (((((v1.getD 1 d0).ll).getD ((v1.getD 2 d0).ii).toNat []).getD 2 d0).ss), .s (((((v1.getD 1 d0).ll).getD ((v1.getD 2 d0).ii).toNat []).getD 3 d0).ss), .b (((((v1.getD 1 d0).ll).getD ((v1.getD 2 d0).ii).toNat []).getD 4 d0).bb), .i (((((v1.getD 1 d0).ll).getD ((v1.getD 2 d0).ii).toNat []).getD 5 d0).ii), .s (((((v1.getD 1 d0).ll).getD ((v1.getD 2 d0).ii).toNat []).getD 6 d0).ss), .sl (((((v1.getD 1 d0).ll).getD ((v1.getD 2 d0).ii).toNat []).getD 7 d0).ll), .sl (((((v1.getD 1 d0).ll).getD ((v1.getD 2 d0).ii).toNat []).getD 8 d0).ll), .sl (((((v1.getD 1 d0).ll).getD ((v1.getD 2 d0).ii).toNat []).getD 9 d0).ll)]).bindR fun r2 =>
 if (!((r2.getD 0 d0).bb)) = true then
 .ret [.b false]
 else
 .norm [.sl ((v1.getD 0 d0).ll), .sl ((v1.getD 1 d0).ll), .i ((v1.getD 2 d0).ii)]
 else
 .fail
 else
 .fail) 1 fun v3 =>
 .norm [.sl ((v3.getD 0 d0).ll), .sl ((v3.getD 1 d0).ll), .i (IntKind.i64.wrap ((v3.getD 2 d0).ii + (1 : Int)))]
 else
 .ex 0 []
noncomputable def E_laws_eqInDefS (a : List DC) : Out :=
 if ((((a.getD 0 d0).ll).length : Int) != (((a.getD 1 d0).ll).length : Int)) = true then
 .ret [.b false]
 else
 Out.andThenB (Loop E_laws_eqInDefSL1 [.sl ((a.getD 0 d0).ll), .sl ((a.getD 1 d0).ll), .i (0 : Int)]) 0 fun v4 =>
 .ret [.b true]
theorem eq_laws_eqInDefS a : r_laws_eqInDefS a = E_laws_eqInDefS a := (Run_eq cfg 12 _ a).trans (by kernel_rfl)
noncomputable def E_laws_heldStringSL1 : List DC → Out := fun v1 =>
 if (decide ((v1.getD 2 d0).ii < (((v1.getD 0 d0).ll).length : Int))) = true then
 Out.andThenB (if 9 = 9 ∧ 0 ≤ (v1.getD 2 d0).ii ∧ (v1.getD 2 d0).ii < (((v1.getD 0 d0).ll).length : Int) then
 (r_laws_markText [.i ((v1.getD 1 d0).ii)]).bindR fun r2 =>
 if (!(((((v1.getD 0 d0).ll).getD ((v1.getD 2 d0).ii).toNat []).getD 0 d0).ss == (r2.getD 0 d0).ss)) = true then
 .ret [.i (-1 : Int)]
 else
 .norm [.sl ((v1.getD 0 d0).ll), .i (IntKind.i64.wrap ((v1.getD 1 d0).ii + (1 : Int))), .i ((v1.getD 2 d0).ii)]
 else
 .fail) 1 fun v3 =>
 .norm [.sl ((v3.getD 0 d0).ll), .i ((v3.getD 1 d0).ii), .i (IntKind.i64.wrap ((v3.getD 2 d0).ii + (1 : Int)))]
 else
 .ex 0 [.i ((v1.getD 1 d0).ii)]
noncomputable def E_laws_heldStringS (a : List DC) : Out :=
 Out.andThenB (Loop E_laws_heldStringSL1 [.sl ((a.getD 0 d0).ll), .i ((a.getD 1 d0).ii), .i (0 : Int)]) 0 fun v4 =>
 .ret [.i ((v4.getD 0 d0).ii)]
theorem eq_laws_heldStringS a : r_laws_heldStringS a = E_laws_heldStringS a := (Run_eq cfg 15 _ a).trans (by kernel_rfl)
noncomputable def E_laws_szInDef (a : List DC) : Out :=
 if (decide ((IntKind.i64.wrap ((a.getD 10 d0).ii - (((a.getD 0 d0).ss).length : Int))) < (0 : Int))) = true then
 .ret [.i (-1 : Int)]
 else
 if (decide ((IntKind.i64.wrap ((IntKind.i64.wrap ((a.getD 10 d0).ii - (((a.getD 0 d0).ss).length : Int))) - (((a.getD 1 d0).ss).length : Int))) < (0 : Int))) = true then
 .ret [.i (-1 : Int)]
 else
 (r_laws_szType [.s ((a.getD 2 d0).ss), .s ((a.getD 3 d0).ss), .i (IntKind.i64.wrap ((IntKind.i64.wrap ((a.getD 10 d0).ii - (((a.getD 0 d0).ss).length : Int))) - (((a.getD 1 d0).ss).length : Int)))]).bindR fun r1 =>
 if (decide ((r1.getD 0 d0).ii < (0 : Int))) = true then
 .ret [.i (-1 : Int)]
 else
 (r_laws_szValue [.i ((a.getD 5 d0).ii), .s ((a.getD 6 d0).ss), .sl ((a.getD 7 d0).ll), .sl ((a.getD 8 d0).ll), .i ((r1.getD 0 d0).ii)]).bindR fun r2 =>
 if (decide ((r2.getD 0 d0).ii < (0 : Int))) = true then
 .ret [.i (-1 : Int)]
 else
 (r_laws_szDirS [.sl ((a.getD 9 d0).ll), .i ((r2.getD 0 d0).ii)]).bindR fun r3 =>
 if (decide ((r3.getD 0 d0).ii < (0 : Int))) = true then
 .ret [.i (-1 : Int)]
 else
 .ret [.i ((r3.getD 0 d0).ii)]
theorem eq_laws_szInDef a : r_laws_szInDef a = E_laws_szInDef a := (Run_eq cfg 35 _ a).trans (by kernel_rfl)
noncomputable def E_laws_toInDef (a : List DC) : Out :=
 (r_laws_toType [.s ((a.getD 2 d0).ss), .s ((a.getD 3 d0).ss)]).bindR fun r1 =>
 (r_laws_toValue [.i ((a.getD 5 d0).ii), .s ((a.getD 6 d0).ss), .sl ((a.getD 7 d0).ll), .sl ((a.getD 8 d0).ll)]).bindR fun r2 =>
 (r_laws_toDirS [.sl ((a.getD 9 d0).ll)]).bindR fun r3 =>
 .ret [.s ((a.getD 0 d0).ss), .s ((a.getD 1 d0).ss), .s ((r1.getD 0 d0).ss), .s ((r1.getD 1 d0).ss), .b ((a.getD 4 d0).bb), .i ((r2.getD 0 d0).ii), .s ((r2.getD 1 d0).ss), .sl ((r2.getD 2 d0).ll), .sl ((r2.getD 3 d0).ll), .sl ((r3.getD 0 d0).ll)]
theorem eq_laws_toInDef a : r_laws_toInDef a = E_laws_toInDef a := (Run_eq cfg 37 _ a).trans (by kernel_rfl)
noncomputable def E_spec_Needed (a : List DC) : Out :=
 Out.andThen (if (decide ((((a.getD 1 d0).ss).length : Int) > (0 : Int))) = true then
 if 0 ≤ (IntKind.i64.wrap ((((a.getD 1 d0).ss).length : Int) - (1 : Int))) ∧ (IntKind.i64.wrap ((((a.getD 1 d0).ss).length : Int) - (1 : Int))) < (((a.getD 1 d0).ss).length : Int) then
 .norm [.b (((((a.getD 1 d0).ss).getD (IntKind.i64.wrap ((((a.getD 1 d0).ss).length : Int) - (1 : Int))).toNat 0).toNat : Int) == (33 : Int))]
 else
 .fail
 else
 .norm [.b false]) fun v1 =>
 .ret [.b ((v1.getD 0 d0).bb)]
theorem eq_spec_Needed a : r_spec_Needed a = E_spec_Needed a := (Run_eq cfg 36 _ a).trans (by kernel_rfl)
noncomputable def E_impl_Needed (a : List DC) : Out :=
 (r_strings_HasSuffix [.s ((a.getD 1 d0).ss), .s ([33] : List UInt8)]).bindR fun r1 =>
 .ret [.b ((r1.getD 0 d0).bb)]
theorem eq_impl_Needed a : r_impl_Needed a = E_impl_Needed a := (Run_eq cfg 38 _ a).trans (by kernel_rfl)
noncomputable def E_laws_eqInDef (a : List DC) : Out :=
 if (!((a.getD 0 d0).ss == (a.getD 10 d0).ss)) = true then
 .ret [.b false]
 else
 if (!((a.getD 1 d0).ss == (a.getD 11 d0).ss)) = true then
 .ret [.b false]
 else
 (r_laws_eqType [.s ((a.getD 2 d0).ss), .s ((a.getD 3 d0).ss), .s ((a.getD 12 d0).ss), .s ((a.getD 13 d0).ss)]).bindR fun r1 =>
 if (!((r1.getD 0 d0).bb)) = true then
 .ret [.b false]
 else
 if (!((a.getD 4 d0).bb == (a.getD 14 d0).bb)) = true then
 .ret [.b false]
 else
 (r_laws_eqValue [.i ((a.getD 5 d0).ii), .s ((a.getD 6 d0).ss), .sl ((a.getD 7 d0).ll), .sl ((a.getD 8 d0).ll), .i ((a.getD 15 d0).ii), .s ((a.getD 16 d0).ss), .sl ((a.getD 17 d0).ll), .sl ((a.getD 18 d0).ll)]).bindR fun r2 =>
 if (!((r2.getD 0 d0).bb)) = true then
 .ret [.b false]
 else
 (r_laws_eqDirS [.sl ((a.getD 9 d0).ll), .sl ((a.getD 19 d0).ll)]).bindR fun r3 =>
 if (!((r3.getD 0 d0).bb)) = true then
 .ret [.b false]
 else
 .ret [.b true]
theorem eq_laws_eqInDef a : r_laws_eqInDef a = E_laws_eqInDef a := (Run_eq cfg 39 _ a).trans (by kernel_rfl)
theorem eq_laws_markText a : r_laws_markText a = E_laws_markText a := (Run_eq cfg 40 _ a).trans (by kernel_rfl)
noncomputable def E_laws_szType (a : List DC) : Out :=
 if (decide ((IntKind.i64.wrap ((a.getD 2 d0).ii - (((a.getD 0 d0).ss).length : Int))) < (0 : Int))) = true then
 .ret [.i (-1 : Int)]
 else
 if (decide ((IntKind.i64.wrap ((IntKind.i64.wrap ((a.getD 2 d0).ii - (((a.getD 0 d0).ss).length : Int))) - (((a.getD 1 d0).ss).length : Int))) < (0 : Int))) = true then
 .ret [.i (-1 : Int)]
 else
 .ret [.i (IntKind.i64.wrap ((IntKind.i64.wrap ((a.getD 2 d0).ii - (((a.getD 0 d0).ss).length : Int))) - (((a.getD 1 d0).ss).length : Int)))]
theorem eq_laws_szType a : r_laws_szType a = E_laws_szType a := (Run_eq cfg 77 _ a).trans (by kernel_rfl)
noncomputable def E_laws_szValue (a : List DC) : Out :=
 if (decide ((IntKind.i64.wrap ((a.getD 4 d0).ii - (((a.getD 1 d0).ss).length : Int))) < (0 : Int))) = true then
 .ret [.i (-1 : Int)]
 else
 (r_laws_szValueS [.sl ((a.getD 2 d0).ll), .i (IntKind.i64.wrap ((a.getD 4 d0).ii - (((a.getD 1 d0).ss).length : Int)))]).bindR fun r1 =>
 if (decide ((r1.getD 0 d0).ii < (0 : Int))) = true then
 .ret [.i (-1 : Int)]
 else
 (r_laws_szStringS [.sl ((a.getD 3 d0).ll), .i ((r1.getD 0 d0).ii)]).bindR fun r2 =>
 if (decide ((r2.getD 0 d0).ii < (0 : Int))) = true then
 .ret [.i (-1 : Int)]
 else
 .ret [.i ((r2.getD 0 d0).ii)]
theorem eq_laws_szValue a : r_laws_szValue a = E_laws_szValue a := (Run_eq cfg 78 _ a).trans (by kernel_rfl)
noncomputable def E_laws_szDirSL1 : List DC → Out := fun v1 =>
 if (decide ((v1.getD 2 d0).ii < (((v1.getD 0 d0).ll).length : Int))) = true then
 Out.andThenB (if 143 = 143 ∧ 0 ≤ (v1.getD 2 d0).ii ∧ (v1.getD 2 d0).ii < (((v1.getD 0 d0).ll).length : Int) then
 (r_laws_szDir [.s (((((v1.getD 0 d0).ll).getD ((v1.getD 2 d0).ii).toNat []).getD 0 d0).ss), .sl (((((v1.getD 0 d0).ll).getD ((v1.getD 2 d0).ii).toNat []).getD 1 d0).ll), .i ((v1.getD 1 d0).ii)]).bindR fun r2 =>
 if (decide ((r2.getD 0 d0).ii < (0 : Int))) = true then
 .ret [.i (-1 : Int)]
 else
 .norm [.sl ((v1.getD 0 d0).ll), .i ((r2.getD 0 d0).ii), .i ((v1.getD 2 d0).ii)]
 else
 .fail) 1 fun v3 =>
 .norm [.sl ((v3.getD 0 d0).ll), .i ((v3.getD 1 d0).ii), .i (IntKind.i64.wrap ((v3.getD 2 d0).ii + (1 : Int)))]
 else
 .ex 0 [.i ((v1.getD 1 d0).ii)]
noncomputable def E_laws_szDirS (a : List DC) : Out :=
 if (decide ((IntKind.i64.wrap ((a.getD 1 d0).ii - (((a.getD 0 d0).ll).length : Int))) < (0 : Int))) = true then
 .ret [.i (-1 : Int)]
 else
 Out.andThenB (Loop E_laws_szDirSL1 [.sl ((a.getD 0 d0).ll), .i (IntKind.i64.wrap ((a.getD 1 d0).ii - (((a.getD 0 d0).ll).length : Int))), .i (0 : Int)]) 0 fun v4 =>
 .ret [.i ((v4.getD 0 d0).ii)]
theorem eq_laws_szDirS a : r_laws_szDirS a = E_laws_szDirS a := (Run_eq cfg 66 _ a).trans (by kernel_rfl)
noncomputable def E_laws_toType (a : List DC) : Out :=
 .ret [.s ((a.getD 0 d0).ss), .s ((a.getD 1 d0).ss)]
theorem eq_laws_toType a : r_laws_toType a = E_laws_toType a := (Run_eq cfg 79 _ a).trans (by kernel_rfl)
noncomputable def E_laws_toValue (a : List DC) : Out :=
 (r_laws_toValueS [.sl ((a.getD 2 d0).ll)]).bindR fun r1 =>
 (r_laws_toStringS [.sl ((a.getD 3 d0).ll)]).bindR fun r2 =>
 .ret [.i ((a.getD 0 d0).ii), .s ((a.getD 1 d0).ss), .sl ((r1.getD 0 d0).ll), .sl ((r2.getD 0 d0).ll)]
theorem eq_laws_toValue a : r_laws_toValue a = E_laws_toValue a := (Run_eq cfg 80 _ a).trans (by kernel_rfl)
noncomputable def E_laws_toDirSL1 : List DC → Out := fun v1 =>
 if (decide ((v1.getD 2 d0).ii < (((v1.getD 0 d0).ll).length : Int))) = true then
 Out.andThenB (if 143 = 143 ∧ 0 ≤ (v1.getD 2 d0).ii ∧ (v1.getD 2 d0).ii < (((v1.getD 0 d0).ll).length : Int) then
 (r_laws_toDir [.s (((((v1.getD 0 d0).ll).getD ((v1.getD 2 d0).ii).toNat []).getD 0 d0).ss), .sl (((((v1.getD 0 d0).ll).getD ((v1.getD 2 d0).ii).toNat []).getD 1 d0).ll)]).bindR fun r2 =>
 if 122 = 122 ∧ 0 ≤ (v1.getD 2 d0).ii ∧ (v1.getD 2 d0).ii < (((v1.getD 1 d0).ll).length : Int) then
 .norm [.sl ((v1.getD 0 d0).ll), .sl (((v1.getD 1 d0).ll).set (((v1.getD 2 d0).ii).toNat) (setRunD (((v1.getD 1 d0).ll).getD (((v1.getD 2 d0).ii).toNat) []) 0 [DC.s ((r2.getD 0 d0).ss), DC.sl ((r2.getD 1 d0).ll)])), .i ((v1.getD 2 d0).ii)]
 else
 .fail
 else
 .fail) 1 fun v3 =>
 .norm [.sl ((v3.getD 0 d0).ll), .sl ((v3.getD 1 d0).ll), .i (IntKind.i64.wrap ((v3.getD 2 d0).ii + (1 : Int)))]
 else
 .ex 0 [.sl ((v1.getD 1 d0).ll)]
noncomputable def E_laws_toDirS (a : List DC) : Out :=
 if 0 ≤ (((a.getD 0 d0).ll).length : Int) ∧ (((a.getD 0 d0).ll).length : Int) < (LIM : Int) ∧ (((a.getD 0 d0).ll).length : Int) = (((a.getD 0 d0).ll).length : Int) ∧ 40 ≤ 1024 ∧ 0 < 2 ∧ dp 122 = false then
 Out.andThenB (Loop E_laws_toDirSL1 [.sl ((a.getD 0 d0).ll), .sl (List.replicate (((a.getD 0 d0).ll).length : Int).toNat [DC.s [], DC.sl []]), .i (0 : Int)]) 0 fun v4 =>
 .ret [.sl ((v4.getD 0 d0).ll)]
 else
 .fail
theorem eq_laws_toDirS a : r_laws_toDirS a = E_laws_toDirS a := (Run_eq cfg 71 _ a).trans (by kernel_rfl)
noncomputable def E_strings_HasSuffix (a : List DC) : Out :=
 (r_internal_stringslite_HasSuffix [.s ((a.getD 0 d0).ss), .s ((a.getD 1 d0).ss)]).bindR fun r1 =>
 .ret [.b ((r1.getD 0 d0).bb)]
theorem eq_strings_HasSuffix a : r_strings_HasSuffix a = E_strings_HasSuffix a := (Run_eq cfg 81 _ a).trans (by kernel_rfl)
noncomputable def E_laws_eqType (a : List DC) : Out :=
 if (!((a.getD 0 d0).ss == (a.getD 2 d0).ss)) = true then
 .ret [.b false]
 else
 if (!((a.getD 1 d0).ss == (a.getD 3 d0).ss)) = true then
 .ret [.b false]
 else
 .ret [.b true]
theorem eq_laws_eqType a : r_laws_eqType a = E_laws_eqType a := (Run_eq cfg 82 _ a).trans (by kernel_rfl)
noncomputable def E_laws_eqValue (a : List DC) : Out :=
 if ((a.getD 0 d0).ii != (a.getD 4 d0).ii) = true then
 .ret [.b false]
 else
 if (!((a.getD 1 d0).ss == (a.getD 5 d0).ss)) = true then
 .ret [.b false]
 else
 (r_laws_eqValueS [.sl ((a.getD 2 d0).ll), .sl ((a.getD 6 d0).ll)]).bindR fun r1 =>
 if (!((r1.getD 0 d0).bb)) = true then
 .ret [.b false]
 else
 (r_laws_eqStringS [.sl ((a.getD 3 d0).ll), .sl ((a.getD 7 d0).ll)]).bindR fun r2 =>
 if (!((r2.getD 0 d0).bb)) = true then
 .ret [.b false]
 else
 .ret [.b true]
theorem eq_laws_eqValue a : r_laws_eqValue a = E_laws_eqValue a := (Run_eq cfg 83 _ a).trans (by kernel_rfl)
noncomputable def E_laws_eqDirSL1 : List DC → Out := fun v1 =>
 if (decide ((v1.getD 2 d0).ii < (((v1.getD 0 d0).ll).length : Int))) = true then
 Out.andThenB (if 122 = 122 ∧ 0 ≤ (v1.getD 2 d0).ii ∧ (v1.getD 2 d0).ii < (((v1.getD 0 d0).ll).length : Int) then
 if 122 = 122 ∧ 0 ≤ (v1.getD 2 d0).ii ∧ (v1.getD 2 d0).ii < (((v1.getD 1 d0).ll).length : Int) then
 (r_laws_eqDir [.s (((((v1.getD 0 d0).ll).getD ((v1.getD 2 d0).ii).toNat []).getD 0 d0).ss), .sl (((((v1.getD 0 d0).ll).getD ((v1.getD 2 d0).ii).toNat []).getD 1 d0).ll), .s (((((v1.getD 1 d0).ll).getD ((v1.getD 2 d0).ii).toNat []).getD 0 d0).ss), .sl (((((v1.getD 1 d0).ll).getD ((v1.getD 2 d0).ii).toNat []).getD 1 d0).ll)]).bindR fun r2 =>
 if (!((r2.getD 0 d0).bb)) = true then
 .ret [.b false]
 else
 .norm [.sl ((v1.getD 0 d0).ll), .sl ((v1.getD 1 d0).ll), .i ((v1.getD 2 d0).ii)]
 else
 .fail
 else
 .fail) 1 fun v3 =>
 .norm [.sl ((v3.getD 0 d0).ll), .sl ((v3.getD 1 d0).ll), .i (IntKind.i64.wrap ((v3.getD 2 d0).ii + (1 : Int)))]
 else
 .ex 0 []
noncomputable def E_laws_eqDirS (a : List DC) : Out :=
 if ((((a.getD 0 d0).ll).length : Int) != (((a.getD 1 d0).ll).length : Int)) = true then
 .ret [.b false]
 else
 Out.andThenB (Loop E_laws_eqDirSL1 [.sl ((a.getD 0 d0).ll), .sl ((a.getD 1 d0).ll), .i (0 : Int)]) 0 fun v4 =>
 .ret [.b true]
theorem eq_laws_eqDirS a : r_laws_eqDirS a = E_laws_eqDirS a := (Run_eq cfg 76 _ a).trans (by kernel_rfl)
noncomputable def E_laws_szValueSL1 : List DC → Out := fun v1 =>
 if (decide ((v1.getD 2 d0).ii < (((v1.getD 0 d0).ll).length : Int))) = true then
 Out.andThenB (if 74 = 74 ∧ 0 ≤ (v1.getD 2 d0).ii ∧ (v1.getD 2 d0).ii < (((v1.getD 0 d0).ll).length : Int) then
 (r_laws_szValue [.i (((((v1.getD 0 d0).ll).getD ((v1.getD 2 d0).ii).toNat []).getD 0 d0).ii), .s (((((v1.getD 0 d0).ll).getD ((v1.getD 2 d0).ii).toNat []).getD 1 d0).ss), .sl (((((v1.getD 0 d0).ll).getD ((v1.getD 2 d0).ii).toNat []).getD 2 d0).ll), .sl (((((v1.getD 0 d0).ll).getD ((v1.getD 2 d0).ii).toNat []).getD 3 d0).ll), .i ((v1.getD 1 d0).ii)]).bindR fun r2 =>
 if (decide ((r2.getD 0 d0).ii < (0 : Int))) = true then
 .ret [.i (-1 : Int)]
 else
 .norm [.sl ((v1.getD 0 d0).ll), .i ((r2.getD 0 d0).ii), .i ((v1.getD 2 d0).ii)]
 else
 .fail) 1 fun v3 =>
 .norm [.sl ((v3.getD 0 d0).ll), .i ((v3.getD 1 d0).ii), .i (IntKind.i64.wrap ((v3.getD 2 d0).ii + (1 : Int)))]
 else
 .ex 0 [.i ((v1.getD 1 d0).ii)]
noncomputable def E_laws_szValueS (a : List DC) : Out :=
 if (decide ((IntKind.i64.wrap ((a.getD 1 d0).ii - (((a.getD 0 d0).ll).length : Int))) < (0 : Int))) = true then
 .ret [.i (-1 : Int)]
 else
 Out.andThenB (Loop E_laws_szValueSL1 [.sl ((a.getD 0 d0).ll), .i (IntKind.i64.wrap ((a.getD 1 d0).ii - (((a.getD 0 d0).ll).length : Int))), .i (0 : Int)]) 0 fun v4 =>
 .ret [.i ((v4.getD 0 d0).ii)]
theorem eq_laws_szValueS a : r_laws_szValueS a = E_laws_szValueS a := (Run_eq cfg 111 _ a).trans (by kernel_rfl)
noncomputable def E_laws_szStringSL1 : List DC → Out := fun v1 =>
 if (decide ((v1.getD 2 d0).ii < (((v1.getD 0 d0).ll).length : Int))) = true then
 Out.andThenB (if 9 = 9 ∧ 0 ≤ (v1.getD 2 d0).ii ∧ (v1.getD 2 d0).ii < (((v1.getD 0 d0).ll).length : Int) then
 if (decide ((IntKind.i64.wrap ((v1.getD 1 d0).ii - ((((((v1.getD 0 d0).ll).getD ((v1.getD 2 d0).ii).toNat []).getD 0 d0).ss).length : Int))) < (0 : Int))) = true then
 .ret [.i (-1 : Int)]
 else
 .norm [.sl ((v1.getD 0 d0).ll), .i (IntKind.i64.wrap ((v1.getD 1 d0).ii - ((((((v1.getD 0 d0).ll).getD ((v1.getD 2 d0).ii).toNat []).getD 0 d0).ss).length : Int))), .i ((v1.getD 2 d0).ii)]
 else
 .fail) 1 fun v2 =>
 .norm [.sl ((v2.getD 0 d0).ll), .i ((v2.getD 1 d0).ii), .i (IntKind.i64.wrap ((v2.getD 2 d0).ii + (1 : Int)))]
 else
 .ex 0 [.i ((v1.getD 1 d0).ii)]
noncomputable def E_laws_szStringS (a : List DC) : Out :=
 if (decide ((IntKind.i64.wrap ((a.getD 1 d0).ii - (((a.getD 0 d0).ll).length : Int))) < (0 : Int))) = true then
 .ret [.i (-1 : Int)]
 else
 Out.andThenB (Loop E_laws_szStringSL1 [.sl ((a.getD 0 d0).ll), .i (IntKind.i64.wrap ((a.getD 1 d0).ii - (((a.getD 0 d0).ll).length : Int))), .i (0 : Int)]) 0 fun v3 =>
 .ret [.i ((v3.getD 0 d0).ii)]
theorem eq_laws_szStringS a : r_laws_szStringS a = E_laws_szStringS a := (Run_eq cfg 44 _ a).trans (by kernel_rfl)
noncomputable def E_laws_szDir (a : List DC) : Out :=
 if (decide ((IntKind.i64.wrap ((a.getD 2 d0).ii - (((a.getD 0 d0).ss).length : Int))) < (0 : Int))) = true then
 .ret [.i (-1 : Int)]
 else
 (r_laws_szArgS [.sl ((a.getD 1 d0).ll), .i (IntKind.i64.wrap ((a.getD 2 d0).ii - (((a.getD 0 d0).ss).length : Int)))]).bindR fun r1 =>
 if (decide ((r1.getD 0 d0).ii < (0 : Int))) = true then
 .ret [.i (-1 : Int)]
 else
 .ret [.i ((r1.getD 0 d0).ii)]
theorem eq_laws_szDir a : r_laws_szDir a = E_laws_szDir a := (Run_eq cfg 93 _ a).trans (by kernel_rfl)
noncomputable def E_laws_toValueSL1 : List DC → Out := fun v1 =>
 if (decide ((v1.getD 2 d0).ii < (((v1.getD 0 d0).ll).length : Int))) = true then
 Out.andThenB (if 74 = 74 ∧ 0 ≤ (v1.getD 2 d0).ii ∧ (v1.getD 2 d0).ii < (((v1.getD 0 d0).ll).length : Int) then
 (r_laws_toValue [.i (((((v1.getD 0 d0).ll).getD ((v1.getD 2 d0).ii).toNat []).getD 0 d0).ii), .s (((((v1.getD 0 d0).ll).getD ((v1.getD 2 d0).ii).toNat []).getD 1 d0).ss), .sl (((((v1.getD 0 d0).ll).getD ((v1.getD 2 d0).ii).toNat []).getD 2 d0).ll), .sl (((((v1.getD 0 d0).ll).getD ((v1.getD 2 d0).ii).toNat []).getD 3 d0).ll)]).bindR fun r2 =>
 if 81 = 81 ∧ 0 ≤ (v1.getD 2 d0).ii ∧ (v1.getD 2 d0).ii < (((v1.getD 1 d0).ll).length : Int) then
 .norm [.sl ((v1.getD 0 d0).ll), .sl (((v1.getD 1 d0).ll).set (((v1.getD 2 d0).ii).toNat) (setRunD (((v1.getD 1 d0).ll).getD (((v1.getD 2 d0).ii).toNat) []) 0 [DC.i ((r2.getD 0 d0).ii), DC.s ((r2.getD 1 d0).ss), DC.sl ((r2.getD 2 d0).ll), DC.sl ((r2.getD 3 d0).ll)])), .i ((v1.getD 2 d0).ii)]
 else
 .fail
 else
 .fail) 1 fun v3 =>
 .norm [.sl ((v3.getD 0 d0).ll), .sl ((v3.getD 1 d0).ll), .i (IntKind.i64.wrap ((v3.getD 2 d0).ii + (1 : Int)))]
 else
 .ex 0 [.sl ((v1.getD 1 d0).ll)]
noncomputable def E_laws_toValueS (a : List DC) : Out :=
 if 0 ≤ (((a.getD 0 d0).ll).length : Int) ∧ (((a.getD 0 d0).ll).length : Int) < (LIM : Int) ∧ (((a.getD 0 d0).ll).length : Int) = (((a.getD 0 d0).ll).length : Int) ∧ 72 ≤ 1024 ∧ 0 < 4 ∧ dp 81 = false then
 Out.andThenB (Loop E_laws_toValueSL1 [.sl ((a.getD 0 d0).ll), .sl (List.replicate (((a.getD 0 d0).ll).length : Int).toNat [DC.i 0, DC.s [], DC.sl [], DC.sl []]), .i (0 : Int)]) 0 fun v4 =>
 .ret [.sl ((v4.getD 0 d0).ll)]
 else
 .fail
theorem eq_laws_toValueS a : r_laws_toValueS a = E_laws_toValueS a := (Run_eq cfg 112 _ a).trans (by kernel_rfl)
noncomputable def E_laws_toStringSL1 : List DC → Out := fun v1 =>
 if (decide ((v1.getD 2 d0).ii < (((v1.getD 0 d0).ll).length : Int))) = true then
 Out.andThenB (if 9 = 9 ∧ 0 ≤ (v1.getD 2 d0).ii ∧ (v1.getD 2 d0).ii < (((v1.getD 0 d0).ll).length : Int) then
 if 9 = 9 ∧ 0 ≤ (v1.getD 2 d0).ii ∧ (v1.getD 2 d0).ii < (((v1.getD 1 d0).ll).length : Int) then
 .norm [.sl ((v1.getD 0 d0).ll), .sl (((v1.getD 1 d0).ll).set (((v1.getD 2 d0).ii).toNat) (setRunD (((v1.getD 1 d0).ll).getD (((v1.getD 2 d0).ii).toNat) []) 0 [DC.s (((((v1.getD 0 d0).ll).getD ((v1.getD 2 d0).ii).toNat []).getD 0 d0).ss)])), .i ((v1.getD 2 d0).ii)]
 else
 .fail
 else
 .fail) 1 fun v2 =>
 .norm [.sl ((v2.getD 0 d0).ll), .sl ((v2.getD 1 d0).ll), .i (IntKind.i64.wrap ((v2.getD 2 d0).ii + (1 : Int)))]
 else
 .ex 0 [.sl ((v1.getD 1 d0).ll)]
noncomputable def E_laws_toStringS (a : List DC) : Out :=
 if 0 ≤ (((a.getD 0 d0).ll).length : Int) ∧ (((a.getD 0 d0).ll).length : Int) < (LIM : Int) ∧ (((a.getD 0 d0).ll).length : Int) = (((a.getD 0 d0).ll).length : Int) ∧ 16 ≤ 1024 ∧ 0 < 1 ∧ dp 9 = false then
 Out.andThenB (Loop E_laws_toStringSL1 [.sl ((a.getD 0 d0).ll), .sl (List.replicate (((a.getD 0 d0).ll).length : Int).toNat [DC.s []]), .i (0 : Int)]) 0 fun v3 =>
 .ret [.sl ((v3.getD 0 d0).ll)]
 else
 .fail
theorem eq_laws_toStringS a : r_laws_toStringS a = E_laws_toStringS a := (Run_eq cfg 48 _ a).trans (by kernel_rfl)
noncomputable def E_laws_toDir (a : List DC) : Out :=
 (r_laws_toArgS [.sl ((a.getD 1 d0).ll)]).bindR fun r1 =>
 .ret [.s ((a.getD 0 d0).ss), .sl ((r1.getD 0 d0).ll)]
theorem eq_laws_toDir a : r_laws_toDir a = E_laws_toDir a := (Run_eq cfg 101 _ a).trans (by kernel_rfl)
noncomputable def E_internal_stringslite_HasSuffix (a : List DC) : Out :=
 Out.andThen (if (decide ((((a.getD 0 d0).ss).length : Int) ≥ (((a.getD 1 d0).ss).length : Int))) = true then
 if 0 ≤ (IntKind.i64.wrap ((((a.getD 0 d0).ss).length : Int) - (((a.getD 1 d0).ss).length : Int))) ∧ (IntKind.i64.wrap ((((a.getD 0 d0).ss).length : Int) - (((a.getD 1 d0).ss).length : Int))) ≤ (((a.getD 0 d0).ss).length : Int) then
 .norm [.b ((((a.getD 0 d0).ss).drop (IntKind.i64.wrap ((((a.getD 0 d0).ss).length : Int) - (((a.getD 1 d0).ss).length : Int))).toNat) == (a.getD 1 d0).ss)]
 else
 .fail
 else
 .norm [.b false]) fun v1 =>
 .ret [.b ((v1.getD 0 d0).bb)]
theorem eq_internal_stringslite_HasSuffix a : r_internal_stringslite_HasSuffix a = E_internal_stringslite_HasSuffix a := (Run_eq cfg 113 _ a).trans (by kernel_rfl)
noncomputable def E_laws_eqValueSL1 : List DC → Out := fun v1 =>
 if (decide ((v1.getD 2 d0).ii < (((v1.getD 0 d0).ll).length : Int))) = true then
 Out.andThenB (if 81 = 81 ∧ 0 ≤ (v1.getD 2 d0).ii ∧ (v1.getD 2 d0).ii < (((v1.getD 0 d0).ll).length : Int) then
 if 81 = 81 ∧ 0 ≤ (v1.getD 2 d0).ii ∧ (v1.getD 2 d0).ii < (((v1.getD 1 d0).ll).length : Int) then
 (r_laws_eqValue [.i (((((v1.getD 0 d0).ll).getD ((v1.getD 2 d0).ii).toNat []).getD 0 d0).ii), .s (((((v1.getD 0 d0).ll).getD ((v1.getD 2 d0).ii).toNat []).getD 1 d0).ss), .sl (((((v1.getD 0 d0).ll).getD ((v1.getD 2 d0).ii).toNat []).getD 2 d0).ll), .sl (((((v1.getD 0 d0).ll).getD ((v1.getD 2 d0).ii).toNat []).getD 3 d0).ll), .i (((((v1.getD 1 d0).ll).getD ((v1.getD 2 d0).ii).toNat []).getD 0 d0).ii), .s (((((v1.getD 1 d0).ll).getD ((v1.getD 2 d0).ii).toNat []).getD 1 d0).ss), .sl (((((v1.getD 1 d0).ll).getD ((v1.getD 2 d0).ii).toNat []).getD 2 d0).ll), .sl (((((v1.getD 1 d0).ll).getD ((v1.getD 2 d0).ii).toNat []).getD 3 d0).ll)]).bindR fun r2 =>
 if (!((r2.getD 0 d0).bb)) = true then
 .ret [.b false]
 else
 .norm [.sl ((v1.getD 0 d0).ll), .sl ((v1.getD 1 d0).ll), .i ((v1.getD 2 d0).ii)]
 else
 .fail
 else
 .fail) 1 fun v3 =>
 .norm [.sl ((v3.getD 0 d0).ll), .sl ((v3.getD 1 d0).ll), .i (IntKind.i64.wrap ((v3.getD 2 d0).ii + (1 : Int)))]
 else
 .ex 0 []
noncomputable def E_laws_eqValueS (a : List DC) : Out :=
 if ((((a.getD 0 d0).ll).length : Int) != (((a.getD 1 d0).ll).length : Int)) = true then
 .ret [.b false]
 else
 Out.andThenB (Loop E_laws_eqValueSL1 [.sl ((a.getD 0 d0).ll), .sl ((a.getD 1 d0).ll), .i (0 : Int)]) 0 fun v4 =>
 .ret [.b true]
theorem eq_laws_eqValueS a : r_laws_eqValueS a = E_laws_eqValueS a := (Run_eq cfg 114 _ a).trans (by kernel_rfl)
noncomputable def E_laws_eqDir (a : List DC) : Out :=
 if (!((a.getD 0 d0).ss == (a.getD 2 d0).ss)) = true then
 .ret [.b false]
 else
 (r_laws_eqArgS [.sl ((a.getD 1 d0).ll), .sl ((a.getD 3 d0).ll)]).bindR fun r1 =>
 if (!((r1.getD 0 d0).bb)) = true then
 .ret [.b false]
 else
 .ret [.b true]
theorem eq_laws_eqDir a : r_laws_eqDir a = E_laws_eqDir a := (Run_eq cfg 110 _ a).trans (by kernel_rfl)
noncomputable def E_laws_szArgSL1 : List DC → Out := fun v1 =>
 if (decide ((v1.getD 2 d0).ii < (((v1.getD 0 d0).ll).length : Int))) = true then
 Out.andThenB (if 169 = 169 ∧ 0 ≤ (v1.getD 2 d0).ii ∧ (v1.getD 2 d0).ii < (((v1.getD 0 d0).ll).length : Int) then
 (r_laws_szArg [.s (((((v1.getD 0 d0).ll).getD ((v1.getD 2 d0).ii).toNat []).getD 0 d0).ss), .i (((((v1.getD 0 d0).ll).getD ((v1.getD 2 d0).ii).toNat []).getD 1 d0).ii), .s (((((v1.getD 0 d0).ll).getD ((v1.getD 2 d0).ii).toNat []).getD 2 d0).ss), .sl (((((v1.getD 0 d0).ll).getD ((v1.getD 2 d0).ii).toNat []).getD 3 d0).ll), .sl (((((v1.getD 0 d0).ll).getD ((v1.getD 2 d0).ii).toNat []).getD 4 d0).ll), .i ((v1.getD 1 d0).ii)]).bindR fun r2 =>
 if (decide ((r2.getD 0 d0).ii < (0 : Int))) = true then
 .ret [.i (-1 : Int)]
 else
 .norm [.sl ((v1.getD 0 d0).ll), .i ((r2.getD 0 d0).ii), .i ((v1.getD 2 d0).ii)]
 else
 .fail) 1 fun v3 =>
 .norm [.sl ((v3.getD 0 d0).ll), .i ((v3.getD 1 d0).ii), .i (IntKind.i64.wrap ((v3.getD 2 d0).ii + (1 : Int)))]
 else
 .ex 0 [.i ((v1.getD 1 d0).ii)]
noncomputable def E_laws_szArgS (a : List DC) : Out :=
 if (decide ((IntKind.i64.wrap ((a.getD 1 d0).ii - (((a.getD 0 d0).ll).length : Int))) < (0 : Int))) = true then
 .ret [.i (-1 : Int)]
 else
 Out.andThenB (Loop E_laws_szArgSL1 [.sl ((a.getD 0 d0).ll), .i (IntKind.i64.wrap ((a.getD 1 d0).ii - (((a.getD 0 d0).ll).length : Int))), .i (0 : Int)]) 0 fun v4 =>
 .ret [.i ((v4.getD 0 d0).ii)]
theorem eq_laws_szArgS a : r_laws_szArgS a = E_laws_szArgS a := (Run_eq cfg 115 _ a).trans (by kernel_rfl)
noncomputable def E_laws_toArgSL1 : List DC → Out := fun v1 =>
 if (decide ((v1.getD 2 d0).ii < (((v1.getD 0 d0).ll).length : Int))) = true then
 Out.andThenB (if 169 = 169 ∧ 0 ≤ (v1.getD 2 d0).ii ∧ (v1.getD 2 d0).ii < (((v1.getD 0 d0).ll).length : Int) then
 (r_laws_toArg [.s (((((v1.getD 0 d0).ll).getD ((v1.getD 2 d0).ii).toNat []).getD 0 d0).ss), .i (((((v1.getD 0 d0).ll).getD ((v1.getD 2 d0).ii).toNat []).getD 1 d0).ii), .s (((((v1.getD 0 d0).ll).getD ((v1.getD 2 d0).ii).toNat []).getD 2 d0).ss), .sl (((((v1.getD 0 d0).ll).getD ((v1.getD 2 d0).ii).toNat []).getD 3 d0).ll), .sl (((((v1.getD 0 d0).ll).getD ((v1.getD 2 d0).ii).toNat []).getD 4 d0).ll)]).bindR fun r2 =>
 if 161 = 161 ∧ 0 ≤ (v1.getD 2 d0).ii ∧ (v1.getD 2 d0).ii < (((v1.getD 1 d0).ll).length : Int) then
 .norm [.sl ((v1.getD 0 d0).ll), .sl (((v1.getD 1 d0).ll).set (((v1.getD 2 d0).ii).toNat) (setRunD (((v1.getD 1 d0).ll).getD (((v1.getD 2 d0).ii).toNat) []) 0 [DC.s ((r2.getD 0 d0).ss), DC.i ((r2.getD 1 d0).ii), DC.s ((r2.getD 2 d0).ss), DC.sl ((r2.getD 3 d0).ll), DC.sl ((r2.getD 4 d0).ll)])), .i ((v1.getD 2 d0).ii)]
 else
 .fail
 else
 .fail) 1 fun v3 =>
 .norm [.sl ((v3.getD 0 d0).ll), .sl ((v3.getD 1 d0).ll), .i (IntKind.i64.wrap ((v3.getD 2 d0).ii + (1 : Int)))]
 else
 .ex 0 [.sl ((v1.getD 1 d0).ll)]
noncomputable def E_laws_toArgS (a : List DC) : Out :=
 if 0 ≤ (((a.getD 0 d0).ll).length : Int) ∧ (((a.getD 0 d0).ll).length : Int) < (LIM : Int) ∧ (((a.getD 0 d0).ll).length : Int) = (((a.getD 0 d0).ll).length : Int) ∧ 88 ≤ 1024 ∧ 0 < 5 ∧ dp 161 = false then
 Out.andThenB (Loop E_laws_toArgSL1 [.sl ((a.getD 0 d0).ll), .sl (List.replicate (((a.getD 0 d0).ll).length : Int).toNat [DC.s [], DC.i 0, DC.s [], DC.sl [], DC.sl []]), .i (0 : Int)]) 0 fun v4 =>
 .ret [.sl ((v4.getD 0 d0).ll)]
 else
 .fail
theorem eq_laws_toArgS a : r_laws_toArgS a = E_laws_toArgS a := (Run_eq cfg 118 _ a).trans (by kernel_rfl)
noncomputable def E_laws_eqArgSL1 : List DC → Out := fun v1 =>
 if (decide ((v1.getD 2 d0).ii < (((v1.getD 0 d0).ll).length : Int))) = true then
 Out.andThenB (if 161 = 161 ∧ 0 ≤ (v1.getD 2 d0).ii ∧ (v1.getD 2 d0).ii < (((v1.getD 0 d0).ll).length : Int) then
 if 161 = 161 ∧ 0 ≤ (v1.getD 2 d0).ii ∧ (v1.getD 2 d0).ii < (((v1.getD 1 d0).ll).length : Int) then
 (r_laws_eqArg [.s (((((v1.getD 0 d0).ll).getD ((v1.getD 2 d0).ii).toNat []).getD 0 d0).ss), .i (((((v1.getD 0 d0).ll).getD ((v1.getD 2 d0).ii).toNat []).getD 1 d0).ii), .s (((((v1.getD 0 d0).ll).getD ((v1.getD 2 d0).ii).toNat []).getD 2 d0).ss), .sl (((((v1.getD 0 d0).ll).getD ((v1.getD 2 d0).ii).toNat []).getD 3 d0).ll), .sl (((((v1.getD 0 d0).ll).getD ((v1.getD 2 d0).ii).toNat []).getD 4 d0).ll), .s (((((v1.getD 1 d0).ll).getD ((v1.getD 2 d0).ii).toNat []).getD 0 d0).ss), .i (((((v1.getD 1 d0).ll).getD ((v1.getD 2 d0).ii).toNat []).getD 1 d0).ii), .s (((((v1.getD 1 d0).ll).getD ((v1.getD 2 d0).ii).toNat []).getD 2 d0).ss), .sl (((((v1.getD 1 d0).ll).getD ((v1.getD 2 d0).ii).toNat []).getD 3 d0).ll), .sl (((((v1.getD 1 d0).ll).getD ((v1.getD 2 d0).ii).toNat []).getD 4 d0).ll)]).bindR fun r2 =>
 if (!((r2.getD 0 d0).bb)) = true then
 .ret [.b false]
 else
 .norm [.sl ((v1.getD 0 d0).ll), .sl ((v1.getD 1 d0).ll), .i ((v1.getD 2 d0).ii)]
 else
 .fail
 else
 .fail) 1 fun v3 =>
 .norm [.sl ((v3.getD 0 d0).ll), .sl ((v3.getD 1 d0).ll), .i (IntKind.i64.wrap ((v3.getD 2 d0).ii + (1 : Int)))]
 else
 .ex 0 []
noncomputable def E_laws_eqArgS (a : List DC) : Out :=
 if ((((a.getD 0 d0).ll).length : Int) != (((a.getD 1 d0).ll).length : Int)) = true then
 .ret [.b false]
 else
 Out.andThenB (Loop E_laws_eqArgSL1 [.sl ((a.getD 0 d0).ll), .sl ((a.getD 1 d0).ll), .i (0 : Int)]) 0 fun v4 =>
 .ret [.b true]
theorem eq_laws_eqArgS a : r_laws_eqArgS a = E_laws_eqArgS a := (Run_eq cfg 121 _ a).trans (by kernel_rfl)
noncomputable def E_laws_szArg (a : List DC) : Out :=
 if (decide ((IntKind.i64.wrap ((a.getD 5 d0).ii - (((a.getD 0 d0).ss).length : Int))) < (0 : Int))) = true then
 .ret [.i (-1 : Int)]
 else
 (r_laws_szValue [.i ((a.getD 1 d0).ii), .s ((a.getD 2 d0).ss), .sl ((a.getD 3 d0).ll), .sl ((a.getD 4 d0).ll), .i (IntKind.i64.wrap ((a.getD 5 d0).ii - (((a.getD 0 d0).ss).length : Int)))]).bindR fun r1 =>
 if (decide ((r1.getD 0 d0).ii < (0 : Int))) = true then
 .ret [.i (-1 : Int)]
 else
 .ret [.i ((r1.getD 0 d0).ii)]
theorem eq_laws_szArg a : r_laws_szArg a = E_laws_szArg a := (Run_eq cfg 122 _ a).trans (by kernel_rfl)
noncomputable def E_laws_toArg (a : List DC) : Out :=
 (r_laws_toValue [.i ((a.getD 1 d0).ii), .s ((a.getD 2 d0).ss), .sl ((a.getD 3 d0).ll), .sl ((a.getD 4 d0).ll)]).bindR fun r1 =>
 .ret [.s ((a.getD 0 d0).ss), .i ((r1.getD 0 d0).ii), .s ((r1.getD 1 d0).ss), .sl ((r1.getD 2 d0).ll), .sl ((r1.getD 3 d0).ll)]
theorem eq_laws_toArg a : r_laws_toArg a = E_laws_toArg a := (Run_eq cfg 123 _ a).trans (by kernel_rfl)
noncomputable def E_laws_eqArg (a : List DC) : Out :=
 if (!((a.getD 0 d0).ss == (a.getD 5 d0).ss)) = true then
 .ret [.b false]
 else
 (r_laws_eqValue [.i ((a.getD 1 d0).ii), .s ((a.getD 2 d0).ss), .sl ((a.getD 3 d0).ll), .sl ((a.getD 4 d0).ll), .i ((a.getD 6 d0).ii), .s ((a.getD 7 d0).ss), .sl ((a.getD 8 d0).ll), .sl ((a.getD 9 d0).ll)]).bindR fun r1 =>
 if (!((r1.getD 0 d0).bb)) = true then
 .ret [.b false]
 else
 .ret [.b true]
theorem eq_laws_eqArg a : r_laws_eqArg a = E_laws_eqArg a := (Run_eq cfg 124 _ a).trans (by kernel_rfl)
theorem szS_String (ns : List (List UInt8)) (ok : (DC.sl (ns.map S1)).ok) (left : Int) (h0 : 0 ≤ left) (h1 : left ≤ 1048576) : r_laws_szStringS [.sl (ns.map S1), .i left] = .ret [.i (szR left (DC.wt (.sl (ns.map S1))))] := by
  rw [DC.ok, List.length_map] at ok
  obtain ⟨hl, ok⟩ := ok
  rw [eq_laws_szStringS]
  simp only [E_laws_szStringS, List.getD_cons_zero, List.getD_cons_succ, DC.bb_b, DC.ii_i, DC.ss_s, DC.ll_sl]
  refine szS_all hl (fun i hi left h0 h1 => ?_) (fun left => ?_) h0 h1
  · have hn := okV_mem ok (S1 ns[i]) (List.mem_map_of_mem (List.getElem_mem hi))
    simp only [S1, okL, DC.ok] at hn
    have hw : IntKind.i64.wrap (left - (ns[i].length : Int)) = left - (ns[i].length : Int) := wrap64 (by omega) (by omega)
    have hc1 : (i : Int) < (ns.length : Int) := by omega
    simp only [E_laws_szStringSL1, List.getD_cons_zero, List.getD_cons_succ, DC.bb_b, DC.ii_i, DC.ss_s, DC.ll_sl, Int.toNat_natCast, List.length_map, map_getD hi, S1, wtL, DC.wt, hw]
    by_cases hc : left < (ns[i].length : Int)
    · simp [hi, hc1, hc, show left - (ns[i].length : Int) < 0 by omega]
    · simp [hi, hc1, hc, show ¬ left - (ns[i].length : Int) < 0 by omega, wrap_succ hi hl]
  · simp [E_laws_szStringSL1]
theorem toS_String (ns : List (List UInt8)) (hl : ns.length ≤ 1048576) : r_laws_toStringS [.sl (ns.map S1)] = .ret [.sl (ns.map S1)] := by
  rw [eq_laws_toStringS]
  simp only [E_laws_toStringS, List.getD_cons_zero, List.getD_cons_succ, DC.bb_b, DC.ii_i, DC.ss_s, DC.ll_sl]
  rw [if_pos ⟨by omega, by rw [List.length_map]; exact lim_of hl, trivial, by omega, by omega, rfl⟩, Int.toNat_natCast, List.length_map, show (0 : Int) = ((0 : Nat) : Int) from rfl, toS_loop hl (fun i hi cur h1 h2 => ?_) (fun cur => ?_)]
  · rfl
  · have hc1 : (i : Int) < (ns.length : Int) := by omega
    simp only [E_laws_toStringSL1, List.getD_cons_zero, List.getD_cons_succ, DC.bb_b, DC.ii_i, DC.ss_s, DC.ll_sl, Int.toNat_natCast, List.length_map, map_getD hi, h1, h2, S1]
    simp [hi, hc1, wrap_succ hi (show ns.length ≤ 9223372036854775807 by omega), setRunD]
  · simp [E_laws_toStringSL1]
theorem eqS_String (ns : List (List UInt8)) (hl : ns.length ≤ 1048576) : r_laws_eqStringS [.sl (ns.map S1), .sl (ns.map S1)] = .ret [.b true] := by
  rw [eq_laws_eqStringS]
  simp only [E_laws_eqStringS, List.getD_cons_zero, List.getD_cons_succ, DC.bb_b, DC.ii_i, DC.ss_s, DC.ll_sl]
  refine eqS_all (fun i hi => ?_) ?_
  · rw [List.length_map] at hi
    have hc1 : (i : Int) < (ns.length : Int) := by omega
    simp only [E_laws_eqStringSL1, List.getD_cons_zero, List.getD_cons_succ, DC.bb_b, DC.ii_i, DC.ss_s, DC.ll_sl, Int.toNat_natCast, List.length_map, map_getD hi, S1]
    simp [hi, hc1, wrap_succ hi (show ns.length ≤ 9223372036854775807 by omega)]
  · simp [E_laws_eqStringSL1]
theorem wsum_Value (v : TValue) : wtL (TValue.enc v) = v.text.length + DC.wt (.sl (v.items.map TValue.enc)) + DC.wt (.sl (v.names.map S1)) := by
  simp only [TValue.enc_eq, wtL, DC.wt]
  try omega
theorem szS_Value' (vs : List TValue) (hs : ∀ v ∈ vs, okL (TValue.enc v) → ∀ left : Int, 0 ≤ left → left ≤ 1048576 → r_laws_szValue [.i v.kind, .s v.text, .sl (v.items.map TValue.enc), .sl (v.names.map S1), .i left] = .ret [.i (szR left (wtL (TValue.enc v)))]) (ok : (DC.sl (vs.map TValue.enc)).ok) (left : Int) (h0 : 0 ≤ left) (h1 : left ≤ 1048576) : r_laws_szValueS [.sl (vs.map TValue.enc), .i left] = .ret [.i (szR left (DC.wt (.sl (vs.map TValue.enc))))] := by
  rw [DC.ok, List.length_map] at ok
  obtain ⟨hl, ok⟩ := ok
  rw [eq_laws_szValueS]
  simp only [E_laws_szValueS, List.getD_cons_zero, List.getD_cons_succ, DC.bb_b, DC.ii_i, DC.ss_s, DC.ll_sl]
  refine szS_all hl (fun i hi left h0 h1 => ?_) (fun left => ?_) h0 h1
  · have key := hs vs[i] (List.getElem_mem hi) (okV_mem ok _ (List.mem_map_of_mem (List.getElem_mem hi))) left h0 h1
    generalize wtL (TValue.enc vs[i]) = w at key ⊢
    have hc1 : (i : Int) < (vs.length : Int) := by omega
    simp only [E_laws_szValueSL1, List.getD_cons_zero, List.getD_cons_succ, DC.bb_b, DC.ii_i, DC.ss_s, DC.ll_sl, Int.toNat_natCast, List.length_map, map_getD hi, TValue.enc_eq, key, Out.bindR_ret]
    by_cases hc : left < (w : Int)
    · simp [hi, hc1, hc, szR_lt hc]
    · simp [hi, hc1, hc, szR_ge hc, show ¬ left - (w : Int) < 0 by omega, wrap_succ hi hl]
  · simp [E_laws_szValueSL1]
theorem sz_Value (v : TValue) : okL (TValue.enc v) → ∀ left : Int, 0 ≤ left → left ≤ 1048576 → r_laws_szValue [.i v.kind, .s v.text, .sl (v.items.map TValue.enc), .sl (v.names.map S1), .i left] = .ret [.i (szR left (wtL (TValue.enc v)))] := by
  induction v using TValue.ind with | h v ih =>
  intro ok left h0 h1
  rw [TValue.enc_eq] at ok
  simp only [okL] at ok
  rw [eq_laws_szValue]
  simp only [E_laws_szValue, List.getD_cons_zero, List.getD_cons_succ, DC.bb_b, DC.ii_i, DC.ss_s, DC.ll_sl]
  rw [wsum_Value]
  have b0 : v.text.length ≤ 9223372036854775807 := by simpa only [DC.ok] using ok.2.1
  rw [show IntKind.i64.wrap (left - (v.text.length : Int)) = left - (v.text.length : Int) from wrap64 (by omega) (by omega)]
  by_cases c0 : left < ((v.text.length : Nat) : Int)
  · have c0' : left - ((v.text.length : Nat) : Int) < 0 := by omega
    simp only [c0', decide_true, if_true]
    try rw [szR_lt (by omega)]
  have c0' : ¬ left - ((v.text.length : Nat) : Int) < 0 := by omega
  simp only [c0', decide_false, Bool.false_eq_true, if_false]
  rw [szS_Value' v.items (fun x hx => ih x hx) ok.2.2.1 ((left - ((v.text.length : Nat) : Int))) (by omega) (by omega)]
  simp only [Out.bindR_ret, List.getD_cons_zero, List.getD_cons_succ, DC.bb_b, DC.ii_i, DC.ss_s, DC.ll_sl]
  by_cases c1 : (left - ((v.text.length : Nat) : Int)) < ((DC.wt (.sl (v.items.map TValue.enc)) : Nat) : Int)
  · rw [szR_lt c1]
    simp only [show (-1 : Int) < 0 by omega, decide_true, if_true]
    try rw [szR_lt (by omega)]
  rw [szR_ge c1]
  have c1' : ¬ (left - ((v.text.length : Nat) : Int)) - ((DC.wt (.sl (v.items.map TValue.enc)) : Nat) : Int) < 0 := by omega
  simp only [c1', decide_false, Bool.false_eq_true, if_false]
  rw [szS_String v.names ok.2.2.2.1 (((left - ((v.text.length : Nat) : Int)) - ((DC.wt (.sl (v.items.map TValue.enc)) : Nat) : Int))) (by omega) (by omega)]
  simp only [Out.bindR_ret, List.getD_cons_zero, List.getD_cons_succ, DC.bb_b, DC.ii_i, DC.ss_s, DC.ll_sl]
  by_cases c2 : ((left - ((v.text.length : Nat) : Int)) - ((DC.wt (.sl (v.items.map TValue.enc)) : Nat) : Int)) < ((DC.wt (.sl (v.names.map S1)) : Nat) : Int)
  · rw [szR_lt c2]
    simp only [show (-1 : Int) < 0 by omega, decide_true, if_true]
    try rw [szR_lt (by omega)]
  rw [szR_ge c2]
  have c2' : ¬ ((left - ((v.text.length : Nat) : Int)) - ((DC.wt (.sl (v.items.map TValue.enc)) : Nat) : Int)) - ((DC.wt (.sl (v.names.map S1)) : Nat) : Int) < 0 := by omega
  simp only [c2', decide_false, Bool.false_eq_true, if_false]
  first
  | done
  | rw [show szR left (v.text.length + DC.wt (.sl (v.items.map TValue.enc)) + DC.wt (.sl (v.names.map S1))) = (((left - ((v.text.length : Nat) : Int)) - ((DC.wt (.sl (v.items.map TValue.enc)) : Nat) : Int)) - ((DC.wt (.sl (v.names.map S1)) : Nat) : Int)) from (szR_ge (by omega)).trans (by omega)]
theorem toS_Value' (vs : List TValue) (hs : ∀ v ∈ vs, wtL (TValue.enc v) ≤ 1048576 → r_laws_toValue [.i v.kind, .s v.text, .sl (v.items.map TValue.enc), .sl (v.names.map S1)] = .ret (TValue.enc v)) (hw : DC.wt (.sl (vs.map TValue.enc)) ≤ 1048576) : r_laws_toValueS [.sl (vs.map TValue.enc)] = .ret [.sl (vs.map TValue.enc)] := by
  rw [DC.wt, List.length_map] at hw
  have hl : vs.length ≤ 1048576 := by omega
  rw [eq_laws_toValueS]
  simp only [E_laws_toValueS, List.getD_cons_zero, List.getD_cons_succ, DC.bb_b, DC.ii_i, DC.ss_s, DC.ll_sl]
  rw [if_pos ⟨by omega, by rw [List.length_map]; exact lim_of hl, trivial, by omega, by omega, rfl⟩, Int.toNat_natCast, List.length_map, show (0 : Int) = ((0 : Nat) : Int) from rfl, toS_loop hl (fun i hi cur h1 h2 => ?_) (fun cur => ?_)]
  · rfl
  · have key := hs vs[i] (List.getElem_mem hi) (by have := wtV_mem (List.mem_map_of_mem (f := TValue.enc) (List.getElem_mem hi)); omega)
    have hc1 : (i : Int) < (vs.length : Int) := by omega
    simp only [E_laws_toValueSL1, List.getD_cons_zero, List.getD_cons_succ, DC.bb_b, DC.ii_i, DC.ss_s, DC.ll_sl, Int.toNat_natCast, List.length_map, map_getD hi, h1, h2, TValue.enc_eq] at key ⊢
    simp only [key, List.getD_cons_zero, List.getD_cons_succ, DC.bb_b, DC.ii_i, DC.ss_s, DC.ll_sl, Out.bindR_ret]
    simp [hi, hc1, wrap_succ hi (show vs.length ≤ 9223372036854775807 by omega), setRunD]
  · simp [E_laws_toValueSL1]
theorem to_Value (v : TValue) : wtL (TValue.enc v) ≤ 1048576 → r_laws_toValue [.i v.kind, .s v.text, .sl (v.items.map TValue.enc), .sl (v.names.map S1)] = .ret (TValue.enc v) := by
  induction v using TValue.ind with | h v ih =>
  intro hw
  rw [wsum_Value] at hw
  rw [eq_laws_toValue]
  simp only [E_laws_toValue, List.getD_cons_zero, List.getD_cons_succ, DC.bb_b, DC.ii_i, DC.ss_s, DC.ll_sl]
  rw [toS_Value' v.items (fun x hx => ih x hx) (by omega)]
  simp only [Out.bindR_ret, List.getD_cons_zero, List.getD_cons_succ, DC.bb_b, DC.ii_i, DC.ss_s, DC.ll_sl]
  rw [toS_String v.names (by have h := hw; simp only [DC.wt, List.length_map] at h; omega)]
  simp only [Out.bindR_ret, List.getD_cons_zero, List.getD_cons_succ, DC.bb_b, DC.ii_i, DC.ss_s, DC.ll_sl]
  rw [TValue.enc_eq]
theorem eqS_Value' (vs : List TValue) (hs : ∀ v ∈ vs, wtL (TValue.enc v) ≤ 1048576 → r_laws_eqValue [.i v.kind, .s v.text, .sl (v.items.map TValue.enc), .sl (v.names.map S1), .i v.kind, .s v.text, .sl (v.items.map TValue.enc), .sl (v.names.map S1)] = .ret [.b true]) (hw : DC.wt (.sl (vs.map TValue.enc)) ≤ 1048576) : r_laws_eqValueS [.sl (vs.map TValue.enc), .sl (vs.map TValue.enc)] = .ret [.b true] := by
  rw [DC.wt, List.length_map] at hw
  have hl : vs.length ≤ 1048576 := by omega
  rw [eq_laws_eqValueS]
  simp only [E_laws_eqValueS, List.getD_cons_zero, List.getD_cons_succ, DC.bb_b, DC.ii_i, DC.ss_s, DC.ll_sl]
  refine eqS_all (fun i hi => ?_) ?_
  · rw [List.length_map] at hi
    have key := hs vs[i] (List.getElem_mem hi) (by have := wtV_mem (List.mem_map_of_mem (f := TValue.enc) (List.getElem_mem hi)); omega)
    have hc1 : (i : Int) < (vs.length : Int) := by omega
    simp only [E_laws_eqValueSL1, List.getD_cons_zero, List.getD_cons_succ, DC.bb_b, DC.ii_i, DC.ss_s, DC.ll_sl, Int.toNat_natCast, List.length_map, map_getD hi, TValue.enc_eq] at key ⊢
    simp only [key, List.getD_cons_zero, List.getD_cons_succ, DC.bb_b, DC.ii_i, DC.ss_s, DC.ll_sl, Out.bindR_ret]
    simp [hi, hc1, wrap_succ hi (show vs.length ≤ 9223372036854775807 by omega)]
  · simp [E_laws_eqValueSL1]
theorem eq_Value (v : TValue) : wtL (TValue.enc v) ≤ 1048576 → r_laws_eqValue [.i v.kind, .s v.text, .sl (v.items.map TValue.enc), .sl (v.names.map S1), .i v.kind, .s v.text, .sl (v.items.map TValue.enc), .sl (v.names.map S1)] = .ret [.b true] := by
  induction v using TValue.ind with | h v ih =>
  intro hw
  rw [wsum_Value] at hw
  rw [eq_laws_eqValue]
  simp only [E_laws_eqValue, List.getD_cons_zero, List.getD_cons_succ, DC.bb_b, DC.ii_i, DC.ss_s, DC.ll_sl, bne_self_eq_false, beq_self_eq_true, Bool.not_true, Bool.false_eq_true, if_false]
  rw [eqS_Value' v.items (fun x hx => ih x hx) (by omega)]
  simp only [Out.bindR_ret, List.getD_cons_zero, List.getD_cons_succ, DC.bb_b, DC.ii_i, DC.ss_s, DC.ll_sl, bne_self_eq_false, beq_self_eq_true, Bool.not_true, Bool.false_eq_true, if_false]
  rw [eqS_String v.names (by have h := hw; simp only [DC.wt, List.length_map] at h; omega)]
  simp only [Out.bindR_ret, List.getD_cons_zero, List.getD_cons_succ, DC.bb_b, DC.ii_i, DC.ss_s, DC.ll_sl, bne_self_eq_false, beq_self_eq_true, Bool.not_true, Bool.false_eq_true, if_false]
theorem wsum_Type (v : TType) : wtL (TType.enc v) = v.name.length + v.wraps.length := by
  simp only [TType.enc_eq, wtL, DC.wt]
  try omega
theorem sz_Type (v : TType) : okL (TType.enc v) → ∀ left : Int, 0 ≤ left → left ≤ 1048576 → r_laws_szType [.s v.name, .s v.wraps, .i left] = .ret [.i (szR left (wtL (TType.enc v)))] := by
  intro ok left h0 h1
  rw [TType.enc_eq] at ok
  simp only [okL] at ok
  rw [eq_laws_szType]
  simp only [E_laws_szType, List.getD_cons_zero, List.getD_cons_succ, DC.bb_b, DC.ii_i, DC.ss_s, DC.ll_sl]
  rw [wsum_Type]
  have b0 : v.name.length ≤ 9223372036854775807 := by simpa only [DC.ok] using ok.1
  have b1 : v.wraps.length ≤ 9223372036854775807 := by simpa only [DC.ok] using ok.2.1
  rw [show IntKind.i64.wrap (left - (v.name.length : Int)) = left - (v.name.length : Int) from wrap64 (by omega) (by omega)]
  by_cases c0 : left < ((v.name.length : Nat) : Int)
  · have c0' : left - ((v.name.length : Nat) : Int) < 0 := by omega
    simp only [c0', decide_true, if_true]
    try rw [szR_lt (by omega)]
  have c0' : ¬ left - ((v.name.length : Nat) : Int) < 0 := by omega
  simp only [c0', decide_false, Bool.false_eq_true, if_false]
  rw [show IntKind.i64.wrap ((left - ((v.name.length : Nat) : Int)) - (v.wraps.length : Int)) = (left - ((v.name.length : Nat) : Int)) - (v.wraps.length : Int) from wrap64 (by omega) (by omega)]
  by_cases c1 : (left - ((v.name.length : Nat) : Int)) < ((v.wraps.length : Nat) : Int)
  · have c1' : (left - ((v.name.length : Nat) : Int)) - ((v.wraps.length : Nat) : Int) < 0 := by omega
    simp only [c1', decide_true, if_true]
    try rw [szR_lt (by omega)]
  have c1' : ¬ (left - ((v.name.length : Nat) : Int)) - ((v.wraps.length : Nat) : Int) < 0 := by omega
  simp only [c1', decide_false, Bool.false_eq_true, if_false]
  first
  | done
  | rw [show szR left (v.name.length + v.wraps.length) = ((left - ((v.name.length : Nat) : Int)) - ((v.wraps.length : Nat) : Int)) from (szR_ge (by omega)).trans (by omega)]
theorem to_Type (v : TType) : wtL (TType.enc v) ≤ 1048576 → r_laws_toType [.s v.name, .s v.wraps] = .ret (TType.enc v) := by
  intro hw
  rw [wsum_Type] at hw
  rw [eq_laws_toType]
  simp only [E_laws_toType, List.getD_cons_zero, List.getD_cons_succ, DC.bb_b, DC.ii_i, DC.ss_s, DC.ll_sl]
  rw [TType.enc_eq]
theorem eq_Type (v : TType) : wtL (TType.enc v) ≤ 1048576 → r_laws_eqType [.s v.name, .s v.wraps, .s v.name, .s v.wraps] = .ret [.b true] := by
  intro hw
  rw [wsum_Type] at hw
  rw [eq_laws_eqType]
  simp only [E_laws_eqType, List.getD_cons_zero, List.getD_cons_succ, DC.bb_b, DC.ii_i, DC.ss_s, DC.ll_sl, bne_self_eq_false, beq_self_eq_true, Bool.not_true, Bool.false_eq_true, if_false]
theorem wsum_Arg (v : TArg) : wtL (TArg.enc v) = v.name.length + wtL (TValue.enc v.value) := by
  simp only [TArg.enc_eq, wtL, DC.wt, TValue.enc_eq]
  try omega
theorem sz_Arg (v : TArg) : okL (TArg.enc v) → ∀ left : Int, 0 ≤ left → left ≤ 1048576 → r_laws_szArg [.s v.name, .i v.value.kind, .s v.value.text, .sl (v.value.items.map TValue.enc), .sl (v.value.names.map S1), .i left] = .ret [.i (szR left (wtL (TArg.enc v)))] := by
  intro ok left h0 h1
  rw [TArg.enc_eq] at ok
  simp only [okL] at ok
  rw [eq_laws_szArg]
  simp only [E_laws_szArg, List.getD_cons_zero, List.getD_cons_succ, DC.bb_b, DC.ii_i, DC.ss_s, DC.ll_sl]
  rw [wsum_Arg]
  have b0 : v.name.length ≤ 9223372036854775807 := by simpa only [DC.ok] using ok.1
  rw [show IntKind.i64.wrap (left - (v.name.length : Int)) = left - (v.name.length : Int) from wrap64 (by omega) (by omega)]
  by_cases c0 : left < ((v.name.length : Nat) : Int)
  · have c0' : left - ((v.name.length : Nat) : Int) < 0 := by omega
    simp only [c0', decide_true, if_true]
    try rw [szR_lt (by omega)]
  have c0' : ¬ left - ((v.name.length : Nat) : Int) < 0 := by omega
  simp only [c0', decide_false, Bool.false_eq_true, if_false]
  rw [sz_Value v.value (by rw [TValue.enc_eq]; simp only [okL]; exact ⟨ok.2.1, ok.2.2.1, ok.2.2.2.1, ok.2.2.2.2.1, trivial⟩) ((left - ((v.name.length : Nat) : Int))) (by omega) (by omega)]
  simp only [Out.bindR_ret, List.getD_cons_zero, List.getD_cons_succ, DC.bb_b, DC.ii_i, DC.ss_s, DC.ll_sl]
  by_cases c1 : (left - ((v.name.length : Nat) : Int)) < ((wtL (TValue.enc v.value) : Nat) : Int)
  · rw [szR_lt c1]
    simp only [show (-1 : Int) < 0 by omega, decide_true, if_true]
    try rw [szR_lt (by omega)]
  rw [szR_ge c1]
  have c1' : ¬ (left - ((v.name.length : Nat) : Int)) - ((wtL (TValue.enc v.value) : Nat) : Int) < 0 := by omega
  simp only [c1', decide_false, Bool.false_eq_true, if_false]
  first
  | done
  | rw [show szR left (v.name.length + wtL (TValue.enc v.value)) = ((left - ((v.name.length : Nat) : Int)) - ((wtL (TValue.enc v.value) : Nat) : Int)) from (szR_ge (by omega)).trans (by omega)]
theorem szS_Arg' (vs : List TArg) (hs : ∀ v ∈ vs, okL (TArg.enc v) → ∀ left : Int, 0 ≤ left → left ≤ 1048576 → r_laws_szArg [.s v.name, .i v.value.kind, .s v.value.text, .sl (v.value.items.map TValue.enc), .sl (v.value.names.map S1), .i left] = .ret [.i (szR left (wtL (TArg.enc v)))]) (ok : (DC.sl (vs.map TArg.enc)).ok) (left : Int) (h0 : 0 ≤ left) (h1 : left ≤ 1048576) : r_laws_szArgS [.sl (vs.map TArg.enc), .i left] = .ret [.i (szR left (DC.wt (.sl (vs.map TArg.enc))))] := by
  rw [DC.ok, List.length_map] at ok
  obtain ⟨hl, ok⟩ := ok
  rw [eq_laws_szArgS]
  simp only [E_laws_szArgS, List.getD_cons_zero, List.getD_cons_succ, DC.bb_b, DC.ii_i, DC.ss_s, DC.ll_sl]
  refine szS_all hl (fun i hi left h0 h1 => ?_) (fun left => ?_) h0 h1
  · have key := hs vs[i] (List.getElem_mem hi) (okV_mem ok _ (List.mem_map_of_mem (List.getElem_mem hi))) left h0 h1
    generalize wtL (TArg.enc vs[i]) = w at key ⊢
    have hc1 : (i : Int) < (vs.length : Int) := by omega
    simp only [E_laws_szArgSL1, List.getD_cons_zero, List.getD_cons_succ, DC.bb_b, DC.ii_i, DC.ss_s, DC.ll_sl, Int.toNat_natCast, List.length_map, map_getD hi, TArg.enc_eq, key, Out.bindR_ret]
    by_cases hc : left < (w : Int)
    · simp [hi, hc1, hc, szR_lt hc]
    · simp [hi, hc1, hc, szR_ge hc, show ¬ left - (w : Int) < 0 by omega, wrap_succ hi hl]
  · simp [E_laws_szArgSL1]
theorem szS_Arg (vs : List TArg) (ok : (DC.sl (vs.map TArg.enc)).ok) (left : Int) (h0 : 0 ≤ left) (h1 : left ≤ 1048576) : r_laws_szArgS [.sl (vs.map TArg.enc), .i left] = .ret [.i (szR left (DC.wt (.sl (vs.map TArg.enc))))] := szS_Arg' vs (fun v _ => sz_Arg v) ok left h0 h1
theorem to_Arg (v : TArg) : wtL (TArg.enc v) ≤ 1048576 → r_laws_toArg [.s v.name, .i v.value.kind, .s v.value.text, .sl (v.value.items.map TValue.enc), .sl (v.value.names.map S1)] = .ret (TArg.enc v) := by
  intro hw
  rw [wsum_Arg] at hw
  rw [eq_laws_toArg]
  simp only [E_laws_toArg, List.getD_cons_zero, List.getD_cons_succ, DC.bb_b, DC.ii_i, DC.ss_s, DC.ll_sl]
  rw [to_Value v.value (by omega)]
  simp only [Out.bindR_ret, TValue.enc_eq, List.getD_cons_zero, List.getD_cons_succ, DC.bb_b, DC.ii_i, DC.ss_s, DC.ll_sl]
  rw [TArg.enc_eq]
theorem toS_Arg' (vs : List TArg) (hs : ∀ v ∈ vs, wtL (TArg.enc v) ≤ 1048576 → r_laws_toArg [.s v.name, .i v.value.kind, .s v.value.text, .sl (v.value.items.map TValue.enc), .sl (v.value.names.map S1)] = .ret (TArg.enc v)) (hw : DC.wt (.sl (vs.map TArg.enc)) ≤ 1048576) : r_laws_toArgS [.sl (vs.map TArg.enc)] = .ret [.sl (vs.map TArg.enc)] := by
  rw [DC.wt, List.length_map] at hw
  have hl : vs.length ≤ 1048576 := by omega
  rw [eq_laws_toArgS]
  simp only [E_laws_toArgS, List.getD_cons_zero, List.getD_cons_succ, DC.bb_b, DC.ii_i, DC.ss_s, DC.ll_sl]
  rw [if_pos ⟨by omega, by rw [List.length_map]; exact lim_of hl, trivial, by omega, by omega, rfl⟩, Int.toNat_natCast, List.length_map, show (0 : Int) = ((0 : Nat) : Int) from rfl, toS_loop hl (fun i hi cur h1 h2 => ?_) (fun cur => ?_)]
  · rfl
  · have key := hs vs[i] (List.getElem_mem hi) (by have := wtV_mem (List.mem_map_of_mem (f := TArg.enc) (List.getElem_mem hi)); omega)
    have hc1 : (i : Int) < (vs.length : Int) := by omega
    simp only [E_laws_toArgSL1, List.getD_cons_zero, List.getD_cons_succ, DC.bb_b, DC.ii_i, DC.ss_s, DC.ll_sl, Int.toNat_natCast, List.length_map, map_getD hi, h1, h2, TArg.enc_eq] at key ⊢
    simp only [key, List.getD_cons_zero, List.getD_cons_succ, DC.bb_b, DC.ii_i, DC.ss_s, DC.ll_sl, Out.bindR_ret]
    simp [hi, hc1, wrap_succ hi (show vs.length ≤ 9223372036854775807 by omega), setRunD]
  · simp [E_laws_toArgSL1]
theorem toS_Arg (vs : List TArg) (hw : DC.wt (.sl (vs.map TArg.enc)) ≤ 1048576) : r_laws_toArgS [.sl (vs.map TArg.enc)] = .ret [.sl (vs.map TArg.enc)] := toS_Arg' vs (fun v _ => to_Arg v) hw
theorem eq_Arg (v : TArg) : wtL (TArg.enc v) ≤ 1048576 → r_laws_eqArg [.s v.name, .i v.value.kind, .s v.value.text, .sl (v.value.items.map TValue.enc), .sl (v.value.names.map S1), .s v.name, .i v.value.kind, .s v.value.text, .sl (v.value.items.map TValue.enc), .sl (v.value.names.map S1)] = .ret [.b true] := by
  intro hw
  rw [wsum_Arg] at hw
  rw [eq_laws_eqArg]
  simp only [E_laws_eqArg, List.getD_cons_zero, List.getD_cons_succ, DC.bb_b, DC.ii_i, DC.ss_s, DC.ll_sl, bne_self_eq_false, beq_self_eq_true, Bool.not_true, Bool.false_eq_true, if_false]
  rw [eq_Value v.value (by omega)]
  simp only [Out.bindR_ret, List.getD_cons_zero, List.getD_cons_succ, DC.bb_b, DC.ii_i, DC.ss_s, DC.ll_sl, bne_self_eq_false, beq_self_eq_true, Bool.not_true, Bool.false_eq_true, if_false]
theorem eqS_Arg' (vs : List TArg) (hs : ∀ v ∈ vs, wtL (TArg.enc v) ≤ 1048576 → r_laws_eqArg [.s v.name, .i v.value.kind, .s v.value.text, .sl (v.value.items.map TValue.enc), .sl (v.value.names.map S1), .s v.name, .i v.value.kind, .s v.value.text, .sl (v.value.items.map TValue.enc), .sl (v.value.names.map S1)] = .ret [.b true]) (hw : DC.wt (.sl (vs.map TArg.enc)) ≤ 1048576) : r_laws_eqArgS [.sl (vs.map TArg.enc), .sl (vs.map TArg.enc)] = .ret [.b true] := by
  rw [DC.wt, List.length_map] at hw
  have hl : vs.length ≤ 1048576 := by omega
  rw [eq_laws_eqArgS]
  simp only [E_laws_eqArgS, List.getD_cons_zero, List.getD_cons_succ, DC.bb_b, DC.ii_i, DC.ss_s, DC.ll_sl]
  refine eqS_all (fun i hi => ?_) ?_
  · rw [List.length_map] at hi
    have key := hs vs[i] (List.getElem_mem hi) (by have := wtV_mem (List.mem_map_of_mem (f := TArg.enc) (List.getElem_mem hi)); omega)
    have hc1 : (i : Int) < (vs.length : Int) := by omega
    simp only [E_laws_eqArgSL1, List.getD_cons_zero, List.getD_cons_succ, DC.bb_b, DC.ii_i, DC.ss_s, DC.ll_sl, Int.toNat_natCast, List.length_map, map_getD hi, TArg.enc_eq] at key ⊢
    simp only [key, List.getD_cons_zero, List.getD_cons_succ, DC.bb_b, DC.ii_i, DC.ss_s, DC.ll_sl, Out.bindR_ret]
    simp [hi, hc1, wrap_succ hi (show vs.length ≤ 9223372036854775807 by omega)]
  · simp [E_laws_eqArgSL1]
theorem eqS_Arg (vs : List TArg) (hw : DC.wt (.sl (vs.map TArg.enc)) ≤ 1048576) : r_laws_eqArgS [.sl (vs.map TArg.enc), .sl (vs.map TArg.enc)] = .ret [.b true] := eqS_Arg' vs (fun v _ => eq_Arg v) hw
theorem wsum_Dir (v : TDir) : wtL (TDir.enc v) = v.name.length + DC.wt (.sl (v.args.map TArg.enc)) := by
  simp only [TDir.enc_eq, wtL, DC.wt]
  try omega
theorem sz_Dir (v : TDir) : okL (TDir.enc v) → ∀ left : Int, 0 ≤ left → left ≤ 1048576 → r_laws_szDir [.s v.name, .sl (v.args.map TArg.enc), .i left] = .ret [.i (szR left (wtL (TDir.enc v)))] := by
  intro ok left h0 h1
  rw [TDir.enc_eq] at ok
  simp only [okL] at ok
  rw [eq_laws_szDir]
  simp only [E_laws_szDir, List.getD_cons_zero, List.getD_cons_succ, DC.bb_b, DC.ii_i, DC.ss_s, DC.ll_sl]
  rw [wsum_Dir]
  have b0 : v.name.length ≤ 9223372036854775807 := by simpa only [DC.ok] using ok.1
  rw [show IntKind.i64.wrap (left - (v.name.length : Int)) = left - (v.name.length : Int) from wrap64 (by omega) (by omega)]
  by_cases c0 : left < ((v.name.length : Nat) : Int)
  · have c0' : left - ((v.name.length : Nat) : Int) < 0 := by omega
    simp only [c0', decide_true, if_true]
    try rw [szR_lt (by omega)]
  have c0' : ¬ left - ((v.name.length : Nat) : Int) < 0 := by omega
  simp only [c0', decide_false, Bool.false_eq_true, if_false]
  rw [szS_Arg v.args ok.2.1 ((left - ((v.name.length : Nat) : Int))) (by omega) (by omega)]
  simp only [Out.bindR_ret, List.getD_cons_zero, List.getD_cons_succ, DC.bb_b, DC.ii_i, DC.ss_s, DC.ll_sl]
  by_cases c1 : (left - ((v.name.length : Nat) : Int)) < ((DC.wt (.sl (v.args.map TArg.enc)) : Nat) : Int)
  · rw [szR_lt c1]
    simp only [show (-1 : Int) < 0 by omega, decide_true, if_true]
    try rw [szR_lt (by omega)]
  rw [szR_ge c1]
  have c1' : ¬ (left - ((v.name.length : Nat) : Int)) - ((DC.wt (.sl (v.args.map TArg.enc)) : Nat) : Int) < 0 := by omega
  simp only [c1', decide_false, Bool.false_eq_true, if_false]
  first
  | done
  | rw [show szR left (v.name.length + DC.wt (.sl (v.args.map TArg.enc))) = ((left - ((v.name.length : Nat) : Int)) - ((DC.wt (.sl (v.args.map TArg.enc)) : Nat) : Int)) from (szR_ge (by omega)).trans (by omega)]
theorem szS_Dir' (vs : List TDir) (hs : ∀ v ∈ vs, okL (TDir.enc v) → ∀ left : Int, 0 ≤ left → left ≤ 1048576 → r_laws_szDir [.s v.name, .sl (v.args.map TArg.enc), .i left] = .ret [.i (szR left (wtL (TDir.enc v)))]) (ok : (DC.sl (vs.map TDir.enc)).ok) (left : Int) (h0 : 0 ≤ left) (h1 : left ≤ 1048576) : r_laws_szDirS [.sl (vs.map TDir.enc), .i left] = .ret [.i (szR left (DC.wt (.sl (vs.map TDir.enc))))] := by
  rw [DC.ok, List.length_map] at ok
  obtain ⟨hl, ok⟩ := ok
  rw [eq_laws_szDirS]
  simp only [E_laws_szDirS, List.getD_cons_zero, List.getD_cons_succ, DC.bb_b, DC.ii_i, DC.ss_s, DC.ll_sl]
  refine szS_all hl (fun i hi left h0 h1 => ?_) (fun left => ?_) h0 h1
  · have key := hs vs[i] (List.getElem_mem hi) (okV_mem ok _ (List.mem_map_of_mem (List.getElem_mem hi))) left h0 h1
    generalize wtL (TDir.enc vs[i]) = w at key ⊢
    have hc1 : (i : Int) < (vs.length : Int) := by omega
    simp only [E_laws_szDirSL1, List.getD_cons_zero, List.getD_cons_succ, DC.bb_b, DC.ii_i, DC.ss_s, DC.ll_sl, Int.toNat_natCast, List.length_map, map_getD hi, TDir.enc_eq, key, Out.bindR_ret]
    by_cases hc : left < (w : Int)
    · simp [hi, hc1, hc, szR_lt hc]
    · simp [hi, hc1, hc, szR_ge hc, show ¬ left - (w : Int) < 0 by omega, wrap_succ hi hl]
  · simp [E_laws_szDirSL1]
theorem szS_Dir (vs : List TDir) (ok : (DC.sl (vs.map TDir.enc)).ok) (left : Int) (h0 : 0 ≤ left) (h1 : left ≤ 1048576) : r_laws_szDirS [.sl (vs.map TDir.enc), .i left] = .ret [.i (szR left (DC.wt (.sl (vs.map TDir.enc))))] := szS_Dir' vs (fun v _ => sz_Dir v) ok left h0 h1
theorem to_Dir (v : TDir) : wtL (TDir.enc v) ≤ 1048576 → r_laws_toDir [.s v.name, .sl (v.args.map TArg.enc)] = .ret (TDir.enc v) := by
  intro hw
  rw [wsum_Dir] at hw
  rw [eq_laws_toDir]
  simp only [E_laws_toDir, List.getD_cons_zero, List.getD_cons_succ, DC.bb_b, DC.ii_i, DC.ss_s, DC.ll_sl]
  rw [toS_Arg v.args (by omega)]
  simp only [Out.bindR_ret, List.getD_cons_zero, List.getD_cons_succ, DC.bb_b, DC.ii_i, DC.ss_s, DC.ll_sl]
  rw [TDir.enc_eq]
theorem toS_Dir' (vs : List TDir) (hs : ∀ v ∈ vs, wtL (TDir.enc v) ≤ 1048576 → r_laws_toDir [.s v.name, .sl (v.args.map TArg.enc)] = .ret (TDir.enc v)) (hw : DC.wt (.sl (vs.map TDir.enc)) ≤ 1048576) : r_laws_toDirS [.sl (vs.map TDir.enc)] = .ret [.sl (vs.map TDir.enc)] := by
  rw [DC.wt, List.length_map] at hw
  have hl : vs.length ≤ 1048576 := by omega
  rw [eq_laws_toDirS]
  simp only [E_laws_toDirS, List.getD_cons_zero, List.getD_cons_succ, DC.bb_b, DC.ii_i, DC.ss_s, DC.ll_sl]
  rw [if_pos ⟨by omega, by rw [List.length_map]; exact lim_of hl, trivial, by omega, by omega, rfl⟩, Int.toNat_natCast, List.length_map, show (0 : Int) = ((0 : Nat) : Int) from rfl, toS_loop hl (fun i hi cur h1 h2 => ?_) (fun cur => ?_)]
  · rfl
  · have key := hs vs[i] (List.getElem_mem hi) (by have := wtV_mem (List.mem_map_of_mem (f := TDir.enc) (List.getElem_mem hi)); omega)
    have hc1 : (i : Int) < (vs.length : Int) := by omega
    simp only [E_laws_toDirSL1, List.getD_cons_zero, List.getD_cons_succ, DC.bb_b, DC.ii_i, DC.ss_s, DC.ll_sl, Int.toNat_natCast, List.length_map, map_getD hi, h1, h2, TDir.enc_eq] at key ⊢
    simp only [key, List.getD_cons_zero, List.getD_cons_succ, DC.bb_b, DC.ii_i, DC.ss_s, DC.ll_sl, Out.bindR_ret]
    simp [hi, hc1, wrap_succ hi (show vs.length ≤ 9223372036854775807 by omega), setRunD]
  · simp [E_laws_toDirSL1]
theorem toS_Dir (vs : List TDir) (hw : DC.wt (.sl (vs.map TDir.enc)) ≤ 1048576) : r_laws_toDirS [.sl (vs.map TDir.enc)] = .ret [.sl (vs.map TDir.enc)] := toS_Dir' vs (fun v _ => to_Dir v) hw
theorem eq_Dir (v : TDir) : wtL (TDir.enc v) ≤ 1048576 → r_laws_eqDir [.s v.name, .sl (v.args.map TArg.enc), .s v.name, .sl (v.args.map TArg.enc)] = .ret [.b true] := by
  intro hw
  rw [wsum_Dir] at hw
  rw [eq_laws_eqDir]
  simp only [E_laws_eqDir, List.getD_cons_zero, List.getD_cons_succ, DC.bb_b, DC.ii_i, DC.ss_s, DC.ll_sl, bne_self_eq_false, beq_self_eq_true, Bool.not_true, Bool.false_eq_true, if_false]
  rw [eqS_Arg v.args (by omega)]
  simp only [Out.bindR_ret, List.getD_cons_zero, List.getD_cons_succ, DC.bb_b, DC.ii_i, DC.ss_s, DC.ll_sl, bne_self_eq_false, beq_self_eq_true, Bool.not_true, Bool.false_eq_true, if_false]
theorem eqS_Dir' (vs : List TDir) (hs : ∀ v ∈ vs, wtL (TDir.enc v) ≤ 1048576 → r_laws_eqDir [.s v.name, .sl (v.args.map TArg.enc), .s v.name, .sl (v.args.map TArg.enc)] = .ret [.b true]) (hw : DC.wt (.sl (vs.map TDir.enc)) ≤ 1048576) : r_laws_eqDirS [.sl (vs.map TDir.enc), .sl (vs.map TDir.enc)] = .ret [.b true] := by
  rw [DC.wt, List.length_map] at hw
  have hl : vs.length ≤ 1048576 := by omega
  rw [eq_laws_eqDirS]
  simp only [E_laws_eqDirS, List.getD_cons_zero, List.getD_cons_succ, DC.bb_b, DC.ii_i, DC.ss_s, DC.ll_sl]
  refine eqS_all (fun i hi => ?_) ?_
  · rw [List.length_map] at hi
    have key := hs vs[i] (List.getElem_mem hi) (by have := wtV_mem (List.mem_map_of_mem (f := TDir.enc) (List.getElem_mem hi)); omega)
    have hc1 : (i : Int) < (vs.length : Int) := by omega
    simp only [E_laws_eqDirSL1, List.getD_cons_zero, List.getD_cons_succ, DC.bb_b, DC.ii_i, DC.ss_s, DC.ll_sl, Int.toNat_natCast, List.length_map, map_getD hi, TDir.enc_eq] at key ⊢
    simp only [key, List.getD_cons_zero, List.getD_cons_succ, DC.bb_b, DC.ii_i, DC.ss_s, DC.ll_sl, Out.bindR_ret]
    simp [hi, hc1, wrap_succ hi (show vs.length ≤ 9223372036854775807 by omega)]
  · simp [E_laws_eqDirSL1]
theorem eqS_Dir (vs : List TDir) (hw : DC.wt (.sl (vs.map TDir.enc)) ≤ 1048576) : r_laws_eqDirS [.sl (vs.map TDir.enc), .sl (vs.map TDir.enc)] = .ret [.b true] := eqS_Dir' vs (fun v _ => eq_Dir v) hw
theorem wsum_InDef (v : TInDef) : wtL (TInDef.enc v) = v.name.length + v.desc.length + wtL (TType.enc v.type') + wtL (TValue.enc v.default') + DC.wt (.sl (v.dirs.map TDir.enc)) := by
  simp only [TInDef.enc_eq, wtL, DC.wt, TType.enc_eq, TValue.enc_eq]
  try omega
theorem sz_InDef (v : TInDef) : okL (TInDef.enc v) → ∀ left : Int, 0 ≤ left → left ≤ 1048576 → r_laws_szInDef [.s v.name, .s v.desc, .s v.type'.name, .s v.type'.wraps, .b v.has', .i v.default'.kind, .s v.default'.text, .sl (v.default'.items.map TValue.enc), .sl (v.default'.names.map S1), .sl (v.dirs.map TDir.enc), .i left] = .ret [.i (szR left (wtL (TInDef.enc v)))] := by
  intro ok left h0 h1
  rw [TInDef.enc_eq] at ok
  simp only [okL] at ok
  rw [eq_laws_szInDef]
  simp only [E_laws_szInDef, List.getD_cons_zero, List.getD_cons_succ, DC.bb_b, DC.ii_i, DC.ss_s, DC.ll_sl]
  rw [wsum_InDef]
  have b0 : v.name.length ≤ 9223372036854775807 := by simpa only [DC.ok] using ok.1
  have b1 : v.desc.length ≤ 9223372036854775807 := by simpa only [DC.ok] using ok.2.1
  rw [show IntKind.i64.wrap (left - (v.name.length : Int)) = left - (v.name.length : Int) from wrap64 (by omega) (by omega)]
  by_cases c0 : left < ((v.name.length : Nat) : Int)
  · have c0' : left - ((v.name.length : Nat) : Int) < 0 := by omega
    simp only [c0', decide_true, if_true]
    try rw [szR_lt (by omega)]
  have c0' : ¬ left - ((v.name.length : Nat) : Int) < 0 := by omega
  simp only [c0', decide_false, Bool.false_eq_true, if_false]
  rw [show IntKind.i64.wrap ((left - ((v.name.length : Nat) : Int)) - (v.desc.length : Int)) = (left - ((v.name.length : Nat) : Int)) - (v.desc.length : Int) from wrap64 (by omega) (by omega)]
  by_cases c1 : (left - ((v.name.length : Nat) : Int)) < ((v.desc.length : Nat) : Int)
  · have c1' : (left - ((v.name.length : Nat) : Int)) - ((v.desc.length : Nat) : Int) < 0 := by omega
    simp only [c1', decide_true, if_true]
    try rw [szR_lt (by omega)]
  have c1' : ¬ (left - ((v.name.length : Nat) : Int)) - ((v.desc.length : Nat) : Int) < 0 := by omega
  simp only [c1', decide_false, Bool.false_eq_true, if_false]
  rw [sz_Type v.type' (by rw [TType.enc_eq]; simp only [okL]; exact ⟨ok.2.2.1, ok.2.2.2.1, trivial⟩) (((left - ((v.name.length : Nat) : Int)) - ((v.desc.length : Nat) : Int))) (by omega) (by omega)]
  simp only [Out.bindR_ret, List.getD_cons_zero, List.getD_cons_succ, DC.bb_b, DC.ii_i, DC.ss_s, DC.ll_sl]
  by_cases c2 : ((left - ((v.name.length : Nat) : Int)) - ((v.desc.length : Nat) : Int)) < ((wtL (TType.enc v.type') : Nat) : Int)
  · rw [szR_lt c2]
    simp only [show (-1 : Int) < 0 by omega, decide_true, if_true]
    try rw [szR_lt (by omega)]
  rw [szR_ge c2]
  have c2' : ¬ ((left - ((v.name.length : Nat) : Int)) - ((v.desc.length : Nat) : Int)) - ((wtL (TType.enc v.type') : Nat) : Int) < 0 := by omega
  simp only [c2', decide_false, Bool.false_eq_true, if_false]
  rw [sz_Value v.default' (by rw [TValue.enc_eq]; simp only [okL]; exact ⟨ok.2.2.2.2.2.1, ok.2.2.2.2.2.2.1, ok.2.2.2.2.2.2.2.1, ok.2.2.2.2.2.2.2.2.1, trivial⟩) ((((left - ((v.name.length : Nat) : Int)) - ((v.desc.length : Nat) : Int)) - ((wtL (TType.enc v.type') : Nat) : Int))) (by omega) (by omega)]
  simp only [Out.bindR_ret, List.getD_cons_zero, List.getD_cons_succ, DC.bb_b, DC.ii_i, DC.ss_s, DC.ll_sl]
  by_cases c3 : (((left - ((v.name.length : Nat) : Int)) - ((v.desc.length : Nat) : Int)) - ((wtL (TType.enc v.type') : Nat) : Int)) < ((wtL (TValue.enc v.default') : Nat) : Int)
  · rw [szR_lt c3]
    simp only [show (-1 : Int) < 0 by omega, decide_true, if_true]
    try rw [szR_lt (by omega)]
  rw [szR_ge c3]
  have c3' : ¬ (((left - ((v.name.length : Nat) : Int)) - ((v.desc.length : Nat) : Int)) - ((wtL (TType.enc v.type') : Nat) : Int)) - ((wtL (TValue.enc v.default') : Nat) : Int) < 0 := by omega
  simp only [c3', decide_false, Bool.false_eq_true, if_false]
  rw [szS_Dir v.dirs ok.2.2.2.2.2.2.2.2.2.1 (((((left - ((v.name.length : Nat) : Int)) - ((v.desc.length : Nat) : Int)) - ((wtL (TType.enc v.type') : Nat) : Int)) - ((wtL (TValue.enc v.default') : Nat) : Int))) (by omega) (by omega)]
  simp only [Out.bindR_ret, List.getD_cons_zero, List.getD_cons_succ, DC.bb_b, DC.ii_i, DC.ss_s, DC.ll_sl]
  by_cases c4 : ((((left - ((v.name.length : Nat) : Int)) - ((v.desc.length : Nat) : Int)) - ((wtL (TType.enc v.type') : Nat) : Int)) - ((wtL (TValue.enc v.default') : Nat) : Int)) < ((DC.wt (.sl (v.dirs.map TDir.enc)) : Nat) : Int)
  · rw [szR_lt c4]
    simp only [show (-1 : Int) < 0 by omega, decide_true, if_true]
    try rw [szR_lt (by omega)]
  rw [szR_ge c4]
  have c4' : ¬ ((((left - ((v.name.length : Nat) : Int)) - ((v.desc.length : Nat) : Int)) - ((wtL (TType.enc v.type') : Nat) : Int)) - ((wtL (TValue.enc v.default') : Nat) : Int)) - ((DC.wt (.sl (v.dirs.map TDir.enc)) : Nat) : Int) < 0 := by omega
  simp only [c4', decide_false, Bool.false_eq_true, if_false]
  first
  | done
  | rw [show szR left (v.name.length + v.desc.length + wtL (TType.enc v.type') + wtL (TValue.enc v.default') + DC.wt (.sl (v.dirs.map TDir.enc))) = (((((left - ((v.name.length : Nat) : Int)) - ((v.desc.length : Nat) : Int)) - ((wtL (TType.enc v.type') : Nat) : Int)) - ((wtL (TValue.enc v.default') : Nat) : Int)) - ((DC.wt (.sl (v.dirs.map TDir.enc)) : Nat) : Int)) from (szR_ge (by omega)).trans (by omega)]
theorem szS_InDef' (vs : List TInDef) (hs : ∀ v ∈ vs, okL (TInDef.enc v) → ∀ left : Int, 0 ≤ left → left ≤ 1048576 → r_laws_szInDef [.s v.name, .s v.desc, .s v.type'.name, .s v.type'.wraps, .b v.has', .i v.default'.kind, .s v.default'.text, .sl (v.default'.items.map TValue.enc), .sl (v.default'.names.map S1), .sl (v.dirs.map TDir.enc), .i left] = .ret [.i (szR left (wtL (TInDef.enc v)))]) (ok : (DC.sl (vs.map TInDef.enc)).ok) (left : Int) (h0 : 0 ≤ left) (h1 : left ≤ 1048576) : r_laws_szInDefS [.sl (vs.map TInDef.enc), .i left] = .ret [.i (szR left (DC.wt (.sl (vs.map TInDef.enc))))] := by
  rw [DC.ok, List.length_map] at ok
  obtain ⟨hl, ok⟩ := ok
  rw [eq_laws_szInDefS]
  simp only [E_laws_szInDefS, List.getD_cons_zero, List.getD_cons_succ, DC.bb_b, DC.ii_i, DC.ss_s, DC.ll_sl]
  refine szS_all hl (fun i hi left h0 h1 => ?_) (fun left => ?_) h0 h1
  · have key := hs vs[i] (List.getElem_mem hi) (okV_mem ok _ (List.mem_map_of_mem (List.getElem_mem hi))) left h0 h1
    generalize wtL (TInDef.enc vs[i]) = w at key ⊢
    have hc1 : (i : Int) < (vs.length : Int) := by omega
    simp only [E_laws_szInDefSL1, List.getD_cons_zero, List.getD_cons_succ, DC.bb_b, DC.ii_i, DC.ss_s, DC.ll_sl, Int.toNat_natCast, List.length_map, map_getD hi, TInDef.enc_eq, key, Out.bindR_ret]
    by_cases hc : left < (w : Int)
    · simp [hi, hc1, hc, szR_lt hc]
    · simp [hi, hc1, hc, szR_ge hc, show ¬ left - (w : Int) < 0 by omega, wrap_succ hi hl]
  · simp [E_laws_szInDefSL1]
theorem szS_InDef (vs : List TInDef) (ok : (DC.sl (vs.map TInDef.enc)).ok) (left : Int) (h0 : 0 ≤ left) (h1 : left ≤ 1048576) : r_laws_szInDefS [.sl (vs.map TInDef.enc), .i left] = .ret [.i (szR left (DC.wt (.sl (vs.map TInDef.enc))))] := szS_InDef' vs (fun v _ => sz_InDef v) ok left h0 h1
theorem to_InDef (v : TInDef) : wtL (TInDef.enc v) ≤ 1048576 → r_laws_toInDef [.s v.name, .s v.desc, .s v.type'.name, .s v.type'.wraps, .b v.has', .i v.default'.kind, .s v.default'.text, .sl (v.default'.items.map TValue.enc), .sl (v.default'.names.map S1), .sl (v.dirs.map TDir.enc)] = .ret (TInDef.enc v) := by
  intro hw
  rw [wsum_InDef] at hw
  rw [eq_laws_toInDef]
  simp only [E_laws_toInDef, List.getD_cons_zero, List.getD_cons_succ, DC.bb_b, DC.ii_i, DC.ss_s, DC.ll_sl]
  rw [to_Type v.type' (by omega)]
  simp only [Out.bindR_ret, TType.enc_eq, List.getD_cons_zero, List.getD_cons_succ, DC.bb_b, DC.ii_i, DC.ss_s, DC.ll_sl]
  rw [to_Value v.default' (by omega)]
  simp only [Out.bindR_ret, TValue.enc_eq, List.getD_cons_zero, List.getD_cons_succ, DC.bb_b, DC.ii_i, DC.ss_s, DC.ll_sl]
  rw [toS_Dir v.dirs (by omega)]
  simp only [Out.bindR_ret, List.getD_cons_zero, List.getD_cons_succ, DC.bb_b, DC.ii_i, DC.ss_s, DC.ll_sl]
  rw [TInDef.enc_eq]
theorem toS_InDef' (vs : List TInDef) (hs : ∀ v ∈ vs, wtL (TInDef.enc v) ≤ 1048576 → r_laws_toInDef [.s v.name, .s v.desc, .s v.type'.name, .s v.type'.wraps, .b v.has', .i v.default'.kind, .s v.default'.text, .sl (v.default'.items.map TValue.enc), .sl (v.default'.names.map S1), .sl (v.dirs.map TDir.enc)] = .ret (TInDef.enc v)) (hw : DC.wt (.sl (vs.map TInDef.enc)) ≤ 1048576) : r_laws_toInDefS [.sl (vs.map TInDef.enc)] = .ret [.sl (vs.map TInDef.enc)] := by
  rw [DC.wt, List.length_map] at hw
  have hl : vs.length ≤ 1048576 := by omega
  rw [eq_laws_toInDefS]
  simp only [E_laws_toInDefS, List.getD_cons_zero, List.getD_cons_succ, DC.bb_b, DC.ii_i, DC.ss_s, DC.ll_sl]
  rw [if_pos ⟨by omega, by rw [List.length_map]; exact lim_of hl, trivial, by omega, by omega, rfl⟩, Int.toNat_natCast, List.length_map, show (0 : Int) = ((0 : Nat) : Int) from rfl, toS_loop hl (fun i hi cur h1 h2 => ?_) (fun cur => ?_)]
  · rfl
  · have key := hs vs[i] (List.getElem_mem hi) (by have := wtV_mem (List.mem_map_of_mem (f := TInDef.enc) (List.getElem_mem hi)); omega)
    have hc1 : (i : Int) < (vs.length : Int) := by omega
    simp only [E_laws_toInDefSL1, List.getD_cons_zero, List.getD_cons_succ, DC.bb_b, DC.ii_i, DC.ss_s, DC.ll_sl, Int.toNat_natCast, List.length_map, map_getD hi, h1, h2, TInDef.enc_eq] at key ⊢
    simp only [key, List.getD_cons_zero, List.getD_cons_succ, DC.bb_b, DC.ii_i, DC.ss_s, DC.ll_sl, Out.bindR_ret]
    simp [hi, hc1, wrap_succ hi (show vs.length ≤ 9223372036854775807 by omega), setRunD]
  · simp [E_laws_toInDefSL1]
theorem toS_InDef (vs : List TInDef) (hw : DC.wt (.sl (vs.map TInDef.enc)) ≤ 1048576) : r_laws_toInDefS [.sl (vs.map TInDef.enc)] = .ret [.sl (vs.map TInDef.enc)] := toS_InDef' vs (fun v _ => to_InDef v) hw
theorem eq_InDef (v : TInDef) : wtL (TInDef.enc v) ≤ 1048576 → r_laws_eqInDef [.s v.name, .s v.desc, .s v.type'.name, .s v.type'.wraps, .b v.has', .i v.default'.kind, .s v.default'.text, .sl (v.default'.items.map TValue.enc), .sl (v.default'.names.map S1), .sl (v.dirs.map TDir.enc), .s v.name, .s v.desc, .s v.type'.name, .s v.type'.wraps, .b v.has', .i v.default'.kind, .s v.default'.text, .sl (v.default'.items.map TValue.enc), .sl (v.default'.names.map S1), .sl (v.dirs.map TDir.enc)] = .ret [.b true] := by
  intro hw
  rw [wsum_InDef] at hw
  rw [eq_laws_eqInDef]
  simp only [E_laws_eqInDef, List.getD_cons_zero, List.getD_cons_succ, DC.bb_b, DC.ii_i, DC.ss_s, DC.ll_sl, bne_self_eq_false, beq_self_eq_true, Bool.not_true, Bool.false_eq_true, if_false]
  rw [eq_Type v.type' (by omega)]
  simp only [Out.bindR_ret, List.getD_cons_zero, List.getD_cons_succ, DC.bb_b, DC.ii_i, DC.ss_s, DC.ll_sl, bne_self_eq_false, beq_self_eq_true, Bool.not_true, Bool.false_eq_true, if_false]
  rw [eq_Value v.default' (by omega)]
  simp only [Out.bindR_ret, List.getD_cons_zero, List.getD_cons_succ, DC.bb_b, DC.ii_i, DC.ss_s, DC.ll_sl, bne_self_eq_false, beq_self_eq_true, Bool.not_true, Bool.false_eq_true, if_false]
  rw [eqS_Dir v.dirs (by omega)]
  simp only [Out.bindR_ret, List.getD_cons_zero, List.getD_cons_succ, DC.bb_b, DC.ii_i, DC.ss_s, DC.ll_sl, bne_self_eq_false, beq_self_eq_true, Bool.not_true, Bool.false_eq_true, if_false]
theorem eqS_InDef' (vs : List TInDef) (hs : ∀ v ∈ vs, wtL (TInDef.enc v) ≤ 1048576 → r_laws_eqInDef [.s v.name, .s v.desc, .s v.type'.name, .s v.type'.wraps, .b v.has', .i v.default'.kind, .s v.default'.text, .sl (v.default'.items.map TValue.enc), .sl (v.default'.names.map S1), .sl (v.dirs.map TDir.enc), .s v.name, .s v.desc, .s v.type'.name, .s v.type'.wraps, .b v.has', .i v.default'.kind, .s v.default'.text, .sl (v.default'.items.map TValue.enc), .sl (v.default'.names.map S1), .sl (v.dirs.map TDir.enc)] = .ret [.b true]) (hw : DC.wt (.sl (vs.map TInDef.enc)) ≤ 1048576) : r_laws_eqInDefS [.sl (vs.map TInDef.enc), .sl (vs.map TInDef.enc)] = .ret [.b true] := by
  rw [DC.wt, List.length_map] at hw
  have hl : vs.length ≤ 1048576 := by omega
  rw [eq_laws_eqInDefS]
  simp only [E_laws_eqInDefS, List.getD_cons_zero, List.getD_cons_succ, DC.bb_b, DC.ii_i, DC.ss_s, DC.ll_sl]
  refine eqS_all (fun i hi => ?_) ?_
  · rw [List.length_map] at hi
    have key := hs vs[i] (List.getElem_mem hi) (by have := wtV_mem (List.mem_map_of_mem (f := TInDef.enc) (List.getElem_mem hi)); omega)
    have hc1 : (i : Int) < (vs.length : Int) := by omega
    simp only [E_laws_eqInDefSL1, List.getD_cons_zero, List.getD_cons_succ, DC.bb_b, DC.ii_i, DC.ss_s, DC.ll_sl, Int.toNat_natCast, List.length_map, map_getD hi, TInDef.enc_eq] at key ⊢
    simp only [key, List.getD_cons_zero, List.getD_cons_succ, DC.bb_b, DC.ii_i, DC.ss_s, DC.ll_sl, Out.bindR_ret]
    simp [hi, hc1, wrap_succ hi (show vs.length ≤ 9223372036854775807 by omega)]
  · simp [E_laws_eqInDefSL1]
theorem eqS_InDef (vs : List TInDef) (hw : DC.wt (.sl (vs.map TInDef.enc)) ≤ 1048576) : r_laws_eqInDefS [.sl (vs.map TInDef.enc), .sl (vs.map TInDef.enc)] = .ret [.b true] := eqS_InDef' vs (fun v _ => eq_InDef v) hw
def rowAct (T : Int → Option (List UInt8)) (rec : Nat → List (List DC) → Int → Option (List (List DC) × Int)) : MA → List DC × Int × Int → Option (List DC × Int × Int)
  | .txt off, (x, k, r) =>
    match T k with
    | some s => some (x.set off (.s s), k, r)
    | none => none
  | .bool off, (x, k, r) => some (x.set off (.b (k % 3 == 0)), k, r)
  | .int off, (x, k, r) => some (x.set off (.i k), k, r)
  | .sub off f, (x, k, r) =>
    match rec f (x.getD off d0).ll k with
    | some (l', k') => some (x.set off (.sl l'), k, k')
    | none => none
  | .inc, (x, k, r) => if k + 1 < 4611686018427387904 then some (x, k + 1, r) else none
  | .upd, (x, k, r) => if 0 ≤ r ∧ r < 4611686018427387904 then some (x, r, r) else none
def rowActs (T : Int → Option (List UInt8)) (rec : Nat → List (List DC) → Int → Option (List (List DC) × Int)) : List MA → List DC × Int × Int → Option (List DC × Int × Int)
  | [], p => some p
  | m :: ms, p =>
    match rowAct T rec m p with
    | some q => rowActs T rec ms q
    | none => none
section
variable {T : Int → Option (List UInt8)} {rec : Nat → List (List DC) → Int → Option (List (List DC) × Int)} {tab : Nat → Option (List MA)}
theorem getD_set_self {l : List (List DC)} {i : Nat} {x : List DC} (h : i < l.length) : (l.set i x).getD i [] = x := by
  rw [List.getD_eq_getElem?_getD, List.getElem?_set, if_pos rfl, if_pos h]
  rfl
theorem doAct_row {i : Nat} {m : MA} {l : List (List DC)} {x x' : List DC} {k k' r r' : Int} (hi : i < l.length) (h : rowAct T rec m (x, k, r) = some (x', k', r')) : doAct T rec i m ⟨l.set i x, k, r⟩ = some ⟨l.set i x', k', r'⟩ := by
  have hx : ∀ (off : Nat) (d : DC), xset (l.set i x) i off d = l.set i (x.set off d) := fun off d => by
    unfold xset
    rw [getD_set_self hi, List.set_set]
  cases m with
  | txt off =>
    simp only [rowAct] at h
    simp only [doAct]
    split at h
    · rename_i s hs
      simp only [Option.some.injEq, Prod.mk.injEq] at h
      obtain ⟨rfl, rfl, rfl⟩ := h
      rw [hs]
      simp only [hx]
    · simp at h
  | bool off =>
    simp only [rowAct, Option.some.injEq, Prod.mk.injEq] at h
    obtain ⟨rfl, rfl, rfl⟩ := h
    simp only [doAct, hx]
  | int off =>
    simp only [rowAct, Option.some.injEq, Prod.mk.injEq] at h
    obtain ⟨rfl, rfl, rfl⟩ := h
    simp only [doAct, hx]
  | sub off f =>
    simp only [rowAct] at h
    simp only [doAct]
    rw [getD_set_self hi]
    split at h
    · rename_i l' k1 hs
      simp only [Option.some.injEq, Prod.mk.injEq] at h
      obtain ⟨rfl, rfl, rfl⟩ := h
      rw [hs]
      simp only [hx]
    · simp at h
  | inc =>
    simp only [rowAct] at h
    simp only [doAct]
    split at h
    · rename_i hb
      simp only [Option.some.injEq, Prod.mk.injEq] at h
      obtain ⟨rfl, rfl, rfl⟩ := h
      rw [if_pos hb]
    · simp at h
  | upd =>
    simp only [rowAct] at h
    simp only [doAct]
    split at h
    · rename_i hb
      simp only [Option.some.injEq, Prod.mk.injEq] at h
      obtain ⟨rfl, rfl, rfl⟩ := h
      rw [if_pos hb]
    · simp at h
theorem doActs_row {i : Nat} {l : List (List DC)} (hi : i < l.length) : ∀ {ms : List MA} {x x' : List DC} {k k' r r' : Int}, rowActs T rec ms (x, k, r) = some (x', k', r') → doActs T rec i ms ⟨l.set i x, k, r⟩ = some ⟨l.set i x', k', r'⟩
  | [], x, x', k, k', r, r', h => by
    simp only [rowActs, Option.some.injEq, Prod.mk.injEq] at h
    obtain ⟨rfl, rfl, rfl⟩ := h
    rfl
  | m :: ms, x, x', k, k', r, r', h => by
    rw [rowActs] at h
    rw [doActs]
    split at h
    · rename_i q hq
      obtain ⟨x1, k1, r1⟩ := q
      rw [doAct_row hi hq]
      exact doActs_row hi h
    · simp at h
inductive Chain {α : Type} (R : α → Int → α → Int → Prop) : List α → Int → List α → Int → Prop
  | nil (k : Int) : Chain R [] k [] k
  | cons {x x' : α} {xs xs' : List α} {k k1 k' : Int} : R x k x' k1 → Chain R xs k1 xs' k' → Chain R (x :: xs) k (x' :: xs') k'
theorem Chain.len {α : Type} {R : α → Int → α → Int → Prop} {vs vs' : List α} {k k' : Int} (h : Chain R vs k vs' k') : vs'.length = vs.length := by
  induction h with
  | nil => rfl
  | cons _ _ ih => simp [ih]
theorem Chain.mono {α : Type} {R S : α → Int → α → Int → Prop} (hRS : ∀ x k x' k', R x k x' k' → S x k x' k') {vs vs' : List α} {k k' : Int} (h : Chain R vs k vs' k') : Chain S vs k vs' k' := by
  induction h with
  | nil k => exact .nil k
  | cons h1 _ ih => exact .cons (hRS _ _ _ _ h1) ih
def MarkRow {α : Type} (T : Int → Option (List UInt8)) (tab : Nat → Option (List MA)) (ms : List MA) (enc : α → List DC) (x : α) (k : Int) (x' : α) (k' : Int) : Prop :=
  ∃ n, ∀ m, n ≤ m → ∀ r, ∃ r', rowActs T (mkF T tab m) ms (enc x, k, r) = some (enc x', k', r')
theorem rows_chain {α : Type} {ms : List MA} {enc : α → List DC} {vs vs' : List α} {k k' : Int} (h : Chain (MarkRow T tab ms enc) vs k vs' k') : ∃ n, ∀ m, n ≤ m → ∀ (pre : List (List DC)) (r : Int), ∃ r',
    doRows T (mkF T tab m) ms vs.length pre.length ⟨pre ++ vs.map enc, k, r⟩ = some ⟨pre ++ vs'.map enc, k', r'⟩ := by
  induction h with
  | nil k => exact ⟨0, fun m _ pre r => ⟨r, rfl⟩⟩
  | cons h1 h2 ih =>
    rename_i x x' xs xs' k k1 k'
    obtain ⟨n1, h1⟩ := h1
    obtain ⟨n2, h2⟩ := ih
    refine ⟨max n1 n2, fun m hm pre r => ?_⟩
    obtain ⟨r1, e1⟩ := h1 m (by omega) r
    obtain ⟨r2, e2⟩ := h2 m (by omega) (pre ++ [enc x']) r1
    refine ⟨r2, ?_⟩
    have hi : pre.length < (pre ++ enc x :: xs.map enc).length := by simp
    have hset : ∀ y, (pre ++ enc x :: xs.map enc).set pre.length y = pre ++ y :: xs.map enc := fun y => by
      rw [List.set_append_right _ _ (Nat.le_refl _), Nat.sub_self]
      rfl
    have e3 := doActs_row (i := pre.length) hi e1
    rw [hset, hset] at e3
    rw [List.length_cons, List.map_cons, doRows, e3]
    rw [List.length_append] at e2
    simpa using e2
def Mk (T : Int → Option (List UInt8)) (tab : Nat → Option (List MA)) (f : Nat) (l : List (List DC)) (k : Int) (l' : List (List DC)) (k' : Int) : Prop := ∃ n, mkF T tab n f l k = some (l', k')
theorem mark_chain {α : Type} {ms : List MA} {enc : α → List DC} {vs vs' : List α} {k k' : Int} {f : Nat} (hf : tab f = some ms) (hl : vs.length < 4611686018427387904) (h0 : 0 ≤ k) (hk : k < 4611686018427387904) (h : Chain (MarkRow T tab ms enc) vs k vs' k') :
    Mk T tab f (vs.map enc) k (vs'.map enc) k' := by
  obtain ⟨n, hn⟩ := rows_chain h
  obtain ⟨r, e⟩ := hn n (Nat.le_refl _) [] 0
  refine ⟨n + 1, ?_⟩
  rw [mkF, hf]
  dsimp only
  unfold mkRun
  rw [if_pos ⟨by simpa using hl, h0, hk⟩, List.length_map]
  simp only [List.nil_append, List.length_nil] at e
  rw [e]
theorem chain_make {α : Type} {R : α → Int → α → Int → Prop} {enc : α → List DC} : ∀ (vs : List α), (∀ x ∈ vs, ∀ k : Int, 0 ≤ k → k + 30 * ((1 + wtL (enc x) : Nat) : Int) < 4611686018427387904 → ∃ x' k', R x k x' k' ∧ k ≤ k' ∧ k' ≤ k + 30 * ((1 + wtL (enc x) : Nat) : Int)) →
    ∀ k : Int, 0 ≤ k → k + 30 * ((DC.wt (.sl (vs.map enc)) : Nat) : Int) < 4611686018427387904 → ∃ vs' k', Chain R vs k vs' k' ∧ k ≤ k' ∧ k' ≤ k + 30 * ((DC.wt (.sl (vs.map enc)) : Nat) : Int)
  | [], _, k, h0, hk => ⟨[], k, .nil k, by omega, by omega⟩
  | x :: vs, hs, k, h0, hk => by
    have hw : DC.wt (.sl ((x :: vs).map enc)) = (1 + wtL (enc x)) + DC.wt (.sl (vs.map enc)) := by
      simp only [DC.wt, List.map_cons, List.length_cons, List.length_map, wtV]
      omega
    rw [hw] at hk ⊢
    obtain ⟨x', k1, e1, e2, e3⟩ := hs x (by simp) k h0 (by omega)
    obtain ⟨vs', k2, c1, c2, c3⟩ := chain_make vs (fun y hy => hs y (by simp [hy])) k1 (by omega) (by omega)
    exact ⟨x' :: vs', k2, .cons e1 c1, by omega, by omega⟩
theorem mark_all {α : Type} {ms : List MA} {enc : α → List DC} {Q : Int → α → Int → Prop} {f : Nat} (hf : tab f = some ms) (vs : List α)
    (hs : ∀ x ∈ vs, ∀ k : Int, 0 ≤ k → k + 30 * ((1 + wtL (enc x) : Nat) : Int) < 4611686018427387904 → ∃ x' k', (MarkRow T tab ms enc x k x' k' ∧ Q k x' k') ∧ k ≤ k' ∧ k' ≤ k + 30 * ((1 + wtL (enc x) : Nat) : Int))
    {k : Int} (h0 : 0 ≤ k) (hk : k + 30 * ((DC.wt (.sl (vs.map enc)) : Nat) : Int) < 4611686018427387904) :
    ∃ vs' k', Mk T tab f (vs.map enc) k (vs'.map enc) k' ∧ k ≤ k' ∧ k' ≤ k + 30 * ((DC.wt (.sl (vs.map enc)) : Nat) : Int) ∧ Chain (fun _ k x' k' => Q k x' k') vs k vs' k' := by
  obtain ⟨vs', k', c, b1, b2⟩ := chain_make (R := fun x k x' k' => MarkRow T tab ms enc x k x' k' ∧ Q k x' k') vs hs k h0 hk
  have hl : vs.length ≤ DC.wt (.sl (vs.map enc)) := by simp [DC.wt]
  exact ⟨vs', k', mark_chain hf (by omega) h0 (by omega) (c.mono fun _ _ _ _ h => h.1), b1, b2, c.mono fun _ _ _ _ h => h.2⟩
theorem held_loop {α : Type} {enc : α → List DC} {F : List DC → Out} {vs vs' : List α} {k k' : Int}
    (h : Chain (fun _ k x' k' => ∀ (l : List (List DC)) (i : Nat), i < l.length → l.length ≤ 9223372036854775807 → l.getD i [] = enc x' → F [.sl l, .i k, .i (i : Int)] = .norm [.sl l, .i k', .i ((i + 1 : Nat) : Int)]) vs k vs' k')
    (hend : ∀ (l : List (List DC)) (k : Int), F [.sl l, .i k, .i (l.length : Int)] = .ex 0 [.i k]) :
    ∀ (pre : List (List DC)), pre.length + vs'.length ≤ 9223372036854775807 → Loop F [.sl (pre ++ vs'.map enc), .i k, .i (pre.length : Int)] = .ex 0 [.i k'] := by
  induction h with
  | nil k => intro pre _; rw [List.map_nil, List.append_nil]; exact Loop_ex (hend pre k)
  | cons h1 h2 ih =>
    rename_i x x' xs xs' k k1 k'
    intro pre hp
    rw [Loop_norm (h1 (pre ++ (x' :: xs').map enc) pre.length (by simp) (by simpa using hp) (by rw [List.map_cons, List.getD_eq_getElem?_getD, List.getElem?_append_right (Nat.le_refl _), Nat.sub_self]; rfl))]
    have := ih (pre ++ [enc x']) (by simp only [List.length_append, List.length_cons, List.length_nil] at hp ⊢; omega)
    rw [List.length_append] at this
    simpa using this
theorem rowActs_txt {off : Nat} {ms : List MA} {x : List DC} {k r : Int} {s : List UInt8} {o : Option (List DC × Int × Int)} (h : T k = some s) (h2 : rowActs T rec ms (x.set off (.s s), k, r) = o) : rowActs T rec (.txt off :: ms) (x, k, r) = o := by
  simp only [rowActs, rowAct, h]
  exact h2
theorem rowActs_bool {off : Nat} {ms : List MA} {x : List DC} {k r : Int} {o : Option (List DC × Int × Int)} (h2 : rowActs T rec ms (x.set off (.b (k % 3 == 0)), k, r) = o) : rowActs T rec (.bool off :: ms) (x, k, r) = o := h2
theorem rowActs_int {off : Nat} {ms : List MA} {x : List DC} {k r : Int} {o : Option (List DC × Int × Int)} (h2 : rowActs T rec ms (x.set off (.i k), k, r) = o) : rowActs T rec (.int off :: ms) (x, k, r) = o := h2
theorem rowActs_inc {ms : List MA} {x : List DC} {k r : Int} {o : Option (List DC × Int × Int)} (h : k + 1 < 4611686018427387904) (h2 : rowActs T rec ms (x, k + 1, r) = o) : rowActs T rec (.inc :: ms) (x, k, r) = o := by
  simp only [rowActs, rowAct, if_pos h]
  exact h2
theorem rowActs_upd {ms : List MA} {x : List DC} {k r : Int} {o : Option (List DC × Int × Int)} (h : 0 ≤ r ∧ r < 4611686018427387904) (h2 : rowActs T rec ms (x, r, r) = o) : rowActs T rec (.upd :: ms) (x, k, r) = o := by
  simp only [rowActs, rowAct, if_pos h]
  exact h2
theorem rowActs_sub {off f : Nat} {ms : List MA} {x : List DC} {k r k' : Int} {l l' : List (List DC)} {o : Option (List DC × Int × Int)} (hl : (x.getD off d0).ll = l) (h : rec f l k = some (l', k')) (h2 : rowActs T rec ms (x.set off (.sl l'), k, k') = o) : rowActs T rec (.sub off f :: ms) (x, k, r) = o := by
  simp only [rowActs, rowAct, hl, h]
  exact h2
theorem Mk.at {f : Nat} {l l' : List (List DC)} {k k' : Int} (h : Mk T tab f l k l' k') : mkV T tab f [l] k = some ([l'], k') := mkV_put h.choose_spec
end
theorem mh_String (v : (List UInt8)) : ∀ k : Int, 0 ≤ k → k + 30 * ((1 + wtL (S1 v) : Nat) : Int) < 4611686018427387904 → ∃ (x' : (List UInt8)) (k' : Int), (MarkRow mT mTab ms14 S1 v k x' k' ∧ (∀ (l : List (List DC)) (i : Nat), i < l.length → l.length ≤ 9223372036854775807 → l.getD i [] = S1 x' → E_laws_heldStringSL1 [.sl l, .i k, .i (i : Int)] = .norm [.sl l, .i k', .i ((i + 1 : Nat) : Int)])) ∧ k ≤ k' ∧ k' ≤ k + 30 * ((1 + wtL (S1 v) : Nat) : Int) := by
  intro k h0 hk
  refine ⟨mtx (k), k + 1, ⟨⟨0, fun m hm r => ?_⟩, ?_⟩, by omega, by omega⟩
  · refine ⟨r, ?_⟩
    unfold S1
    refine rowActs_txt (s := mtx (k)) rfl (rowActs_inc (by omega) ?_)
    exact rfl
  · intro l i hi hl hg
    have m0 : E_laws_markText [.i (k)] = .ret [.s (mtx (k))] := mtx_eq (by omega) (by omega)
    have w0 : IntKind.i64.wrap (k + 1) = k + 1 := wrap64 (by omega) (by omega)
    have hc1 : (i : Int) < (l.length : Int) := by omega
    simp only [E_laws_heldStringSL1, List.getD_cons_zero, List.getD_cons_succ, DC.bb_b, DC.ii_i, DC.ss_s, DC.ll_sl, Int.toNat_natCast, hg, S1, m0, w0, eq_laws_markText, Out.bindR_ret]
    simp [hi, hc1, wrap_succ hi hl, m0, w0]
theorem mhS_String' (vs : List (List UInt8)) (hs : ∀ v ∈ vs, ∀ k : Int, 0 ≤ k → k + 30 * ((1 + wtL (S1 v) : Nat) : Int) < 4611686018427387904 → ∃ (x' : (List UInt8)) (k' : Int), (MarkRow mT mTab ms14 S1 v k x' k' ∧ (∀ (l : List (List DC)) (i : Nat), i < l.length → l.length ≤ 9223372036854775807 → l.getD i [] = S1 x' → E_laws_heldStringSL1 [.sl l, .i k, .i (i : Int)] = .norm [.sl l, .i k', .i ((i + 1 : Nat) : Int)])) ∧ k ≤ k' ∧ k' ≤ k + 30 * ((1 + wtL (S1 v) : Nat) : Int)) (k : Int) (h0 : 0 ≤ k) (hk : k + 30 * ((DC.wt (.sl (vs.map S1)) : Nat) : Int) < 4611686018427387904) : ∃ (vs' : List (List UInt8)) (k' : Int), Mk mT mTab 14 (vs.map S1) k (vs'.map S1) k' ∧ k ≤ k' ∧ k' ≤ k + 30 * ((DC.wt (.sl (vs.map S1)) : Nat) : Int) ∧ r_laws_heldStringS [.sl (vs'.map S1), .i k] = .ret [.i k'] := by
  obtain ⟨vs', k', m, b1, b2, c⟩ := mark_all (Q := fun k x' k' => ∀ (l : List (List DC)) (i : Nat), i < l.length → l.length ≤ 9223372036854775807 → l.getD i [] = S1 x' → E_laws_heldStringSL1 [.sl l, .i k, .i (i : Int)] = .norm [.sl l, .i k', .i ((i + 1 : Nat) : Int)]) (f := 14) (ms := ms14) rfl vs hs h0 hk
  refine ⟨vs', k', m, b1, b2, ?_⟩
  have hl : vs.length ≤ DC.wt (.sl (vs.map S1)) := by simp [DC.wt]
  have hc := c.len
  have key : Loop E_laws_heldStringSL1 [.sl (vs'.map S1), .i k, .i (0 : Int)] = .ex 0 [.i k'] := held_loop c (fun l k => by simp [E_laws_heldStringSL1]) [] (by simp only [List.length_nil]; omega)
  rw [eq_laws_heldStringS]
  simp only [E_laws_heldStringS, List.getD_cons_zero, List.getD_cons_succ, DC.bb_b, DC.ii_i, DC.ss_s, DC.ll_sl, key, Out.andThenB]
  rfl
theorem mhS_String (vs : List (List UInt8)) (k : Int) (h0 : 0 ≤ k) (hk : k + 30 * ((DC.wt (.sl (vs.map S1)) : Nat) : Int) < 4611686018427387904) : ∃ (vs' : List (List UInt8)) (k' : Int), Mk mT mTab 14 (vs.map S1) k (vs'.map S1) k' ∧ k ≤ k' ∧ k' ≤ k + 30 * ((DC.wt (.sl (vs.map S1)) : Nat) : Int) ∧ r_laws_heldStringS [.sl (vs'.map S1), .i k] = .ret [.i k'] := mhS_String' vs (fun v _ => mh_String v) k h0 hk
theorem mhS_Value' (vs : List TValue) (hs : ∀ v ∈ vs, ∀ k : Int, 0 ≤ k → k + 30 * ((1 + wtL (TValue.enc v) : Nat) : Int) < 4611686018427387904 → ∃ (x' : TValue) (k' : Int), (MarkRow mT mTab ms41 TValue.enc v k x' k' ∧ (True)) ∧ k ≤ k' ∧ k' ≤ k + 30 * ((1 + wtL (TValue.enc v) : Nat) : Int)) (k : Int) (h0 : 0 ≤ k) (hk : k + 30 * ((DC.wt (.sl (vs.map TValue.enc)) : Nat) : Int) < 4611686018427387904) : ∃ (vs' : List TValue) (k' : Int), Mk mT mTab 41 (vs.map TValue.enc) k (vs'.map TValue.enc) k' ∧ k ≤ k' ∧ k' ≤ k + 30 * ((DC.wt (.sl (vs.map TValue.enc)) : Nat) : Int) ∧ True := by
  obtain ⟨vs', k', m, b1, b2, c⟩ := mark_all (Q := fun k x' k' => True) (f := 41) (ms := ms41) rfl vs hs h0 hk
  exact ⟨vs', k', m, b1, b2, trivial⟩
theorem mh_Value (v : TValue) : ∀ k : Int, 0 ≤ k → k + 30 * ((1 + wtL (TValue.enc v) : Nat) : Int) < 4611686018427387904 → ∃ (x' : TValue) (k' : Int), (MarkRow mT mTab ms41 TValue.enc v k x' k' ∧ (True)) ∧ k ≤ k' ∧ k' ≤ k + 30 * ((1 + wtL (TValue.enc v) : Nat) : Int) := by
  induction v using TValue.ind with | h v ih =>
  intro k h0 hk
  rw [wsum_Value] at hk
  rw [wsum_Value]
  obtain ⟨a2, k2, ⟨n2, e2⟩, b2, c2, h2⟩ := mhS_Value' v.items (fun x hx => ih x hx) (k + 1 + 1) (by omega) (by omega)
  obtain ⟨a3, k3, ⟨n3, e3⟩, b3, c3, h3⟩ := mhS_String v.names (k2) (by omega) (by omega)
  refine ⟨⟨k, mtx (k + 1), a2, a3⟩, k3, ⟨⟨n2 + n3, fun m hm r => ?_⟩, ?_⟩, by omega, by omega⟩
  · refine ⟨k3, ?_⟩
    rw [TValue.enc_eq, TValue.enc_eq]
    refine rowActs_int (rowActs_inc (by omega) ?_)
    refine rowActs_txt (s := mtx (k + 1)) rfl (rowActs_inc (by omega) ?_)
    refine rowActs_sub (l := v.items.map TValue.enc) rfl (mkF_up (by omega) e2) (rowActs_upd ⟨by omega, by omega⟩ ?_)
    refine rowActs_sub (l := v.names.map S1) rfl (mkF_up (by omega) e3) (rowActs_upd ⟨by omega, by omega⟩ ?_)
    exact rfl
  · trivial
theorem mhS_Value (vs : List TValue) (k : Int) (h0 : 0 ≤ k) (hk : k + 30 * ((DC.wt (.sl (vs.map TValue.enc)) : Nat) : Int) < 4611686018427387904) : ∃ (vs' : List TValue) (k' : Int), Mk mT mTab 41 (vs.map TValue.enc) k (vs'.map TValue.enc) k' ∧ k ≤ k' ∧ k' ≤ k + 30 * ((DC.wt (.sl (vs.map TValue.enc)) : Nat) : Int) ∧ True := mhS_Value' vs (fun v _ => mh_Value v) k h0 hk
theorem mh_Arg (v : TArg) : ∀ k : Int, 0 ≤ k → k + 30 * ((1 + wtL (TArg.enc v) : Nat) : Int) < 4611686018427387904 → ∃ (x' : TArg) (k' : Int), (MarkRow mT mTab ms84 TArg.enc v k x' k' ∧ (True)) ∧ k ≤ k' ∧ k' ≤ k + 30 * ((1 + wtL (TArg.enc v) : Nat) : Int) := by
  intro k h0 hk
  rw [wsum_Arg, wsum_Value] at hk
  rw [wsum_Arg, wsum_Value]
  obtain ⟨a3, k3, ⟨n3, e3⟩, b3, c3, h3⟩ := mhS_Value v.value.items (k + 1 + 1 + 1) (by omega) (by omega)
  obtain ⟨a4, k4, ⟨n4, e4⟩, b4, c4, h4⟩ := mhS_String v.value.names (k3) (by omega) (by omega)
  refine ⟨⟨mtx (k), ⟨k + 1, mtx (k + 1 + 1), a3, a4⟩⟩, k4, ⟨⟨n3 + n4, fun m hm r => ?_⟩, ?_⟩, by omega, by omega⟩
  · refine ⟨k4, ?_⟩
    rw [TArg.enc_eq, TArg.enc_eq]
    refine rowActs_txt (s := mtx (k)) rfl (rowActs_inc (by omega) ?_)
    refine rowActs_int (rowActs_inc (by omega) ?_)
    refine rowActs_txt (s := mtx (k + 1 + 1)) rfl (rowActs_inc (by omega) ?_)
    refine rowActs_sub (l := v.value.items.map TValue.enc) rfl (mkF_up (by omega) e3) (rowActs_upd ⟨by omega, by omega⟩ ?_)
    refine rowActs_sub (l := v.value.names.map S1) rfl (mkF_up (by omega) e4) (rowActs_upd ⟨by omega, by omega⟩ ?_)
    exact rfl
  · trivial
theorem mhS_Arg' (vs : List TArg) (hs : ∀ v ∈ vs, ∀ k : Int, 0 ≤ k → k + 30 * ((1 + wtL (TArg.enc v) : Nat) : Int) < 4611686018427387904 → ∃ (x' : TArg) (k' : Int), (MarkRow mT mTab ms84 TArg.enc v k x' k' ∧ (True)) ∧ k ≤ k' ∧ k' ≤ k + 30 * ((1 + wtL (TArg.enc v) : Nat) : Int)) (k : Int) (h0 : 0 ≤ k) (hk : k + 30 * ((DC.wt (.sl (vs.map TArg.enc)) : Nat) : Int) < 4611686018427387904) : ∃ (vs' : List TArg) (k' : Int), Mk mT mTab 84 (vs.map TArg.enc) k (vs'.map TArg.enc) k' ∧ k ≤ k' ∧ k' ≤ k + 30 * ((DC.wt (.sl (vs.map TArg.enc)) : Nat) : Int) ∧ True := by
  obtain ⟨vs', k', m, b1, b2, c⟩ := mark_all (Q := fun k x' k' => True) (f := 84) (ms := ms84) rfl vs hs h0 hk
  exact ⟨vs', k', m, b1, b2, trivial⟩
theorem mhS_Arg (vs : List TArg) (k : Int) (h0 : 0 ≤ k) (hk : k + 30 * ((DC.wt (.sl (vs.map TArg.enc)) : Nat) : Int) < 4611686018427387904) : ∃ (vs' : List TArg) (k' : Int), Mk mT mTab 84 (vs.map TArg.enc) k (vs'.map TArg.enc) k' ∧ k ≤ k' ∧ k' ≤ k + 30 * ((DC.wt (.sl (vs.map TArg.enc)) : Nat) : Int) ∧ True := mhS_Arg' vs (fun v _ => mh_Arg v) k h0 hk
theorem mh_Dir (v : TDir) : ∀ k : Int, 0 ≤ k → k + 30 * ((1 + wtL (TDir.enc v) : Nat) : Int) < 4611686018427387904 → ∃ (x' : TDir) (k' : Int), (MarkRow mT mTab ms42 TDir.enc v k x' k' ∧ (True)) ∧ k ≤ k' ∧ k' ≤ k + 30 * ((1 + wtL (TDir.enc v) : Nat) : Int) := by
  intro k h0 hk
  rw [wsum_Dir] at hk
  rw [wsum_Dir]
  obtain ⟨a1, k1, ⟨n1, e1⟩, b1, c1, h1⟩ := mhS_Arg v.args (k + 1) (by omega) (by omega)
  refine ⟨⟨mtx (k), a1⟩, k1, ⟨⟨n1, fun m hm r => ?_⟩, ?_⟩, by omega, by omega⟩
  · refine ⟨k1, ?_⟩
    rw [TDir.enc_eq, TDir.enc_eq]
    refine rowActs_txt (s := mtx (k)) rfl (rowActs_inc (by omega) ?_)
    refine rowActs_sub (l := v.args.map TArg.enc) rfl (mkF_up (by omega) e1) (rowActs_upd ⟨by omega, by omega⟩ ?_)
    exact rfl
  · trivial
theorem mhS_Dir' (vs : List TDir) (hs : ∀ v ∈ vs, ∀ k : Int, 0 ≤ k → k + 30 * ((1 + wtL (TDir.enc v) : Nat) : Int) < 4611686018427387904 → ∃ (x' : TDir) (k' : Int), (MarkRow mT mTab ms42 TDir.enc v k x' k' ∧ (True)) ∧ k ≤ k' ∧ k' ≤ k + 30 * ((1 + wtL (TDir.enc v) : Nat) : Int)) (k : Int) (h0 : 0 ≤ k) (hk : k + 30 * ((DC.wt (.sl (vs.map TDir.enc)) : Nat) : Int) < 4611686018427387904) : ∃ (vs' : List TDir) (k' : Int), Mk mT mTab 42 (vs.map TDir.enc) k (vs'.map TDir.enc) k' ∧ k ≤ k' ∧ k' ≤ k + 30 * ((DC.wt (.sl (vs.map TDir.enc)) : Nat) : Int) ∧ True := by
  obtain ⟨vs', k', m, b1, b2, c⟩ := mark_all (Q := fun k x' k' => True) (f := 42) (ms := ms42) rfl vs hs h0 hk
  exact ⟨vs', k', m, b1, b2, trivial⟩
theorem mhS_Dir (vs : List TDir) (k : Int) (h0 : 0 ≤ k) (hk : k + 30 * ((DC.wt (.sl (vs.map TDir.enc)) : Nat) : Int) < 4611686018427387904) : ∃ (vs' : List TDir) (k' : Int), Mk mT mTab 42 (vs.map TDir.enc) k (vs'.map TDir.enc) k' ∧ k ≤ k' ∧ k' ≤ k + 30 * ((DC.wt (.sl (vs.map TDir.enc)) : Nat) : Int) ∧ True := mhS_Dir' vs (fun v _ => mh_Dir v) k h0 hk
theorem mh_InDef (v : TInDef) : ∀ k : Int, 0 ≤ k → k + 30 * ((1 + wtL (TInDef.enc v) : Nat) : Int) < 4611686018427387904 → ∃ (x' : TInDef) (k' : Int), (MarkRow mT mTab ms13 TInDef.enc v k x' k' ∧ (True)) ∧ k ≤ k' ∧ k' ≤ k + 30 * ((1 + wtL (TInDef.enc v) : Nat) : Int) := by
  intro k h0 hk
  rw [wsum_InDef, wsum_Type, wsum_Value] at hk
  rw [wsum_InDef, wsum_Type, wsum_Value]
  obtain ⟨a7, k7, ⟨n7, e7⟩, b7, c7, h7⟩ := mhS_Value v.default'.items (k + 1 + 1 + 1 + 1 + 1 + 1 + 1) (by omega) (by omega)
  obtain ⟨a8, k8, ⟨n8, e8⟩, b8, c8, h8⟩ := mhS_String v.default'.names (k7) (by omega) (by omega)
  obtain ⟨a9, k9, ⟨n9, e9⟩, b9, c9, h9⟩ := mhS_Dir v.dirs (k8) (by omega) (by omega)
  refine ⟨⟨mtx (k), mtx (k + 1), ⟨mtx (k + 1 + 1), mtx (k + 1 + 1 + 1)⟩, (k + 1 + 1 + 1 + 1) % 3 == 0, ⟨k + 1 + 1 + 1 + 1 + 1, mtx (k + 1 + 1 + 1 + 1 + 1 + 1), a7, a8⟩, a9⟩, k9, ⟨⟨n7 + n8 + n9, fun m hm r => ?_⟩, ?_⟩, by omega, by omega⟩
  · refine ⟨k9, ?_⟩
    rw [TInDef.enc_eq, TInDef.enc_eq]
    refine rowActs_txt (s := mtx (k)) rfl (rowActs_inc (by omega) ?_)
    refine rowActs_txt (s := mtx (k + 1)) rfl (rowActs_inc (by omega) ?_)
    refine rowActs_txt (s := mtx (k + 1 + 1)) rfl (rowActs_inc (by omega) ?_)
    refine rowActs_txt (s := mtx (k + 1 + 1 + 1)) rfl (rowActs_inc (by omega) ?_)
    refine rowActs_bool (rowActs_inc (by omega) ?_)
    refine rowActs_int (rowActs_inc (by omega) ?_)
    refine rowActs_txt (s := mtx (k + 1 + 1 + 1 + 1 + 1 + 1)) rfl (rowActs_inc (by omega) ?_)
    refine rowActs_sub (l := v.default'.items.map TValue.enc) rfl (mkF_up (by omega) e7) (rowActs_upd ⟨by omega, by omega⟩ ?_)
    refine rowActs_sub (l := v.default'.names.map S1) rfl (mkF_up (by omega) e8) (rowActs_upd ⟨by omega, by omega⟩ ?_)
    refine rowActs_sub (l := v.dirs.map TDir.enc) rfl (mkF_up (by omega) e9) (rowActs_upd ⟨by omega, by omega⟩ ?_)
    exact rfl
  · trivial
theorem mhS_InDef' (vs : List TInDef) (hs : ∀ v ∈ vs, ∀ k : Int, 0 ≤ k → k + 30 * ((1 + wtL (TInDef.enc v) : Nat) : Int) < 4611686018427387904 → ∃ (x' : TInDef) (k' : Int), (MarkRow mT mTab ms13 TInDef.enc v k x' k' ∧ (True)) ∧ k ≤ k' ∧ k' ≤ k + 30 * ((1 + wtL (TInDef.enc v) : Nat) : Int)) (k : Int) (h0 : 0 ≤ k) (hk : k + 30 * ((DC.wt (.sl (vs.map TInDef.enc)) : Nat) : Int) < 4611686018427387904) : ∃ (vs' : List TInDef) (k' : Int), Mk mT mTab 13 (vs.map TInDef.enc) k (vs'.map TInDef.enc) k' ∧ k ≤ k' ∧ k' ≤ k + 30 * ((DC.wt (.sl (vs.map TInDef.enc)) : Nat) : Int) ∧ True := by
  obtain ⟨vs', k', m, b1, b2, c⟩ := mark_all (Q := fun k x' k' => True) (f := 13) (ms := ms13) rfl vs hs h0 hk
  exact ⟨vs', k', m, b1, b2, trivial⟩
theorem mhS_InDef (vs : List TInDef) (k : Int) (h0 : 0 ≤ k) (hk : k + 30 * ((DC.wt (.sl (vs.map TInDef.enc)) : Nat) : Int) < 4611686018427387904) : ∃ (vs' : List TInDef) (k' : Int), Mk mT mTab 13 (vs.map TInDef.enc) k (vs'.map TInDef.enc) k' ∧ k ≤ k' ∧ k' ≤ k + 30 * ((DC.wt (.sl (vs.map TInDef.enc)) : Nat) : Int) ∧ True := mhS_InDef' vs (fun v _ => mh_InDef v) k h0 hk
def need (w : List UInt8) : Bool := decide (0 < w.length) && ((w.getD (w.length - 1) 0).toNat : Int) == 33
theorem spec_Needed (n w : List UInt8) (hw : w.length ≤ 1048576) : r_spec_Needed [.s n, .s w] = .ret [.b (need w)] := by
  rw [eq_spec_Needed]
  simp only [E_spec_Needed, List.getD_cons_zero, List.getD_cons_succ, DC.ss_s]
  by_cases h : 0 < w.length
  · have h1 : IntKind.i64.wrap ((w.length : Int) - 1) = ((w.length - 1 : Nat) : Int) := by
      rw [wrap64 (by omega) (by omega)]
      omega
    have h2 : w.length - 1 < w.length := by omega
    simp [h1, h, h2, need, Out.andThen, DC.bb_b]
  · simp [h, need, Out.andThen, DC.bb_b]
theorem bang_eq (x : UInt8) : (x == 33) = ((x.toNat : Int) == 33) := by
  rw [Bool.eq_iff_iff, beq_iff_eq, beq_iff_eq, ← UInt8.toNat_inj]
  have : (33 : UInt8).toNat = 33 := rfl
  rw [this]
  omega
theorem impl_Needed (n w : List UInt8) (hw : w.length ≤ 1048576) : r_impl_Needed [.s n, .s w] = .ret [.b (need w)] := by
  rw [eq_impl_Needed]
  simp only [E_impl_Needed, eq_strings_HasSuffix, E_strings_HasSuffix, eq_internal_stringslite_HasSuffix, E_internal_stringslite_HasSuffix, List.getD_cons_zero, List.getD_cons_succ, DC.ss_s, List.length_cons, List.length_nil]
  by_cases h : 0 < w.length
  · have h1 : IntKind.i64.wrap ((w.length : Int) - ((0 + 1 : Nat) : Int)) = ((w.length - 1 : Nat) : Int) := by
      rw [wrap64 (by omega) (by omega)]
      omega
    have h2 : w.length - 1 < w.length := by omega
    have h5 : w.drop (w.length - 1) = [w[w.length - 1]] := by
      rw [List.drop_eq_getElem_cons h2, show w.length - 1 + 1 = w.length by omega, List.drop_length]
    have h6 : w.getD (w.length - 1) 0 = w[w.length - 1] := by rw [List.getD_eq_getElem?_getD, List.getElem?_eq_getElem h2]; rfl
    rw [if_pos (by simp; omega), h1, if_pos ⟨by omega, by omega⟩]
    simp only [Int.toNat_natCast, h5, need, h6, Out.andThen, Out.bindR_ret, List.getD_cons_zero, DC.bb_b]
    rw [← bang_eq]
    simp [h]
  · have h3 : w.length = 0 := by omega
    have h4 : w = [] := List.eq_nil_of_length_eq_zero h3
    subst h4
    simp [need, Out.andThen, DC.bb_b]
def req1 (d : TInDef) : List (List UInt8) := if (need d.type'.wraps && !d.has') = true then [d.name] else []
def reqs (l : List TInDef) : List (List UInt8) := l.flatMap req1
theorem reqs_len : ∀ l : List TInDef, (reqs l).length ≤ l.length
  | [] => Nat.le_refl _
  | d :: l => by
    have := reqs_len l
    simp only [reqs, List.flatMap_cons, List.length_append, List.length_cons] at this ⊢
    have h1 : (req1 d).length ≤ 1 := by unfold req1; split <;> simp
    omega
theorem reqs_take {l : List TInDef} {j : Nat} (h : j < l.length) : reqs (l.take (j + 1)) = reqs (l.take j) ++ req1 l[j] := by
  rw [List.take_succ_eq_append_getElem h, reqs, List.flatMap_append]
  simp [reqs]
theorem wraps_len {l : List TInDef} (hw : DC.wt (.sl (l.map TInDef.enc)) ≤ 1048576) {j : Nat} (h : j < l.length) : l[j].type'.wraps.length ≤ 1048576 := by
  have h1 := wtV_mem (List.mem_map_of_mem (f := TInDef.enc) (List.getElem_mem h))
  rw [DC.wt] at hw
  have h2 : wtL (TInDef.enc l[j]) ≤ 1048576 := by omega
  rw [wsum_InDef, wsum_Type] at h2
  omega
theorem spec_RequiredIn (l : List TInDef) (hw : DC.wt (.sl (l.map TInDef.enc)) ≤ 1048576) : r_spec_RequiredIn [.sl (l.map TInDef.enc)] = .ret [.sl ((reqs l).map S1)] := by
  have hl : l.length ≤ 1048576 := by rw [DC.wt, List.length_map] at hw; omega
  rw [eq_spec_RequiredIn]
  simp only [E_spec_RequiredIn, List.getD_cons_zero, DC.ll_sl]
  have key := Loop_upto (F := E_spec_RequiredInL1) (st := fun i => [.sl (l.map TInDef.enc), .sl ((reqs (l.take i)).map S1), .i (i : Int)]) (o := .ex 0 [.sl ((reqs l).map S1)]) l.length 0 (fun j _ hj => ?step) ?fin
  · have key' : Loop E_spec_RequiredInL1 [.sl (l.map TInDef.enc), .sl [], .i (0 : Int)] = .ex 0 [.sl ((reqs l).map S1)] := key
    rw [key']
    simp [Out.andThenB, DC.ll_sl]
  case step =>
    have hi : j < l.length := by omega
    have hc1 : (j : Int) < (l.length : Int) := by omega
    have hn := spec_Needed l[j].type'.name l[j].type'.wraps (wraps_len hw hi)
    have hrl := reqs_len (l.take j)
    rw [List.length_take] at hrl
    have hL : (reqs (l.take j)).length + 1 < LIM := by unfold LIM; omega
    rw [reqs_take hi]
    simp only [E_spec_RequiredInL1, List.getD_cons_zero, List.getD_cons_succ, DC.bb_b, DC.ii_i, DC.ss_s, DC.ll_sl, Int.toNat_natCast, List.length_map, map_getD hi, TInDef.enc_eq, hn, Out.bindR_ret]
    cases h1 : need l[j].type'.wraps <;> cases h2 : l[j].has' <;> simp [hi, hc1, hL, h1, h2, req1, Out.andThen, Out.andThenB, DC.bb_b, DC.ii_i, DC.ll_sl, map_getD hi, TInDef.enc_eq, DC.ss_s, wrap_succ hi (show l.length ≤ 9223372036854775807 by omega), S1]
  case fin =>
    refine Loop_ex ?_
    rw [Nat.zero_add, List.take_length]
    simp [E_spec_RequiredInL1, DC.ii_i, DC.ll_sl]
theorem impl_RequiredIn (l : List TInDef) (hw : DC.wt (.sl (l.map TInDef.enc)) ≤ 1048576) : r_impl_RequiredIn [.sl (l.map TInDef.enc)] = .ret [.sl ((reqs l).map S1)] := by
  have hl : l.length ≤ 1048576 := by rw [DC.wt, List.length_map] at hw; omega
  rw [eq_impl_RequiredIn]
  simp only [E_impl_RequiredIn, List.getD_cons_zero, DC.ll_sl]
  have key := Loop_upto (F := E_impl_RequiredInL1) (st := fun i => [.sl ((reqs (l.take i)).map S1), .sl (l.map TInDef.enc), .i ((l.map TInDef.enc).length : Int), .i (i : Int)]) (o := .ex 0 [.sl ((reqs l).map S1)]) l.length 0 (fun j _ hj => ?step) ?fin
  · have key' : Loop E_impl_RequiredInL1 [.sl [], .sl (l.map TInDef.enc), .i ((l.map TInDef.enc).length : Int), .i (0 : Int)] = .ex 0 [.sl ((reqs l).map S1)] := key
    rw [key']
    simp [Out.andThenB, DC.ll_sl]
  case step =>
    have hi : j < l.length := by omega
    have hc1 : (j : Int) < (l.length : Int) := by omega
    have hn := impl_Needed l[j].type'.name l[j].type'.wraps (wraps_len hw hi)
    have hrl := reqs_len (l.take j)
    rw [List.length_take] at hrl
    have hL : (reqs (l.take j)).length + 1 < LIM := by unfold LIM; omega
    rw [reqs_take hi]
    simp only [E_impl_RequiredInL1, List.getD_cons_zero, List.getD_cons_succ, DC.bb_b, DC.ii_i, DC.ss_s, DC.ll_sl, Int.toNat_natCast, List.length_map, map_getD hi, TInDef.enc_eq, hn, Out.bindR_ret]
    cases h1 : need l[j].type'.wraps <;> cases h2 : l[j].has' <;> simp [hi, hc1, hL, h1, h2, req1, Out.andThen, Out.andThenB, DC.bb_b, DC.ii_i, DC.ll_sl, map_getD hi, TInDef.enc_eq, DC.ss_s, wrap_succ hi (show l.length ≤ 9223372036854775807 by omega), S1]
  case fin =>
    refine Loop_ex ?_
    rw [Nat.zero_add, List.take_length]
    simp [E_impl_RequiredInL1, DC.ii_i, DC.ll_sl]
theorem reqs_wt : ∀ l : List TInDef, DC.wt (.sl ((reqs l).map S1)) ≤ DC.wt (.sl (l.map TInDef.enc))
  | [] => Nat.le_refl _
  | d :: l => by
    have ih := reqs_wt l
    have h1 : reqs (d :: l) = req1 d ++ reqs l := by simp [reqs]
    have h2 : (req1 d).length + wtV ((req1 d).map S1) ≤ 1 + wtL (TInDef.enc d) := by
      rw [wsum_InDef]
      unfold req1
      split
      · simp [wtV, wtL, S1, DC.wt]
        omega
      · simp [wtV]
    rw [h1]
    simp only [DC.wt, List.map_append, List.length_append, List.length_map, wtV_append, List.map_cons, List.length_cons, wtV] at ih ⊢
    omega
mutual
theorem wfc_ok {ty : Nat → Option TI} : ∀ {t : CT} {c : DC}, WfC ty t c → c.ok
  | _, _, .b x => by simp [DC.ok]
  | _, _, .i k n _ _ => by simp [DC.ok]
  | _, _, .s l h => by rw [DC.ok]; simpa [maxLen] using h
  | _, _, .sl e te l h1 h2 h3 => by rw [DC.ok]; exact ⟨by simpa [maxLen] using h2, wfv_ok h3⟩
  | _, _, .nil e => by rw [DC.ok]; exact ⟨by simp, by rw [okV]; trivial⟩
theorem wfl_ok {ty : Nat → Option TI} : ∀ {ts : List CT} {x : List DC}, WfL ty ts x → okL x
  | _, _, .nil => by rw [okL]; trivial
  | _, _, .cons t ts x xs h1 h2 => by rw [okL]; exact ⟨wfc_ok h1, wfl_ok h2⟩
theorem wfv_ok {ty : Nat → Option TI} : ∀ {ts : List CT} {l : List (List DC)}, WfV ty ts l → okV l
  | _, _, .nil ts => by rw [okV]; trivial
  | _, _, .cons ts x l h1 h2 => by rw [okV]; exact ⟨wfl_ok h1, wfv_ok h2⟩
end
theorem decV {α : Type} {ty : Nat → Option TI} {enc : α → List DC} {cts : List CT} : ∀ {l : List (List DC)}, (∀ x ∈ l, WfL ty cts x → ∃ v, x = enc v) → WfV ty cts l → ∃ vs : List α, l = vs.map enc
  | [], _, _ => ⟨[], rfl⟩
  | x :: l, h, hw => by
    cases hw with
    | cons ts x l h1 h2 =>
      obtain ⟨v, hv⟩ := h x (by simp) h1
      obtain ⟨vs, hvs⟩ := decV (fun y hy => h y (by simp [hy])) h2
      exact ⟨v :: vs, by rw [List.map_cons, hv, hvs]⟩
theorem decC {α : Type} {ty : Nat → Option TI} {enc : α → List DC} {e : Nat} {te : TI} {c : DC} (hte : ty e = some te) (h : ∀ l, c = .sl l → ∀ x ∈ l, WfL ty te.cts x → ∃ v, x = enc v) (hw : WfC ty (.sl e) c) : ∃ vs : List α, c = .sl (vs.map enc) := by
  cases hw with
  | sl e te' l h1 h2 h3 =>
    rw [hte] at h1
    obtain rfl := Option.some.inj h1
    obtain ⟨vs, hvs⟩ := decV (h l rfl) h3
    exact ⟨vs, by rw [hvs]⟩
  | nil => exact ⟨[], rfl⟩
theorem dec_i {ty : Nat → Option TI} {k : IntKind} {c : DC} (h : WfC ty (.i k) c) : ∃ n, c = .i n ∧ k.min ≤ n ∧ n ≤ k.max := by
  cases h with
  | i k n h1 h2 => exact ⟨n, rfl, h1, h2⟩
theorem dec_b {ty : Nat → Option TI} {c : DC} (h : WfC ty .b c) : ∃ n, c = .b n := by cases h; exact ⟨_, rfl⟩
theorem dec_s {ty : Nat → Option TI} {c : DC} (h : WfC ty .s c) : ∃ n, c = .s n := by cases h; exact ⟨_, rfl⟩
theorem dec_S1 {ty : Nat → Option TI} {x : List DC} (h : WfL ty [.s] x) : ∃ n, x = S1 n := by
  cases h with
  | cons t ts x xs h1 h2 =>
    cases h2
    obtain ⟨n, rfl⟩ := dec_s h1
    exact ⟨n, rfl⟩
theorem wfl_cons {ty : Nat → Option TI} {t : CT} {ts : List CT} {x : List DC} (h : WfL ty (t :: ts) x) : ∃ c xs, x = c :: xs ∧ WfC ty t c ∧ WfL ty ts xs := by
  cases h with
  | cons t ts x xs h1 h2 => exact ⟨x, xs, rfl, h1, h2⟩
theorem wfl_nil {ty : Nat → Option TI} {x : List DC} (h : WfL ty [] x) : x = [] := by cases h; rfl
theorem mem_row_lt {l : List (List DC)} {x : List DC} (h : x ∈ l) : SizeOf.sizeOf x < SizeOf.sizeOf (DC.sl l) := by
  have := List.sizeOf_lt_of_mem h
  simp only [DC.sl.sizeOf_spec]
  omega
theorem tyS : cfg.ty 9 = some ⟨.str, [.s], 16, [], false⟩ := by kernel_rfl
theorem ty_Value : cfg.ty 74 = some ⟨.struct, [.i .i64, .s, .sl 74, .sl 9], 72, [(0, 1, false), (1, 1, false), (2, 1, false), (3, 1, false)], false⟩ := by kernel_rfl
theorem dec_Value {x : List DC} (h0 : WfL cfg.ty [.i .i64, .s, .sl 74, .sl 9] x) : ∃ v : TValue, x = TValue.enc v := by
  have h := h0
  obtain ⟨c0, r0, e0, w0, h⟩ := wfl_cons h
  obtain ⟨n0, rfl, _, _⟩ := dec_i w0
  obtain ⟨c1, r1, e1, w1, h⟩ := wfl_cons h
  obtain ⟨n1, rfl⟩ := dec_s w1
  obtain ⟨c2, r2, e2, w2, h⟩ := wfl_cons h
  have hrec2 : ∀ l, c2 = .sl l → ∀ y ∈ l, WfL cfg.ty [.i .i64, .s, .sl 74, .sl 9] y → ∃ v : TValue, y = TValue.enc v := fun l hl y hy hw => by
    have hlt : SizeOf.sizeOf y < SizeOf.sizeOf x := by
      have := mem_row_lt hy
      rw [← hl] at this
      subst e0 e1 e2
      simp only [List.cons.sizeOf_spec]
      omega
    exact dec_Value hw
  obtain ⟨n2, rfl⟩ := decC (enc := TValue.enc) ty_Value hrec2 w2
  obtain ⟨c3, r3, e3, w3, h⟩ := wfl_cons h
  obtain ⟨n3, rfl⟩ := decC (enc := S1) tyS (fun l _ y hy hw => dec_S1 hw) w3
  have hn := wfl_nil h
  refine ⟨⟨n0, n1, n2, n3⟩, ?_⟩
  rw [TValue.enc_eq]
  subst hn
  simp only [e0, e1, e2, e3]
termination_by SizeOf.sizeOf x
theorem ty_Arg : cfg.ty 169 = some ⟨.struct, [.s, .i .i64, .s, .sl 74, .sl 9], 88, [(0, 1, false), (1, 4, true)], false⟩ := by kernel_rfl
theorem dec_Arg {x : List DC} (h0 : WfL cfg.ty [.s, .i .i64, .s, .sl 74, .sl 9] x) : ∃ v : TArg, x = TArg.enc v := by
  have h := h0
  obtain ⟨c0, r0, e0, w0, h⟩ := wfl_cons h
  obtain ⟨n0, rfl⟩ := dec_s w0
  obtain ⟨c1, r1, e1, w1, h⟩ := wfl_cons h
  obtain ⟨n1, rfl, _, _⟩ := dec_i w1
  obtain ⟨c2, r2, e2, w2, h⟩ := wfl_cons h
  obtain ⟨n2, rfl⟩ := dec_s w2
  obtain ⟨c3, r3, e3, w3, h⟩ := wfl_cons h
  obtain ⟨n3, rfl⟩ := decC (enc := TValue.enc) ty_Value (fun l _ y hy hw => dec_Value hw) w3
  obtain ⟨c4, r4, e4, w4, h⟩ := wfl_cons h
  obtain ⟨n4, rfl⟩ := decC (enc := S1) tyS (fun l _ y hy hw => dec_S1 hw) w4
  have hn := wfl_nil h
  refine ⟨⟨n0, ⟨n1, n2, n3, n4⟩⟩, ?_⟩
  rw [TArg.enc_eq]
  subst hn
  simp only [e0, e1, e2, e3, e4]
theorem ty_Dir : cfg.ty 143 = some ⟨.struct, [.s, .sl 169], 40, [(0, 1, false), (1, 1, false)], false⟩ := by kernel_rfl
theorem dec_Dir {x : List DC} (h0 : WfL cfg.ty [.s, .sl 169] x) : ∃ v : TDir, x = TDir.enc v := by
  have h := h0
  obtain ⟨c0, r0, e0, w0, h⟩ := wfl_cons h
  obtain ⟨n0, rfl⟩ := dec_s w0
  obtain ⟨c1, r1, e1, w1, h⟩ := wfl_cons h
  obtain ⟨n1, rfl⟩ := decC (enc := TArg.enc) ty_Arg (fun l _ y hy hw => dec_Arg hw) w1
  have hn := wfl_nil h
  refine ⟨⟨n0, n1⟩, ?_⟩
  rw [TDir.enc_eq]
  subst hn
  simp only [e0, e1]
theorem ty_InDef : cfg.ty 76 = some ⟨.struct, [.s, .s, .s, .s, .b, .i .i64, .s, .sl 74, .sl 9, .sl 143], 168, [(0, 1, false), (1, 1, false), (2, 2, true), (4, 1, false), (5, 4, true), (9, 1, false)], false⟩ := by kernel_rfl
theorem dec_InDef {x : List DC} (h0 : WfL cfg.ty [.s, .s, .s, .s, .b, .i .i64, .s, .sl 74, .sl 9, .sl 143] x) : ∃ v : TInDef, x = TInDef.enc v := by
  have h := h0
  obtain ⟨c0, r0, e0, w0, h⟩ := wfl_cons h
  obtain ⟨n0, rfl⟩ := dec_s w0
  obtain ⟨c1, r1, e1, w1, h⟩ := wfl_cons h
  obtain ⟨n1, rfl⟩ := dec_s w1
  obtain ⟨c2, r2, e2, w2, h⟩ := wfl_cons h
  obtain ⟨n2, rfl⟩ := dec_s w2
  obtain ⟨c3, r3, e3, w3, h⟩ := wfl_cons h
  obtain ⟨n3, rfl⟩ := dec_s w3
  obtain ⟨c4, r4, e4, w4, h⟩ := wfl_cons h
  obtain ⟨n4, rfl⟩ := dec_b w4
  obtain ⟨c5, r5, e5, w5, h⟩ := wfl_cons h
  obtain ⟨n5, rfl, _, _⟩ := dec_i w5
  obtain ⟨c6, r6, e6, w6, h⟩ := wfl_cons h
  obtain ⟨n6, rfl⟩ := dec_s w6
  obtain ⟨c7, r7, e7, w7, h⟩ := wfl_cons h
  obtain ⟨n7, rfl⟩ := decC (enc := TValue.enc) ty_Value (fun l _ y hy hw => dec_Value hw) w7
  obtain ⟨c8, r8, e8, w8, h⟩ := wfl_cons h
  obtain ⟨n8, rfl⟩ := decC (enc := S1) tyS (fun l _ y hy hw => dec_S1 hw) w8
  obtain ⟨c9, r9, e9, w9, h⟩ := wfl_cons h
  obtain ⟨n9, rfl⟩ := decC (enc := TDir.enc) ty_Dir (fun l _ y hy hw => dec_Dir hw) w9
  have hn := wfl_nil h
  refine ⟨⟨n0, n1, ⟨n2, n3⟩, n4, ⟨n5, n6, n7, n8⟩, n9⟩, ?_⟩
  rw [TInDef.enc_eq]
  subst hn
  simp only [e0, e1, e2, e3, e4, e5, e6, e7, e8, e9]
theorem decS_InDef {c : DC} (h : WfC cfg.ty (.sl 76) c) : ∃ vs : List TInDef, c = .sl (vs.map TInDef.enc) := decC ty_InDef (fun l _ y hy hw => dec_InDef hw) h
theorem wfl_app {ty : Nat → Option TI} : ∀ {ts1 ts2 : List CT} {x : List DC}, WfL ty (ts1 ++ ts2) x → ∃ y z, x = y ++ z ∧ WfL ty ts1 y ∧ WfL ty ts2 z
  | [], ts2, x, h => ⟨[], x, rfl, .nil, h⟩
  | t :: ts1, ts2, x, h => by
    obtain ⟨c, xs, rfl, h1, h2⟩ := wfl_cons h
    obtain ⟨y, z, rfl, h3, h4⟩ := wfl_app h2
    exact ⟨c :: y, z, rfl, .cons _ _ _ _ h1 h3, h4⟩
theorem law_FnExactRequiredIn (d : List DC) (hd : WfL cfg.ty [.sl 76] d) : r_laws_FnExactRequiredIn d = .ret [.b true] := by
  obtain ⟨y0, z0, e0, w0, hd⟩ := wfl_app (ts1 := [.sl 76]) (ts2 := []) hd
  have hz := wfl_nil hd
  obtain ⟨c0, q0, f0, v0, u0⟩ := wfl_cons w0
  have x0 := wfl_nil u0
  have k0 := wfc_ok v0
  obtain ⟨a0, g0⟩ := decS_InDef v0
  subst g0 x0 f0
  subst hz
  subst e0
  rw [eq_laws_FnExactRequiredIn]
  simp only [E_laws_FnExactRequiredIn, List.cons_append, List.nil_append, List.append_nil, List.getD_cons_zero, List.getD_cons_succ, DC.bb_b, DC.ii_i, DC.ss_s, DC.ll_sl]
  rw [szS_InDef a0 k0 (1048576) (by omega) (by omega)]
  simp only [Out.bindR_ret, List.getD_cons_zero, List.getD_cons_succ, DC.bb_b, DC.ii_i, DC.ss_s, DC.ll_sl]
  by_cases s0 : (1048576 : Int) < ((DC.wt (.sl (a0.map TInDef.enc)) : Nat) : Int)
  · rw [szR_lt s0]
    rfl
  rw [szR_ge s0]
  have s0' : ¬ (1048576 : Int) - ((DC.wt (.sl (a0.map TInDef.enc)) : Nat) : Int) < 0 := by omega
  simp only [s0', decide_false, Bool.false_eq_true, if_false]
  have W0 : DC.wt (.sl (a0.map TInDef.enc)) ≤ 1048576 := by omega
  have l0 : a0.length ≤ 1048576 := by rw [DC.wt, List.length_map] at W0; omega
  have hs := spec_RequiredIn a0 W0
  have hi := impl_RequiredIn a0 W0
  have hr := reqs_wt a0
  have hrl := reqs_len a0
  obtain ⟨x0, k0, M0, p0, q0, _⟩ := mhS_InDef a0 1 (by omega) (by omega)
  obtain ⟨x1, k1, M1, p1, q1, H1⟩ := mhS_String (reqs a0) 1 (by omega) (by omega)
  have n0 : ¬ k0 < 0 := by omega
  have n1 : ¬ k1 < 0 := by omega
  simp only [toS_InDef a0 W0, eqS_InDef a0 W0, hs, hi, List.append_nil, List.getD_cons_zero, List.getD_cons_succ, DC.bb_b, DC.ii_i, DC.ss_s, DC.ll_sl, Out.bindR_ret, bne_self_eq_false, beq_self_eq_true, Bool.not_true, Bool.false_eq_true, if_false, eqS_String (reqs a0) (by omega), M0.at, M1.at, markM, List.length_cons, List.length_nil, if_true, n0, n1, decide_false, H1, Out.andThen]
end Go.Proofs.QV
