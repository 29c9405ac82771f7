import Derived.Test.YthbcjkppdjpihaaGreatDoorMA5
import Derived.Test.YthbcjkppdjpihaaGreatDoorMA6
import Derived.Test.YthbcjkppdjpihaaGreatDoorMA7
import Derived.Test.YthbcjkppdjpihaaGreatDoorProg
/- The tables and the notes (written by a program). -/
namespace Go.Proofs.QV
open Go
set_option linter.unusedVariables false
set_option maxRecDepth 100000
noncomputable def tyL : List (Nat × TI) := [(3, ⟨.int .i64, [.i .i64], 8, [], false⟩),
  (4, ⟨.bool, [.b], 1, [], false⟩),
  (5, ⟨.int .u8, [.i .u8], 1, [], false⟩),
  (9, ⟨.str, [.s], 16, [], false⟩),
  (22, ⟨.slice 5, [.sl 5], 24, [], false⟩),
  (24, ⟨.slice 45, [.sl 45], 24, [], false⟩),
  (25, ⟨.slice 88, [.sl 88], 24, [], false⟩),
  (27, ⟨.struct, [.sl 45, .sl 45, .sl 88], 72, [(0, 1, false), (1, 1, false), (2, 1, false)], false⟩),
  (30, ⟨.struct, [.s, .s], 32, [(0, 1, false), (1, 1, false)], false⟩),
  (31, ⟨.slice 34, [.sl 34], 24, [], false⟩),
  (32, ⟨.slice 9, [.sl 9], 24, [], false⟩),
  (34, ⟨.struct, [.i .i64, .s, .sl 34, .sl 9], 72, [(0, 1, false), (1, 1, false), (2, 1, false), (3, 1, false)], false⟩),
  (40, ⟨.slice 177, [.sl 177], 24, [], false⟩),
  (41, ⟨.slice 65, [.sl 65], 24, [], false⟩),
  (42, ⟨.slice 61, [.sl 61], 24, [], false⟩),
  (43, ⟨.slice 181, [.sl 181], 24, [], false⟩),
  (45, ⟨.struct, [.i .i64, .b, .s, .s, .sl 9, .sl 177, .sl 65, .sl 61, .sl 88, .b, .sl 181], 200, [(0, 1, false), (1, 1, false), (2, 1, false), (3, 1, false), (4, 1, false), (5, 1, false), (6, 1, false), (7, 1, false), (8, 1, false), (9, 1, false), (10, 1, false)], false⟩),
  (61, ⟨.struct, [.s, .s, .sl 181], 56, [(0, 1, false), (1, 1, false), (2, 1, false)], false⟩),
  (65, ⟨.struct, [.s, .s, .s, .s, .b, .i .i64, .s, .sl 34, .sl 9, .sl 181], 168, [(0, 1, false), (1, 1, false), (2, 2, true), (4, 1, false), (5, 4, true), (9, 1, false)], false⟩),
  (70, ⟨.struct, [.sl 5, .i .i64, .i .i64], 40, [(0, 1, false), (1, 1, false), (2, 1, false)], false⟩),
  (88, ⟨.struct, [.i .i64, .s], 24, [(0, 1, false), (1, 1, false)], false⟩),
  (90, ⟨.slice 104, [.sl 104], 24, [], false⟩),
  (92, ⟨.struct, [.sl 104], 24, [(0, 1, false)], false⟩),
  (94, ⟨.struct, [.i .i64, .i .i64], 16, [(0, 1, false), (1, 1, false)], false⟩),
  (97, ⟨.slice 186, [.sl 186], 24, [], false⟩),
  (98, ⟨.slice 191, [.sl 191], 24, [], false⟩),
  (100, ⟨.struct, [.i .i64, .s, .sl 186, .sl 181, .sl 191], 96, [(0, 1, false), (1, 1, false), (2, 1, false), (3, 1, false), (4, 1, false)], false⟩),
  (102, ⟨.struct, [.s, .s, .sl 181, .sl 191], 80, [(0, 1, false), (1, 1, false), (2, 1, false), (3, 1, false)], false⟩),
  (104, ⟨.struct, [.i .i64, .i .i64, .s, .sl 186, .sl 181, .sl 191, .s, .s, .sl 181, .sl 191, .i .i64, .b, .s, .s, .sl 9, .sl 177, .sl 65, .sl 61, .sl 88, .b, .sl 181], 384, [(0, 1, false), (1, 5, true), (6, 4, true), (10, 11, true)], false⟩),
  (113, ⟨.slice 153, [.sl 153], 24, [], false⟩),
  (115, ⟨.struct, [.sl 153, .i .i64, .i .i64, .i .i64, .i .i64], 56, [(0, 1, false), (1, 1, false), (2, 1, false), (3, 2, true)], false⟩),
  (141, ⟨.slice 3, [.sl 3], 24, [], false⟩),
  (153, ⟨.struct, [.i .i64, .s, .i .i64], 32, [(0, 1, false), (1, 1, false), (2, 1, false)], false⟩),
  (177, ⟨.struct, [.s, .s, .sl 65, .s, .s, .sl 181], 112, [(0, 1, false), (1, 1, false), (2, 1, false), (3, 2, true), (5, 1, false)], false⟩),
  (179, ⟨.slice 199, [.sl 199], 24, [], false⟩),
  (181, ⟨.struct, [.s, .sl 199], 40, [(0, 1, false), (1, 1, false)], false⟩),
  (186, ⟨.struct, [.s, .s, .s, .b, .i .i64, .s, .sl 34, .sl 9, .sl 181], 152, [(0, 1, false), (1, 2, true), (3, 1, false), (4, 4, true), (8, 1, false)], false⟩),
  (191, ⟨.struct, [.i .i64, .s, .s, .s, .sl 199, .sl 181, .sl 191], 128, [(0, 1, false), (1, 1, false), (2, 1, false), (3, 1, false), (4, 1, false), (5, 1, false), (6, 1, false)], false⟩),
  (199, ⟨.struct, [.s, .i .i64, .s, .sl 34, .sl 9], 88, [(0, 1, false), (1, 4, true)], false⟩)]
theorem tys : tyB Tryz.prog tyL = true := by kernel_rfl
noncomputable def fi3 : FI := mkFI Tryz.f3 11 [.ct (.sl 5)] [(false, [.ct .b])] (fun _ => (.s .n (.s .n (.s (.r [0, 0, 0] none) (.s (.r [0, 0, 0, 0, 0, 1, 2, 0, 0] none) (.s (.r [0, 0, 0, 0, 0, 3, 4, 0, 0] none) (.s .n (.s (.r [0, 5, 0] none) (.s (.r [0, 0, 6, 0, 7, 0] none) (.s (.s (.r [] (some ⟨uu 3 (.one (.ptr 0 0) :: .one (.ptr 1 0) :: uu 3 (ob :: ou :: .one (.ptr 7 0) :: uu 43 (ob :: uu 34 []))), .var 27 [.sl 45, .sl 45, .sl 88] :: .var 30 [.s, .s] :: vv 5 (.var 34 [.i .i64, .s, .own 34 8, .nil] :: vv 3 [])⟩)) .n) (.s (.r [0, 0, 0, 0, 0, 0, 0, 0, 0, 0, 0, 0, 0, 0, 0, 0, 0, 0, 0, 0, 0, 0, 0, 0, 0, 0, 0, 0, 0, 0, 9, 10, 0, 0, 0] (some ⟨ou :: ou :: ob :: uu 86 [], vv 11 []⟩)) .n)))))))))))
noncomputable def fi4 : FI := mkFI Tryz.f4 0 [.ct (.sl 5)] [(false, [.ct .b])] (fun _ => .n)
noncomputable def fi5 : FI := mkFI Tryz.f5 1 [] [(true, [.ct (.sl 45), .ct (.sl 45), .ct (.sl 88)])] (fun _ => (.s (.r [0] none) .n))
noncomputable def fi6 : FI := mkFI Tryz.f6 8 [.ct (.sl 5)] [(true, [.ct .s, .ct .s]), (true, [.ct (.i .i64), .ct .s, .ct (.sl 34), .ct (.sl 9)])] (fun _ => (.s (.r [0, 1] none) (.s (.r [0, 2, 0] none) (.s (.r [0, 4, 0, 0, 6, 0, 0, 7, 0] none) .n))))
noncomputable def fi7 : FI := mkFI Tryz.f7 3 [.ag [.sl 45, .sl 45, .sl 88], .ag [.i .i64, .s, .sl 34, .sl 9], .ag [.s, .s]] [(false, [.ct .b])] (fun _ => (.s (.r [0, 1, 2, 0] none) (.s (.b .n ⟨uu 3 (.one (.ptr 0 0) :: .one (.ptr 1 0) :: .one (.ptr 2 0) :: uu 39 []), .var 27 [.sl 45, .sl 45, .sl 88] :: .var 34 [.i .i64, .s, .sl 34, .sl 9] :: .var 30 [.s, .s] :: []⟩) (.s .n (.s (.b .n ⟨uu 3 (.one (.ptr 0 0) :: .one (.ptr 1 0) :: .one (.ptr 2 0) :: uu 39 []), .var 27 [.sl 45, .sl 45, .sl 88] :: .var 34 [.i .i64, .s, .sl 34, .sl 9] :: .var 30 [.s, .s] :: []⟩) .n)))))
noncomputable def fi8 : FI := mkFI Tryz.f8 4 [.ag [.sl 45, .sl 45, .sl 88], .ag [.i .i64, .s, .sl 34, .sl 9], .ag [.s, .s]] [(false, [.ct .b])] (fun _ => (.s (.r [0, 1, 2, 0] none) (.s .n (.s (.s (.r [] (some ⟨uu 3 (.one (.ptr 0 0) :: .one (.ptr 1 0) :: .one (.ptr 2 0) :: uu 15 (ob :: uu 102 [])), .var 27 [.sl 45, .sl 45, .sl 88] :: .var 34 [.i .i64, .s, .sl 34, .sl 9] :: .var 30 [.s, .s] :: .u :: []⟩)) .n) (.s .n (.s (.s (.r [] (some ⟨uu 3 (.one (.ptr 0 0) :: .one (.ptr 1 0) :: .one (.ptr 2 0) :: uu 34 (ob :: uu 83 [])), .var 27 [.sl 45, .sl 45, .sl 88] :: .var 34 [.i .i64, .s, .sl 34, .sl 9] :: .var 30 [.s, .s] :: .u :: []⟩)) (.c (.s .n (.s .n (.s (.s .n (.b (.b (.s .n (.s (.b .n ⟨uu 3 (.one (.ptr 0 0) :: .one (.ptr 1 0) :: .one (.ptr 2 0) :: ou :: oi :: uu 116 []), .var 27 [.sl 45, .sl 45, .sl 88] :: .var 34 [.i .i64, .s, .sl 34, .sl 9] :: .var 30 [.s, .s] :: .u :: []⟩) .n)) ⟨uu 3 (.one (.ptr 0 0) :: .one (.ptr 1 0) :: .one (.ptr 2 0) :: ou :: oi :: uu 116 []), .var 27 [.sl 45, .sl 45, .sl 88] :: .var 34 [.i .i64, .s, .sl 34, .sl 9] :: .var 30 [.s, .s] :: .u :: []⟩) ⟨uu 124 [], vv 4 []⟩)) .n))) .n none)) (.s .n (.s .n (.s (.s .n (.c (.s (.r [] (some ⟨uu 6 (ob :: uu 117 []), vv 4 []⟩)) .n) .n none)) (.s (.r [0, 0, 0, 0, 0, 3, 0] none) (.s (.s .n (.b (.s .n (.c .n (.s .n (.c (.s .n (.b (.b (.s .n (.s (.b (.s (.r [] (some ⟨uu 4 (.one (.ptr 1 0) :: uu 4 (.one (.ptr 3 0) :: oi :: uu 105 (ob :: uu 7 []))), .u :: .var 34 [.i .i64, .s, .sl 34, .sl 9] :: .u :: .var 45 [.i .i64, .b, .s, .s, .sl 9, .sl 177, .sl 65, .sl 61, .sl 88, .b, .sl 181] :: []⟩)) .n) ⟨uu 4 (.one (.ptr 1 0) :: uu 4 (.one (.ptr 3 0) :: oi :: uu 113 [])), .u :: .var 34 [.i .i64, .s, .sl 34, .sl 9] :: .u :: .var 45 [.i .i64, .b, .s, .s, .sl 9, .sl 177, .sl 65, .sl 61, .sl 88, .b, .sl 181] :: []⟩) .n)) ⟨uu 4 (.one (.ptr 1 0) :: uu 4 (.one (.ptr 3 0) :: oi :: uu 113 [])), .u :: .var 34 [.i .i64, .s, .sl 34, .sl 9] :: .u :: .var 45 [.i .i64, .b, .s, .s, .sl 9, .sl 177, .sl 65, .sl 61, .sl 88, .b, .sl 181] :: []⟩) ⟨uu 124 [], vv 4 []⟩)) .n (some ⟨uu 124 [], vv 4 []⟩))) none)) ⟨uu 124 [], vv 4 []⟩)) .n)))))))))))
noncomputable def fi9 : FI := mkFI Tryz.f9 1 [.ag [.s, .s]] [(false, [.ct .b])] (fun _ => (.s (.r [0, 0] none) .n))
noncomputable def fi11 : FI := mkFI Tryz.f11 1 [.ag [.sl 45, .sl 45, .sl 88], .ct .s] [(false, [.ct (.i .i64)])] (fun _ => (.s (.r [0, 0] none) (.s (.s .n (.b (.b (.s (.s (.r [] (some ⟨ou :: os :: .one (.ptr 0 0) :: ou :: ou :: oi :: uu 10 (ob :: uu 11 []), .var 27 [.sl 45, .sl 45, .sl 88] :: []⟩)) .n) (.s (.b .n ⟨ou :: os :: .one (.ptr 0 0) :: ou :: ou :: oi :: uu 22 [], .var 27 [.sl 45, .sl 45, .sl 88] :: []⟩) .n)) ⟨ou :: os :: .one (.ptr 0 0) :: ou :: ou :: oi :: uu 22 [], .var 27 [.sl 45, .sl 45, .sl 88] :: []⟩) ⟨uu 28 [], .u :: []⟩)) .n)))
noncomputable def fi10 : FI := mkFI Tryz.f10 1 [.ct (.sl 65), .ct .s] [(false, [.ct (.i .i64)])] (fun _ => (.s (.r [0, 0] none) .n))
noncomputable def fi13 : FI := mkFI Tryz.f13 9 [.ct (.sl 65)] [(false, [.new 9])] (fun _ => (.s .n (.s (.r [0, 0] none) (.s (.s .n (.b (.b (.s .n (.s .n (.s (.b (.s (.r [0, 0, 2, 0] none) (.s (.r [] (some ⟨uu 3 (.one (.own 9 3) :: ou :: .one (.ptr 2 0) :: ou :: ol 65 :: oi :: oi :: uu 10 (ob :: uu 7 [])), .u :: .u :: .var 65 [.s, .s, .s, .s, .b, .i .i64, .s, .sl 34, .sl 9, .sl 181] :: vv 6 []⟩)) (.c (.r [0, 0, 0, 4, 5, 0] none) .n (some ⟨uu 3 (.one (.own 9 6) :: uu 3 (ol 65 :: oi :: oi :: uu 18 [])), vv 9 []⟩)))) ⟨uu 3 (.one (.own 9 7) :: uu 3 (ol 65 :: oi :: oi :: uu 18 [])), vv 9 []⟩) .n))) ⟨uu 3 (.one (.own 9 1) :: uu 3 (ol 65 :: oi :: oi :: uu 18 [])), vv 9 []⟩) ⟨uu 3 (.one (.own 9 8) :: uu 24 []), vv 9 []⟩)) .n))))
noncomputable def fi12 : FI := mkFI Tryz.f12 0 [.ct (.sl 9), .ct (.sl 9)] [(false, [.ct .b])] (fun _ => (.s .n (.s .n (.s (.s .n (.b (.b (.s .n (.s (.b .n ⟨ol 9 :: ol 9 :: uu 3 (oi :: uu 20 []), []⟩) .n)) ⟨ol 9 :: ol 9 :: uu 3 (oi :: uu 20 []), []⟩) ⟨uu 26 [], []⟩)) .n))))
noncomputable def fi14 : FI := mkFI Tryz.f14 1 [] [(true, [.ct (.sl 45), .ct (.sl 45), .ct (.sl 88)])] (fun _ => (.s (.r [0] none) .n))
noncomputable def fib15 : FI := mkFI Tryz.f15 1 [.ct (.sl 5)] [] (fun _ => (.s .n (.s .n (.s (.s .n (.b (.b (.s (.s (.r [] (some ⟨ol 5 :: ou :: ou :: oi :: oi :: uu 10 (ob :: uu 16 []), .u :: []⟩)) .n) (.s (.b .n ⟨ol 5 :: ou :: ou :: oi :: oi :: uu 27 [], .u :: []⟩) .n)) ⟨ol 5 :: ou :: ou :: oi :: oi :: uu 27 [], .u :: []⟩) ⟨ol 5 :: ou :: ou :: oi :: uu 28 [], .u :: []⟩)) (.s (.r [0, 0, 0, 0, 0] none) .n)))))
noncomputable def fi16 : FI := mkFI Tryz.f16 1 [.ptr, .ct (.sl 9)] [(false, [.ct .s])] (fun _ => .n)
noncomputable def fi17 : FI := mkFI Tryz.f17 34 [.ptr, .ag [.s, .s], .ct (.i .i64)] [(true, [.ct (.i .i64), .ct .s, .ct (.sl 34), .ct (.sl 9)])] (fun _ => (.s (.r [1, 2] none) (.s .n (.s (.s (.r [] (some ⟨.one (.ptr 0 0) :: ou :: oi :: ou :: .one (.ptr 1 0) :: ou :: .one (.ptr 2 0) :: uu 13 (ob :: uu 91 []), .var 70 [.sl 5, .i .i64, .i .i64] :: .var 30 [.s, .s] :: .var 34 [.i .i64, .s, .nil, .nil] :: vv 31 []⟩)) .n) (.s .n (.s (.s .n (.c (.s (.r [0, 3, 0] none) (.s (.s .n (.b (.b (.s .n (.s (.b (.r [0, 0, 0, 0, 0, 0, 0, 0, 4, 5, 0, 0] none) ⟨.one (.ptr 0 0) :: ou :: oi :: ou :: .one (.ptr 1 0) :: ou :: .one (.ptr 2 0) :: .one (.ptr 3 0) :: oi :: uu 103 [], .var 70 [.sl 5, .i .i64, .i .i64] :: .var 30 [.s, .s] :: .var 34 [.i .i64, .s, .nil, .nil] :: .var 34 [.i .i64, .s, .own 34 6, .nil] :: vv 30 []⟩) .n)) ⟨.one (.ptr 0 0) :: ou :: oi :: ou :: .one (.ptr 1 0) :: ou :: .one (.ptr 2 0) :: .one (.ptr 3 0) :: oi :: uu 103 [], .var 70 [.sl 5, .i .i64, .i .i64] :: .var 30 [.s, .s] :: .var 34 [.i .i64, .s, .nil, .nil] :: .var 34 [.i .i64, .s, .own 34 7, .nil] :: vv 30 []⟩) ⟨uu 6 (.one (.ptr 2 0) :: .one (.ptr 3 0) :: uu 104 []), .var 70 [.sl 5, .i .i64, .i .i64] :: .u :: .var 34 [.i .i64, .s, .nil, .nil] :: .var 34 [.i .i64, .s, .own 34 8, .nil] :: vv 30 []⟩)) .n)) .n none)) (.s (.s .n (.b (.s .n (.c .n (.s .n (.c .n (.s .n (.c (.s (.r [0, 10, 0, 0, 0] none) .n) (.s .n (.c (.s (.r [0, 12, 0, 0, 0] none) .n) (.s .n (.c (.s (.r [14, 0, 16, 0, 17, 0] none) (.s (.s (.r [] (some ⟨.one (.ptr 0 0) :: ou :: oi :: uu 3 (.one (.ptr 2 0) :: ou :: ou :: .one (.ptr 17 0) :: uu 68 (ob :: uu 33 [])), .var 70 [.sl 5, .i .i64, .i .i64] :: .u :: .var 34 [.i .i64, .s, .nil, .nil] :: vv 14 (.var 34 [.i .i64, .s, .own 34 18, .own 9 19] :: vv 16 [])⟩)) (.c (.s (.r [0, 0, 20, 21, 0, 0] none) (.r [0, 0, 0, 0, 0, 0, 0, 22, 23, 0, 0] none)) .n (some ⟨.one (.ptr 0 0) :: uu 5 (.one (.ptr 2 0) :: ou :: ou :: .one (.ptr 17 0) :: uu 102 []), .var 70 [.sl 5, .i .i64, .i .i64] :: .u :: .var 34 [.i .i64, .s, .nil, .nil] :: vv 14 (.var 34 [.i .i64, .s, .own 34 24, .own 9 25] :: vv 16 [])⟩))) (.s (.s .n (.c (.s (.r [0, 0, 0, 26, 0, 28, 29, 0, 0] none) (.r [0, 0, 0, 30, 31, 0, 0] none)) .n (some ⟨uu 6 (.one (.ptr 2 0) :: ou :: ou :: .one (.ptr 17 0) :: uu 102 []), .var 70 [.sl 5, .i .i64, .i .i64] :: .u :: .var 34 [.i .i64, .s, .nil, .nil] :: vv 14 (.var 34 [.i .i64, .s, .own 34 32, .own 9 33] :: vv 16 [])⟩))) .n))) .n none)) none)) none)) none)) none)) ⟨uu 6 (.one (.ptr 2 0) :: uu 105 []), .var 70 [.sl 5, .i .i64, .i .i64] :: .u :: .var 34 [.i .i64, .s, .nil, .nil] :: vv 31 []⟩)) .n)))))))
noncomputable def fi18 : FI := mkFI Tryz.f18 1 [.ag [.i .i64, .s, .sl 34, .sl 9]] [(false, [.ct .b])] (fun _ => (.s (.r [0, 0] none) (.s (.r [] (some ⟨ou :: ou :: ob :: uu 8 [], .u :: []⟩)) .n)))
noncomputable def fi19 : FI := mkFI Tryz.f19 2 [.ag [.s, .s]] [(true, [.ct .s, .ct .s])] (fun _ => (.s (.r [0, 1] none) .n))
noncomputable def fi20 : FI := mkFI Tryz.f20 0 [.ct .s, .ct .s] [(false, [.ct .b])] (fun _ => .n)
noncomputable def fi21 : FI := mkFI Tryz.f21 2 [.ag [.s, .s]] [(true, [.ct .s, .ct .s])] (fun _ => (.s (.r [0, 1] none) .n))
noncomputable def fi22 : FI := mkFI Tryz.f22 2 [.ct (.sl 34), .fn] [(false, [.ct .b])] (fun _ => .n)
noncomputable def fi24 : FI := mkFI Tryz.f24 3 [.ag [.sl 45, .sl 45, .sl 88], .ag [.i .i64, .s, .sl 34, .sl 9], .ct .s] [(false, [.ct .b])] (fun _ => (.s (.r [0, 1, 0] none) (.s (.r [0, 0, 0, 0, 0, 0, 2, 0, 0] none) (.s (.s .n (.c (.s (.r [] (some ⟨uu 6 (ob :: uu 38 []), vv 3 []⟩)) .n) .n none)) (.s (.s .n (.b (.s .n (.c .n (.s .n (.c (.s (.r [] (some ⟨uu 6 (ob :: uu 38 []), vv 3 []⟩)) .n) .n none)) none)) ⟨uu 45 [], vv 3 []⟩)) .n)))))
noncomputable def fi25 : FI := mkFI Tryz.f25 1 [.ag [.s, .s]] [(false, [.ct .b])] (fun _ => (.s (.r [0, 0] none) (.s (.r [] (some ⟨ou :: ou :: ob :: uu 14 [], .u :: []⟩)) .n)))
noncomputable def fi26 : FI := mkFI Tryz.f26 2 [.ag [.s, .s]] [(true, [.ct .s, .ct .s])] (fun _ => (.s (.r [0, 1] none) (.s (.s .n (.c .n .n (some ⟨ou :: .one (.ptr 0 0) :: .one (.ptr 1 0) :: uu 11 [], .var 30 [.s, .s] :: .var 30 [.s, .s] :: []⟩))) .n)))
noncomputable def fi27 : FI := mkFI Tryz.f27 2 [.ag [.s, .s]] [(true, [.ct .s, .ct .s])] (fun _ => (.s (.r [0, 1] none) (.s .n (.s (.s (.r [] (some ⟨ou :: .one (.ptr 0 0) :: .one (.ptr 1 0) :: uu 15 (ob :: uu 12 []), .var 30 [.s, .s] :: .var 30 [.s, .s] :: []⟩)) .n) .n))))
noncomputable def fi28 : FI := mkFI Tryz.f28 0 [.ct .s] [(false, [.ct .b])] (fun _ => (.s .n (.s (.r [] (some ⟨ou :: ou :: ob :: uu 18 [], []⟩)) .n)))
noncomputable def fi29 : FI := mkFI Tryz.f29 1 [.ct .s, .ag [.i .i64, .s, .sl 34, .sl 9]] [(false, [.ct .b])] (fun _ => (.s (.r [0, 0] none) (.s (.s .n (.b (.s .n (.c (.s (.r [] (some ⟨uu 4 (ob :: uu 49 []), .u :: []⟩)) .n) (.s .n (.c (.s (.r [] (some ⟨uu 4 (ob :: uu 49 []), .u :: []⟩)) .n) (.s .n (.c .n (.s .n (.c (.s (.r [] (some ⟨uu 4 (ob :: uu 49 []), .u :: []⟩)) .n) .n none)) none)) none)) none)) ⟨uu 3 (.one (.ptr 0 0) :: uu 50 []), .var 34 [.i .i64, .s, .sl 34, .sl 9] :: []⟩)) (.s (.r [] (some ⟨uu 4 (ob :: uu 49 []), .u :: []⟩)) .n))))
noncomputable def fi30 : FI := mkFI Tryz.f30 5 [.ag [.sl 45, .sl 45, .sl 88], .ct (.sl 65), .ag [.i .i64, .s, .sl 34, .sl 9]] [(false, [.ct .b])] (fun _ => (.s (.r [0, 1, 0] none) (.s (.s (.r [] (some ⟨ou :: ol 65 :: ou :: .one (.ptr 0 0) :: ou :: .one (.ptr 1 0) :: uu 22 (ob :: uu 59 []), .var 27 [.sl 45, .sl 45, .sl 88] :: .var 34 [.i .i64, .s, .sl 34, .sl 9] :: vv 3 []⟩)) .n) (.s (.s .n (.b (.b (.s .n (.s (.b (.s .n (.s (.r [] (some ⟨ou :: ol 65 :: ou :: .one (.ptr 0 0) :: ou :: .one (.ptr 1 0) :: ou :: oi :: uu 63 (ob :: uu 16 []), .var 27 [.sl 45, .sl 45, .sl 88] :: .var 34 [.i .i64, .s, .sl 34, .sl 9] :: vv 3 []⟩)) .n)) ⟨ou :: ol 65 :: ou :: .one (.ptr 0 0) :: ou :: .one (.ptr 1 0) :: ou :: oi :: uu 80 [], .var 27 [.sl 45, .sl 45, .sl 88] :: .var 34 [.i .i64, .s, .sl 34, .sl 9] :: vv 3 []⟩) .n)) ⟨ou :: ol 65 :: ou :: .one (.ptr 0 0) :: ou :: .one (.ptr 1 0) :: ou :: oi :: uu 80 [], .var 27 [.sl 45, .sl 45, .sl 88] :: .var 34 [.i .i64, .s, .sl 34, .sl 9] :: vv 3 []⟩) ⟨ou :: ol 65 :: uu 3 (.one (.ptr 1 0) :: uu 82 []), .u :: .var 34 [.i .i64, .s, .sl 34, .sl 9] :: vv 3 []⟩)) (.s (.r [0, 2, 0] none) (.s (.s .n (.b (.b (.s .n (.s (.b .n ⟨uu 5 (.one (.ptr 1 0) :: uu 3 (.one (.own 9 4) :: oi :: uu 77 [])), .u :: .var 34 [.i .i64, .s, .sl 34, .sl 9] :: vv 3 []⟩) .n)) ⟨uu 5 (.one (.ptr 1 0) :: uu 3 (.one (.own 9 3) :: oi :: uu 77 [])), .u :: .var 34 [.i .i64, .s, .sl 34, .sl 9] :: vv 3 []⟩) ⟨uu 88 [], vv 5 []⟩)) .n))))))
noncomputable def fi31 : FI := mkFI Tryz.f31 1 [.ct (.sl 65), .fn] [(false, [.ct (.i .i64)])] (fun _ => (.s .n (.s (.s .n (.b (.b (.s .n (.s .n (.s (.b .n ⟨ol 65 :: .one (.fn 32 [0]) :: uu 5 (oi :: oi :: uu 10 []), .var 9 [.s] :: []⟩) .n))) ⟨ol 65 :: .one (.fn 32 [0]) :: uu 5 (oi :: oi :: uu 10 []), .var 9 [.s] :: []⟩) ⟨uu 19 [], .var 9 [.s] :: []⟩)) .n)))
noncomputable def fi34 : FI := mkFI Tryz.f34 13 [] [(false, [.ct (.sl 45)])] (fun _ => (.s .n (.s (.r [0, 0] none) (.s (.r [2, 0] none) (.s (.s .n (.b (.b (.s .n (.s (.b (.s (.r [0, 0, 0, 0, 0, 0, 0, 0, 5, 6, 0, 0] none) (.r [0, 0, 0, 0, 0, 0, 8, 9, 0] none)) ⟨ou :: .one (.own 9 10) :: .one (.own 45 11) :: oi :: uu 27 [], vv 13 []⟩) .n)) ⟨ou :: .one (.own 9 3) :: .one (.own 45 4) :: oi :: uu 27 [], vv 13 []⟩) ⟨ou :: ou :: .one (.own 45 12) :: uu 28 [], vv 13 []⟩)) .n)))))
noncomputable def fi33 : FI := mkFI Tryz.f33 38 [.ct (.sl 45)] [(true, [.ct (.sl 45), .ct (.sl 45), .ct (.sl 88)])] (fun _ => (.s (.r [0] none) (.s (.r [0, 1, 0, 2, 0, 3, 0] none) (.s .n (.s (.s .n (.b (.b (.s .n (.s (.b (.s (.s .n (.c (.s (.r [6, 0, 0, 0, 0] none) (.s .n (.s (.s (.r [] (some ⟨ol 45 :: ou :: .one (.ptr 0 0) :: .one (.ptr 3 0) :: oi :: oi :: os :: uu 32 (ob :: uu 43 []), .var 27 [.nil, .nil, .nil] :: .u :: .u :: .var 27 [.own 45 7, .own 45 8, .own 88 34] :: vv 34 []⟩)) (.c (.r [0, 0, 0, 0, 0, 10, 11, 0, 0] none) .n (some ⟨ol 45 :: ou :: .one (.ptr 0 0) :: .one (.ptr 3 0) :: oi :: oi :: uu 77 [], .var 27 [.nil, .nil, .nil] :: .u :: .u :: .var 27 [.own 45 12, .own 45 13, .own 88 14] :: vv 34 []⟩))) .n))) .n none)) (.s .n (.b (.b (.s .n (.s (.b (.s .n (.c (.r [0, 0, 0, 0, 0, 0, 0, 0, 0, 0, 18, 19, 0, 0] none) .n (some ⟨ol 45 :: ou :: .one (.ptr 0 0) :: .one (.ptr 3 0) :: oi :: oi :: ou :: ou :: oi :: uu 74 [], .var 27 [.nil, .nil, .nil] :: .u :: .u :: .var 27 [.own 45 20, .own 45 21, .own 88 22] :: vv 34 []⟩))) ⟨ol 45 :: ou :: .one (.ptr 0 0) :: .one (.ptr 3 0) :: oi :: oi :: ou :: ou :: oi :: uu 74 [], .var 27 [.nil, .nil, .nil] :: .u :: .u :: .var 27 [.own 45 23, .own 45 24, .own 88 25] :: vv 34 []⟩) .n)) ⟨ol 45 :: ou :: .one (.ptr 0 0) :: .one (.ptr 3 0) :: oi :: oi :: ou :: ou :: oi :: uu 74 [], .var 27 [.nil, .nil, .nil] :: .u :: .u :: .var 27 [.own 45 15, .own 45 16, .own 88 26] :: vv 34 []⟩) ⟨ol 45 :: ou :: .one (.ptr 0 0) :: .one (.ptr 3 0) :: oi :: oi :: uu 77 [], .var 27 [.nil, .nil, .nil] :: .u :: .u :: .var 27 [.own 45 27, .own 45 28, .own 88 29] :: vv 34 []⟩))) ⟨ol 45 :: ou :: .one (.ptr 0 0) :: .one (.ptr 3 0) :: oi :: oi :: uu 77 [], .var 27 [.nil, .nil, .nil] :: .u :: .u :: .var 27 [.own 45 30, .own 45 31, .own 88 32] :: vv 34 []⟩) .n)) ⟨ol 45 :: ou :: .one (.ptr 0 0) :: .one (.ptr 3 0) :: oi :: oi :: uu 77 [], .var 27 [.nil, .nil, .nil] :: .u :: .u :: .var 27 [.own 45 4, .own 45 5, .own 88 33] :: vv 34 []⟩) ⟨ou :: ou :: .one (.ptr 0 0) :: .one (.ptr 3 0) :: uu 79 [], .var 27 [.nil, .nil, .nil] :: .u :: .u :: .var 27 [.own 45 35, .own 45 36, .own 88 37] :: vv 34 []⟩)) .n)))))
noncomputable def fi35 : FI := mkFI Tryz.f35 1 [.ptr, .ct (.i .i64)] [(false, [.ct (.i .i64)])] (fun _ => .n)
noncomputable def fi36 : FI := mkFI Tryz.f36 1 [.ptr, .ct (.i .i64)] [(false, [.ct .b])] (fun _ => .n)
noncomputable def fi37 : FI := mkFI Tryz.f37 29 [.ptr, .ct (.i .i64), .ct .b] [(true, [.ct (.i .i64), .ct .s, .ct (.sl 34), .ct (.sl 9)])] (fun _ => (.s (.r [1] none) (.s .n (.s (.s (.r [] (some ⟨.one (.ptr 0 0) :: oi :: ob :: uu 3 (.one (.ptr 1 0) :: oi :: uu 11 (ob :: uu 86 [])), .var 70 [.sl 5, .i .i64, .i .i64] :: .var 34 [.i .i64, .s, .nil, .nil] :: vv 27 []⟩)) (.c .n .n (some ⟨.one (.ptr 0 0) :: oi :: ob :: uu 3 (.one (.ptr 1 0) :: oi :: uu 98 []), .var 70 [.sl 5, .i .i64, .i .i64] :: .var 34 [.i .i64, .s, .nil, .nil] :: vv 27 []⟩))) (.s (.s .n (.b (.s .n (.c (.s (.r [0, 2, 0, 0, 0] none) .n) (.s .n (.c (.s (.r [0, 4, 0, 0, 0] none) .n) (.s .n (.c .n (.s .n (.c (.s (.r [0, 6, 0, 0, 0] none) .n) (.s .n (.c (.s (.r [0, 8, 0, 0, 0] none) .n) (.s (.s .n (.c .n .n (some ⟨.one (.ptr 0 0) :: oi :: ob :: uu 3 (.one (.ptr 1 0) :: uu 15 (oi :: uu 29 (ob :: uu 53 []))), .var 70 [.sl 5, .i .i64, .i .i64] :: .var 34 [.i .i64, .s, .nil, .nil] :: vv 27 []⟩))) (.c (.s (.s .n (.c (.s (.r [0, 10, 0, 0, 0] none) .n) .n none)) .n) (.s .n (.c (.s (.r [0, 11, 0] none) (.s (.s .n (.b (.b (.s .n (.s (.b (.s (.r [0, 0, 0, 0, 12, 13, 0, 0] none) (.r [0, 0, 0, 0, 0, 0, 0, 14, 15, 0, 0] none)) ⟨.one (.ptr 0 0) :: oi :: ob :: uu 3 (.one (.ptr 1 0) :: ou :: .one (.ptr 11 0) :: oi :: uu 96 []), .var 70 [.sl 5, .i .i64, .i .i64] :: .var 34 [.i .i64, .s, .nil, .nil] :: vv 9 (.var 34 [.i .i64, .s, .own 34 16, .own 9 17] :: vv 17 [])⟩) .n)) ⟨.one (.ptr 0 0) :: oi :: ob :: uu 3 (.one (.ptr 1 0) :: ou :: .one (.ptr 11 0) :: oi :: uu 96 []), .var 70 [.sl 5, .i .i64, .i .i64] :: .var 34 [.i .i64, .s, .nil, .nil] :: vv 9 (.var 34 [.i .i64, .s, .own 34 18, .own 9 19] :: vv 17 [])⟩) ⟨uu 6 (.one (.ptr 1 0) :: ou :: .one (.ptr 11 0) :: uu 97 []), .var 70 [.sl 5, .i .i64, .i .i64] :: .var 34 [.i .i64, .s, .nil, .nil] :: vv 9 (.var 34 [.i .i64, .s, .own 34 20, .own 9 21] :: vv 17 [])⟩)) .n)) .n none)) none)) none)) none)) none)) none)) none)) ⟨.one (.ptr 0 0) :: oi :: ob :: uu 3 (.one (.ptr 1 0) :: uu 99 []), .var 70 [.sl 5, .i .i64, .i .i64] :: .var 34 [.i .i64, .s, .nil, .nil] :: vv 27 []⟩)) (.s (.r [0, 22, 0] none) (.s (.s .n (.b (.b (.s .n (.s (.b (.r [0, 0, 0, 0, 0, 0, 0, 24, 25, 0, 0] none) ⟨.one (.ptr 0 0) :: oi :: ob :: uu 3 (.one (.ptr 1 0) :: uu 3 (.one (.ptr 22 0) :: oi :: uu 94 [])), .var 70 [.sl 5, .i .i64, .i .i64] :: .var 34 [.i .i64, .s, .nil, .nil] :: vv 20 (.var 34 [.i .i64, .s, .own 34 26, .nil] :: vv 6 [])⟩) .n)) ⟨.one (.ptr 0 0) :: oi :: ob :: uu 3 (.one (.ptr 1 0) :: uu 3 (.one (.ptr 22 0) :: oi :: uu 94 [])), .var 70 [.sl 5, .i .i64, .i .i64] :: .var 34 [.i .i64, .s, .nil, .nil] :: vv 20 (.var 34 [.i .i64, .s, .own 34 27, .nil] :: vv 6 [])⟩) ⟨uu 6 (.one (.ptr 1 0) :: uu 3 (.one (.ptr 22 0) :: uu 95 [])), .var 70 [.sl 5, .i .i64, .i .i64] :: .var 34 [.i .i64, .s, .nil, .nil] :: vv 20 (.var 34 [.i .i64, .s, .own 34 28, .nil] :: vv 6 [])⟩)) .n)))))))
noncomputable def fi38 : FI := mkFI Tryz.f38 0 [.ct .s, .ct .s] [(false, [.ct .s])] (fun _ => .n)
noncomputable def fi39 : FI := mkFI Tryz.f39 0 [.ct .s, .ct .s] [(false, [.ct .b])] (fun _ => (.s .n (.s (.r [] (some ⟨uu 4 (ob :: uu 16 []), []⟩)) .n)))
noncomputable def fi40 : FI := mkFI Tryz.f40 0 [.ct .s, .ct .s] [(false, [.ct .s]), (false, [.ct .b])] (fun _ => .n)
noncomputable def fi41 : FI := mkFI Tryz.f41 2 [.ct (.sl 34), .fn] [(false, [.ct (.i .i64)])] (fun _ => (.s .n (.s (.s .n (.b (.b (.s .n (.s .n (.s (.b .n ⟨ol 34 :: .one (.fn 23 [0, 1]) :: uu 5 (oi :: oi :: uu 10 []), .var 27 [.sl 45, .sl 45, .sl 88] :: .var 30 [.s, .s] :: []⟩) .n))) ⟨ol 34 :: .one (.fn 23 [0, 1]) :: uu 5 (oi :: oi :: uu 10 []), .var 27 [.sl 45, .sl 45, .sl 88] :: .var 30 [.s, .s] :: []⟩) ⟨uu 19 [], .var 27 [.sl 45, .sl 45, .sl 88] :: .var 30 [.s, .s] :: []⟩)) .n)))
noncomputable def fi42 : FI := mkFI Tryz.f42 2 [.ag [.sl 45, .sl 45, .sl 88], .ct .s] [(true, [.ct (.i .i64), .ct .b, .ct .s, .ct .s, .ct (.sl 9), .ct (.sl 177), .ct (.sl 65), .ct (.sl 61), .ct (.sl 88), .ct .b, .ct (.sl 181)]), (false, [.ct .b])] (fun _ => (.s (.r [0, 1, 0] none) .n))
noncomputable def fi43 : FI := mkFI Tryz.f43 0 [.ct .s] [(false, [.ct .b])] (fun _ => (.s .n (.s (.s .n (.b (.s (.s .n (.c .n (.s .n (.c .n (.s .n (.c .n (.s .n (.c .n .n (some ⟨uu 4 (ob :: uu 5 []), []⟩))) (some ⟨uu 4 (ob :: uu 5 []), []⟩))) (some ⟨uu 4 (ob :: uu 5 []), []⟩))) (some ⟨uu 4 (ob :: uu 5 []), []⟩))) .n) ⟨uu 10 [], []⟩)) .n)))
noncomputable def fi44 : FI := mkFI Tryz.f44 1 [.ag [.i .i64, .s, .sl 34, .sl 9], .ct .s] [(false, [.ct .b])] (fun _ => (.s (.r [0, 0] none) (.s (.s .n (.b (.s .n (.c (.s (.r [] (some ⟨uu 4 (ob :: uu 49 []), .u :: []⟩)) .n) (.s .n (.c (.s (.r [] (some ⟨uu 4 (ob :: uu 49 []), .u :: []⟩)) .n) (.s .n (.c .n (.s .n (.c (.s (.r [] (some ⟨uu 4 (ob :: uu 49 []), .u :: []⟩)) .n) .n none)) none)) none)) none)) ⟨ou :: ou :: .one (.ptr 0 0) :: uu 51 [], .var 34 [.i .i64, .s, .sl 34, .sl 9] :: []⟩)) (.s (.r [] (some ⟨uu 4 (ob :: uu 49 []), .u :: []⟩)) .n))))
noncomputable def fi45 : FI := mkFI Tryz.f45 1 [.ct (.sl 61), .fn] [(false, [.ct .b])] (fun _ => .n)
noncomputable def fi47 : FI := mkFI Tryz.f47 4 [.ag [.sl 45, .sl 45, .sl 88], .ag [.i .i64, .s, .sl 34, .sl 9], .ag [.i .i64, .b, .s, .s, .sl 9, .sl 177, .sl 65, .sl 61, .sl 88, .b, .sl 181]] [(false, [.ct .b])] (fun _ => (.s (.r [0, 1, 2, 0] none) (.s (.s (.r [] (some ⟨uu 3 (.one (.ptr 0 0) :: .one (.ptr 1 0) :: .one (.ptr 2 0) :: uu 21 (ob :: uu 45 [])), .var 27 [.sl 45, .sl 45, .sl 88] :: .var 34 [.i .i64, .s, .sl 34, .sl 9] :: .var 45 [.i .i64, .b, .s, .s, .sl 9, .sl 177, .sl 65, .sl 61, .sl 88, .b, .sl 181] :: .u :: []⟩)) .n) (.s (.s .n (.b (.b (.s .n (.s .n (.s (.b (.s .n (.s .n (.s (.r [] (some ⟨uu 3 (.one (.ptr 0 0) :: .one (.ptr 1 0) :: .one (.ptr 2 0) :: uu 23 (ol 9 :: oi :: oi :: uu 33 (ob :: uu 7 []))), .var 27 [.sl 45, .sl 45, .sl 88] :: .var 34 [.i .i64, .s, .sl 34, .sl 9] :: .var 45 [.i .i64, .b, .s, .s, .sl 9, .sl 177, .sl 65, .sl 61, .sl 88, .b, .sl 181] :: .u :: []⟩)) .n))) ⟨uu 3 (.one (.ptr 0 0) :: .one (.ptr 1 0) :: .one (.ptr 2 0) :: uu 23 (ol 9 :: oi :: oi :: uu 41 [])), .var 27 [.sl 45, .sl 45, .sl 88] :: .var 34 [.i .i64, .s, .sl 34, .sl 9] :: .var 45 [.i .i64, .b, .s, .s, .sl 9, .sl 177, .sl 65, .sl 61, .sl 88, .b, .sl 181] :: .u :: []⟩) .n))) ⟨uu 3 (.one (.ptr 0 0) :: .one (.ptr 1 0) :: .one (.ptr 2 0) :: uu 23 (ol 9 :: oi :: oi :: uu 41 [])), .var 27 [.sl 45, .sl 45, .sl 88] :: .var 34 [.i .i64, .s, .sl 34, .sl 9] :: .var 45 [.i .i64, .b, .s, .s, .sl 9, .sl 177, .sl 65, .sl 61, .sl 88, .b, .sl 181] :: .u :: []⟩) ⟨uu 4 (.one (.ptr 1 0) :: .one (.ptr 2 0) :: uu 67 []), .u :: .var 34 [.i .i64, .s, .sl 34, .sl 9] :: .var 45 [.i .i64, .b, .s, .s, .sl 9, .sl 177, .sl 65, .sl 61, .sl 88, .b, .sl 181] :: .u :: []⟩)) (.s (.r [0, 0, 3, 0, 0, 0, 0] none) .n)))))
noncomputable def fi48 : FI := mkFI Tryz.f48 0 [.ct .s] [(false, [.ct .b])] (fun _ => (.s .n (.s (.s (.r [] (some ⟨os :: uu 11 (ob :: uu 25 []), []⟩)) .n) (.s .n (.s (.s .n (.b (.b (.s .n (.s (.b (.s .n (.c .n .n (some ⟨os :: ou :: ou :: oi :: oi :: uu 33 [], []⟩))) ⟨os :: ou :: ou :: oi :: oi :: uu 33 [], []⟩) .n)) ⟨os :: ou :: ou :: oi :: oi :: uu 33 [], []⟩) ⟨os :: ou :: ou :: oi :: uu 34 [], []⟩)) .n)))))
noncomputable def fi49 : FI := mkFI Tryz.f49 0 [.ct (.sl 65), .ct .s] [(false, [.ct (.i .i64)])] (fun _ => (.s .n (.s (.s .n (.b (.b (.s .n (.s (.b .n ⟨ol 65 :: os :: uu 3 (oi :: uu 14 []), []⟩) .n)) ⟨ol 65 :: os :: uu 3 (oi :: uu 14 []), []⟩) ⟨uu 20 [], []⟩)) .n)))
noncomputable def fi50 : FI := mkFI Tryz.f50 0 [.ct (.sl 9), .ct .s] [(false, [.ct .b])] (fun _ => (.s .n (.s (.s .n (.b (.b (.s .n (.s (.b .n ⟨ol 9 :: os :: uu 3 (oi :: uu 12 []), []⟩) .n)) ⟨ol 9 :: os :: uu 3 (oi :: uu 12 []), []⟩) ⟨uu 18 [], []⟩)) .n)))
noncomputable def fi51 : FI := mkFI Tryz.f51 9 [.ct (.sl 65)] [(false, [.new 9])] (fun _ => (.s .n (.s (.r [0, 0] none) (.s (.s .n (.b (.b (.s .n (.s (.b (.s (.r [] (some ⟨ol 65 :: ou :: ou :: .one (.own 9 2) :: oi :: uu 20 (ob :: uu 9 []), vv 9 []⟩)) (.c (.r [0, 0, 0, 0, 0, 0, 4, 5, 0] none) .n (some ⟨ol 65 :: ou :: ou :: .one (.own 9 6) :: oi :: uu 30 [], vv 9 []⟩))) ⟨ol 65 :: ou :: ou :: .one (.own 9 7) :: oi :: uu 30 [], vv 9 []⟩) .n)) ⟨ol 65 :: ou :: ou :: .one (.own 9 1) :: oi :: uu 30 [], vv 9 []⟩) ⟨uu 3 (.one (.own 9 8) :: uu 31 []), vv 9 []⟩)) .n))))
noncomputable def fi32 : FI := mkFI Tryz.f32 2 [.ag [.s, .s, .s, .s, .b, .i .i64, .s, .sl 34, .sl 9, .sl 181], .ptr] [(false, [.ct .b])] (fun _ => (.s (.r [1, 0] none) .n))
noncomputable def fi54 : FI := mkFI Tryz.f54 1 [] [(false, [.new 9])] (fun _ => (.s .n (.s (.r [0, 0] none) .n)))
noncomputable def fi55 : FI := mkFI Tryz.f55 23 [.ct .s] [(true, [.ct (.sl 104)]), (true, [.ct (.i .i64), .ct (.i .i64)])] (fun _ => (.s (.r [0, 1] none) (.s (.r [0, 2, 0] none) (.s (.r [0, 3, 0] none) (.s (.b (.b (.s (.s (.r [] (some ⟨ou :: ou :: .one (.ptr 0 0) :: .one (.ptr 1 0) :: .one (.ptr 2 0) :: .one (.ptr 3 0) :: uu 26 (ob :: uu 30 []), .var 92 [.nil] :: .var 94 [.i .i64, .i .i64] :: .var 115 [.sl 153, .i .i64, .i .i64, .i .i64, .i .i64] :: .var 92 [.own 104 20] :: vv 19 []⟩)) .n) (.b (.s (.s (.r [] (some ⟨ou :: ou :: .one (.ptr 0 0) :: .one (.ptr 1 0) :: .one (.ptr 2 0) :: .one (.ptr 3 0) :: uu 34 (ob :: uu 22 []), .var 92 [.nil] :: .var 94 [.i .i64, .i .i64] :: .var 115 [.sl 153, .i .i64, .i .i64, .i .i64, .i .i64] :: .var 92 [.own 104 21] :: vv 19 []⟩)) .n) (.r [0, 0, 0, 4, 16, 17, 0, 0] none)) ⟨ou :: ou :: .one (.ptr 0 0) :: .one (.ptr 1 0) :: .one (.ptr 2 0) :: .one (.ptr 3 0) :: uu 57 [], .var 92 [.nil] :: .var 94 [.i .i64, .i .i64] :: .var 115 [.sl 153, .i .i64, .i .i64, .i .i64, .i .i64] :: .var 92 [.own 104 18] :: vv 19 []⟩)) ⟨ou :: ou :: .one (.ptr 0 0) :: .one (.ptr 1 0) :: .one (.ptr 2 0) :: .one (.ptr 3 0) :: uu 57 [], .var 92 [.nil] :: .var 94 [.i .i64, .i .i64] :: .var 115 [.sl 153, .i .i64, .i .i64, .i .i64, .i .i64] :: .var 92 [.own 104 19] :: vv 19 []⟩) ⟨ou :: ou :: .one (.ptr 0 0) :: .one (.ptr 1 0) :: .one (.ptr 2 0) :: .one (.ptr 3 0) :: uu 57 [], .var 92 [.nil] :: .var 94 [.i .i64, .i .i64] :: .var 115 [.sl 153, .i .i64, .i .i64, .i .i64, .i .i64] :: .var 92 [.own 104 22] :: vv 19 []⟩) .n)))))
noncomputable def fi52 : FI := mkFI Tryz.f52 8 [.ct (.sl 45), .ct (.i .i64)] [(false, [.new 45])] (fun _ => (.s .n (.s (.r [0, 0] none) (.s (.s .n (.b (.b (.s .n (.s (.b (.s .n (.c (.r [0, 0, 0, 0, 0, 2, 3, 0] none) .n (some ⟨ol 45 :: oi :: uu 3 (.one (.own 45 4) :: oi :: uu 24 []), vv 8 []⟩))) ⟨ol 45 :: oi :: uu 3 (.one (.own 45 5) :: oi :: uu 24 []), vv 8 []⟩) .n)) ⟨ol 45 :: oi :: uu 3 (.one (.own 45 1) :: oi :: uu 24 []), vv 8 []⟩) ⟨uu 5 (.one (.own 45 6) :: uu 25 []), vv 8 []⟩)) (.s (.r [0, 7, 0] none) .n)))))
noncomputable def fi53 : FI := mkFI Tryz.f53 0 [.ct (.sl 45), .ct (.i .i64), .ct .s] [(false, [.ct (.i .i64)])] (fun _ => (.s .n (.s (.s .n (.b (.b (.s .n (.s (.b (.s (.r [] (some ⟨ol 45 :: oi :: os :: uu 4 (oi :: uu 26 (ob :: ou :: [])), []⟩)) .n) ⟨ol 45 :: oi :: os :: uu 4 (oi :: uu 28 []), []⟩) .n)) ⟨ol 45 :: oi :: os :: uu 4 (oi :: uu 28 []), []⟩) ⟨uu 36 [], []⟩)) .n)))
noncomputable def fi56 : FI := mkFI Tryz.f56 1 [.ptr] [(false, [.ct (.i .i64)])] (fun _ => (.s .n (.s .n (.s .n (.s (.s .n (.c .n .n (some ⟨uu 3 (oi :: uu 54 []), .var 70 [.sl 5, .i .i64, .i .i64] :: []⟩))) .n)))))
noncomputable def fi57 : FI := mkFI Tryz.f57 1 [.ptr] [(false, [.ct .s])] (fun _ => (.s .n (.s .n (.s (.s .n (.b (.b (.s .n (.s (.b .n ⟨.one (.ptr 0 0) :: ou :: ou :: os :: oi :: uu 12 [], .var 70 [.sl 5, .i .i64, .i .i64] :: []⟩) .n)) ⟨.one (.ptr 0 0) :: ou :: ou :: os :: oi :: uu 12 [], .var 70 [.sl 5, .i .i64, .i .i64] :: []⟩) ⟨uu 3 (os :: uu 13 []), .var 70 [.sl 5, .i .i64, .i .i64] :: []⟩)) .n))))
noncomputable def fi58 : FI := mkFI Tryz.f58 3 [.ptr] [(false, [.ct .s])] (fun _ => (.s .n (.s (.r [0, 2, 0, 0] none) .n)))
noncomputable def fi59 : FI := mkFI Tryz.f59 0 [.ct .s, .ct .s] [(false, [.ct .s])] (fun _ => .n)
noncomputable def fi60 : FI := mkFI Tryz.f60 0 [.ct .s, .ct .s] [(false, [.ct .s]), (false, [.ct .b])] (fun _ => .n)
noncomputable def fi23 : FI := mkFI Tryz.f23 3 [.ag [.i .i64, .s, .sl 34, .sl 9], .ptr, .ptr] [(false, [.ct .b])] (fun _ => (.s (.r [2, 0] none) .n))
noncomputable def fi61 : FI := mkFI Tryz.f61 1 [.ag [.sl 45, .sl 45, .sl 88], .ct .s] [(false, [.ct (.i .i64)])] (fun _ => (.s (.r [0, 0] none) .n))
noncomputable def fi63 : FI := mkFI Tryz.f63 1 [.ct (.sl 61), .fn] [(false, [.ct (.i .i64)])] (fun _ => (.s .n (.s (.s .n (.b (.b (.s .n (.s .n (.s (.b .n ⟨ol 61 :: .one (.fn 46 [0]) :: uu 5 (oi :: oi :: uu 10 []), .var 34 [.i .i64, .s, .sl 34, .sl 9] :: []⟩) .n))) ⟨ol 61 :: .one (.fn 46 [0]) :: uu 5 (oi :: oi :: uu 10 []), .var 34 [.i .i64, .s, .sl 34, .sl 9] :: []⟩) ⟨uu 19 [], .var 34 [.i .i64, .s, .sl 34, .sl 9] :: []⟩)) .n)))
noncomputable def fi64 : FI := mkFI Tryz.f64 0 [.ct (.sl 9), .ct .s] [(false, [.ct .b])] (fun _ => .n)
noncomputable def fi65 : FI := mkFI Tryz.f65 1 [.ct (.sl 9), .fn] [(false, [.ct .b])] (fun _ => .n)
noncomputable def fi67 : FI := mkFI Tryz.f67 0 [.ct .s] [(false, [.ct .b])] (fun _ => (.s .n (.s (.r [] (some ⟨ou :: ou :: ob :: uu 15 [], []⟩)) .n)))
noncomputable def fib70 : FI := mkFI Tryz.f70 3 [.ct .s] [] (fun _ => (.s .n (.s (.r [0, 0, 0, 0, 0, 1, 0, 0] none) (.s (.r [0, 0, 0, 0, 0, 2, 0] none) .n))))
noncomputable def fi71 : FI := mkFI Tryz.f71 1 [.ptr] [(false, [.ct .b])] (fun _ => (.s .n (.s (.r [] (some ⟨ou :: ou :: ob :: uu 20 [], .var 115 [.sl 153, .i .i64, .i .i64, .i .i64, .i .i64] :: []⟩)) .n)))
noncomputable def fi72 : FI := mkFI Tryz.f72 1 [.ptr, .ct (.i .i64)] [] (fun _ => (.s .n (.c .n .n (some ⟨uu 17 [], .var 115 [.sl 153, .i .i64, .i .i64, .i .i64, .i .i64] :: []⟩))))
noncomputable def fi73 : FI := mkFI Tryz.f73 20 [.ptr] [(true, [.ct (.i .i64), .ct (.i .i64), .ct .s, .new 186, .new 181, .new 191, .ct .s, .ct .s, .new 181, .new 191, .ct (.i .i64), .ct .b, .ct .s, .ct .s, .new 9, .new 177, .new 65, .new 61, .new 88, .ct .b, .new 181])] (fun _ => (.s (.r [1] none) (.s .n (.s (.s .n (.c (.s (.r [0, 0, 2, 0, 0] none) .n) .n none)) (.s (.s .n (.c (.s (.r [0, 5, 0, 0] none) .n) .n none)) (.s .n (.s .n (.s (.r [0, 7, 0] none) (.s (.s (.r [] (some ⟨.one (.ptr 0 0) :: ou :: .one (.ptr 1 0) :: ou :: ou :: os :: .one (.ptr 7 0) :: uu 29 (ob :: uu 7 []), .var 115 [.sl 153, .i .i64, .i .i64, .i .i64, .i .i64] :: .var 104 [.i .i64, .i .i64, .s, .nil, .nil, .nil, .s, .s, .nil, .nil, .i .i64, .b, .s, .s, .nil, .nil, .nil, .nil, .nil, .b, .nil] :: vv 5 (.var 45 [.i .i64, .b, .s, .s, .nil, .nil, .nil, .nil, .nil, .b, .nil] :: vv 12 [])⟩)) (.c .n (.r [0, 0, 8, 0] none) (some ⟨ou :: ou :: .one (.ptr 1 0) :: uu 3 (.one (.ptr 7 0) :: uu 37 []), .var 115 [.sl 153, .i .i64, .i .i64, .i .i64, .i .i64] :: .var 104 [.i .i64, .i .i64, .s, .nil, .nil, .nil, .s, .s, .nil, .nil, .i .i64, .b, .s, .s, .nil, .nil, .nil, .nil, .nil, .b, .nil] :: vv 5 (.var 45 [.i .i64, .b, .s, .s, .own 9 14, .own 177 15, .own 65 16, .own 61 17, .own 88 18, .b, .own 181 19] :: vv 12 [])⟩))) .n)))))))))
noncomputable def fi68 : FI := mkFI Tryz.f68 0 [.ct (.i .i64)] [(false, [.ct (.i .i64)])] (fun _ => (.s .n (.s (.s .n (.b .n ⟨uu 8 [], []⟩)) .n)))
noncomputable def fi69 : FI := mkFI Tryz.f69 35 [.ct (.sl 45)] [(false, [.new 45])] (fun _ => (.s .n (.s (.s .n (.c (.s (.r [0, 0] none) (.s (.s .n (.b (.b (.s .n (.s (.b (.r [0, 0, 0, 0, 0, 2, 8, 9, 0] none) ⟨ol 45 :: ou :: ou :: .one (.own 45 10) :: oi :: uu 89 [], vv 35 []⟩) .n)) ⟨ol 45 :: ou :: ou :: .one (.own 45 1) :: oi :: uu 89 [], vv 35 []⟩) ⟨uu 3 (.one (.own 45 11) :: uu 90 []), vv 35 []⟩)) .n)) .n none)) (.s (.r [0, 0, 0, 0, 0, 12, 0] none) (.s (.r [0, 0, 0, 0, 0, 13, 0] none) (.s (.r [14, 0] none) (.s .n (.s .n (.s (.b (.b (.s (.s (.r [] (some ⟨uu 5 (.one (.own 45 18) :: .one (.own 45 19) :: .one (.own 45 20) :: oi :: oi :: uu 41 (ob :: uu 42 [])), vv 35 []⟩)) .n) (.b (.s (.r [] (some ⟨uu 5 (.one (.own 45 21) :: .one (.own 45 22) :: .one (.own 45 23) :: oi :: oi :: uu 64 (ob :: uu 19 [])), vv 35 []⟩)) (.c (.s (.r [0, 0, 0, 0, 0, 24, 25, 0] none) .n) (.s (.r [0, 0, 0, 0, 0, 26, 27, 0] none) .n) (some ⟨uu 5 (.one (.own 45 28) :: .one (.own 45 29) :: .one (.own 45 30) :: oi :: oi :: uu 84 []), vv 35 []⟩))) ⟨uu 5 (.one (.own 45 31) :: .one (.own 45 32) :: .one (.own 45 33) :: oi :: oi :: uu 84 []), vv 35 []⟩)) ⟨uu 5 (.one (.own 45 15) :: .one (.own 45 16) :: .one (.own 45 17) :: oi :: oi :: uu 84 []), vv 35 []⟩) ⟨uu 7 (.one (.own 45 34) :: uu 86 []), vv 35 []⟩) .n)))))))))
noncomputable def fi75 : FI := mkFI Tryz.f75 3 [.ptr] [(false, [.ct (.i .i64)])] (fun _ => (.s .n (.s (.r [0, 2, 0, 0] none) .n)))
noncomputable def fi74 : FI := mkFI Tryz.f74 7 [.ct (.i .i64)] [(false, [.ct .s])] (fun _ => (.s .n (.s .n (.s (.b (.s .n (.c (.s (.r [0, 0, 0, 0, 0] none) .n) (.s .n (.c (.s (.r [0, 0, 0, 0, 0, 0, 0, 0, 2, 0, 0] none) .n) (.s .n (.c (.s (.r [0, 0, 0, 0, 0, 0, 0, 0, 0, 0, 0, 0, 0, 4, 0, 0] none) .n) .n none)) none)) none)) ⟨oi :: uu 63 [], vv 7 []⟩) (.s (.r [0, 0, 0, 0, 0, 0, 0, 0, 0, 0, 0, 0, 0, 0, 0, 0, 0, 0, 6, 0, 0] none) .n)))))
noncomputable def fi76 : FI := mkFI Tryz.f76 1 [.ct (.sl 45), .ct .s] [(false, [.ct (.i .i64)])] (fun _ => (.s (.r [0, 0] none) .n))
noncomputable def fi78 : FI := mkFI Tryz.f78 0 [.ct .s] [(false, [.ct .b])] (fun _ => (.s .n (.s .n (.s (.r [] (some ⟨ou :: ou :: ob :: uu 19 [], []⟩)) .n))))
noncomputable def fi46 : FI := mkFI Tryz.f46 2 [.ag [.s, .s, .sl 181], .ptr] [(false, [.ct .b])] (fun _ => (.s (.r [1, 0] none) .n))
noncomputable def fi79 : FI := mkFI Tryz.f79 0 [.ct (.sl 9), .ct .s] [(false, [.ct (.i .i64)])] (fun _ => (.s .n (.s (.s .n (.b (.b (.s .n (.s .n (.s (.b .n ⟨ol 9 :: os :: uu 5 (oi :: oi :: uu 10 []), []⟩) .n))) ⟨ol 9 :: os :: uu 5 (oi :: oi :: uu 10 []), []⟩) ⟨uu 19 [], []⟩)) .n)))
noncomputable def fi80 : FI := mkFI Tryz.f80 1 [.ct (.sl 9), .fn] [(false, [.ct (.i .i64)])] (fun _ => (.s .n (.s (.s .n (.b (.b (.s .n (.s .n (.s (.b .n ⟨ol 9 :: .one (.fn 66 [0]) :: uu 5 (oi :: oi :: uu 10 []), .var 34 [.i .i64, .s, .sl 34, .sl 9] :: []⟩) .n))) ⟨ol 9 :: .one (.fn 66 [0]) :: uu 5 (oi :: oi :: uu 10 []), .var 34 [.i .i64, .s, .sl 34, .sl 9] :: []⟩) ⟨uu 19 [], .var 34 [.i .i64, .s, .sl 34, .sl 9] :: []⟩)) .n)))
noncomputable def fi81 : FI := mkFI Tryz.f81 0 [.ct .s] [(false, [.ct (.i .i64)])] (fun _ => (.s .n (.s .n (.s (.s (.r [] (some ⟨os :: ou :: ou :: oi :: uu 8 (ob :: uu 19 []), []⟩)) (.c .n .n (some ⟨os :: ou :: ou :: oi :: uu 28 [], []⟩))) (.s .n (.s (.s (.r [] (some ⟨uu 4 (oi :: uu 25 (ob :: ou :: [])), []⟩)) .n) .n))))))
noncomputable def fi83 : FI := mkFI Tryz.f83 19 [.ct .s] [(false, [.new 153]), (true, [.ct (.i .i64), .ct (.i .i64)])] (fun _ => (.s (.r [0, 0] none) (.s (.r [2, 0] none) (.s .n (.s (.s .n (.b (.b (.s .n (.b .n ⟨os :: ou :: ou :: .one (.ptr 0 0) :: .one (.own 153 4) :: oi :: uu 68 [], .var 94 [.i .i64, .i .i64] :: vv 18 []⟩)) ⟨os :: ou :: ou :: .one (.ptr 0 0) :: .one (.own 153 3) :: oi :: uu 68 [], .var 94 [.i .i64, .i .i64] :: vv 18 []⟩) ⟨os :: ou :: ou :: .one (.ptr 0 0) :: .one (.own 153 5) :: uu 69 [], .var 94 [.i .i64, .i .i64] :: vv 18 []⟩)) (.s (.r [6, 0] none) (.s (.s .n (.b (.b (.s .n (.s (.b (.s (.r [0, 0, 0, 0, 0, 0, 0, 9, 0, 0, 0] none) (.s (.s (.r [] (some ⟨os :: ou :: ou :: .one (.ptr 0 0) :: .one (.own 153 10) :: uu 3 (.one (.own 153 11) :: oi :: .one (.ptr 9 0) :: oi :: oi :: uu 47 (ob :: uu 13 [])), .var 94 [.i .i64, .i .i64] :: vv 8 (.var 153 [.i .i64, .s, .i .i64] :: vv 9 [])⟩)) (.c .n .n (some ⟨os :: ou :: ou :: .one (.ptr 0 0) :: .one (.own 153 12) :: uu 3 (.one (.own 153 13) :: oi :: .one (.ptr 9 0) :: oi :: oi :: uu 61 []), .var 94 [.i .i64, .i .i64] :: vv 8 (.var 153 [.i .i64, .s, .i .i64] :: vv 9 [])⟩))) (.s .n (.s (.r [0, 0, 14, 15, 0] none) .n)))) ⟨os :: ou :: ou :: .one (.ptr 0 0) :: .one (.own 153 16) :: uu 3 (.one (.own 153 17) :: oi :: uu 64 []), .var 94 [.i .i64, .i .i64] :: vv 18 []⟩) .n)) ⟨os :: ou :: ou :: .one (.ptr 0 0) :: .one (.own 153 7) :: uu 3 (.one (.own 153 8) :: oi :: uu 64 []), .var 94 [.i .i64, .i .i64] :: vv 18 []⟩) ⟨uu 3 (.one (.ptr 0 0) :: uu 4 (.one (.own 153 18) :: uu 65 [])), .var 94 [.i .i64, .i .i64] :: vv 18 []⟩)) .n)))))))
noncomputable def fi84 : FI := mkFI Tryz.f84 1 [.ptr] [(false, [.ct (.i .i64)])] (fun _ => (.s .n (.s .n (.s (.s .n (.b (.b (.s .n (.s (.b .n ⟨.one (.ptr 0 0) :: ou :: ou :: oi :: uu 11 [], .var 115 [.sl 153, .i .i64, .i .i64, .i .i64, .i .i64] :: []⟩) .n)) ⟨.one (.ptr 0 0) :: ou :: ou :: oi :: uu 11 [], .var 115 [.sl 153, .i .i64, .i .i64, .i .i64, .i .i64] :: []⟩) ⟨uu 15 [], .var 115 [.sl 153, .i .i64, .i .i64, .i .i64, .i .i64] :: []⟩)) .n))))
noncomputable def fi85 : FI := mkFI Tryz.f85 1 [.ptr, .ct .s] [(false, [.ct .b])] (fun _ => (.s .n (.s (.r [] (some ⟨uu 4 (ob :: uu 47 []), .var 115 [.sl 153, .i .i64, .i .i64, .i .i64, .i .i64] :: []⟩)) .n)))
noncomputable def fi86 : FI := mkFI Tryz.f86 1 [.ptr, .ct (.i .i64)] [(false, [.ct .b])] (fun _ => (.s .n (.s (.r [] (some ⟨uu 4 (ob :: uu 33 []), .var 115 [.sl 153, .i .i64, .i .i64, .i .i64, .i .i64] :: []⟩)) .n)))
noncomputable def fi87 : FI := mkFI Tryz.f87 1 [.ptr] [(false, [.ct (.i .i64)])] (fun _ => (.s .n (.s (.s .n (.b (.b (.s .n (.s (.b .n ⟨.one (.ptr 0 0) :: ou :: ou :: oi :: uu 9 [], .var 115 [.sl 153, .i .i64, .i .i64, .i .i64, .i .i64] :: []⟩) .n)) ⟨.one (.ptr 0 0) :: ou :: ou :: oi :: uu 9 [], .var 115 [.sl 153, .i .i64, .i .i64, .i .i64, .i .i64] :: []⟩) ⟨uu 13 [], .var 115 [.sl 153, .i .i64, .i .i64, .i .i64, .i .i64] :: []⟩)) .n)))
noncomputable def fi88 : FI := mkFI Tryz.f88 1 [.ptr] [(false, [.ct (.i .i64)])] (fun _ => .n)
noncomputable def fi89 : FI := mkFI Tryz.f89 9 [.ptr, .ct (.i .i64)] [(true, [.ct (.i .i64), .ct .s, .new 186, .new 181, .new 191])] (fun _ => (.s (.r [1] none) (.s (.r [0, 0, 2, 0] none) (.s (.s .n (.c (.s .n (.s (.s .n (.c .n .n (some ⟨.one (.ptr 0 0) :: uu 3 (.one (.ptr 1 0) :: .one (.ptr 2 0) :: uu 28 []), .var 115 [.sl 153, .i .i64, .i .i64, .i .i64, .i .i64] :: .var 100 [.i .i64, .s, .nil, .nil, .nil] :: .var 100 [.i .i64, .s, .nil, .nil, .nil] :: vv 6 []⟩))) (.s (.r [0, 3, 0, 0] none) (.r [0, 4, 0, 0] none)))) .n (some ⟨.one (.ptr 0 0) :: uu 3 (.one (.ptr 1 0) :: .one (.ptr 2 0) :: uu 28 []), .var 115 [.sl 153, .i .i64, .i .i64, .i .i64, .i .i64] :: .var 100 [.i .i64, .s, .nil, .nil, .nil] :: .var 100 [.i .i64, .s, .own 186 5, .own 181 6, .nil] :: vv 6 []⟩))) (.s (.r [7, 0] none) (.s (.r [0, 8, 0, 0] none) .n))))))
noncomputable def fi90 : FI := mkFI Tryz.f90 6 [.ptr] [(true, [.ct .s, .ct .s, .new 181, .new 191])] (fun _ => (.s (.r [1] none) (.s (.r [0, 2, 0] none) (.s .n (.s (.s .n (.c .n .n (some ⟨.one (.ptr 0 0) :: ou :: .one (.ptr 1 0) :: .one (.ptr 2 0) :: uu 38 [], .var 115 [.sl 153, .i .i64, .i .i64, .i .i64, .i .i64] :: .var 102 [.s, .s, .nil, .nil] :: .var 102 [.s, .s, .nil, .nil] :: vv 3 []⟩))) (.s .n (.s (.s .n (.c .n .n (some ⟨.one (.ptr 0 0) :: ou :: .one (.ptr 1 0) :: .one (.ptr 2 0) :: uu 38 [], .var 115 [.sl 153, .i .i64, .i .i64, .i .i64, .i .i64] :: .var 102 [.s, .s, .nil, .nil] :: .var 102 [.s, .s, .nil, .nil] :: vv 3 []⟩))) (.s .n (.s .n (.s (.r [0, 3, 0, 0] none) (.s (.r [4, 0] none) (.s (.r [0, 5, 0, 0] none) .n))))))))))))
noncomputable def fi91 : FI := mkFI Tryz.f91 1 [.ptr] [(false, [.ct .s])] (fun _ => .n)
noncomputable def fi92 : FI := mkFI Tryz.f92 64 [.ptr, .ct .s] [(true, [.ct (.i .i64), .ct .b, .ct .s, .ct .s, .new 9, .new 177, .new 65, .new 61, .new 88, .ct .b, .new 181])] (fun _ => (.s (.r [1] none) (.s (.r [0, 0, 2, 0] none) (.s (.s (.r [] (some ⟨.one (.ptr 0 0) :: uu 3 (.one (.ptr 1 0) :: .one (.ptr 2 0) :: uu 7 (ob :: uu 151 [])), .var 115 [.sl 153, .i .i64, .i .i64, .i .i64, .i .i64] :: .var 45 [.i .i64, .b, .s, .s, .nil, .nil, .nil, .nil, .nil, .b, .nil] :: .var 45 [.i .i64, .b, .s, .s, .nil, .nil, .nil, .nil, .nil, .b, .nil] :: vv 61 []⟩)) (.c .n .n (some ⟨.one (.ptr 0 0) :: uu 3 (.one (.ptr 1 0) :: .one (.ptr 2 0) :: uu 159 []), .var 115 [.sl 153, .i .i64, .i .i64, .i .i64, .i .i64] :: .var 45 [.i .i64, .b, .s, .s, .nil, .nil, .nil, .nil, .nil, .b, .nil] :: .var 45 [.i .i64, .b, .s, .s, .nil, .nil, .nil, .nil, .nil, .b, .nil] :: vv 61 []⟩))) (.s .n (.s (.s (.r [] (some ⟨.one (.ptr 0 0) :: uu 3 (.one (.ptr 1 0) :: .one (.ptr 2 0) :: uu 30 (ob :: uu 128 [])), .var 115 [.sl 153, .i .i64, .i .i64, .i .i64, .i .i64] :: .var 45 [.i .i64, .b, .s, .s, .nil, .nil, .nil, .nil, .nil, .b, .nil] :: .var 45 [.i .i64, .b, .s, .s, .nil, .nil, .nil, .nil, .nil, .b, .nil] :: vv 61 []⟩)) .n) (.s .n (.s (.s .n (.c .n .n (some ⟨.one (.ptr 0 0) :: uu 3 (.one (.ptr 1 0) :: .one (.ptr 2 0) :: uu 159 []), .var 115 [.sl 153, .i .i64, .i .i64, .i .i64, .i .i64] :: .var 45 [.i .i64, .b, .s, .s, .nil, .nil, .nil, .nil, .nil, .b, .nil] :: .var 45 [.i .i64, .b, .s, .s, .nil, .nil, .nil, .nil, .nil, .b, .nil] :: vv 61 []⟩))) (.s (.s .n (.c .n .n (some ⟨.one (.ptr 0 0) :: uu 3 (.one (.ptr 1 0) :: .one (.ptr 2 0) :: uu 159 []), .var 115 [.sl 153, .i .i64, .i .i64, .i .i64, .i .i64] :: .var 45 [.i .i64, .b, .s, .s, .nil, .nil, .nil, .nil, .nil, .b, .nil] :: .var 45 [.i .i64, .b, .s, .s, .nil, .nil, .nil, .nil, .nil, .b, .nil] :: vv 61 []⟩))) (.s (.s .n (.c (.s (.r [0, 3, 0, 0] none) (.s (.s .n (.c .n .n (some ⟨.one (.ptr 0 0) :: uu 3 (.one (.ptr 1 0) :: .one (.ptr 2 0) :: uu 159 []), .var 115 [.sl 153, .i .i64, .i .i64, .i .i64, .i .i64] :: .var 45 [.i .i64, .b, .s, .s, .nil, .nil, .nil, .nil, .nil, .b, .nil] :: .var 45 [.i .i64, .b, .s, .s, .nil, .nil, .own 65 4, .nil, .nil, .b, .nil] :: vv 61 []⟩))) (.s (.s .n (.c .n .n (some ⟨.one (.ptr 0 0) :: uu 3 (.one (.ptr 1 0) :: .one (.ptr 2 0) :: uu 159 []), .var 115 [.sl 153, .i .i64, .i .i64, .i .i64, .i .i64] :: .var 45 [.i .i64, .b, .s, .s, .nil, .nil, .nil, .nil, .nil, .b, .nil] :: .var 45 [.i .i64, .b, .s, .s, .nil, .nil, .own 65 5, .nil, .nil, .b, .nil] :: vv 61 []⟩))) (.s .n (.s (.r [0, 6, 0, 0] none) .n))))) .n none)) (.s (.s (.r [] (some ⟨.one (.ptr 0 0) :: uu 3 (.one (.ptr 1 0) :: .one (.ptr 2 0) :: uu 95 (ob :: uu 63 [])), .var 115 [.sl 153, .i .i64, .i .i64, .i .i64, .i .i64] :: .var 45 [.i .i64, .b, .s, .s, .nil, .nil, .nil, .nil, .nil, .b, .nil] :: .var 45 [.i .i64, .b, .s, .s, .nil, .nil, .nil, .nil, .nil, .b, .nil] :: vv 61 []⟩)) (.c (.s .n (.r [0, 7, 0, 0] none)) .n (some ⟨.one (.ptr 0 0) :: uu 3 (.one (.ptr 1 0) :: .one (.ptr 2 0) :: uu 159 []), .var 115 [.sl 153, .i .i64, .i .i64, .i .i64, .i .i64] :: .var 45 [.i .i64, .b, .s, .s, .nil, .nil, .nil, .nil, .nil, .b, .nil] :: .var 45 [.i .i64, .b, .s, .s, .own 9 8, .nil, .nil, .nil, .nil, .b, .nil] :: vv 61 []⟩))) (.s (.r [0, 9, 0, 0] none) (.s (.s .n (.b (.s (.s .n (.c .n .n (some ⟨.one (.ptr 0 0) :: uu 3 (.one (.ptr 1 0) :: .one (.ptr 2 0) :: uu 110 (oi :: ob :: uu 47 [])), .var 115 [.sl 153, .i .i64, .i .i64, .i .i64, .i .i64] :: .var 45 [.i .i64, .b, .s, .s, .nil, .nil, .nil, .nil, .nil, .b, .nil] :: .var 45 [.i .i64, .b, .s, .s, .own 9 10, .nil, .nil, .nil, .nil, .b, .own 181 11] :: vv 61 []⟩))) (.c (.r [0, 12, 0, 0] none) (.s .n (.c (.s .n (.c (.r [0, 13, 0, 0] none) .n (some ⟨.one (.ptr 0 0) :: uu 3 (.one (.ptr 1 0) :: .one (.ptr 2 0) :: uu 159 []), .var 115 [.sl 153, .i .i64, .i .i64, .i .i64, .i .i64] :: .var 45 [.i .i64, .b, .s, .s, .nil, .nil, .nil, .nil, .nil, .b, .nil] :: .var 45 [.i .i64, .b, .s, .s, .own 9 14, .nil, .nil, .nil, .nil, .b, .own 181 15] :: vv 61 []⟩))) (.s .n (.c (.r [0, 16, 0, 0] none) (.s .n (.c (.r [0, 17, 0, 0] none) (.s .n (.c (.s (.s (.r [] (some ⟨.one (.ptr 0 0) :: uu 3 (.one (.ptr 1 0) :: .one (.ptr 2 0) :: uu 143 (ob :: uu 15 [])), .var 115 [.sl 153, .i .i64, .i .i64, .i .i64, .i .i64] :: .var 45 [.i .i64, .b, .s, .s, .nil, .nil, .nil, .nil, .nil, .b, .nil] :: .var 45 [.i .i64, .b, .s, .s, .own 9 18, .nil, .nil, .nil, .nil, .b, .own 181 19] :: vv 61 []⟩)) (.c .n .n (some ⟨.one (.ptr 0 0) :: uu 3 (.one (.ptr 1 0) :: .one (.ptr 2 0) :: uu 159 []), .var 115 [.sl 153, .i .i64, .i .i64, .i .i64, .i .i64] :: .var 45 [.i .i64, .b, .s, .s, .nil, .nil, .nil, .nil, .nil, .b, .nil] :: .var 45 [.i .i64, .b, .s, .s, .own 9 20, .nil, .nil, .nil, .nil, .b, .own 181 21] :: vv 61 []⟩))) (.r [0, 22, 0, 0] none)) .n (some ⟨.one (.ptr 0 0) :: uu 3 (.one (.ptr 1 0) :: .one (.ptr 2 0) :: uu 159 []), .var 115 [.sl 153, .i .i64, .i .i64, .i .i64, .i .i64] :: .var 45 [.i .i64, .b, .s, .s, .nil, .nil, .nil, .nil, .nil, .b, .nil] :: .var 45 [.i .i64, .b, .s, .s, .own 9 23, .nil, .nil, .nil, .own 88 24, .b, .own 181 25] :: vv 61 []⟩))) (some ⟨.one (.ptr 0 0) :: uu 3 (.one (.ptr 1 0) :: .one (.ptr 2 0) :: uu 159 []), .var 115 [.sl 153, .i .i64, .i .i64, .i .i64, .i .i64] :: .var 45 [.i .i64, .b, .s, .s, .nil, .nil, .nil, .nil, .nil, .b, .nil] :: .var 45 [.i .i64, .b, .s, .s, .own 9 26, .nil, .own 65 27, .nil, .own 88 28, .b, .own 181 29] :: vv 61 []⟩))) (some ⟨.one (.ptr 0 0) :: uu 3 (.one (.ptr 1 0) :: .one (.ptr 2 0) :: uu 159 []), .var 115 [.sl 153, .i .i64, .i .i64, .i .i64, .i .i64] :: .var 45 [.i .i64, .b, .s, .s, .nil, .nil, .nil, .nil, .nil, .b, .nil] :: .var 45 [.i .i64, .b, .s, .s, .own 9 30, .nil, .own 65 31, .own 61 32, .own 88 33, .b, .own 181 34] :: vv 61 []⟩))) (some ⟨.one (.ptr 0 0) :: uu 3 (.one (.ptr 1 0) :: .one (.ptr 2 0) :: uu 159 []), .var 115 [.sl 153, .i .i64, .i .i64, .i .i64, .i .i64] :: .var 45 [.i .i64, .b, .s, .s, .nil, .nil, .nil, .nil, .nil, .b, .nil] :: .var 45 [.i .i64, .b, .s, .s, .own 9 35, .nil, .own 65 36, .own 61 37, .own 88 38, .b, .own 181 39] :: vv 61 []⟩))) (some ⟨.one (.ptr 0 0) :: uu 3 (.one (.ptr 1 0) :: .one (.ptr 2 0) :: uu 159 []), .var 115 [.sl 153, .i .i64, .i .i64, .i .i64, .i .i64] :: .var 45 [.i .i64, .b, .s, .s, .nil, .nil, .nil, .nil, .nil, .b, .nil] :: .var 45 [.i .i64, .b, .s, .s, .own 9 40, .own 177 41, .own 65 42, .own 61 43, .own 88 44, .b, .own 181 45] :: vv 61 []⟩))) ⟨.one (.ptr 0 0) :: uu 3 (.one (.ptr 1 0) :: .one (.ptr 2 0) :: uu 159 []), .var 115 [.sl 153, .i .i64, .i .i64, .i .i64, .i .i64] :: .var 45 [.i .i64, .b, .s, .s, .nil, .nil, .nil, .nil, .nil, .b, .nil] :: .var 45 [.i .i64, .b, .s, .s, .own 9 46, .own 177 47, .own 65 48, .own 61 49, .own 88 50, .b, .own 181 51] :: vv 61 []⟩)) (.s (.s (.r [] (some ⟨.one (.ptr 0 0) :: uu 3 (.one (.ptr 1 0) :: .one (.ptr 2 0) :: uu 155 (ob :: uu 3 [])), .var 115 [.sl 153, .i .i64, .i .i64, .i .i64, .i .i64] :: .var 45 [.i .i64, .b, .s, .s, .nil, .nil, .nil, .nil, .nil, .b, .nil] :: .var 45 [.i .i64, .b, .s, .s, .own 9 52, .own 177 53, .own 65 54, .own 61 55, .own 88 56, .b, .own 181 57] :: vv 61 []⟩)) (.c .n .n (some ⟨uu 4 (.one (.ptr 1 0) :: .one (.ptr 2 0) :: uu 159 []), .var 115 [.sl 153, .i .i64, .i .i64, .i .i64, .i .i64] :: .var 45 [.i .i64, .b, .s, .s, .nil, .nil, .nil, .nil, .nil, .b, .nil] :: .var 45 [.i .i64, .b, .s, .s, .own 9 58, .own 177 59, .own 65 60, .own 61 61, .own 88 62, .b, .own 181 63] :: vv 61 []⟩))) .n))))))))))))))
noncomputable def fi82 : FI := mkFI Tryz.f82 11 [.ag [.i .i64, .b, .s, .s, .sl 9, .sl 177, .sl 65, .sl 61, .sl 88, .b, .sl 181]] [(true, [.ct (.i .i64), .ct .b, .ct .s, .ct .s, .new 9, .new 1177, .new 1065, .new 1061, .new 88, .ct .b, .new 1181])] (fun _ => (.s (.r [0, 1] none) (.s (.r [2, 0, 0, 3, 0, 0] none) (.s (.r [0, 0, 4, 0, 0] none) (.s (.r [0, 0, 5, 0, 0] none) (.s (.r [0, 0, 6, 0, 0] none) (.s (.r [8, 0, 0, 9, 0, 0] none) (.s (.r [0, 0, 10, 0, 0] none) .n))))))))
noncomputable def fi94 : FI := mkFI Tryz.f94 1 [.ptr, .ct (.sl 3)] [(false, [.ct (.i .i64)])] (fun _ => .n)
noncomputable def fi93 : FI := mkFI Tryz.f93 0 [.ct (.i .i64)] [(false, [.ct .b])] (fun _ => (.s .n (.s (.r [] (some ⟨ou :: ou :: ob :: uu 7 [], []⟩)) .n)))
noncomputable def fi95 : FI := mkFI Tryz.f95 1 [.ct (.sl 45), .fn] [(false, [.ct (.i .i64)])] (fun _ => (.s .n (.s (.s .n (.b (.b (.s .n (.s .n (.s (.b .n ⟨ol 45 :: .one (.fn 96 [0]) :: uu 5 (oi :: oi :: uu 10 []), .var 9 [.s] :: []⟩) .n))) ⟨ol 45 :: .one (.fn 96 [0]) :: uu 5 (oi :: oi :: uu 10 []), .var 9 [.s] :: []⟩) ⟨uu 19 [], .var 9 [.s] :: []⟩)) .n)))
noncomputable def fi99 : FI := mkFI Tryz.f99 0 [.ct .s, .ct .s] [(false, [.ct .s])] (fun _ => .n)
noncomputable def fi100 : FI := mkFI Tryz.f100 0 [.ct .s] [(false, [.ct .b])] (fun _ => (.s .n (.s (.s .n (.b (.b (.s .n (.s .n (.s (.b .n ⟨os :: uu 4 (oi :: oi :: uu 10 []), []⟩) .n))) ⟨os :: uu 4 (oi :: oi :: uu 10 []), []⟩) ⟨os :: uu 16 [], []⟩)) .n)))
noncomputable def fi66 : FI := mkFI Tryz.f66 1 [.ct .s, .ptr] [(false, [.ct .b])] (fun _ => .n)
noncomputable def fi101 : FI := mkFI Tryz.f101 0 [.ct .s, .ct (.i .i64)] [(false, [.ct (.i .i64)])] (fun _ => (.s .n (.s (.b (.b (.s (.s (.r [] (some ⟨os :: oi :: uu 12 (ob :: uu 3 []), []⟩)) .n) (.b .n ⟨os :: oi :: uu 16 [], []⟩)) ⟨os :: oi :: uu 16 [], []⟩) ⟨ou :: oi :: uu 16 [], []⟩) .n)))
noncomputable def fi106 : FI := mkFI Tryz.f106 0 [.ct .s, .ct (.i .i64)] [(false, [.ct (.i .i64)]), (false, [.ct (.i .i64)])] (fun _ => (.s .n (.s (.s (.r [] (some ⟨os :: oi :: uu 16 (ob :: uu 70 []), []⟩)) .n) (.s .n (.s .n (.s .n (.s (.b (.s .n (.c .n (.s (.r [] (some ⟨os :: oi :: uu 4 (oi :: uu 20 (ob :: uu 61 [])), []⟩)) (.c .n (.s (.r [] (some ⟨os :: oi :: uu 4 (oi :: uu 29 (ob :: uu 52 [])), []⟩)) (.c .n (.s (.r [] (some ⟨os :: oi :: uu 4 (oi :: uu 38 (ob :: uu 43 [])), []⟩)) .n) (some ⟨os :: oi :: uu 5 (oi :: oi :: uu 80 []), []⟩))) (some ⟨os :: oi :: uu 5 (oi :: oi :: uu 80 []), []⟩))) none)) ⟨os :: oi :: uu 5 (oi :: oi :: uu 80 []), []⟩) (.s .n (.s (.s .n (.b (.b (.s .n (.s (.b (.s .n (.s (.s (.r [] (some ⟨os :: oi :: uu 5 (oi :: oi :: oi :: oi :: uu 65 (ob :: uu 12 [])), []⟩)) .n) .n)) ⟨os :: oi :: uu 5 (oi :: oi :: oi :: uu 79 []), []⟩) .n)) ⟨os :: oi :: uu 5 (oi :: oi :: oi :: uu 79 []), []⟩) ⟨uu 7 (oi :: oi :: uu 80 []), []⟩)) .n)))))))))
noncomputable def fi107 : FI := mkFI Tryz.f107 0 [.ct .s, .ct (.i .i64)] [(false, [.ct (.i .i64)])] (fun _ => (.s .n (.s (.b (.b (.s .n (.b (.b (.s (.r [] (some ⟨os :: oi :: uu 8 (ob :: uu 67 []), []⟩)) (.c .n (.s (.r [] (some ⟨os :: oi :: uu 39 (ob :: uu 36 []), []⟩)) (.c .n (.s .n (.c (.b (.b (.s (.s (.r [] (some ⟨os :: oi :: uu 72 (ob :: uu 3 []), []⟩)) .n) (.b .n ⟨os :: oi :: uu 76 [], []⟩)) ⟨os :: oi :: uu 76 [], []⟩) ⟨os :: oi :: uu 76 [], []⟩) .n none)) (some ⟨os :: oi :: uu 76 [], []⟩))) (some ⟨os :: oi :: uu 76 [], []⟩))) ⟨os :: oi :: uu 76 [], []⟩) ⟨os :: oi :: uu 76 [], []⟩)) ⟨os :: oi :: uu 76 [], []⟩) ⟨ou :: oi :: uu 76 [], []⟩) .n)))
noncomputable def fi108 : FI := mkFI Tryz.f108 2 [.ct .s, .ct (.i .i64)] [(true, [.ct (.i .i64), .ct .s, .ct (.i .i64)]), (false, [.ct (.i .i64)]), (false, [.ct (.i .i64)])] (fun _ => (.s (.r [0, 0, 0] none) (.s (.r [0, 0, 1, 0] none) (.s (.b (.s .n (.c .n (.s (.r [] (some ⟨os :: oi :: ou :: ou :: .one (.ptr 0 0) :: ou :: ou :: .one (.ptr 1 0) :: uu 29 (ob :: uu 107 []), .var 153 [.i .i64, .s, .i .i64] :: .var 153 [.i .i64, .s, .i .i64] :: []⟩)) (.c .n (.s .n (.c (.s .n (.s .n (.s .n (.s (.s .n (.c (.s .n (.s .n (.c .n .n (some ⟨ou :: oi :: ou :: ou :: .one (.ptr 0 0) :: ou :: ou :: .one (.ptr 1 0) :: ou :: ou :: ob :: oi :: uu 133 [], .var 153 [.i .i64, .s, .i .i64] :: .var 153 [.i .i64, .s, .i .i64] :: []⟩)))) (.s .n (.s .n (.c .n .n (some ⟨ou :: oi :: ou :: ou :: .one (.ptr 0 0) :: ou :: ou :: .one (.ptr 1 0) :: ou :: ou :: ob :: oi :: uu 133 [], .var 153 [.i .i64, .s, .i .i64] :: .var 153 [.i .i64, .s, .i .i64] :: []⟩)))) (some ⟨ou :: oi :: ou :: ou :: .one (.ptr 0 0) :: ou :: ou :: .one (.ptr 1 0) :: ou :: ou :: ob :: oi :: uu 133 [], .var 153 [.i .i64, .s, .i .i64] :: .var 153 [.i .i64, .s, .i .i64] :: []⟩))) .n)))) .n none)) none)) none)) ⟨os :: oi :: ou :: ou :: .one (.ptr 0 0) :: ou :: ou :: .one (.ptr 1 0) :: uu 137 [], .var 153 [.i .i64, .s, .i .i64] :: .var 153 [.i .i64, .s, .i .i64] :: []⟩) (.s .n (.s (.s (.r [] (some ⟨os :: oi :: ou :: ou :: .one (.ptr 0 0) :: ou :: ou :: .one (.ptr 1 0) :: uu 4 (oi :: uu 115 (ob :: uu 16 [])), .var 153 [.i .i64, .s, .i .i64] :: .var 153 [.i .i64, .s, .i .i64] :: []⟩)) (.c .n .n (some ⟨os :: oi :: ou :: ou :: .one (.ptr 0 0) :: ou :: ou :: .one (.ptr 1 0) :: uu 4 (oi :: uu 132 []), .var 153 [.i .i64, .s, .i .i64] :: .var 153 [.i .i64, .s, .i .i64] :: []⟩))) .n))))))
noncomputable def fi109 : FI := mkFI Tryz.f109 1 [.ptr, .ct .s] [(false, [.ct .b])] (fun _ => (.s .n (.s (.r [] (some ⟨uu 4 (ob :: uu 47 []), .var 115 [.sl 153, .i .i64, .i .i64, .i .i64, .i .i64] :: []⟩)) .n)))
noncomputable def fi110 : FI := mkFI Tryz.f110 0 [.ct (.i .i64)] [(false, [.ct .s])] (fun _ => (.s .n (.s (.s .n (.b .n ⟨uu 10 [], []⟩)) .n)))
noncomputable def fi111 : FI := mkFI Tryz.f111 1 [.ct (.i .i64)] [(false, [.ct .s])] (fun _ => (.s .n (.s (.r [0, 0, 0, 0, 0] none) .n)))
noncomputable def fi112 : FI := mkFI Tryz.f112 1 [.ptr] [(false, [.ct .s])] (fun _ => .n)
noncomputable def fi113 : FI := mkFI Tryz.f113 16 [.ptr] [(false, [.new 186])] (fun _ => (.s .n (.s (.r [2, 0] none) (.s .n (.s (.b (.b (.s .n (.b (.s (.r [0, 4, 0] none) (.s .n (.s .n (.s .n (.s .n (.s (.s .n (.c (.s .n (.r [0, 5, 0, 0] none)) .n (some ⟨.one (.ptr 0 0) :: ou :: ou :: .one (.own 186 7) :: .one (.ptr 4 0) :: uu 38 [], .var 115 [.sl 153, .i .i64, .i .i64, .i .i64, .i .i64] :: vv 3 (.var 186 [.s, .s, .s, .b, .i .i64, .s, .own 34 8, .own 9 9, .nil] :: vv 11 [])⟩))) (.s (.r [0, 10, 0, 0] none) (.s (.r [0, 0, 12, 13, 0] none) .n)))))))) ⟨.one (.ptr 0 0) :: ou :: ou :: .one (.own 186 14) :: uu 39 [], .var 115 [.sl 153, .i .i64, .i .i64, .i .i64, .i .i64] :: vv 15 []⟩)) ⟨.one (.ptr 0 0) :: ou :: ou :: .one (.own 186 3) :: uu 39 [], .var 115 [.sl 153, .i .i64, .i .i64, .i .i64, .i .i64] :: vv 15 []⟩) ⟨uu 3 (.one (.own 186 15) :: uu 39 []), .var 115 [.sl 153, .i .i64, .i .i64, .i .i64, .i .i64] :: vv 15 []⟩) .n)))))
noncomputable def fi114 : FI := mkFI Tryz.f114 10 [.ptr, .ct .b] [(false, [.new 181])] (fun _ => (.s .n (.s (.r [2, 0] none) (.s (.b (.b (.s .n (.b (.s (.r [0, 0, 0, 4, 0] none) (.s (.r [0, 0, 5, 0, 0] none) (.r [0, 0, 6, 7, 0] none))) ⟨.one (.ptr 0 0) :: ob :: uu 3 (.one (.own 181 8) :: uu 16 []), .var 115 [.sl 153, .i .i64, .i .i64, .i .i64, .i .i64] :: vv 9 []⟩)) ⟨.one (.ptr 0 0) :: ob :: uu 3 (.one (.own 181 3) :: uu 16 []), .var 115 [.sl 153, .i .i64, .i .i64, .i .i64, .i .i64] :: vv 9 []⟩) ⟨uu 5 (.one (.own 181 9) :: uu 16 []), .var 115 [.sl 153, .i .i64, .i .i64, .i .i64, .i .i64] :: vv 9 []⟩) .n))))
noncomputable def fi115 : FI := mkFI Tryz.f115 28 [.ptr, .ct (.i .i64), .ptr] [(false, [.new 191])] (fun _ => (.s .n (.s (.r [2, 0] none) (.s (.s (.r [] (some ⟨.one (.ptr 0 0) :: oi :: .one (.ptr 1 0) :: uu 4 (.one (.own 191 3) :: uu 7 (ob :: uu 95 [])), .var 115 [.sl 153, .i .i64, .i .i64, .i .i64, .i .i64] :: .var 3 [.i .i64] :: vv 26 []⟩)) (.c .n .n (some ⟨.one (.ptr 0 0) :: oi :: .one (.ptr 1 0) :: uu 4 (.one (.own 191 4) :: uu 103 []), .var 115 [.sl 153, .i .i64, .i .i64, .i .i64, .i .i64] :: .var 3 [.i .i64] :: vv 26 []⟩))) (.s .n (.s (.b (.b (.s .n (.b (.s (.s (.r [] (some ⟨.one (.ptr 0 0) :: oi :: .one (.ptr 1 0) :: uu 4 (.one (.own 191 6) :: uu 29 (ob :: uu 73 [])), .var 115 [.sl 153, .i .i64, .i .i64, .i .i64, .i .i64] :: .var 3 [.i .i64] :: vv 26 []⟩)) .n) (.s .n (.s (.r [0, 7, 0] none) (.s (.s .n (.c (.s .n (.s .n (.c .n (.s .n (.c .n .n (some ⟨.one (.ptr 0 0) :: oi :: .one (.ptr 1 0) :: uu 4 (.one (.own 191 8) :: .one (.ptr 7 0) :: uu 102 []), .var 115 [.sl 153, .i .i64, .i .i64, .i .i64, .i .i64] :: .var 3 [.i .i64] :: vv 5 (.var 191 [.i .i64, .s, .s, .s, .nil, .nil, .nil] :: vv 20 [])⟩))) (some ⟨.one (.ptr 0 0) :: oi :: .one (.ptr 1 0) :: uu 4 (.one (.own 191 9) :: .one (.ptr 7 0) :: uu 102 []), .var 115 [.sl 153, .i .i64, .i .i64, .i .i64, .i .i64] :: .var 3 [.i .i64] :: vv 5 (.var 191 [.i .i64, .s, .s, .s, .nil, .nil, .nil] :: vv 20 [])⟩)))) (.s .n (.s (.s .n (.c .n .n (some ⟨.one (.ptr 0 0) :: oi :: .one (.ptr 1 0) :: uu 4 (.one (.own 191 10) :: .one (.ptr 7 0) :: uu 102 []), .var 115 [.sl 153, .i .i64, .i .i64, .i .i64, .i .i64] :: .var 3 [.i .i64] :: vv 5 (.var 191 [.i .i64, .s, .s, .s, .nil, .nil, .nil] :: vv 20 [])⟩))) (.r [0, 11, 0, 0] none))) (some ⟨.one (.ptr 0 0) :: oi :: .one (.ptr 1 0) :: uu 4 (.one (.own 191 12) :: .one (.ptr 7 0) :: uu 102 []), .var 115 [.sl 153, .i .i64, .i .i64, .i .i64, .i .i64] :: .var 3 [.i .i64] :: vv 5 (.var 191 [.i .i64, .s, .s, .s, .own 199 13, .nil, .nil] :: vv 20 [])⟩))) (.s (.r [0, 14, 0, 0] none) (.s (.s (.r [] (some ⟨.one (.ptr 0 0) :: oi :: .one (.ptr 1 0) :: uu 4 (.one (.own 191 15) :: .one (.ptr 7 0) :: uu 88 (ob :: uu 13 [])), .var 115 [.sl 153, .i .i64, .i .i64, .i .i64, .i .i64] :: .var 3 [.i .i64] :: vv 5 (.var 191 [.i .i64, .s, .s, .s, .own 199 16, .own 181 17, .nil] :: vv 20 [])⟩)) (.c (.r [0, 0, 0, 0, 18, 0, 0] none) .n (some ⟨.one (.ptr 0 0) :: oi :: .one (.ptr 1 0) :: uu 4 (.one (.own 191 19) :: .one (.ptr 7 0) :: uu 102 []), .var 115 [.sl 153, .i .i64, .i .i64, .i .i64, .i .i64] :: .var 3 [.i .i64] :: vv 5 (.var 191 [.i .i64, .s, .s, .s, .own 199 20, .own 181 21, .own 191 22] :: vv 20 [])⟩))) (.s (.r [0, 0, 24, 25, 0] none) .n))))))) ⟨.one (.ptr 0 0) :: oi :: .one (.ptr 1 0) :: uu 4 (.one (.own 191 26) :: uu 103 []), .var 115 [.sl 153, .i .i64, .i .i64, .i .i64, .i .i64] :: .var 3 [.i .i64] :: vv 26 []⟩)) ⟨.one (.ptr 0 0) :: oi :: .one (.ptr 1 0) :: uu 4 (.one (.own 191 5) :: uu 103 []), .var 115 [.sl 153, .i .i64, .i .i64, .i .i64, .i .i64] :: .var 3 [.i .i64] :: vv 26 []⟩) ⟨uu 7 (.one (.own 191 27) :: uu 103 []), .var 115 [.sl 153, .i .i64, .i .i64, .i .i64, .i .i64] :: .var 3 [.i .i64] :: vv 26 []⟩) .n))))))
noncomputable def fi116 : FI := mkFI Tryz.f116 1 [.ptr, .ct .s] [] (fun _ => .n)
noncomputable def fi117 : FI := mkFI Tryz.f117 12 [.ptr, .ct .s, .ct .s] [(false, [.new 65])] (fun _ => (.s .n (.s (.r [2, 0] none) (.s .n (.s (.b (.b (.s .n (.b (.s (.r [0, 0, 4, 8, 9, 0] none) .n) ⟨.one (.ptr 0 0) :: ou :: os :: uu 4 (.one (.own 65 10) :: uu 21 []), .var 115 [.sl 153, .i .i64, .i .i64, .i .i64, .i .i64] :: vv 11 []⟩)) ⟨.one (.ptr 0 0) :: ou :: os :: uu 4 (.one (.own 65 3) :: uu 21 []), .var 115 [.sl 153, .i .i64, .i .i64, .i .i64, .i .i64] :: vv 11 []⟩) ⟨uu 7 (.one (.own 65 11) :: uu 21 []), .var 115 [.sl 153, .i .i64, .i .i64, .i .i64, .i .i64] :: vv 11 []⟩) .n)))))
noncomputable def fi118 : FI := mkFI Tryz.f118 10 [.ptr] [(false, [.new 9])] (fun _ => (.s .n (.s (.r [2, 0] none) (.s .n (.s (.b (.b (.s .n (.b (.s (.s (.r [] (some ⟨.one (.ptr 0 0) :: ou :: ou :: .one (.own 9 4) :: uu 26 (ob :: uu 11 []), .var 115 [.sl 153, .i .i64, .i .i64, .i .i64, .i .i64] :: vv 9 []⟩)) (.c .n .n (some ⟨.one (.ptr 0 0) :: ou :: ou :: .one (.own 9 5) :: uu 38 [], .var 115 [.sl 153, .i .i64, .i .i64, .i .i64, .i .i64] :: vv 9 []⟩))) (.s (.r [0, 0, 0, 6, 7, 0] none) .n)) ⟨.one (.ptr 0 0) :: ou :: ou :: .one (.own 9 8) :: uu 38 [], .var 115 [.sl 153, .i .i64, .i .i64, .i .i64, .i .i64] :: vv 9 []⟩)) ⟨.one (.ptr 0 0) :: ou :: ou :: .one (.own 9 3) :: uu 38 [], .var 115 [.sl 153, .i .i64, .i .i64, .i .i64, .i .i64] :: vv 9 []⟩) ⟨uu 3 (.one (.own 9 9) :: uu 38 []), .var 115 [.sl 153, .i .i64, .i .i64, .i .i64, .i .i64] :: vv 9 []⟩) .n)))))
noncomputable def fi119 : FI := mkFI Tryz.f119 8 [.ptr, .ct .s] [(false, [.new 9])] (fun _ => (.s .n (.s (.r [2, 0] none) (.s .n (.s (.b (.b (.s .n (.b (.s (.r [0, 0, 0, 4, 5, 0] none) .n) ⟨.one (.ptr 0 0) :: os :: uu 3 (.one (.own 9 6) :: uu 20 []), .var 115 [.sl 153, .i .i64, .i .i64, .i .i64, .i .i64] :: vv 7 []⟩)) ⟨.one (.ptr 0 0) :: os :: uu 3 (.one (.own 9 3) :: uu 20 []), .var 115 [.sl 153, .i .i64, .i .i64, .i .i64, .i .i64] :: vv 7 []⟩) ⟨uu 5 (.one (.own 9 7) :: uu 20 []), .var 115 [.sl 153, .i .i64, .i .i64, .i .i64, .i .i64] :: vv 7 []⟩) .n)))))
noncomputable def fi120 : FI := mkFI Tryz.f120 12 [.ptr] [(false, [.new 177])] (fun _ => (.s .n (.s (.r [2, 0] none) (.s .n (.s (.b (.b (.s .n (.b (.s (.r [0, 0, 0, 4, 0] none) (.s .n (.s (.r [0, 5, 0, 0] none) (.s .n (.s .n (.s (.r [0, 6, 0, 0] none) (.s (.r [0, 0, 8, 9, 0] none) .n))))))) ⟨.one (.ptr 0 0) :: ou :: ou :: .one (.own 177 10) :: uu 36 [], .var 115 [.sl 153, .i .i64, .i .i64, .i .i64, .i .i64] :: vv 11 []⟩)) ⟨.one (.ptr 0 0) :: ou :: ou :: .one (.own 177 3) :: uu 36 [], .var 115 [.sl 153, .i .i64, .i .i64, .i .i64, .i .i64] :: vv 11 []⟩) ⟨uu 3 (.one (.own 177 11) :: uu 36 []), .var 115 [.sl 153, .i .i64, .i .i64, .i .i64, .i .i64] :: vv 11 []⟩) .n)))))
noncomputable def fi121 : FI := mkFI Tryz.f121 1 [.ptr, .ct .s] [(false, [.ct .b])] (fun _ => .n)
noncomputable def fi122 : FI := mkFI Tryz.f122 12 [.ptr] [(false, [.new 61])] (fun _ => (.s .n (.s (.r [2, 0] none) (.s .n (.s (.b (.b (.s .n (.b (.s (.r [0, 0, 0, 4, 0] none) (.s (.s (.r [] (some ⟨.one (.ptr 0 0) :: ou :: ou :: .one (.own 61 5) :: .one (.ptr 4 0) :: uu 29 (ob :: uu 15 []), .var 115 [.sl 153, .i .i64, .i .i64, .i .i64, .i .i64] :: vv 3 (.var 61 [.s, .s, .nil] :: vv 7 [])⟩)) (.c .n .n (some ⟨.one (.ptr 0 0) :: ou :: ou :: .one (.own 61 6) :: .one (.ptr 4 0) :: uu 45 [], .var 115 [.sl 153, .i .i64, .i .i64, .i .i64, .i .i64] :: vv 3 (.var 61 [.s, .s, .nil] :: vv 7 [])⟩))) (.s .n (.s (.r [0, 7, 0, 0] none) (.s (.r [0, 0, 8, 9, 0] none) .n))))) ⟨.one (.ptr 0 0) :: ou :: ou :: .one (.own 61 10) :: uu 46 [], .var 115 [.sl 153, .i .i64, .i .i64, .i .i64, .i .i64] :: vv 11 []⟩)) ⟨.one (.ptr 0 0) :: ou :: ou :: .one (.own 61 3) :: uu 46 [], .var 115 [.sl 153, .i .i64, .i .i64, .i .i64, .i .i64] :: vv 11 []⟩) ⟨uu 3 (.one (.own 61 11) :: uu 46 []), .var 115 [.sl 153, .i .i64, .i .i64, .i .i64, .i .i64] :: vv 11 []⟩) .n)))))
noncomputable def fi123 : FI := mkFI Tryz.f123 14 [.ptr] [(false, [.new 88])] (fun _ => (.s .n (.s (.r [2, 0] none) (.s .n (.s (.b (.b (.s .n (.b (.s (.r [0, 4, 0] none) (.s (.s .n (.b (.b (.s .n (.s (.b (.s .n (.c .n .n (some ⟨.one (.ptr 0 0) :: ou :: ou :: .one (.own 88 6) :: .one (.ptr 4 0) :: oi :: uu 41 [], .var 115 [.sl 153, .i .i64, .i .i64, .i .i64, .i .i64] :: vv 3 (.var 88 [.i .i64, .s] :: vv 9 [])⟩))) ⟨.one (.ptr 0 0) :: ou :: ou :: .one (.own 88 7) :: .one (.ptr 4 0) :: oi :: uu 41 [], .var 115 [.sl 153, .i .i64, .i .i64, .i .i64, .i .i64] :: vv 3 (.var 88 [.i .i64, .s] :: vv 9 [])⟩) .n)) ⟨.one (.ptr 0 0) :: ou :: ou :: .one (.own 88 5) :: .one (.ptr 4 0) :: oi :: uu 41 [], .var 115 [.sl 153, .i .i64, .i .i64, .i .i64, .i .i64] :: vv 3 (.var 88 [.i .i64, .s] :: vv 9 [])⟩) ⟨.one (.ptr 0 0) :: ou :: ou :: .one (.own 88 8) :: .one (.ptr 4 0) :: uu 42 [], .var 115 [.sl 153, .i .i64, .i .i64, .i .i64, .i .i64] :: vv 3 (.var 88 [.i .i64, .s] :: vv 9 [])⟩)) (.s (.s .n (.c .n .n (some ⟨.one (.ptr 0 0) :: ou :: ou :: .one (.own 88 9) :: .one (.ptr 4 0) :: uu 42 [], .var 115 [.sl 153, .i .i64, .i .i64, .i .i64, .i .i64] :: vv 3 (.var 88 [.i .i64, .s] :: vv 9 [])⟩))) (.s .n (.s .n (.s .n (.s (.r [0, 0, 10, 11, 0] none) .n))))))) ⟨.one (.ptr 0 0) :: ou :: ou :: .one (.own 88 12) :: uu 43 [], .var 115 [.sl 153, .i .i64, .i .i64, .i .i64, .i .i64] :: vv 13 []⟩)) ⟨.one (.ptr 0 0) :: ou :: ou :: .one (.own 88 3) :: uu 43 [], .var 115 [.sl 153, .i .i64, .i .i64, .i .i64, .i .i64] :: vv 13 []⟩) ⟨uu 3 (.one (.own 88 13) :: uu 43 []), .var 115 [.sl 153, .i .i64, .i .i64, .i .i64, .i .i64] :: vv 13 []⟩) .n)))))
noncomputable def fi124 : FI := mkFI Tryz.f124 1 [.ag [.i .i64, .b, .s, .s, .sl 9, .sl 177, .sl 65, .sl 61, .sl 88, .b, .sl 181]] [(false, [.ct .b])] (fun _ => (.s (.r [0, 0] none) .n))
noncomputable def fi102 : FI := mkFI Tryz.f102 11 [.ct (.sl 177)] [(false, [.new 1177])] (fun _ => (.s .n (.s (.r [1, 0] none) (.s (.s .n (.b (.b (.s .n (.s (.b (.s (.r [0, 0, 0, 0, 3, 0] none) (.s (.r [0, 0, 4, 0, 0] none) (.s (.r [0, 0, 5, 0, 0] none) (.r [0, 0, 7, 8, 0] none)))) ⟨ol 177 :: ou :: ou :: .one (.own 1177 9) :: oi :: uu 25 [], vv 11 []⟩) .n)) ⟨ol 177 :: ou :: ou :: .one (.own 1177 2) :: oi :: uu 25 [], vv 11 []⟩) ⟨uu 3 (.one (.own 1177 10) :: uu 26 []), vv 11 []⟩)) .n))))
noncomputable def fi103 : FI := mkFI Tryz.f103 11 [.ct (.sl 65)] [(false, [.new 1065])] (fun _ => (.s .n (.s (.r [1, 0] none) (.s (.s .n (.b (.b (.s .n (.s (.b (.s (.r [0, 0, 0, 0, 3, 0] none) (.s (.r [0, 0, 4, 0, 0] none) (.s (.r [0, 0, 6, 0, 0] none) (.r [0, 0, 7, 8, 0] none)))) ⟨ol 65 :: ou :: ou :: .one (.own 1065 9) :: oi :: uu 25 [], vv 11 []⟩) .n)) ⟨ol 65 :: ou :: ou :: .one (.own 1065 2) :: oi :: uu 25 [], vv 11 []⟩) ⟨uu 3 (.one (.own 1065 10) :: uu 26 []), vv 11 []⟩)) .n))))
noncomputable def fi104 : FI := mkFI Tryz.f104 9 [.ct (.sl 61)] [(false, [.new 1061])] (fun _ => (.s .n (.s (.r [1, 0] none) (.s (.s .n (.b (.b (.s .n (.s (.b (.s (.r [0, 0, 0, 0, 3, 0] none) (.s (.r [0, 0, 4, 0, 0] none) (.r [0, 0, 5, 6, 0] none))) ⟨ol 61 :: ou :: ou :: .one (.own 1061 7) :: oi :: uu 21 [], vv 9 []⟩) .n)) ⟨ol 61 :: ou :: ou :: .one (.own 1061 2) :: oi :: uu 21 [], vv 9 []⟩) ⟨uu 3 (.one (.own 1061 8) :: uu 22 []), vv 9 []⟩)) .n))))
noncomputable def fi105 : FI := mkFI Tryz.f105 9 [.ct (.sl 181)] [(false, [.new 1181])] (fun _ => (.s .n (.s (.r [1, 0] none) (.s (.s .n (.b (.b (.s .n (.s (.b (.r [0, 0, 0, 0, 0, 0, 0, 0, 0, 0, 0, 3, 0, 5, 6, 0] none) ⟨ol 181 :: ou :: ou :: .one (.own 1181 7) :: oi :: uu 23 [], vv 9 []⟩) .n)) ⟨ol 181 :: ou :: ou :: .one (.own 1181 2) :: oi :: uu 23 [], vv 9 []⟩) ⟨uu 3 (.one (.own 1181 8) :: uu 24 []), vv 9 []⟩)) .n))))
noncomputable def fi125 : FI := mkFI Tryz.f125 0 [.ct (.i .i64), .ct (.i .i64), .ct (.i .i64)] [(false, [.ct .b])] (fun _ => (.s .n (.s (.r [] (some ⟨uu 6 (ob :: uu 8 []), []⟩)) .n)))
noncomputable def fi96 : FI := mkFI Tryz.f96 2 [.ag [.i .i64, .b, .s, .s, .sl 9, .sl 177, .sl 65, .sl 61, .sl 88, .b, .sl 181], .ptr] [(false, [.ct .b])] (fun _ => (.s (.r [1, 0] none) .n))
noncomputable def fi131 : FI := mkFI Tryz.f131 0 [.ct .s, .ct .s] [(false, [.ct .s])] (fun _ => .n)
noncomputable def fi132 : FI := mkFI Tryz.f132 0 [.ct (.i .u8)] [(false, [.ct .b])] (fun _ => (.s .n (.s (.r [] (some ⟨ou :: ou :: ob :: uu 6 [], []⟩)) .n)))
noncomputable def fi133 : FI := mkFI Tryz.f133 0 [.ct (.i .u8)] [(false, [.ct .b])] (fun _ => (.s .n (.s (.r [] (some ⟨ou :: ou :: ob :: uu 6 [], []⟩)) .n)))
noncomputable def fi136 : FI := mkFI Tryz.f136 0 [.ct (.i .u8)] [(false, [.ct .b])] (fun _ => (.s .n (.s (.r [] (some ⟨ou :: ou :: ob :: uu 18 [], []⟩)) .n)))
noncomputable def fi137 : FI := mkFI Tryz.f137 0 [.ct .s, .ct (.i .i64)] [(false, [.ct (.i .i64)])] (fun _ => (.s .n (.s (.b (.b (.s (.s (.r [] (some ⟨os :: oi :: uu 18 (ob :: uu 3 []), []⟩)) .n) (.b .n ⟨os :: oi :: uu 22 [], []⟩)) ⟨os :: oi :: uu 22 [], []⟩) ⟨ou :: oi :: uu 22 [], []⟩) .n)))
noncomputable def fi138 : FI := mkFI Tryz.f138 0 [.ct .s] [(false, [.ct .b])] (fun _ => (.s .n (.s (.s (.r [] (some ⟨os :: uu 15 (ob :: uu 18 []), []⟩)) .n) (.s (.s .n (.b (.b (.s .n (.s (.b (.s (.r [] (some ⟨os :: ou :: ou :: oi :: uu 30 (ob :: []), []⟩)) .n) ⟨os :: ou :: ou :: oi :: uu 31 [], []⟩) .n)) ⟨os :: ou :: ou :: oi :: uu 31 [], []⟩) ⟨uu 35 [], []⟩)) .n))))
noncomputable def fi139 : FI := mkFI Tryz.f139 0 [.ct .s, .ct (.i .i64)] [(false, [.ct (.i .i64)])] (fun _ => (.s .n (.s .n (.s (.b (.b (.s (.s (.r [] (some ⟨os :: oi :: uu 52 (ob :: uu 3 []), []⟩)) .n) (.b .n ⟨os :: oi :: uu 56 [], []⟩)) ⟨os :: oi :: uu 56 [], []⟩) ⟨ou :: oi :: uu 56 [], []⟩) .n))))
noncomputable def fi140 : FI := mkFI Tryz.f140 0 [.ct .s] [(false, [.ct .b])] (fun _ => (.s .n (.s .n (.s (.s (.r [] (some ⟨os :: ou :: ou :: oi :: uu 16 (ob :: uu 60 []), []⟩)) .n) (.s (.s .n (.c .n .n (some ⟨os :: ou :: ou :: oi :: uu 77 [], []⟩))) (.s (.s (.r [] (some ⟨os :: ou :: ou :: oi :: uu 45 (ob :: uu 31 []), []⟩)) (.c (.s .n (.s (.s (.r [] (some ⟨os :: ou :: ou :: oi :: uu 63 (ob :: uu 13 []), []⟩)) (.c .n .n (some ⟨os :: ou :: ou :: oi :: uu 77 [], []⟩))) .n)) .n (some ⟨os :: ou :: ou :: oi :: uu 77 [], []⟩))) .n))))))
noncomputable def fi141 : FI := mkFI Tryz.f141 0 [.ct .s, .ct (.i .i64)] [(false, [.ct .b])] (fun _ => (.s .n (.s (.r [] (some ⟨uu 4 (ob :: uu 13 []), []⟩)) .n)))
noncomputable def fi142 : FI := mkFI Tryz.f142 0 [.ct .s, .ct (.i .i64)] [(false, [.ct (.i .i64)])] (fun _ => (.s .n (.s (.s (.r [] (some ⟨os :: oi :: uu 17 (ob :: uu 25 []), []⟩)) .n) (.s (.s .n (.b (.b (.s .n (.s (.b (.s (.s (.r [] (some ⟨os :: uu 4 (oi :: uu 31 (ob :: uu 7 [])), []⟩)) .n) .n) ⟨os :: uu 4 (oi :: uu 39 []), []⟩) .n)) ⟨os :: uu 4 (oi :: uu 39 []), []⟩) ⟨uu 45 [], []⟩)) .n))))
noncomputable def fi143 : FI := mkFI Tryz.f143 8 [.ct .s] [(false, [.ct .s]), (false, [.ct .b])] (fun _ => (.s .n (.s (.s (.r [] (some ⟨os :: uu 20 (ob :: uu 53 []), vv 8 []⟩)) .n) (.s (.r [0, 0] none) (.s (.s .n (.b (.b (.s .n (.s (.b (.s (.s (.r [] (some ⟨os :: uu 3 (.one (.own 5 2) :: oi :: uu 45 (ob :: uu 23 [])), vv 8 []⟩)) .n) (.s (.s (.r [] (some ⟨os :: uu 3 (.one (.own 5 3) :: oi :: uu 55 (ob :: uu 13 [])), vv 8 []⟩)) .n) (.r [0, 0, 0, 0, 4, 5, 0] none))) ⟨os :: uu 3 (.one (.own 5 6) :: oi :: uu 69 []), vv 8 []⟩) .n)) ⟨os :: uu 3 (.one (.own 5 1) :: oi :: uu 69 []), vv 8 []⟩) ⟨uu 4 (.one (.own 5 7) :: uu 70 []), vv 8 []⟩)) .n)))))
noncomputable def fi144 : FI := mkFI Tryz.f144 0 [.ct .s, .ct (.i .i64)] [(false, [.ct (.i .i64)])] (fun _ => (.s .n (.s (.s (.r [] (some ⟨os :: oi :: uu 17 (ob :: uu 38 []), []⟩)) .n) (.s (.s .n (.b (.b (.s .n (.s (.b (.s .n (.b (.s .n (.c .n (.s (.s .n (.c .n .n (some ⟨os :: uu 4 (oi :: uu 24 (.one (.i .u8) :: uu 4 (ob :: uu 22 []))), []⟩))) (.c .n (.s .n (.c (.s .n (.s (.r [] (some ⟨os :: uu 4 (oi :: uu 51 (ob :: [])), []⟩)) .n)) .n (some ⟨os :: uu 4 (oi :: uu 52 []), []⟩))) none)) none)) ⟨os :: uu 4 (oi :: uu 52 []), []⟩)) ⟨os :: uu 4 (oi :: uu 52 []), []⟩) .n)) ⟨os :: uu 4 (oi :: uu 52 []), []⟩) ⟨uu 58 [], []⟩)) .n))))
noncomputable def fi145 : FI := mkFI Tryz.f145 8 [.ct .s] [(false, [.ct .s]), (false, [.ct .b])] (fun _ => (.s .n (.s (.s (.r [] (some ⟨os :: uu 29 (ob :: uu 52 []), vv 8 []⟩)) .n) (.s .n (.s (.r [0, 0] none) (.s (.s .n (.b (.b (.s .n (.b (.s .n (.s .n (.s (.s .n (.c .n (.s .n (.s .n (.s .n (.s (.r [] (some ⟨uu 4 (os :: .one (.own 5 2) :: ou :: oi :: oi :: uu 61 (ob :: uu 12 [])), vv 8 []⟩)) (.c .n .n (some ⟨uu 4 (os :: .one (.own 5 3) :: ou :: oi :: oi :: uu 74 []), vv 8 []⟩)))))) (some ⟨uu 4 (os :: .one (.own 5 4) :: ou :: oi :: oi :: uu 74 []), vv 8 []⟩))) (.s .n (.s (.r [0, 0, 0, 5, 0] none) .n))))) ⟨uu 4 (os :: .one (.own 5 6) :: oi :: uu 76 []), vv 8 []⟩)) ⟨uu 4 (os :: .one (.own 5 1) :: oi :: uu 76 []), vv 8 []⟩) ⟨uu 5 (.one (.own 5 7) :: uu 77 []), vv 8 []⟩)) .n))))))
noncomputable def fi146 : FI := mkFI Tryz.f146 0 [.ct .s] [(false, [.ct .b])] (fun _ => (.s .n (.s (.s .n (.b (.s (.s .n (.c .n (.s .n (.c .n (.s .n (.c .n (.s .n (.c .n (.s .n (.c .n (.s .n (.c .n (.s .n (.c .n (.s .n (.c .n (.s .n (.c .n (.s .n (.c .n (.s .n (.c .n (.s .n (.c .n (.s .n (.c .n .n (some ⟨uu 4 (ob :: uu 14 []), []⟩))) (some ⟨uu 4 (ob :: uu 14 []), []⟩))) (some ⟨uu 4 (ob :: uu 14 []), []⟩))) (some ⟨uu 4 (ob :: uu 14 []), []⟩))) (some ⟨uu 4 (ob :: uu 14 []), []⟩))) (some ⟨uu 4 (ob :: uu 14 []), []⟩))) (some ⟨uu 4 (ob :: uu 14 []), []⟩))) (some ⟨uu 4 (ob :: uu 14 []), []⟩))) (some ⟨uu 4 (ob :: uu 14 []), []⟩))) (some ⟨uu 4 (ob :: uu 14 []), []⟩))) (some ⟨uu 4 (ob :: uu 14 []), []⟩))) (some ⟨uu 4 (ob :: uu 14 []), []⟩))) (some ⟨uu 4 (ob :: uu 14 []), []⟩))) .n) ⟨uu 19 [], []⟩)) .n)))
noncomputable def fi147 : FI := mkFI Tryz.f147 3 [.ptr] [(true, [.ct .s, .ct .s])] (fun _ => (.s (.r [1] none) (.s (.r [0, 2, 0] none) (.s .n (.s (.b (.b (.s .n (.b .n ⟨.one (.ptr 0 0) :: ou :: .one (.ptr 1 0) :: .one (.ptr 2 0) :: oi :: uu 61 [], .var 115 [.sl 153, .i .i64, .i .i64, .i .i64, .i .i64] :: .var 30 [.s, .s] :: .var 30 [.s, .s] :: []⟩)) ⟨.one (.ptr 0 0) :: ou :: .one (.ptr 1 0) :: .one (.ptr 2 0) :: oi :: uu 61 [], .var 115 [.sl 153, .i .i64, .i .i64, .i .i64, .i .i64] :: .var 30 [.s, .s] :: .var 30 [.s, .s] :: []⟩) ⟨.one (.ptr 0 0) :: ou :: .one (.ptr 1 0) :: .one (.ptr 2 0) :: oi :: uu 61 [], .var 115 [.sl 153, .i .i64, .i .i64, .i .i64, .i .i64] :: .var 30 [.s, .s] :: .var 30 [.s, .s] :: []⟩) (.s .n (.s (.b (.b (.s .n (.b (.s (.s (.r [] (some ⟨.one (.ptr 0 0) :: ou :: .one (.ptr 1 0) :: .one (.ptr 2 0) :: oi :: uu 42 (ob :: uu 18 []), .var 115 [.sl 153, .i .i64, .i .i64, .i .i64, .i .i64] :: .var 30 [.s, .s] :: .var 30 [.s, .s] :: []⟩)) .n) .n) ⟨.one (.ptr 0 0) :: ou :: .one (.ptr 1 0) :: .one (.ptr 2 0) :: oi :: uu 61 [], .var 115 [.sl 153, .i .i64, .i .i64, .i .i64, .i .i64] :: .var 30 [.s, .s] :: .var 30 [.s, .s] :: []⟩)) ⟨.one (.ptr 0 0) :: ou :: .one (.ptr 1 0) :: .one (.ptr 2 0) :: oi :: uu 61 [], .var 115 [.sl 153, .i .i64, .i .i64, .i .i64, .i .i64] :: .var 30 [.s, .s] :: .var 30 [.s, .s] :: []⟩) ⟨ou :: ou :: .one (.ptr 1 0) :: .one (.ptr 2 0) :: uu 62 [], .var 115 [.sl 153, .i .i64, .i .i64, .i .i64, .i .i64] :: .var 30 [.s, .s] :: .var 30 [.s, .s] :: []⟩) .n)))))))
noncomputable def fi148 : FI := mkFI Tryz.f148 21 [.ptr, .ct .b, .ct (.i .i64)] [(true, [.ct (.i .i64), .ct .s, .new 34, .new 9])] (fun _ => (.s (.r [1] none) (.s (.r [0, 2, 0] none) (.s .n (.s .n (.s (.r [0, 0, 0, 0, 0, 0, 0, 0, 0, 0, 3, 0] none) (.s (.s .n (.b (.s (.s .n (.c .n (.s .n (.c .n .n (some ⟨.one (.ptr 0 0) :: ob :: oi :: uu 3 (.one (.ptr 1 0) :: .one (.ptr 2 0) :: .one (.ptr 3 0) :: uu 33 (oi :: ob :: uu 125 [])), .var 115 [.sl 153, .i .i64, .i .i64, .i .i64, .i .i64] :: .var 34 [.i .i64, .s, .nil, .nil] :: .var 34 [.i .i64, .s, .nil, .nil] :: .var 153 [.i .i64, .s, .i .i64] :: vv 17 []⟩))) (some ⟨.one (.ptr 0 0) :: ob :: oi :: uu 3 (.one (.ptr 1 0) :: .one (.ptr 2 0) :: .one (.ptr 3 0) :: uu 33 (oi :: ob :: uu 125 [])), .var 115 [.sl 153, .i .i64, .i .i64, .i .i64, .i .i64] :: .var 34 [.i .i64, .s, .nil, .nil] :: .var 34 [.i .i64, .s, .nil, .nil] :: .var 153 [.i .i64, .s, .i .i64] :: vv 17 []⟩))) (.c (.s .n (.s .n (.s .n (.s (.s .n (.c .n .n (some ⟨uu 6 (.one (.ptr 1 0) :: .one (.ptr 2 0) :: .one (.ptr 3 0) :: uu 160 []), .var 115 [.sl 153, .i .i64, .i .i64, .i .i64, .i .i64] :: .var 34 [.i .i64, .s, .nil, .nil] :: .var 34 [.i .i64, .s, .nil, .nil] :: .var 153 [.i .i64, .s, .i .i64] :: vv 17 []⟩))) (.s (.s .n (.c .n .n (some ⟨uu 6 (.one (.ptr 1 0) :: .one (.ptr 2 0) :: uu 161 []), .var 115 [.sl 153, .i .i64, .i .i64, .i .i64, .i .i64] :: .var 34 [.i .i64, .s, .nil, .nil] :: .var 34 [.i .i64, .s, .nil, .nil] :: vv 18 []⟩))) .n))))) (.s .n (.c (.s .n (.s .n (.s .n (.s (.s .n (.c .n .n (some ⟨uu 6 (.one (.ptr 1 0) :: .one (.ptr 2 0) :: uu 161 []), .var 115 [.sl 153, .i .i64, .i .i64, .i .i64, .i .i64] :: .var 34 [.i .i64, .s, .nil, .nil] :: .var 34 [.i .i64, .s, .nil, .nil] :: vv 18 []⟩))) .n)))) .n none)) none)) ⟨.one (.ptr 0 0) :: ob :: oi :: uu 3 (.one (.ptr 1 0) :: .one (.ptr 2 0) :: .one (.ptr 3 0) :: uu 160 []), .var 115 [.sl 153, .i .i64, .i .i64, .i .i64, .i .i64] :: .var 34 [.i .i64, .s, .nil, .nil] :: .var 34 [.i .i64, .s, .nil, .nil] :: .var 153 [.i .i64, .s, .i .i64] :: vv 17 []⟩)) (.s (.b (.s (.r [] (some ⟨.one (.ptr 0 0) :: ob :: oi :: uu 3 (.one (.ptr 1 0) :: .one (.ptr 2 0) :: .one (.ptr 3 0) :: uu 76 (ob :: uu 83 [])), .var 115 [.sl 153, .i .i64, .i .i64, .i .i64, .i .i64] :: .var 34 [.i .i64, .s, .nil, .nil] :: .var 34 [.i .i64, .s, .nil, .nil] :: .var 153 [.i .i64, .s, .i .i64] :: vv 17 []⟩)) (.c .n (.s (.r [] (some ⟨.one (.ptr 0 0) :: ob :: oi :: uu 3 (.one (.ptr 1 0) :: .one (.ptr 2 0) :: .one (.ptr 3 0) :: uu 96 (ob :: uu 63 [])), .var 115 [.sl 153, .i .i64, .i .i64, .i .i64, .i .i64] :: .var 34 [.i .i64, .s, .nil, .nil] :: .var 34 [.i .i64, .s, .nil, .nil] :: .var 153 [.i .i64, .s, .i .i64] :: vv 17 []⟩)) (.c (.s .n (.s .n (.s .n (.s .n (.s (.s .n (.c .n .n (some ⟨.one (.ptr 0 0) :: ob :: oi :: uu 3 (.one (.ptr 1 0) :: .one (.ptr 2 0) :: ou :: os :: uu 159 []), .var 115 [.sl 153, .i .i64, .i .i64, .i .i64, .i .i64] :: .var 34 [.i .i64, .s, .nil, .nil] :: .var 34 [.i .i64, .s, .nil, .nil] :: vv 18 []⟩))) (.s (.b (.b (.s (.s (.r [] (some ⟨.one (.ptr 0 0) :: ob :: oi :: uu 3 (.one (.ptr 1 0) :: .one (.ptr 2 0) :: ou :: os :: uu 132 (ob :: uu 26 [])), .var 115 [.sl 153, .i .i64, .i .i64, .i .i64, .i .i64] :: .var 34 [.i .i64, .s, .nil, .nil] :: .var 34 [.i .i64, .s, .own 34 16, .own 9 17] :: vv 18 []⟩)) .n) (.b (.s (.s .n (.c (.s (.r [0, 0, 0, 0, 4, 5, 0, 0] none) .n) .n (some ⟨.one (.ptr 0 0) :: ob :: oi :: uu 3 (.one (.ptr 1 0) :: .one (.ptr 2 0) :: ou :: os :: uu 159 []), .var 115 [.sl 153, .i .i64, .i .i64, .i .i64, .i .i64] :: .var 34 [.i .i64, .s, .nil, .nil] :: .var 34 [.i .i64, .s, .own 34 18, .own 9 6] :: vv 18 []⟩))) (.r [0, 0, 0, 0, 0, 0, 7, 10, 11, 0, 0] none)) ⟨.one (.ptr 0 0) :: ob :: oi :: uu 3 (.one (.ptr 1 0) :: .one (.ptr 2 0) :: ou :: os :: uu 159 []), .var 115 [.sl 153, .i .i64, .i .i64, .i .i64, .i .i64] :: .var 34 [.i .i64, .s, .nil, .nil] :: .var 34 [.i .i64, .s, .own 34 12, .own 9 13] :: vv 18 []⟩)) ⟨.one (.ptr 0 0) :: ob :: oi :: uu 3 (.one (.ptr 1 0) :: .one (.ptr 2 0) :: ou :: os :: uu 159 []), .var 115 [.sl 153, .i .i64, .i .i64, .i .i64, .i .i64] :: .var 34 [.i .i64, .s, .nil, .nil] :: .var 34 [.i .i64, .s, .own 34 14, .own 9 15] :: vv 18 []⟩) ⟨uu 6 (.one (.ptr 1 0) :: .one (.ptr 2 0) :: uu 161 []), .var 115 [.sl 153, .i .i64, .i .i64, .i .i64, .i .i64] :: .var 34 [.i .i64, .s, .nil, .nil] :: .var 34 [.i .i64, .s, .own 34 19, .own 9 20] :: vv 18 []⟩) .n)))))) .n none)) none)) ⟨.one (.ptr 0 0) :: uu 5 (.one (.ptr 1 0) :: .one (.ptr 2 0) :: uu 161 []), .var 115 [.sl 153, .i .i64, .i .i64, .i .i64, .i .i64] :: .var 34 [.i .i64, .s, .nil, .nil] :: .var 34 [.i .i64, .s, .nil, .nil] :: vv 18 []⟩) .n))))))))
noncomputable def fi149 : FI := mkFI Tryz.f149 12 [.ptr, .ct .b] [(false, [.new 199])] (fun _ => (.s .n (.s (.r [2, 0] none) (.s .n (.s (.b (.b (.s .n (.b (.s (.r [0, 0, 0, 4, 0] none) (.s .n (.s (.r [0, 0, 5, 0, 0] none) (.s (.r [0, 0, 8, 9, 0] none) .n)))) ⟨.one (.ptr 0 0) :: ob :: uu 3 (.one (.own 199 10) :: uu 28 []), .var 115 [.sl 153, .i .i64, .i .i64, .i .i64, .i .i64] :: vv 11 []⟩)) ⟨.one (.ptr 0 0) :: ob :: uu 3 (.one (.own 199 3) :: uu 28 []), .var 115 [.sl 153, .i .i64, .i .i64, .i .i64, .i .i64] :: vv 11 []⟩) ⟨uu 5 (.one (.own 199 11) :: uu 28 []), .var 115 [.sl 153, .i .i64, .i .i64, .i .i64, .i .i64] :: vv 11 []⟩) .n)))))
noncomputable def fi150 : FI := mkFI Tryz.f150 8 [.ptr] [(true, [.ct .s, .ct .s, .ct .s, .ct .s, .ct .b, .ct (.i .i64), .ct .s, .new 34, .new 9, .new 181])] (fun _ => (.s (.r [1] none) (.s (.r [0, 0, 0, 2, 0] none) (.s .n (.s .n (.s .n (.s (.s .n (.c (.s .n (.r [0, 3, 0, 0] none)) .n (some ⟨.one (.ptr 0 0) :: ou :: .one (.ptr 1 0) :: .one (.ptr 2 0) :: uu 21 [], .var 115 [.sl 153, .i .i64, .i .i64, .i .i64, .i .i64] :: .var 65 [.s, .s, .s, .s, .b, .i .i64, .s, .nil, .nil, .nil] :: .var 65 [.s, .s, .s, .s, .b, .i .i64, .s, .own 34 5, .own 9 6, .nil] :: vv 5 []⟩))) (.s (.r [0, 7, 0, 0] none) .n))))))))
noncomputable def fi151 : FI := mkFI Tryz.f151 0 [.ct .s] [(false, [.ct .b])] (fun _ => (.s .n (.s (.s .n (.b (.s (.s .n (.c .n (.s .n (.c .n (.s .n (.c .n (.s .n (.c .n (.s .n (.c .n (.s .n (.c .n (.s .n (.c .n (.s .n (.c .n (.s .n (.c .n (.s .n (.c .n (.s .n (.c .n (.s .n (.c .n (.s .n (.c .n (.s .n (.c .n (.s .n (.c .n (.s .n (.c .n (.s .n (.c .n (.s .n (.c .n .n (some ⟨uu 4 (ob :: uu 19 []), []⟩))) (some ⟨uu 4 (ob :: uu 19 []), []⟩))) (some ⟨uu 4 (ob :: uu 19 []), []⟩))) (some ⟨uu 4 (ob :: uu 19 []), []⟩))) (some ⟨uu 4 (ob :: uu 19 []), []⟩))) (some ⟨uu 4 (ob :: uu 19 []), []⟩))) (some ⟨uu 4 (ob :: uu 19 []), []⟩))) (some ⟨uu 4 (ob :: uu 19 []), []⟩))) (some ⟨uu 4 (ob :: uu 19 []), []⟩))) (some ⟨uu 4 (ob :: uu 19 []), []⟩))) (some ⟨uu 4 (ob :: uu 19 []), []⟩))) (some ⟨uu 4 (ob :: uu 19 []), []⟩))) (some ⟨uu 4 (ob :: uu 19 []), []⟩))) (some ⟨uu 4 (ob :: uu 19 []), []⟩))) (some ⟨uu 4 (ob :: uu 19 []), []⟩))) (some ⟨uu 4 (ob :: uu 19 []), []⟩))) (some ⟨uu 4 (ob :: uu 19 []), []⟩))) (some ⟨uu 4 (ob :: uu 19 []), []⟩))) .n) ⟨uu 24 [], []⟩)) .n)))
noncomputable def fi152 : FI := mkFI Tryz.f152 0 [.ct .s] [(false, [.ct .b])] (fun _ => (.s .n (.s (.r [] (some ⟨ou :: ou :: ob :: uu 10 [], []⟩)) .n)))
noncomputable def fi134 : FI := mkFI Tryz.f134 16 [.ag [.i .i64, .s, .sl 34, .sl 9]] [(true, [.ct (.i .i64), .ct .s, .new 1034, .new 9])] (fun _ => (.s (.r [0, 1] none) (.s (.r [0, 0, 0, 0, 2, 0, 0, 3, 0, 4, 0] none) (.s (.s .n (.b (.b (.s .n (.s (.b (.r [0, 0, 0, 0, 0, 0, 0, 6, 9, 10, 0, 0] none) ⟨ou :: .one (.ptr 0 0) :: .one (.ptr 1 0) :: .one (.ptr 4 0) :: oi :: uu 28 [], .var 34 [.i .i64, .s, .sl 34, .sl 9] :: .var 34 [.i .i64, .s, .nil, .nil] :: .u :: .u :: .var 34 [.i .i64, .s, .own 1034 11, .own 9 12] :: vv 11 []⟩) .n)) ⟨ou :: .one (.ptr 0 0) :: .one (.ptr 1 0) :: .one (.ptr 4 0) :: oi :: uu 28 [], .var 34 [.i .i64, .s, .sl 34, .sl 9] :: .var 34 [.i .i64, .s, .nil, .nil] :: .u :: .u :: .var 34 [.i .i64, .s, .own 1034 13, .own 9 5] :: vv 11 []⟩) ⟨ou :: ou :: .one (.ptr 1 0) :: .one (.ptr 4 0) :: uu 29 [], .u :: .var 34 [.i .i64, .s, .nil, .nil] :: .u :: .u :: .var 34 [.i .i64, .s, .own 1034 14, .own 9 15] :: vv 11 []⟩)) .n))))
noncomputable def fi135 : FI := mkFI Tryz.f135 9 [.ct (.sl 199)] [(false, [.new 1199])] (fun _ => (.s .n (.s (.r [1, 0] none) (.s (.s .n (.b (.b (.s .n (.s (.b (.r [0, 0, 0, 0, 0, 0, 0, 0, 0, 0, 0, 3, 0, 5, 6, 0] none) ⟨ol 199 :: ou :: ou :: .one (.own 1199 7) :: oi :: uu 23 [], vv 9 []⟩) .n)) ⟨ol 199 :: ou :: ou :: .one (.own 1199 2) :: oi :: uu 23 [], vv 9 []⟩) ⟨uu 3 (.one (.own 1199 8) :: uu 24 []), vv 9 []⟩)) .n))))
noncomputable def fi158 : FI := mkFI Tryz.f158 0 [.ct .s, .ct .s] [(false, [.ct .b])] (fun _ => (.s .n (.s (.r [] (some ⟨uu 4 (ob :: uu 13 []), []⟩)) .n)))
noncomputable def fi159 : FI := mkFI Tryz.f159 0 [.ct .s] [(false, [.ct .b])] (fun _ => (.s .n (.s (.s .n (.b (.b (.s .n (.b .n ⟨os :: ou :: ou :: oi :: uu 17 [], []⟩)) ⟨os :: ou :: ou :: oi :: uu 17 [], []⟩) ⟨uu 21 [], []⟩)) .n)))
noncomputable def fi160 : FI := mkFI Tryz.f160 32 [.ct .s] [(false, [.ct .s])] (fun _ => (.s .n (.s (.r [0, 0, 0] none) (.s .n (.s (.s .n (.b (.b (.s .n (.s (.b (.s .n (.s (.r [] (some ⟨uu 3 (.one (.own 9 2) :: oi :: oi :: oi :: uu 34 (ob :: uu 93 [])), vv 32 []⟩)) (.c .n .n (some ⟨uu 3 (.one (.own 9 3) :: oi :: oi :: uu 129 []), vv 32 []⟩)))) ⟨uu 3 (.one (.own 9 4) :: oi :: oi :: uu 129 []), vv 32 []⟩) .n)) ⟨uu 3 (.one (.own 9 1) :: oi :: oi :: uu 129 []), vv 32 []⟩) ⟨uu 3 (.one (.own 9 5) :: oi :: uu 130 []), vv 32 []⟩)) (.s (.s .n (.b (.b (.s .n (.s (.b (.s .n (.s (.s (.r [] (some ⟨uu 3 (.one (.own 9 7) :: oi :: ou :: ou :: oi :: oi :: uu 51 (ob :: uu 74 [])), vv 32 []⟩)) (.c .n .n (some ⟨uu 3 (.one (.own 9 8) :: oi :: ou :: ou :: oi :: oi :: uu 126 []), vv 32 []⟩))) (.s (.s .n (.c .n .n (some ⟨uu 3 (.one (.own 9 9) :: oi :: ou :: ou :: oi :: oi :: uu 126 []), vv 32 []⟩))) .n))) ⟨uu 3 (.one (.own 9 10) :: oi :: ou :: ou :: oi :: uu 127 []), vv 32 []⟩) .n)) ⟨uu 3 (.one (.own 9 6) :: oi :: ou :: ou :: oi :: uu 127 []), vv 32 []⟩) ⟨uu 3 (.one (.own 9 11) :: uu 131 []), vv 32 []⟩)) (.s .n (.s (.b (.b (.s (.s (.r [] (some ⟨uu 3 (.one (.own 9 13) :: uu 5 (oi :: uu 79 (ob :: uu 45 []))), vv 32 []⟩)) .n) (.b .n ⟨uu 3 (.one (.own 9 14) :: uu 5 (oi :: uu 125 [])), vv 32 []⟩)) ⟨uu 3 (.one (.own 9 12) :: uu 5 (oi :: uu 125 [])), vv 32 []⟩) ⟨uu 3 (.one (.own 9 15) :: uu 5 (oi :: uu 125 [])), vv 32 []⟩) (.s .n (.s (.b (.b (.s (.s (.r [] (some ⟨uu 3 (.one (.own 9 17) :: uu 5 (oi :: oi :: uu 100 (ob :: uu 23 []))), vv 32 []⟩)) .n) (.b .n ⟨uu 3 (.one (.own 9 18) :: uu 5 (oi :: oi :: uu 124 [])), vv 32 []⟩)) ⟨uu 3 (.one (.own 9 16) :: uu 5 (oi :: oi :: uu 124 [])), vv 32 []⟩) ⟨uu 3 (.one (.own 9 19) :: uu 5 (oi :: oi :: uu 124 [])), vv 32 []⟩) (.s (.r [20, 0] none) (.s (.s .n (.b (.b (.s .n (.s (.b (.s (.s .n (.c (.r [0, 24, 25, 0] none) .n (some ⟨uu 3 (.one (.own 9 26) :: uu 5 (oi :: oi :: .one (.own 5 27) :: oi :: uu 122 [])), vv 32 []⟩))) (.r [0, 0, 0, 0, 0, 28, 0] none)) ⟨uu 3 (.one (.own 9 29) :: uu 5 (oi :: oi :: .one (.own 5 30) :: oi :: uu 122 [])), vv 32 []⟩) .n)) ⟨uu 3 (.one (.own 9 21) :: uu 5 (oi :: oi :: .one (.own 5 22) :: oi :: uu 122 [])), vv 32 []⟩) ⟨uu 11 (.one (.own 5 31) :: uu 123 []), vv 32 []⟩)) .n))))))))))))
noncomputable def fi161 : FI := mkFI Tryz.f161 0 [.ct .s, .ct (.i .i64)] [(false, [.ct (.i .i64)]), (false, [.ct (.i .i64)])] (fun _ => (.s .n (.s .n (.s (.s .n (.b (.s (.s .n (.c .n (.s .n (.c .n .n (some ⟨os :: oi :: uu 17 (.one (.i .u8) :: ou :: ob :: uu 159 []), []⟩))) (some ⟨os :: oi :: uu 17 (.one (.i .u8) :: ou :: ob :: uu 159 []), []⟩))) .n) ⟨os :: oi :: uu 179 [], []⟩)) (.s (.s (.r [] (some ⟨os :: oi :: uu 63 (ob :: uu 115 []), []⟩)) (.c (.s .n (.s (.b (.b (.s (.s (.r [] (some ⟨os :: oi :: uu 4 (oi :: uu 77 (ob :: uu 96 [])), []⟩)) .n) (.b .n ⟨os :: oi :: uu 4 (oi :: uu 174 []), []⟩)) ⟨os :: oi :: uu 4 (oi :: uu 174 []), []⟩) ⟨os :: oi :: uu 4 (oi :: uu 174 []), []⟩) (.s .n (.s (.s (.r [] (some ⟨ou :: oi :: uu 4 (oi :: oi :: uu 110 (ob :: uu 62 [])), []⟩)) .n) .n)))) .n none)) (.s .n (.s .n (.s (.s (.r [] (some ⟨os :: oi :: uu 6 (oi :: uu 145 (ob :: uu 26 [])), []⟩)) .n) .n))))))))
noncomputable def fi162 : FI := mkFI Tryz.f162 3 [.ptr, .ag [.s, .s], .ct .s] [(true, [.ct .s, .ct .s])] (fun _ => (.s (.r [1, 2] none) .n))
noncomputable def fi164 : FI := mkFI Tryz.f164 14 [.ct .s] [(false, [.new 9])] (fun _ => (.s .n (.s (.r [0, 0] none) (.s .n (.s (.s .n (.b (.b (.s .n (.s (.b (.s (.r [] (some ⟨os :: ou :: ou :: .one (.own 9 2) :: oi :: oi :: uu 16 (ob :: uu 35 []), vv 14 []⟩)) (.c (.s (.r [0, 0, 0, 0, 0, 4, 5, 0] none) (.s (.s (.r [] (some ⟨os :: ou :: ou :: .one (.own 9 6) :: ou :: oi :: uu 41 (ob :: uu 10 []), vv 14 []⟩)) (.c .n .n (some ⟨os :: ou :: ou :: .one (.own 9 7) :: ou :: oi :: uu 52 [], vv 14 []⟩))) .n)) .n (some ⟨os :: ou :: ou :: .one (.own 9 8) :: oi :: oi :: uu 52 [], vv 14 []⟩))) ⟨os :: ou :: ou :: .one (.own 9 9) :: oi :: oi :: uu 52 [], vv 14 []⟩) .n)) ⟨os :: ou :: ou :: .one (.own 9 1) :: oi :: oi :: uu 52 [], vv 14 []⟩) ⟨os :: ou :: ou :: .one (.own 9 10) :: oi :: uu 53 [], vv 14 []⟩)) (.s (.r [0, 0, 0, 0, 12, 13, 0] none) .n))))))
noncomputable def fi165 : FI := mkFI Tryz.f165 0 [.ct .s] [(false, [.ct (.i .i64)])] (fun _ => (.s .n (.s .n (.s (.b (.b (.s (.s (.r [] (some ⟨os :: ou :: ou :: oi :: uu 15 (ob :: uu 3 []), []⟩)) .n) (.b .n ⟨os :: ou :: ou :: oi :: uu 19 [], []⟩)) ⟨os :: ou :: ou :: oi :: uu 19 [], []⟩) ⟨uu 3 (oi :: uu 19 []), []⟩) .n))))
noncomputable def fi166 : FI := mkFI Tryz.f166 0 [.ct (.i .u8)] [(false, [.ct (.i .i64)])] (fun _ => (.s .n (.s (.b (.s (.r [] (some ⟨.one (.i .u8) :: ou :: ou :: ob :: uu 29 [], []⟩)) (.c .n (.s (.r [] (some ⟨.one (.i .u8) :: uu 12 (ob :: uu 19 []), []⟩)) (.c .n (.s (.r [] (some ⟨.one (.i .u8) :: uu 22 (ob :: uu 9 []), []⟩)) .n) none)) none)) ⟨uu 33 [], []⟩) .n)))
noncomputable def fi167 : FI := mkFI Tryz.f167 0 [.ct .s, .ct (.i .i64), .ct (.i .i64)] [(false, [.ct (.i .i64)])] (fun _ => (.s .n (.s .n (.s (.s .n (.b (.b (.s .n (.s (.b (.s (.s (.r [] (some ⟨os :: ou :: oi :: uu 4 (oi :: oi :: uu 16 (ob :: uu 8 [])), []⟩)) .n) .n) ⟨os :: ou :: oi :: uu 4 (oi :: oi :: uu 25 []), []⟩) .n)) ⟨os :: ou :: oi :: uu 4 (oi :: oi :: uu 25 []), []⟩) ⟨uu 7 (oi :: uu 26 []), []⟩)) .n))))
noncomputable def fnLv : List (Nat × FI) := [(78, fi78), (99, fi99), (100, fi100), (131, fi131), (132, fi132), (158, fi158)]
noncomputable def cfgv : Cfg := ⟨fun t => look t tyL, fun f => look f fnLv⟩
theorem fnsv : ∀ x ∈ fnLv, FnOk Tryz.prog G cfgv.ty x.1 x.2 :=
  all_cons (mkFI_ok Tryz.func78 (by kernel_rfl)) <|
  all_cons (mkFI_ok Tryz.func99 (by kernel_rfl)) <|
  all_cons (mkFI_ok Tryz.func100 (by kernel_rfl)) <|
  all_cons (mkFI_ok Tryz.func131 (by kernel_rfl)) <|
  all_cons (mkFI_ok Tryz.func132 (by kernel_rfl)) <|
  all_cons (mkFI_ok Tryz.func158 (by kernel_rfl)) <|
  all_nil
noncomputable def fi62 : FI := { mkFI Tryz.f62 0 [.ct .s] [(false, [.ct .b])] (fun _ => .n) with prim := some (primH [.s] [.b] (qVia cfgv 78)) }
noncomputable def fnLb : List (Nat × FI) := [(67, fi67), (74, fi74), (81, fi81), (83, fi83), (93, fi93), (101, fi101), (106, fi106), (107, fi107), (108, fi108), (125, fi125), (133, fi133), (136, fi136), (137, fi137), (138, fi138), (139, fi139), (140, fi140), (141, fi141), (142, fi142), (143, fi143), (144, fi144), (145, fi145), (146, fi146), (159, fi159), (160, fi160), (161, fi161), (164, fi164), (165, fi165), (166, fi166), (167, fi167)]
noncomputable def cfgb : Cfg := ⟨fun t => look t tyL, fun f => look f fnLb⟩
theorem fnsb : ∀ x ∈ fnLb, FnOk Tryz.prog G cfgb.ty x.1 x.2 :=
  all_cons (mkFI_ok Tryz.func67 (by kernel_rfl)) <|
  all_cons (mkFI_ok Tryz.func74 (by kernel_rfl)) <|
  all_cons (mkFI_ok Tryz.func81 (by kernel_rfl)) <|
  all_cons (mkFI_ok Tryz.func83 (by kernel_rfl)) <|
  all_cons (mkFI_ok Tryz.func93 (by kernel_rfl)) <|
  all_cons (mkFI_ok Tryz.func101 (by kernel_rfl)) <|
  all_cons (mkFI_ok Tryz.func106 (by kernel_rfl)) <|
  all_cons (mkFI_ok Tryz.func107 (by kernel_rfl)) <|
  all_cons (mkFI_ok Tryz.func108 (by kernel_rfl)) <|
  all_cons (mkFI_ok Tryz.func125 (by kernel_rfl)) <|
  all_cons (mkFI_ok Tryz.func133 (by kernel_rfl)) <|
  all_cons (mkFI_ok Tryz.func136 (by kernel_rfl)) <|
  all_cons (mkFI_ok Tryz.func137 (by kernel_rfl)) <|
  all_cons (mkFI_ok Tryz.func138 (by kernel_rfl)) <|
  all_cons (mkFI_ok Tryz.func139 (by kernel_rfl)) <|
  all_cons (mkFI_ok Tryz.func140 (by kernel_rfl)) <|
  all_cons (mkFI_ok Tryz.func141 (by kernel_rfl)) <|
  all_cons (mkFI_ok Tryz.func142 (by kernel_rfl)) <|
  all_cons (mkFI_ok Tryz.func143 (by kernel_rfl)) <|
  all_cons (mkFI_ok Tryz.func144 (by kernel_rfl)) <|
  all_cons (mkFI_ok Tryz.func145 (by kernel_rfl)) <|
  all_cons (mkFI_ok Tryz.func146 (by kernel_rfl)) <|
  all_cons (mkFI_ok Tryz.func159 (by kernel_rfl)) <|
  all_cons (mkFI_ok Tryz.func160 (by kernel_rfl)) <|
  all_cons (mkFI_ok Tryz.func161 (by kernel_rfl)) <|
  all_cons (mkFI_ok Tryz.func164 (by kernel_rfl)) <|
  all_cons (mkFI_ok Tryz.func165 (by kernel_rfl)) <|
  all_cons (mkFI_ok Tryz.func166 (by kernel_rfl)) <|
  all_cons (mkFI_ok Tryz.func167 (by kernel_rfl)) <|
  all_nil
theorem ceb_spec_TokensOf (n : Nat) (v : List DC) : callF cfgb (n + 1) 83 ⟨os :: [], []⟩ v = C_spec_TokensOf (runG cfgb evLb n) n v := by kernel_rfl
theorem ceb_spec_RuneAt (n : Nat) (v : List DC) : callF cfgb (n + 1) 106 ⟨os :: oi :: [], []⟩ v = C_spec_RuneAt (runG cfgb evLb n) n v := by kernel_rfl
theorem ceb_spec_l06One (n : Nat) (v : List DC) : callF cfgb (n + 1) 108 ⟨os :: oi :: [], []⟩ v = C_spec_l06One (runG cfgb evLb n) n v := by kernel_rfl
theorem ceb_spec_l06Pass (n : Nat) (v : List DC) : callF cfgb (n + 1) 107 ⟨os :: oi :: [], []⟩ v = C_spec_l06Pass (runG cfgb evLb n) n v := by kernel_rfl
theorem ceb_spec_RuneText (n : Nat) (v : List DC) : callF cfgb (n + 1) 74 ⟨oi :: [], []⟩ v = C_spec_RuneText (runG cfgb evLb n) n v := by kernel_rfl
theorem ceb_spec_BlockEnd (n : Nat) (v : List DC) : callF cfgb (n + 1) 142 ⟨os :: oi :: [], []⟩ v = C_spec_BlockEnd (runG cfgb evLb n) n v := by kernel_rfl
theorem ceb_spec_BlockText (n : Nat) (v : List DC) : callF cfgb (n + 1) 143 ⟨os :: [], []⟩ v = C_spec_BlockText (runG cfgb evLb n) n v := by kernel_rfl
theorem ceb_spec_FloatOk (n : Nat) (v : List DC) : callF cfgb (n + 1) 140 ⟨os :: [], []⟩ v = C_spec_FloatOk (runG cfgb evLb n) n v := by kernel_rfl
theorem ceb_spec_IntOk (n : Nat) (v : List DC) : callF cfgb (n + 1) 67 ⟨os :: [], []⟩ v = C_spec_IntOk (runG cfgb evLb n) n v := by kernel_rfl
theorem ceb_spec_NameOk (n : Nat) (v : List DC) : callF cfgb (n + 1) 138 ⟨os :: [], []⟩ v = C_spec_NameOk (runG cfgb evLb n) n v := by kernel_rfl
theorem ceb_spec_SignOk (n : Nat) (v : List DC) : callF cfgb (n + 1) 146 ⟨os :: [], []⟩ v = C_spec_SignOk (runG cfgb evLb n) n v := by kernel_rfl
theorem ceb_spec_StringEnd (n : Nat) (v : List DC) : callF cfgb (n + 1) 144 ⟨os :: oi :: [], []⟩ v = C_spec_StringEnd (runG cfgb evLb n) n v := by kernel_rfl
theorem ceb_spec_Unescaped (n : Nat) (v : List DC) : callF cfgb (n + 1) 145 ⟨os :: [], []⟩ v = C_spec_Unescaped (runG cfgb evLb n) n v := by kernel_rfl
theorem ceb_spec_l03Figure (n : Nat) (v : List DC) : callF cfgb (n + 1) 133 ⟨.one (.i .u8) :: [], []⟩ v = C_spec_l03Figure (runG cfgb evLb n) n v := by kernel_rfl
theorem ceb_spec_l03Letter (n : Nat) (v : List DC) : callF cfgb (n + 1) 136 ⟨.one (.i .u8) :: [], []⟩ v = C_spec_l03Letter (runG cfgb evLb n) n v := by kernel_rfl
theorem ceb_spec_l05Three (n : Nat) (v : List DC) : callF cfgb (n + 1) 141 ⟨os :: oi :: [], []⟩ v = C_spec_l05Three (runG cfgb evLb n) n v := by kernel_rfl
theorem ceb_spec_l06Name (n : Nat) (v : List DC) : callF cfgb (n + 1) 137 ⟨os :: oi :: [], []⟩ v = C_spec_l06Name (runG cfgb evLb n) n v := by kernel_rfl
theorem ceb_spec_l06Number (n : Nat) (v : List DC) : callF cfgb (n + 1) 139 ⟨os :: oi :: [], []⟩ v = C_spec_l06Number (runG cfgb evLb n) n v := by kernel_rfl
theorem ceb_spec_l02Scalar (n : Nat) (v : List DC) : callF cfgb (n + 1) 93 ⟨oi :: [], []⟩ v = C_spec_l02Scalar (runG cfgb evLb n) n v := by kernel_rfl
theorem ceb_spec_BlockValue (n : Nat) (v : List DC) : callF cfgb (n + 1) 160 ⟨os :: [], []⟩ v = C_spec_BlockValue (runG cfgb evLb n) n v := by kernel_rfl
theorem ceb_spec_TextOk (n : Nat) (v : List DC) : callF cfgb (n + 1) 159 ⟨os :: [], []⟩ v = C_spec_TextOk (runG cfgb evLb n) n v := by kernel_rfl
theorem ceb_spec_l03Int (n : Nat) (v : List DC) : callF cfgb (n + 1) 81 ⟨os :: [], []⟩ v = C_spec_l03Int (runG cfgb evLb n) n v := by kernel_rfl
theorem ceb_spec_l03Run (n : Nat) (v : List DC) : callF cfgb (n + 1) 101 ⟨os :: oi :: [], []⟩ v = C_spec_l03Run (runG cfgb evLb n) n v := by kernel_rfl
theorem ceb_spec_l04Rune (n : Nat) (v : List DC) : callF cfgb (n + 1) 161 ⟨os :: oi :: [], []⟩ v = C_spec_l04Rune (runG cfgb evLb n) n v := by kernel_rfl
theorem ceb_spec_l01In (n : Nat) (v : List DC) : callF cfgb (n + 1) 125 ⟨oi :: oi :: oi :: [], []⟩ v = C_spec_l01In (runG cfgb evLb n) n v := by kernel_rfl
theorem ceb_spec_Indent (n : Nat) (v : List DC) : callF cfgb (n + 1) 165 ⟨os :: [], []⟩ v = C_spec_Indent (runG cfgb evLb n) n v := by kernel_rfl
theorem ceb_spec_LinesIn (n : Nat) (v : List DC) : callF cfgb (n + 1) 164 ⟨os :: [], []⟩ v = C_spec_LinesIn (runG cfgb evLb n) n v := by kernel_rfl
theorem ceb_spec_l04Digit (n : Nat) (v : List DC) : callF cfgb (n + 1) 166 ⟨.one (.i .u8) :: [], []⟩ v = C_spec_l04Digit (runG cfgb evLb n) n v := by kernel_rfl
theorem ceb_spec_l04Num (n : Nat) (v : List DC) : callF cfgb (n + 1) 167 ⟨os :: oi :: oi :: [], []⟩ v = C_spec_l04Num (runG cfgb evLb n) n v := by kernel_rfl
theorem stpsb : ∀ x ∈ evLb, StpOk cfgb evLb x :=
  stp_cons ceb_spec_TokensOf <|
  stp_cons ceb_spec_RuneAt <|
  stp_cons ceb_spec_l06One <|
  stp_cons ceb_spec_l06Pass <|
  stp_cons ceb_spec_RuneText <|
  stp_cons ceb_spec_BlockEnd <|
  stp_cons ceb_spec_BlockText <|
  stp_cons ceb_spec_FloatOk <|
  stp_cons ceb_spec_IntOk <|
  stp_cons ceb_spec_NameOk <|
  stp_cons ceb_spec_SignOk <|
  stp_cons ceb_spec_StringEnd <|
  stp_cons ceb_spec_Unescaped <|
  stp_cons ceb_spec_l03Figure <|
  stp_cons ceb_spec_l03Letter <|
  stp_cons ceb_spec_l05Three <|
  stp_cons ceb_spec_l06Name <|
  stp_cons ceb_spec_l06Number <|
  stp_cons ceb_spec_l02Scalar <|
  stp_cons ceb_spec_BlockValue <|
  stp_cons ceb_spec_TextOk <|
  stp_cons ceb_spec_l03Int <|
  stp_cons ceb_spec_l03Run <|
  stp_cons ceb_spec_l04Rune <|
  stp_cons ceb_spec_l01In <|
  stp_cons ceb_spec_Indent <|
  stp_cons ceb_spec_LinesIn <|
  stp_cons ceb_spec_l04Digit <|
  stp_cons ceb_spec_l04Num <|
  stp_nil
noncomputable def rb_spec_l01New (v : List DC) : Out := RunB cfgb fib15 70 [.sl 5, .i .i64, .i .i64] 2 ⟨fib15.pk.map pkK, []⟩ v
noncomputable def fi15 : FI := { fib15 with stf := some (qBox (fun t => look t tyL) fib15.pk rb_spec_l01New 70 [.sl 5, .i .i64, .i .i64]) }
theorem cb_spec_l08New (v : List DC) : callB cfgb fib70 115 [.sl 153, .i .i64, .i .i64, .i .i64, .i .i64] 2 ⟨fib70.pk.map pkK, []⟩ v 5000 = C_spec_l08New (runG cfgb evLb 5000) 5000 v := by kernel_rfl
noncomputable def fi70 : FI := { fib70 with stf := some (qBox (fun t => look t tyL) fib70.pk rb_spec_l08New 115 [.sl 153, .i .i64, .i .i64, .i .i64, .i .i64]) }
noncomputable def fnL : List (Nat × FI) := [(3, fi3), (4, fi4), (5, fi5), (6, fi6), (7, fi7), (8, fi8), (9, fi9), (11, fi11), (10, fi10), (13, fi13), (12, fi12), (14, fi14), (16, fi16), (17, fi17), (18, fi18), (19, fi19), (20, fi20), (21, fi21), (22, fi22), (24, fi24), (25, fi25), (26, fi26), (27, fi27), (28, fi28), (29, fi29), (30, fi30), (31, fi31), (34, fi34), (33, fi33), (35, fi35), (36, fi36), (37, fi37), (38, fi38), (39, fi39), (40, fi40), (41, fi41), (42, fi42), (43, fi43), (44, fi44), (45, fi45), (47, fi47), (48, fi48), (49, fi49), (50, fi50), (51, fi51), (32, fi32), (54, fi54), (55, fi55), (52, fi52), (53, fi53), (56, fi56), (57, fi57), (58, fi58), (59, fi59), (60, fi60), (23, fi23), (61, fi61), (63, fi63), (64, fi64), (65, fi65), (67, fi67), (71, fi71), (72, fi72), (73, fi73), (68, fi68), (69, fi69), (75, fi75), (74, fi74), (76, fi76), (46, fi46), (79, fi79), (80, fi80), (81, fi81), (84, fi84), (85, fi85), (86, fi86), (87, fi87), (88, fi88), (89, fi89), (90, fi90), (91, fi91), (92, fi92), (82, fi82), (94, fi94), (93, fi93), (95, fi95), (66, fi66), (101, fi101), (109, fi109), (110, fi110), (111, fi111), (112, fi112), (113, fi113), (114, fi114), (115, fi115), (116, fi116), (117, fi117), (118, fi118), (119, fi119), (120, fi120), (121, fi121), (122, fi122), (123, fi123), (124, fi124), (102, fi102), (103, fi103), (104, fi104), (105, fi105), (125, fi125), (96, fi96), (133, fi133), (147, fi147), (148, fi148), (149, fi149), (150, fi150), (151, fi151), (152, fi152), (134, fi134), (135, fi135), (162, fi162), (62, fi62), (15, fi15), (70, fi70)]
noncomputable def cfg : Cfg := ⟨fun t => look t tyL, fun f => look f fnL⟩
theorem fns : ∀ x ∈ fnL, FnOk Tryz.prog G cfg.ty x.1 x.2 :=
  all_cons (mkFI_ok Tryz.func3 (by kernel_rfl)) <|
  all_cons (mkFI_ok Tryz.func4 (by kernel_rfl)) <|
  all_cons (mkFI_ok Tryz.func5 (by kernel_rfl)) <|
  all_cons (mkFI_ok Tryz.func6 (by kernel_rfl)) <|
  all_cons (mkFI_ok Tryz.func7 (by kernel_rfl)) <|
  all_cons (mkFI_ok Tryz.func8 (by kernel_rfl)) <|
  all_cons (mkFI_ok Tryz.func9 (by kernel_rfl)) <|
  all_cons (mkFI_ok Tryz.func11 (by kernel_rfl)) <|
  all_cons (mkFI_ok Tryz.func10 (by kernel_rfl)) <|
  all_cons (mkFI_ok Tryz.func13 (by kernel_rfl)) <|
  all_cons (mkFI_ok Tryz.func12 (by kernel_rfl)) <|
  all_cons (mkFI_ok Tryz.func14 (by kernel_rfl)) <|
  all_cons (mkFI_ok Tryz.func16 (by kernel_rfl)) <|
  all_cons (mkFI_ok Tryz.func17 (by kernel_rfl)) <|
  all_cons (mkFI_ok Tryz.func18 (by kernel_rfl)) <|
  all_cons (mkFI_ok Tryz.func19 (by kernel_rfl)) <|
  all_cons (mkFI_ok Tryz.func20 (by kernel_rfl)) <|
  all_cons (mkFI_ok Tryz.func21 (by kernel_rfl)) <|
  all_cons (mkFI_ok Tryz.func22 (by kernel_rfl)) <|
  all_cons (mkFI_ok Tryz.func24 (by kernel_rfl)) <|
  all_cons (mkFI_ok Tryz.func25 (by kernel_rfl)) <|
  all_cons (mkFI_ok Tryz.func26 (by kernel_rfl)) <|
  all_cons (mkFI_ok Tryz.func27 (by kernel_rfl)) <|
  all_cons (mkFI_ok Tryz.func28 (by kernel_rfl)) <|
  all_cons (mkFI_ok Tryz.func29 (by kernel_rfl)) <|
  all_cons (mkFI_ok Tryz.func30 (by kernel_rfl)) <|
  all_cons (mkFI_ok Tryz.func31 (by kernel_rfl)) <|
  all_cons (mkFI_ok Tryz.func34 (by kernel_rfl)) <|
  all_cons (mkFI_ok Tryz.func33 (by kernel_rfl)) <|
  all_cons (mkFI_ok Tryz.func35 (by kernel_rfl)) <|
  all_cons (mkFI_ok Tryz.func36 (by kernel_rfl)) <|
  all_cons (mkFI_ok Tryz.func37 (by kernel_rfl)) <|
  all_cons (mkFI_ok Tryz.func38 (by kernel_rfl)) <|
  all_cons (mkFI_ok Tryz.func39 (by kernel_rfl)) <|
  all_cons (mkFI_ok Tryz.func40 (by kernel_rfl)) <|
  all_cons (mkFI_ok Tryz.func41 (by kernel_rfl)) <|
  all_cons (mkFI_ok Tryz.func42 (by kernel_rfl)) <|
  all_cons (mkFI_ok Tryz.func43 (by kernel_rfl)) <|
  all_cons (mkFI_ok Tryz.func44 (by kernel_rfl)) <|
  all_cons (mkFI_ok Tryz.func45 (by kernel_rfl)) <|
  all_cons (mkFI_ok Tryz.func47 (by kernel_rfl)) <|
  all_cons (mkFI_ok Tryz.func48 (by kernel_rfl)) <|
  all_cons (mkFI_ok Tryz.func49 (by kernel_rfl)) <|
  all_cons (mkFI_ok Tryz.func50 (by kernel_rfl)) <|
  all_cons (mkFI_ok Tryz.func51 (by kernel_rfl)) <|
  all_cons (mkFI_ok Tryz.func32 (by kernel_rfl)) <|
  all_cons (mkFI_ok Tryz.func54 (by kernel_rfl)) <|
  all_cons (mkFI_ok Tryz.func55 (by kernel_rfl)) <|
  all_cons (mkFI_ok Tryz.func52 (by kernel_rfl)) <|
  all_cons (mkFI_ok Tryz.func53 (by kernel_rfl)) <|
  all_cons (mkFI_ok Tryz.func56 (by kernel_rfl)) <|
  all_cons (mkFI_ok Tryz.func57 (by kernel_rfl)) <|
  all_cons (mkFI_ok Tryz.func58 (by kernel_rfl)) <|
  all_cons (mkFI_ok Tryz.func59 (by kernel_rfl)) <|
  all_cons (mkFI_ok Tryz.func60 (by kernel_rfl)) <|
  all_cons (mkFI_ok Tryz.func23 (by kernel_rfl)) <|
  all_cons (mkFI_ok Tryz.func61 (by kernel_rfl)) <|
  all_cons (mkFI_ok Tryz.func63 (by kernel_rfl)) <|
  all_cons (mkFI_ok Tryz.func64 (by kernel_rfl)) <|
  all_cons (mkFI_ok Tryz.func65 (by kernel_rfl)) <|
  all_cons (mkFI_ok Tryz.func67 (by kernel_rfl)) <|
  all_cons (mkFI_ok Tryz.func71 (by kernel_rfl)) <|
  all_cons (mkFI_ok Tryz.func72 (by kernel_rfl)) <|
  all_cons (mkFI_ok Tryz.func73 (by kernel_rfl)) <|
  all_cons (mkFI_ok Tryz.func68 (by kernel_rfl)) <|
  all_cons (mkFI_ok Tryz.func69 (by kernel_rfl)) <|
  all_cons (mkFI_ok Tryz.func75 (by kernel_rfl)) <|
  all_cons (mkFI_ok Tryz.func74 (by kernel_rfl)) <|
  all_cons (mkFI_ok Tryz.func76 (by kernel_rfl)) <|
  all_cons (mkFI_ok Tryz.func46 (by kernel_rfl)) <|
  all_cons (mkFI_ok Tryz.func79 (by kernel_rfl)) <|
  all_cons (mkFI_ok Tryz.func80 (by kernel_rfl)) <|
  all_cons (mkFI_ok Tryz.func81 (by kernel_rfl)) <|
  all_cons (mkFI_ok Tryz.func84 (by kernel_rfl)) <|
  all_cons (mkFI_ok Tryz.func85 (by kernel_rfl)) <|
  all_cons (mkFI_ok Tryz.func86 (by kernel_rfl)) <|
  all_cons (mkFI_ok Tryz.func87 (by kernel_rfl)) <|
  all_cons (mkFI_ok Tryz.func88 (by kernel_rfl)) <|
  all_cons (mkFI_ok Tryz.func89 (by kernel_rfl)) <|
  all_cons (mkFI_ok Tryz.func90 (by kernel_rfl)) <|
  all_cons (mkFI_ok Tryz.func91 (by kernel_rfl)) <|
  all_cons (mkFI_ok Tryz.func92 (by kernel_rfl)) <|
  all_cons (mkFI_ok Tryz.func82 (by kernel_rfl)) <|
  all_cons (mkFI_ok Tryz.func94 (by kernel_rfl)) <|
  all_cons (mkFI_ok Tryz.func93 (by kernel_rfl)) <|
  all_cons (mkFI_ok Tryz.func95 (by kernel_rfl)) <|
  all_cons (mkFI_ok Tryz.func66 (by kernel_rfl)) <|
  all_cons (mkFI_ok Tryz.func101 (by kernel_rfl)) <|
  all_cons (mkFI_ok Tryz.func109 (by kernel_rfl)) <|
  all_cons (mkFI_ok Tryz.func110 (by kernel_rfl)) <|
  all_cons (mkFI_ok Tryz.func111 (by kernel_rfl)) <|
  all_cons (mkFI_ok Tryz.func112 (by kernel_rfl)) <|
  all_cons (mkFI_ok Tryz.func113 (by kernel_rfl)) <|
  all_cons (mkFI_ok Tryz.func114 (by kernel_rfl)) <|
  all_cons (mkFI_ok Tryz.func115 (by kernel_rfl)) <|
  all_cons (mkFI_ok Tryz.func116 (by kernel_rfl)) <|
  all_cons (mkFI_ok Tryz.func117 (by kernel_rfl)) <|
  all_cons (mkFI_ok Tryz.func118 (by kernel_rfl)) <|
  all_cons (mkFI_ok Tryz.func119 (by kernel_rfl)) <|
  all_cons (mkFI_ok Tryz.func120 (by kernel_rfl)) <|
  all_cons (mkFI_ok Tryz.func121 (by kernel_rfl)) <|
  all_cons (mkFI_ok Tryz.func122 (by kernel_rfl)) <|
  all_cons (mkFI_ok Tryz.func123 (by kernel_rfl)) <|
  all_cons (mkFI_ok Tryz.func124 (by kernel_rfl)) <|
  all_cons (mkFI_ok Tryz.func102 (by kernel_rfl)) <|
  all_cons (mkFI_ok Tryz.func103 (by kernel_rfl)) <|
  all_cons (mkFI_ok Tryz.func104 (by kernel_rfl)) <|
  all_cons (mkFI_ok Tryz.func105 (by kernel_rfl)) <|
  all_cons (mkFI_ok Tryz.func125 (by kernel_rfl)) <|
  all_cons (mkFI_ok Tryz.func96 (by kernel_rfl)) <|
  all_cons (mkFI_ok Tryz.func133 (by kernel_rfl)) <|
  all_cons (mkFI_ok Tryz.func147 (by kernel_rfl)) <|
  all_cons (mkFI_ok Tryz.func148 (by kernel_rfl)) <|
  all_cons (mkFI_ok Tryz.func149 (by kernel_rfl)) <|
  all_cons (mkFI_ok Tryz.func150 (by kernel_rfl)) <|
  all_cons (mkFI_ok Tryz.func151 (by kernel_rfl)) <|
  all_cons (mkFI_ok Tryz.func152 (by kernel_rfl)) <|
  all_cons (mkFI_ok Tryz.func134 (by kernel_rfl)) <|
  all_cons (mkFI_ok Tryz.func135 (by kernel_rfl)) <|
  all_cons (mkFI_ok Tryz.func162 (by kernel_rfl)) <|
  all_cons (prim_lit (cts := [.s]) (rcts := [.b]) Tryz.func62 (by kernel_rfl) (by kernel_rfl) rfl rfl rfl (call_Fits32 (cfg := cfgv) (tyB_ok tys).1 (by kernel_rfl) (fn_ok fnsv) ⟨fi78, by kernel_rfl, rfl⟩)) <|
  all_cons (box_fn (cfg := cfgb) (fi := fib15) (t := 2) (tyB_ok tys).1 (by kernel_rfl) (fn_ok fnsb) (mkFI_ok Tryz.func15 (by kernel_rfl)) rfl (by kernel_rfl) rfl (fun v r h => RunB_get h)) <|
  all_cons (box_fn (cfg := cfgb) (fi := fib70) (t := 2) (tyB_ok tys).1 (by kernel_rfl) (fn_ok fnsb) (mkFI_ok Tryz.func70 (by kernel_rfl)) rfl (by kernel_rfl) rfl (fun v r h => ⟨5000, by rw [cb_spec_l08New, ← evG_eq stpsb]; exact h⟩)) <| all_nil
theorem ce_spec_DrawLibrary (n : Nat) (v : List DC) : callF cfg (n + 1) 5 ⟨[], []⟩ v = C_spec_DrawLibrary (runG cfg evL n) n v := by kernel_rfl
theorem ce_spec_l17Schema (n : Nat) (v : List DC) : callF cfg (n + 1) 14 ⟨[], []⟩ v = C_spec_l17Schema (runG cfg evL n) n v := by kernel_rfl
theorem ce_spec_SchemaOf (n : Nat) (v : List DC) : callF cfg (n + 1) 33 ⟨ol 45 :: [], []⟩ v = C_spec_SchemaOf (runG cfg evL n) n v := by kernel_rfl
theorem ce_spec_l17Defs (n : Nat) (v : List DC) : callF cfg (n + 1) 34 ⟨[], []⟩ v = C_spec_l17Defs (runG cfg evL n) n v := by kernel_rfl
theorem ce_spec_TypeAt (n : Nat) (v : List DC) : callF cfg (n + 1) 11 ⟨.agg [.sl 45, .sl 45, .sl 88] :: os :: [], []⟩ v = C_spec_TypeAt (runG cfg evL n) n v := by kernel_rfl
theorem ce_spec_l16At (n : Nat) (v : List DC) : callF cfg (n + 1) 53 ⟨ol 45 :: oi :: os :: [], []⟩ v = C_spec_l16At (runG cfg evL n) n v := by kernel_rfl
theorem ce_spec_l17Group (n : Nat) (v : List DC) : callF cfg (n + 1) 52 ⟨ol 45 :: oi :: [], []⟩ v = C_spec_l17Group (runG cfg evL n) n v := by kernel_rfl
theorem ce_spec_Parse (n : Nat) (v : List DC) : callF cfg (n + 1) 55 ⟨os :: [], []⟩ v = C_spec_Parse (runG cfg evL n) n v := by kernel_rfl
theorem ce_spec_l17Pieces (n : Nat) (v : List DC) : callF cfg (n + 1) 54 ⟨[], []⟩ v = C_spec_l17Pieces (runG cfg evL n) n v := by kernel_rfl
theorem ce_spec_l16Group (n : Nat) (v : List DC) : callF cfg (n + 1) 68 ⟨oi :: [], []⟩ v = C_spec_l16Group (runG cfg evL n) n v := by kernel_rfl
theorem ce_spec_SortDefs (n : Nat) (v : List DC) : callF cfg (n + 1) 69 ⟨ol 45 :: [], []⟩ v = C_spec_SortDefs (runG cfg evL n) n v := by kernel_rfl
theorem ce_spec_l08Bad (n : Nat) (v : List DC) : callF cfg (n + 1) 72 ⟨.one (.ptr 0 0) :: oi :: [], .var 115 [.sl 153, .i .i64, .i .i64, .i .i64, .i .i64] :: []⟩ v = C_spec_l08Bad (runG cfg evL n) n v := by kernel_rfl
theorem ce_spec_l14Item (n : Nat) (v : List DC) : callF cfg (n + 1) 73 ⟨.one (.ptr 0 0) :: [], .var 115 [.sl 153, .i .i64, .i .i64, .i .i64, .i .i64] :: []⟩ v = C_spec_l14Item (runG cfg evL n) n v := by kernel_rfl
theorem ce_spec_l14Starts (n : Nat) (v : List DC) : callF cfg (n + 1) 71 ⟨.one (.ptr 0 0) :: [], .var 115 [.sl 153, .i .i64, .i .i64, .i .i64, .i .i64] :: []⟩ v = C_spec_l14Starts (runG cfg evL n) n v := by kernel_rfl
theorem ce_spec_l13Copy (n : Nat) (v : List DC) : callF cfg (n + 1) 82 ⟨.agg [.i .i64, .b, .s, .s, .sl 9, .sl 177, .sl 65, .sl 61, .sl 88, .b, .sl 181] :: [], []⟩ v = C_spec_l13Copy (runG cfg evL n) n v := by kernel_rfl
theorem ce_spec_l08At (n : Nat) (v : List DC) : callF cfg (n + 1) 88 ⟨.one (.ptr 0 0) :: [], .var 115 [.sl 153, .i .i64, .i .i64, .i .i64, .i .i64] :: []⟩ v = C_spec_l08At (runG cfg evL n) n v := by kernel_rfl
theorem ce_spec_l08Word (n : Nat) (v : List DC) : callF cfg (n + 1) 85 ⟨.one (.ptr 0 0) :: os :: [], .var 115 [.sl 153, .i .i64, .i .i64, .i .i64, .i .i64] :: []⟩ v = C_spec_l08Word (runG cfg evL n) n v := by kernel_rfl
theorem ce_spec_l12ReadFrag (n : Nat) (v : List DC) : callF cfg (n + 1) 90 ⟨.one (.ptr 0 0) :: [], .var 115 [.sl 153, .i .i64, .i .i64, .i .i64, .i .i64] :: []⟩ v = C_spec_l12ReadFrag (runG cfg evL n) n v := by kernel_rfl
theorem ce_spec_l12ReadOp (n : Nat) (v : List DC) : callF cfg (n + 1) 89 ⟨.one (.ptr 0 0) :: oi :: [], .var 115 [.sl 153, .i .i64, .i .i64, .i .i64, .i .i64] :: []⟩ v = C_spec_l12ReadOp (runG cfg evL n) n v := by kernel_rfl
theorem ce_spec_l13Read (n : Nat) (v : List DC) : callF cfg (n + 1) 92 ⟨.one (.ptr 0 0) :: os :: [], .var 115 [.sl 153, .i .i64, .i .i64, .i .i64, .i .i64] :: []⟩ v = C_spec_l13Read (runG cfg evL n) n v := by kernel_rfl
theorem ce_spec_l13ReadDesc (n : Nat) (v : List DC) : callF cfg (n + 1) 91 ⟨.one (.ptr 0 0) :: [], .var 115 [.sl 153, .i .i64, .i .i64, .i .i64, .i .i64] :: []⟩ v = C_spec_l13ReadDesc (runG cfg evL n) n v := by kernel_rfl
theorem ce_spec_l14Begins (n : Nat) (v : List DC) : callF cfg (n + 1) 84 ⟨.one (.ptr 0 0) :: [], .var 115 [.sl 153, .i .i64, .i .i64, .i .i64, .i .i64] :: []⟩ v = C_spec_l14Begins (runG cfg evL n) n v := by kernel_rfl
theorem ce_spec_l08Kind (n : Nat) (v : List DC) : callF cfg (n + 1) 86 ⟨.one (.ptr 0 0) :: oi :: [], .var 115 [.sl 153, .i .i64, .i .i64, .i .i64, .i .i64] :: []⟩ v = C_spec_l08Kind (runG cfg evL n) n v := by kernel_rfl
theorem ce_spec_l13Begins (n : Nat) (v : List DC) : callF cfg (n + 1) 87 ⟨.one (.ptr 0 0) :: [], .var 115 [.sl 153, .i .i64, .i .i64, .i .i64, .i .i64] :: []⟩ v = C_spec_l13Begins (runG cfg evL n) n v := by kernel_rfl
theorem ce_spec_l10Dirs (n : Nat) (v : List DC) : callF cfg (n + 1) 105 ⟨ol 181 :: [], []⟩ v = C_spec_l10Dirs (runG cfg evL n) n v := by kernel_rfl
theorem ce_spec_l13CopyFields (n : Nat) (v : List DC) : callF cfg (n + 1) 102 ⟨ol 177 :: [], []⟩ v = C_spec_l13CopyFields (runG cfg evL n) n v := by kernel_rfl
theorem ce_spec_l13CopyIns (n : Nat) (v : List DC) : callF cfg (n + 1) 103 ⟨ol 65 :: [], []⟩ v = C_spec_l13CopyIns (runG cfg evL n) n v := by kernel_rfl
theorem ce_spec_l13CopyValues (n : Nat) (v : List DC) : callF cfg (n + 1) 104 ⟨ol 61 :: [], []⟩ v = C_spec_l13CopyValues (runG cfg evL n) n v := by kernel_rfl
theorem ce_spec_l08Name (n : Nat) (v : List DC) : callF cfg (n + 1) 112 ⟨.one (.ptr 0 0) :: [], .var 115 [.sl 153, .i .i64, .i .i64, .i .i64, .i .i64] :: []⟩ v = C_spec_l08Name (runG cfg evL n) n v := by kernel_rfl
theorem ce_spec_l10ReadDirs (n : Nat) (v : List DC) : callF cfg (n + 1) 114 ⟨.one (.ptr 0 0) :: ob :: [], .var 115 [.sl 153, .i .i64, .i .i64, .i .i64, .i .i64] :: []⟩ v = C_spec_l10ReadDirs (runG cfg evL n) n v := by kernel_rfl
theorem ce_spec_l11Read (n : Nat) (v : List DC) : callF cfg (n + 1) 115 ⟨.one (.ptr 0 0) :: oi :: .one (.ptr 1 0) :: [], .var 115 [.sl 153, .i .i64, .i .i64, .i .i64, .i .i64] :: .var 3 [.i .i64] :: []⟩ v = C_spec_l11Read (runG cfg evL n) n v := by kernel_rfl
theorem ce_spec_l08Is (n : Nat) (v : List DC) : callF cfg (n + 1) 109 ⟨.one (.ptr 0 0) :: os :: [], .var 115 [.sl 153, .i .i64, .i .i64, .i .i64, .i .i64] :: []⟩ v = C_spec_l08Is (runG cfg evL n) n v := by kernel_rfl
theorem ce_spec_l12ReadVars (n : Nat) (v : List DC) : callF cfg (n + 1) 113 ⟨.one (.ptr 0 0) :: [], .var 115 [.sl 153, .i .i64, .i .i64, .i .i64, .i .i64] :: []⟩ v = C_spec_l12ReadVars (runG cfg evL n) n v := by kernel_rfl
theorem ce_spec_l08Opt (n : Nat) (v : List DC) : callF cfg (n + 1) 121 ⟨.one (.ptr 0 0) :: os :: [], .var 115 [.sl 153, .i .i64, .i .i64, .i .i64, .i .i64] :: []⟩ v = C_spec_l08Opt (runG cfg evL n) n v := by kernel_rfl
theorem ce_spec_l08Take (n : Nat) (v : List DC) : callF cfg (n + 1) 116 ⟨.one (.ptr 0 0) :: os :: [], .var 115 [.sl 153, .i .i64, .i .i64, .i .i64, .i .i64] :: []⟩ v = C_spec_l08Take (runG cfg evL n) n v := by kernel_rfl
theorem ce_spec_l13Has (n : Nat) (v : List DC) : callF cfg (n + 1) 124 ⟨.agg [.i .i64, .b, .s, .s, .sl 9, .sl 177, .sl 65, .sl 61, .sl 88, .b, .sl 181] :: [], []⟩ v = C_spec_l13Has (runG cfg evL n) n v := by kernel_rfl
theorem ce_spec_l13ReadFields (n : Nat) (v : List DC) : callF cfg (n + 1) 120 ⟨.one (.ptr 0 0) :: [], .var 115 [.sl 153, .i .i64, .i .i64, .i .i64, .i .i64] :: []⟩ v = C_spec_l13ReadFields (runG cfg evL n) n v := by kernel_rfl
theorem ce_spec_l13ReadIns (n : Nat) (v : List DC) : callF cfg (n + 1) 117 ⟨.one (.ptr 0 0) :: os :: os :: [], .var 115 [.sl 153, .i .i64, .i .i64, .i .i64, .i .i64] :: []⟩ v = C_spec_l13ReadIns (runG cfg evL n) n v := by kernel_rfl
theorem ce_spec_l13ReadNames (n : Nat) (v : List DC) : callF cfg (n + 1) 119 ⟨.one (.ptr 0 0) :: os :: [], .var 115 [.sl 153, .i .i64, .i .i64, .i .i64, .i .i64] :: []⟩ v = C_spec_l13ReadNames (runG cfg evL n) n v := by kernel_rfl
theorem ce_spec_l13ReadPlaces (n : Nat) (v : List DC) : callF cfg (n + 1) 118 ⟨.one (.ptr 0 0) :: [], .var 115 [.sl 153, .i .i64, .i .i64, .i .i64, .i .i64] :: []⟩ v = C_spec_l13ReadPlaces (runG cfg evL n) n v := by kernel_rfl
theorem ce_spec_l13ReadRoots (n : Nat) (v : List DC) : callF cfg (n + 1) 123 ⟨.one (.ptr 0 0) :: [], .var 115 [.sl 153, .i .i64, .i .i64, .i .i64, .i .i64] :: []⟩ v = C_spec_l13ReadRoots (runG cfg evL n) n v := by kernel_rfl
theorem ce_spec_l13ReadValues (n : Nat) (v : List DC) : callF cfg (n + 1) 122 ⟨.one (.ptr 0 0) :: [], .var 115 [.sl 153, .i .i64, .i .i64, .i .i64, .i .i64] :: []⟩ v = C_spec_l13ReadValues (runG cfg evL n) n v := by kernel_rfl
theorem ce_spec_OpWord (n : Nat) (v : List DC) : callF cfg (n + 1) 110 ⟨oi :: [], []⟩ v = C_spec_OpWord (runG cfg evL n) n v := by kernel_rfl
theorem ce_spec_l13Word (n : Nat) (v : List DC) : callF cfg (n + 1) 111 ⟨oi :: [], []⟩ v = C_spec_l13Word (runG cfg evL n) n v := by kernel_rfl
theorem ce_spec_l10Args (n : Nat) (v : List DC) : callF cfg (n + 1) 135 ⟨ol 199 :: [], []⟩ v = C_spec_l10Args (runG cfg evL n) n v := by kernel_rfl
theorem ce_spec_l07Copy (n : Nat) (v : List DC) : callF cfg (n + 1) 134 ⟨.agg [.i .i64, .s, .sl 34, .sl 9] :: [], []⟩ v = C_spec_l07Copy (runG cfg evL n) n v := by kernel_rfl
theorem ce_spec_l10ReadArgs (n : Nat) (v : List DC) : callF cfg (n + 1) 149 ⟨.one (.ptr 0 0) :: ob :: [], .var 115 [.sl 153, .i .i64, .i .i64, .i .i64, .i .i64] :: []⟩ v = C_spec_l10ReadArgs (runG cfg evL n) n v := by kernel_rfl
theorem ce_spec_l08Value (n : Nat) (v : List DC) : callF cfg (n + 1) 148 ⟨.one (.ptr 0 0) :: ob :: oi :: [], .var 115 [.sl 153, .i .i64, .i .i64, .i .i64, .i .i64] :: []⟩ v = C_spec_l08Value (runG cfg evL n) n v := by kernel_rfl
theorem ce_spec_l09Type (n : Nat) (v : List DC) : callF cfg (n + 1) 147 ⟨.one (.ptr 0 0) :: [], .var 115 [.sl 153, .i .i64, .i .i64, .i .i64, .i .i64] :: []⟩ v = C_spec_l09Type (runG cfg evL n) n v := by kernel_rfl
theorem ce_spec_l13ReadIn (n : Nat) (v : List DC) : callF cfg (n + 1) 150 ⟨.one (.ptr 0 0) :: [], .var 115 [.sl 153, .i .i64, .i .i64, .i .i64, .i .i64] :: []⟩ v = C_spec_l13ReadIn (runG cfg evL n) n v := by kernel_rfl
theorem ce_spec_PlaceOk (n : Nat) (v : List DC) : callF cfg (n + 1) 151 ⟨os :: [], []⟩ v = C_spec_PlaceOk (runG cfg evL n) n v := by kernel_rfl
theorem ce_spec_Word (n : Nat) (v : List DC) : callF cfg (n + 1) 152 ⟨os :: [], []⟩ v = C_spec_Word (runG cfg evL n) n v := by kernel_rfl
theorem ce_spec_l09Wrap (n : Nat) (v : List DC) : callF cfg (n + 1) 162 ⟨.one (.ptr 0 0) :: .agg [.s, .s] :: os :: [], .var 115 [.sl 153, .i .i64, .i .i64, .i .i64, .i .i64] :: []⟩ v = C_spec_l09Wrap (runG cfg evL n) n v := by kernel_rfl
theorem stps : ∀ x ∈ evL, StpOk cfg evL x :=
  stp_cons ce_spec_DrawLibrary <|
  stp_cons ce_spec_l17Schema <|
  stp_cons ce_spec_SchemaOf <|
  stp_cons ce_spec_l17Defs <|
  stp_cons ce_spec_TypeAt <|
  stp_cons ce_spec_l16At <|
  stp_cons ce_spec_l17Group <|
  stp_cons ce_spec_Parse <|
  stp_cons ce_spec_l17Pieces <|
  stp_cons ce_spec_l16Group <|
  stp_cons ce_spec_SortDefs <|
  stp_cons ce_spec_l08Bad <|
  stp_cons ce_spec_l14Item <|
  stp_cons ce_spec_l14Starts <|
  stp_cons ce_spec_l13Copy <|
  stp_cons ce_spec_l08At <|
  stp_cons ce_spec_l08Word <|
  stp_cons ce_spec_l12ReadFrag <|
  stp_cons ce_spec_l12ReadOp <|
  stp_cons ce_spec_l13Read <|
  stp_cons ce_spec_l13ReadDesc <|
  stp_cons ce_spec_l14Begins <|
  stp_cons ce_spec_l08Kind <|
  stp_cons ce_spec_l13Begins <|
  stp_cons ce_spec_l10Dirs <|
  stp_cons ce_spec_l13CopyFields <|
  stp_cons ce_spec_l13CopyIns <|
  stp_cons ce_spec_l13CopyValues <|
  stp_cons ce_spec_l08Name <|
  stp_cons ce_spec_l10ReadDirs <|
  stp_cons ce_spec_l11Read <|
  stp_cons ce_spec_l08Is <|
  stp_cons ce_spec_l12ReadVars <|
  stp_cons ce_spec_l08Opt <|
  stp_cons ce_spec_l08Take <|
  stp_cons ce_spec_l13Has <|
  stp_cons ce_spec_l13ReadFields <|
  stp_cons ce_spec_l13ReadIns <|
  stp_cons ce_spec_l13ReadNames <|
  stp_cons ce_spec_l13ReadPlaces <|
  stp_cons ce_spec_l13ReadRoots <|
  stp_cons ce_spec_l13ReadValues <|
  stp_cons ce_spec_OpWord <|
  stp_cons ce_spec_l13Word <|
  stp_cons ce_spec_l10Args <|
  stp_cons ce_spec_l07Copy <|
  stp_cons ce_spec_l10ReadArgs <|
  stp_cons ce_spec_l08Value <|
  stp_cons ce_spec_l09Type <|
  stp_cons ce_spec_l13ReadIn <|
  stp_cons ce_spec_PlaceOk <|
  stp_cons ce_spec_Word <|
  stp_cons ce_spec_l09Wrap <|
  stp_nil
noncomputable def r_laws_FnFits (a : List DC) : Out := Run cfg 3 ⟨ol 5 :: [], []⟩ a
noncomputable def r_laws_big (a : List DC) : Out := Run cfg 4 ⟨ol 5 :: [], []⟩ a
noncomputable def r_spec_DrawLibrary (a : List DC) : Out := Run cfg 5 ⟨[], []⟩ a
noncomputable def r_spec_DrawFitting (a : List DC) : Out := Run cfg 6 ⟨ol 5 :: [], []⟩ a
noncomputable def r_impl_Fits (a : List DC) : Out := Run cfg 7 ⟨.agg [.sl 45, .sl 45, .sl 88] :: .agg [.i .i64, .s, .sl 34, .sl 9] :: .agg [.s, .s] :: [], []⟩ a
noncomputable def r_spec_Fits (a : List DC) : Out := Run cfg 8 ⟨.agg [.sl 45, .sl 45, .sl 88] :: .agg [.i .i64, .s, .sl 34, .sl 9] :: .agg [.s, .s] :: [], []⟩ a
noncomputable def r_impl_Needed (a : List DC) : Out := Run cfg 9 ⟨.agg [.s, .s] :: [], []⟩ a
noncomputable def r_spec_TypeAt (a : List DC) : Out := Run cfg 11 ⟨.agg [.sl 45, .sl 45, .sl 88] :: os :: [], []⟩ a
noncomputable def r_impl_InAt (a : List DC) : Out := Run cfg 10 ⟨ol 65 :: os :: [], []⟩ a
noncomputable def r_impl_RequiredIn (a : List DC) : Out := Run cfg 13 ⟨ol 65 :: [], []⟩ a
noncomputable def r_laws_sameTexts (a : List DC) : Out := Run cfg 12 ⟨ol 9 :: ol 9 :: [], []⟩ a
noncomputable def r_spec_l01Pick (a : List DC) : Out := Run cfg 16 ⟨.one (.ptr 0 0) :: ol 9 :: [], .var 70 [.sl 5, .i .i64, .i .i64] :: []⟩ a
noncomputable def r_spec_l19For (a : List DC) : Out := Run cfg 17 ⟨.one (.ptr 0 0) :: .agg [.s, .s] :: oi :: [], .var 70 [.sl 5, .i .i64, .i .i64] :: []⟩ a
noncomputable def r_impl_isNull (a : List DC) : Out := Run cfg 18 ⟨.agg [.i .i64, .s, .sl 34, .sl 9] :: [], []⟩ a
noncomputable def r_impl_Fewer (a : List DC) : Out := Run cfg 19 ⟨.agg [.s, .s] :: [], []⟩ a
noncomputable def r_strings_HasSuffix (a : List DC) : Out := Run cfg 20 ⟨os :: os :: [], []⟩ a
noncomputable def r_impl_Inner (a : List DC) : Out := Run cfg 21 ⟨.agg [.s, .s] :: [], []⟩ a
noncomputable def r_slices_ContainsFunc_impl_Value__impl_Fits_1 (a : List DC) : Out := Run cfg 22 ⟨ol 34 :: .one (.fn 23 [0, 1]) :: [], .var 27 [.sl 45, .sl 45, .sl 88] :: .var 30 [.s, .s] :: []⟩ a
noncomputable def r_impl_fitsName (a : List DC) : Out := Run cfg 24 ⟨.agg [.sl 45, .sl 45, .sl 88] :: .agg [.i .i64, .s, .sl 34, .sl 9] :: os :: [], []⟩ a
noncomputable def r_spec_Needed (a : List DC) : Out := Run cfg 25 ⟨.agg [.s, .s] :: [], []⟩ a
noncomputable def r_spec_Fewer (a : List DC) : Out := Run cfg 26 ⟨.agg [.s, .s] :: [], []⟩ a
noncomputable def r_spec_Inner (a : List DC) : Out := Run cfg 27 ⟨.agg [.s, .s] :: [], []⟩ a
noncomputable def r_spec_BuiltIn (a : List DC) : Out := Run cfg 28 ⟨os :: [], []⟩ a
noncomputable def r_spec_l19Scalar (a : List DC) : Out := Run cfg 29 ⟨os :: .agg [.i .i64, .s, .sl 34, .sl 9] :: [], []⟩ a
noncomputable def r_spec_l19Input (a : List DC) : Out := Run cfg 30 ⟨.agg [.sl 45, .sl 45, .sl 88] :: ol 65 :: .agg [.i .i64, .s, .sl 34, .sl 9] :: [], []⟩ a
noncomputable def r_slices_IndexFunc_impl_InDef__impl_InAt_1 (a : List DC) : Out := Run cfg 31 ⟨ol 65 :: .one (.fn 32 [0]) :: [], .var 9 [.s] :: []⟩ a
noncomputable def r_spec_l01Below (a : List DC) : Out := Run cfg 35 ⟨.one (.ptr 0 0) :: oi :: [], .var 70 [.sl 5, .i .i64, .i .i64] :: []⟩ a
noncomputable def r_spec_l01Once (a : List DC) : Out := Run cfg 36 ⟨.one (.ptr 0 0) :: oi :: [], .var 70 [.sl 5, .i .i64, .i .i64] :: []⟩ a
noncomputable def r_spec_l07Value (a : List DC) : Out := Run cfg 37 ⟨.one (.ptr 0 0) :: oi :: ob :: [], .var 70 [.sl 5, .i .i64, .i .i64] :: []⟩ a
noncomputable def r_strings_TrimSuffix (a : List DC) : Out := Run cfg 38 ⟨os :: os :: [], []⟩ a
noncomputable def r_internal_stringslite_HasSuffix (a : List DC) : Out := Run cfg 39 ⟨os :: os :: [], []⟩ a
noncomputable def r_strings_CutSuffix (a : List DC) : Out := Run cfg 40 ⟨os :: os :: [], []⟩ a
noncomputable def r_slices_IndexFunc_impl_Value__impl_Fits_1 (a : List DC) : Out := Run cfg 41 ⟨ol 34 :: .one (.fn 23 [0, 1]) :: [], .var 27 [.sl 45, .sl 45, .sl 88] :: .var 30 [.s, .s] :: []⟩ a
noncomputable def r_impl_typeDef (a : List DC) : Out := Run cfg 42 ⟨.agg [.sl 45, .sl 45, .sl 88] :: os :: [], []⟩ a
noncomputable def r_impl_BuiltIn (a : List DC) : Out := Run cfg 43 ⟨os :: [], []⟩ a
noncomputable def r_impl_fitsBuiltIn (a : List DC) : Out := Run cfg 44 ⟨.agg [.i .i64, .s, .sl 34, .sl 9] :: os :: [], []⟩ a
noncomputable def r_slices_ContainsFunc_impl_EnumDef__impl_fitsName_1 (a : List DC) : Out := Run cfg 45 ⟨ol 61 :: .one (.fn 46 [0]) :: [], .var 34 [.i .i64, .s, .sl 34, .sl 9] :: []⟩ a
noncomputable def r_impl_fitsInput (a : List DC) : Out := Run cfg 47 ⟨.agg [.sl 45, .sl 45, .sl 88] :: .agg [.i .i64, .s, .sl 34, .sl 9] :: .agg [.i .i64, .b, .s, .s, .sl 9, .sl 177, .sl 65, .sl 61, .sl 88, .b, .sl 181] :: [], []⟩ a
noncomputable def r_spec_Fits32 (a : List DC) : Out := Run cfg 48 ⟨os :: [], []⟩ a
noncomputable def r_spec_InAt (a : List DC) : Out := Run cfg 49 ⟨ol 65 :: os :: [], []⟩ a
noncomputable def r_spec_l18Has (a : List DC) : Out := Run cfg 50 ⟨ol 9 :: os :: [], []⟩ a
noncomputable def r_spec_RequiredIn (a : List DC) : Out := Run cfg 51 ⟨ol 65 :: [], []⟩ a
noncomputable def r_impl_InAt_1 (a : List DC) : Out := Run cfg 32 ⟨.agg [.s, .s, .s, .s, .b, .i .i64, .s, .sl 34, .sl 9, .sl 181] :: .one (.ptr 0 0) :: [], .var 9 [.s] :: []⟩ a
noncomputable def r_spec_l01Byte (a : List DC) : Out := Run cfg 56 ⟨.one (.ptr 0 0) :: [], .var 70 [.sl 5, .i .i64, .i .i64] :: []⟩ a
noncomputable def r_spec_l02Text (a : List DC) : Out := Run cfg 57 ⟨.one (.ptr 0 0) :: [], .var 70 [.sl 5, .i .i64, .i .i64] :: []⟩ a
noncomputable def r_spec_l03Name (a : List DC) : Out := Run cfg 58 ⟨.one (.ptr 0 0) :: [], .var 70 [.sl 5, .i .i64, .i .i64] :: []⟩ a
noncomputable def r_internal_stringslite_TrimSuffix (a : List DC) : Out := Run cfg 59 ⟨os :: os :: [], []⟩ a
noncomputable def r_internal_stringslite_CutSuffix (a : List DC) : Out := Run cfg 60 ⟨os :: os :: [], []⟩ a
noncomputable def r_impl_Fits_1 (a : List DC) : Out := Run cfg 23 ⟨.agg [.i .i64, .s, .sl 34, .sl 9] :: .one (.ptr 0 0) :: .one (.ptr 1 0) :: [], .var 27 [.sl 45, .sl 45, .sl 88] :: .var 30 [.s, .s] :: []⟩ a
noncomputable def r_impl_TypeAt (a : List DC) : Out := Run cfg 61 ⟨.agg [.sl 45, .sl 45, .sl 88] :: os :: [], []⟩ a
noncomputable def r_impl_Fits32 (a : List DC) : Out := Run cfg 62 ⟨[.one .s], []⟩ a
noncomputable def r_slices_IndexFunc_impl_EnumDef__impl_fitsName_1 (a : List DC) : Out := Run cfg 63 ⟨ol 61 :: .one (.fn 46 [0]) :: [], .var 34 [.i .i64, .s, .sl 34, .sl 9] :: []⟩ a
noncomputable def r_slices_Contains_string (a : List DC) : Out := Run cfg 64 ⟨ol 9 :: os :: [], []⟩ a
noncomputable def r_slices_ContainsFunc_string__impl_fitsInput_1 (a : List DC) : Out := Run cfg 65 ⟨ol 9 :: .one (.fn 66 [0]) :: [], .var 34 [.i .i64, .s, .sl 34, .sl 9] :: []⟩ a
noncomputable def r_spec_IntOk (a : List DC) : Out := Run cfg 67 ⟨os :: [], []⟩ a
noncomputable def r_spec_l02Rune (a : List DC) : Out := Run cfg 75 ⟨.one (.ptr 0 0) :: [], .var 70 [.sl 5, .i .i64, .i .i64] :: []⟩ a
noncomputable def r_spec_RuneText (a : List DC) : Out := Run cfg 74 ⟨oi :: [], []⟩ a
noncomputable def r_impl_named (a : List DC) : Out := Run cfg 76 ⟨ol 45 :: os :: [], []⟩ a
noncomputable def r_impl_IntOk (a : List DC) : Out := Run cfgv 78 ⟨os :: [], []⟩ a
noncomputable def r_impl_fitsName_1 (a : List DC) : Out := Run cfg 46 ⟨.agg [.s, .s, .sl 181] :: .one (.ptr 0 0) :: [], .var 34 [.i .i64, .s, .sl 34, .sl 9] :: []⟩ a
noncomputable def r_slices_Index_string (a : List DC) : Out := Run cfg 79 ⟨ol 9 :: os :: [], []⟩ a
noncomputable def r_slices_IndexFunc_string__impl_fitsInput_1 (a : List DC) : Out := Run cfg 80 ⟨ol 9 :: .one (.fn 66 [0]) :: [], .var 34 [.i .i64, .s, .sl 34, .sl 9] :: []⟩ a
noncomputable def r_spec_l03Int (a : List DC) : Out := Run cfg 81 ⟨os :: [], []⟩ a
noncomputable def r_spec_l01PickInt (a : List DC) : Out := Run cfg 94 ⟨.one (.ptr 0 0) :: ol 3 :: [], .var 70 [.sl 5, .i .i64, .i .i64] :: []⟩ a
noncomputable def r_spec_l02Scalar (a : List DC) : Out := Run cfg 93 ⟨oi :: [], []⟩ a
noncomputable def r_slices_IndexFunc_impl_Def__impl_named_1 (a : List DC) : Out := Run cfg 95 ⟨ol 45 :: .one (.fn 96 [0]) :: [], .var 9 [.s] :: []⟩ a
noncomputable def r_strings_TrimPrefix (a : List DC) : Out := Run cfgv 99 ⟨os :: os :: [], []⟩ a
noncomputable def r_impl_figures (a : List DC) : Out := Run cfgv 100 ⟨os :: [], []⟩ a
noncomputable def r_impl_fitsInput_1 (a : List DC) : Out := Run cfg 66 ⟨os :: .one (.ptr 0 0) :: [], .var 34 [.i .i64, .s, .sl 34, .sl 9] :: []⟩ a
noncomputable def r_spec_l03Run (a : List DC) : Out := Run cfg 101 ⟨os :: oi :: [], []⟩ a
noncomputable def r_spec_l01In (a : List DC) : Out := Run cfg 125 ⟨oi :: oi :: oi :: [], []⟩ a
noncomputable def r_impl_named_1 (a : List DC) : Out := Run cfg 96 ⟨.agg [.i .i64, .b, .s, .s, .sl 9, .sl 177, .sl 65, .sl 61, .sl 88, .b, .sl 181] :: .one (.ptr 0 0) :: [], .var 9 [.s] :: []⟩ a
noncomputable def r_internal_stringslite_TrimPrefix (a : List DC) : Out := Run cfgv 131 ⟨os :: os :: [], []⟩ a
noncomputable def r_impl_isFigure (a : List DC) : Out := Run cfgv 132 ⟨.one (.i .u8) :: [], []⟩ a
noncomputable def r_spec_l03Figure (a : List DC) : Out := Run cfg 133 ⟨.one (.i .u8) :: [], []⟩ a
noncomputable def r_internal_stringslite_HasPrefix (a : List DC) : Out := Run cfgv 158 ⟨os :: os :: [], []⟩ a
theorem cl_spec_DrawLibrary {v r : List DC} (e : evG evL 5000 81 v = .ret r) : r_spec_DrawLibrary v = .ret r := evG_run stps (i := 81) rfl e
noncomputable def E_laws_FnFits (a : List DC) : Out :=
 (r_laws_big [.sl ((a.getD 0 d0).ll)]).bindR fun r1 =>
 if (r1.getD 0 d0).bb = true then
 .ret [.b true]
 else
 (r_spec_DrawLibrary []).bindR fun r2 =>
 (r_spec_DrawFitting [.sl ((a.getD 0 d0).ll)]).bindR fun r3 =>
 (r_spec_DrawFitting [.sl ((a.getD 0 d0).ll)]).bindR fun r4 =>
 (r_impl_Fits [.sl ((r2.getD 0 d0).ll), .sl ((r2.getD 1 d0).ll), .sl ((r2.getD 2 d0).ll), .i ((r3.getD 2 d0).ii), .s ((r3.getD 3 d0).ss), .sl ((r3.getD 4 d0).ll), .sl ((r3.getD 5 d0).ll), .s ((r3.getD 0 d0).ss), .s ((r3.getD 1 d0).ss)]).bindR fun r5 =>
 Out.andThen ((r_spec_DrawLibrary []).bindR fun r6 =>
 (r_spec_Fits [.sl ((r6.getD 0 d0).ll), .sl ((r6.getD 1 d0).ll), .sl ((r6.getD 2 d0).ll), .i ((r4.getD 2 d0).ii), .s ((r4.getD 3 d0).ss), .sl ((r4.getD 4 d0).ll), .sl ((r4.getD 5 d0).ll), .s ((r4.getD 0 d0).ss), .s ((r4.getD 1 d0).ss)]).bindR fun r7 =>
 if (!((r5.getD 0 d0).bb == (r7.getD 0 d0).bb)) = true then
 .norm [.b ((r5.getD 0 d0).bb), .b true, .sl ((r2.getD 0 d0).ll), .sl ((r2.getD 1 d0).ll), .sl ((r2.getD 2 d0).ll), .s ((r3.getD 0 d0).ss), .s ((r3.getD 1 d0).ss), .i (7 : Int), .s [], .sl [[DC.i ((r3.getD 2 d0).ii), DC.s ((r3.getD 3 d0).ss), DC.sl ((r3.getD 4 d0).ll), DC.sl ((r3.getD 5 d0).ll)], [DC.i ((r3.getD 2 d0).ii), DC.s ((r3.getD 3 d0).ss), DC.sl ((r3.getD 4 d0).ll), DC.sl ((r3.getD 5 d0).ll)]]]
 else
 (r_impl_Fits [.sl ((r2.getD 0 d0).ll), .sl ((r2.getD 1 d0).ll), .sl ((r2.getD 2 d0).ll), .i (5 : Int), .s ([110, 117, 108, 108] : List UInt8), .sl [], .sl [], .s ((r3.getD 0 d0).ss), .s ((r3.getD 1 d0).ss)]).bindR fun r8 =>
 (r_impl_Needed [.s ((r3.getD 0 d0).ss), .s ((r3.getD 1 d0).ss)]).bindR fun r9 =>
 if ((r8.getD 0 d0).bb == (r9.getD 0 d0).bb) = true then
 .norm [.b ((r5.getD 0 d0).bb), .b true, .sl ((r2.getD 0 d0).ll), .sl ((r2.getD 1 d0).ll), .sl ((r2.getD 2 d0).ll), .s ((r3.getD 0 d0).ss), .s ((r3.getD 1 d0).ss), .i (7 : Int), .s [], .sl [[DC.i ((r3.getD 2 d0).ii), DC.s ((r3.getD 3 d0).ss), DC.sl ((r3.getD 4 d0).ll), DC.sl ((r3.getD 5 d0).ll)], [DC.i ((r3.getD 2 d0).ii), DC.s ((r3.getD 3 d0).ss), DC.sl ((r3.getD 4 d0).ll), DC.sl ((r3.getD 5 d0).ll)]]]
 else
 (r_impl_Fits [.sl ((r2.getD 0 d0).ll), .sl ((r2.getD 1 d0).ll), .sl ((r2.getD 2 d0).ll), .i (1 : Int), .s ([120] : List UInt8), .sl [], .sl [], .s ((r3.getD 0 d0).ss), .s ((r3.getD 1 d0).ss)]).bindR fun r10 =>
 .norm [.b ((r5.getD 0 d0).bb), .b (!((r10.getD 0 d0).bb)), .sl ((r2.getD 0 d0).ll), .sl ((r2.getD 1 d0).ll), .sl ((r2.getD 2 d0).ll), .s ((r3.getD 0 d0).ss), .s ((r3.getD 1 d0).ss), .i (7 : Int), .s [], .sl [[DC.i ((r3.getD 2 d0).ii), DC.s ((r3.getD 3 d0).ss), DC.sl ((r3.getD 4 d0).ll), DC.sl ((r3.getD 5 d0).ll)], [DC.i ((r3.getD 2 d0).ii), DC.s ((r3.getD 3 d0).ss), DC.sl ((r3.getD 4 d0).ll), DC.sl ((r3.getD 5 d0).ll)]]]) fun v11 =>
 if (v11.getD 1 d0).bb = true then
 .ret [.b false]
 else
 Out.andThen (if ((v11.getD 6 d0).ss).length + ([93, 33] : List UInt8).length < LIM then
 (r_impl_Fits [.sl ((v11.getD 2 d0).ll), .sl ((v11.getD 3 d0).ll), .sl ((v11.getD 4 d0).ll), .i ((v11.getD 7 d0).ii), .s ((v11.getD 8 d0).ss), .sl ((v11.getD 9 d0).ll), .sl [], .s ((v11.getD 5 d0).ss), .s (((v11.getD 6 d0).ss) ++ ([93, 33] : List UInt8))]).bindR fun r12 =>
 if ((r12.getD 0 d0).bb == (v11.getD 0 d0).bb) = true then
 (r_spec_TypeAt [.sl ((v11.getD 2 d0).ll), .sl ((v11.getD 3 d0).ll), .sl ((v11.getD 4 d0).ll), .s ([70, 105, 110, 100] : List UInt8)]).bindR fun r13 =>
 if 45 = 45 ∧ 0 ≤ (r13.getD 0 d0).ii ∧ (r13.getD 0 d0).ii < (((v11.getD 2 d0).ll).length : Int) then
 (r_impl_InAt [.sl (((((v11.getD 2 d0).ll).getD ((r13.getD 0 d0).ii).toNat []).getD 6 d0).ll), .s ([116, 101, 120, 116] : List UInt8)]).bindR fun r14 =>
 if ((r14.getD 0 d0).ii == (0 : Int)) = true then
 (r_spec_TypeAt [.sl ((v11.getD 2 d0).ll), .sl ((v11.getD 3 d0).ll), .sl ((v11.getD 4 d0).ll), .s ([70, 105, 110, 100] : List UInt8)]).bindR fun r15 =>
 if 45 = 45 ∧ 0 ≤ (r15.getD 0 d0).ii ∧ (r15.getD 0 d0).ii < (((v11.getD 2 d0).ll).length : Int) then
 (r_impl_RequiredIn [.sl (((((v11.getD 2 d0).ll).getD ((r15.getD 0 d0).ii).toNat []).getD 6 d0).ll)]).bindR fun r16 =>
 (r_laws_sameTexts [.sl ((r16.getD 0 d0).ll), .sl [[DC.s ([116, 101, 120, 116] : List UInt8)]]]).bindR fun r17 =>
 .norm [.b ((r17.getD 0 d0).bb)]
 else
 .fail
 else
 .norm [.b false]
 else
 .fail
 else
 .norm [.b false]
 else
 .fail) fun v18 =>
 .ret [.b ((v18.getD 0 d0).bb)]
theorem eq_laws_FnFits a : r_laws_FnFits a = E_laws_FnFits a := (Run_eq cfg 3 _ a).trans (by kernel_rfl)
noncomputable def E_laws_big (a : List DC) : Out :=
 .ret [.b (decide ((((a.getD 0 d0).ll).length : Int) > (1048576 : Int)))]
theorem eq_laws_big a : r_laws_big a = E_laws_big a := (Run_eq cfg 4 _ a).trans (by kernel_rfl)
noncomputable def E_spec_DrawFitting (a : List DC) : Out :=
 if bsz (rb_spec_l01New [.sl ((a.getD 0 d0).ll)]) < LIM then
 (r_spec_l01Pick [.sl [[DC.s ([73, 110, 116] : List UInt8)], [DC.s ([70, 108, 111, 97, 116] : List UInt8)], [DC.s ([83, 116, 114, 105, 110, 103] : List UInt8)], [DC.s ([66, 111, 111, 108, 101, 97, 110] : List UInt8)], [DC.s ([73, 68] : List UInt8)], [DC.s ([67, 111, 108, 111, 114] : List UInt8)], [DC.s ([70, 105, 110, 100] : List UInt8)], [DC.s ([68, 97, 116, 101] : List UInt8)]], .sl (((retD (rb_spec_l01New [.sl ((a.getD 0 d0).ll)])).getD 0 d0).ll), .i (((retD (rb_spec_l01New [.sl ((a.getD 0 d0).ll)])).getD 1 d0).ii), .i (((retD (rb_spec_l01New [.sl ((a.getD 0 d0).ll)])).getD 2 d0).ii)]).bindR fun r1 =>
 (r_spec_l01Pick [.sl [[DC.s ([] : List UInt8)], [DC.s ([33] : List UInt8)], [DC.s ([93] : List UInt8)], [DC.s ([33, 93, 33] : List UInt8)]], .sl ((r1.getD 1 d0).ll), .i ((r1.getD 2 d0).ii), .i ((r1.getD 3 d0).ii)]).bindR fun r2 =>
 (r_spec_l19For [.s ((r1.getD 0 d0).ss), .s ((r2.getD 0 d0).ss), .i (2 : Int), .sl ((r2.getD 1 d0).ll), .i ((r2.getD 2 d0).ii), .i ((r2.getD 3 d0).ii)]).bindR fun r3 =>
 .ret [.s ((r1.getD 0 d0).ss), .s ((r2.getD 0 d0).ss), .i ((r3.getD 0 d0).ii), .s ((r3.getD 1 d0).ss), .sl ((r3.getD 2 d0).ll), .sl ((r3.getD 3 d0).ll)]
 else
 .fail
theorem eq_spec_DrawFitting a : r_spec_DrawFitting a = E_spec_DrawFitting a := (Run_eq cfg 6 _ a).trans (by kernel_rfl)
noncomputable def E_impl_Fits (a : List DC) : Out :=
 Out.andThenB (if ((a.getD 3 d0).ii == (1 : Int)) = true then
 .ret [.b true]
 else
 (r_impl_isNull [.i ((a.getD 3 d0).ii), .s ((a.getD 4 d0).ss), .sl ((a.getD 5 d0).ll), .sl ((a.getD 6 d0).ll)]).bindR fun r1 =>
 if (r1.getD 0 d0).bb = true then
 (r_impl_Needed [.s ((a.getD 7 d0).ss), .s ((a.getD 8 d0).ss)]).bindR fun r2 =>
 .ret [.b (!((r2.getD 0 d0).bb))]
 else
 .norm [.sl ((a.getD 0 d0).ll), .sl ((a.getD 1 d0).ll), .sl ((a.getD 2 d0).ll), .i ((a.getD 3 d0).ii), .s ((a.getD 4 d0).ss), .sl ((a.getD 5 d0).ll), .sl ((a.getD 6 d0).ll), .s ((a.getD 7 d0).ss), .s ((a.getD 8 d0).ss)]) 0 fun v3 =>
 (r_impl_Fewer [.s ((v3.getD 7 d0).ss), .s ((v3.getD 8 d0).ss)]).bindR fun r4 =>
 Out.andThenB ((r_strings_HasSuffix [.s ((r4.getD 1 d0).ss), .s ([93] : List UInt8)]).bindR fun r5 =>
 if (r5.getD 0 d0).bb = true then
 if ((v3.getD 3 d0).ii != (7 : Int)) = true then
 (r_impl_Inner [.s ((r4.getD 0 d0).ss), .s ((r4.getD 1 d0).ss)]).bindR fun r6 =>
 (r_impl_Fits [.sl ((v3.getD 0 d0).ll), .sl ((v3.getD 1 d0).ll), .sl ((v3.getD 2 d0).ll), .i ((v3.getD 3 d0).ii), .s ((v3.getD 4 d0).ss), .sl ((v3.getD 5 d0).ll), .sl ((v3.getD 6 d0).ll), .s ((r6.getD 0 d0).ss), .s ((r6.getD 1 d0).ss)]).bindR fun r7 =>
 .ret [.b ((r7.getD 0 d0).bb)]
 else
 (r_slices_ContainsFunc_impl_Value__impl_Fits_1 [.sl ((v3.getD 5 d0).ll), .sl ((v3.getD 0 d0).ll), .sl ((v3.getD 1 d0).ll), .sl ((v3.getD 2 d0).ll), .s ((r4.getD 0 d0).ss), .s ((r4.getD 1 d0).ss)]).bindR fun r8 =>
 .ret [.b (!((r8.getD 0 d0).bb))]
 else
 if (!((r4.getD 1 d0).ss == ([] : List UInt8))) = true then
 .ret [.b false]
 else
 .norm [.sl ((v3.getD 0 d0).ll), .sl ((v3.getD 1 d0).ll), .sl ((v3.getD 2 d0).ll), .i ((v3.getD 3 d0).ii), .s ((v3.getD 4 d0).ss), .sl ((v3.getD 5 d0).ll), .sl ((v3.getD 6 d0).ll), .s ((r4.getD 0 d0).ss), .s ((r4.getD 1 d0).ss)]) 1 fun v9 =>
 (r_impl_fitsName [.sl ((v9.getD 0 d0).ll), .sl ((v9.getD 1 d0).ll), .sl ((v9.getD 2 d0).ll), .i ((v9.getD 3 d0).ii), .s ((v9.getD 4 d0).ss), .sl ((v9.getD 5 d0).ll), .sl ((v9.getD 6 d0).ll), .s ((v9.getD 7 d0).ss)]).bindR fun r10 =>
 .ret [.b ((r10.getD 0 d0).bb)]
theorem eq_impl_Fits a : r_impl_Fits a = E_impl_Fits a := (Run_eq cfg 7 _ a).trans (by kernel_rfl)
noncomputable def E_spec_FitsL1 : List DC → Out := fun v7 =>
 if (decide ((v7.getD 0 d0).ii < (((v7.getD 6 d0).ll).length : Int))) = true then
 Out.andThenB (if 34 = 34 ∧ 0 ≤ (v7.getD 0 d0).ii ∧ (v7.getD 0 d0).ii < (((v7.getD 6 d0).ll).length : Int) then
 (r_spec_Fits [.sl ((v7.getD 1 d0).ll), .sl ((v7.getD 2 d0).ll), .sl ((v7.getD 3 d0).ll), .i (((((v7.getD 6 d0).ll).getD ((v7.getD 0 d0).ii).toNat []).getD 0 d0).ii), .s (((((v7.getD 6 d0).ll).getD ((v7.getD 0 d0).ii).toNat []).getD 1 d0).ss), .sl (((((v7.getD 6 d0).ll).getD ((v7.getD 0 d0).ii).toNat []).getD 2 d0).ll), .sl (((((v7.getD 6 d0).ll).getD ((v7.getD 0 d0).ii).toNat []).getD 3 d0).ll), .s ((v7.getD 8 d0).ss), .s ((v7.getD 9 d0).ss)]).bindR fun r8 =>
 if (!((r8.getD 0 d0).bb)) = true then
 .ret [.b false]
 else
 .norm [.i ((v7.getD 0 d0).ii), .sl ((v7.getD 1 d0).ll), .sl ((v7.getD 2 d0).ll), .sl ((v7.getD 3 d0).ll), .i ((v7.getD 4 d0).ii), .s ((v7.getD 5 d0).ss), .sl ((v7.getD 6 d0).ll), .sl ((v7.getD 7 d0).ll), .s ((v7.getD 8 d0).ss), .s ((v7.getD 9 d0).ss)]
 else
 .fail) 1 fun v9 =>
 .norm [.i (IntKind.i64.wrap ((v9.getD 0 d0).ii + (1 : Int))), .sl ((v9.getD 1 d0).ll), .sl ((v9.getD 2 d0).ll), .sl ((v9.getD 3 d0).ll), .i ((v9.getD 4 d0).ii), .s ((v9.getD 5 d0).ss), .sl ((v9.getD 6 d0).ll), .sl ((v9.getD 7 d0).ll), .s ((v9.getD 8 d0).ss), .s ((v9.getD 9 d0).ss)]
 else
 .ex 0 []
noncomputable def E_spec_FitsL2 : List DC → Out := fun v15 =>
 if (decide ((v15.getD 0 d0).ii < (((v15.getD 12 d0).ll).length : Int))) = true then
 Out.andThenB (Out.andThen (if ((v15.getD 1 d0).ii == (6 : Int)) = true then
 if 61 = 61 ∧ 0 ≤ (v15.getD 0 d0).ii ∧ (v15.getD 0 d0).ii < (((v15.getD 12 d0).ll).length : Int) then
 .norm [.i ((v15.getD 0 d0).ii), .b (((((v15.getD 12 d0).ll).getD ((v15.getD 0 d0).ii).toNat []).getD 0 d0).ss == (v15.getD 2 d0).ss), .i ((v15.getD 1 d0).ii), .s ((v15.getD 2 d0).ss), .sl ((v15.getD 3 d0).ll), .sl ((v15.getD 4 d0).ll), .i ((v15.getD 5 d0).ii), .b ((v15.getD 6 d0).bb), .s ((v15.getD 7 d0).ss), .s ((v15.getD 8 d0).ss), .sl ((v15.getD 9 d0).ll), .sl ((v15.getD 10 d0).ll), .sl ((v15.getD 11 d0).ll), .sl ((v15.getD 12 d0).ll), .sl ((v15.getD 13 d0).ll), .b ((v15.getD 14 d0).bb), .sl ((v15.getD 15 d0).ll)]
 else
 .fail
 else
 .norm [.i ((v15.getD 0 d0).ii), .b false, .i ((v15.getD 1 d0).ii), .s ((v15.getD 2 d0).ss), .sl ((v15.getD 3 d0).ll), .sl ((v15.getD 4 d0).ll), .i ((v15.getD 5 d0).ii), .b ((v15.getD 6 d0).bb), .s ((v15.getD 7 d0).ss), .s ((v15.getD 8 d0).ss), .sl ((v15.getD 9 d0).ll), .sl ((v15.getD 10 d0).ll), .sl ((v15.getD 11 d0).ll), .sl ((v15.getD 12 d0).ll), .sl ((v15.getD 13 d0).ll), .b ((v15.getD 14 d0).bb), .sl ((v15.getD 15 d0).ll)]) fun v16 =>
 if (v16.getD 1 d0).bb = true then
 .ret [.b true]
 else
 .norm [.i ((v16.getD 0 d0).ii), .i ((v16.getD 2 d0).ii), .s ((v16.getD 3 d0).ss), .sl ((v16.getD 4 d0).ll), .sl ((v16.getD 5 d0).ll), .i ((v16.getD 6 d0).ii), .b ((v16.getD 7 d0).bb), .s ((v16.getD 8 d0).ss), .s ((v16.getD 9 d0).ss), .sl ((v16.getD 10 d0).ll), .sl ((v16.getD 11 d0).ll), .sl ((v16.getD 12 d0).ll), .sl ((v16.getD 13 d0).ll), .sl ((v16.getD 14 d0).ll), .b ((v16.getD 15 d0).bb), .sl ((v16.getD 16 d0).ll)]) 4 fun v17 =>
 .norm [.i (IntKind.i64.wrap ((v17.getD 0 d0).ii + (1 : Int))), .i ((v17.getD 1 d0).ii), .s ((v17.getD 2 d0).ss), .sl ((v17.getD 3 d0).ll), .sl ((v17.getD 4 d0).ll), .i ((v17.getD 5 d0).ii), .b ((v17.getD 6 d0).bb), .s ((v17.getD 7 d0).ss), .s ((v17.getD 8 d0).ss), .sl ((v17.getD 9 d0).ll), .sl ((v17.getD 10 d0).ll), .sl ((v17.getD 11 d0).ll), .sl ((v17.getD 12 d0).ll), .sl ((v17.getD 13 d0).ll), .b ((v17.getD 14 d0).bb), .sl ((v17.getD 15 d0).ll)]
 else
 .ex 3 []
noncomputable def E_spec_Fits (a : List DC) : Out :=
 if ((a.getD 3 d0).ii == (1 : Int)) = true then
 .ret [.b true]
 else
 Out.andThen (if ((a.getD 3 d0).ii == (5 : Int)) = true then
 .norm [.b ((a.getD 4 d0).ss == ([110, 117, 108, 108] : List UInt8)), .sl ((a.getD 0 d0).ll), .sl ((a.getD 1 d0).ll), .sl ((a.getD 2 d0).ll), .i ((a.getD 3 d0).ii), .s ((a.getD 4 d0).ss), .sl ((a.getD 5 d0).ll), .sl ((a.getD 6 d0).ll), .s ((a.getD 7 d0).ss), .s ((a.getD 8 d0).ss)]
 else
 .norm [.b false, .sl ((a.getD 0 d0).ll), .sl ((a.getD 1 d0).ll), .sl ((a.getD 2 d0).ll), .i ((a.getD 3 d0).ii), .s ((a.getD 4 d0).ss), .sl ((a.getD 5 d0).ll), .sl ((a.getD 6 d0).ll), .s ((a.getD 7 d0).ss), .s ((a.getD 8 d0).ss)]) fun v1 =>
 if (v1.getD 0 d0).bb = true then
 (r_spec_Needed [.s ((v1.getD 8 d0).ss), .s ((v1.getD 9 d0).ss)]).bindR fun r2 =>
 .ret [.b (!((r2.getD 0 d0).bb))]
 else
 (r_spec_Fewer [.s ((v1.getD 8 d0).ss), .s ((v1.getD 9 d0).ss)]).bindR fun r3 =>
 Out.andThen (if (decide ((((r3.getD 1 d0).ss).length : Int) > (0 : Int))) = true then
 if 0 ≤ (IntKind.i64.wrap ((((r3.getD 1 d0).ss).length : Int) - (1 : Int))) ∧ (IntKind.i64.wrap ((((r3.getD 1 d0).ss).length : Int) - (1 : Int))) < (((r3.getD 1 d0).ss).length : Int) then
 .norm [.b (((((r3.getD 1 d0).ss).getD (IntKind.i64.wrap ((((r3.getD 1 d0).ss).length : Int) - (1 : Int))).toNat 0).toNat : Int) == (93 : Int)), .sl ((v1.getD 1 d0).ll), .sl ((v1.getD 2 d0).ll), .sl ((v1.getD 3 d0).ll), .i ((v1.getD 4 d0).ii), .s ((v1.getD 5 d0).ss), .sl ((v1.getD 6 d0).ll), .sl ((v1.getD 7 d0).ll), .s ((r3.getD 0 d0).ss), .s ((r3.getD 1 d0).ss)]
 else
 .fail
 else
 .norm [.b false, .sl ((v1.getD 1 d0).ll), .sl ((v1.getD 2 d0).ll), .sl ((v1.getD 3 d0).ll), .i ((v1.getD 4 d0).ii), .s ((v1.getD 5 d0).ss), .sl ((v1.getD 6 d0).ll), .sl ((v1.getD 7 d0).ll), .s ((r3.getD 0 d0).ss), .s ((r3.getD 1 d0).ss)]) fun v4 =>
 if (v4.getD 0 d0).bb = true then
 (r_spec_Inner [.s ((v4.getD 8 d0).ss), .s ((v4.getD 9 d0).ss)]).bindR fun r5 =>
 if ((v4.getD 4 d0).ii != (7 : Int)) = true then
 (r_spec_Fits [.sl ((v4.getD 1 d0).ll), .sl ((v4.getD 2 d0).ll), .sl ((v4.getD 3 d0).ll), .i ((v4.getD 4 d0).ii), .s ((v4.getD 5 d0).ss), .sl ((v4.getD 6 d0).ll), .sl ((v4.getD 7 d0).ll), .s ((r5.getD 0 d0).ss), .s ((r5.getD 1 d0).ss)]).bindR fun r6 =>
 .ret [.b ((r6.getD 0 d0).bb)]
 else
 Out.andThenB (Loop E_spec_FitsL1 [.i (0 : Int), .sl ((v4.getD 1 d0).ll), .sl ((v4.getD 2 d0).ll), .sl ((v4.getD 3 d0).ll), .i ((v4.getD 4 d0).ii), .s ((v4.getD 5 d0).ss), .sl ((v4.getD 6 d0).ll), .sl ((v4.getD 7 d0).ll), .s ((r5.getD 0 d0).ss), .s ((r5.getD 1 d0).ss)]) 0 fun v10 =>
 .ret [.b true]
 else
 if (decide ((((v4.getD 9 d0).ss).length : Int) > (0 : Int))) = true then
 .ret [.b false]
 else
 (r_spec_TypeAt [.sl ((v4.getD 1 d0).ll), .sl ((v4.getD 2 d0).ll), .sl ((v4.getD 3 d0).ll), .s ((v4.getD 8 d0).ss)]).bindR fun r11 =>
 if (decide ((r11.getD 0 d0).ii < (0 : Int))) = true then
 Out.andThen ((r_spec_BuiltIn [.s ((v4.getD 8 d0).ss)]).bindR fun r12 =>
 if (r12.getD 0 d0).bb = true then
 (r_spec_l19Scalar [.s ((v4.getD 8 d0).ss), .i ((v4.getD 4 d0).ii), .s ((v4.getD 5 d0).ss), .sl ((v4.getD 6 d0).ll), .sl ((v4.getD 7 d0).ll)]).bindR fun r13 =>
 .norm [.b ((r13.getD 0 d0).bb)]
 else
 .norm [.b false]) fun v14 =>
 .ret [.b ((v14.getD 0 d0).bb)]
 else
 if 45 = 45 ∧ 0 ≤ (r11.getD 0 d0).ii ∧ (r11.getD 0 d0).ii < (((v4.getD 1 d0).ll).length : Int) then
 Out.andThenB (if (((((v4.getD 1 d0).ll).getD ((r11.getD 0 d0).ii).toNat []).getD 0 d0).ii == (1 : Int)) = true then
 .ret [.b true]
 else
 Out.andThen (if (((((v4.getD 1 d0).ll).getD ((r11.getD 0 d0).ii).toNat []).getD 0 d0).ii == (5 : Int)) = true then
 Out.andThenB (Loop E_spec_FitsL2 [.i (0 : Int), .i ((v4.getD 4 d0).ii), .s ((v4.getD 5 d0).ss), .sl ((v4.getD 6 d0).ll), .sl ((v4.getD 7 d0).ll), .i (((((v4.getD 1 d0).ll).getD ((r11.getD 0 d0).ii).toNat []).getD 0 d0).ii), .b (((((v4.getD 1 d0).ll).getD ((r11.getD 0 d0).ii).toNat []).getD 1 d0).bb), .s (((((v4.getD 1 d0).ll).getD ((r11.getD 0 d0).ii).toNat []).getD 2 d0).ss), .s (((((v4.getD 1 d0).ll).getD ((r11.getD 0 d0).ii).toNat []).getD 3 d0).ss), .sl (((((v4.getD 1 d0).ll).getD ((r11.getD 0 d0).ii).toNat []).getD 4 d0).ll), .sl (((((v4.getD 1 d0).ll).getD ((r11.getD 0 d0).ii).toNat []).getD 5 d0).ll), .sl (((((v4.getD 1 d0).ll).getD ((r11.getD 0 d0).ii).toNat []).getD 6 d0).ll), .sl (((((v4.getD 1 d0).ll).getD ((r11.getD 0 d0).ii).toNat []).getD 7 d0).ll), .sl (((((v4.getD 1 d0).ll).getD ((r11.getD 0 d0).ii).toNat []).getD 8 d0).ll), .b (((((v4.getD 1 d0).ll).getD ((r11.getD 0 d0).ii).toNat []).getD 9 d0).bb), .sl (((((v4.getD 1 d0).ll).getD ((r11.getD 0 d0).ii).toNat []).getD 10 d0).ll)]) 3 fun v18 =>
 .norm []
 else
 if (((((v4.getD 1 d0).ll).getD ((r11.getD 0 d0).ii).toNat []).getD 0 d0).ii == (6 : Int)) = true then
 (r_spec_l19Input [.sl ((v4.getD 1 d0).ll), .sl ((v4.getD 2 d0).ll), .sl ((v4.getD 3 d0).ll), .sl (((((v4.getD 1 d0).ll).getD ((r11.getD 0 d0).ii).toNat []).getD 6 d0).ll), .i ((v4.getD 4 d0).ii), .s ((v4.getD 5 d0).ss), .sl ((v4.getD 6 d0).ll), .sl ((v4.getD 7 d0).ll)]).bindR fun r19 =>
 .ret [.b ((r19.getD 0 d0).bb)]
 else
 .norm []) fun v20 =>
 .norm []) 2 fun v21 =>
 .ret [.b false]
 else
 .fail
theorem eq_spec_Fits a : r_spec_Fits a = E_spec_Fits a := (Run_eq cfg 8 _ a).trans (by kernel_rfl)
noncomputable def E_impl_Needed (a : List DC) : Out :=
 (r_strings_HasSuffix [.s ((a.getD 1 d0).ss), .s ([33] : List UInt8)]).bindR fun r1 =>
 .ret [.b ((r1.getD 0 d0).bb)]
theorem eq_impl_Needed a : r_impl_Needed a = E_impl_Needed a := (Run_eq cfg 9 _ a).trans (by kernel_rfl)
noncomputable def E_spec_TypeAtL1 : List DC → Out := fun v1 =>
 Out.andThen (if (decide ((v1.getD 1 d0).ii < (((v1.getD 2 d0).ll).length : Int))) = true then
 .norm [.s ((v1.getD 0 d0).ss), .i ((v1.getD 1 d0).ii), .b (decide ((((v1.getD 2 d0).ll).length : Int) ≤ (60 : Int))), .sl ((v1.getD 2 d0).ll), .sl ((v1.getD 3 d0).ll), .sl ((v1.getD 4 d0).ll)]
 else
 .norm [.s ((v1.getD 0 d0).ss), .i ((v1.getD 1 d0).ii), .b false, .sl ((v1.getD 2 d0).ll), .sl ((v1.getD 3 d0).ll), .sl ((v1.getD 4 d0).ll)]) fun v2 =>
 if (v2.getD 2 d0).bb = true then
 Out.andThenB (if 45 = 45 ∧ 0 ≤ (v2.getD 1 d0).ii ∧ (v2.getD 1 d0).ii < (((v2.getD 3 d0).ll).length : Int) then
 if (((((v2.getD 3 d0).ll).getD ((v2.getD 1 d0).ii).toNat []).getD 3 d0).ss == (v2.getD 0 d0).ss) = true then
 .ret [.i ((v2.getD 1 d0).ii)]
 else
 .norm [.s ((v2.getD 0 d0).ss), .i ((v2.getD 1 d0).ii), .sl ((v2.getD 3 d0).ll), .sl ((v2.getD 4 d0).ll), .sl ((v2.getD 5 d0).ll)]
 else
 .fail) 1 fun v3 =>
 .norm [.s ((v3.getD 0 d0).ss), .i (IntKind.i64.wrap ((v3.getD 1 d0).ii + (1 : Int))), .sl ((v3.getD 2 d0).ll), .sl ((v3.getD 3 d0).ll), .sl ((v3.getD 4 d0).ll)]
 else
 .ex 0 []
noncomputable def E_spec_TypeAt (a : List DC) : Out :=
 Out.andThenB (Loop E_spec_TypeAtL1 [.s ((a.getD 3 d0).ss), .i (0 : Int), .sl ((a.getD 0 d0).ll), .sl ((a.getD 1 d0).ll), .sl ((a.getD 2 d0).ll)]) 0 fun v4 =>
 .ret [.i (-1 : Int)]
theorem eq_spec_TypeAt a : r_spec_TypeAt a = E_spec_TypeAt a := (Run_eq cfg 11 _ a).trans (by kernel_rfl)
noncomputable def E_impl_InAt (a : List DC) : Out :=
 (r_slices_IndexFunc_impl_InDef__impl_InAt_1 [.sl ((a.getD 0 d0).ll), .s ((a.getD 1 d0).ss)]).bindR fun r1 =>
 .ret [.i ((r1.getD 0 d0).ii)]
theorem eq_impl_InAt a : r_impl_InAt a = E_impl_InAt a := (Run_eq cfg 10 _ a).trans (by kernel_rfl)
noncomputable def E_impl_RequiredInL1 : List DC → Out := fun v1 =>
 if (decide ((v1.getD 3 d0).ii < (v1.getD 2 d0).ii)) = true then
 Out.andThenB (if 65 = 65 ∧ 0 ≤ (v1.getD 3 d0).ii ∧ (v1.getD 3 d0).ii < (((v1.getD 1 d0).ll).length : Int) then
 Out.andThen ((r_impl_Needed [.s (((((v1.getD 1 d0).ll).getD ((v1.getD 3 d0).ii).toNat []).getD 2 d0).ss), .s (((((v1.getD 1 d0).ll).getD ((v1.getD 3 d0).ii).toNat []).getD 3 d0).ss)]).bindR fun r2 =>
 if (r2.getD 0 d0).bb = true then
 .norm [.sl ((v1.getD 0 d0).ll), .sl ((v1.getD 1 d0).ll), .i ((v1.getD 2 d0).ii), .i ((v1.getD 3 d0).ii), .b (!(((((v1.getD 1 d0).ll).getD ((v1.getD 3 d0).ii).toNat []).getD 4 d0).bb)), .s (((((v1.getD 1 d0).ll).getD ((v1.getD 3 d0).ii).toNat []).getD 0 d0).ss), .s (((((v1.getD 1 d0).ll).getD ((v1.getD 3 d0).ii).toNat []).getD 1 d0).ss), .s (((((v1.getD 1 d0).ll).getD ((v1.getD 3 d0).ii).toNat []).getD 2 d0).ss), .s (((((v1.getD 1 d0).ll).getD ((v1.getD 3 d0).ii).toNat []).getD 3 d0).ss), .b (((((v1.getD 1 d0).ll).getD ((v1.getD 3 d0).ii).toNat []).getD 4 d0).bb), .i (((((v1.getD 1 d0).ll).getD ((v1.getD 3 d0).ii).toNat []).getD 5 d0).ii), .s (((((v1.getD 1 d0).ll).getD ((v1.getD 3 d0).ii).toNat []).getD 6 d0).ss), .sl (((((v1.getD 1 d0).ll).getD ((v1.getD 3 d0).ii).toNat []).getD 7 d0).ll), .sl (((((v1.getD 1 d0).ll).getD ((v1.getD 3 d0).ii).toNat []).getD 8 d0).ll), .sl (((((v1.getD 1 d0).ll).getD ((v1.getD 3 d0).ii).toNat []).getD 9 d0).ll)]
 else
 .norm [.sl ((v1.getD 0 d0).ll), .sl ((v1.getD 1 d0).ll), .i ((v1.getD 2 d0).ii), .i ((v1.getD 3 d0).ii), .b false, .s (((((v1.getD 1 d0).ll).getD ((v1.getD 3 d0).ii).toNat []).getD 0 d0).ss), .s (((((v1.getD 1 d0).ll).getD ((v1.getD 3 d0).ii).toNat []).getD 1 d0).ss), .s (((((v1.getD 1 d0).ll).getD ((v1.getD 3 d0).ii).toNat []).getD 2 d0).ss), .s (((((v1.getD 1 d0).ll).getD ((v1.getD 3 d0).ii).toNat []).getD 3 d0).ss), .b (((((v1.getD 1 d0).ll).getD ((v1.getD 3 d0).ii).toNat []).getD 4 d0).bb), .i (((((v1.getD 1 d0).ll).getD ((v1.getD 3 d0).ii).toNat []).getD 5 d0).ii), .s (((((v1.getD 1 d0).ll).getD ((v1.getD 3 d0).ii).toNat []).getD 6 d0).ss), .sl (((((v1.getD 1 d0).ll).getD ((v1.getD 3 d0).ii).toNat []).getD 7 d0).ll), .sl (((((v1.getD 1 d0).ll).getD ((v1.getD 3 d0).ii).toNat []).getD 8 d0).ll), .sl (((((v1.getD 1 d0).ll).getD ((v1.getD 3 d0).ii).toNat []).getD 9 d0).ll)]) fun v3 =>
 Out.andThen (if (v3.getD 4 d0).bb = true then
 if ((v3.getD 0 d0).ll).length + [[DC.s ((v3.getD 5 d0).ss)]].length < LIM then
 .norm [.sl (((v3.getD 0 d0).ll) ++ [[DC.s ((v3.getD 5 d0).ss)]]), .sl ((v3.getD 1 d0).ll), .i ((v3.getD 2 d0).ii), .i ((v3.getD 3 d0).ii)]
 else
 .fail
 else
 .norm [.sl ((v3.getD 0 d0).ll), .sl ((v3.getD 1 d0).ll), .i ((v3.getD 2 d0).ii), .i ((v3.getD 3 d0).ii)]) fun v4 =>
 .norm [.sl ((v4.getD 0 d0).ll), .sl ((v4.getD 1 d0).ll), .i ((v4.getD 2 d0).ii), .i ((v4.getD 3 d0).ii)]
 else
 .fail) 1 fun v5 =>
 .norm [.sl ((v5.getD 0 d0).ll), .sl ((v5.getD 1 d0).ll), .i ((v5.getD 2 d0).ii), .i (IntKind.i64.wrap ((v5.getD 3 d0).ii + (1 : Int)))]
 else
 .ex 0 [.sl ((v1.getD 0 d0).ll)]
noncomputable def E_impl_RequiredIn (a : List DC) : Out :=
 Out.andThenB (Loop E_impl_RequiredInL1 [.sl [], .sl ((a.getD 0 d0).ll), .i (((a.getD 0 d0).ll).length : Int), .i (0 : Int)]) 0 fun v6 =>
 .ret [.sl ((v6.getD 0 d0).ll)]
theorem eq_impl_RequiredIn a : r_impl_RequiredIn a = E_impl_RequiredIn a := (Run_eq cfg 13 _ a).trans (by kernel_rfl)
noncomputable def E_laws_sameTextsL1 : List DC → Out := fun v1 =>
 if (decide ((v1.getD 2 d0).ii < (((v1.getD 0 d0).ll).length : Int))) = true then
 Out.andThenB (if 9 = 9 ∧ 0 ≤ (v1.getD 2 d0).ii ∧ (v1.getD 2 d0).ii < (((v1.getD 0 d0).ll).length : Int) then
 if 9 = 9 ∧ 0 ≤ (v1.getD 2 d0).ii ∧ (v1.getD 2 d0).ii < (((v1.getD 1 d0).ll).length : Int) then
 if (!(((((v1.getD 0 d0).ll).getD ((v1.getD 2 d0).ii).toNat []).getD 0 d0).ss == ((((v1.getD 1 d0).ll).getD ((v1.getD 2 d0).ii).toNat []).getD 0 d0).ss)) = true then
 .ret [.b false]
 else
 .norm [.sl ((v1.getD 0 d0).ll), .sl ((v1.getD 1 d0).ll), .i ((v1.getD 2 d0).ii)]
 else
 .fail
 else
 .fail) 1 fun v2 =>
 .norm [.sl ((v2.getD 0 d0).ll), .sl ((v2.getD 1 d0).ll), .i (IntKind.i64.wrap ((v2.getD 2 d0).ii + (1 : Int)))]
 else
 .ex 0 []
noncomputable def E_laws_sameTexts (a : List DC) : Out :=
 if ((((a.getD 0 d0).ll).length : Int) != (((a.getD 1 d0).ll).length : Int)) = true then
 .ret [.b false]
 else
 Out.andThenB (Loop E_laws_sameTextsL1 [.sl ((a.getD 0 d0).ll), .sl ((a.getD 1 d0).ll), .i (0 : Int)]) 0 fun v3 =>
 .ret [.b true]
theorem eq_laws_sameTexts a : r_laws_sameTexts a = E_laws_sameTexts a := (Run_eq cfg 12 _ a).trans (by kernel_rfl)
noncomputable def E_spec_l01NewL1 : List DC → Out := fun v1 =>
 Out.andThen (if (decide ((v1.getD 2 d0).ii < (((v1.getD 0 d0).ll).length : Int))) = true then
 .norm [.sl ((v1.getD 0 d0).ll), .i ((v1.getD 1 d0).ii), .i ((v1.getD 2 d0).ii), .b (decide ((v1.getD 2 d0).ii < (4000 : Int)))]
 else
 .norm [.sl ((v1.getD 0 d0).ll), .i ((v1.getD 1 d0).ii), .i ((v1.getD 2 d0).ii), .b false]) fun v2 =>
 if (v2.getD 3 d0).bb = true then
 Out.andThenB (if 5 = 5 ∧ 0 ≤ (v2.getD 2 d0).ii ∧ (v2.getD 2 d0).ii < (((v2.getD 0 d0).ll).length : Int) then
 .norm [.sl ((v2.getD 0 d0).ll), .i (IntKind.i64.wrap (BitVec.ofInt (IntKind.i64.bits) (IntKind.i64.wrap ((IntKind.i64.wrap ((IntKind.i64.wrap ((v2.getD 1 d0).ii * (131 : Int))) + (IntKind.i64.wrap (((((v2.getD 0 d0).ll).getD ((v2.getD 2 d0).ii).toNat []).getD 0 d0).ii)))) + (7 : Int))) &&& BitVec.ofInt (IntKind.i64.bits) (1073741823 : Int)).toNat), .i ((v2.getD 2 d0).ii)]
 else
 .fail) 1 fun v3 =>
 .norm [.sl ((v3.getD 0 d0).ll), .i ((v3.getD 1 d0).ii), .i (IntKind.i64.wrap ((v3.getD 2 d0).ii + (1 : Int)))]
 else
 .ex 0 [.sl ((v2.getD 0 d0).ll), .i ((v2.getD 1 d0).ii)]
noncomputable def E_spec_l01New (a : List DC) : Out :=
 Out.andThenB (Loop E_spec_l01NewL1 [.sl ((a.getD 0 d0).ll), .i (IntKind.i64.wrap ((94701 : Int) + (((a.getD 0 d0).ll).length : Int))), .i (0 : Int)]) 0 fun v4 =>
 .ret [.sl ((v4.getD 0 d0).ll), .i (0 : Int), .i ((v4.getD 1 d0).ii)]
theorem eqb_spec_l01New (a : List DC) : rb_spec_l01New a = E_spec_l01New a := (RunB_eq cfgb fib15 70 [.sl 5, .i .i64, .i .i64] 2 ⟨fib15.pk.map pkK, []⟩ a).trans (by kernel_rfl)
noncomputable def E_spec_l01Pick (a : List DC) : Out :=
 (r_spec_l01Below [.i (((a.getD 0 d0).ll).length : Int), .sl ((a.getD 1 d0).ll), .i ((a.getD 2 d0).ii), .i ((a.getD 3 d0).ii)]).bindR fun r1 =>
 if 9 = 9 ∧ 0 ≤ (r1.getD 0 d0).ii ∧ (r1.getD 0 d0).ii < (((a.getD 0 d0).ll).length : Int) then
 .ret [.s (((((a.getD 0 d0).ll).getD ((r1.getD 0 d0).ii).toNat []).getD 0 d0).ss), .sl ((r1.getD 1 d0).ll), .i ((r1.getD 2 d0).ii), .i ((r1.getD 3 d0).ii)]
 else
 .fail
theorem eq_spec_l01Pick a : r_spec_l01Pick a = E_spec_l01Pick a := (Run_eq cfg 16 _ a).trans (by kernel_rfl)
noncomputable def E_spec_l19ForL1 : List DC → Out := fun v12 =>
 (r_spec_l01Below [.i (3 : Int), .sl ((v12.getD 2 d0).ll), .i ((v12.getD 3 d0).ii), .i ((v12.getD 4 d0).ii)]).bindR fun r13 =>
 if (decide ((v12.getD 1 d0).ii < (r13.getD 0 d0).ii)) = true then
 Out.andThenB ((r_spec_Inner [.s ((v12.getD 5 d0).ss), .s ((v12.getD 6 d0).ss)]).bindR fun r14 =>
 (r_spec_l19For [.s ((r14.getD 0 d0).ss), .s ((r14.getD 1 d0).ss), .i (IntKind.i64.wrap ((v12.getD 0 d0).ii - (1 : Int))), .sl ((r13.getD 1 d0).ll), .i ((r13.getD 2 d0).ii), .i ((r13.getD 3 d0).ii)]).bindR fun r15 =>
 if ((v12.getD 11 d0).ll).length + [[DC.i ((r15.getD 0 d0).ii), DC.s ((r15.getD 1 d0).ss), DC.sl ((r15.getD 2 d0).ll), DC.sl ((r15.getD 3 d0).ll)]].length < LIM then
 .norm [.i ((v12.getD 0 d0).ii), .i ((v12.getD 1 d0).ii), .sl ((r15.getD 4 d0).ll), .i ((r15.getD 5 d0).ii), .i ((r15.getD 6 d0).ii), .s ((v12.getD 5 d0).ss), .s ((v12.getD 6 d0).ss), .i ((v12.getD 7 d0).ii), .s ((v12.getD 8 d0).ss), .i ((v12.getD 9 d0).ii), .s ((v12.getD 10 d0).ss), .sl (((v12.getD 11 d0).ll) ++ [[DC.i ((r15.getD 0 d0).ii), DC.s ((r15.getD 1 d0).ss), DC.sl ((r15.getD 2 d0).ll), DC.sl ((r15.getD 3 d0).ll)]])]
 else
 .fail) 1 fun v16 =>
 .norm [.i ((v16.getD 0 d0).ii), .i (IntKind.i64.wrap ((v16.getD 1 d0).ii + (1 : Int))), .sl ((v16.getD 2 d0).ll), .i ((v16.getD 3 d0).ii), .i ((v16.getD 4 d0).ii), .s ((v16.getD 5 d0).ss), .s ((v16.getD 6 d0).ss), .i ((v16.getD 7 d0).ii), .s ((v16.getD 8 d0).ss), .i ((v16.getD 9 d0).ii), .s ((v16.getD 10 d0).ss), .sl ((v16.getD 11 d0).ll)]
 else
 .ex 0 [.sl ((r13.getD 1 d0).ll), .i ((r13.getD 2 d0).ii), .i ((r13.getD 3 d0).ii), .i ((v12.getD 7 d0).ii), .s ((v12.getD 8 d0).ss), .i ((v12.getD 9 d0).ii), .s ((v12.getD 10 d0).ss), .sl ((v12.getD 11 d0).ll)]
noncomputable def E_spec_l19For (a : List DC) : Out :=
 (r_spec_l01Once [.i (12 : Int), .sl ((a.getD 3 d0).ll), .i ((a.getD 4 d0).ii), .i ((a.getD 5 d0).ii)]).bindR fun r1 =>
 if (r1.getD 0 d0).bb = true then
 (r_spec_l07Value [.i (2 : Int), .b true, .sl ((r1.getD 1 d0).ll), .i ((r1.getD 2 d0).ii), .i ((r1.getD 3 d0).ii)]).bindR fun r2 =>
 .ret [.i ((r2.getD 0 d0).ii), .s ((r2.getD 1 d0).ss), .sl ((r2.getD 2 d0).ll), .sl ((r2.getD 3 d0).ll), .sl ((r2.getD 4 d0).ll), .i ((r2.getD 5 d0).ii), .i ((r2.getD 6 d0).ii)]
 else
 Out.andThen ((r_spec_Needed [.s ((a.getD 0 d0).ss), .s ((a.getD 1 d0).ss)]).bindR fun r3 =>
 if (!((r3.getD 0 d0).bb)) = true then
 (r_spec_l01Once [.i (8 : Int), .sl ((r1.getD 1 d0).ll), .i ((r1.getD 2 d0).ii), .i ((r1.getD 3 d0).ii)]).bindR fun r4 =>
 .norm [.i ((a.getD 2 d0).ii), .b ((r4.getD 0 d0).bb), .sl ((r4.getD 1 d0).ll), .i ((r4.getD 2 d0).ii), .i ((r4.getD 3 d0).ii), .s ((a.getD 0 d0).ss), .s ((a.getD 1 d0).ss), .i (0 : Int), .s []]
 else
 .norm [.i ((a.getD 2 d0).ii), .b false, .sl ((r1.getD 1 d0).ll), .i ((r1.getD 2 d0).ii), .i ((r1.getD 3 d0).ii), .s ((a.getD 0 d0).ss), .s ((a.getD 1 d0).ss), .i (0 : Int), .s []]) fun v5 =>
 if (v5.getD 1 d0).bb = true then
 .ret [.i (5 : Int), .s ([110, 117, 108, 108] : List UInt8), .sl [], .sl [], .sl ((v5.getD 2 d0).ll), .i ((v5.getD 3 d0).ii), .i ((v5.getD 4 d0).ii)]
 else
 (r_spec_Fewer [.s ((v5.getD 5 d0).ss), .s ((v5.getD 6 d0).ss)]).bindR fun r6 =>
 if (decide ((((r6.getD 1 d0).ss).length : Int) > (0 : Int))) = true then
 Out.andThenB (Loop E_spec_l19ForL1 [.i ((v5.getD 0 d0).ii), .i (0 : Int), .sl ((v5.getD 2 d0).ll), .i ((v5.getD 3 d0).ii), .i ((v5.getD 4 d0).ii), .s ((r6.getD 0 d0).ss), .s ((r6.getD 1 d0).ss), .i ((v5.getD 7 d0).ii), .s ((v5.getD 8 d0).ss), .i (7 : Int), .s [], .sl []]) 0 fun v17 =>
 .ret [.i ((v17.getD 5 d0).ii), .s ((v17.getD 6 d0).ss), .sl ((v17.getD 7 d0).ll), .sl [], .sl ((v17.getD 0 d0).ll), .i ((v17.getD 1 d0).ii), .i ((v17.getD 2 d0).ii)]
 else
 Out.andThenB (if ((r6.getD 0 d0).ss == ([73, 110, 116] : List UInt8)) = true then
 .ret [.i (2 : Int), .s ([51] : List UInt8), .sl [], .sl [], .sl ((v5.getD 2 d0).ll), .i ((v5.getD 3 d0).ii), .i ((v5.getD 4 d0).ii)]
 else
 if ((r6.getD 0 d0).ss == ([70, 108, 111, 97, 116] : List UInt8)) = true then
 .ret [.i (3 : Int), .s ([49, 46, 53] : List UInt8), .sl [], .sl [], .sl ((v5.getD 2 d0).ll), .i ((v5.getD 3 d0).ii), .i ((v5.getD 4 d0).ii)]
 else
 if ((r6.getD 0 d0).ss == ([66, 111, 111, 108, 101, 97, 110] : List UInt8)) = true then
 (r_spec_l01Pick [.sl [[DC.s ([116, 114, 117, 101] : List UInt8)], [DC.s ([102, 97, 108, 115, 101] : List UInt8)]], .sl ((v5.getD 2 d0).ll), .i ((v5.getD 3 d0).ii), .i ((v5.getD 4 d0).ii)]).bindR fun r18 =>
 .ret [.i (5 : Int), .s ((r18.getD 0 d0).ss), .sl [], .sl [], .sl ((r18.getD 1 d0).ll), .i ((r18.getD 2 d0).ii), .i ((r18.getD 3 d0).ii)]
 else
 if ((r6.getD 0 d0).ss == ([67, 111, 108, 111, 114] : List UInt8)) = true then
 (r_spec_l01Pick [.sl [[DC.s ([82, 69, 68] : List UInt8)], [DC.s ([66, 76, 85, 69] : List UInt8)], [DC.s ([71, 82, 69, 69, 78] : List UInt8)]], .sl ((v5.getD 2 d0).ll), .i ((v5.getD 3 d0).ii), .i ((v5.getD 4 d0).ii)]).bindR fun r19 =>
 .ret [.i (6 : Int), .s ((r19.getD 0 d0).ss), .sl [], .sl [], .sl ((r19.getD 1 d0).ll), .i ((r19.getD 2 d0).ii), .i ((r19.getD 3 d0).ii)]
 else
 if ((r6.getD 0 d0).ss == ([70, 105, 110, 100] : List UInt8)) = true then
 Out.andThen (if (decide ((v5.getD 0 d0).ii > (0 : Int))) = true then
 (r_spec_l01Once [.i (2 : Int), .sl ((v5.getD 2 d0).ll), .i ((v5.getD 3 d0).ii), .i ((v5.getD 4 d0).ii)]).bindR fun r20 =>
 .norm [.i ((v5.getD 0 d0).ii), .b ((r20.getD 0 d0).bb), .sl ((r20.getD 1 d0).ll), .i ((r20.getD 2 d0).ii), .i ((r20.getD 3 d0).ii), .i ((v5.getD 7 d0).ii), .s ((v5.getD 8 d0).ss), .i (8 : Int), .s [], .sl [[DC.i (4 : Int), DC.s ([116] : List UInt8), DC.sl [], DC.sl []]], .sl [[DC.s ([116, 101, 120, 116] : List UInt8)]]]
 else
 .norm [.i ((v5.getD 0 d0).ii), .b false, .sl ((v5.getD 2 d0).ll), .i ((v5.getD 3 d0).ii), .i ((v5.getD 4 d0).ii), .i ((v5.getD 7 d0).ii), .s ((v5.getD 8 d0).ss), .i (8 : Int), .s [], .sl [[DC.i (4 : Int), DC.s ([116] : List UInt8), DC.sl [], DC.sl []]], .sl [[DC.s ([116, 101, 120, 116] : List UInt8)]]]) fun v21 =>
 Out.andThen (if (v21.getD 1 d0).bb = true then
 if ((v21.getD 10 d0).ll).length + [[DC.s ([109, 111, 114, 101] : List UInt8)]].length < LIM then
 (r_spec_l19For [.s ([70, 105, 110, 100] : List UInt8), .s [], .i (IntKind.i64.wrap ((v21.getD 0 d0).ii - (1 : Int))), .sl ((v21.getD 2 d0).ll), .i ((v21.getD 3 d0).ii), .i ((v21.getD 4 d0).ii)]).bindR fun r22 =>
 if ((v21.getD 9 d0).ll).length + [[DC.i ((r22.getD 0 d0).ii), DC.s ((r22.getD 1 d0).ss), DC.sl ((r22.getD 2 d0).ll), DC.sl ((r22.getD 3 d0).ll)]].length < LIM then
 .norm [.sl ((r22.getD 4 d0).ll), .i ((r22.getD 5 d0).ii), .i ((r22.getD 6 d0).ii), .i ((v21.getD 5 d0).ii), .s ((v21.getD 6 d0).ss), .i ((v21.getD 7 d0).ii), .s ((v21.getD 8 d0).ss), .sl (((v21.getD 9 d0).ll) ++ [[DC.i ((r22.getD 0 d0).ii), DC.s ((r22.getD 1 d0).ss), DC.sl ((r22.getD 2 d0).ll), DC.sl ((r22.getD 3 d0).ll)]]), .sl (((v21.getD 10 d0).ll) ++ [[DC.s ([109, 111, 114, 101] : List UInt8)]])]
 else
 .fail
 else
 .fail
 else
 .norm [.sl ((v21.getD 2 d0).ll), .i ((v21.getD 3 d0).ii), .i ((v21.getD 4 d0).ii), .i ((v21.getD 5 d0).ii), .s ((v21.getD 6 d0).ss), .i ((v21.getD 7 d0).ii), .s ((v21.getD 8 d0).ss), .sl ((v21.getD 9 d0).ll), .sl ((v21.getD 10 d0).ll)]) fun v23 =>
 (r_spec_l01Once [.i (3 : Int), .sl ((v23.getD 0 d0).ll), .i ((v23.getD 1 d0).ii), .i ((v23.getD 2 d0).ii)]).bindR fun r24 =>
 Out.andThen (if (r24.getD 0 d0).bb = true then
 (r_spec_l01Pick [.sl [[DC.s ([115, 105, 122, 101] : List UInt8)], [DC.s ([110, 111, 110, 101] : List UInt8)], [DC.s ([116, 101, 120, 116] : List UInt8)]], .sl ((r24.getD 1 d0).ll), .i ((r24.getD 2 d0).ii), .i ((r24.getD 3 d0).ii)]).bindR fun r25 =>
 if ((v23.getD 8 d0).ll).length + [[DC.s ((r25.getD 0 d0).ss)]].length < LIM then
 if ((v23.getD 7 d0).ll).length + [[DC.i (2 : Int), DC.s ([50] : List UInt8), DC.sl [], DC.sl []]].length < LIM then
 .norm [.sl ((r25.getD 1 d0).ll), .i ((r25.getD 2 d0).ii), .i ((r25.getD 3 d0).ii), .i ((v23.getD 3 d0).ii), .s ((v23.getD 4 d0).ss), .i ((v23.getD 5 d0).ii), .s ((v23.getD 6 d0).ss), .sl (((v23.getD 7 d0).ll) ++ [[DC.i (2 : Int), DC.s ([50] : List UInt8), DC.sl [], DC.sl []]]), .sl (((v23.getD 8 d0).ll) ++ [[DC.s ((r25.getD 0 d0).ss)]])]
 else
 .fail
 else
 .fail
 else
 .norm [.sl ((r24.getD 1 d0).ll), .i ((r24.getD 2 d0).ii), .i ((r24.getD 3 d0).ii), .i ((v23.getD 3 d0).ii), .s ((v23.getD 4 d0).ss), .i ((v23.getD 5 d0).ii), .s ((v23.getD 6 d0).ss), .sl ((v23.getD 7 d0).ll), .sl ((v23.getD 8 d0).ll)]) fun v26 =>
 .ret [.i ((v26.getD 5 d0).ii), .s ((v26.getD 6 d0).ss), .sl ((v26.getD 7 d0).ll), .sl ((v26.getD 8 d0).ll), .sl ((v26.getD 0 d0).ll), .i ((v26.getD 1 d0).ii), .i ((v26.getD 2 d0).ii)]
 else
 .norm [.sl ((v5.getD 2 d0).ll), .i ((v5.getD 3 d0).ii), .i ((v5.getD 4 d0).ii), .i ((v5.getD 7 d0).ii), .s ((v5.getD 8 d0).ss)]) 2 fun v27 =>
 .ret [.i (4 : Int), .s ([120] : List UInt8), .sl [], .sl [], .sl ((v27.getD 0 d0).ll), .i ((v27.getD 1 d0).ii), .i ((v27.getD 2 d0).ii)]
theorem eq_spec_l19For a : r_spec_l19For a = E_spec_l19For a := (Run_eq cfg 17 _ a).trans (by kernel_rfl)
noncomputable def E_impl_isNull (a : List DC) : Out :=
 Out.andThen (if ((a.getD 0 d0).ii == (5 : Int)) = true then
 .norm [.b ((a.getD 1 d0).ss == ([110, 117, 108, 108] : List UInt8))]
 else
 .norm [.b false]) fun v1 =>
 .ret [.b ((v1.getD 0 d0).bb)]
theorem eq_impl_isNull a : r_impl_isNull a = E_impl_isNull a := (Run_eq cfg 18 _ a).trans (by kernel_rfl)
noncomputable def E_impl_Fewer (a : List DC) : Out :=
 (r_strings_TrimSuffix [.s ((a.getD 1 d0).ss), .s ([33] : List UInt8)]).bindR fun r1 =>
 .ret [.s ((a.getD 0 d0).ss), .s ((r1.getD 0 d0).ss)]
theorem eq_impl_Fewer a : r_impl_Fewer a = E_impl_Fewer a := (Run_eq cfg 19 _ a).trans (by kernel_rfl)
noncomputable def E_strings_HasSuffix (a : List DC) : Out :=
 (r_internal_stringslite_HasSuffix [.s ((a.getD 0 d0).ss), .s ((a.getD 1 d0).ss)]).bindR fun r1 =>
 .ret [.b ((r1.getD 0 d0).bb)]
theorem eq_strings_HasSuffix a : r_strings_HasSuffix a = E_strings_HasSuffix a := (Run_eq cfg 20 _ a).trans (by kernel_rfl)
noncomputable def E_impl_Inner (a : List DC) : Out :=
 (r_impl_Fewer [.s ((a.getD 0 d0).ss), .s ((a.getD 1 d0).ss)]).bindR fun r1 =>
 (r_strings_CutSuffix [.s ((r1.getD 1 d0).ss), .s ([93] : List UInt8)]).bindR fun r2 =>
 if (!((r2.getD 1 d0).bb)) = true then
 .ret [.s ((a.getD 0 d0).ss), .s []]
 else
 .ret [.s ((a.getD 0 d0).ss), .s ((r2.getD 0 d0).ss)]
theorem eq_impl_Inner a : r_impl_Inner a = E_impl_Inner a := (Run_eq cfg 21 _ a).trans (by kernel_rfl)
noncomputable def E_slices_ContainsFunc_impl_Value__impl_Fits_1 (a : List DC) : Out :=
 (r_slices_IndexFunc_impl_Value__impl_Fits_1 [.sl ((a.getD 0 d0).ll), .sl ((a.getD 1 d0).ll), .sl ((a.getD 2 d0).ll), .sl ((a.getD 3 d0).ll), .s ((a.getD 4 d0).ss), .s ((a.getD 5 d0).ss)]).bindR fun r1 =>
 .ret [.b (decide ((r1.getD 0 d0).ii ≥ (0 : Int))), .sl ((r1.getD 1 d0).ll), .sl ((r1.getD 2 d0).ll), .sl ((r1.getD 3 d0).ll), .s ((r1.getD 4 d0).ss), .s ((r1.getD 5 d0).ss)]
theorem eq_slices_ContainsFunc_impl_Value__impl_Fits_1 a : r_slices_ContainsFunc_impl_Value__impl_Fits_1 a = E_slices_ContainsFunc_impl_Value__impl_Fits_1 a := (Run_eq cfg 22 _ a).trans (by kernel_rfl)
noncomputable def E_impl_fitsName (a : List DC) : Out :=
 (r_impl_typeDef [.sl ((a.getD 0 d0).ll), .sl ((a.getD 1 d0).ll), .sl ((a.getD 2 d0).ll), .s ((a.getD 7 d0).ss)]).bindR fun r1 =>
 if (!((r1.getD 11 d0).bb)) = true then
 Out.andThen ((r_impl_BuiltIn [.s ((a.getD 7 d0).ss)]).bindR fun r2 =>
 if (r2.getD 0 d0).bb = true then
 (r_impl_fitsBuiltIn [.i ((a.getD 3 d0).ii), .s ((a.getD 4 d0).ss), .sl ((a.getD 5 d0).ll), .sl ((a.getD 6 d0).ll), .s ((a.getD 7 d0).ss)]).bindR fun r3 =>
 .norm [.b ((r3.getD 0 d0).bb)]
 else
 .norm [.b false]) fun v4 =>
 .ret [.b ((v4.getD 0 d0).bb)]
 else
 Out.andThenB (if ((r1.getD 0 d0).ii == (1 : Int)) = true then
 .ret [.b true]
 else
 if ((r1.getD 0 d0).ii == (5 : Int)) = true then
 Out.andThen (if ((a.getD 3 d0).ii == (6 : Int)) = true then
 (r_slices_ContainsFunc_impl_EnumDef__impl_fitsName_1 [.sl ((r1.getD 7 d0).ll), .i ((a.getD 3 d0).ii), .s ((a.getD 4 d0).ss), .sl ((a.getD 5 d0).ll), .sl ((a.getD 6 d0).ll)]).bindR fun r5 =>
 .norm [.b ((r5.getD 0 d0).bb)]
 else
 .norm [.b false]) fun v6 =>
 .ret [.b ((v6.getD 0 d0).bb)]
 else
 if ((r1.getD 0 d0).ii == (6 : Int)) = true then
 (r_impl_fitsInput [.sl ((a.getD 0 d0).ll), .sl ((a.getD 1 d0).ll), .sl ((a.getD 2 d0).ll), .i ((a.getD 3 d0).ii), .s ((a.getD 4 d0).ss), .sl ((a.getD 5 d0).ll), .sl ((a.getD 6 d0).ll), .i ((r1.getD 0 d0).ii), .b ((r1.getD 1 d0).bb), .s ((r1.getD 2 d0).ss), .s ((r1.getD 3 d0).ss), .sl ((r1.getD 4 d0).ll), .sl ((r1.getD 5 d0).ll), .sl ((r1.getD 6 d0).ll), .sl ((r1.getD 7 d0).ll), .sl ((r1.getD 8 d0).ll), .b ((r1.getD 9 d0).bb), .sl ((r1.getD 10 d0).ll)]).bindR fun r7 =>
 .ret [.b ((r7.getD 0 d0).bb)]
 else
 .norm []) 0 fun v8 =>
 .ret [.b false]
theorem eq_impl_fitsName a : r_impl_fitsName a = E_impl_fitsName a := (Run_eq cfg 24 _ a).trans (by kernel_rfl)
noncomputable def E_spec_Needed (a : List DC) : Out :=
 Out.andThen (if (decide ((((a.getD 1 d0).ss).length : Int) > (0 : Int))) = true then
 if 0 ≤ (IntKind.i64.wrap ((((a.getD 1 d0).ss).length : Int) - (1 : Int))) ∧ (IntKind.i64.wrap ((((a.getD 1 d0).ss).length : Int) - (1 : Int))) < (((a.getD 1 d0).ss).length : Int) then
 .norm [.b (((((a.getD 1 d0).ss).getD (IntKind.i64.wrap ((((a.getD 1 d0).ss).length : Int) - (1 : Int))).toNat 0).toNat : Int) == (33 : Int))]
 else
 .fail
 else
 .norm [.b false]) fun v1 =>
 .ret [.b ((v1.getD 0 d0).bb)]
theorem eq_spec_Needed a : r_spec_Needed a = E_spec_Needed a := (Run_eq cfg 25 _ a).trans (by kernel_rfl)
noncomputable def E_spec_Fewer (a : List DC) : Out :=
 (r_spec_Needed [.s ((a.getD 0 d0).ss), .s ((a.getD 1 d0).ss)]).bindR fun r1 =>
 Out.andThen (if (r1.getD 0 d0).bb = true then
 if 0 ≤ (IntKind.i64.wrap ((((a.getD 1 d0).ss).length : Int) - (1 : Int))) ∧ (IntKind.i64.wrap ((((a.getD 1 d0).ss).length : Int) - (1 : Int))) ≤ (((a.getD 1 d0).ss).length : Int) then
 .norm [.s ((a.getD 0 d0).ss), .s (((a.getD 1 d0).ss).take (IntKind.i64.wrap ((((a.getD 1 d0).ss).length : Int) - (1 : Int))).toNat), .s [], .s []]
 else
 .fail
 else
 .norm [.s ((a.getD 0 d0).ss), .s ((a.getD 1 d0).ss), .s [], .s []]) fun v2 =>
 .ret [.s ((v2.getD 0 d0).ss), .s ((v2.getD 1 d0).ss)]
theorem eq_spec_Fewer a : r_spec_Fewer a = E_spec_Fewer a := (Run_eq cfg 26 _ a).trans (by kernel_rfl)
noncomputable def E_spec_Inner (a : List DC) : Out :=
 (r_spec_Fewer [.s ((a.getD 0 d0).ss), .s ((a.getD 1 d0).ss)]).bindR fun r1 =>
 Out.andThen (if (decide ((((r1.getD 1 d0).ss).length : Int) > (0 : Int))) = true then
 if 0 ≤ (IntKind.i64.wrap ((((r1.getD 1 d0).ss).length : Int) - (1 : Int))) ∧ (IntKind.i64.wrap ((((r1.getD 1 d0).ss).length : Int) - (1 : Int))) < (((r1.getD 1 d0).ss).length : Int) then
 .norm [.b (((((r1.getD 1 d0).ss).getD (IntKind.i64.wrap ((((r1.getD 1 d0).ss).length : Int) - (1 : Int))).toNat 0).toNat : Int) == (93 : Int)), .s ((r1.getD 0 d0).ss), .s ((r1.getD 1 d0).ss), .s [], .s []]
 else
 .fail
 else
 .norm [.b false, .s ((r1.getD 0 d0).ss), .s ((r1.getD 1 d0).ss), .s [], .s []]) fun v2 =>
 if (v2.getD 0 d0).bb = true then
 if 0 ≤ (IntKind.i64.wrap ((((v2.getD 2 d0).ss).length : Int) - (1 : Int))) ∧ (IntKind.i64.wrap ((((v2.getD 2 d0).ss).length : Int) - (1 : Int))) ≤ (((v2.getD 2 d0).ss).length : Int) then
 .ret [.s ((v2.getD 1 d0).ss), .s (((v2.getD 2 d0).ss).take (IntKind.i64.wrap ((((v2.getD 2 d0).ss).length : Int) - (1 : Int))).toNat)]
 else
 .fail
 else
 .ret [.s ((v2.getD 1 d0).ss), .s []]
theorem eq_spec_Inner a : r_spec_Inner a = E_spec_Inner a := (Run_eq cfg 27 _ a).trans (by kernel_rfl)
noncomputable def E_spec_BuiltIn (a : List DC) : Out :=
 Out.andThen (if ((a.getD 0 d0).ss == ([73, 110, 116] : List UInt8)) = true then
 .norm [.b true]
 else
 if ((a.getD 0 d0).ss == ([70, 108, 111, 97, 116] : List UInt8)) = true then
 .norm [.b true]
 else
 if ((a.getD 0 d0).ss == ([83, 116, 114, 105, 110, 103] : List UInt8)) = true then
 .norm [.b true]
 else
 if ((a.getD 0 d0).ss == ([66, 111, 111, 108, 101, 97, 110] : List UInt8)) = true then
 .norm [.b true]
 else
 .norm [.b ((a.getD 0 d0).ss == ([73, 68] : List UInt8))]) fun v1 =>
 .ret [.b ((v1.getD 0 d0).bb)]
theorem eq_spec_BuiltIn a : r_spec_BuiltIn a = E_spec_BuiltIn a := (Run_eq cfg 28 _ a).trans (by kernel_rfl)
noncomputable def E_spec_l19Scalar (a : List DC) : Out :=
 Out.andThenB (if ((a.getD 0 d0).ss == ([73, 110, 116] : List UInt8)) = true then
 Out.andThen (if ((a.getD 1 d0).ii == (2 : Int)) = true then
 (r_spec_Fits32 [.s ((a.getD 2 d0).ss)]).bindR fun r1 =>
 .norm [.b ((r1.getD 0 d0).bb)]
 else
 .norm [.b false]) fun v2 =>
 .ret [.b ((v2.getD 0 d0).bb)]
 else
 if ((a.getD 0 d0).ss == ([70, 108, 111, 97, 116] : List UInt8)) = true then
 Out.andThen (if ((a.getD 1 d0).ii == (2 : Int)) = true then
 .norm [.b true]
 else
 .norm [.b ((a.getD 1 d0).ii == (3 : Int))]) fun v3 =>
 .ret [.b ((v3.getD 0 d0).bb)]
 else
 if ((a.getD 0 d0).ss == ([83, 116, 114, 105, 110, 103] : List UInt8)) = true then
 .ret [.b ((a.getD 1 d0).ii == (4 : Int))]
 else
 if ((a.getD 0 d0).ss == ([66, 111, 111, 108, 101, 97, 110] : List UInt8)) = true then
 Out.andThen (if ((a.getD 1 d0).ii == (5 : Int)) = true then
 if ((a.getD 2 d0).ss == ([116, 114, 117, 101] : List UInt8)) = true then
 .norm [.b true]
 else
 .norm [.b ((a.getD 2 d0).ss == ([102, 97, 108, 115, 101] : List UInt8))]
 else
 .norm [.b false]) fun v4 =>
 .ret [.b ((v4.getD 0 d0).bb)]
 else
 .norm [.i ((a.getD 1 d0).ii), .s ((a.getD 2 d0).ss), .sl ((a.getD 3 d0).ll), .sl ((a.getD 4 d0).ll)]) 0 fun v5 =>
 Out.andThen (if ((v5.getD 0 d0).ii == (2 : Int)) = true then
 .norm [.b true]
 else
 .norm [.b ((v5.getD 0 d0).ii == (4 : Int))]) fun v6 =>
 .ret [.b ((v6.getD 0 d0).bb)]
theorem eq_spec_l19Scalar a : r_spec_l19Scalar a = E_spec_l19Scalar a := (Run_eq cfg 29 _ a).trans (by kernel_rfl)
noncomputable def E_spec_l19InputL1 : List DC → Out := fun v2 =>
 if (decide ((v2.getD 1 d0).ii < (((v2.getD 8 d0).ll).length : Int))) = true then
 Out.andThenB (if 9 = 9 ∧ 0 ≤ (v2.getD 1 d0).ii ∧ (v2.getD 1 d0).ii < (((v2.getD 8 d0).ll).length : Int) then
 (r_spec_InAt [.sl ((v2.getD 0 d0).ll), .s (((((v2.getD 8 d0).ll).getD ((v2.getD 1 d0).ii).toNat []).getD 0 d0).ss)]).bindR fun r3 =>
 Out.andThen (if (decide ((r3.getD 0 d0).ii < (0 : Int))) = true then
 .norm [.sl ((v2.getD 0 d0).ll), .i ((v2.getD 1 d0).ii), .b true, .sl ((v2.getD 2 d0).ll), .sl ((v2.getD 3 d0).ll), .sl ((v2.getD 4 d0).ll), .i ((v2.getD 5 d0).ii), .s ((v2.getD 6 d0).ss), .sl ((v2.getD 7 d0).ll), .sl ((v2.getD 8 d0).ll)]
 else
 if 0 ≤ (v2.getD 1 d0).ii ∧ (v2.getD 1 d0).ii ≤ (((v2.getD 8 d0).ll).length : Int) then
 if 9 = 9 ∧ 0 ≤ (v2.getD 1 d0).ii ∧ (v2.getD 1 d0).ii < (((v2.getD 8 d0).ll).length : Int) then
 (r_spec_l18Has [.sl (((v2.getD 8 d0).ll).take ((v2.getD 1 d0).ii).toNat), .s (((((v2.getD 8 d0).ll).getD ((v2.getD 1 d0).ii).toNat []).getD 0 d0).ss)]).bindR fun r4 =>
 if (r4.getD 0 d0).bb = true then
 .norm [.sl ((v2.getD 0 d0).ll), .i ((v2.getD 1 d0).ii), .b true, .sl ((v2.getD 2 d0).ll), .sl ((v2.getD 3 d0).ll), .sl ((v2.getD 4 d0).ll), .i ((v2.getD 5 d0).ii), .s ((v2.getD 6 d0).ss), .sl ((v2.getD 7 d0).ll), .sl ((v2.getD 8 d0).ll)]
 else
 if 34 = 34 ∧ 0 ≤ (v2.getD 1 d0).ii ∧ (v2.getD 1 d0).ii < (((v2.getD 7 d0).ll).length : Int) then
 if 65 = 65 ∧ 0 ≤ (r3.getD 0 d0).ii ∧ (r3.getD 0 d0).ii < (((v2.getD 0 d0).ll).length : Int) then
 (r_spec_Fits [.sl ((v2.getD 2 d0).ll), .sl ((v2.getD 3 d0).ll), .sl ((v2.getD 4 d0).ll), .i (((((v2.getD 7 d0).ll).getD ((v2.getD 1 d0).ii).toNat []).getD 0 d0).ii), .s (((((v2.getD 7 d0).ll).getD ((v2.getD 1 d0).ii).toNat []).getD 1 d0).ss), .sl (((((v2.getD 7 d0).ll).getD ((v2.getD 1 d0).ii).toNat []).getD 2 d0).ll), .sl (((((v2.getD 7 d0).ll).getD ((v2.getD 1 d0).ii).toNat []).getD 3 d0).ll), .s (((((v2.getD 0 d0).ll).getD ((r3.getD 0 d0).ii).toNat []).getD 2 d0).ss), .s (((((v2.getD 0 d0).ll).getD ((r3.getD 0 d0).ii).toNat []).getD 3 d0).ss)]).bindR fun r5 =>
 .norm [.sl ((v2.getD 0 d0).ll), .i ((v2.getD 1 d0).ii), .b (!((r5.getD 0 d0).bb)), .sl ((v2.getD 2 d0).ll), .sl ((v2.getD 3 d0).ll), .sl ((v2.getD 4 d0).ll), .i ((v2.getD 5 d0).ii), .s ((v2.getD 6 d0).ss), .sl ((v2.getD 7 d0).ll), .sl ((v2.getD 8 d0).ll)]
 else
 .fail
 else
 .fail
 else
 .fail
 else
 .fail) fun v6 =>
 if (v6.getD 2 d0).bb = true then
 .ret [.b false]
 else
 .norm [.sl ((v6.getD 0 d0).ll), .i ((v6.getD 1 d0).ii), .sl ((v6.getD 3 d0).ll), .sl ((v6.getD 4 d0).ll), .sl ((v6.getD 5 d0).ll), .i ((v6.getD 6 d0).ii), .s ((v6.getD 7 d0).ss), .sl ((v6.getD 8 d0).ll), .sl ((v6.getD 9 d0).ll)]
 else
 .fail) 1 fun v7 =>
 .norm [.sl ((v7.getD 0 d0).ll), .i (IntKind.i64.wrap ((v7.getD 1 d0).ii + (1 : Int))), .sl ((v7.getD 2 d0).ll), .sl ((v7.getD 3 d0).ll), .sl ((v7.getD 4 d0).ll), .i ((v7.getD 5 d0).ii), .s ((v7.getD 6 d0).ss), .sl ((v7.getD 7 d0).ll), .sl ((v7.getD 8 d0).ll)]
 else
 .ex 0 [.sl ((v2.getD 0 d0).ll), .i ((v2.getD 5 d0).ii), .s ((v2.getD 6 d0).ss), .sl ((v2.getD 7 d0).ll), .sl ((v2.getD 8 d0).ll)]
noncomputable def E_spec_l19InputL2 : List DC → Out := fun v10 =>
 if (decide ((v10.getD 1 d0).ii < (((v10.getD 0 d0).ll).length : Int))) = true then
 Out.andThenB (if 9 = 9 ∧ 0 ≤ (v10.getD 1 d0).ii ∧ (v10.getD 1 d0).ii < (((v10.getD 0 d0).ll).length : Int) then
 (r_spec_l18Has [.sl ((v10.getD 5 d0).ll), .s (((((v10.getD 0 d0).ll).getD ((v10.getD 1 d0).ii).toNat []).getD 0 d0).ss)]).bindR fun r11 =>
 if (!((r11.getD 0 d0).bb)) = true then
 .ret [.b false]
 else
 .norm [.sl ((v10.getD 0 d0).ll), .i ((v10.getD 1 d0).ii), .i ((v10.getD 2 d0).ii), .s ((v10.getD 3 d0).ss), .sl ((v10.getD 4 d0).ll), .sl ((v10.getD 5 d0).ll)]
 else
 .fail) 3 fun v12 =>
 .norm [.sl ((v12.getD 0 d0).ll), .i (IntKind.i64.wrap ((v12.getD 1 d0).ii + (1 : Int))), .i ((v12.getD 2 d0).ii), .s ((v12.getD 3 d0).ss), .sl ((v12.getD 4 d0).ll), .sl ((v12.getD 5 d0).ll)]
 else
 .ex 2 []
noncomputable def E_spec_l19Input (a : List DC) : Out :=
 Out.andThen (if ((a.getD 4 d0).ii != (8 : Int)) = true then
 .norm [.sl ((a.getD 3 d0).ll), .b true, .sl ((a.getD 0 d0).ll), .sl ((a.getD 1 d0).ll), .sl ((a.getD 2 d0).ll), .i ((a.getD 4 d0).ii), .s ((a.getD 5 d0).ss), .sl ((a.getD 6 d0).ll), .sl ((a.getD 7 d0).ll)]
 else
 if ((((a.getD 7 d0).ll).length : Int) != (((a.getD 6 d0).ll).length : Int)) = true then
 .norm [.sl ((a.getD 3 d0).ll), .b true, .sl ((a.getD 0 d0).ll), .sl ((a.getD 1 d0).ll), .sl ((a.getD 2 d0).ll), .i ((a.getD 4 d0).ii), .s ((a.getD 5 d0).ss), .sl ((a.getD 6 d0).ll), .sl ((a.getD 7 d0).ll)]
 else
 .norm [.sl ((a.getD 3 d0).ll), .b (decide ((((a.getD 7 d0).ll).length : Int) > (100 : Int))), .sl ((a.getD 0 d0).ll), .sl ((a.getD 1 d0).ll), .sl ((a.getD 2 d0).ll), .i ((a.getD 4 d0).ii), .s ((a.getD 5 d0).ss), .sl ((a.getD 6 d0).ll), .sl ((a.getD 7 d0).ll)]) fun v1 =>
 if (v1.getD 1 d0).bb = true then
 .ret [.b false]
 else
 Out.andThenB (Loop E_spec_l19InputL1 [.sl ((v1.getD 0 d0).ll), .i (0 : Int), .sl ((v1.getD 2 d0).ll), .sl ((v1.getD 3 d0).ll), .sl ((v1.getD 4 d0).ll), .i ((v1.getD 5 d0).ii), .s ((v1.getD 6 d0).ss), .sl ((v1.getD 7 d0).ll), .sl ((v1.getD 8 d0).ll)]) 0 fun v8 =>
 (r_spec_RequiredIn [.sl ((v8.getD 0 d0).ll)]).bindR fun r9 =>
 Out.andThenB (Loop E_spec_l19InputL2 [.sl ((r9.getD 0 d0).ll), .i (0 : Int), .i ((v8.getD 1 d0).ii), .s ((v8.getD 2 d0).ss), .sl ((v8.getD 3 d0).ll), .sl ((v8.getD 4 d0).ll)]) 2 fun v13 =>
 .ret [.b true]
theorem eq_spec_l19Input a : r_spec_l19Input a = E_spec_l19Input a := (Run_eq cfg 30 _ a).trans (by kernel_rfl)
noncomputable def E_slices_IndexFunc_impl_InDef__impl_InAt_1L1 : List DC → Out := fun v1 =>
 if (decide ((v1.getD 2 d0).ii < (v1.getD 1 d0).ii)) = true then
 Out.andThenB (if 65 = 65 ∧ 0 ≤ (v1.getD 2 d0).ii ∧ (v1.getD 2 d0).ii < (((v1.getD 0 d0).ll).length : Int) then
 (r_impl_InAt_1 [.s (((((v1.getD 0 d0).ll).getD ((v1.getD 2 d0).ii).toNat []).getD 0 d0).ss), .s (((((v1.getD 0 d0).ll).getD ((v1.getD 2 d0).ii).toNat []).getD 1 d0).ss), .s (((((v1.getD 0 d0).ll).getD ((v1.getD 2 d0).ii).toNat []).getD 2 d0).ss), .s (((((v1.getD 0 d0).ll).getD ((v1.getD 2 d0).ii).toNat []).getD 3 d0).ss), .b (((((v1.getD 0 d0).ll).getD ((v1.getD 2 d0).ii).toNat []).getD 4 d0).bb), .i (((((v1.getD 0 d0).ll).getD ((v1.getD 2 d0).ii).toNat []).getD 5 d0).ii), .s (((((v1.getD 0 d0).ll).getD ((v1.getD 2 d0).ii).toNat []).getD 6 d0).ss), .sl (((((v1.getD 0 d0).ll).getD ((v1.getD 2 d0).ii).toNat []).getD 7 d0).ll), .sl (((((v1.getD 0 d0).ll).getD ((v1.getD 2 d0).ii).toNat []).getD 8 d0).ll), .sl (((((v1.getD 0 d0).ll).getD ((v1.getD 2 d0).ii).toNat []).getD 9 d0).ll), .s ((v1.getD 3 d0).ss)]).bindR fun r2 =>
 if (r2.getD 0 d0).bb = true then
 .ret [.i ((v1.getD 2 d0).ii), .s ((r2.getD 1 d0).ss)]
 else
 .norm [.sl ((v1.getD 0 d0).ll), .i ((v1.getD 1 d0).ii), .i ((v1.getD 2 d0).ii), .s ((r2.getD 1 d0).ss)]
 else
 .fail) 1 fun v3 =>
 .norm [.sl ((v3.getD 0 d0).ll), .i ((v3.getD 1 d0).ii), .i (IntKind.i64.wrap ((v3.getD 2 d0).ii + (1 : Int))), .s ((v3.getD 3 d0).ss)]
 else
 .ex 0 [.s ((v1.getD 3 d0).ss)]
noncomputable def E_slices_IndexFunc_impl_InDef__impl_InAt_1 (a : List DC) : Out :=
 Out.andThenB (Loop E_slices_IndexFunc_impl_InDef__impl_InAt_1L1 [.sl ((a.getD 0 d0).ll), .i (((a.getD 0 d0).ll).length : Int), .i (0 : Int), .s ((a.getD 1 d0).ss)]) 0 fun v4 =>
 .ret [.i (-1 : Int), .s ((v4.getD 0 d0).ss)]
theorem eq_slices_IndexFunc_impl_InDef__impl_InAt_1 a : r_slices_IndexFunc_impl_InDef__impl_InAt_1 a = E_slices_IndexFunc_impl_InDef__impl_InAt_1 a := (Run_eq cfg 31 _ a).trans (by kernel_rfl)
noncomputable def E_spec_l01Below (a : List DC) : Out :=
 if (decide ((a.getD 0 d0).ii ≤ (0 : Int))) = true then
 .ret [.i (0 : Int), .sl ((a.getD 1 d0).ll), .i ((a.getD 2 d0).ii), .i ((a.getD 3 d0).ii)]
 else
 if (decide ((a.getD 0 d0).ii ≤ (256 : Int))) = true then
 (r_spec_l01Byte [.sl ((a.getD 1 d0).ll), .i ((a.getD 2 d0).ii), .i ((a.getD 3 d0).ii)]).bindR fun r1 =>
 if (a.getD 0 d0).ii = 0 then
 .fail
 else
 .ret [.i (((r1.getD 0 d0).ii).tmod ((a.getD 0 d0).ii)), .sl ((r1.getD 1 d0).ll), .i ((r1.getD 2 d0).ii), .i ((r1.getD 3 d0).ii)]
 else
 (r_spec_l01Byte [.sl ((a.getD 1 d0).ll), .i ((a.getD 2 d0).ii), .i ((a.getD 3 d0).ii)]).bindR fun r2 =>
 (r_spec_l01Byte [.sl ((r2.getD 1 d0).ll), .i ((r2.getD 2 d0).ii), .i ((r2.getD 3 d0).ii)]).bindR fun r3 =>
 (r_spec_l01Byte [.sl ((r3.getD 1 d0).ll), .i ((r3.getD 2 d0).ii), .i ((r3.getD 3 d0).ii)]).bindR fun r4 =>
 (r_spec_l01Byte [.sl ((r4.getD 1 d0).ll), .i ((r4.getD 2 d0).ii), .i ((r4.getD 3 d0).ii)]).bindR fun r5 =>
 if (a.getD 0 d0).ii = 0 then
 .fail
 else
 .ret [.i ((IntKind.i64.wrap ((IntKind.i64.wrap ((IntKind.i64.wrap ((IntKind.i64.wrap ((r2.getD 0 d0).ii * (16777216 : Int))) + (IntKind.i64.wrap ((r3.getD 0 d0).ii * (65536 : Int))))) + (IntKind.i64.wrap ((r4.getD 0 d0).ii * (256 : Int))))) + (r5.getD 0 d0).ii)).tmod ((a.getD 0 d0).ii)), .sl ((r5.getD 1 d0).ll), .i ((r5.getD 2 d0).ii), .i ((r5.getD 3 d0).ii)]
theorem eq_spec_l01Below a : r_spec_l01Below a = E_spec_l01Below a := (Run_eq cfg 35 _ a).trans (by kernel_rfl)
noncomputable def E_spec_l01Once (a : List DC) : Out :=
 (r_spec_l01Below [.i ((a.getD 0 d0).ii), .sl ((a.getD 1 d0).ll), .i ((a.getD 2 d0).ii), .i ((a.getD 3 d0).ii)]).bindR fun r1 =>
 .ret [.b ((r1.getD 0 d0).ii == (0 : Int)), .sl ((r1.getD 1 d0).ll), .i ((r1.getD 2 d0).ii), .i ((r1.getD 3 d0).ii)]
theorem eq_spec_l01Once a : r_spec_l01Once a = E_spec_l01Once a := (Run_eq cfg 36 _ a).trans (by kernel_rfl)
noncomputable def E_spec_l07ValueL1 : List DC → Out := fun v16 =>
 (r_spec_l01Below [.i (4 : Int), .sl ((v16.getD 3 d0).ll), .i ((v16.getD 4 d0).ii), .i ((v16.getD 5 d0).ii)]).bindR fun r17 =>
 if (decide ((v16.getD 2 d0).ii < (r17.getD 0 d0).ii)) = true then
 Out.andThenB ((r_spec_l03Name [.sl ((r17.getD 1 d0).ll), .i ((r17.getD 2 d0).ii), .i ((r17.getD 3 d0).ii)]).bindR fun r18 =>
 if ((v16.getD 11 d0).ll).length + [[DC.s ((r18.getD 0 d0).ss)]].length < LIM then
 (r_spec_l07Value [.i (IntKind.i64.wrap ((v16.getD 0 d0).ii - (1 : Int))), .b ((v16.getD 1 d0).bb), .sl ((r18.getD 1 d0).ll), .i ((r18.getD 2 d0).ii), .i ((r18.getD 3 d0).ii)]).bindR fun r19 =>
 if ((v16.getD 10 d0).ll).length + [[DC.i ((r19.getD 0 d0).ii), DC.s ((r19.getD 1 d0).ss), DC.sl ((r19.getD 2 d0).ll), DC.sl ((r19.getD 3 d0).ll)]].length < LIM then
 .norm [.i ((v16.getD 0 d0).ii), .b ((v16.getD 1 d0).bb), .i ((v16.getD 2 d0).ii), .sl ((r19.getD 4 d0).ll), .i ((r19.getD 5 d0).ii), .i ((r19.getD 6 d0).ii), .i ((v16.getD 6 d0).ii), .s ((v16.getD 7 d0).ss), .i ((v16.getD 8 d0).ii), .s ((v16.getD 9 d0).ss), .sl (((v16.getD 10 d0).ll) ++ [[DC.i ((r19.getD 0 d0).ii), DC.s ((r19.getD 1 d0).ss), DC.sl ((r19.getD 2 d0).ll), DC.sl ((r19.getD 3 d0).ll)]]), .sl (((v16.getD 11 d0).ll) ++ [[DC.s ((r18.getD 0 d0).ss)]])]
 else
 .fail
 else
 .fail) 2 fun v20 =>
 .norm [.i ((v20.getD 0 d0).ii), .b ((v20.getD 1 d0).bb), .i (IntKind.i64.wrap ((v20.getD 2 d0).ii + (1 : Int))), .sl ((v20.getD 3 d0).ll), .i ((v20.getD 4 d0).ii), .i ((v20.getD 5 d0).ii), .i ((v20.getD 6 d0).ii), .s ((v20.getD 7 d0).ss), .i ((v20.getD 8 d0).ii), .s ((v20.getD 9 d0).ss), .sl ((v20.getD 10 d0).ll), .sl ((v20.getD 11 d0).ll)]
 else
 .ex 1 [.sl ((r17.getD 1 d0).ll), .i ((r17.getD 2 d0).ii), .i ((r17.getD 3 d0).ii), .i ((v16.getD 6 d0).ii), .s ((v16.getD 7 d0).ss), .i ((v16.getD 8 d0).ii), .s ((v16.getD 9 d0).ss), .sl ((v16.getD 10 d0).ll), .sl ((v16.getD 11 d0).ll)]
noncomputable def E_spec_l07ValueL2 : List DC → Out := fun v27 =>
 (r_spec_l01Below [.i (4 : Int), .sl ((v27.getD 3 d0).ll), .i ((v27.getD 4 d0).ii), .i ((v27.getD 5 d0).ii)]).bindR fun r28 =>
 if (decide ((v27.getD 2 d0).ii < (r28.getD 0 d0).ii)) = true then
 Out.andThenB ((r_spec_l07Value [.i (IntKind.i64.wrap ((v27.getD 0 d0).ii - (1 : Int))), .b ((v27.getD 1 d0).bb), .sl ((r28.getD 1 d0).ll), .i ((r28.getD 2 d0).ii), .i ((r28.getD 3 d0).ii)]).bindR fun r29 =>
 if ((v27.getD 10 d0).ll).length + [[DC.i ((r29.getD 0 d0).ii), DC.s ((r29.getD 1 d0).ss), DC.sl ((r29.getD 2 d0).ll), DC.sl ((r29.getD 3 d0).ll)]].length < LIM then
 .norm [.i ((v27.getD 0 d0).ii), .b ((v27.getD 1 d0).bb), .i ((v27.getD 2 d0).ii), .sl ((r29.getD 4 d0).ll), .i ((r29.getD 5 d0).ii), .i ((r29.getD 6 d0).ii), .i ((v27.getD 6 d0).ii), .s ((v27.getD 7 d0).ss), .i ((v27.getD 8 d0).ii), .s ((v27.getD 9 d0).ss), .sl (((v27.getD 10 d0).ll) ++ [[DC.i ((r29.getD 0 d0).ii), DC.s ((r29.getD 1 d0).ss), DC.sl ((r29.getD 2 d0).ll), DC.sl ((r29.getD 3 d0).ll)]])]
 else
 .fail) 4 fun v30 =>
 .norm [.i ((v30.getD 0 d0).ii), .b ((v30.getD 1 d0).bb), .i (IntKind.i64.wrap ((v30.getD 2 d0).ii + (1 : Int))), .sl ((v30.getD 3 d0).ll), .i ((v30.getD 4 d0).ii), .i ((v30.getD 5 d0).ii), .i ((v30.getD 6 d0).ii), .s ((v30.getD 7 d0).ss), .i ((v30.getD 8 d0).ii), .s ((v30.getD 9 d0).ss), .sl ((v30.getD 10 d0).ll)]
 else
 .ex 3 [.sl ((r28.getD 1 d0).ll), .i ((r28.getD 2 d0).ii), .i ((r28.getD 3 d0).ii), .i ((v27.getD 6 d0).ii), .s ((v27.getD 7 d0).ss), .i ((v27.getD 8 d0).ii), .s ((v27.getD 9 d0).ss), .sl ((v27.getD 10 d0).ll)]
noncomputable def E_spec_l07Value (a : List DC) : Out :=
 (r_spec_l01Below [.i (10 : Int), .sl ((a.getD 2 d0).ll), .i ((a.getD 3 d0).ii), .i ((a.getD 4 d0).ii)]).bindR fun r1 =>
 Out.andThen (if (decide ((a.getD 0 d0).ii ≤ (0 : Int))) = true then
 .norm [.i ((a.getD 0 d0).ii), .b ((a.getD 1 d0).bb), .i ((r1.getD 0 d0).ii), .b (decide ((r1.getD 0 d0).ii ≥ (7 : Int))), .sl ((r1.getD 1 d0).ll), .i ((r1.getD 2 d0).ii), .i ((r1.getD 3 d0).ii), .i (0 : Int), .s []]
 else
 .norm [.i ((a.getD 0 d0).ii), .b ((a.getD 1 d0).bb), .i ((r1.getD 0 d0).ii), .b false, .sl ((r1.getD 1 d0).ll), .i ((r1.getD 2 d0).ii), .i ((r1.getD 3 d0).ii), .i (0 : Int), .s []]) fun v2 =>
 Out.andThen (if (v2.getD 3 d0).bb = true then
 .norm [.i ((v2.getD 0 d0).ii), .b ((v2.getD 1 d0).bb), .i (IntKind.i64.wrap ((v2.getD 2 d0).ii - (7 : Int))), .sl ((v2.getD 4 d0).ll), .i ((v2.getD 5 d0).ii), .i ((v2.getD 6 d0).ii), .i ((v2.getD 7 d0).ii), .s ((v2.getD 8 d0).ss)]
 else
 .norm [.i ((v2.getD 0 d0).ii), .b ((v2.getD 1 d0).bb), .i ((v2.getD 2 d0).ii), .sl ((v2.getD 4 d0).ll), .i ((v2.getD 5 d0).ii), .i ((v2.getD 6 d0).ii), .i ((v2.getD 7 d0).ii), .s ((v2.getD 8 d0).ss)]) fun v3 =>
 Out.andThenB (if ((v3.getD 2 d0).ii == (0 : Int)) = true then
 (r_spec_l01Pick [.sl [[DC.s ([48] : List UInt8)], [DC.s ([45, 49] : List UInt8)], [DC.s ([49, 50] : List UInt8)], [DC.s ([50, 49, 52, 55, 52, 56, 51, 54, 52, 56] : List UInt8)]], .sl ((v3.getD 3 d0).ll), .i ((v3.getD 4 d0).ii), .i ((v3.getD 5 d0).ii)]).bindR fun r4 =>
 .ret [.i (2 : Int), .s ((r4.getD 0 d0).ss), .sl [], .sl [], .sl ((r4.getD 1 d0).ll), .i ((r4.getD 2 d0).ii), .i ((r4.getD 3 d0).ii)]
 else
 if ((v3.getD 2 d0).ii == (1 : Int)) = true then
 (r_spec_l01Pick [.sl [[DC.s ([49, 46, 53] : List UInt8)], [DC.s ([49, 101, 51] : List UInt8)]], .sl ((v3.getD 3 d0).ll), .i ((v3.getD 4 d0).ii), .i ((v3.getD 5 d0).ii)]).bindR fun r5 =>
 .ret [.i (3 : Int), .s ((r5.getD 0 d0).ss), .sl [], .sl [], .sl ((r5.getD 1 d0).ll), .i ((r5.getD 2 d0).ii), .i ((r5.getD 3 d0).ii)]
 else
 if ((v3.getD 2 d0).ii == (2 : Int)) = true then
 (r_spec_l02Text [.sl ((v3.getD 3 d0).ll), .i ((v3.getD 4 d0).ii), .i ((v3.getD 5 d0).ii)]).bindR fun r6 =>
 .ret [.i (4 : Int), .s ((r6.getD 0 d0).ss), .sl [], .sl [], .sl ((r6.getD 1 d0).ll), .i ((r6.getD 2 d0).ii), .i ((r6.getD 3 d0).ii)]
 else
 if ((v3.getD 2 d0).ii == (3 : Int)) = true then
 (r_spec_l01Pick [.sl [[DC.s ([116, 114, 117, 101] : List UInt8)], [DC.s ([102, 97, 108, 115, 101] : List UInt8)], [DC.s ([110, 117, 108, 108] : List UInt8)]], .sl ((v3.getD 3 d0).ll), .i ((v3.getD 4 d0).ii), .i ((v3.getD 5 d0).ii)]).bindR fun r7 =>
 .ret [.i (5 : Int), .s ((r7.getD 0 d0).ss), .sl [], .sl [], .sl ((r7.getD 1 d0).ll), .i ((r7.getD 2 d0).ii), .i ((r7.getD 3 d0).ii)]
 else
 if ((v3.getD 2 d0).ii == (4 : Int)) = true then
 (r_spec_l01Pick [.sl [[DC.s ([82, 69, 68] : List UInt8)], [DC.s ([66, 76, 85, 69] : List UInt8)], [DC.s ([111, 110] : List UInt8)], [DC.s ([116, 121, 112, 101] : List UInt8)]], .sl ((v3.getD 3 d0).ll), .i ((v3.getD 4 d0).ii), .i ((v3.getD 5 d0).ii)]).bindR fun r8 =>
 .ret [.i (6 : Int), .s ((r8.getD 0 d0).ss), .sl [], .sl [], .sl ((r8.getD 1 d0).ll), .i ((r8.getD 2 d0).ii), .i ((r8.getD 3 d0).ii)]
 else
 Out.andThen (if ((v3.getD 2 d0).ii == (5 : Int)) = true then
 .norm [.i ((v3.getD 0 d0).ii), .b ((v3.getD 1 d0).bb), .i ((v3.getD 2 d0).ii), .b ((v3.getD 2 d0).ii == (5 : Int)), .sl ((v3.getD 3 d0).ll), .i ((v3.getD 4 d0).ii), .i ((v3.getD 5 d0).ii), .i ((v3.getD 6 d0).ii), .s ((v3.getD 7 d0).ss)]
 else
 .norm [.i ((v3.getD 0 d0).ii), .b ((v3.getD 1 d0).bb), .i ((v3.getD 2 d0).ii), .b ((v3.getD 2 d0).ii == (6 : Int)), .sl ((v3.getD 3 d0).ll), .i ((v3.getD 4 d0).ii), .i ((v3.getD 5 d0).ii), .i ((v3.getD 6 d0).ii), .s ((v3.getD 7 d0).ss)]) fun v9 =>
 if (v9.getD 3 d0).bb = true then
 if (v9.getD 1 d0).bb = true then
 (r_spec_l01Pick [.sl [[DC.s ([97] : List UInt8)], [DC.s ([98] : List UInt8)], [DC.s ([118] : List UInt8)]], .sl ((v9.getD 4 d0).ll), .i ((v9.getD 5 d0).ii), .i ((v9.getD 6 d0).ii)]).bindR fun r10 =>
 .ret [.i (1 : Int), .s ((r10.getD 0 d0).ss), .sl [], .sl [], .sl ((r10.getD 1 d0).ll), .i ((r10.getD 2 d0).ii), .i ((r10.getD 3 d0).ii)]
 else
 .ret [.i (2 : Int), .s ([55] : List UInt8), .sl [], .sl [], .sl ((v9.getD 4 d0).ll), .i ((v9.getD 5 d0).ii), .i ((v9.getD 6 d0).ii)]
 else
 if ((v9.getD 2 d0).ii == (7 : Int)) = true then
 Out.andThenB (Loop E_spec_l07ValueL1 [.i ((v9.getD 0 d0).ii), .b ((v9.getD 1 d0).bb), .i (0 : Int), .sl ((v9.getD 4 d0).ll), .i ((v9.getD 5 d0).ii), .i ((v9.getD 6 d0).ii), .i ((v9.getD 7 d0).ii), .s ((v9.getD 8 d0).ss), .i (8 : Int), .s [], .sl [], .sl []]) 1 fun v21 =>
 .ret [.i ((v21.getD 5 d0).ii), .s ((v21.getD 6 d0).ss), .sl ((v21.getD 7 d0).ll), .sl ((v21.getD 8 d0).ll), .sl ((v21.getD 0 d0).ll), .i ((v21.getD 1 d0).ii), .i ((v21.getD 2 d0).ii)]
 else
 .norm [.i ((v9.getD 0 d0).ii), .b ((v9.getD 1 d0).bb), .sl ((v9.getD 4 d0).ll), .i ((v9.getD 5 d0).ii), .i ((v9.getD 6 d0).ii), .i ((v9.getD 7 d0).ii), .s ((v9.getD 8 d0).ss)]) 0 fun v22 =>
 Out.andThenB (Loop E_spec_l07ValueL2 [.i ((v22.getD 0 d0).ii), .b ((v22.getD 1 d0).bb), .i (0 : Int), .sl ((v22.getD 2 d0).ll), .i ((v22.getD 3 d0).ii), .i ((v22.getD 4 d0).ii), .i ((v22.getD 5 d0).ii), .s ((v22.getD 6 d0).ss), .i (7 : Int), .s [], .sl []]) 3 fun v31 =>
 .ret [.i ((v31.getD 5 d0).ii), .s ((v31.getD 6 d0).ss), .sl ((v31.getD 7 d0).ll), .sl [], .sl ((v31.getD 0 d0).ll), .i ((v31.getD 1 d0).ii), .i ((v31.getD 2 d0).ii)]
theorem eq_spec_l07Value a : r_spec_l07Value a = E_spec_l07Value a := (Run_eq cfg 37 _ a).trans (by kernel_rfl)
noncomputable def E_strings_TrimSuffix (a : List DC) : Out :=
 (r_internal_stringslite_TrimSuffix [.s ((a.getD 0 d0).ss), .s ((a.getD 1 d0).ss)]).bindR fun r1 =>
 .ret [.s ((r1.getD 0 d0).ss)]
theorem eq_strings_TrimSuffix a : r_strings_TrimSuffix a = E_strings_TrimSuffix a := (Run_eq cfg 38 _ a).trans (by kernel_rfl)
noncomputable def E_internal_stringslite_HasSuffix (a : List DC) : Out :=
 Out.andThen (if (decide ((((a.getD 0 d0).ss).length : Int) ≥ (((a.getD 1 d0).ss).length : Int))) = true then
 if 0 ≤ (IntKind.i64.wrap ((((a.getD 0 d0).ss).length : Int) - (((a.getD 1 d0).ss).length : Int))) ∧ (IntKind.i64.wrap ((((a.getD 0 d0).ss).length : Int) - (((a.getD 1 d0).ss).length : Int))) ≤ (((a.getD 0 d0).ss).length : Int) then
 .norm [.b ((((a.getD 0 d0).ss).drop (IntKind.i64.wrap ((((a.getD 0 d0).ss).length : Int) - (((a.getD 1 d0).ss).length : Int))).toNat) == (a.getD 1 d0).ss)]
 else
 .fail
 else
 .norm [.b false]) fun v1 =>
 .ret [.b ((v1.getD 0 d0).bb)]
theorem eq_internal_stringslite_HasSuffix a : r_internal_stringslite_HasSuffix a = E_internal_stringslite_HasSuffix a := (Run_eq cfg 39 _ a).trans (by kernel_rfl)
noncomputable def E_strings_CutSuffix (a : List DC) : Out :=
 (r_internal_stringslite_CutSuffix [.s ((a.getD 0 d0).ss), .s ((a.getD 1 d0).ss)]).bindR fun r1 =>
 .ret [.s ((r1.getD 0 d0).ss), .b ((r1.getD 1 d0).bb)]
theorem eq_strings_CutSuffix a : r_strings_CutSuffix a = E_strings_CutSuffix a := (Run_eq cfg 40 _ a).trans (by kernel_rfl)
noncomputable def E_slices_IndexFunc_impl_Value__impl_Fits_1L1 : List DC → Out := fun v1 =>
 if (decide ((v1.getD 2 d0).ii < (v1.getD 1 d0).ii)) = true then
 Out.andThenB (if 34 = 34 ∧ 0 ≤ (v1.getD 2 d0).ii ∧ (v1.getD 2 d0).ii < (((v1.getD 0 d0).ll).length : Int) then
 (r_impl_Fits_1 [.i (((((v1.getD 0 d0).ll).getD ((v1.getD 2 d0).ii).toNat []).getD 0 d0).ii), .s (((((v1.getD 0 d0).ll).getD ((v1.getD 2 d0).ii).toNat []).getD 1 d0).ss), .sl (((((v1.getD 0 d0).ll).getD ((v1.getD 2 d0).ii).toNat []).getD 2 d0).ll), .sl (((((v1.getD 0 d0).ll).getD ((v1.getD 2 d0).ii).toNat []).getD 3 d0).ll), .sl ((v1.getD 3 d0).ll), .sl ((v1.getD 4 d0).ll), .sl ((v1.getD 5 d0).ll), .s ((v1.getD 6 d0).ss), .s ((v1.getD 7 d0).ss)]).bindR fun r2 =>
 if (r2.getD 0 d0).bb = true then
 .ret [.i ((v1.getD 2 d0).ii), .sl ((r2.getD 1 d0).ll), .sl ((r2.getD 2 d0).ll), .sl ((r2.getD 3 d0).ll), .s ((r2.getD 4 d0).ss), .s ((r2.getD 5 d0).ss)]
 else
 .norm [.sl ((v1.getD 0 d0).ll), .i ((v1.getD 1 d0).ii), .i ((v1.getD 2 d0).ii), .sl ((r2.getD 1 d0).ll), .sl ((r2.getD 2 d0).ll), .sl ((r2.getD 3 d0).ll), .s ((r2.getD 4 d0).ss), .s ((r2.getD 5 d0).ss)]
 else
 .fail) 1 fun v3 =>
 .norm [.sl ((v3.getD 0 d0).ll), .i ((v3.getD 1 d0).ii), .i (IntKind.i64.wrap ((v3.getD 2 d0).ii + (1 : Int))), .sl ((v3.getD 3 d0).ll), .sl ((v3.getD 4 d0).ll), .sl ((v3.getD 5 d0).ll), .s ((v3.getD 6 d0).ss), .s ((v3.getD 7 d0).ss)]
 else
 .ex 0 [.sl ((v1.getD 3 d0).ll), .sl ((v1.getD 4 d0).ll), .sl ((v1.getD 5 d0).ll), .s ((v1.getD 6 d0).ss), .s ((v1.getD 7 d0).ss)]
noncomputable def E_slices_IndexFunc_impl_Value__impl_Fits_1 (a : List DC) : Out :=
 Out.andThenB (Loop E_slices_IndexFunc_impl_Value__impl_Fits_1L1 [.sl ((a.getD 0 d0).ll), .i (((a.getD 0 d0).ll).length : Int), .i (0 : Int), .sl ((a.getD 1 d0).ll), .sl ((a.getD 2 d0).ll), .sl ((a.getD 3 d0).ll), .s ((a.getD 4 d0).ss), .s ((a.getD 5 d0).ss)]) 0 fun v4 =>
 .ret [.i (-1 : Int), .sl ((v4.getD 0 d0).ll), .sl ((v4.getD 1 d0).ll), .sl ((v4.getD 2 d0).ll), .s ((v4.getD 3 d0).ss), .s ((v4.getD 4 d0).ss)]
theorem eq_slices_IndexFunc_impl_Value__impl_Fits_1 a : r_slices_IndexFunc_impl_Value__impl_Fits_1 a = E_slices_IndexFunc_impl_Value__impl_Fits_1 a := (Run_eq cfg 41 _ a).trans (by kernel_rfl)
noncomputable def E_impl_typeDef (a : List DC) : Out :=
 (r_impl_TypeAt [.sl ((a.getD 0 d0).ll), .sl ((a.getD 1 d0).ll), .sl ((a.getD 2 d0).ll), .s ((a.getD 3 d0).ss)]).bindR fun r1 =>
 if (decide ((r1.getD 0 d0).ii < (0 : Int))) = true then
 .ret [.i (0 : Int), .b false, .s [], .s [], .sl [], .sl [], .sl [], .sl [], .sl [], .b false, .sl [], .b false]
 else
 if 45 = 45 ∧ 0 ≤ (r1.getD 0 d0).ii ∧ (r1.getD 0 d0).ii < (((a.getD 0 d0).ll).length : Int) then
 .ret [.i (((((a.getD 0 d0).ll).getD ((r1.getD 0 d0).ii).toNat []).getD 0 d0).ii), .b (((((a.getD 0 d0).ll).getD ((r1.getD 0 d0).ii).toNat []).getD 1 d0).bb), .s (((((a.getD 0 d0).ll).getD ((r1.getD 0 d0).ii).toNat []).getD 2 d0).ss), .s (((((a.getD 0 d0).ll).getD ((r1.getD 0 d0).ii).toNat []).getD 3 d0).ss), .sl (((((a.getD 0 d0).ll).getD ((r1.getD 0 d0).ii).toNat []).getD 4 d0).ll), .sl (((((a.getD 0 d0).ll).getD ((r1.getD 0 d0).ii).toNat []).getD 5 d0).ll), .sl (((((a.getD 0 d0).ll).getD ((r1.getD 0 d0).ii).toNat []).getD 6 d0).ll), .sl (((((a.getD 0 d0).ll).getD ((r1.getD 0 d0).ii).toNat []).getD 7 d0).ll), .sl (((((a.getD 0 d0).ll).getD ((r1.getD 0 d0).ii).toNat []).getD 8 d0).ll), .b (((((a.getD 0 d0).ll).getD ((r1.getD 0 d0).ii).toNat []).getD 9 d0).bb), .sl (((((a.getD 0 d0).ll).getD ((r1.getD 0 d0).ii).toNat []).getD 10 d0).ll), .b true]
 else
 .fail
theorem eq_impl_typeDef a : r_impl_typeDef a = E_impl_typeDef a := (Run_eq cfg 42 _ a).trans (by kernel_rfl)
noncomputable def E_impl_BuiltIn (a : List DC) : Out :=
 Out.andThenB (Out.andThen (if ((a.getD 0 d0).ss == ([73, 110, 116] : List UInt8)) = true then
 .norm [.b ((a.getD 0 d0).ss == ([73, 110, 116] : List UInt8))]
 else
 Out.andThen (if ((a.getD 0 d0).ss == ([70, 108, 111, 97, 116] : List UInt8)) = true then
 .norm [.b ((a.getD 0 d0).ss == ([70, 108, 111, 97, 116] : List UInt8))]
 else
 Out.andThen (if ((a.getD 0 d0).ss == ([83, 116, 114, 105, 110, 103] : List UInt8)) = true then
 .norm [.b ((a.getD 0 d0).ss == ([83, 116, 114, 105, 110, 103] : List UInt8))]
 else
 Out.andThen (if ((a.getD 0 d0).ss == ([66, 111, 111, 108, 101, 97, 110] : List UInt8)) = true then
 .norm [.b ((a.getD 0 d0).ss == ([66, 111, 111, 108, 101, 97, 110] : List UInt8))]
 else
 .norm [.b ((a.getD 0 d0).ss == ([73, 68] : List UInt8))]) fun v1 =>
 .norm [.b ((v1.getD 0 d0).bb)]) fun v2 =>
 .norm [.b ((v2.getD 0 d0).bb)]) fun v3 =>
 .norm [.b ((v3.getD 0 d0).bb)]) fun v4 =>
 if (v4.getD 0 d0).bb = true then
 .ret [.b true]
 else
 .norm []) 0 fun v5 =>
 .ret [.b false]
theorem eq_impl_BuiltIn a : r_impl_BuiltIn a = E_impl_BuiltIn a := (Run_eq cfg 43 _ a).trans (by kernel_rfl)
noncomputable def E_impl_fitsBuiltIn (a : List DC) : Out :=
 Out.andThenB (if ((a.getD 4 d0).ss == ([73, 110, 116] : List UInt8)) = true then
 Out.andThen (if ((a.getD 0 d0).ii == (2 : Int)) = true then
 (r_impl_Fits32 [.s ((a.getD 1 d0).ss)]).bindR fun r1 =>
 .norm [.b ((r1.getD 0 d0).bb)]
 else
 .norm [.b false]) fun v2 =>
 .ret [.b ((v2.getD 0 d0).bb)]
 else
 if ((a.getD 4 d0).ss == ([70, 108, 111, 97, 116] : List UInt8)) = true then
 Out.andThen (if ((a.getD 0 d0).ii == (2 : Int)) = true then
 .norm [.b true]
 else
 .norm [.b ((a.getD 0 d0).ii == (3 : Int))]) fun v3 =>
 .ret [.b ((v3.getD 0 d0).bb)]
 else
 if ((a.getD 4 d0).ss == ([83, 116, 114, 105, 110, 103] : List UInt8)) = true then
 .ret [.b ((a.getD 0 d0).ii == (4 : Int))]
 else
 if ((a.getD 4 d0).ss == ([66, 111, 111, 108, 101, 97, 110] : List UInt8)) = true then
 Out.andThen (if ((a.getD 0 d0).ii == (5 : Int)) = true then
 if ((a.getD 1 d0).ss == ([116, 114, 117, 101] : List UInt8)) = true then
 .norm [.b true]
 else
 .norm [.b ((a.getD 1 d0).ss == ([102, 97, 108, 115, 101] : List UInt8))]
 else
 .norm [.b false]) fun v4 =>
 .ret [.b ((v4.getD 0 d0).bb)]
 else
 .norm [.i ((a.getD 0 d0).ii), .s ((a.getD 1 d0).ss), .sl ((a.getD 2 d0).ll), .sl ((a.getD 3 d0).ll)]) 0 fun v5 =>
 Out.andThen (if ((v5.getD 0 d0).ii == (2 : Int)) = true then
 .norm [.b true]
 else
 .norm [.b ((v5.getD 0 d0).ii == (4 : Int))]) fun v6 =>
 .ret [.b ((v6.getD 0 d0).bb)]
theorem eq_impl_fitsBuiltIn a : r_impl_fitsBuiltIn a = E_impl_fitsBuiltIn a := (Run_eq cfg 44 _ a).trans (by kernel_rfl)
noncomputable def E_slices_ContainsFunc_impl_EnumDef__impl_fitsName_1 (a : List DC) : Out :=
 (r_slices_IndexFunc_impl_EnumDef__impl_fitsName_1 [.sl ((a.getD 0 d0).ll), .i ((a.getD 1 d0).ii), .s ((a.getD 2 d0).ss), .sl ((a.getD 3 d0).ll), .sl ((a.getD 4 d0).ll)]).bindR fun r1 =>
 .ret [.b (decide ((r1.getD 0 d0).ii ≥ (0 : Int))), .i ((r1.getD 1 d0).ii), .s ((r1.getD 2 d0).ss), .sl ((r1.getD 3 d0).ll), .sl ((r1.getD 4 d0).ll)]
theorem eq_slices_ContainsFunc_impl_EnumDef__impl_fitsName_1 a : r_slices_ContainsFunc_impl_EnumDef__impl_fitsName_1 a = E_slices_ContainsFunc_impl_EnumDef__impl_fitsName_1 a := (Run_eq cfg 45 _ a).trans (by kernel_rfl)
noncomputable def E_impl_fitsInputL1 : List DC → Out := fun v2 =>
 if (decide ((v2.getD 2 d0).ii < (v2.getD 1 d0).ii)) = true then
 Out.andThenB (if 9 = 9 ∧ 0 ≤ (v2.getD 2 d0).ii ∧ (v2.getD 2 d0).ii < (((v2.getD 0 d0).ll).length : Int) then
 (r_impl_InAt [.sl ((v2.getD 16 d0).ll), .s (((((v2.getD 0 d0).ll).getD ((v2.getD 2 d0).ii).toNat []).getD 0 d0).ss)]).bindR fun r3 =>
 Out.andThen (if (decide ((r3.getD 0 d0).ii < (0 : Int))) = true then
 .norm [.sl ((v2.getD 0 d0).ll), .i ((v2.getD 1 d0).ii), .i ((v2.getD 2 d0).ii), .b true, .sl ((v2.getD 3 d0).ll), .sl ((v2.getD 4 d0).ll), .sl ((v2.getD 5 d0).ll), .i ((v2.getD 6 d0).ii), .s ((v2.getD 7 d0).ss), .sl ((v2.getD 8 d0).ll), .sl ((v2.getD 9 d0).ll), .i ((v2.getD 10 d0).ii), .b ((v2.getD 11 d0).bb), .s ((v2.getD 12 d0).ss), .s ((v2.getD 13 d0).ss), .sl ((v2.getD 14 d0).ll), .sl ((v2.getD 15 d0).ll), .sl ((v2.getD 16 d0).ll), .sl ((v2.getD 17 d0).ll), .sl ((v2.getD 18 d0).ll), .b ((v2.getD 19 d0).bb), .sl ((v2.getD 20 d0).ll)]
 else
 if 0 ≤ (v2.getD 2 d0).ii ∧ (v2.getD 2 d0).ii ≤ (((v2.getD 9 d0).ll).length : Int) then
 (r_slices_Contains_string [.sl (((v2.getD 9 d0).ll).take ((v2.getD 2 d0).ii).toNat), .s (((((v2.getD 0 d0).ll).getD ((v2.getD 2 d0).ii).toNat []).getD 0 d0).ss)]).bindR fun r4 =>
 if (r4.getD 0 d0).bb = true then
 .norm [.sl ((v2.getD 0 d0).ll), .i ((v2.getD 1 d0).ii), .i ((v2.getD 2 d0).ii), .b true, .sl ((v2.getD 3 d0).ll), .sl ((v2.getD 4 d0).ll), .sl ((v2.getD 5 d0).ll), .i ((v2.getD 6 d0).ii), .s ((v2.getD 7 d0).ss), .sl ((v2.getD 8 d0).ll), .sl ((v2.getD 9 d0).ll), .i ((v2.getD 10 d0).ii), .b ((v2.getD 11 d0).bb), .s ((v2.getD 12 d0).ss), .s ((v2.getD 13 d0).ss), .sl ((v2.getD 14 d0).ll), .sl ((v2.getD 15 d0).ll), .sl ((v2.getD 16 d0).ll), .sl ((v2.getD 17 d0).ll), .sl ((v2.getD 18 d0).ll), .b ((v2.getD 19 d0).bb), .sl ((v2.getD 20 d0).ll)]
 else
 if 34 = 34 ∧ 0 ≤ (v2.getD 2 d0).ii ∧ (v2.getD 2 d0).ii < (((v2.getD 8 d0).ll).length : Int) then
 if 65 = 65 ∧ 0 ≤ (r3.getD 0 d0).ii ∧ (r3.getD 0 d0).ii < (((v2.getD 16 d0).ll).length : Int) then
 (r_impl_Fits [.sl ((v2.getD 3 d0).ll), .sl ((v2.getD 4 d0).ll), .sl ((v2.getD 5 d0).ll), .i (((((v2.getD 8 d0).ll).getD ((v2.getD 2 d0).ii).toNat []).getD 0 d0).ii), .s (((((v2.getD 8 d0).ll).getD ((v2.getD 2 d0).ii).toNat []).getD 1 d0).ss), .sl (((((v2.getD 8 d0).ll).getD ((v2.getD 2 d0).ii).toNat []).getD 2 d0).ll), .sl (((((v2.getD 8 d0).ll).getD ((v2.getD 2 d0).ii).toNat []).getD 3 d0).ll), .s (((((v2.getD 16 d0).ll).getD ((r3.getD 0 d0).ii).toNat []).getD 2 d0).ss), .s (((((v2.getD 16 d0).ll).getD ((r3.getD 0 d0).ii).toNat []).getD 3 d0).ss)]).bindR fun r5 =>
 .norm [.sl ((v2.getD 0 d0).ll), .i ((v2.getD 1 d0).ii), .i ((v2.getD 2 d0).ii), .b (!((r5.getD 0 d0).bb)), .sl ((v2.getD 3 d0).ll), .sl ((v2.getD 4 d0).ll), .sl ((v2.getD 5 d0).ll), .i ((v2.getD 6 d0).ii), .s ((v2.getD 7 d0).ss), .sl ((v2.getD 8 d0).ll), .sl ((v2.getD 9 d0).ll), .i ((v2.getD 10 d0).ii), .b ((v2.getD 11 d0).bb), .s ((v2.getD 12 d0).ss), .s ((v2.getD 13 d0).ss), .sl ((v2.getD 14 d0).ll), .sl ((v2.getD 15 d0).ll), .sl ((v2.getD 16 d0).ll), .sl ((v2.getD 17 d0).ll), .sl ((v2.getD 18 d0).ll), .b ((v2.getD 19 d0).bb), .sl ((v2.getD 20 d0).ll)]
 else
 .fail
 else
 .fail
 else
 .fail) fun v6 =>
 if (v6.getD 3 d0).bb = true then
 .ret [.b false]
 else
 .norm [.sl ((v6.getD 0 d0).ll), .i ((v6.getD 1 d0).ii), .i ((v6.getD 2 d0).ii), .sl ((v6.getD 4 d0).ll), .sl ((v6.getD 5 d0).ll), .sl ((v6.getD 6 d0).ll), .i ((v6.getD 7 d0).ii), .s ((v6.getD 8 d0).ss), .sl ((v6.getD 9 d0).ll), .sl ((v6.getD 10 d0).ll), .i ((v6.getD 11 d0).ii), .b ((v6.getD 12 d0).bb), .s ((v6.getD 13 d0).ss), .s ((v6.getD 14 d0).ss), .sl ((v6.getD 15 d0).ll), .sl ((v6.getD 16 d0).ll), .sl ((v6.getD 17 d0).ll), .sl ((v6.getD 18 d0).ll), .sl ((v6.getD 19 d0).ll), .b ((v6.getD 20 d0).bb), .sl ((v6.getD 21 d0).ll)]
 else
 .fail) 1 fun v7 =>
 .norm [.sl ((v7.getD 0 d0).ll), .i ((v7.getD 1 d0).ii), .i (IntKind.i64.wrap ((v7.getD 2 d0).ii + (1 : Int))), .sl ((v7.getD 3 d0).ll), .sl ((v7.getD 4 d0).ll), .sl ((v7.getD 5 d0).ll), .i ((v7.getD 6 d0).ii), .s ((v7.getD 7 d0).ss), .sl ((v7.getD 8 d0).ll), .sl ((v7.getD 9 d0).ll), .i ((v7.getD 10 d0).ii), .b ((v7.getD 11 d0).bb), .s ((v7.getD 12 d0).ss), .s ((v7.getD 13 d0).ss), .sl ((v7.getD 14 d0).ll), .sl ((v7.getD 15 d0).ll), .sl ((v7.getD 16 d0).ll), .sl ((v7.getD 17 d0).ll), .sl ((v7.getD 18 d0).ll), .b ((v7.getD 19 d0).bb), .sl ((v7.getD 20 d0).ll)]
 else
 .ex 0 [.i ((v2.getD 6 d0).ii), .s ((v2.getD 7 d0).ss), .sl ((v2.getD 8 d0).ll), .sl ((v2.getD 9 d0).ll), .i ((v2.getD 10 d0).ii), .b ((v2.getD 11 d0).bb), .s ((v2.getD 12 d0).ss), .s ((v2.getD 13 d0).ss), .sl ((v2.getD 14 d0).ll), .sl ((v2.getD 15 d0).ll), .sl ((v2.getD 16 d0).ll), .sl ((v2.getD 17 d0).ll), .sl ((v2.getD 18 d0).ll), .b ((v2.getD 19 d0).bb), .sl ((v2.getD 20 d0).ll)]
noncomputable def E_impl_fitsInput (a : List DC) : Out :=
 Out.andThen (if ((a.getD 3 d0).ii != (8 : Int)) = true then
 .norm [.b true, .sl ((a.getD 0 d0).ll), .sl ((a.getD 1 d0).ll), .sl ((a.getD 2 d0).ll), .i ((a.getD 3 d0).ii), .s ((a.getD 4 d0).ss), .sl ((a.getD 5 d0).ll), .sl ((a.getD 6 d0).ll), .i ((a.getD 7 d0).ii), .b ((a.getD 8 d0).bb), .s ((a.getD 9 d0).ss), .s ((a.getD 10 d0).ss), .sl ((a.getD 11 d0).ll), .sl ((a.getD 12 d0).ll), .sl ((a.getD 13 d0).ll), .sl ((a.getD 14 d0).ll), .sl ((a.getD 15 d0).ll), .b ((a.getD 16 d0).bb), .sl ((a.getD 17 d0).ll)]
 else
 if ((((a.getD 6 d0).ll).length : Int) != (((a.getD 5 d0).ll).length : Int)) = true then
 .norm [.b true, .sl ((a.getD 0 d0).ll), .sl ((a.getD 1 d0).ll), .sl ((a.getD 2 d0).ll), .i ((a.getD 3 d0).ii), .s ((a.getD 4 d0).ss), .sl ((a.getD 5 d0).ll), .sl ((a.getD 6 d0).ll), .i ((a.getD 7 d0).ii), .b ((a.getD 8 d0).bb), .s ((a.getD 9 d0).ss), .s ((a.getD 10 d0).ss), .sl ((a.getD 11 d0).ll), .sl ((a.getD 12 d0).ll), .sl ((a.getD 13 d0).ll), .sl ((a.getD 14 d0).ll), .sl ((a.getD 15 d0).ll), .b ((a.getD 16 d0).bb), .sl ((a.getD 17 d0).ll)]
 else
 .norm [.b (decide ((((a.getD 5 d0).ll).length : Int) > (100 : Int))), .sl ((a.getD 0 d0).ll), .sl ((a.getD 1 d0).ll), .sl ((a.getD 2 d0).ll), .i ((a.getD 3 d0).ii), .s ((a.getD 4 d0).ss), .sl ((a.getD 5 d0).ll), .sl ((a.getD 6 d0).ll), .i ((a.getD 7 d0).ii), .b ((a.getD 8 d0).bb), .s ((a.getD 9 d0).ss), .s ((a.getD 10 d0).ss), .sl ((a.getD 11 d0).ll), .sl ((a.getD 12 d0).ll), .sl ((a.getD 13 d0).ll), .sl ((a.getD 14 d0).ll), .sl ((a.getD 15 d0).ll), .b ((a.getD 16 d0).bb), .sl ((a.getD 17 d0).ll)]) fun v1 =>
 if (v1.getD 0 d0).bb = true then
 .ret [.b false]
 else
 Out.andThenB (Loop E_impl_fitsInputL1 [.sl ((v1.getD 7 d0).ll), .i (((v1.getD 7 d0).ll).length : Int), .i (0 : Int), .sl ((v1.getD 1 d0).ll), .sl ((v1.getD 2 d0).ll), .sl ((v1.getD 3 d0).ll), .i ((v1.getD 4 d0).ii), .s ((v1.getD 5 d0).ss), .sl ((v1.getD 6 d0).ll), .sl ((v1.getD 7 d0).ll), .i ((v1.getD 8 d0).ii), .b ((v1.getD 9 d0).bb), .s ((v1.getD 10 d0).ss), .s ((v1.getD 11 d0).ss), .sl ((v1.getD 12 d0).ll), .sl ((v1.getD 13 d0).ll), .sl ((v1.getD 14 d0).ll), .sl ((v1.getD 15 d0).ll), .sl ((v1.getD 16 d0).ll), .b ((v1.getD 17 d0).bb), .sl ((v1.getD 18 d0).ll)]) 0 fun v8 =>
 (r_impl_RequiredIn [.sl ((v8.getD 10 d0).ll)]).bindR fun r9 =>
 (r_slices_ContainsFunc_string__impl_fitsInput_1 [.sl ((r9.getD 0 d0).ll), .i ((v8.getD 0 d0).ii), .s ((v8.getD 1 d0).ss), .sl ((v8.getD 2 d0).ll), .sl ((v8.getD 3 d0).ll)]).bindR fun r10 =>
 .ret [.b (!((r10.getD 0 d0).bb))]
theorem eq_impl_fitsInput a : r_impl_fitsInput a = E_impl_fitsInput a := (Run_eq cfg 47 _ a).trans (by kernel_rfl)
noncomputable def E_spec_Fits32L1 : List DC → Out := fun v3 =>
 if (decide ((v3.getD 2 d0).ii < (((v3.getD 0 d0).ss).length : Int))) = true then
 Out.andThenB (if 0 ≤ (v3.getD 2 d0).ii ∧ (v3.getD 2 d0).ii < (((v3.getD 0 d0).ss).length : Int) then
 Out.andThen (if (((((v3.getD 0 d0).ss).getD ((v3.getD 2 d0).ii).toNat 0).toNat : Int) != (45 : Int)) = true then
 if 0 ≤ (v3.getD 2 d0).ii ∧ (v3.getD 2 d0).ii < (((v3.getD 0 d0).ss).length : Int) then
 .norm [.s ((v3.getD 0 d0).ss), .i (IntKind.i64.wrap ((IntKind.i64.wrap ((IntKind.i64.wrap ((v3.getD 1 d0).ii * (10 : Int))) + (IntKind.i64.wrap ((((v3.getD 0 d0).ss).getD ((v3.getD 2 d0).ii).toNat 0).toNat : Int)))) - (48 : Int))), .i ((v3.getD 2 d0).ii)]
 else
 .fail
 else
 .norm [.s ((v3.getD 0 d0).ss), .i ((v3.getD 1 d0).ii), .i ((v3.getD 2 d0).ii)]) fun v4 =>
 .norm [.s ((v4.getD 0 d0).ss), .i ((v4.getD 1 d0).ii), .i ((v4.getD 2 d0).ii)]
 else
 .fail) 1 fun v5 =>
 .norm [.s ((v5.getD 0 d0).ss), .i ((v5.getD 1 d0).ii), .i (IntKind.i64.wrap ((v5.getD 2 d0).ii + (1 : Int)))]
 else
 .ex 0 [.s ((v3.getD 0 d0).ss), .i ((v3.getD 1 d0).ii)]
noncomputable def E_spec_Fits32 (a : List DC) : Out :=
 Out.andThen ((r_spec_IntOk [.s ((a.getD 0 d0).ss)]).bindR fun r1 =>
 if (!((r1.getD 0 d0).bb)) = true then
 .norm [.s ((a.getD 0 d0).ss), .b true]
 else
 .norm [.s ((a.getD 0 d0).ss), .b (decide ((((a.getD 0 d0).ss).length : Int) > (11 : Int)))]) fun v2 =>
 if (v2.getD 1 d0).bb = true then
 .ret [.b false]
 else
 Out.andThenB (Loop E_spec_Fits32L1 [.s ((v2.getD 0 d0).ss), .i (0 : Int), .i (0 : Int)]) 0 fun v6 =>
 if 0 ≤ (0 : Int) ∧ (0 : Int) < (((v6.getD 0 d0).ss).length : Int) then
 if (((((v6.getD 0 d0).ss).getD (0 : Int).toNat 0).toNat : Int) == (45 : Int)) = true then
 .ret [.b (decide ((v6.getD 1 d0).ii ≤ (2147483648 : Int)))]
 else
 .ret [.b (decide ((v6.getD 1 d0).ii ≤ (2147483647 : Int)))]
 else
 .fail
theorem eq_spec_Fits32 a : r_spec_Fits32 a = E_spec_Fits32 a := (Run_eq cfg 48 _ a).trans (by kernel_rfl)
noncomputable def E_spec_InAtL1 : List DC → Out := fun v1 =>
 if (decide ((v1.getD 2 d0).ii < (((v1.getD 0 d0).ll).length : Int))) = true then
 Out.andThenB (if 65 = 65 ∧ 0 ≤ (v1.getD 2 d0).ii ∧ (v1.getD 2 d0).ii < (((v1.getD 0 d0).ll).length : Int) then
 if (((((v1.getD 0 d0).ll).getD ((v1.getD 2 d0).ii).toNat []).getD 0 d0).ss == (v1.getD 1 d0).ss) = true then
 .ret [.i ((v1.getD 2 d0).ii)]
 else
 .norm [.sl ((v1.getD 0 d0).ll), .s ((v1.getD 1 d0).ss), .i ((v1.getD 2 d0).ii)]
 else
 .fail) 1 fun v2 =>
 .norm [.sl ((v2.getD 0 d0).ll), .s ((v2.getD 1 d0).ss), .i (IntKind.i64.wrap ((v2.getD 2 d0).ii + (1 : Int)))]
 else
 .ex 0 []
noncomputable def E_spec_InAt (a : List DC) : Out :=
 Out.andThenB (Loop E_spec_InAtL1 [.sl ((a.getD 0 d0).ll), .s ((a.getD 1 d0).ss), .i (0 : Int)]) 0 fun v3 =>
 .ret [.i (-1 : Int)]
theorem eq_spec_InAt a : r_spec_InAt a = E_spec_InAt a := (Run_eq cfg 49 _ a).trans (by kernel_rfl)
noncomputable def E_spec_l18HasL1 : List DC → Out := fun v1 =>
 if (decide ((v1.getD 2 d0).ii < (((v1.getD 0 d0).ll).length : Int))) = true then
 Out.andThenB (if 9 = 9 ∧ 0 ≤ (v1.getD 2 d0).ii ∧ (v1.getD 2 d0).ii < (((v1.getD 0 d0).ll).length : Int) then
 if (((((v1.getD 0 d0).ll).getD ((v1.getD 2 d0).ii).toNat []).getD 0 d0).ss == (v1.getD 1 d0).ss) = true then
 .ret [.b true]
 else
 .norm [.sl ((v1.getD 0 d0).ll), .s ((v1.getD 1 d0).ss), .i ((v1.getD 2 d0).ii)]
 else
 .fail) 1 fun v2 =>
 .norm [.sl ((v2.getD 0 d0).ll), .s ((v2.getD 1 d0).ss), .i (IntKind.i64.wrap ((v2.getD 2 d0).ii + (1 : Int)))]
 else
 .ex 0 []
noncomputable def E_spec_l18Has (a : List DC) : Out :=
 Out.andThenB (Loop E_spec_l18HasL1 [.sl ((a.getD 0 d0).ll), .s ((a.getD 1 d0).ss), .i (0 : Int)]) 0 fun v3 =>
 .ret [.b false]
theorem eq_spec_l18Has a : r_spec_l18Has a = E_spec_l18Has a := (Run_eq cfg 50 _ a).trans (by kernel_rfl)
noncomputable def E_spec_RequiredInL1 : List DC → Out := fun v1 =>
 if (decide ((v1.getD 2 d0).ii < (((v1.getD 0 d0).ll).length : Int))) = true then
 Out.andThenB (Out.andThen (if 65 = 65 ∧ 0 ≤ (v1.getD 2 d0).ii ∧ (v1.getD 2 d0).ii < (((v1.getD 0 d0).ll).length : Int) then
 (r_spec_Needed [.s (((((v1.getD 0 d0).ll).getD ((v1.getD 2 d0).ii).toNat []).getD 2 d0).ss), .s (((((v1.getD 0 d0).ll).getD ((v1.getD 2 d0).ii).toNat []).getD 3 d0).ss)]).bindR fun r2 =>
 if (r2.getD 0 d0).bb = true then
 if 65 = 65 ∧ 0 ≤ (v1.getD 2 d0).ii ∧ (v1.getD 2 d0).ii < (((v1.getD 0 d0).ll).length : Int) then
 .norm [.sl ((v1.getD 0 d0).ll), .sl ((v1.getD 1 d0).ll), .i ((v1.getD 2 d0).ii), .b (!(((((v1.getD 0 d0).ll).getD ((v1.getD 2 d0).ii).toNat []).getD 4 d0).bb))]
 else
 .fail
 else
 .norm [.sl ((v1.getD 0 d0).ll), .sl ((v1.getD 1 d0).ll), .i ((v1.getD 2 d0).ii), .b false]
 else
 .fail) fun v3 =>
 Out.andThen (if (v3.getD 3 d0).bb = true then
 if 65 = 65 ∧ 0 ≤ (v3.getD 2 d0).ii ∧ (v3.getD 2 d0).ii < (((v3.getD 0 d0).ll).length : Int) then
 if ((v3.getD 1 d0).ll).length + [[DC.s (((((v3.getD 0 d0).ll).getD ((v3.getD 2 d0).ii).toNat []).getD 0 d0).ss)]].length < LIM then
 .norm [.sl ((v3.getD 0 d0).ll), .sl (((v3.getD 1 d0).ll) ++ [[DC.s (((((v3.getD 0 d0).ll).getD ((v3.getD 2 d0).ii).toNat []).getD 0 d0).ss)]]), .i ((v3.getD 2 d0).ii)]
 else
 .fail
 else
 .fail
 else
 .norm [.sl ((v3.getD 0 d0).ll), .sl ((v3.getD 1 d0).ll), .i ((v3.getD 2 d0).ii)]) fun v4 =>
 .norm [.sl ((v4.getD 0 d0).ll), .sl ((v4.getD 1 d0).ll), .i ((v4.getD 2 d0).ii)]) 1 fun v5 =>
 .norm [.sl ((v5.getD 0 d0).ll), .sl ((v5.getD 1 d0).ll), .i (IntKind.i64.wrap ((v5.getD 2 d0).ii + (1 : Int)))]
 else
 .ex 0 [.sl ((v1.getD 1 d0).ll)]
noncomputable def E_spec_RequiredIn (a : List DC) : Out :=
 Out.andThenB (Loop E_spec_RequiredInL1 [.sl ((a.getD 0 d0).ll), .sl [], .i (0 : Int)]) 0 fun v6 =>
 .ret [.sl ((v6.getD 0 d0).ll)]
theorem eq_spec_RequiredIn a : r_spec_RequiredIn a = E_spec_RequiredIn a := (Run_eq cfg 51 _ a).trans (by kernel_rfl)
noncomputable def E_impl_InAt_1 (a : List DC) : Out :=
 .ret [.b ((a.getD 0 d0).ss == (a.getD 10 d0).ss), .s ((a.getD 10 d0).ss)]
theorem eq_impl_InAt_1 a : r_impl_InAt_1 a = E_impl_InAt_1 a := (Run_eq cfg 32 _ a).trans (by kernel_rfl)
noncomputable def E_spec_l01Byte (a : List DC) : Out :=
 if (33 : Int) < 0 then
 .fail
 else
 if (45 : Int) < 0 then
 .fail
 else
 Out.andThen (if (decide ((a.getD 1 d0).ii < (((a.getD 0 d0).ll).length : Int))) = true then
 if 5 = 5 ∧ 0 ≤ (a.getD 1 d0).ii ∧ (a.getD 1 d0).ii < (((a.getD 0 d0).ll).length : Int) then
 .norm [.i (IntKind.i64.wrap (BitVec.ofInt (IntKind.i64.bits) (IntKind.i64.wrap ((IntKind.i64.wrap (BitVec.ofInt (IntKind.i64.bits) (IntKind.i64.wrap (BitVec.ofInt (IntKind.i64.bits) ((IntKind.i64.wrap ((IntKind.i64.wrap ((a.getD 2 d0).ii * (6364136223846793005 : Int))) + (1442695040888963407 : Int))).fdiv (2 ^ (min (33 : Int).toNat (IntKind.i64.bits)))) ^^^ BitVec.ofInt (IntKind.i64.bits) ((IntKind.i64.wrap ((IntKind.i64.wrap ((a.getD 2 d0).ii * (6364136223846793005 : Int))) + (1442695040888963407 : Int))).fdiv (2 ^ (min (45 : Int).toNat (IntKind.i64.bits))))).toNat) &&& BitVec.ofInt (IntKind.i64.bits) (255 : Int)).toNat) + (IntKind.i64.wrap (((((a.getD 0 d0).ll).getD ((a.getD 1 d0).ii).toNat []).getD 0 d0).ii)))) &&& BitVec.ofInt (IntKind.i64.bits) (255 : Int)).toNat), .sl ((a.getD 0 d0).ll), .i (IntKind.i64.wrap ((a.getD 1 d0).ii + (1 : Int))), .i (IntKind.i64.wrap ((IntKind.i64.wrap ((a.getD 2 d0).ii * (6364136223846793005 : Int))) + (1442695040888963407 : Int)))]
 else
 .fail
 else
 .norm [.i (IntKind.i64.wrap (BitVec.ofInt (IntKind.i64.bits) (IntKind.i64.wrap (BitVec.ofInt (IntKind.i64.bits) ((IntKind.i64.wrap ((IntKind.i64.wrap ((a.getD 2 d0).ii * (6364136223846793005 : Int))) + (1442695040888963407 : Int))).fdiv (2 ^ (min (33 : Int).toNat (IntKind.i64.bits)))) ^^^ BitVec.ofInt (IntKind.i64.bits) ((IntKind.i64.wrap ((IntKind.i64.wrap ((a.getD 2 d0).ii * (6364136223846793005 : Int))) + (1442695040888963407 : Int))).fdiv (2 ^ (min (45 : Int).toNat (IntKind.i64.bits))))).toNat) &&& BitVec.ofInt (IntKind.i64.bits) (255 : Int)).toNat), .sl ((a.getD 0 d0).ll), .i ((a.getD 1 d0).ii), .i (IntKind.i64.wrap ((IntKind.i64.wrap ((a.getD 2 d0).ii * (6364136223846793005 : Int))) + (1442695040888963407 : Int)))]) fun v1 =>
 .ret [.i ((v1.getD 0 d0).ii), .sl ((v1.getD 1 d0).ll), .i ((v1.getD 2 d0).ii), .i ((v1.getD 3 d0).ii)]
theorem eq_spec_l01Byte a : r_spec_l01Byte a = E_spec_l01Byte a := (Run_eq cfg 56 _ a).trans (by kernel_rfl)
noncomputable def E_spec_l02TextL1 : List DC → Out := fun v1 =>
 (r_spec_l01Below [.i (8 : Int), .sl ((v1.getD 2 d0).ll), .i ((v1.getD 3 d0).ii), .i ((v1.getD 4 d0).ii)]).bindR fun r2 =>
 if (decide ((v1.getD 1 d0).ii < (r2.getD 0 d0).ii)) = true then
 Out.andThenB ((r_spec_l02Rune [.sl ((r2.getD 1 d0).ll), .i ((r2.getD 2 d0).ii), .i ((r2.getD 3 d0).ii)]).bindR fun r3 =>
 (r_spec_RuneText [.i ((r3.getD 0 d0).ii)]).bindR fun r4 =>
 if ((v1.getD 0 d0).ss).length + ((r4.getD 0 d0).ss).length < LIM then
 .norm [.s (((v1.getD 0 d0).ss) ++ ((r4.getD 0 d0).ss)), .i ((v1.getD 1 d0).ii), .sl ((r3.getD 1 d0).ll), .i ((r3.getD 2 d0).ii), .i ((r3.getD 3 d0).ii)]
 else
 .fail) 1 fun v5 =>
 .norm [.s ((v5.getD 0 d0).ss), .i (IntKind.i64.wrap ((v5.getD 1 d0).ii + (1 : Int))), .sl ((v5.getD 2 d0).ll), .i ((v5.getD 3 d0).ii), .i ((v5.getD 4 d0).ii)]
 else
 .ex 0 [.s ((v1.getD 0 d0).ss), .sl ((r2.getD 1 d0).ll), .i ((r2.getD 2 d0).ii), .i ((r2.getD 3 d0).ii)]
noncomputable def E_spec_l02Text (a : List DC) : Out :=
 Out.andThenB (Loop E_spec_l02TextL1 [.s ([] : List UInt8), .i (0 : Int), .sl ((a.getD 0 d0).ll), .i ((a.getD 1 d0).ii), .i ((a.getD 2 d0).ii)]) 0 fun v6 =>
 .ret [.s ((v6.getD 0 d0).ss), .sl ((v6.getD 1 d0).ll), .i ((v6.getD 2 d0).ii), .i ((v6.getD 3 d0).ii)]
theorem eq_spec_l02Text a : r_spec_l02Text a = E_spec_l02Text a := (Run_eq cfg 57 _ a).trans (by kernel_rfl)
noncomputable def E_spec_l03Name (a : List DC) : Out :=
 (r_spec_l01Pick [.sl [[DC.s ([97] : List UInt8)], [DC.s ([98] : List UInt8)], [DC.s ([110, 97, 109, 101] : List UInt8)], [DC.s ([105, 100] : List UInt8)], [DC.s ([85, 115, 101, 114] : List UInt8)], [DC.s ([80, 111, 115, 116] : List UInt8)], [DC.s ([78, 111, 100, 101] : List UInt8)], [DC.s ([111, 110] : List UInt8)], [DC.s ([116, 121, 112, 101] : List UInt8)], [DC.s ([120, 49] : List UInt8)], [DC.s ([95, 121] : List UInt8)], [DC.s ([82, 69, 68] : List UInt8)], [DC.s ([113, 117, 101, 114, 121] : List UInt8)]], .sl ((a.getD 0 d0).ll), .i ((a.getD 1 d0).ii), .i ((a.getD 2 d0).ii)]).bindR fun r1 =>
 .ret [.s ((r1.getD 0 d0).ss), .sl ((r1.getD 1 d0).ll), .i ((r1.getD 2 d0).ii), .i ((r1.getD 3 d0).ii)]
theorem eq_spec_l03Name a : r_spec_l03Name a = E_spec_l03Name a := (Run_eq cfg 58 _ a).trans (by kernel_rfl)
noncomputable def E_internal_stringslite_TrimSuffix (a : List DC) : Out :=
 (r_internal_stringslite_HasSuffix [.s ((a.getD 0 d0).ss), .s ((a.getD 1 d0).ss)]).bindR fun r1 =>
 if (r1.getD 0 d0).bb = true then
 if 0 ≤ (IntKind.i64.wrap ((((a.getD 0 d0).ss).length : Int) - (((a.getD 1 d0).ss).length : Int))) ∧ (IntKind.i64.wrap ((((a.getD 0 d0).ss).length : Int) - (((a.getD 1 d0).ss).length : Int))) ≤ (((a.getD 0 d0).ss).length : Int) then
 .ret [.s (((a.getD 0 d0).ss).take (IntKind.i64.wrap ((((a.getD 0 d0).ss).length : Int) - (((a.getD 1 d0).ss).length : Int))).toNat)]
 else
 .fail
 else
 .ret [.s ((a.getD 0 d0).ss)]
theorem eq_internal_stringslite_TrimSuffix a : r_internal_stringslite_TrimSuffix a = E_internal_stringslite_TrimSuffix a := (Run_eq cfg 59 _ a).trans (by kernel_rfl)
noncomputable def E_internal_stringslite_CutSuffix (a : List DC) : Out :=
 (r_internal_stringslite_HasSuffix [.s ((a.getD 0 d0).ss), .s ((a.getD 1 d0).ss)]).bindR fun r1 =>
 if (!((r1.getD 0 d0).bb)) = true then
 .ret [.s ((a.getD 0 d0).ss), .b false]
 else
 if 0 ≤ (IntKind.i64.wrap ((((a.getD 0 d0).ss).length : Int) - (((a.getD 1 d0).ss).length : Int))) ∧ (IntKind.i64.wrap ((((a.getD 0 d0).ss).length : Int) - (((a.getD 1 d0).ss).length : Int))) ≤ (((a.getD 0 d0).ss).length : Int) then
 .ret [.s (((a.getD 0 d0).ss).take (IntKind.i64.wrap ((((a.getD 0 d0).ss).length : Int) - (((a.getD 1 d0).ss).length : Int))).toNat), .b true]
 else
 .fail
theorem eq_internal_stringslite_CutSuffix a : r_internal_stringslite_CutSuffix a = E_internal_stringslite_CutSuffix a := (Run_eq cfg 60 _ a).trans (by kernel_rfl)
noncomputable def E_impl_Fits_1 (a : List DC) : Out :=
 (r_impl_Inner [.s ((a.getD 7 d0).ss), .s ((a.getD 8 d0).ss)]).bindR fun r1 =>
 (r_impl_Fits [.sl ((a.getD 4 d0).ll), .sl ((a.getD 5 d0).ll), .sl ((a.getD 6 d0).ll), .i ((a.getD 0 d0).ii), .s ((a.getD 1 d0).ss), .sl ((a.getD 2 d0).ll), .sl ((a.getD 3 d0).ll), .s ((r1.getD 0 d0).ss), .s ((r1.getD 1 d0).ss)]).bindR fun r2 =>
 .ret [.b (!((r2.getD 0 d0).bb)), .sl ((a.getD 4 d0).ll), .sl ((a.getD 5 d0).ll), .sl ((a.getD 6 d0).ll), .s ((a.getD 7 d0).ss), .s ((a.getD 8 d0).ss)]
theorem eq_impl_Fits_1 a : r_impl_Fits_1 a = E_impl_Fits_1 a := (Run_eq cfg 23 _ a).trans (by kernel_rfl)
noncomputable def E_impl_TypeAt (a : List DC) : Out :=
 (r_impl_named [.sl ((a.getD 0 d0).ll), .s ((a.getD 3 d0).ss)]).bindR fun r1 =>
 .ret [.i ((r1.getD 0 d0).ii)]
theorem eq_impl_TypeAt a : r_impl_TypeAt a = E_impl_TypeAt a := (Run_eq cfg 61 _ a).trans (by kernel_rfl)
noncomputable def E_impl_Fits32 (a : List DC) : Out := match primH [.s] [.b] (qVia cfgv 78) ⟨[.one .s], []⟩ a with | some r => .ret r | none => .fail
theorem eq_impl_Fits32 a : r_impl_Fits32 a = E_impl_Fits32 a := (Run_eq cfg 62 _ a).trans (by kernel_rfl)
theorem via_fits (s : List UInt8) (x : Bool) (h : r_impl_IntOk [.s s] = .ret [.b x]) (hs : s.length ≤ 281474976710656) : E_impl_Fits32 [.s s] = .ret [.b (x && isOk (Lib.parseIntB 32 s))] := by
  have hq : qVia cfgv 78 [.s s] = some [.b (x && isOk (Lib.parseIntB 32 s))] := by
    unfold qVia
    rw [show Run cfgv 78 ⟨[.one .s], []⟩ [.s s] = _ from h]
    exact if_pos hs
  unfold E_impl_Fits32 primH
  rw [if_pos (show hintLit [.s] ⟨[.one .s], []⟩ = true from rfl), hq]
  rfl
noncomputable def E_slices_IndexFunc_impl_EnumDef__impl_fitsName_1L1 : List DC → Out := fun v1 =>
 if (decide ((v1.getD 2 d0).ii < (v1.getD 1 d0).ii)) = true then
 Out.andThenB (if 61 = 61 ∧ 0 ≤ (v1.getD 2 d0).ii ∧ (v1.getD 2 d0).ii < (((v1.getD 0 d0).ll).length : Int) then
 (r_impl_fitsName_1 [.s (((((v1.getD 0 d0).ll).getD ((v1.getD 2 d0).ii).toNat []).getD 0 d0).ss), .s (((((v1.getD 0 d0).ll).getD ((v1.getD 2 d0).ii).toNat []).getD 1 d0).ss), .sl (((((v1.getD 0 d0).ll).getD ((v1.getD 2 d0).ii).toNat []).getD 2 d0).ll), .i ((v1.getD 3 d0).ii), .s ((v1.getD 4 d0).ss), .sl ((v1.getD 5 d0).ll), .sl ((v1.getD 6 d0).ll)]).bindR fun r2 =>
 if (r2.getD 0 d0).bb = true then
 .ret [.i ((v1.getD 2 d0).ii), .i ((r2.getD 1 d0).ii), .s ((r2.getD 2 d0).ss), .sl ((r2.getD 3 d0).ll), .sl ((r2.getD 4 d0).ll)]
 else
 .norm [.sl ((v1.getD 0 d0).ll), .i ((v1.getD 1 d0).ii), .i ((v1.getD 2 d0).ii), .i ((r2.getD 1 d0).ii), .s ((r2.getD 2 d0).ss), .sl ((r2.getD 3 d0).ll), .sl ((r2.getD 4 d0).ll)]
 else
 .fail) 1 fun v3 =>
 .norm [.sl ((v3.getD 0 d0).ll), .i ((v3.getD 1 d0).ii), .i (IntKind.i64.wrap ((v3.getD 2 d0).ii + (1 : Int))), .i ((v3.getD 3 d0).ii), .s ((v3.getD 4 d0).ss), .sl ((v3.getD 5 d0).ll), .sl ((v3.getD 6 d0).ll)]
 else
 .ex 0 [.i ((v1.getD 3 d0).ii), .s ((v1.getD 4 d0).ss), .sl ((v1.getD 5 d0).ll), .sl ((v1.getD 6 d0).ll)]
noncomputable def E_slices_IndexFunc_impl_EnumDef__impl_fitsName_1 (a : List DC) : Out :=
 Out.andThenB (Loop E_slices_IndexFunc_impl_EnumDef__impl_fitsName_1L1 [.sl ((a.getD 0 d0).ll), .i (((a.getD 0 d0).ll).length : Int), .i (0 : Int), .i ((a.getD 1 d0).ii), .s ((a.getD 2 d0).ss), .sl ((a.getD 3 d0).ll), .sl ((a.getD 4 d0).ll)]) 0 fun v4 =>
 .ret [.i (-1 : Int), .i ((v4.getD 0 d0).ii), .s ((v4.getD 1 d0).ss), .sl ((v4.getD 2 d0).ll), .sl ((v4.getD 3 d0).ll)]
theorem eq_slices_IndexFunc_impl_EnumDef__impl_fitsName_1 a : r_slices_IndexFunc_impl_EnumDef__impl_fitsName_1 a = E_slices_IndexFunc_impl_EnumDef__impl_fitsName_1 a := (Run_eq cfg 63 _ a).trans (by kernel_rfl)
noncomputable def E_slices_Contains_string (a : List DC) : Out :=
 (r_slices_Index_string [.sl ((a.getD 0 d0).ll), .s ((a.getD 1 d0).ss)]).bindR fun r1 =>
 .ret [.b (decide ((r1.getD 0 d0).ii ≥ (0 : Int)))]
theorem eq_slices_Contains_string a : r_slices_Contains_string a = E_slices_Contains_string a := (Run_eq cfg 64 _ a).trans (by kernel_rfl)
noncomputable def E_slices_ContainsFunc_string__impl_fitsInput_1 (a : List DC) : Out :=
 (r_slices_IndexFunc_string__impl_fitsInput_1 [.sl ((a.getD 0 d0).ll), .i ((a.getD 1 d0).ii), .s ((a.getD 2 d0).ss), .sl ((a.getD 3 d0).ll), .sl ((a.getD 4 d0).ll)]).bindR fun r1 =>
 .ret [.b (decide ((r1.getD 0 d0).ii ≥ (0 : Int))), .i ((r1.getD 1 d0).ii), .s ((r1.getD 2 d0).ss), .sl ((r1.getD 3 d0).ll), .sl ((r1.getD 4 d0).ll)]
theorem eq_slices_ContainsFunc_string__impl_fitsInput_1 a : r_slices_ContainsFunc_string__impl_fitsInput_1 a = E_slices_ContainsFunc_string__impl_fitsInput_1 a := (Run_eq cfg 65 _ a).trans (by kernel_rfl)
noncomputable def E_spec_IntOk (a : List DC) : Out :=
 Out.andThen (if (decide ((((a.getD 0 d0).ss).length : Int) ≤ (40 : Int))) = true then
 if (decide ((((a.getD 0 d0).ss).length : Int) > (0 : Int))) = true then
 (r_spec_l03Int [.s ((a.getD 0 d0).ss)]).bindR fun r1 =>
 .norm [.b ((r1.getD 0 d0).ii == (((a.getD 0 d0).ss).length : Int))]
 else
 .norm [.b false]
 else
 .norm [.b false]) fun v2 =>
 .ret [.b ((v2.getD 0 d0).bb)]
theorem eq_spec_IntOk a : r_spec_IntOk a = E_spec_IntOk a := (Run_eq cfg 67 _ a).trans (by kernel_rfl)
noncomputable def E_spec_l02Rune (a : List DC) : Out :=
 (r_spec_l01PickInt [.sl [[DC.i (65 : Int)], [DC.i (97 : Int)], [DC.i (122 : Int)], [DC.i (48 : Int)], [DC.i (32 : Int)], [DC.i (10 : Int)], [DC.i (34 : Int)], [DC.i (92 : Int)], [DC.i (233 : Int)], [DC.i (2047 : Int)], [DC.i (2048 : Int)], [DC.i (8364 : Int)], [DC.i (65535 : Int)], [DC.i (65536 : Int)], [DC.i (128512 : Int)], [DC.i (1114111 : Int)], [DC.i (9 : Int)], [DC.i (127 : Int)], [DC.i (31 : Int)]], .sl ((a.getD 0 d0).ll), .i ((a.getD 1 d0).ii), .i ((a.getD 2 d0).ii)]).bindR fun r1 =>
 .ret [.i ((r1.getD 0 d0).ii), .sl ((r1.getD 1 d0).ll), .i ((r1.getD 2 d0).ii), .i ((r1.getD 3 d0).ii)]
theorem eq_spec_l02Rune a : r_spec_l02Rune a = E_spec_l02Rune a := (Run_eq cfg 75 _ a).trans (by kernel_rfl)
noncomputable def E_spec_RuneText (a : List DC) : Out :=
 (r_spec_l02Scalar [.i ((a.getD 0 d0).ii)]).bindR fun r1 =>
 if (!((r1.getD 0 d0).bb)) = true then
 .ret [.s ([] : List UInt8)]
 else
 Out.andThenB (if (decide ((a.getD 0 d0).ii < (128 : Int))) = true then
 .ret [.s (rowBytes [[DC.i (IntKind.u8.wrap ((a.getD 0 d0).ii))]])]
 else
 if (decide ((a.getD 0 d0).ii < (2048 : Int))) = true then
 if (64 : Int) = 0 then
 .fail
 else
 if (64 : Int) = 0 then
 .fail
 else
 .ret [.s (rowBytes [[DC.i (IntKind.u8.wrap (IntKind.i64.wrap ((192 : Int) + (IntKind.i64.wrap (((a.getD 0 d0).ii).tdiv (64 : Int))))))], [DC.i (IntKind.u8.wrap (IntKind.i64.wrap ((128 : Int) + (((a.getD 0 d0).ii).tmod (64 : Int)))))]])]
 else
 if (decide ((a.getD 0 d0).ii < (65536 : Int))) = true then
 if (4096 : Int) = 0 then
 .fail
 else
 if (64 : Int) = 0 then
 .fail
 else
 if (64 : Int) = 0 then
 .fail
 else
 if (64 : Int) = 0 then
 .fail
 else
 .ret [.s (rowBytes [[DC.i (IntKind.u8.wrap (IntKind.i64.wrap ((224 : Int) + (IntKind.i64.wrap (((a.getD 0 d0).ii).tdiv (4096 : Int))))))], [DC.i (IntKind.u8.wrap (IntKind.i64.wrap ((128 : Int) + ((IntKind.i64.wrap (((a.getD 0 d0).ii).tdiv (64 : Int))).tmod (64 : Int)))))], [DC.i (IntKind.u8.wrap (IntKind.i64.wrap ((128 : Int) + (((a.getD 0 d0).ii).tmod (64 : Int)))))]])]
 else
 .norm [.i ((a.getD 0 d0).ii)]) 0 fun v2 =>
 if (262144 : Int) = 0 then
 .fail
 else
 if (4096 : Int) = 0 then
 .fail
 else
 if (64 : Int) = 0 then
 .fail
 else
 if (64 : Int) = 0 then
 .fail
 else
 if (64 : Int) = 0 then
 .fail
 else
 if (64 : Int) = 0 then
 .fail
 else
 .ret [.s (rowBytes [[DC.i (IntKind.u8.wrap (IntKind.i64.wrap ((240 : Int) + (IntKind.i64.wrap (((v2.getD 0 d0).ii).tdiv (262144 : Int))))))], [DC.i (IntKind.u8.wrap (IntKind.i64.wrap ((128 : Int) + ((IntKind.i64.wrap (((v2.getD 0 d0).ii).tdiv (4096 : Int))).tmod (64 : Int)))))], [DC.i (IntKind.u8.wrap (IntKind.i64.wrap ((128 : Int) + ((IntKind.i64.wrap (((v2.getD 0 d0).ii).tdiv (64 : Int))).tmod (64 : Int)))))], [DC.i (IntKind.u8.wrap (IntKind.i64.wrap ((128 : Int) + (((v2.getD 0 d0).ii).tmod (64 : Int)))))]])]
theorem eq_spec_RuneText a : r_spec_RuneText a = E_spec_RuneText a := (Run_eq cfg 74 _ a).trans (by kernel_rfl)
noncomputable def E_impl_named (a : List DC) : Out :=
 if (decide ((((a.getD 0 d0).ll).length : Int) > (60 : Int))) = true then
 .ret [.i (-1 : Int)]
 else
 (r_slices_IndexFunc_impl_Def__impl_named_1 [.sl ((a.getD 0 d0).ll), .s ((a.getD 1 d0).ss)]).bindR fun r1 =>
 .ret [.i ((r1.getD 0 d0).ii)]
theorem eq_impl_named a : r_impl_named a = E_impl_named a := (Run_eq cfg 76 _ a).trans (by kernel_rfl)
noncomputable def E_impl_IntOk (a : List DC) : Out :=
 (r_strings_TrimPrefix [.s ((a.getD 0 d0).ss), .s ([45] : List UInt8)]).bindR fun r1 =>
 Out.andThen (if (decide ((((a.getD 0 d0).ss).length : Int) ≤ (40 : Int))) = true then
 (r_impl_figures [.s ((r1.getD 0 d0).ss)]).bindR fun r2 =>
 if (r2.getD 0 d0).bb = true then
 if ((r1.getD 0 d0).ss == ([48] : List UInt8)) = true then
 .norm [.b true]
 else
 if 0 ≤ (0 : Int) ∧ (0 : Int) < (((r1.getD 0 d0).ss).length : Int) then
 .norm [.b (((((r1.getD 0 d0).ss).getD (0 : Int).toNat 0).toNat : Int) != (48 : Int))]
 else
 .fail
 else
 .norm [.b false]
 else
 .norm [.b false]) fun v3 =>
 .ret [.b ((v3.getD 0 d0).bb)]
theorem eq_impl_IntOk a : r_impl_IntOk a = E_impl_IntOk a := (Run_eq cfgv 78 _ a).trans (by kernel_rfl)
noncomputable def E_impl_fitsName_1 (a : List DC) : Out :=
 .ret [.b ((a.getD 0 d0).ss == (a.getD 4 d0).ss), .i ((a.getD 3 d0).ii), .s ((a.getD 4 d0).ss), .sl ((a.getD 5 d0).ll), .sl ((a.getD 6 d0).ll)]
theorem eq_impl_fitsName_1 a : r_impl_fitsName_1 a = E_impl_fitsName_1 a := (Run_eq cfg 46 _ a).trans (by kernel_rfl)
noncomputable def E_slices_Index_stringL1 : List DC → Out := fun v1 =>
 if (decide ((v1.getD 3 d0).ii < (v1.getD 2 d0).ii)) = true then
 Out.andThenB (if 9 = 9 ∧ 0 ≤ (v1.getD 3 d0).ii ∧ (v1.getD 3 d0).ii < (((v1.getD 0 d0).ll).length : Int) then
 if ((v1.getD 1 d0).ss == ((((v1.getD 0 d0).ll).getD ((v1.getD 3 d0).ii).toNat []).getD 0 d0).ss) = true then
 .ret [.i ((v1.getD 3 d0).ii)]
 else
 .norm [.sl ((v1.getD 0 d0).ll), .s ((v1.getD 1 d0).ss), .i ((v1.getD 2 d0).ii), .i ((v1.getD 3 d0).ii)]
 else
 .fail) 1 fun v2 =>
 .norm [.sl ((v2.getD 0 d0).ll), .s ((v2.getD 1 d0).ss), .i ((v2.getD 2 d0).ii), .i (IntKind.i64.wrap ((v2.getD 3 d0).ii + (1 : Int)))]
 else
 .ex 0 []
noncomputable def E_slices_Index_string (a : List DC) : Out :=
 Out.andThenB (Loop E_slices_Index_stringL1 [.sl ((a.getD 0 d0).ll), .s ((a.getD 1 d0).ss), .i (((a.getD 0 d0).ll).length : Int), .i (0 : Int)]) 0 fun v3 =>
 .ret [.i (-1 : Int)]
theorem eq_slices_Index_string a : r_slices_Index_string a = E_slices_Index_string a := (Run_eq cfg 79 _ a).trans (by kernel_rfl)
noncomputable def E_slices_IndexFunc_string__impl_fitsInput_1L1 : List DC → Out := fun v1 =>
 if (decide ((v1.getD 2 d0).ii < (v1.getD 1 d0).ii)) = true then
 Out.andThenB (if 9 = 9 ∧ 0 ≤ (v1.getD 2 d0).ii ∧ (v1.getD 2 d0).ii < (((v1.getD 0 d0).ll).length : Int) then
 (r_impl_fitsInput_1 [.s (((((v1.getD 0 d0).ll).getD ((v1.getD 2 d0).ii).toNat []).getD 0 d0).ss), .i ((v1.getD 3 d0).ii), .s ((v1.getD 4 d0).ss), .sl ((v1.getD 5 d0).ll), .sl ((v1.getD 6 d0).ll)]).bindR fun r2 =>
 if (r2.getD 0 d0).bb = true then
 .ret [.i ((v1.getD 2 d0).ii), .i ((r2.getD 1 d0).ii), .s ((r2.getD 2 d0).ss), .sl ((r2.getD 3 d0).ll), .sl ((r2.getD 4 d0).ll)]
 else
 .norm [.sl ((v1.getD 0 d0).ll), .i ((v1.getD 1 d0).ii), .i ((v1.getD 2 d0).ii), .i ((r2.getD 1 d0).ii), .s ((r2.getD 2 d0).ss), .sl ((r2.getD 3 d0).ll), .sl ((r2.getD 4 d0).ll)]
 else
 .fail) 1 fun v3 =>
 .norm [.sl ((v3.getD 0 d0).ll), .i ((v3.getD 1 d0).ii), .i (IntKind.i64.wrap ((v3.getD 2 d0).ii + (1 : Int))), .i ((v3.getD 3 d0).ii), .s ((v3.getD 4 d0).ss), .sl ((v3.getD 5 d0).ll), .sl ((v3.getD 6 d0).ll)]
 else
 .ex 0 [.i ((v1.getD 3 d0).ii), .s ((v1.getD 4 d0).ss), .sl ((v1.getD 5 d0).ll), .sl ((v1.getD 6 d0).ll)]
noncomputable def E_slices_IndexFunc_string__impl_fitsInput_1 (a : List DC) : Out :=
 Out.andThenB (Loop E_slices_IndexFunc_string__impl_fitsInput_1L1 [.sl ((a.getD 0 d0).ll), .i (((a.getD 0 d0).ll).length : Int), .i (0 : Int), .i ((a.getD 1 d0).ii), .s ((a.getD 2 d0).ss), .sl ((a.getD 3 d0).ll), .sl ((a.getD 4 d0).ll)]) 0 fun v4 =>
 .ret [.i (-1 : Int), .i ((v4.getD 0 d0).ii), .s ((v4.getD 1 d0).ss), .sl ((v4.getD 2 d0).ll), .sl ((v4.getD 3 d0).ll)]
theorem eq_slices_IndexFunc_string__impl_fitsInput_1 a : r_slices_IndexFunc_string__impl_fitsInput_1 a = E_slices_IndexFunc_string__impl_fitsInput_1 a := (Run_eq cfg 80 _ a).trans (by kernel_rfl)
noncomputable def E_spec_l03Int (a : List DC) : Out :=
 Out.andThen (if (decide ((((a.getD 0 d0).ss).length : Int) > (0 : Int))) = true then
 if 0 ≤ (0 : Int) ∧ (0 : Int) < (((a.getD 0 d0).ss).length : Int) then
 .norm [.s ((a.getD 0 d0).ss), .i (0 : Int), .b (((((a.getD 0 d0).ss).getD (0 : Int).toNat 0).toNat : Int) == (45 : Int))]
 else
 .fail
 else
 .norm [.s ((a.getD 0 d0).ss), .i (0 : Int), .b false]) fun v1 =>
 Out.andThen (if (v1.getD 2 d0).bb = true then
 .norm [.s ((v1.getD 0 d0).ss), .i (1 : Int)]
 else
 .norm [.s ((v1.getD 0 d0).ss), .i ((v1.getD 1 d0).ii)]) fun v2 =>
 (r_spec_l03Run [.s ((v2.getD 0 d0).ss), .i ((v2.getD 1 d0).ii)]).bindR fun r3 =>
 Out.andThen (if ((r3.getD 0 d0).ii == (v2.getD 1 d0).ii) = true then
 .norm [.i ((r3.getD 0 d0).ii), .b true]
 else
 if 0 ≤ (v2.getD 1 d0).ii ∧ (v2.getD 1 d0).ii < (((v2.getD 0 d0).ss).length : Int) then
 if (((((v2.getD 0 d0).ss).getD ((v2.getD 1 d0).ii).toNat 0).toNat : Int) == (48 : Int)) = true then
 .norm [.i ((r3.getD 0 d0).ii), .b (decide ((r3.getD 0 d0).ii > (IntKind.i64.wrap ((v2.getD 1 d0).ii + (1 : Int)))))]
 else
 .norm [.i ((r3.getD 0 d0).ii), .b false]
 else
 .fail) fun v4 =>
 if (v4.getD 1 d0).bb = true then
 .ret [.i (0 : Int)]
 else
 .ret [.i ((v4.getD 0 d0).ii)]
theorem eq_spec_l03Int a : r_spec_l03Int a = E_spec_l03Int a := (Run_eq cfg 81 _ a).trans (by kernel_rfl)
noncomputable def E_spec_l01PickInt (a : List DC) : Out :=
 (r_spec_l01Below [.i (((a.getD 0 d0).ll).length : Int), .sl ((a.getD 1 d0).ll), .i ((a.getD 2 d0).ii), .i ((a.getD 3 d0).ii)]).bindR fun r1 =>
 if 3 = 3 ∧ 0 ≤ (r1.getD 0 d0).ii ∧ (r1.getD 0 d0).ii < (((a.getD 0 d0).ll).length : Int) then
 .ret [.i (((((a.getD 0 d0).ll).getD ((r1.getD 0 d0).ii).toNat []).getD 0 d0).ii), .sl ((r1.getD 1 d0).ll), .i ((r1.getD 2 d0).ii), .i ((r1.getD 3 d0).ii)]
 else
 .fail
theorem eq_spec_l01PickInt a : r_spec_l01PickInt a = E_spec_l01PickInt a := (Run_eq cfg 94 _ a).trans (by kernel_rfl)
noncomputable def E_spec_l02Scalar (a : List DC) : Out :=
 Out.andThen ((r_spec_l01In [.i ((a.getD 0 d0).ii), .i (0 : Int), .i (1114111 : Int)]).bindR fun r1 =>
 if (r1.getD 0 d0).bb = true then
 (r_spec_l01In [.i ((a.getD 0 d0).ii), .i (55296 : Int), .i (57343 : Int)]).bindR fun r2 =>
 .norm [.b (!((r2.getD 0 d0).bb))]
 else
 .norm [.b false]) fun v3 =>
 .ret [.b ((v3.getD 0 d0).bb)]
theorem eq_spec_l02Scalar a : r_spec_l02Scalar a = E_spec_l02Scalar a := (Run_eq cfg 93 _ a).trans (by kernel_rfl)
noncomputable def E_slices_IndexFunc_impl_Def__impl_named_1L1 : List DC → Out := fun v1 =>
 if (decide ((v1.getD 2 d0).ii < (v1.getD 1 d0).ii)) = true then
 Out.andThenB (if 45 = 45 ∧ 0 ≤ (v1.getD 2 d0).ii ∧ (v1.getD 2 d0).ii < (((v1.getD 0 d0).ll).length : Int) then
 (r_impl_named_1 [.i (((((v1.getD 0 d0).ll).getD ((v1.getD 2 d0).ii).toNat []).getD 0 d0).ii), .b (((((v1.getD 0 d0).ll).getD ((v1.getD 2 d0).ii).toNat []).getD 1 d0).bb), .s (((((v1.getD 0 d0).ll).getD ((v1.getD 2 d0).ii).toNat []).getD 2 d0).ss), .s (((((v1.getD 0 d0).ll).getD ((v1.getD 2 d0).ii).toNat []).getD 3 d0).ss), .sl (((((v1.getD 0 d0).ll).getD ((v1.getD 2 d0).ii).toNat []).getD 4 d0).ll), .sl (((((v1.getD 0 d0).ll).getD ((v1.getD 2 d0).ii).toNat []).getD 5 d0).ll), .sl (((((v1.getD 0 d0).ll).getD ((v1.getD 2 d0).ii).toNat []).getD 6 d0).ll), .sl (((((v1.getD 0 d0).ll).getD ((v1.getD 2 d0).ii).toNat []).getD 7 d0).ll), .sl (((((v1.getD 0 d0).ll).getD ((v1.getD 2 d0).ii).toNat []).getD 8 d0).ll), .b (((((v1.getD 0 d0).ll).getD ((v1.getD 2 d0).ii).toNat []).getD 9 d0).bb), .sl (((((v1.getD 0 d0).ll).getD ((v1.getD 2 d0).ii).toNat []).getD 10 d0).ll), .s ((v1.getD 3 d0).ss)]).bindR fun r2 =>
 if (r2.getD 0 d0).bb = true then
 .ret [.i ((v1.getD 2 d0).ii), .s ((r2.getD 1 d0).ss)]
 else
 .norm [.sl ((v1.getD 0 d0).ll), .i ((v1.getD 1 d0).ii), .i ((v1.getD 2 d0).ii), .s ((r2.getD 1 d0).ss)]
 else
 .fail) 1 fun v3 =>
 .norm [.sl ((v3.getD 0 d0).ll), .i ((v3.getD 1 d0).ii), .i (IntKind.i64.wrap ((v3.getD 2 d0).ii + (1 : Int))), .s ((v3.getD 3 d0).ss)]
 else
 .ex 0 [.s ((v1.getD 3 d0).ss)]
noncomputable def E_slices_IndexFunc_impl_Def__impl_named_1 (a : List DC) : Out :=
 Out.andThenB (Loop E_slices_IndexFunc_impl_Def__impl_named_1L1 [.sl ((a.getD 0 d0).ll), .i (((a.getD 0 d0).ll).length : Int), .i (0 : Int), .s ((a.getD 1 d0).ss)]) 0 fun v4 =>
 .ret [.i (-1 : Int), .s ((v4.getD 0 d0).ss)]
theorem eq_slices_IndexFunc_impl_Def__impl_named_1 a : r_slices_IndexFunc_impl_Def__impl_named_1 a = E_slices_IndexFunc_impl_Def__impl_named_1 a := (Run_eq cfg 95 _ a).trans (by kernel_rfl)
noncomputable def E_strings_TrimPrefix (a : List DC) : Out :=
 (r_internal_stringslite_TrimPrefix [.s ((a.getD 0 d0).ss), .s ((a.getD 1 d0).ss)]).bindR fun r1 =>
 .ret [.s ((r1.getD 0 d0).ss)]
theorem eq_strings_TrimPrefix a : r_strings_TrimPrefix a = E_strings_TrimPrefix a := (Run_eq cfgv 99 _ a).trans (by kernel_rfl)
noncomputable def E_impl_figuresL1 : List DC → Out := fun v1 =>
 if (decide ((v1.getD 2 d0).ii < (v1.getD 1 d0).ii)) = true then
 Out.andThenB (if 0 ≤ (v1.getD 2 d0).ii ∧ (v1.getD 2 d0).ii < (((v1.getD 0 d0).ss).length : Int) then
 (r_impl_isFigure [.i ((((v1.getD 0 d0).ss).getD ((v1.getD 2 d0).ii).toNat 0).toNat : Int)]).bindR fun r2 =>
 if (!((r2.getD 0 d0).bb)) = true then
 .ret [.b false]
 else
 .norm [.s ((v1.getD 0 d0).ss), .i ((v1.getD 1 d0).ii), .i ((v1.getD 2 d0).ii)]
 else
 .fail) 1 fun v3 =>
 .norm [.s ((v3.getD 0 d0).ss), .i ((v3.getD 1 d0).ii), .i (IntKind.i64.wrap ((v3.getD 2 d0).ii + (1 : Int)))]
 else
 .ex 0 [.s ((v1.getD 0 d0).ss)]
noncomputable def E_impl_figures (a : List DC) : Out :=
 Out.andThenB (Loop E_impl_figuresL1 [.s ((a.getD 0 d0).ss), .i (((a.getD 0 d0).ss).length : Int), .i (0 : Int)]) 0 fun v4 =>
 .ret [.b (!((v4.getD 0 d0).ss == ([] : List UInt8)))]
theorem eq_impl_figures a : r_impl_figures a = E_impl_figures a := (Run_eq cfgv 100 _ a).trans (by kernel_rfl)
noncomputable def E_impl_fitsInput_1 (a : List DC) : Out :=
 (r_slices_Contains_string [.sl ((a.getD 4 d0).ll), .s ((a.getD 0 d0).ss)]).bindR fun r1 =>
 .ret [.b (!((r1.getD 0 d0).bb)), .i ((a.getD 1 d0).ii), .s ((a.getD 2 d0).ss), .sl ((a.getD 3 d0).ll), .sl ((a.getD 4 d0).ll)]
theorem eq_impl_fitsInput_1 a : r_impl_fitsInput_1 a = E_impl_fitsInput_1 a := (Run_eq cfg 66 _ a).trans (by kernel_rfl)
noncomputable def E_spec_l03RunL1 : List DC → Out := fun v1 =>
 Out.andThen (if (decide ((v1.getD 1 d0).ii < (((v1.getD 0 d0).ss).length : Int))) = true then
 if 0 ≤ (v1.getD 1 d0).ii ∧ (v1.getD 1 d0).ii < (((v1.getD 0 d0).ss).length : Int) then
 (r_spec_l03Figure [.i ((((v1.getD 0 d0).ss).getD ((v1.getD 1 d0).ii).toNat 0).toNat : Int)]).bindR fun r2 =>
 .norm [.s ((v1.getD 0 d0).ss), .i ((v1.getD 1 d0).ii), .b ((r2.getD 0 d0).bb)]
 else
 .fail
 else
 .norm [.s ((v1.getD 0 d0).ss), .i ((v1.getD 1 d0).ii), .b false]) fun v3 =>
 if (v3.getD 2 d0).bb = true then
 Out.andThenB (.norm [.s ((v3.getD 0 d0).ss), .i (IntKind.i64.wrap ((v3.getD 1 d0).ii + (1 : Int)))]) 1 fun v4 =>
 .norm [.s ((v4.getD 0 d0).ss), .i ((v4.getD 1 d0).ii)]
 else
 .ex 0 [.i ((v3.getD 1 d0).ii)]
noncomputable def E_spec_l03Run (a : List DC) : Out :=
 Out.andThenB (Loop E_spec_l03RunL1 [.s ((a.getD 0 d0).ss), .i ((a.getD 1 d0).ii)]) 0 fun v5 =>
 .ret [.i ((v5.getD 0 d0).ii)]
theorem eq_spec_l03Run a : r_spec_l03Run a = E_spec_l03Run a := (Run_eq cfg 101 _ a).trans (by kernel_rfl)
noncomputable def E_spec_l01In (a : List DC) : Out :=
 Out.andThen (if (decide ((a.getD 0 d0).ii ≥ (a.getD 1 d0).ii)) = true then
 .norm [.b (decide ((a.getD 0 d0).ii ≤ (a.getD 2 d0).ii))]
 else
 .norm [.b false]) fun v1 =>
 .ret [.b ((v1.getD 0 d0).bb)]
theorem eq_spec_l01In a : r_spec_l01In a = E_spec_l01In a := (Run_eq cfg 125 _ a).trans (by kernel_rfl)
noncomputable def E_impl_named_1 (a : List DC) : Out :=
 .ret [.b ((a.getD 3 d0).ss == (a.getD 11 d0).ss), .s ((a.getD 11 d0).ss)]
theorem eq_impl_named_1 a : r_impl_named_1 a = E_impl_named_1 a := (Run_eq cfg 96 _ a).trans (by kernel_rfl)
noncomputable def E_internal_stringslite_TrimPrefix (a : List DC) : Out :=
 (r_internal_stringslite_HasPrefix [.s ((a.getD 0 d0).ss), .s ((a.getD 1 d0).ss)]).bindR fun r1 =>
 if (r1.getD 0 d0).bb = true then
 if 0 ≤ (((a.getD 1 d0).ss).length : Int) ∧ (((a.getD 1 d0).ss).length : Int) ≤ (((a.getD 0 d0).ss).length : Int) then
 .ret [.s (((a.getD 0 d0).ss).drop (((a.getD 1 d0).ss).length : Int).toNat)]
 else
 .fail
 else
 .ret [.s ((a.getD 0 d0).ss)]
theorem eq_internal_stringslite_TrimPrefix a : r_internal_stringslite_TrimPrefix a = E_internal_stringslite_TrimPrefix a := (Run_eq cfgv 131 _ a).trans (by kernel_rfl)
noncomputable def E_impl_isFigure (a : List DC) : Out :=
 Out.andThen (if (decide ((a.getD 0 d0).ii ≥ (48 : Int))) = true then
 .norm [.b (decide ((a.getD 0 d0).ii ≤ (57 : Int)))]
 else
 .norm [.b false]) fun v1 =>
 .ret [.b ((v1.getD 0 d0).bb)]
theorem eq_impl_isFigure a : r_impl_isFigure a = E_impl_isFigure a := (Run_eq cfgv 132 _ a).trans (by kernel_rfl)
noncomputable def E_spec_l03Figure (a : List DC) : Out :=
 Out.andThen (if (decide ((a.getD 0 d0).ii ≥ (48 : Int))) = true then
 .norm [.b (decide ((a.getD 0 d0).ii ≤ (57 : Int)))]
 else
 .norm [.b false]) fun v1 =>
 .ret [.b ((v1.getD 0 d0).bb)]
theorem eq_spec_l03Figure a : r_spec_l03Figure a = E_spec_l03Figure a := (Run_eq cfg 133 _ a).trans (by kernel_rfl)
noncomputable def E_internal_stringslite_HasPrefix (a : List DC) : Out :=
 Out.andThen (if (decide ((((a.getD 0 d0).ss).length : Int) ≥ (((a.getD 1 d0).ss).length : Int))) = true then
 if 0 ≤ (((a.getD 1 d0).ss).length : Int) ∧ (((a.getD 1 d0).ss).length : Int) ≤ (((a.getD 0 d0).ss).length : Int) then
 .norm [.b ((((a.getD 0 d0).ss).take (((a.getD 1 d0).ss).length : Int).toNat) == (a.getD 1 d0).ss)]
 else
 .fail
 else
 .norm [.b false]) fun v1 =>
 .ret [.b ((v1.getD 0 d0).bb)]
theorem eq_internal_stringslite_HasPrefix a : r_internal_stringslite_HasPrefix a = E_internal_stringslite_HasPrefix a := (Run_eq cfgv 158 _ a).trans (by kernel_rfl)
set_option linter.unusedSimpArgs false
def Cu (b : List (List DC)) (i : Int) : Prop := b.length ≤ 1048576 ∧ 0 ≤ i ∧ i ≤ (b.length : Int)
theorem and255 (a : Int) : 0 ≤ IntKind.i64.wrap (((BitVec.ofInt IntKind.i64.bits a &&& BitVec.ofInt IntKind.i64.bits (255 : Int)).toNat : Nat) : Int) ∧ IntKind.i64.wrap (((BitVec.ofInt IntKind.i64.bits a &&& BitVec.ofInt IntKind.i64.bits (255 : Int)).toNat : Nat) : Int) ≤ 255 := by
  have h : (BitVec.ofInt IntKind.i64.bits a &&& BitVec.ofInt IntKind.i64.bits (255 : Int)).toNat ≤ 255 := by
    rw [BitVec.toNat_and]
    exact Nat.le_trans Nat.and_le_right (by decide)
  generalize (BitVec.ofInt IntKind.i64.bits a &&& BitVec.ofInt IntKind.i64.bits (255 : Int)).toNat = n at h ⊢
  rw [IntKind.wrap_i64]
  omega
theorem dr_Byte {b : List (List DC)} {i : Int} (h : Int) (c : Cu b i) : ∃ x i' h', r_spec_l01Byte [.sl b, .i i, .i h] = .ret [.i x, .sl b, .i i', .i h'] ∧ 0 ≤ x ∧ x ≤ 255 ∧ Cu b i' := by
  obtain ⟨c1, c2, c3⟩ := c
  rw [eq_spec_l01Byte]
  simp only [E_spec_l01Byte, List.getD_cons_zero, List.getD_cons_succ, DC.ii_i, DC.ll_sl]
  rw [if_neg (by decide), if_neg (by decide)]
  by_cases hi : i < (b.length : Int)
  · have hw : IntKind.i64.wrap (i + 1) = i + 1 := by rw [IntKind.wrap_i64]; omega
    rw [if_pos (by simpa using hi), if_pos ⟨trivial, c2, hi⟩]
    simp only [Out.andThen, List.getD_cons_zero, List.getD_cons_succ, DC.ii_i, DC.ll_sl, hw]
    exact ⟨_, _, _, rfl, (and255 _).1, (and255 _).2, c1, by omega, by omega⟩
  · rw [if_neg (by simpa using hi)]
    simp only [Out.andThen, List.getD_cons_zero, List.getD_cons_succ, DC.ii_i, DC.ll_sl]
    exact ⟨_, _, _, rfl, (and255 _).1, (and255 _).2, c1, c2, c3⟩
theorem dr_Below {b : List (List DC)} {i : Int} (h n : Int) (hn : 0 < n) (hn2 : n ≤ 256) (c : Cu b i) : ∃ x i' h', r_spec_l01Below [.i n, .sl b, .i i, .i h] = .ret [.i x, .sl b, .i i', .i h'] ∧ 0 ≤ x ∧ x < n ∧ Cu b i' := by
  obtain ⟨x, i', h', e, x1, x2, c'⟩ := dr_Byte h c
  have h1 : ¬ n ≤ 0 := by omega
  have h2 : ¬ n = 0 := by omega
  rw [eq_spec_l01Below]
  simp only [E_spec_l01Below, List.getD_cons_zero, List.getD_cons_succ, DC.ii_i, DC.ll_sl, h1, decide_false, Bool.false_eq_true, if_false, hn2, decide_true, if_true, e, Out.bindR_ret, h2]
  exact ⟨_, _, _, rfl, Int.tmod_nonneg _ x1, Int.tmod_lt_of_pos _ hn, c'⟩
theorem dr_Once {b : List (List DC)} {i : Int} (h n : Int) (hn : 0 < n) (hn2 : n ≤ 256) (c : Cu b i) : ∃ x i' h', r_spec_l01Once [.i n, .sl b, .i i, .i h] = .ret [.b x, .sl b, .i i', .i h'] ∧ Cu b i' := by
  obtain ⟨x, i', h', e, x1, x2, c'⟩ := dr_Below h n hn hn2 c
  rw [eq_spec_l01Once]
  simp only [E_spec_l01Once, List.getD_cons_zero, List.getD_cons_succ, DC.ii_i, DC.ll_sl, e, Out.bindR_ret]
  exact ⟨_, _, _, rfl, c'⟩
theorem dr_Pick {b : List (List DC)} {i : Int} (h : Int) (l : List (List UInt8)) (h0 : 0 < l.length) (h1 : l.length ≤ 256) (c : Cu b i) : ∃ x i' h', r_spec_l01Pick [.sl (l.map S1), .sl b, .i i, .i h] = .ret [.s x, .sl b, .i i', .i h'] ∧ x ∈ l ∧ Cu b i' := by
  obtain ⟨x, i', h', e, x1, x2, c'⟩ := dr_Below h (l.length : Int) (by omega) (by omega) c
  rw [eq_spec_l01Pick]
  simp only [E_spec_l01Pick, List.getD_cons_zero, List.getD_cons_succ, DC.ii_i, DC.ll_sl, List.length_map, e, Out.bindR_ret, x1, x2, and_self, if_true]
  obtain ⟨n, rfl⟩ := Int.eq_ofNat_of_zero_le x1
  have hn : n < l.length := by omega
  refine ⟨l[n], i', h', ?_, List.getElem_mem hn, c'⟩
  have hm : (l.map S1).getD n [] = S1 l[n] := by rw [List.getD_eq_getElem?_getD, List.getElem?_map, List.getElem?_eq_getElem hn]; rfl
  rw [Int.toNat_natCast, hm]
  rfl
theorem dr_PickInt {b : List (List DC)} {i : Int} (h : Int) (l : List (List DC)) (h0 : 0 < l.length) (h1 : l.length ≤ 256) (c : Cu b i) : ∃ x i' h', r_spec_l01PickInt [.sl l, .sl b, .i i, .i h] = .ret [.i x, .sl b, .i i', .i h'] ∧ Cu b i' := by
  obtain ⟨x, i', h', e, x1, x2, c'⟩ := dr_Below h (l.length : Int) (by omega) (by omega) c
  rw [eq_spec_l01PickInt]
  simp only [E_spec_l01PickInt, List.getD_cons_zero, List.getD_cons_succ, DC.ii_i, DC.ll_sl, e, Out.bindR_ret, x1, x2, and_self, if_true]
  exact ⟨_, _, _, rfl, c'⟩
theorem dr_Rune {b : List (List DC)} {i : Int} (h : Int) (c : Cu b i) : ∃ x i' h', r_spec_l02Rune [.sl b, .i i, .i h] = .ret [.i x, .sl b, .i i', .i h'] ∧ Cu b i' := by
  rw [eq_spec_l02Rune]
  simp only [E_spec_l02Rune, List.getD_cons_zero, List.getD_cons_succ, DC.ii_i, DC.ll_sl]
  obtain ⟨x, i', h', e, c'⟩ := dr_PickInt h [[DC.i (65 : Int)], [DC.i (97 : Int)], [DC.i (122 : Int)], [DC.i (48 : Int)], [DC.i (32 : Int)], [DC.i (10 : Int)], [DC.i (34 : Int)], [DC.i (92 : Int)], [DC.i (233 : Int)], [DC.i (2047 : Int)], [DC.i (2048 : Int)], [DC.i (8364 : Int)], [DC.i (65535 : Int)], [DC.i (65536 : Int)], [DC.i (128512 : Int)], [DC.i (1114111 : Int)], [DC.i (9 : Int)], [DC.i (127 : Int)], [DC.i (31 : Int)]] (by decide) (by decide) c
  simp only [e, Out.bindR_ret, List.getD_cons_zero, List.getD_cons_succ, DC.ii_i, DC.ll_sl]
  exact ⟨_, _, _, rfl, c'⟩
theorem dr_In (x a c : Int) : r_spec_l01In [.i x, .i a, .i c] = .ret [.b (decide (x ≥ a) && decide (x ≤ c))] := by
  rw [eq_spec_l01In]
  by_cases h : x ≥ a
  · simp only [E_spec_l01In, List.getD_cons_zero, List.getD_cons_succ, DC.ii_i, h, decide_true, if_true, Out.andThen, DC.bb_b, Bool.true_and]
  · simp only [E_spec_l01In, List.getD_cons_zero, List.getD_cons_succ, DC.ii_i, h, decide_false, Bool.false_eq_true, if_false, Out.andThen, DC.bb_b, Bool.false_and]
theorem dr_Scalar (x : Int) : ∃ y, r_spec_l02Scalar [.i x] = .ret [.b y] := by
  rw [eq_spec_l02Scalar]
  simp only [E_spec_l02Scalar, List.getD_cons_zero, List.getD_cons_succ, DC.ii_i, dr_In, Out.bindR_ret, DC.bb_b]
  split <;> exact ⟨_, rfl⟩
theorem rowBytes_len (l : List (List DC)) : (rowBytes l).length = l.length := by unfold rowBytes; rw [List.length_map]
theorem dr_RuneText (x : Int) : ∃ t, r_spec_RuneText [.i x] = .ret [.s t] ∧ t.length ≤ 4 := by
  obtain ⟨y, hy⟩ := dr_Scalar x
  rw [eq_spec_RuneText]
  simp only [E_spec_RuneText, List.getD_cons_zero, List.getD_cons_succ, DC.ii_i, hy, Out.bindR_ret, DC.bb_b]
  split
  · exact ⟨_, rfl, by simp⟩
  · split
    · exact ⟨_, rfl, by rw [rowBytes_len]; simp⟩
    · split
      · rw [if_neg (by decide), if_neg (by decide)]
        exact ⟨_, rfl, by rw [rowBytes_len]; simp⟩
      · split
        · rw [if_neg (by decide), if_neg (by decide), if_neg (by decide), if_neg (by decide)]
          exact ⟨_, rfl, by rw [rowBytes_len]; simp⟩
        · simp only [Out.andThenB, List.getD_cons_zero, DC.ii_i]
          repeat rw [if_neg (by decide)]
          exact ⟨_, rfl, by rw [rowBytes_len]; simp⟩
theorem dr_Name {b : List (List DC)} {i : Int} (h : Int) (c : Cu b i) : ∃ x i' h', r_spec_l03Name [.sl b, .i i, .i h] = .ret [.s x, .sl b, .i i', .i h'] ∧ x.length ≤ 5 ∧ Cu b i' := by
  rw [eq_spec_l03Name]
  simp only [E_spec_l03Name, List.getD_cons_zero, List.getD_cons_succ, DC.ii_i, DC.ll_sl]
  obtain ⟨x, i', h', e, hx, c'⟩ := dr_Pick h [[97], [98], [110, 97, 109, 101], [105, 100], [85, 115, 101, 114], [80, 111, 115, 116], [78, 111, 100, 101], [111, 110], [116, 121, 112, 101], [120, 49], [95, 121], [82, 69, 68], [113, 117, 101, 114, 121]] (by decide) (by decide) c
  simp only [List.map_cons, List.map_nil, S1] at e
  simp only [e, Out.bindR_ret, List.getD_cons_zero, List.getD_cons_succ, DC.ii_i, DC.ll_sl, DC.ss_s]
  refine ⟨_, _, _, rfl, ?_, c'⟩
  simp only [List.mem_cons, List.not_mem_nil, or_false] at hx
  rcases hx with rfl | rfl | rfl | rfl | rfl | rfl | rfl | rfl | rfl | rfl | rfl | rfl | rfl <;> decide
theorem text_loop {b : List (List DC)} : ∀ (m : Nat) (k i h : Int) (t : List UInt8), Cu b i → 0 ≤ k → k ≤ 8 → (8 - k).toNat ≤ m → (t.length : Int) ≤ 4 * k →
    ∃ t' i' h', Loop E_spec_l02TextL1 [.s t, .i k, .sl b, .i i, .i h] = .ex 0 [.s t', .sl b, .i i', .i h'] ∧ t'.length ≤ 32 ∧ Cu b i' := by
  intro m
  induction m with
  | zero =>
    intro k i h t c k0 k8 hm ht
    obtain ⟨x, i1, h1, e1, x1, x2, c1⟩ := dr_Below h 8 (by decide) (by decide) c
    have hk : ¬ k < x := by omega
    exact ⟨t, i1, h1, Loop_ex (by simp only [E_spec_l02TextL1, List.getD_cons_zero, List.getD_cons_succ, DC.ii_i, DC.ll_sl, DC.ss_s, e1, Out.bindR_ret, hk, decide_false, Bool.false_eq_true, if_false]), by omega, c1⟩
  | succ m ih =>
    intro k i h t c k0 k8 hm ht
    obtain ⟨x, i1, h1, e1, x1, x2, c1⟩ := dr_Below h 8 (by decide) (by decide) c
    by_cases hk : k < x
    · obtain ⟨y, i2, h2, e2, c2⟩ := dr_Rune h1 c1
      obtain ⟨u, e3, hu⟩ := dr_RuneText y
      have hl : t.length + u.length < LIM := by unfold LIM; omega
      have hw : IntKind.i64.wrap (k + 1) = k + 1 := by rw [IntKind.wrap_i64]; omega
      obtain ⟨t', i', h', e4, ht', c'⟩ := ih (k + 1) i2 h2 (t ++ u) c2 (by omega) (by omega) (by omega) (by rw [List.length_append]; omega)
      refine ⟨t', i', h', (Loop_norm ?_).trans e4, ht', c'⟩
      simp only [E_spec_l02TextL1, List.getD_cons_zero, List.getD_cons_succ, DC.ii_i, DC.ll_sl, DC.ss_s, e1, Out.bindR_ret, hk, decide_true, if_true, e2, e3, hl, Out.andThenB, hw]
    · exact ⟨t, i1, h1, Loop_ex (by simp only [E_spec_l02TextL1, List.getD_cons_zero, List.getD_cons_succ, DC.ii_i, DC.ll_sl, DC.ss_s, e1, Out.bindR_ret, hk, decide_false, Bool.false_eq_true, if_false]), by omega, c1⟩
theorem dr_Text {b : List (List DC)} {i : Int} (h : Int) (c : Cu b i) : ∃ x i' h', r_spec_l02Text [.sl b, .i i, .i h] = .ret [.s x, .sl b, .i i', .i h'] ∧ x.length ≤ 32 ∧ Cu b i' := by
  obtain ⟨t, i', h', e, ht, c'⟩ := text_loop 8 0 i h [] c (by decide) (by decide) (by decide) (by simp)
  rw [eq_spec_l02Text]
  simp only [E_spec_l02Text, List.getD_cons_zero, List.getD_cons_succ, DC.ii_i, DC.ll_sl, DC.ss_s, e, Out.andThenB, if_true]
  exact ⟨_, _, _, rfl, ht, c'⟩
end Go.Proofs.QV
