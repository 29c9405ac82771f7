/- The tables, the notes and the unfolding equations of the functions (written by a program). -/
import Derived.Test.YtdobbcpmpgpkcaaV29
import Derived.Test.YtdobbcpmpgpkcaaProg
namespace Go.Proofs.YtdobbcpmpgpkcaaV
open Go
set_option linter.unusedVariables false
set_option maxRecDepth 100000

noncomputable def tyL : List (Nat × TI) := [(3, ⟨.int .i64, [.i .i64], 8, [], false⟩),
  (4, ⟨.bool, [.b], 1, [], false⟩),
  (9, ⟨.str, [.s], 16, [], false⟩),
  (26, ⟨.struct, [.i .i64, .s, .i .i64], 32, [(0, 1, false), (1, 1, false), (2, 1, false)], false⟩),
  (29, ⟨.struct, [.i .i64, .s, .i .i64], 32, [(0, 1, false), (1, 1, false), (2, 1, false)], false⟩),
  (32, ⟨.slice 26, [.sl 26], 24, [], false⟩),
  (35, ⟨.slice 29, [.sl 29], 24, [], false⟩),
  (39, ⟨.slice 9, [.sl 9], 24, [], false⟩)]
noncomputable def h3 : Hint := ⟨[.one .s], []⟩
noncomputable def h4 : Hint := ⟨[.one .s], []⟩
noncomputable def h5 : Hint := ⟨[.one .s], []⟩
noncomputable def h6 : Hint := ⟨[.one (.i .i64)], []⟩
noncomputable def h7 : Hint := ⟨[.agg [.i .i64, .s, .i .i64], .agg [.i .i64, .s, .i .i64]], []⟩
noncomputable def h8 : Hint := ⟨[.one (.sl 26), .one (.sl 26)], []⟩
noncomputable def h9 : Hint := ⟨[.one .s], []⟩
noncomputable def h10 : Hint := ⟨[.one .s], []⟩
noncomputable def h11 : Hint := ⟨[.one .s], []⟩
noncomputable def h12 : Hint := ⟨[.one .s], []⟩
noncomputable def h13 : Hint := ⟨[.one .s], []⟩
noncomputable def h14 : Hint := ⟨[.one .s], []⟩
noncomputable def h15 : Hint := ⟨[.one (.i .i64)], []⟩
noncomputable def h16 : Hint := ⟨[.one (.i .i64)], []⟩
noncomputable def h17 : Hint := ⟨[.agg [.i .i64, .s, .i .i64], .one (.i .i64)], []⟩
noncomputable def h19 : Hint := ⟨[.agg [.i .i64, .s, .i .i64]], []⟩
noncomputable def h18 : Hint := ⟨[.agg [.i .i64, .s, .i .i64], .agg [.i .i64, .s, .i .i64]], []⟩
noncomputable def h20 : Hint := ⟨[.agg [.i .i64, .s, .i .i64], .agg [.i .i64, .s, .i .i64]], []⟩
noncomputable def h21 : Hint := ⟨[.one (.sl 26), .one (.i .i64)], []⟩
noncomputable def h23 : Hint := ⟨[.one (.sl 26)], []⟩
noncomputable def h22 : Hint := ⟨[.one (.sl 29), .one (.sl 29)], []⟩
noncomputable def h24 : Hint := ⟨[.one (.sl 29), .one (.sl 29)], []⟩
noncomputable def h25 : Hint := ⟨[.one (.sl 29), .one (.sl 29)], []⟩
noncomputable def h26 : Hint := ⟨[.one .s, .one .s], []⟩
noncomputable def h27 : Hint := ⟨[.one (.i .i64), .one (.i .i64), .one (.i .i64)], []⟩
noncomputable def h28 : Hint := ⟨[.agg [.i .i64, .s, .i .i64]], []⟩
noncomputable def h29 : Hint := ⟨[.agg [.i .i64, .s, .i .i64]], []⟩
noncomputable def h30 : Hint := ⟨[.agg [.i .i64, .s, .i .i64]], []⟩
noncomputable def h31 : Hint := ⟨[.one (.sl 29), .one (.sl 29), .one (.fn 32 [])], []⟩
noncomputable def h33 : Hint := ⟨[.agg [.i .i64, .s, .i .i64], .agg [.i .i64, .s, .i .i64]], []⟩
noncomputable def h34 : Hint := ⟨[.one .s, .one .s], []⟩
noncomputable def h35 : Hint := ⟨[.one (.i .i64), .one (.i .i64), .one (.i .i64)], []⟩
noncomputable def h32 : Hint := ⟨[.agg [.i .i64, .s, .i .i64], .agg [.i .i64, .s, .i .i64]], []⟩
noncomputable def fi3 : FI := mkFI Try.f3 0 [.ct .s] [(false, [.ct .b])] (fun _ => .n)
noncomputable def fi4 : FI := mkFI Try.f4 0 [.ct .s] [(false, [.ct .b])] (fun _ => .n)
noncomputable def fi5 : FI := mkFI Try.f5 0 [.ct .s] [(false, [.ct .b])] (fun _ => .n)
noncomputable def fi6 : FI := mkFI Try.f6 0 [.ct (.i .i64)] [(false, [.ct .b])] (fun _ => .n)
noncomputable def fi7 : FI := mkFI Try.f7 2 [.ag [.i .i64, .s, .i .i64], .ag [.i .i64, .s, .i .i64]] [(false, [.ct .b])] (fun _ => (.s (.r [0, 1, 0] none) .n))
noncomputable def fi8 : FI := mkFI Try.f8 0 [.ct (.sl 26), .ct (.sl 26)] [(false, [.ct .b])] (fun _ => .n)
noncomputable def fi9 : FI := mkFI Try.f9 0 [.ct .s] [(false, [.ct .b])] (fun _ => (.s .n (.s (.r [] (some ⟨[.one .u, .one .u, .one .b, .one .u, .one .u, .one .u, .one .u, .one .u, .one .u, .one .u, .one .u], []⟩)) .n)))
noncomputable def fi10 : FI := mkFI Try.f10 0 [.ct .s] [(false, [.ct .b])] (fun _ => .n)
noncomputable def fi11 : FI := mkFI Try.f11 0 [.ct .s] [(false, [.ct .b])] (fun _ => (.s .n (.s (.r [] (some ⟨[.one .u, .one .u, .one .b, .one .u, .one .u, .one .u, .one .u, .one .u, .one .u, .one .u, .one .u, .one .u, .one .u, .one .u, .one .u, .one .u, .one .u, .one .u, .one .u, .one .u, .one .u], []⟩)) .n)))
noncomputable def fi12 : FI := mkFI Try.f12 0 [.ct .s] [(false, [.ct .b])] (fun _ => (.s .n (.s (.s .n (.b (.s (.s .n (.c .n (.s .n (.c .n (.s .n (.c .n (.s .n (.c .n .n (some ⟨[.one .u, .one .u, .one .u, .one .u, .one .b, .one .u, .one .u, .one .u, .one .u, .one .u], []⟩))) (some ⟨[.one .u, .one .u, .one .u, .one .u, .one .b, .one .u, .one .u, .one .u, .one .u, .one .u], []⟩))) (some ⟨[.one .u, .one .u, .one .u, .one .u, .one .b, .one .u, .one .u, .one .u, .one .u, .one .u], []⟩))) (some ⟨[.one .u, .one .u, .one .u, .one .u, .one .b, .one .u, .one .u, .one .u, .one .u, .one .u], []⟩))) .n) ⟨[.one .u, .one .u, .one .u, .one .u, .one .u, .one .u, .one .u, .one .u, .one .u, .one .u], []⟩)) .n)))
noncomputable def fi13 : FI := mkFI Try.f13 0 [.ct .s] [(false, [.ct .b])] (fun _ => (.s .n (.s (.s .n (.b (.s (.s .n (.c .n (.s .n (.c .n (.s .n (.c .n (.s .n (.c .n (.s .n (.c .n (.s .n (.c .n (.s .n (.c .n (.s .n (.c .n (.s .n (.c .n (.s .n (.c .n (.s .n (.c .n (.s .n (.c .n (.s .n (.c .n (.s .n (.c .n (.s .n (.c .n (.s .n (.c .n (.s .n (.c .n (.s .n (.c .n .n (some ⟨[.one .u, .one .u, .one .u, .one .u, .one .b, .one .u, .one .u, .one .u, .one .u, .one .u, .one .u, .one .u, .one .u, .one .u, .one .u, .one .u, .one .u, .one .u, .one .u, .one .u, .one .u, .one .u, .one .u, .one .u], []⟩))) (some ⟨[.one .u, .one .u, .one .u, .one .u, .one .b, .one .u, .one .u, .one .u, .one .u, .one .u, .one .u, .one .u, .one .u, .one .u, .one .u, .one .u, .one .u, .one .u, .one .u, .one .u, .one .u, .one .u, .one .u, .one .u], []⟩))) (some ⟨[.one .u, .one .u, .one .u, .one .u, .one .b, .one .u, .one .u, .one .u, .one .u, .one .u, .one .u, .one .u, .one .u, .one .u, .one .u, .one .u, .one .u, .one .u, .one .u, .one .u, .one .u, .one .u, .one .u, .one .u], []⟩))) (some ⟨[.one .u, .one .u, .one .u, .one .u, .one .b, .one .u, .one .u, .one .u, .one .u, .one .u, .one .u, .one .u, .one .u, .one .u, .one .u, .one .u, .one .u, .one .u, .one .u, .one .u, .one .u, .one .u, .one .u, .one .u], []⟩))) (some ⟨[.one .u, .one .u, .one .u, .one .u, .one .b, .one .u, .one .u, .one .u, .one .u, .one .u, .one .u, .one .u, .one .u, .one .u, .one .u, .one .u, .one .u, .one .u, .one .u, .one .u, .one .u, .one .u, .one .u, .one .u], []⟩))) (some ⟨[.one .u, .one .u, .one .u, .one .u, .one .b, .one .u, .one .u, .one .u, .one .u, .one .u, .one .u, .one .u, .one .u, .one .u, .one .u, .one .u, .one .u, .one .u, .one .u, .one .u, .one .u, .one .u, .one .u, .one .u], []⟩))) (some ⟨[.one .u, .one .u, .one .u, .one .u, .one .b, .one .u, .one .u, .one .u, .one .u, .one .u, .one .u, .one .u, .one .u, .one .u, .one .u, .one .u, .one .u, .one .u, .one .u, .one .u, .one .u, .one .u, .one .u, .one .u], []⟩))) (some ⟨[.one .u, .one .u, .one .u, .one .u, .one .b, .one .u, .one .u, .one .u, .one .u, .one .u, .one .u, .one .u, .one .u, .one .u, .one .u, .one .u, .one .u, .one .u, .one .u, .one .u, .one .u, .one .u, .one .u, .one .u], []⟩))) (some ⟨[.one .u, .one .u, .one .u, .one .u, .one .b, .one .u, .one .u, .one .u, .one .u, .one .u, .one .u, .one .u, .one .u, .one .u, .one .u, .one .u, .one .u, .one .u, .one .u, .one .u, .one .u, .one .u, .one .u, .one .u], []⟩))) (some ⟨[.one .u, .one .u, .one .u, .one .u, .one .b, .one .u, .one .u, .one .u, .one .u, .one .u, .one .u, .one .u, .one .u, .one .u, .one .u, .one .u, .one .u, .one .u, .one .u, .one .u, .one .u, .one .u, .one .u, .one .u], []⟩))) (some ⟨[.one .u, .one .u, .one .u, .one .u, .one .b, .one .u, .one .u, .one .u, .one .u, .one .u, .one .u, .one .u, .one .u, .one .u, .one .u, .one .u, .one .u, .one .u, .one .u, .one .u, .one .u, .one .u, .one .u, .one .u], []⟩))) (some ⟨[.one .u, .one .u, .one .u, .one .u, .one .b, .one .u, .one .u, .one .u, .one .u, .one .u, .one .u, .one .u, .one .u, .one .u, .one .u, .one .u, .one .u, .one .u, .one .u, .one .u, .one .u, .one .u, .one .u, .one .u], []⟩))) (some ⟨[.one .u, .one .u, .one .u, .one .u, .one .b, .one .u, .one .u, .one .u, .one .u, .one .u, .one .u, .one .u, .one .u, .one .u, .one .u, .one .u, .one .u, .one .u, .one .u, .one .u, .one .u, .one .u, .one .u, .one .u], []⟩))) (some ⟨[.one .u, .one .u, .one .u, .one .u, .one .b, .one .u, .one .u, .one .u, .one .u, .one .u, .one .u, .one .u, .one .u, .one .u, .one .u, .one .u, .one .u, .one .u, .one .u, .one .u, .one .u, .one .u, .one .u, .one .u], []⟩))) (some ⟨[.one .u, .one .u, .one .u, .one .u, .one .b, .one .u, .one .u, .one .u, .one .u, .one .u, .one .u, .one .u, .one .u, .one .u, .one .u, .one .u, .one .u, .one .u, .one .u, .one .u, .one .u, .one .u, .one .u, .one .u], []⟩))) (some ⟨[.one .u, .one .u, .one .u, .one .u, .one .b, .one .u, .one .u, .one .u, .one .u, .one .u, .one .u, .one .u, .one .u, .one .u, .one .u, .one .u, .one .u, .one .u, .one .u, .one .u, .one .u, .one .u, .one .u, .one .u], []⟩))) (some ⟨[.one .u, .one .u, .one .u, .one .u, .one .b, .one .u, .one .u, .one .u, .one .u, .one .u, .one .u, .one .u, .one .u, .one .u, .one .u, .one .u, .one .u, .one .u, .one .u, .one .u, .one .u, .one .u, .one .u, .one .u], []⟩))) (some ⟨[.one .u, .one .u, .one .u, .one .u, .one .b, .one .u, .one .u, .one .u, .one .u, .one .u, .one .u, .one .u, .one .u, .one .u, .one .u, .one .u, .one .u, .one .u, .one .u, .one .u, .one .u, .one .u, .one .u, .one .u], []⟩))) .n) ⟨[.one .u, .one .u, .one .u, .one .u, .one .u, .one .u, .one .u, .one .u, .one .u, .one .u, .one .u, .one .u, .one .u, .one .u, .one .u, .one .u, .one .u, .one .u, .one .u, .one .u, .one .u, .one .u, .one .u, .one .u], []⟩)) .n)))
noncomputable def fi14 : FI := mkFI Try.f14 0 [.ct .s] [(false, [.ct .b])] (fun _ => (.s .n (.s (.s .n (.b (.s (.s .n (.c .n (.s .n (.c .n (.s .n (.c .n (.s .n (.c .n (.s .n (.c .n (.s .n (.c .n (.s .n (.c .n (.s .n (.c .n (.s .n (.c .n (.s .n (.c .n (.s .n (.c .n (.s .n (.c .n (.s .n (.c .n (.s .n (.c .n (.s .n (.c .n (.s .n (.c .n (.s .n (.c .n (.s .n (.c .n .n (some ⟨[.one .u, .one .u, .one .u, .one .u, .one .b, .one .u, .one .u, .one .u, .one .u, .one .u, .one .u, .one .u, .one .u, .one .u, .one .u, .one .u, .one .u, .one .u, .one .u, .one .u, .one .u, .one .u, .one .u, .one .u], []⟩))) (some ⟨[.one .u, .one .u, .one .u, .one .u, .one .b, .one .u, .one .u, .one .u, .one .u, .one .u, .one .u, .one .u, .one .u, .one .u, .one .u, .one .u, .one .u, .one .u, .one .u, .one .u, .one .u, .one .u, .one .u, .one .u], []⟩))) (some ⟨[.one .u, .one .u, .one .u, .one .u, .one .b, .one .u, .one .u, .one .u, .one .u, .one .u, .one .u, .one .u, .one .u, .one .u, .one .u, .one .u, .one .u, .one .u, .one .u, .one .u, .one .u, .one .u, .one .u, .one .u], []⟩))) (some ⟨[.one .u, .one .u, .one .u, .one .u, .one .b, .one .u, .one .u, .one .u, .one .u, .one .u, .one .u, .one .u, .one .u, .one .u, .one .u, .one .u, .one .u, .one .u, .one .u, .one .u, .one .u, .one .u, .one .u, .one .u], []⟩))) (some ⟨[.one .u, .one .u, .one .u, .one .u, .one .b, .one .u, .one .u, .one .u, .one .u, .one .u, .one .u, .one .u, .one .u, .one .u, .one .u, .one .u, .one .u, .one .u, .one .u, .one .u, .one .u, .one .u, .one .u, .one .u], []⟩))) (some ⟨[.one .u, .one .u, .one .u, .one .u, .one .b, .one .u, .one .u, .one .u, .one .u, .one .u, .one .u, .one .u, .one .u, .one .u, .one .u, .one .u, .one .u, .one .u, .one .u, .one .u, .one .u, .one .u, .one .u, .one .u], []⟩))) (some ⟨[.one .u, .one .u, .one .u, .one .u, .one .b, .one .u, .one .u, .one .u, .one .u, .one .u, .one .u, .one .u, .one .u, .one .u, .one .u, .one .u, .one .u, .one .u, .one .u, .one .u, .one .u, .one .u, .one .u, .one .u], []⟩))) (some ⟨[.one .u, .one .u, .one .u, .one .u, .one .b, .one .u, .one .u, .one .u, .one .u, .one .u, .one .u, .one .u, .one .u, .one .u, .one .u, .one .u, .one .u, .one .u, .one .u, .one .u, .one .u, .one .u, .one .u, .one .u], []⟩))) (some ⟨[.one .u, .one .u, .one .u, .one .u, .one .b, .one .u, .one .u, .one .u, .one .u, .one .u, .one .u, .one .u, .one .u, .one .u, .one .u, .one .u, .one .u, .one .u, .one .u, .one .u, .one .u, .one .u, .one .u, .one .u], []⟩))) (some ⟨[.one .u, .one .u, .one .u, .one .u, .one .b, .one .u, .one .u, .one .u, .one .u, .one .u, .one .u, .one .u, .one .u, .one .u, .one .u, .one .u, .one .u, .one .u, .one .u, .one .u, .one .u, .one .u, .one .u, .one .u], []⟩))) (some ⟨[.one .u, .one .u, .one .u, .one .u, .one .b, .one .u, .one .u, .one .u, .one .u, .one .u, .one .u, .one .u, .one .u, .one .u, .one .u, .one .u, .one .u, .one .u, .one .u, .one .u, .one .u, .one .u, .one .u, .one .u], []⟩))) (some ⟨[.one .u, .one .u, .one .u, .one .u, .one .b, .one .u, .one .u, .one .u, .one .u, .one .u, .one .u, .one .u, .one .u, .one .u, .one .u, .one .u, .one .u, .one .u, .one .u, .one .u, .one .u, .one .u, .one .u, .one .u], []⟩))) (some ⟨[.one .u, .one .u, .one .u, .one .u, .one .b, .one .u, .one .u, .one .u, .one .u, .one .u, .one .u, .one .u, .one .u, .one .u, .one .u, .one .u, .one .u, .one .u, .one .u, .one .u, .one .u, .one .u, .one .u, .one .u], []⟩))) (some ⟨[.one .u, .one .u, .one .u, .one .u, .one .b, .one .u, .one .u, .one .u, .one .u, .one .u, .one .u, .one .u, .one .u, .one .u, .one .u, .one .u, .one .u, .one .u, .one .u, .one .u, .one .u, .one .u, .one .u, .one .u], []⟩))) (some ⟨[.one .u, .one .u, .one .u, .one .u, .one .b, .one .u, .one .u, .one .u, .one .u, .one .u, .one .u, .one .u, .one .u, .one .u, .one .u, .one .u, .one .u, .one .u, .one .u, .one .u, .one .u, .one .u, .one .u, .one .u], []⟩))) (some ⟨[.one .u, .one .u, .one .u, .one .u, .one .b, .one .u, .one .u, .one .u, .one .u, .one .u, .one .u, .one .u, .one .u, .one .u, .one .u, .one .u, .one .u, .one .u, .one .u, .one .u, .one .u, .one .u, .one .u, .one .u], []⟩))) (some ⟨[.one .u, .one .u, .one .u, .one .u, .one .b, .one .u, .one .u, .one .u, .one .u, .one .u, .one .u, .one .u, .one .u, .one .u, .one .u, .one .u, .one .u, .one .u, .one .u, .one .u, .one .u, .one .u, .one .u, .one .u], []⟩))) (some ⟨[.one .u, .one .u, .one .u, .one .u, .one .b, .one .u, .one .u, .one .u, .one .u, .one .u, .one .u, .one .u, .one .u, .one .u, .one .u, .one .u, .one .u, .one .u, .one .u, .one .u, .one .u, .one .u, .one .u, .one .u], []⟩))) .n) ⟨[.one .u, .one .u, .one .u, .one .u, .one .u, .one .u, .one .u, .one .u, .one .u, .one .u, .one .u, .one .u, .one .u, .one .u, .one .u, .one .u, .one .u, .one .u, .one .u, .one .u, .one .u, .one .u, .one .u, .one .u], []⟩)) .n)))
noncomputable def fi15 : FI := mkFI Try.f15 0 [.ct (.i .i64)] [(false, [.ct .s])] (fun _ => (.s .n (.s (.s .n (.b .n ⟨[.one .u, .one .u, .one .u, .one .u, .one .u, .one .u, .one .u, .one .u, .one .u, .one .u], []⟩)) .n)))
noncomputable def fi16 : FI := mkFI Try.f16 1 [.ct (.i .i64)] [(false, [.ct .s])] (fun _ => (.s .n (.s (.r [0, 0] none) .n)))
noncomputable def fi17 : FI := mkFI Try.f17 1 [.ag [.i .i64, .s, .i .i64], .ct (.i .i64)] [(false, [.ct (.i .i64)])] (fun _ => (.s (.r [0, 0] none) .n))
noncomputable def fi19 : FI := mkFI Try.f19 3 [.ag [.i .i64, .s, .i .i64]] [(true, [.ct (.i .i64), .ct .s, .ct (.i .i64)])] (fun _ => (.s (.r [0, 1] none) (.s (.r [2] none) .n)))
noncomputable def fi18 : FI := mkFI Try.f18 2 [.ag [.i .i64, .s, .i .i64], .ag [.i .i64, .s, .i .i64]] [(false, [.ct .b])] (fun _ => (.s (.r [0, 1, 0] none) (.s (.s (.r [] (some ⟨[.one .u, .one .u, .one (.ptr 0 0), .one (.ptr 1 0), .one .u, .one .u, .one .u, .one .u, .one .u, .one .u, .one .u, .one .u, .one .u, .one .u, .one .u, .one .u, .one .u, .one .u, .one .u, .one .u, .one .b, .one .u, .one .u, .one .u, .one .u, .one .u, .one .u, .one .u, .one .u, .one .u, .one .u, .one .u, .one .u, .one .u, .one .u, .one .u, .one .u, .one .u, .one .u], [.var 29 [.i .i64, .s, .i .i64], .var 29 [.i .i64, .s, .i .i64]]⟩)) .n) (.s (.r [] (some ⟨[.one .u, .one .u, .one .u, .one .u, .one .b, .one .u, .one .u, .one .u, .one .u, .one .u, .one .u, .one .u, .one .u, .one .u, .one .u, .one .u, .one .u, .one .u, .one .u, .one .u, .one .u, .one .u, .one .u, .one .u, .one .u, .one .u, .one .u, .one .u, .one .u, .one .u, .one .u, .one .u, .one .u, .one .u, .one .u, .one .u, .one .u, .one .u, .one .u], [.u, .u]⟩)) .n))))
noncomputable def fi20 : FI := mkFI Try.f20 2 [.ag [.i .i64, .s, .i .i64], .ag [.i .i64, .s, .i .i64]] [(false, [.ct .b])] (fun _ => (.s (.r [0, 1, 0] none) (.s .n (.s (.b (.s (.r [] (some ⟨[.one .u, .one .u, .one (.ptr 0 0), .one (.ptr 1 0), .one .u, .one .u, .one .b, .one .u, .one .u, .one .u, .one .u, .one .u, .one .u, .one .u, .one .u, .one .u, .one .u, .one .u, .one .u, .one .u, .one .u, .one .u, .one .u, .one .u, .one .u, .one .u, .one .u, .one .u, .one .u, .one .u, .one .u, .one .u, .one .u, .one .u, .one .u, .one .u], [.var 29 [.i .i64, .s, .i .i64], .var 29 [.i .i64, .s, .i .i64]]⟩)) (.c .n (.s (.r [] (some ⟨[.one .u, .one .u, .one (.ptr 0 0), .one (.ptr 1 0), .one .u, .one .u, .one .u, .one .u, .one .u, .one .u, .one .u, .one .u, .one .u, .one .u, .one .u, .one .b, .one .u, .one .u, .one .u, .one .u, .one .u, .one .u, .one .u, .one .u, .one .u, .one .u, .one .u, .one .u, .one .u, .one .u, .one .u, .one .u, .one .u, .one .u, .one .u, .one .u], [.var 29 [.i .i64, .s, .i .i64], .var 29 [.i .i64, .s, .i .i64]]⟩)) .n) none)) ⟨[.one .u, .one .u, .one (.ptr 0 0), .one (.ptr 1 0), .one .u, .one .u, .one .u, .one .u, .one .u, .one .u, .one .u, .one .u, .one .u, .one .u, .one .u, .one .u, .one .u, .one .u, .one .u, .one .u, .one .u, .one .u, .one .u, .one .u, .one .u, .one .u, .one .u, .one .u, .one .u, .one .u, .one .u, .one .u, .one .u, .one .u, .one .u, .one .u], [.var 29 [.i .i64, .s, .i .i64], .var 29 [.i .i64, .s, .i .i64]]⟩) (.s (.r [] (some ⟨[.one .u, .one .u, .one .u, .one .u, .one .b, .one .u, .one .u, .one .u, .one .u, .one .u, .one .u, .one .u, .one .u, .one .u, .one .u, .one .u, .one .u, .one .u, .one .u, .one .u, .one .u, .one .u, .one .u, .one .u, .one .u, .one .u, .one .u, .one .u, .one .u, .one .u, .one .u, .one .u, .one .u, .one .u, .one .u, .one .u], [.u, .u]⟩)) .n)))))
noncomputable def fi21 : FI := mkFI Try.f21 0 [.ct (.sl 26), .ct (.i .i64)] [(false, [.ct (.i .i64)])] (fun _ => (.s .n (.s .n (.s .n (.s (.s .n (.b (.b (.s .n (.s (.b .n ⟨[.one (.sl 26), .one (.i .i64), .one .u, .one .u, .one .u, .one (.i .i64), .one .u, .one .u, .one .u, .one .u, .one .u, .one .u, .one .u, .one .u, .one .u, .one .u, .one .u, .one .u, .one .u, .one .u, .one .u, .one .u, .one .u, .one .u, .one .u, .one .u, .one .u], []⟩) .n)) ⟨[.one (.sl 26), .one (.i .i64), .one .u, .one .u, .one .u, .one (.i .i64), .one .u, .one .u, .one .u, .one .u, .one .u, .one .u, .one .u, .one .u, .one .u, .one .u, .one .u, .one .u, .one .u, .one .u, .one .u, .one .u, .one .u, .one .u, .one .u, .one .u, .one .u], []⟩) ⟨[.one .u, .one (.i .i64), .one .u, .one .u, .one .u, .one .u, .one .u, .one .u, .one .u, .one .u, .one .u, .one .u, .one .u, .one .u, .one .u, .one .u, .one .u, .one .u, .one .u, .one .u, .one .u, .one .u, .one .u, .one .u, .one .u, .one .u, .one .u], []⟩)) .n)))))
noncomputable def fi23 : FI := mkFI Try.f23 4 [.ct (.sl 26)] [(false, [.ct (.sl 29)])] (fun _ => (.s .n (.s (.r [0, 0, 0, 0] none) (.s (.s .n (.b (.b (.s .n (.s (.b .n ⟨[.one (.sl 26), .one .u, .one .u, .one (.own 29 2), .one (.i .i64), .one .u, .one .u, .one .u, .one .u, .one .u, .one .u, .one .u, .one .u, .one .u, .one .u, .one .u, .one .u, .one .u, .one .u, .one .u, .one .u, .one .u, .one .u], [.u, .u, .u, .u]⟩) .n)) ⟨[.one (.sl 26), .one .u, .one .u, .one (.own 29 1), .one (.i .i64), .one .u, .one .u, .one .u, .one .u, .one .u, .one .u, .one .u, .one .u, .one .u, .one .u, .one .u, .one .u, .one .u, .one .u, .one .u, .one .u, .one .u, .one .u], [.u, .u, .u, .u]⟩) ⟨[.one .u, .one .u, .one .u, .one (.own 29 3), .one .u, .one .u, .one .u, .one .u, .one .u, .one .u, .one .u, .one .u, .one .u, .one .u, .one .u, .one .u, .one .u, .one .u, .one .u, .one .u, .one .u, .one .u, .one .u], [.u, .u, .u, .u]⟩)) .n))))
noncomputable def fi22 : FI := mkFI Try.f22 0 [.ct (.sl 29), .ct (.sl 29)] [(false, [.ct .b])] (fun _ => (.s .n (.s .n (.s (.s .n (.b (.b (.s .n (.s (.b (.s (.r [] (some ⟨[.one (.sl 29), .one (.sl 29), .one .u, .one .u, .one .u, .one (.i .i64), .one .u, .one .u, .one .u, .one .u, .one .u, .one .u, .one .u, .one .u, .one .u, .one .u, .one .u, .one .u, .one .u, .one .u, .one .u, .one .u, .one .u, .one .u, .one .u, .one .u, .one .u, .one .u, .one .u, .one .u, .one .u, .one .u, .one .u, .one .u, .one .u, .one .u, .one .u, .one .u, .one .u, .one .u, .one .b], []⟩)) .n) ⟨[.one (.sl 29), .one (.sl 29), .one .u, .one .u, .one .u, .one (.i .i64), .one .u, .one .u, .one .u, .one .u, .one .u, .one .u, .one .u, .one .u, .one .u, .one .u, .one .u, .one .u, .one .u, .one .u, .one .u, .one .u, .one .u, .one .u, .one .u, .one .u, .one .u, .one .u, .one .u, .one .u, .one .u, .one .u, .one .u, .one .u, .one .u, .one .u, .one .u, .one .u, .one .u, .one .u, .one .u], []⟩) .n)) ⟨[.one (.sl 29), .one (.sl 29), .one .u, .one .u, .one .u, .one (.i .i64), .one .u, .one .u, .one .u, .one .u, .one .u, .one .u, .one .u, .one .u, .one .u, .one .u, .one .u, .one .u, .one .u, .one .u, .one .u, .one .u, .one .u, .one .u, .one .u, .one .u, .one .u, .one .u, .one .u, .one .u, .one .u, .one .u, .one .u, .one .u, .one .u, .one .u, .one .u, .one .u, .one .u, .one .u, .one .u], []⟩) ⟨[.one .u, .one .u, .one .u, .one .u, .one .u, .one .u, .one .u, .one .u, .one .u, .one .u, .one .u, .one .u, .one .u, .one .u, .one .u, .one .u, .one .u, .one .u, .one .u, .one .u, .one .u, .one .u, .one .u, .one .u, .one .u, .one .u, .one .u, .one .u, .one .u, .one .u, .one .u, .one .u, .one .u, .one .u, .one .u, .one .u, .one .u, .one .u, .one .u, .one .u, .one .u], []⟩)) .n))))
noncomputable def fi24 : FI := mkFI Try.f24 0 [.ct (.sl 29), .ct (.sl 29)] [(false, [.ct .b])] (fun _ => .n)
noncomputable def fi25 : FI := mkFI Try.f25 0 [.ct (.sl 29), .ct (.sl 29)] [(false, [.ct .b])] (fun _ => (.s .n (.s .n (.s (.s .n (.b (.b (.s .n (.s (.b .n ⟨[.one (.sl 29), .one (.sl 29), .one .u, .one .u, .one .u, .one (.i .i64), .one .u, .one .u, .one .u, .one .u, .one .u, .one .u, .one .u, .one .u, .one .u, .one .u, .one .u, .one .u, .one .u, .one .u, .one .u, .one .u, .one .u, .one .u, .one .u, .one .u, .one .u], []⟩) .n)) ⟨[.one (.sl 29), .one (.sl 29), .one .u, .one .u, .one .u, .one (.i .i64), .one .u, .one .u, .one .u, .one .u, .one .u, .one .u, .one .u, .one .u, .one .u, .one .u, .one .u, .one .u, .one .u, .one .u, .one .u, .one .u, .one .u, .one .u, .one .u, .one .u, .one .u], []⟩) ⟨[.one .u, .one .u, .one .u, .one .u, .one .u, .one .u, .one .u, .one .u, .one .u, .one .u, .one .u, .one .u, .one .u, .one .u, .one .u, .one .u, .one .u, .one .u, .one .u, .one .u, .one .u, .one .u, .one .u, .one .u, .one .u, .one .u, .one .u], []⟩)) .n))))
noncomputable def fi26 : FI := mkFI Try.f26 0 [.ct .s, .ct .s] [(false, [.ct .b])] (fun _ => .n)
noncomputable def fi27 : FI := mkFI Try.f27 0 [.ct (.i .i64), .ct (.i .i64), .ct (.i .i64)] [(false, [.ct .b])] (fun _ => (.s .n (.s (.r [] (some ⟨[.one .u, .one .u, .one .u, .one .u, .one .u, .one .u, .one .b, .one .u, .one .u, .one .u, .one .u, .one .u, .one .u, .one .u, .one .u], []⟩)) .n)))
noncomputable def fi28 : FI := mkFI Try.f28 1 [.ag [.i .i64, .s, .i .i64]] [(false, [.ct .b])] (fun _ => (.s (.r [0, 0] none) .n))
noncomputable def fi29 : FI := mkFI Try.f29 1 [.ag [.i .i64, .s, .i .i64]] [(false, [.ct .b])] (fun _ => (.s (.r [0, 0] none) (.s (.r [] (some ⟨[.one .u, .one .u, .one .b, .one .u, .one .u, .one .u, .one .u, .one .u, .one .u, .one .u], [.u]⟩)) .n)))
noncomputable def fi30 : FI := mkFI Try.f30 1 [.ag [.i .i64, .s, .i .i64]] [(false, [.ct .b])] (fun _ => (.s (.r [0, 0] none) (.s (.r [] (some ⟨[.one .u, .one .u, .one .b, .one .u, .one .u, .one .u, .one .u, .one .u, .one .u, .one .u, .one .u], [.u]⟩)) .n)))
noncomputable def fi31 : FI := mkFI Try.f31 2 [.ct (.sl 29), .ct (.sl 29), .fn] [(false, [.ct .b])] (fun _ => (.s .n (.s .n (.s (.s .n (.b (.b (.s .n (.s .n (.s (.b (.s (.r [0, 0, 0, 0, 0, 0] none) (.s (.r [0, 0, 0, 0, 1, 0] none) .n)) ⟨[.one .u, .one (.sl 29), .one (.fn 32 []), .one .u, .one .u, .one .u, .one .u, .one .u, .one .u, .one .u, .one .u, .one .u, .one .u, .one .u, .one .u, .one (.sl 29), .one (.i .i64), .one (.i .i64), .one .u, .one .u, .one .u, .one .u, .one .u, .one .u, .one .u, .one .u, .one .u, .one .u, .one .u, .one .u, .one .u, .one .u], [.u, .u]⟩) .n))) ⟨[.one .u, .one (.sl 29), .one (.fn 32 []), .one .u, .one .u, .one .u, .one .u, .one .u, .one .u, .one .u, .one .u, .one .u, .one .u, .one .u, .one .u, .one (.sl 29), .one (.i .i64), .one (.i .i64), .one .u, .one .u, .one .u, .one .u, .one .u, .one .u, .one .u, .one .u, .one .u, .one .u, .one .u, .one .u, .one .u, .one .u], [.u, .u]⟩) ⟨[.one .u, .one .u, .one .u, .one .u, .one .u, .one .u, .one .u, .one .u, .one .u, .one .u, .one .u, .one .u, .one .u, .one .u, .one .u, .one .u, .one .u, .one .u, .one .u, .one .u, .one .u, .one .u, .one .u, .one .u, .one .u, .one .u, .one .u, .one .u, .one .u, .one .u, .one .u, .one .u], [.u, .u]⟩)) .n))))
noncomputable def fi33 : FI := mkFI Try.f33 2 [.ag [.i .i64, .s, .i .i64], .ag [.i .i64, .s, .i .i64]] [(false, [.ct .b])] (fun _ => (.s (.r [0, 1, 0] none) .n))
noncomputable def fi34 : FI := mkFI Try.f34 0 [.ct .s, .ct .s] [(false, [.ct .b])] (fun _ => (.s .n (.s (.r [] (some ⟨[.one .u, .one .u, .one .u, .one .u, .one .b, .one .u, .one .u, .one .u, .one .u, .one .u, .one .u, .one .u, .one .u, .one .u, .one .u, .one .u, .one .u, .one .u], []⟩)) .n)))
noncomputable def fi35 : FI := mkFI Try.f35 0 [.ct (.i .i64), .ct (.i .i64), .ct (.i .i64)] [(false, [.ct .b])] (fun _ => (.s .n (.s (.r [] (some ⟨[.one .u, .one .u, .one .u, .one .u, .one .u, .one .u, .one .b, .one .u, .one .u, .one .u, .one .u, .one .u, .one .u, .one .u, .one .u], []⟩)) .n)))
noncomputable def fi32 : FI := mkFI Try.f32 2 [.ag [.i .i64, .s, .i .i64], .ag [.i .i64, .s, .i .i64]] [(false, [.ct .b])] (fun _ => (.s (.r [0, 1, 0] none) (.s (.r [] (some ⟨[.one .u, .one .u, .one .u, .one .u, .one .b, .one .u, .one .u, .one .u, .one .u, .one .u, .one .u, .one .u, .one .u, .one .u, .one .u, .one .u, .one .u], [.u, .u]⟩)) .n)))
noncomputable def fnL : List (Nat × FI) := [(3, fi3), (4, fi4), (5, fi5), (6, fi6), (7, fi7), (8, fi8), (9, fi9), (10, fi10), (11, fi11), (12, fi12), (13, fi13), (14, fi14), (15, fi15), (16, fi16), (17, fi17), (19, fi19), (18, fi18), (20, fi20), (21, fi21), (23, fi23), (22, fi22), (24, fi24), (25, fi25), (26, fi26), (27, fi27), (28, fi28), (29, fi29), (30, fi30), (31, fi31), (33, fi33), (34, fi34), (35, fi35), (32, fi32)]
noncomputable def cfg : Cfg := ⟨fun t => look t tyL, fun f => look f fnL⟩
theorem tys : tyB Try.prog tyL = true := by kernel_rfl
theorem fns : ∀ x ∈ fnL, FnOk Try.prog cfg.ty x.1 x.2 :=
  all_cons (mkFI_ok Try.func3 (by kernel_rfl)) <|
  all_cons (mkFI_ok Try.func4 (by kernel_rfl)) <|
  all_cons (mkFI_ok Try.func5 (by kernel_rfl)) <|
  all_cons (mkFI_ok Try.func6 (by kernel_rfl)) <|
  all_cons (mkFI_ok Try.func7 (by kernel_rfl)) <|
  all_cons (mkFI_ok Try.func8 (by kernel_rfl)) <|
  all_cons (mkFI_ok Try.func9 (by kernel_rfl)) <|
  all_cons (mkFI_ok Try.func10 (by kernel_rfl)) <|
  all_cons (mkFI_ok Try.func11 (by kernel_rfl)) <|
  all_cons (mkFI_ok Try.func12 (by kernel_rfl)) <|
  all_cons (mkFI_ok Try.func13 (by kernel_rfl)) <|
  all_cons (mkFI_ok Try.func14 (by kernel_rfl)) <|
  all_cons (mkFI_ok Try.func15 (by kernel_rfl)) <|
  all_cons (mkFI_ok Try.func16 (by kernel_rfl)) <|
  all_cons (mkFI_ok Try.func17 (by kernel_rfl)) <|
  all_cons (mkFI_ok Try.func19 (by kernel_rfl)) <|
  all_cons (mkFI_ok Try.func18 (by kernel_rfl)) <|
  all_cons (mkFI_ok Try.func20 (by kernel_rfl)) <|
  all_cons (mkFI_ok Try.func21 (by kernel_rfl)) <|
  all_cons (mkFI_ok Try.func23 (by kernel_rfl)) <|
  all_cons (mkFI_ok Try.func22 (by kernel_rfl)) <|
  all_cons (mkFI_ok Try.func24 (by kernel_rfl)) <|
  all_cons (mkFI_ok Try.func25 (by kernel_rfl)) <|
  all_cons (mkFI_ok Try.func26 (by kernel_rfl)) <|
  all_cons (mkFI_ok Try.func27 (by kernel_rfl)) <|
  all_cons (mkFI_ok Try.func28 (by kernel_rfl)) <|
  all_cons (mkFI_ok Try.func29 (by kernel_rfl)) <|
  all_cons (mkFI_ok Try.func30 (by kernel_rfl)) <|
  all_cons (mkFI_ok Try.func31 (by kernel_rfl)) <|
  all_cons (mkFI_ok Try.func33 (by kernel_rfl)) <|
  all_cons (mkFI_ok Try.func34 (by kernel_rfl)) <|
  all_cons (mkFI_ok Try.func35 (by kernel_rfl)) <|
  all_cons (mkFI_ok Try.func32 (by kernel_rfl)) <| all_nil
/-- ('"', '"loop.example/g00964/laws.FnExactReserved"') -/
noncomputable def E3 (k : Nat) (a : List DC) : Out :=
    if (decide ((((a.getD 0 d0).ss).length : Int) > (1048576 : Int))) = true then
      .ret [DC.b true]
    else
      (callF cfg k 9 h9 [DC.s ((a.getD 0 d0).ss)]).bindR fun r1 =>
      (callF cfg k 10 h10 [DC.s ((a.getD 0 d0).ss)]).bindR fun r2 =>
      if (!((r2.getD 0 d0).bb == (r1.getD 0 d0).bb)) = true then
        .ret [DC.b false]
      else
        .ret [DC.b true]
theorem eq3 (k : Nat) (a : List DC) : callF cfg (k + 1) 3 h3 a = E3 k a := by kernel_rfl
/-- ('"', '"loop.example/g00964/laws.FnExactBuiltIn"') -/
noncomputable def E4 (k : Nat) (a : List DC) : Out :=
    if (decide ((((a.getD 0 d0).ss).length : Int) > (1048576 : Int))) = true then
      .ret [DC.b true]
    else
      (callF cfg k 11 h11 [DC.s ((a.getD 0 d0).ss)]).bindR fun r1 =>
      (callF cfg k 12 h12 [DC.s ((a.getD 0 d0).ss)]).bindR fun r2 =>
      if (!((r2.getD 0 d0).bb == (r1.getD 0 d0).bb)) = true then
        .ret [DC.b false]
      else
        .ret [DC.b true]
theorem eq4 (k : Nat) (a : List DC) : callF cfg (k + 1) 4 h4 a = E4 k a := by kernel_rfl
/-- ('"', '"loop.example/g00964/laws.FnExactPlaceOk"') -/
noncomputable def E5 (k : Nat) (a : List DC) : Out :=
    if (decide ((((a.getD 0 d0).ss).length : Int) > (1048576 : Int))) = true then
      .ret [DC.b true]
    else
      (callF cfg k 13 h13 [DC.s ((a.getD 0 d0).ss)]).bindR fun r1 =>
      (callF cfg k 14 h14 [DC.s ((a.getD 0 d0).ss)]).bindR fun r2 =>
      if (!((r2.getD 0 d0).bb == (r1.getD 0 d0).bb)) = true then
        .ret [DC.b false]
      else
        .ret [DC.b true]
theorem eq5 (k : Nat) (a : List DC) : callF cfg (k + 1) 5 h5 a = E5 k a := by kernel_rfl
/-- ('"', '"loop.example/g00964/laws.FnExactOpWord"') -/
noncomputable def E6 (k : Nat) (a : List DC) : Out :=
    (callF cfg k 15 h15 [DC.i ((a.getD 0 d0).ii)]).bindR fun r1 =>
    (callF cfg k 16 h16 [DC.i ((a.getD 0 d0).ii)]).bindR fun r2 =>
    if (!((r2.getD 0 d0).ss == (r1.getD 0 d0).ss)) = true then
      .ret [DC.b false]
    else
      .ret [DC.b true]
theorem eq6 (k : Nat) (a : List DC) : callF cfg (k + 1) 6 h6 a = E6 k a := by kernel_rfl
/-- ('"', '"loop.example/g00964/laws.FnExactApart"') -/
noncomputable def E7 (k : Nat) (a : List DC) : Out :=
    (callF cfg k 17 h17 [DC.i ((a.getD 0 d0).ii), DC.s ((a.getD 1 d0).ss), DC.i ((a.getD 2 d0).ii), DC.i (1048576 : Int)]).bindR fun r1 =>
    if (decide ((r1.getD 0 d0).ii < (0 : Int))) = true then
      .ret [DC.b true]
    else
      (callF cfg k 17 h17 [DC.i ((a.getD 3 d0).ii), DC.s ((a.getD 4 d0).ss), DC.i ((a.getD 5 d0).ii), DC.i ((r1.getD 0 d0).ii)]).bindR fun r2 =>
      if (decide ((r2.getD 0 d0).ii < (0 : Int))) = true then
        .ret [DC.b true]
      else
        (callF cfg k 19 h19 [DC.i ((a.getD 0 d0).ii), DC.s ((a.getD 1 d0).ss), DC.i ((a.getD 2 d0).ii)]).bindR fun r3 =>
        (callF cfg k 19 h19 [DC.i ((a.getD 3 d0).ii), DC.s ((a.getD 4 d0).ss), DC.i ((a.getD 5 d0).ii)]).bindR fun r4 =>
        (callF cfg k 18 h18 [DC.i ((r3.getD 0 d0).ii), DC.s ((r3.getD 1 d0).ss), DC.i ((r3.getD 2 d0).ii), DC.i ((r4.getD 0 d0).ii), DC.s ((r4.getD 1 d0).ss), DC.i ((r4.getD 2 d0).ii)]).bindR fun r5 =>
        (callF cfg k 19 h19 [DC.i ((a.getD 0 d0).ii), DC.s ((a.getD 1 d0).ss), DC.i ((a.getD 2 d0).ii)]).bindR fun r6 =>
        (callF cfg k 19 h19 [DC.i ((a.getD 3 d0).ii), DC.s ((a.getD 4 d0).ss), DC.i ((a.getD 5 d0).ii)]).bindR fun r7 =>
        (callF cfg k 20 h20 [DC.i ((r6.getD 0 d0).ii), DC.s ((r6.getD 1 d0).ss), DC.i ((r6.getD 2 d0).ii), DC.i ((r7.getD 0 d0).ii), DC.s ((r7.getD 1 d0).ss), DC.i ((r7.getD 2 d0).ii)]).bindR fun r8 =>
        if (!((r8.getD 0 d0).bb == (r5.getD 0 d0).bb)) = true then
          .ret [DC.b false]
        else
          .ret [DC.b true]
theorem eq7 (k : Nat) (a : List DC) : callF cfg (k + 1) 7 h7 a = E7 k a := by kernel_rfl
/-- ('"', '"loop.example/g00964/laws.FnExactSameTokens"') -/
noncomputable def E8 (k : Nat) (a : List DC) : Out :=
    (callF cfg k 21 h21 [DC.sl ((a.getD 0 d0).ll), DC.i (1048576 : Int)]).bindR fun r1 =>
    if (decide ((r1.getD 0 d0).ii < (0 : Int))) = true then
      .ret [DC.b true]
    else
      (callF cfg k 21 h21 [DC.sl ((a.getD 1 d0).ll), DC.i ((r1.getD 0 d0).ii)]).bindR fun r2 =>
      if (decide ((r2.getD 0 d0).ii < (0 : Int))) = true then
        .ret [DC.b true]
      else
        (callF cfg k 23 h23 [DC.sl ((a.getD 0 d0).ll)]).bindR fun r3 =>
        (callF cfg k 23 h23 [DC.sl ((a.getD 1 d0).ll)]).bindR fun r4 =>
        (callF cfg k 22 h22 [DC.sl ((r3.getD 0 d0).ll), DC.sl ((r4.getD 0 d0).ll)]).bindR fun r5 =>
        (callF cfg k 23 h23 [DC.sl ((a.getD 0 d0).ll)]).bindR fun r6 =>
        (callF cfg k 23 h23 [DC.sl ((a.getD 1 d0).ll)]).bindR fun r7 =>
        (callF cfg k 24 h24 [DC.sl ((r6.getD 0 d0).ll), DC.sl ((r7.getD 0 d0).ll)]).bindR fun r8 =>
        if (!((r8.getD 0 d0).bb == (r5.getD 0 d0).bb)) = true then
          .ret [DC.b false]
        else
          (callF cfg k 23 h23 [DC.sl ((a.getD 0 d0).ll)]).bindR fun r9 =>
          (callF cfg k 25 h25 [DC.sl ((r6.getD 0 d0).ll), DC.sl ((r9.getD 0 d0).ll)]).bindR fun r10 =>
          if (!((r10.getD 0 d0).bb)) = true then
            .ret [DC.b false]
          else
            (callF cfg k 23 h23 [DC.sl ((a.getD 1 d0).ll)]).bindR fun r11 =>
            (callF cfg k 25 h25 [DC.sl ((r7.getD 0 d0).ll), DC.sl ((r11.getD 0 d0).ll)]).bindR fun r12 =>
            if (!((r12.getD 0 d0).bb)) = true then
              .ret [DC.b false]
            else
              .ret [DC.b true]
theorem eq8 (k : Nat) (a : List DC) : callF cfg (k + 1) 8 h8 a = E8 k a := by kernel_rfl
/-- ('"', '"loop.example/g00964/spec.Reserved"') -/
noncomputable def E9 (k : Nat) (a : List DC) : Out :=
    Out.andThen (if (decide ((((a.getD 0 d0).ss).length : Int) ≥ (2 : Int))) = true then
        if 0 ≤ (2 : Int) ∧ (2 : Int) ≤ (((a.getD 0 d0).ss).length : Int) then
          .norm [DC.b ((((a.getD 0 d0).ss).take (2 : Int).toNat) == ([95, 95] : List UInt8))]
        else
          .fail
      else
        .norm [DC.b false]) fun v1 =>
    .ret [DC.b ((v1.getD 0 d0).bb)]
theorem eq9 (k : Nat) (a : List DC) : callF cfg (k + 1) 9 h9 a = E9 k a := by kernel_rfl
/-- ('"', '"loop.example/g00964/impl.Reserved"') -/
noncomputable def E10 (k : Nat) (a : List DC) : Out :=
    (callF cfg k 26 h26 [DC.s ((a.getD 0 d0).ss), DC.s ([95, 95] : List UInt8)]).bindR fun r1 =>
    .ret [DC.b ((r1.getD 0 d0).bb)]
theorem eq10 (k : Nat) (a : List DC) : callF cfg (k + 1) 10 h10 a = E10 k a := by kernel_rfl
/-- ('"', '"loop.example/g00964/spec.BuiltIn"') -/
noncomputable def E11 (k : Nat) (a : List DC) : Out :=
    Out.andThen (if ((a.getD 0 d0).ss == ([73, 110, 116] : List UInt8)) = true then
        .norm [DC.b true]
      else
        if ((a.getD 0 d0).ss == ([70, 108, 111, 97, 116] : List UInt8)) = true then
          .norm [DC.b true]
        else
          if ((a.getD 0 d0).ss == ([83, 116, 114, 105, 110, 103] : List UInt8)) = true then
            .norm [DC.b true]
          else
            if ((a.getD 0 d0).ss == ([66, 111, 111, 108, 101, 97, 110] : List UInt8)) = true then
              .norm [DC.b true]
            else
              .norm [DC.b ((a.getD 0 d0).ss == ([73, 68] : List UInt8))]) fun v1 =>
    .ret [DC.b ((v1.getD 0 d0).bb)]
theorem eq11 (k : Nat) (a : List DC) : callF cfg (k + 1) 11 h11 a = E11 k a := by kernel_rfl
/-- ('"', '"loop.example/g00964/impl.BuiltIn"') -/
noncomputable def E12 (k : Nat) (a : List DC) : Out :=
    Out.andThenB (Out.andThen (if ((a.getD 0 d0).ss == ([73, 110, 116] : List UInt8)) = true then
          .norm [DC.b ((a.getD 0 d0).ss == ([73, 110, 116] : List UInt8))]
        else
          Out.andThen (if ((a.getD 0 d0).ss == ([70, 108, 111, 97, 116] : List UInt8)) = true then
              .norm [DC.b ((a.getD 0 d0).ss == ([70, 108, 111, 97, 116] : List UInt8))]
            else
              Out.andThen (if ((a.getD 0 d0).ss == ([83, 116, 114, 105, 110, 103] : List UInt8)) = true then
                  .norm [DC.b ((a.getD 0 d0).ss == ([83, 116, 114, 105, 110, 103] : List UInt8))]
                else
                  Out.andThen (if ((a.getD 0 d0).ss == ([66, 111, 111, 108, 101, 97, 110] : List UInt8)) = true then
                      .norm [DC.b ((a.getD 0 d0).ss == ([66, 111, 111, 108, 101, 97, 110] : List UInt8))]
                    else
                      .norm [DC.b ((a.getD 0 d0).ss == ([73, 68] : List UInt8))]) fun v1 =>
                  .norm [DC.b ((v1.getD 0 d0).bb)]) fun v2 =>
              .norm [DC.b ((v2.getD 0 d0).bb)]) fun v3 =>
          .norm [DC.b ((v3.getD 0 d0).bb)]) fun v4 =>
      if (v4.getD 0 d0).bb = true then
        .ret [DC.b true]
      else
        .norm []) 0 fun v5 =>
    .ret [DC.b false]
theorem eq12 (k : Nat) (a : List DC) : callF cfg (k + 1) 12 h12 a = E12 k a := by kernel_rfl
/-- ('"', '"loop.example/g00964/spec.PlaceOk"') -/
noncomputable def E13 (k : Nat) (a : List DC) : Out :=
    Out.andThenB (Out.andThen (if ((a.getD 0 d0).ss == ([81, 85, 69, 82, 89] : List UInt8)) = true then
          .norm [DC.b ((a.getD 0 d0).ss == ([81, 85, 69, 82, 89] : List UInt8))]
        else
          Out.andThen (if ((a.getD 0 d0).ss == ([77, 85, 84, 65, 84, 73, 79, 78] : List UInt8)) = true then
              .norm [DC.b ((a.getD 0 d0).ss == ([77, 85, 84, 65, 84, 73, 79, 78] : List UInt8))]
            else
              Out.andThen (if ((a.getD 0 d0).ss == ([83, 85, 66, 83, 67, 82, 73, 80, 84, 73, 79, 78] : List UInt8)) = true then
                  .norm [DC.b ((a.getD 0 d0).ss == ([83, 85, 66, 83, 67, 82, 73, 80, 84, 73, 79, 78] : List UInt8))]
                else
                  Out.andThen (if ((a.getD 0 d0).ss == ([70, 73, 69, 76, 68] : List UInt8)) = true then
                      .norm [DC.b ((a.getD 0 d0).ss == ([70, 73, 69, 76, 68] : List UInt8))]
                    else
                      Out.andThen (if ((a.getD 0 d0).ss == ([70, 82, 65, 71, 77, 69, 78, 84, 95, 68, 69, 70, 73, 78, 73, 84, 73, 79, 78] : List UInt8)) = true then
                          .norm [DC.b ((a.getD 0 d0).ss == ([70, 82, 65, 71, 77, 69, 78, 84, 95, 68, 69, 70, 73, 78, 73, 84, 73, 79, 78] : List UInt8))]
                        else
                          Out.andThen (if ((a.getD 0 d0).ss == ([70, 82, 65, 71, 77, 69, 78, 84, 95, 83, 80, 82, 69, 65, 68] : List UInt8)) = true then
                              .norm [DC.b ((a.getD 0 d0).ss == ([70, 82, 65, 71, 77, 69, 78, 84, 95, 83, 80, 82, 69, 65, 68] : List UInt8))]
                            else
                              Out.andThen (if ((a.getD 0 d0).ss == ([73, 78, 76, 73, 78, 69, 95, 70, 82, 65, 71, 77, 69, 78, 84] : List UInt8)) = true then
                                  .norm [DC.b ((a.getD 0 d0).ss == ([73, 78, 76, 73, 78, 69, 95, 70, 82, 65, 71, 77, 69, 78, 84] : List UInt8))]
                                else
                                  Out.andThen (if ((a.getD 0 d0).ss == ([86, 65, 82, 73, 65, 66, 76, 69, 95, 68, 69, 70, 73, 78, 73, 84, 73, 79, 78] : List UInt8)) = true then
                                      .norm [DC.b ((a.getD 0 d0).ss == ([86, 65, 82, 73, 65, 66, 76, 69, 95, 68, 69, 70, 73, 78, 73, 84, 73, 79, 78] : List UInt8))]
                                    else
                                      Out.andThen (if ((a.getD 0 d0).ss == ([83, 67, 72, 69, 77, 65] : List UInt8)) = true then
                                          .norm [DC.b ((a.getD 0 d0).ss == ([83, 67, 72, 69, 77, 65] : List UInt8))]
                                        else
                                          Out.andThen (if ((a.getD 0 d0).ss == ([83, 67, 65, 76, 65, 82] : List UInt8)) = true then
                                              .norm [DC.b ((a.getD 0 d0).ss == ([83, 67, 65, 76, 65, 82] : List UInt8))]
                                            else
                                              Out.andThen (if ((a.getD 0 d0).ss == ([79, 66, 74, 69, 67, 84] : List UInt8)) = true then
                                                  .norm [DC.b ((a.getD 0 d0).ss == ([79, 66, 74, 69, 67, 84] : List UInt8))]
                                                else
                                                  Out.andThen (if ((a.getD 0 d0).ss == ([70, 73, 69, 76, 68, 95, 68, 69, 70, 73, 78, 73, 84, 73, 79, 78] : List UInt8)) = true then
                                                      .norm [DC.b ((a.getD 0 d0).ss == ([70, 73, 69, 76, 68, 95, 68, 69, 70, 73, 78, 73, 84, 73, 79, 78] : List UInt8))]
                                                    else
                                                      Out.andThen (if ((a.getD 0 d0).ss == ([65, 82, 71, 85, 77, 69, 78, 84, 95, 68, 69, 70, 73, 78, 73, 84, 73, 79, 78] : List UInt8)) = true then
                                                          .norm [DC.b ((a.getD 0 d0).ss == ([65, 82, 71, 85, 77, 69, 78, 84, 95, 68, 69, 70, 73, 78, 73, 84, 73, 79, 78] : List UInt8))]
                                                        else
                                                          Out.andThen (if ((a.getD 0 d0).ss == ([73, 78, 84, 69, 82, 70, 65, 67, 69] : List UInt8)) = true then
                                                              .norm [DC.b ((a.getD 0 d0).ss == ([73, 78, 84, 69, 82, 70, 65, 67, 69] : List UInt8))]
                                                            else
                                                              Out.andThen (if ((a.getD 0 d0).ss == ([85, 78, 73, 79, 78] : List UInt8)) = true then
                                                                  .norm [DC.b ((a.getD 0 d0).ss == ([85, 78, 73, 79, 78] : List UInt8))]
                                                                else
                                                                  Out.andThen (if ((a.getD 0 d0).ss == ([69, 78, 85, 77] : List UInt8)) = true then
                                                                      .norm [DC.b ((a.getD 0 d0).ss == ([69, 78, 85, 77] : List UInt8))]
                                                                    else
                                                                      Out.andThen (if ((a.getD 0 d0).ss == ([69, 78, 85, 77, 95, 86, 65, 76, 85, 69] : List UInt8)) = true then
                                                                          .norm [DC.b ((a.getD 0 d0).ss == ([69, 78, 85, 77, 95, 86, 65, 76, 85, 69] : List UInt8))]
                                                                        else
                                                                          Out.andThen (if ((a.getD 0 d0).ss == ([73, 78, 80, 85, 84, 95, 79, 66, 74, 69, 67, 84] : List UInt8)) = true then
                                                                              .norm [DC.b ((a.getD 0 d0).ss == ([73, 78, 80, 85, 84, 95, 79, 66, 74, 69, 67, 84] : List UInt8))]
                                                                            else
                                                                              .norm [DC.b ((a.getD 0 d0).ss == ([73, 78, 80, 85, 84, 95, 70, 73, 69, 76, 68, 95, 68, 69, 70, 73, 78, 73, 84, 73, 79, 78] : List UInt8))]) fun v1 =>
                                                                          .norm [DC.b ((v1.getD 0 d0).bb)]) fun v2 =>
                                                                      .norm [DC.b ((v2.getD 0 d0).bb)]) fun v3 =>
                                                                  .norm [DC.b ((v3.getD 0 d0).bb)]) fun v4 =>
                                                              .norm [DC.b ((v4.getD 0 d0).bb)]) fun v5 =>
                                                          .norm [DC.b ((v5.getD 0 d0).bb)]) fun v6 =>
                                                      .norm [DC.b ((v6.getD 0 d0).bb)]) fun v7 =>
                                                  .norm [DC.b ((v7.getD 0 d0).bb)]) fun v8 =>
                                              .norm [DC.b ((v8.getD 0 d0).bb)]) fun v9 =>
                                          .norm [DC.b ((v9.getD 0 d0).bb)]) fun v10 =>
                                      .norm [DC.b ((v10.getD 0 d0).bb)]) fun v11 =>
                                  .norm [DC.b ((v11.getD 0 d0).bb)]) fun v12 =>
                              .norm [DC.b ((v12.getD 0 d0).bb)]) fun v13 =>
                          .norm [DC.b ((v13.getD 0 d0).bb)]) fun v14 =>
                      .norm [DC.b ((v14.getD 0 d0).bb)]) fun v15 =>
                  .norm [DC.b ((v15.getD 0 d0).bb)]) fun v16 =>
              .norm [DC.b ((v16.getD 0 d0).bb)]) fun v17 =>
          .norm [DC.b ((v17.getD 0 d0).bb)]) fun v18 =>
      if (v18.getD 0 d0).bb = true then
        .ret [DC.b true]
      else
        .norm []) 0 fun v19 =>
    .ret [DC.b false]
theorem eq13 (k : Nat) (a : List DC) : callF cfg (k + 1) 13 h13 a = E13 k a := by kernel_rfl
/-- ('"', '"loop.example/g00964/impl.PlaceOk"') -/
noncomputable def E14 (k : Nat) (a : List DC) : Out :=
    Out.andThenB (Out.andThen (if ((a.getD 0 d0).ss == ([81, 85, 69, 82, 89] : List UInt8)) = true then
          .norm [DC.b ((a.getD 0 d0).ss == ([81, 85, 69, 82, 89] : List UInt8))]
        else
          Out.andThen (if ((a.getD 0 d0).ss == ([77, 85, 84, 65, 84, 73, 79, 78] : List UInt8)) = true then
              .norm [DC.b ((a.getD 0 d0).ss == ([77, 85, 84, 65, 84, 73, 79, 78] : List UInt8))]
            else
              Out.andThen (if ((a.getD 0 d0).ss == ([83, 85, 66, 83, 67, 82, 73, 80, 84, 73, 79, 78] : List UInt8)) = true then
                  .norm [DC.b ((a.getD 0 d0).ss == ([83, 85, 66, 83, 67, 82, 73, 80, 84, 73, 79, 78] : List UInt8))]
                else
                  Out.andThen (if ((a.getD 0 d0).ss == ([70, 73, 69, 76, 68] : List UInt8)) = true then
                      .norm [DC.b ((a.getD 0 d0).ss == ([70, 73, 69, 76, 68] : List UInt8))]
                    else
                      Out.andThen (if ((a.getD 0 d0).ss == ([70, 82, 65, 71, 77, 69, 78, 84, 95, 68, 69, 70, 73, 78, 73, 84, 73, 79, 78] : List UInt8)) = true then
                          .norm [DC.b ((a.getD 0 d0).ss == ([70, 82, 65, 71, 77, 69, 78, 84, 95, 68, 69, 70, 73, 78, 73, 84, 73, 79, 78] : List UInt8))]
                        else
                          Out.andThen (if ((a.getD 0 d0).ss == ([70, 82, 65, 71, 77, 69, 78, 84, 95, 83, 80, 82, 69, 65, 68] : List UInt8)) = true then
                              .norm [DC.b ((a.getD 0 d0).ss == ([70, 82, 65, 71, 77, 69, 78, 84, 95, 83, 80, 82, 69, 65, 68] : List UInt8))]
                            else
                              Out.andThen (if ((a.getD 0 d0).ss == ([73, 78, 76, 73, 78, 69, 95, 70, 82, 65, 71, 77, 69, 78, 84] : List UInt8)) = true then
                                  .norm [DC.b ((a.getD 0 d0).ss == ([73, 78, 76, 73, 78, 69, 95, 70, 82, 65, 71, 77, 69, 78, 84] : List UInt8))]
                                else
                                  Out.andThen (if ((a.getD 0 d0).ss == ([86, 65, 82, 73, 65, 66, 76, 69, 95, 68, 69, 70, 73, 78, 73, 84, 73, 79, 78] : List UInt8)) = true then
                                      .norm [DC.b ((a.getD 0 d0).ss == ([86, 65, 82, 73, 65, 66, 76, 69, 95, 68, 69, 70, 73, 78, 73, 84, 73, 79, 78] : List UInt8))]
                                    else
                                      Out.andThen (if ((a.getD 0 d0).ss == ([83, 67, 72, 69, 77, 65] : List UInt8)) = true then
                                          .norm [DC.b ((a.getD 0 d0).ss == ([83, 67, 72, 69, 77, 65] : List UInt8))]
                                        else
                                          Out.andThen (if ((a.getD 0 d0).ss == ([83, 67, 65, 76, 65, 82] : List UInt8)) = true then
                                              .norm [DC.b ((a.getD 0 d0).ss == ([83, 67, 65, 76, 65, 82] : List UInt8))]
                                            else
                                              Out.andThen (if ((a.getD 0 d0).ss == ([79, 66, 74, 69, 67, 84] : List UInt8)) = true then
                                                  .norm [DC.b ((a.getD 0 d0).ss == ([79, 66, 74, 69, 67, 84] : List UInt8))]
                                                else
                                                  Out.andThen (if ((a.getD 0 d0).ss == ([70, 73, 69, 76, 68, 95, 68, 69, 70, 73, 78, 73, 84, 73, 79, 78] : List UInt8)) = true then
                                                      .norm [DC.b ((a.getD 0 d0).ss == ([70, 73, 69, 76, 68, 95, 68, 69, 70, 73, 78, 73, 84, 73, 79, 78] : List UInt8))]
                                                    else
                                                      Out.andThen (if ((a.getD 0 d0).ss == ([65, 82, 71, 85, 77, 69, 78, 84, 95, 68, 69, 70, 73, 78, 73, 84, 73, 79, 78] : List UInt8)) = true then
                                                          .norm [DC.b ((a.getD 0 d0).ss == ([65, 82, 71, 85, 77, 69, 78, 84, 95, 68, 69, 70, 73, 78, 73, 84, 73, 79, 78] : List UInt8))]
                                                        else
                                                          Out.andThen (if ((a.getD 0 d0).ss == ([73, 78, 84, 69, 82, 70, 65, 67, 69] : List UInt8)) = true then
                                                              .norm [DC.b ((a.getD 0 d0).ss == ([73, 78, 84, 69, 82, 70, 65, 67, 69] : List UInt8))]
                                                            else
                                                              Out.andThen (if ((a.getD 0 d0).ss == ([85, 78, 73, 79, 78] : List UInt8)) = true then
                                                                  .norm [DC.b ((a.getD 0 d0).ss == ([85, 78, 73, 79, 78] : List UInt8))]
                                                                else
                                                                  Out.andThen (if ((a.getD 0 d0).ss == ([69, 78, 85, 77] : List UInt8)) = true then
                                                                      .norm [DC.b ((a.getD 0 d0).ss == ([69, 78, 85, 77] : List UInt8))]
                                                                    else
                                                                      Out.andThen (if ((a.getD 0 d0).ss == ([69, 78, 85, 77, 95, 86, 65, 76, 85, 69] : List UInt8)) = true then
                                                                          .norm [DC.b ((a.getD 0 d0).ss == ([69, 78, 85, 77, 95, 86, 65, 76, 85, 69] : List UInt8))]
                                                                        else
                                                                          Out.andThen (if ((a.getD 0 d0).ss == ([73, 78, 80, 85, 84, 95, 79, 66, 74, 69, 67, 84] : List UInt8)) = true then
                                                                              .norm [DC.b ((a.getD 0 d0).ss == ([73, 78, 80, 85, 84, 95, 79, 66, 74, 69, 67, 84] : List UInt8))]
                                                                            else
                                                                              .norm [DC.b ((a.getD 0 d0).ss == ([73, 78, 80, 85, 84, 95, 70, 73, 69, 76, 68, 95, 68, 69, 70, 73, 78, 73, 84, 73, 79, 78] : List UInt8))]) fun v1 =>
                                                                          .norm [DC.b ((v1.getD 0 d0).bb)]) fun v2 =>
                                                                      .norm [DC.b ((v2.getD 0 d0).bb)]) fun v3 =>
                                                                  .norm [DC.b ((v3.getD 0 d0).bb)]) fun v4 =>
                                                              .norm [DC.b ((v4.getD 0 d0).bb)]) fun v5 =>
                                                          .norm [DC.b ((v5.getD 0 d0).bb)]) fun v6 =>
                                                      .norm [DC.b ((v6.getD 0 d0).bb)]) fun v7 =>
                                                  .norm [DC.b ((v7.getD 0 d0).bb)]) fun v8 =>
                                              .norm [DC.b ((v8.getD 0 d0).bb)]) fun v9 =>
                                          .norm [DC.b ((v9.getD 0 d0).bb)]) fun v10 =>
                                      .norm [DC.b ((v10.getD 0 d0).bb)]) fun v11 =>
                                  .norm [DC.b ((v11.getD 0 d0).bb)]) fun v12 =>
                              .norm [DC.b ((v12.getD 0 d0).bb)]) fun v13 =>
                          .norm [DC.b ((v13.getD 0 d0).bb)]) fun v14 =>
                      .norm [DC.b ((v14.getD 0 d0).bb)]) fun v15 =>
                  .norm [DC.b ((v15.getD 0 d0).bb)]) fun v16 =>
              .norm [DC.b ((v16.getD 0 d0).bb)]) fun v17 =>
          .norm [DC.b ((v17.getD 0 d0).bb)]) fun v18 =>
      if (v18.getD 0 d0).bb = true then
        .ret [DC.b true]
      else
        .norm []) 0 fun v19 =>
    .ret [DC.b false]
theorem eq14 (k : Nat) (a : List DC) : callF cfg (k + 1) 14 h14 a = E14 k a := by kernel_rfl
/-- ('"', '"loop.example/g00964/spec.OpWord"') -/
noncomputable def E15 (k : Nat) (a : List DC) : Out :=
    Out.andThenB (if ((a.getD 0 d0).ii == (1 : Int)) = true then
        .ret [DC.s ([113, 117, 101, 114, 121] : List UInt8)]
      else
        if ((a.getD 0 d0).ii == (2 : Int)) = true then
          .ret [DC.s ([109, 117, 116, 97, 116, 105, 111, 110] : List UInt8)]
        else
          if ((a.getD 0 d0).ii == (3 : Int)) = true then
            .ret [DC.s ([115, 117, 98, 115, 99, 114, 105, 112, 116, 105, 111, 110] : List UInt8)]
          else
            .norm []) 0 fun v1 =>
    .ret [DC.s ([] : List UInt8)]
theorem eq15 (k : Nat) (a : List DC) : callF cfg (k + 1) 15 h15 a = E15 k a := by kernel_rfl
/-- ('"', '"loop.example/g00964/impl.OpWord"') -/
noncomputable def E16 (k : Nat) (a : List DC) : Out :=
    (callF cfg k 27 h27 [DC.i ((a.getD 0 d0).ii), DC.i (1 : Int), DC.i (IntKind.i64.wrap (([[DC.s ([] : List UInt8)], [DC.s ([113, 117, 101, 114, 121] : List UInt8)], [DC.s ([109, 117, 116, 97, 116, 105, 111, 110] : List UInt8)], [DC.s ([115, 117, 98, 115, 99, 114, 105, 112, 116, 105, 111, 110] : List UInt8)]].length : Int) - (1 : Int)))]).bindR fun r1 =>
    if (!((r1.getD 0 d0).bb)) = true then
      .ret [DC.s ([] : List UInt8)]
    else
      if 9 = 9 ∧ 0 ≤ (a.getD 0 d0).ii ∧ (a.getD 0 d0).ii < ([[DC.s ([] : List UInt8)], [DC.s ([113, 117, 101, 114, 121] : List UInt8)], [DC.s ([109, 117, 116, 97, 116, 105, 111, 110] : List UInt8)], [DC.s ([115, 117, 98, 115, 99, 114, 105, 112, 116, 105, 111, 110] : List UInt8)]].length : Int) then
        .ret [DC.s ((([[DC.s ([] : List UInt8)], [DC.s ([113, 117, 101, 114, 121] : List UInt8)], [DC.s ([109, 117, 116, 97, 116, 105, 111, 110] : List UInt8)], [DC.s ([115, 117, 98, 115, 99, 114, 105, 112, 116, 105, 111, 110] : List UInt8)]].getD ((a.getD 0 d0).ii).toNat []).getD 0 d0).ss)]
      else
        .fail
theorem eq16 (k : Nat) (a : List DC) : callF cfg (k + 1) 16 h16 a = E16 k a := by kernel_rfl
/-- ('"', '"loop.example/g00964/laws.szToken"') -/
noncomputable def E17 (k : Nat) (a : List DC) : Out :=
    if (decide ((IntKind.i64.wrap ((a.getD 3 d0).ii - (((a.getD 1 d0).ss).length : Int))) < (0 : Int))) = true then
      .ret [DC.i (-1 : Int)]
    else
      .ret [DC.i (IntKind.i64.wrap ((a.getD 3 d0).ii - (((a.getD 1 d0).ss).length : Int)))]
theorem eq17 (k : Nat) (a : List DC) : callF cfg (k + 1) 17 h17 a = E17 k a := by kernel_rfl
/-- ('"', '"loop.example/g00964/laws.toToken"') -/
noncomputable def E19 (k : Nat) (a : List DC) : Out :=
    .ret [DC.i ((a.getD 0 d0).ii), DC.s ((a.getD 1 d0).ss), DC.i ((a.getD 2 d0).ii)]
theorem eq19 (k : Nat) (a : List DC) : callF cfg (k + 1) 19 h19 a = E19 k a := by kernel_rfl
/-- ('"', '"loop.example/g00964/spec.Apart"') -/
noncomputable def E18 (k : Nat) (a : List DC) : Out :=
    Out.andThen ((callF cfg k 28 h28 [DC.i ((a.getD 0 d0).ii), DC.s ((a.getD 1 d0).ss), DC.i ((a.getD 2 d0).ii)]).bindR fun r1 =>
      if (r1.getD 0 d0).bb = true then
        (callF cfg k 28 h28 [DC.i ((a.getD 3 d0).ii), DC.s ((a.getD 4 d0).ss), DC.i ((a.getD 5 d0).ii)]).bindR fun r2 =>
        if (r2.getD 0 d0).bb = true then
          .norm [DC.b true, DC.i ((a.getD 0 d0).ii), DC.s ((a.getD 1 d0).ss), DC.i ((a.getD 2 d0).ii), DC.i ((a.getD 3 d0).ii), DC.s ((a.getD 4 d0).ss), DC.i ((a.getD 5 d0).ii)]
        else
          if ((a.getD 0 d0).ii == (5 : Int)) = true then
            .norm [DC.b ((a.getD 3 d0).ii == (5 : Int)), DC.i ((a.getD 0 d0).ii), DC.s ((a.getD 1 d0).ss), DC.i ((a.getD 2 d0).ii), DC.i ((a.getD 3 d0).ii), DC.s ((a.getD 4 d0).ss), DC.i ((a.getD 5 d0).ii)]
          else
            .norm [DC.b false, DC.i ((a.getD 0 d0).ii), DC.s ((a.getD 1 d0).ss), DC.i ((a.getD 2 d0).ii), DC.i ((a.getD 3 d0).ii), DC.s ((a.getD 4 d0).ss), DC.i ((a.getD 5 d0).ii)]
      else
        if ((a.getD 0 d0).ii == (5 : Int)) = true then
          .norm [DC.b ((a.getD 3 d0).ii == (5 : Int)), DC.i ((a.getD 0 d0).ii), DC.s ((a.getD 1 d0).ss), DC.i ((a.getD 2 d0).ii), DC.i ((a.getD 3 d0).ii), DC.s ((a.getD 4 d0).ss), DC.i ((a.getD 5 d0).ii)]
        else
          .norm [DC.b false, DC.i ((a.getD 0 d0).ii), DC.s ((a.getD 1 d0).ss), DC.i ((a.getD 2 d0).ii), DC.i ((a.getD 3 d0).ii), DC.s ((a.getD 4 d0).ss), DC.i ((a.getD 5 d0).ii)]) fun v3 =>
    if (v3.getD 0 d0).bb = true then
      .ret [DC.b true]
    else
      Out.andThen (if ((v3.getD 1 d0).ii == (3 : Int)) = true then
          if ((v3.getD 4 d0).ii == (1 : Int)) = true then
            .norm [DC.b ((v3.getD 5 d0).ss == ([46, 46, 46] : List UInt8))]
          else
            .norm [DC.b false]
        else
          if ((v3.getD 1 d0).ii == (4 : Int)) = true then
            if ((v3.getD 4 d0).ii == (1 : Int)) = true then
              .norm [DC.b ((v3.getD 5 d0).ss == ([46, 46, 46] : List UInt8))]
            else
              .norm [DC.b false]
          else
            .norm [DC.b false]) fun v4 =>
      .ret [DC.b ((v4.getD 0 d0).bb)]
theorem eq18 (k : Nat) (a : List DC) : callF cfg (k + 1) 18 h18 a = E18 k a := by kernel_rfl
/-- ('"', '"loop.example/g00964/impl.Apart"') -/
noncomputable def E20 (k : Nat) (a : List DC) : Out :=
    Out.andThenB (Out.andThen ((callF cfg k 29 h29 [DC.i ((a.getD 0 d0).ii), DC.s ((a.getD 1 d0).ss), DC.i ((a.getD 2 d0).ii)]).bindR fun r1 =>
        if (r1.getD 0 d0).bb = true then
          (callF cfg k 29 h29 [DC.i ((a.getD 3 d0).ii), DC.s ((a.getD 4 d0).ss), DC.i ((a.getD 5 d0).ii)]).bindR fun r2 =>
          .norm [DC.b ((r2.getD 0 d0).bb), DC.i ((a.getD 0 d0).ii), DC.s ((a.getD 1 d0).ss), DC.i ((a.getD 2 d0).ii), DC.i ((a.getD 3 d0).ii), DC.s ((a.getD 4 d0).ss), DC.i ((a.getD 5 d0).ii)]
        else
          .norm [DC.b false, DC.i ((a.getD 0 d0).ii), DC.s ((a.getD 1 d0).ss), DC.i ((a.getD 2 d0).ii), DC.i ((a.getD 3 d0).ii), DC.s ((a.getD 4 d0).ss), DC.i ((a.getD 5 d0).ii)]) fun v3 =>
      if (v3.getD 0 d0).bb = true then
        .ret [DC.b true]
      else
        Out.andThen ((callF cfg k 30 h30 [DC.i ((v3.getD 1 d0).ii), DC.s ((v3.getD 2 d0).ss), DC.i ((v3.getD 3 d0).ii)]).bindR fun r4 =>
          if (r4.getD 0 d0).bb = true then
            if ((v3.getD 4 d0).ii == (1 : Int)) = true then
              .norm [DC.b ((v3.getD 5 d0).ss == ([46, 46, 46] : List UInt8)), DC.i ((v3.getD 1 d0).ii), DC.s ((v3.getD 2 d0).ss), DC.i ((v3.getD 3 d0).ii), DC.i ((v3.getD 4 d0).ii), DC.s ((v3.getD 5 d0).ss), DC.i ((v3.getD 6 d0).ii)]
            else
              .norm [DC.b false, DC.i ((v3.getD 1 d0).ii), DC.s ((v3.getD 2 d0).ss), DC.i ((v3.getD 3 d0).ii), DC.i ((v3.getD 4 d0).ii), DC.s ((v3.getD 5 d0).ss), DC.i ((v3.getD 6 d0).ii)]
          else
            .norm [DC.b false, DC.i ((v3.getD 1 d0).ii), DC.s ((v3.getD 2 d0).ss), DC.i ((v3.getD 3 d0).ii), DC.i ((v3.getD 4 d0).ii), DC.s ((v3.getD 5 d0).ss), DC.i ((v3.getD 6 d0).ii)]) fun v5 =>
        if (v5.getD 0 d0).bb = true then
          .ret [DC.b true]
        else
          .norm [DC.i ((v5.getD 1 d0).ii), DC.s ((v5.getD 2 d0).ss), DC.i ((v5.getD 3 d0).ii), DC.i ((v5.getD 4 d0).ii), DC.s ((v5.getD 5 d0).ss), DC.i ((v5.getD 6 d0).ii)]) 0 fun v6 =>
    Out.andThen (if ((v6.getD 0 d0).ii == (5 : Int)) = true then
        .norm [DC.b ((v6.getD 3 d0).ii == (5 : Int))]
      else
        .norm [DC.b false]) fun v7 =>
    .ret [DC.b ((v7.getD 0 d0).bb)]
theorem eq20 (k : Nat) (a : List DC) : callF cfg (k + 1) 20 h20 a = E20 k a := by kernel_rfl
noncomputable def E21L1 (k : Nat) : List DC → Out := fun v1 =>
    if (decide ((v1.getD 2 d0).ii < (((v1.getD 0 d0).ll).length : Int))) = true then
      Out.andThenB (if 26 = 26 ∧ 0 ≤ (v1.getD 2 d0).ii ∧ (v1.getD 2 d0).ii < (((v1.getD 0 d0).ll).length : Int) then
          (callF cfg k 17 h17 [DC.i (((((v1.getD 0 d0).ll).getD ((v1.getD 2 d0).ii).toNat []).getD 0 d0).ii), DC.s (((((v1.getD 0 d0).ll).getD ((v1.getD 2 d0).ii).toNat []).getD 1 d0).ss), DC.i (((((v1.getD 0 d0).ll).getD ((v1.getD 2 d0).ii).toNat []).getD 2 d0).ii), DC.i ((v1.getD 1 d0).ii)]).bindR fun r2 =>
          if (decide ((r2.getD 0 d0).ii < (0 : Int))) = true then
            .ret [DC.i (-1 : Int)]
          else
            .norm [DC.sl ((v1.getD 0 d0).ll), DC.i ((r2.getD 0 d0).ii), DC.i ((v1.getD 2 d0).ii)]
        else
          .fail) 1 fun v3 =>
      .norm [DC.sl ((v3.getD 0 d0).ll), DC.i ((v3.getD 1 d0).ii), DC.i (IntKind.i64.wrap ((v3.getD 2 d0).ii + (1 : Int)))]
    else
      .ex 0 [DC.i ((v1.getD 1 d0).ii)]
/-- ('"', '"loop.example/g00964/laws.szTokenS"') -/
noncomputable def E21 (k : Nat) (a : List DC) : Out :=
    if (decide ((IntKind.i64.wrap ((a.getD 1 d0).ii - (((a.getD 0 d0).ll).length : Int))) < (0 : Int))) = true then
      .ret [DC.i (-1 : Int)]
    else
      Out.andThenB (loopF (E21L1 k) k [DC.sl ((a.getD 0 d0).ll), DC.i (IntKind.i64.wrap ((a.getD 1 d0).ii - (((a.getD 0 d0).ll).length : Int))), DC.i (0 : Int)]) 0 fun v4 =>
      .ret [DC.i ((v4.getD 0 d0).ii)]
theorem eq21 (k : Nat) (a : List DC) : callF cfg (k + 1) 21 h21 a = E21 k a := by kernel_rfl
noncomputable def E23L1 (k : Nat) : List DC → Out := fun v1 =>
    if (decide ((v1.getD 2 d0).ii < (((v1.getD 0 d0).ll).length : Int))) = true then
      Out.andThenB (if 26 = 26 ∧ 0 ≤ (v1.getD 2 d0).ii ∧ (v1.getD 2 d0).ii < (((v1.getD 0 d0).ll).length : Int) then
          (callF cfg k 19 h19 [DC.i (((((v1.getD 0 d0).ll).getD ((v1.getD 2 d0).ii).toNat []).getD 0 d0).ii), DC.s (((((v1.getD 0 d0).ll).getD ((v1.getD 2 d0).ii).toNat []).getD 1 d0).ss), DC.i (((((v1.getD 0 d0).ll).getD ((v1.getD 2 d0).ii).toNat []).getD 2 d0).ii)]).bindR fun r2 =>
          if 29 = 29 ∧ 0 ≤ (v1.getD 2 d0).ii ∧ (v1.getD 2 d0).ii < (((v1.getD 1 d0).ll).length : Int) then
            .norm [DC.sl ((v1.getD 0 d0).ll), DC.sl (((v1.getD 1 d0).ll).set (((v1.getD 2 d0).ii).toNat) (setRunD (((v1.getD 1 d0).ll).getD (((v1.getD 2 d0).ii).toNat) []) 0 [DC.i ((r2.getD 0 d0).ii), DC.s ((r2.getD 1 d0).ss), DC.i ((r2.getD 2 d0).ii)])), DC.i ((v1.getD 2 d0).ii)]
          else
            .fail
        else
          .fail) 1 fun v3 =>
      .norm [DC.sl ((v3.getD 0 d0).ll), DC.sl ((v3.getD 1 d0).ll), DC.i (IntKind.i64.wrap ((v3.getD 2 d0).ii + (1 : Int)))]
    else
      .ex 0 [DC.sl ((v1.getD 1 d0).ll)]
/-- ('"', '"loop.example/g00964/laws.toTokenS"') -/
noncomputable def E23 (k : Nat) (a : List DC) : Out :=
    if 0 ≤ (((a.getD 0 d0).ll).length : Int) ∧ (((a.getD 0 d0).ll).length : Int) < (LIM : Int) ∧ (((a.getD 0 d0).ll).length : Int) = (((a.getD 0 d0).ll).length : Int) ∧ 32 ≤ 1024 ∧ 0 < 3 then
      Out.andThenB (loopF (E23L1 k) k [DC.sl ((a.getD 0 d0).ll), DC.sl (List.replicate (((a.getD 0 d0).ll).length : Int).toNat [DC.i 0, DC.s [], DC.i 0]), DC.i (0 : Int)]) 0 fun v4 =>
      .ret [DC.sl ((v4.getD 0 d0).ll)]
    else
      .fail
theorem eq23 (k : Nat) (a : List DC) : callF cfg (k + 1) 23 h23 a = E23 k a := by kernel_rfl
noncomputable def E22L1 (k : Nat) : List DC → Out := fun v1 =>
    if (decide ((v1.getD 2 d0).ii < (((v1.getD 0 d0).ll).length : Int))) = true then
      Out.andThenB (Out.andThen (if 29 = 29 ∧ 0 ≤ (v1.getD 2 d0).ii ∧ (v1.getD 2 d0).ii < (((v1.getD 0 d0).ll).length : Int) then
            if 29 = 29 ∧ 0 ≤ (v1.getD 2 d0).ii ∧ (v1.getD 2 d0).ii < (((v1.getD 1 d0).ll).length : Int) then
              if (((((v1.getD 0 d0).ll).getD ((v1.getD 2 d0).ii).toNat []).getD 0 d0).ii != ((((v1.getD 1 d0).ll).getD ((v1.getD 2 d0).ii).toNat []).getD 0 d0).ii) = true then
                .norm [DC.sl ((v1.getD 0 d0).ll), DC.sl ((v1.getD 1 d0).ll), DC.i ((v1.getD 2 d0).ii), DC.b true]
              else
                if 29 = 29 ∧ 0 ≤ (v1.getD 2 d0).ii ∧ (v1.getD 2 d0).ii < (((v1.getD 0 d0).ll).length : Int) then
                  if 29 = 29 ∧ 0 ≤ (v1.getD 2 d0).ii ∧ (v1.getD 2 d0).ii < (((v1.getD 1 d0).ll).length : Int) then
                    .norm [DC.sl ((v1.getD 0 d0).ll), DC.sl ((v1.getD 1 d0).ll), DC.i ((v1.getD 2 d0).ii), DC.b (!(((((v1.getD 0 d0).ll).getD ((v1.getD 2 d0).ii).toNat []).getD 1 d0).ss == ((((v1.getD 1 d0).ll).getD ((v1.getD 2 d0).ii).toNat []).getD 1 d0).ss))]
                  else
                    .fail
                else
                  .fail
            else
              .fail
          else
            .fail) fun v2 =>
        if (v2.getD 3 d0).bb = true then
          .ret [DC.b false]
        else
          .norm [DC.sl ((v2.getD 0 d0).ll), DC.sl ((v2.getD 1 d0).ll), DC.i ((v2.getD 2 d0).ii)]) 1 fun v3 =>
      .norm [DC.sl ((v3.getD 0 d0).ll), DC.sl ((v3.getD 1 d0).ll), DC.i (IntKind.i64.wrap ((v3.getD 2 d0).ii + (1 : Int)))]
    else
      .ex 0 []
/-- ('"', '"loop.example/g00964/spec.SameTokens"') -/
noncomputable def E22 (k : Nat) (a : List DC) : Out :=
    if ((((a.getD 0 d0).ll).length : Int) != (((a.getD 1 d0).ll).length : Int)) = true then
      .ret [DC.b false]
    else
      Out.andThenB (loopF (E22L1 k) k [DC.sl ((a.getD 0 d0).ll), DC.sl ((a.getD 1 d0).ll), DC.i (0 : Int)]) 0 fun v4 =>
      .ret [DC.b true]
theorem eq22 (k : Nat) (a : List DC) : callF cfg (k + 1) 22 h22 a = E22 k a := by kernel_rfl
/-- ('"', '"loop.example/g00964/impl.SameTokens"') -/
noncomputable def E24 (k : Nat) (a : List DC) : Out :=
    (callF cfg k 31 h31 [DC.sl ((a.getD 0 d0).ll), DC.sl ((a.getD 1 d0).ll)]).bindR fun r1 =>
    .ret [DC.b ((r1.getD 0 d0).bb)]
theorem eq24 (k : Nat) (a : List DC) : callF cfg (k + 1) 24 h24 a = E24 k a := by kernel_rfl
noncomputable def E25L1 (k : Nat) : List DC → Out := fun v1 =>
    if (decide ((v1.getD 2 d0).ii < (((v1.getD 0 d0).ll).length : Int))) = true then
      Out.andThenB (if 29 = 29 ∧ 0 ≤ (v1.getD 2 d0).ii ∧ (v1.getD 2 d0).ii < (((v1.getD 0 d0).ll).length : Int) then
          if 29 = 29 ∧ 0 ≤ (v1.getD 2 d0).ii ∧ (v1.getD 2 d0).ii < (((v1.getD 1 d0).ll).length : Int) then
            (callF cfg k 33 h33 [DC.i (((((v1.getD 0 d0).ll).getD ((v1.getD 2 d0).ii).toNat []).getD 0 d0).ii), DC.s (((((v1.getD 0 d0).ll).getD ((v1.getD 2 d0).ii).toNat []).getD 1 d0).ss), DC.i (((((v1.getD 0 d0).ll).getD ((v1.getD 2 d0).ii).toNat []).getD 2 d0).ii), DC.i (((((v1.getD 1 d0).ll).getD ((v1.getD 2 d0).ii).toNat []).getD 0 d0).ii), DC.s (((((v1.getD 1 d0).ll).getD ((v1.getD 2 d0).ii).toNat []).getD 1 d0).ss), DC.i (((((v1.getD 1 d0).ll).getD ((v1.getD 2 d0).ii).toNat []).getD 2 d0).ii)]).bindR fun r2 =>
            if (!((r2.getD 0 d0).bb)) = true then
              .ret [DC.b false]
            else
              .norm [DC.sl ((v1.getD 0 d0).ll), DC.sl ((v1.getD 1 d0).ll), DC.i ((v1.getD 2 d0).ii)]
          else
            .fail
        else
          .fail) 1 fun v3 =>
      .norm [DC.sl ((v3.getD 0 d0).ll), DC.sl ((v3.getD 1 d0).ll), DC.i (IntKind.i64.wrap ((v3.getD 2 d0).ii + (1 : Int)))]
    else
      .ex 0 []
/-- ('"', '"loop.example/g00964/laws.eqTokenS"') -/
noncomputable def E25 (k : Nat) (a : List DC) : Out :=
    if ((((a.getD 0 d0).ll).length : Int) != (((a.getD 1 d0).ll).length : Int)) = true then
      .ret [DC.b false]
    else
      Out.andThenB (loopF (E25L1 k) k [DC.sl ((a.getD 0 d0).ll), DC.sl ((a.getD 1 d0).ll), DC.i (0 : Int)]) 0 fun v4 =>
      .ret [DC.b true]
theorem eq25 (k : Nat) (a : List DC) : callF cfg (k + 1) 25 h25 a = E25 k a := by kernel_rfl
/-- ('"', '"strings.HasPrefix"') -/
noncomputable def E26 (k : Nat) (a : List DC) : Out :=
    (callF cfg k 34 h34 [DC.s ((a.getD 0 d0).ss), DC.s ((a.getD 1 d0).ss)]).bindR fun r1 =>
    .ret [DC.b ((r1.getD 0 d0).bb)]
theorem eq26 (k : Nat) (a : List DC) : callF cfg (k + 1) 26 h26 a = E26 k a := by kernel_rfl
/-- ('"', '"loop.example/g00964/impl.in"') -/
noncomputable def E27 (k : Nat) (a : List DC) : Out :=
    Out.andThen (if (decide ((a.getD 0 d0).ii ≥ (a.getD 1 d0).ii)) = true then
        .norm [DC.b (decide ((a.getD 0 d0).ii ≤ (a.getD 2 d0).ii))]
      else
        .norm [DC.b false]) fun v1 =>
    .ret [DC.b ((v1.getD 0 d0).bb)]
theorem eq27 (k : Nat) (a : List DC) : callF cfg (k + 1) 27 h27 a = E27 k a := by kernel_rfl
/-- ('"', '"loop.example/g00964/spec.l15Wordy"') -/
noncomputable def E28 (k : Nat) (a : List DC) : Out :=
    (callF cfg k 35 h35 [DC.i ((a.getD 0 d0).ii), DC.i (2 : Int), DC.i (4 : Int)]).bindR fun r1 =>
    .ret [DC.b ((r1.getD 0 d0).bb)]
theorem eq28 (k : Nat) (a : List DC) : callF cfg (k + 1) 28 h28 a = E28 k a := by kernel_rfl
/-- ('"', '"loop.example/g00964/impl.Apart$1"') -/
noncomputable def E29 (k : Nat) (a : List DC) : Out :=
    Out.andThen (if ((a.getD 0 d0).ii == (2 : Int)) = true then
        .norm [DC.b true]
      else
        (callF cfg k 30 h30 [DC.i ((a.getD 0 d0).ii), DC.s ((a.getD 1 d0).ss), DC.i ((a.getD 2 d0).ii)]).bindR fun r1 =>
        .norm [DC.b ((r1.getD 0 d0).bb)]) fun v2 =>
    .ret [DC.b ((v2.getD 0 d0).bb)]
theorem eq29 (k : Nat) (a : List DC) : callF cfg (k + 1) 29 h29 a = E29 k a := by kernel_rfl
/-- ('"', '"loop.example/g00964/impl.isNumber"') -/
noncomputable def E30 (k : Nat) (a : List DC) : Out :=
    Out.andThen (if ((a.getD 0 d0).ii == (3 : Int)) = true then
        .norm [DC.b true]
      else
        .norm [DC.b ((a.getD 0 d0).ii == (4 : Int))]) fun v1 =>
    .ret [DC.b ((v1.getD 0 d0).bb)]
theorem eq30 (k : Nat) (a : List DC) : callF cfg (k + 1) 30 h30 a = E30 k a := by kernel_rfl
noncomputable def E31L1 (k : Nat) : List DC → Out := fun v1 =>
    if (decide ((v1.getD 3 d0).ii < (v1.getD 2 d0).ii)) = true then
      Out.andThenB (if 29 = 29 ∧ 0 ≤ (v1.getD 3 d0).ii ∧ (v1.getD 3 d0).ii < (((v1.getD 1 d0).ll).length : Int) then
          if 29 = 29 ∧ 0 ≤ (v1.getD 3 d0).ii ∧ (v1.getD 3 d0).ii < (((v1.getD 0 d0).ll).length : Int) then
            (callF cfg k 32 h32 [DC.i (((((v1.getD 1 d0).ll).getD ((v1.getD 3 d0).ii).toNat []).getD 0 d0).ii), DC.s (((((v1.getD 1 d0).ll).getD ((v1.getD 3 d0).ii).toNat []).getD 1 d0).ss), DC.i (((((v1.getD 1 d0).ll).getD ((v1.getD 3 d0).ii).toNat []).getD 2 d0).ii), DC.i (((((v1.getD 0 d0).ll).getD ((v1.getD 3 d0).ii).toNat []).getD 0 d0).ii), DC.s (((((v1.getD 0 d0).ll).getD ((v1.getD 3 d0).ii).toNat []).getD 1 d0).ss), DC.i (((((v1.getD 0 d0).ll).getD ((v1.getD 3 d0).ii).toNat []).getD 2 d0).ii)]).bindR fun r2 =>
            if (!((r2.getD 0 d0).bb)) = true then
              .ret [DC.b false]
            else
              .norm [DC.sl ((v1.getD 0 d0).ll), DC.sl ((v1.getD 1 d0).ll), DC.i ((v1.getD 2 d0).ii), DC.i ((v1.getD 3 d0).ii)]
          else
            .fail
        else
          .fail) 1 fun v3 =>
      .norm [DC.sl ((v3.getD 0 d0).ll), DC.sl ((v3.getD 1 d0).ll), DC.i ((v3.getD 2 d0).ii), DC.i (IntKind.i64.wrap ((v3.getD 3 d0).ii + (1 : Int)))]
    else
      .ex 0 []
/-- ('"', '"slices.EqualFunc[[]loop.example/g00964/impl.Token,[]loop.example/g00964/impl.Token,loop.example/g00964/impl.Token,loop.example/g00964/impl.Token]"') -/
noncomputable def E31 (k : Nat) (a : List DC) : Out :=
    if ((((a.getD 0 d0).ll).length : Int) != (((a.getD 1 d0).ll).length : Int)) = true then
      .ret [DC.b false]
    else
      Out.andThenB (loopF (E31L1 k) k [DC.sl ((a.getD 1 d0).ll), DC.sl ((a.getD 0 d0).ll), DC.i (((a.getD 0 d0).ll).length : Int), DC.i (0 : Int)]) 0 fun v4 =>
      .ret [DC.b true]
theorem eq31 (k : Nat) (a : List DC) : callF cfg (k + 1) 31 h31 a = E31 k a := by kernel_rfl
/-- ('"', '"loop.example/g00964/laws.eqToken"') -/
noncomputable def E33 (k : Nat) (a : List DC) : Out :=
    if ((a.getD 0 d0).ii != (a.getD 3 d0).ii) = true then
      .ret [DC.b false]
    else
      if (!((a.getD 1 d0).ss == (a.getD 4 d0).ss)) = true then
        .ret [DC.b false]
      else
        if ((a.getD 2 d0).ii != (a.getD 5 d0).ii) = true then
          .ret [DC.b false]
        else
          .ret [DC.b true]
theorem eq33 (k : Nat) (a : List DC) : callF cfg (k + 1) 33 h33 a = E33 k a := by kernel_rfl
/-- ('"', '"internal/stringslite.HasPrefix"') -/
noncomputable def E34 (k : Nat) (a : List DC) : Out :=
    Out.andThen (if (decide ((((a.getD 0 d0).ss).length : Int) ≥ (((a.getD 1 d0).ss).length : Int))) = true then
        if 0 ≤ (((a.getD 1 d0).ss).length : Int) ∧ (((a.getD 1 d0).ss).length : Int) ≤ (((a.getD 0 d0).ss).length : Int) then
          .norm [DC.b ((((a.getD 0 d0).ss).take (((a.getD 1 d0).ss).length : Int).toNat) == (a.getD 1 d0).ss)]
        else
          .fail
      else
        .norm [DC.b false]) fun v1 =>
    .ret [DC.b ((v1.getD 0 d0).bb)]
theorem eq34 (k : Nat) (a : List DC) : callF cfg (k + 1) 34 h34 a = E34 k a := by kernel_rfl
/-- ('"', '"loop.example/g00964/spec.l01In"') -/
noncomputable def E35 (k : Nat) (a : List DC) : Out :=
    Out.andThen (if (decide ((a.getD 0 d0).ii ≥ (a.getD 1 d0).ii)) = true then
        .norm [DC.b (decide ((a.getD 0 d0).ii ≤ (a.getD 2 d0).ii))]
      else
        .norm [DC.b false]) fun v1 =>
    .ret [DC.b ((v1.getD 0 d0).bb)]
theorem eq35 (k : Nat) (a : List DC) : callF cfg (k + 1) 35 h35 a = E35 k a := by kernel_rfl
/-- ('"', '"loop.example/g00964/impl.SameTokens$1"') -/
noncomputable def E32 (k : Nat) (a : List DC) : Out :=
    Out.andThen (if ((a.getD 0 d0).ii == (a.getD 3 d0).ii) = true then
        .norm [DC.b ((a.getD 1 d0).ss == (a.getD 4 d0).ss)]
      else
        .norm [DC.b false]) fun v1 =>
    .ret [DC.b ((v1.getD 0 d0).bb)]
theorem eq32 (k : Nat) (a : List DC) : callF cfg (k + 1) 32 h32 a = E32 k a := by kernel_rfl
end Go.Proofs.YtdobbcpmpgpkcaaV
