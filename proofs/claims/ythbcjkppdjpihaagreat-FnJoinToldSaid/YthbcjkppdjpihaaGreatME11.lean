import Derived.Test.YthbcjkppdjpihaaGreatME5
import Derived.Test.YthbcjkppdjpihaaGreatME7
import Derived.Test.YthbcjkppdjpihaaGreatME10
import Derived.Test.YthbcjkppdjpihaaGreatProg
/- The tables and the notes (written by a program). -/
namespace Go.Proofs.QV
open Go
open _root_.List renaming nil_append → ju
open Out renaming andThen → ja, andThenB → j9
set_option linter.unusedVariables false
set_option maxRecDepth 100000
noncomputable def p5:Hint:=⟨ol 9 :: [],[]⟩
noncomputable def kA:Hint:=⟨ol 102 :: [],[]⟩
noncomputable def fi3:FI:=jB Tryz.f3 16 [.ct (.sl 5)] [(false,[.ct .b])] (fun _=>(.s .n (.s .n (.s .n (.s (.r [0,0,0,0,0,0,0,1,0,0] none) (.s (.r [0,2,0,0,0,0,0] none) (.s (.r [0,4,0,0,0,0,0] none) (.s (.r [0,6,0,0,0,0,0] none) (.s (.r [0,8,0] none) (.s (.r [0,9,0] none) (.s (.r [0,10,0,0,0,0,0] none) (.s (.r [0,12,0,0,0,0,0] none) (.s (.r [0,0,0,0,0,0,0,0,0,0,0,0,0,14,0,0,0,0,0,0,0,0,0,0,0,0,0,0,15,0,0,0,0,0,0] (some ⟨ou :: ou :: ob :: uu 92 [],vv 16 []⟩)) .n)))))))))))))
noncomputable def fi4:FI:=jB Tryz.f4 0 [.ct (.sl 5)] [(false,[.ct .b])] (fun _=>.n)
noncomputable def fi5:FI:=jB Tryz.f5 10 [.ct (.sl 5)] [(false,[.ct .s]),(false,[.ct .s])] (fun _=>(.s .n (.s (.r [0,2,3,0] none) (.s (.r [0,4,0] none) (.s .n (.s .n (.s (.s .n (.b (.b (.s .n (.s (.b .n ⟨uu 4 (ol 9 :: .one (.ptr 4 0) :: os :: os :: oi :: uu 45 []),vv 4 (.var 85 [.sl 5,.i .i64,.i .i64] :: vv 5 [])⟩) .n)) ⟨uu 4 (ol 9 :: .one (.ptr 4 0) :: os :: os :: oi :: uu 45 []),vv 4 (.var 85 [.sl 5,.i .i64,.i .i64] :: vv 5 [])⟩) ⟨uu 4 (ol 9 :: .one (.ptr 4 0) :: os :: os :: uu 46 []),vv 4 (.var 85 [.sl 5,.i .i64,.i .i64] :: vv 5 [])⟩)) (.s (.b (.b (.s .n (.b (.s .n (.s .n (.r [6,0,0,0,7,0,0,0,0,8,0] none))) ⟨uu 4 (.one (.own 9 9) :: .one (.ptr 4 0) :: os :: os :: uu 46 []),vv 4 (.var 85 [.sl 5,.i .i64,.i .i64] :: vv 5 [])⟩)) ⟨uu 4 (ol 9 :: .one (.ptr 4 0) :: os :: os :: uu 46 []),vv 4 (.var 85 [.sl 5,.i .i64,.i .i64] :: vv 5 [])⟩) ⟨uu 6 (os :: os :: uu 46 []),vv 10 []⟩) .n))))))))
noncomputable def fi6:FI:=jB Tryz.f6 23 [.ct .s] [(true,[.ct (.sl 70)]),(true,[.ct (.i .i64),.ct (.i .i64)])] (fun _=>(.s (.r [0,1] none) (.s (.r [0,2,0] none) (.s (.r [0,3,0] none) (.s (.b (.b (.s (.s (.r [] (some ⟨ou :: ou :: .one (.ptr 0 0) :: .one (.ptr 1 0) :: .one (.ptr 2 0) :: .one (.ptr 3 0) :: uu 26 (ob :: uu 30 []),.var 28 [.nil] :: .var 30 [.i .i64,.i .i64] :: .var 53 [.sl 117,.i .i64,.i .i64,.i .i64,.i .i64] :: .var 28 [.own 70 20] :: vv 19 []⟩)) .n) (.b (.s (.s (.r [] (some ⟨ou :: ou :: .one (.ptr 0 0) :: .one (.ptr 1 0) :: .one (.ptr 2 0) :: .one (.ptr 3 0) :: uu 34 (ob :: uu 22 []),.var 28 [.nil] :: .var 30 [.i .i64,.i .i64] :: .var 53 [.sl 117,.i .i64,.i .i64,.i .i64,.i .i64] :: .var 28 [.own 70 21] :: vv 19 []⟩)) .n) (.r [0,0,0,4,16,17,0,0] none)) ⟨ou :: ou :: .one (.ptr 0 0) :: .one (.ptr 1 0) :: .one (.ptr 2 0) :: .one (.ptr 3 0) :: uu 57 [],.var 28 [.nil] :: .var 30 [.i .i64,.i .i64] :: .var 53 [.sl 117,.i .i64,.i .i64,.i .i64,.i .i64] :: .var 28 [.own 70 18] :: vv 19 []⟩)) ⟨ou :: ou :: .one (.ptr 0 0) :: .one (.ptr 1 0) :: .one (.ptr 2 0) :: .one (.ptr 3 0) :: uu 57 [],.var 28 [.nil] :: .var 30 [.i .i64,.i .i64] :: .var 53 [.sl 117,.i .i64,.i .i64,.i .i64,.i .i64] :: .var 28 [.own 70 19] :: vv 19 []⟩) ⟨ou :: ou :: .one (.ptr 0 0) :: .one (.ptr 1 0) :: .one (.ptr 2 0) :: .one (.ptr 3 0) :: uu 57 [],.var 28 [.nil] :: .var 30 [.i .i64,.i .i64] :: .var 53 [.sl 117,.i .i64,.i .i64,.i .i64,.i .i64] :: .var 28 [.own 70 22] :: vv 19 []⟩) .n)))))
noncomputable def fi7:FI:=jB Tryz.f7 30 [.ag [.sl 70]] [(false,[.new 1068]),(false,[.new 42])] (fun _=>(.s (.r [0,0,0] none) (.s (.r [1,0] none) (.s (.r [2,0] none) (.s (.s .n (.b (.b (.s .n (.s .n (.s (.b (.s (.r [0,0,5,0] none) (.s .n (.b (.s .n (.c (.r [0,0,0,6,13,14,0] none) (.s .n (.c (.r [0,0,0,0,0,16,17,0] none) (.r [0,0,0,0,0,18,19,0] none) (some ⟨uu 4 (.one (.own 1068 20) :: .one (.own 42 21) :: uu 5 (ol 70 :: oi :: oi :: uu 32 [])),vv 30 []⟩))) (some ⟨uu 4 (.one (.own 1068 22) :: .one (.own 42 23) :: uu 5 (ol 70 :: oi :: oi :: uu 32 [])),vv 30 []⟩))) ⟨uu 4 (.one (.own 1068 24) :: .one (.own 42 25) :: uu 5 (ol 70 :: oi :: oi :: uu 32 [])),vv 30 []⟩))) ⟨uu 4 (.one (.own 1068 26) :: .one (.own 42 27) :: uu 5 (ol 70 :: oi :: oi :: uu 32 [])),vv 30 []⟩) .n))) ⟨uu 4 (.one (.own 1068 3) :: .one (.own 42 4) :: uu 5 (ol 70 :: oi :: oi :: uu 32 [])),vv 30 []⟩) ⟨uu 4 (.one (.own 1068 28) :: .one (.own 42 29) :: uu 40 []),vv 30 []⟩)) .n)))))
noncomputable def fi8:FI:=jB Tryz.f8 80 [.ct (.sl 68)] [(false,[.new 1068]),(false,[.new 42])] (fun _=>(.s .n (.s (.s .n (.c (.s (.r [0,0,0,0] none) .n) .n none)) (.s (.r [1,0] none) (.s (.r [2,0] none) (.s (.s .n (.b (.b (.s .n (.s .n (.s (.b (.s (.r [0,5,11,0] none) (.b (.s .n (.c .n (.s .n (.c (.r [0,0,0,0,12,13,0] none) (.r [0,14,20,27,28,0] none) (some ⟨ol 68 :: uu 3 (.one (.own 1068 29) :: .one (.own 42 30) :: uu 12 (ol 68 :: oi :: oi :: uu 70 [])),vv 80 []⟩))) (some ⟨ol 68 :: uu 3 (.one (.own 1068 31) :: .one (.own 42 32) :: uu 12 (ol 68 :: oi :: oi :: uu 70 [])),vv 80 []⟩))) ⟨ol 68 :: uu 3 (.one (.own 1068 33) :: .one (.own 42 34) :: uu 12 (ol 68 :: oi :: oi :: uu 70 [])),vv 80 []⟩)) ⟨ol 68 :: uu 3 (.one (.own 1068 35) :: .one (.own 42 36) :: uu 12 (ol 68 :: oi :: oi :: uu 70 [])),vv 80 []⟩) .n))) ⟨ol 68 :: uu 3 (.one (.own 1068 3) :: .one (.own 42 4) :: uu 12 (ol 68 :: oi :: oi :: uu 70 [])),vv 80 []⟩) ⟨ol 68 :: uu 3 (.one (.own 1068 37) :: .one (.own 42 38) :: uu 85 []),vv 80 []⟩)) (.s (.s .n (.b (.b (.s .n (.s .n (.s (.b (.s (.r [0,41,47,0] none) (.s .n (.s .n (.b (.s .n (.c (.r [0,0,0,0,48,49,0] none) (.s .n (.c (.r [0,0,0,0,50,51,0] none) (.r [0,0,0,0,0,52,58,64,0,0] none) (some ⟨uu 4 (.one (.own 1068 70) :: .one (.own 42 71) :: uu 37 (ol 68 :: oi :: oi :: uu 45 [])),vv 80 []⟩))) (some ⟨uu 4 (.one (.own 1068 72) :: .one (.own 42 73) :: uu 37 (ol 68 :: oi :: oi :: uu 45 [])),vv 80 []⟩))) ⟨uu 4 (.one (.own 1068 74) :: .one (.own 42 75) :: uu 37 (ol 68 :: oi :: oi :: uu 45 [])),vv 80 []⟩)))) ⟨uu 4 (.one (.own 1068 76) :: .one (.own 42 77) :: uu 37 (ol 68 :: oi :: oi :: uu 45 [])),vv 80 []⟩) .n))) ⟨uu 4 (.one (.own 1068 39) :: .one (.own 42 40) :: uu 37 (ol 68 :: oi :: oi :: uu 45 [])),vv 80 []⟩) ⟨uu 4 (.one (.own 1068 78) :: .one (.own 42 79) :: uu 85 []),vv 80 []⟩)) .n)))))))
noncomputable def fi9:FI:=jB Tryz.f9 78 [.ct (.sl 68)] [(false,[.new 1068]),(false,[.new 42])] (fun _=>(.s .n (.s (.r [1,0] none) (.s (.r [2,0] none) (.s (.s .n (.c (.s (.r [0,0,0,4,5,0,0] none) .n) .n none)) (.s (.s .n (.b (.b (.s .n (.s (.b (.s (.r [0,0,0,8,14,0] none) (.s .n (.s (.s .n (.c (.s (.r [0,0,0,0,16,17,0] none) .n) .n none)) (.r [0,18,24,31,32,0] none)))) ⟨ol 68 :: uu 3 (.one (.own 1068 33) :: .one (.own 42 34) :: oi :: uu 100 []),vv 78 []⟩) .n)) ⟨ol 68 :: uu 3 (.one (.own 1068 6) :: .one (.own 42 7) :: oi :: uu 100 []),vv 78 []⟩) ⟨ol 68 :: uu 3 (.one (.own 1068 35) :: .one (.own 42 36) :: uu 101 []),vv 78 []⟩)) (.s (.s .n (.b (.b (.s .n (.s (.b (.s (.r [0,0,0,39,45,0] none) (.s .n (.s .n (.b (.s .n (.c (.r [0,0,0,0,46,47,0] none) (.s .n (.c (.r [0,0,0,0,48,49,0] none) (.r [0,0,0,0,0,50,56,62,0,0] none) (some ⟨ol 68 :: uu 3 (.one (.own 1068 68) :: .one (.own 42 69) :: ou :: ou :: oi :: uu 98 []),vv 78 []⟩))) (some ⟨ol 68 :: uu 3 (.one (.own 1068 70) :: .one (.own 42 71) :: ou :: ou :: oi :: uu 98 []),vv 78 []⟩))) ⟨ol 68 :: uu 3 (.one (.own 1068 72) :: .one (.own 42 73) :: ou :: ou :: oi :: uu 98 []),vv 78 []⟩)))) ⟨ol 68 :: uu 3 (.one (.own 1068 74) :: .one (.own 42 75) :: ou :: ou :: oi :: uu 98 []),vv 78 []⟩) .n)) ⟨ol 68 :: uu 3 (.one (.own 1068 37) :: .one (.own 42 38) :: ou :: ou :: oi :: uu 98 []),vv 78 []⟩) ⟨uu 4 (.one (.own 1068 76) :: .one (.own 42 77) :: uu 101 []),vv 78 []⟩)) .n)))))))
noncomputable def jcX:FI:=jB Tryz.f10 2 [.ct (.sl 5)] [(false,[.new 1068])] (fun _=>(.s .n (.s (.r [0,0,1,0] none) .n)))
noncomputable def jcW:FI:=jB Tryz.f11 0 [.ct (.sl 68),.ct (.sl 68)] [(false,[.ct .b])] (fun _=>(.s .n (.s .n (.s (.s .n (.b (.b (.s .n (.s (.b .n ⟨ol 68 :: ol 68 :: uu 3 (oi :: uu 21 []),[]⟩) .n)) ⟨ol 68 :: ol 68 :: uu 3 (oi :: uu 21 []),[]⟩) ⟨uu 27 [],[]⟩)) .n))))
noncomputable def jcV:FI:=jB Tryz.f12 0 [.ct (.sl 42),.ct (.sl 42)] [(false,[.ct .b])] (fun _=>(.s .n (.s .n (.s (.s .n (.b (.b (.s .n (.s (.b .n ⟨ol 42 :: ol 42 :: uu 3 (oi :: uu 20 []),[]⟩) .n)) ⟨ol 42 :: ol 42 :: uu 3 (oi :: uu 20 []),[]⟩) ⟨uu 26 [],[]⟩)) .n))))
noncomputable def jcU:FI:=jB Tryz.f13 1 [.ct (.sl 68)] [(false,[.new 1068])] (fun _=>(.s .n (.s (.r [0,0,0] none) .n)))
noncomputable def j1R:FI:=jB Tryz.f15 1 [.ct (.sl 5)] [] (fun _=>(.s .n (.s .n (.s (.s .n (.b (.b (.s (.s (.r [] (some ⟨ol 5 :: ou :: ou :: oi :: oi :: uu 10 (ob :: uu 16 []),.u :: []⟩)) .n) (.s (.b .n ⟨ol 5 :: ou :: ou :: oi :: oi :: uu 27 [],.u :: []⟩) .n)) ⟨ol 5 :: ou :: ou :: oi :: oi :: uu 27 [],.u :: []⟩) ⟨ol 5 :: ou :: ou :: oi :: uu 28 [],.u :: []⟩)) (.s (.r [0,0,0,0,0] none) .n)))))
noncomputable def jcT:FI:=jB Tryz.f14 1 [] [(false,[.new 9])] (fun _=>(.s .n (.s (.r [0,0] none) .n)))
noncomputable def jcR:FI:=jB Tryz.f16 1 [.ptr,.ct (.i .i64)] [(false,[.ct (.i .i64)])] (fun _=>.n)
noncomputable def j4E:FI:=jB Tryz.f17 3 [.ct .s] [] (fun _=>(.s .n (.s (.r [0,0,0,0,0,1,0,0] none) (.s (.r [0,0,0,0,0,2,0] none) .n))))
noncomputable def jcP:FI:=jB Tryz.f18 1 [.ptr] [(false,[.ct .b])] (fun _=>(.s .n (.s (.r [] (some ⟨ou :: ou :: ob :: uu 20 [],.var 53 [.sl 117,.i .i64,.i .i64,.i .i64,.i .i64] :: []⟩)) .n)))
noncomputable def jcO:FI:=jB Tryz.f19 1 [.ptr,.ct (.i .i64)] [] (fun _=>(.s .n (.c .n .n (some ⟨uu 17 [],.var 53 [.sl 117,.i .i64,.i .i64,.i .i64,.i .i64] :: []⟩))))
noncomputable def jcN:FI:=jB Tryz.f20 20 [.ptr] [(true,[.ct (.i .i64),.ct (.i .i64),.ct .s,.new 164,.new 146,.new 169,.ct .s,.ct .s,.new 146,.new 169,.ct (.i .i64),.ct .b,.ct .s,.ct .s,.new 9,.new 135,.new 140,.new 143,.new 102,.ct .b,.new 146])] (fun _=>(.s (.r [1] none) (.s .n (.s (.s .n (.c (.s (.r [0,0,2,0,0] none) .n) .n none)) (.s (.s .n (.c (.s (.r [0,5,0,0] none) .n) .n none)) (.s .n (.s .n (.s (.r [0,7,0] none) (.s (.s (.r [] (some ⟨.one (.ptr 0 0) :: ou :: .one (.ptr 1 0) :: ou :: ou :: os :: .one (.ptr 7 0) :: uu 29 (ob :: uu 7 []),.var 53 [.sl 117,.i .i64,.i .i64,.i .i64,.i .i64] :: .var 70 [.i .i64,.i .i64,.s,.nil,.nil,.nil,.s,.s,.nil,.nil,.i .i64,.b,.s,.s,.nil,.nil,.nil,.nil,.nil,.b,.nil] :: vv 5 (.var 68 [.i .i64,.b,.s,.s,.nil,.nil,.nil,.nil,.nil,.b,.nil] :: vv 12 [])⟩)) (.c .n (.r [0,0,8,0] none) (some ⟨ou :: ou :: .one (.ptr 1 0) :: uu 3 (.one (.ptr 7 0) :: uu 37 []),.var 53 [.sl 117,.i .i64,.i .i64,.i .i64,.i .i64] :: .var 70 [.i .i64,.i .i64,.s,.nil,.nil,.nil,.s,.s,.nil,.nil,.i .i64,.b,.s,.s,.nil,.nil,.nil,.nil,.nil,.b,.nil] :: vv 5 (.var 68 [.i .i64,.b,.s,.s,.own 9 14,.own 135 15,.own 140 16,.own 143 17,.own 102 18,.b,.own 146 19] :: vv 12 [])⟩))) .n)))))))))
noncomputable def jcM:FI:=jB Tryz.f21 8 [.ag [.i .i64,.b,.s,.s,.sl 9,.sl 135,.sl 140,.sl 143,.sl 102,.b,.sl 146]] [(true,[.ct (.i .i64),.ct .b,.ct .s,.ct .s,.new 9,.new 1135,.new 1140,.new 1143,.new 102,.ct .b,.new 1146])] (fun _=>(.s (.r [0,1] none) (.s (.r [0,0,2,0,0] none) (.s (.r [0,0,3,0,0] none) (.s (.r [0,0,4,0,0] none) (.s (.r [0,0,5,0,0] none) (.s (.r [0,0,6,0,0] none) (.s (.r [0,0,7,0,0] none) .n))))))))
noncomputable def jcJ:FI:=jB Tryz.f27 23 [.ag [.i .i64,.b,.s,.s,.sl 9,.sl 135,.sl 140,.sl 143,.sl 102,.b,.sl 146],.ag [.i .i64,.b,.s,.s,.sl 9,.sl 135,.sl 140,.sl 143,.sl 102,.b,.sl 146]] [(true,[.ct (.i .i64),.ct .b,.ct .s,.ct .s,.new 9,.new 1135,.new 1140,.new 1143,.new 102,.ct .b,.new 1146])] (fun _=>(.s (.r [0,1,2] none) (.s (.r [0,3,9,0] none) (.s (.r [0,10,16,0] none) (.s (.r [0,0,0,0,17,0,0] none) (.s (.r [0,0,0,0,18,0,0] none) (.s (.r [0,0,0,0,19,0,0] none) (.s (.r [0,0,0,0,20,0,0] none) (.s (.r [0,0,0,0,21,0,0] none) (.s (.r [0,0,0,0,22,0,0] none) .n))))))))))
noncomputable def jcH:FI:=jB Tryz.f29 0 [.ct (.i .i64)] [(false,[.ct (.i .i64)])] (fun _=>(.s .n (.s (.s .n (.b .n ⟨uu 8 [],[]⟩)) .n)))
noncomputable def jcI:FI:=jB Tryz.f28 0 [.ct (.sl 68),.ct (.i .i64),.ct .s] [(false,[.ct (.i .i64)])] (fun _=>(.s .n (.s (.s .n (.b (.b (.s .n (.s (.b (.s (.r [] (some ⟨ol 68 :: oi :: os :: uu 4 (oi :: uu 26 (ob :: ou :: [])),[]⟩)) .n) ⟨ol 68 :: oi :: os :: uu 4 (oi :: uu 28 []),[]⟩) .n)) ⟨ol 68 :: oi :: os :: uu 4 (oi :: uu 28 []),[]⟩) ⟨uu 36 [],[]⟩)) .n)))
noncomputable def jcG:FI:=jB Tryz.f30 11 [.ag [.i .i64,.b,.s,.s,.sl 9,.sl 135,.sl 140,.sl 143,.sl 102,.b,.sl 146]] [(true,[.ct (.i .i64),.ct .b,.ct .s,.ct .s,.new 9,.new 1135,.new 1140,.new 1143,.new 102,.ct .b,.new 1146])] (fun _=>(.s (.r [0,1] none) (.s (.r [2,0,0,3,0,0] none) (.s (.r [0,0,4,0,0] none) (.s (.r [0,0,5,0,0] none) (.s (.r [0,0,6,0,0] none) (.s (.r [8,0,0,9,0,0] none) (.s (.r [0,0,10,0,0] none) .n))))))))
noncomputable def jcF:FI:=jB Tryz.f31 23 [.ag [.i .i64,.b,.s,.s,.sl 9,.sl 135,.sl 140,.sl 143,.sl 102,.b,.sl 146],.ag [.i .i64,.b,.s,.s,.sl 9,.sl 135,.sl 140,.sl 143,.sl 102,.b,.sl 146]] [(true,[.ct (.i .i64),.ct .b,.ct .s,.ct .s,.new 9,.new 1135,.new 1140,.new 1143,.new 102,.ct .b,.new 1146])] (fun _=>(.s (.r [0,1,2] none) (.s (.r [0,3,9,0] none) (.s (.r [0,10,16,0] none) (.s (.r [0,0,0,0,17,0,0] none) (.s (.r [0,0,0,0,18,0,0] none) (.s (.r [0,0,0,0,19,0,0] none) (.s (.r [0,0,0,0,20,0,0] none) (.s (.r [0,0,0,0,21,0,0] none) (.s (.r [0,0,0,0,22,0,0] none) .n))))))))))
noncomputable def jcE:FI:=jB Tryz.f32 13 [.ptr] [(false,[.new 1068])] (fun _=>(.s .n (.s (.r [1,0] none) (.s (.s .n (.b (.b (.s .n (.s (.b (.r [0,0,3,9,10,0] none) ⟨.one (.ptr 0 0) :: ou :: ou :: .one (.own 1068 11) :: oi :: uu 13 [],.var 85 [.sl 5,.i .i64,.i .i64] :: vv 12 []⟩) .n)) ⟨.one (.ptr 0 0) :: ou :: ou :: .one (.own 1068 2) :: oi :: uu 13 [],.var 85 [.sl 5,.i .i64,.i .i64] :: vv 12 []⟩) ⟨uu 3 (.one (.own 1068 12) :: uu 14 []),.var 85 [.sl 5,.i .i64,.i .i64] :: vv 12 []⟩)) .n))))
noncomputable def jcD:FI:=jB Tryz.f33 2 [.ag [.i .i64,.b,.s,.s,.sl 9,.sl 135,.sl 140,.sl 143,.sl 102,.b,.sl 146],.ag [.i .i64,.b,.s,.s,.sl 9,.sl 135,.sl 140,.sl 143,.sl 102,.b,.sl 146]] [(false,[.ct .b])] (fun _=>(.s (.r [0,1,0] none) (.s (.r [] (some ⟨uu 4 (ob :: uu 75 []),.u :: .u :: []⟩)) .n)))
noncomputable def jcC:FI:=jB Tryz.f34 12 [.ct (.sl 68)] [(false,[.new 1068])] (fun _=>(.s .n (.s .n (.s (.s .n (.b (.b (.s .n (.s .n (.s (.b (.s (.r [0,0,0,0] none) (.r [0,0,1,7,8,0] none)) ⟨uu 3 (.one (.own 1068 9) :: ou :: ou :: ol 68 :: oi :: oi :: uu 10 []),vv 12 []⟩) .n))) ⟨uu 3 (.one (.own 1068 10) :: ou :: ou :: ol 68 :: oi :: oi :: uu 10 []),vv 12 []⟩) ⟨uu 3 (.one (.own 1068 11) :: uu 15 []),vv 12 []⟩)) .n))))
noncomputable def jcA:FI:=jB Tryz.f38 1 [.ptr] [(false,[.ct (.i .i64)])] (fun _=>(.s .n (.s .n (.s .n (.s (.s .n (.c .n .n (some ⟨uu 3 (oi :: uu 54 []),.var 85 [.sl 5,.i .i64,.i .i64] :: []⟩))) .n)))))
noncomputable def jcz:FI:=jB Tryz.f39 19 [.ct .s] [(false,[.new 117]),(true,[.ct (.i .i64),.ct (.i .i64)])] (fun _=>(.s (.r [0,0] none) (.s (.r [2,0] none) (.s .n (.s (.s .n (.b (.b (.s .n (.b .n ⟨os :: ou :: ou :: .one (.ptr 0 0) :: .one (.own 117 4) :: oi :: uu 68 [],.var 30 [.i .i64,.i .i64] :: vv 18 []⟩)) ⟨os :: ou :: ou :: .one (.ptr 0 0) :: .one (.own 117 3) :: oi :: uu 68 [],.var 30 [.i .i64,.i .i64] :: vv 18 []⟩) ⟨os :: ou :: ou :: .one (.ptr 0 0) :: .one (.own 117 5) :: uu 69 [],.var 30 [.i .i64,.i .i64] :: vv 18 []⟩)) (.s (.r [6,0] none) (.s (.s .n (.b (.b (.s .n (.s (.b (.s (.r [0,0,0,0,0,0,0,9,0,0,0] none) (.s (.s (.r [] (some ⟨os :: ou :: ou :: .one (.ptr 0 0) :: .one (.own 117 10) :: uu 3 (.one (.own 117 11) :: oi :: .one (.ptr 9 0) :: oi :: oi :: uu 47 (ob :: uu 13 [])),.var 30 [.i .i64,.i .i64] :: vv 8 (.var 117 [.i .i64,.s,.i .i64] :: vv 9 [])⟩)) (.c .n .n (some ⟨os :: ou :: ou :: .one (.ptr 0 0) :: .one (.own 117 12) :: uu 3 (.one (.own 117 13) :: oi :: .one (.ptr 9 0) :: oi :: oi :: uu 61 []),.var 30 [.i .i64,.i .i64] :: vv 8 (.var 117 [.i .i64,.s,.i .i64] :: vv 9 [])⟩))) (.s .n (.s (.r [0,0,14,15,0] none) .n)))) ⟨os :: ou :: ou :: .one (.ptr 0 0) :: .one (.own 117 16) :: uu 3 (.one (.own 117 17) :: oi :: uu 64 []),.var 30 [.i .i64,.i .i64] :: vv 18 []⟩) .n)) ⟨os :: ou :: ou :: .one (.ptr 0 0) :: .one (.own 117 7) :: uu 3 (.one (.own 117 8) :: oi :: uu 64 []),.var 30 [.i .i64,.i .i64] :: vv 18 []⟩) ⟨uu 3 (.one (.ptr 0 0) :: uu 4 (.one (.own 117 18) :: uu 65 [])),.var 30 [.i .i64,.i .i64] :: vv 18 []⟩)) .n)))))))
noncomputable def jcy:FI:=jB Tryz.f40 1 [.ptr] [(false,[.ct (.i .i64)])] (fun _=>(.s .n (.s .n (.s (.s .n (.b (.b (.s .n (.s (.b .n ⟨.one (.ptr 0 0) :: ou :: ou :: oi :: uu 11 [],.var 53 [.sl 117,.i .i64,.i .i64,.i .i64,.i .i64] :: []⟩) .n)) ⟨.one (.ptr 0 0) :: ou :: ou :: oi :: uu 11 [],.var 53 [.sl 117,.i .i64,.i .i64,.i .i64,.i .i64] :: []⟩) ⟨uu 15 [],.var 53 [.sl 117,.i .i64,.i .i64,.i .i64,.i .i64] :: []⟩)) .n))))
noncomputable def jcx:FI:=jB Tryz.f41 1 [.ptr,.ct .s] [(false,[.ct .b])] (fun _=>(.s .n (.s (.r [] (some ⟨uu 4 (ob :: uu 47 []),.var 53 [.sl 117,.i .i64,.i .i64,.i .i64,.i .i64] :: []⟩)) .n)))
noncomputable def jcw:FI:=jB Tryz.f42 1 [.ptr,.ct (.i .i64)] [(false,[.ct .b])] (fun _=>(.s .n (.s (.r [] (some ⟨uu 4 (ob :: uu 33 []),.var 53 [.sl 117,.i .i64,.i .i64,.i .i64,.i .i64] :: []⟩)) .n)))
noncomputable def jcv:FI:=jB Tryz.f43 1 [.ptr] [(false,[.ct (.i .i64)])] (fun _=>(.s .n (.s (.s .n (.b (.b (.s .n (.s (.b .n ⟨.one (.ptr 0 0) :: ou :: ou :: oi :: uu 9 [],.var 53 [.sl 117,.i .i64,.i .i64,.i .i64,.i .i64] :: []⟩) .n)) ⟨.one (.ptr 0 0) :: ou :: ou :: oi :: uu 9 [],.var 53 [.sl 117,.i .i64,.i .i64,.i .i64,.i .i64] :: []⟩) ⟨uu 13 [],.var 53 [.sl 117,.i .i64,.i .i64,.i .i64,.i .i64] :: []⟩)) .n)))
noncomputable def jcu:FI:=jB Tryz.f44 1 [.ptr] [(false,[.ct (.i .i64)])] (fun _=>.n)
noncomputable def jct:FI:=jB Tryz.f45 9 [.ptr,.ct (.i .i64)] [(true,[.ct (.i .i64),.ct .s,.new 164,.new 146,.new 169])] (fun _=>(.s (.r [1] none) (.s (.r [0,0,2,0] none) (.s (.s .n (.c (.s .n (.s (.s .n (.c .n .n (some ⟨.one (.ptr 0 0) :: uu 3 (.one (.ptr 1 0) :: .one (.ptr 2 0) :: uu 28 []),.var 53 [.sl 117,.i .i64,.i .i64,.i .i64,.i .i64] :: .var 60 [.i .i64,.s,.nil,.nil,.nil] :: .var 60 [.i .i64,.s,.nil,.nil,.nil] :: vv 6 []⟩))) (.s (.r [0,3,0,0] none) (.r [0,4,0,0] none)))) .n (some ⟨.one (.ptr 0 0) :: uu 3 (.one (.ptr 1 0) :: .one (.ptr 2 0) :: uu 28 []),.var 53 [.sl 117,.i .i64,.i .i64,.i .i64,.i .i64] :: .var 60 [.i .i64,.s,.nil,.nil,.nil] :: .var 60 [.i .i64,.s,.own 164 5,.own 146 6,.nil] :: vv 6 []⟩))) (.s (.r [7,0] none) (.s (.r [0,8,0,0] none) .n))))))
noncomputable def jcs:FI:=jB Tryz.f46 6 [.ptr] [(true,[.ct .s,.ct .s,.new 146,.new 169])] (fun _=>(.s (.r [1] none) (.s (.r [0,2,0] none) (.s .n (.s (.s .n (.c .n .n (some ⟨.one (.ptr 0 0) :: ou :: .one (.ptr 1 0) :: .one (.ptr 2 0) :: uu 38 [],.var 53 [.sl 117,.i .i64,.i .i64,.i .i64,.i .i64] :: .var 62 [.s,.s,.nil,.nil] :: .var 62 [.s,.s,.nil,.nil] :: vv 3 []⟩))) (.s .n (.s (.s .n (.c .n .n (some ⟨.one (.ptr 0 0) :: ou :: .one (.ptr 1 0) :: .one (.ptr 2 0) :: uu 38 [],.var 53 [.sl 117,.i .i64,.i .i64,.i .i64,.i .i64] :: .var 62 [.s,.s,.nil,.nil] :: .var 62 [.s,.s,.nil,.nil] :: vv 3 []⟩))) (.s .n (.s .n (.s (.r [0,3,0,0] none) (.s (.r [4,0] none) (.s (.r [0,5,0,0] none) .n))))))))))))
noncomputable def jcr:FI:=jB Tryz.f47 1 [.ptr] [(false,[.ct .s])] (fun _=>.n)
noncomputable def jcq:FI:=jB Tryz.f48 64 [.ptr,.ct .s] [(true,[.ct (.i .i64),.ct .b,.ct .s,.ct .s,.new 9,.new 135,.new 140,.new 143,.new 102,.ct .b,.new 146])] (fun _=>(.s (.r [1] none) (.s (.r [0,0,2,0] none) (.s (.s (.r [] (some ⟨.one (.ptr 0 0) :: uu 3 (.one (.ptr 1 0) :: .one (.ptr 2 0) :: uu 7 (ob :: uu 151 [])),.var 53 [.sl 117,.i .i64,.i .i64,.i .i64,.i .i64] :: .var 68 [.i .i64,.b,.s,.s,.nil,.nil,.nil,.nil,.nil,.b,.nil] :: .var 68 [.i .i64,.b,.s,.s,.nil,.nil,.nil,.nil,.nil,.b,.nil] :: vv 61 []⟩)) (.c .n .n (some ⟨.one (.ptr 0 0) :: uu 3 (.one (.ptr 1 0) :: .one (.ptr 2 0) :: uu 159 []),.var 53 [.sl 117,.i .i64,.i .i64,.i .i64,.i .i64] :: .var 68 [.i .i64,.b,.s,.s,.nil,.nil,.nil,.nil,.nil,.b,.nil] :: .var 68 [.i .i64,.b,.s,.s,.nil,.nil,.nil,.nil,.nil,.b,.nil] :: vv 61 []⟩))) (.s .n (.s (.s (.r [] (some ⟨.one (.ptr 0 0) :: uu 3 (.one (.ptr 1 0) :: .one (.ptr 2 0) :: uu 30 (ob :: uu 128 [])),.var 53 [.sl 117,.i .i64,.i .i64,.i .i64,.i .i64] :: .var 68 [.i .i64,.b,.s,.s,.nil,.nil,.nil,.nil,.nil,.b,.nil] :: .var 68 [.i .i64,.b,.s,.s,.nil,.nil,.nil,.nil,.nil,.b,.nil] :: vv 61 []⟩)) .n) (.s .n (.s (.s .n (.c .n .n (some ⟨.one (.ptr 0 0) :: uu 3 (.one (.ptr 1 0) :: .one (.ptr 2 0) :: uu 159 []),.var 53 [.sl 117,.i .i64,.i .i64,.i .i64,.i .i64] :: .var 68 [.i .i64,.b,.s,.s,.nil,.nil,.nil,.nil,.nil,.b,.nil] :: .var 68 [.i .i64,.b,.s,.s,.nil,.nil,.nil,.nil,.nil,.b,.nil] :: vv 61 []⟩))) (.s (.s .n (.c .n .n (some ⟨.one (.ptr 0 0) :: uu 3 (.one (.ptr 1 0) :: .one (.ptr 2 0) :: uu 159 []),.var 53 [.sl 117,.i .i64,.i .i64,.i .i64,.i .i64] :: .var 68 [.i .i64,.b,.s,.s,.nil,.nil,.nil,.nil,.nil,.b,.nil] :: .var 68 [.i .i64,.b,.s,.s,.nil,.nil,.nil,.nil,.nil,.b,.nil] :: vv 61 []⟩))) (.s (.s .n (.c (.s (.r [0,3,0,0] none) (.s (.s .n (.c .n .n (some ⟨.one (.ptr 0 0) :: uu 3 (.one (.ptr 1 0) :: .one (.ptr 2 0) :: uu 159 []),.var 53 [.sl 117,.i .i64,.i .i64,.i .i64,.i .i64] :: .var 68 [.i .i64,.b,.s,.s,.nil,.nil,.nil,.nil,.nil,.b,.nil] :: .var 68 [.i .i64,.b,.s,.s,.nil,.nil,.own 140 4,.nil,.nil,.b,.nil] :: vv 61 []⟩))) (.s (.s .n (.c .n .n (some ⟨.one (.ptr 0 0) :: uu 3 (.one (.ptr 1 0) :: .one (.ptr 2 0) :: uu 159 []),.var 53 [.sl 117,.i .i64,.i .i64,.i .i64,.i .i64] :: .var 68 [.i .i64,.b,.s,.s,.nil,.nil,.nil,.nil,.nil,.b,.nil] :: .var 68 [.i .i64,.b,.s,.s,.nil,.nil,.own 140 5,.nil,.nil,.b,.nil] :: vv 61 []⟩))) (.s .n (.s (.r [0,6,0,0] none) .n))))) .n none)) (.s (.s (.r [] (some ⟨.one (.ptr 0 0) :: uu 3 (.one (.ptr 1 0) :: .one (.ptr 2 0) :: uu 95 (ob :: uu 63 [])),.var 53 [.sl 117,.i .i64,.i .i64,.i .i64,.i .i64] :: .var 68 [.i .i64,.b,.s,.s,.nil,.nil,.nil,.nil,.nil,.b,.nil] :: .var 68 [.i .i64,.b,.s,.s,.nil,.nil,.nil,.nil,.nil,.b,.nil] :: vv 61 []⟩)) (.c (.s .n (.r [0,7,0,0] none)) .n (some ⟨.one (.ptr 0 0) :: uu 3 (.one (.ptr 1 0) :: .one (.ptr 2 0) :: uu 159 []),.var 53 [.sl 117,.i .i64,.i .i64,.i .i64,.i .i64] :: .var 68 [.i .i64,.b,.s,.s,.nil,.nil,.nil,.nil,.nil,.b,.nil] :: .var 68 [.i .i64,.b,.s,.s,.own 9 8,.nil,.nil,.nil,.nil,.b,.nil] :: vv 61 []⟩))) (.s (.r [0,9,0,0] none) (.s (.s .n (.b (.s (.s .n (.c .n .n (some ⟨.one (.ptr 0 0) :: uu 3 (.one (.ptr 1 0) :: .one (.ptr 2 0) :: uu 110 (oi :: ob :: uu 47 [])),.var 53 [.sl 117,.i .i64,.i .i64,.i .i64,.i .i64] :: .var 68 [.i .i64,.b,.s,.s,.nil,.nil,.nil,.nil,.nil,.b,.nil] :: .var 68 [.i .i64,.b,.s,.s,.own 9 10,.nil,.nil,.nil,.nil,.b,.own 146 11] :: vv 61 []⟩))) (.c (.r [0,12,0,0] none) (.s .n (.c (.s .n (.c (.r [0,13,0,0] none) .n (some ⟨.one (.ptr 0 0) :: uu 3 (.one (.ptr 1 0) :: .one (.ptr 2 0) :: uu 159 []),.var 53 [.sl 117,.i .i64,.i .i64,.i .i64,.i .i64] :: .var 68 [.i .i64,.b,.s,.s,.nil,.nil,.nil,.nil,.nil,.b,.nil] :: .var 68 [.i .i64,.b,.s,.s,.own 9 14,.nil,.nil,.nil,.nil,.b,.own 146 15] :: vv 61 []⟩))) (.s .n (.c (.r [0,16,0,0] none) (.s .n (.c (.r [0,17,0,0] none) (.s .n (.c (.s (.s (.r [] (some ⟨.one (.ptr 0 0) :: uu 3 (.one (.ptr 1 0) :: .one (.ptr 2 0) :: uu 143 (ob :: uu 15 [])),.var 53 [.sl 117,.i .i64,.i .i64,.i .i64,.i .i64] :: .var 68 [.i .i64,.b,.s,.s,.nil,.nil,.nil,.nil,.nil,.b,.nil] :: .var 68 [.i .i64,.b,.s,.s,.own 9 18,.nil,.nil,.nil,.nil,.b,.own 146 19] :: vv 61 []⟩)) (.c .n .n (some ⟨.one (.ptr 0 0) :: uu 3 (.one (.ptr 1 0) :: .one (.ptr 2 0) :: uu 159 []),.var 53 [.sl 117,.i .i64,.i .i64,.i .i64,.i .i64] :: .var 68 [.i .i64,.b,.s,.s,.nil,.nil,.nil,.nil,.nil,.b,.nil] :: .var 68 [.i .i64,.b,.s,.s,.own 9 20,.nil,.nil,.nil,.nil,.b,.own 146 21] :: vv 61 []⟩))) (.r [0,22,0,0] none)) .n (some ⟨.one (.ptr 0 0) :: uu 3 (.one (.ptr 1 0) :: .one (.ptr 2 0) :: uu 159 []),.var 53 [.sl 117,.i .i64,.i .i64,.i .i64,.i .i64] :: .var 68 [.i .i64,.b,.s,.s,.nil,.nil,.nil,.nil,.nil,.b,.nil] :: .var 68 [.i .i64,.b,.s,.s,.own 9 23,.nil,.nil,.nil,.own 102 24,.b,.own 146 25] :: vv 61 []⟩))) (some ⟨.one (.ptr 0 0) :: uu 3 (.one (.ptr 1 0) :: .one (.ptr 2 0) :: uu 159 []),.var 53 [.sl 117,.i .i64,.i .i64,.i .i64,.i .i64] :: .var 68 [.i .i64,.b,.s,.s,.nil,.nil,.nil,.nil,.nil,.b,.nil] :: .var 68 [.i .i64,.b,.s,.s,.own 9 26,.nil,.own 140 27,.nil,.own 102 28,.b,.own 146 29] :: vv 61 []⟩))) (some ⟨.one (.ptr 0 0) :: uu 3 (.one (.ptr 1 0) :: .one (.ptr 2 0) :: uu 159 []),.var 53 [.sl 117,.i .i64,.i .i64,.i .i64,.i .i64] :: .var 68 [.i .i64,.b,.s,.s,.nil,.nil,.nil,.nil,.nil,.b,.nil] :: .var 68 [.i .i64,.b,.s,.s,.own 9 30,.nil,.own 140 31,.own 143 32,.own 102 33,.b,.own 146 34] :: vv 61 []⟩))) (some ⟨.one (.ptr 0 0) :: uu 3 (.one (.ptr 1 0) :: .one (.ptr 2 0) :: uu 159 []),.var 53 [.sl 117,.i .i64,.i .i64,.i .i64,.i .i64] :: .var 68 [.i .i64,.b,.s,.s,.nil,.nil,.nil,.nil,.nil,.b,.nil] :: .var 68 [.i .i64,.b,.s,.s,.own 9 35,.nil,.own 140 36,.own 143 37,.own 102 38,.b,.own 146 39] :: vv 61 []⟩))) (some ⟨.one (.ptr 0 0) :: uu 3 (.one (.ptr 1 0) :: .one (.ptr 2 0) :: uu 159 []),.var 53 [.sl 117,.i .i64,.i .i64,.i .i64,.i .i64] :: .var 68 [.i .i64,.b,.s,.s,.nil,.nil,.nil,.nil,.nil,.b,.nil] :: .var 68 [.i .i64,.b,.s,.s,.own 9 40,.own 135 41,.own 140 42,.own 143 43,.own 102 44,.b,.own 146 45] :: vv 61 []⟩))) ⟨.one (.ptr 0 0) :: uu 3 (.one (.ptr 1 0) :: .one (.ptr 2 0) :: uu 159 []),.var 53 [.sl 117,.i .i64,.i .i64,.i .i64,.i .i64] :: .var 68 [.i .i64,.b,.s,.s,.nil,.nil,.nil,.nil,.nil,.b,.nil] :: .var 68 [.i .i64,.b,.s,.s,.own 9 46,.own 135 47,.own 140 48,.own 143 49,.own 102 50,.b,.own 146 51] :: vv 61 []⟩)) (.s (.s (.r [] (some ⟨.one (.ptr 0 0) :: uu 3 (.one (.ptr 1 0) :: .one (.ptr 2 0) :: uu 155 (ob :: uu 3 [])),.var 53 [.sl 117,.i .i64,.i .i64,.i .i64,.i .i64] :: .var 68 [.i .i64,.b,.s,.s,.nil,.nil,.nil,.nil,.nil,.b,.nil] :: .var 68 [.i .i64,.b,.s,.s,.own 9 52,.own 135 53,.own 140 54,.own 143 55,.own 102 56,.b,.own 146 57] :: vv 61 []⟩)) (.c .n .n (some ⟨uu 4 (.one (.ptr 1 0) :: .one (.ptr 2 0) :: uu 159 []),.var 53 [.sl 117,.i .i64,.i .i64,.i .i64,.i .i64] :: .var 68 [.i .i64,.b,.s,.s,.nil,.nil,.nil,.nil,.nil,.b,.nil] :: .var 68 [.i .i64,.b,.s,.s,.own 9 58,.own 135 59,.own 140 60,.own 143 61,.own 102 62,.b,.own 146 63] :: vv 61 []⟩))) .n))))))))))))))
noncomputable def j9U:FI:={ jB Tryz.f49 4 [.ct (.sl 9)] [(false,[.new 9])] (fun _=>.n) with prim:=some (j01 9) }
noncomputable def ja7:AC:=ann (j8p (Tryz.f49.body.getD .skip)) .n
noncomputable def ja4:AC:=ann (j8o (Tryz.f49.body.getD .skip)) (.s (.r [0,0,2,0] none) .n)
theorem jcZ:∀ b l,(b=true → l=[]) → l.length < jN → j3d (fun t=>qd t tyL) j9U 9 ja7 ja4 b l = .ret [.sl l]:=by
 intro b l h1 h2
 cases b with
 | true =>
  obtain rfl:=h1 rfl
  kernel_rfl
 | false =>
  refine (show j3d (fun t=>qd t tyL) j9U 9 ja7 ja4 false l=(if ([]:List (List DC)).length + l.length < jN then Out.ret [.sl ([] ++ l)] else .fail) from by kernel_rfl).trans ?_
  rw [if_pos (by simpa using h2),ju]
noncomputable def jcp:FI:=jB Tryz.f50 8 [.ct (.sl 135)] [(false,[.new 1135])] (fun _=>(.s .n (.s .n (.s (.s .n (.b (.b (.s .n (.s .n (.s (.b (.s (.r [0,0,0,0] none) (.s (.r [0,0,1,0,0] none) (.s (.r [0,0,2,0,0] none) (.r [0,0,3,4,0] none)))) ⟨uu 3 (.one (.own 1135 5) :: ou :: ou :: ol 135 :: oi :: oi :: uu 17 []),vv 8 []⟩) .n))) ⟨uu 3 (.one (.own 1135 6) :: ou :: ou :: ol 135 :: oi :: oi :: uu 17 []),vv 8 []⟩) ⟨uu 3 (.one (.own 1135 7) :: uu 22 []),vv 8 []⟩)) .n))))
noncomputable def jco:FI:=jB Tryz.f51 10 [.ct (.sl 140)] [(false,[.new 1140])] (fun _=>(.s .n (.s .n (.s (.s .n (.b (.b (.s .n (.s .n (.s (.b (.s (.r [0,0,0,0] none) (.s (.r [0,0,1,0,0] none) (.s (.r [0,0,3,0,0] none) (.r [0,0,5,6,0] none)))) ⟨uu 3 (.one (.own 1140 7) :: ou :: ou :: ol 140 :: oi :: oi :: uu 17 []),vv 10 []⟩) .n))) ⟨uu 3 (.one (.own 1140 8) :: ou :: ou :: ol 140 :: oi :: oi :: uu 17 []),vv 10 []⟩) ⟨uu 3 (.one (.own 1140 9) :: uu 22 []),vv 10 []⟩)) .n))))
noncomputable def jcn:FI:=jB Tryz.f52 8 [.ct (.sl 143)] [(false,[.new 1143])] (fun _=>(.s .n (.s .n (.s (.s .n (.b (.b (.s .n (.s .n (.s (.b (.s (.r [0,0,0,0] none) (.s (.r [0,0,1,0,0] none) (.r [0,0,3,4,0] none))) ⟨uu 3 (.one (.own 1143 5) :: ou :: ou :: ol 143 :: oi :: oi :: uu 13 []),vv 8 []⟩) .n))) ⟨uu 3 (.one (.own 1143 6) :: ou :: ou :: ol 143 :: oi :: oi :: uu 13 []),vv 8 []⟩) ⟨uu 3 (.one (.own 1143 7) :: uu 18 []),vv 8 []⟩)) .n))))
noncomputable def j9T:FI:={ jB Tryz.f53 4 [.ct (.sl 102)] [(false,[.new 102])] (fun _=>.n) with prim:=some (j01 102) }
noncomputable def ja6:AC:=ann (j8p (Tryz.f53.body.getD .skip)) .n
noncomputable def ja3:AC:=ann (j8o (Tryz.f53.body.getD .skip)) (.s (.r [0,0,2,0] none) .n)
theorem jcY:∀ b l,(b=true → l=[]) → l.length < jN → j3d (fun t=>qd t tyL) j9T 102 ja6 ja3 b l = .ret [.sl l]:=by
 intro b l h1 h2
 cases b with
 | true =>
  obtain rfl:=h1 rfl
  kernel_rfl
 | false =>
  refine (show j3d (fun t=>qd t tyL) j9T 102 ja6 ja3 false l=(if ([]:List (List DC)).length + l.length < jN then Out.ret [.sl ([] ++ l)] else .fail) from by kernel_rfl).trans ?_
  rw [if_pos (by simpa using h2),ju]
noncomputable def jcm:FI:=jB Tryz.f54 8 [.ct (.sl 146)] [(false,[.new 1146])] (fun _=>(.s .n (.s .n (.s (.s .n (.b (.b (.s .n (.s .n (.s (.b (.s (.r [0,0,0,0] none) (.r [0,0,0,0,0,1,0,3,4,0] none)) ⟨uu 3 (.one (.own 1146 5) :: ou :: ou :: ol 146 :: oi :: oi :: uu 14 []),vv 8 []⟩) .n))) ⟨uu 3 (.one (.own 1146 6) :: ou :: ou :: ol 146 :: oi :: oi :: uu 14 []),vv 8 []⟩) ⟨uu 3 (.one (.own 1146 7) :: uu 19 []),vv 8 []⟩)) .n))))
noncomputable def jcl:FI:=jB Tryz.f56 11 [.ct (.sl 135)] [(false,[.new 1135])] (fun _=>(.s .n (.s (.r [1,0] none) (.s (.s .n (.b (.b (.s .n (.s (.b (.s (.r [0,0,0,0,3,0] none) (.s (.r [0,0,4,0,0] none) (.s (.r [0,0,5,0,0] none) (.r [0,0,7,8,0] none)))) ⟨ol 135 :: ou :: ou :: .one (.own 1135 9) :: oi :: uu 25 [],vv 11 []⟩) .n)) ⟨ol 135 :: ou :: ou :: .one (.own 1135 2) :: oi :: uu 25 [],vv 11 []⟩) ⟨uu 3 (.one (.own 1135 10) :: uu 26 []),vv 11 []⟩)) .n))))
noncomputable def jck:FI:=jB Tryz.f57 11 [.ct (.sl 140)] [(false,[.new 1140])] (fun _=>(.s .n (.s (.r [1,0] none) (.s (.s .n (.b (.b (.s .n (.s (.b (.s (.r [0,0,0,0,3,0] none) (.s (.r [0,0,4,0,0] none) (.s (.r [0,0,6,0,0] none) (.r [0,0,7,8,0] none)))) ⟨ol 140 :: ou :: ou :: .one (.own 1140 9) :: oi :: uu 25 [],vv 11 []⟩) .n)) ⟨ol 140 :: ou :: ou :: .one (.own 1140 2) :: oi :: uu 25 [],vv 11 []⟩) ⟨uu 3 (.one (.own 1140 10) :: uu 26 []),vv 11 []⟩)) .n))))
noncomputable def jcj:FI:=jB Tryz.f58 9 [.ct (.sl 143)] [(false,[.new 1143])] (fun _=>(.s .n (.s (.r [1,0] none) (.s (.s .n (.b (.b (.s .n (.s (.b (.s (.r [0,0,0,0,3,0] none) (.s (.r [0,0,4,0,0] none) (.r [0,0,5,6,0] none))) ⟨ol 143 :: ou :: ou :: .one (.own 1143 7) :: oi :: uu 21 [],vv 9 []⟩) .n)) ⟨ol 143 :: ou :: ou :: .one (.own 1143 2) :: oi :: uu 21 [],vv 9 []⟩) ⟨uu 3 (.one (.own 1143 8) :: uu 22 []),vv 9 []⟩)) .n))))
noncomputable def jci:FI:=jB Tryz.f59 9 [.ct (.sl 146)] [(false,[.new 1146])] (fun _=>(.s .n (.s (.r [1,0] none) (.s (.s .n (.b (.b (.s .n (.s (.b (.r [0,0,0,0,0,0,0,0,0,0,0,3,0,5,6,0] none) ⟨ol 146 :: ou :: ou :: .one (.own 1146 7) :: oi :: uu 23 [],vv 9 []⟩) .n)) ⟨ol 146 :: ou :: ou :: .one (.own 1146 2) :: oi :: uu 23 [],vv 9 []⟩) ⟨uu 3 (.one (.own 1146 8) :: uu 24 []),vv 9 []⟩)) .n))))
noncomputable def jch:FI:=jB Tryz.f60 71 [.ptr] [(true,[.ct (.i .i64),.ct .b,.ct .s,.ct .s,.new 9,.new 1135,.new 1140,.new 1143,.new 102,.ct .b,.new 1146])] (fun _=>(.s (.r [1] none) (.s (.r [0,2,8,0] none) (.s (.s .n (.b (.s .n (.c .n (.s .n (.c .n (.s .n (.c .n (.s .n (.c (.r [0,0,0,10,0,0,11,12,0,0] none) (.s .n (.c (.r [0,0,0,0,0,14,15,0,0] none) (.s .n (.c (.r [0,0,0,0,16,17,0,0] none) (.s .n (.c (.r [0,0,0,0,19,0,21,22,0,0] none) .n (some ⟨ou :: ou :: .one (.ptr 1 0) :: .one (.ptr 8 0) :: uu 62 [],.var 85 [.sl 5,.i .i64,.i .i64] :: .var 68 [.i .i64,.b,.s,.s,.nil,.nil,.nil,.nil,.nil,.b,.nil] :: vv 6 (.var 68 [.i .i64,.b,.s,.s,.own 9 23,.own 1135 24,.own 1140 25,.own 1143 26,.own 102 27,.b,.own 1146 28] :: vv 62 [])⟩))) (some ⟨ou :: ou :: .one (.ptr 1 0) :: .one (.ptr 8 0) :: uu 62 [],.var 85 [.sl 5,.i .i64,.i .i64] :: .var 68 [.i .i64,.b,.s,.s,.nil,.nil,.nil,.nil,.nil,.b,.nil] :: vv 6 (.var 68 [.i .i64,.b,.s,.s,.own 9 29,.own 1135 30,.own 1140 31,.own 1143 32,.own 102 33,.b,.own 1146 34] :: vv 62 [])⟩))) (some ⟨ou :: ou :: .one (.ptr 1 0) :: .one (.ptr 8 0) :: uu 62 [],.var 85 [.sl 5,.i .i64,.i .i64] :: .var 68 [.i .i64,.b,.s,.s,.nil,.nil,.nil,.nil,.nil,.b,.nil] :: vv 6 (.var 68 [.i .i64,.b,.s,.s,.own 9 35,.own 1135 36,.own 1140 37,.own 1143 38,.own 102 39,.b,.own 1146 40] :: vv 62 [])⟩))) (some ⟨ou :: ou :: .one (.ptr 1 0) :: .one (.ptr 8 0) :: uu 62 [],.var 85 [.sl 5,.i .i64,.i .i64] :: .var 68 [.i .i64,.b,.s,.s,.nil,.nil,.nil,.nil,.nil,.b,.nil] :: vv 6 (.var 68 [.i .i64,.b,.s,.s,.own 9 41,.own 1135 42,.own 1140 43,.own 1143 44,.own 102 45,.b,.own 1146 46] :: vv 62 [])⟩))) (some ⟨ou :: ou :: .one (.ptr 1 0) :: .one (.ptr 8 0) :: uu 62 [],.var 85 [.sl 5,.i .i64,.i .i64] :: .var 68 [.i .i64,.b,.s,.s,.nil,.nil,.nil,.nil,.nil,.b,.nil] :: vv 6 (.var 68 [.i .i64,.b,.s,.s,.own 9 47,.own 1135 48,.own 1140 49,.own 1143 50,.own 102 51,.b,.own 1146 52] :: vv 62 [])⟩))) (some ⟨ou :: ou :: .one (.ptr 1 0) :: .one (.ptr 8 0) :: uu 62 [],.var 85 [.sl 5,.i .i64,.i .i64] :: .var 68 [.i .i64,.b,.s,.s,.nil,.nil,.nil,.nil,.nil,.b,.nil] :: vv 6 (.var 68 [.i .i64,.b,.s,.s,.own 9 53,.own 1135 54,.own 1140 55,.own 1143 56,.own 102 57,.b,.own 1146 58] :: vv 62 [])⟩))) (some ⟨ou :: ou :: .one (.ptr 1 0) :: .one (.ptr 8 0) :: uu 62 [],.var 85 [.sl 5,.i .i64,.i .i64] :: .var 68 [.i .i64,.b,.s,.s,.nil,.nil,.nil,.nil,.nil,.b,.nil] :: vv 6 (.var 68 [.i .i64,.b,.s,.s,.own 9 59,.own 1135 60,.own 1140 61,.own 1143 62,.own 102 63,.b,.own 1146 64] :: vv 62 [])⟩))) ⟨ou :: ou :: .one (.ptr 1 0) :: .one (.ptr 8 0) :: uu 62 [],.var 85 [.sl 5,.i .i64,.i .i64] :: .var 68 [.i .i64,.b,.s,.s,.nil,.nil,.nil,.nil,.nil,.b,.nil] :: vv 6 (.var 68 [.i .i64,.b,.s,.s,.own 9 65,.own 1135 66,.own 1140 67,.own 1143 68,.own 102 69,.b,.own 1146 70] :: vv 62 [])⟩)) .n))))
noncomputable def jcg:FI:=jB Tryz.f61 0 [.ct (.sl 9),.ct (.sl 9)] [(false,[.ct .b])] (fun _=>(.s .n (.s .n (.s (.s .n (.b (.b (.s .n (.s (.b .n ⟨ol 9 :: ol 9 :: uu 3 (oi :: uu 20 []),[]⟩) .n)) ⟨ol 9 :: ol 9 :: uu 3 (oi :: uu 20 []),[]⟩) ⟨uu 26 [],[]⟩)) .n))))
noncomputable def jcf:FI:=jB Tryz.f62 0 [.ct (.sl 135),.ct (.sl 135)] [(false,[.ct .b])] (fun _=>(.s .n (.s .n (.s (.s .n (.b (.b (.s .n (.s (.b .n ⟨ol 135 :: ol 135 :: uu 3 (oi :: uu 21 []),[]⟩) .n)) ⟨ol 135 :: ol 135 :: uu 3 (oi :: uu 21 []),[]⟩) ⟨uu 27 [],[]⟩)) .n))))
noncomputable def jce:FI:=jB Tryz.f63 0 [.ct (.sl 140),.ct (.sl 140)] [(false,[.ct .b])] (fun _=>(.s .n (.s .n (.s (.s .n (.b (.b (.s .n (.s (.b .n ⟨ol 140 :: ol 140 :: uu 3 (oi :: uu 21 []),[]⟩) .n)) ⟨ol 140 :: ol 140 :: uu 3 (oi :: uu 21 []),[]⟩) ⟨uu 27 [],[]⟩)) .n))))
noncomputable def jcd:FI:=jB Tryz.f64 0 [.ct (.sl 143),.ct (.sl 143)] [(false,[.ct .b])] (fun _=>(.s .n (.s .n (.s (.s .n (.b (.b (.s .n (.s (.b .n ⟨ol 143 :: ol 143 :: uu 3 (oi :: uu 21 []),[]⟩) .n)) ⟨ol 143 :: ol 143 :: uu 3 (oi :: uu 21 []),[]⟩) ⟨uu 27 [],[]⟩)) .n))))
noncomputable def jcc:FI:=jB Tryz.f65 0 [.ct (.sl 102),.ct (.sl 102)] [(false,[.ct .b])] (fun _=>(.s .n (.s .n (.s (.s .n (.b (.b (.s .n (.s (.b .n ⟨ol 102 :: ol 102 :: uu 3 (oi :: uu 20 []),[]⟩) .n)) ⟨ol 102 :: ol 102 :: uu 3 (oi :: uu 20 []),[]⟩) ⟨uu 26 [],[]⟩)) .n))))
noncomputable def jcb:FI:=jB Tryz.f66 0 [.ct (.sl 146),.ct (.sl 146)] [(false,[.ct .b])] (fun _=>(.s .n (.s .n (.s (.s .n (.b (.b (.s .n (.s (.b .n ⟨ol 146 :: ol 146 :: uu 3 (oi :: uu 21 []),[]⟩) .n)) ⟨ol 146 :: ol 146 :: uu 3 (oi :: uu 21 []),[]⟩) ⟨uu 27 [],[]⟩)) .n))))
noncomputable def jca:FI:=jB Tryz.f69 0 [.ct .s,.ct (.i .i64)] [(false,[.ct (.i .i64)]),(false,[.ct (.i .i64)])] (fun _=>(.s .n (.s (.s (.r [] (some ⟨os :: oi :: uu 16 (ob :: uu 70 []),[]⟩)) .n) (.s .n (.s .n (.s .n (.s (.b (.s .n (.c .n (.s (.r [] (some ⟨os :: oi :: uu 4 (oi :: uu 20 (ob :: uu 61 [])),[]⟩)) (.c .n (.s (.r [] (some ⟨os :: oi :: uu 4 (oi :: uu 29 (ob :: uu 52 [])),[]⟩)) (.c .n (.s (.r [] (some ⟨os :: oi :: uu 4 (oi :: uu 38 (ob :: uu 43 [])),[]⟩)) .n) (some ⟨os :: oi :: uu 5 (oi :: oi :: uu 80 []),[]⟩))) (some ⟨os :: oi :: uu 5 (oi :: oi :: uu 80 []),[]⟩))) none)) ⟨os :: oi :: uu 5 (oi :: oi :: uu 80 []),[]⟩) (.s .n (.s (.s .n (.b (.b (.s .n (.s (.b (.s .n (.s (.s (.r [] (some ⟨os :: oi :: uu 5 (oi :: oi :: oi :: oi :: uu 65 (ob :: uu 12 [])),[]⟩)) .n) .n)) ⟨os :: oi :: uu 5 (oi :: oi :: oi :: uu 79 []),[]⟩) .n)) ⟨os :: oi :: uu 5 (oi :: oi :: oi :: uu 79 []),[]⟩) ⟨uu 7 (oi :: oi :: uu 80 []),[]⟩)) .n)))))))))
noncomputable def jc9:FI:=jB Tryz.f70 0 [.ct .s,.ct (.i .i64)] [(false,[.ct (.i .i64)])] (fun _=>(.s .n (.s (.b (.b (.s .n (.b (.b (.s (.r [] (some ⟨os :: oi :: uu 8 (ob :: uu 67 []),[]⟩)) (.c .n (.s (.r [] (some ⟨os :: oi :: uu 39 (ob :: uu 36 []),[]⟩)) (.c .n (.s .n (.c (.b (.b (.s (.s (.r [] (some ⟨os :: oi :: uu 72 (ob :: uu 3 []),[]⟩)) .n) (.b .n ⟨os :: oi :: uu 76 [],[]⟩)) ⟨os :: oi :: uu 76 [],[]⟩) ⟨os :: oi :: uu 76 [],[]⟩) .n none)) (some ⟨os :: oi :: uu 76 [],[]⟩))) (some ⟨os :: oi :: uu 76 [],[]⟩))) ⟨os :: oi :: uu 76 [],[]⟩) ⟨os :: oi :: uu 76 [],[]⟩)) ⟨os :: oi :: uu 76 [],[]⟩) ⟨ou :: oi :: uu 76 [],[]⟩) .n)))
noncomputable def jc8:FI:=jB Tryz.f71 2 [.ct .s,.ct (.i .i64)] [(true,[.ct (.i .i64),.ct .s,.ct (.i .i64)]),(false,[.ct (.i .i64)]),(false,[.ct (.i .i64)])] (fun _=>(.s (.r [0,0,0] none) (.s (.r [0,0,1,0] none) (.s (.b (.s .n (.c .n (.s (.r [] (some ⟨os :: oi :: ou :: ou :: .one (.ptr 0 0) :: ou :: ou :: .one (.ptr 1 0) :: uu 29 (ob :: uu 107 []),.var 117 [.i .i64,.s,.i .i64] :: .var 117 [.i .i64,.s,.i .i64] :: []⟩)) (.c .n (.s .n (.c (.s .n (.s .n (.s .n (.s (.s .n (.c (.s .n (.s .n (.c .n .n (some ⟨ou :: oi :: ou :: ou :: .one (.ptr 0 0) :: ou :: ou :: .one (.ptr 1 0) :: ou :: ou :: ob :: oi :: uu 133 [],.var 117 [.i .i64,.s,.i .i64] :: .var 117 [.i .i64,.s,.i .i64] :: []⟩)))) (.s .n (.s .n (.c .n .n (some ⟨ou :: oi :: ou :: ou :: .one (.ptr 0 0) :: ou :: ou :: .one (.ptr 1 0) :: ou :: ou :: ob :: oi :: uu 133 [],.var 117 [.i .i64,.s,.i .i64] :: .var 117 [.i .i64,.s,.i .i64] :: []⟩)))) (some ⟨ou :: oi :: ou :: ou :: .one (.ptr 0 0) :: ou :: ou :: .one (.ptr 1 0) :: ou :: ou :: ob :: oi :: uu 133 [],.var 117 [.i .i64,.s,.i .i64] :: .var 117 [.i .i64,.s,.i .i64] :: []⟩))) .n)))) .n none)) none)) none)) ⟨os :: oi :: ou :: ou :: .one (.ptr 0 0) :: ou :: ou :: .one (.ptr 1 0) :: uu 137 [],.var 117 [.i .i64,.s,.i .i64] :: .var 117 [.i .i64,.s,.i .i64] :: []⟩) (.s .n (.s (.s (.r [] (some ⟨os :: oi :: ou :: ou :: .one (.ptr 0 0) :: ou :: ou :: .one (.ptr 1 0) :: uu 4 (oi :: uu 115 (ob :: uu 16 [])),.var 117 [.i .i64,.s,.i .i64] :: .var 117 [.i .i64,.s,.i .i64] :: []⟩)) (.c .n .n (some ⟨os :: oi :: ou :: ou :: .one (.ptr 0 0) :: ou :: ou :: .one (.ptr 1 0) :: uu 4 (oi :: uu 132 []),.var 117 [.i .i64,.s,.i .i64] :: .var 117 [.i .i64,.s,.i .i64] :: []⟩))) .n))))))
noncomputable def jc7:FI:=jB Tryz.f72 1 [.ptr,.ct .s] [(false,[.ct .b])] (fun _=>(.s .n (.s (.r [] (some ⟨uu 4 (ob :: uu 47 []),.var 53 [.sl 117,.i .i64,.i .i64,.i .i64,.i .i64] :: []⟩)) .n)))
noncomputable def jc6:FI:=jB Tryz.f73 0 [.ct (.i .i64)] [(false,[.ct .s])] (fun _=>(.s .n (.s (.s .n (.b .n ⟨uu 10 [],[]⟩)) .n)))
noncomputable def jc5:FI:=jB Tryz.f74 1 [.ct (.i .i64)] [(false,[.ct .s])] (fun _=>(.s .n (.s (.r [0,0,0,0,0] none) .n)))
noncomputable def jc4:FI:=jB Tryz.f75 1 [.ptr] [(false,[.ct .s])] (fun _=>.n)
noncomputable def jc3:FI:=jB Tryz.f76 16 [.ptr] [(false,[.new 164])] (fun _=>(.s .n (.s (.r [2,0] none) (.s .n (.s (.b (.b (.s .n (.b (.s (.r [0,4,0] none) (.s .n (.s .n (.s .n (.s .n (.s (.s .n (.c (.s .n (.r [0,5,0,0] none)) .n (some ⟨.one (.ptr 0 0) :: ou :: ou :: .one (.own 164 7) :: .one (.ptr 4 0) :: uu 38 [],.var 53 [.sl 117,.i .i64,.i .i64,.i .i64,.i .i64] :: vv 3 (.var 164 [.s,.s,.s,.b,.i .i64,.s,.own 138 8,.own 9 9,.nil] :: vv 11 [])⟩))) (.s (.r [0,10,0,0] none) (.s (.r [0,0,12,13,0] none) .n)))))))) ⟨.one (.ptr 0 0) :: ou :: ou :: .one (.own 164 14) :: uu 39 [],.var 53 [.sl 117,.i .i64,.i .i64,.i .i64,.i .i64] :: vv 15 []⟩)) ⟨.one (.ptr 0 0) :: ou :: ou :: .one (.own 164 3) :: uu 39 [],.var 53 [.sl 117,.i .i64,.i .i64,.i .i64,.i .i64] :: vv 15 []⟩) ⟨uu 3 (.one (.own 164 15) :: uu 39 []),.var 53 [.sl 117,.i .i64,.i .i64,.i .i64,.i .i64] :: vv 15 []⟩) .n)))))
noncomputable def jc2:FI:=jB Tryz.f77 10 [.ptr,.ct .b] [(false,[.new 146])] (fun _=>(.s .n (.s (.r [2,0] none) (.s (.b (.b (.s .n (.b (.s (.r [0,0,0,4,0] none) (.s (.r [0,0,5,0,0] none) (.r [0,0,6,7,0] none))) ⟨.one (.ptr 0 0) :: ob :: uu 3 (.one (.own 146 8) :: uu 16 []),.var 53 [.sl 117,.i .i64,.i .i64,.i .i64,.i .i64] :: vv 9 []⟩)) ⟨.one (.ptr 0 0) :: ob :: uu 3 (.one (.own 146 3) :: uu 16 []),.var 53 [.sl 117,.i .i64,.i .i64,.i .i64,.i .i64] :: vv 9 []⟩) ⟨uu 5 (.one (.own 146 9) :: uu 16 []),.var 53 [.sl 117,.i .i64,.i .i64,.i .i64,.i .i64] :: vv 9 []⟩) .n))))
noncomputable def jc1:FI:=jB Tryz.f78 28 [.ptr,.ct (.i .i64),.ptr] [(false,[.new 169])] (fun _=>(.s .n (.s (.r [2,0] none) (.s (.s (.r [] (some ⟨.one (.ptr 0 0) :: oi :: .one (.ptr 1 0) :: uu 4 (.one (.own 169 3) :: uu 7 (ob :: uu 95 [])),.var 53 [.sl 117,.i .i64,.i .i64,.i .i64,.i .i64] :: .var 3 [.i .i64] :: vv 26 []⟩)) (.c .n .n (some ⟨.one (.ptr 0 0) :: oi :: .one (.ptr 1 0) :: uu 4 (.one (.own 169 4) :: uu 103 []),.var 53 [.sl 117,.i .i64,.i .i64,.i .i64,.i .i64] :: .var 3 [.i .i64] :: vv 26 []⟩))) (.s .n (.s (.b (.b (.s .n (.b (.s (.s (.r [] (some ⟨.one (.ptr 0 0) :: oi :: .one (.ptr 1 0) :: uu 4 (.one (.own 169 6) :: uu 29 (ob :: uu 73 [])),.var 53 [.sl 117,.i .i64,.i .i64,.i .i64,.i .i64] :: .var 3 [.i .i64] :: vv 26 []⟩)) .n) (.s .n (.s (.r [0,7,0] none) (.s (.s .n (.c (.s .n (.s .n (.c .n (.s .n (.c .n .n (some ⟨.one (.ptr 0 0) :: oi :: .one (.ptr 1 0) :: uu 4 (.one (.own 169 8) :: .one (.ptr 7 0) :: uu 102 []),.var 53 [.sl 117,.i .i64,.i .i64,.i .i64,.i .i64] :: .var 3 [.i .i64] :: vv 5 (.var 169 [.i .i64,.s,.s,.s,.nil,.nil,.nil] :: vv 20 [])⟩))) (some ⟨.one (.ptr 0 0) :: oi :: .one (.ptr 1 0) :: uu 4 (.one (.own 169 9) :: .one (.ptr 7 0) :: uu 102 []),.var 53 [.sl 117,.i .i64,.i .i64,.i .i64,.i .i64] :: .var 3 [.i .i64] :: vv 5 (.var 169 [.i .i64,.s,.s,.s,.nil,.nil,.nil] :: vv 20 [])⟩)))) (.s .n (.s (.s .n (.c .n .n (some ⟨.one (.ptr 0 0) :: oi :: .one (.ptr 1 0) :: uu 4 (.one (.own 169 10) :: .one (.ptr 7 0) :: uu 102 []),.var 53 [.sl 117,.i .i64,.i .i64,.i .i64,.i .i64] :: .var 3 [.i .i64] :: vv 5 (.var 169 [.i .i64,.s,.s,.s,.nil,.nil,.nil] :: vv 20 [])⟩))) (.r [0,11,0,0] none))) (some ⟨.one (.ptr 0 0) :: oi :: .one (.ptr 1 0) :: uu 4 (.one (.own 169 12) :: .one (.ptr 7 0) :: uu 102 []),.var 53 [.sl 117,.i .i64,.i .i64,.i .i64,.i .i64] :: .var 3 [.i .i64] :: vv 5 (.var 169 [.i .i64,.s,.s,.s,.own 151 13,.nil,.nil] :: vv 20 [])⟩))) (.s (.r [0,14,0,0] none) (.s (.s (.r [] (some ⟨.one (.ptr 0 0) :: oi :: .one (.ptr 1 0) :: uu 4 (.one (.own 169 15) :: .one (.ptr 7 0) :: uu 88 (ob :: uu 13 [])),.var 53 [.sl 117,.i .i64,.i .i64,.i .i64,.i .i64] :: .var 3 [.i .i64] :: vv 5 (.var 169 [.i .i64,.s,.s,.s,.own 151 16,.own 146 17,.nil] :: vv 20 [])⟩)) (.c (.r [0,0,0,0,18,0,0] none) .n (some ⟨.one (.ptr 0 0) :: oi :: .one (.ptr 1 0) :: uu 4 (.one (.own 169 19) :: .one (.ptr 7 0) :: uu 102 []),.var 53 [.sl 117,.i .i64,.i .i64,.i .i64,.i .i64] :: .var 3 [.i .i64] :: vv 5 (.var 169 [.i .i64,.s,.s,.s,.own 151 20,.own 146 21,.own 169 22] :: vv 20 [])⟩))) (.s (.r [0,0,24,25,0] none) .n))))))) ⟨.one (.ptr 0 0) :: oi :: .one (.ptr 1 0) :: uu 4 (.one (.own 169 26) :: uu 103 []),.var 53 [.sl 117,.i .i64,.i .i64,.i .i64,.i .i64] :: .var 3 [.i .i64] :: vv 26 []⟩)) ⟨.one (.ptr 0 0) :: oi :: .one (.ptr 1 0) :: uu 4 (.one (.own 169 5) :: uu 103 []),.var 53 [.sl 117,.i .i64,.i .i64,.i .i64,.i .i64] :: .var 3 [.i .i64] :: vv 26 []⟩) ⟨uu 7 (.one (.own 169 27) :: uu 103 []),.var 53 [.sl 117,.i .i64,.i .i64,.i .i64,.i .i64] :: .var 3 [.i .i64] :: vv 26 []⟩) .n))))))
noncomputable def jc0:FI:=jB Tryz.f79 1 [.ptr,.ct .s] [] (fun _=>.n)
noncomputable def jbZ:FI:=jB Tryz.f80 12 [.ptr,.ct .s,.ct .s] [(false,[.new 140])] (fun _=>(.s .n (.s (.r [2,0] none) (.s .n (.s (.b (.b (.s .n (.b (.s (.r [0,0,4,8,9,0] none) .n) ⟨.one (.ptr 0 0) :: ou :: os :: uu 4 (.one (.own 140 10) :: uu 21 []),.var 53 [.sl 117,.i .i64,.i .i64,.i .i64,.i .i64] :: vv 11 []⟩)) ⟨.one (.ptr 0 0) :: ou :: os :: uu 4 (.one (.own 140 3) :: uu 21 []),.var 53 [.sl 117,.i .i64,.i .i64,.i .i64,.i .i64] :: vv 11 []⟩) ⟨uu 7 (.one (.own 140 11) :: uu 21 []),.var 53 [.sl 117,.i .i64,.i .i64,.i .i64,.i .i64] :: vv 11 []⟩) .n)))))
noncomputable def jbY:FI:=jB Tryz.f81 10 [.ptr] [(false,[.new 9])] (fun _=>(.s .n (.s (.r [2,0] none) (.s .n (.s (.b (.b (.s .n (.b (.s (.s (.r [] (some ⟨.one (.ptr 0 0) :: ou :: ou :: .one (.own 9 4) :: uu 26 (ob :: uu 11 []),.var 53 [.sl 117,.i .i64,.i .i64,.i .i64,.i .i64] :: vv 9 []⟩)) (.c .n .n (some ⟨.one (.ptr 0 0) :: ou :: ou :: .one (.own 9 5) :: uu 38 [],.var 53 [.sl 117,.i .i64,.i .i64,.i .i64,.i .i64] :: vv 9 []⟩))) (.s (.r [0,0,0,6,7,0] none) .n)) ⟨.one (.ptr 0 0) :: ou :: ou :: .one (.own 9 8) :: uu 38 [],.var 53 [.sl 117,.i .i64,.i .i64,.i .i64,.i .i64] :: vv 9 []⟩)) ⟨.one (.ptr 0 0) :: ou :: ou :: .one (.own 9 3) :: uu 38 [],.var 53 [.sl 117,.i .i64,.i .i64,.i .i64,.i .i64] :: vv 9 []⟩) ⟨uu 3 (.one (.own 9 9) :: uu 38 []),.var 53 [.sl 117,.i .i64,.i .i64,.i .i64,.i .i64] :: vv 9 []⟩) .n)))))
noncomputable def jbX:FI:=jB Tryz.f82 8 [.ptr,.ct .s] [(false,[.new 9])] (fun _=>(.s .n (.s (.r [2,0] none) (.s .n (.s (.b (.b (.s .n (.b (.s (.r [0,0,0,4,5,0] none) .n) ⟨.one (.ptr 0 0) :: os :: uu 3 (.one (.own 9 6) :: uu 20 []),.var 53 [.sl 117,.i .i64,.i .i64,.i .i64,.i .i64] :: vv 7 []⟩)) ⟨.one (.ptr 0 0) :: os :: uu 3 (.one (.own 9 3) :: uu 20 []),.var 53 [.sl 117,.i .i64,.i .i64,.i .i64,.i .i64] :: vv 7 []⟩) ⟨uu 5 (.one (.own 9 7) :: uu 20 []),.var 53 [.sl 117,.i .i64,.i .i64,.i .i64,.i .i64] :: vv 7 []⟩) .n)))))
noncomputable def jbW:FI:=jB Tryz.f83 12 [.ptr] [(false,[.new 135])] (fun _=>(.s .n (.s (.r [2,0] none) (.s .n (.s (.b (.b (.s .n (.b (.s (.r [0,0,0,4,0] none) (.s .n (.s (.r [0,5,0,0] none) (.s .n (.s .n (.s (.r [0,6,0,0] none) (.s (.r [0,0,8,9,0] none) .n))))))) ⟨.one (.ptr 0 0) :: ou :: ou :: .one (.own 135 10) :: uu 36 [],.var 53 [.sl 117,.i .i64,.i .i64,.i .i64,.i .i64] :: vv 11 []⟩)) ⟨.one (.ptr 0 0) :: ou :: ou :: .one (.own 135 3) :: uu 36 [],.var 53 [.sl 117,.i .i64,.i .i64,.i .i64,.i .i64] :: vv 11 []⟩) ⟨uu 3 (.one (.own 135 11) :: uu 36 []),.var 53 [.sl 117,.i .i64,.i .i64,.i .i64,.i .i64] :: vv 11 []⟩) .n)))))
noncomputable def jbV:FI:=jB Tryz.f84 1 [.ptr,.ct .s] [(false,[.ct .b])] (fun _=>.n)
noncomputable def jbU:FI:=jB Tryz.f85 12 [.ptr] [(false,[.new 143])] (fun _=>(.s .n (.s (.r [2,0] none) (.s .n (.s (.b (.b (.s .n (.b (.s (.r [0,0,0,4,0] none) (.s (.s (.r [] (some ⟨.one (.ptr 0 0) :: ou :: ou :: .one (.own 143 5) :: .one (.ptr 4 0) :: uu 29 (ob :: uu 15 []),.var 53 [.sl 117,.i .i64,.i .i64,.i .i64,.i .i64] :: vv 3 (.var 143 [.s,.s,.nil] :: vv 7 [])⟩)) (.c .n .n (some ⟨.one (.ptr 0 0) :: ou :: ou :: .one (.own 143 6) :: .one (.ptr 4 0) :: uu 45 [],.var 53 [.sl 117,.i .i64,.i .i64,.i .i64,.i .i64] :: vv 3 (.var 143 [.s,.s,.nil] :: vv 7 [])⟩))) (.s .n (.s (.r [0,7,0,0] none) (.s (.r [0,0,8,9,0] none) .n))))) ⟨.one (.ptr 0 0) :: ou :: ou :: .one (.own 143 10) :: uu 46 [],.var 53 [.sl 117,.i .i64,.i .i64,.i .i64,.i .i64] :: vv 11 []⟩)) ⟨.one (.ptr 0 0) :: ou :: ou :: .one (.own 143 3) :: uu 46 [],.var 53 [.sl 117,.i .i64,.i .i64,.i .i64,.i .i64] :: vv 11 []⟩) ⟨uu 3 (.one (.own 143 11) :: uu 46 []),.var 53 [.sl 117,.i .i64,.i .i64,.i .i64,.i .i64] :: vv 11 []⟩) .n)))))
noncomputable def jbT:FI:=jB Tryz.f86 14 [.ptr] [(false,[.new 102])] (fun _=>(.s .n (.s (.r [2,0] none) (.s .n (.s (.b (.b (.s .n (.b (.s (.r [0,4,0] none) (.s (.s .n (.b (.b (.s .n (.s (.b (.s .n (.c .n .n (some ⟨.one (.ptr 0 0) :: ou :: ou :: .one (.own 102 6) :: .one (.ptr 4 0) :: oi :: uu 41 [],.var 53 [.sl 117,.i .i64,.i .i64,.i .i64,.i .i64] :: vv 3 (.var 102 [.i .i64,.s] :: vv 9 [])⟩))) ⟨.one (.ptr 0 0) :: ou :: ou :: .one (.own 102 7) :: .one (.ptr 4 0) :: oi :: uu 41 [],.var 53 [.sl 117,.i .i64,.i .i64,.i .i64,.i .i64] :: vv 3 (.var 102 [.i .i64,.s] :: vv 9 [])⟩) .n)) ⟨.one (.ptr 0 0) :: ou :: ou :: .one (.own 102 5) :: .one (.ptr 4 0) :: oi :: uu 41 [],.var 53 [.sl 117,.i .i64,.i .i64,.i .i64,.i .i64] :: vv 3 (.var 102 [.i .i64,.s] :: vv 9 [])⟩) ⟨.one (.ptr 0 0) :: ou :: ou :: .one (.own 102 8) :: .one (.ptr 4 0) :: uu 42 [],.var 53 [.sl 117,.i .i64,.i .i64,.i .i64,.i .i64] :: vv 3 (.var 102 [.i .i64,.s] :: vv 9 [])⟩)) (.s (.s .n (.c .n .n (some ⟨.one (.ptr 0 0) :: ou :: ou :: .one (.own 102 9) :: .one (.ptr 4 0) :: uu 42 [],.var 53 [.sl 117,.i .i64,.i .i64,.i .i64,.i .i64] :: vv 3 (.var 102 [.i .i64,.s] :: vv 9 [])⟩))) (.s .n (.s .n (.s .n (.s (.r [0,0,10,11,0] none) .n))))))) ⟨.one (.ptr 0 0) :: ou :: ou :: .one (.own 102 12) :: uu 43 [],.var 53 [.sl 117,.i .i64,.i .i64,.i .i64,.i .i64] :: vv 13 []⟩)) ⟨.one (.ptr 0 0) :: ou :: ou :: .one (.own 102 3) :: uu 43 [],.var 53 [.sl 117,.i .i64,.i .i64,.i .i64,.i .i64] :: vv 13 []⟩) ⟨uu 3 (.one (.own 102 13) :: uu 43 []),.var 53 [.sl 117,.i .i64,.i .i64,.i .i64,.i .i64] :: vv 13 []⟩) .n)))))
noncomputable def jbS:FI:=jB Tryz.f87 1 [.ag [.i .i64,.b,.s,.s,.sl 9,.sl 135,.sl 140,.sl 143,.sl 102,.b,.sl 146]] [(false,[.ct .b])] (fun _=>(.s (.r [0,0] none) .n))
noncomputable def jbR:FI:=jB Tryz.f88 16 [.ag [.i .i64,.s,.sl 138,.sl 9]] [(true,[.ct (.i .i64),.ct .s,.new 1138,.new 9])] (fun _=>(.s (.r [0,1] none) (.s (.r [0,0,0,0,0,0,2,0,3,0] none) (.s (.s .n (.b (.b (.s .n (.s .n (.s (.b (.s (.r [0,0,5,0] none) (.r [0,0,0,6,9,10,0,0] none)) ⟨ou :: ou :: .one (.ptr 1 0) :: .one (.ptr 3 0) :: uu 11 (ol 138 :: oi :: oi :: uu 12 []),.u :: .var 138 [.i .i64,.s,.nil,.nil] :: .u :: .var 138 [.i .i64,.s,.own 1138 11,.own 9 12] :: vv 12 []⟩) .n))) ⟨ou :: ou :: .one (.ptr 1 0) :: .one (.ptr 3 0) :: uu 11 (ol 138 :: oi :: oi :: uu 12 []),.u :: .var 138 [.i .i64,.s,.nil,.nil] :: .u :: .var 138 [.i .i64,.s,.own 1138 13,.own 9 4] :: vv 12 []⟩) ⟨ou :: ou :: .one (.ptr 1 0) :: .one (.ptr 3 0) :: uu 26 [],.u :: .var 138 [.i .i64,.s,.nil,.nil] :: .u :: .var 138 [.i .i64,.s,.own 1138 14,.own 9 15] :: vv 12 []⟩)) .n))))
noncomputable def jbQ:FI:=jB Tryz.f89 8 [.ct (.sl 151)] [(false,[.new 1151])] (fun _=>(.s .n (.s .n (.s (.s .n (.b (.b (.s .n (.s .n (.s (.b (.s (.r [0,0,0,0] none) (.r [0,0,0,0,0,1,0,3,4,0] none)) ⟨uu 3 (.one (.own 1151 5) :: ou :: ou :: ol 151 :: oi :: oi :: uu 14 []),vv 8 []⟩) .n))) ⟨uu 3 (.one (.own 1151 6) :: ou :: ou :: ol 151 :: oi :: oi :: uu 14 []),vv 8 []⟩) ⟨uu 3 (.one (.own 1151 7) :: uu 19 []),vv 8 []⟩)) .n))))
noncomputable def jbP:FI:=jB Tryz.f90 16 [.ag [.i .i64,.s,.sl 138,.sl 9]] [(true,[.ct (.i .i64),.ct .s,.new 1138,.new 9])] (fun _=>(.s (.r [0,1] none) (.s (.r [0,0,0,0,2,0,0,3,0,4,0] none) (.s (.s .n (.b (.b (.s .n (.s (.b (.r [0,0,0,0,0,0,0,6,9,10,0,0] none) ⟨ou :: .one (.ptr 0 0) :: .one (.ptr 1 0) :: .one (.ptr 4 0) :: oi :: uu 28 [],.var 138 [.i .i64,.s,.sl 138,.sl 9] :: .var 138 [.i .i64,.s,.nil,.nil] :: .u :: .u :: .var 138 [.i .i64,.s,.own 1138 11,.own 9 12] :: vv 11 []⟩) .n)) ⟨ou :: .one (.ptr 0 0) :: .one (.ptr 1 0) :: .one (.ptr 4 0) :: oi :: uu 28 [],.var 138 [.i .i64,.s,.sl 138,.sl 9] :: .var 138 [.i .i64,.s,.nil,.nil] :: .u :: .u :: .var 138 [.i .i64,.s,.own 1138 13,.own 9 5] :: vv 11 []⟩) ⟨ou :: ou :: .one (.ptr 1 0) :: .one (.ptr 4 0) :: uu 29 [],.u :: .var 138 [.i .i64,.s,.nil,.nil] :: .u :: .u :: .var 138 [.i .i64,.s,.own 1138 14,.own 9 15] :: vv 11 []⟩)) .n))))
noncomputable def jbO:FI:=jB Tryz.f91 9 [.ct (.sl 151)] [(false,[.new 1151])] (fun _=>(.s .n (.s (.r [1,0] none) (.s (.s .n (.b (.b (.s .n (.s (.b (.r [0,0,0,0,0,0,0,0,0,0,0,3,0,5,6,0] none) ⟨ol 151 :: ou :: ou :: .one (.own 1151 7) :: oi :: uu 23 [],vv 9 []⟩) .n)) ⟨ol 151 :: ou :: ou :: .one (.own 1151 2) :: oi :: uu 23 [],vv 9 []⟩) ⟨uu 3 (.one (.own 1151 8) :: uu 24 []),vv 9 []⟩)) .n))))
noncomputable def jbN:FI:=jB Tryz.f92 103 [.ptr] [(true,[.ct (.i .i64),.ct .b,.ct .s,.ct .s,.new 9,.new 1135,.new 1140,.new 1143,.new 102,.ct .b,.new 1146])] (fun _=>(.s (.r [1] none) (.s (.r [0,0,0,0,2,0,0,0,0,3,0,4,0] none) (.s (.s .n (.b (.s (.s .n (.c .n .n (some ⟨.one (.ptr 0 0) :: ou :: .one (.ptr 1 0) :: .one (.ptr 4 0) :: uu 16 (oi :: ob :: uu 115 []),.var 85 [.sl 5,.i .i64,.i .i64] :: .var 68 [.i .i64,.b,.s,.s,.nil,.nil,.nil,.nil,.nil,.b,.nil] :: .u :: .u :: .var 68 [.i .i64,.b,.s,.s,.nil,.nil,.nil,.nil,.nil,.b,.own 1146 5] :: vv 98 []⟩))) (.c (.s (.s .n (.b (.b (.s .n (.s (.b (.r [0,0,0,8,0,10,11,0,0] none) ⟨.one (.ptr 0 0) :: ou :: .one (.ptr 1 0) :: .one (.ptr 4 0) :: oi :: uu 132 [],.var 85 [.sl 5,.i .i64,.i .i64] :: .var 68 [.i .i64,.b,.s,.s,.nil,.nil,.nil,.nil,.nil,.b,.nil] :: .u :: .u :: .var 68 [.i .i64,.b,.s,.s,.own 9 12,.nil,.nil,.nil,.nil,.b,.own 1146 13] :: vv 98 []⟩) .n)) ⟨.one (.ptr 0 0) :: ou :: .one (.ptr 1 0) :: .one (.ptr 4 0) :: oi :: uu 132 [],.var 85 [.sl 5,.i .i64,.i .i64] :: .var 68 [.i .i64,.b,.s,.s,.nil,.nil,.nil,.nil,.nil,.b,.nil] :: .u :: .u :: .var 68 [.i .i64,.b,.s,.s,.own 9 14,.nil,.nil,.nil,.nil,.b,.own 1146 6] :: vv 98 []⟩) ⟨.one (.ptr 0 0) :: ou :: .one (.ptr 1 0) :: .one (.ptr 4 0) :: uu 133 [],.var 85 [.sl 5,.i .i64,.i .i64] :: .var 68 [.i .i64,.b,.s,.s,.nil,.nil,.nil,.nil,.nil,.b,.nil] :: .u :: .u :: .var 68 [.i .i64,.b,.s,.s,.own 9 15,.nil,.nil,.nil,.nil,.b,.own 1146 16] :: vv 98 []⟩)) (.s .n (.b (.b (.s .n (.s (.b (.r [0,0,0,0,0,0,0,19,0,0,0,21,22,0,0] none) ⟨.one (.ptr 0 0) :: ou :: .one (.ptr 1 0) :: .one (.ptr 4 0) :: ou :: oi :: uu 131 [],.var 85 [.sl 5,.i .i64,.i .i64] :: .var 68 [.i .i64,.b,.s,.s,.nil,.nil,.nil,.nil,.nil,.b,.nil] :: .u :: .u :: .var 68 [.i .i64,.b,.s,.s,.own 9 23,.own 1135 24,.nil,.nil,.nil,.b,.own 1146 25] :: vv 98 []⟩) .n)) ⟨.one (.ptr 0 0) :: ou :: .one (.ptr 1 0) :: .one (.ptr 4 0) :: ou :: oi :: uu 131 [],.var 85 [.sl 5,.i .i64,.i .i64] :: .var 68 [.i .i64,.b,.s,.s,.nil,.nil,.nil,.nil,.nil,.b,.nil] :: .u :: .u :: .var 68 [.i .i64,.b,.s,.s,.own 9 17,.own 1135 26,.nil,.nil,.nil,.b,.own 1146 18] :: vv 98 []⟩) ⟨.one (.ptr 0 0) :: ou :: .one (.ptr 1 0) :: .one (.ptr 4 0) :: uu 133 [],.var 85 [.sl 5,.i .i64,.i .i64] :: .var 68 [.i .i64,.b,.s,.s,.nil,.nil,.nil,.nil,.nil,.b,.nil] :: .u :: .u :: .var 68 [.i .i64,.b,.s,.s,.own 9 27,.own 1135 28,.nil,.nil,.nil,.b,.own 1146 29] :: vv 98 []⟩))) (.s .n (.c (.s .n (.b (.b (.s .n (.s (.b (.r [0,0,0,32,0,34,35,0,0] none) ⟨.one (.ptr 0 0) :: ou :: .one (.ptr 1 0) :: .one (.ptr 4 0) :: ou :: ou :: oi :: uu 130 [],.var 85 [.sl 5,.i .i64,.i .i64] :: .var 68 [.i .i64,.b,.s,.s,.nil,.nil,.nil,.nil,.nil,.b,.nil] :: .u :: .u :: .var 68 [.i .i64,.b,.s,.s,.own 9 36,.nil,.nil,.nil,.nil,.b,.own 1146 37] :: vv 98 []⟩) .n)) ⟨.one (.ptr 0 0) :: ou :: .one (.ptr 1 0) :: .one (.ptr 4 0) :: ou :: ou :: oi :: uu 130 [],.var 85 [.sl 5,.i .i64,.i .i64] :: .var 68 [.i .i64,.b,.s,.s,.nil,.nil,.nil,.nil,.nil,.b,.nil] :: .u :: .u :: .var 68 [.i .i64,.b,.s,.s,.own 9 38,.nil,.nil,.nil,.nil,.b,.own 1146 30] :: vv 98 []⟩) ⟨.one (.ptr 0 0) :: ou :: .one (.ptr 1 0) :: .one (.ptr 4 0) :: uu 133 [],.var 85 [.sl 5,.i .i64,.i .i64] :: .var 68 [.i .i64,.b,.s,.s,.nil,.nil,.nil,.nil,.nil,.b,.nil] :: .u :: .u :: .var 68 [.i .i64,.b,.s,.s,.own 9 39,.nil,.nil,.nil,.nil,.b,.own 1146 40] :: vv 98 []⟩)) (.s .n (.c (.s .n (.b (.b (.s .n (.s (.b (.r [0,0,0,42,0,0,0,0,43,44,0,0] none) ⟨.one (.ptr 0 0) :: ou :: .one (.ptr 1 0) :: .one (.ptr 4 0) :: uu 3 (oi :: uu 129 []),.var 85 [.sl 5,.i .i64,.i .i64] :: .var 68 [.i .i64,.b,.s,.s,.nil,.nil,.nil,.nil,.nil,.b,.nil] :: .u :: .u :: .var 68 [.i .i64,.b,.s,.s,.nil,.nil,.nil,.own 1143 45,.nil,.b,.own 1146 46] :: vv 98 []⟩) .n)) ⟨.one (.ptr 0 0) :: ou :: .one (.ptr 1 0) :: .one (.ptr 4 0) :: uu 3 (oi :: uu 129 []),.var 85 [.sl 5,.i .i64,.i .i64] :: .var 68 [.i .i64,.b,.s,.s,.nil,.nil,.nil,.nil,.nil,.b,.nil] :: .u :: .u :: .var 68 [.i .i64,.b,.s,.s,.nil,.nil,.nil,.own 1143 47,.nil,.b,.own 1146 41] :: vv 98 []⟩) ⟨.one (.ptr 0 0) :: ou :: .one (.ptr 1 0) :: .one (.ptr 4 0) :: uu 133 [],.var 85 [.sl 5,.i .i64,.i .i64] :: .var 68 [.i .i64,.b,.s,.s,.nil,.nil,.nil,.nil,.nil,.b,.nil] :: .u :: .u :: .var 68 [.i .i64,.b,.s,.s,.nil,.nil,.nil,.own 1143 48,.nil,.b,.own 1146 49] :: vv 98 []⟩)) (.s .n (.c (.r [0,50,0,0] none) (.s .n (.c (.s (.r [0,51,0,0] none) (.s (.r [53,0,0] none) (.s .n (.r [0,54,0,56,0,0] none)))) (.s .n (.c (.s .n (.r [0,0,0,0,0,58,0,0] none)) .n (some ⟨.one (.ptr 0 0) :: ou :: .one (.ptr 1 0) :: .one (.ptr 4 0) :: uu 133 [],.var 85 [.sl 5,.i .i64,.i .i64] :: .var 68 [.i .i64,.b,.s,.s,.nil,.nil,.nil,.nil,.nil,.b,.nil] :: .u :: .u :: .var 68 [.i .i64,.b,.s,.s,.nil,.nil,.nil,.nil,.own 102 59,.b,.own 1146 60] :: vv 98 []⟩))) (some ⟨.one (.ptr 0 0) :: ou :: .one (.ptr 1 0) :: .one (.ptr 4 0) :: uu 133 [],.var 85 [.sl 5,.i .i64,.i .i64] :: .var 68 [.i .i64,.b,.s,.s,.nil,.nil,.nil,.nil,.nil,.b,.nil] :: .u :: .u :: .var 68 [.i .i64,.b,.s,.s,.own 9 61,.nil,.own 1140 62,.nil,.own 102 63,.b,.own 1146 64] :: vv 98 []⟩))) (some ⟨.one (.ptr 0 0) :: ou :: .one (.ptr 1 0) :: .one (.ptr 4 0) :: uu 133 [],.var 85 [.sl 5,.i .i64,.i .i64] :: .var 68 [.i .i64,.b,.s,.s,.nil,.nil,.nil,.nil,.nil,.b,.nil] :: .u :: .u :: .var 68 [.i .i64,.b,.s,.s,.own 9 65,.nil,.own 1140 66,.nil,.own 102 67,.b,.own 1146 68] :: vv 98 []⟩))) (some ⟨.one (.ptr 0 0) :: ou :: .one (.ptr 1 0) :: .one (.ptr 4 0) :: uu 133 [],.var 85 [.sl 5,.i .i64,.i .i64] :: .var 68 [.i .i64,.b,.s,.s,.nil,.nil,.nil,.nil,.nil,.b,.nil] :: .u :: .u :: .var 68 [.i .i64,.b,.s,.s,.own 9 69,.nil,.own 1140 70,.own 1143 71,.own 102 72,.b,.own 1146 73] :: vv 98 []⟩))) (some ⟨.one (.ptr 0 0) :: ou :: .one (.ptr 1 0) :: .one (.ptr 4 0) :: uu 133 [],.var 85 [.sl 5,.i .i64,.i .i64] :: .var 68 [.i .i64,.b,.s,.s,.nil,.nil,.nil,.nil,.nil,.b,.nil] :: .u :: .u :: .var 68 [.i .i64,.b,.s,.s,.own 9 74,.nil,.own 1140 75,.own 1143 76,.own 102 77,.b,.own 1146 78] :: vv 98 []⟩))) (some ⟨.one (.ptr 0 0) :: ou :: .one (.ptr 1 0) :: .one (.ptr 4 0) :: uu 133 [],.var 85 [.sl 5,.i .i64,.i .i64] :: .var 68 [.i .i64,.b,.s,.s,.nil,.nil,.nil,.nil,.nil,.b,.nil] :: .u :: .u :: .var 68 [.i .i64,.b,.s,.s,.own 9 79,.own 1135 80,.own 1140 81,.own 1143 82,.own 102 83,.b,.own 1146 84] :: vv 98 []⟩))) ⟨.one (.ptr 0 0) :: ou :: .one (.ptr 1 0) :: .one (.ptr 4 0) :: uu 133 [],.var 85 [.sl 5,.i .i64,.i .i64] :: .var 68 [.i .i64,.b,.s,.s,.nil,.nil,.nil,.nil,.nil,.b,.nil] :: .u :: .u :: .var 68 [.i .i64,.b,.s,.s,.own 9 85,.own 1135 86,.own 1140 87,.own 1143 88,.own 102 89,.b,.own 1146 90] :: vv 98 []⟩)) (.s (.s (.r [] (some ⟨ou :: ou :: .one (.ptr 1 0) :: .one (.ptr 4 0) :: uu 129 (ob :: uu 3 []),.var 85 [.sl 5,.i .i64,.i .i64] :: .var 68 [.i .i64,.b,.s,.s,.nil,.nil,.nil,.nil,.nil,.b,.nil] :: .u :: .u :: .var 68 [.i .i64,.b,.s,.s,.own 9 91,.own 1135 92,.own 1140 93,.own 1143 94,.own 102 95,.b,.own 1146 96] :: vv 98 []⟩)) (.c .n .n (some ⟨ou :: ou :: .one (.ptr 1 0) :: .one (.ptr 4 0) :: uu 133 [],.var 85 [.sl 5,.i .i64,.i .i64] :: .var 68 [.i .i64,.b,.s,.s,.nil,.nil,.nil,.nil,.nil,.b,.nil] :: .u :: .u :: .var 68 [.i .i64,.b,.s,.s,.own 9 97,.own 1135 98,.own 1140 99,.own 1143 100,.own 102 101,.b,.own 1146 102] :: vv 98 []⟩))) .n)))))
noncomputable def jbM:FI:=jB Tryz.f93 3 [.ptr] [(false,[.ct .s])] (fun _=>(.s .n (.s (.s .n (.b .n ⟨.one (.ptr 0 0) :: uu 15 [],.var 85 [.sl 5,.i .i64,.i .i64] :: .u :: .u :: []⟩)) (.s (.r [0,2,0,0] none) .n))))
noncomputable def jbL:FI:=jB Tryz.f94 1 [.ptr,.ct (.sl 9)] [(false,[.ct .s])] (fun _=>.n)
noncomputable def jbK:FI:=jB Tryz.f95 2 [.ag [.s,.s,.sl 140,.s,.s,.sl 146],.ag [.s,.s,.sl 140,.s,.s,.sl 146]] [(false,[.ct .b])] (fun _=>(.s (.r [0,1,0] none) (.s (.r [] (some ⟨uu 4 (ob :: uu 33 []),.u :: .u :: []⟩)) .n)))
noncomputable def jbJ:FI:=jB Tryz.f96 2 [.ag [.s,.s,.s,.s,.b,.i .i64,.s,.sl 138,.sl 9,.sl 146],.ag [.s,.s,.s,.s,.b,.i .i64,.s,.sl 138,.sl 9,.sl 146]] [(false,[.ct .b])] (fun _=>(.s (.r [0,1,0] none) (.s (.r [] (some ⟨uu 4 (ob :: uu 40 []),.u :: .u :: []⟩)) .n)))
noncomputable def jbI:FI:=jB Tryz.f97 2 [.ag [.s,.s,.sl 146],.ag [.s,.s,.sl 146]] [(false,[.ct .b])] (fun _=>(.s (.r [0,1,0] none) (.s (.r [] (some ⟨uu 4 (ob :: uu 19 []),.u :: .u :: []⟩)) .n)))
noncomputable def jbH:FI:=jB Tryz.f98 2 [.ag [.s,.sl 151],.ag [.s,.sl 151]] [(false,[.ct .b])] (fun _=>(.s (.r [0,1,0] none) (.s (.r [] (some ⟨uu 4 (ob :: uu 12 []),.u :: .u :: []⟩)) .n)))
noncomputable def j9m:FI:=jB Tryz.f102 7 [.ct (.i .i64)] [(false,[.ct .s])] (fun _=>(.s .n (.s .n (.s (.b (.s .n (.c (.s (.r [0,0,0,0,0] none) .n) (.s .n (.c (.s (.r [0,0,0,0,0,0,0,0,2,0,0] none) .n) (.s .n (.c (.s (.r [0,0,0,0,0,0,0,0,0,0,0,0,0,4,0,0] none) .n) .n none)) none)) none)) ⟨oi :: uu 63 [],vv 7 []⟩) (.s (.r [0,0,0,0,0,0,0,0,0,0,0,0,0,0,0,0,0,0,6,0,0] none) .n)))))
noncomputable def jba:FI:=jB Tryz.f103 0 [.ct (.i .u8)] [(false,[.ct .b])] (fun _=>(.s .n (.s (.r [] (some ⟨ou :: ou :: ob :: uu 18 [],[]⟩)) .n)))
noncomputable def jb9:FI:=jB Tryz.f104 0 [.ct .s,.ct (.i .i64)] [(false,[.ct (.i .i64)])] (fun _=>(.s .n (.s (.b (.b (.s (.s (.r [] (some ⟨os :: oi :: uu 18 (ob :: uu 3 []),[]⟩)) .n) (.b .n ⟨os :: oi :: uu 22 [],[]⟩)) ⟨os :: oi :: uu 22 [],[]⟩) ⟨ou :: oi :: uu 22 [],[]⟩) .n)))
noncomputable def jb8:FI:=jB Tryz.f105 0 [.ct .s] [(false,[.ct .b])] (fun _=>(.s .n (.s (.s (.r [] (some ⟨os :: uu 15 (ob :: uu 18 []),[]⟩)) .n) (.s (.s .n (.b (.b (.s .n (.s (.b (.s (.r [] (some ⟨os :: ou :: ou :: oi :: uu 30 (ob :: []),[]⟩)) .n) ⟨os :: ou :: ou :: oi :: uu 31 [],[]⟩) .n)) ⟨os :: ou :: ou :: oi :: uu 31 [],[]⟩) ⟨uu 35 [],[]⟩)) .n))))
noncomputable def jb7:FI:=jB Tryz.f106 0 [.ct (.i .u8)] [(false,[.ct .b])] (fun _=>(.s .n (.s (.r [] (some ⟨ou :: ou :: ob :: uu 6 [],[]⟩)) .n)))
noncomputable def jb6:FI:=jB Tryz.f107 0 [.ct .s,.ct (.i .i64)] [(false,[.ct (.i .i64)])] (fun _=>(.s .n (.s .n (.s (.b (.b (.s (.s (.r [] (some ⟨os :: oi :: uu 52 (ob :: uu 3 []),[]⟩)) .n) (.b .n ⟨os :: oi :: uu 56 [],[]⟩)) ⟨os :: oi :: uu 56 [],[]⟩) ⟨ou :: oi :: uu 56 [],[]⟩) .n))))
noncomputable def jb5:FI:=jB Tryz.f108 0 [.ct .s] [(false,[.ct .b])] (fun _=>(.s .n (.s (.r [] (some ⟨ou :: ou :: ob :: uu 15 [],[]⟩)) .n)))
noncomputable def jb4:FI:=jB Tryz.f109 0 [.ct .s] [(false,[.ct .b])] (fun _=>(.s .n (.s .n (.s (.s (.r [] (some ⟨os :: ou :: ou :: oi :: uu 16 (ob :: uu 60 []),[]⟩)) .n) (.s (.s .n (.c .n .n (some ⟨os :: ou :: ou :: oi :: uu 77 [],[]⟩))) (.s (.s (.r [] (some ⟨os :: ou :: ou :: oi :: uu 45 (ob :: uu 31 []),[]⟩)) (.c (.s .n (.s (.s (.r [] (some ⟨os :: ou :: ou :: oi :: uu 63 (ob :: uu 13 []),[]⟩)) (.c .n .n (some ⟨os :: ou :: ou :: oi :: uu 77 [],[]⟩))) .n)) .n (some ⟨os :: ou :: ou :: oi :: uu 77 [],[]⟩))) .n))))))
noncomputable def jb3:FI:=jB Tryz.f110 0 [.ct .s,.ct (.i .i64)] [(false,[.ct .b])] (fun _=>(.s .n (.s (.r [] (some ⟨uu 4 (ob :: uu 13 []),[]⟩)) .n)))
noncomputable def jb2:FI:=jB Tryz.f111 0 [.ct .s,.ct (.i .i64)] [(false,[.ct (.i .i64)])] (fun _=>(.s .n (.s (.s (.r [] (some ⟨os :: oi :: uu 17 (ob :: uu 25 []),[]⟩)) .n) (.s (.s .n (.b (.b (.s .n (.s (.b (.s (.s (.r [] (some ⟨os :: uu 4 (oi :: uu 31 (ob :: uu 7 [])),[]⟩)) .n) .n) ⟨os :: uu 4 (oi :: uu 39 []),[]⟩) .n)) ⟨os :: uu 4 (oi :: uu 39 []),[]⟩) ⟨uu 45 [],[]⟩)) .n))))
noncomputable def jb1:FI:=jB Tryz.f112 8 [.ct .s] [(false,[.ct .s]),(false,[.ct .b])] (fun _=>(.s .n (.s (.s (.r [] (some ⟨os :: uu 20 (ob :: uu 53 []),vv 8 []⟩)) .n) (.s (.r [0,0] none) (.s (.s .n (.b (.b (.s .n (.s (.b (.s (.s (.r [] (some ⟨os :: uu 3 (.one (.own 5 2) :: oi :: uu 45 (ob :: uu 23 [])),vv 8 []⟩)) .n) (.s (.s (.r [] (some ⟨os :: uu 3 (.one (.own 5 3) :: oi :: uu 55 (ob :: uu 13 [])),vv 8 []⟩)) .n) (.r [0,0,0,0,4,5,0] none))) ⟨os :: uu 3 (.one (.own 5 6) :: oi :: uu 69 []),vv 8 []⟩) .n)) ⟨os :: uu 3 (.one (.own 5 1) :: oi :: uu 69 []),vv 8 []⟩) ⟨uu 4 (.one (.own 5 7) :: uu 70 []),vv 8 []⟩)) .n)))))
noncomputable def jb0:FI:=jB Tryz.f113 0 [.ct .s,.ct (.i .i64)] [(false,[.ct (.i .i64)])] (fun _=>(.s .n (.s (.s (.r [] (some ⟨os :: oi :: uu 17 (ob :: uu 38 []),[]⟩)) .n) (.s (.s .n (.b (.b (.s .n (.s (.b (.s .n (.b (.s .n (.c .n (.s (.s .n (.c .n .n (some ⟨os :: uu 4 (oi :: uu 24 (.one (.i .u8) :: uu 4 (ob :: uu 22 []))),[]⟩))) (.c .n (.s .n (.c (.s .n (.s (.r [] (some ⟨os :: uu 4 (oi :: uu 51 (ob :: [])),[]⟩)) .n)) .n (some ⟨os :: uu 4 (oi :: uu 52 []),[]⟩))) none)) none)) ⟨os :: uu 4 (oi :: uu 52 []),[]⟩)) ⟨os :: uu 4 (oi :: uu 52 []),[]⟩) .n)) ⟨os :: uu 4 (oi :: uu 52 []),[]⟩) ⟨uu 58 [],[]⟩)) .n))))
noncomputable def jaZ:FI:=jB Tryz.f114 8 [.ct .s] [(false,[.ct .s]),(false,[.ct .b])] (fun _=>(.s .n (.s (.s (.r [] (some ⟨os :: uu 29 (ob :: uu 52 []),vv 8 []⟩)) .n) (.s .n (.s (.r [0,0] none) (.s (.s .n (.b (.b (.s .n (.b (.s .n (.s .n (.s (.s .n (.c .n (.s .n (.s .n (.s .n (.s (.r [] (some ⟨uu 4 (os :: .one (.own 5 2) :: ou :: oi :: oi :: uu 61 (ob :: uu 12 [])),vv 8 []⟩)) (.c .n .n (some ⟨uu 4 (os :: .one (.own 5 3) :: ou :: oi :: oi :: uu 74 []),vv 8 []⟩)))))) (some ⟨uu 4 (os :: .one (.own 5 4) :: ou :: oi :: oi :: uu 74 []),vv 8 []⟩))) (.s .n (.s (.r [0,0,0,5,0] none) .n))))) ⟨uu 4 (os :: .one (.own 5 6) :: oi :: uu 76 []),vv 8 []⟩)) ⟨uu 4 (os :: .one (.own 5 1) :: oi :: uu 76 []),vv 8 []⟩) ⟨uu 5 (.one (.own 5 7) :: uu 77 []),vv 8 []⟩)) .n))))))
noncomputable def jaY:FI:=jB Tryz.f115 0 [.ct .s] [(false,[.ct .b])] (fun _=>(.s .n (.s (.s .n (.b (.s (.s .n (.c .n (.s .n (.c .n (.s .n (.c .n (.s .n (.c .n (.s .n (.c .n (.s .n (.c .n (.s .n (.c .n (.s .n (.c .n (.s .n (.c .n (.s .n (.c .n (.s .n (.c .n (.s .n (.c .n (.s .n (.c .n .n (some ⟨uu 4 (ob :: uu 14 []),[]⟩))) (some ⟨uu 4 (ob :: uu 14 []),[]⟩))) (some ⟨uu 4 (ob :: uu 14 []),[]⟩))) (some ⟨uu 4 (ob :: uu 14 []),[]⟩))) (some ⟨uu 4 (ob :: uu 14 []),[]⟩))) (some ⟨uu 4 (ob :: uu 14 []),[]⟩))) (some ⟨uu 4 (ob :: uu 14 []),[]⟩))) (some ⟨uu 4 (ob :: uu 14 []),[]⟩))) (some ⟨uu 4 (ob :: uu 14 []),[]⟩))) (some ⟨uu 4 (ob :: uu 14 []),[]⟩))) (some ⟨uu 4 (ob :: uu 14 []),[]⟩))) (some ⟨uu 4 (ob :: uu 14 []),[]⟩))) (some ⟨uu 4 (ob :: uu 14 []),[]⟩))) .n) ⟨uu 19 [],[]⟩)) .n)))
noncomputable def jaX:FI:=jB Tryz.f116 3 [.ptr] [(true,[.ct .s,.ct .s])] (fun _=>(.s (.r [1] none) (.s (.r [0,2,0] none) (.s .n (.s (.b (.b (.s .n (.b .n ⟨.one (.ptr 0 0) :: ou :: .one (.ptr 1 0) :: .one (.ptr 2 0) :: oi :: uu 61 [],.var 53 [.sl 117,.i .i64,.i .i64,.i .i64,.i .i64] :: .var 133 [.s,.s] :: .var 133 [.s,.s] :: []⟩)) ⟨.one (.ptr 0 0) :: ou :: .one (.ptr 1 0) :: .one (.ptr 2 0) :: oi :: uu 61 [],.var 53 [.sl 117,.i .i64,.i .i64,.i .i64,.i .i64] :: .var 133 [.s,.s] :: .var 133 [.s,.s] :: []⟩) ⟨.one (.ptr 0 0) :: ou :: .one (.ptr 1 0) :: .one (.ptr 2 0) :: oi :: uu 61 [],.var 53 [.sl 117,.i .i64,.i .i64,.i .i64,.i .i64] :: .var 133 [.s,.s] :: .var 133 [.s,.s] :: []⟩) (.s .n (.s (.b (.b (.s .n (.b (.s (.s (.r [] (some ⟨.one (.ptr 0 0) :: ou :: .one (.ptr 1 0) :: .one (.ptr 2 0) :: oi :: uu 42 (ob :: uu 18 []),.var 53 [.sl 117,.i .i64,.i .i64,.i .i64,.i .i64] :: .var 133 [.s,.s] :: .var 133 [.s,.s] :: []⟩)) .n) .n) ⟨.one (.ptr 0 0) :: ou :: .one (.ptr 1 0) :: .one (.ptr 2 0) :: oi :: uu 61 [],.var 53 [.sl 117,.i .i64,.i .i64,.i .i64,.i .i64] :: .var 133 [.s,.s] :: .var 133 [.s,.s] :: []⟩)) ⟨.one (.ptr 0 0) :: ou :: .one (.ptr 1 0) :: .one (.ptr 2 0) :: oi :: uu 61 [],.var 53 [.sl 117,.i .i64,.i .i64,.i .i64,.i .i64] :: .var 133 [.s,.s] :: .var 133 [.s,.s] :: []⟩) ⟨ou :: ou :: .one (.ptr 1 0) :: .one (.ptr 2 0) :: uu 62 [],.var 53 [.sl 117,.i .i64,.i .i64,.i .i64,.i .i64] :: .var 133 [.s,.s] :: .var 133 [.s,.s] :: []⟩) .n)))))))
noncomputable def jaW:FI:=jB Tryz.f117 21 [.ptr,.ct .b,.ct (.i .i64)] [(true,[.ct (.i .i64),.ct .s,.new 138,.new 9])] (fun _=>(.s (.r [1] none) (.s (.r [0,2,0] none) (.s .n (.s .n (.s (.r [0,0,0,0,0,0,0,0,0,0,3,0] none) (.s (.s .n (.b (.s (.s .n (.c .n (.s .n (.c .n .n (some ⟨.one (.ptr 0 0) :: ob :: oi :: uu 3 (.one (.ptr 1 0) :: .one (.ptr 2 0) :: .one (.ptr 3 0) :: uu 33 (oi :: ob :: uu 125 [])),.var 53 [.sl 117,.i .i64,.i .i64,.i .i64,.i .i64] :: .var 138 [.i .i64,.s,.nil,.nil] :: .var 138 [.i .i64,.s,.nil,.nil] :: .var 117 [.i .i64,.s,.i .i64] :: vv 17 []⟩))) (some ⟨.one (.ptr 0 0) :: ob :: oi :: uu 3 (.one (.ptr 1 0) :: .one (.ptr 2 0) :: .one (.ptr 3 0) :: uu 33 (oi :: ob :: uu 125 [])),.var 53 [.sl 117,.i .i64,.i .i64,.i .i64,.i .i64] :: .var 138 [.i .i64,.s,.nil,.nil] :: .var 138 [.i .i64,.s,.nil,.nil] :: .var 117 [.i .i64,.s,.i .i64] :: vv 17 []⟩))) (.c (.s .n (.s .n (.s .n (.s (.s .n (.c .n .n (some ⟨uu 6 (.one (.ptr 1 0) :: .one (.ptr 2 0) :: .one (.ptr 3 0) :: uu 160 []),.var 53 [.sl 117,.i .i64,.i .i64,.i .i64,.i .i64] :: .var 138 [.i .i64,.s,.nil,.nil] :: .var 138 [.i .i64,.s,.nil,.nil] :: .var 117 [.i .i64,.s,.i .i64] :: vv 17 []⟩))) (.s (.s .n (.c .n .n (some ⟨uu 6 (.one (.ptr 1 0) :: .one (.ptr 2 0) :: uu 161 []),.var 53 [.sl 117,.i .i64,.i .i64,.i .i64,.i .i64] :: .var 138 [.i .i64,.s,.nil,.nil] :: .var 138 [.i .i64,.s,.nil,.nil] :: vv 18 []⟩))) .n))))) (.s .n (.c (.s .n (.s .n (.s .n (.s (.s .n (.c .n .n (some ⟨uu 6 (.one (.ptr 1 0) :: .one (.ptr 2 0) :: uu 161 []),.var 53 [.sl 117,.i .i64,.i .i64,.i .i64,.i .i64] :: .var 138 [.i .i64,.s,.nil,.nil] :: .var 138 [.i .i64,.s,.nil,.nil] :: vv 18 []⟩))) .n)))) .n none)) none)) ⟨.one (.ptr 0 0) :: ob :: oi :: uu 3 (.one (.ptr 1 0) :: .one (.ptr 2 0) :: .one (.ptr 3 0) :: uu 160 []),.var 53 [.sl 117,.i .i64,.i .i64,.i .i64,.i .i64] :: .var 138 [.i .i64,.s,.nil,.nil] :: .var 138 [.i .i64,.s,.nil,.nil] :: .var 117 [.i .i64,.s,.i .i64] :: vv 17 []⟩)) (.s (.b (.s (.r [] (some ⟨.one (.ptr 0 0) :: ob :: oi :: uu 3 (.one (.ptr 1 0) :: .one (.ptr 2 0) :: .one (.ptr 3 0) :: uu 76 (ob :: uu 83 [])),.var 53 [.sl 117,.i .i64,.i .i64,.i .i64,.i .i64] :: .var 138 [.i .i64,.s,.nil,.nil] :: .var 138 [.i .i64,.s,.nil,.nil] :: .var 117 [.i .i64,.s,.i .i64] :: vv 17 []⟩)) (.c .n (.s (.r [] (some ⟨.one (.ptr 0 0) :: ob :: oi :: uu 3 (.one (.ptr 1 0) :: .one (.ptr 2 0) :: .one (.ptr 3 0) :: uu 96 (ob :: uu 63 [])),.var 53 [.sl 117,.i .i64,.i .i64,.i .i64,.i .i64] :: .var 138 [.i .i64,.s,.nil,.nil] :: .var 138 [.i .i64,.s,.nil,.nil] :: .var 117 [.i .i64,.s,.i .i64] :: vv 17 []⟩)) (.c (.s .n (.s .n (.s .n (.s .n (.s (.s .n (.c .n .n (some ⟨.one (.ptr 0 0) :: ob :: oi :: uu 3 (.one (.ptr 1 0) :: .one (.ptr 2 0) :: ou :: os :: uu 159 []),.var 53 [.sl 117,.i .i64,.i .i64,.i .i64,.i .i64] :: .var 138 [.i .i64,.s,.nil,.nil] :: .var 138 [.i .i64,.s,.nil,.nil] :: vv 18 []⟩))) (.s (.b (.b (.s (.s (.r [] (some ⟨.one (.ptr 0 0) :: ob :: oi :: uu 3 (.one (.ptr 1 0) :: .one (.ptr 2 0) :: ou :: os :: uu 132 (ob :: uu 26 [])),.var 53 [.sl 117,.i .i64,.i .i64,.i .i64,.i .i64] :: .var 138 [.i .i64,.s,.nil,.nil] :: .var 138 [.i .i64,.s,.own 138 16,.own 9 17] :: vv 18 []⟩)) .n) (.b (.s (.s .n (.c (.s (.r [0,0,0,0,4,5,0,0] none) .n) .n (some ⟨.one (.ptr 0 0) :: ob :: oi :: uu 3 (.one (.ptr 1 0) :: .one (.ptr 2 0) :: ou :: os :: uu 159 []),.var 53 [.sl 117,.i .i64,.i .i64,.i .i64,.i .i64] :: .var 138 [.i .i64,.s,.nil,.nil] :: .var 138 [.i .i64,.s,.own 138 18,.own 9 6] :: vv 18 []⟩))) (.r [0,0,0,0,0,0,7,10,11,0,0] none)) ⟨.one (.ptr 0 0) :: ob :: oi :: uu 3 (.one (.ptr 1 0) :: .one (.ptr 2 0) :: ou :: os :: uu 159 []),.var 53 [.sl 117,.i .i64,.i .i64,.i .i64,.i .i64] :: .var 138 [.i .i64,.s,.nil,.nil] :: .var 138 [.i .i64,.s,.own 138 12,.own 9 13] :: vv 18 []⟩)) ⟨.one (.ptr 0 0) :: ob :: oi :: uu 3 (.one (.ptr 1 0) :: .one (.ptr 2 0) :: ou :: os :: uu 159 []),.var 53 [.sl 117,.i .i64,.i .i64,.i .i64,.i .i64] :: .var 138 [.i .i64,.s,.nil,.nil] :: .var 138 [.i .i64,.s,.own 138 14,.own 9 15] :: vv 18 []⟩) ⟨uu 6 (.one (.ptr 1 0) :: .one (.ptr 2 0) :: uu 161 []),.var 53 [.sl 117,.i .i64,.i .i64,.i .i64,.i .i64] :: .var 138 [.i .i64,.s,.nil,.nil] :: .var 138 [.i .i64,.s,.own 138 19,.own 9 20] :: vv 18 []⟩) .n)))))) .n none)) none)) ⟨.one (.ptr 0 0) :: uu 5 (.one (.ptr 1 0) :: .one (.ptr 2 0) :: uu 161 []),.var 53 [.sl 117,.i .i64,.i .i64,.i .i64,.i .i64] :: .var 138 [.i .i64,.s,.nil,.nil] :: .var 138 [.i .i64,.s,.nil,.nil] :: vv 18 []⟩) .n))))))))
noncomputable def jaV:FI:=jB Tryz.f118 12 [.ptr,.ct .b] [(false,[.new 151])] (fun _=>(.s .n (.s (.r [2,0] none) (.s .n (.s (.b (.b (.s .n (.b (.s (.r [0,0,0,4,0] none) (.s .n (.s (.r [0,0,5,0,0] none) (.s (.r [0,0,8,9,0] none) .n)))) ⟨.one (.ptr 0 0) :: ob :: uu 3 (.one (.own 151 10) :: uu 28 []),.var 53 [.sl 117,.i .i64,.i .i64,.i .i64,.i .i64] :: vv 11 []⟩)) ⟨.one (.ptr 0 0) :: ob :: uu 3 (.one (.own 151 3) :: uu 28 []),.var 53 [.sl 117,.i .i64,.i .i64,.i .i64,.i .i64] :: vv 11 []⟩) ⟨uu 5 (.one (.own 151 11) :: uu 28 []),.var 53 [.sl 117,.i .i64,.i .i64,.i .i64,.i .i64] :: vv 11 []⟩) .n)))))
noncomputable def jaU:FI:=jB Tryz.f119 8 [.ptr] [(true,[.ct .s,.ct .s,.ct .s,.ct .s,.ct .b,.ct (.i .i64),.ct .s,.new 138,.new 9,.new 146])] (fun _=>(.s (.r [1] none) (.s (.r [0,0,0,2,0] none) (.s .n (.s .n (.s .n (.s (.s .n (.c (.s .n (.r [0,3,0,0] none)) .n (some ⟨.one (.ptr 0 0) :: ou :: .one (.ptr 1 0) :: .one (.ptr 2 0) :: uu 21 [],.var 53 [.sl 117,.i .i64,.i .i64,.i .i64,.i .i64] :: .var 140 [.s,.s,.s,.s,.b,.i .i64,.s,.nil,.nil,.nil] :: .var 140 [.s,.s,.s,.s,.b,.i .i64,.s,.own 138 5,.own 9 6,.nil] :: vv 5 []⟩))) (.s (.r [0,7,0,0] none) .n))))))))
noncomputable def jaT:FI:=jB Tryz.f120 0 [.ct .s] [(false,[.ct .b])] (fun _=>(.s .n (.s (.s .n (.b (.s (.s .n (.c .n (.s .n (.c .n (.s .n (.c .n (.s .n (.c .n (.s .n (.c .n (.s .n (.c .n (.s .n (.c .n (.s .n (.c .n (.s .n (.c .n (.s .n (.c .n (.s .n (.c .n (.s .n (.c .n (.s .n (.c .n (.s .n (.c .n (.s .n (.c .n (.s .n (.c .n (.s .n (.c .n (.s .n (.c .n .n (some ⟨uu 4 (ob :: uu 19 []),[]⟩))) (some ⟨uu 4 (ob :: uu 19 []),[]⟩))) (some ⟨uu 4 (ob :: uu 19 []),[]⟩))) (some ⟨uu 4 (ob :: uu 19 []),[]⟩))) (some ⟨uu 4 (ob :: uu 19 []),[]⟩))) (some ⟨uu 4 (ob :: uu 19 []),[]⟩))) (some ⟨uu 4 (ob :: uu 19 []),[]⟩))) (some ⟨uu 4 (ob :: uu 19 []),[]⟩))) (some ⟨uu 4 (ob :: uu 19 []),[]⟩))) (some ⟨uu 4 (ob :: uu 19 []),[]⟩))) (some ⟨uu 4 (ob :: uu 19 []),[]⟩))) (some ⟨uu 4 (ob :: uu 19 []),[]⟩))) (some ⟨uu 4 (ob :: uu 19 []),[]⟩))) (some ⟨uu 4 (ob :: uu 19 []),[]⟩))) (some ⟨uu 4 (ob :: uu 19 []),[]⟩))) (some ⟨uu 4 (ob :: uu 19 []),[]⟩))) (some ⟨uu 4 (ob :: uu 19 []),[]⟩))) (some ⟨uu 4 (ob :: uu 19 []),[]⟩))) .n) ⟨uu 24 [],[]⟩)) .n)))
noncomputable def jaS:FI:=jB Tryz.f121 0 [.ct .s] [(false,[.ct .b])] (fun _=>(.s .n (.s (.r [] (some ⟨ou :: ou :: ob :: uu 10 [],[]⟩)) .n)))
noncomputable def jaR:FI:=jB Tryz.f122 1 [.ptr] [(false,[.ct .s])] (fun _=>.n)
noncomputable def jaQ:FI:=jB Tryz.f123 11 [.ptr,.ct .b] [(false,[.new 1146])] (fun _=>(.s .n (.s (.r [1,0] none) (.s (.s .n (.b (.b (.s .n (.s (.b (.r [0,0,4,0,0,0,5,0,7,8,0] none) ⟨.one (.ptr 0 0) :: ob :: uu 3 (.one (.own 1146 9) :: oi :: uu 18 []),.var 85 [.sl 5,.i .i64,.i .i64] :: vv 10 []⟩) .n)) ⟨.one (.ptr 0 0) :: ob :: uu 3 (.one (.own 1146 2) :: oi :: uu 18 []),.var 85 [.sl 5,.i .i64,.i .i64] :: vv 10 []⟩) ⟨uu 5 (.one (.own 1146 10) :: uu 19 []),.var 85 [.sl 5,.i .i64,.i .i64] :: vv 10 []⟩)) .n))))
noncomputable def jaP:FI:=jB Tryz.f124 3 [.ptr] [(false,[.ct .s])] (fun _=>(.s .n (.s (.r [0,2,0,0] none) .n)))
noncomputable def jaO:FI:=jB Tryz.f125 21 [.ptr] [(false,[.new 1140])] (fun _=>(.s .n (.s (.r [1,0] none) (.s (.s .n (.b (.b (.s .n (.s (.b (.s (.r [0,4,0,0,0,0,0,0,5,0] none) (.s (.s .n (.c (.s .n (.r [0,6,0,0] none)) .n (some ⟨.one (.ptr 0 0) :: ou :: ou :: .one (.own 1140 8) :: oi :: .one (.ptr 5 0) :: uu 31 [],.var 85 [.sl 5,.i .i64,.i .i64] :: vv 4 (.var 140 [.s,.s,.s,.s,.b,.i .i64,.s,.own 1138 9,.own 9 10,.nil] :: vv 15 [])⟩))) (.s (.s .n (.c (.r [0,11,0,0] none) .n (some ⟨.one (.ptr 0 0) :: ou :: ou :: .one (.own 1140 12) :: oi :: .one (.ptr 5 0) :: uu 31 [],.var 85 [.sl 5,.i .i64,.i .i64] :: vv 4 (.var 140 [.s,.s,.s,.s,.b,.i .i64,.s,.own 1138 13,.own 9 14,.own 1146 15] :: vv 15 [])⟩))) (.r [0,0,17,18,0] none)))) ⟨.one (.ptr 0 0) :: ou :: ou :: .one (.own 1140 19) :: oi :: uu 32 [],.var 85 [.sl 5,.i .i64,.i .i64] :: vv 20 []⟩) .n)) ⟨.one (.ptr 0 0) :: ou :: ou :: .one (.own 1140 2) :: oi :: uu 32 [],.var 85 [.sl 5,.i .i64,.i .i64] :: vv 20 []⟩) ⟨uu 3 (.one (.own 1140 20) :: uu 33 []),.var 85 [.sl 5,.i .i64,.i .i64] :: vv 20 []⟩)) .n))))
noncomputable def jaN:FI:=jB Tryz.f126 5 [.ptr] [(true,[.ct .s,.ct .s])] (fun _=>(.s (.r [1] none) (.s (.r [0,2,0,0,4,0,0,0] none) .n)))
noncomputable def jaM:FI:=jB Tryz.f127 1 [.ptr,.ct (.i .i64)] [(false,[.ct .b])] (fun _=>.n)
noncomputable def jaL:FI:=jB Tryz.f128 3 [.ptr] [(false,[.ct .s])] (fun _=>(.s .n (.s (.r [0,2,0,0] none) .n)))
noncomputable def jaK:FI:=jB Tryz.f129 2 [.ag [.i .i64,.s,.sl 138,.sl 9],.ag [.i .i64,.s,.sl 138,.sl 9]] [(false,[.ct .b])] (fun _=>(.s (.r [0,1,0] none) (.s (.r [] (some ⟨uu 4 (ob :: uu 26 []),.u :: .u :: []⟩)) .n)))
noncomputable def jaJ:FI:=jB Tryz.f130 0 [.ct (.sl 151),.ct (.sl 151)] [(false,[.ct .b])] (fun _=>(.s .n (.s .n (.s (.s .n (.b (.b (.s .n (.s (.b .n ⟨ol 151 :: ol 151 :: uu 3 (oi :: uu 21 []),[]⟩) .n)) ⟨ol 151 :: ol 151 :: uu 3 (oi :: uu 21 []),[]⟩) ⟨uu 27 [],[]⟩)) .n))))
noncomputable def j9l:FI:=jB Tryz.f132 0 [.ct (.i .i64)] [(false,[.ct .b])] (fun _=>(.s .n (.s (.r [] (some ⟨ou :: ou :: ob :: uu 7 [],[]⟩)) .n)))
noncomputable def jaI:FI:=jB Tryz.f133 0 [.ct .s] [(false,[.ct (.i .i64)])] (fun _=>(.s .n (.s .n (.s (.s (.r [] (some ⟨os :: ou :: ou :: oi :: uu 8 (ob :: uu 19 []),[]⟩)) (.c .n .n (some ⟨os :: ou :: ou :: oi :: uu 28 [],[]⟩))) (.s .n (.s (.s (.r [] (some ⟨uu 4 (oi :: uu 25 (ob :: ou :: [])),[]⟩)) .n) .n))))))
noncomputable def jaH:FI:=jB Tryz.f134 0 [.ct .s,.ct (.i .i64)] [(false,[.ct (.i .i64)])] (fun _=>(.s .n (.s (.b (.b (.s (.s (.r [] (some ⟨os :: oi :: uu 12 (ob :: uu 3 []),[]⟩)) .n) (.b .n ⟨os :: oi :: uu 16 [],[]⟩)) ⟨os :: oi :: uu 16 [],[]⟩) ⟨ou :: oi :: uu 16 [],[]⟩) .n)))
noncomputable def jaG:FI:=jB Tryz.f135 0 [.ct .s] [(false,[.ct .b])] (fun _=>(.s .n (.s (.s .n (.b (.b (.s .n (.b .n ⟨os :: ou :: ou :: oi :: uu 17 [],[]⟩)) ⟨os :: ou :: ou :: oi :: uu 17 [],[]⟩) ⟨uu 21 [],[]⟩)) .n)))
noncomputable def jaF:FI:=jB Tryz.f136 32 [.ct .s] [(false,[.ct .s])] (fun _=>(.s .n (.s (.r [0,0,0] none) (.s .n (.s (.s .n (.b (.b (.s .n (.s (.b (.s .n (.s (.r [] (some ⟨uu 3 (.one (.own 9 2) :: oi :: oi :: oi :: uu 34 (ob :: uu 93 [])),vv 32 []⟩)) (.c .n .n (some ⟨uu 3 (.one (.own 9 3) :: oi :: oi :: uu 129 []),vv 32 []⟩)))) ⟨uu 3 (.one (.own 9 4) :: oi :: oi :: uu 129 []),vv 32 []⟩) .n)) ⟨uu 3 (.one (.own 9 1) :: oi :: oi :: uu 129 []),vv 32 []⟩) ⟨uu 3 (.one (.own 9 5) :: oi :: uu 130 []),vv 32 []⟩)) (.s (.s .n (.b (.b (.s .n (.s (.b (.s .n (.s (.s (.r [] (some ⟨uu 3 (.one (.own 9 7) :: oi :: ou :: ou :: oi :: oi :: uu 51 (ob :: uu 74 [])),vv 32 []⟩)) (.c .n .n (some ⟨uu 3 (.one (.own 9 8) :: oi :: ou :: ou :: oi :: oi :: uu 126 []),vv 32 []⟩))) (.s (.s .n (.c .n .n (some ⟨uu 3 (.one (.own 9 9) :: oi :: ou :: ou :: oi :: oi :: uu 126 []),vv 32 []⟩))) .n))) ⟨uu 3 (.one (.own 9 10) :: oi :: ou :: ou :: oi :: uu 127 []),vv 32 []⟩) .n)) ⟨uu 3 (.one (.own 9 6) :: oi :: ou :: ou :: oi :: uu 127 []),vv 32 []⟩) ⟨uu 3 (.one (.own 9 11) :: uu 131 []),vv 32 []⟩)) (.s .n (.s (.b (.b (.s (.s (.r [] (some ⟨uu 3 (.one (.own 9 13) :: uu 5 (oi :: uu 79 (ob :: uu 45 []))),vv 32 []⟩)) .n) (.b .n ⟨uu 3 (.one (.own 9 14) :: uu 5 (oi :: uu 125 [])),vv 32 []⟩)) ⟨uu 3 (.one (.own 9 12) :: uu 5 (oi :: uu 125 [])),vv 32 []⟩) ⟨uu 3 (.one (.own 9 15) :: uu 5 (oi :: uu 125 [])),vv 32 []⟩) (.s .n (.s (.b (.b (.s (.s (.r [] (some ⟨uu 3 (.one (.own 9 17) :: uu 5 (oi :: oi :: uu 100 (ob :: uu 23 []))),vv 32 []⟩)) .n) (.b .n ⟨uu 3 (.one (.own 9 18) :: uu 5 (oi :: oi :: uu 124 [])),vv 32 []⟩)) ⟨uu 3 (.one (.own 9 16) :: uu 5 (oi :: oi :: uu 124 [])),vv 32 []⟩) ⟨uu 3 (.one (.own 9 19) :: uu 5 (oi :: oi :: uu 124 [])),vv 32 []⟩) (.s (.r [20,0] none) (.s (.s .n (.b (.b (.s .n (.s (.b (.s (.s .n (.c (.r [0,24,25,0] none) .n (some ⟨uu 3 (.one (.own 9 26) :: uu 5 (oi :: oi :: .one (.own 5 27) :: oi :: uu 122 [])),vv 32 []⟩))) (.r [0,0,0,0,0,28,0] none)) ⟨uu 3 (.one (.own 9 29) :: uu 5 (oi :: oi :: .one (.own 5 30) :: oi :: uu 122 [])),vv 32 []⟩) .n)) ⟨uu 3 (.one (.own 9 21) :: uu 5 (oi :: oi :: .one (.own 5 22) :: oi :: uu 122 [])),vv 32 []⟩) ⟨uu 11 (.one (.own 5 31) :: uu 123 []),vv 32 []⟩)) .n))))))))))))
noncomputable def jaE:FI:=jB Tryz.f137 0 [.ct .s,.ct (.i .i64)] [(false,[.ct (.i .i64)]),(false,[.ct (.i .i64)])] (fun _=>(.s .n (.s .n (.s (.s .n (.b (.s (.s .n (.c .n (.s .n (.c .n .n (some ⟨os :: oi :: uu 17 (.one (.i .u8) :: ou :: ob :: uu 159 []),[]⟩))) (some ⟨os :: oi :: uu 17 (.one (.i .u8) :: ou :: ob :: uu 159 []),[]⟩))) .n) ⟨os :: oi :: uu 179 [],[]⟩)) (.s (.s (.r [] (some ⟨os :: oi :: uu 63 (ob :: uu 115 []),[]⟩)) (.c (.s .n (.s (.b (.b (.s (.s (.r [] (some ⟨os :: oi :: uu 4 (oi :: uu 77 (ob :: uu 96 [])),[]⟩)) .n) (.b .n ⟨os :: oi :: uu 4 (oi :: uu 174 []),[]⟩)) ⟨os :: oi :: uu 4 (oi :: uu 174 []),[]⟩) ⟨os :: oi :: uu 4 (oi :: uu 174 []),[]⟩) (.s .n (.s (.s (.r [] (some ⟨ou :: oi :: uu 4 (oi :: oi :: uu 110 (ob :: uu 62 [])),[]⟩)) .n) .n)))) .n none)) (.s .n (.s .n (.s (.s (.r [] (some ⟨os :: oi :: uu 6 (oi :: uu 145 (ob :: uu 26 [])),[]⟩)) .n) .n))))))))
noncomputable def jaD:FI:=jB Tryz.f138 3 [.ptr,.ag [.s,.s],.ct .s] [(true,[.ct .s,.ct .s])] (fun _=>(.s (.r [1,2] none) .n))
noncomputable def jaC:FI:=jB Tryz.f139 1 [.ptr] [(false,[.ct .s])] (fun _=>(.s .n (.s .n (.s (.s .n (.b (.b (.s .n (.s (.b .n ⟨.one (.ptr 0 0) :: ou :: ou :: os :: oi :: uu 12 [],.var 85 [.sl 5,.i .i64,.i .i64] :: []⟩) .n)) ⟨.one (.ptr 0 0) :: ou :: ou :: os :: oi :: uu 12 [],.var 85 [.sl 5,.i .i64,.i .i64] :: []⟩) ⟨uu 3 (os :: uu 13 []),.var 85 [.sl 5,.i .i64,.i .i64] :: []⟩)) .n))))
noncomputable def jaB:FI:=jB Tryz.f140 9 [.ptr,.ct .b] [(false,[.new 1151])] (fun _=>(.s .n (.s (.r [1,0] none) (.s (.s .n (.b (.b (.s .n (.s (.b (.r [0,0,0,0,0,3,0,5,6,0] none) ⟨.one (.ptr 0 0) :: ob :: uu 3 (.one (.own 1151 7) :: oi :: uu 17 []),.var 85 [.sl 5,.i .i64,.i .i64] :: vv 8 []⟩) .n)) ⟨.one (.ptr 0 0) :: ob :: uu 3 (.one (.own 1151 2) :: oi :: uu 17 []),.var 85 [.sl 5,.i .i64,.i .i64] :: vv 8 []⟩) ⟨uu 5 (.one (.own 1151 8) :: uu 18 []),.var 85 [.sl 5,.i .i64,.i .i64] :: vv 8 []⟩)) .n))))
noncomputable def jaA:FI:=jB Tryz.f141 34 [.ptr,.ct (.i .i64),.ct .b] [(true,[.ct (.i .i64),.ct .s,.new 1138,.new 9])] (fun _=>(.s (.r [1] none) (.s .n (.s (.s (.r [] (some ⟨.one (.ptr 0 0) :: oi :: ob :: uu 3 (.one (.ptr 1 0) :: oi :: uu 11 (ob :: uu 86 [])),.var 85 [.sl 5,.i .i64,.i .i64] :: .var 138 [.i .i64,.s,.nil,.nil] :: vv 32 []⟩)) (.c .n .n (some ⟨.one (.ptr 0 0) :: oi :: ob :: uu 3 (.one (.ptr 1 0) :: oi :: uu 98 []),.var 85 [.sl 5,.i .i64,.i .i64] :: .var 138 [.i .i64,.s,.nil,.nil] :: vv 32 []⟩))) (.s (.s .n (.b (.s .n (.c (.s (.r [0,2,0,0,0] none) .n) (.s .n (.c (.s (.r [0,4,0,0,0] none) .n) (.s .n (.c .n (.s .n (.c (.s (.r [0,6,0,0,0] none) .n) (.s .n (.c (.s (.r [0,8,0,0,0] none) .n) (.s (.s .n (.c .n .n (some ⟨.one (.ptr 0 0) :: oi :: ob :: uu 3 (.one (.ptr 1 0) :: uu 15 (oi :: uu 29 (ob :: uu 53 []))),.var 85 [.sl 5,.i .i64,.i .i64] :: .var 138 [.i .i64,.s,.nil,.nil] :: vv 32 []⟩))) (.c (.s (.s .n (.c (.s (.r [0,10,0,0,0] none) .n) .n none)) .n) (.s .n (.c (.s (.r [0,11,0] none) (.s (.s .n (.b (.b (.s .n (.s (.b (.s (.r [0,0,0,0,12,13,0,0] none) (.r [0,0,0,0,0,0,14,17,18,0,0] none)) ⟨.one (.ptr 0 0) :: oi :: ob :: uu 3 (.one (.ptr 1 0) :: ou :: .one (.ptr 11 0) :: oi :: uu 96 []),.var 85 [.sl 5,.i .i64,.i .i64] :: .var 138 [.i .i64,.s,.nil,.nil] :: vv 9 (.var 138 [.i .i64,.s,.own 1138 19,.own 9 20] :: vv 22 [])⟩) .n)) ⟨.one (.ptr 0 0) :: oi :: ob :: uu 3 (.one (.ptr 1 0) :: ou :: .one (.ptr 11 0) :: oi :: uu 96 []),.var 85 [.sl 5,.i .i64,.i .i64] :: .var 138 [.i .i64,.s,.nil,.nil] :: vv 9 (.var 138 [.i .i64,.s,.own 1138 21,.own 9 22] :: vv 22 [])⟩) ⟨uu 6 (.one (.ptr 1 0) :: ou :: .one (.ptr 11 0) :: uu 97 []),.var 85 [.sl 5,.i .i64,.i .i64] :: .var 138 [.i .i64,.s,.nil,.nil] :: vv 9 (.var 138 [.i .i64,.s,.own 1138 23,.own 9 24] :: vv 22 [])⟩)) .n)) .n none)) none)) none)) none)) none)) none)) none)) ⟨.one (.ptr 0 0) :: oi :: ob :: uu 3 (.one (.ptr 1 0) :: uu 99 []),.var 85 [.sl 5,.i .i64,.i .i64] :: .var 138 [.i .i64,.s,.nil,.nil] :: vv 32 []⟩)) (.s (.r [0,25,0] none) (.s (.s .n (.b (.b (.s .n (.s (.b (.r [0,0,0,0,0,0,26,29,30,0,0] none) ⟨.one (.ptr 0 0) :: oi :: ob :: uu 3 (.one (.ptr 1 0) :: uu 3 (.one (.ptr 25 0) :: oi :: uu 94 [])),.var 85 [.sl 5,.i .i64,.i .i64] :: .var 138 [.i .i64,.s,.nil,.nil] :: vv 23 (.var 138 [.i .i64,.s,.own 1138 31,.nil] :: vv 8 [])⟩) .n)) ⟨.one (.ptr 0 0) :: oi :: ob :: uu 3 (.one (.ptr 1 0) :: uu 3 (.one (.ptr 25 0) :: oi :: uu 94 [])),.var 85 [.sl 5,.i .i64,.i .i64] :: .var 138 [.i .i64,.s,.nil,.nil] :: vv 23 (.var 138 [.i .i64,.s,.own 1138 32,.nil] :: vv 8 [])⟩) ⟨uu 6 (.one (.ptr 1 0) :: uu 3 (.one (.ptr 25 0) :: uu 95 [])),.var 85 [.sl 5,.i .i64,.i .i64] :: .var 138 [.i .i64,.s,.nil,.nil] :: vv 23 (.var 138 [.i .i64,.s,.own 1138 33,.nil] :: vv 8 [])⟩)) .n)))))))
noncomputable def jaz:FI:=jB Tryz.f142 0 [.ct (.sl 138),.ct (.sl 138)] [(false,[.ct .b])] (fun _=>(.s .n (.s .n (.s (.s .n (.b (.b (.s .n (.s (.b .n ⟨ol 138 :: ol 138 :: uu 3 (oi :: uu 21 []),[]⟩) .n)) ⟨ol 138 :: ol 138 :: uu 3 (oi :: uu 21 []),[]⟩) ⟨uu 27 [],[]⟩)) .n))))
noncomputable def jay:FI:=jB Tryz.f143 2 [.ag [.s,.i .i64,.s,.sl 138,.sl 9],.ag [.s,.i .i64,.s,.sl 138,.sl 9]] [(false,[.ct .b])] (fun _=>(.s (.r [0,1,0] none) (.s (.r [] (some ⟨uu 4 (ob :: uu 12 []),.u :: .u :: []⟩)) .n)))
noncomputable def j9k:FI:=jB Tryz.f145 0 [.ct (.i .i64),.ct (.i .i64),.ct (.i .i64)] [(false,[.ct .b])] (fun _=>(.s .n (.s (.r [] (some ⟨uu 6 (ob :: uu 8 []),[]⟩)) .n)))
noncomputable def jax:FI:=jB Tryz.f146 14 [.ct .s] [(false,[.new 9])] (fun _=>(.s .n (.s (.r [0,0] none) (.s .n (.s (.s .n (.b (.b (.s .n (.s (.b (.s (.r [] (some ⟨os :: ou :: ou :: .one (.own 9 2) :: oi :: oi :: uu 16 (ob :: uu 35 []),vv 14 []⟩)) (.c (.s (.r [0,0,0,0,0,4,5,0] none) (.s (.s (.r [] (some ⟨os :: ou :: ou :: .one (.own 9 6) :: ou :: oi :: uu 41 (ob :: uu 10 []),vv 14 []⟩)) (.c .n .n (some ⟨os :: ou :: ou :: .one (.own 9 7) :: ou :: oi :: uu 52 [],vv 14 []⟩))) .n)) .n (some ⟨os :: ou :: ou :: .one (.own 9 8) :: oi :: oi :: uu 52 [],vv 14 []⟩))) ⟨os :: ou :: ou :: .one (.own 9 9) :: oi :: oi :: uu 52 [],vv 14 []⟩) .n)) ⟨os :: ou :: ou :: .one (.own 9 1) :: oi :: oi :: uu 52 [],vv 14 []⟩) ⟨os :: ou :: ou :: .one (.own 9 10) :: oi :: uu 53 [],vv 14 []⟩)) (.s (.r [0,0,0,0,12,13,0] none) .n))))))
noncomputable def jaw:FI:=jB Tryz.f147 0 [.ct .s] [(false,[.ct (.i .i64)])] (fun _=>(.s .n (.s .n (.s (.b (.b (.s (.s (.r [] (some ⟨os :: ou :: ou :: oi :: uu 15 (ob :: uu 3 []),[]⟩)) .n) (.b .n ⟨os :: ou :: ou :: oi :: uu 19 [],[]⟩)) ⟨os :: ou :: ou :: oi :: uu 19 [],[]⟩) ⟨uu 3 (oi :: uu 19 []),[]⟩) .n))))
noncomputable def jav:FI:=jB Tryz.f148 0 [.ct (.i .u8)] [(false,[.ct (.i .i64)])] (fun _=>(.s .n (.s (.b (.s (.r [] (some ⟨.one (.i .u8) :: ou :: ou :: ob :: uu 29 [],[]⟩)) (.c .n (.s (.r [] (some ⟨.one (.i .u8) :: uu 12 (ob :: uu 19 []),[]⟩)) (.c .n (.s (.r [] (some ⟨.one (.i .u8) :: uu 22 (ob :: uu 9 []),[]⟩)) .n) none)) none)) ⟨uu 33 [],[]⟩) .n)))
noncomputable def jau:FI:=jB Tryz.f149 0 [.ct .s,.ct (.i .i64),.ct (.i .i64)] [(false,[.ct (.i .i64)])] (fun _=>(.s .n (.s .n (.s (.s .n (.b (.b (.s .n (.s (.b (.s (.s (.r [] (some ⟨os :: ou :: oi :: uu 4 (oi :: oi :: uu 16 (ob :: uu 8 [])),[]⟩)) .n) .n) ⟨os :: ou :: oi :: uu 4 (oi :: oi :: uu 25 []),[]⟩) .n)) ⟨os :: ou :: oi :: uu 4 (oi :: oi :: uu 25 []),[]⟩) ⟨uu 7 (oi :: uu 26 []),[]⟩)) .n))))
noncomputable def jat:FI:=jB Tryz.f150 3 [.ptr] [(false,[.ct (.i .i64)])] (fun _=>(.s .n (.s (.r [0,2,0,0] none) .n)))
noncomputable def jas:FI:=jB Tryz.f151 1 [.ptr,.ct (.sl 3)] [(false,[.ct (.i .i64)])] (fun _=>.n)
noncomputable def jaq:List (Nat × FI):=[(39,jcz),(69,jca),(70,jc9),(71,jc8),(102,j9m),(103,jba),(104,jb9),(105,jb8),(106,jb7),(107,jb6),(108,jb5),(109,jb4),(110,jb3),(111,jb2),(112,jb1),(113,jb0),(114,jaZ),(115,jaY),(132,j9l),(133,jaI),(134,jaH),(135,jaG),(136,jaF),(137,jaE),(145,j9k),(146,jax),(147,jaw),(148,jav),(149,jau)]
noncomputable def jY:Cfg:=⟨fun t=>qd t tyL,fun f=>qd f jaq⟩
theorem jap:∀ x ∈ jaq,FnOk Tryz.prog Glob.none jY.ty x.1 x.2 :=
 all_cons (jf Tryz.func39 (by kernel_rfl)) <|
 all_cons (jf Tryz.func69 (by kernel_rfl)) <|
 all_cons (jf Tryz.func70 (by kernel_rfl)) <|
 all_cons (jf Tryz.func71 (by kernel_rfl)) <|
 all_cons (jf Tryz.func102 (by kernel_rfl)) <|
 all_cons (jf Tryz.func103 (by kernel_rfl)) <|
 all_cons (jf Tryz.func104 (by kernel_rfl)) <|
 all_cons (jf Tryz.func105 (by kernel_rfl)) <|
 all_cons (jf Tryz.func106 (by kernel_rfl)) <|
 all_cons (jf Tryz.func107 (by kernel_rfl)) <|
 all_cons (jf Tryz.func108 (by kernel_rfl)) <|
 all_cons (jf Tryz.func109 (by kernel_rfl)) <|
 all_cons (jf Tryz.func110 (by kernel_rfl)) <|
 all_cons (jf Tryz.func111 (by kernel_rfl)) <|
 all_cons (jf Tryz.func112 (by kernel_rfl)) <|
 all_cons (jf Tryz.func113 (by kernel_rfl)) <|
 all_cons (jf Tryz.func114 (by kernel_rfl)) <|
 all_cons (jf Tryz.func115 (by kernel_rfl)) <|
 all_cons (jf Tryz.func132 (by kernel_rfl)) <|
 all_cons (jf Tryz.func133 (by kernel_rfl)) <|
 all_cons (jf Tryz.func134 (by kernel_rfl)) <|
 all_cons (jf Tryz.func135 (by kernel_rfl)) <|
 all_cons (jf Tryz.func136 (by kernel_rfl)) <|
 all_cons (jf Tryz.func137 (by kernel_rfl)) <|
 all_cons (jf Tryz.func145 (by kernel_rfl)) <|
 all_cons (jf Tryz.func146 (by kernel_rfl)) <|
 all_cons (jf Tryz.func147 (by kernel_rfl)) <|
 all_cons (jf Tryz.func148 (by kernel_rfl)) <|
 all_cons (jf Tryz.func149 (by kernel_rfl)) <|
 j42
theorem YR (n:Nat) (v:List DC):jC jY (n + 1) 39 ⟨os :: [],[]⟩ v=qi (jT jY kg n) n v:=by kernel_rfl
theorem j0F (n:Nat) (v:List DC):jC jY (n + 1) 69 ⟨os :: oi :: [],[]⟩ v=XC (jT jY kg n) n v:=by kernel_rfl
theorem j0z (n:Nat) (v:List DC):jC jY (n + 1) 71 ⟨os :: oi :: [],[]⟩ v=Xw (jT jY kg n) n v:=by kernel_rfl
theorem ZB (n:Nat) (v:List DC):jC jY (n + 1) 70 ⟨os :: oi :: [],[]⟩ v=VF (jT jY kg n) n v:=by kernel_rfl
theorem YS (n:Nat) (v:List DC):jC jY (n + 1) 102 ⟨oi :: [],[]⟩ v=Qz (jT jY kg n) n v:=by kernel_rfl
theorem YT (n:Nat) (v:List DC):jC jY (n + 1) 111 ⟨os :: oi :: [],[]⟩ v=QA (jT jY kg n) n v:=by kernel_rfl
theorem Yb (n:Nat) (v:List DC):jC jY (n + 1) 112 ⟨os :: [],[]⟩ v=KV (jT jY kg n) n v:=by kernel_rfl
theorem ZF (n:Nat) (v:List DC):jC jY (n + 1) 109 ⟨os :: [],[]⟩ v=VK (jT jY kg n) n v:=by kernel_rfl
theorem j21 (n:Nat) (v:List DC):jC jY (n + 1) 108 ⟨os :: [],[]⟩ v=Z6 (jT jY kg n) n v:=by kernel_rfl
theorem j0G (n:Nat) (v:List DC):jC jY (n + 1) 105 ⟨os :: [],[]⟩ v=XE (jT jY kg n) n v:=by kernel_rfl
theorem j0E (n:Nat) (v:List DC):jC jY (n + 1) 115 ⟨os :: [],[]⟩ v=XB (jT jY kg n) n v:=by kernel_rfl
theorem Ya (n:Nat) (v:List DC):jC jY (n + 1) 113 ⟨os :: oi :: [],[]⟩ v=KU (jT jY kg n) n v:=by kernel_rfl
theorem Y9 (n:Nat) (v:List DC):jC jY (n + 1) 114 ⟨os :: [],[]⟩ v=KT (jT jY kg n) n v:=by kernel_rfl
theorem Y7 (n:Nat) (v:List DC):jC jY (n + 1) 106 ⟨.one (.i .u8) :: [],[]⟩ v=KR (jT jY kg n) n v:=by kernel_rfl
theorem Y6 (n:Nat) (v:List DC):jC jY (n + 1) 103 ⟨.one (.i .u8) :: [],[]⟩ v=KQ (jT jY kg n) n v:=by kernel_rfl
theorem YP (n:Nat) (v:List DC):jC jY (n + 1) 110 ⟨os :: oi :: [],[]⟩ v=Qx (jT jY kg n) n v:=by kernel_rfl
theorem ZC (n:Nat) (v:List DC):jC jY (n + 1) 104 ⟨os :: oi :: [],[]⟩ v=VG (jT jY kg n) n v:=by kernel_rfl
theorem Y5 (n:Nat) (v:List DC):jC jY (n + 1) 107 ⟨os :: oi :: [],[]⟩ v=KP (jT jY kg n) n v:=by kernel_rfl
theorem Y8 (n:Nat) (v:List DC):jC jY (n + 1) 132 ⟨oi :: [],[]⟩ v=KS (jT jY kg n) n v:=by kernel_rfl
theorem X8 (n:Nat) (v:List DC):jC jY (n + 1) 136 ⟨os :: [],[]⟩ v=Kf (jT jY kg n) n v:=by kernel_rfl
theorem j0D (n:Nat) (v:List DC):jC jY (n + 1) 135 ⟨os :: [],[]⟩ v=XA (jT jY kg n) n v:=by kernel_rfl
theorem j0C (n:Nat) (v:List DC):jC jY (n + 1) 133 ⟨os :: [],[]⟩ v=Xz (jT jY kg n) n v:=by kernel_rfl
theorem j0B (n:Nat) (v:List DC):jC jY (n + 1) 134 ⟨os :: oi :: [],[]⟩ v=Xy (jT jY kg n) n v:=by kernel_rfl
theorem ZD (n:Nat) (v:List DC):jC jY (n + 1) 137 ⟨os :: oi :: [],[]⟩ v=VH (jT jY kg n) n v:=by kernel_rfl
theorem j20 (n:Nat) (v:List DC):jC jY (n + 1) 145 ⟨oi :: oi :: oi :: [],[]⟩ v=Z5 (jT jY kg n) n v:=by kernel_rfl
theorem j0H (n:Nat) (v:List DC):jC jY (n + 1) 147 ⟨os :: [],[]⟩ v=XF (jT jY kg n) n v:=by kernel_rfl
theorem ZE (n:Nat) (v:List DC):jC jY (n + 1) 146 ⟨os :: [],[]⟩ v=VJ (jT jY kg n) n v:=by kernel_rfl
theorem YQ (n:Nat) (v:List DC):jC jY (n + 1) 148 ⟨.one (.i .u8) :: [],[]⟩ v=Qy (jT jY kg n) n v:=by kernel_rfl
theorem j0A (n:Nat) (v:List DC):jC jY (n + 1) 149 ⟨os :: oi :: oi :: [],[]⟩ v=Xx (jT jY kg n) n v:=by kernel_rfl
theorem jae:∀ x ∈ kg,j09 jY kg x :=
 jq YR <|
 jq j0F <|
 jq j0z <|
 jq ZB <|
 jq YS <|
 jq YT <|
 jq Yb <|
 jq ZF <|
 jq j21 <|
 jq j0G <|
 jq j0E <|
 jq Ya <|
 jq Y9 <|
 jq Y7 <|
 jq Y6 <|
 jq YP <|
 jq ZC <|
 jq Y5 <|
 jq Y8 <|
 jq X8 <|
 jq j0D <|
 jq j0C <|
 jq j0B <|
 jq ZD <|
 jq j20 <|
 jq j0H <|
 jq ZE <|
 jq YQ <|
 jq j0A <|
 j5P
noncomputable def jU (v:List DC):Out:=ja8 jY j1R 85 [.sl 5,.i .i64,.i .i64] 2 ⟨j1R.pk.map pkK,[]⟩ v
noncomputable def jcS:FI:={ j1R with stf:=some (j7J (fun t=>qd t tyL) j1R.pk jU 85 [.sl 5,.i .i64,.i .i64]) }
theorem j26 (v:List DC):j08 jY j4E 53 [.sl 117,.i .i64,.i .i64,.i .i64,.i .i64] 2 ⟨j4E.pk.map pkK,[]⟩ v 5000=zI (jT jY kg 5000) 5000 v:=by kernel_rfl
noncomputable def jcQ:FI:={ j4E with stf:=some (j7J (fun t=>qd t tyL) j4E.pk kk 53 [.sl 117,.i .i64,.i .i64,.i .i64,.i .i64]) }
noncomputable def jcL:FI:={ jB Tryz.f22 0 [] [] (fun _=>.n) with stf:=some (j6C jaj 68 23 [.i .i64,.b,.s,.s,.sl 9,.sl 135,.sl 140,.sl 143,.sl 102,.b,.sl 146] pM) }
noncomputable def jcK:FI:={ jB Tryz.f25 0 [] [] (fun _=>.n) with stf:=some (j6C jai 68 26 [.i .i64,.b,.s,.s,.sl 9,.sl 135,.sl 140,.sl 143,.sl 102,.b,.sl 146] pM) }
noncomputable def jcB:FI:={ jB Tryz.f35 0 [] [] (fun _=>.n) with stf:=some (j8N 68 36 3) }
noncomputable def fnL:List (Nat × FI):=[(3,fi3),(4,fi4),(5,fi5),(6,fi6),(7,fi7),(8,fi8),(9,fi9),(10,jcX),(11,jcW),(12,jcV),(13,jcU),(14,jcT),(16,jcR),(18,jcP),(19,jcO),(20,jcN),(21,jcM),(27,jcJ),(29,jcH),(28,jcI),(30,jcG),(31,jcF),(32,jcE),(33,jcD),(34,jcC),(38,jcA),(40,jcy),(41,jcx),(42,jcw),(43,jcv),(44,jcu),(45,jct),(46,jcs),(47,jcr),(48,jcq),(49,j9U),(50,jcp),(51,jco),(52,jcn),(53,j9T),(54,jcm),(56,jcl),(57,jck),(58,jcj),(59,jci),(60,jch),(61,jcg),(62,jcf),(63,jce),(64,jcd),(65,jcc),(66,jcb),(72,jc7),(73,jc6),(74,jc5),(75,jc4),(76,jc3),(77,jc2),(78,jc1),(79,jc0),(80,jbZ),(81,jbY),(82,jbX),(83,jbW),(84,jbV),(85,jbU),(86,jbT),(87,jbS),(88,jbR),(89,jbQ),(90,jbP),(91,jbO),(92,jbN),(93,jbM),(94,jbL),(95,jbK),(96,jbJ),(97,jbI),(98,jbH),(102,j9m),(116,jaX),(117,jaW),(118,jaV),(119,jaU),(120,jaT),(121,jaS),(122,jaR),(123,jaQ),(124,jaP),(125,jaO),(126,jaN),(127,jaM),(128,jaL),(129,jaK),(130,jaJ),(132,j9l),(138,jaD),(139,jaC),(140,jaB),(141,jaA),(142,jaz),(143,jay),(145,j9k),(150,jat),(151,jas),(15,jcS),(17,jcQ),(22,jcL),(25,jcK),(35,jcB)]
noncomputable def cfg:Cfg:=⟨fun t=>qd t tyL,fun f=>qd f fnL⟩
theorem fns:∀ x ∈ fnL,FnOk Tryz.prog Glob.none cfg.ty x.1 x.2 :=
 all_cons (jf Tryz.func3 (by kernel_rfl)) <|
 all_cons (jf Tryz.func4 (by kernel_rfl)) <|
 all_cons (jf Tryz.func5 (by kernel_rfl)) <|
 all_cons (jf Tryz.func6 (by kernel_rfl)) <|
 all_cons (jf Tryz.func7 (by kernel_rfl)) <|
 all_cons (jf Tryz.func8 (by kernel_rfl)) <|
 all_cons (jf Tryz.func9 (by kernel_rfl)) <|
 all_cons (jf Tryz.func10 (by kernel_rfl)) <|
 all_cons (jf Tryz.func11 (by kernel_rfl)) <|
 all_cons (jf Tryz.func12 (by kernel_rfl)) <|
 all_cons (jf Tryz.func13 (by kernel_rfl)) <|
 all_cons (jf Tryz.func14 (by kernel_rfl)) <|
 all_cons (jf Tryz.func16 (by kernel_rfl)) <|
 all_cons (jf Tryz.func18 (by kernel_rfl)) <|
 all_cons (jf Tryz.func19 (by kernel_rfl)) <|
 all_cons (jf Tryz.func20 (by kernel_rfl)) <|
 all_cons (jf Tryz.func21 (by kernel_rfl)) <|
 all_cons (jf Tryz.func27 (by kernel_rfl)) <|
 all_cons (jf Tryz.func29 (by kernel_rfl)) <|
 all_cons (jf Tryz.func28 (by kernel_rfl)) <|
 all_cons (jf Tryz.func30 (by kernel_rfl)) <|
 all_cons (jf Tryz.func31 (by kernel_rfl)) <|
 all_cons (jf Tryz.func32 (by kernel_rfl)) <|
 all_cons (jf Tryz.func33 (by kernel_rfl)) <|
 all_cons (jf Tryz.func34 (by kernel_rfl)) <|
 all_cons (jf Tryz.func38 (by kernel_rfl)) <|
 all_cons (jf Tryz.func40 (by kernel_rfl)) <|
 all_cons (jf Tryz.func41 (by kernel_rfl)) <|
 all_cons (jf Tryz.func42 (by kernel_rfl)) <|
 all_cons (jf Tryz.func43 (by kernel_rfl)) <|
 all_cons (jf Tryz.func44 (by kernel_rfl)) <|
 all_cons (jf Tryz.func45 (by kernel_rfl)) <|
 all_cons (jf Tryz.func46 (by kernel_rfl)) <|
 all_cons (jf Tryz.func47 (by kernel_rfl)) <|
 all_cons (jf Tryz.func48 (by kernel_rfl)) <|
 all_cons (j1A (e:=9) (ac:=ja7) (ar:=ja4) (Z9 tys).1 (by kernel_rfl) Tryz.func49 (by kernel_rfl) (by kernel_rfl) rfl rfl ⟨_,_,_,_,_,_,_,rfl,⟨rfl,rfl,rfl⟩,⟨rfl,rfl,rfl⟩,⟨rfl,rfl,rfl⟩,Tryz.underlying44⟩ rfl rfl (by decide +kernel) jcZ) <|
 all_cons (jf Tryz.func50 (by kernel_rfl)) <|
 all_cons (jf Tryz.func51 (by kernel_rfl)) <|
 all_cons (jf Tryz.func52 (by kernel_rfl)) <|
 all_cons (j1A (e:=102) (ac:=ja6) (ar:=ja3) (Z9 tys).1 (by kernel_rfl) Tryz.func53 (by kernel_rfl) (by kernel_rfl) rfl rfl ⟨_,_,_,_,_,_,_,rfl,⟨rfl,rfl,rfl⟩,⟨rfl,rfl,rfl⟩,⟨rfl,rfl,rfl⟩,Tryz.underlying66⟩ rfl rfl (by decide +kernel) jcY) <|
 all_cons (jf Tryz.func54 (by kernel_rfl)) <|
 all_cons (jf Tryz.func56 (by kernel_rfl)) <|
 all_cons (jf Tryz.func57 (by kernel_rfl)) <|
 all_cons (jf Tryz.func58 (by kernel_rfl)) <|
 all_cons (jf Tryz.func59 (by kernel_rfl)) <|
 all_cons (jf Tryz.func60 (by kernel_rfl)) <|
 all_cons (jf Tryz.func61 (by kernel_rfl)) <|
 all_cons (jf Tryz.func62 (by kernel_rfl)) <|
 all_cons (jf Tryz.func63 (by kernel_rfl)) <|
 all_cons (jf Tryz.func64 (by kernel_rfl)) <|
 all_cons (jf Tryz.func65 (by kernel_rfl)) <|
 all_cons (jf Tryz.func66 (by kernel_rfl)) <|
 all_cons (jf Tryz.func72 (by kernel_rfl)) <|
 all_cons (jf Tryz.func73 (by kernel_rfl)) <|
 all_cons (jf Tryz.func74 (by kernel_rfl)) <|
 all_cons (jf Tryz.func75 (by kernel_rfl)) <|
 all_cons (jf Tryz.func76 (by kernel_rfl)) <|
 all_cons (jf Tryz.func77 (by kernel_rfl)) <|
 all_cons (jf Tryz.func78 (by kernel_rfl)) <|
 all_cons (jf Tryz.func79 (by kernel_rfl)) <|
 all_cons (jf Tryz.func80 (by kernel_rfl)) <|
 all_cons (jf Tryz.func81 (by kernel_rfl)) <|
 all_cons (jf Tryz.func82 (by kernel_rfl)) <|
 all_cons (jf Tryz.func83 (by kernel_rfl)) <|
 all_cons (jf Tryz.func84 (by kernel_rfl)) <|
 all_cons (jf Tryz.func85 (by kernel_rfl)) <|
 all_cons (jf Tryz.func86 (by kernel_rfl)) <|
 all_cons (jf Tryz.func87 (by kernel_rfl)) <|
 all_cons (jf Tryz.func88 (by kernel_rfl)) <|
 all_cons (jf Tryz.func89 (by kernel_rfl)) <|
 all_cons (jf Tryz.func90 (by kernel_rfl)) <|
 all_cons (jf Tryz.func91 (by kernel_rfl)) <|
 all_cons (jf Tryz.func92 (by kernel_rfl)) <|
 all_cons (jf Tryz.func93 (by kernel_rfl)) <|
 all_cons (jf Tryz.func94 (by kernel_rfl)) <|
 all_cons (jf Tryz.func95 (by kernel_rfl)) <|
 all_cons (jf Tryz.func96 (by kernel_rfl)) <|
 all_cons (jf Tryz.func97 (by kernel_rfl)) <|
 all_cons (jf Tryz.func98 (by kernel_rfl)) <|
 all_cons (jf Tryz.func102 (by kernel_rfl)) <|
 all_cons (jf Tryz.func116 (by kernel_rfl)) <|
 all_cons (jf Tryz.func117 (by kernel_rfl)) <|
 all_cons (jf Tryz.func118 (by kernel_rfl)) <|
 all_cons (jf Tryz.func119 (by kernel_rfl)) <|
 all_cons (jf Tryz.func120 (by kernel_rfl)) <|
 all_cons (jf Tryz.func121 (by kernel_rfl)) <|
 all_cons (jf Tryz.func122 (by kernel_rfl)) <|
 all_cons (jf Tryz.func123 (by kernel_rfl)) <|
 all_cons (jf Tryz.func124 (by kernel_rfl)) <|
 all_cons (jf Tryz.func125 (by kernel_rfl)) <|
 all_cons (jf Tryz.func126 (by kernel_rfl)) <|
 all_cons (jf Tryz.func127 (by kernel_rfl)) <|
 all_cons (jf Tryz.func128 (by kernel_rfl)) <|
 all_cons (jf Tryz.func129 (by kernel_rfl)) <|
 all_cons (jf Tryz.func130 (by kernel_rfl)) <|
 all_cons (jf Tryz.func132 (by kernel_rfl)) <|
 all_cons (jf Tryz.func138 (by kernel_rfl)) <|
 all_cons (jf Tryz.func139 (by kernel_rfl)) <|
 all_cons (jf Tryz.func140 (by kernel_rfl)) <|
 all_cons (jf Tryz.func141 (by kernel_rfl)) <|
 all_cons (jf Tryz.func142 (by kernel_rfl)) <|
 all_cons (jf Tryz.func143 (by kernel_rfl)) <|
 all_cons (jf Tryz.func145 (by kernel_rfl)) <|
 all_cons (jf Tryz.func150 (by kernel_rfl)) <|
 all_cons (jf Tryz.func151 (by kernel_rfl)) <|
 all_cons (j8s (cfg:=jY) (fi:=j1R) (t:=2) (Z9 tys).1 (by kernel_rfl) (j6e jap) (jf Tryz.func15 (by kernel_rfl)) rfl (by kernel_rfl) rfl (fun v r h=>j8v h)) <|
 all_cons (j8s (cfg:=jY) (fi:=j4E) (t:=2) (Z9 tys).1 (by kernel_rfl) (j6e jap) (jf Tryz.func17 (by kernel_rfl)) rfl (by kernel_rfl) rfl (fun v r h=>⟨5000,by rw [j26,← j5D jae]; exact h⟩)) <|
 all_cons (j53 (jf Tryz.func22 (by kernel_rfl)) jah) <|
 all_cons (j53 (jf Tryz.func25 (by kernel_rfl)) jag) <|
 all_cons (j53 (jf Tryz.func35 (by kernel_rfl)) (jaf fun te h=>by injection (show qd 68 tyL=some te from h) with h; subst h; rfl)) <| j42
theorem j2q (n:Nat) (v:List DC):jC cfg (n + 1) 6 ⟨os :: [],[]⟩ v=yZ (jT cfg yQ n) n v:=by kernel_rfl
theorem j24 (n:Nat) (v:List DC):jC cfg (n + 1) 19 ⟨.one (.ptr 0 0) :: oi :: [],.var 53 [.sl 117,.i .i64,.i .i64,.i .i64,.i .i64] :: []⟩ v=Xv (jT cfg yQ n) n v:=by kernel_rfl
theorem j0I (n:Nat) (v:List DC):jC cfg (n + 1) 20 ⟨.one (.ptr 0 0) :: [],.var 53 [.sl 117,.i .i64,.i .i64,.i .i64,.i .i64] :: []⟩ v=Vs (jT cfg yQ n) n v:=by kernel_rfl
theorem YU (n:Nat) (v:List DC):jC cfg (n + 1) 18 ⟨.one (.ptr 0 0) :: [],.var 53 [.sl 117,.i .i64,.i .i64,.i .i64,.i .i64] :: []⟩ v=KJ (jT cfg yQ n) n v:=by kernel_rfl
theorem j2p (n:Nat) (v:List DC):jC cfg (n + 1) 44 ⟨.one (.ptr 0 0) :: [],.var 53 [.sl 117,.i .i64,.i .i64,.i .i64,.i .i64] :: []⟩ v=Z4 (jT cfg yQ n) n v:=by kernel_rfl
theorem j0O (n:Nat) (v:List DC):jC cfg (n + 1) 41 ⟨.one (.ptr 0 0) :: os :: [],.var 53 [.sl 117,.i .i64,.i .i64,.i .i64,.i .i64] :: []⟩ v=VB (jT cfg yQ n) n v:=by kernel_rfl
theorem Xb (n:Nat) (v:List DC):jC cfg (n + 1) 46 ⟨.one (.ptr 0 0) :: [],.var 53 [.sl 117,.i .i64,.i .i64,.i .i64,.i .i64] :: []⟩ v=JJ (jT cfg yQ n) n v:=by kernel_rfl
theorem YY (n:Nat) (v:List DC):jC cfg (n + 1) 45 ⟨.one (.ptr 0 0) :: oi :: [],.var 53 [.sl 117,.i .i64,.i .i64,.i .i64,.i .i64] :: []⟩ v=KN (jT cfg yQ n) n v:=by kernel_rfl
theorem j0K (n:Nat) (v:List DC):jC cfg (n + 1) 48 ⟨.one (.ptr 0 0) :: os :: [],.var 53 [.sl 117,.i .i64,.i .i64,.i .i64,.i .i64] :: []⟩ v=Vu (jT cfg yQ n) n v:=by kernel_rfl
theorem X9 (n:Nat) (v:List DC):jC cfg (n + 1) 47 ⟨.one (.ptr 0 0) :: [],.var 53 [.sl 117,.i .i64,.i .i64,.i .i64,.i .i64] :: []⟩ v=JH (jT cfg yQ n) n v:=by kernel_rfl
theorem YV (n:Nat) (v:List DC):jC cfg (n + 1) 40 ⟨.one (.ptr 0 0) :: [],.var 53 [.sl 117,.i .i64,.i .i64,.i .i64,.i .i64] :: []⟩ v=KK (jT cfg yQ n) n v:=by kernel_rfl
theorem j0R (n:Nat) (v:List DC):jC cfg (n + 1) 42 ⟨.one (.ptr 0 0) :: oi :: [],.var 53 [.sl 117,.i .i64,.i .i64,.i .i64,.i .i64] :: []⟩ v=VE (jT cfg yQ n) n v:=by kernel_rfl
theorem YX (n:Nat) (v:List DC):jC cfg (n + 1) 43 ⟨.one (.ptr 0 0) :: [],.var 53 [.sl 117,.i .i64,.i .i64,.i .i64,.i .i64] :: []⟩ v=KM (jT cfg yQ n) n v:=by kernel_rfl
theorem j0Q (n:Nat) (v:List DC):jC cfg (n + 1) 75 ⟨.one (.ptr 0 0) :: [],.var 53 [.sl 117,.i .i64,.i .i64,.i .i64,.i .i64] :: []⟩ v=VD (jT cfg yQ n) n v:=by kernel_rfl
theorem Xc (n:Nat) (v:List DC):jC cfg (n + 1) 77 ⟨.one (.ptr 0 0) :: ob :: [],.var 53 [.sl 117,.i .i64,.i .i64,.i .i64,.i .i64] :: []⟩ v=JK (jT cfg yQ n) n v:=by kernel_rfl
theorem j0L (n:Nat) (v:List DC):jC cfg (n + 1) 78 ⟨.one (.ptr 0 0) :: oi :: .one (.ptr 1 0) :: [],.var 53 [.sl 117,.i .i64,.i .i64,.i .i64,.i .i64] :: .var 3 [.i .i64] :: []⟩ v=Vw (jT cfg yQ n) n v:=by kernel_rfl
theorem j2o (n:Nat) (v:List DC):jC cfg (n + 1) 72 ⟨.one (.ptr 0 0) :: os :: [],.var 53 [.sl 117,.i .i64,.i .i64,.i .i64,.i .i64] :: []⟩ v=Z3 (jT cfg yQ n) n v:=by kernel_rfl
theorem Xa (n:Nat) (v:List DC):jC cfg (n + 1) 76 ⟨.one (.ptr 0 0) :: [],.var 53 [.sl 117,.i .i64,.i .i64,.i .i64,.i .i64] :: []⟩ v=JI (jT cfg yQ n) n v:=by kernel_rfl
theorem j23 (n:Nat) (v:List DC):jC cfg (n + 1) 84 ⟨.one (.ptr 0 0) :: os :: [],.var 53 [.sl 117,.i .i64,.i .i64,.i .i64,.i .i64] :: []⟩ v=Xu (jT cfg yQ n) n v:=by kernel_rfl
theorem j0P (n:Nat) (v:List DC):jC cfg (n + 1) 79 ⟨.one (.ptr 0 0) :: os :: [],.var 53 [.sl 117,.i .i64,.i .i64,.i .i64,.i .i64] :: []⟩ v=VC (jT cfg yQ n) n v:=by kernel_rfl
theorem j22 (n:Nat) (v:List DC):jC cfg (n + 1) 87 ⟨.agg [.i .i64,.b,.s,.s,.sl 9,.sl 135,.sl 140,.sl 143,.sl 102,.b,.sl 146] :: [],[]⟩ v=Xt (jT cfg yQ n) n v:=by kernel_rfl
theorem QG (n:Nat) (v:List DC):jC cfg (n + 1) 83 ⟨.one (.ptr 0 0) :: [],.var 53 [.sl 117,.i .i64,.i .i64,.i .i64,.i .i64] :: []⟩ v=zW (jT cfg yQ n) n v:=by kernel_rfl
theorem Yc (n:Nat) (v:List DC):jC cfg (n + 1) 80 ⟨.one (.ptr 0 0) :: os :: os :: [],.var 53 [.sl 117,.i .i64,.i .i64,.i .i64,.i .i64] :: []⟩ v=Ke (jT cfg yQ n) n v:=by kernel_rfl
theorem V7 (n:Nat) (v:List DC):jC cfg (n + 1) 82 ⟨.one (.ptr 0 0) :: os :: [],.var 53 [.sl 117,.i .i64,.i .i64,.i .i64,.i .i64] :: []⟩ v=Jb (jT cfg yQ n) n v:=by kernel_rfl
theorem QF (n:Nat) (v:List DC):jC cfg (n + 1) 81 ⟨.one (.ptr 0 0) :: [],.var 53 [.sl 117,.i .i64,.i .i64,.i .i64,.i .i64] :: []⟩ v=zU (jT cfg yQ n) n v:=by kernel_rfl
theorem V6 (n:Nat) (v:List DC):jC cfg (n + 1) 86 ⟨.one (.ptr 0 0) :: [],.var 53 [.sl 117,.i .i64,.i .i64,.i .i64,.i .i64] :: []⟩ v=Ja (jT cfg yQ n) n v:=by kernel_rfl
theorem QE (n:Nat) (v:List DC):jC cfg (n + 1) 85 ⟨.one (.ptr 0 0) :: [],.var 53 [.sl 117,.i .i64,.i .i64,.i .i64,.i .i64] :: []⟩ v=zT (jT cfg yQ n) n v:=by kernel_rfl
theorem j25 (n:Nat) (v:List DC):jC cfg (n + 1) 73 ⟨oi :: [],[]⟩ v=XD (jT cfg yQ n) n v:=by kernel_rfl
theorem j0J (n:Nat) (v:List DC):jC cfg (n + 1) 74 ⟨oi :: [],[]⟩ v=Vt (jT cfg yQ n) n v:=by kernel_rfl
theorem Xd (n:Nat) (v:List DC):jC cfg (n + 1) 118 ⟨.one (.ptr 0 0) :: ob :: [],.var 53 [.sl 117,.i .i64,.i .i64,.i .i64,.i .i64] :: []⟩ v=JL (jT cfg yQ n) n v:=by kernel_rfl
theorem ZG (n:Nat) (v:List DC):jC cfg (n + 1) 117 ⟨.one (.ptr 0 0) :: ob :: oi :: [],.var 53 [.sl 117,.i .i64,.i .i64,.i .i64,.i .i64] :: []⟩ v=Qw (jT cfg yQ n) n v:=by kernel_rfl
theorem j0N (n:Nat) (v:List DC):jC cfg (n + 1) 116 ⟨.one (.ptr 0 0) :: [],.var 53 [.sl 117,.i .i64,.i .i64,.i .i64,.i .i64] :: []⟩ v=VA (jT cfg yQ n) n v:=by kernel_rfl
theorem YW (n:Nat) (v:List DC):jC cfg (n + 1) 119 ⟨.one (.ptr 0 0) :: [],.var 53 [.sl 117,.i .i64,.i .i64,.i .i64,.i .i64] :: []⟩ v=KL (jT cfg yQ n) n v:=by kernel_rfl
theorem j0S (n:Nat) (v:List DC):jC cfg (n + 1) 120 ⟨os :: [],[]⟩ v=VI (jT cfg yQ n) n v:=by kernel_rfl
theorem j3Y (n:Nat) (v:List DC):jC cfg (n + 1) 121 ⟨os :: [],[]⟩ v=j0d (jT cfg yQ n) n v:=by kernel_rfl
theorem j0M (n:Nat) (v:List DC):jC cfg (n + 1) 138 ⟨.one (.ptr 0 0) :: .agg [.s,.s] :: os :: [],.var 53 [.sl 117,.i .i64,.i .i64,.i .i64,.i .i64] :: []⟩ v=Vz (jT cfg yQ n) n v:=by kernel_rfl
theorem jbw:∀ x ∈ yQ,j09 cfg yQ x :=
 jq j2q <|
 jq j24 <|
 jq j0I <|
 jq YU <|
 jq j2p <|
 jq j0O <|
 jq Xb <|
 jq YY <|
 jq j0K <|
 jq X9 <|
 jq YV <|
 jq j0R <|
 jq YX <|
 jq j0Q <|
 jq Xc <|
 jq j0L <|
 jq j2o <|
 jq Xa <|
 jq j23 <|
 jq j0P <|
 jq j22 <|
 jq QG <|
 jq Yc <|
 jq V7 <|
 jq QF <|
 jq V6 <|
 jq QE <|
 jq j25 <|
 jq j0J <|
 jq Xd <|
 jq ZG <|
 jq j0N <|
 jq YW <|
 jq j0S <|
 jq j3Y <|
 jq j0M <|
 j5P
noncomputable def JT (a:List DC):Out:=pw cfg 3 ⟨ol 5 :: [],[]⟩ a
noncomputable def XJ (a:List DC):Out:=pw cfg 4 ⟨ol 5 :: [],[]⟩ a
noncomputable def yM (a:List DC):Out:=pw cfg 5 ⟨ol 5 :: [],[]⟩ a
noncomputable def Q2 (a:List DC):Out:=pw cfg 6 ⟨os :: [],[]⟩ a
noncomputable def Kn (a:List DC):Out:=pw cfg 7 ⟨.agg [.sl 70] :: [],[]⟩ a
noncomputable def JU (a:List DC):Out:=pw cfg 8 ⟨ol 68 :: [],[]⟩ a
noncomputable def JS (a:List DC):Out:=pw cfg 9 ⟨ol 68 :: [],[]⟩ a
noncomputable def yl (a:List DC):Out:=pw cfg 10 ⟨ol 5 :: [],[]⟩ a
noncomputable def ym (a:List DC):Out:=pw cfg 11 ⟨ol 68 :: ol 68 :: [],[]⟩ a
noncomputable def pu (a:List DC):Out:=pw cfg 12 ⟨ol 42 :: ol 42 :: [],[]⟩ a
noncomputable def zZ (a:List DC):Out:=pw cfg 13 ⟨ol 68 :: [],[]⟩ a
noncomputable def zj (a:List DC):Out:=pw cfg 14 ⟨[],[]⟩ a
noncomputable def jx (a:List DC):Out:=pw cfg 16 ⟨.one (.ptr 0 0) :: oi :: [],.var 85 [.sl 5,.i .i64,.i .i64] :: []⟩ a
noncomputable def kI (a:List DC):Out:=pw cfg 21 ⟨.agg [.i .i64,.b,.s,.s,.sl 9,.sl 135,.sl 140,.sl 143,.sl 102,.b,.sl 146] :: [],[]⟩ a
noncomputable def Q4 (a:List DC):Out:=pw cfg 27 ⟨.agg [.i .i64,.b,.s,.s,.sl 9,.sl 135,.sl 140,.sl 143,.sl 102,.b,.sl 146] :: .agg [.i .i64,.b,.s,.s,.sl 9,.sl 135,.sl 140,.sl 143,.sl 102,.b,.sl 146] :: [],[]⟩ a
noncomputable def qb (a:List DC):Out:=pw cfg 29 ⟨oi :: [],[]⟩ a
noncomputable def Je (a:List DC):Out:=pw cfg 28 ⟨ol 68 :: oi :: os :: [],[]⟩ a
noncomputable def qI (a:List DC):Out:=pw cfg 30 ⟨.agg [.i .i64,.b,.s,.s,.sl 9,.sl 135,.sl 140,.sl 143,.sl 102,.b,.sl 146] :: [],[]⟩ a
noncomputable def Q3 (a:List DC):Out:=pw cfg 31 ⟨.agg [.i .i64,.b,.s,.s,.sl 9,.sl 135,.sl 140,.sl 143,.sl 102,.b,.sl 146] :: .agg [.i .i64,.b,.s,.s,.sl 9,.sl 135,.sl 140,.sl 143,.sl 102,.b,.sl 146] :: [],[]⟩ a
noncomputable def Jm (a:List DC):Out:=pw cfg 32 ⟨.one (.ptr 0 0) :: [],.var 85 [.sl 5,.i .i64,.i .i64] :: []⟩ a
noncomputable def Js (a:List DC):Out:=pw cfg 33 ⟨.agg [.i .i64,.b,.s,.s,.sl 9,.sl 135,.sl 140,.sl 143,.sl 102,.b,.sl 146] :: .agg [.i .i64,.b,.s,.s,.sl 9,.sl 135,.sl 140,.sl 143,.sl 102,.b,.sl 146] :: [],[]⟩ a
noncomputable def zq (a:List DC):Out:=pw cfg 34 ⟨ol 68 :: [],[]⟩ a
noncomputable def kY (a:List DC):Out:=pw cfg 38 ⟨.one (.ptr 0 0) :: [],.var 85 [.sl 5,.i .i64,.i .i64] :: []⟩ a
noncomputable def kZ (a:List DC):Out:=pw cfg 49 p5 a
noncomputable def yx (a:List DC):Out:=pw cfg 50 ⟨ol 135 :: [],[]⟩ a
noncomputable def yo (a:List DC):Out:=pw cfg 51 ⟨ol 140 :: [],[]⟩ a
noncomputable def yO (a:List DC):Out:=pw cfg 52 ⟨ol 143 :: [],[]⟩ a
noncomputable def pl (a:List DC):Out:=pw cfg 53 kA a
noncomputable def kV (a:List DC):Out:=pw cfg 54 ⟨ol 146 :: [],[]⟩ a
noncomputable def qH (a:List DC):Out:=pw cfg 56 ⟨ol 135 :: [],[]⟩ a
noncomputable def qu (a:List DC):Out:=pw cfg 57 ⟨ol 140 :: [],[]⟩ a
noncomputable def qG (a:List DC):Out:=pw cfg 58 ⟨ol 143 :: [],[]⟩ a
noncomputable def pB (a:List DC):Out:=pw cfg 59 ⟨ol 146 :: [],[]⟩ a
noncomputable def Km (a:List DC):Out:=pw cfg 60 ⟨.one (.ptr 0 0) :: [],.var 85 [.sl 5,.i .i64,.i .i64] :: []⟩ a
noncomputable def qQ (a:List DC):Out:=pw cfg 61 ⟨ol 9 :: ol 9 :: [],[]⟩ a
noncomputable def qK (a:List DC):Out:=pw cfg 62 ⟨ol 135 :: ol 135 :: [],[]⟩ a
noncomputable def qv (a:List DC):Out:=pw cfg 63 ⟨ol 140 :: ol 140 :: [],[]⟩ a
noncomputable def ye (a:List DC):Out:=pw cfg 64 ⟨ol 143 :: ol 143 :: [],[]⟩ a
noncomputable def zo (a:List DC):Out:=pw cfg 65 ⟨ol 102 :: ol 102 :: [],[]⟩ a
noncomputable def pa (a:List DC):Out:=pw cfg 66 ⟨ol 146 :: ol 146 :: [],[]⟩ a
noncomputable def Kl (a:List DC):Out:=pw cfg 87 ⟨.agg [.i .i64,.b,.s,.s,.sl 9,.sl 135,.sl 140,.sl 143,.sl 102,.b,.sl 146] :: [],[]⟩ a
noncomputable def pf (a:List DC):Out:=pw cfg 88 ⟨.agg [.i .i64,.s,.sl 138,.sl 9] :: [],[]⟩ a
noncomputable def zr (a:List DC):Out:=pw cfg 89 ⟨ol 151 :: [],[]⟩ a
noncomputable def qJ (a:List DC):Out:=pw cfg 90 ⟨.agg [.i .i64,.s,.sl 138,.sl 9] :: [],[]⟩ a
noncomputable def Jp (a:List DC):Out:=pw cfg 91 ⟨ol 151 :: [],[]⟩ a
noncomputable def Jn (a:List DC):Out:=pw cfg 92 ⟨.one (.ptr 0 0) :: [],.var 85 [.sl 5,.i .i64,.i .i64] :: []⟩ a
noncomputable def zC (a:List DC):Out:=pw cfg 93 ⟨.one (.ptr 0 0) :: [],.var 85 [.sl 5,.i .i64,.i .i64] :: []⟩ a
noncomputable def jH (a:List DC):Out:=pw cfg 94 ⟨.one (.ptr 0 0) :: ol 9 :: [],.var 85 [.sl 5,.i .i64,.i .i64] :: []⟩ a
noncomputable def yd (a:List DC):Out:=pw cfg 95 ⟨.agg [.s,.s,.sl 140,.s,.s,.sl 146] :: .agg [.s,.s,.sl 140,.s,.s,.sl 146] :: [],[]⟩ a
noncomputable def zp (a:List DC):Out:=pw cfg 96 ⟨.agg [.s,.s,.s,.s,.b,.i .i64,.s,.sl 138,.sl 9,.sl 146] :: .agg [.s,.s,.s,.s,.b,.i .i64,.s,.sl 138,.sl 9,.sl 146] :: [],[]⟩ a
noncomputable def yw (a:List DC):Out:=pw cfg 97 ⟨.agg [.s,.s,.sl 146] :: .agg [.s,.s,.sl 146] :: [],[]⟩ a
noncomputable def Jr (a:List DC):Out:=pw cfg 98 ⟨.agg [.s,.sl 151] :: .agg [.s,.sl 151] :: [],[]⟩ a
noncomputable def zX (a:List DC):Out:=pw cfg 102 ⟨oi :: [],[]⟩ a
noncomputable def ky (a:List DC):Out:=pw cfg 122 ⟨.one (.ptr 0 0) :: [],.var 85 [.sl 5,.i .i64,.i .i64] :: []⟩ a
noncomputable def pQ (a:List DC):Out:=pw cfg 123 ⟨.one (.ptr 0 0) :: ob :: [],.var 85 [.sl 5,.i .i64,.i .i64] :: []⟩ a
noncomputable def pC (a:List DC):Out:=pw cfg 124 ⟨.one (.ptr 0 0) :: [],.var 85 [.sl 5,.i .i64,.i .i64] :: []⟩ a
noncomputable def pe (a:List DC):Out:=pw cfg 125 ⟨.one (.ptr 0 0) :: [],.var 85 [.sl 5,.i .i64,.i .i64] :: []⟩ a
noncomputable def yJ (a:List DC):Out:=pw cfg 126 ⟨.one (.ptr 0 0) :: [],.var 85 [.sl 5,.i .i64,.i .i64] :: []⟩ a
noncomputable def kX (a:List DC):Out:=pw cfg 127 ⟨.one (.ptr 0 0) :: oi :: [],.var 85 [.sl 5,.i .i64,.i .i64] :: []⟩ a
noncomputable def zk (a:List DC):Out:=pw cfg 128 ⟨.one (.ptr 0 0) :: [],.var 85 [.sl 5,.i .i64,.i .i64] :: []⟩ a
noncomputable def kU (a:List DC):Out:=pw cfg 129 ⟨.agg [.i .i64,.s,.sl 138,.sl 9] :: .agg [.i .i64,.s,.sl 138,.sl 9] :: [],[]⟩ a
noncomputable def zY (a:List DC):Out:=pw cfg 130 ⟨ol 151 :: ol 151 :: [],[]⟩ a
noncomputable def zn (a:List DC):Out:=pw cfg 132 ⟨oi :: [],[]⟩ a
noncomputable def yK (a:List DC):Out:=pw cfg 139 ⟨.one (.ptr 0 0) :: [],.var 85 [.sl 5,.i .i64,.i .i64] :: []⟩ a
noncomputable def Jo (a:List DC):Out:=pw cfg 140 ⟨.one (.ptr 0 0) :: ob :: [],.var 85 [.sl 5,.i .i64,.i .i64] :: []⟩ a
noncomputable def jQ (a:List DC):Out:=pw cfg 141 ⟨.one (.ptr 0 0) :: oi :: ob :: [],.var 85 [.sl 5,.i .i64,.i .i64] :: []⟩ a
noncomputable def yN (a:List DC):Out:=pw cfg 142 ⟨ol 138 :: ol 138 :: [],[]⟩ a
noncomputable def Jt (a:List DC):Out:=pw cfg 143 ⟨.agg [.s,.i .i64,.s,.sl 138,.sl 9] :: .agg [.s,.i .i64,.s,.sl 138,.sl 9] :: [],[]⟩ a
noncomputable def Jf (a:List DC):Out:=pw cfg 145 ⟨oi :: oi :: oi :: [],[]⟩ a
noncomputable def Jq (a:List DC):Out:=pw cfg 150 ⟨.one (.ptr 0 0) :: [],.var 85 [.sl 5,.i .i64,.i .i64] :: []⟩ a
noncomputable def yL (a:List DC):Out:=pw cfg 151 ⟨.one (.ptr 0 0) :: ol 3 :: [],.var 85 [.sl 5,.i .i64,.i .i64] :: []⟩ a
theorem j2n {v r:List DC} (e:zc yQ 5000 64 v = .ret r):Q2 v = .ret r:=j8W jbw (i:=64) rfl e
noncomputable def Kb (a:List DC):Out :=
 (XJ [.sl ((a.getD 0 d0).ll)]).bindR fun r1 =>
 if (r1.getD 0 d0).bb=true then
 .ret [.b true]
 else
 (yM [.sl ((a.getD 0 d0).ll)]).bindR fun r2 =>
 if ((r2.getD 0 d0).ss).length + ([101,120,116,101,110,100,32,116,121,112,101,32,78,111,112,101,32,123,10,32,32,97,58,32,73,110,116,10,125,10,115,99,97,108,97,114,32,68,97,116,101,10,101,120,116,101,110,100,32,101,110,117,109,32,85,115,101,114,32,123,10,32,32,65,10,125,10]:List UInt8).length < jN then
 (Q2 [.s (((r2.getD 0 d0).ss) ++ ([101,120,116,101,110,100,32,116,121,112,101,32,78,111,112,101,32,123,10,32,32,97,58,32,73,110,116,10,125,10,115,99,97,108,97,114,32,68,97,116,101,10,101,120,116,101,110,100,32,101,110,117,109,32,85,115,101,114,32,123,10,32,32,65,10,125,10]:List UInt8))]).bindR fun r3 =>
 (Kn [.sl ((r3.getD 0 d0).ll)]).bindR fun r4 =>
 (JU [.sl ((r4.getD 0 d0).ll)]).bindR fun r5 =>
 (JS [.sl ((r4.getD 0 d0).ll)]).bindR fun r6 =>
 (yl [.sl ((a.getD 0 d0).ll)]).bindR fun r7 =>
 (yl [.sl ((a.getD 0 d0).ll)]).bindR fun r8 =>
 (JU [.sl ((r7.getD 0 d0).ll)]).bindR fun r9 =>
 (JS [.sl ((r8.getD 0 d0).ll)]).bindR fun r10 =>
 ja (if ((((r4.getD 1 d0).ll).length:Int) == (0:Int))=true then
 (ym [.sl ((r5.getD 0 d0).ll),.sl ((r6.getD 0 d0).ll)]).bindR fun r11 =>
 if (r11.getD 0 d0).bb=true then
 (pu [.sl ((r5.getD 1 d0).ll),.sl [[DC.i (2:Int),DC.s ([68,97,116,101]:List UInt8),DC.s []],[DC.i (3:Int),DC.s ([78,111,112,101]:List UInt8),DC.s []],[DC.i (4:Int),DC.s ([85,115,101,114]:List UInt8),DC.s []]]]).bindR fun r12 =>
 if (r12.getD 0 d0).bb=true then
 (ym [.sl ((r9.getD 0 d0).ll),.sl ((r10.getD 0 d0).ll)]).bindR fun r13 =>
 if (r13.getD 0 d0).bb=true then
 (pu [.sl ((r9.getD 1 d0).ll),.sl ((r10.getD 1 d0).ll)]).bindR fun r14 =>
 if (r14.getD 0 d0).bb=true then
 (zZ [.sl ((r5.getD 0 d0).ll)]).bindR fun r15 =>
 .norm [.b ((((r15.getD 0 d0).ll).length:Int) == (((r6.getD 0 d0).ll).length:Int))]
 else
 .norm [.b false]
 else
 .norm [.b false]
 else
 .norm [.b false]
 else
 .norm [.b false]
 else
 .norm [.b false]) fun v16 =>
 .ret [.b ((v16.getD 0 d0).bb)]
 else
 .fail
theorem XY a:JT a=Kb a:=(jA cfg 3 _ a).trans (by kernel_rfl)
noncomputable def j2b (a:List DC):Out :=
 .ret [.b (decide ((((a.getD 0 d0).ll).length:Int) > (1048576:Int)))]
theorem j4F a:XJ a=j2b a:=(jA cfg 4 _ a).trans (by kernel_rfl)
noncomputable def kp:List DC → Out:=fun v2 =>
 if (decide ((v2.getD 3 d0).ii < (((v2.getD 0 d0).ll).length:Int)))=true then
 j9 (if 9=9 ∧ 0 ≤ (v2.getD 3 d0).ii ∧ (v2.getD 3 d0).ii < (((v2.getD 0 d0).ll).length:Int) then
 if ((v2.getD 1 d0).ss).length + (((((v2.getD 0 d0).ll).getD ((v2.getD 3 d0).ii).toNat []).getD 0 d0).ss).length < jN then
 if (((v2.getD 1 d0).ss) ++ (((((v2.getD 0 d0).ll).getD ((v2.getD 3 d0).ii).toNat []).getD 0 d0).ss)).length + ([10]:List UInt8).length < jN then
 .norm [.sl ((v2.getD 0 d0).ll),.s ((((v2.getD 1 d0).ss) ++ (((((v2.getD 0 d0).ll).getD ((v2.getD 3 d0).ii).toNat []).getD 0 d0).ss)) ++ ([10]:List UInt8)),.s ((v2.getD 2 d0).ss),.i ((v2.getD 3 d0).ii),.sl ((v2.getD 4 d0).ll),.i ((v2.getD 5 d0).ii),.i ((v2.getD 6 d0).ii)]
 else
 .fail
 else
 .fail
 else
 .fail) 1 fun v3 =>
 .norm [.sl ((v3.getD 0 d0).ll),.s ((v3.getD 1 d0).ss),.s ((v3.getD 2 d0).ss),.i (IntKind.i64.wrap ((v3.getD 3 d0).ii + (1:Int))),.sl ((v3.getD 4 d0).ll),.i ((v3.getD 5 d0).ii),.i ((v3.getD 6 d0).ii)]
 else
 .ex 0 [.sl ((v2.getD 0 d0).ll),.s ((v2.getD 1 d0).ss),.s ((v2.getD 2 d0).ss),.sl ((v2.getD 4 d0).ll),.i ((v2.getD 5 d0).ii),.i ((v2.getD 6 d0).ii)]
noncomputable def kN:List DC → Out:=fun v5 =>
 if (decide ((((v5.getD 0 d0).ll).length:Int) > (0:Int)))=true then
 j9 ((jx [.i (((v5.getD 0 d0).ll).length:Int),.sl ((v5.getD 3 d0).ll),.i ((v5.getD 4 d0).ii),.i ((v5.getD 5 d0).ii)]).bindR fun r6 =>
 if 9=9 ∧ 0 ≤ (r6.getD 0 d0).ii ∧ (r6.getD 0 d0).ii < (((v5.getD 0 d0).ll).length:Int) then
 if ((v5.getD 2 d0).ss).length + (((((v5.getD 0 d0).ll).getD ((r6.getD 0 d0).ii).toNat []).getD 0 d0).ss).length < jN then
 if (((v5.getD 2 d0).ss) ++ (((((v5.getD 0 d0).ll).getD ((r6.getD 0 d0).ii).toNat []).getD 0 d0).ss)).length + ([10]:List UInt8).length < jN then
 if 0 ≤ (r6.getD 0 d0).ii ∧ (r6.getD 0 d0).ii ≤ (((v5.getD 0 d0).ll).length:Int) then
 if ([]:List (List DC)).length + (((v5.getD 0 d0).ll).take ((r6.getD 0 d0).ii).toNat).length < jN then
 if 0 ≤ (IntKind.i64.wrap ((r6.getD 0 d0).ii + (1:Int))) ∧ (IntKind.i64.wrap ((r6.getD 0 d0).ii + (1:Int))) ≤ (((v5.getD 0 d0).ll).length:Int) then
 if (([]:List (List DC)) ++ (((v5.getD 0 d0).ll).take ((r6.getD 0 d0).ii).toNat)).length + (((v5.getD 0 d0).ll).drop (IntKind.i64.wrap ((r6.getD 0 d0).ii + (1:Int))).toNat).length < jN then
 .norm [.sl ((([]:List (List DC)) ++ (((v5.getD 0 d0).ll).take ((r6.getD 0 d0).ii).toNat)) ++ (((v5.getD 0 d0).ll).drop (IntKind.i64.wrap ((r6.getD 0 d0).ii + (1:Int))).toNat)),.s ((v5.getD 1 d0).ss),.s ((((v5.getD 2 d0).ss) ++ (((((v5.getD 0 d0).ll).getD ((r6.getD 0 d0).ii).toNat []).getD 0 d0).ss)) ++ ([10]:List UInt8)),.sl ((r6.getD 1 d0).ll),.i ((r6.getD 2 d0).ii),.i ((r6.getD 3 d0).ii)]
 else
 .fail
 else
 .fail
 else
 .fail
 else
 .fail
 else
 .fail
 else
 .fail
 else
 .fail) 3 fun v7 =>
 .norm [.sl ((v7.getD 0 d0).ll),.s ((v7.getD 1 d0).ss),.s ((v7.getD 2 d0).ss),.sl ((v7.getD 3 d0).ll),.i ((v7.getD 4 d0).ii),.i ((v7.getD 5 d0).ii)]
 else
 .ex 2 [.s ((v5.getD 1 d0).ss),.s ((v5.getD 2 d0).ss)]
noncomputable def K8 (a:List DC):Out :=
 (zj []).bindR fun r1 =>
 if ((r1.getD 0 d0).ll).length + [[DC.s ([101,120,116,101,110,100,32,116,121,112,101,32,85,115,101,114,32,123,10,32,32,109,111,114,101,58,32,73,110,116,10,125,10]:List UInt8)],[DC.s ([101,120,116,101,110,100,32,101,110,117,109,32,67,111,108,111,114,32,123,10,32,32,71,82,69,69,78,10,125,10]:List UInt8)],[DC.s ([101,120,116,101,110,100,32,105,110,112,117,116,32,70,105,110,100,32,123,10,32,32,100,101,101,112,58,32,66,111,111,108,101,97,110,32,61,32,116,114,117,101,10,125,10]:List UInt8)]].length < jN then
 if bsz (jU [.sl ((a.getD 0 d0).ll)]) < jN then
 j9 (jO kp [.sl (((r1.getD 0 d0).ll) ++ [[DC.s ([101,120,116,101,110,100,32,116,121,112,101,32,85,115,101,114,32,123,10,32,32,109,111,114,101,58,32,73,110,116,10,125,10]:List UInt8)],[DC.s ([101,120,116,101,110,100,32,101,110,117,109,32,67,111,108,111,114,32,123,10,32,32,71,82,69,69,78,10,125,10]:List UInt8)],[DC.s ([101,120,116,101,110,100,32,105,110,112,117,116,32,70,105,110,100,32,123,10,32,32,100,101,101,112,58,32,66,111,111,108,101,97,110,32,61,32,116,114,117,101,10,125,10]:List UInt8)]]),.s ([]:List UInt8),.s ([]:List UInt8),.i (0:Int),.sl (((X0 (jU [.sl ((a.getD 0 d0).ll)])).getD 0 d0).ll),.i (((X0 (jU [.sl ((a.getD 0 d0).ll)])).getD 1 d0).ii),.i (((X0 (jU [.sl ((a.getD 0 d0).ll)])).getD 2 d0).ii)]) 0 fun v4 =>
 j9 (jO kN [.sl ((v4.getD 0 d0).ll),.s ((v4.getD 1 d0).ss),.s ((v4.getD 2 d0).ss),.sl ((v4.getD 3 d0).ll),.i ((v4.getD 4 d0).ii),.i ((v4.getD 5 d0).ii)]) 2 fun v8 =>
 .ret [.s ((v8.getD 0 d0).ss),.s ((v8.getD 1 d0).ss)]
 else
 .fail
 else
 .fail
theorem XV a:yM a=K8 a:=(jA cfg 5 _ a).trans (by kernel_rfl)
noncomputable def qh:List DC → Out:=fun v1 =>
 if (decide ((v1.getD 4 d0).ii < (v1.getD 3 d0).ii))=true then
 j9 (if 70=70 ∧ 0 ≤ (v1.getD 4 d0).ii ∧ (v1.getD 4 d0).ii < (((v1.getD 2 d0).ll).length:Int) then
 j9 (ja (if (((((v1.getD 2 d0).ll).getD ((v1.getD 4 d0).ii).toNat []).getD 0 d0).ii == (3:Int))=true then
 (kI [.i (((((v1.getD 2 d0).ll).getD ((v1.getD 4 d0).ii).toNat []).getD 10 d0).ii),.b (((((v1.getD 2 d0).ll).getD ((v1.getD 4 d0).ii).toNat []).getD 11 d0).bb),.s (((((v1.getD 2 d0).ll).getD ((v1.getD 4 d0).ii).toNat []).getD 12 d0).ss),.s (((((v1.getD 2 d0).ll).getD ((v1.getD 4 d0).ii).toNat []).getD 13 d0).ss),.sl (((((v1.getD 2 d0).ll).getD ((v1.getD 4 d0).ii).toNat []).getD 14 d0).ll),.sl (((((v1.getD 2 d0).ll).getD ((v1.getD 4 d0).ii).toNat []).getD 15 d0).ll),.sl (((((v1.getD 2 d0).ll).getD ((v1.getD 4 d0).ii).toNat []).getD 16 d0).ll),.sl (((((v1.getD 2 d0).ll).getD ((v1.getD 4 d0).ii).toNat []).getD 17 d0).ll),.sl (((((v1.getD 2 d0).ll).getD ((v1.getD 4 d0).ii).toNat []).getD 18 d0).ll),.b (((((v1.getD 2 d0).ll).getD ((v1.getD 4 d0).ii).toNat []).getD 19 d0).bb),.sl (((((v1.getD 2 d0).ll).getD ((v1.getD 4 d0).ii).toNat []).getD 20 d0).ll)]).bindR fun r2 =>
 if ((v1.getD 0 d0).ll).length + [[DC.i ((r2.getD 0 d0).ii),DC.b ((r2.getD 1 d0).bb),DC.s ((r2.getD 2 d0).ss),DC.s ((r2.getD 3 d0).ss),DC.sl ((r2.getD 4 d0).ll),DC.sl ((r2.getD 5 d0).ll),DC.sl ((r2.getD 6 d0).ll),DC.sl ((r2.getD 7 d0).ll),DC.sl ((r2.getD 8 d0).ll),DC.b ((r2.getD 9 d0).bb),DC.sl ((r2.getD 10 d0).ll)]].length < jN ∧ 33=33 then
 .norm [.sl (((v1.getD 0 d0).ll) ++ [[DC.i ((r2.getD 0 d0).ii),DC.b ((r2.getD 1 d0).bb),DC.s ((r2.getD 2 d0).ss),DC.s ((r2.getD 3 d0).ss),DC.sl ((r2.getD 4 d0).ll),DC.sl ((r2.getD 5 d0).ll),DC.sl ((r2.getD 6 d0).ll),DC.sl ((r2.getD 7 d0).ll),DC.sl ((r2.getD 8 d0).ll),DC.b ((r2.getD 9 d0).bb),DC.sl ((r2.getD 10 d0).ll)]]),.sl ((v1.getD 1 d0).ll),.sl ((v1.getD 2 d0).ll),.i ((v1.getD 3 d0).ii),.i ((v1.getD 4 d0).ii)]
 else
 .fail
 else
 ja (if (((((v1.getD 2 d0).ll).getD ((v1.getD 4 d0).ii).toNat []).getD 0 d0).ii == (2:Int))=true then
 if ((v1.getD 1 d0).ll).length + [[DC.i (1:Int),DC.s (((((v1.getD 2 d0).ll).getD ((v1.getD 4 d0).ii).toNat []).getD 6 d0).ss),DC.s []]].length < jN then
 .norm [.sl ((v1.getD 0 d0).ll),.sl (((v1.getD 1 d0).ll) ++ [[DC.i (1:Int),DC.s (((((v1.getD 2 d0).ll).getD ((v1.getD 4 d0).ii).toNat []).getD 6 d0).ss),DC.s []]]),.sl ((v1.getD 2 d0).ll),.i ((v1.getD 3 d0).ii),.i ((v1.getD 4 d0).ii)]
 else
 .fail
 else
 if ((v1.getD 1 d0).ll).length + [[DC.i (1:Int),DC.s (((((v1.getD 2 d0).ll).getD ((v1.getD 4 d0).ii).toNat []).getD 2 d0).ss),DC.s []]].length < jN then
 .norm [.sl ((v1.getD 0 d0).ll),.sl (((v1.getD 1 d0).ll) ++ [[DC.i (1:Int),DC.s (((((v1.getD 2 d0).ll).getD ((v1.getD 4 d0).ii).toNat []).getD 2 d0).ss),DC.s []]]),.sl ((v1.getD 2 d0).ll),.i ((v1.getD 3 d0).ii),.i ((v1.getD 4 d0).ii)]
 else
 .fail) fun v3 =>
 .norm [.sl ((v3.getD 0 d0).ll),.sl ((v3.getD 1 d0).ll),.sl ((v3.getD 2 d0).ll),.i ((v3.getD 3 d0).ii),.i ((v3.getD 4 d0).ii)]) fun v4 =>
 .norm [.sl ((v4.getD 0 d0).ll),.sl ((v4.getD 1 d0).ll),.sl ((v4.getD 2 d0).ll),.i ((v4.getD 3 d0).ii),.i ((v4.getD 4 d0).ii)]) 2 fun v5 =>
 .norm [.sl ((v5.getD 0 d0).ll),.sl ((v5.getD 1 d0).ll),.sl ((v5.getD 2 d0).ll),.i ((v5.getD 3 d0).ii),.i ((v5.getD 4 d0).ii)]
 else
 .fail) 1 fun v6 =>
 .norm [.sl ((v6.getD 0 d0).ll),.sl ((v6.getD 1 d0).ll),.sl ((v6.getD 2 d0).ll),.i ((v6.getD 3 d0).ii),.i (IntKind.i64.wrap ((v6.getD 4 d0).ii + (1:Int)))]
 else
 .ex 0 [.sl ((v1.getD 0 d0).ll),.sl ((v1.getD 1 d0).ll)]
noncomputable def Xs (a:List DC):Out :=
 j9 (jO qh [.sl [],.sl [],.sl ((a.getD 0 d0).ll),.i (((a.getD 0 d0).ll).length:Int),.i (0:Int)]) 0 fun v7 =>
 .ret [.sl ((v7.getD 0 d0).ll),.sl ((v7.getD 1 d0).ll)]
theorem j1V a:Kn a=Xs a:=(jA cfg 7 _ a).trans (by kernel_rfl)
noncomputable def qm:List DC → Out:=fun v1 =>
 if (decide ((v1.getD 5 d0).ii < (v1.getD 4 d0).ii))=true then
 j9 (if 68=68 ∧ 0 ≤ (v1.getD 5 d0).ii ∧ (v1.getD 5 d0).ii < (((v1.getD 3 d0).ll).length:Int) then
 j9 (ja (if ((((v1.getD 3 d0).ll).getD ((v1.getD 5 d0).ii).toNat []).getD 1 d0).bb=true then
 .norm [.sl ((v1.getD 0 d0).ll),.sl ((v1.getD 1 d0).ll),.sl ((v1.getD 2 d0).ll),.sl ((v1.getD 3 d0).ll),.i ((v1.getD 4 d0).ii),.i ((v1.getD 5 d0).ii)]
 else
 if ((v1.getD 1 d0).ll).length < jN then
 ja (if (((v1.getD 1 d0).ll).any (fun x=>pM x [DC.i (((((v1.getD 3 d0).ll).getD ((v1.getD 5 d0).ii).toNat []).getD 0 d0).ii),DC.b (((((v1.getD 3 d0).ll).getD ((v1.getD 5 d0).ii).toNat []).getD 1 d0).bb),DC.s (((((v1.getD 3 d0).ll).getD ((v1.getD 5 d0).ii).toNat []).getD 2 d0).ss),DC.s (((((v1.getD 3 d0).ll).getD ((v1.getD 5 d0).ii).toNat []).getD 3 d0).ss),DC.sl (((((v1.getD 3 d0).ll).getD ((v1.getD 5 d0).ii).toNat []).getD 4 d0).ll),DC.sl (((((v1.getD 3 d0).ll).getD ((v1.getD 5 d0).ii).toNat []).getD 5 d0).ll),DC.sl (((((v1.getD 3 d0).ll).getD ((v1.getD 5 d0).ii).toNat []).getD 6 d0).ll),DC.sl (((((v1.getD 3 d0).ll).getD ((v1.getD 5 d0).ii).toNat []).getD 7 d0).ll),DC.sl (((((v1.getD 3 d0).ll).getD ((v1.getD 5 d0).ii).toNat []).getD 8 d0).ll),DC.b (((((v1.getD 3 d0).ll).getD ((v1.getD 5 d0).ii).toNat []).getD 9 d0).bb),DC.sl (((((v1.getD 3 d0).ll).getD ((v1.getD 5 d0).ii).toNat []).getD 10 d0).ll)]))=true then
 if ((v1.getD 2 d0).ll).length + [[DC.i (2:Int),DC.s (((((v1.getD 3 d0).ll).getD ((v1.getD 5 d0).ii).toNat []).getD 3 d0).ss),DC.s []]].length < jN then
 .norm [.sl ((v1.getD 0 d0).ll),.sl ((v1.getD 1 d0).ll),.sl (((v1.getD 2 d0).ll) ++ [[DC.i (2:Int),DC.s (((((v1.getD 3 d0).ll).getD ((v1.getD 5 d0).ii).toNat []).getD 3 d0).ss),DC.s []]]),.sl ((v1.getD 3 d0).ll),.i ((v1.getD 4 d0).ii),.i ((v1.getD 5 d0).ii)]
 else
 .fail
 else
 (kI [.i (((((v1.getD 3 d0).ll).getD ((v1.getD 5 d0).ii).toNat []).getD 0 d0).ii),.b (((((v1.getD 3 d0).ll).getD ((v1.getD 5 d0).ii).toNat []).getD 1 d0).bb),.s (((((v1.getD 3 d0).ll).getD ((v1.getD 5 d0).ii).toNat []).getD 2 d0).ss),.s (((((v1.getD 3 d0).ll).getD ((v1.getD 5 d0).ii).toNat []).getD 3 d0).ss),.sl (((((v1.getD 3 d0).ll).getD ((v1.getD 5 d0).ii).toNat []).getD 4 d0).ll),.sl (((((v1.getD 3 d0).ll).getD ((v1.getD 5 d0).ii).toNat []).getD 5 d0).ll),.sl (((((v1.getD 3 d0).ll).getD ((v1.getD 5 d0).ii).toNat []).getD 6 d0).ll),.sl (((((v1.getD 3 d0).ll).getD ((v1.getD 5 d0).ii).toNat []).getD 7 d0).ll),.sl (((((v1.getD 3 d0).ll).getD ((v1.getD 5 d0).ii).toNat []).getD 8 d0).ll),.b (((((v1.getD 3 d0).ll).getD ((v1.getD 5 d0).ii).toNat []).getD 9 d0).bb),.sl (((((v1.getD 3 d0).ll).getD ((v1.getD 5 d0).ii).toNat []).getD 10 d0).ll)]).bindR fun r2 =>
 if ((v1.getD 1 d0).ll).length + [[DC.i ((r2.getD 0 d0).ii),DC.b ((r2.getD 1 d0).bb),DC.s ((r2.getD 2 d0).ss),DC.s ((r2.getD 3 d0).ss),DC.sl ((r2.getD 4 d0).ll),DC.sl ((r2.getD 5 d0).ll),DC.sl ((r2.getD 6 d0).ll),DC.sl ((r2.getD 7 d0).ll),DC.sl ((r2.getD 8 d0).ll),DC.b ((r2.getD 9 d0).bb),DC.sl ((r2.getD 10 d0).ll)]].length < jN ∧ 33=33 then
 .norm [.sl ((v1.getD 0 d0).ll),.sl (((v1.getD 1 d0).ll) ++ [[DC.i ((r2.getD 0 d0).ii),DC.b ((r2.getD 1 d0).bb),DC.s ((r2.getD 2 d0).ss),DC.s ((r2.getD 3 d0).ss),DC.sl ((r2.getD 4 d0).ll),DC.sl ((r2.getD 5 d0).ll),DC.sl ((r2.getD 6 d0).ll),DC.sl ((r2.getD 7 d0).ll),DC.sl ((r2.getD 8 d0).ll),DC.b ((r2.getD 9 d0).bb),DC.sl ((r2.getD 10 d0).ll)]]),.sl ((v1.getD 2 d0).ll),.sl ((v1.getD 3 d0).ll),.i ((v1.getD 4 d0).ii),.i ((v1.getD 5 d0).ii)]
 else
 .fail) fun v3 =>
 .norm [.sl ((v3.getD 0 d0).ll),.sl ((v3.getD 1 d0).ll),.sl ((v3.getD 2 d0).ll),.sl ((v3.getD 3 d0).ll),.i ((v3.getD 4 d0).ii),.i ((v3.getD 5 d0).ii)]
 else
 .fail) fun v4 =>
 .norm [.sl ((v4.getD 0 d0).ll),.sl ((v4.getD 1 d0).ll),.sl ((v4.getD 2 d0).ll),.sl ((v4.getD 3 d0).ll),.i ((v4.getD 4 d0).ii),.i ((v4.getD 5 d0).ii)]) 2 fun v5 =>
 .norm [.sl ((v5.getD 0 d0).ll),.sl ((v5.getD 1 d0).ll),.sl ((v5.getD 2 d0).ll),.sl ((v5.getD 3 d0).ll),.i ((v5.getD 4 d0).ii),.i ((v5.getD 5 d0).ii)]
 else
 .fail) 1 fun v6 =>
 .norm [.sl ((v6.getD 0 d0).ll),.sl ((v6.getD 1 d0).ll),.sl ((v6.getD 2 d0).ll),.sl ((v6.getD 3 d0).ll),.i ((v6.getD 4 d0).ii),.i (IntKind.i64.wrap ((v6.getD 5 d0).ii + (1:Int)))]
 else
 .ex 0 [.sl ((v1.getD 0 d0).ll),.sl ((v1.getD 1 d0).ll),.sl ((v1.getD 2 d0).ll)]
noncomputable def ql:List DC → Out:=fun v8 =>
 if (decide ((v8.getD 4 d0).ii < (v8.getD 3 d0).ii))=true then
 j9 (if 68=68 ∧ 0 ≤ (v8.getD 4 d0).ii ∧ (v8.getD 4 d0).ii < (((v8.getD 2 d0).ll).length:Int) then
 if (!(((((v8.getD 2 d0).ll).getD ((v8.getD 4 d0).ii).toNat []).getD 1 d0).bb))=true then
 .ex 4 [.sl ((v8.getD 0 d0).ll),.sl ((v8.getD 1 d0).ll),.sl ((v8.getD 2 d0).ll),.i ((v8.getD 3 d0).ii),.i ((v8.getD 4 d0).ii)]
 else
 if ((v8.getD 0 d0).ll).length < jN then
 j9 (ja (if (decide ((ze (fun x=>pM x [DC.i (((((v8.getD 2 d0).ll).getD ((v8.getD 4 d0).ii).toNat []).getD 0 d0).ii),DC.b (((((v8.getD 2 d0).ll).getD ((v8.getD 4 d0).ii).toNat []).getD 1 d0).bb),DC.s (((((v8.getD 2 d0).ll).getD ((v8.getD 4 d0).ii).toNat []).getD 2 d0).ss),DC.s (((((v8.getD 2 d0).ll).getD ((v8.getD 4 d0).ii).toNat []).getD 3 d0).ss),DC.sl (((((v8.getD 2 d0).ll).getD ((v8.getD 4 d0).ii).toNat []).getD 4 d0).ll),DC.sl (((((v8.getD 2 d0).ll).getD ((v8.getD 4 d0).ii).toNat []).getD 5 d0).ll),DC.sl (((((v8.getD 2 d0).ll).getD ((v8.getD 4 d0).ii).toNat []).getD 6 d0).ll),DC.sl (((((v8.getD 2 d0).ll).getD ((v8.getD 4 d0).ii).toNat []).getD 7 d0).ll),DC.sl (((((v8.getD 2 d0).ll).getD ((v8.getD 4 d0).ii).toNat []).getD 8 d0).ll),DC.b (((((v8.getD 2 d0).ll).getD ((v8.getD 4 d0).ii).toNat []).getD 9 d0).bb),DC.sl (((((v8.getD 2 d0).ll).getD ((v8.getD 4 d0).ii).toNat []).getD 10 d0).ll)]) ((v8.getD 0 d0).ll)) < (0:Int)))=true then
 if ((v8.getD 1 d0).ll).length + [[DC.i (3:Int),DC.s (((((v8.getD 2 d0).ll).getD ((v8.getD 4 d0).ii).toNat []).getD 3 d0).ss),DC.s []]].length < jN then
 .norm [.sl ((v8.getD 0 d0).ll),.sl (((v8.getD 1 d0).ll) ++ [[DC.i (3:Int),DC.s (((((v8.getD 2 d0).ll).getD ((v8.getD 4 d0).ii).toNat []).getD 3 d0).ss),DC.s []]]),.sl ((v8.getD 2 d0).ll),.i ((v8.getD 3 d0).ii),.i ((v8.getD 4 d0).ii)]
 else
 .fail
 else
 if 68=68 ∧ 0 ≤ (ze (fun x=>pM x [DC.i (((((v8.getD 2 d0).ll).getD ((v8.getD 4 d0).ii).toNat []).getD 0 d0).ii),DC.b (((((v8.getD 2 d0).ll).getD ((v8.getD 4 d0).ii).toNat []).getD 1 d0).bb),DC.s (((((v8.getD 2 d0).ll).getD ((v8.getD 4 d0).ii).toNat []).getD 2 d0).ss),DC.s (((((v8.getD 2 d0).ll).getD ((v8.getD 4 d0).ii).toNat []).getD 3 d0).ss),DC.sl (((((v8.getD 2 d0).ll).getD ((v8.getD 4 d0).ii).toNat []).getD 4 d0).ll),DC.sl (((((v8.getD 2 d0).ll).getD ((v8.getD 4 d0).ii).toNat []).getD 5 d0).ll),DC.sl (((((v8.getD 2 d0).ll).getD ((v8.getD 4 d0).ii).toNat []).getD 6 d0).ll),DC.sl (((((v8.getD 2 d0).ll).getD ((v8.getD 4 d0).ii).toNat []).getD 7 d0).ll),DC.sl (((((v8.getD 2 d0).ll).getD ((v8.getD 4 d0).ii).toNat []).getD 8 d0).ll),DC.b (((((v8.getD 2 d0).ll).getD ((v8.getD 4 d0).ii).toNat []).getD 9 d0).bb),DC.sl (((((v8.getD 2 d0).ll).getD ((v8.getD 4 d0).ii).toNat []).getD 10 d0).ll)]) ((v8.getD 0 d0).ll)) ∧ (ze (fun x=>pM x [DC.i (((((v8.getD 2 d0).ll).getD ((v8.getD 4 d0).ii).toNat []).getD 0 d0).ii),DC.b (((((v8.getD 2 d0).ll).getD ((v8.getD 4 d0).ii).toNat []).getD 1 d0).bb),DC.s (((((v8.getD 2 d0).ll).getD ((v8.getD 4 d0).ii).toNat []).getD 2 d0).ss),DC.s (((((v8.getD 2 d0).ll).getD ((v8.getD 4 d0).ii).toNat []).getD 3 d0).ss),DC.sl (((((v8.getD 2 d0).ll).getD ((v8.getD 4 d0).ii).toNat []).getD 4 d0).ll),DC.sl (((((v8.getD 2 d0).ll).getD ((v8.getD 4 d0).ii).toNat []).getD 5 d0).ll),DC.sl (((((v8.getD 2 d0).ll).getD ((v8.getD 4 d0).ii).toNat []).getD 6 d0).ll),DC.sl (((((v8.getD 2 d0).ll).getD ((v8.getD 4 d0).ii).toNat []).getD 7 d0).ll),DC.sl (((((v8.getD 2 d0).ll).getD ((v8.getD 4 d0).ii).toNat []).getD 8 d0).ll),DC.b (((((v8.getD 2 d0).ll).getD ((v8.getD 4 d0).ii).toNat []).getD 9 d0).bb),DC.sl (((((v8.getD 2 d0).ll).getD ((v8.getD 4 d0).ii).toNat []).getD 10 d0).ll)]) ((v8.getD 0 d0).ll)) < (((v8.getD 0 d0).ll).length:Int) then
 ja (if (((((v8.getD 0 d0).ll).getD (ze (fun x=>pM x [DC.i (((((v8.getD 2 d0).ll).getD ((v8.getD 4 d0).ii).toNat []).getD 0 d0).ii),DC.b (((((v8.getD 2 d0).ll).getD ((v8.getD 4 d0).ii).toNat []).getD 1 d0).bb),DC.s (((((v8.getD 2 d0).ll).getD ((v8.getD 4 d0).ii).toNat []).getD 2 d0).ss),DC.s (((((v8.getD 2 d0).ll).getD ((v8.getD 4 d0).ii).toNat []).getD 3 d0).ss),DC.sl (((((v8.getD 2 d0).ll).getD ((v8.getD 4 d0).ii).toNat []).getD 4 d0).ll),DC.sl (((((v8.getD 2 d0).ll).getD ((v8.getD 4 d0).ii).toNat []).getD 5 d0).ll),DC.sl (((((v8.getD 2 d0).ll).getD ((v8.getD 4 d0).ii).toNat []).getD 6 d0).ll),DC.sl (((((v8.getD 2 d0).ll).getD ((v8.getD 4 d0).ii).toNat []).getD 7 d0).ll),DC.sl (((((v8.getD 2 d0).ll).getD ((v8.getD 4 d0).ii).toNat []).getD 8 d0).ll),DC.b (((((v8.getD 2 d0).ll).getD ((v8.getD 4 d0).ii).toNat []).getD 9 d0).bb),DC.sl (((((v8.getD 2 d0).ll).getD ((v8.getD 4 d0).ii).toNat []).getD 10 d0).ll)]) ((v8.getD 0 d0).ll)).toNat []).getD 0 d0).ii != ((((v8.getD 2 d0).ll).getD ((v8.getD 4 d0).ii).toNat []).getD 0 d0).ii)=true then
 if ((v8.getD 1 d0).ll).length + [[DC.i (4:Int),DC.s (((((v8.getD 2 d0).ll).getD ((v8.getD 4 d0).ii).toNat []).getD 3 d0).ss),DC.s []]].length < jN then
 .norm [.sl ((v8.getD 0 d0).ll),.sl (((v8.getD 1 d0).ll) ++ [[DC.i (4:Int),DC.s (((((v8.getD 2 d0).ll).getD ((v8.getD 4 d0).ii).toNat []).getD 3 d0).ss),DC.s []]]),.sl ((v8.getD 2 d0).ll),.i ((v8.getD 3 d0).ii),.i ((v8.getD 4 d0).ii)]
 else
 .fail
 else
 if 68=68 ∧ 0 ≤ (ze (fun x=>pM x [DC.i (((((v8.getD 2 d0).ll).getD ((v8.getD 4 d0).ii).toNat []).getD 0 d0).ii),DC.b (((((v8.getD 2 d0).ll).getD ((v8.getD 4 d0).ii).toNat []).getD 1 d0).bb),DC.s (((((v8.getD 2 d0).ll).getD ((v8.getD 4 d0).ii).toNat []).getD 2 d0).ss),DC.s (((((v8.getD 2 d0).ll).getD ((v8.getD 4 d0).ii).toNat []).getD 3 d0).ss),DC.sl (((((v8.getD 2 d0).ll).getD ((v8.getD 4 d0).ii).toNat []).getD 4 d0).ll),DC.sl (((((v8.getD 2 d0).ll).getD ((v8.getD 4 d0).ii).toNat []).getD 5 d0).ll),DC.sl (((((v8.getD 2 d0).ll).getD ((v8.getD 4 d0).ii).toNat []).getD 6 d0).ll),DC.sl (((((v8.getD 2 d0).ll).getD ((v8.getD 4 d0).ii).toNat []).getD 7 d0).ll),DC.sl (((((v8.getD 2 d0).ll).getD ((v8.getD 4 d0).ii).toNat []).getD 8 d0).ll),DC.b (((((v8.getD 2 d0).ll).getD ((v8.getD 4 d0).ii).toNat []).getD 9 d0).bb),DC.sl (((((v8.getD 2 d0).ll).getD ((v8.getD 4 d0).ii).toNat []).getD 10 d0).ll)]) ((v8.getD 0 d0).ll)) ∧ (ze (fun x=>pM x [DC.i (((((v8.getD 2 d0).ll).getD ((v8.getD 4 d0).ii).toNat []).getD 0 d0).ii),DC.b (((((v8.getD 2 d0).ll).getD ((v8.getD 4 d0).ii).toNat []).getD 1 d0).bb),DC.s (((((v8.getD 2 d0).ll).getD ((v8.getD 4 d0).ii).toNat []).getD 2 d0).ss),DC.s (((((v8.getD 2 d0).ll).getD ((v8.getD 4 d0).ii).toNat []).getD 3 d0).ss),DC.sl (((((v8.getD 2 d0).ll).getD ((v8.getD 4 d0).ii).toNat []).getD 4 d0).ll),DC.sl (((((v8.getD 2 d0).ll).getD ((v8.getD 4 d0).ii).toNat []).getD 5 d0).ll),DC.sl (((((v8.getD 2 d0).ll).getD ((v8.getD 4 d0).ii).toNat []).getD 6 d0).ll),DC.sl (((((v8.getD 2 d0).ll).getD ((v8.getD 4 d0).ii).toNat []).getD 7 d0).ll),DC.sl (((((v8.getD 2 d0).ll).getD ((v8.getD 4 d0).ii).toNat []).getD 8 d0).ll),DC.b (((((v8.getD 2 d0).ll).getD ((v8.getD 4 d0).ii).toNat []).getD 9 d0).bb),DC.sl (((((v8.getD 2 d0).ll).getD ((v8.getD 4 d0).ii).toNat []).getD 10 d0).ll)]) ((v8.getD 0 d0).ll)) < (((v8.getD 0 d0).ll).length:Int) then
 (Q4 [.i (((((v8.getD 0 d0).ll).getD (ze (fun x=>pM x [DC.i (((((v8.getD 2 d0).ll).getD ((v8.getD 4 d0).ii).toNat []).getD 0 d0).ii),DC.b (((((v8.getD 2 d0).ll).getD ((v8.getD 4 d0).ii).toNat []).getD 1 d0).bb),DC.s (((((v8.getD 2 d0).ll).getD ((v8.getD 4 d0).ii).toNat []).getD 2 d0).ss),DC.s (((((v8.getD 2 d0).ll).getD ((v8.getD 4 d0).ii).toNat []).getD 3 d0).ss),DC.sl (((((v8.getD 2 d0).ll).getD ((v8.getD 4 d0).ii).toNat []).getD 4 d0).ll),DC.sl (((((v8.getD 2 d0).ll).getD ((v8.getD 4 d0).ii).toNat []).getD 5 d0).ll),DC.sl (((((v8.getD 2 d0).ll).getD ((v8.getD 4 d0).ii).toNat []).getD 6 d0).ll),DC.sl (((((v8.getD 2 d0).ll).getD ((v8.getD 4 d0).ii).toNat []).getD 7 d0).ll),DC.sl (((((v8.getD 2 d0).ll).getD ((v8.getD 4 d0).ii).toNat []).getD 8 d0).ll),DC.b (((((v8.getD 2 d0).ll).getD ((v8.getD 4 d0).ii).toNat []).getD 9 d0).bb),DC.sl (((((v8.getD 2 d0).ll).getD ((v8.getD 4 d0).ii).toNat []).getD 10 d0).ll)]) ((v8.getD 0 d0).ll)).toNat []).getD 0 d0).ii),.b (((((v8.getD 0 d0).ll).getD (ze (fun x=>pM x [DC.i (((((v8.getD 2 d0).ll).getD ((v8.getD 4 d0).ii).toNat []).getD 0 d0).ii),DC.b (((((v8.getD 2 d0).ll).getD ((v8.getD 4 d0).ii).toNat []).getD 1 d0).bb),DC.s (((((v8.getD 2 d0).ll).getD ((v8.getD 4 d0).ii).toNat []).getD 2 d0).ss),DC.s (((((v8.getD 2 d0).ll).getD ((v8.getD 4 d0).ii).toNat []).getD 3 d0).ss),DC.sl (((((v8.getD 2 d0).ll).getD ((v8.getD 4 d0).ii).toNat []).getD 4 d0).ll),DC.sl (((((v8.getD 2 d0).ll).getD ((v8.getD 4 d0).ii).toNat []).getD 5 d0).ll),DC.sl (((((v8.getD 2 d0).ll).getD ((v8.getD 4 d0).ii).toNat []).getD 6 d0).ll),DC.sl (((((v8.getD 2 d0).ll).getD ((v8.getD 4 d0).ii).toNat []).getD 7 d0).ll),DC.sl (((((v8.getD 2 d0).ll).getD ((v8.getD 4 d0).ii).toNat []).getD 8 d0).ll),DC.b (((((v8.getD 2 d0).ll).getD ((v8.getD 4 d0).ii).toNat []).getD 9 d0).bb),DC.sl (((((v8.getD 2 d0).ll).getD ((v8.getD 4 d0).ii).toNat []).getD 10 d0).ll)]) ((v8.getD 0 d0).ll)).toNat []).getD 1 d0).bb),.s (((((v8.getD 0 d0).ll).getD (ze (fun x=>pM x [DC.i (((((v8.getD 2 d0).ll).getD ((v8.getD 4 d0).ii).toNat []).getD 0 d0).ii),DC.b (((((v8.getD 2 d0).ll).getD ((v8.getD 4 d0).ii).toNat []).getD 1 d0).bb),DC.s (((((v8.getD 2 d0).ll).getD ((v8.getD 4 d0).ii).toNat []).getD 2 d0).ss),DC.s (((((v8.getD 2 d0).ll).getD ((v8.getD 4 d0).ii).toNat []).getD 3 d0).ss),DC.sl (((((v8.getD 2 d0).ll).getD ((v8.getD 4 d0).ii).toNat []).getD 4 d0).ll),DC.sl (((((v8.getD 2 d0).ll).getD ((v8.getD 4 d0).ii).toNat []).getD 5 d0).ll),DC.sl (((((v8.getD 2 d0).ll).getD ((v8.getD 4 d0).ii).toNat []).getD 6 d0).ll),DC.sl (((((v8.getD 2 d0).ll).getD ((v8.getD 4 d0).ii).toNat []).getD 7 d0).ll),DC.sl (((((v8.getD 2 d0).ll).getD ((v8.getD 4 d0).ii).toNat []).getD 8 d0).ll),DC.b (((((v8.getD 2 d0).ll).getD ((v8.getD 4 d0).ii).toNat []).getD 9 d0).bb),DC.sl (((((v8.getD 2 d0).ll).getD ((v8.getD 4 d0).ii).toNat []).getD 10 d0).ll)]) ((v8.getD 0 d0).ll)).toNat []).getD 2 d0).ss),.s (((((v8.getD 0 d0).ll).getD (ze (fun x=>pM x [DC.i (((((v8.getD 2 d0).ll).getD ((v8.getD 4 d0).ii).toNat []).getD 0 d0).ii),DC.b (((((v8.getD 2 d0).ll).getD ((v8.getD 4 d0).ii).toNat []).getD 1 d0).bb),DC.s (((((v8.getD 2 d0).ll).getD ((v8.getD 4 d0).ii).toNat []).getD 2 d0).ss),DC.s (((((v8.getD 2 d0).ll).getD ((v8.getD 4 d0).ii).toNat []).getD 3 d0).ss),DC.sl (((((v8.getD 2 d0).ll).getD ((v8.getD 4 d0).ii).toNat []).getD 4 d0).ll),DC.sl (((((v8.getD 2 d0).ll).getD ((v8.getD 4 d0).ii).toNat []).getD 5 d0).ll),DC.sl (((((v8.getD 2 d0).ll).getD ((v8.getD 4 d0).ii).toNat []).getD 6 d0).ll),DC.sl (((((v8.getD 2 d0).ll).getD ((v8.getD 4 d0).ii).toNat []).getD 7 d0).ll),DC.sl (((((v8.getD 2 d0).ll).getD ((v8.getD 4 d0).ii).toNat []).getD 8 d0).ll),DC.b (((((v8.getD 2 d0).ll).getD ((v8.getD 4 d0).ii).toNat []).getD 9 d0).bb),DC.sl (((((v8.getD 2 d0).ll).getD ((v8.getD 4 d0).ii).toNat []).getD 10 d0).ll)]) ((v8.getD 0 d0).ll)).toNat []).getD 3 d0).ss),.sl (((((v8.getD 0 d0).ll).getD (ze (fun x=>pM x [DC.i (((((v8.getD 2 d0).ll).getD ((v8.getD 4 d0).ii).toNat []).getD 0 d0).ii),DC.b (((((v8.getD 2 d0).ll).getD ((v8.getD 4 d0).ii).toNat []).getD 1 d0).bb),DC.s (((((v8.getD 2 d0).ll).getD ((v8.getD 4 d0).ii).toNat []).getD 2 d0).ss),DC.s (((((v8.getD 2 d0).ll).getD ((v8.getD 4 d0).ii).toNat []).getD 3 d0).ss),DC.sl (((((v8.getD 2 d0).ll).getD ((v8.getD 4 d0).ii).toNat []).getD 4 d0).ll),DC.sl (((((v8.getD 2 d0).ll).getD ((v8.getD 4 d0).ii).toNat []).getD 5 d0).ll),DC.sl (((((v8.getD 2 d0).ll).getD ((v8.getD 4 d0).ii).toNat []).getD 6 d0).ll),DC.sl (((((v8.getD 2 d0).ll).getD ((v8.getD 4 d0).ii).toNat []).getD 7 d0).ll),DC.sl (((((v8.getD 2 d0).ll).getD ((v8.getD 4 d0).ii).toNat []).getD 8 d0).ll),DC.b (((((v8.getD 2 d0).ll).getD ((v8.getD 4 d0).ii).toNat []).getD 9 d0).bb),DC.sl (((((v8.getD 2 d0).ll).getD ((v8.getD 4 d0).ii).toNat []).getD 10 d0).ll)]) ((v8.getD 0 d0).ll)).toNat []).getD 4 d0).ll),.sl (((((v8.getD 0 d0).ll).getD (ze (fun x=>pM x [DC.i (((((v8.getD 2 d0).ll).getD ((v8.getD 4 d0).ii).toNat []).getD 0 d0).ii),DC.b (((((v8.getD 2 d0).ll).getD ((v8.getD 4 d0).ii).toNat []).getD 1 d0).bb),DC.s (((((v8.getD 2 d0).ll).getD ((v8.getD 4 d0).ii).toNat []).getD 2 d0).ss),DC.s (((((v8.getD 2 d0).ll).getD ((v8.getD 4 d0).ii).toNat []).getD 3 d0).ss),DC.sl (((((v8.getD 2 d0).ll).getD ((v8.getD 4 d0).ii).toNat []).getD 4 d0).ll),DC.sl (((((v8.getD 2 d0).ll).getD ((v8.getD 4 d0).ii).toNat []).getD 5 d0).ll),DC.sl (((((v8.getD 2 d0).ll).getD ((v8.getD 4 d0).ii).toNat []).getD 6 d0).ll),DC.sl (((((v8.getD 2 d0).ll).getD ((v8.getD 4 d0).ii).toNat []).getD 7 d0).ll),DC.sl (((((v8.getD 2 d0).ll).getD ((v8.getD 4 d0).ii).toNat []).getD 8 d0).ll),DC.b (((((v8.getD 2 d0).ll).getD ((v8.getD 4 d0).ii).toNat []).getD 9 d0).bb),DC.sl (((((v8.getD 2 d0).ll).getD ((v8.getD 4 d0).ii).toNat []).getD 10 d0).ll)]) ((v8.getD 0 d0).ll)).toNat []).getD 5 d0).ll),.sl (((((v8.getD 0 d0).ll).getD (ze (fun x=>pM x [DC.i (((((v8.getD 2 d0).ll).getD ((v8.getD 4 d0).ii).toNat []).getD 0 d0).ii),DC.b (((((v8.getD 2 d0).ll).getD ((v8.getD 4 d0).ii).toNat []).getD 1 d0).bb),DC.s (((((v8.getD 2 d0).ll).getD ((v8.getD 4 d0).ii).toNat []).getD 2 d0).ss),DC.s (((((v8.getD 2 d0).ll).getD ((v8.getD 4 d0).ii).toNat []).getD 3 d0).ss),DC.sl (((((v8.getD 2 d0).ll).getD ((v8.getD 4 d0).ii).toNat []).getD 4 d0).ll),DC.sl (((((v8.getD 2 d0).ll).getD ((v8.getD 4 d0).ii).toNat []).getD 5 d0).ll),DC.sl (((((v8.getD 2 d0).ll).getD ((v8.getD 4 d0).ii).toNat []).getD 6 d0).ll),DC.sl (((((v8.getD 2 d0).ll).getD ((v8.getD 4 d0).ii).toNat []).getD 7 d0).ll),DC.sl (((((v8.getD 2 d0).ll).getD ((v8.getD 4 d0).ii).toNat []).getD 8 d0).ll),DC.b (((((v8.getD 2 d0).ll).getD ((v8.getD 4 d0).ii).toNat []).getD 9 d0).bb),DC.sl (((((v8.getD 2 d0).ll).getD ((v8.getD 4 d0).ii).toNat []).getD 10 d0).ll)]) ((v8.getD 0 d0).ll)).toNat []).getD 6 d0).ll),.sl (((((v8.getD 0 d0).ll).getD (ze (fun x=>pM x [DC.i (((((v8.getD 2 d0).ll).getD ((v8.getD 4 d0).ii).toNat []).getD 0 d0).ii),DC.b (((((v8.getD 2 d0).ll).getD ((v8.getD 4 d0).ii).toNat []).getD 1 d0).bb),DC.s (((((v8.getD 2 d0).ll).getD ((v8.getD 4 d0).ii).toNat []).getD 2 d0).ss),DC.s (((((v8.getD 2 d0).ll).getD ((v8.getD 4 d0).ii).toNat []).getD 3 d0).ss),DC.sl (((((v8.getD 2 d0).ll).getD ((v8.getD 4 d0).ii).toNat []).getD 4 d0).ll),DC.sl (((((v8.getD 2 d0).ll).getD ((v8.getD 4 d0).ii).toNat []).getD 5 d0).ll),DC.sl (((((v8.getD 2 d0).ll).getD ((v8.getD 4 d0).ii).toNat []).getD 6 d0).ll),DC.sl (((((v8.getD 2 d0).ll).getD ((v8.getD 4 d0).ii).toNat []).getD 7 d0).ll),DC.sl (((((v8.getD 2 d0).ll).getD ((v8.getD 4 d0).ii).toNat []).getD 8 d0).ll),DC.b (((((v8.getD 2 d0).ll).getD ((v8.getD 4 d0).ii).toNat []).getD 9 d0).bb),DC.sl (((((v8.getD 2 d0).ll).getD ((v8.getD 4 d0).ii).toNat []).getD 10 d0).ll)]) ((v8.getD 0 d0).ll)).toNat []).getD 7 d0).ll),.sl (((((v8.getD 0 d0).ll).getD (ze (fun x=>pM x [DC.i (((((v8.getD 2 d0).ll).getD ((v8.getD 4 d0).ii).toNat []).getD 0 d0).ii),DC.b (((((v8.getD 2 d0).ll).getD ((v8.getD 4 d0).ii).toNat []).getD 1 d0).bb),DC.s (((((v8.getD 2 d0).ll).getD ((v8.getD 4 d0).ii).toNat []).getD 2 d0).ss),DC.s (((((v8.getD 2 d0).ll).getD ((v8.getD 4 d0).ii).toNat []).getD 3 d0).ss),DC.sl (((((v8.getD 2 d0).ll).getD ((v8.getD 4 d0).ii).toNat []).getD 4 d0).ll),DC.sl (((((v8.getD 2 d0).ll).getD ((v8.getD 4 d0).ii).toNat []).getD 5 d0).ll),DC.sl (((((v8.getD 2 d0).ll).getD ((v8.getD 4 d0).ii).toNat []).getD 6 d0).ll),DC.sl (((((v8.getD 2 d0).ll).getD ((v8.getD 4 d0).ii).toNat []).getD 7 d0).ll),DC.sl (((((v8.getD 2 d0).ll).getD ((v8.getD 4 d0).ii).toNat []).getD 8 d0).ll),DC.b (((((v8.getD 2 d0).ll).getD ((v8.getD 4 d0).ii).toNat []).getD 9 d0).bb),DC.sl (((((v8.getD 2 d0).ll).getD ((v8.getD 4 d0).ii).toNat []).getD 10 d0).ll)]) ((v8.getD 0 d0).ll)).toNat []).getD 8 d0).ll),.b (((((v8.getD 0 d0).ll).getD (ze (fun x=>pM x [DC.i (((((v8.getD 2 d0).ll).getD ((v8.getD 4 d0).ii).toNat []).getD 0 d0).ii),DC.b (((((v8.getD 2 d0).ll).getD ((v8.getD 4 d0).ii).toNat []).getD 1 d0).bb),DC.s (((((v8.getD 2 d0).ll).getD ((v8.getD 4 d0).ii).toNat []).getD 2 d0).ss),DC.s (((((v8.getD 2 d0).ll).getD ((v8.getD 4 d0).ii).toNat []).getD 3 d0).ss),DC.sl (((((v8.getD 2 d0).ll).getD ((v8.getD 4 d0).ii).toNat []).getD 4 d0).ll),DC.sl (((((v8.getD 2 d0).ll).getD ((v8.getD 4 d0).ii).toNat []).getD 5 d0).ll),DC.sl (((((v8.getD 2 d0).ll).getD ((v8.getD 4 d0).ii).toNat []).getD 6 d0).ll),DC.sl (((((v8.getD 2 d0).ll).getD ((v8.getD 4 d0).ii).toNat []).getD 7 d0).ll),DC.sl (((((v8.getD 2 d0).ll).getD ((v8.getD 4 d0).ii).toNat []).getD 8 d0).ll),DC.b (((((v8.getD 2 d0).ll).getD ((v8.getD 4 d0).ii).toNat []).getD 9 d0).bb),DC.sl (((((v8.getD 2 d0).ll).getD ((v8.getD 4 d0).ii).toNat []).getD 10 d0).ll)]) ((v8.getD 0 d0).ll)).toNat []).getD 9 d0).bb),.sl (((((v8.getD 0 d0).ll).getD (ze (fun x=>pM x [DC.i (((((v8.getD 2 d0).ll).getD ((v8.getD 4 d0).ii).toNat []).getD 0 d0).ii),DC.b (((((v8.getD 2 d0).ll).getD ((v8.getD 4 d0).ii).toNat []).getD 1 d0).bb),DC.s (((((v8.getD 2 d0).ll).getD ((v8.getD 4 d0).ii).toNat []).getD 2 d0).ss),DC.s (((((v8.getD 2 d0).ll).getD ((v8.getD 4 d0).ii).toNat []).getD 3 d0).ss),DC.sl (((((v8.getD 2 d0).ll).getD ((v8.getD 4 d0).ii).toNat []).getD 4 d0).ll),DC.sl (((((v8.getD 2 d0).ll).getD ((v8.getD 4 d0).ii).toNat []).getD 5 d0).ll),DC.sl (((((v8.getD 2 d0).ll).getD ((v8.getD 4 d0).ii).toNat []).getD 6 d0).ll),DC.sl (((((v8.getD 2 d0).ll).getD ((v8.getD 4 d0).ii).toNat []).getD 7 d0).ll),DC.sl (((((v8.getD 2 d0).ll).getD ((v8.getD 4 d0).ii).toNat []).getD 8 d0).ll),DC.b (((((v8.getD 2 d0).ll).getD ((v8.getD 4 d0).ii).toNat []).getD 9 d0).bb),DC.sl (((((v8.getD 2 d0).ll).getD ((v8.getD 4 d0).ii).toNat []).getD 10 d0).ll)]) ((v8.getD 0 d0).ll)).toNat []).getD 10 d0).ll),.i (((((v8.getD 2 d0).ll).getD ((v8.getD 4 d0).ii).toNat []).getD 0 d0).ii),.b (((((v8.getD 2 d0).ll).getD ((v8.getD 4 d0).ii).toNat []).getD 1 d0).bb),.s (((((v8.getD 2 d0).ll).getD ((v8.getD 4 d0).ii).toNat []).getD 2 d0).ss),.s (((((v8.getD 2 d0).ll).getD ((v8.getD 4 d0).ii).toNat []).getD 3 d0).ss),.sl (((((v8.getD 2 d0).ll).getD ((v8.getD 4 d0).ii).toNat []).getD 4 d0).ll),.sl (((((v8.getD 2 d0).ll).getD ((v8.getD 4 d0).ii).toNat []).getD 5 d0).ll),.sl (((((v8.getD 2 d0).ll).getD ((v8.getD 4 d0).ii).toNat []).getD 6 d0).ll),.sl (((((v8.getD 2 d0).ll).getD ((v8.getD 4 d0).ii).toNat []).getD 7 d0).ll),.sl (((((v8.getD 2 d0).ll).getD ((v8.getD 4 d0).ii).toNat []).getD 8 d0).ll),.b (((((v8.getD 2 d0).ll).getD ((v8.getD 4 d0).ii).toNat []).getD 9 d0).bb),.sl (((((v8.getD 2 d0).ll).getD ((v8.getD 4 d0).ii).toNat []).getD 10 d0).ll)]).bindR fun r9 =>
 if 68=68 ∧ 0 ≤ (ze (fun x=>pM x [DC.i (((((v8.getD 2 d0).ll).getD ((v8.getD 4 d0).ii).toNat []).getD 0 d0).ii),DC.b (((((v8.getD 2 d0).ll).getD ((v8.getD 4 d0).ii).toNat []).getD 1 d0).bb),DC.s (((((v8.getD 2 d0).ll).getD ((v8.getD 4 d0).ii).toNat []).getD 2 d0).ss),DC.s (((((v8.getD 2 d0).ll).getD ((v8.getD 4 d0).ii).toNat []).getD 3 d0).ss),DC.sl (((((v8.getD 2 d0).ll).getD ((v8.getD 4 d0).ii).toNat []).getD 4 d0).ll),DC.sl (((((v8.getD 2 d0).ll).getD ((v8.getD 4 d0).ii).toNat []).getD 5 d0).ll),DC.sl (((((v8.getD 2 d0).ll).getD ((v8.getD 4 d0).ii).toNat []).getD 6 d0).ll),DC.sl (((((v8.getD 2 d0).ll).getD ((v8.getD 4 d0).ii).toNat []).getD 7 d0).ll),DC.sl (((((v8.getD 2 d0).ll).getD ((v8.getD 4 d0).ii).toNat []).getD 8 d0).ll),DC.b (((((v8.getD 2 d0).ll).getD ((v8.getD 4 d0).ii).toNat []).getD 9 d0).bb),DC.sl (((((v8.getD 2 d0).ll).getD ((v8.getD 4 d0).ii).toNat []).getD 10 d0).ll)]) ((v8.getD 0 d0).ll)) ∧ (ze (fun x=>pM x [DC.i (((((v8.getD 2 d0).ll).getD ((v8.getD 4 d0).ii).toNat []).getD 0 d0).ii),DC.b (((((v8.getD 2 d0).ll).getD ((v8.getD 4 d0).ii).toNat []).getD 1 d0).bb),DC.s (((((v8.getD 2 d0).ll).getD ((v8.getD 4 d0).ii).toNat []).getD 2 d0).ss),DC.s (((((v8.getD 2 d0).ll).getD ((v8.getD 4 d0).ii).toNat []).getD 3 d0).ss),DC.sl (((((v8.getD 2 d0).ll).getD ((v8.getD 4 d0).ii).toNat []).getD 4 d0).ll),DC.sl (((((v8.getD 2 d0).ll).getD ((v8.getD 4 d0).ii).toNat []).getD 5 d0).ll),DC.sl (((((v8.getD 2 d0).ll).getD ((v8.getD 4 d0).ii).toNat []).getD 6 d0).ll),DC.sl (((((v8.getD 2 d0).ll).getD ((v8.getD 4 d0).ii).toNat []).getD 7 d0).ll),DC.sl (((((v8.getD 2 d0).ll).getD ((v8.getD 4 d0).ii).toNat []).getD 8 d0).ll),DC.b (((((v8.getD 2 d0).ll).getD ((v8.getD 4 d0).ii).toNat []).getD 9 d0).bb),DC.sl (((((v8.getD 2 d0).ll).getD ((v8.getD 4 d0).ii).toNat []).getD 10 d0).ll)]) ((v8.getD 0 d0).ll)) < (((v8.getD 0 d0).ll).length:Int) then
 if 1068=1068 ∧ ((ze (fun x=>pM x [DC.i (((((v8.getD 2 d0).ll).getD ((v8.getD 4 d0).ii).toNat []).getD 0 d0).ii),DC.b (((((v8.getD 2 d0).ll).getD ((v8.getD 4 d0).ii).toNat []).getD 1 d0).bb),DC.s (((((v8.getD 2 d0).ll).getD ((v8.getD 4 d0).ii).toNat []).getD 2 d0).ss),DC.s (((((v8.getD 2 d0).ll).getD ((v8.getD 4 d0).ii).toNat []).getD 3 d0).ss),DC.sl (((((v8.getD 2 d0).ll).getD ((v8.getD 4 d0).ii).toNat []).getD 4 d0).ll),DC.sl (((((v8.getD 2 d0).ll).getD ((v8.getD 4 d0).ii).toNat []).getD 5 d0).ll),DC.sl (((((v8.getD 2 d0).ll).getD ((v8.getD 4 d0).ii).toNat []).getD 6 d0).ll),DC.sl (((((v8.getD 2 d0).ll).getD ((v8.getD 4 d0).ii).toNat []).getD 7 d0).ll),DC.sl (((((v8.getD 2 d0).ll).getD ((v8.getD 4 d0).ii).toNat []).getD 8 d0).ll),DC.b (((((v8.getD 2 d0).ll).getD ((v8.getD 4 d0).ii).toNat []).getD 9 d0).bb),DC.sl (((((v8.getD 2 d0).ll).getD ((v8.getD 4 d0).ii).toNat []).getD 10 d0).ll)]) ((v8.getD 0 d0).ll)).toNat)=((ze (fun x=>pM x [DC.i (((((v8.getD 2 d0).ll).getD ((v8.getD 4 d0).ii).toNat []).getD 0 d0).ii),DC.b (((((v8.getD 2 d0).ll).getD ((v8.getD 4 d0).ii).toNat []).getD 1 d0).bb),DC.s (((((v8.getD 2 d0).ll).getD ((v8.getD 4 d0).ii).toNat []).getD 2 d0).ss),DC.s (((((v8.getD 2 d0).ll).getD ((v8.getD 4 d0).ii).toNat []).getD 3 d0).ss),DC.sl (((((v8.getD 2 d0).ll).getD ((v8.getD 4 d0).ii).toNat []).getD 4 d0).ll),DC.sl (((((v8.getD 2 d0).ll).getD ((v8.getD 4 d0).ii).toNat []).getD 5 d0).ll),DC.sl (((((v8.getD 2 d0).ll).getD ((v8.getD 4 d0).ii).toNat []).getD 6 d0).ll),DC.sl (((((v8.getD 2 d0).ll).getD ((v8.getD 4 d0).ii).toNat []).getD 7 d0).ll),DC.sl (((((v8.getD 2 d0).ll).getD ((v8.getD 4 d0).ii).toNat []).getD 8 d0).ll),DC.b (((((v8.getD 2 d0).ll).getD ((v8.getD 4 d0).ii).toNat []).getD 9 d0).bb),DC.sl (((((v8.getD 2 d0).ll).getD ((v8.getD 4 d0).ii).toNat []).getD 10 d0).ll)]) ((v8.getD 0 d0).ll)).toNat) ∧ 0=0 ∧ 11=11 then
 .norm [.sl (((v8.getD 0 d0).ll).set ((ze (fun x=>pM x [DC.i (((((v8.getD 2 d0).ll).getD ((v8.getD 4 d0).ii).toNat []).getD 0 d0).ii),DC.b (((((v8.getD 2 d0).ll).getD ((v8.getD 4 d0).ii).toNat []).getD 1 d0).bb),DC.s (((((v8.getD 2 d0).ll).getD ((v8.getD 4 d0).ii).toNat []).getD 2 d0).ss),DC.s (((((v8.getD 2 d0).ll).getD ((v8.getD 4 d0).ii).toNat []).getD 3 d0).ss),DC.sl (((((v8.getD 2 d0).ll).getD ((v8.getD 4 d0).ii).toNat []).getD 4 d0).ll),DC.sl (((((v8.getD 2 d0).ll).getD ((v8.getD 4 d0).ii).toNat []).getD 5 d0).ll),DC.sl (((((v8.getD 2 d0).ll).getD ((v8.getD 4 d0).ii).toNat []).getD 6 d0).ll),DC.sl (((((v8.getD 2 d0).ll).getD ((v8.getD 4 d0).ii).toNat []).getD 7 d0).ll),DC.sl (((((v8.getD 2 d0).ll).getD ((v8.getD 4 d0).ii).toNat []).getD 8 d0).ll),DC.b (((((v8.getD 2 d0).ll).getD ((v8.getD 4 d0).ii).toNat []).getD 9 d0).bb),DC.sl (((((v8.getD 2 d0).ll).getD ((v8.getD 4 d0).ii).toNat []).getD 10 d0).ll)]) ((v8.getD 0 d0).ll)).toNat) [DC.i ((r9.getD 0 d0).ii),DC.b ((r9.getD 1 d0).bb),DC.s ((r9.getD 2 d0).ss),DC.s ((r9.getD 3 d0).ss),DC.sl ((r9.getD 4 d0).ll),DC.sl ((r9.getD 5 d0).ll),DC.sl ((r9.getD 6 d0).ll),DC.sl ((r9.getD 7 d0).ll),DC.sl ((r9.getD 8 d0).ll),DC.b ((r9.getD 9 d0).bb),DC.sl ((r9.getD 10 d0).ll)]),.sl ((v8.getD 1 d0).ll),.sl ((v8.getD 2 d0).ll),.i ((v8.getD 3 d0).ii),.i ((v8.getD 4 d0).ii)]
 else
 .fail
 else
 .fail
 else
 .fail) fun v10 =>
 .norm [.sl ((v10.getD 0 d0).ll),.sl ((v10.getD 1 d0).ll),.sl ((v10.getD 2 d0).ll),.i ((v10.getD 3 d0).ii),.i ((v10.getD 4 d0).ii)]
 else
 .fail) fun v11 =>
 .norm [.sl ((v11.getD 0 d0).ll),.sl ((v11.getD 1 d0).ll),.sl ((v11.getD 2 d0).ll),.i ((v11.getD 3 d0).ii),.i ((v11.getD 4 d0).ii)]) 5 fun v12 =>
 .norm [.sl ((v12.getD 0 d0).ll),.sl ((v12.getD 1 d0).ll),.sl ((v12.getD 2 d0).ll),.i ((v12.getD 3 d0).ii),.i ((v12.getD 4 d0).ii)]
 else
 .fail
 else
 .fail) 4 fun v13 =>
 .norm [.sl ((v13.getD 0 d0).ll),.sl ((v13.getD 1 d0).ll),.sl ((v13.getD 2 d0).ll),.i ((v13.getD 3 d0).ii),.i (IntKind.i64.wrap ((v13.getD 4 d0).ii + (1:Int)))]
 else
 .ex 3 [.sl ((v8.getD 0 d0).ll),.sl ((v8.getD 1 d0).ll)]
noncomputable def j0b (a:List DC):Out :=
 if (decide ((((a.getD 0 d0).ll).length:Int) > (60:Int)))=true then
 .ret [.sl [],.sl [[DC.i (5:Int),DC.s [],DC.s []]]]
 else
 j9 (jO qm [.sl ((a.getD 0 d0).ll),.sl [],.sl [],.sl ((a.getD 0 d0).ll),.i (((a.getD 0 d0).ll).length:Int),.i (0:Int)]) 0 fun v7 =>
 j9 (jO ql [.sl ((v7.getD 1 d0).ll),.sl ((v7.getD 2 d0).ll),.sl ((v7.getD 0 d0).ll),.i (((v7.getD 0 d0).ll).length:Int),.i (0:Int)]) 3 fun v14 =>
 .ret [.sl ((v14.getD 0 d0).ll),.sl ((v14.getD 1 d0).ll)]
theorem j3S a:JU a=j0b a:=(jA cfg 8 _ a).trans (by kernel_rfl)
noncomputable def qk:List DC → Out:=fun v1 =>
 if (decide ((v1.getD 3 d0).ii < (((v1.getD 0 d0).ll).length:Int)))=true then
 j9 (if 68=68 ∧ 0 ≤ (v1.getD 3 d0).ii ∧ (v1.getD 3 d0).ii < (((v1.getD 0 d0).ll).length:Int) then
 if ((((v1.getD 0 d0).ll).getD ((v1.getD 3 d0).ii).toNat []).getD 1 d0).bb=true then
 .ex 1 [.sl ((v1.getD 0 d0).ll),.sl ((v1.getD 1 d0).ll),.sl ((v1.getD 2 d0).ll),.i ((v1.getD 3 d0).ii)]
 else
 (qb [.i (((((v1.getD 0 d0).ll).getD ((v1.getD 3 d0).ii).toNat []).getD 0 d0).ii)]).bindR fun r2 =>
 (Je [.sl ((v1.getD 1 d0).ll),.i ((r2.getD 0 d0).ii),.s (((((v1.getD 0 d0).ll).getD ((v1.getD 3 d0).ii).toNat []).getD 3 d0).ss)]).bindR fun r3 =>
 if (decide ((r3.getD 0 d0).ii ≥ (0:Int)))=true then
 if ((v1.getD 2 d0).ll).length + [[DC.i (2:Int),DC.s (((((v1.getD 0 d0).ll).getD ((v1.getD 3 d0).ii).toNat []).getD 3 d0).ss),DC.s []]].length < jN then
 .ex 1 [.sl ((v1.getD 0 d0).ll),.sl ((v1.getD 1 d0).ll),.sl (((v1.getD 2 d0).ll) ++ [[DC.i (2:Int),DC.s (((((v1.getD 0 d0).ll).getD ((v1.getD 3 d0).ii).toNat []).getD 3 d0).ss),DC.s []]]),.i ((v1.getD 3 d0).ii)]
 else
 .fail
 else
 (qI [.i (((((v1.getD 0 d0).ll).getD ((v1.getD 3 d0).ii).toNat []).getD 0 d0).ii),.b (((((v1.getD 0 d0).ll).getD ((v1.getD 3 d0).ii).toNat []).getD 1 d0).bb),.s (((((v1.getD 0 d0).ll).getD ((v1.getD 3 d0).ii).toNat []).getD 2 d0).ss),.s (((((v1.getD 0 d0).ll).getD ((v1.getD 3 d0).ii).toNat []).getD 3 d0).ss),.sl (((((v1.getD 0 d0).ll).getD ((v1.getD 3 d0).ii).toNat []).getD 4 d0).ll),.sl (((((v1.getD 0 d0).ll).getD ((v1.getD 3 d0).ii).toNat []).getD 5 d0).ll),.sl (((((v1.getD 0 d0).ll).getD ((v1.getD 3 d0).ii).toNat []).getD 6 d0).ll),.sl (((((v1.getD 0 d0).ll).getD ((v1.getD 3 d0).ii).toNat []).getD 7 d0).ll),.sl (((((v1.getD 0 d0).ll).getD ((v1.getD 3 d0).ii).toNat []).getD 8 d0).ll),.b (((((v1.getD 0 d0).ll).getD ((v1.getD 3 d0).ii).toNat []).getD 9 d0).bb),.sl (((((v1.getD 0 d0).ll).getD ((v1.getD 3 d0).ii).toNat []).getD 10 d0).ll)]).bindR fun r4 =>
 if ((v1.getD 1 d0).ll).length + [[DC.i ((r4.getD 0 d0).ii),DC.b ((r4.getD 1 d0).bb),DC.s ((r4.getD 2 d0).ss),DC.s ((r4.getD 3 d0).ss),DC.sl ((r4.getD 4 d0).ll),DC.sl ((r4.getD 5 d0).ll),DC.sl ((r4.getD 6 d0).ll),DC.sl ((r4.getD 7 d0).ll),DC.sl ((r4.getD 8 d0).ll),DC.b ((r4.getD 9 d0).bb),DC.sl ((r4.getD 10 d0).ll)]].length < jN ∧ 33=33 then
 .norm [.sl ((v1.getD 0 d0).ll),.sl (((v1.getD 1 d0).ll) ++ [[DC.i ((r4.getD 0 d0).ii),DC.b ((r4.getD 1 d0).bb),DC.s ((r4.getD 2 d0).ss),DC.s ((r4.getD 3 d0).ss),DC.sl ((r4.getD 4 d0).ll),DC.sl ((r4.getD 5 d0).ll),DC.sl ((r4.getD 6 d0).ll),DC.sl ((r4.getD 7 d0).ll),DC.sl ((r4.getD 8 d0).ll),DC.b ((r4.getD 9 d0).bb),DC.sl ((r4.getD 10 d0).ll)]]),.sl ((v1.getD 2 d0).ll),.i ((v1.getD 3 d0).ii)]
 else
 .fail
 else
 .fail) 1 fun v5 =>
 .norm [.sl ((v5.getD 0 d0).ll),.sl ((v5.getD 1 d0).ll),.sl ((v5.getD 2 d0).ll),.i (IntKind.i64.wrap ((v5.getD 3 d0).ii + (1:Int)))]
 else
 .ex 0 [.sl ((v1.getD 0 d0).ll),.sl ((v1.getD 1 d0).ll),.sl ((v1.getD 2 d0).ll)]
noncomputable def qj:List DC → Out:=fun v7 =>
 if (decide ((v7.getD 3 d0).ii < (((v7.getD 0 d0).ll).length:Int)))=true then
 j9 (if 68=68 ∧ 0 ≤ (v7.getD 3 d0).ii ∧ (v7.getD 3 d0).ii < (((v7.getD 0 d0).ll).length:Int) then
 if (!(((((v7.getD 0 d0).ll).getD ((v7.getD 3 d0).ii).toNat []).getD 1 d0).bb))=true then
 .ex 3 [.sl ((v7.getD 0 d0).ll),.sl ((v7.getD 1 d0).ll),.sl ((v7.getD 2 d0).ll),.i ((v7.getD 3 d0).ii)]
 else
 (qb [.i (((((v7.getD 0 d0).ll).getD ((v7.getD 3 d0).ii).toNat []).getD 0 d0).ii)]).bindR fun r8 =>
 (Je [.sl ((v7.getD 1 d0).ll),.i ((r8.getD 0 d0).ii),.s (((((v7.getD 0 d0).ll).getD ((v7.getD 3 d0).ii).toNat []).getD 3 d0).ss)]).bindR fun r9 =>
 j9 (ja (if (decide ((r9.getD 0 d0).ii < (0:Int)))=true then
 if ((v7.getD 2 d0).ll).length + [[DC.i (3:Int),DC.s (((((v7.getD 0 d0).ll).getD ((v7.getD 3 d0).ii).toNat []).getD 3 d0).ss),DC.s []]].length < jN then
 .norm [.sl ((v7.getD 0 d0).ll),.sl ((v7.getD 1 d0).ll),.sl (((v7.getD 2 d0).ll) ++ [[DC.i (3:Int),DC.s (((((v7.getD 0 d0).ll).getD ((v7.getD 3 d0).ii).toNat []).getD 3 d0).ss),DC.s []]]),.i ((v7.getD 3 d0).ii)]
 else
 .fail
 else
 if 68=68 ∧ 0 ≤ (r9.getD 0 d0).ii ∧ (r9.getD 0 d0).ii < (((v7.getD 1 d0).ll).length:Int) then
 ja (if (((((v7.getD 1 d0).ll).getD ((r9.getD 0 d0).ii).toNat []).getD 0 d0).ii != ((((v7.getD 0 d0).ll).getD ((v7.getD 3 d0).ii).toNat []).getD 0 d0).ii)=true then
 if ((v7.getD 2 d0).ll).length + [[DC.i (4:Int),DC.s (((((v7.getD 0 d0).ll).getD ((v7.getD 3 d0).ii).toNat []).getD 3 d0).ss),DC.s []]].length < jN then
 .norm [.sl ((v7.getD 0 d0).ll),.sl ((v7.getD 1 d0).ll),.sl (((v7.getD 2 d0).ll) ++ [[DC.i (4:Int),DC.s (((((v7.getD 0 d0).ll).getD ((v7.getD 3 d0).ii).toNat []).getD 3 d0).ss),DC.s []]]),.i ((v7.getD 3 d0).ii)]
 else
 .fail
 else
 if 68=68 ∧ 0 ≤ (r9.getD 0 d0).ii ∧ (r9.getD 0 d0).ii < (((v7.getD 1 d0).ll).length:Int) then
 (Q3 [.i (((((v7.getD 1 d0).ll).getD ((r9.getD 0 d0).ii).toNat []).getD 0 d0).ii),.b (((((v7.getD 1 d0).ll).getD ((r9.getD 0 d0).ii).toNat []).getD 1 d0).bb),.s (((((v7.getD 1 d0).ll).getD ((r9.getD 0 d0).ii).toNat []).getD 2 d0).ss),.s (((((v7.getD 1 d0).ll).getD ((r9.getD 0 d0).ii).toNat []).getD 3 d0).ss),.sl (((((v7.getD 1 d0).ll).getD ((r9.getD 0 d0).ii).toNat []).getD 4 d0).ll),.sl (((((v7.getD 1 d0).ll).getD ((r9.getD 0 d0).ii).toNat []).getD 5 d0).ll),.sl (((((v7.getD 1 d0).ll).getD ((r9.getD 0 d0).ii).toNat []).getD 6 d0).ll),.sl (((((v7.getD 1 d0).ll).getD ((r9.getD 0 d0).ii).toNat []).getD 7 d0).ll),.sl (((((v7.getD 1 d0).ll).getD ((r9.getD 0 d0).ii).toNat []).getD 8 d0).ll),.b (((((v7.getD 1 d0).ll).getD ((r9.getD 0 d0).ii).toNat []).getD 9 d0).bb),.sl (((((v7.getD 1 d0).ll).getD ((r9.getD 0 d0).ii).toNat []).getD 10 d0).ll),.i (((((v7.getD 0 d0).ll).getD ((v7.getD 3 d0).ii).toNat []).getD 0 d0).ii),.b (((((v7.getD 0 d0).ll).getD ((v7.getD 3 d0).ii).toNat []).getD 1 d0).bb),.s (((((v7.getD 0 d0).ll).getD ((v7.getD 3 d0).ii).toNat []).getD 2 d0).ss),.s (((((v7.getD 0 d0).ll).getD ((v7.getD 3 d0).ii).toNat []).getD 3 d0).ss),.sl (((((v7.getD 0 d0).ll).getD ((v7.getD 3 d0).ii).toNat []).getD 4 d0).ll),.sl (((((v7.getD 0 d0).ll).getD ((v7.getD 3 d0).ii).toNat []).getD 5 d0).ll),.sl (((((v7.getD 0 d0).ll).getD ((v7.getD 3 d0).ii).toNat []).getD 6 d0).ll),.sl (((((v7.getD 0 d0).ll).getD ((v7.getD 3 d0).ii).toNat []).getD 7 d0).ll),.sl (((((v7.getD 0 d0).ll).getD ((v7.getD 3 d0).ii).toNat []).getD 8 d0).ll),.b (((((v7.getD 0 d0).ll).getD ((v7.getD 3 d0).ii).toNat []).getD 9 d0).bb),.sl (((((v7.getD 0 d0).ll).getD ((v7.getD 3 d0).ii).toNat []).getD 10 d0).ll)]).bindR fun r10 =>
 if 68=68 ∧ 0 ≤ (r9.getD 0 d0).ii ∧ (r9.getD 0 d0).ii < (((v7.getD 1 d0).ll).length:Int) then
 if 1068=1068 ∧ (((r9.getD 0 d0).ii).toNat)=(((r9.getD 0 d0).ii).toNat) ∧ 0=0 ∧ 11=11 then
 .norm [.sl ((v7.getD 0 d0).ll),.sl (((v7.getD 1 d0).ll).set (((r9.getD 0 d0).ii).toNat) [DC.i ((r10.getD 0 d0).ii),DC.b ((r10.getD 1 d0).bb),DC.s ((r10.getD 2 d0).ss),DC.s ((r10.getD 3 d0).ss),DC.sl ((r10.getD 4 d0).ll),DC.sl ((r10.getD 5 d0).ll),DC.sl ((r10.getD 6 d0).ll),DC.sl ((r10.getD 7 d0).ll),DC.sl ((r10.getD 8 d0).ll),DC.b ((r10.getD 9 d0).bb),DC.sl ((r10.getD 10 d0).ll)]),.sl ((v7.getD 2 d0).ll),.i ((v7.getD 3 d0).ii)]
 else
 .fail
 else
 .fail
 else
 .fail) fun v11 =>
 .norm [.sl ((v11.getD 0 d0).ll),.sl ((v11.getD 1 d0).ll),.sl ((v11.getD 2 d0).ll),.i ((v11.getD 3 d0).ii)]
 else
 .fail) fun v12 =>
 .norm [.sl ((v12.getD 0 d0).ll),.sl ((v12.getD 1 d0).ll),.sl ((v12.getD 2 d0).ll),.i ((v12.getD 3 d0).ii)]) 4 fun v13 =>
 .norm [.sl ((v13.getD 0 d0).ll),.sl ((v13.getD 1 d0).ll),.sl ((v13.getD 2 d0).ll),.i ((v13.getD 3 d0).ii)]
 else
 .fail) 3 fun v14 =>
 .norm [.sl ((v14.getD 0 d0).ll),.sl ((v14.getD 1 d0).ll),.sl ((v14.getD 2 d0).ll),.i (IntKind.i64.wrap ((v14.getD 3 d0).ii + (1:Int)))]
 else
 .ex 2 [.sl ((v7.getD 1 d0).ll),.sl ((v7.getD 2 d0).ll)]
noncomputable def j0a (a:List DC):Out :=
 if (decide ((((a.getD 0 d0).ll).length:Int) > (60:Int)))=true then
 if ([]:List (List DC)).length + [[DC.i (5:Int),DC.s [],DC.s []]].length < jN then
 .ret [.sl [],.sl (([]:List (List DC)) ++ [[DC.i (5:Int),DC.s [],DC.s []]])]
 else
 .fail
 else
 j9 (jO qk [.sl ((a.getD 0 d0).ll),.sl [],.sl [],.i (0:Int)]) 0 fun v6 =>
 j9 (jO qj [.sl ((v6.getD 0 d0).ll),.sl ((v6.getD 1 d0).ll),.sl ((v6.getD 2 d0).ll),.i (0:Int)]) 2 fun v15 =>
 .ret [.sl ((v15.getD 0 d0).ll),.sl ((v15.getD 1 d0).ll)]
theorem j3R a:JS a=j0a a:=(jA cfg 9 _ a).trans (by kernel_rfl)
noncomputable def Qp (a:List DC):Out :=
 if bsz (jU [.sl ((a.getD 0 d0).ll)]) < jN then
 (Jm [.sl (((X0 (jU [.sl ((a.getD 0 d0).ll)])).getD 0 d0).ll),.i (((X0 (jU [.sl ((a.getD 0 d0).ll)])).getD 1 d0).ii),.i (((X0 (jU [.sl ((a.getD 0 d0).ll)])).getD 2 d0).ii)]).bindR fun r1 =>
 .ret [.sl ((r1.getD 0 d0).ll)]
 else
 .fail
theorem Zt a:yl a=Qp a:=(jA cfg 10 _ a).trans (by kernel_rfl)
noncomputable def yX:List DC → Out:=fun v1 =>
 if (decide ((v1.getD 2 d0).ii < (((v1.getD 0 d0).ll).length:Int)))=true then
 j9 (if 68=68 ∧ 0 ≤ (v1.getD 2 d0).ii ∧ (v1.getD 2 d0).ii < (((v1.getD 0 d0).ll).length:Int) then
 if 68=68 ∧ 0 ≤ (v1.getD 2 d0).ii ∧ (v1.getD 2 d0).ii < (((v1.getD 1 d0).ll).length:Int) then
 (Js [.i (((((v1.getD 0 d0).ll).getD ((v1.getD 2 d0).ii).toNat []).getD 0 d0).ii),.b (((((v1.getD 0 d0).ll).getD ((v1.getD 2 d0).ii).toNat []).getD 1 d0).bb),.s (((((v1.getD 0 d0).ll).getD ((v1.getD 2 d0).ii).toNat []).getD 2 d0).ss),.s (((((v1.getD 0 d0).ll).getD ((v1.getD 2 d0).ii).toNat []).getD 3 d0).ss),.sl (((((v1.getD 0 d0).ll).getD ((v1.getD 2 d0).ii).toNat []).getD 4 d0).ll),.sl (((((v1.getD 0 d0).ll).getD ((v1.getD 2 d0).ii).toNat []).getD 5 d0).ll),.sl (((((v1.getD 0 d0).ll).getD ((v1.getD 2 d0).ii).toNat []).getD 6 d0).ll),.sl (((((v1.getD 0 d0).ll).getD ((v1.getD 2 d0).ii).toNat []).getD 7 d0).ll),.sl (((((v1.getD 0 d0).ll).getD ((v1.getD 2 d0).ii).toNat []).getD 8 d0).ll),.b (((((v1.getD 0 d0).ll).getD ((v1.getD 2 d0).ii).toNat []).getD 9 d0).bb),.sl (((((v1.getD 0 d0).ll).getD ((v1.getD 2 d0).ii).toNat []).getD 10 d0).ll),.i (((((v1.getD 1 d0).ll).getD ((v1.getD 2 d0).ii).toNat []).getD 0 d0).ii),.b (((((v1.getD 1 d0).ll).getD ((v1.getD 2 d0).ii).toNat []).getD 1 d0).bb),.s (((((v1.getD 1 d0).ll).getD ((v1.getD 2 d0).ii).toNat []).getD 2 d0).ss),.s (((((v1.getD 1 d0).ll).getD ((v1.getD 2 d0).ii).toNat []).getD 3 d0).ss),.sl (((((v1.getD 1 d0).ll).getD ((v1.getD 2 d0).ii).toNat []).getD 4 d0).ll),.sl (((((v1.getD 1 d0).ll).getD ((v1.getD 2 d0).ii).toNat []).getD 5 d0).ll),.sl (((((v1.getD 1 d0).ll).getD ((v1.getD 2 d0).ii).toNat []).getD 6 d0).ll),.sl (((((v1.getD 1 d0).ll).getD ((v1.getD 2 d0).ii).toNat []).getD 7 d0).ll),.sl (((((v1.getD 1 d0).ll).getD ((v1.getD 2 d0).ii).toNat []).getD 8 d0).ll),.b (((((v1.getD 1 d0).ll).getD ((v1.getD 2 d0).ii).toNat []).getD 9 d0).bb),.sl (((((v1.getD 1 d0).ll).getD ((v1.getD 2 d0).ii).toNat []).getD 10 d0).ll)]).bindR fun r2 =>
 if (!((r2.getD 0 d0).bb))=true then
 .ret [.b false]
 else
 .norm [.sl ((v1.getD 0 d0).ll),.sl ((v1.getD 1 d0).ll),.i ((v1.getD 2 d0).ii)]
 else
 .fail
 else
 .fail) 1 fun v3 =>
 .norm [.sl ((v3.getD 0 d0).ll),.sl ((v3.getD 1 d0).ll),.i (IntKind.i64.wrap ((v3.getD 2 d0).ii + (1:Int)))]
 else
 .ex 0 []
noncomputable def Qr (a:List DC):Out :=
 if ((((a.getD 0 d0).ll).length:Int) != (((a.getD 1 d0).ll).length:Int))=true then
 .ret [.b false]
 else
 j9 (jO yX [.sl ((a.getD 0 d0).ll),.sl ((a.getD 1 d0).ll),.i (0:Int)]) 0 fun v4 =>
 .ret [.b true]
theorem Zv a:ym a=Qr a:=(jA cfg 11 _ a).trans (by kernel_rfl)
noncomputable def qp:List DC → Out:=fun v1 =>
 if (decide ((v1.getD 2 d0).ii < (((v1.getD 0 d0).ll).length:Int)))=true then
 j9 (if 42=42 ∧ 0 ≤ (v1.getD 2 d0).ii ∧ (v1.getD 2 d0).ii < (((v1.getD 0 d0).ll).length:Int) then
 if 42=42 ∧ 0 ≤ (v1.getD 2 d0).ii ∧ (v1.getD 2 d0).ii < (((v1.getD 1 d0).ll).length:Int) then
 if (!((((((v1.getD 0 d0).ll).getD ((v1.getD 2 d0).ii).toNat []).getD 0 d0).ii == ((((v1.getD 1 d0).ll).getD ((v1.getD 2 d0).ii).toNat []).getD 0 d0).ii) && ((((((v1.getD 0 d0).ll).getD ((v1.getD 2 d0).ii).toNat []).getD 1 d0).ss == ((((v1.getD 1 d0).ll).getD ((v1.getD 2 d0).ii).toNat []).getD 1 d0).ss) && ((((((v1.getD 0 d0).ll).getD ((v1.getD 2 d0).ii).toNat []).getD 2 d0).ss == ((((v1.getD 1 d0).ll).getD ((v1.getD 2 d0).ii).toNat []).getD 2 d0).ss) && true))))=true then
 .ret [.b false]
 else
 .norm [.sl ((v1.getD 0 d0).ll),.sl ((v1.getD 1 d0).ll),.i ((v1.getD 2 d0).ii)]
 else
 .fail
 else
 .fail) 1 fun v2 =>
 .norm [.sl ((v2.getD 0 d0).ll),.sl ((v2.getD 1 d0).ll),.i (IntKind.i64.wrap ((v2.getD 2 d0).ii + (1:Int)))]
 else
 .ex 0 []
noncomputable def J7 (a:List DC):Out :=
 if ((((a.getD 0 d0).ll).length:Int) != (((a.getD 1 d0).ll).length:Int))=true then
 .ret [.b false]
 else
 j9 (jO qp [.sl ((a.getD 0 d0).ll),.sl ((a.getD 1 d0).ll),.i (0:Int)]) 0 fun v3 =>
 .ret [.b true]
theorem QZ a:pu a=J7 a:=(jA cfg 12 _ a).trans (by kernel_rfl)
noncomputable def Qv (a:List DC):Out :=
 (zq [.sl ((a.getD 0 d0).ll)]).bindR fun r1 =>
 if ((r1.getD 0 d0).ll).length < jN then
 .ret [.sl (j4h 3 ((r1.getD 0 d0).ll))]
 else
 .fail
theorem Zz a:zZ a=Qv a:=(jA cfg 13 _ a).trans (by kernel_rfl)
noncomputable def kJ:List DC → Out:=fun v1 =>
 ja (if (decide ((v1.getD 2 d0).ii < (((v1.getD 0 d0).ll).length:Int)))=true then
 .norm [.sl ((v1.getD 0 d0).ll),.i ((v1.getD 1 d0).ii),.i ((v1.getD 2 d0).ii),.b (decide ((v1.getD 2 d0).ii < (4000:Int)))]
 else
 .norm [.sl ((v1.getD 0 d0).ll),.i ((v1.getD 1 d0).ii),.i ((v1.getD 2 d0).ii),.b false]) fun v2 =>
 if (v2.getD 3 d0).bb=true then
 j9 (if 5=5 ∧ 0 ≤ (v2.getD 2 d0).ii ∧ (v2.getD 2 d0).ii < (((v2.getD 0 d0).ll).length:Int) then
 .norm [.sl ((v2.getD 0 d0).ll),.i (IntKind.i64.wrap (BitVec.ofInt (IntKind.i64.bits) (IntKind.i64.wrap ((IntKind.i64.wrap ((IntKind.i64.wrap ((v2.getD 1 d0).ii * (131:Int))) + (IntKind.i64.wrap (((((v2.getD 0 d0).ll).getD ((v2.getD 2 d0).ii).toNat []).getD 0 d0).ii)))) + (7:Int))) &&& BitVec.ofInt (IntKind.i64.bits) (1073741823:Int)).toNat),.i ((v2.getD 2 d0).ii)]
 else
 .fail) 1 fun v3 =>
 .norm [.sl ((v3.getD 0 d0).ll),.i ((v3.getD 1 d0).ii),.i (IntKind.i64.wrap ((v3.getD 2 d0).ii + (1:Int)))]
 else
 .ex 0 [.sl ((v2.getD 0 d0).ll),.i ((v2.getD 1 d0).ii)]
noncomputable def Xr (a:List DC):Out :=
 j9 (jO kJ [.sl ((a.getD 0 d0).ll),.i (IntKind.i64.wrap ((94701:Int) + (((a.getD 0 d0).ll).length:Int))),.i (0:Int)]) 0 fun v4 =>
 .ret [.sl ((v4.getD 0 d0).ll),.i (0:Int),.i ((v4.getD 1 d0).ii)]
theorem j0g (a:List DC):jU a=Xr a:=(j9d jY j1R 85 [.sl 5,.i .i64,.i .i64] 2 ⟨j1R.pk.map pkK,[]⟩ a).trans (by kernel_rfl)
noncomputable def ZL (a:List DC):Out :=
 .ret [.sl [[DC.s ([105,110,116,101,114,102,97,99,101,32,78,111,100,101,32,123,10,32,32,105,100,58,32,73,68,33,10,125,10]:List UInt8)],[DC.s ([105,110,116,101,114,102,97,99,101,32,78,97,109,101,100,32,105,109,112,108,101,109,101,110,116,115,32,78,111,100,101,32,123,10,32,32,105,100,58,32,73,68,33,10,32,32,110,97,109,101,58,32,83,116,114,105,110,103,10,125,10]:List UInt8)],[DC.s ([116,121,112,101,32,85,115,101,114,32,105,109,112,108,101,109,101,110,116,115,32,78,97,109,101,100,32,38,32,78,111,100,101,32,123,10,32,32,105,100,58,32,73,68,33,10,32,32,110,97,109,101,58,32,83,116,114,105,110,103,10,32,32,112,111,115,116,115,40,102,105,114,115,116,58,32,73,110,116,32,61,32,49,48,44,32,97,102,116,101,114,58,32,73,68,41,58,32,91,80,111,115,116,33,93,33,10,32,32,99,111,108,111,114,58,32,67,111,108,111,114,32,64,100,101,112,114,101,99,97,116,101,100,10,32,32,102,114,105,101,110,100,58,32,85,115,101,114,10,125,10]:List UInt8)],[DC.s ([116,121,112,101,32,80,111,115,116,32,105,109,112,108,101,109,101,110,116,115,32,78,111,100,101,32,123,10,32,32,105,100,58,32,73,68,33,10,32,32,116,105,116,108,101,58,32,83,116,114,105,110,103,33,10,32,32,97,117,116,104,111,114,58,32,85,115,101,114,10,32,32,97,110,121,58,32,91,65,110,121,93,10,125,10]:List UInt8)],[DC.s ([117,110,105,111,110,32,65,110,121,32,61,32,80,111,115,116,32,124,32,85,115,101,114,10]:List UInt8)],[DC.s ([101,110,117,109,32,67,111,108,111,114,32,123,10,32,32,66,76,85,69,10,32,32,82,69,68,10,125,10]:List UInt8)],[DC.s ([105,110,112,117,116,32,70,105,110,100,32,123,10,32,32,116,101,120,116,58,32,83,116,114,105,110,103,33,10,32,32,115,105,122,101,58,32,73,110,116,32,61,32,53,10,32,32,99,111,108,111,114,115,58,32,91,67,111,108,111,114,33,93,10,32,32,109,111,114,101,58,32,70,105,110,100,10,125,10]:List UInt8)],[DC.s ([115,99,97,108,97,114,32,68,97,116,101,10]:List UInt8)],[DC.s ([100,105,114,101,99,116,105,118,101,32,64,111,110,99,101,40,107,101,121,58,32,83,116,114,105,110,103,44,32,100,101,101,112,58,32,73,110,116,33,32,61,32,49,41,32,111,110,32,70,73,69,76,68,32,124,32,81,85,69,82,89,10]:List UInt8)],[DC.s ([100,105,114,101,99,116,105,118,101,32,64,109,97,110,121,32,114,101,112,101,97,116,97,98,108,101,32,111,110,32,70,73,69,76,68,10]:List UInt8)],[DC.s ([116,121,112,101,32,81,117,101,114,121,32,123,10,32,32,110,111,100,101,40,105,100,58,32,73,68,33,41,58,32,78,111,100,101,10,32,32,117,115,101,114,40,105,100,58,32,73,68,41,58,32,85,115,101,114,10,32,32,102,105,110,100,40,98,121,58,32,70,105,110,100,33,44,32,111,110,58,32,68,97,116,101,41,58,32,91,65,110,121,33,93,10,32,32,99,111,108,111,114,115,58,32,91,67,111,108,111,114,93,10,32,32,110,97,109,101,100,58,32,78,97,109,101,100,10,125,10]:List UInt8)],[DC.s ([116,121,112,101,32,77,117,116,97,116,105,111,110,32,123,10,32,32,114,101,110,97,109,101,40,105,100,58,32,73,68,33,44,32,110,97,109,101,58,32,83,116,114,105,110,103,41,58,32,85,115,101,114,10,125,10]:List UInt8)]]]
theorem YD a:zj a=ZL a:=(jA cfg 14 _ a).trans (by kernel_rfl)
noncomputable def Qn (a:List DC):Out :=
 if (decide ((a.getD 0 d0).ii ≤ (0:Int)))=true then
 .ret [.i (0:Int),.sl ((a.getD 1 d0).ll),.i ((a.getD 2 d0).ii),.i ((a.getD 3 d0).ii)]
 else
 if (decide ((a.getD 0 d0).ii ≤ (256:Int)))=true then
 (kY [.sl ((a.getD 1 d0).ll),.i ((a.getD 2 d0).ii),.i ((a.getD 3 d0).ii)]).bindR fun r1 =>
 if (a.getD 0 d0).ii=0 then
 .fail
 else
 .ret [.i (((r1.getD 0 d0).ii).tmod ((a.getD 0 d0).ii)),.sl ((r1.getD 1 d0).ll),.i ((r1.getD 2 d0).ii),.i ((r1.getD 3 d0).ii)]
 else
 (kY [.sl ((a.getD 1 d0).ll),.i ((a.getD 2 d0).ii),.i ((a.getD 3 d0).ii)]).bindR fun r2 =>
 (kY [.sl ((r2.getD 1 d0).ll),.i ((r2.getD 2 d0).ii),.i ((r2.getD 3 d0).ii)]).bindR fun r3 =>
 (kY [.sl ((r3.getD 1 d0).ll),.i ((r3.getD 2 d0).ii),.i ((r3.getD 3 d0).ii)]).bindR fun r4 =>
 (kY [.sl ((r4.getD 1 d0).ll),.i ((r4.getD 2 d0).ii),.i ((r4.getD 3 d0).ii)]).bindR fun r5 =>
 if (a.getD 0 d0).ii=0 then
 .fail
 else
 .ret [.i ((IntKind.i64.wrap ((IntKind.i64.wrap ((IntKind.i64.wrap ((IntKind.i64.wrap ((r2.getD 0 d0).ii * (16777216:Int))) + (IntKind.i64.wrap ((r3.getD 0 d0).ii * (65536:Int))))) + (IntKind.i64.wrap ((r4.getD 0 d0).ii * (256:Int))))) + (r5.getD 0 d0).ii)).tmod ((a.getD 0 d0).ii)),.sl ((r5.getD 1 d0).ll),.i ((r5.getD 2 d0).ii),.i ((r5.getD 3 d0).ii)]
theorem Zr a:jx a=Qn a:=(jA cfg 16 _ a).trans (by kernel_rfl)
noncomputable def Qu (a:List DC):Out :=
 (kZ [.sl ((a.getD 4 d0).ll)]).bindR fun r1 =>
 (yx [.sl ((a.getD 5 d0).ll)]).bindR fun r2 =>
 (yo [.sl ((a.getD 6 d0).ll)]).bindR fun r3 =>
 (yO [.sl ((a.getD 7 d0).ll)]).bindR fun r4 =>
 (pl [.sl ((a.getD 8 d0).ll)]).bindR fun r5 =>
 (kV [.sl ((a.getD 10 d0).ll)]).bindR fun r6 =>
 .ret [.i ((a.getD 0 d0).ii),.b ((a.getD 1 d0).bb),.s ((a.getD 2 d0).ss),.s ((a.getD 3 d0).ss),.sl ((r1.getD 0 d0).ll),.sl ((r2.getD 0 d0).ll),.sl ((r3.getD 0 d0).ll),.sl ((r4.getD 0 d0).ll),.sl ((r5.getD 0 d0).ll),.b ((a.getD 9 d0).bb),.sl ((r6.getD 0 d0).ll)]
theorem Zy a:kI a=Qu a:=(jA cfg 21 _ a).trans (by kernel_rfl)
noncomputable def Z1 (a:List DC):Out :=
 (kI [.i ((a.getD 0 d0).ii),.b ((a.getD 1 d0).bb),.s ((a.getD 2 d0).ss),.s ((a.getD 3 d0).ss),.sl ((a.getD 4 d0).ll),.sl ((a.getD 5 d0).ll),.sl ((a.getD 6 d0).ll),.sl ((a.getD 7 d0).ll),.sl ((a.getD 8 d0).ll),.b ((a.getD 9 d0).bb),.sl ((a.getD 10 d0).ll)]).bindR fun r1 =>
 (kI [.i ((a.getD 11 d0).ii),.b ((a.getD 12 d0).bb),.s ((a.getD 13 d0).ss),.s ((a.getD 14 d0).ss),.sl ((a.getD 15 d0).ll),.sl ((a.getD 16 d0).ll),.sl ((a.getD 17 d0).ll),.sl ((a.getD 18 d0).ll),.sl ((a.getD 19 d0).ll),.b ((a.getD 20 d0).bb),.sl ((a.getD 21 d0).ll)]).bindR fun r2 =>
 if ((r1.getD 4 d0).ll).length + ((r2.getD 4 d0).ll).length < jN then
 if ((r1.getD 5 d0).ll).length + ((r2.getD 5 d0).ll).length < jN ∧ 63=63 then
 if ((r1.getD 6 d0).ll).length + ((r2.getD 6 d0).ll).length < jN ∧ 64=64 then
 if ((r1.getD 7 d0).ll).length + ((r2.getD 7 d0).ll).length < jN ∧ 65=65 then
 if ((r1.getD 8 d0).ll).length + ((r2.getD 8 d0).ll).length < jN then
 if ((r1.getD 10 d0).ll).length + ((r2.getD 10 d0).ll).length < jN ∧ 57=57 then
 .ret [.i ((r1.getD 0 d0).ii),.b ((r1.getD 1 d0).bb),.s ((r1.getD 2 d0).ss),.s ((r1.getD 3 d0).ss),.sl (((r1.getD 4 d0).ll) ++ ((r2.getD 4 d0).ll)),.sl (((r1.getD 5 d0).ll) ++ ((r2.getD 5 d0).ll)),.sl (((r1.getD 6 d0).ll) ++ ((r2.getD 6 d0).ll)),.sl (((r1.getD 7 d0).ll) ++ ((r2.getD 7 d0).ll)),.sl (((r1.getD 8 d0).ll) ++ ((r2.getD 8 d0).ll)),.b ((r1.getD 9 d0).bb),.sl (((r1.getD 10 d0).ll) ++ ((r2.getD 10 d0).ll))]
 else
 .fail
 else
 .fail
 else
 .fail
 else
 .fail
 else
 .fail
 else
 .fail
theorem j2m a:Q4 a=Z1 a:=(jA cfg 27 _ a).trans (by kernel_rfl)
noncomputable def Ql (a:List DC):Out :=
 j9 (if ((a.getD 0 d0).ii == (7:Int))=true then
 .ret [.i (1:Int)]
 else
 if ((a.getD 0 d0).ii == (8:Int))=true then
 .ret [.i (2:Int)]
 else
 .norm []) 0 fun v1 =>
 .ret [.i (0:Int)]
theorem Zp a:qb a=Ql a:=(jA cfg 29 _ a).trans (by kernel_rfl)
noncomputable def JC:List DC → Out:=fun v1 =>
 if (decide ((v1.getD 3 d0).ii < (((v1.getD 0 d0).ll).length:Int)))=true then
 j9 (ja (if 68=68 ∧ 0 ≤ (v1.getD 3 d0).ii ∧ (v1.getD 3 d0).ii < (((v1.getD 0 d0).ll).length:Int) then
 (qb [.i (((((v1.getD 0 d0).ll).getD ((v1.getD 3 d0).ii).toNat []).getD 0 d0).ii)]).bindR fun r2 =>
 if ((r2.getD 0 d0).ii == (v1.getD 1 d0).ii)=true then
 if ((v1.getD 1 d0).ii == (2:Int))=true then
 .norm [.sl ((v1.getD 0 d0).ll),.i ((v1.getD 1 d0).ii),.s ((v1.getD 2 d0).ss),.i ((v1.getD 3 d0).ii),.b true]
 else
 if 68=68 ∧ 0 ≤ (v1.getD 3 d0).ii ∧ (v1.getD 3 d0).ii < (((v1.getD 0 d0).ll).length:Int) then
 .norm [.sl ((v1.getD 0 d0).ll),.i ((v1.getD 1 d0).ii),.s ((v1.getD 2 d0).ss),.i ((v1.getD 3 d0).ii),.b (((((v1.getD 0 d0).ll).getD ((v1.getD 3 d0).ii).toNat []).getD 3 d0).ss == (v1.getD 2 d0).ss)]
 else
 .fail
 else
 .norm [.sl ((v1.getD 0 d0).ll),.i ((v1.getD 1 d0).ii),.s ((v1.getD 2 d0).ss),.i ((v1.getD 3 d0).ii),.b false]
 else
 .fail) fun v3 =>
 if (v3.getD 4 d0).bb=true then
 .ret [.i ((v3.getD 3 d0).ii)]
 else
 .norm [.sl ((v3.getD 0 d0).ll),.i ((v3.getD 1 d0).ii),.s ((v3.getD 2 d0).ss),.i ((v3.getD 3 d0).ii)]) 1 fun v4 =>
 .norm [.sl ((v4.getD 0 d0).ll),.i ((v4.getD 1 d0).ii),.s ((v4.getD 2 d0).ss),.i (IntKind.i64.wrap ((v4.getD 3 d0).ii + (1:Int)))]
 else
 .ex 0 []
noncomputable def YZ (a:List DC):Out :=
 j9 (jO JC [.sl ((a.getD 0 d0).ll),.i ((a.getD 1 d0).ii),.s ((a.getD 2 d0).ss),.i (0:Int)]) 0 fun v5 =>
 .ret [.i (-1:Int)]
theorem j2j a:Je a=YZ a:=(jA cfg 28 _ a).trans (by kernel_rfl)
noncomputable def Vd (a:List DC):Out :=
 if ([]:List (List DC)).length + ((a.getD 4 d0).ll).length < jN then
 (qH [.sl ((a.getD 5 d0).ll)]).bindR fun r1 =>
 (qu [.sl ((a.getD 6 d0).ll)]).bindR fun r2 =>
 (qG [.sl ((a.getD 7 d0).ll)]).bindR fun r3 =>
 if ([]:List (List DC)).length + ((a.getD 8 d0).ll).length < jN then
 (pB [.sl ((a.getD 10 d0).ll)]).bindR fun r4 =>
 .ret [.i ((a.getD 0 d0).ii),.b ((a.getD 1 d0).bb),.s ((a.getD 2 d0).ss),.s ((a.getD 3 d0).ss),.sl (([]:List (List DC)) ++ ((a.getD 4 d0).ll)),.sl ((r1.getD 0 d0).ll),.sl ((r2.getD 0 d0).ll),.sl ((r3.getD 0 d0).ll),.sl (([]:List (List DC)) ++ ((a.getD 8 d0).ll)),.b ((a.getD 9 d0).bb),.sl ((r4.getD 0 d0).ll)]
 else
 .fail
 else
 .fail
theorem j0j a:qI a=Vd a:=(jA cfg 30 _ a).trans (by kernel_rfl)
noncomputable def Z0 (a:List DC):Out :=
 (qI [.i ((a.getD 0 d0).ii),.b ((a.getD 1 d0).bb),.s ((a.getD 2 d0).ss),.s ((a.getD 3 d0).ss),.sl ((a.getD 4 d0).ll),.sl ((a.getD 5 d0).ll),.sl ((a.getD 6 d0).ll),.sl ((a.getD 7 d0).ll),.sl ((a.getD 8 d0).ll),.b ((a.getD 9 d0).bb),.sl ((a.getD 10 d0).ll)]).bindR fun r1 =>
 (qI [.i ((a.getD 11 d0).ii),.b ((a.getD 12 d0).bb),.s ((a.getD 13 d0).ss),.s ((a.getD 14 d0).ss),.sl ((a.getD 15 d0).ll),.sl ((a.getD 16 d0).ll),.sl ((a.getD 17 d0).ll),.sl ((a.getD 18 d0).ll),.sl ((a.getD 19 d0).ll),.b ((a.getD 20 d0).bb),.sl ((a.getD 21 d0).ll)]).bindR fun r2 =>
 if ((r1.getD 4 d0).ll).length + ((r2.getD 4 d0).ll).length < jN then
 if ((r1.getD 5 d0).ll).length + ((r2.getD 5 d0).ll).length < jN ∧ 63=63 then
 if ((r1.getD 6 d0).ll).length + ((r2.getD 6 d0).ll).length < jN ∧ 64=64 then
 if ((r1.getD 7 d0).ll).length + ((r2.getD 7 d0).ll).length < jN ∧ 65=65 then
 if ((r1.getD 8 d0).ll).length + ((r2.getD 8 d0).ll).length < jN then
 if ((r1.getD 10 d0).ll).length + ((r2.getD 10 d0).ll).length < jN ∧ 57=57 then
 .ret [.i ((r1.getD 0 d0).ii),.b ((r1.getD 1 d0).bb),.s ((r1.getD 2 d0).ss),.s ((r1.getD 3 d0).ss),.sl (((r1.getD 4 d0).ll) ++ ((r2.getD 4 d0).ll)),.sl (((r1.getD 5 d0).ll) ++ ((r2.getD 5 d0).ll)),.sl (((r1.getD 6 d0).ll) ++ ((r2.getD 6 d0).ll)),.sl (((r1.getD 7 d0).ll) ++ ((r2.getD 7 d0).ll)),.sl (((r1.getD 8 d0).ll) ++ ((r2.getD 8 d0).ll)),.b ((r1.getD 9 d0).bb),.sl (((r1.getD 10 d0).ll) ++ ((r2.getD 10 d0).ll))]
 else
 .fail
 else
 .fail
 else
 .fail
 else
 .fail
 else
 .fail
 else
 .fail
theorem j2l a:Q3 a=Z0 a:=(jA cfg 31 _ a).trans (by kernel_rfl)
noncomputable def qV:List DC → Out:=fun v1 =>
 (jx [.i (6:Int),.sl ((v1.getD 2 d0).ll),.i ((v1.getD 3 d0).ii),.i ((v1.getD 4 d0).ii)]).bindR fun r2 =>
 if (decide ((v1.getD 1 d0).ii < (r2.getD 0 d0).ii))=true then
 j9 ((Km [.sl ((r2.getD 1 d0).ll),.i ((r2.getD 2 d0).ii),.i ((r2.getD 3 d0).ii)]).bindR fun r3 =>
 if ((v1.getD 0 d0).ll).length + [[DC.i ((r3.getD 0 d0).ii),DC.b ((r3.getD 1 d0).bb),DC.s ((r3.getD 2 d0).ss),DC.s ((r3.getD 3 d0).ss),DC.sl ((r3.getD 4 d0).ll),DC.sl ((r3.getD 5 d0).ll),DC.sl ((r3.getD 6 d0).ll),DC.sl ((r3.getD 7 d0).ll),DC.sl ((r3.getD 8 d0).ll),DC.b ((r3.getD 9 d0).bb),DC.sl ((r3.getD 10 d0).ll)]].length < jN ∧ 33=33 then
 .norm [.sl (((v1.getD 0 d0).ll) ++ [[DC.i ((r3.getD 0 d0).ii),DC.b ((r3.getD 1 d0).bb),DC.s ((r3.getD 2 d0).ss),DC.s ((r3.getD 3 d0).ss),DC.sl ((r3.getD 4 d0).ll),DC.sl ((r3.getD 5 d0).ll),DC.sl ((r3.getD 6 d0).ll),DC.sl ((r3.getD 7 d0).ll),DC.sl ((r3.getD 8 d0).ll),DC.b ((r3.getD 9 d0).bb),DC.sl ((r3.getD 10 d0).ll)]]),.i ((v1.getD 1 d0).ii),.sl ((r3.getD 11 d0).ll),.i ((r3.getD 12 d0).ii),.i ((r3.getD 13 d0).ii)]
 else
 .fail) 1 fun v4 =>
 .norm [.sl ((v4.getD 0 d0).ll),.i (IntKind.i64.wrap ((v4.getD 1 d0).ii + (1:Int))),.sl ((v4.getD 2 d0).ll),.i ((v4.getD 3 d0).ii),.i ((v4.getD 4 d0).ii)]
 else
 .ex 0 [.sl ((v1.getD 0 d0).ll),.sl ((r2.getD 1 d0).ll),.i ((r2.getD 2 d0).ii),.i ((r2.getD 3 d0).ii)]
noncomputable def Vb (a:List DC):Out :=
 j9 (jO qV [.sl [],.i (0:Int),.sl ((a.getD 0 d0).ll),.i ((a.getD 1 d0).ii),.i ((a.getD 2 d0).ii)]) 0 fun v5 =>
 .ret [.sl ((v5.getD 0 d0).ll),.sl ((v5.getD 1 d0).ll),.i ((v5.getD 2 d0).ii),.i ((v5.getD 3 d0).ii)]
theorem j0h a:Jm a=Vb a:=(jA cfg 32 _ a).trans (by kernel_rfl)
noncomputable def Vq (a:List DC):Out :=
 ja (if ((a.getD 0 d0).ii == (a.getD 11 d0).ii)=true then
 if ((a.getD 1 d0).bb == (a.getD 12 d0).bb)=true then
 if ((a.getD 2 d0).ss == (a.getD 13 d0).ss)=true then
 if ((a.getD 3 d0).ss == (a.getD 14 d0).ss)=true then
 (qQ [.sl ((a.getD 4 d0).ll),.sl ((a.getD 15 d0).ll)]).bindR fun r1 =>
 if (r1.getD 0 d0).bb=true then
 (qK [.sl ((a.getD 5 d0).ll),.sl ((a.getD 16 d0).ll)]).bindR fun r2 =>
 if (r2.getD 0 d0).bb=true then
 (qv [.sl ((a.getD 6 d0).ll),.sl ((a.getD 17 d0).ll)]).bindR fun r3 =>
 if (r3.getD 0 d0).bb=true then
 (ye [.sl ((a.getD 7 d0).ll),.sl ((a.getD 18 d0).ll)]).bindR fun r4 =>
 if (r4.getD 0 d0).bb=true then
 (zo [.sl ((a.getD 8 d0).ll),.sl ((a.getD 19 d0).ll)]).bindR fun r5 =>
 if (r5.getD 0 d0).bb=true then
 if ((a.getD 9 d0).bb == (a.getD 20 d0).bb)=true then
 (pa [.sl ((a.getD 10 d0).ll),.sl ((a.getD 21 d0).ll)]).bindR fun r6 =>
 .norm [.b ((r6.getD 0 d0).bb)]
 else
 .norm [.b false]
 else
 .norm [.b false]
 else
 .norm [.b false]
 else
 .norm [.b false]
 else
 .norm [.b false]
 else
 .norm [.b false]
 else
 .norm [.b false]
 else
 .norm [.b false]
 else
 .norm [.b false]
 else
 .norm [.b false]) fun v7 =>
 .ret [.b ((v7.getD 0 d0).bb)]
theorem j0w a:Js a=Vq a:=(jA cfg 33 _ a).trans (by kernel_rfl)
noncomputable def pY:List DC → Out:=fun v4 =>
 if (decide ((v4.getD 3 d0).ii < (v4.getD 2 d0).ii))=true then
 j9 (if 68=68 ∧ 0 ≤ (v4.getD 3 d0).ii ∧ (v4.getD 3 d0).ii < (((v4.getD 1 d0).ll).length:Int) then
 (kI [.i (((((v4.getD 1 d0).ll).getD ((v4.getD 3 d0).ii).toNat []).getD 0 d0).ii),.b (((((v4.getD 1 d0).ll).getD ((v4.getD 3 d0).ii).toNat []).getD 1 d0).bb),.s (((((v4.getD 1 d0).ll).getD ((v4.getD 3 d0).ii).toNat []).getD 2 d0).ss),.s (((((v4.getD 1 d0).ll).getD ((v4.getD 3 d0).ii).toNat []).getD 3 d0).ss),.sl (((((v4.getD 1 d0).ll).getD ((v4.getD 3 d0).ii).toNat []).getD 4 d0).ll),.sl (((((v4.getD 1 d0).ll).getD ((v4.getD 3 d0).ii).toNat []).getD 5 d0).ll),.sl (((((v4.getD 1 d0).ll).getD ((v4.getD 3 d0).ii).toNat []).getD 6 d0).ll),.sl (((((v4.getD 1 d0).ll).getD ((v4.getD 3 d0).ii).toNat []).getD 7 d0).ll),.sl (((((v4.getD 1 d0).ll).getD ((v4.getD 3 d0).ii).toNat []).getD 8 d0).ll),.b (((((v4.getD 1 d0).ll).getD ((v4.getD 3 d0).ii).toNat []).getD 9 d0).bb),.sl (((((v4.getD 1 d0).ll).getD ((v4.getD 3 d0).ii).toNat []).getD 10 d0).ll)]).bindR fun r5 =>
 if ((v4.getD 0 d0).ll).length + [[DC.i ((r5.getD 0 d0).ii),DC.b ((r5.getD 1 d0).bb),DC.s ((r5.getD 2 d0).ss),DC.s ((r5.getD 3 d0).ss),DC.sl ((r5.getD 4 d0).ll),DC.sl ((r5.getD 5 d0).ll),DC.sl ((r5.getD 6 d0).ll),DC.sl ((r5.getD 7 d0).ll),DC.sl ((r5.getD 8 d0).ll),DC.b ((r5.getD 9 d0).bb),DC.sl ((r5.getD 10 d0).ll)]].length < jN ∧ 33=33 then
 .norm [.sl (((v4.getD 0 d0).ll) ++ [[DC.i ((r5.getD 0 d0).ii),DC.b ((r5.getD 1 d0).bb),DC.s ((r5.getD 2 d0).ss),DC.s ((r5.getD 3 d0).ss),DC.sl ((r5.getD 4 d0).ll),DC.sl ((r5.getD 5 d0).ll),DC.sl ((r5.getD 6 d0).ll),DC.sl ((r5.getD 7 d0).ll),DC.sl ((r5.getD 8 d0).ll),DC.b ((r5.getD 9 d0).bb),DC.sl ((r5.getD 10 d0).ll)]]),.sl ((v4.getD 1 d0).ll),.i ((v4.getD 2 d0).ii),.i ((v4.getD 3 d0).ii)]
 else
 .fail
 else
 .fail) 1 fun v6 =>
 .norm [.sl ((v6.getD 0 d0).ll),.sl ((v6.getD 1 d0).ll),.i ((v6.getD 2 d0).ii),.i (IntKind.i64.wrap ((v6.getD 3 d0).ii + (1:Int)))]
 else
 .ex 0 [.sl ((v4.getD 0 d0).ll)]
noncomputable def KH (a:List DC):Out :=
 j9 (jO pY [.sl [],.sl ((a.getD 0 d0).ll),.i (((a.getD 0 d0).ll).length:Int),.i (0:Int)]) 0 fun v7 =>
 .ret [.sl ((v7.getD 0 d0).ll)]
theorem YL a:zq a=KH a:=(jA cfg 34 _ a).trans (by kernel_rfl)
noncomputable def Vo (a:List DC):Out :=
 if (33:Int) < 0 then
 .fail
 else
 if (45:Int) < 0 then
 .fail
 else
 ja (if (decide ((a.getD 1 d0).ii < (((a.getD 0 d0).ll).length:Int)))=true then
 if 5=5 ∧ 0 ≤ (a.getD 1 d0).ii ∧ (a.getD 1 d0).ii < (((a.getD 0 d0).ll).length:Int) then
 .norm [.i (IntKind.i64.wrap (BitVec.ofInt (IntKind.i64.bits) (IntKind.i64.wrap ((IntKind.i64.wrap (BitVec.ofInt (IntKind.i64.bits) (IntKind.i64.wrap (BitVec.ofInt (IntKind.i64.bits) ((IntKind.i64.wrap ((IntKind.i64.wrap ((a.getD 2 d0).ii * (6364136223846793005:Int))) + (1442695040888963407:Int))).fdiv (2 ^ (min (33:Int).toNat (IntKind.i64.bits)))) ^^^ BitVec.ofInt (IntKind.i64.bits) ((IntKind.i64.wrap ((IntKind.i64.wrap ((a.getD 2 d0).ii * (6364136223846793005:Int))) + (1442695040888963407:Int))).fdiv (2 ^ (min (45:Int).toNat (IntKind.i64.bits))))).toNat) &&& BitVec.ofInt (IntKind.i64.bits) (255:Int)).toNat) + (IntKind.i64.wrap (((((a.getD 0 d0).ll).getD ((a.getD 1 d0).ii).toNat []).getD 0 d0).ii)))) &&& BitVec.ofInt (IntKind.i64.bits) (255:Int)).toNat),.sl ((a.getD 0 d0).ll),.i (IntKind.i64.wrap ((a.getD 1 d0).ii + (1:Int))),.i (IntKind.i64.wrap ((IntKind.i64.wrap ((a.getD 2 d0).ii * (6364136223846793005:Int))) + (1442695040888963407:Int)))]
 else
 .fail
 else
 .norm [.i (IntKind.i64.wrap (BitVec.ofInt (IntKind.i64.bits) (IntKind.i64.wrap (BitVec.ofInt (IntKind.i64.bits) ((IntKind.i64.wrap ((IntKind.i64.wrap ((a.getD 2 d0).ii * (6364136223846793005:Int))) + (1442695040888963407:Int))).fdiv (2 ^ (min (33:Int).toNat (IntKind.i64.bits)))) ^^^ BitVec.ofInt (IntKind.i64.bits) ((IntKind.i64.wrap ((IntKind.i64.wrap ((a.getD 2 d0).ii * (6364136223846793005:Int))) + (1442695040888963407:Int))).fdiv (2 ^ (min (45:Int).toNat (IntKind.i64.bits))))).toNat) &&& BitVec.ofInt (IntKind.i64.bits) (255:Int)).toNat),.sl ((a.getD 0 d0).ll),.i ((a.getD 1 d0).ii),.i (IntKind.i64.wrap ((IntKind.i64.wrap ((a.getD 2 d0).ii * (6364136223846793005:Int))) + (1442695040888963407:Int)))]) fun v1 =>
 .ret [.i ((v1.getD 0 d0).ii),.sl ((v1.getD 1 d0).ll),.i ((v1.getD 2 d0).ii),.i ((v1.getD 3 d0).ii)]
theorem j0u a:kY a=Vo a:=(jA cfg 38 _ a).trans (by kernel_rfl)
noncomputable def zh (a:List DC):Out:=match j01 9 p5 a with | some r=>.ret r | none=>.fail
theorem Qa a:kZ a=zh a:=(jA cfg 49 p5 a).trans (by kernel_rfl)
theorem yV (l:List (List DC)) (hl:l.length ≤ 4194304):kZ [.sl l] = .ret [.sl l]:=by
 have h:l.length < jN:=by unfold jN; omega
 have k:j01 9 p5 [.sl l]=some [.sl l]:=by
  show (if 9=9 ∧ l.length < jN then some [DC.sl l] else none)=_
  rw [if_pos ⟨rfl,h⟩]
 rw [Qa,zh,k]
noncomputable def pj:List DC → Out:=fun v5 =>
 if (decide ((v5.getD 3 d0).ii < (v5.getD 2 d0).ii))=true then
 j9 (if 135=135 ∧ 0 ≤ (v5.getD 3 d0).ii ∧ (v5.getD 3 d0).ii < (((v5.getD 1 d0).ll).length:Int) then
 (yo [.sl (((((v5.getD 1 d0).ll).getD ((v5.getD 3 d0).ii).toNat []).getD 2 d0).ll)]).bindR fun r6 =>
 (kV [.sl (((((v5.getD 1 d0).ll).getD ((v5.getD 3 d0).ii).toNat []).getD 5 d0).ll)]).bindR fun r7 =>
 if ((v5.getD 0 d0).ll).length + [[DC.s (((((v5.getD 1 d0).ll).getD ((v5.getD 3 d0).ii).toNat []).getD 0 d0).ss),DC.s (((((v5.getD 1 d0).ll).getD ((v5.getD 3 d0).ii).toNat []).getD 1 d0).ss),DC.sl ((r6.getD 0 d0).ll),DC.s (((((v5.getD 1 d0).ll).getD ((v5.getD 3 d0).ii).toNat []).getD 3 d0).ss),DC.s (((((v5.getD 1 d0).ll).getD ((v5.getD 3 d0).ii).toNat []).getD 4 d0).ss),DC.sl ((r7.getD 0 d0).ll)]].length < jN ∧ 63=63 then
 .norm [.sl (((v5.getD 0 d0).ll) ++ [[DC.s (((((v5.getD 1 d0).ll).getD ((v5.getD 3 d0).ii).toNat []).getD 0 d0).ss),DC.s (((((v5.getD 1 d0).ll).getD ((v5.getD 3 d0).ii).toNat []).getD 1 d0).ss),DC.sl ((r6.getD 0 d0).ll),DC.s (((((v5.getD 1 d0).ll).getD ((v5.getD 3 d0).ii).toNat []).getD 3 d0).ss),DC.s (((((v5.getD 1 d0).ll).getD ((v5.getD 3 d0).ii).toNat []).getD 4 d0).ss),DC.sl ((r7.getD 0 d0).ll)]]),.sl ((v5.getD 1 d0).ll),.i ((v5.getD 2 d0).ii),.i ((v5.getD 3 d0).ii)]
 else
 .fail
 else
 .fail) 1 fun v8 =>
 .norm [.sl ((v8.getD 0 d0).ll),.sl ((v8.getD 1 d0).ll),.i ((v8.getD 2 d0).ii),.i (IntKind.i64.wrap ((v8.getD 3 d0).ii + (1:Int)))]
 else
 .ex 0 [.sl ((v5.getD 0 d0).ll)]
noncomputable def JG (a:List DC):Out :=
 j9 (jO pj [.sl [],.sl ((a.getD 0 d0).ll),.i (((a.getD 0 d0).ll).length:Int),.i (0:Int)]) 0 fun v9 =>
 .ret [.sl ((v9.getD 0 d0).ll)]
theorem X5 a:yx a=JG a:=(jA cfg 50 _ a).trans (by kernel_rfl)
noncomputable def qA:List DC → Out:=fun v5 =>
 if (decide ((v5.getD 3 d0).ii < (v5.getD 2 d0).ii))=true then
 j9 (if 140=140 ∧ 0 ≤ (v5.getD 3 d0).ii ∧ (v5.getD 3 d0).ii < (((v5.getD 1 d0).ll).length:Int) then
 (pf [.i (((((v5.getD 1 d0).ll).getD ((v5.getD 3 d0).ii).toNat []).getD 5 d0).ii),.s (((((v5.getD 1 d0).ll).getD ((v5.getD 3 d0).ii).toNat []).getD 6 d0).ss),.sl (((((v5.getD 1 d0).ll).getD ((v5.getD 3 d0).ii).toNat []).getD 7 d0).ll),.sl (((((v5.getD 1 d0).ll).getD ((v5.getD 3 d0).ii).toNat []).getD 8 d0).ll)]).bindR fun r6 =>
 (kV [.sl (((((v5.getD 1 d0).ll).getD ((v5.getD 3 d0).ii).toNat []).getD 9 d0).ll)]).bindR fun r7 =>
 if ((v5.getD 0 d0).ll).length + [[DC.s (((((v5.getD 1 d0).ll).getD ((v5.getD 3 d0).ii).toNat []).getD 0 d0).ss),DC.s (((((v5.getD 1 d0).ll).getD ((v5.getD 3 d0).ii).toNat []).getD 1 d0).ss),DC.s (((((v5.getD 1 d0).ll).getD ((v5.getD 3 d0).ii).toNat []).getD 2 d0).ss),DC.s (((((v5.getD 1 d0).ll).getD ((v5.getD 3 d0).ii).toNat []).getD 3 d0).ss),DC.b (((((v5.getD 1 d0).ll).getD ((v5.getD 3 d0).ii).toNat []).getD 4 d0).bb),DC.i ((r6.getD 0 d0).ii),DC.s ((r6.getD 1 d0).ss),DC.sl ((r6.getD 2 d0).ll),DC.sl ((r6.getD 3 d0).ll),DC.sl ((r7.getD 0 d0).ll)]].length < jN ∧ 64=64 then
 .norm [.sl (((v5.getD 0 d0).ll) ++ [[DC.s (((((v5.getD 1 d0).ll).getD ((v5.getD 3 d0).ii).toNat []).getD 0 d0).ss),DC.s (((((v5.getD 1 d0).ll).getD ((v5.getD 3 d0).ii).toNat []).getD 1 d0).ss),DC.s (((((v5.getD 1 d0).ll).getD ((v5.getD 3 d0).ii).toNat []).getD 2 d0).ss),DC.s (((((v5.getD 1 d0).ll).getD ((v5.getD 3 d0).ii).toNat []).getD 3 d0).ss),DC.b (((((v5.getD 1 d0).ll).getD ((v5.getD 3 d0).ii).toNat []).getD 4 d0).bb),DC.i ((r6.getD 0 d0).ii),DC.s ((r6.getD 1 d0).ss),DC.sl ((r6.getD 2 d0).ll),DC.sl ((r6.getD 3 d0).ll),DC.sl ((r7.getD 0 d0).ll)]]),.sl ((v5.getD 1 d0).ll),.i ((v5.getD 2 d0).ii),.i ((v5.getD 3 d0).ii)]
 else
 .fail
 else
 .fail) 1 fun v8 =>
 .norm [.sl ((v8.getD 0 d0).ll),.sl ((v8.getD 1 d0).ll),.i ((v8.getD 2 d0).ii),.i (IntKind.i64.wrap ((v8.getD 3 d0).ii + (1:Int)))]
 else
 .ex 0 [.sl ((v5.getD 0 d0).ll)]
noncomputable def Qt (a:List DC):Out :=
 j9 (jO qA [.sl [],.sl ((a.getD 0 d0).ll),.i (((a.getD 0 d0).ll).length:Int),.i (0:Int)]) 0 fun v9 =>
 .ret [.sl ((v9.getD 0 d0).ll)]
theorem Zx a:yo a=Qt a:=(jA cfg 51 _ a).trans (by kernel_rfl)
noncomputable def pz:List DC → Out:=fun v4 =>
 if (decide ((v4.getD 3 d0).ii < (v4.getD 2 d0).ii))=true then
 j9 (if 143=143 ∧ 0 ≤ (v4.getD 3 d0).ii ∧ (v4.getD 3 d0).ii < (((v4.getD 1 d0).ll).length:Int) then
 (kV [.sl (((((v4.getD 1 d0).ll).getD ((v4.getD 3 d0).ii).toNat []).getD 2 d0).ll)]).bindR fun r5 =>
 if ((v4.getD 0 d0).ll).length + [[DC.s (((((v4.getD 1 d0).ll).getD ((v4.getD 3 d0).ii).toNat []).getD 0 d0).ss),DC.s (((((v4.getD 1 d0).ll).getD ((v4.getD 3 d0).ii).toNat []).getD 1 d0).ss),DC.sl ((r5.getD 0 d0).ll)]].length < jN ∧ 65=65 then
 .norm [.sl (((v4.getD 0 d0).ll) ++ [[DC.s (((((v4.getD 1 d0).ll).getD ((v4.getD 3 d0).ii).toNat []).getD 0 d0).ss),DC.s (((((v4.getD 1 d0).ll).getD ((v4.getD 3 d0).ii).toNat []).getD 1 d0).ss),DC.sl ((r5.getD 0 d0).ll)]]),.sl ((v4.getD 1 d0).ll),.i ((v4.getD 2 d0).ii),.i ((v4.getD 3 d0).ii)]
 else
 .fail
 else
 .fail) 1 fun v6 =>
 .norm [.sl ((v6.getD 0 d0).ll),.sl ((v6.getD 1 d0).ll),.i ((v6.getD 2 d0).ii),.i (IntKind.i64.wrap ((v6.getD 3 d0).ii + (1:Int)))]
 else
 .ex 0 [.sl ((v4.getD 0 d0).ll)]
noncomputable def Kd (a:List DC):Out :=
 j9 (jO pz [.sl [],.sl ((a.getD 0 d0).ll),.i (((a.getD 0 d0).ll).length:Int),.i (0:Int)]) 0 fun v7 =>
 .ret [.sl ((v7.getD 0 d0).ll)]
theorem Y0 a:yO a=Kd a:=(jA cfg 52 _ a).trans (by kernel_rfl)
noncomputable def yj (a:List DC):Out:=match j01 102 kA a with | some r=>.ret r | none=>.fail
theorem JN a:pl a=yj a:=(jA cfg 53 kA a).trans (by kernel_rfl)
theorem JO (l:List (List DC)) (hl:l.length ≤ 4194304):pl [.sl l] = .ret [.sl l]:=by
 have h:l.length < jN:=by unfold jN; omega
 have k:j01 102 kA [.sl l]=some [.sl l]:=by
  show (if 102=102 ∧ l.length < jN then some [DC.sl l] else none)=_
  rw [if_pos ⟨rfl,h⟩]
 rw [JN,yj,k]
noncomputable def pX:List DC → Out:=fun v4 =>
 if (decide ((v4.getD 3 d0).ii < (v4.getD 2 d0).ii))=true then
 j9 (if 146=146 ∧ 0 ≤ (v4.getD 3 d0).ii ∧ (v4.getD 3 d0).ii < (((v4.getD 1 d0).ll).length:Int) then
 (zr [.sl (((((v4.getD 1 d0).ll).getD ((v4.getD 3 d0).ii).toNat []).getD 1 d0).ll)]).bindR fun r5 =>
 if ((v4.getD 0 d0).ll).length + [[DC.s (((((v4.getD 1 d0).ll).getD ((v4.getD 3 d0).ii).toNat []).getD 0 d0).ss),DC.sl ((r5.getD 0 d0).ll)]].length < jN ∧ 57=57 then
 .norm [.sl (((v4.getD 0 d0).ll) ++ [[DC.s (((((v4.getD 1 d0).ll).getD ((v4.getD 3 d0).ii).toNat []).getD 0 d0).ss),DC.sl ((r5.getD 0 d0).ll)]]),.sl ((v4.getD 1 d0).ll),.i ((v4.getD 2 d0).ii),.i ((v4.getD 3 d0).ii)]
 else
 .fail
 else
 .fail) 1 fun v6 =>
 .norm [.sl ((v6.getD 0 d0).ll),.sl ((v6.getD 1 d0).ll),.i ((v6.getD 2 d0).ii),.i (IntKind.i64.wrap ((v6.getD 3 d0).ii + (1:Int)))]
 else
 .ex 0 [.sl ((v4.getD 0 d0).ll)]
noncomputable def KG (a:List DC):Out :=
 j9 (jO pX [.sl [],.sl ((a.getD 0 d0).ll),.i (((a.getD 0 d0).ll).length:Int),.i (0:Int)]) 0 fun v7 =>
 .ret [.sl ((v7.getD 0 d0).ll)]
theorem YK a:kV a=KG a:=(jA cfg 54 _ a).trans (by kernel_rfl)
noncomputable def kS:List DC → Out:=fun v1 =>
 if (decide ((v1.getD 2 d0).ii < (((v1.getD 0 d0).ll).length:Int)))=true then
 j9 (if 135=135 ∧ 0 ≤ (v1.getD 2 d0).ii ∧ (v1.getD 2 d0).ii < (((v1.getD 0 d0).ll).length:Int) then
 (qu [.sl (((((v1.getD 0 d0).ll).getD ((v1.getD 2 d0).ii).toNat []).getD 2 d0).ll)]).bindR fun r2 =>
 (pB [.sl (((((v1.getD 0 d0).ll).getD ((v1.getD 2 d0).ii).toNat []).getD 5 d0).ll)]).bindR fun r3 =>
 if ((v1.getD 1 d0).ll).length + [[DC.s (((((v1.getD 0 d0).ll).getD ((v1.getD 2 d0).ii).toNat []).getD 0 d0).ss),DC.s (((((v1.getD 0 d0).ll).getD ((v1.getD 2 d0).ii).toNat []).getD 1 d0).ss),DC.sl ((r2.getD 0 d0).ll),DC.s (((((v1.getD 0 d0).ll).getD ((v1.getD 2 d0).ii).toNat []).getD 3 d0).ss),DC.s (((((v1.getD 0 d0).ll).getD ((v1.getD 2 d0).ii).toNat []).getD 4 d0).ss),DC.sl ((r3.getD 0 d0).ll)]].length < jN ∧ 63=63 then
 .norm [.sl ((v1.getD 0 d0).ll),.sl (((v1.getD 1 d0).ll) ++ [[DC.s (((((v1.getD 0 d0).ll).getD ((v1.getD 2 d0).ii).toNat []).getD 0 d0).ss),DC.s (((((v1.getD 0 d0).ll).getD ((v1.getD 2 d0).ii).toNat []).getD 1 d0).ss),DC.sl ((r2.getD 0 d0).ll),DC.s (((((v1.getD 0 d0).ll).getD ((v1.getD 2 d0).ii).toNat []).getD 3 d0).ss),DC.s (((((v1.getD 0 d0).ll).getD ((v1.getD 2 d0).ii).toNat []).getD 4 d0).ss),DC.sl ((r3.getD 0 d0).ll)]]),.i ((v1.getD 2 d0).ii)]
 else
 .fail
 else
 .fail) 1 fun v4 =>
 .norm [.sl ((v4.getD 0 d0).ll),.sl ((v4.getD 1 d0).ll),.i (IntKind.i64.wrap ((v4.getD 2 d0).ii + (1:Int)))]
 else
 .ex 0 [.sl ((v1.getD 1 d0).ll)]
noncomputable def zR (a:List DC):Out :=
 j9 (jO kS [.sl ((a.getD 0 d0).ll),.sl [],.i (0:Int)]) 0 fun v5 =>
 .ret [.sl ((v5.getD 0 d0).ll)]
theorem QC a:qH a=zR a:=(jA cfg 56 _ a).trans (by kernel_rfl)
noncomputable def px:List DC → Out:=fun v1 =>
 if (decide ((v1.getD 2 d0).ii < (((v1.getD 0 d0).ll).length:Int)))=true then
 j9 (if 140=140 ∧ 0 ≤ (v1.getD 2 d0).ii ∧ (v1.getD 2 d0).ii < (((v1.getD 0 d0).ll).length:Int) then
 (qJ [.i (((((v1.getD 0 d0).ll).getD ((v1.getD 2 d0).ii).toNat []).getD 5 d0).ii),.s (((((v1.getD 0 d0).ll).getD ((v1.getD 2 d0).ii).toNat []).getD 6 d0).ss),.sl (((((v1.getD 0 d0).ll).getD ((v1.getD 2 d0).ii).toNat []).getD 7 d0).ll),.sl (((((v1.getD 0 d0).ll).getD ((v1.getD 2 d0).ii).toNat []).getD 8 d0).ll)]).bindR fun r2 =>
 (pB [.sl (((((v1.getD 0 d0).ll).getD ((v1.getD 2 d0).ii).toNat []).getD 9 d0).ll)]).bindR fun r3 =>
 if ((v1.getD 1 d0).ll).length + [[DC.s (((((v1.getD 0 d0).ll).getD ((v1.getD 2 d0).ii).toNat []).getD 0 d0).ss),DC.s (((((v1.getD 0 d0).ll).getD ((v1.getD 2 d0).ii).toNat []).getD 1 d0).ss),DC.s (((((v1.getD 0 d0).ll).getD ((v1.getD 2 d0).ii).toNat []).getD 2 d0).ss),DC.s (((((v1.getD 0 d0).ll).getD ((v1.getD 2 d0).ii).toNat []).getD 3 d0).ss),DC.b (((((v1.getD 0 d0).ll).getD ((v1.getD 2 d0).ii).toNat []).getD 4 d0).bb),DC.i ((r2.getD 0 d0).ii),DC.s ((r2.getD 1 d0).ss),DC.sl ((r2.getD 2 d0).ll),DC.sl ((r2.getD 3 d0).ll),DC.sl ((r3.getD 0 d0).ll)]].length < jN ∧ 64=64 then
 .norm [.sl ((v1.getD 0 d0).ll),.sl (((v1.getD 1 d0).ll) ++ [[DC.s (((((v1.getD 0 d0).ll).getD ((v1.getD 2 d0).ii).toNat []).getD 0 d0).ss),DC.s (((((v1.getD 0 d0).ll).getD ((v1.getD 2 d0).ii).toNat []).getD 1 d0).ss),DC.s (((((v1.getD 0 d0).ll).getD ((v1.getD 2 d0).ii).toNat []).getD 2 d0).ss),DC.s (((((v1.getD 0 d0).ll).getD ((v1.getD 2 d0).ii).toNat []).getD 3 d0).ss),DC.b (((((v1.getD 0 d0).ll).getD ((v1.getD 2 d0).ii).toNat []).getD 4 d0).bb),DC.i ((r2.getD 0 d0).ii),DC.s ((r2.getD 1 d0).ss),DC.sl ((r2.getD 2 d0).ll),DC.sl ((r2.getD 3 d0).ll),DC.sl ((r3.getD 0 d0).ll)]]),.i ((v1.getD 2 d0).ii)]
 else
 .fail
 else
 .fail) 1 fun v4 =>
 .norm [.sl ((v4.getD 0 d0).ll),.sl ((v4.getD 1 d0).ll),.i (IntKind.i64.wrap ((v4.getD 2 d0).ii + (1:Int)))]
 else
 .ex 0 [.sl ((v1.getD 1 d0).ll)]
noncomputable def K6 (a:List DC):Out :=
 j9 (jO px [.sl ((a.getD 0 d0).ll),.sl [],.i (0:Int)]) 0 fun v5 =>
 .ret [.sl ((v5.getD 0 d0).ll)]
theorem XT a:qu a=K6 a:=(jA cfg 57 _ a).trans (by kernel_rfl)
noncomputable def kR:List DC → Out:=fun v1 =>
 if (decide ((v1.getD 2 d0).ii < (((v1.getD 0 d0).ll).length:Int)))=true then
 j9 (if 143=143 ∧ 0 ≤ (v1.getD 2 d0).ii ∧ (v1.getD 2 d0).ii < (((v1.getD 0 d0).ll).length:Int) then
 (pB [.sl (((((v1.getD 0 d0).ll).getD ((v1.getD 2 d0).ii).toNat []).getD 2 d0).ll)]).bindR fun r2 =>
 if ((v1.getD 1 d0).ll).length + [[DC.s (((((v1.getD 0 d0).ll).getD ((v1.getD 2 d0).ii).toNat []).getD 0 d0).ss),DC.s (((((v1.getD 0 d0).ll).getD ((v1.getD 2 d0).ii).toNat []).getD 1 d0).ss),DC.sl ((r2.getD 0 d0).ll)]].length < jN ∧ 65=65 then
 .norm [.sl ((v1.getD 0 d0).ll),.sl (((v1.getD 1 d0).ll) ++ [[DC.s (((((v1.getD 0 d0).ll).getD ((v1.getD 2 d0).ii).toNat []).getD 0 d0).ss),DC.s (((((v1.getD 0 d0).ll).getD ((v1.getD 2 d0).ii).toNat []).getD 1 d0).ss),DC.sl ((r2.getD 0 d0).ll)]]),.i ((v1.getD 2 d0).ii)]
 else
 .fail
 else
 .fail) 1 fun v3 =>
 .norm [.sl ((v3.getD 0 d0).ll),.sl ((v3.getD 1 d0).ll),.i (IntKind.i64.wrap ((v3.getD 2 d0).ii + (1:Int)))]
 else
 .ex 0 [.sl ((v1.getD 1 d0).ll)]
noncomputable def zQ (a:List DC):Out :=
 j9 (jO kR [.sl ((a.getD 0 d0).ll),.sl [],.i (0:Int)]) 0 fun v4 =>
 .ret [.sl ((v4.getD 0 d0).ll)]
theorem QB a:qG a=zQ a:=(jA cfg 58 _ a).trans (by kernel_rfl)
noncomputable def qX:List DC → Out:=fun v1 =>
 if (decide ((v1.getD 2 d0).ii < (((v1.getD 0 d0).ll).length:Int)))=true then
 j9 (if 146=146 ∧ 0 ≤ (v1.getD 2 d0).ii ∧ (v1.getD 2 d0).ii < (((v1.getD 0 d0).ll).length:Int) then
 if 146=146 ∧ 0 ≤ (v1.getD 2 d0).ii ∧ (v1.getD 2 d0).ii < (((v1.getD 0 d0).ll).length:Int) then
 (Jp [.sl (((((v1.getD 0 d0).ll).getD ((v1.getD 2 d0).ii).toNat []).getD 1 d0).ll)]).bindR fun r2 =>
 if ((v1.getD 1 d0).ll).length + [[DC.s (((((v1.getD 0 d0).ll).getD ((v1.getD 2 d0).ii).toNat []).getD 0 d0).ss),DC.sl ((r2.getD 0 d0).ll)]].length < jN ∧ 57=57 then
 .norm [.sl ((v1.getD 0 d0).ll),.sl (((v1.getD 1 d0).ll) ++ [[DC.s (((((v1.getD 0 d0).ll).getD ((v1.getD 2 d0).ii).toNat []).getD 0 d0).ss),DC.sl ((r2.getD 0 d0).ll)]]),.i ((v1.getD 2 d0).ii)]
 else
 .fail
 else
 .fail
 else
 .fail) 1 fun v3 =>
 .norm [.sl ((v3.getD 0 d0).ll),.sl ((v3.getD 1 d0).ll),.i (IntKind.i64.wrap ((v3.getD 2 d0).ii + (1:Int)))]
 else
 .ex 0 [.sl ((v1.getD 1 d0).ll)]
noncomputable def Vf (a:List DC):Out :=
 j9 (jO qX [.sl ((a.getD 0 d0).ll),.sl [],.i (0:Int)]) 0 fun v4 =>
 .ret [.sl ((v4.getD 0 d0).ll)]
theorem j0l a:pB a=Vf a:=(jA cfg 59 _ a).trans (by kernel_rfl)
noncomputable def Xp (a:List DC):Out :=
 (Jn [.sl ((a.getD 0 d0).ll),.i ((a.getD 1 d0).ii),.i ((a.getD 2 d0).ii)]).bindR fun r1 =>
 (jx [.i (12:Int),.sl ((r1.getD 11 d0).ll),.i ((r1.getD 12 d0).ii),.i ((r1.getD 13 d0).ii)]).bindR fun r2 =>
 j9 (ja (if ((r2.getD 0 d0).ii == (0:Int))=true then
 (jx [.i (10:Int),.sl ((r2.getD 1 d0).ll),.i ((r2.getD 2 d0).ii),.i ((r2.getD 3 d0).ii)]).bindR fun r3 =>
 .norm [.sl ((r3.getD 1 d0).ll),.i ((r3.getD 2 d0).ii),.i ((r3.getD 3 d0).ii),.i (0:Int),.b false,.s [],.s [],.b false,.i ((r3.getD 0 d0).ii),.b ((r1.getD 1 d0).bb),.s ((r1.getD 2 d0).ss),.s ((r1.getD 3 d0).ss),.sl ((r1.getD 4 d0).ll),.sl ((r1.getD 5 d0).ll),.sl ((r1.getD 6 d0).ll),.sl ((r1.getD 7 d0).ll),.sl ((r1.getD 8 d0).ll),.b ((r1.getD 9 d0).bb),.sl ((r1.getD 10 d0).ll)]
 else
 ja (if ((r2.getD 0 d0).ii == (1:Int))=true then
 (zC [.sl ((r2.getD 1 d0).ll),.i ((r2.getD 2 d0).ii),.i ((r2.getD 3 d0).ii)]).bindR fun r4 =>
 .norm [.sl ((r4.getD 1 d0).ll),.i ((r4.getD 2 d0).ii),.i ((r4.getD 3 d0).ii),.i (0:Int),.b false,.s [],.s [],.b false,.i ((r1.getD 0 d0).ii),.b ((r1.getD 1 d0).bb),.s ((r1.getD 2 d0).ss),.s ((r4.getD 0 d0).ss),.sl ((r1.getD 4 d0).ll),.sl ((r1.getD 5 d0).ll),.sl ((r1.getD 6 d0).ll),.sl ((r1.getD 7 d0).ll),.sl ((r1.getD 8 d0).ll),.b ((r1.getD 9 d0).bb),.sl ((r1.getD 10 d0).ll)]
 else
 ja (if ((r2.getD 0 d0).ii == (2:Int))=true then
 .norm [.sl ((r2.getD 1 d0).ll),.i ((r2.getD 2 d0).ii),.i ((r2.getD 3 d0).ii),.i (0:Int),.b false,.s [],.s [],.b false,.i ((r1.getD 0 d0).ii),.b (!((r1.getD 1 d0).bb)),.s ((r1.getD 2 d0).ss),.s ((r1.getD 3 d0).ss),.sl ((r1.getD 4 d0).ll),.sl ((r1.getD 5 d0).ll),.sl ((r1.getD 6 d0).ll),.sl ((r1.getD 7 d0).ll),.sl ((r1.getD 8 d0).ll),.b ((r1.getD 9 d0).bb),.sl ((r1.getD 10 d0).ll)]
 else
 ja (if ((r2.getD 0 d0).ii == (3:Int))=true then
 (jH [.sl [[DC.s ([116,114,117,101]:List UInt8)],[DC.s ([65]:List UInt8)],[DC.s ([]:List UInt8)]],.sl ((r2.getD 1 d0).ll),.i ((r2.getD 2 d0).ii),.i ((r2.getD 3 d0).ii)]).bindR fun r5 =>
 if ((r1.getD 7 d0).ll).length + [[DC.s ((r5.getD 0 d0).ss),DC.s [],DC.sl []]].length < jN ∧ 65=65 then
 .norm [.sl ((r5.getD 1 d0).ll),.i ((r5.getD 2 d0).ii),.i ((r5.getD 3 d0).ii),.i (0:Int),.b false,.s [],.s [],.b false,.i ((r1.getD 0 d0).ii),.b ((r1.getD 1 d0).bb),.s ((r1.getD 2 d0).ss),.s ((r1.getD 3 d0).ss),.sl ((r1.getD 4 d0).ll),.sl ((r1.getD 5 d0).ll),.sl ((r1.getD 6 d0).ll),.sl (((r1.getD 7 d0).ll) ++ [[DC.s ((r5.getD 0 d0).ss),DC.s [],DC.sl []]]),.sl ((r1.getD 8 d0).ll),.b ((r1.getD 9 d0).bb),.sl ((r1.getD 10 d0).ll)]
 else
 .fail
 else
 ja (if ((r2.getD 0 d0).ii == (4:Int))=true then
 (jx [.i (5:Int),.sl ((r2.getD 1 d0).ll),.i ((r2.getD 2 d0).ii),.i ((r2.getD 3 d0).ii)]).bindR fun r6 =>
 if ((r1.getD 8 d0).ll).length + [[DC.i ((r6.getD 0 d0).ii),DC.s ([88]:List UInt8)]].length < jN then
 .norm [.sl ((r6.getD 1 d0).ll),.i ((r6.getD 2 d0).ii),.i ((r6.getD 3 d0).ii),.i (0:Int),.b false,.s [],.s [],.b false,.i ((r1.getD 0 d0).ii),.b ((r1.getD 1 d0).bb),.s ((r1.getD 2 d0).ss),.s ((r1.getD 3 d0).ss),.sl ((r1.getD 4 d0).ll),.sl ((r1.getD 5 d0).ll),.sl ((r1.getD 6 d0).ll),.sl ((r1.getD 7 d0).ll),.sl (((r1.getD 8 d0).ll) ++ [[DC.i ((r6.getD 0 d0).ii),DC.s ([88]:List UInt8)]]),.b ((r1.getD 9 d0).bb),.sl ((r1.getD 10 d0).ll)]
 else
 .fail
 else
 ja (if ((r2.getD 0 d0).ii == (5:Int))=true then
 (zC [.sl ((r2.getD 1 d0).ll),.i ((r2.getD 2 d0).ii),.i ((r2.getD 3 d0).ii)]).bindR fun r7 =>
 if ((r1.getD 4 d0).ll).length + [[DC.s ((r7.getD 0 d0).ss)]].length < jN then
 .norm [.sl ((r7.getD 1 d0).ll),.i ((r7.getD 2 d0).ii),.i ((r7.getD 3 d0).ii),.i (0:Int),.b false,.s [],.s [],.b false,.i ((r1.getD 0 d0).ii),.b ((r1.getD 1 d0).bb),.s ((r1.getD 2 d0).ss),.s ((r1.getD 3 d0).ss),.sl (((r1.getD 4 d0).ll) ++ [[DC.s ((r7.getD 0 d0).ss)]]),.sl ((r1.getD 5 d0).ll),.sl ((r1.getD 6 d0).ll),.sl ((r1.getD 7 d0).ll),.sl ((r1.getD 8 d0).ll),.b ((r1.getD 9 d0).bb),.sl ((r1.getD 10 d0).ll)]
 else
 .fail
 else
 ja (if ((r2.getD 0 d0).ii == (6:Int))=true then
 if ((r1.getD 10 d0).ll).length + [[DC.s ([118]:List UInt8),DC.sl [[DC.s ([97]:List UInt8),DC.i (1:Int),DC.s ([120]:List UInt8),DC.sl [],DC.sl []]]]].length < jN ∧ 57=57 then
 .norm [.sl ((r2.getD 1 d0).ll),.i ((r2.getD 2 d0).ii),.i ((r2.getD 3 d0).ii),.i (0:Int),.b false,.s [],.s [],.b false,.i ((r1.getD 0 d0).ii),.b ((r1.getD 1 d0).bb),.s ((r1.getD 2 d0).ss),.s ((r1.getD 3 d0).ss),.sl ((r1.getD 4 d0).ll),.sl ((r1.getD 5 d0).ll),.sl ((r1.getD 6 d0).ll),.sl ((r1.getD 7 d0).ll),.sl ((r1.getD 8 d0).ll),.b ((r1.getD 9 d0).bb),.sl (((r1.getD 10 d0).ll) ++ [[DC.s ([118]:List UInt8),DC.sl [[DC.s ([97]:List UInt8),DC.i (1:Int),DC.s ([120]:List UInt8),DC.sl [],DC.sl []]]]])]
 else
 .fail
 else
 .norm [.sl ((r2.getD 1 d0).ll),.i ((r2.getD 2 d0).ii),.i ((r2.getD 3 d0).ii),.i (0:Int),.b false,.s [],.s [],.b false,.i ((r1.getD 0 d0).ii),.b ((r1.getD 1 d0).bb),.s ((r1.getD 2 d0).ss),.s ((r1.getD 3 d0).ss),.sl ((r1.getD 4 d0).ll),.sl ((r1.getD 5 d0).ll),.sl ((r1.getD 6 d0).ll),.sl ((r1.getD 7 d0).ll),.sl ((r1.getD 8 d0).ll),.b ((r1.getD 9 d0).bb),.sl ((r1.getD 10 d0).ll)]) fun v8 =>
 .norm [.sl ((v8.getD 0 d0).ll),.i ((v8.getD 1 d0).ii),.i ((v8.getD 2 d0).ii),.i ((v8.getD 3 d0).ii),.b ((v8.getD 4 d0).bb),.s ((v8.getD 5 d0).ss),.s ((v8.getD 6 d0).ss),.b ((v8.getD 7 d0).bb),.i ((v8.getD 8 d0).ii),.b ((v8.getD 9 d0).bb),.s ((v8.getD 10 d0).ss),.s ((v8.getD 11 d0).ss),.sl ((v8.getD 12 d0).ll),.sl ((v8.getD 13 d0).ll),.sl ((v8.getD 14 d0).ll),.sl ((v8.getD 15 d0).ll),.sl ((v8.getD 16 d0).ll),.b ((v8.getD 17 d0).bb),.sl ((v8.getD 18 d0).ll)]) fun v9 =>
 .norm [.sl ((v9.getD 0 d0).ll),.i ((v9.getD 1 d0).ii),.i ((v9.getD 2 d0).ii),.i ((v9.getD 3 d0).ii),.b ((v9.getD 4 d0).bb),.s ((v9.getD 5 d0).ss),.s ((v9.getD 6 d0).ss),.b ((v9.getD 7 d0).bb),.i ((v9.getD 8 d0).ii),.b ((v9.getD 9 d0).bb),.s ((v9.getD 10 d0).ss),.s ((v9.getD 11 d0).ss),.sl ((v9.getD 12 d0).ll),.sl ((v9.getD 13 d0).ll),.sl ((v9.getD 14 d0).ll),.sl ((v9.getD 15 d0).ll),.sl ((v9.getD 16 d0).ll),.b ((v9.getD 17 d0).bb),.sl ((v9.getD 18 d0).ll)]) fun v10 =>
 .norm [.sl ((v10.getD 0 d0).ll),.i ((v10.getD 1 d0).ii),.i ((v10.getD 2 d0).ii),.i ((v10.getD 3 d0).ii),.b ((v10.getD 4 d0).bb),.s ((v10.getD 5 d0).ss),.s ((v10.getD 6 d0).ss),.b ((v10.getD 7 d0).bb),.i ((v10.getD 8 d0).ii),.b ((v10.getD 9 d0).bb),.s ((v10.getD 10 d0).ss),.s ((v10.getD 11 d0).ss),.sl ((v10.getD 12 d0).ll),.sl ((v10.getD 13 d0).ll),.sl ((v10.getD 14 d0).ll),.sl ((v10.getD 15 d0).ll),.sl ((v10.getD 16 d0).ll),.b ((v10.getD 17 d0).bb),.sl ((v10.getD 18 d0).ll)]) fun v11 =>
 .norm [.sl ((v11.getD 0 d0).ll),.i ((v11.getD 1 d0).ii),.i ((v11.getD 2 d0).ii),.i ((v11.getD 3 d0).ii),.b ((v11.getD 4 d0).bb),.s ((v11.getD 5 d0).ss),.s ((v11.getD 6 d0).ss),.b ((v11.getD 7 d0).bb),.i ((v11.getD 8 d0).ii),.b ((v11.getD 9 d0).bb),.s ((v11.getD 10 d0).ss),.s ((v11.getD 11 d0).ss),.sl ((v11.getD 12 d0).ll),.sl ((v11.getD 13 d0).ll),.sl ((v11.getD 14 d0).ll),.sl ((v11.getD 15 d0).ll),.sl ((v11.getD 16 d0).ll),.b ((v11.getD 17 d0).bb),.sl ((v11.getD 18 d0).ll)]) fun v12 =>
 .norm [.sl ((v12.getD 0 d0).ll),.i ((v12.getD 1 d0).ii),.i ((v12.getD 2 d0).ii),.i ((v12.getD 3 d0).ii),.b ((v12.getD 4 d0).bb),.s ((v12.getD 5 d0).ss),.s ((v12.getD 6 d0).ss),.b ((v12.getD 7 d0).bb),.i ((v12.getD 8 d0).ii),.b ((v12.getD 9 d0).bb),.s ((v12.getD 10 d0).ss),.s ((v12.getD 11 d0).ss),.sl ((v12.getD 12 d0).ll),.sl ((v12.getD 13 d0).ll),.sl ((v12.getD 14 d0).ll),.sl ((v12.getD 15 d0).ll),.sl ((v12.getD 16 d0).ll),.b ((v12.getD 17 d0).bb),.sl ((v12.getD 18 d0).ll)]) fun v13 =>
 .norm [.sl ((v13.getD 0 d0).ll),.i ((v13.getD 1 d0).ii),.i ((v13.getD 2 d0).ii),.i ((v13.getD 3 d0).ii),.b ((v13.getD 4 d0).bb),.s ((v13.getD 5 d0).ss),.s ((v13.getD 6 d0).ss),.b ((v13.getD 7 d0).bb),.i ((v13.getD 8 d0).ii),.b ((v13.getD 9 d0).bb),.s ((v13.getD 10 d0).ss),.s ((v13.getD 11 d0).ss),.sl ((v13.getD 12 d0).ll),.sl ((v13.getD 13 d0).ll),.sl ((v13.getD 14 d0).ll),.sl ((v13.getD 15 d0).ll),.sl ((v13.getD 16 d0).ll),.b ((v13.getD 17 d0).bb),.sl ((v13.getD 18 d0).ll)]) fun v14 =>
 .norm [.sl ((v14.getD 0 d0).ll),.i ((v14.getD 1 d0).ii),.i ((v14.getD 2 d0).ii),.i ((v14.getD 3 d0).ii),.b ((v14.getD 4 d0).bb),.s ((v14.getD 5 d0).ss),.s ((v14.getD 6 d0).ss),.b ((v14.getD 7 d0).bb),.i ((v14.getD 8 d0).ii),.b ((v14.getD 9 d0).bb),.s ((v14.getD 10 d0).ss),.s ((v14.getD 11 d0).ss),.sl ((v14.getD 12 d0).ll),.sl ((v14.getD 13 d0).ll),.sl ((v14.getD 14 d0).ll),.sl ((v14.getD 15 d0).ll),.sl ((v14.getD 16 d0).ll),.b ((v14.getD 17 d0).bb),.sl ((v14.getD 18 d0).ll)]) 0 fun v15 =>
 .ret [.i ((v15.getD 8 d0).ii),.b ((v15.getD 9 d0).bb),.s ((v15.getD 10 d0).ss),.s ((v15.getD 11 d0).ss),.sl ((v15.getD 12 d0).ll),.sl ((v15.getD 13 d0).ll),.sl ((v15.getD 14 d0).ll),.sl ((v15.getD 15 d0).ll),.sl ((v15.getD 16 d0).ll),.b ((v15.getD 17 d0).bb),.sl ((v15.getD 18 d0).ll),.sl ((v15.getD 0 d0).ll),.i ((v15.getD 1 d0).ii),.i ((v15.getD 2 d0).ii)]
theorem j1T a:Km a=Xp a:=(jA cfg 60 _ a).trans (by kernel_rfl)
noncomputable def yC:List DC → Out:=fun v1 =>
 if (decide ((v1.getD 2 d0).ii < (((v1.getD 0 d0).ll).length:Int)))=true then
 j9 (if 9=9 ∧ 0 ≤ (v1.getD 2 d0).ii ∧ (v1.getD 2 d0).ii < (((v1.getD 0 d0).ll).length:Int) then
 if 9=9 ∧ 0 ≤ (v1.getD 2 d0).ii ∧ (v1.getD 2 d0).ii < (((v1.getD 1 d0).ll).length:Int) then
 if (!(((((v1.getD 0 d0).ll).getD ((v1.getD 2 d0).ii).toNat []).getD 0 d0).ss == ((((v1.getD 1 d0).ll).getD ((v1.getD 2 d0).ii).toNat []).getD 0 d0).ss))=true then
 .ret [.b false]
 else
 .norm [.sl ((v1.getD 0 d0).ll),.sl ((v1.getD 1 d0).ll),.i ((v1.getD 2 d0).ii)]
 else
 .fail
 else
 .fail) 1 fun v2 =>
 .norm [.sl ((v2.getD 0 d0).ll),.sl ((v2.getD 1 d0).ll),.i (IntKind.i64.wrap ((v2.getD 2 d0).ii + (1:Int)))]
 else
 .ex 0 []
noncomputable def KD (a:List DC):Out :=
 if ((((a.getD 0 d0).ll).length:Int) != (((a.getD 1 d0).ll).length:Int))=true then
 .ret [.b false]
 else
 j9 (jO yC [.sl ((a.getD 0 d0).ll),.sl ((a.getD 1 d0).ll),.i (0:Int)]) 0 fun v3 =>
 .ret [.b true]
theorem YH a:qQ a=KD a:=(jA cfg 61 _ a).trans (by kernel_rfl)
noncomputable def pW:List DC → Out:=fun v1 =>
 if (decide ((v1.getD 2 d0).ii < (((v1.getD 0 d0).ll).length:Int)))=true then
 j9 (if 135=135 ∧ 0 ≤ (v1.getD 2 d0).ii ∧ (v1.getD 2 d0).ii < (((v1.getD 0 d0).ll).length:Int) then
 if 135=135 ∧ 0 ≤ (v1.getD 2 d0).ii ∧ (v1.getD 2 d0).ii < (((v1.getD 1 d0).ll).length:Int) then
 (yd [.s (((((v1.getD 0 d0).ll).getD ((v1.getD 2 d0).ii).toNat []).getD 0 d0).ss),.s (((((v1.getD 0 d0).ll).getD ((v1.getD 2 d0).ii).toNat []).getD 1 d0).ss),.sl (((((v1.getD 0 d0).ll).getD ((v1.getD 2 d0).ii).toNat []).getD 2 d0).ll),.s (((((v1.getD 0 d0).ll).getD ((v1.getD 2 d0).ii).toNat []).getD 3 d0).ss),.s (((((v1.getD 0 d0).ll).getD ((v1.getD 2 d0).ii).toNat []).getD 4 d0).ss),.sl (((((v1.getD 0 d0).ll).getD ((v1.getD 2 d0).ii).toNat []).getD 5 d0).ll),.s (((((v1.getD 1 d0).ll).getD ((v1.getD 2 d0).ii).toNat []).getD 0 d0).ss),.s (((((v1.getD 1 d0).ll).getD ((v1.getD 2 d0).ii).toNat []).getD 1 d0).ss),.sl (((((v1.getD 1 d0).ll).getD ((v1.getD 2 d0).ii).toNat []).getD 2 d0).ll),.s (((((v1.getD 1 d0).ll).getD ((v1.getD 2 d0).ii).toNat []).getD 3 d0).ss),.s (((((v1.getD 1 d0).ll).getD ((v1.getD 2 d0).ii).toNat []).getD 4 d0).ss),.sl (((((v1.getD 1 d0).ll).getD ((v1.getD 2 d0).ii).toNat []).getD 5 d0).ll)]).bindR fun r2 =>
 if (!((r2.getD 0 d0).bb))=true then
 .ret [.b false]
 else
 .norm [.sl ((v1.getD 0 d0).ll),.sl ((v1.getD 1 d0).ll),.i ((v1.getD 2 d0).ii)]
 else
 .fail
 else
 .fail) 1 fun v3 =>
 .norm [.sl ((v3.getD 0 d0).ll),.sl ((v3.getD 1 d0).ll),.i (IntKind.i64.wrap ((v3.getD 2 d0).ii + (1:Int)))]
 else
 .ex 0 []
noncomputable def zS (a:List DC):Out :=
 if ((((a.getD 0 d0).ll).length:Int) != (((a.getD 1 d0).ll).length:Int))=true then
 .ret [.b false]
 else
 j9 (jO pW [.sl ((a.getD 0 d0).ll),.sl ((a.getD 1 d0).ll),.i (0:Int)]) 0 fun v4 =>
 .ret [.b true]
theorem QD a:qK a=zS a:=(jA cfg 62 _ a).trans (by kernel_rfl)
noncomputable def yh:List DC → Out:=fun v1 =>
 if (decide ((v1.getD 2 d0).ii < (((v1.getD 0 d0).ll).length:Int)))=true then
 j9 (if 140=140 ∧ 0 ≤ (v1.getD 2 d0).ii ∧ (v1.getD 2 d0).ii < (((v1.getD 0 d0).ll).length:Int) then
 if 140=140 ∧ 0 ≤ (v1.getD 2 d0).ii ∧ (v1.getD 2 d0).ii < (((v1.getD 1 d0).ll).length:Int) then
 (zp [.s (((((v1.getD 0 d0).ll).getD ((v1.getD 2 d0).ii).toNat []).getD 0 d0).ss),.s (((((v1.getD 0 d0).ll).getD ((v1.getD 2 d0).ii).toNat []).getD 1 d0).ss),.s (((((v1.getD 0 d0).ll).getD ((v1.getD 2 d0).ii).toNat []).getD 2 d0).ss),.s (((((v1.getD 0 d0).ll).getD ((v1.getD 2 d0).ii).toNat []).getD 3 d0).ss),.b (((((v1.getD 0 d0).ll).getD ((v1.getD 2 d0).ii).toNat []).getD 4 d0).bb),.i (((((v1.getD 0 d0).ll).getD ((v1.getD 2 d0).ii).toNat []).getD 5 d0).ii),.s (((((v1.getD 0 d0).ll).getD ((v1.getD 2 d0).ii).toNat []).getD 6 d0).ss),.sl (((((v1.getD 0 d0).ll).getD ((v1.getD 2 d0).ii).toNat []).getD 7 d0).ll),.sl (((((v1.getD 0 d0).ll).getD ((v1.getD 2 d0).ii).toNat []).getD 8 d0).ll),.sl (((((v1.getD 0 d0).ll).getD ((v1.getD 2 d0).ii).toNat []).getD 9 d0).ll),.s (((((v1.getD 1 d0).ll).getD ((v1.getD 2 d0).ii).toNat []).getD 0 d0).ss),.s (((((v1.getD 1 d0).ll).getD ((v1.getD 2 d0).ii).toNat []).getD 1 d0).ss),.s (((((v1.getD 1 d0).ll).getD ((v1.getD 2 d0).ii).toNat []).getD 2 d0).ss),.s (((((v1.getD 1 d0).ll).getD ((v1.getD 2 d0).ii).toNat []).getD 3 d0).ss),.b (((((v1.getD 1 d0).ll).getD ((v1.getD 2 d0).ii).toNat []).getD 4 d0).bb),.i (((((v1.getD 1 d0).ll).getD ((v1.getD 2 d0).ii).toNat []).getD 5 d0).ii),.s (((((v1.getD 1 d0).ll).getD ((v1.getD 2 d0).ii).toNat []).getD 6 d0).ss),.sl (((((v1.getD 1 d0).ll).getD ((v1.getD 2 d0).ii).toNat []).getD 7 d0).ll),.sl (((((v1.getD 1 d0).ll).getD ((v1.getD 2 d0).ii).toNat []).getD 8 d0).ll),.sl (((((v1.getD 1 d0).ll).getD ((v1.getD 2 d0).ii).toNat []).getD 9 d0).ll)]).bindR fun r2 =>
 if (!((r2.getD 0 d0).bb))=true then
 .ret [.b false]
 else
 .norm [.sl ((v1.getD 0 d0).ll),.sl ((v1.getD 1 d0).ll),.i ((v1.getD 2 d0).ii)]
 else
 .fail
 else
 .fail) 1 fun v3 =>
 .norm [.sl ((v3.getD 0 d0).ll),.sl ((v3.getD 1 d0).ll),.i (IntKind.i64.wrap ((v3.getD 2 d0).ii + (1:Int)))]
 else
 .ex 0 []
noncomputable def Ka (a:List DC):Out :=
 if ((((a.getD 0 d0).ll).length:Int) != (((a.getD 1 d0).ll).length:Int))=true then
 .ret [.b false]
 else
 j9 (jO yh [.sl ((a.getD 0 d0).ll),.sl ((a.getD 1 d0).ll),.i (0:Int)]) 0 fun v4 =>
 .ret [.b true]
theorem XX a:qv a=Ka a:=(jA cfg 63 _ a).trans (by kernel_rfl)
noncomputable def qq:List DC → Out:=fun v1 =>
 if (decide ((v1.getD 2 d0).ii < (((v1.getD 0 d0).ll).length:Int)))=true then
 j9 (if 143=143 ∧ 0 ≤ (v1.getD 2 d0).ii ∧ (v1.getD 2 d0).ii < (((v1.getD 0 d0).ll).length:Int) then
 if 143=143 ∧ 0 ≤ (v1.getD 2 d0).ii ∧ (v1.getD 2 d0).ii < (((v1.getD 1 d0).ll).length:Int) then
 (yw [.s (((((v1.getD 0 d0).ll).getD ((v1.getD 2 d0).ii).toNat []).getD 0 d0).ss),.s (((((v1.getD 0 d0).ll).getD ((v1.getD 2 d0).ii).toNat []).getD 1 d0).ss),.sl (((((v1.getD 0 d0).ll).getD ((v1.getD 2 d0).ii).toNat []).getD 2 d0).ll),.s (((((v1.getD 1 d0).ll).getD ((v1.getD 2 d0).ii).toNat []).getD 0 d0).ss),.s (((((v1.getD 1 d0).ll).getD ((v1.getD 2 d0).ii).toNat []).getD 1 d0).ss),.sl (((((v1.getD 1 d0).ll).getD ((v1.getD 2 d0).ii).toNat []).getD 2 d0).ll)]).bindR fun r2 =>
 if (!((r2.getD 0 d0).bb))=true then
 .ret [.b false]
 else
 .norm [.sl ((v1.getD 0 d0).ll),.sl ((v1.getD 1 d0).ll),.i ((v1.getD 2 d0).ii)]
 else
 .fail
 else
 .fail) 1 fun v3 =>
 .norm [.sl ((v3.getD 0 d0).ll),.sl ((v3.getD 1 d0).ll),.i (IntKind.i64.wrap ((v3.getD 2 d0).ii + (1:Int)))]
 else
 .ex 0 []
noncomputable def J9 (a:List DC):Out :=
 if ((((a.getD 0 d0).ll).length:Int) != (((a.getD 1 d0).ll).length:Int))=true then
 .ret [.b false]
 else
 j9 (jO qq [.sl ((a.getD 0 d0).ll),.sl ((a.getD 1 d0).ll),.i (0:Int)]) 0 fun v4 =>
 .ret [.b true]
theorem V1 a:ye a=J9 a:=(jA cfg 64 _ a).trans (by kernel_rfl)
noncomputable def yD:List DC → Out:=fun v1 =>
 if (decide ((v1.getD 2 d0).ii < (((v1.getD 0 d0).ll).length:Int)))=true then
 j9 (if 102=102 ∧ 0 ≤ (v1.getD 2 d0).ii ∧ (v1.getD 2 d0).ii < (((v1.getD 0 d0).ll).length:Int) then
 if 102=102 ∧ 0 ≤ (v1.getD 2 d0).ii ∧ (v1.getD 2 d0).ii < (((v1.getD 1 d0).ll).length:Int) then
 if (!((((((v1.getD 0 d0).ll).getD ((v1.getD 2 d0).ii).toNat []).getD 0 d0).ii == ((((v1.getD 1 d0).ll).getD ((v1.getD 2 d0).ii).toNat []).getD 0 d0).ii) && ((((((v1.getD 0 d0).ll).getD ((v1.getD 2 d0).ii).toNat []).getD 1 d0).ss == ((((v1.getD 1 d0).ll).getD ((v1.getD 2 d0).ii).toNat []).getD 1 d0).ss) && true)))=true then
 .ret [.b false]
 else
 .norm [.sl ((v1.getD 0 d0).ll),.sl ((v1.getD 1 d0).ll),.i ((v1.getD 2 d0).ii)]
 else
 .fail
 else
 .fail) 1 fun v2 =>
 .norm [.sl ((v2.getD 0 d0).ll),.sl ((v2.getD 1 d0).ll),.i (IntKind.i64.wrap ((v2.getD 2 d0).ii + (1:Int)))]
 else
 .ex 0 []
noncomputable def KE (a:List DC):Out :=
 if ((((a.getD 0 d0).ll).length:Int) != (((a.getD 1 d0).ll).length:Int))=true then
 .ret [.b false]
 else
 j9 (jO yD [.sl ((a.getD 0 d0).ll),.sl ((a.getD 1 d0).ll),.i (0:Int)]) 0 fun v3 =>
 .ret [.b true]
theorem YI a:zo a=KE a:=(jA cfg 65 _ a).trans (by kernel_rfl)
noncomputable def yW:List DC → Out:=fun v1 =>
 if (decide ((v1.getD 2 d0).ii < (((v1.getD 0 d0).ll).length:Int)))=true then
 j9 (if 146=146 ∧ 0 ≤ (v1.getD 2 d0).ii ∧ (v1.getD 2 d0).ii < (((v1.getD 0 d0).ll).length:Int) then
 if 146=146 ∧ 0 ≤ (v1.getD 2 d0).ii ∧ (v1.getD 2 d0).ii < (((v1.getD 1 d0).ll).length:Int) then
 (Jr [.s (((((v1.getD 0 d0).ll).getD ((v1.getD 2 d0).ii).toNat []).getD 0 d0).ss),.sl (((((v1.getD 0 d0).ll).getD ((v1.getD 2 d0).ii).toNat []).getD 1 d0).ll),.s (((((v1.getD 1 d0).ll).getD ((v1.getD 2 d0).ii).toNat []).getD 0 d0).ss),.sl (((((v1.getD 1 d0).ll).getD ((v1.getD 2 d0).ii).toNat []).getD 1 d0).ll)]).bindR fun r2 =>
 if (!((r2.getD 0 d0).bb))=true then
 .ret [.b false]
 else
 .norm [.sl ((v1.getD 0 d0).ll),.sl ((v1.getD 1 d0).ll),.i ((v1.getD 2 d0).ii)]
 else
 .fail
 else
 .fail) 1 fun v3 =>
 .norm [.sl ((v3.getD 0 d0).ll),.sl ((v3.getD 1 d0).ll),.i (IntKind.i64.wrap ((v3.getD 2 d0).ii + (1:Int)))]
 else
 .ex 0 []
noncomputable def Qq (a:List DC):Out :=
 if ((((a.getD 0 d0).ll).length:Int) != (((a.getD 1 d0).ll).length:Int))=true then
 .ret [.b false]
 else
 j9 (jO yW [.sl ((a.getD 0 d0).ll),.sl ((a.getD 1 d0).ll),.i (0:Int)]) 0 fun v4 =>
 .ret [.b true]
theorem Zu a:pa a=Qq a:=(jA cfg 66 _ a).trans (by kernel_rfl)
noncomputable def j2r (a:List DC):Out :=
 .ret [.b (decide ((IntKind.i64.wrap ((IntKind.i64.wrap ((IntKind.i64.wrap ((IntKind.i64.wrap ((IntKind.i64.wrap ((((a.getD 4 d0).ll).length:Int) + (((a.getD 5 d0).ll).length:Int))) + (((a.getD 6 d0).ll).length:Int))) + (((a.getD 7 d0).ll).length:Int))) + (((a.getD 8 d0).ll).length:Int))) + (((a.getD 10 d0).ll).length:Int))) > (0:Int)))]
theorem j1S a:Kl a=j2r a:=(jA cfg 87 _ a).trans (by kernel_rfl)
noncomputable def kO:List DC → Out:=fun v5 =>
 if (decide ((v5.getD 2 d0).ii < (v5.getD 1 d0).ii))=true then
 j9 (if 138=138 ∧ 0 ≤ (v5.getD 2 d0).ii ∧ (v5.getD 2 d0).ii < (((v5.getD 0 d0).ll).length:Int) then
 (pf [.i (((((v5.getD 0 d0).ll).getD ((v5.getD 2 d0).ii).toNat []).getD 0 d0).ii),.s (((((v5.getD 0 d0).ll).getD ((v5.getD 2 d0).ii).toNat []).getD 1 d0).ss),.sl (((((v5.getD 0 d0).ll).getD ((v5.getD 2 d0).ii).toNat []).getD 2 d0).ll),.sl (((((v5.getD 0 d0).ll).getD ((v5.getD 2 d0).ii).toNat []).getD 3 d0).ll)]).bindR fun r6 =>
 if ((v5.getD 7 d0).ll).length + [[DC.i ((r6.getD 0 d0).ii),DC.s ((r6.getD 1 d0).ss),DC.sl ((r6.getD 2 d0).ll),DC.sl ((r6.getD 3 d0).ll)]].length < jN ∧ 136=136 then
 .norm [.sl ((v5.getD 0 d0).ll),.i ((v5.getD 1 d0).ii),.i ((v5.getD 2 d0).ii),.i ((v5.getD 3 d0).ii),.s ((v5.getD 4 d0).ss),.i ((v5.getD 5 d0).ii),.s ((v5.getD 6 d0).ss),.sl (((v5.getD 7 d0).ll) ++ [[DC.i ((r6.getD 0 d0).ii),DC.s ((r6.getD 1 d0).ss),DC.sl ((r6.getD 2 d0).ll),DC.sl ((r6.getD 3 d0).ll)]]),.sl ((v5.getD 8 d0).ll)]
 else
 .fail
 else
 .fail) 1 fun v7 =>
 .norm [.sl ((v7.getD 0 d0).ll),.i ((v7.getD 1 d0).ii),.i (IntKind.i64.wrap ((v7.getD 2 d0).ii + (1:Int))),.i ((v7.getD 3 d0).ii),.s ((v7.getD 4 d0).ss),.i ((v7.getD 5 d0).ii),.s ((v7.getD 6 d0).ss),.sl ((v7.getD 7 d0).ll),.sl ((v7.getD 8 d0).ll)]
 else
 .ex 0 [.i ((v5.getD 3 d0).ii),.s ((v5.getD 4 d0).ss),.i ((v5.getD 5 d0).ii),.s ((v5.getD 6 d0).ss),.sl ((v5.getD 7 d0).ll),.sl ((v5.getD 8 d0).ll)]
noncomputable def Kc (a:List DC):Out :=
 (kZ [.sl ((a.getD 3 d0).ll)]).bindR fun r1 =>
 j9 (jO kO [.sl ((a.getD 2 d0).ll),.i (((a.getD 2 d0).ll).length:Int),.i (0:Int),.i (0:Int),.s [],.i ((a.getD 0 d0).ii),.s ((a.getD 1 d0).ss),.sl [],.sl ((r1.getD 0 d0).ll)]) 0 fun v8 =>
 .ret [.i ((v8.getD 2 d0).ii),.s ((v8.getD 3 d0).ss),.sl ((v8.getD 4 d0).ll),.sl ((v8.getD 5 d0).ll)]
theorem XZ a:pf a=Kc a:=(jA cfg 88 _ a).trans (by kernel_rfl)
end Go.Proofs.QV
