/- What the functions do, and that they do (written by a program). -/
import Derived.Test.YtciandfkncadgaaG0
namespace Go.Proofs.YtciandfkncadgaaV
open Go
set_option linter.unusedVariables false
set_option maxRecDepth 100000
/-- loop.example/g00964/laws.FnExactInAt -/
noncomputable def E_laws_FnExactInAt (a : List DC) : Out :=
    if (decide ((((a.getD 1 d0).ss).length : Int) > (1048576 : Int))) = true then
      .ret [DC.b true]
    else
      (r_laws_szInDefS [DC.sl ((a.getD 0 d0).ll), DC.i (1048576 : Int)]).bindR fun r1 =>
      if (decide ((r1.getD 0 d0).ii < (0 : Int))) = true then
        .ret [DC.b true]
      else
        (r_laws_toInDefS [DC.sl ((a.getD 0 d0).ll)]).bindR fun r2 =>
        (r_spec_InAt [DC.sl ((r2.getD 0 d0).ll), DC.s ((a.getD 1 d0).ss)]).bindR fun r3 =>
        (r_laws_toInDefS [DC.sl ((a.getD 0 d0).ll)]).bindR fun r4 =>
        (r_impl_InAt [DC.sl ((r4.getD 0 d0).ll), DC.s ((a.getD 1 d0).ss)]).bindR fun r5 =>
        if ((r5.getD 0 d0).ii != (r3.getD 0 d0).ii) = true then
          .ret [DC.b false]
        else
          (r_laws_toInDefS [DC.sl ((a.getD 0 d0).ll)]).bindR fun r6 =>
          (r_laws_eqInDefS [DC.sl ((r4.getD 0 d0).ll), DC.sl ((r6.getD 0 d0).ll)]).bindR fun r7 =>
          if (!((r7.getD 0 d0).bb)) = true then
            .ret [DC.b false]
          else
            .ret [DC.b true]
theorem eq_laws_FnExactInAt (a : List DC) : r_laws_FnExactInAt a = E_laws_FnExactInAt a := (Run_eq cfg 3 h_laws_FnExactInAt a).trans (by kernel_rfl)
/-- loop.example/g00964/laws.FnExactRootOf -/
noncomputable def E_laws_FnExactRootOf (a : List DC) : Out :=
    (r_laws_szSchema [DC.sl ((a.getD 0 d0).ll), DC.sl ((a.getD 1 d0).ll), DC.sl ((a.getD 2 d0).ll), DC.i (1048576 : Int)]).bindR fun r1 =>
    if (decide ((r1.getD 0 d0).ii < (0 : Int))) = true then
      .ret [DC.b true]
    else
      (r_laws_toSchema [DC.sl ((a.getD 0 d0).ll), DC.sl ((a.getD 1 d0).ll), DC.sl ((a.getD 2 d0).ll)]).bindR fun r2 =>
      (r_spec_RootOf [DC.sl ((r2.getD 0 d0).ll), DC.sl ((r2.getD 1 d0).ll), DC.sl ((r2.getD 2 d0).ll), DC.i ((a.getD 3 d0).ii)]).bindR fun r3 =>
      (r_laws_toSchema [DC.sl ((a.getD 0 d0).ll), DC.sl ((a.getD 1 d0).ll), DC.sl ((a.getD 2 d0).ll)]).bindR fun r4 =>
      (r_impl_RootOf [DC.sl ((r4.getD 0 d0).ll), DC.sl ((r4.getD 1 d0).ll), DC.sl ((r4.getD 2 d0).ll), DC.i ((a.getD 3 d0).ii)]).bindR fun r5 =>
      if (!((r5.getD 0 d0).ss == (r3.getD 0 d0).ss)) = true then
        .ret [DC.b false]
      else
        (r_laws_toSchema [DC.sl ((a.getD 0 d0).ll), DC.sl ((a.getD 1 d0).ll), DC.sl ((a.getD 2 d0).ll)]).bindR fun r6 =>
        (r_laws_eqSchema [DC.sl ((r4.getD 0 d0).ll), DC.sl ((r4.getD 1 d0).ll), DC.sl ((r4.getD 2 d0).ll), DC.sl ((r6.getD 0 d0).ll), DC.sl ((r6.getD 1 d0).ll), DC.sl ((r6.getD 2 d0).ll)]).bindR fun r7 =>
        if (!((r7.getD 0 d0).bb)) = true then
          .ret [DC.b false]
        else
          .ret [DC.b true]
theorem eq_laws_FnExactRootOf (a : List DC) : r_laws_FnExactRootOf a = E_laws_FnExactRootOf a := (Run_eq cfg 4 h_laws_FnExactRootOf a).trans (by kernel_rfl)
/-- loop.example/g00964/laws.FnExactTypeAt -/
noncomputable def E_laws_FnExactTypeAt (a : List DC) : Out :=
    if (decide ((((a.getD 3 d0).ss).length : Int) > (1048576 : Int))) = true then
      .ret [DC.b true]
    else
      (r_laws_szSchema [DC.sl ((a.getD 0 d0).ll), DC.sl ((a.getD 1 d0).ll), DC.sl ((a.getD 2 d0).ll), DC.i (1048576 : Int)]).bindR fun r1 =>
      if (decide ((r1.getD 0 d0).ii < (0 : Int))) = true then
        .ret [DC.b true]
      else
        (r_laws_toSchema [DC.sl ((a.getD 0 d0).ll), DC.sl ((a.getD 1 d0).ll), DC.sl ((a.getD 2 d0).ll)]).bindR fun r2 =>
        (r_spec_TypeAt [DC.sl ((r2.getD 0 d0).ll), DC.sl ((r2.getD 1 d0).ll), DC.sl ((r2.getD 2 d0).ll), DC.s ((a.getD 3 d0).ss)]).bindR fun r3 =>
        (r_laws_toSchema [DC.sl ((a.getD 0 d0).ll), DC.sl ((a.getD 1 d0).ll), DC.sl ((a.getD 2 d0).ll)]).bindR fun r4 =>
        (r_impl_TypeAt [DC.sl ((r4.getD 0 d0).ll), DC.sl ((r4.getD 1 d0).ll), DC.sl ((r4.getD 2 d0).ll), DC.s ((a.getD 3 d0).ss)]).bindR fun r5 =>
        if ((r5.getD 0 d0).ii != (r3.getD 0 d0).ii) = true then
          .ret [DC.b false]
        else
          (r_laws_toSchema [DC.sl ((a.getD 0 d0).ll), DC.sl ((a.getD 1 d0).ll), DC.sl ((a.getD 2 d0).ll)]).bindR fun r6 =>
          (r_laws_eqSchema [DC.sl ((r4.getD 0 d0).ll), DC.sl ((r4.getD 1 d0).ll), DC.sl ((r4.getD 2 d0).ll), DC.sl ((r6.getD 0 d0).ll), DC.sl ((r6.getD 1 d0).ll), DC.sl ((r6.getD 2 d0).ll)]).bindR fun r7 =>
          if (!((r7.getD 0 d0).bb)) = true then
            .ret [DC.b false]
          else
            .ret [DC.b true]
theorem eq_laws_FnExactTypeAt (a : List DC) : r_laws_FnExactTypeAt a = E_laws_FnExactTypeAt a := (Run_eq cfg 5 h_laws_FnExactTypeAt a).trans (by kernel_rfl)
/-- loop.example/g00964/laws.FnExactKindOf -/
noncomputable def E_laws_FnExactKindOf (a : List DC) : Out :=
    if (decide ((((a.getD 3 d0).ss).length : Int) > (1048576 : Int))) = true then
      .ret [DC.b true]
    else
      (r_laws_szSchema [DC.sl ((a.getD 0 d0).ll), DC.sl ((a.getD 1 d0).ll), DC.sl ((a.getD 2 d0).ll), DC.i (1048576 : Int)]).bindR fun r1 =>
      if (decide ((r1.getD 0 d0).ii < (0 : Int))) = true then
        .ret [DC.b true]
      else
        (r_laws_toSchema [DC.sl ((a.getD 0 d0).ll), DC.sl ((a.getD 1 d0).ll), DC.sl ((a.getD 2 d0).ll)]).bindR fun r2 =>
        (r_spec_KindOf [DC.sl ((r2.getD 0 d0).ll), DC.sl ((r2.getD 1 d0).ll), DC.sl ((r2.getD 2 d0).ll), DC.s ((a.getD 3 d0).ss)]).bindR fun r3 =>
        (r_laws_toSchema [DC.sl ((a.getD 0 d0).ll), DC.sl ((a.getD 1 d0).ll), DC.sl ((a.getD 2 d0).ll)]).bindR fun r4 =>
        (r_impl_KindOf [DC.sl ((r4.getD 0 d0).ll), DC.sl ((r4.getD 1 d0).ll), DC.sl ((r4.getD 2 d0).ll), DC.s ((a.getD 3 d0).ss)]).bindR fun r5 =>
        if ((r5.getD 0 d0).ii != (r3.getD 0 d0).ii) = true then
          .ret [DC.b false]
        else
          (r_laws_toSchema [DC.sl ((a.getD 0 d0).ll), DC.sl ((a.getD 1 d0).ll), DC.sl ((a.getD 2 d0).ll)]).bindR fun r6 =>
          (r_laws_eqSchema [DC.sl ((r4.getD 0 d0).ll), DC.sl ((r4.getD 1 d0).ll), DC.sl ((r4.getD 2 d0).ll), DC.sl ((r6.getD 0 d0).ll), DC.sl ((r6.getD 1 d0).ll), DC.sl ((r6.getD 2 d0).ll)]).bindR fun r7 =>
          if (!((r7.getD 0 d0).bb)) = true then
            .ret [DC.b false]
          else
            .ret [DC.b true]
theorem eq_laws_FnExactKindOf (a : List DC) : r_laws_FnExactKindOf a = E_laws_FnExactKindOf a := (Run_eq cfg 6 h_laws_FnExactKindOf a).trans (by kernel_rfl)
/-- loop.example/g00964/laws.FnExactIsComposite -/
noncomputable def E_laws_FnExactIsComposite (a : List DC) : Out :=
    if (decide ((((a.getD 3 d0).ss).length : Int) > (1048576 : Int))) = true then
      .ret [DC.b true]
    else
      (r_laws_szSchema [DC.sl ((a.getD 0 d0).ll), DC.sl ((a.getD 1 d0).ll), DC.sl ((a.getD 2 d0).ll), DC.i (1048576 : Int)]).bindR fun r1 =>
      if (decide ((r1.getD 0 d0).ii < (0 : Int))) = true then
        .ret [DC.b true]
      else
        (r_laws_toSchema [DC.sl ((a.getD 0 d0).ll), DC.sl ((a.getD 1 d0).ll), DC.sl ((a.getD 2 d0).ll)]).bindR fun r2 =>
        (r_spec_IsComposite [DC.sl ((r2.getD 0 d0).ll), DC.sl ((r2.getD 1 d0).ll), DC.sl ((r2.getD 2 d0).ll), DC.s ((a.getD 3 d0).ss)]).bindR fun r3 =>
        (r_laws_toSchema [DC.sl ((a.getD 0 d0).ll), DC.sl ((a.getD 1 d0).ll), DC.sl ((a.getD 2 d0).ll)]).bindR fun r4 =>
        (r_impl_IsComposite [DC.sl ((r4.getD 0 d0).ll), DC.sl ((r4.getD 1 d0).ll), DC.sl ((r4.getD 2 d0).ll), DC.s ((a.getD 3 d0).ss)]).bindR fun r5 =>
        if (!((r5.getD 0 d0).bb == (r3.getD 0 d0).bb)) = true then
          .ret [DC.b false]
        else
          (r_laws_toSchema [DC.sl ((a.getD 0 d0).ll), DC.sl ((a.getD 1 d0).ll), DC.sl ((a.getD 2 d0).ll)]).bindR fun r6 =>
          (r_laws_eqSchema [DC.sl ((r4.getD 0 d0).ll), DC.sl ((r4.getD 1 d0).ll), DC.sl ((r4.getD 2 d0).ll), DC.sl ((r6.getD 0 d0).ll), DC.sl ((r6.getD 1 d0).ll), DC.sl ((r6.getD 2 d0).ll)]).bindR fun r7 =>
          if (!((r7.getD 0 d0).bb)) = true then
            .ret [DC.b false]
          else
            .ret [DC.b true]
theorem eq_laws_FnExactIsComposite (a : List DC) : r_laws_FnExactIsComposite a = E_laws_FnExactIsComposite a := (Run_eq cfg 7 h_laws_FnExactIsComposite a).trans (by kernel_rfl)
/-- loop.example/g00964/laws.FnExactIsInput -/
noncomputable def E_laws_FnExactIsInput (a : List DC) : Out :=
    if (decide ((((a.getD 3 d0).ss).length : Int) > (1048576 : Int))) = true then
      .ret [DC.b true]
    else
      (r_laws_szSchema [DC.sl ((a.getD 0 d0).ll), DC.sl ((a.getD 1 d0).ll), DC.sl ((a.getD 2 d0).ll), DC.i (1048576 : Int)]).bindR fun r1 =>
      if (decide ((r1.getD 0 d0).ii < (0 : Int))) = true then
        .ret [DC.b true]
      else
        (r_laws_toSchema [DC.sl ((a.getD 0 d0).ll), DC.sl ((a.getD 1 d0).ll), DC.sl ((a.getD 2 d0).ll)]).bindR fun r2 =>
        (r_spec_IsInput [DC.sl ((r2.getD 0 d0).ll), DC.sl ((r2.getD 1 d0).ll), DC.sl ((r2.getD 2 d0).ll), DC.s ((a.getD 3 d0).ss)]).bindR fun r3 =>
        (r_laws_toSchema [DC.sl ((a.getD 0 d0).ll), DC.sl ((a.getD 1 d0).ll), DC.sl ((a.getD 2 d0).ll)]).bindR fun r4 =>
        (r_impl_IsInput [DC.sl ((r4.getD 0 d0).ll), DC.sl ((r4.getD 1 d0).ll), DC.sl ((r4.getD 2 d0).ll), DC.s ((a.getD 3 d0).ss)]).bindR fun r5 =>
        if (!((r5.getD 0 d0).bb == (r3.getD 0 d0).bb)) = true then
          .ret [DC.b false]
        else
          (r_laws_toSchema [DC.sl ((a.getD 0 d0).ll), DC.sl ((a.getD 1 d0).ll), DC.sl ((a.getD 2 d0).ll)]).bindR fun r6 =>
          (r_laws_eqSchema [DC.sl ((r4.getD 0 d0).ll), DC.sl ((r4.getD 1 d0).ll), DC.sl ((r4.getD 2 d0).ll), DC.sl ((r6.getD 0 d0).ll), DC.sl ((r6.getD 1 d0).ll), DC.sl ((r6.getD 2 d0).ll)]).bindR fun r7 =>
          if (!((r7.getD 0 d0).bb)) = true then
            .ret [DC.b false]
          else
            .ret [DC.b true]
theorem eq_laws_FnExactIsInput (a : List DC) : r_laws_FnExactIsInput a = E_laws_FnExactIsInput a := (Run_eq cfg 8 h_laws_FnExactIsInput a).trans (by kernel_rfl)
/-- loop.example/g00964/laws.FnExactIsLeaf -/
noncomputable def E_laws_FnExactIsLeaf (a : List DC) : Out :=
    if (decide ((((a.getD 3 d0).ss).length : Int) > (1048576 : Int))) = true then
      .ret [DC.b true]
    else
      (r_laws_szSchema [DC.sl ((a.getD 0 d0).ll), DC.sl ((a.getD 1 d0).ll), DC.sl ((a.getD 2 d0).ll), DC.i (1048576 : Int)]).bindR fun r1 =>
      if (decide ((r1.getD 0 d0).ii < (0 : Int))) = true then
        .ret [DC.b true]
      else
        (r_laws_toSchema [DC.sl ((a.getD 0 d0).ll), DC.sl ((a.getD 1 d0).ll), DC.sl ((a.getD 2 d0).ll)]).bindR fun r2 =>
        (r_spec_IsLeaf [DC.sl ((r2.getD 0 d0).ll), DC.sl ((r2.getD 1 d0).ll), DC.sl ((r2.getD 2 d0).ll), DC.s ((a.getD 3 d0).ss)]).bindR fun r3 =>
        (r_laws_toSchema [DC.sl ((a.getD 0 d0).ll), DC.sl ((a.getD 1 d0).ll), DC.sl ((a.getD 2 d0).ll)]).bindR fun r4 =>
        (r_impl_IsLeaf [DC.sl ((r4.getD 0 d0).ll), DC.sl ((r4.getD 1 d0).ll), DC.sl ((r4.getD 2 d0).ll), DC.s ((a.getD 3 d0).ss)]).bindR fun r5 =>
        if (!((r5.getD 0 d0).bb == (r3.getD 0 d0).bb)) = true then
          .ret [DC.b false]
        else
          (r_laws_toSchema [DC.sl ((a.getD 0 d0).ll), DC.sl ((a.getD 1 d0).ll), DC.sl ((a.getD 2 d0).ll)]).bindR fun r6 =>
          (r_laws_eqSchema [DC.sl ((r4.getD 0 d0).ll), DC.sl ((r4.getD 1 d0).ll), DC.sl ((r4.getD 2 d0).ll), DC.sl ((r6.getD 0 d0).ll), DC.sl ((r6.getD 1 d0).ll), DC.sl ((r6.getD 2 d0).ll)]).bindR fun r7 =>
          if (!((r7.getD 0 d0).bb)) = true then
            .ret [DC.b false]
          else
            .ret [DC.b true]
theorem eq_laws_FnExactIsLeaf (a : List DC) : r_laws_FnExactIsLeaf a = E_laws_FnExactIsLeaf a := (Run_eq cfg 9 h_laws_FnExactIsLeaf a).trans (by kernel_rfl)
/-- loop.example/g00964/laws.FnExactIsOutput -/
noncomputable def E_laws_FnExactIsOutput (a : List DC) : Out :=
    if (decide ((((a.getD 3 d0).ss).length : Int) > (1048576 : Int))) = true then
      .ret [DC.b true]
    else
      (r_laws_szSchema [DC.sl ((a.getD 0 d0).ll), DC.sl ((a.getD 1 d0).ll), DC.sl ((a.getD 2 d0).ll), DC.i (1048576 : Int)]).bindR fun r1 =>
      if (decide ((r1.getD 0 d0).ii < (0 : Int))) = true then
        .ret [DC.b true]
      else
        (r_laws_toSchema [DC.sl ((a.getD 0 d0).ll), DC.sl ((a.getD 1 d0).ll), DC.sl ((a.getD 2 d0).ll)]).bindR fun r2 =>
        (r_spec_IsOutput [DC.sl ((r2.getD 0 d0).ll), DC.sl ((r2.getD 1 d0).ll), DC.sl ((r2.getD 2 d0).ll), DC.s ((a.getD 3 d0).ss)]).bindR fun r3 =>
        (r_laws_toSchema [DC.sl ((a.getD 0 d0).ll), DC.sl ((a.getD 1 d0).ll), DC.sl ((a.getD 2 d0).ll)]).bindR fun r4 =>
        (r_impl_IsOutput [DC.sl ((r4.getD 0 d0).ll), DC.sl ((r4.getD 1 d0).ll), DC.sl ((r4.getD 2 d0).ll), DC.s ((a.getD 3 d0).ss)]).bindR fun r5 =>
        if (!((r5.getD 0 d0).bb == (r3.getD 0 d0).bb)) = true then
          .ret [DC.b false]
        else
          (r_laws_toSchema [DC.sl ((a.getD 0 d0).ll), DC.sl ((a.getD 1 d0).ll), DC.sl ((a.getD 2 d0).ll)]).bindR fun r6 =>
          (r_laws_eqSchema [DC.sl ((r4.getD 0 d0).ll), DC.sl ((r4.getD 1 d0).ll), DC.sl ((r4.getD 2 d0).ll), DC.sl ((r6.getD 0 d0).ll), DC.sl ((r6.getD 1 d0).ll), DC.sl ((r6.getD 2 d0).ll)]).bindR fun r7 =>
          if (!((r7.getD 0 d0).bb)) = true then
            .ret [DC.b false]
          else
            .ret [DC.b true]
theorem eq_laws_FnExactIsOutput (a : List DC) : r_laws_FnExactIsOutput a = E_laws_FnExactIsOutput a := (Run_eq cfg 10 h_laws_FnExactIsOutput a).trans (by kernel_rfl)
/-- loop.example/g00964/laws.FnExactInCycle -/
noncomputable def E_laws_FnExactInCycle (a : List DC) : Out :=
    if (decide ((((a.getD 3 d0).ss).length : Int) > (1048576 : Int))) = true then
      .ret [DC.b true]
    else
      (r_laws_szSchema [DC.sl ((a.getD 0 d0).ll), DC.sl ((a.getD 1 d0).ll), DC.sl ((a.getD 2 d0).ll), DC.i (1048576 : Int)]).bindR fun r1 =>
      if (decide ((r1.getD 0 d0).ii < (0 : Int))) = true then
        .ret [DC.b true]
      else
        (r_laws_toSchema [DC.sl ((a.getD 0 d0).ll), DC.sl ((a.getD 1 d0).ll), DC.sl ((a.getD 2 d0).ll)]).bindR fun r2 =>
        (r_spec_InCycle [DC.sl ((r2.getD 0 d0).ll), DC.sl ((r2.getD 1 d0).ll), DC.sl ((r2.getD 2 d0).ll), DC.s ((a.getD 3 d0).ss)]).bindR fun r3 =>
        (r_laws_toSchema [DC.sl ((a.getD 0 d0).ll), DC.sl ((a.getD 1 d0).ll), DC.sl ((a.getD 2 d0).ll)]).bindR fun r4 =>
        (r_impl_InCycle [DC.sl ((r4.getD 0 d0).ll), DC.sl ((r4.getD 1 d0).ll), DC.sl ((r4.getD 2 d0).ll), DC.s ((a.getD 3 d0).ss)]).bindR fun r5 =>
        if (!((r5.getD 0 d0).bb == (r3.getD 0 d0).bb)) = true then
          .ret [DC.b false]
        else
          (r_laws_toSchema [DC.sl ((a.getD 0 d0).ll), DC.sl ((a.getD 1 d0).ll), DC.sl ((a.getD 2 d0).ll)]).bindR fun r6 =>
          (r_laws_eqSchema [DC.sl ((r4.getD 0 d0).ll), DC.sl ((r4.getD 1 d0).ll), DC.sl ((r4.getD 2 d0).ll), DC.sl ((r6.getD 0 d0).ll), DC.sl ((r6.getD 1 d0).ll), DC.sl ((r6.getD 2 d0).ll)]).bindR fun r7 =>
          if (!((r7.getD 0 d0).bb)) = true then
            .ret [DC.b false]
          else
            .ret [DC.b true]
theorem eq_laws_FnExactInCycle (a : List DC) : r_laws_FnExactInCycle a = E_laws_FnExactInCycle a := (Run_eq cfg 11 h_laws_FnExactInCycle a).trans (by kernel_rfl)
/-- loop.example/g00964/laws.FnExactSubType -/
noncomputable def E_laws_FnExactSubType (a : List DC) : Out :=
    (r_laws_szSchema [DC.sl ((a.getD 0 d0).ll), DC.sl ((a.getD 1 d0).ll), DC.sl ((a.getD 2 d0).ll), DC.i (1048576 : Int)]).bindR fun r1 =>
    if (decide ((r1.getD 0 d0).ii < (0 : Int))) = true then
      .ret [DC.b true]
    else
      (r_laws_szType [DC.s ((a.getD 3 d0).ss), DC.s ((a.getD 4 d0).ss), DC.i ((r1.getD 0 d0).ii)]).bindR fun r2 =>
      if (decide ((r2.getD 0 d0).ii < (0 : Int))) = true then
        .ret [DC.b true]
      else
        (r_laws_szType [DC.s ((a.getD 5 d0).ss), DC.s ((a.getD 6 d0).ss), DC.i ((r2.getD 0 d0).ii)]).bindR fun r3 =>
        if (decide ((r3.getD 0 d0).ii < (0 : Int))) = true then
          .ret [DC.b true]
        else
          (r_laws_toSchema [DC.sl ((a.getD 0 d0).ll), DC.sl ((a.getD 1 d0).ll), DC.sl ((a.getD 2 d0).ll)]).bindR fun r4 =>
          (r_laws_toType [DC.s ((a.getD 3 d0).ss), DC.s ((a.getD 4 d0).ss)]).bindR fun r5 =>
          (r_laws_toType [DC.s ((a.getD 5 d0).ss), DC.s ((a.getD 6 d0).ss)]).bindR fun r6 =>
          (r_spec_SubType [DC.sl ((r4.getD 0 d0).ll), DC.sl ((r4.getD 1 d0).ll), DC.sl ((r4.getD 2 d0).ll), DC.s ((r5.getD 0 d0).ss), DC.s ((r5.getD 1 d0).ss), DC.s ((r6.getD 0 d0).ss), DC.s ((r6.getD 1 d0).ss)]).bindR fun r7 =>
          (r_laws_toSchema [DC.sl ((a.getD 0 d0).ll), DC.sl ((a.getD 1 d0).ll), DC.sl ((a.getD 2 d0).ll)]).bindR fun r8 =>
          (r_laws_toType [DC.s ((a.getD 3 d0).ss), DC.s ((a.getD 4 d0).ss)]).bindR fun r9 =>
          (r_laws_toType [DC.s ((a.getD 5 d0).ss), DC.s ((a.getD 6 d0).ss)]).bindR fun r10 =>
          (r_impl_SubType [DC.sl ((r8.getD 0 d0).ll), DC.sl ((r8.getD 1 d0).ll), DC.sl ((r8.getD 2 d0).ll), DC.s ((r9.getD 0 d0).ss), DC.s ((r9.getD 1 d0).ss), DC.s ((r10.getD 0 d0).ss), DC.s ((r10.getD 1 d0).ss)]).bindR fun r11 =>
          if (!((r11.getD 0 d0).bb == (r7.getD 0 d0).bb)) = true then
            .ret [DC.b false]
          else
            (r_laws_toSchema [DC.sl ((a.getD 0 d0).ll), DC.sl ((a.getD 1 d0).ll), DC.sl ((a.getD 2 d0).ll)]).bindR fun r12 =>
            (r_laws_eqSchema [DC.sl ((r8.getD 0 d0).ll), DC.sl ((r8.getD 1 d0).ll), DC.sl ((r8.getD 2 d0).ll), DC.sl ((r12.getD 0 d0).ll), DC.sl ((r12.getD 1 d0).ll), DC.sl ((r12.getD 2 d0).ll)]).bindR fun r13 =>
            if (!((r13.getD 0 d0).bb)) = true then
              .ret [DC.b false]
            else
              .ret [DC.b true]
theorem eq_laws_FnExactSubType (a : List DC) : r_laws_FnExactSubType a = E_laws_FnExactSubType a := (Run_eq cfg 12 h_laws_FnExactSubType a).trans (by kernel_rfl)
/-- loop.example/g00964/laws.FnExactSameSchema -/
noncomputable def E_laws_FnExactSameSchema (a : List DC) : Out :=
    (r_laws_szSchema [DC.sl ((a.getD 0 d0).ll), DC.sl ((a.getD 1 d0).ll), DC.sl ((a.getD 2 d0).ll), DC.i (1048576 : Int)]).bindR fun r1 =>
    if (decide ((r1.getD 0 d0).ii < (0 : Int))) = true then
      .ret [DC.b true]
    else
      (r_laws_szSchema [DC.sl ((a.getD 3 d0).ll), DC.sl ((a.getD 4 d0).ll), DC.sl ((a.getD 5 d0).ll), DC.i ((r1.getD 0 d0).ii)]).bindR fun r2 =>
      if (decide ((r2.getD 0 d0).ii < (0 : Int))) = true then
        .ret [DC.b true]
      else
        (r_laws_toSchema [DC.sl ((a.getD 0 d0).ll), DC.sl ((a.getD 1 d0).ll), DC.sl ((a.getD 2 d0).ll)]).bindR fun r3 =>
        (r_laws_toSchema [DC.sl ((a.getD 3 d0).ll), DC.sl ((a.getD 4 d0).ll), DC.sl ((a.getD 5 d0).ll)]).bindR fun r4 =>
        (r_spec_SameSchema [DC.sl ((r3.getD 0 d0).ll), DC.sl ((r3.getD 1 d0).ll), DC.sl ((r3.getD 2 d0).ll), DC.sl ((r4.getD 0 d0).ll), DC.sl ((r4.getD 1 d0).ll), DC.sl ((r4.getD 2 d0).ll)]).bindR fun r5 =>
        (r_laws_toSchema [DC.sl ((a.getD 0 d0).ll), DC.sl ((a.getD 1 d0).ll), DC.sl ((a.getD 2 d0).ll)]).bindR fun r6 =>
        (r_laws_toSchema [DC.sl ((a.getD 3 d0).ll), DC.sl ((a.getD 4 d0).ll), DC.sl ((a.getD 5 d0).ll)]).bindR fun r7 =>
        (r_impl_SameSchema [DC.sl ((r6.getD 0 d0).ll), DC.sl ((r6.getD 1 d0).ll), DC.sl ((r6.getD 2 d0).ll), DC.sl ((r7.getD 0 d0).ll), DC.sl ((r7.getD 1 d0).ll), DC.sl ((r7.getD 2 d0).ll)]).bindR fun r8 =>
        if (!((r8.getD 0 d0).bb == (r5.getD 0 d0).bb)) = true then
          .ret [DC.b false]
        else
          (r_laws_toSchema [DC.sl ((a.getD 0 d0).ll), DC.sl ((a.getD 1 d0).ll), DC.sl ((a.getD 2 d0).ll)]).bindR fun r9 =>
          (r_laws_eqSchema [DC.sl ((r6.getD 0 d0).ll), DC.sl ((r6.getD 1 d0).ll), DC.sl ((r6.getD 2 d0).ll), DC.sl ((r9.getD 0 d0).ll), DC.sl ((r9.getD 1 d0).ll), DC.sl ((r9.getD 2 d0).ll)]).bindR fun r10 =>
          if (!((r10.getD 0 d0).bb)) = true then
            .ret [DC.b false]
          else
            (r_laws_toSchema [DC.sl ((a.getD 3 d0).ll), DC.sl ((a.getD 4 d0).ll), DC.sl ((a.getD 5 d0).ll)]).bindR fun r11 =>
            (r_laws_eqSchema [DC.sl ((r7.getD 0 d0).ll), DC.sl ((r7.getD 1 d0).ll), DC.sl ((r7.getD 2 d0).ll), DC.sl ((r11.getD 0 d0).ll), DC.sl ((r11.getD 1 d0).ll), DC.sl ((r11.getD 2 d0).ll)]).bindR fun r12 =>
            if (!((r12.getD 0 d0).bb)) = true then
              .ret [DC.b false]
            else
              .ret [DC.b true]
theorem eq_laws_FnExactSameSchema (a : List DC) : r_laws_FnExactSameSchema a = E_laws_FnExactSameSchema a := (Run_eq cfg 13 h_laws_FnExactSameSchema a).trans (by kernel_rfl)
noncomputable def E_laws_szInDefSL1 : List DC → Out := fun v1 =>
    if (decide ((v1.getD 2 d0).ii < (((v1.getD 0 d0).ll).length : Int))) = true then
      Out.andThenB (if 62 = 62 ∧ 0 ≤ (v1.getD 2 d0).ii ∧ (v1.getD 2 d0).ii < (((v1.getD 0 d0).ll).length : Int) then
          (r_laws_szInDef [DC.s (((((v1.getD 0 d0).ll).getD ((v1.getD 2 d0).ii).toNat []).getD 0 d0).ss), DC.s (((((v1.getD 0 d0).ll).getD ((v1.getD 2 d0).ii).toNat []).getD 1 d0).ss), DC.s (((((v1.getD 0 d0).ll).getD ((v1.getD 2 d0).ii).toNat []).getD 2 d0).ss), DC.s (((((v1.getD 0 d0).ll).getD ((v1.getD 2 d0).ii).toNat []).getD 3 d0).ss), DC.b (((((v1.getD 0 d0).ll).getD ((v1.getD 2 d0).ii).toNat []).getD 4 d0).bb), DC.i (((((v1.getD 0 d0).ll).getD ((v1.getD 2 d0).ii).toNat []).getD 5 d0).ii), DC.s (((((v1.getD 0 d0).ll).getD ((v1.getD 2 d0).ii).toNat []).getD 6 d0).ss), DC.sl (((((v1.getD 0 d0).ll).getD ((v1.getD 2 d0).ii).toNat []).getD 7 d0).ll), DC.sl (((((v1.getD 0 d0).ll).getD ((v1.getD 2 d0).ii).toNat []).getD 8 d0).ll), DC.sl (((((v1.getD 0 d0).ll).getD ((v1.getD 2 d0).ii).toNat []).getD 9 d0).ll), DC.i ((v1.getD 1 d0).ii)]).bindR fun r2 =>
          if (decide ((r2.getD 0 d0).ii < (0 : Int))) = true then
            .ret [DC.i (-1 : Int)]
          else
            .norm [DC.sl ((v1.getD 0 d0).ll), DC.i ((r2.getD 0 d0).ii), DC.i ((v1.getD 2 d0).ii)]
        else
          .fail) 1 fun v3 =>
      .norm [DC.sl ((v3.getD 0 d0).ll), DC.i ((v3.getD 1 d0).ii), DC.i (IntKind.i64.wrap ((v3.getD 2 d0).ii + (1 : Int)))]
    else
      .ex 0 [DC.i ((v1.getD 1 d0).ii)]
/-- loop.example/g00964/laws.szInDefS -/
noncomputable def E_laws_szInDefS (a : List DC) : Out :=
    if (decide ((IntKind.i64.wrap ((a.getD 1 d0).ii - (((a.getD 0 d0).ll).length : Int))) < (0 : Int))) = true then
      .ret [DC.i (-1 : Int)]
    else
      Out.andThenB (Loop E_laws_szInDefSL1 [DC.sl ((a.getD 0 d0).ll), DC.i (IntKind.i64.wrap ((a.getD 1 d0).ii - (((a.getD 0 d0).ll).length : Int))), DC.i (0 : Int)]) 0 fun v4 =>
      .ret [DC.i ((v4.getD 0 d0).ii)]
theorem eq_laws_szInDefS (a : List DC) : r_laws_szInDefS a = E_laws_szInDefS a := (Run_eq cfg 15 h_laws_szInDefS a).trans (by kernel_rfl)
noncomputable def E_laws_toInDefSL1 : List DC → Out := fun v1 =>
    if (decide ((v1.getD 2 d0).ii < (((v1.getD 0 d0).ll).length : Int))) = true then
      Out.andThenB (if 62 = 62 ∧ 0 ≤ (v1.getD 2 d0).ii ∧ (v1.getD 2 d0).ii < (((v1.getD 0 d0).ll).length : Int) then
          (r_laws_toInDef [DC.s (((((v1.getD 0 d0).ll).getD ((v1.getD 2 d0).ii).toNat []).getD 0 d0).ss), DC.s (((((v1.getD 0 d0).ll).getD ((v1.getD 2 d0).ii).toNat []).getD 1 d0).ss), DC.s (((((v1.getD 0 d0).ll).getD ((v1.getD 2 d0).ii).toNat []).getD 2 d0).ss), DC.s (((((v1.getD 0 d0).ll).getD ((v1.getD 2 d0).ii).toNat []).getD 3 d0).ss), DC.b (((((v1.getD 0 d0).ll).getD ((v1.getD 2 d0).ii).toNat []).getD 4 d0).bb), DC.i (((((v1.getD 0 d0).ll).getD ((v1.getD 2 d0).ii).toNat []).getD 5 d0).ii), DC.s (((((v1.getD 0 d0).ll).getD ((v1.getD 2 d0).ii).toNat []).getD 6 d0).ss), DC.sl (((((v1.getD 0 d0).ll).getD ((v1.getD 2 d0).ii).toNat []).getD 7 d0).ll), DC.sl (((((v1.getD 0 d0).ll).getD ((v1.getD 2 d0).ii).toNat []).getD 8 d0).ll), DC.sl (((((v1.getD 0 d0).ll).getD ((v1.getD 2 d0).ii).toNat []).getD 9 d0).ll)]).bindR fun r2 =>
          if 68 = 68 ∧ 0 ≤ (v1.getD 2 d0).ii ∧ (v1.getD 2 d0).ii < (((v1.getD 1 d0).ll).length : Int) then
            .norm [DC.sl ((v1.getD 0 d0).ll), DC.sl (((v1.getD 1 d0).ll).set (((v1.getD 2 d0).ii).toNat) (setRunD (((v1.getD 1 d0).ll).getD (((v1.getD 2 d0).ii).toNat) []) 0 [DC.s ((r2.getD 0 d0).ss), DC.s ((r2.getD 1 d0).ss), DC.s ((r2.getD 2 d0).ss), DC.s ((r2.getD 3 d0).ss), DC.b ((r2.getD 4 d0).bb), DC.i ((r2.getD 5 d0).ii), DC.s ((r2.getD 6 d0).ss), DC.sl ((r2.getD 7 d0).ll), DC.sl ((r2.getD 8 d0).ll), DC.sl ((r2.getD 9 d0).ll)])), DC.i ((v1.getD 2 d0).ii)]
          else
            .fail
        else
          .fail) 1 fun v3 =>
      .norm [DC.sl ((v3.getD 0 d0).ll), DC.sl ((v3.getD 1 d0).ll), DC.i (IntKind.i64.wrap ((v3.getD 2 d0).ii + (1 : Int)))]
    else
      .ex 0 [DC.sl ((v1.getD 1 d0).ll)]
/-- loop.example/g00964/laws.toInDefS -/
noncomputable def E_laws_toInDefS (a : List DC) : Out :=
    if 0 ≤ (((a.getD 0 d0).ll).length : Int) ∧ (((a.getD 0 d0).ll).length : Int) < (LIM : Int) ∧ (((a.getD 0 d0).ll).length : Int) = (((a.getD 0 d0).ll).length : Int) ∧ 168 ≤ 1024 ∧ 0 < 10 then
      Out.andThenB (Loop E_laws_toInDefSL1 [DC.sl ((a.getD 0 d0).ll), DC.sl (List.replicate (((a.getD 0 d0).ll).length : Int).toNat [DC.s [], DC.s [], DC.s [], DC.s [], DC.b false, DC.i 0, DC.s [], DC.sl [], DC.sl [], DC.sl []]), DC.i (0 : Int)]) 0 fun v4 =>
      .ret [DC.sl ((v4.getD 0 d0).ll)]
    else
      .fail
theorem eq_laws_toInDefS (a : List DC) : r_laws_toInDefS a = E_laws_toInDefS a := (Run_eq cfg 17 h_laws_toInDefS a).trans (by kernel_rfl)
noncomputable def E_spec_InAtL1 : List DC → Out := fun v1 =>
    if (decide ((v1.getD 2 d0).ii < (((v1.getD 0 d0).ll).length : Int))) = true then
      Out.andThenB (if 68 = 68 ∧ 0 ≤ (v1.getD 2 d0).ii ∧ (v1.getD 2 d0).ii < (((v1.getD 0 d0).ll).length : Int) then
          if (((((v1.getD 0 d0).ll).getD ((v1.getD 2 d0).ii).toNat []).getD 0 d0).ss == (v1.getD 1 d0).ss) = true then
            .ret [DC.i ((v1.getD 2 d0).ii)]
          else
            .norm [DC.sl ((v1.getD 0 d0).ll), DC.s ((v1.getD 1 d0).ss), DC.i ((v1.getD 2 d0).ii)]
        else
          .fail) 1 fun v2 =>
      .norm [DC.sl ((v2.getD 0 d0).ll), DC.s ((v2.getD 1 d0).ss), DC.i (IntKind.i64.wrap ((v2.getD 2 d0).ii + (1 : Int)))]
    else
      .ex 0 []
/-- loop.example/g00964/spec.InAt -/
noncomputable def E_spec_InAt (a : List DC) : Out :=
    Out.andThenB (Loop E_spec_InAtL1 [DC.sl ((a.getD 0 d0).ll), DC.s ((a.getD 1 d0).ss), DC.i (0 : Int)]) 0 fun v3 =>
    .ret [DC.i (-1 : Int)]
theorem eq_spec_InAt (a : List DC) : r_spec_InAt a = E_spec_InAt a := (Run_eq cfg 16 h_spec_InAt a).trans (by kernel_rfl)
/-- loop.example/g00964/impl.InAt -/
noncomputable def E_impl_InAt (a : List DC) : Out :=
    (r_slices_IndexFunc_impl_InDef__impl_InAt_1 [DC.sl ((a.getD 0 d0).ll), DC.s ((a.getD 1 d0).ss)]).bindR fun r1 =>
    .ret [DC.i ((r1.getD 0 d0).ii)]
theorem eq_impl_InAt (a : List DC) : r_impl_InAt a = E_impl_InAt a := (Run_eq cfg 18 h_impl_InAt a).trans (by kernel_rfl)
noncomputable def E_laws_eqInDefSL1 : List DC → Out := fun v1 =>
    if (decide ((v1.getD 2 d0).ii < (((v1.getD 0 d0).ll).length : Int))) = true then
      Out.andThenB (if 68 = 68 ∧ 0 ≤ (v1.getD 2 d0).ii ∧ (v1.getD 2 d0).ii < (((v1.getD 0 d0).ll).length : Int) then
          if 68 = 68 ∧ 0 ≤ (v1.getD 2 d0).ii ∧ (v1.getD 2 d0).ii < (((v1.getD 1 d0).ll).length : Int) then
            (r_laws_eqInDef [DC.s (((((v1.getD 0 d0).ll).getD ((v1.getD 2 d0).ii).toNat []).getD 0 d0).ss), DC.s (((((v1.getD 0 d0).ll).getD ((v1.getD 2 d0).ii).toNat []).getD 1 d0).ss), DC.s (((((v1.getD 0 d0).ll).getD ((v1.getD 2 d0).ii).toNat []).getD 2 d0).ss), DC.s (((((v1.getD 0 d0).ll).getD ((v1.getD 2 d0).ii).toNat []).getD 3 d0).ss), DC.b (((((v1.getD 0 d0).ll).getD ((v1.getD 2 d0).ii).toNat []).getD 4 d0).bb), DC.i (((((v1.getD 0 d0).ll).getD ((v1.getD 2 d0).ii).toNat []).getD 5 d0).ii), DC.s (((((v1.getD 0 d0).ll).getD ((v1.getD 2 d0).ii).toNat []).getD 6 d0).ss), DC.sl (((((v1.getD 0 d0).ll).getD ((v1.getD 2 d0).ii).toNat []).getD 7 d0).ll), DC.sl (((((v1.getD 0 d0).ll).getD ((v1.getD 2 d0).ii).toNat []).getD 8 d0).ll), DC.sl (((((v1.getD 0 d0).ll).getD ((v1.getD 2 d0).ii).toNat []).getD 9 d0).ll), DC.s (((((v1.getD 1 d0).ll).getD ((v1.getD 2 d0).ii).toNat []).getD 0 d0).ss), DC.s (((((v1.getD 1 d0).ll).getD ((v1.getD 2 d0).ii).toNat []).getD 1 d0).ss), DC.s (((((v1.getD 1 d0).ll).getD ((v1.getD 2 d0).ii).toNat []).getD 2 d0).ss), DC.s (((((v1.getD 1 d0).ll).getD ((v1.getD 2 d0).ii).toNat []).getD 3 d0).ss), DC.b (((((v1.getD 1 d0).ll).getD ((v1.getD 2 d0).ii).toNat []).getD 4 d0).bb), DC.i (((((v1.getD 1 d0).ll).getD ((v1.getD 2 d0).ii).toNat []).getD 5 d0).ii), DC.s (((((v1.getD 1 d0).ll).getD ((v1.getD 2 d0).ii).toNat []).getD 6 d0).ss), DC.sl (((((v1.getD 1 d0).ll).getD ((v1.getD 2 d0).ii).toNat []).getD 7 d0).ll), DC.sl (((((v1.getD 1 d0).ll).getD ((v1.getD 2 d0).ii).toNat []).getD 8 d0).ll), DC.sl (((((v1.getD 1 d0).ll).getD ((v1.getD 2 d0).ii).toNat []).getD 9 d0).ll)]).bindR fun r2 =>
            if (!((r2.getD 0 d0).bb)) = true then
              .ret [DC.b false]
            else
              .norm [DC.sl ((v1.getD 0 d0).ll), DC.sl ((v1.getD 1 d0).ll), DC.i ((v1.getD 2 d0).ii)]
          else
            .fail
        else
          .fail) 1 fun v3 =>
      .norm [DC.sl ((v3.getD 0 d0).ll), DC.sl ((v3.getD 1 d0).ll), DC.i (IntKind.i64.wrap ((v3.getD 2 d0).ii + (1 : Int)))]
    else
      .ex 0 []
/-- loop.example/g00964/laws.eqInDefS -/
noncomputable def E_laws_eqInDefS (a : List DC) : Out :=
    if ((((a.getD 0 d0).ll).length : Int) != (((a.getD 1 d0).ll).length : Int)) = true then
      .ret [DC.b false]
    else
      Out.andThenB (Loop E_laws_eqInDefSL1 [DC.sl ((a.getD 0 d0).ll), DC.sl ((a.getD 1 d0).ll), DC.i (0 : Int)]) 0 fun v4 =>
      .ret [DC.b true]
theorem eq_laws_eqInDefS (a : List DC) : r_laws_eqInDefS a = E_laws_eqInDefS a := (Run_eq cfg 19 h_laws_eqInDefS a).trans (by kernel_rfl)
/-- loop.example/g00964/laws.szSchema -/
noncomputable def E_laws_szSchema (a : List DC) : Out :=
    (r_laws_szDefS [DC.sl ((a.getD 0 d0).ll), DC.i ((a.getD 3 d0).ii)]).bindR fun r1 =>
    if (decide ((r1.getD 0 d0).ii < (0 : Int))) = true then
      .ret [DC.i (-1 : Int)]
    else
      (r_laws_szDefS [DC.sl ((a.getD 1 d0).ll), DC.i ((r1.getD 0 d0).ii)]).bindR fun r2 =>
      if (decide ((r2.getD 0 d0).ii < (0 : Int))) = true then
        .ret [DC.i (-1 : Int)]
      else
        (r_laws_szRootS [DC.sl ((a.getD 2 d0).ll), DC.i ((r2.getD 0 d0).ii)]).bindR fun r3 =>
        if (decide ((r3.getD 0 d0).ii < (0 : Int))) = true then
          .ret [DC.i (-1 : Int)]
        else
          .ret [DC.i ((r3.getD 0 d0).ii)]
theorem eq_laws_szSchema (a : List DC) : r_laws_szSchema a = E_laws_szSchema a := (Run_eq cfg 20 h_laws_szSchema a).trans (by kernel_rfl)
/-- loop.example/g00964/laws.toSchema -/
noncomputable def E_laws_toSchema (a : List DC) : Out :=
    (r_laws_toDefS [DC.sl ((a.getD 0 d0).ll)]).bindR fun r1 =>
    (r_laws_toDefS [DC.sl ((a.getD 1 d0).ll)]).bindR fun r2 =>
    (r_laws_toRootS [DC.sl ((a.getD 2 d0).ll)]).bindR fun r3 =>
    .ret [DC.sl ((r1.getD 0 d0).ll), DC.sl ((r2.getD 0 d0).ll), DC.sl ((r3.getD 0 d0).ll)]
theorem eq_laws_toSchema (a : List DC) : r_laws_toSchema a = E_laws_toSchema a := (Run_eq cfg 22 h_laws_toSchema a).trans (by kernel_rfl)
noncomputable def E_spec_RootOfL1 : List DC → Out := fun v1 =>
    if (decide ((v1.getD 1 d0).ii < (((v1.getD 4 d0).ll).length : Int))) = true then
      Out.andThenB (if 76 = 76 ∧ 0 ≤ (v1.getD 1 d0).ii ∧ (v1.getD 1 d0).ii < (((v1.getD 4 d0).ll).length : Int) then
          if (((((v1.getD 4 d0).ll).getD ((v1.getD 1 d0).ii).toNat []).getD 0 d0).ii == (v1.getD 0 d0).ii) = true then
            if 76 = 76 ∧ 0 ≤ (v1.getD 1 d0).ii ∧ (v1.getD 1 d0).ii < (((v1.getD 4 d0).ll).length : Int) then
              .ret [DC.s (((((v1.getD 4 d0).ll).getD ((v1.getD 1 d0).ii).toNat []).getD 1 d0).ss)]
            else
              .fail
          else
            .norm [DC.i ((v1.getD 0 d0).ii), DC.i ((v1.getD 1 d0).ii), DC.sl ((v1.getD 2 d0).ll), DC.sl ((v1.getD 3 d0).ll), DC.sl ((v1.getD 4 d0).ll)]
        else
          .fail) 1 fun v2 =>
      .norm [DC.i ((v2.getD 0 d0).ii), DC.i (IntKind.i64.wrap ((v2.getD 1 d0).ii + (1 : Int))), DC.sl ((v2.getD 2 d0).ll), DC.sl ((v2.getD 3 d0).ll), DC.sl ((v2.getD 4 d0).ll)]
    else
      .ex 0 []
/-- loop.example/g00964/spec.RootOf -/
noncomputable def E_spec_RootOf (a : List DC) : Out :=
    Out.andThenB (Loop E_spec_RootOfL1 [DC.i ((a.getD 3 d0).ii), DC.i (0 : Int), DC.sl ((a.getD 0 d0).ll), DC.sl ((a.getD 1 d0).ll), DC.sl ((a.getD 2 d0).ll)]) 0 fun v3 =>
    .ret [DC.s ([] : List UInt8)]
theorem eq_spec_RootOf (a : List DC) : r_spec_RootOf a = E_spec_RootOf a := (Run_eq cfg 21 h_spec_RootOf a).trans (by kernel_rfl)
noncomputable def E_impl_RootOfL1 : List DC → Out := fun v1 =>
    if (decide ((v1.getD 3 d0).ii < (v1.getD 2 d0).ii)) = true then
      Out.andThenB (if 76 = 76 ∧ 0 ≤ (v1.getD 3 d0).ii ∧ (v1.getD 3 d0).ii < (((v1.getD 1 d0).ll).length : Int) then
          if (((((v1.getD 1 d0).ll).getD ((v1.getD 3 d0).ii).toNat []).getD 0 d0).ii == (v1.getD 0 d0).ii) = true then
            .ret [DC.s (((((v1.getD 1 d0).ll).getD ((v1.getD 3 d0).ii).toNat []).getD 1 d0).ss)]
          else
            .norm [DC.i ((v1.getD 0 d0).ii), DC.sl ((v1.getD 1 d0).ll), DC.i ((v1.getD 2 d0).ii), DC.i ((v1.getD 3 d0).ii)]
        else
          .fail) 1 fun v2 =>
      .norm [DC.i ((v2.getD 0 d0).ii), DC.sl ((v2.getD 1 d0).ll), DC.i ((v2.getD 2 d0).ii), DC.i (IntKind.i64.wrap ((v2.getD 3 d0).ii + (1 : Int)))]
    else
      .ex 0 []
/-- loop.example/g00964/impl.RootOf -/
noncomputable def E_impl_RootOf (a : List DC) : Out :=
    Out.andThenB (Loop E_impl_RootOfL1 [DC.i ((a.getD 3 d0).ii), DC.sl ((a.getD 2 d0).ll), DC.i (((a.getD 2 d0).ll).length : Int), DC.i (0 : Int)]) 0 fun v3 =>
    .ret [DC.s ([] : List UInt8)]
theorem eq_impl_RootOf (a : List DC) : r_impl_RootOf a = E_impl_RootOf a := (Run_eq cfg 23 h_impl_RootOf a).trans (by kernel_rfl)
/-- loop.example/g00964/laws.eqSchema -/
noncomputable def E_laws_eqSchema (a : List DC) : Out :=
    (r_laws_eqDefS [DC.sl ((a.getD 0 d0).ll), DC.sl ((a.getD 3 d0).ll)]).bindR fun r1 =>
    if (!((r1.getD 0 d0).bb)) = true then
      .ret [DC.b false]
    else
      (r_laws_eqDefS [DC.sl ((a.getD 1 d0).ll), DC.sl ((a.getD 4 d0).ll)]).bindR fun r2 =>
      if (!((r2.getD 0 d0).bb)) = true then
        .ret [DC.b false]
      else
        (r_laws_eqRootS [DC.sl ((a.getD 2 d0).ll), DC.sl ((a.getD 5 d0).ll)]).bindR fun r3 =>
        if (!((r3.getD 0 d0).bb)) = true then
          .ret [DC.b false]
        else
          .ret [DC.b true]
theorem eq_laws_eqSchema (a : List DC) : r_laws_eqSchema a = E_laws_eqSchema a := (Run_eq cfg 24 h_laws_eqSchema a).trans (by kernel_rfl)
noncomputable def E_spec_TypeAtL1 : List DC → Out := fun v1 =>
    Out.andThen (if (decide ((v1.getD 1 d0).ii < (((v1.getD 2 d0).ll).length : Int))) = true then
        .norm [DC.s ((v1.getD 0 d0).ss), DC.i ((v1.getD 1 d0).ii), DC.b (decide ((((v1.getD 2 d0).ll).length : Int) ≤ (60 : Int))), DC.sl ((v1.getD 2 d0).ll), DC.sl ((v1.getD 3 d0).ll), DC.sl ((v1.getD 4 d0).ll)]
      else
        .norm [DC.s ((v1.getD 0 d0).ss), DC.i ((v1.getD 1 d0).ii), DC.b false, DC.sl ((v1.getD 2 d0).ll), DC.sl ((v1.getD 3 d0).ll), DC.sl ((v1.getD 4 d0).ll)]) fun v2 =>
    if (v2.getD 2 d0).bb = true then
      Out.andThenB (if 84 = 84 ∧ 0 ≤ (v2.getD 1 d0).ii ∧ (v2.getD 1 d0).ii < (((v2.getD 3 d0).ll).length : Int) then
          if (((((v2.getD 3 d0).ll).getD ((v2.getD 1 d0).ii).toNat []).getD 3 d0).ss == (v2.getD 0 d0).ss) = true then
            .ret [DC.i ((v2.getD 1 d0).ii)]
          else
            .norm [DC.s ((v2.getD 0 d0).ss), DC.i ((v2.getD 1 d0).ii), DC.sl ((v2.getD 3 d0).ll), DC.sl ((v2.getD 4 d0).ll), DC.sl ((v2.getD 5 d0).ll)]
        else
          .fail) 1 fun v3 =>
      .norm [DC.s ((v3.getD 0 d0).ss), DC.i (IntKind.i64.wrap ((v3.getD 1 d0).ii + (1 : Int))), DC.sl ((v3.getD 2 d0).ll), DC.sl ((v3.getD 3 d0).ll), DC.sl ((v3.getD 4 d0).ll)]
    else
      .ex 0 []
/-- loop.example/g00964/spec.TypeAt -/
noncomputable def E_spec_TypeAt (a : List DC) : Out :=
    Out.andThenB (Loop E_spec_TypeAtL1 [DC.s ((a.getD 3 d0).ss), DC.i (0 : Int), DC.sl ((a.getD 0 d0).ll), DC.sl ((a.getD 1 d0).ll), DC.sl ((a.getD 2 d0).ll)]) 0 fun v4 =>
    .ret [DC.i (-1 : Int)]
theorem eq_spec_TypeAt (a : List DC) : r_spec_TypeAt a = E_spec_TypeAt a := (Run_eq cfg 25 h_spec_TypeAt a).trans (by kernel_rfl)
/-- loop.example/g00964/impl.TypeAt -/
noncomputable def E_impl_TypeAt (a : List DC) : Out :=
    (r_impl_named [DC.sl ((a.getD 0 d0).ll), DC.s ((a.getD 3 d0).ss)]).bindR fun r1 =>
    .ret [DC.i ((r1.getD 0 d0).ii)]
theorem eq_impl_TypeAt (a : List DC) : r_impl_TypeAt a = E_impl_TypeAt a := (Run_eq cfg 26 h_impl_TypeAt a).trans (by kernel_rfl)
/-- loop.example/g00964/spec.KindOf -/
noncomputable def E_spec_KindOf (a : List DC) : Out :=
    (r_spec_TypeAt [DC.sl ((a.getD 0 d0).ll), DC.sl ((a.getD 1 d0).ll), DC.sl ((a.getD 2 d0).ll), DC.s ((a.getD 3 d0).ss)]).bindR fun r1 =>
    if (decide ((r1.getD 0 d0).ii ≥ (0 : Int))) = true then
      if 84 = 84 ∧ 0 ≤ (r1.getD 0 d0).ii ∧ (r1.getD 0 d0).ii < (((a.getD 0 d0).ll).length : Int) then
        .ret [DC.i (((((a.getD 0 d0).ll).getD ((r1.getD 0 d0).ii).toNat []).getD 0 d0).ii)]
      else
        .fail
    else
      (r_spec_BuiltIn [DC.s ((a.getD 3 d0).ss)]).bindR fun r2 =>
      if (r2.getD 0 d0).bb = true then
        .ret [DC.i (1 : Int)]
      else
        .ret [DC.i (0 : Int)]
theorem eq_spec_KindOf (a : List DC) : r_spec_KindOf a = E_spec_KindOf a := (Run_eq cfg 27 h_spec_KindOf a).trans (by kernel_rfl)
/-- loop.example/g00964/impl.KindOf -/
noncomputable def E_impl_KindOf (a : List DC) : Out :=
    (r_impl_typeDef [DC.sl ((a.getD 0 d0).ll), DC.sl ((a.getD 1 d0).ll), DC.sl ((a.getD 2 d0).ll), DC.s ((a.getD 3 d0).ss)]).bindR fun r1 =>
    Out.andThenB (if (r1.getD 11 d0).bb = true then
        .ret [DC.i ((r1.getD 0 d0).ii)]
      else
        (r_impl_BuiltIn [DC.s ((a.getD 3 d0).ss)]).bindR fun r2 =>
        if (r2.getD 0 d0).bb = true then
          .ret [DC.i (1 : Int)]
        else
          .norm []) 0 fun v3 =>
    .ret [DC.i (0 : Int)]
theorem eq_impl_KindOf (a : List DC) : r_impl_KindOf a = E_impl_KindOf a := (Run_eq cfg 28 h_impl_KindOf a).trans (by kernel_rfl)
/-- loop.example/g00964/spec.IsComposite -/
noncomputable def E_spec_IsComposite (a : List DC) : Out :=
    (r_spec_KindOf [DC.sl ((a.getD 0 d0).ll), DC.sl ((a.getD 1 d0).ll), DC.sl ((a.getD 2 d0).ll), DC.s ((a.getD 3 d0).ss)]).bindR fun r1 =>
    Out.andThen (if ((r1.getD 0 d0).ii == (2 : Int)) = true then
        .norm [DC.b true]
      else
        if ((r1.getD 0 d0).ii == (3 : Int)) = true then
          .norm [DC.b true]
        else
          .norm [DC.b ((r1.getD 0 d0).ii == (4 : Int))]) fun v2 =>
    .ret [DC.b ((v2.getD 0 d0).bb)]
theorem eq_spec_IsComposite (a : List DC) : r_spec_IsComposite a = E_spec_IsComposite a := (Run_eq cfg 29 h_spec_IsComposite a).trans (by kernel_rfl)
/-- loop.example/g00964/impl.IsComposite -/
noncomputable def E_impl_IsComposite (a : List DC) : Out :=
    (r_impl_KindOf [DC.sl ((a.getD 0 d0).ll), DC.sl ((a.getD 1 d0).ll), DC.sl ((a.getD 2 d0).ll), DC.s ((a.getD 3 d0).ss)]).bindR fun r1 =>
    Out.andThen (if ((r1.getD 0 d0).ii == (2 : Int)) = true then
        .norm [DC.b true]
      else
        if ((r1.getD 0 d0).ii == (3 : Int)) = true then
          .norm [DC.b true]
        else
          .norm [DC.b ((r1.getD 0 d0).ii == (4 : Int))]) fun v2 =>
    .ret [DC.b ((v2.getD 0 d0).bb)]
theorem eq_impl_IsComposite (a : List DC) : r_impl_IsComposite a = E_impl_IsComposite a := (Run_eq cfg 30 h_impl_IsComposite a).trans (by kernel_rfl)
/-- loop.example/g00964/spec.IsInput -/
noncomputable def E_spec_IsInput (a : List DC) : Out :=
    (r_spec_KindOf [DC.sl ((a.getD 0 d0).ll), DC.sl ((a.getD 1 d0).ll), DC.sl ((a.getD 2 d0).ll), DC.s ((a.getD 3 d0).ss)]).bindR fun r1 =>
    Out.andThen (if ((r1.getD 0 d0).ii == (1 : Int)) = true then
        .norm [DC.b true]
      else
        if ((r1.getD 0 d0).ii == (5 : Int)) = true then
          .norm [DC.b true]
        else
          .norm [DC.b ((r1.getD 0 d0).ii == (6 : Int))]) fun v2 =>
    .ret [DC.b ((v2.getD 0 d0).bb)]
theorem eq_spec_IsInput (a : List DC) : r_spec_IsInput a = E_spec_IsInput a := (Run_eq cfg 31 h_spec_IsInput a).trans (by kernel_rfl)
/-- loop.example/g00964/impl.IsInput -/
noncomputable def E_impl_IsInput (a : List DC) : Out :=
    (r_impl_KindOf [DC.sl ((a.getD 0 d0).ll), DC.sl ((a.getD 1 d0).ll), DC.sl ((a.getD 2 d0).ll), DC.s ((a.getD 3 d0).ss)]).bindR fun r1 =>
    Out.andThen (if ((r1.getD 0 d0).ii == (1 : Int)) = true then
        .norm [DC.b true]
      else
        if ((r1.getD 0 d0).ii == (5 : Int)) = true then
          .norm [DC.b true]
        else
          .norm [DC.b ((r1.getD 0 d0).ii == (6 : Int))]) fun v2 =>
    .ret [DC.b ((v2.getD 0 d0).bb)]
theorem eq_impl_IsInput (a : List DC) : r_impl_IsInput a = E_impl_IsInput a := (Run_eq cfg 32 h_impl_IsInput a).trans (by kernel_rfl)
/-- loop.example/g00964/spec.IsLeaf -/
noncomputable def E_spec_IsLeaf (a : List DC) : Out :=
    (r_spec_KindOf [DC.sl ((a.getD 0 d0).ll), DC.sl ((a.getD 1 d0).ll), DC.sl ((a.getD 2 d0).ll), DC.s ((a.getD 3 d0).ss)]).bindR fun r1 =>
    Out.andThen (if ((r1.getD 0 d0).ii == (1 : Int)) = true then
        .norm [DC.b true]
      else
        .norm [DC.b ((r1.getD 0 d0).ii == (5 : Int))]) fun v2 =>
    .ret [DC.b ((v2.getD 0 d0).bb)]
theorem eq_spec_IsLeaf (a : List DC) : r_spec_IsLeaf a = E_spec_IsLeaf a := (Run_eq cfg 33 h_spec_IsLeaf a).trans (by kernel_rfl)
/-- loop.example/g00964/impl.IsLeaf -/
noncomputable def E_impl_IsLeaf (a : List DC) : Out :=
    (r_impl_KindOf [DC.sl ((a.getD 0 d0).ll), DC.sl ((a.getD 1 d0).ll), DC.sl ((a.getD 2 d0).ll), DC.s ((a.getD 3 d0).ss)]).bindR fun r1 =>
    Out.andThen (if ((r1.getD 0 d0).ii == (1 : Int)) = true then
        .norm [DC.b true]
      else
        .norm [DC.b ((r1.getD 0 d0).ii == (5 : Int))]) fun v2 =>
    .ret [DC.b ((v2.getD 0 d0).bb)]
theorem eq_impl_IsLeaf (a : List DC) : r_impl_IsLeaf a = E_impl_IsLeaf a := (Run_eq cfg 34 h_impl_IsLeaf a).trans (by kernel_rfl)
/-- loop.example/g00964/spec.IsOutput -/
noncomputable def E_spec_IsOutput (a : List DC) : Out :=
    (r_spec_KindOf [DC.sl ((a.getD 0 d0).ll), DC.sl ((a.getD 1 d0).ll), DC.sl ((a.getD 2 d0).ll), DC.s ((a.getD 3 d0).ss)]).bindR fun r1 =>
    Out.andThen (if ((r1.getD 0 d0).ii != (0 : Int)) = true then
        .norm [DC.b ((r1.getD 0 d0).ii != (6 : Int))]
      else
        .norm [DC.b false]) fun v2 =>
    .ret [DC.b ((v2.getD 0 d0).bb)]
theorem eq_spec_IsOutput (a : List DC) : r_spec_IsOutput a = E_spec_IsOutput a := (Run_eq cfg 35 h_spec_IsOutput a).trans (by kernel_rfl)
/-- loop.example/g00964/impl.IsOutput -/
noncomputable def E_impl_IsOutput (a : List DC) : Out :=
    (r_impl_KindOf [DC.sl ((a.getD 0 d0).ll), DC.sl ((a.getD 1 d0).ll), DC.sl ((a.getD 2 d0).ll), DC.s ((a.getD 3 d0).ss)]).bindR fun r1 =>
    Out.andThen (if ((r1.getD 0 d0).ii != (0 : Int)) = true then
        .norm [DC.b ((r1.getD 0 d0).ii != (6 : Int))]
      else
        .norm [DC.b false]) fun v2 =>
    .ret [DC.b ((v2.getD 0 d0).bb)]
theorem eq_impl_IsOutput (a : List DC) : r_impl_IsOutput a = E_impl_IsOutput a := (Run_eq cfg 36 h_impl_IsOutput a).trans (by kernel_rfl)
noncomputable def E_spec_InCycleL1 : List DC → Out := fun v4 =>
    if (decide ((v4.getD 3 d0).ii < (((v4.getD 13 d0).ll).length : Int))) = true then
      Out.andThenB (if 68 = 68 ∧ 0 ≤ (v4.getD 3 d0).ii ∧ (v4.getD 3 d0).ii < (((v4.getD 13 d0).ll).length : Int) then
          Out.andThen (if (!(((((v4.getD 13 d0).ll).getD ((v4.getD 3 d0).ii).toNat []).getD 3 d0).ss == ([33] : List UInt8))) = true then
              .norm [DC.s ((v4.getD 0 d0).ss), DC.sl ((v4.getD 1 d0).ll), DC.i ((v4.getD 2 d0).ii), DC.i ((v4.getD 3 d0).ii), DC.b true, DC.sl ((v4.getD 4 d0).ll), DC.sl ((v4.getD 5 d0).ll), DC.sl ((v4.getD 6 d0).ll), DC.i ((v4.getD 7 d0).ii), DC.b ((v4.getD 8 d0).bb), DC.s ((v4.getD 9 d0).ss), DC.s ((v4.getD 10 d0).ss), DC.sl ((v4.getD 11 d0).ll), DC.sl ((v4.getD 12 d0).ll), DC.sl ((v4.getD 13 d0).ll), DC.sl ((v4.getD 14 d0).ll), DC.sl ((v4.getD 15 d0).ll), DC.b ((v4.getD 16 d0).bb), DC.sl ((v4.getD 17 d0).ll), DC.s (((((v4.getD 13 d0).ll).getD ((v4.getD 3 d0).ii).toNat []).getD 0 d0).ss), DC.s (((((v4.getD 13 d0).ll).getD ((v4.getD 3 d0).ii).toNat []).getD 1 d0).ss), DC.s (((((v4.getD 13 d0).ll).getD ((v4.getD 3 d0).ii).toNat []).getD 2 d0).ss), DC.s (((((v4.getD 13 d0).ll).getD ((v4.getD 3 d0).ii).toNat []).getD 3 d0).ss), DC.b (((((v4.getD 13 d0).ll).getD ((v4.getD 3 d0).ii).toNat []).getD 4 d0).bb), DC.i (((((v4.getD 13 d0).ll).getD ((v4.getD 3 d0).ii).toNat []).getD 5 d0).ii), DC.s (((((v4.getD 13 d0).ll).getD ((v4.getD 3 d0).ii).toNat []).getD 6 d0).ss), DC.sl (((((v4.getD 13 d0).ll).getD ((v4.getD 3 d0).ii).toNat []).getD 7 d0).ll), DC.sl (((((v4.getD 13 d0).ll).getD ((v4.getD 3 d0).ii).toNat []).getD 8 d0).ll), DC.sl (((((v4.getD 13 d0).ll).getD ((v4.getD 3 d0).ii).toNat []).getD 9 d0).ll)]
            else
              if ((((v4.getD 13 d0).ll).getD ((v4.getD 3 d0).ii).toNat []).getD 4 d0).bb = true then
                .norm [DC.s ((v4.getD 0 d0).ss), DC.sl ((v4.getD 1 d0).ll), DC.i ((v4.getD 2 d0).ii), DC.i ((v4.getD 3 d0).ii), DC.b true, DC.sl ((v4.getD 4 d0).ll), DC.sl ((v4.getD 5 d0).ll), DC.sl ((v4.getD 6 d0).ll), DC.i ((v4.getD 7 d0).ii), DC.b ((v4.getD 8 d0).bb), DC.s ((v4.getD 9 d0).ss), DC.s ((v4.getD 10 d0).ss), DC.sl ((v4.getD 11 d0).ll), DC.sl ((v4.getD 12 d0).ll), DC.sl ((v4.getD 13 d0).ll), DC.sl ((v4.getD 14 d0).ll), DC.sl ((v4.getD 15 d0).ll), DC.b ((v4.getD 16 d0).bb), DC.sl ((v4.getD 17 d0).ll), DC.s (((((v4.getD 13 d0).ll).getD ((v4.getD 3 d0).ii).toNat []).getD 0 d0).ss), DC.s (((((v4.getD 13 d0).ll).getD ((v4.getD 3 d0).ii).toNat []).getD 1 d0).ss), DC.s (((((v4.getD 13 d0).ll).getD ((v4.getD 3 d0).ii).toNat []).getD 2 d0).ss), DC.s (((((v4.getD 13 d0).ll).getD ((v4.getD 3 d0).ii).toNat []).getD 3 d0).ss), DC.b (((((v4.getD 13 d0).ll).getD ((v4.getD 3 d0).ii).toNat []).getD 4 d0).bb), DC.i (((((v4.getD 13 d0).ll).getD ((v4.getD 3 d0).ii).toNat []).getD 5 d0).ii), DC.s (((((v4.getD 13 d0).ll).getD ((v4.getD 3 d0).ii).toNat []).getD 6 d0).ss), DC.sl (((((v4.getD 13 d0).ll).getD ((v4.getD 3 d0).ii).toNat []).getD 7 d0).ll), DC.sl (((((v4.getD 13 d0).ll).getD ((v4.getD 3 d0).ii).toNat []).getD 8 d0).ll), DC.sl (((((v4.getD 13 d0).ll).getD ((v4.getD 3 d0).ii).toNat []).getD 9 d0).ll)]
              else
                (r_spec_KindOf [DC.sl ((v4.getD 4 d0).ll), DC.sl ((v4.getD 5 d0).ll), DC.sl ((v4.getD 6 d0).ll), DC.s (((((v4.getD 13 d0).ll).getD ((v4.getD 3 d0).ii).toNat []).getD 2 d0).ss)]).bindR fun r5 =>
                .norm [DC.s ((v4.getD 0 d0).ss), DC.sl ((v4.getD 1 d0).ll), DC.i ((v4.getD 2 d0).ii), DC.i ((v4.getD 3 d0).ii), DC.b ((r5.getD 0 d0).ii != (6 : Int)), DC.sl ((v4.getD 4 d0).ll), DC.sl ((v4.getD 5 d0).ll), DC.sl ((v4.getD 6 d0).ll), DC.i ((v4.getD 7 d0).ii), DC.b ((v4.getD 8 d0).bb), DC.s ((v4.getD 9 d0).ss), DC.s ((v4.getD 10 d0).ss), DC.sl ((v4.getD 11 d0).ll), DC.sl ((v4.getD 12 d0).ll), DC.sl ((v4.getD 13 d0).ll), DC.sl ((v4.getD 14 d0).ll), DC.sl ((v4.getD 15 d0).ll), DC.b ((v4.getD 16 d0).bb), DC.sl ((v4.getD 17 d0).ll), DC.s (((((v4.getD 13 d0).ll).getD ((v4.getD 3 d0).ii).toNat []).getD 0 d0).ss), DC.s (((((v4.getD 13 d0).ll).getD ((v4.getD 3 d0).ii).toNat []).getD 1 d0).ss), DC.s (((((v4.getD 13 d0).ll).getD ((v4.getD 3 d0).ii).toNat []).getD 2 d0).ss), DC.s (((((v4.getD 13 d0).ll).getD ((v4.getD 3 d0).ii).toNat []).getD 3 d0).ss), DC.b (((((v4.getD 13 d0).ll).getD ((v4.getD 3 d0).ii).toNat []).getD 4 d0).bb), DC.i (((((v4.getD 13 d0).ll).getD ((v4.getD 3 d0).ii).toNat []).getD 5 d0).ii), DC.s (((((v4.getD 13 d0).ll).getD ((v4.getD 3 d0).ii).toNat []).getD 6 d0).ss), DC.sl (((((v4.getD 13 d0).ll).getD ((v4.getD 3 d0).ii).toNat []).getD 7 d0).ll), DC.sl (((((v4.getD 13 d0).ll).getD ((v4.getD 3 d0).ii).toNat []).getD 8 d0).ll), DC.sl (((((v4.getD 13 d0).ll).getD ((v4.getD 3 d0).ii).toNat []).getD 9 d0).ll)]) fun v6 =>
          if (v6.getD 4 d0).bb = true then
            .ex 3 [DC.s ((v6.getD 0 d0).ss), DC.sl ((v6.getD 1 d0).ll), DC.i ((v6.getD 2 d0).ii), DC.i ((v6.getD 3 d0).ii), DC.sl ((v6.getD 5 d0).ll), DC.sl ((v6.getD 6 d0).ll), DC.sl ((v6.getD 7 d0).ll), DC.i ((v6.getD 8 d0).ii), DC.b ((v6.getD 9 d0).bb), DC.s ((v6.getD 10 d0).ss), DC.s ((v6.getD 11 d0).ss), DC.sl ((v6.getD 12 d0).ll), DC.sl ((v6.getD 13 d0).ll), DC.sl ((v6.getD 14 d0).ll), DC.sl ((v6.getD 15 d0).ll), DC.sl ((v6.getD 16 d0).ll), DC.b ((v6.getD 17 d0).bb), DC.sl ((v6.getD 18 d0).ll)]
          else
            if ((v6.getD 21 d0).ss == (v6.getD 0 d0).ss) = true then
              .ret [DC.b true]
            else
              (r_spec_l18Has [DC.sl ((v6.getD 1 d0).ll), DC.s ((v6.getD 21 d0).ss)]).bindR fun r7 =>
              Out.andThen (if (!((r7.getD 0 d0).bb)) = true then
                  if ((v6.getD 1 d0).ll).length + [[DC.s ((v6.getD 21 d0).ss)]].length < LIM then
                    .norm [DC.s ((v6.getD 0 d0).ss), DC.sl (((v6.getD 1 d0).ll) ++ [[DC.s ((v6.getD 21 d0).ss)]]), DC.i ((v6.getD 2 d0).ii), DC.i ((v6.getD 3 d0).ii), DC.sl ((v6.getD 5 d0).ll), DC.sl ((v6.getD 6 d0).ll), DC.sl ((v6.getD 7 d0).ll), DC.i ((v6.getD 8 d0).ii), DC.b ((v6.getD 9 d0).bb), DC.s ((v6.getD 10 d0).ss), DC.s ((v6.getD 11 d0).ss), DC.sl ((v6.getD 12 d0).ll), DC.sl ((v6.getD 13 d0).ll), DC.sl ((v6.getD 14 d0).ll), DC.sl ((v6.getD 15 d0).ll), DC.sl ((v6.getD 16 d0).ll), DC.b ((v6.getD 17 d0).bb), DC.sl ((v6.getD 18 d0).ll)]
                  else
                    .fail
                else
                  .norm [DC.s ((v6.getD 0 d0).ss), DC.sl ((v6.getD 1 d0).ll), DC.i ((v6.getD 2 d0).ii), DC.i ((v6.getD 3 d0).ii), DC.sl ((v6.getD 5 d0).ll), DC.sl ((v6.getD 6 d0).ll), DC.sl ((v6.getD 7 d0).ll), DC.i ((v6.getD 8 d0).ii), DC.b ((v6.getD 9 d0).bb), DC.s ((v6.getD 10 d0).ss), DC.s ((v6.getD 11 d0).ss), DC.sl ((v6.getD 12 d0).ll), DC.sl ((v6.getD 13 d0).ll), DC.sl ((v6.getD 14 d0).ll), DC.sl ((v6.getD 15 d0).ll), DC.sl ((v6.getD 16 d0).ll), DC.b ((v6.getD 17 d0).bb), DC.sl ((v6.getD 18 d0).ll)]) fun v8 =>
              .norm [DC.s ((v8.getD 0 d0).ss), DC.sl ((v8.getD 1 d0).ll), DC.i ((v8.getD 2 d0).ii), DC.i ((v8.getD 3 d0).ii), DC.sl ((v8.getD 4 d0).ll), DC.sl ((v8.getD 5 d0).ll), DC.sl ((v8.getD 6 d0).ll), DC.i ((v8.getD 7 d0).ii), DC.b ((v8.getD 8 d0).bb), DC.s ((v8.getD 9 d0).ss), DC.s ((v8.getD 10 d0).ss), DC.sl ((v8.getD 11 d0).ll), DC.sl ((v8.getD 12 d0).ll), DC.sl ((v8.getD 13 d0).ll), DC.sl ((v8.getD 14 d0).ll), DC.sl ((v8.getD 15 d0).ll), DC.b ((v8.getD 16 d0).bb), DC.sl ((v8.getD 17 d0).ll)]
        else
          .fail) 3 fun v9 =>
      .norm [DC.s ((v9.getD 0 d0).ss), DC.sl ((v9.getD 1 d0).ll), DC.i ((v9.getD 2 d0).ii), DC.i (IntKind.i64.wrap ((v9.getD 3 d0).ii + (1 : Int))), DC.sl ((v9.getD 4 d0).ll), DC.sl ((v9.getD 5 d0).ll), DC.sl ((v9.getD 6 d0).ll), DC.i ((v9.getD 7 d0).ii), DC.b ((v9.getD 8 d0).bb), DC.s ((v9.getD 9 d0).ss), DC.s ((v9.getD 10 d0).ss), DC.sl ((v9.getD 11 d0).ll), DC.sl ((v9.getD 12 d0).ll), DC.sl ((v9.getD 13 d0).ll), DC.sl ((v9.getD 14 d0).ll), DC.sl ((v9.getD 15 d0).ll), DC.b ((v9.getD 16 d0).bb), DC.sl ((v9.getD 17 d0).ll)]
    else
      .ex 2 [DC.s ((v4.getD 0 d0).ss), DC.sl ((v4.getD 1 d0).ll), DC.i ((v4.getD 2 d0).ii), DC.sl ((v4.getD 4 d0).ll), DC.sl ((v4.getD 5 d0).ll), DC.sl ((v4.getD 6 d0).ll)]
noncomputable def E_spec_InCycleL2 : List DC → Out := fun v2 =>
    if (decide ((v2.getD 2 d0).ii < (((v2.getD 1 d0).ll).length : Int))) = true then
      Out.andThenB (if 9 = 9 ∧ 0 ≤ (v2.getD 2 d0).ii ∧ (v2.getD 2 d0).ii < (((v2.getD 1 d0).ll).length : Int) then
          (r_spec_TypeAt [DC.sl ((v2.getD 3 d0).ll), DC.sl ((v2.getD 4 d0).ll), DC.sl ((v2.getD 5 d0).ll), DC.s (((((v2.getD 1 d0).ll).getD ((v2.getD 2 d0).ii).toNat []).getD 0 d0).ss)]).bindR fun r3 =>
          if 84 = 84 ∧ 0 ≤ (r3.getD 0 d0).ii ∧ (r3.getD 0 d0).ii < (((v2.getD 3 d0).ll).length : Int) then
            Out.andThenB (Loop E_spec_InCycleL1 [DC.s ((v2.getD 0 d0).ss), DC.sl ((v2.getD 1 d0).ll), DC.i ((v2.getD 2 d0).ii), DC.i (0 : Int), DC.sl ((v2.getD 3 d0).ll), DC.sl ((v2.getD 4 d0).ll), DC.sl ((v2.getD 5 d0).ll), DC.i (((((v2.getD 3 d0).ll).getD ((r3.getD 0 d0).ii).toNat []).getD 0 d0).ii), DC.b (((((v2.getD 3 d0).ll).getD ((r3.getD 0 d0).ii).toNat []).getD 1 d0).bb), DC.s (((((v2.getD 3 d0).ll).getD ((r3.getD 0 d0).ii).toNat []).getD 2 d0).ss), DC.s (((((v2.getD 3 d0).ll).getD ((r3.getD 0 d0).ii).toNat []).getD 3 d0).ss), DC.sl (((((v2.getD 3 d0).ll).getD ((r3.getD 0 d0).ii).toNat []).getD 4 d0).ll), DC.sl (((((v2.getD 3 d0).ll).getD ((r3.getD 0 d0).ii).toNat []).getD 5 d0).ll), DC.sl (((((v2.getD 3 d0).ll).getD ((r3.getD 0 d0).ii).toNat []).getD 6 d0).ll), DC.sl (((((v2.getD 3 d0).ll).getD ((r3.getD 0 d0).ii).toNat []).getD 7 d0).ll), DC.sl (((((v2.getD 3 d0).ll).getD ((r3.getD 0 d0).ii).toNat []).getD 8 d0).ll), DC.b (((((v2.getD 3 d0).ll).getD ((r3.getD 0 d0).ii).toNat []).getD 9 d0).bb), DC.sl (((((v2.getD 3 d0).ll).getD ((r3.getD 0 d0).ii).toNat []).getD 10 d0).ll)]) 2 fun v10 =>
            .norm [DC.s ((v10.getD 0 d0).ss), DC.sl ((v10.getD 1 d0).ll), DC.i ((v10.getD 2 d0).ii), DC.sl ((v10.getD 3 d0).ll), DC.sl ((v10.getD 4 d0).ll), DC.sl ((v10.getD 5 d0).ll)]
          else
            .fail
        else
          .fail) 1 fun v11 =>
      .norm [DC.s ((v11.getD 0 d0).ss), DC.sl ((v11.getD 1 d0).ll), DC.i (IntKind.i64.wrap ((v11.getD 2 d0).ii + (1 : Int))), DC.sl ((v11.getD 3 d0).ll), DC.sl ((v11.getD 4 d0).ll), DC.sl ((v11.getD 5 d0).ll)]
    else
      .ex 0 []
/-- loop.example/g00964/spec.InCycle -/
noncomputable def E_spec_InCycle (a : List DC) : Out :=
    (r_spec_KindOf [DC.sl ((a.getD 0 d0).ll), DC.sl ((a.getD 1 d0).ll), DC.sl ((a.getD 2 d0).ll), DC.s ((a.getD 3 d0).ss)]).bindR fun r1 =>
    if ((r1.getD 0 d0).ii != (6 : Int)) = true then
      .ret [DC.b false]
    else
      Out.andThenB (Loop E_spec_InCycleL2 [DC.s ((a.getD 3 d0).ss), DC.sl [[DC.s ((a.getD 3 d0).ss)]], DC.i (0 : Int), DC.sl ((a.getD 0 d0).ll), DC.sl ((a.getD 1 d0).ll), DC.sl ((a.getD 2 d0).ll)]) 0 fun v12 =>
      .ret [DC.b false]
theorem eq_spec_InCycle (a : List DC) : r_spec_InCycle a = E_spec_InCycle a := (Run_eq cfg 37 h_spec_InCycle a).trans (by kernel_rfl)
noncomputable def E_impl_InCycleL1 : List DC → Out := fun v3 =>
    if (decide ((v3.getD 5 d0).ii < (v3.getD 4 d0).ii)) = true then
      Out.andThenB (if 68 = 68 ∧ 0 ≤ (v3.getD 5 d0).ii ∧ (v3.getD 5 d0).ii < (((v3.getD 3 d0).ll).length : Int) then
          Out.andThen (if (!(((((v3.getD 3 d0).ll).getD ((v3.getD 5 d0).ii).toNat []).getD 3 d0).ss == ([33] : List UInt8))) = true then
              .norm [DC.s ((v3.getD 0 d0).ss), DC.sl ((v3.getD 1 d0).ll), DC.i ((v3.getD 2 d0).ii), DC.s (((((v3.getD 3 d0).ll).getD ((v3.getD 5 d0).ii).toNat []).getD 2 d0).ss), DC.sl ((v3.getD 3 d0).ll), DC.i ((v3.getD 4 d0).ii), DC.i ((v3.getD 5 d0).ii), DC.b true, DC.sl ((v3.getD 6 d0).ll), DC.sl ((v3.getD 7 d0).ll), DC.sl ((v3.getD 8 d0).ll)]
            else
              if ((((v3.getD 3 d0).ll).getD ((v3.getD 5 d0).ii).toNat []).getD 4 d0).bb = true then
                .norm [DC.s ((v3.getD 0 d0).ss), DC.sl ((v3.getD 1 d0).ll), DC.i ((v3.getD 2 d0).ii), DC.s (((((v3.getD 3 d0).ll).getD ((v3.getD 5 d0).ii).toNat []).getD 2 d0).ss), DC.sl ((v3.getD 3 d0).ll), DC.i ((v3.getD 4 d0).ii), DC.i ((v3.getD 5 d0).ii), DC.b true, DC.sl ((v3.getD 6 d0).ll), DC.sl ((v3.getD 7 d0).ll), DC.sl ((v3.getD 8 d0).ll)]
              else
                (r_impl_KindOf [DC.sl ((v3.getD 6 d0).ll), DC.sl ((v3.getD 7 d0).ll), DC.sl ((v3.getD 8 d0).ll), DC.s (((((v3.getD 3 d0).ll).getD ((v3.getD 5 d0).ii).toNat []).getD 2 d0).ss)]).bindR fun r4 =>
                .norm [DC.s ((v3.getD 0 d0).ss), DC.sl ((v3.getD 1 d0).ll), DC.i ((v3.getD 2 d0).ii), DC.s (((((v3.getD 3 d0).ll).getD ((v3.getD 5 d0).ii).toNat []).getD 2 d0).ss), DC.sl ((v3.getD 3 d0).ll), DC.i ((v3.getD 4 d0).ii), DC.i ((v3.getD 5 d0).ii), DC.b ((r4.getD 0 d0).ii != (6 : Int)), DC.sl ((v3.getD 6 d0).ll), DC.sl ((v3.getD 7 d0).ll), DC.sl ((v3.getD 8 d0).ll)]) fun v5 =>
          if (v5.getD 7 d0).bb = true then
            .ex 3 [DC.s ((v5.getD 0 d0).ss), DC.sl ((v5.getD 1 d0).ll), DC.i ((v5.getD 2 d0).ii), DC.sl ((v5.getD 4 d0).ll), DC.i ((v5.getD 5 d0).ii), DC.i ((v5.getD 6 d0).ii), DC.sl ((v5.getD 8 d0).ll), DC.sl ((v5.getD 9 d0).ll), DC.sl ((v5.getD 10 d0).ll)]
          else
            if ((v5.getD 3 d0).ss == (v5.getD 0 d0).ss) = true then
              .ret [DC.b true]
            else
              (r_slices_Contains_string [DC.sl ((v5.getD 1 d0).ll), DC.s ((v5.getD 3 d0).ss)]).bindR fun r6 =>
              Out.andThen (if (!((r6.getD 0 d0).bb)) = true then
                  if ((v5.getD 1 d0).ll).length + [[DC.s ((v5.getD 3 d0).ss)]].length < LIM then
                    .norm [DC.s ((v5.getD 0 d0).ss), DC.sl (((v5.getD 1 d0).ll) ++ [[DC.s ((v5.getD 3 d0).ss)]]), DC.i ((v5.getD 2 d0).ii), DC.sl ((v5.getD 4 d0).ll), DC.i ((v5.getD 5 d0).ii), DC.i ((v5.getD 6 d0).ii), DC.sl ((v5.getD 8 d0).ll), DC.sl ((v5.getD 9 d0).ll), DC.sl ((v5.getD 10 d0).ll)]
                  else
                    .fail
                else
                  .norm [DC.s ((v5.getD 0 d0).ss), DC.sl ((v5.getD 1 d0).ll), DC.i ((v5.getD 2 d0).ii), DC.sl ((v5.getD 4 d0).ll), DC.i ((v5.getD 5 d0).ii), DC.i ((v5.getD 6 d0).ii), DC.sl ((v5.getD 8 d0).ll), DC.sl ((v5.getD 9 d0).ll), DC.sl ((v5.getD 10 d0).ll)]) fun v7 =>
              .norm [DC.s ((v7.getD 0 d0).ss), DC.sl ((v7.getD 1 d0).ll), DC.i ((v7.getD 2 d0).ii), DC.sl ((v7.getD 3 d0).ll), DC.i ((v7.getD 4 d0).ii), DC.i ((v7.getD 5 d0).ii), DC.sl ((v7.getD 6 d0).ll), DC.sl ((v7.getD 7 d0).ll), DC.sl ((v7.getD 8 d0).ll)]
        else
          .fail) 3 fun v8 =>
      .norm [DC.s ((v8.getD 0 d0).ss), DC.sl ((v8.getD 1 d0).ll), DC.i ((v8.getD 2 d0).ii), DC.sl ((v8.getD 3 d0).ll), DC.i ((v8.getD 4 d0).ii), DC.i (IntKind.i64.wrap ((v8.getD 5 d0).ii + (1 : Int))), DC.sl ((v8.getD 6 d0).ll), DC.sl ((v8.getD 7 d0).ll), DC.sl ((v8.getD 8 d0).ll)]
    else
      .ex 2 [DC.s ((v3.getD 0 d0).ss), DC.sl ((v3.getD 1 d0).ll), DC.i ((v3.getD 2 d0).ii), DC.sl ((v3.getD 6 d0).ll), DC.sl ((v3.getD 7 d0).ll), DC.sl ((v3.getD 8 d0).ll)]
noncomputable def E_impl_InCycleL2 : List DC → Out := fun v1 =>
    if (decide ((v1.getD 2 d0).ii < (((v1.getD 1 d0).ll).length : Int))) = true then
      Out.andThenB (if 9 = 9 ∧ 0 ≤ (v1.getD 2 d0).ii ∧ (v1.getD 2 d0).ii < (((v1.getD 1 d0).ll).length : Int) then
          (r_impl_typeDef [DC.sl ((v1.getD 3 d0).ll), DC.sl ((v1.getD 4 d0).ll), DC.sl ((v1.getD 5 d0).ll), DC.s (((((v1.getD 1 d0).ll).getD ((v1.getD 2 d0).ii).toNat []).getD 0 d0).ss)]).bindR fun r2 =>
          if ((r2.getD 0 d0).ii != (6 : Int)) = true then
            .ex 1 [DC.s ((v1.getD 0 d0).ss), DC.sl ((v1.getD 1 d0).ll), DC.i ((v1.getD 2 d0).ii), DC.sl ((v1.getD 3 d0).ll), DC.sl ((v1.getD 4 d0).ll), DC.sl ((v1.getD 5 d0).ll)]
          else
            Out.andThenB (Loop E_impl_InCycleL1 [DC.s ((v1.getD 0 d0).ss), DC.sl ((v1.getD 1 d0).ll), DC.i ((v1.getD 2 d0).ii), DC.sl ((r2.getD 6 d0).ll), DC.i (((r2.getD 6 d0).ll).length : Int), DC.i (0 : Int), DC.sl ((v1.getD 3 d0).ll), DC.sl ((v1.getD 4 d0).ll), DC.sl ((v1.getD 5 d0).ll)]) 2 fun v9 =>
            .norm [DC.s ((v9.getD 0 d0).ss), DC.sl ((v9.getD 1 d0).ll), DC.i ((v9.getD 2 d0).ii), DC.sl ((v9.getD 3 d0).ll), DC.sl ((v9.getD 4 d0).ll), DC.sl ((v9.getD 5 d0).ll)]
        else
          .fail) 1 fun v10 =>
      .norm [DC.s ((v10.getD 0 d0).ss), DC.sl ((v10.getD 1 d0).ll), DC.i (IntKind.i64.wrap ((v10.getD 2 d0).ii + (1 : Int))), DC.sl ((v10.getD 3 d0).ll), DC.sl ((v10.getD 4 d0).ll), DC.sl ((v10.getD 5 d0).ll)]
    else
      .ex 0 []
/-- loop.example/g00964/impl.InCycle -/
noncomputable def E_impl_InCycle (a : List DC) : Out :=
    Out.andThenB (Loop E_impl_InCycleL2 [DC.s ((a.getD 3 d0).ss), DC.sl [[DC.s ((a.getD 3 d0).ss)]], DC.i (0 : Int), DC.sl ((a.getD 0 d0).ll), DC.sl ((a.getD 1 d0).ll), DC.sl ((a.getD 2 d0).ll)]) 0 fun v11 =>
    .ret [DC.b false]
theorem eq_impl_InCycle (a : List DC) : r_impl_InCycle a = E_impl_InCycle a := (Run_eq cfg 38 h_impl_InCycle a).trans (by kernel_rfl)
end Go.Proofs.YtciandfkncadgaaV
