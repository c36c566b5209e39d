/- The equations of the functions, part 11: what the evaluator answers is the plain function (no condition). -/
import Derived.Test.YtfcldaojfbbaoaaDoorEqsJ
set_option linter.unusedVariables false
set_option linter.unusedSimpArgs false
set_option linter.unnecessarySimpa false
open Go Go.Proofs Ev
set_option linter.unusedSimpArgs false
set_option maxRecDepth 100000
set_option linter.unusedVariables false
namespace Sp
noncomputable section
set_option maxHeartbeats 4000000
set_option linter.unusedSimpArgs false
@[reducible, go_sem] def res67 (r : (List Int)) : Res × Heap := (.ret (.p (.iarr .u8 32 r)), [])
theorem f67_ok (n : Nat) (a0 : List Int) : En.call (n + 3) (.f 67) [.p (.sl 1 (List.map (PD.int .u8) a0))] [] = (F.testamurref02_Sum a0).map res67 := by
  refine (c67 (n + 2) (.p (.sl 1 (List.map (PD.int .u8) a0))) []).trans ?_
  repeat' first
    | simp -implicitDefEqProofs only [*, go_sem, F.testamurref02_Sum, F.testamurref02_Sum_l0, F.testamurref02_Sum_l1, reduceIte, reduceCtorEq, Nat.reduceAdd, Nat.reduceSub, Nat.reduceMul, Nat.reduceEqDiff, Nat.reduceLT, Nat.reduceLeDiff, Nat.reduceBEq, Nat.reduceBNe, Int.reduceToNat, Int.reduceLT, Int.reduceLE, Int.reduceEq, Int.reduceBEq, Int.reduceBNe, Int.reduceAdd, Int.reduceSub, Int.reduceMul, Int.reduceNeg, Int.reduceOfNat, Int.reduceNatCast, Nat.reducePow]
    | with_reducible refine bd_same (fun _ => ?_)
    | with_reducible refine br_nil (fun _ => ?_) (fun _ => ?_)
    | with_reducible refine br_split (fun _ => ?_) (fun _ => ?_)
    | ((with_reducible refine at_jn 1 ?_); (with_reducible refine cl_map 1 (enc := res71) ?_ (fun r1 => ?_)); focus exact f71_ok (n + 1) a0)
    | ((with_reducible refine at_jn 4 ?_); (with_reducible refine loop_eq 4 (fun x2 => ⟨[(.p (.sl 1 (List.map (PD.int .u8) r1))), (.p (.int .i64 x2.1)), (.ref 0 []), (.ref 1 [])], [.var (.p (.iarr .u32 8 x2.2)) false, .var (.p (.iarr .u8 32 (List.replicate 32 0))) false]⟩) (fun r4 => (.exit 0, ⟨[(.ref 0 []), (.ref 1 [])], [.var (.p (.iarr .u8 32 (List.replicate 32 0))) false, .var (.p (.iarr .u32 8 r4)) false]⟩)) (F.testamurref02_Sum_l0 r1) (0, (List.set (List.set (List.set (List.set (List.set (List.set (List.set (List.set (List.replicate 8 0) 0 1779033703) 1 3144134277) 2 1013904242) 3 2773480762) 4 1359893119) 5 2600822924) 6 528734635) 7 1541459225)) ?_ (fun x2 => ?_) (fun r4 => ?_)); focus rfl)
    | ((with_reducible refine (X_draw _ _ _ _ 7 [] 6 _ _ ?_).trans ?_); focus kernel_rfl)
    | ((with_reducible refine at_jn 2 ?_); (with_reducible refine cl_map 2 (enc := res72) ?_ (fun r3 => ?_)); focus exact f72_ok (n + 0) x2.2 (List.drop (Int.toNat x2.1) (List.take (Int.toNat (Go.IntKind.wrap .i64 (x2.1 + 64))) r1)))
    | ((with_reducible refine at_jn 3 ?_); (with_reducible refine loop_eq 3 (fun x5 => ⟨[(.ref 0 []), (.p (.int .i64 x5.1)), (.ref 1 []), (.ref 2 [])], [.var (.p (.iarr .u32 8 r4)) false, .var (.p (.iarr .u8 32 x5.2)) false, .var (.p (.iarr .u8 32 (List.replicate 32 0))) false]⟩) (fun r7 => (.exit 2, ⟨[(.ref 0 []), (.ref 1 [])], [.var (.p (.iarr .u8 32 (List.replicate 32 0))) false, .var (.p (.iarr .u8 32 r7)) false]⟩)) (F.testamurref02_Sum_l1 r4) (0, (List.replicate 32 0)) ?_ (fun x5 => ?_) (fun r7 => ?_)); focus rfl)
    | with_reducible refine (jx_bd _ _).trans ?_
    | rfl
    | simp -implicitDefEqProofs only [append_eq, appArg_eq, apT_slice, apT_str, slOf_sl, apA_nils, apA_own, apA_win, apO_row, go_sem, reduceIte, reduceCtorEq, Nat.reduceAdd, Nat.reduceSub, Nat.reduceMul, Nat.reduceEqDiff, Nat.reduceLT, Nat.reduceLeDiff, Nat.reduceBEq, Nat.reduceBNe, Int.reduceToNat, Int.reduceLT, Int.reduceLE, Int.reduceEq, Int.reduceBEq, Int.reduceBNe, Int.reduceAdd, Int.reduceSub, Int.reduceMul, Int.reduceNeg, Int.reduceOfNat, Int.reduceNatCast, Nat.reducePow]
    | (simp only [List.map_append]; rfl)
    | (simp only [List.map_append]; done)
@[reducible, go_sem] def res63 (r : (List Int)) : Res × Heap := (.ret (.p (.iarr .u8 32 r)), [])
theorem f63_ok (n : Nat) (a0 : ByteArray) (a1 : List Int) : En.call (n + 4) (.f 63) [.p (.str a0), .p (.sl 1 (List.map (PD.int .u8) a1))] [] = (F.testamurref02_Tagged a0 a1).map res63 := by
  refine (c63 (n + 3) (.p (.str a0)) (.p (.sl 1 (List.map (PD.int .u8) a1))) []).trans ?_
  repeat' first
    | simp -implicitDefEqProofs only [*, go_sem, F.testamurref02_Tagged, reduceIte, reduceCtorEq, Nat.reduceAdd, Nat.reduceSub, Nat.reduceMul, Nat.reduceEqDiff, Nat.reduceLT, Nat.reduceLeDiff, Nat.reduceBEq, Nat.reduceBNe, Int.reduceToNat, Int.reduceLT, Int.reduceLE, Int.reduceEq, Int.reduceBEq, Int.reduceBNe, Int.reduceAdd, Int.reduceSub, Int.reduceMul, Int.reduceNeg, Int.reduceOfNat, Int.reduceNatCast, Nat.reducePow]
    | with_reducible refine bd_same (fun _ => ?_)
    | with_reducible refine br_nil (fun _ => ?_) (fun _ => ?_)
    | with_reducible refine br_split (fun _ => ?_) (fun _ => ?_)
    | ((with_reducible refine at_jn 1 ?_); (with_reducible refine cl_map 1 (enc := res67) ?_ (fun r1 => ?_)); focus exact f67_ok (n + 0) (strInts a0))
    | ((with_reducible refine at_ap 2 ?_); (with_reducible refine ap_guard 2 ((.own 4 0), [.var (.p (.iarr .u8 32 (List.replicate 32 0))) false, .row 1 (List.map (PD.int .u8) (strInts a0)) false, .var (.p (.iarr .u8 32 r1)) false, .dead, .row 1 (List.map (PD.int .u8) (List.take 32 r1)) false]) ?_ ?_))
    | ((with_reducible refine at_ap 3 ?_); (with_reducible refine ap_guard 3 ((.own 5 0), [.var (.p (.iarr .u8 32 (List.replicate 32 0))) false, .row 1 (List.map (PD.int .u8) (strInts a0)) false, .var (.p (.iarr .u8 32 r1)) false, .dead, .dead, .row 1 (List.map (PD.int .u8) ((List.take 32 r1) ++ a1)) false]) ?_ ?_))
    | ((with_reducible refine at_jn 4 ?_); (with_reducible refine cl_map 4 (enc := res67) ?_ (fun r2 => ?_)); focus exact f67_ok (n + 0) ((List.take 32 r1) ++ a1))
    | with_reducible refine (jx_bd _ _).trans ?_
    | rfl
    | simp -implicitDefEqProofs only [append_eq, appArg_eq, apT_slice, apT_str, slOf_sl, apA_nils, apA_own, apA_win, apO_row, go_sem, reduceIte, reduceCtorEq, Nat.reduceAdd, Nat.reduceSub, Nat.reduceMul, Nat.reduceEqDiff, Nat.reduceLT, Nat.reduceLeDiff, Nat.reduceBEq, Nat.reduceBNe, Int.reduceToNat, Int.reduceLT, Int.reduceLE, Int.reduceEq, Int.reduceBEq, Int.reduceBNe, Int.reduceAdd, Int.reduceSub, Int.reduceMul, Int.reduceNeg, Int.reduceOfNat, Int.reduceNatCast, Nat.reducePow]
    | (simp only [List.map_append]; rfl)
    | (simp only [List.map_append]; done)
@[reducible, go_sem] def res57 (r : (List Int)) : Res × Heap := (.ret (.p (.iarr .u8 32 r)), [])
theorem f57_ok (n : Nat) (a0 : List Int) (a1 : Int) : En.call (n + 5) (.f 57) [.p (.iarr .u8 32 a0), .p (.int .i64 a1)] [] = (F.testamurref05_First a0 a1).map res57 := by
  refine (c57 (n + 4) (.p (.iarr .u8 32 a0)) (.p (.int .i64 a1)) []).trans ?_
  repeat' first
    | simp -implicitDefEqProofs only [*, go_sem, F.testamurref05_First, reduceIte, reduceCtorEq, Nat.reduceAdd, Nat.reduceSub, Nat.reduceMul, Nat.reduceEqDiff, Nat.reduceLT, Nat.reduceLeDiff, Nat.reduceBEq, Nat.reduceBNe, Int.reduceToNat, Int.reduceLT, Int.reduceLE, Int.reduceEq, Int.reduceBEq, Int.reduceBNe, Int.reduceAdd, Int.reduceSub, Int.reduceMul, Int.reduceNeg, Int.reduceOfNat, Int.reduceNatCast, Nat.reducePow]
    | with_reducible refine bd_same (fun _ => ?_)
    | with_reducible refine br_nil (fun _ => ?_) (fun _ => ?_)
    | with_reducible refine br_split (fun _ => ?_) (fun _ => ?_)
    | ((with_reducible refine at_ap 1 ?_); (with_reducible refine ap_guard 1 ((.own 3 0), [.var (.p (.iarr .u8 32 a0)) false, .var (.p (.iarr .u8 32 (List.replicate 32 0))) false, .dead, .row 1 (List.map (PD.int .u8) (List.take 32 a0)) false]) ?_ ?_))
    | ((with_reducible refine at_ap 2 ?_); (with_reducible refine ap_guard 2 ((.own 5 0), [.var (.p (.iarr .u8 32 a0)) false, .var (.p (.iarr .u8 32 (List.replicate 32 0))) false, .dead, .dead, .row 1 (List.map (PD.int .u8) [(Go.IntKind.wrap .u8 a1)]) false, .row 1 (List.map (PD.int .u8) ((List.take 32 a0) ++ [(Go.IntKind.wrap .u8 a1)])) false]) ?_ ?_))
    | ((with_reducible refine at_jn 3 ?_); (with_reducible refine cl_map 3 (enc := res63) ?_ (fun r1 => ?_)); focus exact f63_ok (n + 0) (ByteArray.mk #[99, 104, 97, 105, 110]) ((List.take 32 a0) ++ [(Go.IntKind.wrap .u8 a1)]))
    | with_reducible refine (jx_bd _ _).trans ?_
    | rfl
    | simp -implicitDefEqProofs only [append_eq, appArg_eq, apT_slice, apT_str, slOf_sl, apA_nils, apA_own, apA_win, apO_row, go_sem, reduceIte, reduceCtorEq, Nat.reduceAdd, Nat.reduceSub, Nat.reduceMul, Nat.reduceEqDiff, Nat.reduceLT, Nat.reduceLeDiff, Nat.reduceBEq, Nat.reduceBNe, Int.reduceToNat, Int.reduceLT, Int.reduceLE, Int.reduceEq, Int.reduceBEq, Int.reduceBNe, Int.reduceAdd, Int.reduceSub, Int.reduceMul, Int.reduceNeg, Int.reduceOfNat, Int.reduceNatCast, Nat.reducePow]
    | (simp only [List.map_append]; rfl)
    | (simp only [List.map_append]; done)
@[reducible, go_sem] def res62 (r : (List Int)) : Res × Heap := (.ret (.p (.iarr .u8 32 r)), [])
theorem f62_ok (n : Nat) (a0 : List Int) : En.call (n + 5) (.f 62) [.p (.iarr .u8 32 a0)] [] = (F.testamurref05_Step a0).map res62 := by
  refine (c62 (n + 4) (.p (.iarr .u8 32 a0)) []).trans ?_
  repeat' first
    | simp -implicitDefEqProofs only [*, go_sem, F.testamurref05_Step, reduceIte, reduceCtorEq, Nat.reduceAdd, Nat.reduceSub, Nat.reduceMul, Nat.reduceEqDiff, Nat.reduceLT, Nat.reduceLeDiff, Nat.reduceBEq, Nat.reduceBNe, Int.reduceToNat, Int.reduceLT, Int.reduceLE, Int.reduceEq, Int.reduceBEq, Int.reduceBNe, Int.reduceAdd, Int.reduceSub, Int.reduceMul, Int.reduceNeg, Int.reduceOfNat, Int.reduceNatCast, Nat.reducePow]
    | with_reducible refine bd_same (fun _ => ?_)
    | with_reducible refine br_nil (fun _ => ?_) (fun _ => ?_)
    | with_reducible refine br_split (fun _ => ?_) (fun _ => ?_)
    | ((with_reducible refine at_jn 1 ?_); (with_reducible refine cl_map 1 (enc := res63) ?_ (fun r1 => ?_)); focus exact f63_ok (n + 0) (ByteArray.mk #[115, 116, 101, 112]) (List.take 32 a0))
    | with_reducible refine (jx_bd _ _).trans ?_
    | rfl
    | simp -implicitDefEqProofs only [append_eq, appArg_eq, apT_slice, apT_str, slOf_sl, apA_nils, apA_own, apA_win, apO_row, go_sem, reduceIte, reduceCtorEq, Nat.reduceAdd, Nat.reduceSub, Nat.reduceMul, Nat.reduceEqDiff, Nat.reduceLT, Nat.reduceLeDiff, Nat.reduceBEq, Nat.reduceBNe, Int.reduceToNat, Int.reduceLT, Int.reduceLE, Int.reduceEq, Int.reduceBEq, Int.reduceBNe, Int.reduceAdd, Int.reduceSub, Int.reduceMul, Int.reduceNeg, Int.reduceOfNat, Int.reduceNatCast, Nat.reducePow]
    | (simp only [List.map_append]; rfl)
    | (simp only [List.map_append]; done)
@[reducible, go_sem] def res56 (r : (List Int)) : Res × Heap := (.ret (.p (.iarr .u8 32 r)), [])
theorem f56_ok (n : Nat) (a0 : List Int) (a1 : Int) : En.call (n + 6) (.f 56) [.p (.iarr .u8 32 a0), .p (.int .i64 a1)] [] = (F.testamurref05_Steps a0 a1).map res56 := by
  refine (c56 (n + 5) (.p (.iarr .u8 32 a0)) (.p (.int .i64 a1)) []).trans ?_
  repeat' first
    | simp -implicitDefEqProofs only [*, go_sem, F.testamurref05_Steps, F.testamurref05_Steps_l0, reduceIte, reduceCtorEq, Nat.reduceAdd, Nat.reduceSub, Nat.reduceMul, Nat.reduceEqDiff, Nat.reduceLT, Nat.reduceLeDiff, Nat.reduceBEq, Nat.reduceBNe, Int.reduceToNat, Int.reduceLT, Int.reduceLE, Int.reduceEq, Int.reduceBEq, Int.reduceBNe, Int.reduceAdd, Int.reduceSub, Int.reduceMul, Int.reduceNeg, Int.reduceOfNat, Int.reduceNatCast, Nat.reducePow]
    | with_reducible refine bd_same (fun _ => ?_)
    | with_reducible refine br_nil (fun _ => ?_) (fun _ => ?_)
    | with_reducible refine br_split (fun _ => ?_) (fun _ => ?_)
    | ((with_reducible refine at_jn 2 ?_); (with_reducible refine loop_eq 2 (fun x1 => ⟨[(.p (.int .i64 a1)), (.p (.int .i64 x1.1)), (.ref 0 []), (.ref 1 [])], [.var (.p (.iarr .u8 32 x1.2)) false, .var (.p (.iarr .u8 32 (List.replicate 32 0))) false]⟩) (fun r3 => (.exit 0, ⟨[(.ref 0 []), (.ref 1 [])], [.var (.p (.iarr .u8 32 (List.replicate 32 0))) false, .var (.p (.iarr .u8 32 r3)) false]⟩)) (F.testamurref05_Steps_l0 a1) (0, a0) ?_ (fun x1 => ?_) (fun r3 => ?_)); focus rfl)
    | ((with_reducible refine at_jn 1 ?_); (with_reducible refine cl_map 1 (enc := res62) ?_ (fun r2 => ?_)); focus exact f62_ok (n + 0) x1.2)
    | with_reducible refine (jx_bd _ _).trans ?_
    | rfl
    | simp -implicitDefEqProofs only [append_eq, appArg_eq, apT_slice, apT_str, slOf_sl, apA_nils, apA_own, apA_win, apO_row, go_sem, reduceIte, reduceCtorEq, Nat.reduceAdd, Nat.reduceSub, Nat.reduceMul, Nat.reduceEqDiff, Nat.reduceLT, Nat.reduceLeDiff, Nat.reduceBEq, Nat.reduceBNe, Int.reduceToNat, Int.reduceLT, Int.reduceLE, Int.reduceEq, Int.reduceBEq, Int.reduceBNe, Int.reduceAdd, Int.reduceSub, Int.reduceMul, Int.reduceNeg, Int.reduceOfNat, Int.reduceNatCast, Nat.reducePow]
    | (simp only [List.map_append]; rfl)
    | (simp only [List.map_append]; done)
@[reducible, go_sem] def res58 (r : (List Int)) : Res × Heap := (.ret (.p (.iarr .u8 32 r)), [])
theorem f58_ok (n : Nat) (a0 : List (List Int)) : En.call (n + 5) (.f 58) [.p (.sl 32 (List.map (PD.iarr .u8 32) a0))] [] = (F.testamurref05_Key a0).map res58 := by
  refine (c58 (n + 4) (.p (.sl 32 (List.map (PD.iarr .u8 32) a0))) []).trans ?_
  repeat' first
    | simp -implicitDefEqProofs only [*, go_sem, F.testamurref05_Key, F.testamurref05_Key_l0, reduceIte, reduceCtorEq, Nat.reduceAdd, Nat.reduceSub, Nat.reduceMul, Nat.reduceEqDiff, Nat.reduceLT, Nat.reduceLeDiff, Nat.reduceBEq, Nat.reduceBNe, Int.reduceToNat, Int.reduceLT, Int.reduceLE, Int.reduceEq, Int.reduceBEq, Int.reduceBNe, Int.reduceAdd, Int.reduceSub, Int.reduceMul, Int.reduceNeg, Int.reduceOfNat, Int.reduceNatCast, Nat.reducePow]
    | with_reducible refine bd_same (fun _ => ?_)
    | with_reducible refine br_nil (fun _ => ?_) (fun _ => ?_)
    | with_reducible refine br_split (fun _ => ?_) (fun _ => ?_)
    | ((with_reducible refine at_jn 3 ?_); (with_reducible refine loop_eq 3 (fun x1 => ⟨[(.p (.sl 32 (List.map (PD.iarr .u8 32) a0))), (.p (.int .i64 x1.1)), (.own 0 0), (.ref 1 [])], [.row 1 (List.map (PD.int .u8) x1.2) false, .var (.p (.iarr .u8 32 (List.replicate 32 0))) false]⟩) (fun r3 => (.exit 0, ⟨[(.ref 0 []), (.own 1 0)], [.var (.p (.iarr .u8 32 (List.replicate 32 0))) false, .row 1 (List.map (PD.int .u8) r3) false]⟩)) (F.testamurref05_Key_l0 a0) (0, []) ?_ (fun x1 => ?_) (fun r3 => ?_)); focus rfl)
    | ((with_reducible refine at_ap 1 ?_); rename_i y2; (with_reducible refine ap_guard 1 ((.own 2 0), [.dead, .var (.p (.iarr .u8 32 (List.replicate 32 0))) false, .row 1 (List.map (PD.int .u8) (x1.2 ++ (List.take 32 y2))) false]) ?_ ?_))
    | ((with_reducible refine at_jn 2 ?_); (with_reducible refine cl_map 2 (enc := res63) ?_ (fun r4 => ?_)); focus exact f63_ok (n + 0) (ByteArray.mk #[112, 117, 98, 108, 105, 99]) r3)
    | with_reducible refine (jx_bd _ _).trans ?_
    | rfl
    | simp -implicitDefEqProofs only [append_eq, appArg_eq, apT_slice, apT_str, slOf_sl, apA_nils, apA_own, apA_win, apO_row, go_sem, reduceIte, reduceCtorEq, Nat.reduceAdd, Nat.reduceSub, Nat.reduceMul, Nat.reduceEqDiff, Nat.reduceLT, Nat.reduceLeDiff, Nat.reduceBEq, Nat.reduceBNe, Int.reduceToNat, Int.reduceLT, Int.reduceLE, Int.reduceEq, Int.reduceBEq, Int.reduceBNe, Int.reduceAdd, Int.reduceSub, Int.reduceMul, Int.reduceNeg, Int.reduceOfNat, Int.reduceNatCast, Nat.reducePow]
    | (simp only [List.map_append]; rfl)
    | (simp only [List.map_append]; done)
@[reducible, go_sem] def res51 (r : (List Int)) : Res × Heap := (.ret (.p (.iarr .u8 32 r)), [])
theorem f51_ok (n : Nat) (a0 : List Int) : En.call (n + 7) (.f 51) [.p (.iarr .u8 32 a0)] [] = (F.testamurref05_Public a0).map res51 := by
  refine (c51 (n + 6) (.p (.iarr .u8 32 a0)) []).trans ?_
  repeat' first
    | simp -implicitDefEqProofs only [*, go_sem, F.testamurref05_Public, F.testamurref05_Public_l0, reduceIte, reduceCtorEq, Nat.reduceAdd, Nat.reduceSub, Nat.reduceMul, Nat.reduceEqDiff, Nat.reduceLT, Nat.reduceLeDiff, Nat.reduceBEq, Nat.reduceBNe, Int.reduceToNat, Int.reduceLT, Int.reduceLE, Int.reduceEq, Int.reduceBEq, Int.reduceBNe, Int.reduceAdd, Int.reduceSub, Int.reduceMul, Int.reduceNeg, Int.reduceOfNat, Int.reduceNatCast, Nat.reducePow]
    | with_reducible refine bd_same (fun _ => ?_)
    | with_reducible refine br_nil (fun _ => ?_) (fun _ => ?_)
    | with_reducible refine br_split (fun _ => ?_) (fun _ => ?_)
    | ((with_reducible refine at_jn 5 ?_); (with_reducible refine loop_eq 5 (fun x1 => ⟨[(.ref 0 []), (.p (.int .i64 x1.1)), (.own 1 0), (.ref 2 [])], [.var (.p (.iarr .u8 32 a0)) false, .row 32 (List.map (PD.iarr .u8 32) x1.2) false, .var (.p (.iarr .u8 32 (List.replicate 32 0))) false]⟩) (fun r4 => (.exit 0, ⟨[(.ref 0 []), (.own 1 0)], [.var (.p (.iarr .u8 32 (List.replicate 32 0))) false, .row 32 (List.map (PD.iarr .u8 32) r4) false]⟩)) (F.testamurref05_Public_l0 a0) (0, []) ?_ (fun x1 => ?_) (fun r4 => ?_)); focus rfl)
    | ((with_reducible refine at_jn 1 ?_); (with_reducible refine cl_map 1 (enc := res57) ?_ (fun r2 => ?_)); focus exact f57_ok (n + 1) a0 x1.1)
    | ((with_reducible refine at_jn 2 ?_); (with_reducible refine cl_map 2 (enc := res56) ?_ (fun r3 => ?_)); focus exact f56_ok (n + 0) r2 3)
    | ((with_reducible refine at_ap 3 ?_); (with_reducible refine ap_guard 3 ((.own 4 0), [.var (.p (.iarr .u8 32 a0)) false, .dead, .var (.p (.iarr .u8 32 (List.replicate 32 0))) false, .row 32 (List.map (PD.iarr .u8 32) [r3]) false, .row 32 (List.map (PD.iarr .u8 32) (x1.2 ++ [r3])) false]) ?_ ?_))
    | ((with_reducible refine at_jn 4 ?_); (with_reducible refine cl_map 4 (enc := res58) ?_ (fun r5 => ?_)); focus exact f58_ok (n + 1) r4)
    | with_reducible refine (jx_bd _ _).trans ?_
    | rfl
    | simp -implicitDefEqProofs only [append_eq, appArg_eq, apT_slice, apT_str, slOf_sl, apA_nils, apA_own, apA_win, apO_row, go_sem, reduceIte, reduceCtorEq, Nat.reduceAdd, Nat.reduceSub, Nat.reduceMul, Nat.reduceEqDiff, Nat.reduceLT, Nat.reduceLeDiff, Nat.reduceBEq, Nat.reduceBNe, Int.reduceToNat, Int.reduceLT, Int.reduceLE, Int.reduceEq, Int.reduceBEq, Int.reduceBNe, Int.reduceAdd, Int.reduceSub, Int.reduceMul, Int.reduceNeg, Int.reduceOfNat, Int.reduceNatCast, Nat.reducePow]
    | (simp only [List.map_append]; rfl)
    | (simp only [List.map_append]; done)
@[reducible, go_sem] def res43 (r : Bool) : Res × Heap := (.ret (.p (.bool r)), [])
theorem f43_ok (n : Nat) (a0 : List (List Int)) (a1 : List (List Int)) : En.call (n + 1) (.f 43) [.p (.sl 32 (List.map (PD.iarr .u8 32) a0)), .p (.sl 32 (List.map (PD.iarr .u8 32) a1))] [] = (F.testamurref02_Same a0 a1).map res43 := by
  refine (c43 (n + 0) (.p (.sl 32 (List.map (PD.iarr .u8 32) a0))) (.p (.sl 32 (List.map (PD.iarr .u8 32) a1))) []).trans ?_
  repeat' first
    | simp -implicitDefEqProofs only [*, go_sem, F.testamurref02_Same, F.testamurref02_Same_l0, reduceIte, reduceCtorEq, Nat.reduceAdd, Nat.reduceSub, Nat.reduceMul, Nat.reduceEqDiff, Nat.reduceLT, Nat.reduceLeDiff, Nat.reduceBEq, Nat.reduceBNe, Int.reduceToNat, Int.reduceLT, Int.reduceLE, Int.reduceEq, Int.reduceBEq, Int.reduceBNe, Int.reduceAdd, Int.reduceSub, Int.reduceMul, Int.reduceNeg, Int.reduceOfNat, Int.reduceNatCast, Nat.reducePow]
    | with_reducible refine bd_same (fun _ => ?_)
    | with_reducible refine br_nil (fun _ => ?_) (fun _ => ?_)
    | with_reducible refine br_split (fun _ => ?_) (fun _ => ?_)
    | ((with_reducible refine at_jn 1 ?_); (with_reducible refine loop_eq 1 (fun x1 => ⟨[(.p (.sl 32 (List.map (PD.iarr .u8 32) a0))), (.p (.sl 32 (List.map (PD.iarr .u8 32) a1))), (.p (.int .i64 x1))], []⟩) (Sum.elim (fun r4 => (.ret, ⟨[(.p (.bool false))], []⟩)) (fun r4 => (.exit 0, ⟨[.unk], []⟩))) (F.testamurref02_Same_l0 a0 a1) 0 ?_ (fun x1 => ?_) (sumAll (fun r4 => ?_) (fun r4 => ?_))); focus rfl)
    | ((with_reducible refine (X_draw _ _ _ _ 9 [] 6 _ _ ?_).trans ?_); focus kernel_rfl)
    | with_reducible refine (jx_bd _ _).trans ?_
    | rfl
    | simp -implicitDefEqProofs only [append_eq, appArg_eq, apT_slice, apT_str, slOf_sl, apA_nils, apA_own, apA_win, apO_row, go_sem, reduceIte, reduceCtorEq, Nat.reduceAdd, Nat.reduceSub, Nat.reduceMul, Nat.reduceEqDiff, Nat.reduceLT, Nat.reduceLeDiff, Nat.reduceBEq, Nat.reduceBNe, Int.reduceToNat, Int.reduceLT, Int.reduceLE, Int.reduceEq, Int.reduceBEq, Int.reduceBNe, Int.reduceAdd, Int.reduceSub, Int.reduceMul, Int.reduceNeg, Int.reduceOfNat, Int.reduceNatCast, Nat.reducePow]
    | (simp only [List.map_append]; rfl)
    | (simp only [List.map_append]; done)
end
end Sp
