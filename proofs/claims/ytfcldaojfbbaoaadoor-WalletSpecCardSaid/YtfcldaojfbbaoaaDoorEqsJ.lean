/- The equations of the functions, part 10: what the evaluator answers is the plain function (no condition). -/
import Derived.Test.YtfcldaojfbbaoaaDoorEqsI
set_option linter.unusedVariables false
set_option linter.unusedSimpArgs false
set_option linter.unnecessarySimpa false
open Go Go.Proofs Ev
set_option linter.unusedSimpArgs false
set_option maxRecDepth 100000
set_option linter.unusedVariables false
namespace Sp
noncomputable section
set_option maxHeartbeats 4000000
set_option linter.unusedSimpArgs false
@[reducible, go_sem] def res72 (r : (List Int)) : Res × Heap := (.ret (.p (.iarr .u32 8 r)), [])
theorem f72_ok (n : Nat) (a0 : List Int) (a1 : List Int) : En.call (n + 2) (.f 72) [.p (.iarr .u32 8 a0), .p (.sl 1 (List.map (PD.int .u8) a1))] [] = (F.testamurref02_block a0 a1).map res72 := by
  refine (c72 (n + 1) (.p (.iarr .u32 8 a0)) (.p (.sl 1 (List.map (PD.int .u8) a1))) []).trans ?_
  repeat' first
    | simp -implicitDefEqProofs only [*, go_sem, F.testamurref02_block, F.testamurref02_block_l0, F.testamurref02_block_l1, F.testamurref02_block_l2, reduceIte, reduceCtorEq, Nat.reduceAdd, Nat.reduceSub, Nat.reduceMul, Nat.reduceEqDiff, Nat.reduceLT, Nat.reduceLeDiff, Nat.reduceBEq, Nat.reduceBNe, Int.reduceToNat, Int.reduceLT, Int.reduceLE, Int.reduceEq, Int.reduceBEq, Int.reduceBNe, Int.reduceAdd, Int.reduceSub, Int.reduceMul, Int.reduceNeg, Int.reduceOfNat, Int.reduceNatCast, Nat.reducePow]
    | with_reducible refine bd_same (fun _ => ?_)
    | with_reducible refine br_nil (fun _ => ?_) (fun _ => ?_)
    | with_reducible refine br_split (fun _ => ?_) (fun _ => ?_)
    | ((with_reducible refine at_jn 15 ?_); (with_reducible refine loop_eq 15 (fun x1 => ⟨[(.p (.sl 1 (List.map (PD.int .u8) a1))), (.p (.int .i64 x1.1)), (.ref 0 []), (.ref 1 []), (.ref 2 [])], [.var (.p (.iarr .u32 64 x1.2)) false, .var (.p (.iarr .u32 8 a0)) false, .var (.p (.iarr .u32 8 (List.replicate 8 0))) false]⟩) (fun r3 => (.exit 0, ⟨[(.ref 0 []), (.ref 1 []), (.ref 2 [])], [.var (.p (.iarr .u32 8 (List.replicate 8 0))) false, .var (.p (.iarr .u32 8 a0)) false, .var (.p (.iarr .u32 64 r3)) false]⟩)) (F.testamurref02_block_l0 a1) (0, (List.replicate 64 0)) ?_ (fun x1 => ?_) (fun r3 => ?_)); focus rfl)
    | ((with_reducible refine at_jn 1 ?_); (with_reducible refine cl_map 1 (enc := res73) ?_ (fun r2 => ?_)); focus exact f73_ok (n + 0) (List.drop (Int.toNat (Go.IntKind.wrap .i64 (4 * x1.1))) (List.take (Int.toNat (Go.IntKind.wrap .i64 ((Go.IntKind.wrap .i64 (4 * x1.1)) + 4))) a1)))
    | ((with_reducible refine at_jn 14 ?_); (with_reducible refine loop_eq 14 (fun x4 => ⟨[(.p (.int .i64 x4.1)), (.ref 0 []), (.ref 1 []), (.ref 2 [])], [.var (.p (.iarr .u32 64 x4.2)) false, .var (.p (.iarr .u32 8 a0)) false, .var (.p (.iarr .u32 8 (List.replicate 8 0))) false]⟩) (fun r13 => (.exit 2, ⟨[(.ref 0 []), (.ref 1 []), (.ref 2 [])], [.var (.p (.iarr .u32 8 (List.replicate 8 0))) false, .var (.p (.iarr .u32 8 a0)) false, .var (.p (.iarr .u32 64 r13)) false]⟩)) (F.testamurref02_block_l1) (16, r3) ?_ (fun x4 => ?_) (fun r13 => ?_)); focus rfl)
    | ((with_reducible refine (X_draw _ _ _ _ 29 [] 11 _ _ ?_).trans ?_); focus kernel_rfl)
    | ((with_reducible refine at_jn 2 ?_); rename_i y5 _ _ _ _; (with_reducible refine cl_map 2 (enc := res74) ?_ (fun r8 => ?_)); focus exact f74_ok (n + 0) y5 7)
    | ((with_reducible refine at_jn 3 ?_); (with_reducible refine cl_map 3 (enc := res74) ?_ (fun r9 => ?_)); focus exact f74_ok (n + 0) y5 18)
    | ((with_reducible refine at_jn 4 ?_); rename_i y6 _ _ _ _; (with_reducible refine cl_map 4 (enc := res74) ?_ (fun r11 => ?_)); focus exact f74_ok (n + 0) y6 17)
    | ((with_reducible refine at_jn 5 ?_); (with_reducible refine cl_map 5 (enc := res74) ?_ (fun r12 => ?_)); focus exact f74_ok (n + 0) y6 19)
    | ((with_reducible refine at_jn 6 ?_); (with_reducible refine cl_map 6 (enc := res75) ?_ (fun r14 => ?_)); focus exact f75_ok (n + 0))
    | ((with_reducible refine (X_draw _ _ _ _ 24 [] 13 _ _ ?_).trans ?_); focus kernel_rfl)
    | ((with_reducible refine at_jn 13 ?_); rename_i y15 y16 y17 y18 y19 y20 y21 y22; (with_reducible refine loop_eq 13 (fun x23 => ⟨[(.ref 0 []), (.ref 1 []), (.p (.int .i64 x23.1)), (.p (.int .u32 x23.2.1)), (.p (.int .u32 x23.2.2.1)), (.p (.int .u32 x23.2.2.2.1)), (.p (.int .u32 x23.2.2.2.2.1)), (.p (.int .u32 x23.2.2.2.2.2.1)), (.p (.int .u32 x23.2.2.2.2.2.2.1)), (.p (.int .u32 x23.2.2.2.2.2.2.2.1)), (.ref 2 []), (.p (.int .u32 x23.2.2.2.2.2.2.2.2)), (.ref 3 [])], [.var (.p (.iarr .u32 64 r14)) false, .var (.p (.iarr .u32 64 r13)) false, .var (.p (.iarr .u32 8 a0)) false, .var (.p (.iarr .u32 8 (List.replicate 8 0))) false]⟩) (fun r32 => (.exit 4, ⟨[(.ref 0 []), (.p (.int .u32 r32.1)), (.ref 1 []), (.p (.int .u32 r32.2.1)), (.p (.int .u32 r32.2.2.1)), (.p (.int .u32 r32.2.2.2.1)), (.p (.int .u32 r32.2.2.2.2.1)), (.p (.int .u32 r32.2.2.2.2.2.1)), (.p (.int .u32 r32.2.2.2.2.2.2.1)), (.p (.int .u32 r32.2.2.2.2.2.2.2))], [.var (.p (.iarr .u32 8 (List.replicate 8 0))) false, .var (.p (.iarr .u32 8 a0)) false]⟩)) (F.testamurref02_block_l2 r14 r13) (0, y15, y16, y17, y18, y19, y20, y21, y22) ?_ (fun x23 => ?_) (fun r32 => ?_)); focus rfl)
    | ((with_reducible refine (X_draw _ _ _ _ 28 [] 17 _ _ ?_).trans ?_); focus kernel_rfl)
    | ((with_reducible refine at_jn 7 ?_); (with_reducible refine cl_map 7 (enc := res74) ?_ (fun r24 => ?_)); focus exact f74_ok (n + 0) x23.2.2.2.2.2.1 6)
    | ((with_reducible refine at_jn 8 ?_); (with_reducible refine cl_map 8 (enc := res74) ?_ (fun r25 => ?_)); focus exact f74_ok (n + 0) x23.2.2.2.2.2.1 11)
    | ((with_reducible refine at_jn 9 ?_); (with_reducible refine cl_map 9 (enc := res74) ?_ (fun r26 => ?_)); focus exact f74_ok (n + 0) x23.2.2.2.2.2.1 25)
    | ((with_reducible refine at_jn 10 ?_); (with_reducible refine cl_map 10 (enc := res74) ?_ (fun r29 => ?_)); focus exact f74_ok (n + 0) x23.2.1 2)
    | ((with_reducible refine at_jn 11 ?_); (with_reducible refine cl_map 11 (enc := res74) ?_ (fun r30 => ?_)); focus exact f74_ok (n + 0) x23.2.1 13)
    | ((with_reducible refine at_jn 12 ?_); (with_reducible refine cl_map 12 (enc := res74) ?_ (fun r31 => ?_)); focus exact f74_ok (n + 0) x23.2.1 22)
    | with_reducible refine (jx_bd _ _).trans ?_
    | rfl
    | simp -implicitDefEqProofs only [append_eq, appArg_eq, apT_slice, apT_str, slOf_sl, apA_nils, apA_own, apA_win, apO_row, go_sem, reduceIte, reduceCtorEq, Nat.reduceAdd, Nat.reduceSub, Nat.reduceMul, Nat.reduceEqDiff, Nat.reduceLT, Nat.reduceLeDiff, Nat.reduceBEq, Nat.reduceBNe, Int.reduceToNat, Int.reduceLT, Int.reduceLE, Int.reduceEq, Int.reduceBEq, Int.reduceBNe, Int.reduceAdd, Int.reduceSub, Int.reduceMul, Int.reduceNeg, Int.reduceOfNat, Int.reduceNatCast, Nat.reducePow]
    | (simp only [List.map_append]; rfl)
    | (simp only [List.map_append]; done)
end
end Sp
