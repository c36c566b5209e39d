/- The equations of the functions, part 15: what the evaluator answers is the plain function (no condition). -/
import Derived.Test.YtfcldaojfbbaoaaDoorEqsN
set_option linter.unusedVariables false
set_option linter.unusedSimpArgs false
set_option linter.unnecessarySimpa false
open Go Go.Proofs Ev
set_option linter.unusedSimpArgs false
set_option maxRecDepth 100000
set_option linter.unusedVariables false
namespace Sp
noncomputable section
set_option maxHeartbeats 4000000
set_option linter.unusedSimpArgs false
@[reducible, go_sem] def res3 (r : Bool) : Res × Heap := (.ret (.p (.bool r)), [])
theorem f3_ok (n : Nat) (a0 : Wallet) (a1 : Int) (a2 : Int) (a3 : Int) : En.call (n + 15) (.f 3) [.p (e_Wallet a0), .p (.int .i64 a1), .p (.int .i64 a2), .p (.int .i64 a3)] [] = (F.testamurlaw41_WalletSpec a0 a1 a2 a3).map res3 := by
  refine (c3 (n + 14) (.p (e_Wallet a0)) (.p (.int .i64 a1)) (.p (.int .i64 a2)) (.p (.int .i64 a3)) []).trans ?_
  repeat' first
    | simp -implicitDefEqProofs only [*, go_sem, F.testamurlaw41_WalletSpec, reduceIte, reduceCtorEq, Nat.reduceAdd, Nat.reduceSub, Nat.reduceMul, Nat.reduceEqDiff, Nat.reduceLT, Nat.reduceLeDiff, Nat.reduceBEq, Nat.reduceBNe, Int.reduceToNat, Int.reduceLT, Int.reduceLE, Int.reduceEq, Int.reduceBEq, Int.reduceBNe, Int.reduceAdd, Int.reduceSub, Int.reduceMul, Int.reduceNeg, Int.reduceOfNat, Int.reduceNatCast, Nat.reducePow]
    | with_reducible refine bd_same (fun _ => ?_)
    | with_reducible refine br_nil (fun _ => ?_) (fun _ => ?_)
    | with_reducible refine br_split (fun _ => ?_) (fun _ => ?_)
    | ((with_reducible refine at_jn 1 ?_); (with_reducible refine cl_map 1 (enc := res7) ?_ (fun r1 => ?_)); focus exact f7_ok (n + 0))
    | ((with_reducible refine at_jn 2 ?_); (with_reducible refine cl_map 2 (enc := res8) ?_ (fun r2 => ?_)); focus exact f8_ok (n + 12) a0)
    | ((with_reducible refine at_jn 3 ?_); (with_reducible refine cl_map 3 (enc := res9) ?_ (fun r3 => ?_)); focus exact f9_ok (n + 12) a1)
    | ((with_reducible refine at_jn 4 ?_); (with_reducible refine cl_map 4 (enc := res10) ?_ (fun r4 => ?_)); focus exact f10_ok (n + 12) a1)
    | ((with_reducible refine at_jn 5 ?_); (with_reducible refine cl_map 5 (enc := res11) ?_ (fun r5 => ?_)); focus exact f11_ok (n + 9) a0 a2)
    | ((with_reducible refine at_jn 6 ?_); (with_reducible refine cl_map 6 (enc := res12) ?_ (fun r6 => ?_)); focus exact f12_ok (n + 12) a0 a2)
    | ((with_reducible refine at_jn 7 ?_); (with_reducible refine cl_map 7 (enc := res13) ?_ (fun r7 => ?_)); focus exact f13_ok (n + 1) a0 a3)
    | ((with_reducible refine at_jn 8 ?_); (with_reducible refine cl_map 8 (enc := res14) ?_ (fun r8 => ?_)); focus exact f14_ok (n + 4) a0 a3)
    | ((with_reducible refine (X_draw _ _ _ _ 45 [] 11 _ _ ?_).trans ?_); focus kernel_rfl)
    | ((with_reducible refine at_jn 9 ?_); (with_reducible refine cl_map 9 (enc := res15) ?_ (fun r9 => ?_)); focus exact f15_ok (n + 8) r3.1 r4.1)
    | ((with_reducible refine at_jn 10 ?_); (with_reducible refine cl_map 10 (enc := res16) ?_ (fun r10 => ?_)); focus exact f16_ok (n + 2) a0)
    | ((with_reducible refine at_jn 11 ?_); (with_reducible refine cl_map 11 (enc := res17) ?_ (fun r11 => ?_)); focus exact f17_ok (n + 5) a0)
    | ((with_reducible refine at_jn 12 ?_); (with_reducible refine cl_map 12 (enc := res18) ?_ (fun r12 => ?_)); focus exact f18_ok (n + 12) r5.1 r6.1)
    | ((with_reducible refine at_jn 13 ?_); (with_reducible refine cl_map 13 (enc := res19) ?_ (fun r13 => ?_)); focus exact f19_ok (n + 12) r5.2 r6.2)
    | ((with_reducible refine at_jn 14 ?_); (with_reducible refine cl_map 14 (enc := res20) ?_ (fun r14 => ?_)); focus exact f20_ok (n + 10) a0 a3)
    | ((with_reducible refine at_jn 15 ?_); (with_reducible refine cl_map 15 (enc := res21) ?_ (fun r15 => ?_)); focus exact f21_ok (n + 13) a0 a3)
    | ((with_reducible refine at_jn 16 ?_); (with_reducible refine cl_map 16 (enc := res15) ?_ (fun r16 => ?_)); focus exact f15_ok (n + 8) r7.1 r8.1)
    | with_reducible refine (jx_bd _ _).trans ?_
    | rfl
    | simp -implicitDefEqProofs only [append_eq, appArg_eq, apT_slice, apT_str, slOf_sl, apA_nils, apA_own, apA_win, apO_row, go_sem, reduceIte, reduceCtorEq, Nat.reduceAdd, Nat.reduceSub, Nat.reduceMul, Nat.reduceEqDiff, Nat.reduceLT, Nat.reduceLeDiff, Nat.reduceBEq, Nat.reduceBNe, Int.reduceToNat, Int.reduceLT, Int.reduceLE, Int.reduceEq, Int.reduceBEq, Int.reduceBNe, Int.reduceAdd, Int.reduceSub, Int.reduceMul, Int.reduceNeg, Int.reduceOfNat, Int.reduceNatCast, Nat.reducePow]
    | (simp only [List.map_append]; rfl)
    | (simp only [List.map_append]; done)
end
end Sp
