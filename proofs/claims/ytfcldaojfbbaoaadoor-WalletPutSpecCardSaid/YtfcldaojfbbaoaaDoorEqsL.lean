/- The equations of the functions, part 12: what the evaluator answers is the plain function (no condition). -/
import Derived.Test.YtfcldaojfbbaoaaDoorEqsK
set_option linter.unusedVariables false
set_option linter.unusedSimpArgs false
set_option linter.unnecessarySimpa false
open Go Go.Proofs Ev
set_option linter.unusedSimpArgs false
set_option maxRecDepth 100000
set_option linter.unusedVariables false
namespace Sp
noncomputable section
set_option maxHeartbeats 4000000
set_option linter.unusedSimpArgs false
@[reducible, go_sem] def res41 (r : Bool) : Res × Heap := (.ret (.p (.bool r)), [])
theorem f41_ok (n : Nat) (a0 : Wallet) (a1 : Int) : En.call (n + 8) (.f 41) [.p (e_Wallet a0), .p (.int .i64 a1)] [] = (F.testamurref41_held a0 a1).map res41 := by
  refine (c41 (n + 7) (.p (e_Wallet a0)) (.p (.int .i64 a1)) []).trans ?_
  repeat' first
    | simp -implicitDefEqProofs only [*, go_sem, F.testamurref41_held, F.testamurref41_held_l0, reduceIte, reduceCtorEq, Nat.reduceAdd, Nat.reduceSub, Nat.reduceMul, Nat.reduceEqDiff, Nat.reduceLT, Nat.reduceLeDiff, Nat.reduceBEq, Nat.reduceBNe, Int.reduceToNat, Int.reduceLT, Int.reduceLE, Int.reduceEq, Int.reduceBEq, Int.reduceBNe, Int.reduceAdd, Int.reduceSub, Int.reduceMul, Int.reduceNeg, Int.reduceOfNat, Int.reduceNatCast, Nat.reducePow]
    | with_reducible refine bd_same (fun _ => ?_)
    | with_reducible refine br_nil (fun _ => ?_) (fun _ => ?_)
    | with_reducible refine br_split (fun _ => ?_) (fun _ => ?_)
    | ((with_reducible refine at_jn 8 ?_); rename_i y1; (with_reducible refine jn_map 8 (fun r6 => (.normal, ⟨[(.ref 0 []), (.p (.int .i64 a1)), (.ref 1 []), (.p (.bool r6))], [.var (.p (e_Held y1)) false, .var (.p (e_Wallet a0)) false]⟩)) ?_ (fun r6 => ?_)))
    | ((with_reducible refine (X_draw _ _ _ _ 38 [] 2 _ _ ?_).trans ?_); focus kernel_rfl)
    | ((with_reducible refine at_jn 1 ?_); (with_reducible refine cl_map 1 (enc := res51) ?_ (fun r2 => ?_)); focus exact f51_ok (n + 0) y1.Secret.Seed)
    | ((with_reducible refine at_jn 2 ?_); (with_reducible refine cl_map 2 (enc := res43) ?_ (fun r3 => ?_)); focus exact f43_ok (n + 6) y1.Copy.Links y1.Secret.Links)
    | ((with_reducible refine at_jn 3 ?_); rename_i y4; (with_reducible refine cl_map 3 (enc := res43) ?_ (fun r5 => ?_)); focus exact f43_ok (n + 6) y1.Copy.Links y4.Copy.Links)
    | ((with_reducible refine at_jn 7 ?_); (with_reducible refine loop_eq 7 (fun x7 => ⟨[(.ref 0 []), (.p (.int .i64 a1)), (.p (.int .i64 x7)), (.ref 1 [])], [.var (.p (e_Wallet a0)) false, .var (.p (e_Held y1)) false]⟩) (Sum.elim (fun r11 => (.ret, ⟨[(.ref 0 []), (.p (.bool false))], [.var (.p (e_Held y1)) false]⟩)) (fun r11 => (.exit 0, ⟨[(.ref 0 []), .unk], [.var (.p (e_Held y1)) false]⟩))) (F.testamurref41_held_l0 a1 a0 y1) 0 ?_ (fun x7 => ?_) (sumAll (fun r11 => ?_) (fun r11 => ?_))); focus rfl)
    | ((with_reducible refine at_jn 4 ?_); (with_reducible refine jn_map 4 (fun r10 => (.normal, ⟨[(.ref 0 []), (.p (.int .i64 a1)), (.ref 1 []), (.p (.int .i64 x7)), (.p (.bool r10))], [.var (.p (e_Held y1)) false, .var (.p (e_Wallet a0)) false]⟩)) ?_ (fun r10 => ?_)))
    | ((with_reducible refine (X_draw _ _ _ _ 24 [] 7 _ _ ?_).trans ?_); focus kernel_rfl)
    | ((with_reducible refine at_jn 5 ?_); (with_reducible refine cl_map 5 (enc := res28) ?_ (fun r12 => ?_)); focus exact f28_ok (n + 6) y1.Device 0 3)
    | ((with_reducible refine at_jn 6 ?_); (with_reducible refine cl_map 6 (enc := res28) ?_ (fun r13 => ?_)); focus exact f28_ok (n + 6) y1.State 0 3)
    | with_reducible refine (jx_bd _ _).trans ?_
    | rfl
    | simp -implicitDefEqProofs only [append_eq, appArg_eq, apT_slice, apT_str, slOf_sl, apA_nils, apA_own, apA_win, apO_row, go_sem, reduceIte, reduceCtorEq, Nat.reduceAdd, Nat.reduceSub, Nat.reduceMul, Nat.reduceEqDiff, Nat.reduceLT, Nat.reduceLeDiff, Nat.reduceBEq, Nat.reduceBNe, Int.reduceToNat, Int.reduceLT, Int.reduceLE, Int.reduceEq, Int.reduceBEq, Int.reduceBNe, Int.reduceAdd, Int.reduceSub, Int.reduceMul, Int.reduceNeg, Int.reduceOfNat, Int.reduceNatCast, Nat.reducePow]
    | (simp only [List.map_append]; rfl)
    | (simp only [List.map_append]; done)
@[reducible, go_sem] def res17 (r : Int) : Res × Heap := (.ret (.p (.int .i64 r)), [])
theorem f17_ok (n : Nat) (a0 : Wallet) : En.call (n + 9) (.f 17) [.p (e_Wallet a0)] [] = (F.testamurref41_Check a0).map res17 := by
  refine (c17 (n + 8) (.p (e_Wallet a0)) []).trans ?_
  repeat' first
    | simp -implicitDefEqProofs only [*, go_sem, F.testamurref41_Check, F.testamurref41_Check_l0, reduceIte, reduceCtorEq, Nat.reduceAdd, Nat.reduceSub, Nat.reduceMul, Nat.reduceEqDiff, Nat.reduceLT, Nat.reduceLeDiff, Nat.reduceBEq, Nat.reduceBNe, Int.reduceToNat, Int.reduceLT, Int.reduceLE, Int.reduceEq, Int.reduceBEq, Int.reduceBNe, Int.reduceAdd, Int.reduceSub, Int.reduceMul, Int.reduceNeg, Int.reduceOfNat, Int.reduceNatCast, Nat.reducePow]
    | with_reducible refine bd_same (fun _ => ?_)
    | with_reducible refine br_nil (fun _ => ?_) (fun _ => ?_)
    | with_reducible refine br_split (fun _ => ?_) (fun _ => ?_)
    | ((with_reducible refine at_jn 5 ?_); (with_reducible refine jn_map 5 (fun r3 => (.normal, ⟨[(.ref 0 []), (.p (.bool r3))], [.var (.p (e_Wallet a0)) false]⟩)) ?_ (fun r3 => ?_)))
    | ((with_reducible refine at_jn 1 ?_); (with_reducible refine cl_map 1 (enc := res28) ?_ (fun r1 => ?_)); focus exact f28_ok (n + 7) a0.Person 0 4095)
    | ((with_reducible refine at_jn 2 ?_); (with_reducible refine cl_map 2 (enc := res28) ?_ (fun r2 => ?_)); focus exact f28_ok (n + 7) a0.Link 0 4)
    | ((with_reducible refine at_jn 4 ?_); (with_reducible refine loop_eq 4 (fun x4 => ⟨[(.ref 0 []), (.p (.int .i64 x4))], [.var (.p (e_Wallet a0)) false]⟩) (Sum.elim (fun r6 => (.ret, ⟨[(.p (.int .i64 410))], []⟩)) (fun r6 => (.exit 0, ⟨[.unk], []⟩))) (F.testamurref41_Check_l0 a0) 0 ?_ (fun x4 => ?_) (sumAll (fun r6 => ?_) (fun r6 => ?_))); focus rfl)
    | ((with_reducible refine at_jn 3 ?_); (with_reducible refine cl_map 3 (enc := res41) ?_ (fun r5 => ?_)); focus exact f41_ok (n + 0) a0 x4)
    | with_reducible refine (jx_bd _ _).trans ?_
    | rfl
    | simp -implicitDefEqProofs only [append_eq, appArg_eq, apT_slice, apT_str, slOf_sl, apA_nils, apA_own, apA_win, apO_row, go_sem, reduceIte, reduceCtorEq, Nat.reduceAdd, Nat.reduceSub, Nat.reduceMul, Nat.reduceEqDiff, Nat.reduceLT, Nat.reduceLeDiff, Nat.reduceBEq, Nat.reduceBNe, Int.reduceToNat, Int.reduceLT, Int.reduceLE, Int.reduceEq, Int.reduceBEq, Int.reduceBNe, Int.reduceAdd, Int.reduceSub, Int.reduceMul, Int.reduceNeg, Int.reduceOfNat, Int.reduceNatCast, Nat.reducePow]
    | (simp only [List.map_append]; rfl)
    | (simp only [List.map_append]; done)
end
end Sp
