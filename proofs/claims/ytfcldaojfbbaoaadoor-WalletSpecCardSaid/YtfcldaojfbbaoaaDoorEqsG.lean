/- The equations of the functions, part 7: what the evaluator answers is the plain function (no condition). -/
import Derived.Test.YtfcldaojfbbaoaaDoorEqsF
set_option linter.unusedVariables false
set_option linter.unusedSimpArgs false
set_option linter.unnecessarySimpa false
open Go Go.Proofs Ev
set_option linter.unusedSimpArgs false
set_option maxRecDepth 100000
set_option linter.unusedVariables false
namespace Sp
noncomputable section
set_option maxHeartbeats 4000000
set_option linter.unusedSimpArgs false
@[reducible, go_sem] def res22 (r : Bool) : Res × Heap := (.ret (.p (.bool r)), [])
theorem f22_ok (n : Nat) (a0 : Copy) : En.call (n + 1) (.f 22) [.p (e_Copy a0)] [] = (F.testamurref41_FewCopy a0).map res22 := by
  refine (c22 (n + 0) (.p (e_Copy a0)) []).trans ?_
  repeat' first
    | simp -implicitDefEqProofs only [*, go_sem, F.testamurref41_FewCopy, F.testamurref41_FewCopy_l0, reduceIte, reduceCtorEq, Nat.reduceAdd, Nat.reduceSub, Nat.reduceMul, Nat.reduceEqDiff, Nat.reduceLT, Nat.reduceLeDiff, Nat.reduceBEq, Nat.reduceBNe, Int.reduceToNat, Int.reduceLT, Int.reduceLE, Int.reduceEq, Int.reduceBEq, Int.reduceBNe, Int.reduceAdd, Int.reduceSub, Int.reduceMul, Int.reduceNeg, Int.reduceOfNat, Int.reduceNatCast, Nat.reducePow]
    | with_reducible refine bd_same (fun _ => ?_)
    | with_reducible refine br_nil (fun _ => ?_) (fun _ => ?_)
    | with_reducible refine br_split (fun _ => ?_) (fun _ => ?_)
    | ((with_reducible refine at_jn 2 ?_); (with_reducible refine loop_eq 2 (fun x1 => ⟨[(.p (.int .i64 x1)), (.ref 0 [])], [.var (.p (e_Copy a0)) false]⟩) (Sum.elim (fun r5 => (.ret, ⟨[(.ref 0 []), (.p (.bool false))], [.var (.p (e_Copy a0)) false]⟩)) (fun r5 => (.exit 0, ⟨[(.ref 0 []), .unk], [.var (.p (e_Copy a0)) false]⟩))) (F.testamurref41_FewCopy_l0 a0) 0 ?_ (fun x1 => ?_) (sumAll (fun r5 => ?_) (fun r5 => ?_))); focus rfl)
    | ((with_reducible refine at_jn 1 ?_); (with_reducible refine jn_map 1 (fun r4 => (.normal, ⟨[(.ref 0 []), (.p (.int .i64 x1)), (.p (.bool r4))], [.var (.p (e_Copy a0)) false]⟩)) ?_ (fun r4 => ?_)))
    | with_reducible refine (jx_bd _ _).trans ?_
    | rfl
    | simp -implicitDefEqProofs only [append_eq, appArg_eq, apT_slice, apT_str, slOf_sl, apA_nils, apA_own, apA_win, apO_row, go_sem, reduceIte, reduceCtorEq, Nat.reduceAdd, Nat.reduceSub, Nat.reduceMul, Nat.reduceEqDiff, Nat.reduceLT, Nat.reduceLeDiff, Nat.reduceBEq, Nat.reduceBNe, Int.reduceToNat, Int.reduceLT, Int.reduceLE, Int.reduceEq, Int.reduceBEq, Int.reduceBNe, Int.reduceAdd, Int.reduceSub, Int.reduceMul, Int.reduceNeg, Int.reduceOfNat, Int.reduceNatCast, Nat.reducePow]
    | (simp only [List.map_append]; rfl)
    | (simp only [List.map_append]; done)
@[reducible, go_sem] def res8 (r : Bool) : Res × Heap := (.ret (.p (.bool r)), [])
theorem f8_ok (n : Nat) (a0 : Wallet) : En.call (n + 2) (.f 8) [.p (e_Wallet a0)] [] = (F.testamurref41_Few a0).map res8 := by
  refine (c8 (n + 1) (.p (e_Wallet a0)) []).trans ?_
  repeat' first
    | simp -implicitDefEqProofs only [*, go_sem, F.testamurref41_Few, F.testamurref41_Few_l0, reduceIte, reduceCtorEq, Nat.reduceAdd, Nat.reduceSub, Nat.reduceMul, Nat.reduceEqDiff, Nat.reduceLT, Nat.reduceLeDiff, Nat.reduceBEq, Nat.reduceBNe, Int.reduceToNat, Int.reduceLT, Int.reduceLE, Int.reduceEq, Int.reduceBEq, Int.reduceBNe, Int.reduceAdd, Int.reduceSub, Int.reduceMul, Int.reduceNeg, Int.reduceOfNat, Int.reduceNatCast, Nat.reducePow]
    | with_reducible refine bd_same (fun _ => ?_)
    | with_reducible refine br_nil (fun _ => ?_) (fun _ => ?_)
    | with_reducible refine br_split (fun _ => ?_) (fun _ => ?_)
    | ((with_reducible refine at_jn 3 ?_); (with_reducible refine loop_eq 3 (fun x1 => ⟨[(.p (.int .i64 x1)), (.ref 0 [])], [.var (.p (e_Wallet a0)) false]⟩) (Sum.elim (fun r6 => (.ret, ⟨[(.ref 0 []), (.p (.bool false))], [.var (.p (e_Wallet a0)) false]⟩)) (fun r6 => (.exit 0, ⟨[(.ref 0 []), .unk], [.var (.p (e_Wallet a0)) false]⟩))) (F.testamurref41_Few_l0 a0) 0 ?_ (fun x1 => ?_) (sumAll (fun r6 => ?_) (fun r6 => ?_))); focus rfl)
    | ((with_reducible refine at_jn 2 ?_); (with_reducible refine jn_map 2 (fun r5 => (.normal, ⟨[(.ref 0 []), (.p (.int .i64 x1)), (.p (.bool r5))], [.var (.p (e_Wallet a0)) false]⟩)) ?_ (fun r5 => ?_)))
    | ((with_reducible refine at_jn 1 ?_); rename_i y2; (with_reducible refine cl_map 1 (enc := res22) ?_ (fun r3 => ?_)); focus exact f22_ok (n + 0) y2.Copy)
    | with_reducible refine (jx_bd _ _).trans ?_
    | rfl
    | simp -implicitDefEqProofs only [append_eq, appArg_eq, apT_slice, apT_str, slOf_sl, apA_nils, apA_own, apA_win, apO_row, go_sem, reduceIte, reduceCtorEq, Nat.reduceAdd, Nat.reduceSub, Nat.reduceMul, Nat.reduceEqDiff, Nat.reduceLT, Nat.reduceLeDiff, Nat.reduceBEq, Nat.reduceBNe, Int.reduceToNat, Int.reduceLT, Int.reduceLE, Int.reduceEq, Int.reduceBEq, Int.reduceBNe, Int.reduceAdd, Int.reduceSub, Int.reduceMul, Int.reduceNeg, Int.reduceOfNat, Int.reduceNatCast, Nat.reducePow]
    | (simp only [List.map_append]; rfl)
    | (simp only [List.map_append]; done)
@[reducible, go_sem] def res28 (r : Bool) : Res × Heap := (.ret (.p (.bool r)), [])
theorem f28_ok (n : Nat) (a0 : Int) (a1 : Int) (a2 : Int) : En.call (n + 1) (.f 28) [.p (.int .i64 a0), .p (.int .i64 a1), .p (.int .i64 a2)] [] = (F.testamurref41_in a0 a1 a2).map res28 := by
  refine (c28 (n + 0) (.p (.int .i64 a0)) (.p (.int .i64 a1)) (.p (.int .i64 a2)) []).trans ?_
  repeat' first
    | simp -implicitDefEqProofs only [*, go_sem, F.testamurref41_in, reduceIte, reduceCtorEq, Nat.reduceAdd, Nat.reduceSub, Nat.reduceMul, Nat.reduceEqDiff, Nat.reduceLT, Nat.reduceLeDiff, Nat.reduceBEq, Nat.reduceBNe, Int.reduceToNat, Int.reduceLT, Int.reduceLE, Int.reduceEq, Int.reduceBEq, Int.reduceBNe, Int.reduceAdd, Int.reduceSub, Int.reduceMul, Int.reduceNeg, Int.reduceOfNat, Int.reduceNatCast, Nat.reducePow]
    | with_reducible refine bd_same (fun _ => ?_)
    | with_reducible refine br_nil (fun _ => ?_) (fun _ => ?_)
    | with_reducible refine br_split (fun _ => ?_) (fun _ => ?_)
    | with_reducible refine (jx_bd _ _).trans ?_
    | rfl
    | simp -implicitDefEqProofs only [append_eq, appArg_eq, apT_slice, apT_str, slOf_sl, apA_nils, apA_own, apA_win, apO_row, go_sem, reduceIte, reduceCtorEq, Nat.reduceAdd, Nat.reduceSub, Nat.reduceMul, Nat.reduceEqDiff, Nat.reduceLT, Nat.reduceLeDiff, Nat.reduceBEq, Nat.reduceBNe, Int.reduceToNat, Int.reduceLT, Int.reduceLE, Int.reduceEq, Int.reduceBEq, Int.reduceBNe, Int.reduceAdd, Int.reduceSub, Int.reduceMul, Int.reduceNeg, Int.reduceOfNat, Int.reduceNatCast, Nat.reducePow]
    | (simp only [List.map_append]; rfl)
    | (simp only [List.map_append]; done)
@[reducible, go_sem] def res10 (r : Wallet × Int) : Res × Heap := (.ret (.tup [(.p (e_Wallet r.1)), (.p (.int .i64 r.2))]), [])
theorem f10_ok (n : Nat) (a0 : Int) : En.call (n + 2) (.f 10) [.p (.int .i64 a0)] [] = (F.testamurref41_New a0).map res10 := by
  refine (c10 (n + 1) (.p (.int .i64 a0)) []).trans ?_
  repeat' first
    | simp -implicitDefEqProofs only [*, go_sem, F.testamurref41_New, reduceIte, reduceCtorEq, Nat.reduceAdd, Nat.reduceSub, Nat.reduceMul, Nat.reduceEqDiff, Nat.reduceLT, Nat.reduceLeDiff, Nat.reduceBEq, Nat.reduceBNe, Int.reduceToNat, Int.reduceLT, Int.reduceLE, Int.reduceEq, Int.reduceBEq, Int.reduceBNe, Int.reduceAdd, Int.reduceSub, Int.reduceMul, Int.reduceNeg, Int.reduceOfNat, Int.reduceNatCast, Nat.reducePow]
    | with_reducible refine bd_same (fun _ => ?_)
    | with_reducible refine br_nil (fun _ => ?_) (fun _ => ?_)
    | with_reducible refine br_split (fun _ => ?_) (fun _ => ?_)
    | ((with_reducible refine at_jn 1 ?_); (with_reducible refine cl_map 1 (enc := res28) ?_ (fun r1 => ?_)); focus exact f28_ok (n + 0) a0 0 4095)
    | with_reducible refine (jx_bd _ _).trans ?_
    | rfl
    | simp -implicitDefEqProofs only [append_eq, appArg_eq, apT_slice, apT_str, slOf_sl, apA_nils, apA_own, apA_win, apO_row, go_sem, reduceIte, reduceCtorEq, Nat.reduceAdd, Nat.reduceSub, Nat.reduceMul, Nat.reduceEqDiff, Nat.reduceLT, Nat.reduceLeDiff, Nat.reduceBEq, Nat.reduceBNe, Int.reduceToNat, Int.reduceLT, Int.reduceLE, Int.reduceEq, Int.reduceBEq, Int.reduceBNe, Int.reduceAdd, Int.reduceSub, Int.reduceMul, Int.reduceNeg, Int.reduceOfNat, Int.reduceNatCast, Nat.reducePow]
    | (simp only [List.map_append]; rfl)
    | (simp only [List.map_append]; done)
end
end Sp
