/- The equations of the functions, part 14: what the evaluator answers is the plain function (no condition). -/
import Derived.Test.YtfcldaojfbbaoaaDoorEqsM
set_option linter.unusedVariables false
set_option linter.unusedSimpArgs false
set_option linter.unnecessarySimpa false
open Go Go.Proofs Ev
set_option linter.unusedSimpArgs false
set_option maxRecDepth 100000
set_option linter.unusedVariables false
namespace Sp
noncomputable section
set_option maxHeartbeats 4000000
set_option linter.unusedSimpArgs false
@[reducible, go_sem] def res15 (r : Bool) : Res × Heap := (.ret (.p (.bool r)), [])
theorem f15_ok (n : Nat) (a0 : Wallet) (a1 : Wallet) : En.call (n + 6) (.f 15) [.p (e_Wallet a0), .p (e_Wallet a1)] [] = (F.testamurref41_Same a0 a1).map res15 := by
  refine (c15 (n + 5) (.p (e_Wallet a0)) (.p (e_Wallet a1)) []).trans ?_
  repeat' first
    | simp -implicitDefEqProofs only [*, go_sem, F.testamurref41_Same, F.testamurref41_Same_l0, reduceIte, reduceCtorEq, Nat.reduceAdd, Nat.reduceSub, Nat.reduceMul, Nat.reduceEqDiff, Nat.reduceLT, Nat.reduceLeDiff, Nat.reduceBEq, Nat.reduceBNe, Int.reduceToNat, Int.reduceLT, Int.reduceLE, Int.reduceEq, Int.reduceBEq, Int.reduceBNe, Int.reduceAdd, Int.reduceSub, Int.reduceMul, Int.reduceNeg, Int.reduceOfNat, Int.reduceNatCast, Nat.reducePow]
    | with_reducible refine bd_same (fun _ => ?_)
    | with_reducible refine br_nil (fun _ => ?_) (fun _ => ?_)
    | with_reducible refine br_split (fun _ => ?_) (fun _ => ?_)
    | ((with_reducible refine at_jn 3 ?_); (with_reducible refine jn_map 3 (fun r1 => (.normal, ⟨[(.ref 0 []), (.ref 1 []), (.p (.bool r1))], [.var (.p (e_Wallet a1)) false, .var (.p (e_Wallet a0)) false]⟩)) ?_ (fun r1 => ?_)))
    | ((with_reducible refine at_jn 2 ?_); (with_reducible refine loop_eq 2 (fun x2 => ⟨[(.ref 0 []), (.ref 1 []), (.p (.int .i64 x2))], [.var (.p (e_Wallet a0)) false, .var (.p (e_Wallet a1)) false]⟩) (Sum.elim (fun r6 => (.ret, ⟨[(.p (.bool false))], []⟩)) (fun r6 => (.exit 0, ⟨[.unk], []⟩))) (F.testamurref41_Same_l0 a0 a1) 0 ?_ (fun x2 => ?_) (sumAll (fun r6 => ?_) (fun r6 => ?_))); focus rfl)
    | ((with_reducible refine (X_draw _ _ _ _ 12 [] 6 _ _ ?_).trans ?_); focus kernel_rfl)
    | ((with_reducible refine at_jn 1 ?_); rename_i y3 y4; (with_reducible refine cl_map 1 (enc := res25) ?_ (fun r5 => ?_)); focus exact f25_ok (n + 0) y3 y4)
    | with_reducible refine (jx_bd _ _).trans ?_
    | rfl
    | simp -implicitDefEqProofs only [append_eq, appArg_eq, apT_slice, apT_str, slOf_sl, apA_nils, apA_own, apA_win, apO_row, go_sem, reduceIte, reduceCtorEq, Nat.reduceAdd, Nat.reduceSub, Nat.reduceMul, Nat.reduceEqDiff, Nat.reduceLT, Nat.reduceLeDiff, Nat.reduceBEq, Nat.reduceBNe, Int.reduceToNat, Int.reduceLT, Int.reduceLE, Int.reduceEq, Int.reduceBEq, Int.reduceBNe, Int.reduceAdd, Int.reduceSub, Int.reduceMul, Int.reduceNeg, Int.reduceOfNat, Int.reduceNatCast, Nat.reducePow]
    | (simp only [List.map_append]; rfl)
    | (simp only [List.map_append]; done)
@[reducible, go_sem] def res18 (r : Bool) : Res × Heap := (.ret (.p (.bool r)), [])
theorem f18_ok (n : Nat) (a0 : List Claims) (a1 : List Claims) : En.call (n + 2) (.f 18) [.p (.sl 3 (List.map e_Claims a0)), .p (.sl 3 (List.map e_Claims a1))] [] = (F.testamurref41_SameClaims a0 a1).map res18 := by
  refine (c18 (n + 1) (.p (.sl 3 (List.map e_Claims a0))) (.p (.sl 3 (List.map e_Claims a1))) []).trans ?_
  repeat' first
    | simp -implicitDefEqProofs only [*, go_sem, F.testamurref41_SameClaims, F.testamurref41_SameClaims_l0, reduceIte, reduceCtorEq, Nat.reduceAdd, Nat.reduceSub, Nat.reduceMul, Nat.reduceEqDiff, Nat.reduceLT, Nat.reduceLeDiff, Nat.reduceBEq, Nat.reduceBNe, Int.reduceToNat, Int.reduceLT, Int.reduceLE, Int.reduceEq, Int.reduceBEq, Int.reduceBNe, Int.reduceAdd, Int.reduceSub, Int.reduceMul, Int.reduceNeg, Int.reduceOfNat, Int.reduceNatCast, Nat.reducePow]
    | with_reducible refine bd_same (fun _ => ?_)
    | with_reducible refine br_nil (fun _ => ?_) (fun _ => ?_)
    | with_reducible refine br_split (fun _ => ?_) (fun _ => ?_)
    | ((with_reducible refine at_jn 4 ?_); (with_reducible refine loop_eq 4 (fun x1 => ⟨[(.p (.sl 3 (List.map e_Claims a0))), (.p (.sl 3 (List.map e_Claims a1))), (.p (.int .i64 x1))], []⟩) (Sum.elim (fun r11 => (.ret, ⟨[(.p (.bool false))], []⟩)) (fun r11 => (.exit 0, ⟨[.unk], []⟩))) (F.testamurref41_SameClaims_l0 a0 a1) 0 ?_ (fun x1 => ?_) (sumAll (fun r11 => ?_) (fun r11 => ?_))); focus rfl)
    | ((with_reducible refine at_jn 3 ?_); (with_reducible refine jn_map 3 (fun r10 => (.normal, ⟨[(.p (.sl 3 (List.map e_Claims a1))), (.p (.sl 3 (List.map e_Claims a0))), (.p (.int .i64 x1)), (.p (.bool r10))], []⟩)) ?_ (fun r10 => ?_)))
    | ((with_reducible refine (X_draw _ _ _ _ 39 [] 6 _ _ ?_).trans ?_); focus kernel_rfl)
    | ((with_reducible refine at_jn 1 ?_); rename_i y4 y5; (with_reducible refine cl_map 1 (enc := res34) ?_ (fun r6 => ?_)); focus exact f34_ok (n + 0) y4.Fields y5.Fields)
    | ((with_reducible refine at_jn 2 ?_); rename_i y7 y8; (with_reducible refine cl_map 2 (enc := res34) ?_ (fun r9 => ?_)); focus exact f34_ok (n + 0) y7.Values y8.Values)
    | with_reducible refine (jx_bd _ _).trans ?_
    | rfl
    | simp -implicitDefEqProofs only [append_eq, appArg_eq, apT_slice, apT_str, slOf_sl, apA_nils, apA_own, apA_win, apO_row, go_sem, reduceIte, reduceCtorEq, Nat.reduceAdd, Nat.reduceSub, Nat.reduceMul, Nat.reduceEqDiff, Nat.reduceLT, Nat.reduceLeDiff, Nat.reduceBEq, Nat.reduceBNe, Int.reduceToNat, Int.reduceLT, Int.reduceLE, Int.reduceEq, Int.reduceBEq, Int.reduceBNe, Int.reduceAdd, Int.reduceSub, Int.reduceMul, Int.reduceNeg, Int.reduceOfNat, Int.reduceNatCast, Nat.reducePow]
    | (simp only [List.map_append]; rfl)
    | (simp only [List.map_append]; done)
@[reducible, go_sem] def res21 (r : Int) : Res × Heap := (.ret (.p (.int .i64 r)), [])
theorem f21_ok (n : Nat) (a0 : Wallet) (a1 : Int) : En.call (n + 1) (.f 21) [.p (e_Wallet a0), .p (.int .i64 a1)] [] = (F.testamurref41_Left a0 a1).map res21 := by
  refine (c21 (n + 0) (.p (e_Wallet a0)) (.p (.int .i64 a1)) []).trans ?_
  repeat' first
    | simp -implicitDefEqProofs only [*, go_sem, F.testamurref41_Left, F.testamurref41_Left_l0, reduceIte, reduceCtorEq, Nat.reduceAdd, Nat.reduceSub, Nat.reduceMul, Nat.reduceEqDiff, Nat.reduceLT, Nat.reduceLeDiff, Nat.reduceBEq, Nat.reduceBNe, Int.reduceToNat, Int.reduceLT, Int.reduceLE, Int.reduceEq, Int.reduceBEq, Int.reduceBNe, Int.reduceAdd, Int.reduceSub, Int.reduceMul, Int.reduceNeg, Int.reduceOfNat, Int.reduceNatCast, Nat.reducePow]
    | with_reducible refine bd_same (fun _ => ?_)
    | with_reducible refine br_nil (fun _ => ?_) (fun _ => ?_)
    | with_reducible refine br_split (fun _ => ?_) (fun _ => ?_)
    | ((with_reducible refine at_jn 2 ?_); (with_reducible refine loop_eq 2 (fun x1 => ⟨[(.ref 0 []), (.p (.int .i64 a1)), (.p (.int .i64 x1.1)), (.p (.int .i64 x1.2))], [.var (.p (e_Wallet a0)) false]⟩) (fun r5 => (.exit 0, ⟨[(.p (.int .i64 r5))], []⟩)) (F.testamurref41_Left_l0 a0 a1) (0, 0) ?_ (fun x1 => ?_) (fun r5 => ?_)); focus rfl)
    | ((with_reducible refine at_jn 1 ?_); (with_reducible refine jn_map 1 (fun r4 => (.normal, ⟨[(.p (.int .i64 x1.2)), (.p (.int .i64 a1)), (.ref 0 []), (.p (.int .i64 x1.1)), (.p (.bool r4))], [.var (.p (e_Wallet a0)) false]⟩)) ?_ (fun r4 => ?_)))
    | with_reducible refine (jx_bd _ _).trans ?_
    | rfl
    | simp -implicitDefEqProofs only [append_eq, appArg_eq, apT_slice, apT_str, slOf_sl, apA_nils, apA_own, apA_win, apO_row, go_sem, reduceIte, reduceCtorEq, Nat.reduceAdd, Nat.reduceSub, Nat.reduceMul, Nat.reduceEqDiff, Nat.reduceLT, Nat.reduceLeDiff, Nat.reduceBEq, Nat.reduceBNe, Int.reduceToNat, Int.reduceLT, Int.reduceLE, Int.reduceEq, Int.reduceBEq, Int.reduceBNe, Int.reduceAdd, Int.reduceSub, Int.reduceMul, Int.reduceNeg, Int.reduceOfNat, Int.reduceNatCast, Nat.reducePow]
    | (simp only [List.map_append]; rfl)
    | (simp only [List.map_append]; done)
end
end Sp
