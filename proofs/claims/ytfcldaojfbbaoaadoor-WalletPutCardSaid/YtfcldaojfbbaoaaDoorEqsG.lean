/- The equations of the functions, part 7: what the evaluator answers is the plain function (no condition). -/
import Derived.Test.YtfcldaojfbbaoaaDoorEqsF
set_option linter.unusedVariables false
set_option linter.unusedSimpArgs false
set_option linter.unnecessarySimpa false
open Go Go.Proofs Ev
set_option linter.unusedSimpArgs false
set_option maxRecDepth 100000
set_option linter.unusedVariables false
namespace Sp
noncomputable section
set_option maxHeartbeats 4000000
set_option linter.unusedSimpArgs false
@[reducible, go_sem] def res22 (r : Bool) : Res × Heap := (.ret (.p (.bool r)), [])
theorem f22_ok (n : Nat) (a0 : Copy) : En.call (n + 1) (.f 22) [.p (e_Copy a0)] [] = (F.testamurref41_FewCopy a0).map res22 := by
  refine (c22 (n + 0) (.p (e_Copy a0)) []).trans ?_
  repeat' first
    | simp -implicitDefEqProofs only [*, go_sem, F.testamurref41_FewCopy, F.testamurref41_FewCopy_l0, reduceIte, reduceCtorEq, Nat.reduceAdd, Nat.reduceSub, Nat.reduceMul, Nat.reduceEqDiff, Nat.reduceLT, Nat.reduceLeDiff, Nat.reduceBEq, Nat.reduceBNe, Int.reduceToNat, Int.reduceLT, Int.reduceLE, Int.reduceEq, Int.reduceBEq, Int.reduceBNe, Int.reduceAdd, Int.reduceSub, Int.reduceMul, Int.reduceNeg, Int.reduceOfNat, Int.reduceNatCast, Nat.reducePow]
    | with_reducible refine bd_same (fun _ => ?_)
    | with_reducible refine br_nil (fun _ => ?_) (fun _ => ?_)
    | with_reducible refine br_split (fun _ => ?_) (fun _ => ?_)
    | ((with_reducible refine at_jn 2 ?_); (with_reducible refine loop_eq 2 (fun x1 => ⟨[(.p (.int .i64 x1)), (.ref 0 [])], [.var (.p (e_Copy a0)) false]⟩) (Sum.elim (fun r5 => (.ret, ⟨[(.ref 0 []), (.p (.bool false))], [.var (.p (e_Copy a0)) false]⟩)) (fun r5 => (.exit 0, ⟨[(.ref 0 []), .unk], [.var (.p (e_Copy a0)) false]⟩))) (F.testamurref41_FewCopy_l0 a0) 0 ?_ (fun x1 => ?_) (sumAll (fun r5 => ?_) (fun r5 => ?_))); focus rfl)
    | ((with_reducible refine at_jn 1 ?_); (with_reducible refine jn_map 1 (fun r4 => (.normal, ⟨[(.ref 0 []), (.p (.int .i64 x1)), (.p (.bool r4))], [.var (.p (e_Copy a0)) false]⟩)) ?_ (fun r4 => ?_)))
    | with_reducible refine (jx_bd _ _).trans ?_
    | rfl
    | simp -implicitDefEqProofs only [append_eq, appArg_eq, apT_slice, apT_str, slOf_sl, apA_nils, apA_own, apA_win, apO_row, go_sem, reduceIte, reduceCtorEq, Nat.reduceAdd, Nat.reduceSub, Nat.reduceMul, Nat.reduceEqDiff, Nat.reduceLT, Nat.reduceLeDiff, Nat.reduceBEq, Nat.reduceBNe, Int.reduceToNat, Int.reduceLT, Int.reduceLE, Int.reduceEq, Int.reduceBEq, Int.reduceBNe, Int.reduceAdd, Int.reduceSub, Int.reduceMul, Int.reduceNeg, Int.reduceOfNat, Int.reduceNatCast, Nat.reducePow]
    | (simp only [List.map_append]; rfl)
    | (simp only [List.map_append]; done)
@[reducible, go_sem] def res8 (r : Bool) : Res × Heap := (.ret (.p (.bool r)), [])
theorem f8_ok (n : Nat) (a0 : Wallet) : En.call (n + 2) (.f 8) [.p (e_Wallet a0)] [] = (F.testamurref41_Few a0).map res8 := by
  refine (c8 (n + 1) (.p (e_Wallet a0)) []).trans ?_
  repeat' first
    | simp -implicitDefEqProofs only [*, go_sem, F.testamurref41_Few, F.testamurref41_Few_l0, reduceIte, reduceCtorEq, Nat.reduceAdd, Nat.reduceSub, Nat.reduceMul, Nat.reduceEqDiff, Nat.reduceLT, Nat.reduceLeDiff, Nat.reduceBEq, Nat.reduceBNe, Int.reduceToNat, Int.reduceLT, Int.reduceLE, Int.reduceEq, Int.reduceBEq, Int.reduceBNe, Int.reduceAdd, Int.reduceSub, Int.reduceMul, Int.reduceNeg, Int.reduceOfNat, Int.reduceNatCast, Nat.reducePow]
    | with_reducible refine bd_same (fun _ => ?_)
    | with_reducible refine br_nil (fun _ => ?_) (fun _ => ?_)
    | with_reducible refine br_split (fun _ => ?_) (fun _ => ?_)
    | ((with_reducible refine at_jn 3 ?_); (with_reducible refine loop_eq 3 (fun x1 => ⟨[(.p (.int .i64 x1)), (.ref 0 [])], [.var (.p (e_Wallet a0)) false]⟩) (Sum.elim (fun r6 => (.ret, ⟨[(.ref 0 []), (.p (.bool false))], [.var (.p (e_Wallet a0)) false]⟩)) (fun r6 => (.exit 0, ⟨[(.ref 0 []), .unk], [.var (.p (e_Wallet a0)) false]⟩))) (F.testamurref41_Few_l0 a0) 0 ?_ (fun x1 => ?_) (sumAll (fun r6 => ?_) (fun r6 => ?_))); focus rfl)
    | ((with_reducible refine at_jn 2 ?_); (with_reducible refine jn_map 2 (fun r5 => (.normal, ⟨[(.ref 0 []), (.p (.int .i64 x1)), (.p (.bool r5))], [.var (.p (e_Wallet a0)) false]⟩)) ?_ (fun r5 => ?_)))
    | ((with_reducible refine at_jn 1 ?_); rename_i y2; (with_reducible refine cl_map 1 (enc := res22) ?_ (fun r3 => ?_)); focus exact f22_ok (n + 0) y2.Copy)
    | with_reducible refine (jx_bd _ _).trans ?_
    | rfl
    | simp -implicitDefEqProofs only [append_eq, appArg_eq, apT_slice, apT_str, slOf_sl, apA_nils, apA_own, apA_win, apO_row, go_sem, reduceIte, reduceCtorEq, Nat.reduceAdd, Nat.reduceSub, Nat.reduceMul, Nat.reduceEqDiff, Nat.reduceLT, Nat.reduceLeDiff, Nat.reduceBEq, Nat.reduceBNe, Int.reduceToNat, Int.reduceLT, Int.reduceLE, Int.reduceEq, Int.reduceBEq, Int.reduceBNe, Int.reduceAdd, Int.reduceSub, Int.reduceMul, Int.reduceNeg, Int.reduceOfNat, Int.reduceNatCast, Nat.reducePow]
    | (simp only [List.map_append]; rfl)
    | (simp only [List.map_append]; done)
@[reducible, go_sem] def res52 (r : Bool) : Res × Heap := (.ret (.p (.bool r)), [])
theorem f52_ok (n : Nat) (a0 : List Int) (a1 : List Int) : En.call (n + 1) (.f 52) [.p (.sl 1 (List.map (PD.int .i64) a0)), .p (.sl 1 (List.map (PD.int .i64) a1))] [] = (F.testamurref19_sameInts a0 a1).map res52 := by
  refine (c52 (n + 0) (.p (.sl 1 (List.map (PD.int .i64) a0))) (.p (.sl 1 (List.map (PD.int .i64) a1))) []).trans ?_
  repeat' first
    | simp -implicitDefEqProofs only [*, go_sem, F.testamurref19_sameInts, F.testamurref19_sameInts_l0, reduceIte, reduceCtorEq, Nat.reduceAdd, Nat.reduceSub, Nat.reduceMul, Nat.reduceEqDiff, Nat.reduceLT, Nat.reduceLeDiff, Nat.reduceBEq, Nat.reduceBNe, Int.reduceToNat, Int.reduceLT, Int.reduceLE, Int.reduceEq, Int.reduceBEq, Int.reduceBNe, Int.reduceAdd, Int.reduceSub, Int.reduceMul, Int.reduceNeg, Int.reduceOfNat, Int.reduceNatCast, Nat.reducePow]
    | with_reducible refine bd_same (fun _ => ?_)
    | with_reducible refine br_nil (fun _ => ?_) (fun _ => ?_)
    | with_reducible refine br_split (fun _ => ?_) (fun _ => ?_)
    | ((with_reducible refine at_jn 1 ?_); (with_reducible refine loop_eq 1 (fun x1 => ⟨[(.p (.sl 1 (List.map (PD.int .i64) a0))), (.p (.sl 1 (List.map (PD.int .i64) a1))), (.p (.int .i64 x1))], []⟩) (Sum.elim (fun r4 => (.ret, ⟨[(.p (.bool false))], []⟩)) (fun r4 => (.exit 0, ⟨[.unk], []⟩))) (F.testamurref19_sameInts_l0 a0 a1) 0 ?_ (fun x1 => ?_) (sumAll (fun r4 => ?_) (fun r4 => ?_))); focus rfl)
    | ((with_reducible refine (X_draw _ _ _ _ 9 [] 6 _ _ ?_).trans ?_); focus kernel_rfl)
    | with_reducible refine (jx_bd _ _).trans ?_
    | rfl
    | simp -implicitDefEqProofs only [append_eq, appArg_eq, apT_slice, apT_str, slOf_sl, apA_nils, apA_own, apA_win, apO_row, go_sem, reduceIte, reduceCtorEq, Nat.reduceAdd, Nat.reduceSub, Nat.reduceMul, Nat.reduceEqDiff, Nat.reduceLT, Nat.reduceLeDiff, Nat.reduceBEq, Nat.reduceBNe, Int.reduceToNat, Int.reduceLT, Int.reduceLE, Int.reduceEq, Int.reduceBEq, Int.reduceBNe, Int.reduceAdd, Int.reduceSub, Int.reduceMul, Int.reduceNeg, Int.reduceOfNat, Int.reduceNatCast, Nat.reducePow]
    | (simp only [List.map_append]; rfl)
    | (simp only [List.map_append]; done)
@[reducible, go_sem] def res43 (r : Bool) : Res × Heap := (.ret (.p (.bool r)), [])
theorem f43_ok (n : Nat) (a0 : List (List Int)) (a1 : List (List Int)) : En.call (n + 1) (.f 43) [.p (.sl 32 (List.map (PD.iarr .u8 32) a0)), .p (.sl 32 (List.map (PD.iarr .u8 32) a1))] [] = (F.testamurref02_Same a0 a1).map res43 := by
  refine (c43 (n + 0) (.p (.sl 32 (List.map (PD.iarr .u8 32) a0))) (.p (.sl 32 (List.map (PD.iarr .u8 32) a1))) []).trans ?_
  repeat' first
    | simp -implicitDefEqProofs only [*, go_sem, F.testamurref02_Same, F.testamurref02_Same_l0, reduceIte, reduceCtorEq, Nat.reduceAdd, Nat.reduceSub, Nat.reduceMul, Nat.reduceEqDiff, Nat.reduceLT, Nat.reduceLeDiff, Nat.reduceBEq, Nat.reduceBNe, Int.reduceToNat, Int.reduceLT, Int.reduceLE, Int.reduceEq, Int.reduceBEq, Int.reduceBNe, Int.reduceAdd, Int.reduceSub, Int.reduceMul, Int.reduceNeg, Int.reduceOfNat, Int.reduceNatCast, Nat.reducePow]
    | with_reducible refine bd_same (fun _ => ?_)
    | with_reducible refine br_nil (fun _ => ?_) (fun _ => ?_)
    | with_reducible refine br_split (fun _ => ?_) (fun _ => ?_)
    | ((with_reducible refine at_jn 1 ?_); (with_reducible refine loop_eq 1 (fun x1 => ⟨[(.p (.sl 32 (List.map (PD.iarr .u8 32) a0))), (.p (.sl 32 (List.map (PD.iarr .u8 32) a1))), (.p (.int .i64 x1))], []⟩) (Sum.elim (fun r4 => (.ret, ⟨[(.p (.bool false))], []⟩)) (fun r4 => (.exit 0, ⟨[.unk], []⟩))) (F.testamurref02_Same_l0 a0 a1) 0 ?_ (fun x1 => ?_) (sumAll (fun r4 => ?_) (fun r4 => ?_))); focus rfl)
    | ((with_reducible refine (X_draw _ _ _ _ 9 [] 6 _ _ ?_).trans ?_); focus kernel_rfl)
    | with_reducible refine (jx_bd _ _).trans ?_
    | rfl
    | simp -implicitDefEqProofs only [append_eq, appArg_eq, apT_slice, apT_str, slOf_sl, apA_nils, apA_own, apA_win, apO_row, go_sem, reduceIte, reduceCtorEq, Nat.reduceAdd, Nat.reduceSub, Nat.reduceMul, Nat.reduceEqDiff, Nat.reduceLT, Nat.reduceLeDiff, Nat.reduceBEq, Nat.reduceBNe, Int.reduceToNat, Int.reduceLT, Int.reduceLE, Int.reduceEq, Int.reduceBEq, Int.reduceBNe, Int.reduceAdd, Int.reduceSub, Int.reduceMul, Int.reduceNeg, Int.reduceOfNat, Int.reduceNatCast, Nat.reducePow]
    | (simp only [List.map_append]; rfl)
    | (simp only [List.map_append]; done)
@[reducible, go_sem] def res59 (r : Bool) : Res × Heap := (.ret (.p (.bool r)), [])
theorem f59_ok (n : Nat) (a0 : Leaf) (a1 : Leaf) : En.call (n + 2) (.f 59) [.p (e_Leaf a0), .p (e_Leaf a1)] [] = (F.testamurref06_Same a0 a1).map res59 := by
  refine (c59 (n + 1) (.p (e_Leaf a0)) (.p (e_Leaf a1)) []).trans ?_
  repeat' first
    | simp -implicitDefEqProofs only [*, go_sem, F.testamurref06_Same, reduceIte, reduceCtorEq, Nat.reduceAdd, Nat.reduceSub, Nat.reduceMul, Nat.reduceEqDiff, Nat.reduceLT, Nat.reduceLeDiff, Nat.reduceBEq, Nat.reduceBNe, Int.reduceToNat, Int.reduceLT, Int.reduceLE, Int.reduceEq, Int.reduceBEq, Int.reduceBNe, Int.reduceAdd, Int.reduceSub, Int.reduceMul, Int.reduceNeg, Int.reduceOfNat, Int.reduceNatCast, Nat.reducePow]
    | with_reducible refine bd_same (fun _ => ?_)
    | with_reducible refine br_nil (fun _ => ?_) (fun _ => ?_)
    | with_reducible refine br_split (fun _ => ?_) (fun _ => ?_)
    | ((with_reducible refine at_jn 1 ?_); (with_reducible refine cl_map 1 (enc := res43) ?_ (fun r1 => ?_)); focus exact f43_ok (n + 0) a0.Chains a1.Chains)
    | ((with_reducible refine at_jn 2 ?_); (with_reducible refine cl_map 2 (enc := res43) ?_ (fun r2 => ?_)); focus exact f43_ok (n + 0) a0.Path a1.Path)
    | with_reducible refine (jx_bd _ _).trans ?_
    | rfl
    | simp -implicitDefEqProofs only [append_eq, appArg_eq, apT_slice, apT_str, slOf_sl, apA_nils, apA_own, apA_win, apO_row, go_sem, reduceIte, reduceCtorEq, Nat.reduceAdd, Nat.reduceSub, Nat.reduceMul, Nat.reduceEqDiff, Nat.reduceLT, Nat.reduceLeDiff, Nat.reduceBEq, Nat.reduceBNe, Int.reduceToNat, Int.reduceLT, Int.reduceLE, Int.reduceEq, Int.reduceBEq, Int.reduceBNe, Int.reduceAdd, Int.reduceSub, Int.reduceMul, Int.reduceNeg, Int.reduceOfNat, Int.reduceNatCast, Nat.reducePow]
    | (simp only [List.map_append]; rfl)
    | (simp only [List.map_append]; done)
@[reducible, go_sem] def res53 (r : Bool) : Res × Heap := (.ret (.p (.bool r)), [])
theorem f53_ok (n : Nat) (a0 : List Leaf) (a1 : List Leaf) : En.call (n + 3) (.f 53) [.p (.sl 3 (List.map e_Leaf a0)), .p (.sl 3 (List.map e_Leaf a1))] [] = (F.testamurref19_sameLeaves a0 a1).map res53 := by
  refine (c53 (n + 2) (.p (.sl 3 (List.map e_Leaf a0))) (.p (.sl 3 (List.map e_Leaf a1))) []).trans ?_
  repeat' first
    | simp -implicitDefEqProofs only [*, go_sem, F.testamurref19_sameLeaves, F.testamurref19_sameLeaves_l0, reduceIte, reduceCtorEq, Nat.reduceAdd, Nat.reduceSub, Nat.reduceMul, Nat.reduceEqDiff, Nat.reduceLT, Nat.reduceLeDiff, Nat.reduceBEq, Nat.reduceBNe, Int.reduceToNat, Int.reduceLT, Int.reduceLE, Int.reduceEq, Int.reduceBEq, Int.reduceBNe, Int.reduceAdd, Int.reduceSub, Int.reduceMul, Int.reduceNeg, Int.reduceOfNat, Int.reduceNatCast, Nat.reducePow]
    | with_reducible refine bd_same (fun _ => ?_)
    | with_reducible refine br_nil (fun _ => ?_) (fun _ => ?_)
    | with_reducible refine br_split (fun _ => ?_) (fun _ => ?_)
    | ((with_reducible refine at_jn 2 ?_); (with_reducible refine loop_eq 2 (fun x1 => ⟨[(.p (.sl 3 (List.map e_Leaf a0))), (.p (.sl 3 (List.map e_Leaf a1))), (.p (.int .i64 x1))], []⟩) (Sum.elim (fun r5 => (.ret, ⟨[(.p (.bool false))], []⟩)) (fun r5 => (.exit 0, ⟨[.unk], []⟩))) (F.testamurref19_sameLeaves_l0 a0 a1) 0 ?_ (fun x1 => ?_) (sumAll (fun r5 => ?_) (fun r5 => ?_))); focus rfl)
    | ((with_reducible refine (X_draw _ _ _ _ 10 [] 6 _ _ ?_).trans ?_); focus kernel_rfl)
    | ((with_reducible refine at_jn 1 ?_); rename_i y2 y3; (with_reducible refine cl_map 1 (enc := res59) ?_ (fun r4 => ?_)); focus exact f59_ok (n + 0) y2 y3)
    | with_reducible refine (jx_bd _ _).trans ?_
    | rfl
    | simp -implicitDefEqProofs only [append_eq, appArg_eq, apT_slice, apT_str, slOf_sl, apA_nils, apA_own, apA_win, apO_row, go_sem, reduceIte, reduceCtorEq, Nat.reduceAdd, Nat.reduceSub, Nat.reduceMul, Nat.reduceEqDiff, Nat.reduceLT, Nat.reduceLeDiff, Nat.reduceBEq, Nat.reduceBNe, Int.reduceToNat, Int.reduceLT, Int.reduceLE, Int.reduceEq, Int.reduceBEq, Int.reduceBNe, Int.reduceAdd, Int.reduceSub, Int.reduceMul, Int.reduceNeg, Int.reduceOfNat, Int.reduceNatCast, Nat.reducePow]
    | (simp only [List.map_append]; rfl)
    | (simp only [List.map_append]; done)
@[reducible, go_sem] def res42 (r : Bool) : Res × Heap := (.ret (.p (.bool r)), [])
theorem f42_ok (n : Nat) (a0 : Copy) (a1 : Copy) : En.call (n + 4) (.f 42) [.p (e_Copy a0), .p (e_Copy a1)] [] = (F.testamurref19_Same a0 a1).map res42 := by
  refine (c42 (n + 3) (.p (e_Copy a0)) (.p (e_Copy a1)) []).trans ?_
  repeat' first
    | simp -implicitDefEqProofs only [*, go_sem, F.testamurref19_Same, reduceIte, reduceCtorEq, Nat.reduceAdd, Nat.reduceSub, Nat.reduceMul, Nat.reduceEqDiff, Nat.reduceLT, Nat.reduceLeDiff, Nat.reduceBEq, Nat.reduceBNe, Int.reduceToNat, Int.reduceLT, Int.reduceLE, Int.reduceEq, Int.reduceBEq, Int.reduceBNe, Int.reduceAdd, Int.reduceSub, Int.reduceMul, Int.reduceNeg, Int.reduceOfNat, Int.reduceNatCast, Nat.reducePow]
    | with_reducible refine bd_same (fun _ => ?_)
    | with_reducible refine br_nil (fun _ => ?_) (fun _ => ?_)
    | with_reducible refine br_split (fun _ => ?_) (fun _ => ?_)
    | ((with_reducible refine at_jn 1 ?_); (with_reducible refine cl_map 1 (enc := res52) ?_ (fun r1 => ?_)); focus exact f52_ok (n + 2) a0.Values a1.Values)
    | ((with_reducible refine at_jn 2 ?_); (with_reducible refine cl_map 2 (enc := res43) ?_ (fun r2 => ?_)); focus exact f43_ok (n + 2) a0.Links a1.Links)
    | ((with_reducible refine at_jn 3 ?_); (with_reducible refine cl_map 3 (enc := res53) ?_ (fun r3 => ?_)); focus exact f53_ok (n + 0) a0.Claims a1.Claims)
    | with_reducible refine (jx_bd _ _).trans ?_
    | rfl
    | simp -implicitDefEqProofs only [append_eq, appArg_eq, apT_slice, apT_str, slOf_sl, apA_nils, apA_own, apA_win, apO_row, go_sem, reduceIte, reduceCtorEq, Nat.reduceAdd, Nat.reduceSub, Nat.reduceMul, Nat.reduceEqDiff, Nat.reduceLT, Nat.reduceLeDiff, Nat.reduceBEq, Nat.reduceBNe, Int.reduceToNat, Int.reduceLT, Int.reduceLE, Int.reduceEq, Int.reduceBEq, Int.reduceBNe, Int.reduceAdd, Int.reduceSub, Int.reduceMul, Int.reduceNeg, Int.reduceOfNat, Int.reduceNatCast, Nat.reducePow]
    | (simp only [List.map_append]; rfl)
    | (simp only [List.map_append]; done)
@[reducible, go_sem] def res25 (r : Bool) : Res × Heap := (.ret (.p (.bool r)), [])
theorem f25_ok (n : Nat) (a0 : Held) (a1 : Held) : En.call (n + 5) (.f 25) [.p (e_Held a0), .p (e_Held a1)] [] = (F.testamurref41_SameHeld a0 a1).map res25 := by
  refine (c25 (n + 4) (.p (e_Held a0)) (.p (e_Held a1)) []).trans ?_
  repeat' first
    | simp -implicitDefEqProofs only [*, go_sem, F.testamurref41_SameHeld, reduceIte, reduceCtorEq, Nat.reduceAdd, Nat.reduceSub, Nat.reduceMul, Nat.reduceEqDiff, Nat.reduceLT, Nat.reduceLeDiff, Nat.reduceBEq, Nat.reduceBNe, Int.reduceToNat, Int.reduceLT, Int.reduceLE, Int.reduceEq, Int.reduceBEq, Int.reduceBNe, Int.reduceAdd, Int.reduceSub, Int.reduceMul, Int.reduceNeg, Int.reduceOfNat, Int.reduceNatCast, Nat.reducePow]
    | with_reducible refine bd_same (fun _ => ?_)
    | with_reducible refine br_nil (fun _ => ?_) (fun _ => ?_)
    | with_reducible refine br_split (fun _ => ?_) (fun _ => ?_)
    | ((with_reducible refine at_jn 1 ?_); (with_reducible refine cl_map 1 (enc := res42) ?_ (fun r1 => ?_)); focus exact f42_ok (n + 0) a0.Copy a1.Copy)
    | ((with_reducible refine at_jn 2 ?_); (with_reducible refine cl_map 2 (enc := res43) ?_ (fun r2 => ?_)); focus exact f43_ok (n + 3) a0.Secret.Links a1.Secret.Links)
    | with_reducible refine (jx_bd _ _).trans ?_
    | rfl
    | simp -implicitDefEqProofs only [append_eq, appArg_eq, apT_slice, apT_str, slOf_sl, apA_nils, apA_own, apA_win, apO_row, go_sem, reduceIte, reduceCtorEq, Nat.reduceAdd, Nat.reduceSub, Nat.reduceMul, Nat.reduceEqDiff, Nat.reduceLT, Nat.reduceLeDiff, Nat.reduceBEq, Nat.reduceBNe, Int.reduceToNat, Int.reduceLT, Int.reduceLE, Int.reduceEq, Int.reduceBEq, Int.reduceBNe, Int.reduceAdd, Int.reduceSub, Int.reduceMul, Int.reduceNeg, Int.reduceOfNat, Int.reduceNatCast, Nat.reducePow]
    | (simp only [List.map_append]; rfl)
    | (simp only [List.map_append]; done)
end
end Sp
