/- The equations of the functions, part 13: what the evaluator answers is the plain function (no condition). -/
import Derived.Test.YtfcldaojfbbaoaaDoorEqsL
set_option linter.unusedVariables false
set_option linter.unusedSimpArgs false
set_option linter.unnecessarySimpa false
open Go Go.Proofs Ev
set_option linter.unusedSimpArgs false
set_option maxRecDepth 100000
set_option linter.unusedVariables false
namespace Sp
noncomputable section
set_option maxHeartbeats 4000000
set_option linter.unusedSimpArgs false
@[reducible, go_sem] def res14 (r : Wallet × Int) : Res × Heap := (.ret (.tup [(.p (e_Wallet r.1)), (.p (.int .i64 r.2))]), [])
theorem f14_ok (n : Nat) (a0 : Wallet) (a1 : Int) : En.call (n + 10) (.f 14) [.p (e_Wallet a0), .p (.int .i64 a1)] [] = (F.testamurref41_Supersede a0 a1).map res14 := by
  refine (c14 (n + 9) (.p (e_Wallet a0)) (.p (.int .i64 a1)) []).trans ?_
  repeat' first
    | simp -implicitDefEqProofs only [*, go_sem, F.testamurref41_Supersede, F.testamurref41_Supersede_l0, reduceIte, reduceCtorEq, Nat.reduceAdd, Nat.reduceSub, Nat.reduceMul, Nat.reduceEqDiff, Nat.reduceLT, Nat.reduceLeDiff, Nat.reduceBEq, Nat.reduceBNe, Int.reduceToNat, Int.reduceLT, Int.reduceLE, Int.reduceEq, Int.reduceBEq, Int.reduceBNe, Int.reduceAdd, Int.reduceSub, Int.reduceMul, Int.reduceNeg, Int.reduceOfNat, Int.reduceNatCast, Nat.reducePow]
    | with_reducible refine bd_same (fun _ => ?_)
    | with_reducible refine br_nil (fun _ => ?_) (fun _ => ?_)
    | with_reducible refine br_split (fun _ => ?_) (fun _ => ?_)
    | ((with_reducible refine at_jn 1 ?_); (with_reducible refine cl_map 1 (enc := res17) ?_ (fun r1 => ?_)); focus exact f17_ok (n + 0) a0)
    | ((with_reducible refine at_jn 2 ?_); (with_reducible refine cl_map 2 (enc := res28) ?_ (fun r2 => ?_)); focus exact f28_ok (n + 8) a1 0 15)
    | ((with_reducible refine at_ap 3 ?_); (with_reducible refine ap_guard 3 ((.own 4 0), [.var (.p (e_Wallet a0)) false, .var (.agg [1, 1, 1] [(.p (.int .i64 0)), (.p (.int .i64 0)), (.nils 74)]) false, .var (.p (e_Wallet a0)) false, .dead, .row 74 (List.map e_Held a0.Held) false]) ?_ ?_))
    | ((with_reducible refine at_jn 6 ?_); (with_reducible refine loop_eq 6 (fun x3 => ⟨[(.p (.int .i64 a1)), (.p (.int .i64 x3.1)), (.ref 0 []), (.ref 2 [])], [.var (.agg [1, 1, 1] [(.p (.int .i64 a0.Person)), (.p (.int .i64 a0.Link)), (.own 1 0)]) false, .row 74 (List.map e_Held x3.2) false, .var (.agg [1, 1, 1] [(.p (.int .i64 0)), (.p (.int .i64 0)), (.own 3 0)]) false, .row 74 (List.map e_Held []) false]⟩) (fun r8 => (.exit 0, ⟨[(.ref 0 []), (.ref 2 [])], [.var (.agg [1, 1, 1] [(.p (.int .i64 0)), (.p (.int .i64 0)), (.own 1 0)]) false, .row 74 (List.map e_Held []) false, .var (.agg [1, 1, 1] [(.p (.int .i64 a0.Person)), (.p (.int .i64 a0.Link)), (.own 3 0)]) false, .row 74 (List.map e_Held r8) false]⟩)) (F.testamurref41_Supersede_l0 a1) (0, a0.Held) ?_ (fun x3 => ?_) (fun r8 => ?_)); focus rfl)
    | ((with_reducible refine at_jn 5 ?_); (with_reducible refine jn_map 5 (fun r6 => (.normal, ⟨[(.ref 0 []), (.ref 2 []), (.p (.int .i64 a1)), (.p (.int .i64 x3.1)), (.p (.bool r6))], [.var (.agg [1, 1, 1] [(.p (.int .i64 0)), (.p (.int .i64 0)), (.own 1 0)]) false, .row 74 (List.map e_Held []) false, .var (.agg [1, 1, 1] [(.p (.int .i64 a0.Person)), (.p (.int .i64 a0.Link)), (.own 3 0)]) false, .row 74 (List.map e_Held x3.2) false]⟩)) ?_ (fun r6 => ?_)))
    | ((with_reducible refine at_jn 4 ?_); (with_reducible refine cl_map 4 (enc := fun y7 => .row 74 (List.map e_Held (List.set x3.2 (Int.toNat x3.1) (Held.mk y7.Copy y7.Secret y7.Device 2))) false) ?_ (fun y7 => ?_)); focus exact oset_row (fun y7 => by first | rfl | (simp -implicitDefEqProofs only [*, go_sem, F.testamurref41_Supersede, F.testamurref41_Supersede_l0, reduceIte, reduceCtorEq, Nat.reduceAdd, Nat.reduceSub, Nat.reduceMul, Nat.reduceEqDiff, Nat.reduceLT, Nat.reduceLeDiff, Nat.reduceBEq, Nat.reduceBNe, Int.reduceToNat, Int.reduceLT, Int.reduceLE, Int.reduceEq, Int.reduceBEq, Int.reduceBNe, Int.reduceAdd, Int.reduceSub, Int.reduceMul, Int.reduceNeg, Int.reduceOfNat, Int.reduceNatCast, Nat.reducePow]; rfl)))
    | with_reducible refine (jx_bd _ _).trans ?_
    | rfl
    | simp -implicitDefEqProofs only [append_eq, appArg_eq, apT_slice, apT_str, slOf_sl, apA_nils, apA_own, apA_win, apO_row, go_sem, reduceIte, reduceCtorEq, Nat.reduceAdd, Nat.reduceSub, Nat.reduceMul, Nat.reduceEqDiff, Nat.reduceLT, Nat.reduceLeDiff, Nat.reduceBEq, Nat.reduceBNe, Int.reduceToNat, Int.reduceLT, Int.reduceLE, Int.reduceEq, Int.reduceBEq, Int.reduceBNe, Int.reduceAdd, Int.reduceSub, Int.reduceMul, Int.reduceNeg, Int.reduceOfNat, Int.reduceNatCast, Nat.reducePow]
    | (simp only [List.map_append]; rfl)
    | (simp only [List.map_append]; done)
@[reducible, go_sem] def res52 (r : Bool) : Res × Heap := (.ret (.p (.bool r)), [])
theorem f52_ok (n : Nat) (a0 : List Int) (a1 : List Int) : En.call (n + 1) (.f 52) [.p (.sl 1 (List.map (PD.int .i64) a0)), .p (.sl 1 (List.map (PD.int .i64) a1))] [] = (F.testamurref19_sameInts a0 a1).map res52 := by
  refine (c52 (n + 0) (.p (.sl 1 (List.map (PD.int .i64) a0))) (.p (.sl 1 (List.map (PD.int .i64) a1))) []).trans ?_
  repeat' first
    | simp -implicitDefEqProofs only [*, go_sem, F.testamurref19_sameInts, F.testamurref19_sameInts_l0, reduceIte, reduceCtorEq, Nat.reduceAdd, Nat.reduceSub, Nat.reduceMul, Nat.reduceEqDiff, Nat.reduceLT, Nat.reduceLeDiff, Nat.reduceBEq, Nat.reduceBNe, Int.reduceToNat, Int.reduceLT, Int.reduceLE, Int.reduceEq, Int.reduceBEq, Int.reduceBNe, Int.reduceAdd, Int.reduceSub, Int.reduceMul, Int.reduceNeg, Int.reduceOfNat, Int.reduceNatCast, Nat.reducePow]
    | with_reducible refine bd_same (fun _ => ?_)
    | with_reducible refine br_nil (fun _ => ?_) (fun _ => ?_)
    | with_reducible refine br_split (fun _ => ?_) (fun _ => ?_)
    | ((with_reducible refine at_jn 1 ?_); (with_reducible refine loop_eq 1 (fun x1 => ⟨[(.p (.sl 1 (List.map (PD.int .i64) a0))), (.p (.sl 1 (List.map (PD.int .i64) a1))), (.p (.int .i64 x1))], []⟩) (Sum.elim (fun r4 => (.ret, ⟨[(.p (.bool false))], []⟩)) (fun r4 => (.exit 0, ⟨[.unk], []⟩))) (F.testamurref19_sameInts_l0 a0 a1) 0 ?_ (fun x1 => ?_) (sumAll (fun r4 => ?_) (fun r4 => ?_))); focus rfl)
    | ((with_reducible refine (X_draw _ _ _ _ 9 [] 6 _ _ ?_).trans ?_); focus kernel_rfl)
    | with_reducible refine (jx_bd _ _).trans ?_
    | rfl
    | simp -implicitDefEqProofs only [append_eq, appArg_eq, apT_slice, apT_str, slOf_sl, apA_nils, apA_own, apA_win, apO_row, go_sem, reduceIte, reduceCtorEq, Nat.reduceAdd, Nat.reduceSub, Nat.reduceMul, Nat.reduceEqDiff, Nat.reduceLT, Nat.reduceLeDiff, Nat.reduceBEq, Nat.reduceBNe, Int.reduceToNat, Int.reduceLT, Int.reduceLE, Int.reduceEq, Int.reduceBEq, Int.reduceBNe, Int.reduceAdd, Int.reduceSub, Int.reduceMul, Int.reduceNeg, Int.reduceOfNat, Int.reduceNatCast, Nat.reducePow]
    | (simp only [List.map_append]; rfl)
    | (simp only [List.map_append]; done)
@[reducible, go_sem] def res59 (r : Bool) : Res × Heap := (.ret (.p (.bool r)), [])
theorem f59_ok (n : Nat) (a0 : Leaf) (a1 : Leaf) : En.call (n + 2) (.f 59) [.p (e_Leaf a0), .p (e_Leaf a1)] [] = (F.testamurref06_Same a0 a1).map res59 := by
  refine (c59 (n + 1) (.p (e_Leaf a0)) (.p (e_Leaf a1)) []).trans ?_
  repeat' first
    | simp -implicitDefEqProofs only [*, go_sem, F.testamurref06_Same, reduceIte, reduceCtorEq, Nat.reduceAdd, Nat.reduceSub, Nat.reduceMul, Nat.reduceEqDiff, Nat.reduceLT, Nat.reduceLeDiff, Nat.reduceBEq, Nat.reduceBNe, Int.reduceToNat, Int.reduceLT, Int.reduceLE, Int.reduceEq, Int.reduceBEq, Int.reduceBNe, Int.reduceAdd, Int.reduceSub, Int.reduceMul, Int.reduceNeg, Int.reduceOfNat, Int.reduceNatCast, Nat.reducePow]
    | with_reducible refine bd_same (fun _ => ?_)
    | with_reducible refine br_nil (fun _ => ?_) (fun _ => ?_)
    | with_reducible refine br_split (fun _ => ?_) (fun _ => ?_)
    | ((with_reducible refine at_jn 1 ?_); (with_reducible refine cl_map 1 (enc := res43) ?_ (fun r1 => ?_)); focus exact f43_ok (n + 0) a0.Chains a1.Chains)
    | ((with_reducible refine at_jn 2 ?_); (with_reducible refine cl_map 2 (enc := res43) ?_ (fun r2 => ?_)); focus exact f43_ok (n + 0) a0.Path a1.Path)
    | with_reducible refine (jx_bd _ _).trans ?_
    | rfl
    | simp -implicitDefEqProofs only [append_eq, appArg_eq, apT_slice, apT_str, slOf_sl, apA_nils, apA_own, apA_win, apO_row, go_sem, reduceIte, reduceCtorEq, Nat.reduceAdd, Nat.reduceSub, Nat.reduceMul, Nat.reduceEqDiff, Nat.reduceLT, Nat.reduceLeDiff, Nat.reduceBEq, Nat.reduceBNe, Int.reduceToNat, Int.reduceLT, Int.reduceLE, Int.reduceEq, Int.reduceBEq, Int.reduceBNe, Int.reduceAdd, Int.reduceSub, Int.reduceMul, Int.reduceNeg, Int.reduceOfNat, Int.reduceNatCast, Nat.reducePow]
    | (simp only [List.map_append]; rfl)
    | (simp only [List.map_append]; done)
@[reducible, go_sem] def res53 (r : Bool) : Res × Heap := (.ret (.p (.bool r)), [])
theorem f53_ok (n : Nat) (a0 : List Leaf) (a1 : List Leaf) : En.call (n + 3) (.f 53) [.p (.sl 3 (List.map e_Leaf a0)), .p (.sl 3 (List.map e_Leaf a1))] [] = (F.testamurref19_sameLeaves a0 a1).map res53 := by
  refine (c53 (n + 2) (.p (.sl 3 (List.map e_Leaf a0))) (.p (.sl 3 (List.map e_Leaf a1))) []).trans ?_
  repeat' first
    | simp -implicitDefEqProofs only [*, go_sem, F.testamurref19_sameLeaves, F.testamurref19_sameLeaves_l0, reduceIte, reduceCtorEq, Nat.reduceAdd, Nat.reduceSub, Nat.reduceMul, Nat.reduceEqDiff, Nat.reduceLT, Nat.reduceLeDiff, Nat.reduceBEq, Nat.reduceBNe, Int.reduceToNat, Int.reduceLT, Int.reduceLE, Int.reduceEq, Int.reduceBEq, Int.reduceBNe, Int.reduceAdd, Int.reduceSub, Int.reduceMul, Int.reduceNeg, Int.reduceOfNat, Int.reduceNatCast, Nat.reducePow]
    | with_reducible refine bd_same (fun _ => ?_)
    | with_reducible refine br_nil (fun _ => ?_) (fun _ => ?_)
    | with_reducible refine br_split (fun _ => ?_) (fun _ => ?_)
    | ((with_reducible refine at_jn 2 ?_); (with_reducible refine loop_eq 2 (fun x1 => ⟨[(.p (.sl 3 (List.map e_Leaf a0))), (.p (.sl 3 (List.map e_Leaf a1))), (.p (.int .i64 x1))], []⟩) (Sum.elim (fun r5 => (.ret, ⟨[(.p (.bool false))], []⟩)) (fun r5 => (.exit 0, ⟨[.unk], []⟩))) (F.testamurref19_sameLeaves_l0 a0 a1) 0 ?_ (fun x1 => ?_) (sumAll (fun r5 => ?_) (fun r5 => ?_))); focus rfl)
    | ((with_reducible refine (X_draw _ _ _ _ 10 [] 6 _ _ ?_).trans ?_); focus kernel_rfl)
    | ((with_reducible refine at_jn 1 ?_); rename_i y2 y3; (with_reducible refine cl_map 1 (enc := res59) ?_ (fun r4 => ?_)); focus exact f59_ok (n + 0) y2 y3)
    | with_reducible refine (jx_bd _ _).trans ?_
    | rfl
    | simp -implicitDefEqProofs only [append_eq, appArg_eq, apT_slice, apT_str, slOf_sl, apA_nils, apA_own, apA_win, apO_row, go_sem, reduceIte, reduceCtorEq, Nat.reduceAdd, Nat.reduceSub, Nat.reduceMul, Nat.reduceEqDiff, Nat.reduceLT, Nat.reduceLeDiff, Nat.reduceBEq, Nat.reduceBNe, Int.reduceToNat, Int.reduceLT, Int.reduceLE, Int.reduceEq, Int.reduceBEq, Int.reduceBNe, Int.reduceAdd, Int.reduceSub, Int.reduceMul, Int.reduceNeg, Int.reduceOfNat, Int.reduceNatCast, Nat.reducePow]
    | (simp only [List.map_append]; rfl)
    | (simp only [List.map_append]; done)
@[reducible, go_sem] def res42 (r : Bool) : Res × Heap := (.ret (.p (.bool r)), [])
theorem f42_ok (n : Nat) (a0 : Copy) (a1 : Copy) : En.call (n + 4) (.f 42) [.p (e_Copy a0), .p (e_Copy a1)] [] = (F.testamurref19_Same a0 a1).map res42 := by
  refine (c42 (n + 3) (.p (e_Copy a0)) (.p (e_Copy a1)) []).trans ?_
  repeat' first
    | simp -implicitDefEqProofs only [*, go_sem, F.testamurref19_Same, reduceIte, reduceCtorEq, Nat.reduceAdd, Nat.reduceSub, Nat.reduceMul, Nat.reduceEqDiff, Nat.reduceLT, Nat.reduceLeDiff, Nat.reduceBEq, Nat.reduceBNe, Int.reduceToNat, Int.reduceLT, Int.reduceLE, Int.reduceEq, Int.reduceBEq, Int.reduceBNe, Int.reduceAdd, Int.reduceSub, Int.reduceMul, Int.reduceNeg, Int.reduceOfNat, Int.reduceNatCast, Nat.reducePow]
    | with_reducible refine bd_same (fun _ => ?_)
    | with_reducible refine br_nil (fun _ => ?_) (fun _ => ?_)
    | with_reducible refine br_split (fun _ => ?_) (fun _ => ?_)
    | ((with_reducible refine at_jn 1 ?_); (with_reducible refine cl_map 1 (enc := res52) ?_ (fun r1 => ?_)); focus exact f52_ok (n + 2) a0.Values a1.Values)
    | ((with_reducible refine at_jn 2 ?_); (with_reducible refine cl_map 2 (enc := res43) ?_ (fun r2 => ?_)); focus exact f43_ok (n + 2) a0.Links a1.Links)
    | ((with_reducible refine at_jn 3 ?_); (with_reducible refine cl_map 3 (enc := res53) ?_ (fun r3 => ?_)); focus exact f53_ok (n + 0) a0.Claims a1.Claims)
    | with_reducible refine (jx_bd _ _).trans ?_
    | rfl
    | simp -implicitDefEqProofs only [append_eq, appArg_eq, apT_slice, apT_str, slOf_sl, apA_nils, apA_own, apA_win, apO_row, go_sem, reduceIte, reduceCtorEq, Nat.reduceAdd, Nat.reduceSub, Nat.reduceMul, Nat.reduceEqDiff, Nat.reduceLT, Nat.reduceLeDiff, Nat.reduceBEq, Nat.reduceBNe, Int.reduceToNat, Int.reduceLT, Int.reduceLE, Int.reduceEq, Int.reduceBEq, Int.reduceBNe, Int.reduceAdd, Int.reduceSub, Int.reduceMul, Int.reduceNeg, Int.reduceOfNat, Int.reduceNatCast, Nat.reducePow]
    | (simp only [List.map_append]; rfl)
    | (simp only [List.map_append]; done)
@[reducible, go_sem] def res25 (r : Bool) : Res × Heap := (.ret (.p (.bool r)), [])
theorem f25_ok (n : Nat) (a0 : Held) (a1 : Held) : En.call (n + 5) (.f 25) [.p (e_Held a0), .p (e_Held a1)] [] = (F.testamurref41_SameHeld a0 a1).map res25 := by
  refine (c25 (n + 4) (.p (e_Held a0)) (.p (e_Held a1)) []).trans ?_
  repeat' first
    | simp -implicitDefEqProofs only [*, go_sem, F.testamurref41_SameHeld, reduceIte, reduceCtorEq, Nat.reduceAdd, Nat.reduceSub, Nat.reduceMul, Nat.reduceEqDiff, Nat.reduceLT, Nat.reduceLeDiff, Nat.reduceBEq, Nat.reduceBNe, Int.reduceToNat, Int.reduceLT, Int.reduceLE, Int.reduceEq, Int.reduceBEq, Int.reduceBNe, Int.reduceAdd, Int.reduceSub, Int.reduceMul, Int.reduceNeg, Int.reduceOfNat, Int.reduceNatCast, Nat.reducePow]
    | with_reducible refine bd_same (fun _ => ?_)
    | with_reducible refine br_nil (fun _ => ?_) (fun _ => ?_)
    | with_reducible refine br_split (fun _ => ?_) (fun _ => ?_)
    | ((with_reducible refine at_jn 1 ?_); (with_reducible refine cl_map 1 (enc := res42) ?_ (fun r1 => ?_)); focus exact f42_ok (n + 0) a0.Copy a1.Copy)
    | ((with_reducible refine at_jn 2 ?_); (with_reducible refine cl_map 2 (enc := res43) ?_ (fun r2 => ?_)); focus exact f43_ok (n + 3) a0.Secret.Links a1.Secret.Links)
    | with_reducible refine (jx_bd _ _).trans ?_
    | rfl
    | simp -implicitDefEqProofs only [append_eq, appArg_eq, apT_slice, apT_str, slOf_sl, apA_nils, apA_own, apA_win, apO_row, go_sem, reduceIte, reduceCtorEq, Nat.reduceAdd, Nat.reduceSub, Nat.reduceMul, Nat.reduceEqDiff, Nat.reduceLT, Nat.reduceLeDiff, Nat.reduceBEq, Nat.reduceBNe, Int.reduceToNat, Int.reduceLT, Int.reduceLE, Int.reduceEq, Int.reduceBEq, Int.reduceBNe, Int.reduceAdd, Int.reduceSub, Int.reduceMul, Int.reduceNeg, Int.reduceOfNat, Int.reduceNatCast, Nat.reducePow]
    | (simp only [List.map_append]; rfl)
    | (simp only [List.map_append]; done)
end
end Sp
