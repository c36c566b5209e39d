/- The equations of the functions, part 5: what the evaluator answers is the plain function (no condition). -/
import Derived.Test.YtfcldaojfbbaoaaDoorEqsD
set_option linter.unusedVariables false
set_option linter.unusedSimpArgs false
set_option linter.unnecessarySimpa false
open Go Go.Proofs Ev
set_option linter.unusedSimpArgs false
set_option maxRecDepth 100000
set_option linter.unusedVariables false
namespace Sp
noncomputable section
set_option maxHeartbeats 4000000
set_option linter.unusedSimpArgs false
@[reducible, go_sem] def res36 (r : (List Int)) : Res × Heap := (.ret (.p (.sl 1 (List.map (PD.int .i64) r))), [])
theorem f36_ok (n : Nat) (a0 : Wallet) (a1 : Int) : En.call (n + 3) (.f 36) [.p (e_Wallet a0), .p (.int .i64 a1)] [] = (F.wallet_fresh a0 a1).map res36 := by
  refine (c36 (n + 2) (.p (e_Wallet a0)) (.p (.int .i64 a1)) []).trans ?_
  repeat' first
    | simp -implicitDefEqProofs only [*, go_sem, F.wallet_fresh, F.wallet_fresh_l0, c29, c47, reduceIte, reduceCtorEq, Nat.reduceAdd, Nat.reduceSub, Nat.reduceMul, Nat.reduceEqDiff, Nat.reduceLT, Nat.reduceLeDiff, Nat.reduceBEq, Nat.reduceBNe, Int.reduceToNat, Int.reduceLT, Int.reduceLE, Int.reduceEq, Int.reduceBEq, Int.reduceBNe, Int.reduceAdd, Int.reduceSub, Int.reduceMul, Int.reduceNeg, Int.reduceOfNat, Int.reduceNatCast, Nat.reducePow]
    | with_reducible refine bd_same (fun _ => ?_)
    | with_reducible refine br_nil (fun _ => ?_) (fun _ => ?_)
    | with_reducible refine br_split (fun _ => ?_) (fun _ => ?_)
    | ((with_reducible refine at_jn 4 ?_); (with_reducible refine jn_map 4 (fun r5 => (.ret (.own 2 0), [.var (.p (e_Wallet a0)) false, .var (.p (.int .i64 a1)) false, .row 1 (List.map (PD.int .i64) r5) false])) ?_ (fun r5 => ?_)))
    | ((with_reducible refine at_jn 3 ?_); (with_reducible refine loop_eq 3 (fun x1 => ⟨[(.p (.sl 74 (List.map e_Held a0.Held))), (.clo (.func 47) [] [(.ref 1 [])]), (.p (.int .i64 (Int.ofNat (List.length a0.Held)))), (.p (.int .i64 x1.1)), (.own 2 0)], [.var (.p (e_Wallet a0)) false, .var (.p (.int .i64 a1)) false, .row 1 (List.map (PD.int .i64) x1.2) false]⟩) (fun r4 => (.exit 0, ⟨[(.own 2 0)], [.var (.p (e_Wallet a0)) false, .var (.p (.int .i64 a1)) false, .row 1 (List.map (PD.int .i64) r4) false]⟩)) (F.wallet_fresh_l0 a0 a1) (0, []) ?_ (fun x1 => ?_) (fun r4 => ?_)); focus rfl)
    | ((with_reducible refine at_jn 2 ?_); rename_i y2; (with_reducible refine jn_map 2 (fun r3 => (.ret (.p (.bool r3)), [.var (.p (e_Wallet a0)) false, .var (.p (.int .i64 a1)) false, .row 1 (List.map (PD.int .i64) x1.2) false, .var (.p (e_Held y2)) false])) ?_ (fun r3 => ?_)))
    | ((with_reducible refine at_ap 1 ?_); (with_reducible refine ap_guard 1 ((.own 5 0), [.var (.p (e_Wallet a0)) false, .var (.p (.int .i64 a1)) false, .dead, .var (.p (e_Held y2)) false, .row 1 (List.map (PD.int .i64) [x1.1]) false, .row 1 (List.map (PD.int .i64) (x1.2 ++ [x1.1])) false]) ?_ ?_))
    | with_reducible refine (jx_bd _ _).trans ?_
    | rfl
    | simp -implicitDefEqProofs only [append_eq, appArg_eq, apT_slice, apT_str, slOf_sl, apA_nils, apA_own, apA_win, apO_row, go_sem, reduceIte, reduceCtorEq, Nat.reduceAdd, Nat.reduceSub, Nat.reduceMul, Nat.reduceEqDiff, Nat.reduceLT, Nat.reduceLeDiff, Nat.reduceBEq, Nat.reduceBNe, Int.reduceToNat, Int.reduceLT, Int.reduceLE, Int.reduceEq, Int.reduceBEq, Int.reduceBNe, Int.reduceAdd, Int.reduceSub, Int.reduceMul, Int.reduceNeg, Int.reduceOfNat, Int.reduceNatCast, Nat.reducePow]
    | (simp only [List.map_append]; rfl)
    | (simp only [List.map_append]; done)
@[reducible, go_sem] def res13 (r : Wallet × Int) : Res × Heap := (.ret (.tup [(.p (e_Wallet r.1)), (.p (.int .i64 r.2))]), [])
theorem f13_ok (n : Nat) (a0 : Wallet) (a1 : Int) : En.call (n + 13) (.f 13) [.p (e_Wallet a0), .p (.int .i64 a1)] [] = (F.wallet_Supersede a0 a1).map res13 := by
  refine (c13 (n + 12) (.p (e_Wallet a0)) (.p (.int .i64 a1)) []).trans ?_
  repeat' first
    | simp -implicitDefEqProofs only [*, go_sem, F.wallet_Supersede, F.wallet_Supersede_l0, c35, c37, c46, reduceIte, reduceCtorEq, Nat.reduceAdd, Nat.reduceSub, Nat.reduceMul, Nat.reduceEqDiff, Nat.reduceLT, Nat.reduceLeDiff, Nat.reduceBEq, Nat.reduceBNe, Int.reduceToNat, Int.reduceLT, Int.reduceLE, Int.reduceEq, Int.reduceBEq, Int.reduceBNe, Int.reduceAdd, Int.reduceSub, Int.reduceMul, Int.reduceNeg, Int.reduceOfNat, Int.reduceNatCast, Nat.reducePow]
    | with_reducible refine bd_same (fun _ => ?_)
    | with_reducible refine br_nil (fun _ => ?_) (fun _ => ?_)
    | with_reducible refine br_split (fun _ => ?_) (fun _ => ?_)
    | ((with_reducible refine at_jn 1 ?_); (with_reducible refine cl_map 1 (enc := res16) ?_ (fun r1 => ?_)); focus exact f16_ok (n + 0) a0)
    | ((with_reducible refine at_jn 2 ?_); (with_reducible refine cl_map 2 (enc := res27) ?_ (fun r2 => ?_)); focus exact f27_ok (n + 11) a1 0 15)
    | ((with_reducible refine (X_draw _ _ _ _ 4 [] 6 _ _ ?_).trans ?_); focus kernel_rfl)
    | ((with_reducible refine at_jn 3 ?_); (with_reducible refine cl_map 3 (enc := res36) ?_ (fun r3 => ?_)); focus exact f36_ok (n + 9) a0 a1)
    | ((with_reducible refine at_jn 9 ?_); (with_reducible refine jn_map 9 (fun r10 => (.ret (.agg [1, 1, 1] [(.p (.int .i64 a0.Person)), (.p (.int .i64 a0.Link)), (.own 3 0)]), [.var (.p (e_Wallet a0)) false, .var (.agg [1, 1, 1] [(.p (.int .i64 0)), (.p (.int .i64 0)), (.own 2 0)]) false, .row 74 (List.map e_Held []) false, .row 74 (List.map e_Held r10) false])) ?_ (fun r10 => ?_)))
    | ((with_reducible refine at_jn 8 ?_); (with_reducible refine jn_map 8 (fun r4 => (.ret (.own 4 0), [.var (.p (e_Wallet a0)) false, .var (.agg [1, 1, 1] [(.p (.int .i64 0)), (.p (.int .i64 0)), (.nils 74)]) false, .var (.p (e_Wallet a0)) false, .var (.agg [1, 1, 1] [(.p (.int .i64 0)), (.p (.int .i64 0)), (.nils 74)]) false, .row 74 (List.map e_Held r4) false])) ?_ (fun r4 => ?_)))
    | ((with_reducible refine at_ap 4 ?_); (with_reducible refine ap_guard 4 ((.own 5 0), [.var (.p (e_Wallet a0)) false, .var (.agg [1, 1, 1] [(.p (.int .i64 0)), (.p (.int .i64 0)), (.nils 74)]) false, .var (.p (e_Wallet a0)) false, .var (.agg [1, 1, 1] [(.p (.int .i64 0)), (.p (.int .i64 0)), (.nils 74)]) false, .dead, .row 74 (List.map e_Held a0.Held) false]) ?_ ?_))
    | ((with_reducible refine at_jn 7 ?_); (with_reducible refine loop_eq 7 (fun x5 => ⟨[(.p (.sl 1 (List.map (PD.int .i64) r3))), (.p (.fn (.func 37))), (.p (.int .i64 (Int.ofNat (List.length r3)))), (.p (.int .i64 x5.1)), (.ref 3 []), (.ref 5 [])], [.var (.p (e_Wallet a0)) false, .var (.agg [1, 1, 1] [(.p (.int .i64 0)), (.p (.int .i64 0)), (.own 2 0)]) false, .row 74 (List.map e_Held []) false, .var (.agg [1, 1, 1] [(.p (.int .i64 a0.Person)), (.p (.int .i64 a0.Link)), (.own 4 0)]) false, .row 74 (List.map e_Held x5.2) false, .var (.agg [1, 1, 1] [(.p (.int .i64 0)), (.p (.int .i64 0)), (.own 6 0)]) false, .row 74 (List.map e_Held []) false]⟩) (fun r9 => (.exit 0, ⟨[(.ref 3 []), (.ref 5 [])], [.var (.p (e_Wallet a0)) false, .var (.agg [1, 1, 1] [(.p (.int .i64 0)), (.p (.int .i64 0)), (.own 2 0)]) false, .row 74 (List.map e_Held []) false, .var (.agg [1, 1, 1] [(.p (.int .i64 0)), (.p (.int .i64 0)), (.own 4 0)]) false, .row 74 (List.map e_Held []) false, .var (.agg [1, 1, 1] [(.p (.int .i64 a0.Person)), (.p (.int .i64 a0.Link)), (.own 6 0)]) false, .row 74 (List.map e_Held r9) false]⟩)) (F.wallet_Supersede_l0 r3) (0, r4) ?_ (fun x5 => ?_) (fun r9 => ?_)); focus rfl)
    | ((with_reducible refine at_jn 6 ?_); (with_reducible refine jn_map 6 (fun r8 => (.ret (.tup []), [.var (.p (e_Wallet a0)) false, .var (.agg [1, 1, 1] [(.p (.int .i64 0)), (.p (.int .i64 0)), (.own 2 0)]) false, .row 74 (List.map e_Held []) false, .var (.agg [1, 1, 1] [(.p (.int .i64 a0.Person)), (.p (.int .i64 a0.Link)), (.own 4 0)]) false, .row 74 (List.map e_Held r8) false, .var (.agg [1, 1, 1] [(.p (.int .i64 0)), (.p (.int .i64 0)), (.own 6 0)]) false, .row 74 (List.map e_Held []) false])) ?_ (fun r8 => ?_)))
    | ((with_reducible refine at_jn 5 ?_); rename_i y6 _; (with_reducible refine cl_map 5 (enc := fun y7 => .row 74 (List.map e_Held (List.set x5.2 (Int.toNat y6) (Held.mk y7.Copy y7.Secret y7.Device 2))) false) ?_ (fun y7 => ?_)); focus exact oset_row (fun y7 => by first | rfl | (simp -implicitDefEqProofs only [*, go_sem, F.wallet_Supersede, F.wallet_Supersede_l0, c35, c37, c46, reduceIte, reduceCtorEq, Nat.reduceAdd, Nat.reduceSub, Nat.reduceMul, Nat.reduceEqDiff, Nat.reduceLT, Nat.reduceLeDiff, Nat.reduceBEq, Nat.reduceBNe, Int.reduceToNat, Int.reduceLT, Int.reduceLE, Int.reduceEq, Int.reduceBEq, Int.reduceBNe, Int.reduceAdd, Int.reduceSub, Int.reduceMul, Int.reduceNeg, Int.reduceOfNat, Int.reduceNatCast, Nat.reducePow]; rfl)))
    | with_reducible refine (jx_bd _ _).trans ?_
    | rfl
    | simp -implicitDefEqProofs only [append_eq, appArg_eq, apT_slice, apT_str, slOf_sl, apA_nils, apA_own, apA_win, apO_row, go_sem, reduceIte, reduceCtorEq, Nat.reduceAdd, Nat.reduceSub, Nat.reduceMul, Nat.reduceEqDiff, Nat.reduceLT, Nat.reduceLeDiff, Nat.reduceBEq, Nat.reduceBNe, Int.reduceToNat, Int.reduceLT, Int.reduceLE, Int.reduceEq, Int.reduceBEq, Int.reduceBNe, Int.reduceAdd, Int.reduceSub, Int.reduceMul, Int.reduceNeg, Int.reduceOfNat, Int.reduceNatCast, Nat.reducePow]
    | (simp only [List.map_append]; rfl)
    | (simp only [List.map_append]; done)
@[reducible, go_sem] def res34 (r : Bool) : Res × Heap := (.ret (.p (.bool r)), [])
theorem f34_ok (n : Nat) (a0 : List Int) (a1 : List Int) : En.call (n + 1) (.f 34) [.p (.sl 1 (List.map (PD.int .i64) a0)), .p (.sl 1 (List.map (PD.int .i64) a1))] [] = (F.testamurref41_sameInts a0 a1).map res34 := by
  refine (c34 (n + 0) (.p (.sl 1 (List.map (PD.int .i64) a0))) (.p (.sl 1 (List.map (PD.int .i64) a1))) []).trans ?_
  repeat' first
    | simp -implicitDefEqProofs only [*, go_sem, F.testamurref41_sameInts, F.testamurref41_sameInts_l0, reduceIte, reduceCtorEq, Nat.reduceAdd, Nat.reduceSub, Nat.reduceMul, Nat.reduceEqDiff, Nat.reduceLT, Nat.reduceLeDiff, Nat.reduceBEq, Nat.reduceBNe, Int.reduceToNat, Int.reduceLT, Int.reduceLE, Int.reduceEq, Int.reduceBEq, Int.reduceBNe, Int.reduceAdd, Int.reduceSub, Int.reduceMul, Int.reduceNeg, Int.reduceOfNat, Int.reduceNatCast, Nat.reducePow]
    | with_reducible refine bd_same (fun _ => ?_)
    | with_reducible refine br_nil (fun _ => ?_) (fun _ => ?_)
    | with_reducible refine br_split (fun _ => ?_) (fun _ => ?_)
    | ((with_reducible refine at_jn 1 ?_); (with_reducible refine loop_eq 1 (fun x1 => ⟨[(.p (.sl 1 (List.map (PD.int .i64) a0))), (.p (.sl 1 (List.map (PD.int .i64) a1))), (.p (.int .i64 x1))], []⟩) (Sum.elim (fun r4 => (.ret, ⟨[(.p (.bool false))], []⟩)) (fun r4 => (.exit 0, ⟨[.unk], []⟩))) (F.testamurref41_sameInts_l0 a0 a1) 0 ?_ (fun x1 => ?_) (sumAll (fun r4 => ?_) (fun r4 => ?_))); focus rfl)
    | ((with_reducible refine (X_draw _ _ _ _ 9 [] 6 _ _ ?_).trans ?_); focus kernel_rfl)
    | with_reducible refine (jx_bd _ _).trans ?_
    | rfl
    | simp -implicitDefEqProofs only [append_eq, appArg_eq, apT_slice, apT_str, slOf_sl, apA_nils, apA_own, apA_win, apO_row, go_sem, reduceIte, reduceCtorEq, Nat.reduceAdd, Nat.reduceSub, Nat.reduceMul, Nat.reduceEqDiff, Nat.reduceLT, Nat.reduceLeDiff, Nat.reduceBEq, Nat.reduceBNe, Int.reduceToNat, Int.reduceLT, Int.reduceLE, Int.reduceEq, Int.reduceBEq, Int.reduceBNe, Int.reduceAdd, Int.reduceSub, Int.reduceMul, Int.reduceNeg, Int.reduceOfNat, Int.reduceNatCast, Nat.reducePow]
    | (simp only [List.map_append]; rfl)
    | (simp only [List.map_append]; done)
@[reducible, go_sem] def res19 (r : Bool) : Res × Heap := (.ret (.p (.bool r)), [])
theorem f19_ok (n : Nat) (a0 : List Int) (a1 : List Int) : En.call (n + 2) (.f 19) [.p (.sl 1 (List.map (PD.int .i64) a0)), .p (.sl 1 (List.map (PD.int .i64) a1))] [] = (F.testamurref41_SameInts a0 a1).map res19 := by
  refine (c19 (n + 1) (.p (.sl 1 (List.map (PD.int .i64) a0))) (.p (.sl 1 (List.map (PD.int .i64) a1))) []).trans ?_
  repeat' first
    | simp -implicitDefEqProofs only [*, go_sem, F.testamurref41_SameInts, reduceIte, reduceCtorEq, Nat.reduceAdd, Nat.reduceSub, Nat.reduceMul, Nat.reduceEqDiff, Nat.reduceLT, Nat.reduceLeDiff, Nat.reduceBEq, Nat.reduceBNe, Int.reduceToNat, Int.reduceLT, Int.reduceLE, Int.reduceEq, Int.reduceBEq, Int.reduceBNe, Int.reduceAdd, Int.reduceSub, Int.reduceMul, Int.reduceNeg, Int.reduceOfNat, Int.reduceNatCast, Nat.reducePow]
    | with_reducible refine bd_same (fun _ => ?_)
    | with_reducible refine br_nil (fun _ => ?_) (fun _ => ?_)
    | with_reducible refine br_split (fun _ => ?_) (fun _ => ?_)
    | ((with_reducible refine at_jn 1 ?_); (with_reducible refine cl_map 1 (enc := res34) ?_ (fun r1 => ?_)); focus exact f34_ok (n + 0) a0 a1)
    | with_reducible refine (jx_bd _ _).trans ?_
    | rfl
    | simp -implicitDefEqProofs only [append_eq, appArg_eq, apT_slice, apT_str, slOf_sl, apA_nils, apA_own, apA_win, apO_row, go_sem, reduceIte, reduceCtorEq, Nat.reduceAdd, Nat.reduceSub, Nat.reduceMul, Nat.reduceEqDiff, Nat.reduceLT, Nat.reduceLeDiff, Nat.reduceBEq, Nat.reduceBNe, Int.reduceToNat, Int.reduceLT, Int.reduceLE, Int.reduceEq, Int.reduceBEq, Int.reduceBNe, Int.reduceAdd, Int.reduceSub, Int.reduceMul, Int.reduceNeg, Int.reduceOfNat, Int.reduceNatCast, Nat.reducePow]
    | (simp only [List.map_append]; rfl)
    | (simp only [List.map_append]; done)
@[reducible, go_sem] def res20 (r : Int) : Res × Heap := (.ret (.p (.int .i64 r)), [])
theorem f20_ok (n : Nat) (a0 : Wallet) (a1 : Int) : En.call (n + 4) (.f 20) [.p (e_Wallet a0), .p (.int .i64 a1)] [] = (F.wallet_Left a0 a1).map res20 := by
  refine (c20 (n + 3) (.p (e_Wallet a0)) (.p (.int .i64 a1)) []).trans ?_
  repeat' first
    | simp -implicitDefEqProofs only [*, go_sem, F.wallet_Left, reduceIte, reduceCtorEq, Nat.reduceAdd, Nat.reduceSub, Nat.reduceMul, Nat.reduceEqDiff, Nat.reduceLT, Nat.reduceLeDiff, Nat.reduceBEq, Nat.reduceBNe, Int.reduceToNat, Int.reduceLT, Int.reduceLE, Int.reduceEq, Int.reduceBEq, Int.reduceBNe, Int.reduceAdd, Int.reduceSub, Int.reduceMul, Int.reduceNeg, Int.reduceOfNat, Int.reduceNatCast, Nat.reducePow]
    | with_reducible refine bd_same (fun _ => ?_)
    | with_reducible refine br_nil (fun _ => ?_) (fun _ => ?_)
    | with_reducible refine br_split (fun _ => ?_) (fun _ => ?_)
    | ((with_reducible refine at_jn 1 ?_); (with_reducible refine cl_map 1 (enc := res36) ?_ (fun r1 => ?_)); focus exact f36_ok (n + 0) a0 a1)
    | with_reducible refine (jx_bd _ _).trans ?_
    | rfl
    | simp -implicitDefEqProofs only [append_eq, appArg_eq, apT_slice, apT_str, slOf_sl, apA_nils, apA_own, apA_win, apO_row, go_sem, reduceIte, reduceCtorEq, Nat.reduceAdd, Nat.reduceSub, Nat.reduceMul, Nat.reduceEqDiff, Nat.reduceLT, Nat.reduceLeDiff, Nat.reduceBEq, Nat.reduceBNe, Int.reduceToNat, Int.reduceLT, Int.reduceLE, Int.reduceEq, Int.reduceBEq, Int.reduceBNe, Int.reduceAdd, Int.reduceSub, Int.reduceMul, Int.reduceNeg, Int.reduceOfNat, Int.reduceNatCast, Nat.reducePow]
    | (simp only [List.map_append]; rfl)
    | (simp only [List.map_append]; done)
end
end Sp
