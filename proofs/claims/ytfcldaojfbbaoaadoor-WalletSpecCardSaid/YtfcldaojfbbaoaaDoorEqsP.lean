/- The equations of the functions, part 16: what the evaluator answers is the plain function (no condition). -/
import Derived.Test.YtfcldaojfbbaoaaDoorEqsO
set_option linter.unusedVariables false
set_option linter.unusedSimpArgs false
set_option linter.unnecessarySimpa false
open Go Go.Proofs Ev
set_option linter.unusedSimpArgs false
set_option maxRecDepth 100000
set_option linter.unusedVariables false
namespace Sp
noncomputable section
set_option maxHeartbeats 4000000
set_option linter.unusedSimpArgs false
@[reducible, go_sem] def res24 (r : Wallet × Int) : Res × Heap := (.ret (.tup [(.p (e_Wallet r.1)), (.p (.int .i64 r.2))]), [])
theorem f24_ok (n : Nat) (a0 : Wallet) (a1 : List Copy) (a2 : List Secret) (a3 : Int) : En.call (n + 10) (.f 24) [.p (e_Wallet a0), .p (.sl 39 (List.map e_Copy a1)), .p (.sl 33 (List.map e_Secret a2)), .p (.int .i64 a3)] [] = (F.testamurref41_Put a0 a1 a2 a3).map res24 := by
  refine (c24 (n + 9) (.p (e_Wallet a0)) (.p (.sl 39 (List.map e_Copy a1))) (.p (.sl 33 (List.map e_Secret a2))) (.p (.int .i64 a3)) []).trans ?_
  repeat' first
    | simp -implicitDefEqProofs only [*, go_sem, F.testamurref41_Put, F.testamurref41_Put_l0, reduceIte, reduceCtorEq, Nat.reduceAdd, Nat.reduceSub, Nat.reduceMul, Nat.reduceEqDiff, Nat.reduceLT, Nat.reduceLeDiff, Nat.reduceBEq, Nat.reduceBNe, Int.reduceToNat, Int.reduceLT, Int.reduceLE, Int.reduceEq, Int.reduceBEq, Int.reduceBNe, Int.reduceAdd, Int.reduceSub, Int.reduceMul, Int.reduceNeg, Int.reduceOfNat, Int.reduceNatCast, Nat.reducePow]
    | with_reducible refine bd_same (fun _ => ?_)
    | with_reducible refine br_nil (fun _ => ?_) (fun _ => ?_)
    | with_reducible refine br_split (fun _ => ?_) (fun _ => ?_)
    | ((with_reducible refine at_jn 6 ?_); (with_reducible refine jn_map 6 (fun r2 => (.normal, ⟨[(.ref 0 []), (.p (.int .i64 a3)), (.p (.sl 33 (List.map e_Secret a2))), (.p (.sl 39 (List.map e_Copy a1))), (.ref 1 []), (.p (.bool r2))], [.var (.agg [1, 1, 1] [(.p (.int .i64 0)), (.p (.int .i64 0)), (.nils 74)]) false, .var (.p (e_Wallet a0)) false]⟩)) ?_ (fun r2 => ?_)))
    | ((with_reducible refine at_jn 1 ?_); (with_reducible refine cl_map 1 (enc := res17) ?_ (fun r1 => ?_)); focus exact f17_ok (n + 0) a0)
    | ((with_reducible refine at_ap 2 ?_); (with_reducible refine ap_guard 2 ((.own 4 0), [.var (.agg [1, 1, 1] [(.p (.int .i64 0)), (.p (.int .i64 0)), (.nils 74)]) false, .var (.p (e_Wallet a0)) false, .var (.p (e_Wallet a0)) false, .dead, .row 74 (List.map e_Held a0.Held) false]) ?_ ?_))
    | ((with_reducible refine at_jn 5 ?_); (with_reducible refine loop_eq 5 (fun x3 => ⟨[(.p (.sl 39 (List.map e_Copy a1))), (.p (.sl 33 (List.map e_Secret a2))), (.p (.int .i64 a3)), (.p (.int .i64 x3.1)), (.ref 0 []), (.ref 2 [])], [.var (.agg [1, 1, 1] [(.p (.int .i64 a0.Person)), (.p (.int .i64 a0.Link)), (.own 1 0)]) false, .row 74 (List.map e_Held x3.2) false, .var (.agg [1, 1, 1] [(.p (.int .i64 0)), (.p (.int .i64 0)), (.own 3 0)]) false, .row 74 (List.map e_Held []) false]⟩) (fun r6 => (.exit 0, ⟨[(.ref 0 []), (.ref 2 [])], [.var (.agg [1, 1, 1] [(.p (.int .i64 0)), (.p (.int .i64 0)), (.own 1 0)]) false, .row 74 (List.map e_Held []) false, .var (.agg [1, 1, 1] [(.p (.int .i64 a0.Person)), (.p (.int .i64 a0.Link)), (.own 3 0)]) false, .row 74 (List.map e_Held r6) false]⟩)) (F.testamurref41_Put_l0 a1 a2 a3) (0, a0.Held) ?_ (fun x3 => ?_) (fun r6 => ?_)); focus rfl)
    | ((with_reducible refine (X_draw _ _ _ _ 13 [] 8 _ _ ?_).trans ?_); focus kernel_rfl)
    | ((with_reducible refine at_ap 3 ?_); rename_i y4 y5; (with_reducible refine ap_guard 3 ((.own 5 0), [.var (.agg [1, 1, 1] [(.p (.int .i64 a0.Person)), (.p (.int .i64 a0.Link)), (.own 1 0)]) false, .dead, .var (.agg [1, 1, 1] [(.p (.int .i64 0)), (.p (.int .i64 0)), (.own 3 0)]) false, .row 74 (List.map e_Held []) false, .row 74 (List.map e_Held [(Held.mk y4 y5 a3 0)]) false, .row 74 (List.map e_Held (x3.2 ++ [(Held.mk y4 y5 a3 0)])) false]) ?_ ?_))
    | ((with_reducible refine at_jn 4 ?_); (with_reducible refine cl_map 4 (enc := res17) ?_ (fun r7 => ?_)); focus exact f17_ok (n + 0) (Wallet.mk a0.Person a0.Link r6))
    | with_reducible refine (jx_bd _ _).trans ?_
    | rfl
    | simp -implicitDefEqProofs only [append_eq, appArg_eq, apT_slice, apT_str, slOf_sl, apA_nils, apA_own, apA_win, apO_row, go_sem, reduceIte, reduceCtorEq, Nat.reduceAdd, Nat.reduceSub, Nat.reduceMul, Nat.reduceEqDiff, Nat.reduceLT, Nat.reduceLeDiff, Nat.reduceBEq, Nat.reduceBNe, Int.reduceToNat, Int.reduceLT, Int.reduceLE, Int.reduceEq, Int.reduceBEq, Int.reduceBNe, Int.reduceAdd, Int.reduceSub, Int.reduceMul, Int.reduceNeg, Int.reduceOfNat, Int.reduceNatCast, Nat.reducePow]
    | (simp only [List.map_append]; rfl)
    | (simp only [List.map_append]; done)
@[reducible, go_sem] def res4 (r : Bool) : Res × Heap := (.ret (.p (.bool r)), [])
theorem f4_ok (n : Nat) (a0 : Wallet) (a1 : List Copy) (a2 : List Secret) (a3 : Int) : En.call (n + 15) (.f 4) [.p (e_Wallet a0), .p (.sl 39 (List.map e_Copy a1)), .p (.sl 33 (List.map e_Secret a2)), .p (.int .i64 a3)] [] = (F.testamurlaw41_WalletPutSpec a0 a1 a2 a3).map res4 := by
  refine (c4 (n + 14) (.p (e_Wallet a0)) (.p (.sl 39 (List.map e_Copy a1))) (.p (.sl 33 (List.map e_Secret a2))) (.p (.int .i64 a3)) []).trans ?_
  repeat' first
    | simp -implicitDefEqProofs only [*, go_sem, F.testamurlaw41_WalletPutSpec, F.testamurlaw41_WalletPutSpec_l0, reduceIte, reduceCtorEq, Nat.reduceAdd, Nat.reduceSub, Nat.reduceMul, Nat.reduceEqDiff, Nat.reduceLT, Nat.reduceLeDiff, Nat.reduceBEq, Nat.reduceBNe, Int.reduceToNat, Int.reduceLT, Int.reduceLE, Int.reduceEq, Int.reduceBEq, Int.reduceBNe, Int.reduceAdd, Int.reduceSub, Int.reduceMul, Int.reduceNeg, Int.reduceOfNat, Int.reduceNatCast, Nat.reducePow]
    | with_reducible refine bd_same (fun _ => ?_)
    | with_reducible refine br_nil (fun _ => ?_) (fun _ => ?_)
    | with_reducible refine br_split (fun _ => ?_) (fun _ => ?_)
    | ((with_reducible refine at_jn 1 ?_); (with_reducible refine cl_map 1 (enc := res7) ?_ (fun r1 => ?_)); focus exact f7_ok (n + 0))
    | ((with_reducible refine at_jn 8 ?_); (with_reducible refine jn_map 8 (fun r3 => (.normal, ⟨[(.p (.int .i64 a3)), (.p (.sl 33 (List.map e_Secret a2))), (.p (.sl 39 (List.map e_Copy a1))), (.ref 0 []), (.p (.bool r3))], [.var (.p (e_Wallet a0)) false]⟩)) ?_ (fun r3 => ?_)))
    | ((with_reducible refine at_jn 2 ?_); (with_reducible refine cl_map 2 (enc := res8) ?_ (fun r2 => ?_)); focus exact f8_ok (n + 12) a0)
    | ((with_reducible refine at_jn 7 ?_); (with_reducible refine loop_eq 7 (fun x4 => ⟨[(.p (.sl 39 (List.map e_Copy a1))), (.p (.int .i64 (Int.ofNat (List.length a1)))), (.p (.int .i64 x4)), (.ref 0 []), (.p (.sl 39 (List.map e_Copy a1))), (.p (.sl 33 (List.map e_Secret a2))), (.p (.int .i64 a3))], [.var (.p (e_Wallet a0)) false]⟩) (Sum.elim (fun r7 => (.ret, ⟨[(.p (.int .i64 a3)), (.p (.sl 33 (List.map e_Secret a2))), (.p (.sl 39 (List.map e_Copy a1))), (.ref 0 []), (.p (.bool true))], [.var (.p (e_Wallet a0)) false]⟩)) (fun r7 => (.exit 0, ⟨[(.p (.int .i64 a3)), (.p (.sl 33 (List.map e_Secret a2))), (.p (.sl 39 (List.map e_Copy a1))), (.ref 0 []), .unk], [.var (.p (e_Wallet a0)) false]⟩))) (F.testamurlaw41_WalletPutSpec_l0 a1) 0 ?_ (fun x4 => ?_) (sumAll (fun r7 => ?_) (fun r7 => ?_))); focus rfl)
    | ((with_reducible refine at_jn 3 ?_); rename_i y5; (with_reducible refine cl_map 3 (enc := res22) ?_ (fun r6 => ?_)); focus exact f22_ok (n + 13) y5)
    | ((with_reducible refine at_jn 4 ?_); (with_reducible refine cl_map 4 (enc := res23) ?_ (fun r8 => ?_)); focus exact f23_ok (n + 1) a0 a1 a2 a3)
    | ((with_reducible refine at_jn 5 ?_); (with_reducible refine cl_map 5 (enc := res24) ?_ (fun r9 => ?_)); focus exact f24_ok (n + 4) a0 a1 a2 a3)
    | ((with_reducible refine at_jn 6 ?_); (with_reducible refine cl_map 6 (enc := res15) ?_ (fun r10 => ?_)); focus exact f15_ok (n + 8) r8.1 r9.1)
    | with_reducible refine (jx_bd _ _).trans ?_
    | rfl
    | simp -implicitDefEqProofs only [append_eq, appArg_eq, apT_slice, apT_str, slOf_sl, apA_nils, apA_own, apA_win, apO_row, go_sem, reduceIte, reduceCtorEq, Nat.reduceAdd, Nat.reduceSub, Nat.reduceMul, Nat.reduceEqDiff, Nat.reduceLT, Nat.reduceLeDiff, Nat.reduceBEq, Nat.reduceBNe, Int.reduceToNat, Int.reduceLT, Int.reduceLE, Int.reduceEq, Int.reduceBEq, Int.reduceBNe, Int.reduceAdd, Int.reduceSub, Int.reduceMul, Int.reduceNeg, Int.reduceOfNat, Int.reduceNatCast, Nat.reducePow]
    | (simp only [List.map_append]; rfl)
    | (simp only [List.map_append]; done)
end
end Sp
