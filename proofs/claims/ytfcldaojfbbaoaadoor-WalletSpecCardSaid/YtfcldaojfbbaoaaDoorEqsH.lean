/- The equations of the functions, part 8: what the evaluator answers is the plain function (no condition). -/
import Derived.Test.YtfcldaojfbbaoaaDoorEqsG
set_option linter.unusedVariables false
set_option linter.unusedSimpArgs false
set_option linter.unnecessarySimpa false
open Go Go.Proofs Ev
set_option linter.unusedSimpArgs false
set_option maxRecDepth 100000
set_option linter.unusedVariables false
namespace Sp
noncomputable section
set_option maxHeartbeats 4000000
set_option linter.unusedSimpArgs false
@[reducible, go_sem] def res12 (r : (List Claims) × (List Int)) : Res × Heap := (.ret (.tup [(.p (.sl 3 (List.map e_Claims r.1))), (.p (.sl 1 (List.map (PD.int .i64) r.2)))]), [])
theorem f12_ok (n : Nat) (a0 : Wallet) (a1 : Int) : En.call (n + 2) (.f 12) [.p (e_Wallet a0), .p (.int .i64 a1)] [] = (F.testamurref41_Offers a0 a1).map res12 := by
  refine (c12 (n + 1) (.p (e_Wallet a0)) (.p (.int .i64 a1)) []).trans ?_
  repeat' first
    | simp -implicitDefEqProofs only [*, go_sem, F.testamurref41_Offers, F.testamurref41_Offers_l0, F.testamurref41_Offers_l1, F.testamurref41_Offers_l2, reduceIte, reduceCtorEq, Nat.reduceAdd, Nat.reduceSub, Nat.reduceMul, Nat.reduceEqDiff, Nat.reduceLT, Nat.reduceLeDiff, Nat.reduceBEq, Nat.reduceBNe, Int.reduceToNat, Int.reduceLT, Int.reduceLE, Int.reduceEq, Int.reduceBEq, Int.reduceBNe, Int.reduceAdd, Int.reduceSub, Int.reduceMul, Int.reduceNeg, Int.reduceOfNat, Int.reduceNatCast, Nat.reducePow]
    | with_reducible refine bd_same (fun _ => ?_)
    | with_reducible refine br_nil (fun _ => ?_) (fun _ => ?_)
    | with_reducible refine br_split (fun _ => ?_) (fun _ => ?_)
    | ((with_reducible refine at_jn 9 ?_); (with_reducible refine loop_eq 9 (fun x1 => ⟨[(.ref 0 []), (.p (.int .i64 a1)), (.p (.int .i64 x1.1)), (.own 1 0), (.own 2 0)], [.var (.p (e_Wallet a0)) false, .row 3 (List.map e_Claims x1.2.1) false, .row 1 (List.map (PD.int .i64) x1.2.2) false]⟩) (fun r12 => (.exit 0, ⟨[(.own 0 0), (.own 1 0)], [.row 1 (List.map (PD.int .i64) r12.1) false, .row 3 (List.map e_Claims r12.2) false]⟩)) (F.testamurref41_Offers_l2 a0 a1) (0, [], []) ?_ (fun x1 => ?_) (fun r12 => ?_)); focus rfl)
    | ((with_reducible refine at_jn 8 ?_); (with_reducible refine jn_map 8 (fun r2 => (.normal, ⟨[(.own 0 0), (.own 1 0), (.p (.int .i64 x1.1)), (.ref 2 []), (.p (.int .i64 a1)), (.p (.bool r2))], [.row 1 (List.map (PD.int .i64) x1.2.2) false, .row 3 (List.map e_Claims x1.2.1) false, .var (.p (e_Wallet a0)) false]⟩)) ?_ (fun r2 => ?_)))
    | ((with_reducible refine at_jn 7 ?_); rename_i y3; (with_reducible refine jn_map 7 (fun r4 => (.normal, ⟨[(.p (.int .i64 a1)), (.ref 0 []), (.p (.int .i64 x1.1)), (.own 1 0), (.own 2 0), (.ref 3 []), (.p (.bool r4))], [.var (.p (e_Wallet a0)) false, .row 1 (List.map (PD.int .i64) x1.2.2) false, .row 3 (List.map e_Claims x1.2.1) false, .var (.p (e_Held y3)) false]⟩)) ?_ (fun r4 => ?_)))
    | ((with_reducible refine at_jn 6 ?_); (with_reducible refine loop_eq 6 (fun x5 => ⟨[(.p (.int .i64 x5.1)), (.p (.bool x5.2)), (.ref 0 []), (.own 1 0), (.own 2 0), (.p (.int .i64 x1.1)), (.ref 3 []), (.p (.int .i64 a1))], [.var (.p (e_Held y3)) false, .row 3 (List.map e_Claims x1.2.1) false, .row 1 (List.map (PD.int .i64) x1.2.2) false, .var (.p (e_Wallet a0)) false]⟩) (fun r9 => (.exit 2, ⟨[(.p (.int .i64 a1)), (.ref 0 []), (.p (.int .i64 x1.1)), (.own 1 0), (.own 2 0), (.ref 3 []), (.p (.bool r9))], [.var (.p (e_Wallet a0)) false, .row 1 (List.map (PD.int .i64) x1.2.2) false, .row 3 (List.map e_Claims x1.2.1) false, .var (.p (e_Held y3)) false]⟩)) (F.testamurref41_Offers_l0 x1 y3) (0, r4) ?_ (fun x5 => ?_) (fun r9 => ?_)); focus rfl)
    | ((with_reducible refine (X_draw _ _ _ _ 24 [] 11 _ _ ?_).trans ?_); focus kernel_rfl)
    | ((with_reducible refine at_jn 1 ?_); rename_i y7; (with_reducible refine cl_map 1 (enc := res34) ?_ (fun r8 => ?_)); focus exact f34_ok (n + 0) y7.Values y3.Copy.Values)
    | ((with_reducible refine at_jn 5 ?_); (with_reducible refine loop_eq 5 (fun x10 => ⟨[(.p (.int .i64 x10.1)), (.own 0 0), (.ref 1 []), (.own 3 0), (.p (.int .i64 x1.1)), (.ref 4 []), (.p (.int .i64 a1))], [.row 3 (List.map e_Claims x1.2.1) false, .var (.agg [1, 1, 1] [(.p (.int .i64 y3.Copy.Schema)), (.own 2 0), (.p (.sl 1 (List.map (PD.int .i64) y3.Copy.Values)))]) false, .row 1 (List.map (PD.int .i64) x10.2) false, .row 1 (List.map (PD.int .i64) x1.2.2) false, .var (.p (e_Wallet a0)) false]⟩) (fun r11 => (.exit 4, ⟨[(.p (.int .i64 a1)), (.ref 0 []), (.p (.int .i64 x1.1)), (.own 1 0), (.ref 2 []), (.own 4 0)], [.var (.p (e_Wallet a0)) false, .row 1 (List.map (PD.int .i64) x1.2.2) false, .var (.agg [1, 1, 1] [(.p (.int .i64 y3.Copy.Schema)), (.own 3 0), (.p (.sl 1 (List.map (PD.int .i64) y3.Copy.Values)))]) false, .row 1 (List.map (PD.int .i64) r11) false, .row 3 (List.map e_Claims x1.2.1) false]⟩)) (F.testamurref41_Offers_l1 y3) (0, []) ?_ (fun x10 => ?_) (fun r11 => ?_)); focus rfl)
    | ((with_reducible refine at_ap 2 ?_); (with_reducible refine ap_guard 2 ((.own 6 0), [.row 3 (List.map e_Claims x1.2.1) false, .var (.agg [1, 1, 1] [(.p (.int .i64 y3.Copy.Schema)), (.own 2 0), (.p (.sl 1 (List.map (PD.int .i64) y3.Copy.Values)))]) false, .dead, .row 1 (List.map (PD.int .i64) x1.2.2) false, .var (.p (e_Wallet a0)) false, .row 1 (List.map (PD.int .i64) [x10.1]) false, .row 1 (List.map (PD.int .i64) (x10.2 ++ [x10.1])) false]) ?_ ?_))
    | ((with_reducible refine at_ap 3 ?_); (with_reducible refine ap_guard 3 ((.own 6 0), [.var (.p (e_Wallet a0)) false, .row 1 (List.map (PD.int .i64) x1.2.2) false, .var (.agg [1, 1, 1] [(.p (.int .i64 y3.Copy.Schema)), (.own 3 0), (.p (.sl 1 (List.map (PD.int .i64) y3.Copy.Values)))]) false, .row 1 (List.map (PD.int .i64) r11) true, .dead, .row 3 (List.map e_Claims [(Claims.mk y3.Copy.Schema r11 y3.Copy.Values)]) false, .row 3 (List.map e_Claims (x1.2.1 ++ [(Claims.mk y3.Copy.Schema r11 y3.Copy.Values)])) false]) ?_ ?_))
    | ((with_reducible refine at_ap 4 ?_); (with_reducible refine ap_guard 4 ((.own 8 0), [.var (.p (e_Wallet a0)) false, .dead, .var (.agg [1, 1, 1] [(.p (.int .i64 y3.Copy.Schema)), (.own 3 0), (.p (.sl 1 (List.map (PD.int .i64) y3.Copy.Values)))]) false, .row 1 (List.map (PD.int .i64) r11) true, .dead, .row 3 (List.map e_Claims [(Claims.mk y3.Copy.Schema r11 y3.Copy.Values)]) false, .row 3 (List.map e_Claims (x1.2.1 ++ [(Claims.mk y3.Copy.Schema r11 y3.Copy.Values)])) false, .row 1 (List.map (PD.int .i64) [x1.1]) false, .row 1 (List.map (PD.int .i64) (x1.2.2 ++ [x1.1])) false]) ?_ ?_))
    | with_reducible refine (jx_bd _ _).trans ?_
    | rfl
    | simp -implicitDefEqProofs only [append_eq, appArg_eq, apT_slice, apT_str, slOf_sl, apA_nils, apA_own, apA_win, apO_row, go_sem, reduceIte, reduceCtorEq, Nat.reduceAdd, Nat.reduceSub, Nat.reduceMul, Nat.reduceEqDiff, Nat.reduceLT, Nat.reduceLeDiff, Nat.reduceBEq, Nat.reduceBNe, Int.reduceToNat, Int.reduceLT, Int.reduceLE, Int.reduceEq, Int.reduceBEq, Int.reduceBNe, Int.reduceAdd, Int.reduceSub, Int.reduceMul, Int.reduceNeg, Int.reduceOfNat, Int.reduceNatCast, Nat.reducePow]
    | (simp only [List.map_append]; rfl)
    | (simp only [List.map_append]; done)
end
end Sp
