/- The equations of the functions, part 6: what the evaluator answers is the plain function (no condition). -/
import Derived.Test.YtfcldaojfbbaoaaDoorEqsE
set_option linter.unusedVariables false
set_option linter.unusedSimpArgs false
set_option linter.unnecessarySimpa false
open Go Go.Proofs Ev
set_option linter.unusedSimpArgs false
set_option maxRecDepth 100000
set_option linter.unusedVariables false
namespace Sp
noncomputable section
set_option maxHeartbeats 4000000
set_option linter.unusedSimpArgs false
@[reducible, go_sem] def res7 (r : Bool) : Res × Heap := (.ret (.p (.bool r)), [])
theorem f7_ok (n : Nat)  : En.call (n + 14) (.f 7) [] [] = (F.testamurlaw41_sane).map res7 := by
  refine (c7 (n + 13) []).trans ?_
  repeat' first
    | simp -implicitDefEqProofs only [*, go_sem, F.testamurlaw41_sane, reduceIte, reduceCtorEq, Nat.reduceAdd, Nat.reduceSub, Nat.reduceMul, Nat.reduceEqDiff, Nat.reduceLT, Nat.reduceLeDiff, Nat.reduceBEq, Nat.reduceBNe, Int.reduceToNat, Int.reduceLT, Int.reduceLE, Int.reduceEq, Int.reduceBEq, Int.reduceBNe, Int.reduceAdd, Int.reduceSub, Int.reduceMul, Int.reduceNeg, Int.reduceOfNat, Int.reduceNatCast, Nat.reducePow]
    | with_reducible refine bd_same (fun _ => ?_)
    | with_reducible refine br_nil (fun _ => ?_) (fun _ => ?_)
    | with_reducible refine br_split (fun _ => ?_) (fun _ => ?_)
    | ((with_reducible refine at_jn 1 ?_); (with_reducible refine cl_map 1 (enc := res9) ?_ (fun r1 => ?_)); focus exact f9_ok (n + 11) 7)
    | ((with_reducible refine at_jn 2 ?_); (with_reducible refine cl_map 2 (enc := res9) ?_ (fun r2 => ?_)); focus exact f9_ok (n + 11) 4096)
    | ((with_reducible refine at_jn 3 ?_); (with_reducible refine cl_map 3 (enc := res26) ?_ (fun r3 => ?_)); focus exact f26_ok (n + 3) 1 0 [7, 5])
    | ((with_reducible refine at_jn 4 ?_); (with_reducible refine cl_map 4 (enc := res26) ?_ (fun r4 => ?_)); focus exact f26_ok (n + 3) 1 1 [7, 5])
    | ((with_reducible refine at_jn 5 ?_); (with_reducible refine cl_map 5 (enc := res23) ?_ (fun r5 => ?_)); focus exact f23_ok (n + 0) r1.1 [r3.1, r4.1] [r3.2, r4.2] 2)
    | ((with_reducible refine at_jn 6 ?_); (with_reducible refine cl_map 6 (enc := res23) ?_ (fun r6 => ?_)); focus exact f23_ok (n + 0) r5.1 [r3.1] [r3.2] 2)
    | ((with_reducible refine at_jn 7 ?_); (with_reducible refine cl_map 7 (enc := res23) ?_ (fun r7 => ?_)); focus exact f23_ok (n + 0) r1.1 [r3.1] [] 2)
    | ((with_reducible refine at_jn 8 ?_); (with_reducible refine cl_map 8 (enc := res23) ?_ (fun r8 => ?_)); focus exact f23_ok (n + 0) r1.1 [r3.1] [(Secret.mk r3.2.Seed (List.drop 1 r3.2.Links))] 2)
    | ((with_reducible refine at_jn 9 ?_); (with_reducible refine cl_map 9 (enc := res23) ?_ (fun r9 => ?_)); focus exact f23_ok (n + 0) r1.1 [r3.1] [r3.2] 4)
    | ((with_reducible refine at_jn 10 ?_); (with_reducible refine cl_map 10 (enc := res11) ?_ (fun r10 => ?_)); focus exact f11_ok (n + 8) r5.1 2)
    | ((with_reducible refine at_jn 11 ?_); (with_reducible refine cl_map 11 (enc := res11) ?_ (fun r11 => ?_)); focus exact f11_ok (n + 8) r5.1 1)
    | ((with_reducible refine at_jn 12 ?_); (with_reducible refine cl_map 12 (enc := res13) ?_ (fun r12 => ?_)); focus exact f13_ok (n + 0) r5.1 0)
    | ((with_reducible refine at_jn 13 ?_); (with_reducible refine cl_map 13 (enc := res13) ?_ (fun r13 => ?_)); focus exact f13_ok (n + 0) r5.1 16)
    | ((with_reducible refine at_jn 14 ?_); (with_reducible refine cl_map 14 (enc := res11) ?_ (fun r14 => ?_)); focus exact f11_ok (n + 8) r12.1 2)
    | ((with_reducible refine at_jn 22 ?_); (with_reducible refine jn_map 22 (fun r15 => (.normal, ⟨[(.ref 0 []), (.ref 1 []), (.p (.sl 3 (List.map e_Claims r14.1))), (.p (.sl 3 (List.map e_Claims r11.1))), (.p (.sl 1 (List.map (PD.int .i64) r10.2))), (.p (.sl 3 (List.map e_Claims r10.1))), (.ref 2 []), (.p (.bool r15))], [.var (.p (e_Wallet r5.1)) false, .var (.p (e_Wallet r12.1)) false, .var (.p (e_Wallet r1.1)) false]⟩)) ?_ (fun r15 => ?_)))
    | ((with_reducible refine at_jn 15 ?_); rename_i y16; (with_reducible refine cl_map 15 (enc := res19) ?_ (fun r17 => ?_)); focus exact f19_ok (n + 11) y16.Fields [0, 1])
    | ((with_reducible refine at_jn 16 ?_); rename_i y18; (with_reducible refine cl_map 16 (enc := res19) ?_ (fun r19 => ?_)); focus exact f19_ok (n + 11) y18.Values [7, 5])
    | ((with_reducible refine at_jn 17 ?_); (with_reducible refine cl_map 17 (enc := res20) ?_ (fun r21 => ?_)); focus exact f20_ok (n + 9) r5.1 0)
    | ((with_reducible refine at_jn 18 ?_); (with_reducible refine cl_map 18 (enc := res20) ?_ (fun r22 => ?_)); focus exact f20_ok (n + 9) r5.1 1)
    | ((with_reducible refine at_jn 19 ?_); (with_reducible refine cl_map 19 (enc := res20) ?_ (fun r23 => ?_)); focus exact f20_ok (n + 9) r12.1 0)
    | ((with_reducible refine at_jn 20 ?_); (with_reducible refine cl_map 20 (enc := res16) ?_ (fun r26 => ?_)); focus exact f16_ok (n + 1) r5.1)
    | ((with_reducible refine at_jn 21 ?_); (with_reducible refine cl_map 21 (enc := res16) ?_ (fun r27 => ?_)); focus exact f16_ok (n + 1) (Wallet.mk 0 5 []))
    | with_reducible refine (jx_bd _ _).trans ?_
    | rfl
    | simp -implicitDefEqProofs only [append_eq, appArg_eq, apT_slice, apT_str, slOf_sl, apA_nils, apA_own, apA_win, apO_row, go_sem, reduceIte, reduceCtorEq, Nat.reduceAdd, Nat.reduceSub, Nat.reduceMul, Nat.reduceEqDiff, Nat.reduceLT, Nat.reduceLeDiff, Nat.reduceBEq, Nat.reduceBNe, Int.reduceToNat, Int.reduceLT, Int.reduceLE, Int.reduceEq, Int.reduceBEq, Int.reduceBNe, Int.reduceAdd, Int.reduceSub, Int.reduceMul, Int.reduceNeg, Int.reduceOfNat, Int.reduceNatCast, Nat.reducePow]
    | (simp only [List.map_append]; rfl)
    | (simp only [List.map_append]; done)
end
end Sp
