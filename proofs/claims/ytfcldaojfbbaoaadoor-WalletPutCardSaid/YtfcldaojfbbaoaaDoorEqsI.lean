/- The equations of the functions, part 9: what the evaluator answers is the plain function (no condition). -/
import Derived.Test.YtfcldaojfbbaoaaDoorEqsH
set_option linter.unusedVariables false
set_option linter.unusedSimpArgs false
set_option linter.unnecessarySimpa false
open Go Go.Proofs Ev
set_option linter.unusedSimpArgs false
set_option maxRecDepth 100000
set_option linter.unusedVariables false
namespace Sp
noncomputable section
set_option maxHeartbeats 4000000
set_option linter.unusedSimpArgs false
@[reducible, go_sem] def res6 (r : Bool) : Res × Heap := (.ret (.p (.bool r)), [])
theorem f6_ok (n : Nat) (a0 : Wallet) (a1 : List Copy) (a2 : List Secret) (a3 : Int) (a4 : Int) : En.call (n + 15) (.f 6) [.p (e_Wallet a0), .p (.sl 39 (List.map e_Copy a1)), .p (.sl 33 (List.map e_Secret a2)), .p (.int .i64 a3), .p (.int .u8 a4)] [] = (F.testamurlaw41_WalletPut a0 a1 a2 a3 a4).map res6 := by
  refine (c6 (n + 14) (.p (e_Wallet a0)) (.p (.sl 39 (List.map e_Copy a1))) (.p (.sl 33 (List.map e_Secret a2))) (.p (.int .i64 a3)) (.p (.int .u8 a4)) []).trans ?_
  repeat' first
    | simp -implicitDefEqProofs only [*, go_sem, F.testamurlaw41_WalletPut, F.testamurlaw41_WalletPut_l0, F.testamurlaw41_WalletPut_l1, reduceIte, reduceCtorEq, Nat.reduceAdd, Nat.reduceSub, Nat.reduceMul, Nat.reduceEqDiff, Nat.reduceLT, Nat.reduceLeDiff, Nat.reduceBEq, Nat.reduceBNe, Int.reduceToNat, Int.reduceLT, Int.reduceLE, Int.reduceEq, Int.reduceBEq, Int.reduceBNe, Int.reduceAdd, Int.reduceSub, Int.reduceMul, Int.reduceNeg, Int.reduceOfNat, Int.reduceNatCast, Nat.reducePow]
    | with_reducible refine bd_same (fun _ => ?_)
    | with_reducible refine br_nil (fun _ => ?_) (fun _ => ?_)
    | with_reducible refine br_split (fun _ => ?_) (fun _ => ?_)
    | ((with_reducible refine at_jn 1 ?_); (with_reducible refine cl_map 1 (enc := res7) ?_ (fun r1 => ?_)); focus exact f7_ok (n + 0))
    | ((with_reducible refine at_jn 15 ?_); (with_reducible refine jn_map 15 (fun r3 => (.normal, ⟨[(.ref 0 []), (.p (.sl 39 (List.map e_Copy a1))), (.p (.int .i64 a3)), (.p (.sl 33 (List.map e_Secret a2))), (.p (.int .u8 a4)), (.p (.bool r3))], [.var (.p (e_Wallet a0)) false]⟩)) ?_ (fun r3 => ?_)))
    | ((with_reducible refine at_jn 2 ?_); (with_reducible refine cl_map 2 (enc := res8) ?_ (fun r2 => ?_)); focus exact f8_ok (n + 12) a0)
    | ((with_reducible refine at_jn 14 ?_); (with_reducible refine loop_eq 14 (fun x4 => ⟨[(.p (.sl 39 (List.map e_Copy a1))), (.p (.int .i64 (Int.ofNat (List.length a1)))), (.p (.int .i64 x4)), (.p (.int .u8 a4)), (.p (.sl 33 (List.map e_Secret a2))), (.p (.int .i64 a3)), (.p (.sl 39 (List.map e_Copy a1))), (.ref 0 [])], [.var (.p (e_Wallet a0)) false]⟩) (Sum.elim (fun r7 => (.ret, ⟨[(.ref 0 []), (.p (.sl 39 (List.map e_Copy a1))), (.p (.int .i64 a3)), (.p (.sl 33 (List.map e_Secret a2))), (.p (.int .u8 a4)), (.p (.bool true))], [.var (.p (e_Wallet a0)) false]⟩)) (fun r7 => (.exit 0, ⟨[(.ref 0 []), (.p (.sl 39 (List.map e_Copy a1))), (.p (.int .i64 a3)), (.p (.sl 33 (List.map e_Secret a2))), (.p (.int .u8 a4)), .unk], [.var (.p (e_Wallet a0)) false]⟩))) (F.testamurlaw41_WalletPut_l0 a1) 0 ?_ (fun x4 => ?_) (sumAll (fun r7 => ?_) (fun r7 => ?_))); focus rfl)
    | ((with_reducible refine at_jn 3 ?_); rename_i y5; (with_reducible refine cl_map 3 (enc := res22) ?_ (fun r6 => ?_)); focus exact f22_ok (n + 13) y5)
    | ((with_reducible refine at_jn 4 ?_); (with_reducible refine cl_map 4 (enc := res23) ?_ (fun r8 => ?_)); focus exact f23_ok (n + 1) a0 a1 a2 a3)
    | ((with_reducible refine (X_draw _ _ _ _ 13 [.tmp 16] 13 _ _ ?_).trans ?_); focus kernel_rfl)
    | ((with_reducible refine at_jn 5 ?_); (with_reducible refine cl_map 5 (enc := res23) ?_ (fun r9 => ?_)); focus exact f23_ok (n + 1) a0 (List.take (Int.toNat (Int.tmod (Go.IntKind.wrap .i64 a4) (Go.IntKind.wrap .i64 ((Int.ofNat (List.length a1)) + 1)))) a1) (List.take (Int.toNat (Int.tmod (Go.IntKind.wrap .i64 a4) (Go.IntKind.wrap .i64 ((Int.ofNat (List.length a1)) + 1)))) a2) a3)
    | ((with_reducible refine (X_draw _ _ _ _ 13 [.tmp 18] 14 _ _ ?_).trans ?_); focus kernel_rfl)
    | ((with_reducible refine at_jn 6 ?_); (with_reducible refine cl_map 6 (enc := res23) ?_ (fun r10 => ?_)); focus exact f23_ok (n + 1) r9.1 (List.drop (Int.toNat (Int.tmod (Go.IntKind.wrap .i64 a4) (Go.IntKind.wrap .i64 ((Int.ofNat (List.length a1)) + 1)))) a1) (List.drop (Int.toNat (Int.tmod (Go.IntKind.wrap .i64 a4) (Go.IntKind.wrap .i64 ((Int.ofNat (List.length a1)) + 1)))) a2) a3)
    | ((with_reducible refine at_jn 13 ?_); (with_reducible refine jn_map 13 (fun r13 => (.normal, ⟨[(.ref 0 []), (.p (.sl 39 (List.map e_Copy a1))), (.p (.int .i64 a3)), (.ref 1 []), (.p (.bool r13))], [.var (.p (e_Wallet a0)) false, .var (.p (e_Wallet r8.1)) false]⟩)) ?_ (fun r13 => ?_)))
    | ((with_reducible refine at_jn 7 ?_); (with_reducible refine cl_map 7 (enc := res15) ?_ (fun r11 => ?_)); focus exact f15_ok (n + 8) r8.1 r10.1)
    | ((with_reducible refine at_jn 8 ?_); (with_reducible refine cl_map 8 (enc := res16) ?_ (fun r12 => ?_)); focus exact f16_ok (n + 2) r8.1)
    | ((with_reducible refine at_jn 12 ?_); (with_reducible refine loop_eq 12 (fun x14 => ⟨[(.p (.sl 74 (List.map e_Held r8.1.Held))), (.p (.int .i64 a3)), (.p (.sl 39 (List.map e_Copy a1))), (.ref 0 []), (.p (.int .i64 (Int.ofNat (List.length r8.1.Held)))), (.p (.int .i64 x14))], [.var (.p (e_Wallet a0)) false]⟩) (Sum.elim (fun r21 => (.ret, ⟨[(.p (.bool false))], []⟩)) (fun r21 => (.exit 2, ⟨[.unk], []⟩))) (F.testamurlaw41_WalletPut_l1 r8 a0 a3 a1) 0 ?_ (fun x14 => ?_) (sumAll (fun r21 => ?_) (fun r21 => ?_))); focus rfl)
    | ((with_reducible refine at_jn 11 ?_); rename_i y15; (with_reducible refine jn_map 11 (fun r18 => (.normal, ⟨[(.p (.int .i64 (Int.ofNat (List.length r8.1.Held)))), (.ref 0 []), (.p (.sl 39 (List.map e_Copy a1))), (.p (.int .i64 a3)), (.p (.sl 74 (List.map e_Held r8.1.Held))), (.p (.int .i64 x14)), (.p (.int .i64 x14)), (.ref 1 []), (.p (.bool r18))], [.var (.p (e_Wallet a0)) false, .var (.p (e_Held y15)) false]⟩)) ?_ (fun r18 => ?_)))
    | ((with_reducible refine (X_draw _ _ _ _ 15 [] 22 _ _ ?_).trans ?_); focus kernel_rfl)
    | ((with_reducible refine at_jn 9 ?_); rename_i y16; (with_reducible refine cl_map 9 (enc := res25) ?_ (fun r17 => ?_)); focus exact f25_ok (n + 9) y15 y16)
    | ((with_reducible refine at_jn 10 ?_); (with_reducible refine jn_map 10 (fun r20 => (.normal, ⟨[(.p (.int .i64 (Int.ofNat (List.length r8.1.Held)))), (.ref 0 []), (.p (.sl 39 (List.map e_Copy a1))), (.p (.int .i64 a3)), (.p (.sl 74 (List.map e_Held r8.1.Held))), (.p (.int .i64 x14)), (.p (.bool r20))], [.var (.p (e_Wallet a0)) false]⟩)) ?_ (fun r20 => ?_)))
    | ((with_reducible refine (X_draw _ _ _ _ 31 [] 24 _ _ ?_).trans ?_); focus kernel_rfl)
    | with_reducible refine (jx_bd _ _).trans ?_
    | rfl
    | simp -implicitDefEqProofs only [append_eq, appArg_eq, apT_slice, apT_str, slOf_sl, apA_nils, apA_own, apA_win, apO_row, go_sem, reduceIte, reduceCtorEq, Nat.reduceAdd, Nat.reduceSub, Nat.reduceMul, Nat.reduceEqDiff, Nat.reduceLT, Nat.reduceLeDiff, Nat.reduceBEq, Nat.reduceBNe, Int.reduceToNat, Int.reduceLT, Int.reduceLE, Int.reduceEq, Int.reduceBEq, Int.reduceBNe, Int.reduceAdd, Int.reduceSub, Int.reduceMul, Int.reduceNeg, Int.reduceOfNat, Int.reduceNatCast, Nat.reducePow]
    | (simp only [List.map_append]; rfl)
    | (simp only [List.map_append]; done)
end
end Sp
