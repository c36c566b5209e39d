/- The equations of the functions, part 1: what the evaluator answers is the plain function (no condition). -/
import Derived.Test.YtfcldaojfbbaoaaDoorTab
import Derived.Test.YtfcldaojfbbaoaaDoorPure
set_option linter.unusedVariables false
set_option linter.unusedSimpArgs false
set_option linter.unnecessarySimpa false
open Go Go.Proofs Ev
set_option linter.unusedSimpArgs false
set_option maxRecDepth 100000
set_option linter.unusedVariables false
namespace Sp
noncomputable section
set_option maxHeartbeats 4000000
set_option linter.unusedSimpArgs false
@[reducible, go_sem] def res27 (r : Bool) : Res × Heap := (.ret (.p (.bool r)), [])
theorem f27_ok (n : Nat) (a0 : Int) (a1 : Int) (a2 : Int) : En.call (n + 1) (.f 27) [.p (.int .i64 a0), .p (.int .i64 a1), .p (.int .i64 a2)] [] = (F.wallet_in a0 a1 a2).map res27 := by
  refine (c27 (n + 0) (.p (.int .i64 a0)) (.p (.int .i64 a1)) (.p (.int .i64 a2)) []).trans ?_
  repeat' first
    | simp -implicitDefEqProofs only [*, go_sem, F.wallet_in, reduceIte, reduceCtorEq, Nat.reduceAdd, Nat.reduceSub, Nat.reduceMul, Nat.reduceEqDiff, Nat.reduceLT, Nat.reduceLeDiff, Nat.reduceBEq, Nat.reduceBNe, Int.reduceToNat, Int.reduceLT, Int.reduceLE, Int.reduceEq, Int.reduceBEq, Int.reduceBNe, Int.reduceAdd, Int.reduceSub, Int.reduceMul, Int.reduceNeg, Int.reduceOfNat, Int.reduceNatCast, Nat.reducePow]
    | with_reducible refine bd_same (fun _ => ?_)
    | with_reducible refine br_nil (fun _ => ?_) (fun _ => ?_)
    | with_reducible refine br_split (fun _ => ?_) (fun _ => ?_)
    | with_reducible refine (jx_bd _ _).trans ?_
    | rfl
    | simp -implicitDefEqProofs only [append_eq, appArg_eq, apT_slice, apT_str, slOf_sl, apA_nils, apA_own, apA_win, apO_row, go_sem, reduceIte, reduceCtorEq, Nat.reduceAdd, Nat.reduceSub, Nat.reduceMul, Nat.reduceEqDiff, Nat.reduceLT, Nat.reduceLeDiff, Nat.reduceBEq, Nat.reduceBNe, Int.reduceToNat, Int.reduceLT, Int.reduceLE, Int.reduceEq, Int.reduceBEq, Int.reduceBNe, Int.reduceAdd, Int.reduceSub, Int.reduceMul, Int.reduceNeg, Int.reduceOfNat, Int.reduceNatCast, Nat.reducePow]
    | (simp only [List.map_append]; rfl)
    | (simp only [List.map_append]; done)
@[reducible, go_sem] def res9 (r : Wallet × Int) : Res × Heap := (.ret (.tup [(.p (e_Wallet r.1)), (.p (.int .i64 r.2))]), [])
theorem f9_ok (n : Nat) (a0 : Int) : En.call (n + 2) (.f 9) [.p (.int .i64 a0)] [] = (F.wallet_New a0).map res9 := by
  refine (c9 (n + 1) (.p (.int .i64 a0)) []).trans ?_
  repeat' first
    | simp -implicitDefEqProofs only [*, go_sem, F.wallet_New, reduceIte, reduceCtorEq, Nat.reduceAdd, Nat.reduceSub, Nat.reduceMul, Nat.reduceEqDiff, Nat.reduceLT, Nat.reduceLeDiff, Nat.reduceBEq, Nat.reduceBNe, Int.reduceToNat, Int.reduceLT, Int.reduceLE, Int.reduceEq, Int.reduceBEq, Int.reduceBNe, Int.reduceAdd, Int.reduceSub, Int.reduceMul, Int.reduceNeg, Int.reduceOfNat, Int.reduceNatCast, Nat.reducePow]
    | with_reducible refine bd_same (fun _ => ?_)
    | with_reducible refine br_nil (fun _ => ?_) (fun _ => ?_)
    | with_reducible refine br_split (fun _ => ?_) (fun _ => ?_)
    | ((with_reducible refine at_jn 1 ?_); (with_reducible refine cl_map 1 (enc := res27) ?_ (fun r1 => ?_)); focus exact f27_ok (n + 0) a0 0 4095)
    | with_reducible refine (jx_bd _ _).trans ?_
    | rfl
    | simp -implicitDefEqProofs only [append_eq, appArg_eq, apT_slice, apT_str, slOf_sl, apA_nils, apA_own, apA_win, apO_row, go_sem, reduceIte, reduceCtorEq, Nat.reduceAdd, Nat.reduceSub, Nat.reduceMul, Nat.reduceEqDiff, Nat.reduceLT, Nat.reduceLeDiff, Nat.reduceBEq, Nat.reduceBNe, Int.reduceToNat, Int.reduceLT, Int.reduceLE, Int.reduceEq, Int.reduceBEq, Int.reduceBNe, Int.reduceAdd, Int.reduceSub, Int.reduceMul, Int.reduceNeg, Int.reduceOfNat, Int.reduceNatCast, Nat.reducePow]
    | (simp only [List.map_append]; rfl)
    | (simp only [List.map_append]; done)
@[reducible, go_sem] def res44 (r : (List (List Int))) : Res × Heap := (.ret (.p (.sl 32 (List.map (PD.iarr .u8 32) r))), [])
theorem f44_ok (n : Nat)  : En.call (n + 1) (.f 44) [] [] = (F.testamurlaw41_links).map res44 := by
  refine (c44 (n + 0) []).trans ?_
  repeat' first
    | simp -implicitDefEqProofs only [*, go_sem, F.testamurlaw41_links, reduceIte, reduceCtorEq, Nat.reduceAdd, Nat.reduceSub, Nat.reduceMul, Nat.reduceEqDiff, Nat.reduceLT, Nat.reduceLeDiff, Nat.reduceBEq, Nat.reduceBNe, Int.reduceToNat, Int.reduceLT, Int.reduceLE, Int.reduceEq, Int.reduceBEq, Int.reduceBNe, Int.reduceAdd, Int.reduceSub, Int.reduceMul, Int.reduceNeg, Int.reduceOfNat, Int.reduceNatCast, Nat.reducePow]
    | with_reducible refine bd_same (fun _ => ?_)
    | with_reducible refine br_nil (fun _ => ?_) (fun _ => ?_)
    | with_reducible refine br_split (fun _ => ?_) (fun _ => ?_)
    | with_reducible refine (jx_bd _ _).trans ?_
    | rfl
    | simp -implicitDefEqProofs only [append_eq, appArg_eq, apT_slice, apT_str, slOf_sl, apA_nils, apA_own, apA_win, apO_row, go_sem, reduceIte, reduceCtorEq, Nat.reduceAdd, Nat.reduceSub, Nat.reduceMul, Nat.reduceEqDiff, Nat.reduceLT, Nat.reduceLeDiff, Nat.reduceBEq, Nat.reduceBNe, Int.reduceToNat, Int.reduceLT, Int.reduceLE, Int.reduceEq, Int.reduceBEq, Int.reduceBNe, Int.reduceAdd, Int.reduceSub, Int.reduceMul, Int.reduceNeg, Int.reduceOfNat, Int.reduceNatCast, Nat.reducePow]
    | (simp only [List.map_append]; rfl)
    | (simp only [List.map_append]; done)
@[reducible, go_sem] def res69 (r : Int) : Res × Heap := (.ret (.p (.int .u32 r)), [])
theorem f69_ok (n : Nat) (a0 : Int) (a1 : Int) : En.call (n + 1) (.f 69) [.p (.int .u32 a0), .p (.int .i64 a1)] [] = (F.math_bits_RotateLeft32 a0 a1).map res69 := by
  refine (c69 (n + 0) (.p (.int .u32 a0)) (.p (.int .i64 a1)) []).trans ?_
  repeat' first
    | simp -implicitDefEqProofs only [*, go_sem, F.math_bits_RotateLeft32, reduceIte, reduceCtorEq, Nat.reduceAdd, Nat.reduceSub, Nat.reduceMul, Nat.reduceEqDiff, Nat.reduceLT, Nat.reduceLeDiff, Nat.reduceBEq, Nat.reduceBNe, Int.reduceToNat, Int.reduceLT, Int.reduceLE, Int.reduceEq, Int.reduceBEq, Int.reduceBNe, Int.reduceAdd, Int.reduceSub, Int.reduceMul, Int.reduceNeg, Int.reduceOfNat, Int.reduceNatCast, Nat.reducePow]
    | with_reducible refine bd_same (fun _ => ?_)
    | with_reducible refine br_nil (fun _ => ?_) (fun _ => ?_)
    | with_reducible refine br_split (fun _ => ?_) (fun _ => ?_)
    | with_reducible refine (jx_bd _ _).trans ?_
    | rfl
    | simp -implicitDefEqProofs only [append_eq, appArg_eq, apT_slice, apT_str, slOf_sl, apA_nils, apA_own, apA_win, apO_row, go_sem, reduceIte, reduceCtorEq, Nat.reduceAdd, Nat.reduceSub, Nat.reduceMul, Nat.reduceEqDiff, Nat.reduceLT, Nat.reduceLeDiff, Nat.reduceBEq, Nat.reduceBNe, Int.reduceToNat, Int.reduceLT, Int.reduceLE, Int.reduceEq, Int.reduceBEq, Int.reduceBNe, Int.reduceAdd, Int.reduceSub, Int.reduceMul, Int.reduceNeg, Int.reduceOfNat, Int.reduceNatCast, Nat.reducePow]
    | (simp only [List.map_append]; rfl)
    | (simp only [List.map_append]; done)
@[reducible, go_sem] def res70 (r : Int) : Res × Heap := (.ret (.p (.int .u32 r)), [])
theorem f70_ok (n : Nat) (a0 : Int) (a1 : Int) (a2 : Int) (a3 : Int) : En.call (n + 2) (.f 70) [.p (.int .u32 a0), .p (.int .i64 a1), .p (.int .i64 a2), .p (.int .i64 a3)] [] = (F.digest_rotated a0 a1 a2 a3).map res70 := by
  refine (c70 (n + 1) (.p (.int .u32 a0)) (.p (.int .i64 a1)) (.p (.int .i64 a2)) (.p (.int .i64 a3)) []).trans ?_
  repeat' first
    | simp -implicitDefEqProofs only [*, go_sem, F.digest_rotated, reduceIte, reduceCtorEq, Nat.reduceAdd, Nat.reduceSub, Nat.reduceMul, Nat.reduceEqDiff, Nat.reduceLT, Nat.reduceLeDiff, Nat.reduceBEq, Nat.reduceBNe, Int.reduceToNat, Int.reduceLT, Int.reduceLE, Int.reduceEq, Int.reduceBEq, Int.reduceBNe, Int.reduceAdd, Int.reduceSub, Int.reduceMul, Int.reduceNeg, Int.reduceOfNat, Int.reduceNatCast, Nat.reducePow]
    | with_reducible refine bd_same (fun _ => ?_)
    | with_reducible refine br_nil (fun _ => ?_) (fun _ => ?_)
    | with_reducible refine br_split (fun _ => ?_) (fun _ => ?_)
    | ((with_reducible refine at_jn 1 ?_); (with_reducible refine cl_map 1 (enc := res69) ?_ (fun r1 => ?_)); focus exact f69_ok (n + 0) a0 (Go.IntKind.wrap .i64 (0 - a1)))
    | ((with_reducible refine at_jn 2 ?_); (with_reducible refine cl_map 2 (enc := res69) ?_ (fun r2 => ?_)); focus exact f69_ok (n + 0) a0 (Go.IntKind.wrap .i64 (0 - a2)))
    | ((with_reducible refine at_jn 3 ?_); (with_reducible refine cl_map 3 (enc := res69) ?_ (fun r3 => ?_)); focus exact f69_ok (n + 0) a0 (Go.IntKind.wrap .i64 (0 - a3)))
    | with_reducible refine (jx_bd _ _).trans ?_
    | rfl
    | simp -implicitDefEqProofs only [append_eq, appArg_eq, apT_slice, apT_str, slOf_sl, apA_nils, apA_own, apA_win, apO_row, go_sem, reduceIte, reduceCtorEq, Nat.reduceAdd, Nat.reduceSub, Nat.reduceMul, Nat.reduceEqDiff, Nat.reduceLT, Nat.reduceLeDiff, Nat.reduceBEq, Nat.reduceBNe, Int.reduceToNat, Int.reduceLT, Int.reduceLE, Int.reduceEq, Int.reduceBEq, Int.reduceBNe, Int.reduceAdd, Int.reduceSub, Int.reduceMul, Int.reduceNeg, Int.reduceOfNat, Int.reduceNatCast, Nat.reducePow]
    | (simp only [List.map_append]; rfl)
    | (simp only [List.map_append]; done)
end
end Sp
