/- The equations of the functions, part 9: what the evaluator answers is the plain function (no condition). -/
import Derived.Test.YtfcldaojfbbaoaaDoorEqsH
set_option linter.unusedVariables false
set_option linter.unusedSimpArgs false
set_option linter.unnecessarySimpa false
open Go Go.Proofs Ev
set_option linter.unusedSimpArgs false
set_option maxRecDepth 100000
set_option linter.unusedVariables false
namespace Sp
noncomputable section
set_option maxHeartbeats 4000000
set_option linter.unusedSimpArgs false
@[reducible, go_sem] def res71 (r : (List Int)) : Res × Heap := (.ret (.p (.sl 1 (List.map (PD.int .u8) r))), [])
theorem f71_ok (n : Nat) (a0 : List Int) : En.call (n + 1) (.f 71) [.p (.sl 1 (List.map (PD.int .u8) a0))] [] = (F.testamurref02_padded a0).map res71 := by
  refine (c71 (n + 0) (.p (.sl 1 (List.map (PD.int .u8) a0))) []).trans ?_
  repeat' first
    | simp -implicitDefEqProofs only [*, go_sem, F.testamurref02_padded, F.testamurref02_padded_l0, F.testamurref02_padded_l1, reduceIte, reduceCtorEq, Nat.reduceAdd, Nat.reduceSub, Nat.reduceMul, Nat.reduceEqDiff, Nat.reduceLT, Nat.reduceLeDiff, Nat.reduceBEq, Nat.reduceBNe, Int.reduceToNat, Int.reduceLT, Int.reduceLE, Int.reduceEq, Int.reduceBEq, Int.reduceBNe, Int.reduceAdd, Int.reduceSub, Int.reduceMul, Int.reduceNeg, Int.reduceOfNat, Int.reduceNatCast, Nat.reducePow]
    | with_reducible refine bd_same (fun _ => ?_)
    | with_reducible refine br_nil (fun _ => ?_) (fun _ => ?_)
    | with_reducible refine br_split (fun _ => ?_) (fun _ => ?_)
    | ((with_reducible refine at_ap 1 ?_); (with_reducible refine ap_guard 1 ((.own 1 0), [.dead, .row 1 (List.map (PD.int .u8) a0) false]) ?_ ?_))
    | ((with_reducible refine at_ap 2 ?_); (with_reducible refine ap_guard 2 ((.own 3 0), [.dead, .dead, .row 1 (List.map (PD.int .u8) [128]) false, .row 1 (List.map (PD.int .u8) (a0 ++ [128])) false]) ?_ ?_))
    | ((with_reducible refine at_jn 6 ?_); (with_reducible refine loop_eq 6 (fun x1 => ⟨[(.p (.sl 1 (List.map (PD.int .u8) a0))), (.own 0 0)], [.row 1 (List.map (PD.int .u8) x1) false]⟩) (fun r2 => (.exit 0, ⟨[(.own 0 0), (.p (.sl 1 (List.map (PD.int .u8) a0)))], [.row 1 (List.map (PD.int .u8) r2) false]⟩)) (F.testamurref02_padded_l0) (a0 ++ [128]) ?_ (fun x1 => ?_) (fun r2 => ?_)); focus rfl)
    | ((with_reducible refine at_ap 3 ?_); (with_reducible refine ap_guard 3 ((.own 2 0), [.dead, .row 1 (List.map (PD.int .u8) [0]) false, .row 1 (List.map (PD.int .u8) (x1 ++ [0])) false]) ?_ ?_))
    | ((with_reducible refine at_jn 5 ?_); (with_reducible refine loop_eq 5 (fun x3 => ⟨[(.p (.int .u64 (Go.IntKind.wrap .u64 ((Go.IntKind.wrap .u64 (Int.ofNat (List.length a0))) * 8)))), (.p (.int .i64 x3.1)), (.own 0 0)], [.row 1 (List.map (PD.int .u8) x3.2) false]⟩) (fun r4 => (.exit 2, ⟨[(.own 0 0)], [.row 1 (List.map (PD.int .u8) r4) false]⟩)) (F.testamurref02_padded_l1 a0) (7, r2) ?_ (fun x3 => ?_) (fun r4 => ?_)); focus rfl)
    | ((with_reducible refine at_ap 4 ?_); (with_reducible refine ap_guard 4 ((.own 2 0), [.dead, .row 1 (List.map (PD.int .u8) [(Go.IntKind.wrap .u8 (shrI .u64 (Go.IntKind.wrap .u64 ((Go.IntKind.wrap .u64 (Int.ofNat (List.length a0))) * 8)) (Go.IntKind.wrap .i64 (8 * x3.1))))]) false, .row 1 (List.map (PD.int .u8) (x3.2 ++ [(Go.IntKind.wrap .u8 (shrI .u64 (Go.IntKind.wrap .u64 ((Go.IntKind.wrap .u64 (Int.ofNat (List.length a0))) * 8)) (Go.IntKind.wrap .i64 (8 * x3.1))))])) false]) ?_ ?_))
    | with_reducible refine (jx_bd _ _).trans ?_
    | rfl
    | simp -implicitDefEqProofs only [append_eq, appArg_eq, apT_slice, apT_str, slOf_sl, apA_nils, apA_own, apA_win, apO_row, go_sem, reduceIte, reduceCtorEq, Nat.reduceAdd, Nat.reduceSub, Nat.reduceMul, Nat.reduceEqDiff, Nat.reduceLT, Nat.reduceLeDiff, Nat.reduceBEq, Nat.reduceBNe, Int.reduceToNat, Int.reduceLT, Int.reduceLE, Int.reduceEq, Int.reduceBEq, Int.reduceBNe, Int.reduceAdd, Int.reduceSub, Int.reduceMul, Int.reduceNeg, Int.reduceOfNat, Int.reduceNatCast, Nat.reducePow]
    | (simp only [List.map_append]; rfl)
    | (simp only [List.map_append]; done)
@[reducible, go_sem] def res73 (r : Int) : Res × Heap := (.ret (.p (.int .u32 r)), [])
theorem f73_ok (n : Nat) (a0 : List Int) : En.call (n + 1) (.f 73) [.p (.sl 1 (List.map (PD.int .u8) a0))] [] = (F.testamurref02_word a0).map res73 := by
  refine (c73 (n + 0) (.p (.sl 1 (List.map (PD.int .u8) a0))) []).trans ?_
  repeat' first
    | simp -implicitDefEqProofs only [*, go_sem, F.testamurref02_word, reduceIte, reduceCtorEq, Nat.reduceAdd, Nat.reduceSub, Nat.reduceMul, Nat.reduceEqDiff, Nat.reduceLT, Nat.reduceLeDiff, Nat.reduceBEq, Nat.reduceBNe, Int.reduceToNat, Int.reduceLT, Int.reduceLE, Int.reduceEq, Int.reduceBEq, Int.reduceBNe, Int.reduceAdd, Int.reduceSub, Int.reduceMul, Int.reduceNeg, Int.reduceOfNat, Int.reduceNatCast, Nat.reducePow]
    | with_reducible refine bd_same (fun _ => ?_)
    | with_reducible refine br_nil (fun _ => ?_) (fun _ => ?_)
    | with_reducible refine br_split (fun _ => ?_) (fun _ => ?_)
    | ((with_reducible refine (X_draw _ _ _ _ 23 [] 1 _ _ ?_).trans ?_); focus kernel_rfl)
    | with_reducible refine (jx_bd _ _).trans ?_
    | rfl
    | simp -implicitDefEqProofs only [append_eq, appArg_eq, apT_slice, apT_str, slOf_sl, apA_nils, apA_own, apA_win, apO_row, go_sem, reduceIte, reduceCtorEq, Nat.reduceAdd, Nat.reduceSub, Nat.reduceMul, Nat.reduceEqDiff, Nat.reduceLT, Nat.reduceLeDiff, Nat.reduceBEq, Nat.reduceBNe, Int.reduceToNat, Int.reduceLT, Int.reduceLE, Int.reduceEq, Int.reduceBEq, Int.reduceBNe, Int.reduceAdd, Int.reduceSub, Int.reduceMul, Int.reduceNeg, Int.reduceOfNat, Int.reduceNatCast, Nat.reducePow]
    | (simp only [List.map_append]; rfl)
    | (simp only [List.map_append]; done)
@[reducible, go_sem] def res74 (r : Int) : Res × Heap := (.ret (.p (.int .u32 r)), [])
theorem f74_ok (n : Nat) (a0 : Int) (a1 : Int) : En.call (n + 1) (.f 74) [.p (.int .u32 a0), .p (.int .i64 a1)] [] = (F.testamurref02_ror a0 a1).map res74 := by
  refine (c74 (n + 0) (.p (.int .u32 a0)) (.p (.int .i64 a1)) []).trans ?_
  repeat' first
    | simp -implicitDefEqProofs only [*, go_sem, F.testamurref02_ror, reduceIte, reduceCtorEq, Nat.reduceAdd, Nat.reduceSub, Nat.reduceMul, Nat.reduceEqDiff, Nat.reduceLT, Nat.reduceLeDiff, Nat.reduceBEq, Nat.reduceBNe, Int.reduceToNat, Int.reduceLT, Int.reduceLE, Int.reduceEq, Int.reduceBEq, Int.reduceBNe, Int.reduceAdd, Int.reduceSub, Int.reduceMul, Int.reduceNeg, Int.reduceOfNat, Int.reduceNatCast, Nat.reducePow]
    | with_reducible refine bd_same (fun _ => ?_)
    | with_reducible refine br_nil (fun _ => ?_) (fun _ => ?_)
    | with_reducible refine br_split (fun _ => ?_) (fun _ => ?_)
    | ((with_reducible refine (X_draw _ _ _ _ 9 [] 1 _ _ ?_).trans ?_); focus kernel_rfl)
    | with_reducible refine (jx_bd _ _).trans ?_
    | rfl
    | simp -implicitDefEqProofs only [append_eq, appArg_eq, apT_slice, apT_str, slOf_sl, apA_nils, apA_own, apA_win, apO_row, go_sem, reduceIte, reduceCtorEq, Nat.reduceAdd, Nat.reduceSub, Nat.reduceMul, Nat.reduceEqDiff, Nat.reduceLT, Nat.reduceLeDiff, Nat.reduceBEq, Nat.reduceBNe, Int.reduceToNat, Int.reduceLT, Int.reduceLE, Int.reduceEq, Int.reduceBEq, Int.reduceBNe, Int.reduceAdd, Int.reduceSub, Int.reduceMul, Int.reduceNeg, Int.reduceOfNat, Int.reduceNatCast, Nat.reducePow]
    | (simp only [List.map_append]; rfl)
    | (simp only [List.map_append]; done)
@[reducible, go_sem] def res75 (r : (List Int)) : Res × Heap := (.ret (.p (.iarr .u32 64 r)), [])
theorem f75_ok (n : Nat)  : En.call (n + 1) (.f 75) [] [] = (F.testamurref02_numbers).map res75 := by
  refine (c75 (n + 0) []).trans ?_
  repeat' first
    | simp -implicitDefEqProofs only [*, go_sem, F.testamurref02_numbers, reduceIte, reduceCtorEq, Nat.reduceAdd, Nat.reduceSub, Nat.reduceMul, Nat.reduceEqDiff, Nat.reduceLT, Nat.reduceLeDiff, Nat.reduceBEq, Nat.reduceBNe, Int.reduceToNat, Int.reduceLT, Int.reduceLE, Int.reduceEq, Int.reduceBEq, Int.reduceBNe, Int.reduceAdd, Int.reduceSub, Int.reduceMul, Int.reduceNeg, Int.reduceOfNat, Int.reduceNatCast, Nat.reducePow]
    | with_reducible refine bd_same (fun _ => ?_)
    | with_reducible refine br_nil (fun _ => ?_) (fun _ => ?_)
    | with_reducible refine br_split (fun _ => ?_) (fun _ => ?_)
    | with_reducible refine (jx_bd _ _).trans ?_
    | rfl
    | simp -implicitDefEqProofs only [append_eq, appArg_eq, apT_slice, apT_str, slOf_sl, apA_nils, apA_own, apA_win, apO_row, go_sem, reduceIte, reduceCtorEq, Nat.reduceAdd, Nat.reduceSub, Nat.reduceMul, Nat.reduceEqDiff, Nat.reduceLT, Nat.reduceLeDiff, Nat.reduceBEq, Nat.reduceBNe, Int.reduceToNat, Int.reduceLT, Int.reduceLE, Int.reduceEq, Int.reduceBEq, Int.reduceBNe, Int.reduceAdd, Int.reduceSub, Int.reduceMul, Int.reduceNeg, Int.reduceOfNat, Int.reduceNatCast, Nat.reducePow]
    | (simp only [List.map_append]; rfl)
    | (simp only [List.map_append]; done)
end
end Sp
