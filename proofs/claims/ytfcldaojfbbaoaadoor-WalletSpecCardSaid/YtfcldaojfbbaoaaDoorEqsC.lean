/- The equations of the functions, part 3: what the evaluator answers is the plain function (no condition). -/
import Derived.Test.YtfcldaojfbbaoaaDoorEqsB
set_option linter.unusedVariables false
set_option linter.unusedSimpArgs false
set_option linter.unnecessarySimpa false
open Go Go.Proofs Ev
set_option linter.unusedSimpArgs false
set_option maxRecDepth 100000
set_option linter.unusedVariables false
namespace Sp
noncomputable section
set_option maxHeartbeats 4000000
set_option linter.unusedSimpArgs false
@[reducible, go_sem] def res61 (r : (List Int)) : Res × Heap := (.ret (.p (.sl 1 (List.map (PD.int .u8) r))), [])
theorem f61_ok (n : Nat) (a0 : List (List Int)) : En.call (n + 2) (.f 61) [.p (.sl 1 (List.map (fun l => PD.sl 1 (List.map (PD.int .u8) l)) a0))] [] = (F.slices_Concat_byte a0).map res61 := by
  refine (c61 (n + 1) (.p (.sl 1 (List.map (fun l => PD.sl 1 (List.map (PD.int .u8) l)) a0))) []).trans ?_
  repeat' first
    | simp -implicitDefEqProofs only [*, go_sem, F.slices_Concat_byte, F.slices_Concat_byte_l0, F.slices_Concat_byte_l1, c66, reduceIte, reduceCtorEq, Nat.reduceAdd, Nat.reduceSub, Nat.reduceMul, Nat.reduceEqDiff, Nat.reduceLT, Nat.reduceLeDiff, Nat.reduceBEq, Nat.reduceBNe, Int.reduceToNat, Int.reduceLT, Int.reduceLE, Int.reduceEq, Int.reduceBEq, Int.reduceBNe, Int.reduceAdd, Int.reduceSub, Int.reduceMul, Int.reduceNeg, Int.reduceOfNat, Int.reduceNatCast, Nat.reducePow]
    | with_reducible refine bd_same (fun _ => ?_)
    | with_reducible refine br_nil (fun _ => ?_) (fun _ => ?_)
    | with_reducible refine br_split (fun _ => ?_) (fun _ => ?_)
    | ((with_reducible refine at_jn 6 ?_); (with_reducible refine loop_eq 6 (fun x1 => ⟨[(.p (.sl 1 (List.map (fun l => PD.sl 1 (List.map (PD.int .u8) l)) a0))), (.p (.int .i64 (Int.ofNat (List.length a0)))), (.p (.int .i64 x1.1)), (.p (.int .i64 x1.2)), (.p (.sl 1 (List.map (fun l => PD.sl 1 (List.map (PD.int .u8) l)) a0)))], []⟩) (fun r3 => (.exit 0, ⟨[(.p (.sl 1 (List.map (fun l => PD.sl 1 (List.map (PD.int .u8) l)) a0))), (.p (.int .i64 r3))], []⟩)) (F.slices_Concat_byte_l0 a0) (0, 0) ?_ (fun x1 => ?_) (fun r3 => ?_)); focus rfl)
    | ((with_reducible refine at_jn 5 ?_); (with_reducible refine jn_map 5 (fun r5 => (.ret (.own 0 0), [.row 1 (List.map (PD.int .u8) []) false])) ?_ (fun r5 => ?_)))
    | ((with_reducible refine at_jn 2 ?_); (with_reducible refine jn_map 2 (fun r4 => (.normal, ⟨[(.nils 1), (.p (.int .i64 r3))], []⟩)) ?_ (fun r4 => ?_)))
    | ((with_reducible refine at_ap 1 ?_); (with_reducible refine br_guard 1 ?_ ?_ ?_))
    | ((with_reducible refine at_jn 4 ?_); (with_reducible refine loop_eq 4 (fun x6 => ⟨[(.p (.sl 1 (List.map (fun l => PD.sl 1 (List.map (PD.int .u8) l)) a0))), (.p (.int .i64 (Int.ofNat (List.length a0)))), (.p (.int .i64 x6.1)), (.own 0 0)], [.row 1 (List.map (PD.int .u8) x6.2) false]⟩) (fun r8 => (.exit 2, ⟨[(.own 0 0)], [.row 1 (List.map (PD.int .u8) r8) false]⟩)) (F.slices_Concat_byte_l1 a0) (0, []) ?_ (fun x6 => ?_) (fun r8 => ?_)); focus rfl)
    | ((with_reducible refine at_ap 3 ?_); rename_i y7; (with_reducible refine ap_guard 3 ((.own 1 0), [.dead, .row 1 (List.map (PD.int .u8) (x6.2 ++ y7)) false]) ?_ ?_))
    | with_reducible refine (jx_bd _ _).trans ?_
    | rfl
    | simp -implicitDefEqProofs only [append_eq, appArg_eq, apT_slice, apT_str, slOf_sl, apA_nils, apA_own, apA_win, apO_row, go_sem, reduceIte, reduceCtorEq, Nat.reduceAdd, Nat.reduceSub, Nat.reduceMul, Nat.reduceEqDiff, Nat.reduceLT, Nat.reduceLeDiff, Nat.reduceBEq, Nat.reduceBNe, Int.reduceToNat, Int.reduceLT, Int.reduceLE, Int.reduceEq, Int.reduceBEq, Int.reduceBNe, Int.reduceAdd, Int.reduceSub, Int.reduceMul, Int.reduceNeg, Int.reduceOfNat, Int.reduceNatCast, Nat.reducePow]
    | (simp only [List.map_append]; rfl)
    | (simp only [List.map_append]; done)
@[reducible, go_sem] def res55 (r : (List Int)) : Res × Heap := (.ret (.p (.iarr .u8 32 r)), [])
theorem f55_ok (n : Nat) (a0 : ByteArray) (a1 : List Int) : En.call (n + 5) (.f 55) [.p (.str a0), .p (.sl 1 (List.map (PD.int .u8) a1))] [] = (F.digest_Tagged a0 a1).map res55 := by
  refine (c55 (n + 4) (.p (.str a0)) (.p (.sl 1 (List.map (PD.int .u8) a1))) []).trans ?_
  repeat' first
    | simp -implicitDefEqProofs only [*, go_sem, F.digest_Tagged, reduceIte, reduceCtorEq, Nat.reduceAdd, Nat.reduceSub, Nat.reduceMul, Nat.reduceEqDiff, Nat.reduceLT, Nat.reduceLeDiff, Nat.reduceBEq, Nat.reduceBNe, Int.reduceToNat, Int.reduceLT, Int.reduceLE, Int.reduceEq, Int.reduceBEq, Int.reduceBNe, Int.reduceAdd, Int.reduceSub, Int.reduceMul, Int.reduceNeg, Int.reduceOfNat, Int.reduceNatCast, Nat.reducePow]
    | with_reducible refine bd_same (fun _ => ?_)
    | with_reducible refine br_nil (fun _ => ?_) (fun _ => ?_)
    | with_reducible refine br_split (fun _ => ?_) (fun _ => ?_)
    | ((with_reducible refine at_jn 1 ?_); (with_reducible refine cl_map 1 (enc := res60) ?_ (fun r1 => ?_)); focus exact f60_ok (n + 0) (strInts a0))
    | ((with_reducible refine at_jn 2 ?_); (with_reducible refine cl_map 2 (enc := res61) ?_ (fun r2 => ?_)); focus exact f61_ok (n + 2) [(List.take 32 r1), a1])
    | ((with_reducible refine at_jn 3 ?_); (with_reducible refine cl_map 3 (enc := res60) ?_ (fun r3 => ?_)); focus exact f60_ok (n + 0) r2)
    | with_reducible refine (jx_bd _ _).trans ?_
    | rfl
    | simp -implicitDefEqProofs only [append_eq, appArg_eq, apT_slice, apT_str, slOf_sl, apA_nils, apA_own, apA_win, apO_row, go_sem, reduceIte, reduceCtorEq, Nat.reduceAdd, Nat.reduceSub, Nat.reduceMul, Nat.reduceEqDiff, Nat.reduceLT, Nat.reduceLeDiff, Nat.reduceBEq, Nat.reduceBNe, Int.reduceToNat, Int.reduceLT, Int.reduceLE, Int.reduceEq, Int.reduceBEq, Int.reduceBNe, Int.reduceAdd, Int.reduceSub, Int.reduceMul, Int.reduceNeg, Int.reduceOfNat, Int.reduceNatCast, Nat.reducePow]
    | (simp only [List.map_append]; rfl)
    | (simp only [List.map_append]; done)
@[reducible, go_sem] def res49 (r : (List Int)) : Res × Heap := (.ret (.p (.iarr .u8 32 r)), [])
theorem f49_ok (n : Nat) (a0 : List Int) (a1 : Int) : En.call (n + 6) (.f 49) [.p (.iarr .u8 32 a0), .p (.int .i64 a1)] [] = (F.chains_steps a0 a1).map res49 := by
  refine (c49 (n + 5) (.p (.iarr .u8 32 a0)) (.p (.int .i64 a1)) []).trans ?_
  repeat' first
    | simp -implicitDefEqProofs only [*, go_sem, F.chains_steps, F.chains_steps_l0, reduceIte, reduceCtorEq, Nat.reduceAdd, Nat.reduceSub, Nat.reduceMul, Nat.reduceEqDiff, Nat.reduceLT, Nat.reduceLeDiff, Nat.reduceBEq, Nat.reduceBNe, Int.reduceToNat, Int.reduceLT, Int.reduceLE, Int.reduceEq, Int.reduceBEq, Int.reduceBNe, Int.reduceAdd, Int.reduceSub, Int.reduceMul, Int.reduceNeg, Int.reduceOfNat, Int.reduceNatCast, Nat.reducePow]
    | with_reducible refine bd_same (fun _ => ?_)
    | with_reducible refine br_nil (fun _ => ?_) (fun _ => ?_)
    | with_reducible refine br_split (fun _ => ?_) (fun _ => ?_)
    | ((with_reducible refine at_jn 2 ?_); (with_reducible refine loop_eq 2 (fun x1 => ⟨[(.p (.int .i64 a1)), (.p (.int .i64 x1.1)), (.ref 0 []), (.ref 1 [])], [.var (.p (.iarr .u8 32 x1.2)) false, .var (.p (.iarr .u8 32 (List.replicate 32 0))) false]⟩) (fun r3 => (.exit 0, ⟨[(.ref 0 []), (.ref 1 [])], [.var (.p (.iarr .u8 32 (List.replicate 32 0))) false, .var (.p (.iarr .u8 32 r3)) false]⟩)) (F.chains_steps_l0 a1) (0, a0) ?_ (fun x1 => ?_) (fun r3 => ?_)); focus rfl)
    | ((with_reducible refine at_jn 1 ?_); (with_reducible refine cl_map 1 (enc := res55) ?_ (fun r2 => ?_)); focus exact f55_ok (n + 0) (ByteArray.mk #[115, 116, 101, 112]) (List.take 32 x1.2))
    | with_reducible refine (jx_bd _ _).trans ?_
    | rfl
    | simp -implicitDefEqProofs only [append_eq, appArg_eq, apT_slice, apT_str, slOf_sl, apA_nils, apA_own, apA_win, apO_row, go_sem, reduceIte, reduceCtorEq, Nat.reduceAdd, Nat.reduceSub, Nat.reduceMul, Nat.reduceEqDiff, Nat.reduceLT, Nat.reduceLeDiff, Nat.reduceBEq, Nat.reduceBNe, Int.reduceToNat, Int.reduceLT, Int.reduceLE, Int.reduceEq, Int.reduceBEq, Int.reduceBNe, Int.reduceAdd, Int.reduceSub, Int.reduceMul, Int.reduceNeg, Int.reduceOfNat, Int.reduceNatCast, Nat.reducePow]
    | (simp only [List.map_append]; rfl)
    | (simp only [List.map_append]; done)
@[reducible, go_sem] def res50 (r : (List Int)) : Res × Heap := (.ret (.p (.iarr .u8 32 r)), [])
theorem f50_ok (n : Nat) (a0 : List (List Int)) : En.call (n + 6) (.f 50) [.p (.sl 32 (List.map (PD.iarr .u8 32) a0))] [] = (F.chains_key a0).map res50 := by
  refine (c50 (n + 5) (.p (.sl 32 (List.map (PD.iarr .u8 32) a0))) []).trans ?_
  repeat' first
    | simp -implicitDefEqProofs only [*, go_sem, F.chains_key, F.chains_key_l0, reduceIte, reduceCtorEq, Nat.reduceAdd, Nat.reduceSub, Nat.reduceMul, Nat.reduceEqDiff, Nat.reduceLT, Nat.reduceLeDiff, Nat.reduceBEq, Nat.reduceBNe, Int.reduceToNat, Int.reduceLT, Int.reduceLE, Int.reduceEq, Int.reduceBEq, Int.reduceBNe, Int.reduceAdd, Int.reduceSub, Int.reduceMul, Int.reduceNeg, Int.reduceOfNat, Int.reduceNatCast, Nat.reducePow]
    | with_reducible refine bd_same (fun _ => ?_)
    | with_reducible refine br_nil (fun _ => ?_) (fun _ => ?_)
    | with_reducible refine br_split (fun _ => ?_) (fun _ => ?_)
    | ((with_reducible refine at_jn 3 ?_); (with_reducible refine loop_eq 3 (fun x1 => ⟨[(.p (.sl 32 (List.map (PD.iarr .u8 32) a0))), (.p (.int .i64 (Int.ofNat (List.length a0)))), (.p (.int .i64 x1.1)), (.own 0 0), (.ref 1 [])], [.row 1 (List.map (PD.int .u8) x1.2) false, .var (.p (.iarr .u8 32 (List.replicate 32 0))) false]⟩) (fun r3 => (.exit 0, ⟨[(.ref 0 []), (.own 1 0)], [.var (.p (.iarr .u8 32 (List.replicate 32 0))) false, .row 1 (List.map (PD.int .u8) r3) false]⟩)) (F.chains_key_l0 a0) (0, []) ?_ (fun x1 => ?_) (fun r3 => ?_)); focus rfl)
    | ((with_reducible refine at_ap 1 ?_); rename_i y2; (with_reducible refine ap_guard 1 ((.own 3 0), [.dead, .var (.p (.iarr .u8 32 (List.replicate 32 0))) false, .var (.p (.iarr .u8 32 y2)) false, .row 1 (List.map (PD.int .u8) (x1.2 ++ (List.take 32 y2))) false]) ?_ ?_))
    | ((with_reducible refine at_jn 2 ?_); (with_reducible refine cl_map 2 (enc := res55) ?_ (fun r4 => ?_)); focus exact f55_ok (n + 0) (ByteArray.mk #[112, 117, 98, 108, 105, 99]) r3)
    | with_reducible refine (jx_bd _ _).trans ?_
    | rfl
    | simp -implicitDefEqProofs only [append_eq, appArg_eq, apT_slice, apT_str, slOf_sl, apA_nils, apA_own, apA_win, apO_row, go_sem, reduceIte, reduceCtorEq, Nat.reduceAdd, Nat.reduceSub, Nat.reduceMul, Nat.reduceEqDiff, Nat.reduceLT, Nat.reduceLeDiff, Nat.reduceBEq, Nat.reduceBNe, Int.reduceToNat, Int.reduceLT, Int.reduceLE, Int.reduceEq, Int.reduceBEq, Int.reduceBNe, Int.reduceAdd, Int.reduceSub, Int.reduceMul, Int.reduceNeg, Int.reduceOfNat, Int.reduceNatCast, Nat.reducePow]
    | (simp only [List.map_append]; rfl)
    | (simp only [List.map_append]; done)
@[reducible, go_sem] def res40 (r : (List Int)) : Res × Heap := (.ret (.p (.iarr .u8 32 r)), [])
theorem f40_ok (n : Nat) (a0 : List Int) : En.call (n + 9) (.f 40) [.p (.iarr .u8 32 a0)] [] = (F.chains_Public a0).map res40 := by
  refine (c40 (n + 8) (.p (.iarr .u8 32 a0)) []).trans ?_
  repeat' first
    | simp -implicitDefEqProofs only [*, go_sem, F.chains_Public, F.chains_Public_l0, c48, c54, reduceIte, reduceCtorEq, Nat.reduceAdd, Nat.reduceSub, Nat.reduceMul, Nat.reduceEqDiff, Nat.reduceLT, Nat.reduceLeDiff, Nat.reduceBEq, Nat.reduceBNe, Int.reduceToNat, Int.reduceLT, Int.reduceLE, Int.reduceEq, Int.reduceBEq, Int.reduceBNe, Int.reduceAdd, Int.reduceSub, Int.reduceMul, Int.reduceNeg, Int.reduceOfNat, Int.reduceNatCast, Nat.reducePow]
    | with_reducible refine bd_same (fun _ => ?_)
    | with_reducible refine br_nil (fun _ => ?_) (fun _ => ?_)
    | with_reducible refine br_split (fun _ => ?_) (fun _ => ?_)
    | ((with_reducible refine at_jn 9 ?_); (with_reducible refine jn_map 9 (fun r1 => (.ret (.clo (.func 54) [] [(.ref 3 [])]), [.var (.p (.iarr .u8 32 a0)) false, .var (.p (.iarr .u8 32 (List.replicate 32 0))) false, .var (.nils 32) false, .var (.p (.iarr .u8 32 a0)) false])) ?_ (fun r1 => ?_)))
    | ((with_reducible refine at_jn 8 ?_); (with_reducible refine jn_map 8 (fun r7 => (.ret (.tup []), [.var (.p (.iarr .u8 32 a0)) false, .var (.p (.iarr .u8 32 (List.replicate 32 0))) false, .var (.own 5 0) false, .var (.p (.iarr .u8 32 a0)) false, (@lpO 0 none 40 [(.p (.iarr .u8 32 a0)), (.ref 0 []), (.ref 1 []), (.ref 2 []), .unk, .unk, (.p (.iarr .u8 32 a0)), (.clo (.func 54) [] [(.ref 3 [])]), .unk, .unk, .unk, .unk, .unk, .unk, .unk, .unk, .unk] ⟨L40_0.1⟩), .row 32 (List.map (PD.iarr .u8 32) r7) false])) ?_ (fun r7 => ?_)))
    | ((with_reducible refine at_jn 6 ?_); (with_reducible refine loop_eq 6 (fun x2 => ⟨[(.yld 4), (.ref 3 []), (.p (.int .i64 x2.1))], [.var (.p (.iarr .u8 32 a0)) false, .var (.p (.iarr .u8 32 (List.replicate 32 0))) false, .var (.own 5 0) false, .var (.p (.iarr .u8 32 a0)) false, (@lpO 0 none 40 [(.p (.iarr .u8 32 a0)), (.ref 0 []), (.ref 1 []), (.ref 2 []), .unk, .unk, (.p (.iarr .u8 32 a0)), (.clo (.func 54) [] [(.ref 3 [])]), .unk, .unk, .unk, .unk, .unk, .unk, .unk, .unk, .unk] ⟨L40_0.1⟩), .row 32 (List.map (PD.iarr .u8 32) x2.2) false]⟩) (fun r6 => (.exit 0, ⟨[], [.var (.p (.iarr .u8 32 a0)) false, .var (.p (.iarr .u8 32 (List.replicate 32 0))) false, .var (.own 5 0) false, .var (.p (.iarr .u8 32 a0)) false, (@lpO 0 none 40 [(.p (.iarr .u8 32 a0)), (.ref 0 []), (.ref 1 []), (.ref 2 []), .unk, .unk, (.p (.iarr .u8 32 a0)), (.clo (.func 54) [] [(.ref 3 [])]), .unk, .unk, .unk, .unk, .unk, .unk, .unk, .unk, .unk] ⟨L40_0.1⟩), .row 32 (List.map (PD.iarr .u8 32) r6) false]⟩)) (F.chains_Public_l0 a0) (0, []) ?_ (fun x2 => ?_) (fun r6 => ?_)); focus rfl)
    | ((with_reducible refine at_ap 1 ?_); (with_reducible refine ap_guard 1 ((.own 7 0), [.var (.p (.iarr .u8 32 a0)) false, .var (.p (.iarr .u8 32 (List.replicate 32 0))) false, .var (.own 5 0) false, .var (.p (.iarr .u8 32 a0)) false, (@lpO 0 none 40 [(.p (.iarr .u8 32 a0)), (.ref 0 []), (.ref 1 []), (.ref 2 []), .unk, .unk, (.p (.iarr .u8 32 a0)), (.clo (.func 54) [] [(.ref 3 [])]), .unk, .unk, .unk, .unk, .unk, .unk, .unk, .unk, .unk] ⟨L40_0.1⟩), .row 32 (List.map (PD.iarr .u8 32) x2.2) false, .row 1 (List.map (PD.int .u8) [(Go.IntKind.wrap .u8 x2.1)]) false, .row 1 (List.map (PD.int .u8) ((List.take 32 a0) ++ [(Go.IntKind.wrap .u8 x2.1)])) false]) ?_ ?_))
    | ((with_reducible refine at_jn 2 ?_); (with_reducible refine cl_map 2 (enc := res55) ?_ (fun r3 => ?_)); focus exact f55_ok (n + 2) (ByteArray.mk #[99, 104, 97, 105, 110]) ((List.take 32 a0) ++ [(Go.IntKind.wrap .u8 x2.1)]))
    | ((with_reducible refine at_jn 5 ?_); (with_reducible refine jn_map 5 (fun r5 => (.ret (.p (.bool true)), [.var (.p (.iarr .u8 32 a0)) false, .var (.p (.iarr .u8 32 (List.replicate 32 0))) false, .var (.own 8 0) false, .var (.p (.iarr .u8 32 a0)) false, (@lpO 0 none 40 [(.p (.iarr .u8 32 a0)), (.ref 0 []), (.ref 1 []), (.ref 2 []), .unk, .unk, (.p (.iarr .u8 32 a0)), (.clo (.func 54) [] [(.ref 3 [])]), .unk, .unk, .unk, .unk, .unk, .unk, .unk, .unk, .unk] ⟨L40_0.1⟩), .dead, .row 1 (List.map (PD.int .u8) [(Go.IntKind.wrap .u8 x2.1)]) false, .row 1 (List.map (PD.int .u8) ((List.take 32 a0) ++ [(Go.IntKind.wrap .u8 x2.1)])) false, .row 32 (List.map (PD.iarr .u8 32) r5) false])) ?_ (fun r5 => ?_)))
    | ((with_reducible refine (X_draw _ _ _ _ 4 [] 4 _ _ ?_).trans ?_); focus kernel_rfl)
    | ((with_reducible refine at_jn 3 ?_); (with_reducible refine cl_map 3 (enc := res49) ?_ (fun r4 => ?_)); focus exact f49_ok (n + 0) r3 3)
    | ((with_reducible refine at_ap 4 ?_); (with_reducible refine ap_guard 4 ((.own 10 0), [.var (.p (.iarr .u8 32 a0)) false, .var (.p (.iarr .u8 32 (List.replicate 32 0))) false, .var (.own 5 0) false, .var (.p (.iarr .u8 32 a0)) false, (@lpO 1 none 40 [(.p (.iarr .u8 32 a0)), (.ref 0 []), (.ref 1 []), (.ref 2 []), .unk, .unk, (.p (.iarr .u8 32 a0)), (.clo (.func 54) [] [(.ref 3 [])]), .unk, .unk, .unk, .unk, .unk, .unk, .unk, .unk, .unk] ⟨L40_0.1⟩), .dead, .row 1 (List.map (PD.int .u8) [(Go.IntKind.wrap .u8 x2.1)]) false, .row 1 (List.map (PD.int .u8) ((List.take 32 a0) ++ [(Go.IntKind.wrap .u8 x2.1)])) false, .var (.p (.iarr .u8 32 r3)) false, .row 32 (List.map (PD.iarr .u8 32) [r4]) false, .row 32 (List.map (PD.iarr .u8 32) (x2.2 ++ [r4])) false]) ?_ ?_))
    | ((with_reducible refine at_jn 7 ?_); (with_reducible refine cl_map 7 (enc := res50) ?_ (fun r8 => ?_)); focus exact f50_ok (n + 2) r7)
    | with_reducible refine (jx_bd _ _).trans ?_
    | rfl
    | simp -implicitDefEqProofs only [append_eq, appArg_eq, apT_slice, apT_str, slOf_sl, apA_nils, apA_own, apA_win, apO_row, go_sem, reduceIte, reduceCtorEq, Nat.reduceAdd, Nat.reduceSub, Nat.reduceMul, Nat.reduceEqDiff, Nat.reduceLT, Nat.reduceLeDiff, Nat.reduceBEq, Nat.reduceBNe, Int.reduceToNat, Int.reduceLT, Int.reduceLE, Int.reduceEq, Int.reduceBEq, Int.reduceBNe, Int.reduceAdd, Int.reduceSub, Int.reduceMul, Int.reduceNeg, Int.reduceOfNat, Int.reduceNatCast, Nat.reducePow]
    | (simp only [List.map_append]; rfl)
    | (simp only [List.map_append]; done)
@[reducible, go_sem] def res26 (r : Copy × Secret) : Res × Heap := (.ret (.tup [(.p (e_Copy r.1)), (.p (e_Secret r.2))]), [])
theorem f26_ok (n : Nat) (a0 : Int) (a1 : Int) (a2 : List Int) : En.call (n + 10) (.f 26) [.p (.int .i64 a0), .p (.int .i64 a1), .p (.sl 1 (List.map (PD.int .i64) a2))] [] = (F.testamurlaw41_copied a0 a1 a2).map res26 := by
  refine (c26 (n + 9) (.p (.int .i64 a0)) (.p (.int .i64 a1)) (.p (.sl 1 (List.map (PD.int .i64) a2))) []).trans ?_
  repeat' first
    | simp -implicitDefEqProofs only [*, go_sem, F.testamurlaw41_copied, reduceIte, reduceCtorEq, Nat.reduceAdd, Nat.reduceSub, Nat.reduceMul, Nat.reduceEqDiff, Nat.reduceLT, Nat.reduceLeDiff, Nat.reduceBEq, Nat.reduceBNe, Int.reduceToNat, Int.reduceLT, Int.reduceLE, Int.reduceEq, Int.reduceBEq, Int.reduceBNe, Int.reduceAdd, Int.reduceSub, Int.reduceMul, Int.reduceNeg, Int.reduceOfNat, Int.reduceNatCast, Nat.reducePow]
    | with_reducible refine bd_same (fun _ => ?_)
    | with_reducible refine br_nil (fun _ => ?_) (fun _ => ?_)
    | with_reducible refine br_split (fun _ => ?_) (fun _ => ?_)
    | ((with_reducible refine at_jn 1 ?_); (with_reducible refine cl_map 1 (enc := res44) ?_ (fun r1 => ?_)); focus exact f44_ok (n + 8))
    | ((with_reducible refine (X_drawc _ _ _ _ 9 [.tmp 7] [.tmp 6] 2 _ _ ?_).trans ?_); focus kernel_rfl)
    | ((with_reducible refine at_jn 2 ?_); (with_reducible refine cl_map 2 (enc := res40) ?_ (fun r2 => ?_)); focus exact f40_ok (n + 0) (List.set (List.set (List.replicate 32 0) 0 (Go.IntKind.wrap .u8 a0)) 1 (Go.IntKind.wrap .u8 a1)))
    | ((with_reducible refine at_jn 3 ?_); (with_reducible refine cl_map 3 (enc := res44) ?_ (fun r3 => ?_)); focus exact f44_ok (n + 8))
    | with_reducible refine (jx_bd _ _).trans ?_
    | rfl
    | simp -implicitDefEqProofs only [append_eq, appArg_eq, apT_slice, apT_str, slOf_sl, apA_nils, apA_own, apA_win, apO_row, go_sem, reduceIte, reduceCtorEq, Nat.reduceAdd, Nat.reduceSub, Nat.reduceMul, Nat.reduceEqDiff, Nat.reduceLT, Nat.reduceLeDiff, Nat.reduceBEq, Nat.reduceBNe, Int.reduceToNat, Int.reduceLT, Int.reduceLE, Int.reduceEq, Int.reduceBEq, Int.reduceBNe, Int.reduceAdd, Int.reduceSub, Int.reduceMul, Int.reduceNeg, Int.reduceOfNat, Int.reduceNatCast, Nat.reducePow]
    | (simp only [List.map_append]; rfl)
    | (simp only [List.map_append]; done)
@[reducible, go_sem] def res39 (r : Bool) : Res × Heap := (.ret (.p (.bool r)), [])
theorem f39_ok (n : Nat) (a0 : List (List Int)) (a1 : List (List Int)) : En.call (n + 1) (.f 39) [.p (.sl 32 (List.map (PD.iarr .u8 32) a0)), .p (.sl 32 (List.map (PD.iarr .u8 32) a1))] [] = (F.slices_Equal_apiDigest a0 a1).map res39 := by
  refine (c39 (n + 0) (.p (.sl 32 (List.map (PD.iarr .u8 32) a0))) (.p (.sl 32 (List.map (PD.iarr .u8 32) a1))) []).trans ?_
  repeat' first
    | simp -implicitDefEqProofs only [*, go_sem, F.slices_Equal_apiDigest, F.slices_Equal_apiDigest_l0, reduceIte, reduceCtorEq, Nat.reduceAdd, Nat.reduceSub, Nat.reduceMul, Nat.reduceEqDiff, Nat.reduceLT, Nat.reduceLeDiff, Nat.reduceBEq, Nat.reduceBNe, Int.reduceToNat, Int.reduceLT, Int.reduceLE, Int.reduceEq, Int.reduceBEq, Int.reduceBNe, Int.reduceAdd, Int.reduceSub, Int.reduceMul, Int.reduceNeg, Int.reduceOfNat, Int.reduceNatCast, Nat.reducePow]
    | with_reducible refine bd_same (fun _ => ?_)
    | with_reducible refine br_nil (fun _ => ?_) (fun _ => ?_)
    | with_reducible refine br_split (fun _ => ?_) (fun _ => ?_)
    | ((with_reducible refine at_jn 1 ?_); (with_reducible refine loop_eq 1 (fun x1 => ⟨[(.p (.sl 32 (List.map (PD.iarr .u8 32) a0))), (.p (.sl 32 (List.map (PD.iarr .u8 32) a1))), (.p (.int .i64 (Int.ofNat (List.length a0)))), (.p (.int .i64 x1))], []⟩) (Sum.elim (fun r4 => (.ret, ⟨[(.p (.bool false))], []⟩)) (fun r4 => (.exit 0, ⟨[.unk], []⟩))) (F.slices_Equal_apiDigest_l0 a0 a1) 0 ?_ (fun x1 => ?_) (sumAll (fun r4 => ?_) (fun r4 => ?_))); focus rfl)
    | ((with_reducible refine (X_draw _ _ _ _ 9 [] 6 _ _ ?_).trans ?_); focus kernel_rfl)
    | with_reducible refine (jx_bd _ _).trans ?_
    | rfl
    | simp -implicitDefEqProofs only [append_eq, appArg_eq, apT_slice, apT_str, slOf_sl, apA_nils, apA_own, apA_win, apO_row, go_sem, reduceIte, reduceCtorEq, Nat.reduceAdd, Nat.reduceSub, Nat.reduceMul, Nat.reduceEqDiff, Nat.reduceLT, Nat.reduceLeDiff, Nat.reduceBEq, Nat.reduceBNe, Int.reduceToNat, Int.reduceLT, Int.reduceLE, Int.reduceEq, Int.reduceBEq, Int.reduceBNe, Int.reduceAdd, Int.reduceSub, Int.reduceMul, Int.reduceNeg, Int.reduceOfNat, Int.reduceNatCast, Nat.reducePow]
    | (simp only [List.map_append]; rfl)
    | (simp only [List.map_append]; done)
@[reducible, go_sem] def res16 (r : Int) : Res × Heap := (.ret (.p (.int .i64 r)), [])
theorem f16_ok (n : Nat) (a0 : Wallet) : En.call (n + 12) (.f 16) [.p (e_Wallet a0)] [] = (F.wallet_Check a0).map res16 := by
  refine (c16 (n + 11) (.p (e_Wallet a0)) []).trans ?_
  repeat' first
    | simp -implicitDefEqProofs only [*, go_sem, F.wallet_Check, F.wallet_Check_l0, c29, c38, reduceIte, reduceCtorEq, Nat.reduceAdd, Nat.reduceSub, Nat.reduceMul, Nat.reduceEqDiff, Nat.reduceLT, Nat.reduceLeDiff, Nat.reduceBEq, Nat.reduceBNe, Int.reduceToNat, Int.reduceLT, Int.reduceLE, Int.reduceEq, Int.reduceBEq, Int.reduceBNe, Int.reduceAdd, Int.reduceSub, Int.reduceMul, Int.reduceNeg, Int.reduceOfNat, Int.reduceNatCast, Nat.reducePow]
    | with_reducible refine bd_same (fun _ => ?_)
    | with_reducible refine br_nil (fun _ => ?_) (fun _ => ?_)
    | with_reducible refine br_split (fun _ => ?_) (fun _ => ?_)
    | ((with_reducible refine at_jn 13 ?_); (with_reducible refine jn_map 13 (fun r12 => (.ret (.own 3 0), [.var (.p (e_Wallet a0)) false, .map 74 4 (List.map (fun y => (e_Place y.1, PD.bool y.2)) r12.1), .var (.map 1) false, .row 1 (List.map (PD.int .i64) r12.2) false])) ?_ (fun r12 => ?_)))
    | ((with_reducible refine at_jn 9 ?_); (with_reducible refine loop_eq 9 (fun x1 => ⟨[(.p (.sl 74 (List.map e_Held a0.Held))), (.clo (.func 38) [] [(.ref 2 []), (.ref 0 [])]), (.p (.int .i64 (Int.ofNat (List.length a0.Held)))), (.p (.int .i64 x1.1)), (.own 3 0)], [.var (.p (e_Wallet a0)) false, .map 74 4 (List.map (fun y => (e_Place y.1, PD.bool y.2)) x1.2.1), .var (.map 1) false, .row 1 (List.map (PD.int .i64) x1.2.2) false]⟩) (fun r11 => (.exit 0, ⟨[(.own 3 0)], [.var (.p (e_Wallet a0)) false, .map 74 4 (List.map (fun y => (e_Place y.1, PD.bool y.2)) r11.1), .var (.map 1) false, .row 1 (List.map (PD.int .i64) r11.2) false]⟩)) (F.wallet_Check_l0 a0) (0, [], []) ?_ (fun x1 => ?_) (fun r11 => ?_)); focus rfl)
    | ((with_reducible refine at_jn 8 ?_); rename_i y2; (with_reducible refine jn_map 8 (fun r10 => (.ret (.p (.bool r10)), [.var (.p (e_Wallet a0)) false, .map 74 4 (List.map (fun y => (e_Place y.1, PD.bool y.2)) (mput b_Place x1.2.1 (Place.mk y2.Copy.Round y2.Copy.Place) true)), .var (.map 1) false, .row 1 (List.map (PD.int .i64) x1.2.2) false, .var (.p (e_Held y2)) false])) ?_ (fun r10 => ?_)))
    | ((with_reducible refine (X_drawc _ _ _ _ 6 [.tmp 14] [.tmp 7] 1 _ _ ?_).trans ?_); focus kernel_rfl)
    | ((with_reducible refine at_jn 6 ?_); (with_reducible refine jn_map 6 (fun r6 => (.normal, ⟨[(.ref 5 []), (.ref 6 []), (.ref 7 []), (.p (.bool r6)), (.p (.bool (Option.getD (mget b_Place x1.2.1 (Place.mk y2.Copy.Round y2.Copy.Place)) false)))], [.var (.p (e_Wallet a0)) false, .map 74 4 (List.map (fun y => (e_Place y.1, PD.bool y.2)) (mput b_Place x1.2.1 (Place.mk y2.Copy.Round y2.Copy.Place) true)), .var (.map 1) false, .row 1 (List.map (PD.int .i64) x1.2.2) false, .var (.p (e_Held y2)) false, .var (.p (e_Held y2)) false, .var (.p (e_Copy y2.Copy)) false, .var (.p (e_Secret y2.Secret)) false]⟩)) ?_ (fun r6 => ?_)))
    | ((with_reducible refine (X_draw _ _ _ _ 23 [] 5 _ _ ?_).trans ?_); focus kernel_rfl)
    | ((with_reducible refine at_jn 1 ?_); (with_reducible refine cl_map 1 (enc := res39) ?_ (fun r3 => ?_)); focus exact f39_ok (n + 8) y2.Copy.Links y2.Secret.Links)
    | ((with_reducible refine at_jn 2 ?_); rename_i y4; (with_reducible refine cl_map 2 (enc := res39) ?_ (fun r5 => ?_)); focus exact f39_ok (n + 8) y2.Copy.Links y4.Copy.Links)
    | ((with_reducible refine (X_draw _ _ _ _ 26 [] 6 _ _ ?_).trans ?_); focus kernel_rfl)
    | ((with_reducible refine at_jn 3 ?_); (with_reducible refine cl_map 3 (enc := res40) ?_ (fun r7 => ?_)); focus exact f40_ok (n + 0) y2.Secret.Seed)
    | ((with_reducible refine at_jn 4 ?_); (with_reducible refine cl_map 4 (enc := res27) ?_ (fun r8 => ?_)); focus exact f27_ok (n + 8) y2.Device 0 3)
    | ((with_reducible refine at_jn 5 ?_); (with_reducible refine cl_map 5 (enc := res27) ?_ (fun r9 => ?_)); focus exact f27_ok (n + 8) y2.State 0 3)
    | ((with_reducible refine at_ap 7 ?_); (with_reducible refine ap_guard 7 ((.own 6 0), [.var (.p (e_Wallet a0)) false, .map 74 4 (List.map (fun y => (e_Place y.1, PD.bool y.2)) (mput b_Place x1.2.1 (Place.mk y2.Copy.Round y2.Copy.Place) true)), .var (.map 1) false, .dead, .var (.p (e_Held y2)) false, .row 1 (List.map (PD.int .i64) [x1.1]) false, .row 1 (List.map (PD.int .i64) (x1.2.2 ++ [x1.1])) false]) ?_ ?_))
    | ((with_reducible refine at_jn 12 ?_); (with_reducible refine jn_map 12 (fun r15 => (.normal, ⟨[(.p (.bool r15))], []⟩)) ?_ (fun r15 => ?_)))
    | ((with_reducible refine at_jn 10 ?_); (with_reducible refine cl_map 10 (enc := res27) ?_ (fun r13 => ?_)); focus exact f27_ok (n + 10) a0.Person 0 4095)
    | ((with_reducible refine at_jn 11 ?_); (with_reducible refine cl_map 11 (enc := res27) ?_ (fun r14 => ?_)); focus exact f27_ok (n + 10) a0.Link 0 4)
    | with_reducible refine (jx_bd _ _).trans ?_
    | rfl
    | simp -implicitDefEqProofs only [append_eq, appArg_eq, apT_slice, apT_str, slOf_sl, apA_nils, apA_own, apA_win, apO_row, go_sem, reduceIte, reduceCtorEq, Nat.reduceAdd, Nat.reduceSub, Nat.reduceMul, Nat.reduceEqDiff, Nat.reduceLT, Nat.reduceLeDiff, Nat.reduceBEq, Nat.reduceBNe, Int.reduceToNat, Int.reduceLT, Int.reduceLE, Int.reduceEq, Int.reduceBEq, Int.reduceBNe, Int.reduceAdd, Int.reduceSub, Int.reduceMul, Int.reduceNeg, Int.reduceOfNat, Int.reduceNatCast, Nat.reducePow]
    | (simp only [List.map_append]; rfl)
    | (simp only [List.map_append]; done)
end
end Sp
