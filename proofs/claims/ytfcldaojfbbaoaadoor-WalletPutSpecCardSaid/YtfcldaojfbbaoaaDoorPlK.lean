/- Plain law: the program's hash is the reference's: the rounds of a block. -/
import Derived.Test.YtfcldaojfbbaoaaDoorPlJ
set_option linter.unusedVariables false
set_option linter.unusedSimpArgs false
set_option linter.unnecessarySimpa false
open Go Ev
set_option linter.unusedSimpArgs false
set_option linter.unusedVariables false
set_option maxRecDepth 100000
namespace Sp
theorem numbers_eq : F.testamurref02_numbers = some G1 := rfl
theorem rounds_eq (w : List Int) (hw : w.length = 64) (a b c d e f g h : Int) :
    ∃ r r', loopD (F.digest_Sum_l3 w) (0, [a, b, c, d, e, f, g, h]) = some r ∧ loopD (F.testamurref02_block_l2 G1 w) (0, a, b, c, d, e, f, g, h) = some r' ∧
      r = [r'.2.2.2.2.2.2.2, r'.2.2.2.2.2.2.1, r'.2.2.2.2.2.1, r'.2.2.2.2.1, r'.2.2.2.1, r'.2.2.1, r'.2.1, r'.1] := by
  refine loop_for2 (step := F.digest_Sum_l3 w) (step' := F.testamurref02_block_l2 G1 w) (N := 64)
    (I := fun _ x y => x = [y.1, y.2.1, y.2.2.1, y.2.2.2.1, y.2.2.2.2.1, y.2.2.2.2.2.1, y.2.2.2.2.2.2.1, y.2.2.2.2.2.2.2])
    (Q := fun r r' => r = [r'.2.2.2.2.2.2.2, r'.2.2.2.2.2.2.1, r'.2.2.2.2.2.1, r'.2.2.2.2.1, r'.2.2.2.1, r'.2.2.1, r'.2.1, r'.1])
    (fun k x y hk hx => ?_) (fun x y hx => ?_) 64 0 _ (a, b, c, d, e, f, g, h) rfl rfl
  · obtain ⟨a, b, c, d, e, f, g, h⟩ := y
    subst hx
    have h1 : (k : Int) < 64 := by omega
    have h2 : Go.IntKind.wrap .i64 ((k : Int) + 1) = ((k + 1 : Nat) : Int) := by rw [wrap_i64 _ (by omega) (by omega)]; omega
    have e1 := rotated_eq e 6 11 25 (by decide) (by decide) (by decide) (by decide) (by decide) (by decide) (by decide) (by decide) (by decide)
    have e2 := rotated_eq a 2 13 22 (by decide) (by decide) (by decide) (by decide) (by decide) (by decide) (by decide) (by decide) (by decide)
    have r6 := ror_eq e 6 (by decide) (by decide)
    have r11 := ror_eq e 11 (by decide) (by decide)
    have r25 := ror_eq e 25 (by decide) (by decide)
    have r2 := ror_eq a 2 (by decide) (by decide)
    have r13 := ror_eq a 13 (by decide) (by decide)
    have r22 := ror_eq a 22 (by decide) (by decide)
    have q1 : k < G1.length := by rw [G1_len]; exact hk
    have q2 : k < w.length := by omega
    have a1 : inB (k : Int) 64 = true := by simp [inB]; omega
    unfold F.digest_Sum_l3 F.testamurref02_block_l2
    simp only [h1, h2, br, bd, jn, a1, Int.toNat_natCast, List.getElem?_eq_getElem q1, List.getElem?_eq_getElem q2, Option.bind_some, e1, e2, r6, r11, r25, r2, r13, r22, decide_true, if_true, List.getElem?_cons_zero, List.getElem?_cons_succ, splice, List.take_succ_cons, List.take_zero, List.drop_succ_cons, List.drop_zero, List.length_cons, List.length_nil, List.cons_append, List.nil_append, List.set_cons_zero, List.set_cons_succ, Nat.reduceAdd, Nat.reduceLeDiff, Nat.reduceLT, Nat.zero_lt_succ, List.drop_nil]
    refine ⟨_, _, rfl, rfl, ?_⟩
    simp only [ch_eq, maj_eq]
  · refine ⟨_, _, by simp [F.digest_Sum_l3, br]; rfl, by simp [F.testamurref02_block_l2, br]; rfl, hx⟩

/-- The sums at a block's end. -/
def add8 (s r : List Int) : List Int := List.zipWith (fun x y => Go.IntKind.wrap .u32 (x + y)) s r
theorem l4_val (r x : List Int) (k : Nat) (hk : k < 8) (hr : r.length = 8) (hx : x.length = 8) : F.digest_Sum_l4 r ((k : Int), x) = some (.inl (((k + 1 : Nat) : Int), x.set k (Go.IntKind.wrap .u32 (x[k] + r[k])))) := by
  have h1 : (k : Int) < 8 := by omega
  have h2 : Go.IntKind.wrap .i64 ((k : Int) + 1) = (k : Int) + 1 := wrap_i64 _ (by omega) (by omega)
  simp [F.digest_Sum_l4, br, bd, inB, h1, h2, hr, hx, hk]
theorem l4_eq (s0 s1 s2 s3 s4 s5 s6 s7 r0 r1 r2 r3 r4 r5 r6 r7 : Int) : loopD (F.digest_Sum_l4 [r0, r1, r2, r3, r4, r5, r6, r7]) (0, [s0, s1, s2, s3, s4, s5, s6, s7]) =
    some [Go.IntKind.wrap .u32 (s0 + r0), Go.IntKind.wrap .u32 (s1 + r1), Go.IntKind.wrap .u32 (s2 + r2), Go.IntKind.wrap .u32 (s3 + r3), Go.IntKind.wrap .u32 (s4 + r4), Go.IntKind.wrap .u32 (s5 + r5), Go.IntKind.wrap .u32 (s6 + r6), Go.IntKind.wrap .u32 (s7 + r7)] := by
  refine loopD_next (l4_val _ _ 0 (by omega) rfl rfl) (loopD_next (l4_val _ _ 1 (by omega) rfl rfl) (loopD_next (l4_val _ _ 2 (by omega) rfl rfl) (loopD_next (l4_val _ _ 3 (by omega) rfl rfl) (loopD_next (l4_val _ _ 4 (by omega) rfl rfl) (loopD_next (l4_val _ _ 5 (by omega) rfl rfl) (loopD_next (l4_val _ _ 6 (by omega) rfl rfl) (loopD_next (l4_val _ _ 7 (by omega) rfl rfl) (loopD_last ?_))))))))
  simp [F.digest_Sum_l4, br]
/-- What a state is: eight numbers of 32 bits. -/
def St (s : List Int) : Prop := s.length = 8 ∧ ∀ y ∈ s, 0 ≤ y ∧ y < 4294967296
theorem wrap_u32_range (n : Int) : 0 ≤ Go.IntKind.wrap .u32 n ∧ Go.IntKind.wrap .u32 n < 4294967296 := by
  show 0 ≤ (if (false && decide ((n % 2 ^ 32 : Int) ≥ 2 ^ (32 - 1))) = true then n % 2 ^ 32 - 2 ^ 32 else n % 2 ^ 32) ∧ (if (false && decide ((n % 2 ^ 32 : Int) ≥ 2 ^ (32 - 1))) = true then n % 2 ^ 32 - 2 ^ 32 else n % 2 ^ 32) < _
  simp only [Bool.false_and, Bool.false_eq_true, if_false]
  omega
theorem tail_eq (l w st : List Int) (hl : l.length = 64) (hw : w.length = 64) (hst : st.length = 8) (hwl : setWords l (List.replicate 64 0) 16 = w) :
    ∃ w2 s3 r, loopD F.digest_Sum_l2 (16, w) = some w2 ∧ loopD (F.digest_Sum_l3 w2) (0, st) = some s3 ∧ loopD (F.digest_Sum_l4 s3) (0, st) = some r ∧ F.testamurref02_block st l = some r ∧ St r := by
  obtain ⟨w2, hw2, hw2l⟩ := l2_tot w hw
  match st, hst with
  | [a, b, c, d, e, f, g, h], _ =>
    obtain ⟨s3, ⟨h', g', f', e', d', c', b', a'⟩, hs3, hs3', hr⟩ := rounds_eq w2 hw2l a b c d e f g h
    subst hr
    refine ⟨w2, _, _, hw2, hs3, l4_eq .., ?_, rfl, ?_⟩
    · unfold F.testamurref02_block
      rw [l2_eq] at hw2
      simp only [lp, bl0_val l _ hl (List.length_replicate), hwl, hw2, Option.bind_some, jn, numbers_eq, bd, List.getElem?_cons_zero, List.getElem?_cons_succ, hs3']
      rfl
    · intro y hy
      simp only [List.mem_cons, List.not_mem_nil, or_false] at hy
      rcases hy with rfl | rfl | rfl | rfl | rfl | rfl | rfl | rfl <;> exact wrap_u32_range _
theorem block_at (st l : List Int) (hl : l.length = 64) (hst : st.length = 8) : ∃ w w2 s3 r, setWords l (List.replicate 64 0) 16 = w ∧ loopD F.digest_Sum_l2 (16, w) = some w2 ∧ loopD (F.digest_Sum_l3 w2) (0, st) = some s3 ∧ loopD (F.digest_Sum_l4 s3) (0, st) = some r ∧ F.testamurref02_block st l = some r ∧ St r := by
  obtain ⟨w2, s3, r, h⟩ := tail_eq l _ st hl (by rw [setWords_len, List.length_replicate]) hst rfl
  exact ⟨_, w2, s3, r, rfl, h⟩
end Sp
