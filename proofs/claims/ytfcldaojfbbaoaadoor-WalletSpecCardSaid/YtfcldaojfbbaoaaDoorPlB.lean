/- Plain law: each key has its open half. -/
import Derived.Test.YtfcldaojfbbaoaaDoorPlA
set_option linter.unusedVariables false
set_option linter.unusedSimpArgs false
set_option linter.unnecessarySimpa false
open Go Ev
set_option linter.unusedSimpArgs false
set_option linter.unusedVariables false
set_option maxRecDepth 100000
namespace Sp
theorem loopD_none {S R : Type} {step : S → Option (S ⊕ R)} {s : S} (h : step s = none) : loopD step s = none := by
  cases hl : loopD step s with
  | none => rfl
  | some r =>
    obtain ⟨n, hn⟩ := loopD_some.1 hl
    cases n with
    | zero => simp [iter] at hn
    | succ n => simp [iter, h] at hn
/-- A loop, one round unfolded. -/
theorem loopD_unfold {S R : Type} (step : S → Option (S ⊕ R)) (s : S) : loopD step s = (step s).bind (Sum.elim (loopD step) some) := by
  cases h : step s with
  | none => exact loopD_none h
  | some x =>
    cases x with
    | inr r => exact loopD_last h
    | inl s' =>
      simp only [Option.bind_some, Sum.elim_inl]
      cases hl : loopD step s' with
      | some r => exact loopD_next h hl
      | none =>
        cases hl2 : loopD step s with
        | none => rfl
        | some r =>
          obtain ⟨n, hn⟩ := loopD_some.1 hl2
          cases n with
          | zero => simp [iter] at hn
          | succ n =>
            simp only [iter, h] at hn
            rw [loopD_of hn] at hl; cases hl

theorem Concat_two (x y : List Int) (h : x.length + y.length ≤ 1099511627776) : F.slices_Concat_byte [x, y] = some (x ++ y) := by
  have l0 : loopD (F.slices_Concat_byte_l0 [x, y]) (0, 0) = some ((x.length + y.length : Nat) : Int) := by
    have w1 : Go.IntKind.wrap .i64 ((x.length : Nat) : Int) = (x.length : Nat) := wrap_i64 _ (by omega) (by omega)
    have w2 : Go.IntKind.wrap .i64 (((x.length : Nat) : Int) + ((y.length : Nat) : Int)) = ((x.length : Nat) : Int) + ((y.length : Nat) : Int) := wrap_i64 _ (by omega) (by omega)
    have w3 : Go.IntKind.wrap .i64 1 = 1 := by decide
    have w4 : Go.IntKind.wrap .i64 2 = 2 := by decide
    have n1 : ¬ ((x.length : Nat) : Int) < 0 := by omega
    have n2 : ¬ ((x.length : Nat) : Int) + ((y.length : Nat) : Int) < 0 := by omega
    have s0 : F.slices_Concat_byte_l0 [x, y] (0, 0) = some (.inl (1, ((x.length : Nat) : Int))) := by simp [F.slices_Concat_byte_l0, br, bd, gi, w1, w3, n1]
    have s1 : F.slices_Concat_byte_l0 [x, y] (1, ((x.length : Nat) : Int)) = some (.inl (2, ((x.length : Nat) : Int) + ((y.length : Nat) : Int))) := by simp [F.slices_Concat_byte_l0, br, bd, gi, w2, w4, n2]
    have s2 : F.slices_Concat_byte_l0 [x, y] (2, ((x.length : Nat) : Int) + ((y.length : Nat) : Int)) = some (.inr (((x.length + y.length : Nat) : Int))) := by simp [F.slices_Concat_byte_l0, br]
    exact loopD_next s0 (loopD_next s1 (loopD_last s2))
  have l1 : loopD (F.slices_Concat_byte_l1 [x, y]) (0, []) = some (x ++ y) := by
    have w3 : Go.IntKind.wrap .i64 1 = 1 := by decide
    have w4 : Go.IntKind.wrap .i64 2 = 2 := by decide
    have c1 : x.length ≤ 70368744177664 := by omega
    have c2 : x.length + y.length ≤ 70368744177664 := by omega
    have s0 : F.slices_Concat_byte_l1 [x, y] (0, []) = some (.inl (1, x)) := by simp [F.slices_Concat_byte_l1, br, bd, ap, gi, w3, c1]
    have s1 : F.slices_Concat_byte_l1 [x, y] (1, x) = some (.inl (2, x ++ y)) := by simp [F.slices_Concat_byte_l1, br, bd, ap, gi, w4, c2]
    have s2 : F.slices_Concat_byte_l1 [x, y] (2, x ++ y) = some (.inr (x ++ y)) := by simp [F.slices_Concat_byte_l1, br]
    exact loopD_next s0 (loopD_next s1 (loopD_last s2))
  have n0 : Go.IntKind.wrap .i64 (((x.length + y.length : Nat) : Int) - 0) = ((x.length + y.length : Nat) : Int) := by rw [wrap_i64 _ (by omega) (by omega)]; omega
  have c0 : decide (((x.length + y.length : Nat) : Int) < 0) = false := by rw [decide_eq_false_iff_not]; omega
  unfold F.slices_Concat_byte
  simp only [lp, l0, Option.bind_some, jn, n0, c0, br, Bool.false_eq_true, if_false]
  have hg : decide (0 ≤ ((x.length + y.length : Nat) : Int) ∧ ((x.length + y.length : Nat) : Int) * 1 ≤ 140737488355328 ∧ ((x.length + y.length : Nat) : Int) < 140737488355328 ∧ Int.toNat ((x.length + y.length : Nat) : Int) * 1 ≤ 70368744177664 ∧ Int.toNat ((x.length + y.length : Nat) : Int) ≤ 70368744177664) = true := by
    rw [decide_eq_true_eq, Int.toNat_natCast]; omega
  simp only [hg, ap, if_true]
  by_cases hp : decide (((x.length + y.length : Nat) : Int) > 0) = true
  · rw [if_pos hp, if_pos (by rw [decide_eq_true_eq]; exact ⟨Int.le_refl _, Int.le_refl _, by show (0 : Int) ≤ ((_ : Nat) : Int); omega⟩)]
    simp only [Option.bind_some, l1]
  · rw [if_neg hp]
    simp only [Option.bind_some, l1]

theorem Tagged_tot (t : ByteArray) (a : List Int) (ha : a.length ≤ 1073741824) : ∃ d, F.digest_Tagged t a = some d ∧ d.length = 32 := by
  obtain ⟨d, h1, h2⟩ := Sum_tot (strInts t)
  obtain ⟨d2, h3, h4⟩ := Sum_tot (List.take 32 d ++ a)
  refine ⟨d2, ?_, h4⟩
  unfold F.digest_Tagged
  rw [h1]
  simp only [jn, Option.bind_some]
  rw [Concat_two _ _ (by simp [h2]; omega)]
  simp only [Option.bind_some, h3]

theorem steps_tot (x : List Int) (hx : x.length = 32) : ∃ d, F.chains_steps x 3 = some d ∧ d.length = 32 := by
  obtain ⟨r, h1, h2⟩ := loop_for (step := F.chains_steps_l0 3) (N := 3) (I := fun _ x => x.length = 32) (Q := fun r => r.length = 32)
    (fun k x hk hx => by
      obtain ⟨d, h1, h2⟩ := Tagged_tot (ByteArray.mk #[115, 116, 101, 112]) (List.take 32 x) (by simp; omega)
      have c1 : (k : Int) < 3 := by omega
      have w1 : Go.IntKind.wrap .i64 ((k : Int) + 1) = (k : Int) + 1 := wrap_i64 _ (by omega) (by omega)
      refine ⟨d, ?_, h2⟩
      simp only [F.chains_steps_l0, br, jn, c1, decide_true, if_true, h1, Option.bind_some, w1]
      rfl)
    (fun x hx => ⟨x, by simp [F.chains_steps_l0, br], hx⟩) 3 0 x rfl hx
  exact ⟨r, by simp only [F.chains_steps, lp]; rw [show ((0 : Int), x) = (((0 : Nat) : Int), x) from rfl, h1]; rfl, h2⟩

theorem key_tot (l : List (List Int)) (hl : l.length ≤ 100) : ∃ d, F.chains_key l = some d ∧ d.length = 32 := by
  obtain ⟨r, h1, h2⟩ := loop_for (step := F.chains_key_l0 l) (N := l.length) (I := fun k x => x.length ≤ 32 * k) (Q := fun r => r.length ≤ 3200)
    (fun k x hk hx => by
      have c1 : (k : Int) < Int.ofNat l.length := by show ((k : Nat) : Int) < ((l.length : Nat) : Int); omega
      have w1 : Go.IntKind.wrap .i64 ((k : Int) + 1) = (k : Int) + 1 := wrap_i64 _ (by omega) (by omega)
      have hg : gi l (k : Int) = some l[k] := by
        unfold gi
        rw [if_pos (by omega), Int.toNat_natCast, List.getElem?_eq_getElem hk]
      have ht : (List.take 32 l[k]).length ≤ 32 := by simp; omega
      have c2 : ((x.length + (List.take 32 l[k]).length) * 1 ≤ 2 ^ 46 ∧ (x.length + (List.take 32 l[k]).length) ≤ 2 ^ 46) := by omega
      refine ⟨x ++ List.take 32 l[k], ?_, by rw [List.length_append]; omega⟩
      simp only [F.chains_key_l0, br, bd, ap, c1, decide_true, if_true, hg, Option.bind_some, w1, c2, and_self]
      rfl)
    (fun x hx => ⟨x, by simp [F.chains_key_l0, br], by omega⟩) l.length 0 [] (by omega) (by simp)
  obtain ⟨d, h3, h4⟩ := Tagged_tot (ByteArray.mk #[112, 117, 98, 108, 105, 99]) r (by omega)
  refine ⟨d, ?_, h4⟩
  simp only [F.chains_key, lp, jn]
  rw [show ((0 : Int), ([] : List Int)) = (((0 : Nat) : Int), []) from rfl, h1]
  simp only [Option.bind_some, h3]

theorem Public_tot (s : List Int) : ∃ d, F.chains_Public s = some d ∧ d.length = 32 := by
  obtain ⟨r, h1, h2⟩ := loop_for (step := F.chains_Public_l0 s) (N := 19) (I := fun k x => x.length = k) (Q := fun r => r.length = 19)
    (fun k x hk hx => by
      obtain ⟨d, h1, h2⟩ := Tagged_tot (ByteArray.mk #[99, 104, 97, 105, 110]) (List.take 32 s ++ [Go.IntKind.wrap .u8 (k : Int)]) (by simp; omega)
      obtain ⟨d2, h3, h4⟩ := steps_tot d h2
      have c1 : (k : Int) < 19 := by omega
      have w1 : Go.IntKind.wrap .i64 ((k : Int) + 1) = (k : Int) + 1 := wrap_i64 _ (by omega) (by omega)
      have c2 : ((x.length + [d2].length) * 32 ≤ 2 ^ 46 ∧ (x.length + [d2].length) ≤ 2 ^ 46) := by rw [List.length_singleton]; omega
      refine ⟨x ++ [d2], ?_, by simp [hx]⟩
      simp only [F.chains_Public_l0, br, jn, ap, c1, decide_true, if_true, h1, h3, Option.bind_some, w1, c2, and_self]
      rfl)
    (fun x hx => ⟨x, by simp [F.chains_Public_l0, br], hx⟩) 19 0 [] rfl rfl
  obtain ⟨d, h3, h4⟩ := key_tot r (by omega)
  refine ⟨d, ?_, h4⟩
  simp only [F.chains_Public, lp, jn, Option.bind_some]
  rw [show ((0 : Int), ([] : List (List Int))) = (((0 : Nat) : Int), []) from rfl, h1]
  simp only [Option.bind_some, h3]

noncomputable def pub (s : List Int) : List Int := (F.chains_Public s).getD []
theorem pub_eq (s : List Int) : F.chains_Public s = some (pub s) := by
  obtain ⟨d, h, _⟩ := Public_tot s
  simp [pub, h]
end Sp
