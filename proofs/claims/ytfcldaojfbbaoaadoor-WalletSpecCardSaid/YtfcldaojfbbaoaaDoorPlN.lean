/- Plain law: the program's chains and keys are the reference's. -/
import Derived.Test.YtfcldaojfbbaoaaDoorPlM
set_option linter.unusedVariables false
set_option linter.unusedSimpArgs false
set_option linter.unnecessarySimpa false
open Go Ev
set_option linter.unusedSimpArgs false
set_option linter.unusedVariables false
set_option maxRecDepth 100000
namespace Sp
theorem ref_Tagged_eq (t : ByteArray) (ht : (strInts t).length ≤ 1000000) (a : List Int) (ha : a.length ≤ 1073741824) : F.testamurref02_Tagged t a = F.digest_Tagged t a := by
  obtain ⟨d, h1, h2, h3⟩ := Sum_eq (strInts t) (by omega)
  have hl : (List.take 32 d).length = 32 := by simp; omega
  obtain ⟨d2, h4, h5, h6⟩ := Sum_eq (List.take 32 d ++ a) (by simp; omega)
  have hc := Concat_two (List.take 32 d) a (by simp; omega)
  have c1 : decide ((List.length (List.take 32 d)) * 1 ≤ 2 ^ 46 ∧ (List.length (List.take 32 d)) ≤ 2 ^ 46) = true := by rw [hl]; decide
  unfold F.testamurref02_Tagged F.digest_Tagged
  simp only [h1, h2, h4, h5, hc, jn, ap, Option.bind_some]
  rw [if_pos c1]
  exact if_pos (by rw [decide_eq_true_eq]; rw [hl]; omega)
theorem step_eq (x : List Int) : F.testamurref05_Step x = F.digest_Tagged (ByteArray.mk #[115, 116, 101, 112]) (List.take 32 x) := by
  unfold F.testamurref05_Step
  rw [ref_Tagged_eq _ (by decide) _ (by simp; omega)]
  simp [jn]
theorem Steps_eq (x : List Int) (n : Int) : F.testamurref05_Steps x n = F.chains_steps x n := by
  have : F.testamurref05_Steps_l0 n = F.chains_steps_l0 n := by
    funext s
    unfold F.testamurref05_Steps_l0 F.chains_steps_l0
    rw [step_eq]
  unfold F.testamurref05_Steps F.chains_steps
  rw [this]
theorem key_loop (l : List (List Int)) (hl : l.length ≤ 100) : ∃ r, loopD (F.chains_key_l0 l) (0, []) = some r ∧ r.length ≤ 3200 :=
  loop_for (step := F.chains_key_l0 l) (N := l.length) (I := fun k x => x.length ≤ 32 * k) (Q := fun r => r.length ≤ 3200)
    (fun k x hk hx => by
      have c1 : (k : Int) < Int.ofNat l.length := by show ((k : Nat) : Int) < ((l.length : Nat) : Int); omega
      have w1 : Go.IntKind.wrap .i64 ((k : Int) + 1) = (k : Int) + 1 := wrap_i64 _ (by omega) (by omega)
      have hg : gi l (k : Int) = some l[k] := by
        unfold gi; rw [if_pos (by omega), Int.toNat_natCast, List.getElem?_eq_getElem hk]
      have hle : (List.take 32 l[k]).length ≤ 32 := by simp; omega
      refine ⟨x ++ List.take 32 l[k], ?_, by simp only [List.length_append]; omega⟩
      unfold F.chains_key_l0
      simp only [c1, w1, hg, br, bd, ap, Option.bind_some, decide_true, if_true]
      exact if_pos (by rw [decide_eq_true_eq]; omega))
    (fun x hx => ⟨x, by
      have c1 : ¬ ((l.length : Nat) : Int) < Int.ofNat l.length := by show ¬ ((l.length : Nat) : Int) < ((l.length : Nat) : Int); omega
      unfold F.chains_key_l0
      simp only [c1, br, decide_false, Bool.false_eq_true, if_false], by omega⟩) l.length 0 [] (by omega) (Nat.zero_le _)
theorem Key_eq (l : List (List Int)) (hl : l.length ≤ 100) : F.testamurref05_Key l = F.chains_key l := by
  have : F.testamurref05_Key_l0 l = F.chains_key_l0 l := rfl
  obtain ⟨r, h1, h2⟩ := key_loop l hl
  unfold F.testamurref05_Key F.chains_key
  rw [this]
  simp only [lp, h1, Option.bind_some]
  rw [ref_Tagged_eq _ (by decide) _ (by omega)]
theorem Public_eq (s : List Int) : F.testamurref05_Public s = some (pub s) := by
  rw [← pub_eq]
  obtain ⟨r, r', h1, h2, h3, h4⟩ := loop_for2 (step := F.chains_Public_l0 s) (step' := F.testamurref05_Public_l0 s) (N := 19) (I := fun k x y => x = y ∧ x.length = k) (Q := fun r r' => r = r' ∧ r.length = 19)
    (fun k x y hk hx => by
      obtain ⟨rfl, hx⟩ := hx
      have hw : (List.take 32 s ++ [Go.IntKind.wrap .u8 (k : Int)]).length ≤ 33 := by simp; omega
      obtain ⟨d, h1, h2⟩ := Tagged_tot (ByteArray.mk #[99, 104, 97, 105, 110]) (List.take 32 s ++ [Go.IntKind.wrap .u8 (k : Int)]) (by omega)
      obtain ⟨d2, h3, h4⟩ := steps_tot d h2
      have c1 : decide ((k : Int) < 19) = true := by rw [decide_eq_true_eq]; omega
      have w1 : Go.IntKind.wrap .i64 ((k : Int) + 1) = ((k + 1 : Nat) : Int) := by rw [wrap_i64 _ (by omega) (by omega)]; omega
      have hf : F.testamurref05_First s (k : Int) = some d := by
        unfold F.testamurref05_First
        rw [ref_Tagged_eq _ (by decide) _ (by omega), h1]
        have hs32 : (List.take 32 s).length ≤ 32 := by simp; omega
        simp only [ap, jn, Option.bind_some]
        rw [if_pos (by rw [decide_eq_true_eq]; omega)]
        exact if_pos (by rw [decide_eq_true_eq]; simp only [List.length_singleton]; omega)
      have c3 : decide ((List.length x + List.length [d2]) * 32 ≤ 2 ^ 46 ∧ (List.length x + List.length [d2]) ≤ 2 ^ 46) = true := by rw [decide_eq_true_eq]; simp only [List.length_singleton]; omega
      refine ⟨x ++ [d2], x ++ [d2], ?_, ?_, rfl, by simp [hx]⟩
      · unfold F.chains_Public_l0
        simp only [c1, w1, br, ap, jn, h1, h3, Option.bind_some, if_true]
        rw [if_pos c3]; rfl
      · unfold F.testamurref05_Public_l0
        simp only [c1, w1, br, ap, jn, hf, Steps_eq, h3, Option.bind_some, if_true]
        exact if_pos c3)
    (fun x y hx => ⟨x, y, by simp [F.chains_Public_l0, br], by simp [F.testamurref05_Public_l0, br], hx⟩) 19 0 [] [] rfl ⟨rfl, rfl⟩
  subst h3
  have e1 : loopD (F.chains_Public_l0 s) (0, []) = some r := h1
  have e2 : loopD (F.testamurref05_Public_l0 s) (0, []) = some r := h2
  unfold F.testamurref05_Public F.chains_Public
  simp only [lp, jn, e1, e2, Option.bind_some, Key_eq r (by omega)]
end Sp
