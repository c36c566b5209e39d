/- Plain law: the program's hash is the reference's: the message's parts, the bytes written, the whole. -/
import Derived.Test.YtfcldaojfbbaoaaDoorPlK
set_option linter.unusedVariables false
set_option linter.unusedSimpArgs false
set_option linter.unnecessarySimpa false
open Go Ev
set_option linter.unusedSimpArgs false
set_option linter.unusedVariables false
set_option maxRecDepth 100000
namespace Sp
/-- n blocks hashed. -/
noncomputable def blocks : Nat → List Int → List Int → List Int
  | 0, st, _ => st
  | n + 1, st, p => blocks n ((F.testamurref02_block st (List.take 64 p)).getD []) (List.drop 64 p)
theorem blocks_append (n m : Nat) : ∀ (st p q : List Int), p.length = 64 * n → blocks (n + m) st (p ++ q) = blocks m (blocks n st p) q := by
  induction n with
  | zero =>
    intro st p q hp
    obtain rfl : p = [] := List.length_eq_zero_iff.1 (by omega)
    simp [blocks]
  | succ n ih =>
    intro st p q hp
    have h1 : List.take 64 (p ++ q) = List.take 64 p := by rw [List.take_append_of_le_length (by omega)]
    have h2 : List.drop 64 (p ++ q) = List.drop 64 p ++ q := by rw [List.drop_append_of_le_length (by omega)]
    rw [show n + 1 + m = (n + m) + 1 from by omega]
    simp only [blocks, h1, h2]
    exact ih _ _ _ (by simp; omega)
theorem blocks_take (n : Nat) : ∀ (st p : List Int), 64 * n ≤ p.length → blocks n st p = blocks n st (List.take (64 * n) p) := by
  intro st p hp
  have := blocks_append n 0 st (List.take (64 * n) p) (List.drop (64 * n) p) (by simp; omega)
  rw [List.take_append_drop] at this
  simpa [blocks] using this

/-- The program's whole blocks. -/
theorem l5_eq (n : Nat) : ∀ (a st : List Int), St st → a.length / 64 = n → ∃ s, loopD F.digest_Sum_l5 (a, st) = some (List.drop (64 * n) a, s) ∧ s = blocks n st a ∧ St s := by
  induction n with
  | zero =>
    intro a st hs hn
    refine ⟨st, loopD_last ?_, rfl, hs⟩
    have c1 : decide (Int.ofNat a.length ≥ 64) = false := by rw [decide_eq_false_iff_not]; show ¬ (64 : Int) ≤ ((a.length : Nat) : Int); omega
    unfold F.digest_Sum_l5
    simp only [c1, br, Bool.false_eq_true, if_false, Nat.mul_zero, List.drop_zero]
  | succ n ih =>
    intro a st hs hn
    have hm : 64 ≤ a.length := by omega
    obtain ⟨w, w2, s3, r, h1, h2, h3, h4, h5, h6⟩ := block_at st (List.take 64 a) (by simp; omega) hs.1
    have h0 := l1_val a st (List.replicate 64 0) hm (List.length_replicate)
    rw [h1] at h0
    have c1 : (Int.ofNat a.length) ≥ 64 := by show (64 : Int) ≤ ((a.length : Nat) : Int); omega
    have c2 : ((0 : Int) ≤ 0 ∧ (0 : Int) ≤ 64 ∧ (64 : Int) ≤ Int.ofNat a.length) := ⟨Int.le_refl _, by omega, c1⟩
    have c3 : ((0 : Int) ≤ 64 ∧ (64 : Int) ≤ Int.ofNat a.length ∧ Int.ofNat a.length ≤ Int.ofNat a.length) := ⟨by omega, c1, Int.le_refl _⟩
    have e : F.digest_Sum_l5 (a, st) = some (.inl (List.drop 64 a, r)) := by
      unfold F.digest_Sum_l5
      simp only [c1, c2, c3, br, jn, lp, h0, h2, h3, h4, Option.bind_some, decide_true, if_true, and_self]
      simp
    obtain ⟨s, g1, g2, g3⟩ := ih (List.drop 64 a) r h6 (by simp; omega)
    refine ⟨s, loopD_next e (by rw [g1, List.drop_drop, show 64 + 64 * n = 64 * (n + 1) from by omega]), ?_, g3⟩
    rw [g2]
    simp only [blocks, h5, Option.getD_some]
/-- The program's last blocks. -/
theorem l12_eq (buf : List Int) (hb : buf.length = 128) : ∀ (n off : Nat) (st : List Int), St st → off + 64 * n ≤ 128 → ∃ s, loopD (F.digest_Sum_l12 buf) (off, 64 * n, 128 - off, st) = some s ∧ s = blocks n st (List.drop off buf) ∧ St s := by
  intro n
  induction n with
  | zero =>
    intro off st hs hn
    refine ⟨st, loopD_last ?_, rfl, hs⟩
    have d1 : decide (Int.ofNat (64 * 0) > 0) = false := by decide
    unfold F.digest_Sum_l12
    simp only [d1, br, Bool.false_eq_true, if_false]
  | succ n ih =>
    intro off st hs hn
    obtain ⟨w, w2, s3, r, h1, h2, h3, h4, h5, h6⟩ := block_at st (List.take 64 (List.drop off buf)) (by simp; omega) hs.1
    have h0 := l8_val buf st (List.replicate 64 0) off (64 * (n + 1)) (128 - off) (by omega) (by omega) (List.length_replicate)
    rw [h1] at h0
    have d1 : decide (Int.ofNat (64 * (n + 1)) > 0) = true := by rw [decide_eq_true_eq]; show (0 : Int) < ((64 * (n + 1) : Nat) : Int); omega
    have d2 : decide ((0 : Int) ≤ 0 ∧ (0 : Int) ≤ 64 ∧ (64 : Int) ≤ Int.ofNat (128 - off)) = true := by rw [decide_eq_true_eq]; refine ⟨Int.le_refl _, by omega, ?_⟩; show (64 : Int) ≤ ((128 - off : Nat) : Int); omega
    have d3 : decide ((0 : Int) ≤ 64 ∧ (64 : Int) ≤ Int.ofNat (64 * (n + 1)) ∧ Int.ofNat (64 * (n + 1)) ≤ Int.ofNat (128 - off)) = true := by
      rw [decide_eq_true_eq]; refine ⟨by omega, ?_, ?_⟩
      · show (64 : Int) ≤ ((64 * (n + 1) : Nat) : Int); omega
      · show ((64 * (n + 1) : Nat) : Int) ≤ ((128 - off : Nat) : Int); omega
    have e : F.digest_Sum_l12 buf (off, 64 * (n + 1), 128 - off, st) = some (.inl (off + 64, 64 * n, 128 - (off + 64), r)) := by
      unfold F.digest_Sum_l12
      rw [← l9_eq] at h2
      rw [← l10_eq] at h3
      rw [← l11_eq] at h4
      simp only [of_decide_eq_true d1, of_decide_eq_true d2, of_decide_eq_true d3, br, jn, lp, h0, h2, h3, h4, Option.bind_some, decide_true, if_true, and_self]
      congr 4
    obtain ⟨s, g1, g2, g3⟩ := ih (off + 64) r h6 (by omega)
    refine ⟨s, loopD_next e g1, ?_, g3⟩
    rw [g2]
    simp only [blocks, h5, Option.getD_some, List.drop_drop]
/-- The reference's blocks. -/
theorem Sum_l0_eq (p : List Int) (N : Nat) (hp : p.length = 64 * N) (hN : p.length ≤ 140737488355328) : ∀ (n k : Nat) (st : List Int), n + k = N → St st → loopD (F.testamurref02_Sum_l0 p) (((64 * k : Nat) : Int), st) = some (blocks n st (List.drop (64 * k) p)) ∧ St (blocks n st (List.drop (64 * k) p)) := by
  intro n
  induction n with
  | zero =>
    intro k st hk hs
    obtain rfl : k = N := by omega
    refine ⟨loopD_last ?_, hs⟩
    have d1 : decide (((64 * k : Nat) : Int) < Int.ofNat p.length) = false := by rw [decide_eq_false_iff_not]; show ¬ (((64 * k : Nat) : Int) < ((p.length : Nat) : Int)); omega
    unfold F.testamurref02_Sum_l0
    simp only [d1, br, Bool.false_eq_true, if_false, blocks]
  | succ n ih =>
    intro k st hk hs
    have hl : (List.take 64 (List.drop (64 * k) p)).length = 64 := by simp; omega
    obtain ⟨w, w2, s3, r, h1, h2, h3, h4, h5, h6⟩ := block_at st (List.take 64 (List.drop (64 * k) p)) hl hs.1
    have w1 : Go.IntKind.wrap .i64 (((64 * k : Nat) : Int) + 64) = ((64 * (k + 1) : Nat) : Int) := by rw [wrap_i64 _ (by omega) (by omega)]; omega
    have d1 : decide (((64 * k : Nat) : Int) < Int.ofNat p.length) = true := by rw [decide_eq_true_eq]; show (((64 * k : Nat) : Int) < ((p.length : Nat) : Int)); omega
    have d2 : decide (0 ≤ ((64 * k : Nat) : Int) ∧ ((64 * k : Nat) : Int) ≤ ((64 * (k + 1) : Nat) : Int) ∧ ((64 * (k + 1) : Nat) : Int) ≤ Int.ofNat p.length) = true := by
      rw [decide_eq_true_eq]; refine ⟨by omega, by omega, ?_⟩
      show ((64 * (k + 1) : Nat) : Int) ≤ ((p.length : Nat) : Int); omega
    have ht : List.drop (64 * k) (List.take (64 * (k + 1)) p) = List.take 64 (List.drop (64 * k) p) := by
      rw [List.take_drop, show 64 * k + 64 = 64 * (k + 1) from by omega]
    have e : F.testamurref02_Sum_l0 p (((64 * k : Nat) : Int), st) = some (.inl (((64 * (k + 1) : Nat) : Int), r)) := by
      unfold F.testamurref02_Sum_l0
      simp only [w1, d1, d2, br, jn, Int.toNat_natCast, ht, h5, Option.bind_some, if_true]
    obtain ⟨g1, g2⟩ := ih (k + 1) r (by omega) h6
    have eb : blocks (n + 1) st (List.drop (64 * k) p) = blocks n r (List.drop (64 * (k + 1)) p) := by
      simp only [blocks, h5, Option.getD_some, List.drop_drop, show 64 * k + 64 = 64 * (k + 1) from by omega]
    rw [eb]
    exact ⟨loopD_next e g1, g2⟩
end Sp
