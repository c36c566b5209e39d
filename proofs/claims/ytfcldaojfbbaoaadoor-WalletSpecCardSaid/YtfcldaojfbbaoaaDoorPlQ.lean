/- Plain law: the reference's comparisons of equal things answer true. -/
import Derived.Test.YtfcldaojfbbaoaaDoorPlG
set_option linter.unusedVariables false
set_option linter.unusedSimpArgs false
set_option linter.unnecessarySimpa false
open Go Ev
set_option linter.unusedSimpArgs false
set_option linter.unusedVariables false
set_option maxRecDepth 100000
namespace Sp
noncomputable section
theorem loop_all {step : Int → Option (Int ⊕ (Unit ⊕ Unit))} {N : Nat} (hs : ∀ k : Nat, k < N → step (k : Int) = some (.inl ((k + 1 : Nat) : Int))) (he : step (N : Int) = some (.inr (Sum.inr ()))) : loopD step 0 = some (Sum.inr ()) := by
  obtain ⟨r, h1, h2⟩ := loop_nat (step := step) (N := N) (I := fun _ => True) (Q := fun r => r = Sum.inr ()) (fun k hk _ => .inl ⟨hs k hk, trivial⟩) (fun _ => ⟨_, he, rfl⟩) N 0 (Nat.add_zero _) trivial
  rw [← h2]; exact h1

theorem ref02_Same_eq (a b : List (List Int)) (hn : a.length ≤ 9223372036854775807) : F.testamurref02_Same a b = some (decide (a = b)) := Equal_dig a b hn
theorem ref19_sameInts_eq (a b : List Int) (hn : a.length ≤ 9223372036854775807) : F.testamurref19_sameInts a b = some (decide (a = b)) := Equal_int a b hn

theorem geN (k n : Nat) : decide ((k : Int) ≥ Int.ofNat n) = decide (n ≤ k) := by
  show decide (((n : Nat) : Int) ≤ ((k : Nat) : Int)) = _
  simp

theorem leaf_refl (x : Leaf) (h : V_Leaf x) : F.testamurref06_Same x x = some true := by
  obtain ⟨_, ⟨h1, _⟩, ⟨h2, _⟩⟩ := h
  rw [maxLen_eq] at h1 h2
  unfold F.testamurref06_Same
  simp [br, jn, ref02_Same_eq _ _ h1, ref02_Same_eq _ _ h2]
theorem leaves_refl (l : List Leaf) (hl : l.length ≤ 9223372036854775807) (h : ∀ x ∈ l, V_Leaf x) : F.testamurref19_sameLeaves l l = some true := by
  have hlp : loopD (F.testamurref19_sameLeaves_l0 l l) 0 = some (Sum.inr ()) := loop_all (N := l.length)
    (fun k hk => by
      unfold F.testamurref19_sameLeaves_l0
      simp only [ltN, hk, decide_true, br, bd, jn, if_true, gi_nat, List.getElem?_eq_getElem hk, Option.bind_some, leaf_refl _ (h _ (List.getElem_mem hk)), wrapN k (by omega)])
    (by unfold F.testamurref19_sameLeaves_l0; simp only [ltN, Nat.lt_irrefl, decide_false, br, Bool.false_eq_true, if_false])
  unfold F.testamurref19_sameLeaves
  simp [br, lp, hlp]
theorem copy_refl (x : Copy) (h : V_Copy x) : F.testamurref19_Same x x = some true := by
  obtain ⟨_, _, _, _, _, ⟨h1, _⟩, ⟨h2, _⟩, ⟨h3, h4⟩⟩ := h
  rw [maxLen_eq] at h1 h2 h3
  unfold F.testamurref19_Same
  simp [br, jn, ref02_Same_eq _ _ h2, ref19_sameInts_eq _ _ h1, leaves_refl _ h3 h4]
theorem held_refl (x : Held) (h : V_Held x) : F.testamurref41_SameHeld x x = some true := by
  obtain ⟨h1, ⟨_, h2, _⟩, _, _⟩ := h
  rw [maxLen_eq] at h2
  unfold F.testamurref41_SameHeld
  simp [br, jn, copy_refl _ h1, ref02_Same_eq _ _ h2]
theorem wallet_refl (x : Wallet) (hl : x.Held.length ≤ 9223372036854775807) (h : ∀ y ∈ x.Held, V_Held y) : F.testamurref41_Same x x = some true := by
  have hlp : loopD (F.testamurref41_Same_l0 x x) 0 = some (Sum.inr ()) := loop_all (N := x.Held.length)
    (fun k hk => by
      unfold F.testamurref41_Same_l0
      simp only [ltN, hk, decide_true, br, bd, jn, if_true, gi_nat, List.getElem?_eq_getElem hk, Option.bind_some, held_refl _ (h _ (List.getElem_mem hk)), wrapN k (by omega)])
    (by unfold F.testamurref41_Same_l0; simp only [ltN, Nat.lt_irrefl, decide_false, br, Bool.false_eq_true, if_false])
  unfold F.testamurref41_Same
  simp [br, jn, lp, hlp]
end
end Sp
