/- Plain law: what the wallet's functions compute. -/
import Derived.Test.YtfcldaojfbbaoaaDoorPlB
set_option linter.unusedVariables false
set_option linter.unusedSimpArgs false
set_option linter.unnecessarySimpa false
open Go Ev
set_option linter.unusedSimpArgs false
set_option linter.unusedVariables false
set_option maxRecDepth 100000
namespace Sp
theorem loop_nat {R : Type} {step : Int → Option (Int ⊕ R)} {N : Nat} {I : Nat → Prop} {Q : R → Prop}
    (hs : ∀ k : Nat, k < N → I k → (step (k : Int) = some (.inl ((k + 1 : Nat) : Int)) ∧ I (k + 1)) ∨ ∃ r, step (k : Int) = some (.inr r) ∧ Q r)
    (he : I N → ∃ r, step (N : Int) = some (.inr r) ∧ Q r) : ∀ (n k : Nat), n + k = N → I k → ∃ r, loopD step (k : Int) = some r ∧ Q r
  | 0, k, hk, hi => by
    obtain rfl : k = N := by omega
    obtain ⟨r, h1, h2⟩ := he hi
    exact ⟨r, loopD_last h1, h2⟩
  | n + 1, k, hk, hi => by
    rcases hs k (by omega) hi with ⟨h1, h2⟩ | ⟨r, h1, h2⟩
    · obtain ⟨r, h3, h4⟩ := loop_nat hs he n (k + 1) (by omega) h2
      exact ⟨r, loopD_next h1 h3, h4⟩
    · exact ⟨r, loopD_last h1, h2⟩
theorem gi_nat {α : Type} (l : List α) (k : Nat) : gi l (k : Int) = l[k]? := by simp [gi]
theorem gi_zero {α : Type} (l : List α) : gi l 0 = l[0]? := by simp [gi]
theorem wrapN (k : Nat) (h : k < 9223372036854775807) : Go.IntKind.wrap .i64 ((k : Int) + 1) = ((k + 1 : Nat) : Int) := by rw [wrap_i64 _ (by omega) (by omega)]; omega
theorem ltN (k n : Nat) : decide ((k : Int) < Int.ofNat n) = decide (k < n) := by
  show decide (((k : Nat) : Int) < ((n : Nat) : Int)) = _
  simp

theorem equal_loop {α : Type} [BEq α] [LawfulBEq α] [DecidableEq α] (a b : List α) (hl : a.length = b.length) (hn : a.length ≤ 9223372036854775807) (step : Int → Option (Int ⊕ (Unit ⊕ Unit)))
    (h : ∀ x, step x = br (decide (x < Int.ofNat a.length)) (bd (gi a x) fun y2 => bd (gi b x) fun y3 => br (y2 == y3) (some (.inl (Go.IntKind.wrap .i64 (x + 1)))) (some (.inr (Sum.inl ())))) (some (.inr (Sum.inr ())))) :
    (loopD step 0).bind (Sum.elim (fun _ => some false) (fun _ => some true)) = some (decide (a = b)) := by
  obtain ⟨r, h1, h2⟩ := loop_nat (step := step) (N := a.length) (I := fun k => ∀ j, j < k → a[j]? = b[j]?) (Q := fun r => (r = Sum.inl () → a ≠ b) ∧ (r = Sum.inr () → a = b))
    (fun k hk hi => by
      have hkb : k < b.length := by omega
      rw [h, ltN, gi_nat, gi_nat, wrapN k (by omega)]
      simp only [hk, decide_true, br, bd, if_true, List.getElem?_eq_getElem hk, List.getElem?_eq_getElem hkb, Option.bind_some]
      by_cases he : a[k] = b[k]
      · left
        rw [if_pos (by simpa using he)]
        refine ⟨rfl, fun j hj => ?_⟩
        by_cases hjk : j < k
        · exact hi j hjk
        · obtain rfl : j = k := by omega
          rw [List.getElem?_eq_getElem hk, List.getElem?_eq_getElem hkb, he]
      · right
        rw [if_neg (by simpa using he)]
        refine ⟨_, rfl, fun _ hab => he (by subst hab; rfl), fun e => by cases e⟩)
    (fun hi => by
      rw [h, ltN]
      simp only [Nat.lt_irrefl, decide_false, br, Bool.false_eq_true, if_false]
      refine ⟨_, rfl, fun e => (by cases e), fun _ => ?_⟩
      apply List.ext_getElem?
      intro j
      by_cases hj : j < a.length
      · exact hi j hj
      · rw [List.getElem?_eq_none (by omega), List.getElem?_eq_none (by omega)]) a.length 0 (by omega) (fun j hj => by omega)
  have h1 : loopD step 0 = some r := h1
  rw [h1]
  cases r with
  | inl u => simp only [Option.bind_some, Sum.elim_inl]; rw [decide_eq_false (h2.1 rfl)]
  | inr u => simp only [Option.bind_some, Sum.elim_inr]; rw [decide_eq_true (h2.2 rfl)]

theorem bne_len (a b : Nat) : ((Int.ofNat a) != (Int.ofNat b)) = decide (a ≠ b) := by
  by_cases h : a = b
  · subst h; simp
  · have : ¬ (Int.ofNat a = Int.ofNat b) := fun e => h (Int.ofNat.inj e)
    simp [h, bne]
    omega

theorem Equal_dig (a b : List (List Int)) (hn : a.length ≤ 9223372036854775807) : F.slices_Equal_apiDigest a b = some (decide (a = b)) := by
  unfold F.slices_Equal_apiDigest
  rw [bne_len]
  by_cases hl : a.length = b.length
  · simp only [hl, ne_eq, not_true_eq_false, decide_false, br, Bool.false_eq_true, if_false, lp]
    exact equal_loop a b hl hn (F.slices_Equal_apiDigest_l0 a b) fun x => rfl
  · simp only [ne_eq, hl, not_false_eq_true, decide_true, br, if_true]
    rw [decide_eq_false fun e => hl (by rw [e])]

theorem br_bne {α R : Type} [BEq α] (a b : α) (x y : Option R) : br (a != b) x y = br (a == b) y x := by
  unfold br bne; cases a == b <;> rfl

theorem Equal_int (a b : List Int) (hn : a.length ≤ 9223372036854775807) : F.slices_Equal_int a b = some (decide (a = b)) := by
  unfold F.slices_Equal_int
  rw [bne_len]
  by_cases hl : a.length = b.length
  · simp only [hl, ne_eq, not_true_eq_false, decide_false, br, Bool.false_eq_true, if_false, lp]
    exact equal_loop a b hl hn (F.slices_Equal_int_l0 a b) fun x => by simp only [F.slices_Equal_int_l0, br_bne]
  · simp only [ne_eq, hl, not_false_eq_true, decide_true, br, if_true]
    rw [decide_eq_false fun e => hl (by rw [e])]
theorem SameInts_eq (a b : List Int) (hn : a.length ≤ 9223372036854775807) : F.testamurref41_SameInts a b = some (decide (a = b)) := by
  have : F.testamurref41_sameInts a b = F.slices_Equal_int a b := rfl
  unfold F.testamurref41_SameInts
  rw [this, Equal_int a b hn]
  rfl

theorem in_eq (a b c : Int) : F.wallet_in a b c = some (decide (b ≤ a) && decide (a ≤ c)) := by
  unfold F.wallet_in br
  by_cases h : b ≤ a
  · simp [h]
  · simp [h]

/-! where -/
def idxF {α : Type} (p : α → Bool) : List α → Nat → List (Nat × α)
  | [], _ => []
  | x :: l, k => if p x then (k, x) :: idxF p l (k + 1) else idxF p l (k + 1)
def ixs {α : Type} (l : List (Nat × α)) : List Int := l.map fun x => (x.1 : Int)

theorem where_loop {α : Type} (l : List α) (p : α → Bool) (hn : l.length ≤ 1099511627776) (step : Int × List Int → Option ((Int × List Int) ⊕ List Int))
    (h : ∀ (k : Nat) (x : α) acc, l[k]? = some x → acc.length ≤ k → step ((k : Int), acc) = some (.inl (((k + 1 : Nat) : Int), if p x then acc ++ [(k : Int)] else acc)))
    (he : ∀ acc, step ((l.length : Int), acc) = some (.inr acc)) : ∀ (n k : Nat) acc, n + k = l.length → acc.length ≤ k → loopD step ((k : Int), acc) = some (acc ++ ixs (idxF p (l.drop k) k))
  | 0, k, acc, hk, ha => by
    obtain rfl : k = l.length := by omega
    rw [loopD_last (he acc), List.drop_length]
    simp [idxF, ixs]
  | n + 1, k, acc, hk, ha => by
    have hlt : k < l.length := by omega
    refine loopD_next (h k l[k] acc (by simp [hlt]) ha) ?_
    have hacc : (if p l[k] then acc ++ [(k : Int)] else acc).length ≤ k + 1 := by
      split
      · simp; omega
      · omega
    rw [where_loop l p hn step h he n (k + 1) _ (by omega) hacc, List.drop_eq_getElem_cons hlt]
    simp only [idxF]
    cases p l[k] <;> simp [ixs]

theorem Offers_l0_eq (w : Wallet) (d : Int) (hn : w.Held.length ≤ 1099511627776) : loopD (F.wallet_Offers_l0 w d) (0, []) = some (ixs (idxF (fun h => h.Device == d && h.State == 0) w.Held 0)) := by
  have := where_loop w.Held (fun h => h.Device == d && h.State == 0) hn (F.wallet_Offers_l0 w d)
    (fun k x acc hx ha => by
      have hlt : k < w.Held.length := by
        rcases Nat.lt_or_ge k w.Held.length with h | h
        · exact h
        · rw [List.getElem?_eq_none h] at hx; cases hx
      have c2 : ((acc.length + [(k : Int)].length) * 8 ≤ 2 ^ 46 ∧ (acc.length + [(k : Int)].length) ≤ 2 ^ 46) := by rw [List.length_singleton]; omega
      unfold F.wallet_Offers_l0
      simp only [ltN, hlt, decide_true, br, bd, jn, ap, if_true, gi_nat, hx, Option.bind_some, c2, and_self, wrapN k (by omega)]
      cases x.Device == d <;> cases x.State == 0 <;> simp)
    (fun acc => by unfold F.wallet_Offers_l0; simp only [ltN, Nat.lt_irrefl, decide_false, br, Bool.false_eq_true, if_false]) w.Held.length 0 [] (by omega) (Nat.zero_le _)
  simpa using this
theorem fresh_eq (w : Wallet) (d : Int) (hn : w.Held.length ≤ 1099511627776) : F.wallet_fresh w d = some (ixs (idxF (fun h => h.State == 0 && h.Copy.Schema == d) w.Held 0)) := by
  have := where_loop w.Held (fun h => h.State == 0 && h.Copy.Schema == d) hn (F.wallet_fresh_l0 w d)
    (fun k x acc hx ha => by
      have hlt : k < w.Held.length := by
        rcases Nat.lt_or_ge k w.Held.length with h | h
        · exact h
        · rw [List.getElem?_eq_none h] at hx; cases hx
      have c2 : ((acc.length + [(k : Int)].length) * 8 ≤ 2 ^ 46 ∧ (acc.length + [(k : Int)].length) ≤ 2 ^ 46) := by rw [List.length_singleton]; omega
      unfold F.wallet_fresh_l0
      simp only [ltN, hlt, decide_true, br, bd, jn, ap, if_true, gi_nat, hx, Option.bind_some, c2, and_self, wrapN k (by omega)]
      cases x.State == 0 <;> cases x.Copy.Schema == d <;> simp)
    (fun acc => by unfold F.wallet_fresh_l0; simp only [ltN, Nat.lt_irrefl, decide_false, br, Bool.false_eq_true, if_false]) w.Held.length 0 [] (by omega) (Nat.zero_le _)
  have h0 : loopD (F.wallet_fresh_l0 w d) (0, []) = some (ixs (idxF (fun h => h.State == 0 && h.Copy.Schema == d) w.Held 0)) := by simpa using this
  unfold F.wallet_fresh
  simp only [lp, jn, h0, Option.bind_some]
theorem Left_eq (w : Wallet) (d : Int) (hn : w.Held.length ≤ 1099511627776) : F.wallet_Left w d = some (Int.ofNat (ixs (idxF (fun h => h.State == 0 && h.Copy.Schema == d) w.Held 0)).length) := by
  unfold F.wallet_Left
  simp only [jn, fresh_eq w d hn, Option.bind_some]

/-! Check -/
noncomputable def isBad (f : List (List Int)) (h : Held) (m : List (Place × Bool)) : Bool :=
  Option.getD (mget b_Place m (Place.mk h.Copy.Round h.Copy.Place)) false || !(decide (h.Copy.Links.length = 4) && decide (h.Copy.Links = h.Secret.Links) && decide (h.Copy.Links = f)) ||
  !(pub h.Secret.Seed == h.Copy.Holder) || !(decide (0 ≤ h.Device) && decide (h.Device ≤ 3)) || !(decide (0 ≤ h.State) && decide (h.State ≤ 3))
noncomputable def anyBad (f : List (List Int)) : List Held → List (Place × Bool) → Bool
  | [], _ => false
  | h :: r, m => isBad f h m || anyBad f r (mput b_Place m (Place.mk h.Copy.Round h.Copy.Place) true)
def firstLinks (w : Wallet) : List (List Int) := (w.Held[0]?.map fun h => h.Copy.Links).getD []
noncomputable def chk (w : Wallet) : Int := if (!(decide (0 ≤ w.Person) && decide (w.Person ≤ 4095)) || !(decide (0 ≤ w.Link) && decide (w.Link ≤ 4)) || decide (w.Held.length > 256) || anyBad (firstLinks w) w.Held []) = true then 410 else 0

theorem eq4 (n : Nat) : ((Int.ofNat n) == 4) = decide (n = 4) := by
  by_cases h : n = 4
  · subst h; rfl
  · have : ¬ (Int.ofNat n = 4) := fun e => h (Int.ofNat.inj e)
    simp [h]
    omega

theorem chk_step (w : Wallet) (k : Nat) (h : Held) (m : List (Place × Bool)) (wr : List Int) (hk : w.Held[k]? = some h) (hlt : k < w.Held.length) (hn : w.Held.length ≤ 1099511627776) (hl : h.Copy.Links.length ≤ 9223372036854775807) (hwr : wr.length ≤ k) :
    F.wallet_Check_l0 w ((k : Int), m, wr) = some (.inl (((k + 1 : Nat) : Int), mput b_Place m (Place.mk h.Copy.Round h.Copy.Place) true, if isBad (firstLinks w) h m then wr ++ [(k : Int)] else wr)) := by
  have c2 : ((wr.length + [(k : Int)].length) * 8 ≤ 2 ^ 46 ∧ (wr.length + [(k : Int)].length) ≤ 2 ^ 46) := by rw [List.length_singleton]; omega
  obtain ⟨h0, hh0⟩ : ∃ h0, w.Held[0]? = some h0 := ⟨w.Held[0], by simp [show 0 < w.Held.length by omega]⟩
  have hf : firstLinks w = h0.Copy.Links := by simp [firstLinks, hh0]
  unfold F.wallet_Check_l0
  simp only [ltN, hlt, decide_true, br, bd, jn, ap, if_true, gi_nat, gi_zero, hk, hh0, Option.bind_some, c2, and_self, wrapN k (by omega), eq4, Equal_dig _ _ hl, pub_eq, in_eq, isBad, hf]
  cases decide (h.Copy.Links.length = 4) <;> cases decide (h.Copy.Links = h.Secret.Links) <;> cases decide (h.Copy.Links = h0.Copy.Links) <;> cases (mget b_Place m (Place.mk h.Copy.Round h.Copy.Place)).getD false <;>
    cases pub h.Secret.Seed == h.Copy.Holder <;> cases (decide (0 ≤ h.Device) && decide (h.Device ≤ 3)) <;> cases (decide (0 ≤ h.State) && decide (h.State ≤ 3)) <;> simp
end Sp
