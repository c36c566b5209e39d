/- Plain law: the reference's wallet answers what the program's answers. -/
import Derived.Test.YtfcldaojfbbaoaaDoorPlQ
import Derived.Test.YtfcldaojfbbaoaaDoorPlN
set_option linter.unusedVariables false
set_option linter.unusedSimpArgs false
set_option linter.unnecessarySimpa false
open Go Ev
set_option linter.unusedSimpArgs false
set_option linter.unusedVariables false
set_option maxRecDepth 100000
namespace Sp
noncomputable section
theorem ref_in_eq (a b c : Int) : F.testamurref41_in a b c = some (decide (b ≤ a) && decide (a ≤ c)) := in_eq a b c
theorem ref_New_eq (p : Int) : F.testamurref41_New p = F.wallet_New p := rfl

/-! Check -/
theorem b_Place_iff (x y : Place) : b_Place x y = true ↔ x = y := by
  cases x; cases y; simp [b_Place]
theorem mget_mput (k p : Place) : ∀ m : List (Place × Bool), (mget b_Place (mput b_Place m k true) p).getD false = (b_Place p k || (mget b_Place m p).getD false)
  | [] => by
    simp only [mput, mget, List.find?_cons, List.find?_nil]
    cases b_Place p k <;> rfl
  | y :: r => by
    have ih := mget_mput k p r
    simp only [mput]
    by_cases h1 : b_Place k y.1 = true
    · rw [if_pos h1]
      have e := (b_Place_iff _ _).1 h1
      simp only [mget, List.find?_cons, ← e]
      cases b_Place p k <;> simp
    · rw [if_neg h1]
      by_cases h2 : b_Place p y.1 = true
      · have e := (b_Place_iff _ _).1 h2
        have h3 : b_Place p k = false := by
          cases h : b_Place p k with
          | false => rfl
          | true =>
            have e2 := (b_Place_iff _ _).1 h
            exact absurd ((b_Place_iff _ _).2 (e2.symm.trans e)) h1
        simp only [mget, List.find?_cons, h2, h3, Bool.false_or]
      · have h2' : b_Place p y.1 = false := by simpa using h2
        simp only [mget, List.find?_cons, h2'] at ih ⊢
        exact ih
def plc (h : Held) : Place := Place.mk h.Copy.Round h.Copy.Place
def dup (l : List Held) (h : Held) : Bool := l.any fun g => b_Place (plc g) (plc h)
def isBadD (f : List (List Int)) (h : Held) (b : Bool) : Bool :=
  b || !(decide (h.Copy.Links.length = 4) && decide (h.Copy.Links = h.Secret.Links) && decide (h.Copy.Links = f)) ||
  !(pub h.Secret.Seed == h.Copy.Holder) || !(decide (0 ≤ h.Device) && decide (h.Device ≤ 3)) || !(decide (0 ≤ h.State) && decide (h.State ≤ 3))
def okAt (f : List (List Int)) (l : List Held) (k : Nat) : Bool := match l[k]? with | some h => !(isBadD f h (dup (l.take k) h)) | none => true
theorem anyBad_iff (f : List (List Int)) (l : List Held) : ∀ (n k : Nat) (m : List (Place × Bool)), n + k = l.length → (∀ p, (mget b_Place m p).getD false = (l.take k).any fun g => b_Place p (plc g)) →
    (anyBad f (l.drop k) m = false ↔ ∀ j, k ≤ j → j < l.length → okAt f l j = true)
  | 0, k, m, hk, hm => by
    obtain rfl : k = l.length := by omega
    rw [List.drop_length]
    simp only [anyBad, true_iff]
    intro j h1 h2; omega
  | n + 1, k, m, hk, hm => by
    have hlt : k < l.length := by omega
    rw [List.drop_eq_getElem_cons hlt]
    have hm' : ∀ p, (mget b_Place (mput b_Place m (Place.mk l[k].Copy.Round l[k].Copy.Place) true) p).getD false = (l.take (k + 1)).any fun g => b_Place p (plc g) := by
      intro p
      rw [mget_mput, hm p, List.take_add_one, List.any_append, List.getElem?_eq_getElem hlt]
      simp only [Option.toList, List.any_cons, List.any_nil, Bool.or_false, plc]
      rw [Bool.or_comm]
    have ih := anyBad_iff f l n (k + 1) _ (by omega) hm'
    have hb : isBad f l[k] m = !okAt f l k := by
      unfold okAt
      rw [List.getElem?_eq_getElem hlt]
      simp only [Bool.not_not]
      unfold isBad isBadD
      rw [hm]
      have : dup (l.take k) l[k] = (l.take k).any fun g => b_Place (Place.mk l[k].Copy.Round l[k].Copy.Place) (plc g) := by
        unfold dup
        congr 1
        funext g
        rw [Bool.eq_iff_iff, b_Place_iff, b_Place_iff]
        exact ⟨fun e => e.symm, fun e => e.symm⟩
      rw [this]
    simp only [anyBad, Bool.or_eq_false_iff, hb, Bool.not_eq_false', ih]
    constructor
    · intro h j h1 h2
      by_cases he : j = k
      · subst he; exact h.1
      · exact h.2 j (by omega) h2
    · intro h
      exact ⟨h k (Nat.le_refl _) hlt, fun j h1 h2 => h j (by omega) h2⟩
theorem dup_loop (w : Wallet) (k : Nat) (hk : k < w.Held.length) (hn : w.Held.length ≤ 1099511627776) (h : Held) :
    ∃ r, loopD (F.testamurref41_held_l0 (k : Int) w h) 0 = some r ∧ (r = Sum.inl () ∧ dup (w.Held.take k) h = true ∨ r = Sum.inr () ∧ dup (w.Held.take k) h = false) := by
  refine loop_nat (step := F.testamurref41_held_l0 (k : Int) w h) (N := k) (I := fun j => ∀ i (hi : i < w.Held.length), i < j → b_Place (plc w.Held[i]) (plc h) = false)
    (fun j hj hi => ?_) (fun hi => ?_) k 0 (Nat.add_zero _) (fun i hi h0 => by omega)
  · have hjl : j < w.Held.length := by omega
    have c1 : decide ((j : Int) < (k : Int)) = true := by rw [decide_eq_true_eq]; omega
    have hb : b_Place (plc w.Held[j]) (plc h) = ((w.Held[j].Copy.Round == h.Copy.Round) && (w.Held[j].Copy.Place == h.Copy.Place)) := rfl
    unfold F.testamurref41_held_l0
    simp only [c1, br, bd, jn, if_true, gi_nat, List.getElem?_eq_getElem hjl, Option.bind_some, wrapN j (by omega)]
    cases hc : b_Place (plc w.Held[j]) (plc h) with
    | true =>
      rw [hc] at hb
      have hb2 := Bool.and_eq_true_iff.1 hb.symm
      right
      refine ⟨Sum.inl (), by simp [hb2.1, hb2.2], .inl ⟨rfl, ?_⟩⟩
      unfold dup
      rw [List.any_eq_true]
      exact ⟨w.Held[j], List.mem_iff_getElem.2 ⟨j, by simp; omega, by simp⟩, hc⟩
    | false =>
      rw [hc] at hb
      left
      refine ⟨?_, fun i hi' hij => ?_⟩
      · generalize (w.Held[j].Copy.Round == h.Copy.Round) = e1 at hb ⊢
        generalize (w.Held[j].Copy.Place == h.Copy.Place) = e2 at hb ⊢
        cases e1 <;> cases e2 <;> first | rfl | exact absurd hb (by decide)
      · by_cases he : i = j
        · subst he; exact hc
        · exact hi i hi' (by omega)
  · have c1 : decide ((k : Int) < (k : Int)) = false := by simp
    unfold F.testamurref41_held_l0
    simp only [c1, br, Bool.false_eq_true, if_false]
    refine ⟨_, rfl, .inr ⟨rfl, ?_⟩⟩
    unfold dup
    rw [List.any_eq_false]
    intro g hg
    obtain ⟨i, hi1, hi2⟩ := List.mem_iff_getElem.1 hg
    have hi3 : i < k := by simp at hi1; omega
    have := hi i (by omega) hi3
    rw [List.getElem_take] at hi2
    rw [← hi2]
    simpa using this
theorem held_eq (w : Wallet) (k : Nat) (hk : k < w.Held.length) (hn : w.Held.length ≤ 1099511627776) (hl : linksOk w) : F.testamurref41_held w (k : Int) = some (okAt (firstLinks w) w.Held k) := by
  obtain ⟨r, h1, h2⟩ := dup_loop w k hk hn w.Held[k]
  have hlk := hl _ (List.getElem_mem hk)
  have h0l : 0 < w.Held.length := by omega
  have hf : firstLinks w = w.Held[0].Copy.Links := by simp [firstLinks, List.getElem?_eq_getElem h0l]
  unfold F.testamurref41_held okAt
  simp only [bd, gi_nat, gi_zero, List.getElem?_eq_getElem hk, List.getElem?_eq_getElem h0l, Option.bind_some, jn, Public_eq, br, bne_len, ref02_Same_eq _ _ hlk, lp, h1, ref_in_eq, show (4 : Int) = Int.ofNat 4 from rfl]
  unfold isBadD
  rw [hf]
  simp only [ne_eq, decide_not]
  generalize (pub w.Held[k].Secret.Seed == w.Held[k].Copy.Holder) = b1
  generalize decide (w.Held[k].Copy.Links.length = 4) = b2
  generalize decide (w.Held[k].Copy.Links = w.Held[k].Secret.Links) = b3
  generalize decide (w.Held[k].Copy.Links = w.Held[0].Copy.Links) = b4
  generalize (decide (0 ≤ w.Held[k].Device) && decide (w.Held[k].Device ≤ 3)) = b5
  generalize (decide (0 ≤ w.Held[k].State) && decide (w.Held[k].State ≤ 3)) = b6
  rcases h2 with ⟨rfl, h2⟩ | ⟨rfl, h2⟩ <;> rw [h2] <;> cases b1 <;> cases b2 <;> cases b3 <;> cases b4 <;> cases b5 <;> cases b6 <;> rfl
theorem ref_Check_eq (w : Wallet) (hn : w.Held.length ≤ 1099511627776) (hl : linksOk w) : F.testamurref41_Check w = some (chk w) := by
  obtain ⟨r, h1, h2⟩ := loop_nat (step := F.testamurref41_Check_l0 w) (N := w.Held.length) (I := fun k => ∀ j, j < k → j < w.Held.length → okAt (firstLinks w) w.Held j = true)
    (Q := fun r => r = Sum.inl () ∧ anyBad (firstLinks w) w.Held [] = true ∨ r = Sum.inr () ∧ anyBad (firstLinks w) w.Held [] = false)
    (fun k hk hi => by
      unfold F.testamurref41_Check_l0
      simp only [ltN, hk, decide_true, br, jn, if_true, held_eq w k hk hn hl, Option.bind_some, wrapN k (by omega)]
      cases h : okAt (firstLinks w) w.Held k with
      | true =>
        left
        refine ⟨by simp, fun j hj hjl => ?_⟩
        by_cases he : j = k
        · subst he; exact h
        · exact hi j (by omega) hjl
      | false =>
        right
        refine ⟨_, rfl, .inl ⟨rfl, ?_⟩⟩
        cases hb : anyBad (firstLinks w) w.Held [] with
        | true => rfl
        | false =>
          have := (anyBad_iff (firstLinks w) w.Held w.Held.length 0 [] (by omega) (by intro p; simp [mget])).1 (by simpa using hb) k (Nat.zero_le _) hk
          rw [this] at h; cases h)
    (fun hi => by
      unfold F.testamurref41_Check_l0
      simp only [ltN, Nat.lt_irrefl, decide_false, br, Bool.false_eq_true, if_false]
      refine ⟨_, rfl, .inr ⟨rfl, ?_⟩⟩
      have := (anyBad_iff (firstLinks w) w.Held w.Held.length 0 [] (by omega) (by intro p; simp [mget])).2 (fun j _ hj => hi j hj hj)
      simpa using this) w.Held.length 0 (by omega) (fun j hj => by omega)
  have h1 : loopD (F.testamurref41_Check_l0 w) 0 = some r := h1
  unfold F.testamurref41_Check chk
  simp only [jn, ref_in_eq, Option.bind_some, br, gt256, lp, h1]
  rcases h2 with ⟨rfl, h2⟩ | ⟨rfl, h2⟩ <;> rw [h2] <;> cases (decide (0 ≤ w.Person) && decide (w.Person ≤ 4095)) <;> cases (decide (0 ≤ w.Link) && decide (w.Link ≤ 4)) <;> by_cases e1 : w.Held.length > 256 <;> simp [e1]
theorem chk_vals (w : Wallet) : chk w = 0 ∨ chk w = 410 := by
  unfold chk; split <;> simp
end
end Sp
