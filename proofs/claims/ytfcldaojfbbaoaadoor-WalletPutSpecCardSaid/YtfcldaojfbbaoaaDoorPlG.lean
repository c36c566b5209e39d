/- Plain law: what a device offers. -/
import Derived.Test.YtfcldaojfbbaoaaDoorPlF
set_option linter.unusedVariables false
set_option linter.unusedSimpArgs false
set_option linter.unnecessarySimpa false
open Go Ev
set_option linter.unusedSimpArgs false
set_option linter.unusedVariables false
set_option maxRecDepth 100000
namespace Sp
noncomputable section
theorem maxLen_eq : Go.maxLen = 9223372036854775807 := by decide
theorem gtN (n m : Nat) : decide (Int.ofNat n > (m : Int)) = decide (m < n) := by
  show decide (((m : Nat) : Int) < ((n : Nat) : Int)) = _
  simp
theorem leN (n m : Nat) : decide (Int.ofNat n ≤ (m : Int)) = decide (n ≤ m) := by
  show decide (((n : Nat) : Int) ≤ ((m : Nat) : Int)) = _
  simp

theorem FewCopy_tot (c : Copy) (hc : c.Claims.length ≤ 9223372036854775807) : ∃ b, F.testamurref41_FewCopy c = some b ∧ (b = true → c.Values.length ≤ 12 ∧ c.Links.length ≤ 8 ∧ c.Claims.length ≤ 24) := by
  obtain ⟨r, h1, _⟩ := loop_nat (step := F.testamurref41_FewCopy_l0 c) (N := c.Claims.length) (I := fun _ => True) (Q := fun _ => True)
    (fun k hk _ => by
      unfold F.testamurref41_FewCopy_l0
      simp only [ltN, hk, decide_true, br, bd, jn, if_true, gi_nat, List.getElem?_eq_getElem hk, Option.bind_some, wrapN k (by omega)]
      cases decide (Int.ofNat c.Claims[k].Chains.length > 24) <;> cases decide (Int.ofNat c.Claims[k].Path.length > 12) <;> simp)
    (fun _ => by
      unfold F.testamurref41_FewCopy_l0
      simp only [ltN, Nat.lt_irrefl, decide_false, br, Bool.false_eq_true, if_false]
      exact ⟨_, rfl, trivial⟩) c.Claims.length 0 (by omega) trivial
  have h1 : loopD (F.testamurref41_FewCopy_l0 c) 0 = some r := h1
  unfold F.testamurref41_FewCopy
  simp only [lp, h1, Option.bind_some]
  cases r with
  | inl u => exact ⟨false, rfl, fun h => by cases h⟩
  | inr u =>
    have e1 := leN c.Values.length 12
    have e2 := leN c.Links.length 8
    have e3 := leN c.Claims.length 24
    simp only [Sum.elim_inr, br]
    by_cases a1 : c.Values.length ≤ 12
    · by_cases a2 : c.Links.length ≤ 8
      · by_cases a3 : c.Claims.length ≤ 24
        · exact ⟨true, by rw [if_pos (by rw [show decide (Int.ofNat c.Values.length ≤ 12) = _ from e1]; simpa using a1), if_pos (by rw [show decide (Int.ofNat c.Links.length ≤ 8) = _ from e2]; simpa using a2), show decide (Int.ofNat c.Claims.length ≤ 24) = _ from e3]; simp [a3], fun _ => ⟨a1, a2, a3⟩⟩
        · exact ⟨false, by rw [if_pos (by rw [show decide (Int.ofNat c.Values.length ≤ 12) = _ from e1]; simpa using a1), if_pos (by rw [show decide (Int.ofNat c.Links.length ≤ 8) = _ from e2]; simpa using a2), show decide (Int.ofNat c.Claims.length ≤ 24) = _ from e3]; simp [a3], fun h => by cases h⟩
      · exact ⟨false, by rw [if_pos (by rw [show decide (Int.ofNat c.Values.length ≤ 12) = _ from e1]; simpa using a1), if_neg (by rw [show decide (Int.ofNat c.Links.length ≤ 8) = _ from e2]; simpa using a2)], fun h => by cases h⟩
    · exact ⟨false, by rw [if_neg (by rw [show decide (Int.ofNat c.Values.length ≤ 12) = _ from e1]; simpa using a1)], fun h => by cases h⟩

/-- What is few. -/
def FewH (h : Held) : Prop := h.Copy.Values.length ≤ 12 ∧ h.Copy.Links.length ≤ 8 ∧ h.Copy.Claims.length ≤ 24 ∧ h.Secret.Links.length ≤ 8
def FewW (w : Wallet) : Prop := w.Held.length ≤ 12 ∧ ∀ h ∈ w.Held, FewH h

theorem Few_tot (w : Wallet) (hw : V_Wallet w) : ∃ b, F.testamurref41_Few w = some b ∧ (b = true → FewW w) := by
  obtain ⟨_, _, hlen, hel⟩ := hw
  rw [maxLen_eq] at hlen
  obtain ⟨r, h1, h2⟩ := loop_nat (step := F.testamurref41_Few_l0 w) (N := w.Held.length) (I := fun k => ∀ j (hj : j < w.Held.length), j < k → FewH w.Held[j]) (Q := fun r => r = Sum.inr () → ∀ h ∈ w.Held, FewH h)
    (fun k hk hi => by
      have hv := hel _ (List.getElem_mem hk)
      have hcl : w.Held[k].Copy.Claims.length ≤ 9223372036854775807 := by
        have := hv.1.2.2.2.2.2.2.2.1
        rwa [maxLen_eq] at this
      obtain ⟨b, hb, hb2⟩ := FewCopy_tot w.Held[k].Copy hcl
      have e1 := gtN w.Held[k].Secret.Links.length 8
      unfold F.testamurref41_Few_l0
      simp only [ltN, hk, decide_true, br, bd, jn, if_true, gi_nat, List.getElem?_eq_getElem hk, Option.bind_some, wrapN k (by omega), hb, show decide (Int.ofNat w.Held[k].Secret.Links.length > 8) = _ from e1]
      cases b with
      | false => right; exact ⟨_, rfl, fun e => by cases e⟩
      | true =>
        obtain ⟨f1, f2, f3⟩ := hb2 rfl
        by_cases h8 : 8 < w.Held[k].Secret.Links.length
        · right
          simp only [h8, decide_true, if_true, Option.bind_some]
          exact ⟨_, rfl, fun e => by cases e⟩
        · left
          simp only [h8, decide_false, Bool.false_eq_true, if_false, if_true, Option.bind_some]
          refine ⟨trivial, fun j hj hjk => ?_⟩
          by_cases hjk' : j < k
          · exact hi j hj hjk'
          · obtain rfl : j = k := by omega
            exact ⟨f1, f2, f3, by omega⟩)
    (fun hi => by
      unfold F.testamurref41_Few_l0
      simp only [ltN, Nat.lt_irrefl, decide_false, br, Bool.false_eq_true, if_false]
      refine ⟨_, rfl, fun _ h hh => ?_⟩
      obtain ⟨j, hj, rfl⟩ := List.getElem_of_mem hh
      exact hi j hj hj) w.Held.length 0 (by omega) (fun j hj hjk => by omega)
  have h1 : loopD (F.testamurref41_Few_l0 w) 0 = some r := h1
  unfold F.testamurref41_Few
  simp only [lp, h1, Option.bind_some]
  cases r with
  | inl u => exact ⟨false, rfl, fun h => by cases h⟩
  | inr u =>
    have e1 := leN w.Held.length 12
    refine ⟨_, rfl, fun h => ⟨?_, h2 rfl⟩⟩
    have h : decide (Int.ofNat w.Held.length ≤ 12) = true := h
    rw [show decide (Int.ofNat w.Held.length ≤ 12) = _ from e1] at h
    simpa using h

/-! what is chosen -/
def sameK (y x : Nat × Held) : Bool := y.2.Copy.Schema == x.2.Copy.Schema && decide (y.2.Copy.Values = x.2.Copy.Values)
def claimOf (x : Nat × Held) : Claims := Claims.mk x.2.Copy.Schema (fieldsOf x.2.Copy.Values) x.2.Copy.Values
def selStep (sel : List (Nat × Held)) (x : Nat × Held) : List (Nat × Held) := if (sel.any (fun y => sameK y x) || decide (sel.length = 8)) = true then sel else sel ++ [x]
def sel (w : Wallet) (d : Int) : List (Nat × Held) := (mine w d).foldl selStep []

theorem fold_sel : ∀ (l : List (Nat × Held)) (s : List (Nat × Held)), l.foldl offStep (s.map claimOf, ixs s) = ((l.foldl selStep s).map claimOf, ixs (l.foldl selStep s))
  | [], s => rfl
  | x :: l, s => by
    simp only [List.foldl_cons]
    have : offStep (s.map claimOf, ixs s) x = ((selStep s x).map claimOf, ixs (selStep s x)) := by
      have ha : (s.map claimOf).any (fits x.2.Copy) = s.any (fun y => sameK y x) := by
        rw [List.any_map]; rfl
      simp only [offStep, selStep, ha, List.length_map]
      split
      · rfl
      · simp [ixs, claimOf]
    rw [this, fold_sel l]
theorem offS_sel (w : Wallet) (d : Int) : offS w d = ((sel w d).map claimOf, ixs (sel w d)) := fold_sel (mine w d) []

structure SelInv (done sel : List (Nat × Held)) : Prop where
  len : sel.length ≤ 8
  sub : ∀ y ∈ sel, y ∈ done
  inc : sel.Pairwise (fun a b => a.1 < b.1)
  dist : sel.Pairwise (fun a b => sameK a b = false)
  all : ∀ x ∈ done, (∃ y ∈ sel, sameK y x = true ∧ y.1 ≤ x.1) ∨ (sel.length = 8 ∧ ∀ y ∈ sel, sameK y x = false)

theorem sel_inv : ∀ (rest done sel : List (Nat × Held)), (done ++ rest).Pairwise (fun a b => a.1 < b.1) → SelInv done sel → SelInv (done ++ rest) (rest.foldl selStep sel)
  | [], done, sel, _, h => by simpa using h
  | x :: rest, done, sel, hp, h => by
    have hlt : ∀ y ∈ done, y.1 < x.1 := by
      intro y hy
      exact (List.pairwise_append.1 hp).2.2 y hy x (by simp)
    have h' : SelInv (done ++ [x]) (selStep sel x) := by
      unfold selStep
      by_cases ha : sel.any (fun y => sameK y x) = true
      · rw [if_pos (by simp [ha])]
        obtain ⟨y, hy, hs⟩ := List.any_eq_true.1 ha
        refine ⟨h.len, fun y hy => by simp [h.sub y hy], h.inc, h.dist, fun z hz => ?_⟩
        rcases List.mem_append.1 hz with hz | hz
        · exact h.all z hz
        · simp only [List.mem_singleton] at hz; subst hz
          exact .inl ⟨y, hy, hs, Nat.le_of_lt (hlt y (h.sub y hy))⟩
      · have hno : ∀ y ∈ sel, sameK y x = false := by
          intro y hy
          cases hs : sameK y x with
          | false => rfl
          | true => exact absurd (List.any_eq_true.2 ⟨y, hy, hs⟩) ha
        have ha' : sel.any (fun y => sameK y x) = false := by simpa using ha
        by_cases h8 : sel.length = 8
        · rw [if_pos (by simp [h8])]
          refine ⟨h.len, fun y hy => by simp [h.sub y hy], h.inc, h.dist, fun z hz => ?_⟩
          rcases List.mem_append.1 hz with hz | hz
          · exact h.all z hz
          · simp only [List.mem_singleton] at hz; subst hz
            exact .inr ⟨h8, hno⟩
        · rw [if_neg (by simp [ha', h8])]
          have hle := h.len
          refine ⟨by simp; omega, ?_, ?_, ?_, fun z hz => ?_⟩
          · intro y hy
            rcases List.mem_append.1 hy with hy | hy
            · simp [h.sub y hy]
            · simp only [List.mem_singleton] at hy; subst hy; simp
          · refine List.pairwise_append.2 ⟨h.inc, by simp, fun a hax b hb => ?_⟩
            simp only [List.mem_singleton] at hb; subst hb
            exact hlt a (h.sub a hax)
          · refine List.pairwise_append.2 ⟨h.dist, by simp, fun a hax b hb => ?_⟩
            simp only [List.mem_singleton] at hb; subst hb
            exact hno a hax
          · rcases List.mem_append.1 hz with hz | hz
            · rcases h.all z hz with ⟨y, hy, k1, k2⟩ | ⟨k1, _⟩
              · exact .inl ⟨y, by simp [hy], k1, k2⟩
              · exact absurd k1 h8
            · simp only [List.mem_singleton] at hz; subst hz
              exact .inl ⟨z, by simp, by simp [sameK], Nat.le_refl _⟩
    have := sel_inv rest (done ++ [x]) (selStep sel x) (by simpa using hp) h'
    simpa using this

theorem idxF_inc {α : Type} (p : α → Bool) : ∀ (l : List α) (k : Nat), (idxF p l k).Pairwise (fun a b => a.1 < b.1)
  | [], _ => by simp [idxF]
  | y :: l, k => by
    simp only [idxF]
    split
    · refine List.pairwise_cons.2 ⟨fun b hb => ?_, idxF_inc p l (k + 1)⟩
      have := (idxF_mem p l (k + 1) b hb).1
      show k < b.1
      omega
    · exact idxF_inc p l (k + 1)

theorem sel_ok (w : Wallet) (d : Int) : SelInv (mine w d) (sel w d) := by
  have := sel_inv (mine w d) [] [] (by simpa [mine] using idxF_inc _ w.Held 0) ⟨by simp, by simp, by simp, by simp, by simp⟩
  simpa [sel] using this

theorem mine_mem (w : Wallet) (d : Int) (x : Nat × Held) (hx : x ∈ mine w d) : x.1 < w.Held.length ∧ w.Held[x.1]? = some x.2 ∧ x.2.Device = d ∧ x.2.State = 0 := by
  obtain ⟨_, h2, h3, h4⟩ := idxF_mem _ _ _ _ hx
  simp only [Bool.and_eq_true, beq_iff_eq] at h4
  exact ⟨by omega, by simpa using h3, h4.1, h4.2⟩
theorem mem_mine (w : Wallet) (d : Int) (k : Nat) (h : Held) (hk : w.Held[k]? = some h) (h1 : h.Device = d) (h2 : h.State = 0) : (k, h) ∈ mine w d := by
  have key : ∀ (l : List Held) (o j : Nat), l[j]? = some h → (o + j, h) ∈ idxF (fun h : Held => h.Device == d && h.State == 0) l o := by
    intro l
    induction l with
    | nil => intro o j hj; simp at hj
    | cons y l ih =>
      intro o j hj
      cases j with
      | zero =>
        simp only [List.getElem?_cons_zero, Option.some.injEq] at hj
        subst hj
        simp [idxF, h1, h2]
      | succ j =>
        have := ih (o + 1) j (by simpa using hj)
        rw [show o + 1 + j = o + (j + 1) from by omega] at this
        simp only [idxF]
        split
        · exact List.mem_cons_of_mem _ this
        · exact this
  have := key w.Held 0 k hk
  simpa [mine] using this
end
end Sp
