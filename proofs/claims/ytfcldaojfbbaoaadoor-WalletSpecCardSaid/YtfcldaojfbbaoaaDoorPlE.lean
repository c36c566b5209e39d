/- Plain law: Offers as a plain function; the chapter's examples hold. -/
import Derived.Test.YtfcldaojfbbaoaaDoorPlD
set_option linter.unusedVariables false
set_option linter.unusedSimpArgs false
set_option linter.unnecessarySimpa false
open Go Ev
set_option linter.unusedSimpArgs false
set_option linter.unusedVariables false
set_option maxRecDepth 100000
namespace Sp
noncomputable section
theorem Equal_int' (a b : List Int) (hn : b.length ≤ 9223372036854775807) : F.slices_Equal_int a b = some (decide (a = b)) := by
  by_cases hl : a.length = b.length
  · exact Equal_int a b (by omega)
  · unfold F.slices_Equal_int
    rw [bne_len]
    simp only [ne_eq, hl, not_false_eq_true, decide_true, br, if_true]
    rw [decide_eq_false fun e => hl (by rw [e])]

def fits (c : Copy) (x : Claims) : Bool := x.Schema == c.Schema && decide (x.Values = c.Values)
def fieldsOf (v : List Int) : List Int := ixs (idxF (fun _ => true) v 0)
def offStep (s : List Claims × List Int) (x : Nat × Held) : List Claims × List Int :=
  if (s.1.any (fits x.2.Copy) || decide (s.1.length = 8)) = true then s else (s.1 ++ [Claims.mk x.2.Copy.Schema (fieldsOf x.2.Copy.Values) x.2.Copy.Values], s.2 ++ [(x.1 : Int)])
def mine (w : Wallet) (d : Int) : List (Nat × Held) := idxF (fun h => h.Device == d && h.State == 0) w.Held 0
def offS (w : Wallet) (d : Int) : List Claims × List Int := (mine w d).foldl offStep ([], [])
def valsOk (w : Wallet) : Prop := ∀ h ∈ w.Held, h.Copy.Values.length ≤ 1099511627776

theorem known_eq (i : Int) (l : List Claims) (at_ : List Int) (h : Held) (hl : l.length ≤ 100) (hv : h.Copy.Values.length ≤ 1099511627776) :
    ((loopD (F.wallet_Offers_l1 (i, l, at_) h) 0).bind (Sum.elim (fun r13 => some r13) (fun r13 => some (-1)))).bind (fun r14 => some (decide (r14 ≥ (0 : Int)))) = some (l.any (fits h.Copy)) := by
  obtain ⟨r, h1, h2⟩ := loop_nat (step := F.wallet_Offers_l1 (i, l, at_) h) (N := l.length) (I := fun k => ∀ j (hj : j < l.length), j < k → fits h.Copy l[j] = false) (Q := fun r => (∃ k : Nat, r = Sum.inl (k : Int) ∧ l.any (fits h.Copy) = true) ∨ (r = Sum.inr () ∧ l.any (fits h.Copy) = false))
    (fun k hk hi => by
      have ha : inB (k : Int) l.length = true := by simp only [inB, Bool.and_eq_true, decide_eq_true_eq]; exact ⟨by omega, by omega⟩
      unfold F.wallet_Offers_l1
      simp only [ltN, hk, decide_true, br, bd, jn, if_true, ha, Int.toNat_natCast, List.getElem?_eq_getElem hk, Option.bind_some, Equal_int' _ _ (show h.Copy.Values.length ≤ 9223372036854775807 by omega), wrapN k (by omega)]
      by_cases hf : fits h.Copy l[k] = true
      · right
        have hf' := hf
        simp only [fits, Bool.and_eq_true, decide_eq_true_eq] at hf'
        refine ⟨Sum.inl (k : Int), ?_, .inl ⟨k, rfl, List.any_eq_true.2 ⟨_, List.getElem_mem hk, hf⟩⟩⟩
        simp [hf'.1, hf'.2]
      · left
        have hff : fits h.Copy l[k] = false := by simpa using hf
        refine ⟨?_, fun j hj hjk => ?_⟩
        · simp only [fits] at hff
          cases h1 : l[k].Schema == h.Copy.Schema with
          | false => simp [h1]
          | true => simp only [h1, Bool.true_and] at hff; simp [hff]
        · by_cases hjk' : j < k
          · exact hi j hj hjk'
          · obtain rfl : j = k := by omega
            exact hff)
    (fun hi => by
      unfold F.wallet_Offers_l1
      simp only [ltN, Nat.lt_irrefl, decide_false, br, Bool.false_eq_true, if_false]
      refine ⟨_, rfl, .inr ⟨rfl, ?_⟩⟩
      rw [List.any_eq_false]
      intro x hx
      obtain ⟨j, hj, rfl⟩ := List.getElem_of_mem hx
      simp [hi j hj hj]) l.length 0 (by omega) (fun j hj hjk => by omega)
  have h1 : loopD (F.wallet_Offers_l1 (i, l, at_) h) 0 = some r := h1
  rw [h1]
  rcases h2 with ⟨k, rfl, h2⟩ | ⟨rfl, h2⟩
  · simp [h2]
  · simp [h2]

theorem fields_eq (h : Held) (hv : h.Copy.Values.length ≤ 1099511627776) : loopD (F.wallet_Offers_l2 h) (0, []) = some (fieldsOf h.Copy.Values) := by
  have := where_loop h.Copy.Values (fun _ => true) hv (F.wallet_Offers_l2 h)
    (fun k x acc hx ha => by
      have hlt : k < h.Copy.Values.length := by
        rcases Nat.lt_or_ge k h.Copy.Values.length with h | h
        · exact h
        · rw [List.getElem?_eq_none h] at hx; cases hx
      have c2 : ((acc.length + [(k : Int)].length) * 8 ≤ 2 ^ 46 ∧ (acc.length + [(k : Int)].length) ≤ 2 ^ 46) := by rw [List.length_singleton]; omega
      unfold F.wallet_Offers_l2
      simp only [ltN, hlt, decide_true, br, ap, if_true, c2, and_self, wrapN k (by omega)])
    (fun acc => by unfold F.wallet_Offers_l2; simp only [ltN, Nat.lt_irrefl, decide_false, br, Bool.false_eq_true, if_false]) h.Copy.Values.length 0 [] (by omega) (Nat.zero_le _)
  simpa [fieldsOf] using this

theorem eq8 (n : Nat) : ((Int.ofNat n) == 8) = decide (n = 8) := by
  by_cases h : n = 8
  · subst h; rfl
  · have : ¬ (Int.ofNat n = 8) := fun e => h (Int.ofNat.inj e)
    simp [h]
    omega

theorem off_loop (w : Wallet) (prs : List (Nat × Held)) (hp : ∀ x ∈ prs, w.Held[x.1]? = some x.2) (hv : valsOk w) (hn : prs.length ≤ 1099511627776) : ∀ (n k : Nat) (s : List Claims × List Int), n + k = prs.length → s.1.length ≤ 8 → s.2.length = s.1.length →
    loopD (F.wallet_Offers_l3 (ixs prs) w) ((k : Int), s.1, s.2) = some (((prs.drop k).foldl offStep s).2, ((prs.drop k).foldl offStep s).1)
  | 0, k, s, hk, h8, hs => by
    obtain rfl : k = prs.length := by omega
    rw [List.drop_length, List.foldl_nil]
    refine loopD_last ?_
    unfold F.wallet_Offers_l3
    simp only [ixs, List.length_map, ltN, Nat.lt_irrefl, decide_false, br, Bool.false_eq_true, if_false]
  | n + 1, k, s, hk, h8, hs => by
    have hlt : k < prs.length := by omega
    have hmem := List.getElem_mem hlt
    have hh := hp _ hmem
    have hvv : prs[k].2.Copy.Values.length ≤ 1099511627776 := hv _ (List.mem_of_getElem? hh)
    have hi : k < (ixs prs).length := by simpa [ixs] using hlt
    have hget : (ixs prs)[k] = ((prs[k].1 : Nat) : Int) := by simp [ixs]
    have ha : inB (k : Int) (ixs prs).length = true := by simp only [inB, Bool.and_eq_true, decide_eq_true_eq]; exact ⟨by omega, by omega⟩
    have hst : F.wallet_Offers_l3 (ixs prs) w ((k : Int), s.1, s.2) = some (.inl (((k + 1 : Nat) : Int), (offStep s prs[k]).1, (offStep s prs[k]).2)) := by
      have c2 : ((s.1.length + [Claims.mk prs[k].2.Copy.Schema (fieldsOf prs[k].2.Copy.Values) prs[k].2.Copy.Values].length) * 56 ≤ 2 ^ 46 ∧ (s.1.length + [Claims.mk prs[k].2.Copy.Schema (fieldsOf prs[k].2.Copy.Values) prs[k].2.Copy.Values].length) ≤ 2 ^ 46) := by rw [List.length_singleton]; omega
      have c3 : ((s.2.length + [((prs[k].1 : Nat) : Int)].length) * 8 ≤ 2 ^ 46 ∧ (s.2.length + [((prs[k].1 : Nat) : Int)].length) ≤ 2 ^ 46) := by rw [List.length_singleton]; omega
      unfold F.wallet_Offers_l3
      simp only [ltN, hi, decide_true, br, bd, lp, jn, ap, if_true, ha, Int.toNat_natCast, List.getElem?_eq_getElem hi, hget, gi_nat, hh, Option.bind_some, known_eq _ _ _ _ (show s.1.length ≤ 100 by omega) hvv, eq8, fields_eq _ hvv, c2, c3, and_self, wrapN k (by omega), offStep]
      cases s.1.any (fits prs[k].2.Copy) <;> cases h8 : decide (s.1.length = 8) <;> simp
    have hb : (offStep s prs[k]).1.length ≤ 8 ∧ (offStep s prs[k]).2.length = (offStep s prs[k]).1.length := by
      unfold offStep
      split
      · exact ⟨h8, hs⟩
      · rename_i hne
        simp only [Bool.or_eq_true, decide_eq_true_eq, not_or] at hne
        simp only [List.length_append, List.length_singleton]
        omega
    rw [loopD_next hst (off_loop w prs hp hv hn n (k + 1) _ (by omega) hb.1 hb.2), List.drop_eq_getElem_cons hlt, List.foldl_cons]

theorem Offers_eq (w : Wallet) (d : Int) (hn : w.Held.length ≤ 1099511627776) (hv : valsOk w) : F.wallet_Offers w d = some (offS w d) := by
  have hl : (mine w d).length ≤ 1099511627776 := Nat.le_trans (idxF_len _ _ _) hn
  have := off_loop w (mine w d) (fun x hx => by
    obtain ⟨_, _, h3, _⟩ := idxF_mem _ _ _ _ hx
    simpa using h3) hv hl (mine w d).length 0 ([], []) (by omega) (by simp) rfl
  have h0 : loopD (F.wallet_Offers_l3 (ixs (mine w d)) w) (0, [], []) = some ((offS w d).2, (offS w d).1) := by simpa [offS] using this
  unfold F.wallet_Offers
  simp only [lp, jn, Offers_l0_eq w d hn, Option.bind_some]
  have h0' : loopD (F.wallet_Offers_l3 (ixs (idxF (fun h => h.Device == d && h.State == 0) w.Held 0)) w) (0, [], []) = some ((offS w d).2, (offS w d).1) := h0
  rw [h0']
  rfl
end
end Sp
