/- Plain law: WalletOffers answers true. -/
import Derived.Test.YtfcldaojfbbaoaaDoorPlG
set_option linter.unusedVariables false
set_option linter.unusedSimpArgs false
set_option linter.unnecessarySimpa false
open Go Ev
set_option linter.unusedSimpArgs false
set_option linter.unusedVariables false
set_option maxRecDepth 100000
namespace Sp
noncomputable section
theorem fieldsOf_len (v : List Int) : (fieldsOf v).length = v.length := by
  have key : ∀ (l : List Int) (k : Nat), (idxF (fun _ => true) l k).length = l.length := by
    intro l
    induction l with
    | nil => intro k; rfl
    | cons x l ih => intro k; simp [idxF, ih]
  simp [fieldsOf, ixs, key]
theorem fieldsOf_get (v : List Int) (k : Nat) (hk : k < v.length) : (fieldsOf v)[k]? = some (k : Int) := by
  have key : ∀ (l : List Int) (o j : Nat), j < l.length → (ixs (idxF (fun _ => true) l o))[j]? = some ((o + j : Nat) : Int) := by
    intro l
    induction l with
    | nil => intro o j hj; simp at hj
    | cons x l ih =>
      intro o j hj
      cases j with
      | zero => simp [idxF, ixs]
      | succ j =>
        have := ih (o + 1) j (by simpa using hj)
        simp only [idxF, if_true, ixs, List.map_cons, List.getElem?_cons_succ]
        rw [show o + (j + 1) = o + 1 + j from by omega]
        exact this
  have := key v 0 k hk
  simpa [fieldsOf] using this

theorem wo_l0 (x : Nat × Held) (hv : x.2.Copy.Values.length ≤ 12) : loopD (F.testamurlaw41_WalletOffers_l0 (claimOf x)) 0 = some (Sum.inr ()) := by
  have hlen : (claimOf x).Fields.length = x.2.Copy.Values.length := fieldsOf_len _
  obtain ⟨r, h1, h2⟩ := loop_nat (step := F.testamurlaw41_WalletOffers_l0 (claimOf x)) (N := (claimOf x).Fields.length) (I := fun _ => True) (Q := fun r => r = Sum.inr ())
    (fun k hk _ => by
      have hg : (claimOf x).Fields[k]? = some (k : Int) := fieldsOf_get _ k (by omega)
      left
      refine ⟨?_, trivial⟩
      unfold F.testamurlaw41_WalletOffers_l0
      simp only [ltN, hk, decide_true, br, bd, if_true, gi_nat, hg, Option.bind_some, wrapN k (by omega), bne_self_eq_false, Bool.false_eq_true, if_false])
    (fun _ => by
      refine ⟨Sum.inr (), ?_, rfl⟩
      unfold F.testamurlaw41_WalletOffers_l0
      simp only [ltN, Nat.lt_irrefl, decide_false, br, Bool.false_eq_true, if_false]) _ 0 (Nat.add_zero _) trivial
  rw [← h2]; exact h1

theorem wo_l1 (w : Wallet) (d : Int) (hf : FewW w) (s : List (Nat × Held)) (hm : ∀ x ∈ s, x ∈ mine w d) (hi : s.Pairwise (fun a b => a.1 < b.1)) (hs : s.length ≤ 8) :
    loopD (F.testamurlaw41_WalletOffers_l1 (s.map claimOf, ixs s) w d) 0 = some (Sum.inr ()) := by
  obtain ⟨r, h1, h2⟩ := loop_nat (step := F.testamurlaw41_WalletOffers_l1 (s.map claimOf, ixs s) w d) (N := (ixs s).length) (I := fun _ => True) (Q := fun r => r = Sum.inr ())
    (fun k hk _ => by
      have hks : k < s.length := by simpa [ixs] using hk
      have hmem := List.getElem_mem hks
      obtain ⟨g1, g2, g3, g4⟩ := mine_mem w d _ (hm _ hmem)
      have hfew := hf.2 _ (List.mem_of_getElem? g2)
      have hget : (ixs s)[k]? = some ((s[k].1 : Nat) : Int) := by simp [ixs, hks]
      have hcl : (s.map claimOf)[k]? = some (claimOf s[k]) := by simp [hks]
      have hsame : F.testamurref41_SameInts (claimOf s[k]).Values s[k].2.Copy.Values = some true := by
        rw [SameInts_eq _ _ (by show s[k].2.Copy.Values.length ≤ _; have := hfew.1; omega)]
        exact congrArg some (decide_eq_true rfl)
      have n1 : decide (((s[k].1 : Nat) : Int) < 0) = false := by rw [decide_eq_false_iff_not]; omega
      have n2 : decide (((s[k].1 : Nat) : Int) ≥ Int.ofNat w.Held.length) = false := by
        rw [decide_eq_false_iff_not]
        show ¬ ((w.Held.length : Nat) : Int) ≤ ((s[k].1 : Nat) : Int)
        omega
      have prev : (br (decide ((k : Int) > 0)) (bd (gi (ixs s) (Go.IntKind.wrap .i64 ((k : Int) - 1))) fun y7 => some (decide (y7 ≥ ((s[k].1 : Nat) : Int)))) (some false) : Option Bool) = some false := by
        by_cases hk0 : 0 < k
        · have w1 : Go.IntKind.wrap .i64 ((k : Int) - 1) = ((k - 1 : Nat) : Int) := by rw [wrap_i64 _ (by omega) (by omega)]; omega
          have hp : (ixs s)[k - 1]? = some ((s[k - 1].1 : Nat) : Int) := by simp [ixs, show k - 1 < s.length by omega]
          have hlt : s[k - 1].1 < s[k].1 := (List.pairwise_iff_getElem.1 hi) (k - 1) k (by omega) hks (by omega)
          have c1 : decide ((k : Int) > 0) = true := by rw [decide_eq_true_eq]; omega
          have c2 : decide (((s[k - 1].1 : Nat) : Int) ≥ ((s[k].1 : Nat) : Int)) = false := by rw [decide_eq_false_iff_not]; omega
          simp only [br, bd, c1, if_true, w1, gi_nat, hp, Option.bind_some, c2]
        · have c1 : decide ((k : Int) > 0) = false := by rw [decide_eq_false_iff_not]; omega
          simp only [br, c1, Bool.false_eq_true, if_false]
      have e1 : (s[k].2.Device != d) = false := by simp [g3]
      have e2 : (s[k].2.State != 0) = false := by simp [g4]
      have e3 : ((claimOf s[k]).Schema != s[k].2.Copy.Schema) = false := by simp [claimOf]
      have e4 : (Int.ofNat (claimOf s[k]).Fields.length != Int.ofNat (claimOf s[k]).Values.length) = false := by
        rw [bne_len]; simp [claimOf, fieldsOf_len]
      left
      refine ⟨?_, trivial⟩
      unfold F.testamurlaw41_WalletOffers_l1
      simp only [ltN, hk, decide_true, bd, jn, lp, gi_nat, hget, hcl, Option.bind_some, n1, n2, g2, e1, e2, e3, e4, hsame, wo_l0 _ hfew.1, wrapN k (by omega)]
      simp only [bd, gi_nat] at prev
      rw [prev]
      simp only [br, if_true, Bool.false_eq_true, if_false, Option.bind_some, Sum.elim_inr])
    (fun _ => by
      unfold F.testamurlaw41_WalletOffers_l1
      simp only [ltN, Nat.lt_irrefl, decide_false, br, Bool.false_eq_true, if_false]
      exact ⟨_, rfl, rfl⟩) _ 0 (Nat.add_zero _) trivial
  rw [← h2]; exact h1

/-- How often the copy is among the offers, and whether before. -/
theorem wo_l2 (s : List (Nat × Held)) (hs : s.length ≤ 8) (hf : ∀ x ∈ s, x.2.Copy.Values.length ≤ 12) (hd : s.Pairwise (fun a b => sameK a b = false)) (n : Nat) (h : Held) :
    ∃ met before, loopD (F.testamurlaw41_WalletOffers_l2 (s.map claimOf, ixs s) h (n : Int)) (0, false, 0) = some (met, before) ∧
      ((met = 0 ∧ ∀ y ∈ s, sameK y (n, h) = false) ∨ (met = 1 ∧ ∃ y ∈ s, sameK y (n, h) = true ∧ before = decide (y.1 ≤ n) ∧ ∀ z ∈ s, sameK z (n, h) = true → z = y)) := by
  obtain ⟨⟨met, before⟩, h1, h2⟩ := loop_for (step := F.testamurlaw41_WalletOffers_l2 (s.map claimOf, ixs s) h (n : Int)) (N := s.length)
    (I := fun k x => (x.2 = 0 ∧ x.1 = false ∧ ∀ j (hj : j < s.length), j < k → sameK s[j] (n, h) = false) ∨ (x.2 = 1 ∧ ∃ j, ∃ hj : j < s.length, j < k ∧ sameK s[j] (n, h) = true ∧ x.1 = decide (s[j].1 ≤ n)))
    (Q := fun r => (r.1 = 0 ∧ ∀ y ∈ s, sameK y (n, h) = false) ∨ (r.1 = 1 ∧ ∃ y ∈ s, sameK y (n, h) = true ∧ r.2 = decide (y.1 ≤ n) ∧ ∀ z ∈ s, sameK z (n, h) = true → z = y))
    (fun k x hk hi => by
      obtain ⟨b, m⟩ := x
      simp only at hi
      have hmem := List.getElem_mem hk
      have hget : (ixs s)[k]? = some ((s[k].1 : Nat) : Int) := by simp [ixs, hk]
      have hcl : (s.map claimOf)[k]? = some (claimOf s[k]) := by simp [hk]
      have hlen : (s.map claimOf).length = s.length := by simp
      have hsame : F.testamurref41_SameInts (claimOf s[k]).Values h.Copy.Values = some (decide (s[k].2.Copy.Values = h.Copy.Values)) := by
        rw [SameInts_eq _ _ (by show s[k].2.Copy.Values.length ≤ _; have := hf _ hmem; omega)]
        rfl
      by_cases hsk : sameK s[k] (n, h) = true
      · have hm0 : m = 0 := by
          rcases hi with ⟨h0, _⟩ | ⟨_, j, hj, hjk, hjs, _⟩
          · exact h0
          · exfalso
            have := (List.pairwise_iff_getElem.1 hd) j k hj hk hjk
            simp only [sameK, Bool.and_eq_true, decide_eq_true_eq, beq_iff_eq] at hjs hsk
            simp [sameK, hjs.1, hjs.2, hsk.1, hsk.2] at this
        have hw : Go.IntKind.wrap .i64 (m + 1) = 1 := by rw [hm0]; decide
        have hs2 := hsk
        simp only [sameK, Bool.and_eq_true, decide_eq_true_eq] at hs2
        refine ⟨(decide (((s[k].1 : Nat) : Int) ≤ (n : Int)), 1), ?_, .inr ⟨rfl, k, hk, by omega, hsk, by simp⟩⟩
        unfold F.testamurlaw41_WalletOffers_l2
        have e1 : ((claimOf s[k]).Schema == h.Copy.Schema) = true := hs2.1
        simp only [hlen, ltN, hk, decide_true, br, bd, jn, if_true, gi_nat, hget, hcl, Option.bind_some, e1, hsame, hs2.2, wrapN k (by omega), hw]
      · refine ⟨(b, m), ?_, ?_⟩
        · unfold F.testamurlaw41_WalletOffers_l2
          simp only [hlen, ltN, hk, decide_true, br, bd, jn, if_true, gi_nat, hget, hcl, Option.bind_some, hsame, wrapN k (by omega)]
          have hsf : sameK s[k] (n, h) = false := by simpa using hsk
          simp only [sameK] at hsf
          show ((if (s[k].2.Copy.Schema == h.Copy.Schema) = true then some (decide (s[k].2.Copy.Values = h.Copy.Values)) else some false).bind _) = _
          cases e : s[k].2.Copy.Schema == h.Copy.Schema with
          | false => simp
          | true => simp only [e, Bool.true_and] at hsf; simp [hsf]
        · rcases hi with ⟨h0, h00, h3⟩ | ⟨h0, j, hj, hjk, hjs, hjb⟩
          · refine .inl ⟨h0, h00, fun j hj hjk => ?_⟩
            by_cases hjk' : j < k
            · exact h3 j hj hjk'
            · obtain rfl : j = k := by omega
              simpa using hsk
          · exact .inr ⟨h0, j, hj, by omega, hjs, hjb⟩)
    (fun x hi => by
      obtain ⟨b, m⟩ := x
      simp only at hi
      have hlen : (s.map claimOf).length = s.length := by simp
      refine ⟨(m, b), ?_, ?_⟩
      · unfold F.testamurlaw41_WalletOffers_l2
        simp only [hlen, ltN, Nat.lt_irrefl, decide_false, br, Bool.false_eq_true, if_false]
      · rcases hi with ⟨h0, _, h3⟩ | ⟨h0, j, hj, hjk, hjs, hjb⟩
        · refine .inl ⟨h0, fun y hy => ?_⟩
          obtain ⟨j, hj, rfl⟩ := List.getElem_of_mem hy
          exact h3 j hj hj
        · refine .inr ⟨h0, s[j], List.getElem_mem hj, hjs, hjb, fun z hz hzs => ?_⟩
          obtain ⟨i, hi, rfl⟩ := List.getElem_of_mem hz
          rcases Nat.lt_trichotomy i j with hlt | heq | hgt
          · exfalso
            have := (List.pairwise_iff_getElem.1 hd) i j hi hj hlt
            simp only [sameK, Bool.and_eq_true, decide_eq_true_eq, beq_iff_eq] at hjs hzs
            simp [sameK, hjs.1, hjs.2, hzs.1, hzs.2] at this
          · subst heq; rfl
          · exfalso
            have := (List.pairwise_iff_getElem.1 hd) j i hj hi hgt
            simp only [sameK, Bool.and_eq_true, decide_eq_true_eq, beq_iff_eq] at hjs hzs
            simp [sameK, hjs.1, hjs.2, hzs.1, hzs.2] at this) s.length 0 (false, 0) (by omega) (.inl ⟨rfl, rfl, fun j hj hjk => by omega⟩)
  exact ⟨met, before, h1, h2⟩

theorem wo_l3 (w : Wallet) (d : Int) (hf : FewW w) (s : List (Nat × Held)) (hinv : SelInv (mine w d) s) :
    loopD (F.testamurlaw41_WalletOffers_l3 w d (s.map claimOf, ixs s)) 0 = some (Sum.inr ()) := by
  have hfs : ∀ x ∈ s, x.2.Copy.Values.length ≤ 12 := fun x hx => by
    obtain ⟨_, g2, _⟩ := mine_mem w d x (hinv.sub x hx)
    exact (hf.2 _ (List.mem_of_getElem? g2)).1
  have h12 := hf.1
  obtain ⟨r, h1, h2⟩ := loop_nat (step := F.testamurlaw41_WalletOffers_l3 w d (s.map claimOf, ixs s)) (N := w.Held.length) (I := fun _ => True) (Q := fun r => r = Sum.inr ())
    (fun k hk _ => by
      left
      refine ⟨?_, trivial⟩
      have hkk : w.Held[k]? = some w.Held[k] := by simp [hk]
      obtain ⟨met, before, hl2, hcase⟩ := wo_l2 s hinv.len hfs hinv.dist k w.Held[k]
      unfold F.testamurlaw41_WalletOffers_l3
      simp only [ltN, hk, decide_true, bd, jn, lp, gi_nat, hkk, Option.bind_some, hl2, wrapN k (by omega)]
      by_cases hd : w.Held[k].Device = d
      · by_cases hs0 : w.Held[k].State = 0
        · have e1 : (w.Held[k].Device != d) = false := by simp [hd]
          have e2 : (w.Held[k].State != 0) = false := by simp [hs0]
          have hin := mem_mine w d k _ hkk hd hs0
          have hall := hinv.all _ hin
          rcases hcase with ⟨h0, hno⟩ | ⟨h0, y, hy, hys, hb, huniq⟩
          · subst h0
            have h8 : s.length = 8 := by
              rcases hall with ⟨y, hy, hys, _⟩ | ⟨h8, _⟩
              · rw [hno y hy] at hys; cases hys
              · exact h8
            simp [br, e1, e2, h8]
          · subst h0
            have hbt : before = true := by
              rcases hall with ⟨z, hz, hzs, hzle⟩ | ⟨_, hno⟩
              · have := huniq z hz hzs
                subst this
                rw [hb]; simpa using hzle
              · rw [hno y hy] at hys; cases hys
            simp [br, e1, e2, hbt]
        · have e1 : (w.Held[k].Device != d) = false := by simp [hd]
          have e2 : (w.Held[k].State != 0) = true := by simp [hs0]
          simp [br, e1, e2]
      · have e1 : (w.Held[k].Device != d) = true := by simp [hd]
        simp [br, e1])
    (fun _ => by
      unfold F.testamurlaw41_WalletOffers_l3
      simp only [ltN, Nat.lt_irrefl, decide_false, br, Bool.false_eq_true, if_false]
      exact ⟨_, rfl, rfl⟩) _ 0 (Nat.add_zero _) trivial
  rw [← h2]; exact h1

theorem plain5 (w : Wallet) (hw : V_Wallet w) (d : Int) (hd : (Go.Lit.int .i64 d).wf = true) : F.testamurlaw41_WalletOffers w d = some true := by
  obtain ⟨b, hb, hfew⟩ := Few_tot w hw
  unfold F.testamurlaw41_WalletOffers
  simp only [jn, sane_true, Option.bind_some, hb, br, if_true]
  cases b with
  | false => rfl
  | true =>
    have hf := hfew rfl
    have hv : valsOk w := fun h hh => by have := (hf.2 h hh).1; omega
    have h12 := hf.1
    have hinv := sel_ok w d
    have h8 := hinv.len
    have hl1 := wo_l1 w d hf (sel w d) hinv.sub hinv.inc hinv.len
    have hl3 := wo_l3 w d hf (sel w d) hinv
    rw [Offers_eq w d (by omega) hv, offS_sel]
    have e1 : (Int.ofNat ((sel w d).map claimOf).length != Int.ofNat (ixs (sel w d)).length) = false := by rw [bne_len]; simp [ixs]
    have e2 : decide (Int.ofNat ((sel w d).map claimOf).length > 8) = false := by
      have := gtN ((sel w d).map claimOf).length 8
      rw [show decide (Int.ofNat ((sel w d).map claimOf).length > 8) = _ from this]
      simp; omega
    simp only [if_true, Option.bind_some, e1, e2, Bool.false_eq_true, if_false, lp, hl1, hl3, Sum.elim_inr]
end
end Sp
