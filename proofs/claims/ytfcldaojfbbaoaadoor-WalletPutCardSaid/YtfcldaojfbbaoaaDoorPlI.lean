/- Plain law: the reference's comparisons; WalletPut answers true. -/
import Derived.Test.YtfcldaojfbbaoaaDoorPlG
set_option linter.unusedVariables false
set_option linter.unusedSimpArgs false
set_option linter.unnecessarySimpa false
open Go Ev
set_option linter.unusedSimpArgs false
set_option linter.unusedVariables false
set_option maxRecDepth 100000
namespace Sp
noncomputable section
theorem loop_all {step : Int → Option (Int ⊕ (Unit ⊕ Unit))} {N : Nat} (hs : ∀ k : Nat, k < N → step (k : Int) = some (.inl ((k + 1 : Nat) : Int))) (he : step (N : Int) = some (.inr (Sum.inr ()))) : loopD step 0 = some (Sum.inr ()) := by
  obtain ⟨r, h1, h2⟩ := loop_nat (step := step) (N := N) (I := fun _ => True) (Q := fun r => r = Sum.inr ()) (fun k hk _ => .inl ⟨hs k hk, trivial⟩) (fun _ => ⟨_, he, rfl⟩) N 0 (Nat.add_zero _) trivial
  rw [← h2]; exact h1

theorem ref02_Same_eq (a b : List (List Int)) (hn : a.length ≤ 9223372036854775807) : F.testamurref02_Same a b = some (decide (a = b)) := Equal_dig a b hn
theorem ref19_sameInts_eq (a b : List Int) (hn : a.length ≤ 9223372036854775807) : F.testamurref19_sameInts a b = some (decide (a = b)) := Equal_int a b hn

theorem geN (k n : Nat) : decide ((k : Int) ≥ Int.ofNat n) = decide (n ≤ k) := by
  show decide (((n : Nat) : Int) ≤ ((k : Nat) : Int)) = _
  simp

theorem leaf_refl (x : Leaf) (h : V_Leaf x) : F.testamurref06_Same x x = some true := by
  obtain ⟨_, ⟨h1, _⟩, ⟨h2, _⟩⟩ := h
  rw [maxLen_eq] at h1 h2
  unfold F.testamurref06_Same
  simp [br, jn, ref02_Same_eq _ _ h1, ref02_Same_eq _ _ h2]
theorem leaves_refl (l : List Leaf) (hl : l.length ≤ 9223372036854775807) (h : ∀ x ∈ l, V_Leaf x) : F.testamurref19_sameLeaves l l = some true := by
  have hlp : loopD (F.testamurref19_sameLeaves_l0 l l) 0 = some (Sum.inr ()) := loop_all (N := l.length)
    (fun k hk => by
      unfold F.testamurref19_sameLeaves_l0
      simp only [ltN, hk, decide_true, br, bd, jn, if_true, gi_nat, List.getElem?_eq_getElem hk, Option.bind_some, leaf_refl _ (h _ (List.getElem_mem hk)), wrapN k (by omega)])
    (by unfold F.testamurref19_sameLeaves_l0; simp only [ltN, Nat.lt_irrefl, decide_false, br, Bool.false_eq_true, if_false])
  unfold F.testamurref19_sameLeaves
  simp [br, lp, hlp]
theorem copy_refl (x : Copy) (h : V_Copy x) : F.testamurref19_Same x x = some true := by
  obtain ⟨_, _, _, _, _, ⟨h1, _⟩, ⟨h2, _⟩, ⟨h3, h4⟩⟩ := h
  rw [maxLen_eq] at h1 h2 h3
  unfold F.testamurref19_Same
  simp [br, jn, ref02_Same_eq _ _ h2, ref19_sameInts_eq _ _ h1, leaves_refl _ h3 h4]
theorem held_refl (x : Held) (h : V_Held x) : F.testamurref41_SameHeld x x = some true := by
  obtain ⟨h1, ⟨_, h2, _⟩, _, _⟩ := h
  rw [maxLen_eq] at h2
  unfold F.testamurref41_SameHeld
  simp [br, jn, copy_refl _ h1, ref02_Same_eq _ _ h2]
theorem wallet_refl (x : Wallet) (hl : x.Held.length ≤ 9223372036854775807) (h : ∀ y ∈ x.Held, V_Held y) : F.testamurref41_Same x x = some true := by
  have hlp : loopD (F.testamurref41_Same_l0 x x) 0 = some (Sum.inr ()) := loop_all (N := x.Held.length)
    (fun k hk => by
      unfold F.testamurref41_Same_l0
      simp only [ltN, hk, decide_true, br, bd, jn, if_true, gi_nat, List.getElem?_eq_getElem hk, Option.bind_some, held_refl _ (h _ (List.getElem_mem hk)), wrapN k (by omega)])
    (by unfold F.testamurref41_Same_l0; simp only [ltN, Nat.lt_irrefl, decide_false, br, Bool.false_eq_true, if_false])
  unfold F.testamurref41_Same
  simp [br, jn, lp, hlp]

theorem anyBad_append (f : List (List Int)) : ∀ (l1 l2 : List Held) (m : List (Place × Bool)), anyBad f (l1 ++ l2) m = false → anyBad f l1 m = false
  | [], _, _, _ => rfl
  | h :: l1, l2, m, e => by
    simp only [List.cons_append, anyBad, Bool.or_eq_false_iff] at e ⊢
    exact ⟨e.1, anyBad_append f l1 l2 _ e.2⟩

theorem chk_zero (w : Wallet) : chk w = 0 ↔ (decide (0 ≤ w.Person) && decide (w.Person ≤ 4095)) = true ∧ (decide (0 ≤ w.Link) && decide (w.Link ≤ 4)) = true ∧ w.Held.length ≤ 256 ∧ anyBad (firstLinks w) w.Held [] = false := by
  unfold chk
  cases (decide (0 ≤ w.Person) && decide (w.Person ≤ 4095)) <;> cases (decide (0 ≤ w.Link) && decide (w.Link ≤ 4)) <;> cases h : anyBad (firstLinks w) w.Held [] <;> simp

theorem chk_mono (p l : Int) (a b : List Held) (h : chk (Wallet.mk p l (a ++ b)) = 0) : chk (Wallet.mk p l a) = 0 := by
  rw [chk_zero] at h ⊢
  obtain ⟨h1, h2, h3, h4⟩ := h
  simp only [List.length_append] at h3
  refine ⟨h1, h2, by simp only; omega, ?_⟩
  cases a with
  | nil => rfl
  | cons x a =>
    have hf : firstLinks (Wallet.mk p l ((x :: a) ++ b)) = firstLinks (Wallet.mk p l (x :: a)) := rfl
    rw [hf] at h4
    exact anyBad_append _ _ _ _ h4

theorem zip_split {α β : Type} : ∀ (k : Nat) (c : List α) (s : List β), (c.take k).zip (s.take k) ++ (c.drop k).zip (s.drop k) = c.zip s
  | 0, c, s => by simp
  | k + 1, [], s => by simp
  | k + 1, c, [] => by simp
  | k + 1, a :: c, b :: s => by simp [zip_split k c s]
theorem u8b {n : Int} (h : (Go.Lit.int .u8 n).wf = true) : 0 ≤ n ∧ n ≤ 255 := by
  simp [Go.Lit.wf, Go.IntKind.min, Go.IntKind.max, Go.IntKind.signed, Go.IntKind.bits] at h
  omega
theorem putH_split (c : List Copy) (s : List Secret) (d : Int) (k : Nat) : putH (c.take k) (s.take k) d ++ putH (c.drop k) (s.drop k) d = putH c s d := by
  unfold putH
  rw [← List.map_append]
  congr 1
  exact zip_split k c s

theorem plain6 (w : Wallet) (hw : V_Wallet w) (c : List Copy) (hc : c.length ≤ Go.maxLen ∧ ∀ y ∈ c, V_Copy y) (s : List Secret) (hs : s.length ≤ Go.maxLen ∧ ∀ y ∈ s, V_Secret y) (d : Int) (hd : (Go.Lit.int .i64 d).wf = true) (a : Int) (ha : (Go.Lit.int .u8 a).wf = true) :
    F.testamurlaw41_WalletPut w c s d a = some true := by
  obtain ⟨ha0, ha1⟩ := u8b ha
  obtain ⟨b, hb, hfew⟩ := Few_tot w hw
  have e4c : decide (Int.ofNat c.length > 4) = decide (4 < c.length) := gtN c.length 4
  have e4s : decide (Int.ofNat s.length > 4) = decide (4 < s.length) := gtN s.length 4
  unfold F.testamurlaw41_WalletPut
  simp only [jn, sane_true, Option.bind_some, hb, e4c, e4s, bne_len]
  cases b with
  | false => rfl
  | true =>
  have hf := hfew rfl
  have h12 := hf.1
  by_cases hc4 : 4 < c.length
  · simp [br, hc4]
  by_cases hs4 : 4 < s.length
  · simp [br, hc4, hs4]
  by_cases hcs : c.length = s.length
  case neg => simp [br, hc4, hs4, hcs]
  simp only [br, if_true, hc4, hs4, hcs, decide_false, Bool.false_eq_true, if_false, ne_eq, not_true_eq_false, Option.bind_some]
  -- the copies are few
  obtain ⟨r, hl0, hr⟩ := loop_nat (step := F.testamurlaw41_WalletPut_l0 c) (N := c.length) (I := fun _ => True) (Q := fun _ => True)
    (fun k hk _ => by
      have hv := hc.2 _ (List.getElem_mem hk)
      obtain ⟨b, hb, _⟩ := FewCopy_tot c[k] (by have := hv.2.2.2.2.2.2.2.1; rwa [maxLen_eq] at this)
      unfold F.testamurlaw41_WalletPut_l0
      simp only [ltN, hk, decide_true, br, bd, jn, if_true, gi_nat, List.getElem?_eq_getElem hk, Option.bind_some, hb, wrapN k (by omega)]
      cases b <;> simp)
    (fun _ => by
      unfold F.testamurlaw41_WalletPut_l0
      simp only [ltN, Nat.lt_irrefl, decide_false, br, Bool.false_eq_true, if_false]
      exact ⟨_, rfl, trivial⟩) c.length 0 (by omega) trivial
  have hl0 : loopD (F.testamurlaw41_WalletPut_l0 c) 0 = some r := hl0
  simp only [lp, hl0, Option.bind_some]
  cases r with
  | inl u => rfl
  | inr u =>
  simp only [Sum.elim_inr]
  -- the number of copies in the first part
  have hn1 : Go.IntKind.wrap .i64 (Int.ofNat s.length + 1) = ((s.length + 1 : Nat) : Int) := wrapN s.length (by omega)
  have hwa : Go.IntKind.wrap .i64 a = a := wrap_i64 _ ha0 (by omega)
  obtain ⟨k, hk, hkn⟩ : ∃ k : Nat, Int.tmod a ((s.length + 1 : Nat) : Int) = (k : Int) ∧ k ≤ s.length := by
    refine ⟨a.toNat % (s.length + 1), ?_, by have := Nat.mod_lt a.toNat (show 0 < s.length + 1 by omega); omega⟩
    obtain ⟨m, rfl⟩ := Int.eq_ofNat_of_zero_le ha0
    rw [Int.toNat_natCast]
    exact (Int.ofNat_tmod m (s.length + 1)).symm
  have hz1 : (((s.length + 1 : Nat) : Int) == 0) = false := by rw [beq_eq_false_iff_ne]; omega
  have hk1 : decide ((0 : Int) ≤ 0 ∧ 0 ≤ (k : Int) ∧ (k : Int) ≤ Int.ofNat s.length) = true := by
    rw [decide_eq_true_eq]; exact ⟨Int.le_refl _, by omega, by show (k : Int) ≤ ((s.length : Nat) : Int); omega⟩
  have hk2 : decide (0 ≤ (k : Int) ∧ (k : Int) ≤ Int.ofNat s.length ∧ Int.ofNat s.length ≤ Int.ofNat s.length) = true := by
    rw [decide_eq_true_eq]; exact ⟨by omega, by show (k : Int) ≤ ((s.length : Nat) : Int); omega, Int.le_refl _⟩
  have hlw : linksOk w := fun h hh => by have := (hf.2 h hh).2.1; omega
  have hlc : ∀ x ∈ c, x.Links.length ≤ 9223372036854775807 := fun x hx => by have := (hc.2 x hx).2.2.2.2.2.2.1.1; rwa [maxLen_eq] at this
  have hP := Put_eq w c s d (by omega) (by omega) hlw hlc
  have hP1 := Put_eq w (c.take k) (s.take k) d (by omega) (by simp; omega) hlw (fun x hx => hlc x (List.mem_of_mem_take hx))
  simp only [hn1, hwa, hk, hz1, hk1, hk2, Bool.false_eq_true, if_false, if_true, Int.toNat_natCast, hP, hP1, Option.bind_some]
  have hlen1 : (c.take k).length = (s.take k).length := by simp; omega
  have hlen2 : (c.drop k).length = (s.drop k).length := by simp; omega
  -- the wallet with the first part
  have hX : putX (putX w (c.take k) (s.take k) d) (c.drop k) (s.drop k) d = putX w c s d := by
    simp only [putX, List.append_assoc, putH_split]
  have hlz : linksOk zeroW := fun h hh => by simp [zeroW] at hh
  have hlY : linksOk (putX w (c.take k) (s.take k) d) := by
    intro h hh
    rcases List.mem_append.1 hh with hh | hh
    · exact hlw h hh
    · obtain ⟨⟨x, y⟩, hx, rfl⟩ := List.mem_map.1 hh
      exact hlc x (List.mem_of_mem_take (List.of_mem_zip hx).1)
  have hYlen : (putX w (c.take k) (s.take k) d).Held.length ≤ 1000000000 := by
    simp only [putX, putH, List.length_append, List.length_map, List.length_zip, List.length_take]; omega
  have hPz := Put_eq zeroW (c.drop k) (s.drop k) d (by decide) (by simp; omega) hlz (fun x hx => hlc x (List.mem_of_mem_drop hx))
  have hPY := Put_eq (putX w (c.take k) (s.take k) d) (c.drop k) (s.drop k) d hYlen (by simp; omega) hlY (fun x hx => hlc x (List.mem_of_mem_drop hx))
  by_cases hw0 : chk w = 0
  case neg =>
    have e1 : putS w c s d = (zeroW, chk w) := by simp [putS, hw0]
    have e2 : putS w (c.take k) (s.take k) d = (zeroW, chk w) := by simp [putS, hw0]
    have e3 : (chk w != 0) = true := by simp [hw0]
    simp only [e1, e2, hPz, Option.bind_some, e3, if_true]
    rfl
  by_cases hX0 : chk (putX w c s d) = 0
  case neg =>
    have e1 : putS w c s d = (zeroW, chk (putX w c s d)) := by simp [putS, hw0, hcs, hX0]
    have e3 : (chk (putX w c s d) != 0) = true := by simp [hX0]
    by_cases hY0 : chk (putX w (c.take k) (s.take k) d) = 0
    · have e2 : putS w (c.take k) (s.take k) d = (putX w (c.take k) (s.take k) d, 0) := by simp [putS, hw0, hlen1, hY0]
      have e4 : putS (putX w (c.take k) (s.take k) d) (c.drop k) (s.drop k) d = (zeroW, chk (putX w c s d)) := by simp only [putS, hY0, hlen2, hX]; simp [hX0]
      simp only [e1, e2, hPY, e4, Option.bind_some, e3, if_true]
      rfl
    · have e2 : putS w (c.take k) (s.take k) d = (zeroW, chk (putX w (c.take k) (s.take k) d)) := by simp [putS, hw0, hlen1, hY0]
      have e4 : (chk (putX w (c.take k) (s.take k) d) != 0) = true := by simp [hY0]
      simp only [e1, e2, hPz, Option.bind_some, e3, e4, if_true]
      rfl
  -- all is well
  have hY0 : chk (putX w (c.take k) (s.take k) d) = 0 := by
    have : putX w c s d = Wallet.mk w.Person w.Link ((w.Held ++ putH (c.take k) (s.take k) d) ++ putH (c.drop k) (s.drop k) d) := by
      rw [← hX]; rfl
    rw [this] at hX0
    exact chk_mono _ _ _ _ hX0
  have e1 : putS w c s d = (putX w c s d, 0) := by simp [putS, hw0, hcs, hX0]
  have e2 : putS w (c.take k) (s.take k) d = (putX w (c.take k) (s.take k) d, 0) := by simp [putS, hw0, hlen1, hY0]
  have e4 : putS (putX w (c.take k) (s.take k) d) (c.drop k) (s.drop k) d = (putX w c s d, 0) := by simp only [putS, hY0, hlen2, hX]; simp [hX0]
  have hXlen : (putX w c s d).Held.length = w.Held.length + s.length := by
    simp only [putX, putH, List.length_append, List.length_map, List.length_zip, hcs, Nat.min_self]
  have hlX : linksOk (putX w c s d) := by
    intro h hh
    rcases List.mem_append.1 hh with hh | hh
    · exact hlw h hh
    · obtain ⟨⟨x, y⟩, hx, rfl⟩ := List.mem_map.1 hh
      exact hlc x (List.of_mem_zip hx).1
  have hVX : ∀ y ∈ (putX w c s d).Held, V_Held y := by
    intro h hh
    rcases List.mem_append.1 hh with hh | hh
    · exact hw.2.2.2 h hh
    · obtain ⟨⟨x, y⟩, hx, rfl⟩ := List.mem_map.1 hh
      exact ⟨hc.2 x (List.of_mem_zip hx).1, hs.2 y (List.of_mem_zip hx).2, hd, (show (Go.Lit.int .i64 0).wf = true by decide)⟩
  have hsame := wallet_refl (putX w c s d) (by omega) hVX
  have hchk := Check_eq (putX w c s d) (by omega) hlX
  rw [hX0] at hchk
  have hwl : (Int.ofNat (putX w c s d).Held.length != Go.IntKind.wrap .i64 (Int.ofNat w.Held.length + Int.ofNat s.length)) = false := by
    have : Go.IntKind.wrap .i64 (Int.ofNat w.Held.length + Int.ofNat s.length) = Int.ofNat (putX w c s d).Held.length := by
      show Go.IntKind.wrap .i64 (((w.Held.length : Nat) : Int) + ((s.length : Nat) : Int)) = (((putX w c s d).Held.length : Nat) : Int)
      rw [wrap_i64 _ (by omega) (by omega), hXlen]; omega
    rw [this]; simp
  have hlast : loopD (F.testamurlaw41_WalletPut_l1 (putX w c s d, 0) w d c) 0 = some (Sum.inr ()) := loop_all (N := (putX w c s d).Held.length)
    (fun i hi => by
      have hmem := List.getElem_mem hi
      have hget : (putX w c s d).Held[i]? = some (putX w c s d).Held[i] := by simp [hi]
      unfold F.testamurlaw41_WalletPut_l1
      simp only [ltN, geN, hi, decide_true, bd, jn, gi_nat, hget, Option.bind_some, wrapN i (by omega)]
      by_cases hiw : i < w.Held.length
      · have hgw : w.Held[i]? = some (putX w c s d).Held[i] := by
          rw [← hget]; show _ = (w.Held ++ putH c s d)[i]?
          rw [List.getElem?_append_left hiw]
        have hge : ¬ w.Held.length ≤ i := by omega
        simp only [br, hiw, hge, hgw, decide_true, decide_false, if_true, Option.bind_some, held_refl _ (hVX _ hmem), Bool.not_true, Bool.false_eq_true, if_false]
      · have hge : w.Held.length ≤ i := by omega
        have hi2 : i - w.Held.length < c.length := by omega
        have hi3 : i - w.Held.length < s.length := by omega
        have hel : (putX w c s d).Held[i] = Held.mk c[i - w.Held.length] s[i - w.Held.length] d 0 := by
          have : (w.Held ++ putH c s d)[i]? = some (Held.mk c[i - w.Held.length] s[i - w.Held.length] d 0) := by
            rw [List.getElem?_append_right (by omega)]
            simp [putH, List.getElem?_zip_eq_some, hi2, hi3]
          have h2 : (w.Held ++ putH c s d)[i]? = some (putX w c s d).Held[i] := hget
          rw [h2] at this; exact Option.some.inj this
        have hwi : Go.IntKind.wrap .i64 ((i : Int) - Int.ofNat w.Held.length) = ((i - w.Held.length : Nat) : Int) := by
          show Go.IntKind.wrap .i64 ((i : Int) - ((w.Held.length : Nat) : Int)) = _
          rw [wrap_i64 _ (by omega) (by omega)]; omega
        simp only [br, hiw, hge, hel, hwi, gi_nat, List.getElem?_eq_getElem hi2, decide_true, decide_false, if_true, Option.bind_some, bne_self_eq_false, Bool.false_eq_true, if_false])
    (by unfold F.testamurlaw41_WalletPut_l1; simp only [ltN, Nat.lt_irrefl, decide_false, br, Bool.false_eq_true, if_false])
  have e5 : ((putX w c s d).Link != w.Link) = false := by simp [putX]
  have e6 : ((putX w c s d).Person != w.Person) = false := by simp [putX]
  simp only [e1, e2, hPY, e4, Option.bind_some, bne_self_eq_false, Bool.false_eq_true, if_false, hsame, if_true, hwl, hchk, e5, e6, hlast, Sum.elim_inr]
end
end Sp
