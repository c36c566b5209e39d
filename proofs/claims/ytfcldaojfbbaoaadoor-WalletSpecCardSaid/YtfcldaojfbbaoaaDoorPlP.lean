/- Plain law: the reference's Offers, Supersede, Left and Put; WalletSpec and WalletPutSpec answer true. -/
import Derived.Test.YtfcldaojfbbaoaaDoorPlO
set_option linter.unusedVariables false
set_option linter.unusedSimpArgs false
set_option linter.unnecessarySimpa false
open Go Ev
set_option linter.unusedSimpArgs false
set_option linter.unusedVariables false
set_option maxRecDepth 100000
namespace Sp
noncomputable section
/-! Offers -/
theorem offStep8 : ∀ (l : List (Nat × Held)) (s : List Claims × List Int), s.1.length = 8 → l.foldl offStep s = s
  | [], s, _ => rfl
  | x :: l, s, h => by
    rw [List.foldl_cons]
    have : offStep s x = s := by unfold offStep; simp [h]
    rw [this]; exact offStep8 l s h
theorem ref_known (i : Int) (l : List Claims) (at_ : List Int) (h : Held) (hl : l.length ≤ 100) (hv : ∀ c ∈ l, c.Values.length ≤ 9223372036854775807) : ∀ (n k : Nat) (b : Bool), n + k = l.length →
    loopD (F.testamurref41_Offers_l0 (i, l, at_) h) ((k : Int), b) = some (b || (l.drop k).any (fits h.Copy))
  | 0, k, b, hk => by
    obtain rfl : k = l.length := by omega
    refine loopD_last ?_
    unfold F.testamurref41_Offers_l0
    simp only [ltN, Nat.lt_irrefl, decide_false, br, Bool.false_eq_true, if_false, List.drop_length, List.any_nil, Bool.or_false]
  | n + 1, k, b, hk => by
    have hlt : k < l.length := by omega
    have hvk := hv _ (List.getElem_mem hlt)
    have ha : inB (k : Int) l.length = true := by simp only [inB, Bool.and_eq_true, decide_eq_true_eq]; exact ⟨by omega, by omega⟩
    rw [List.drop_eq_getElem_cons hlt, List.any_cons, ← Bool.or_assoc]
    refine loopD_next ?_ (ref_known i l at_ h hl hv n (k + 1) _ (by omega))
    have hs : F.testamurref41_sameInts l[k].Values h.Copy.Values = some (decide (l[k].Values = h.Copy.Values)) := Equal_int _ _ hvk
    unfold F.testamurref41_Offers_l0
    simp only [ltN, hlt, decide_true, br, bd, jn, if_true, ha, Int.toNat_natCast, List.getElem?_eq_getElem hlt, Option.bind_some, hs, wrapN k (by omega), fits]
    cases b <;> cases (l[k].Schema == h.Copy.Schema) <;> rfl
theorem ref_fields (h : Held) (hv : h.Copy.Values.length ≤ 1099511627776) : loopD (F.testamurref41_Offers_l1 h) (0, []) = some (fieldsOf h.Copy.Values) := by
  have : F.testamurref41_Offers_l1 h = F.wallet_Offers_l2 h := rfl
  rw [this]; exact fields_eq h hv
theorem ref_off_loop (w : Wallet) (d : Int) (hv : valsOk w) (hn : w.Held.length ≤ 1099511627776) : ∀ (n k : Nat) (s : List Claims × List Int), n + k = w.Held.length → s.1.length ≤ 8 → s.2.length = s.1.length → (∀ c ∈ s.1, c.Values.length ≤ 9223372036854775807) →
    loopD (F.testamurref41_Offers_l2 w d) ((k : Int), s.1, s.2) = some (((idxF (fun h => h.Device == d && h.State == 0) (w.Held.drop k) k).foldl offStep s).2, ((idxF (fun h => h.Device == d && h.State == 0) (w.Held.drop k) k).foldl offStep s).1)
  | 0, k, s, hk, h8, hs, hc => by
    obtain rfl : k = w.Held.length := by omega
    rw [List.drop_length]
    refine loopD_last ?_
    unfold F.testamurref41_Offers_l2
    simp only [ltN, Nat.lt_irrefl, decide_false, br, jn, Option.bind_some, Bool.false_eq_true, if_false, idxF, List.foldl_nil]
  | n + 1, k, s, hk, h8, hs, hc => by
    have hlt : k < w.Held.length := by omega
    have hvv : w.Held[k].Copy.Values.length ≤ 1099511627776 := hv _ (List.getElem_mem hlt)
    by_cases hs8 : s.1.length = 8
    · rw [offStep8 _ _ hs8]
      refine loopD_last ?_
      have c8 : decide (Int.ofNat s.2.length < 8) = false := by rw [hs, hs8]; decide
      unfold F.testamurref41_Offers_l2
      simp only [ltN, hlt, decide_true, br, jn, if_true, c8, Option.bind_some, Bool.false_eq_true, if_false]
    · have c8 : decide (Int.ofNat s.2.length < 8) = true := by rw [decide_eq_true_eq]; show ((s.2.length : Nat) : Int) < ((8 : Nat) : Int); omega
      rw [List.drop_eq_getElem_cons hlt, idxF]
      have hkn := ref_known (k : Int) s.1 s.2 w.Held[k] (by omega) hc s.1.length 0
      have e8 : decide (s.1.length = 8) = false := by simp [hs8]
      have c2 : ((s.1.length + [Claims.mk w.Held[k].Copy.Schema (fieldsOf w.Held[k].Copy.Values) w.Held[k].Copy.Values].length) * 56 ≤ 2 ^ 46 ∧ (s.1.length + [Claims.mk w.Held[k].Copy.Schema (fieldsOf w.Held[k].Copy.Values) w.Held[k].Copy.Values].length) ≤ 2 ^ 46) := by rw [List.length_singleton]; omega
      have c3 : ((s.2.length + [((k : Nat) : Int)].length) * 8 ≤ 2 ^ 46 ∧ (s.2.length + [((k : Nat) : Int)].length) ≤ 2 ^ 46) := by rw [List.length_singleton]; omega
      have hst : F.testamurref41_Offers_l2 w d ((k : Int), s.1, s.2) = some (.inl (((k + 1 : Nat) : Int), if (w.Held[k].Device == d && w.Held[k].State == 0) && !s.1.any (fits w.Held[k].Copy) then (s.1 ++ [Claims.mk w.Held[k].Copy.Schema (fieldsOf w.Held[k].Copy.Values) w.Held[k].Copy.Values], s.2 ++ [(k : Int)]) else (s.1, s.2))) := by
        have hkn0 : ∀ b, loopD (F.testamurref41_Offers_l0 ((k : Int), s.1, s.2) w.Held[k]) (0, b) = some (b || s.1.any (fits w.Held[k].Copy)) := fun b => by simpa using hkn b (by omega)
        unfold F.testamurref41_Offers_l2
        simp only [ltN, hlt, decide_true, br, bd, lp, jn, ap, if_true, c8, gi_nat, List.getElem?_eq_getElem hlt, hkn0, ref_fields _ hvv, Option.bind_some, c2, c3, and_self, wrapN k (by omega), bne]
        generalize (w.Held[k].Device == d) = b1
        generalize (w.Held[k].State == 0) = b2
        generalize s.1.any (fits w.Held[k].Copy) = b3
        cases b1 <;> cases b2 <;> cases b3 <;> rfl
      by_cases hp : (w.Held[k].Device == d && w.Held[k].State == 0) = true
      · rw [if_pos hp, List.foldl_cons]
        rw [hp, Bool.true_and] at hst
        have ho : offStep s (k, w.Held[k]) = if !s.1.any (fits w.Held[k].Copy) then (s.1 ++ [Claims.mk w.Held[k].Copy.Schema (fieldsOf w.Held[k].Copy.Values) w.Held[k].Copy.Values], s.2 ++ [(k : Int)]) else (s.1, s.2) := by
          unfold offStep
          simp only [e8, Bool.or_false]
          cases s.1.any (fits w.Held[k].Copy) <;> rfl
        rw [← ho] at hst
        have hb : (offStep s (k, w.Held[k])).1.length ≤ 8 ∧ (offStep s (k, w.Held[k])).2.length = (offStep s (k, w.Held[k])).1.length ∧ (∀ c ∈ (offStep s (k, w.Held[k])).1, c.Values.length ≤ 9223372036854775807) := by
          rw [ho]
          split
          · refine ⟨by simp; omega, by simp; omega, fun c hcm => ?_⟩
            rcases List.mem_append.1 hcm with hcm | hcm
            · exact hc c hcm
            · obtain rfl := List.mem_singleton.1 hcm
              simp only; omega
          · exact ⟨h8, hs, hc⟩
        exact loopD_next hst (ref_off_loop w d hv hn n (k + 1) _ (by omega) hb.1 hb.2.1 hb.2.2)
      · rw [if_neg hp]
        have hp' : (w.Held[k].Device == d && w.Held[k].State == 0) = false := by simpa using hp
        rw [hp', Bool.false_and] at hst
        exact loopD_next hst (ref_off_loop w d hv hn n (k + 1) s (by omega) h8 hs hc)
theorem ref_Offers_eq (w : Wallet) (d : Int) (hn : w.Held.length ≤ 1099511627776) (hv : valsOk w) : F.testamurref41_Offers w d = some (offS w d) := by
  have := ref_off_loop w d hv hn w.Held.length 0 ([], []) (by omega) (by simp) rfl (fun c hc => by cases hc)
  have h0 : loopD (F.testamurref41_Offers_l2 w d) (0, [], []) = some ((offS w d).2, (offS w d).1) := by simpa [offS, mine] using this
  unfold F.testamurref41_Offers
  simp only [lp, h0, Option.bind_some]

/-! Supersede -/
def supH (sc : Int) (h : Held) : Held := if (h.State == 0 && h.Copy.Schema == sc) = true then Held.mk h.Copy h.Secret h.Device 2 else h
theorem supG_eq (sc : Int) : ∀ (l done : List Held), supG (ixs (idxF (fun h => h.State == 0 && h.Copy.Schema == sc) l done.length)) (done ++ l) = done ++ l.map (supH sc)
  | [], done => by simp [idxF, ixs, supG]
  | x :: l, done => by
    have ih := fun y => supG_eq sc l (done ++ [y])
    simp only [List.length_append, List.length_singleton, List.append_assoc, List.cons_append, List.nil_append] at ih
    by_cases h : (x.State == 0 && x.Copy.Schema == sc) = true
    · have e : idxF (fun h => h.State == 0 && h.Copy.Schema == sc) (x :: l) done.length = (done.length, x) :: idxF (fun h => h.State == 0 && h.Copy.Schema == sc) l (done.length + 1) := by
        simp only [idxF]; rw [if_pos h]
      rw [e]
      simp only [ixs, List.map_cons, supG, Int.toNat_natCast]
      have g1 : (done ++ x :: l)[done.length]? = some x := by simp
      have g2 : (done ++ x :: l).set done.length (Held.mk x.Copy x.Secret x.Device 2) = done ++ (Held.mk x.Copy x.Secret x.Device 2) :: l := by
        rw [List.set_append_right _ _ (Nat.le_refl _), Nat.sub_self]; rfl
      rw [g1]
      simp only [g2]
      have := ih (Held.mk x.Copy x.Secret x.Device 2)
      simp only [ixs] at this
      rw [this]
      unfold supH; rw [if_pos h]
    · have e : idxF (fun h => h.State == 0 && h.Copy.Schema == sc) (x :: l) done.length = idxF (fun h => h.State == 0 && h.Copy.Schema == sc) l (done.length + 1) := by
        simp only [idxF]; rw [if_neg h]
      rw [e, ih x, List.map_cons]
      unfold supH; rw [if_neg h]
theorem ref_sup_loop (sc : Int) (l : List Held) (hn : l.length ≤ 1000000000) : ∀ (n k : Nat), n + k = l.length → loopD (F.testamurref41_Supersede_l0 sc) ((k : Int), (l.take k).map (supH sc) ++ l.drop k) = some (l.map (supH sc))
  | 0, k, hk => by
    obtain rfl : k = l.length := by omega
    refine loopD_last ?_
    rw [List.take_length, List.drop_length, List.append_nil]
    unfold F.testamurref41_Supersede_l0
    simp only [List.length_map, ltN, Nat.lt_irrefl, decide_false, br, Bool.false_eq_true, if_false]
  | n + 1, k, hk => by
    have hlt : k < l.length := by omega
    refine loopD_next ?_ (ref_sup_loop sc l hn n (k + 1) (by omega))
    have hlen : ((l.take k).map (supH sc) ++ l.drop k).length = l.length := by simp; omega
    have hx : ((l.take k).map (supH sc) ++ l.drop k)[k]? = some l[k] := by
      rw [List.getElem?_append_right (by simp; omega)]
      simp [Nat.min_eq_left (Nat.le_of_lt hlt)]
    have hset : ∀ y, ((l.take k).map (supH sc) ++ l.drop k).set k y = (l.take k).map (supH sc) ++ y :: l.drop (k + 1) := by
      intro y
      rw [List.set_append_right _ _ (by simp; omega)]
      have : k - ((l.take k).map (supH sc)).length = 0 := by simp; omega
      rw [this, List.drop_eq_getElem_cons hlt]; rfl
    have hnext : (l.take (k + 1)).map (supH sc) ++ l.drop (k + 1) = (l.take k).map (supH sc) ++ supH sc l[k] :: l.drop (k + 1) := by
      rw [List.take_add_one, List.getElem?_eq_getElem hlt, List.map_append]
      simp only [Option.toList, List.map_cons, List.map_nil, List.append_assoc, List.cons_append, List.nil_append]
    have hsame : (l.take k).map (supH sc) ++ l.drop k = (l.take k).map (supH sc) ++ l[k] :: l.drop (k + 1) := by rw [List.drop_eq_getElem_cons hlt]
    have ha : inB (k : Int) l.length = true := by simp only [inB, Bool.and_eq_true, decide_eq_true_eq]; exact ⟨by omega, by omega⟩
    rw [hnext]
    unfold F.testamurref41_Supersede_l0
    simp only [hlen, ltN, hlt, decide_true, br, bd, jn, if_true, ha, Int.toNat_natCast, hx, hset, Option.bind_some, wrapN k (by omega)]
    by_cases h1 : (l[k].State == 0) = true
    · by_cases h2 : (l[k].Copy.Schema == sc) = true
      · simp only [h1, h2, if_true, Option.bind_some, supH, Bool.and_self]
      · have h2' : (l[k].Copy.Schema == sc) = false := by simpa using h2
        simp only [h1, h2', if_true, Option.bind_some, supH, Bool.and_false, Bool.false_eq_true, if_false]
        rw [← hsame]
    · have h1' : (l[k].State == 0) = false := by simpa using h1
      simp only [h1', Option.bind_some, supH, Bool.false_and, Bool.false_eq_true, if_false]
      rw [← hsame]
theorem ref_Supersede_eq (w : Wallet) (sc : Int) (hw : w.Held.length ≤ 1000000000) (h1 : linksOk w) : F.testamurref41_Supersede w sc = some (supS w sc) := by
  have hl := ref_sup_loop sc w.Held hw w.Held.length 0 (by omega)
  have hl : loopD (F.testamurref41_Supersede_l0 sc) (0, w.Held) = some (w.Held.map (supH sc)) := by simpa using hl
  have hg := supG_eq sc w.Held []
  simp only [List.nil_append, List.length_nil] at hg
  have c1 : (w.Held.length * 208 ≤ 2 ^ 46 ∧ w.Held.length ≤ 2 ^ 46) := by omega
  unfold F.testamurref41_Supersede
  simp only [jn, lp, ap, ref_Check_eq w (by omega) h1, Option.bind_some, ne_zero, ref_in_eq, hl, supS, hg, c1, and_self, decide_true, if_true]
  by_cases hz : chk w = 0
  · cases (decide (0 ≤ sc) && decide (sc ≤ 15)) <;> simp [hz, br, zeroW]
  · simp [hz, br, zeroW]

/-! Left -/
theorem ref_left_loop (w : Wallet) (sc : Int) (hn : w.Held.length ≤ 1000000000) : ∀ (n k c : Nat), n + k = w.Held.length → c ≤ k → loopD (F.testamurref41_Left_l0 w sc) ((k : Int), (c : Int)) = some (((c + (idxF (fun h => h.State == 0 && h.Copy.Schema == sc) (w.Held.drop k) k).length : Nat) : Int))
  | 0, k, c, hk, hc => by
    obtain rfl : k = w.Held.length := by omega
    refine loopD_last ?_
    unfold F.testamurref41_Left_l0
    simp only [ltN, Nat.lt_irrefl, decide_false, br, Bool.false_eq_true, if_false, List.drop_length, idxF, List.length_nil, Nat.add_zero]
  | n + 1, k, c, hk, hc => by
    have hlt : k < w.Held.length := by omega
    rw [List.drop_eq_getElem_cons hlt, idxF]
    have w2 : Go.IntKind.wrap .i64 ((c : Int) + 1) = ((c + 1 : Nat) : Int) := by rw [wrap_i64 _ (by omega) (by omega)]; omega
    by_cases hp : (w.Held[k].State == 0 && w.Held[k].Copy.Schema == sc) = true
    · rw [if_pos hp]
      have hp2 := Bool.and_eq_true_iff.1 hp
      have := ref_left_loop w sc hn n (k + 1) (c + 1) (by omega) (by omega)
      rw [List.length_cons, show c + ((idxF (fun h => h.State == 0 && h.Copy.Schema == sc) (w.Held.drop (k + 1)) (k + 1)).length + 1) = c + 1 + (idxF (fun h => h.State == 0 && h.Copy.Schema == sc) (w.Held.drop (k + 1)) (k + 1)).length from by omega]
      refine loopD_next ?_ this
      unfold F.testamurref41_Left_l0
      simp only [ltN, hlt, decide_true, br, bd, jn, if_true, gi_nat, List.getElem?_eq_getElem hlt, Option.bind_some, wrapN k (by omega), w2, hp2.1, hp2.2]
    · rw [if_neg hp]
      refine loopD_next ?_ (ref_left_loop w sc hn n (k + 1) c (by omega) (by omega))
      have hp' : (w.Held[k].State == 0 && w.Held[k].Copy.Schema == sc) = false := by simpa using hp
      unfold F.testamurref41_Left_l0
      simp only [ltN, hlt, decide_true, br, bd, jn, if_true, gi_nat, List.getElem?_eq_getElem hlt, Option.bind_some, wrapN k (by omega), w2]
      generalize (w.Held[k].State == 0) = b1 at hp' ⊢
      generalize (w.Held[k].Copy.Schema == sc) = b2 at hp' ⊢
      cases b1 <;> cases b2 <;> first | rfl | exact absurd hp' (by decide)
theorem ref_Left_eq (w : Wallet) (sc : Int) (hn : w.Held.length ≤ 1000000000) : F.testamurref41_Left w sc = F.wallet_Left w sc := by
  rw [Left_eq w sc (by omega)]
  have := ref_left_loop w sc hn w.Held.length 0 0 (by omega) (Nat.le_refl _)
  have h0 : loopD (F.testamurref41_Left_l0 w sc) (0, 0) = some (((idxF (fun h => h.State == 0 && h.Copy.Schema == sc) w.Held 0).length : Nat) : Int) := by simpa using this
  unfold F.testamurref41_Left
  simp only [lp, h0, Option.bind_some, ixs, List.length_map]
  rfl

/-! Put -/
theorem ref_Put_eq (w : Wallet) (c : List Copy) (s : List Secret) (d : Int) (hw : w.Held.length ≤ 1000000000) (hc : c.length ≤ 1000000000) (h1 : linksOk w) (h2 : ∀ x ∈ c, x.Links.length ≤ 9223372036854775807) :
    F.testamurref41_Put w c s d = some (putS w c s d) := by
  have hlx : linksOk (putX w c s d) := by
    intro h hh
    rcases List.mem_append.1 hh with hh | hh
    · exact h1 h hh
    · obtain ⟨⟨a, b⟩, hx, rfl⟩ := List.mem_map.1 hh
      exact h2 a (List.of_mem_zip hx).1
  have hnx : (putX w c s d).Held.length ≤ 1099511627776 := by
    simp only [putX, putH, List.length_append, List.length_map, List.length_zip]; omega
  have c1 : (w.Held.length * 208 ≤ 2 ^ 46 ∧ w.Held.length ≤ 2 ^ 46) := by omega
  have e0 : F.testamurref41_Put_l0 c s d = F.wallet_Put_l1 c s d := rfl
  unfold F.testamurref41_Put
  simp only [jn, lp, ap, ref_Check_eq w (by omega) h1, Option.bind_some, ne_zero, bne_len, putS, e0, c1, and_self, decide_true, if_true]
  by_cases hz : chk w = 0
  · by_cases hcs : c.length = s.length
    · have hl := put_loop c s d hcs hc c.length 0 w.Held (by omega) (by omega)
      have hl : loopD (F.wallet_Put_l1 c s d) (0, w.Held) = some (w.Held ++ putH c s d) := by simpa [putH] using hl
      simp only [hz, hcs, br, hl, Option.bind_some, ne_eq, not_true_eq_false, decide_false, Bool.false_eq_true, if_false]
      have hx := ref_Check_eq (putX w c s d) hnx hlx
      unfold putX at hx
      rw [hx]
      simp only [Option.bind_some, putX, zeroW]
      by_cases hy : chk (Wallet.mk w.Person w.Link (w.Held ++ putH c s d)) = 0 <;> simp [hy]
    · simp [hz, hcs, br, zeroW]
  · have h410 : chk w = 410 := by rcases chk_vals w with h | h
                                  · exact absurd h hz
                                  · exact h
    simp [hz, br, zeroW, h410]

/-! the two laws -/
theorem fieldsOf_len (v : List Int) : (fieldsOf v).length ≤ v.length := by
  have := idxF_len (fun _ : Int => true) v 0
  simp only [fieldsOf, ixs, List.length_map]; omega
theorem claims_refl (l : List Claims) (hl : l.length ≤ 9223372036854775807) (h : ∀ x ∈ l, x.Fields.length ≤ 9223372036854775807 ∧ x.Values.length ≤ 9223372036854775807) : F.testamurref41_SameClaims l l = some true := by
  have hs : ∀ a b : List Int, a.length ≤ 9223372036854775807 → F.testamurref41_sameInts a b = some (decide (a = b)) := fun a b ha => Equal_int a b ha
  have hlp : loopD (F.testamurref41_SameClaims_l0 l l) 0 = some (Sum.inr ()) := loop_all (N := l.length)
    (fun k hk => by
      have hk' := h _ (List.getElem_mem hk)
      unfold F.testamurref41_SameClaims_l0
      simp [ltN, hk, br, bd, jn, gi_nat, hs _ _ hk'.1, hs _ _ hk'.2, wrapN k (by omega)])
    (by unfold F.testamurref41_SameClaims_l0; simp only [ltN, Nat.lt_irrefl, decide_false, br, Bool.false_eq_true, if_false])
  unfold F.testamurref41_SameClaims
  simp [br, lp, hlp]
theorem offS_ok (w : Wallet) (d : Int) (hv : valsOk w) : ∀ c ∈ (offS w d).1, c.Fields.length ≤ 9223372036854775807 ∧ c.Values.length ≤ 9223372036854775807 := by
  intro c hc
  rw [offS_sel] at hc
  obtain ⟨x, hx, rfl⟩ := List.mem_map.1 hc
  have hm := (sel_ok w d).sub x hx
  obtain ⟨_, _, h3, _⟩ := idxF_mem _ _ _ _ hm
  have := hv x.2 (List.mem_of_getElem? h3)
  have := fieldsOf_len x.2.Copy.Values
  simp only [claimOf]
  omega
theorem wf0 : (Go.Lit.int .i64 0).wf = true := by decide
theorem wf2 : (Go.Lit.int .i64 2).wf = true := by decide
theorem plain3 (w : Wallet) (hw : V_Wallet w) (p : Int) (hp : (Go.Lit.int .i64 p).wf = true) (d : Int) (hd : (Go.Lit.int .i64 d).wf = true) (sc : Int) (hsc : (Go.Lit.int .i64 sc).wf = true) :
    F.testamurlaw41_WalletSpec w p d sc = some true := by
  obtain ⟨b, hb, hfew⟩ := Few_tot w hw
  unfold F.testamurlaw41_WalletSpec
  simp only [jn, sane_true, Option.bind_some, hb]
  cases b with
  | false => rfl
  | true =>
  obtain ⟨h12, hfh⟩ := hfew rfl
  have hv : valsOk w := fun h hh => by have := (hfh h hh).1; omega
  have hl : linksOk w := fun h hh => by have := (hfh h hh).2.1; omega
  have hvw := hw.2.2.2
  have hsame : ∀ r : Wallet × Int, F.wallet_New p = some r → F.testamurref41_Same r.1 r.1 = some true := by
    intro r hr
    rw [New_eq] at hr
    obtain rfl := Option.some.inj hr
    refine wallet_refl _ ?_ ?_ <;> split <;> simp [zeroW]
  have hsup : F.testamurref41_Same (supS w sc).1 (supS w sc).1 = some true := by
    unfold supS
    split
    · exact wallet_refl _ (by simp [zeroW]) (by simp [zeroW])
    · split
      · have hg := supG_eq sc w.Held []
        simp only [List.nil_append, List.length_nil] at hg
        simp only [hg]
        refine wallet_refl _ (by simp; omega) ?_
        intro y hy
        obtain ⟨h, hh, rfl⟩ := List.mem_map.1 hy
        have := hvw h hh
        unfold supH
        split
        · exact ⟨this.1, this.2.1, this.2.2.1, wf2⟩
        · exact this
      · exact wallet_refl _ (by simp [zeroW]) (by simp [zeroW])
  have hcl := claims_refl (offS w d).1 (by rw [offS_sel]; have := (sel_ok w d).len; simp; omega) (offS_ok w d hv)
  have hsi := SameInts_eq (offS w d).2 (offS w d).2 (by rw [offS_sel]; have := (sel_ok w d).len; simp [ixs]; omega)
  obtain ⟨r, hr⟩ : ∃ r, F.wallet_New p = some r := ⟨_, New_eq p⟩
  obtain ⟨n, hn⟩ : ∃ n, F.wallet_Left w sc = some n := ⟨_, Left_eq w sc (by omega)⟩
  simp only [hr, ref_New_eq, Option.bind_some, Offers_eq w d (by omega) hv, ref_Offers_eq w d (by omega) hv, Supersede_eq w sc (by omega) hl, ref_Supersede_eq w sc (by omega) hl,
    hsame r hr, br, if_true, BEq.rfl, Check_eq w (by omega) hl, ref_Check_eq w (by omega) hl, hcl, hsi, ref_Left_eq w sc (by omega), hn, hsup, decide_true]
theorem plain4 (w : Wallet) (hw : V_Wallet w) (c : List Copy) (hc : c.length ≤ Go.maxLen ∧ ∀ y ∈ c, V_Copy y) (s : List Secret) (hs : s.length ≤ Go.maxLen ∧ ∀ y ∈ s, V_Secret y) (d : Int) (hd : (Go.Lit.int .i64 d).wf = true) :
    F.testamurlaw41_WalletPutSpec w c s d = some true := by
  obtain ⟨b, hb, hfew⟩ := Few_tot w hw
  have e6c : decide (Int.ofNat c.length > 6) = decide (6 < c.length) := gtN c.length 6
  have e6s : decide (Int.ofNat s.length > 6) = decide (6 < s.length) := gtN s.length 6
  unfold F.testamurlaw41_WalletPutSpec
  simp only [jn, sane_true, Option.bind_some, hb, e6c, e6s]
  cases b with
  | false => rfl
  | true =>
  by_cases hc6 : 6 < c.length
  · simp [br, hc6]
  by_cases hs6 : 6 < s.length
  · simp [br, hc6, hs6]
  obtain ⟨h12, hfh⟩ := hfew rfl
  have hv : valsOk w := fun h hh => by have := (hfh h hh).1; omega
  have hl : linksOk w := fun h hh => by have := (hfh h hh).2.1; omega
  have hvw := hw.2.2.2
  obtain ⟨r, h1, h2⟩ := loop_nat (step := F.testamurlaw41_WalletPutSpec_l0 c) (N := c.length) (I := fun k => ∀ j (hj : j < c.length), j < k → c[j].Links.length ≤ 8) (Q := fun r => r = Sum.inr () → ∀ x ∈ c, x.Links.length ≤ 8)
    (fun k hk hi => by
      have hcv := hc.2 _ (List.getElem_mem hk)
      have hcl : c[k].Claims.length ≤ 9223372036854775807 := by
        have := hcv.2.2.2.2.2.2.2.1
        rwa [maxLen_eq] at this
      obtain ⟨b, hb, hb2⟩ := FewCopy_tot c[k] hcl
      unfold F.testamurlaw41_WalletPutSpec_l0
      simp only [ltN, hk, decide_true, br, bd, jn, if_true, gi_nat, List.getElem?_eq_getElem hk, Option.bind_some, wrapN k (by omega), hb]
      cases b with
      | false => right; exact ⟨_, rfl, fun e => by cases e⟩
      | true =>
        left
        refine ⟨rfl, fun j hj hjk => ?_⟩
        by_cases he : j = k
        · subst he; exact (hb2 rfl).2.1
        · exact hi j hj (by omega))
    (fun hi => by
      unfold F.testamurlaw41_WalletPutSpec_l0
      simp only [ltN, Nat.lt_irrefl, decide_false, br, Bool.false_eq_true, if_false]
      refine ⟨_, rfl, fun _ x hx => ?_⟩
      obtain ⟨j, hj, rfl⟩ := List.getElem_of_mem hx
      exact hi j hj hj) c.length 0 (by omega) (fun j hj hjk => by omega)
  have h1 : loopD (F.testamurlaw41_WalletPutSpec_l0 c) 0 = some r := h1
  simp only [br, hc6, hs6, decide_false, Bool.false_eq_true, if_false, if_true, Option.bind_some, lp, h1]
  cases r with
  | inl u => rfl
  | inr u =>
    have hlc := h2 rfl
    have hlc' : ∀ x ∈ c, x.Links.length ≤ 9223372036854775807 := fun x hx => by have := hlc x hx; omega
    have hput : F.testamurref41_Same (putS w c s d).1 (putS w c s d).1 = some true := by
      unfold putS
      split
      · exact wallet_refl _ (by simp [zeroW]) (by simp [zeroW])
      · split
        · exact wallet_refl _ (by simp [zeroW]) (by simp [zeroW])
        · split
          · exact wallet_refl _ (by simp [zeroW]) (by simp [zeroW])
          · refine wallet_refl _ (by simp only [putX, putH, List.length_append, List.length_map, List.length_zip]; omega) ?_
            intro y hy
            rcases List.mem_append.1 hy with hy | hy
            · exact hvw y hy
            · obtain ⟨⟨a, b⟩, hx, rfl⟩ := List.mem_map.1 hy
              have hz := List.of_mem_zip hx
              exact ⟨hc.2 a hz.1, hs.2 b hz.2, hd, wf0⟩
    simp only [Sum.elim_inr, Put_eq w c s d (by omega) (by omega) hl hlc', ref_Put_eq w c s d (by omega) (by omega) hl hlc', Option.bind_some, hput, if_true, BEq.rfl]
end
end Sp
