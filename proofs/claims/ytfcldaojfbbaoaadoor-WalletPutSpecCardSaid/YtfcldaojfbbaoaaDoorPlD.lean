/- Plain law: Check, Put, Supersede, Offers as plain functions. -/
import Derived.Test.YtfcldaojfbbaoaaDoorPlC
set_option linter.unusedVariables false
set_option linter.unusedSimpArgs false
set_option linter.unnecessarySimpa false
open Go Ev
set_option linter.unusedSimpArgs false
set_option linter.unusedVariables false
set_option maxRecDepth 100000
namespace Sp
noncomputable section
def linksOk (w : Wallet) : Prop := ∀ h ∈ w.Held, h.Copy.Links.length ≤ 9223372036854775807

theorem chk_loop (w : Wallet) (hn : w.Held.length ≤ 1099511627776) (hl : linksOk w) : ∀ (n k : Nat) m (wr : List Int), n + k = w.Held.length → wr.length ≤ k →
    ∃ m' wr', loopD (F.wallet_Check_l0 w) ((k : Int), m, wr) = some (m', wr') ∧ decide (0 < wr'.length) = (decide (0 < wr.length) || anyBad (firstLinks w) (w.Held.drop k) m)
  | 0, k, m, wr, hk, hw => by
    obtain rfl : k = w.Held.length := by omega
    refine ⟨m, wr, loopD_last ?_, by simp [anyBad]⟩
    unfold F.wallet_Check_l0
    simp only [ltN, Nat.lt_irrefl, decide_false, br, Bool.false_eq_true, if_false]
  | n + 1, k, m, wr, hk, hw => by
    have hlt : k < w.Held.length := by omega
    have hk0 : w.Held[k]? = some w.Held[k] := by simp [hlt]
    have hst := chk_step w k w.Held[k] m wr hk0 hlt hn (hl _ (List.getElem_mem hlt)) hw
    have hlen : (if isBad (firstLinks w) w.Held[k] m then wr ++ [(k : Int)] else wr).length ≤ k + 1 := by
      split
      · simp; omega
      · omega
    obtain ⟨m', wr', h1, h2⟩ := chk_loop w hn hl n (k + 1) _ _ (by omega) hlen
    refine ⟨m', wr', loopD_next hst h1, ?_⟩
    rw [h2, List.drop_eq_getElem_cons hlt]
    simp only [anyBad]
    cases isBad (firstLinks w) w.Held[k] m <;> simp

theorem gt256 (n : Nat) : decide (Int.ofNat n > 256) = decide (n > 256) := by
  show decide ((256 : Int) < ((n : Nat) : Int)) = _
  simp; omega
theorem gt0 (n : Nat) : decide (Int.ofNat n > 0) = decide (0 < n) := by
  show decide ((0 : Int) < ((n : Nat) : Int)) = _
  simp

theorem Check_eq (w : Wallet) (hn : w.Held.length ≤ 1099511627776) (hl : linksOk w) : F.wallet_Check w = some (chk w) := by
  obtain ⟨m', wr', h1, h2⟩ := chk_loop w hn hl w.Held.length 0 [] [] (by omega) (Nat.zero_le _)
  have h1 : loopD (F.wallet_Check_l0 w) (0, [], []) = some (m', wr') := h1
  simp only [List.length_nil, Nat.lt_irrefl, decide_false, Bool.false_or, List.drop_zero] at h2
  unfold F.wallet_Check
  simp only [lp, jn, br, h1, Option.bind_some, in_eq, gt256, gt0, h2, chk]
  cases (decide (0 ≤ w.Person) && decide (w.Person ≤ 4095)) <;> cases (decide (0 ≤ w.Link) && decide (w.Link ≤ 4)) <;> cases decide (w.Held.length > 256) <;> cases anyBad (firstLinks w) w.Held [] <;> simp

/-! Put -/
def zeroW : Wallet := Wallet.mk 0 0 []
def putH (c : List Copy) (s : List Secret) (d : Int) : List Held := (c.zip s).map fun x => Held.mk x.1 x.2 d 0
def putX (w : Wallet) (c : List Copy) (s : List Secret) (d : Int) : Wallet := Wallet.mk w.Person w.Link (w.Held ++ putH c s d)
def putS (w : Wallet) (c : List Copy) (s : List Secret) (d : Int) : Wallet × Int :=
  if chk w ≠ 0 then (zeroW, chk w) else if c.length ≠ s.length then (zeroW, 410) else if chk (putX w c s d) ≠ 0 then (zeroW, chk (putX w c s d)) else (putX w c s d, 0)

theorem put_loop (c : List Copy) (s : List Secret) (d : Int) (hcs : c.length = s.length) (hc : c.length ≤ 1000000000) : ∀ (n k : Nat) (acc : List Held), n + k = c.length → acc.length ≤ 2000000000 + k →
    loopD (F.wallet_Put_l1 c s d) ((k : Int), acc) = some (acc ++ ((c.drop k).zip (s.drop k)).map fun x => Held.mk x.1 x.2 d 0)
  | 0, k, acc, hk, ha => by
    obtain rfl : k = c.length := by omega
    rw [loopD_last (r := acc)]
    · simp
    · unfold F.wallet_Put_l1
      simp only [ltN, Nat.lt_irrefl, decide_false, br, Bool.false_eq_true, if_false]
  | n + 1, k, acc, hk, ha => by
    have hlt : k < c.length := by omega
    have hls : k < s.length := by omega
    have c2 : ((acc.length + [Held.mk c[k] s[k] d 0].length) * 208 ≤ 2 ^ 46 ∧ (acc.length + [Held.mk c[k] s[k] d 0].length) ≤ 2 ^ 46) := by rw [List.length_singleton]; omega
    have hst : F.wallet_Put_l1 c s d ((k : Int), acc) = some (.inl (((k + 1 : Nat) : Int), acc ++ [Held.mk c[k] s[k] d 0])) := by
      unfold F.wallet_Put_l1
      simp only [ltN, hlt, decide_true, br, bd, ap, if_true, gi_nat, List.getElem?_eq_getElem hlt, List.getElem?_eq_getElem hls, Option.bind_some, c2, and_self, wrapN k (by omega)]
    rw [loopD_next hst (put_loop c s d hcs hc n (k + 1) _ (by omega) (by simp; omega)), List.drop_eq_getElem_cons hlt, List.drop_eq_getElem_cons hls]
    simp only [List.zip_cons_cons, List.map_cons, List.append_assoc, List.cons_append, List.nil_append]

theorem ne_zero (x : Int) : (x != 0) = decide (x ≠ 0) := by
  by_cases h : x = 0 <;> simp [h]

theorem Put_eq (w : Wallet) (c : List Copy) (s : List Secret) (d : Int) (hw : w.Held.length ≤ 1000000000) (hc : c.length ≤ 1000000000) (h1 : linksOk w) (h2 : ∀ x ∈ c, x.Links.length ≤ 9223372036854775807) :
    F.wallet_Put w c s d = some (putS w c s d) := by
  have l0 : loopD F.wallet_Put_l0 () = some () := loopD_last rfl
  have hheld : (br (decide (w.Held.length = 0)) (some []) (ap 2 (decide (w.Held.length * 208 ≤ 2 ^ 46 ∧ w.Held.length ≤ 2 ^ 46)) (some w.Held)) : Option (List Held)) = some w.Held := by
    by_cases h0 : w.Held.length = 0
    · have : w.Held = [] := List.length_eq_zero_iff.1 h0
      simp [br, this]
    · have c2 : (w.Held.length * 208 ≤ 2 ^ 46 ∧ w.Held.length ≤ 2 ^ 46) := by omega
      simp only [br, h0, decide_false, Bool.false_eq_true, if_false, ap, c2, and_self, decide_true, if_true]
  have hlx : linksOk (putX w c s d) := by
    intro h hh
    rcases List.mem_append.1 hh with hh | hh
    · exact h1 h hh
    · obtain ⟨⟨a, b⟩, hx, rfl⟩ := List.mem_map.1 hh
      exact h2 a (List.of_mem_zip hx).1
  have hnx : (putX w c s d).Held.length ≤ 1099511627776 := by
    simp only [putX, putH, List.length_append, List.length_map, List.length_zip]; omega
  unfold F.wallet_Put
  simp only [jn, lp, Check_eq w (by omega) h1, Option.bind_some, ne_zero, bne_len, hheld, l0, putS]
  by_cases hz : chk w = 0
  · by_cases hcs : c.length = s.length
    · have hl := put_loop c s d hcs hc c.length 0 w.Held (by omega) (by omega)
      have hl : loopD (F.wallet_Put_l1 c s d) (0, w.Held) = some (w.Held ++ putH c s d) := by simpa [putH] using hl
      simp only [hz, hcs, br, hl, Option.bind_some, ne_eq, not_true_eq_false, decide_false, Bool.false_eq_true, if_false]
      have hx := Check_eq (putX w c s d) hnx hlx
      unfold putX at hx
      rw [hx]
      simp only [Option.bind_some, putX, zeroW]
      by_cases hy : chk (Wallet.mk w.Person w.Link (w.Held ++ putH c s d)) = 0 <;> simp [hy]
    · simp [hz, hcs, br, zeroW]
  · simp [hz, br, zeroW]

theorem New_eq (p : Int) : F.wallet_New p = some (if decide (0 ≤ p) && decide (p ≤ 4095) then (Wallet.mk p 0 [], 0) else (zeroW, 410)) := by
  unfold F.wallet_New
  simp only [jn, in_eq, Option.bind_some, br]
  split <;> simp_all [zeroW]

/-! Supersede -/
def supG : List Int → List Held → List Held
  | [], l => l
  | i :: r, l => supG r (match l[i.toNat]? with | some h => l.set i.toNat (Held.mk h.Copy h.Secret h.Device 2) | none => l)
def supS (w : Wallet) (sc : Int) : Wallet × Int :=
  if chk w ≠ 0 then (zeroW, chk w) else if (decide (0 ≤ sc) && decide (sc ≤ 15)) = true then (Wallet.mk w.Person w.Link (supG (ixs (idxF (fun h => h.State == 0 && h.Copy.Schema == sc) w.Held 0)) w.Held), 0) else (zeroW, 1)

theorem sup_loop (ix : List Int) (hix : ix.length ≤ 1000000000) (m : Nat) (hin : ∀ i ∈ ix, 0 ≤ i ∧ i < (m : Int)) : ∀ (n k : Nat) (l : List Held), n + k = ix.length → l.length = m → loopD (F.wallet_Supersede_l0 ix) ((k : Int), l) = some (supG (ix.drop k) l)
  | 0, k, l, hk, hl => by
    obtain rfl : k = ix.length := by omega
    rw [loopD_last (r := l)]
    · simp [supG]
    · unfold F.wallet_Supersede_l0
      simp only [ltN, Nat.lt_irrefl, decide_false, br, Bool.false_eq_true, if_false]
  | n + 1, k, l, hk, hl => by
    have hlt : k < ix.length := by omega
    obtain ⟨h0, h1⟩ := hin _ (List.getElem_mem hlt)
    have ht : ix[k].toNat < l.length := by omega
    have ha : inB ix[k] l.length = true := by simp only [inB, Bool.and_eq_true, decide_eq_true_eq]; exact ⟨h0, by rw [hl]; exact h1⟩
    have hst : F.wallet_Supersede_l0 ix ((k : Int), l) = some (.inl (((k + 1 : Nat) : Int), l.set ix[k].toNat (Held.mk l[ix[k].toNat].Copy l[ix[k].toNat].Secret l[ix[k].toNat].Device 2))) := by
      unfold F.wallet_Supersede_l0
      simp only [ltN, hlt, decide_true, br, bd, jn, if_true, gi_nat, List.getElem?_eq_getElem hlt, Option.bind_some, ha, List.getElem?_eq_getElem ht, wrapN k (by omega)]
    rw [loopD_next hst (sup_loop ix hix m hin n (k + 1) _ (by omega) (by simp [hl])), List.drop_eq_getElem_cons hlt]
    simp only [supG, List.getElem?_eq_getElem ht]

theorem idxF_mem {α : Type} (p : α → Bool) : ∀ (l : List α) (k : Nat) (x : Nat × α), x ∈ idxF p l k → k ≤ x.1 ∧ x.1 < k + l.length ∧ l[x.1 - k]? = some x.2 ∧ p x.2 = true
  | [], k, x, h => by simp [idxF] at h
  | y :: l, k, x, h => by
    simp only [idxF] at h
    have rest : x ∈ idxF p l (k + 1) → k ≤ x.1 ∧ x.1 < k + (y :: l).length ∧ (y :: l)[x.1 - k]? = some x.2 ∧ p x.2 = true := by
      intro h
      obtain ⟨h1, h2, h3, h4⟩ := idxF_mem p l (k + 1) x h
      refine ⟨by omega, by simp; omega, ?_, h4⟩
      rw [show x.1 - k = (x.1 - (k + 1)) + 1 from by omega, List.getElem?_cons_succ]; exact h3
    split at h
    · rcases List.mem_cons.1 h with rfl | h
      · rename_i hp
        exact ⟨Nat.le_refl _, by simp, by simp, hp⟩
      · exact rest h
    · exact rest h
theorem idxF_len {α : Type} (p : α → Bool) : ∀ (l : List α) (k : Nat), (idxF p l k).length ≤ l.length
  | [], _ => by simp [idxF]
  | y :: l, k => by
    have := idxF_len p l (k + 1)
    simp only [idxF]
    split <;> simp <;> omega

theorem Supersede_eq (w : Wallet) (sc : Int) (hw : w.Held.length ≤ 1000000000) (h1 : linksOk w) : F.wallet_Supersede w sc = some (supS w sc) := by
  have hheld : (br (decide (w.Held.length = 0)) (some []) (ap 4 (decide (w.Held.length * 208 ≤ 2 ^ 46 ∧ w.Held.length ≤ 2 ^ 46)) (some w.Held)) : Option (List Held)) = some w.Held := by
    by_cases h0 : w.Held.length = 0
    · have : w.Held = [] := List.length_eq_zero_iff.1 h0
      simp [br, this]
    · have c2 : (w.Held.length * 208 ≤ 2 ^ 46 ∧ w.Held.length ≤ 2 ^ 46) := by omega
      simp only [br, h0, decide_false, Bool.false_eq_true, if_false, ap, c2, and_self, decide_true, if_true]
  have hlen : (ixs (idxF (fun h => h.State == 0 && h.Copy.Schema == sc) w.Held 0)).length ≤ 1000000000 := by
    have := idxF_len (fun h : Held => h.State == 0 && h.Copy.Schema == sc) w.Held 0
    simp only [ixs, List.length_map]; omega
  have hl := sup_loop (ixs (idxF (fun h => h.State == 0 && h.Copy.Schema == sc) w.Held 0)) hlen w.Held.length (fun i hi => by
    obtain ⟨x, hx, rfl⟩ := List.mem_map.1 hi
    obtain ⟨_, h2, _, _⟩ := idxF_mem _ _ _ _ hx
    omega) (ixs (idxF (fun h => h.State == 0 && h.Copy.Schema == sc) w.Held 0)).length 0 w.Held (by omega) rfl
  have hl : loopD (F.wallet_Supersede_l0 (ixs (idxF (fun h => h.State == 0 && h.Copy.Schema == sc) w.Held 0))) (0, w.Held) = some (supG (ixs (idxF (fun h => h.State == 0 && h.Copy.Schema == sc) w.Held 0)) w.Held) := by simpa using hl
  unfold F.wallet_Supersede
  simp only [jn, lp, Check_eq w (by omega) h1, Option.bind_some, ne_zero, in_eq, fresh_eq w sc (by omega), hheld, hl, supS]
  by_cases hz : chk w = 0
  · cases (decide (0 ≤ sc) && decide (sc ≤ 15)) <;> simp [hz, br, zeroW]
  · simp [hz, br, zeroW]
end
end Sp
