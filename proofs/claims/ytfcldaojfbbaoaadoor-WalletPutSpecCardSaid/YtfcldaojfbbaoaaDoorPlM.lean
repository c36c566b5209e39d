/- Plain law: the program's hash is the reference's: the message's end, the bytes written, the whole. -/
import Derived.Test.YtfcldaojfbbaoaaDoorPlL
set_option linter.unusedVariables false
set_option linter.unusedSimpArgs false
set_option linter.unnecessarySimpa false
open Go Ev
set_option linter.unusedSimpArgs false
set_option linter.unusedVariables false
set_option maxRecDepth 100000
namespace Sp
/-! the bytes written -/
def byteOf (s : List Int) (i : Nat) : Int := Go.IntKind.wrap .u8 (shrI .u32 (s.getD (i / 4) 0) ((24 - 8 * (i % 4) : Nat) : Int))
theorem shr_eq (y : Int) (h0 : 0 ≤ y) (h1 : y < 4294967296) (n : Nat) (hn : n ≤ 24) : shrI .u64 (Go.IntKind.wrap .u64 y) (n : Int) = shrI .u32 y (n : Int) := by
  have : Go.IntKind.wrap .u64 y = y := wrap_u64 _ h0 (by omega)
  rw [this]
  unfold shrI
  rw [Int.toNat_natCast]
  have e1 : min n (Go.IntKind.bits .u64) = n := Nat.min_eq_left (by show n ≤ 64; omega)
  have e2 : min n (Go.IntKind.bits .u32) = n := Nat.min_eq_left (by show n ≤ 32; omega)
  rw [e1, e2]
def Out (s : List Int) (k : Nat) (x : List Int) : Prop := x.length = 32 ∧ ∀ i, i < k → x[i]? = some (byteOf s i)
theorem Out_unique {s x y : List Int} (h1 : Out s 32 x) (h2 : Out s 32 y) : x = y := by
  apply List.ext_getElem?
  intro i
  by_cases hi : i < 32
  · rw [h1.2 i hi, h2.2 i hi]
  · rw [List.getElem?_eq_none (by rw [h1.1]; omega), List.getElem?_eq_none (by rw [h2.1]; omega)]
theorem getD_of {s : List Int} {i : Nat} (h : i < s.length) : s.getD i 0 = s[i] := by simp [List.getD, h]
theorem l13_out (s : List Int) (hs : St s) (k : Nat) (hk : k < 8) (z x : List Int) (hx : Out s (4 * k) x) : ∃ r, loopD (F.digest_Sum_l13 ((k : Int), z) (s.getD k 0)) (0, x) = some r ∧ Out s (4 * (k + 1)) r := by
  have hw : Go.IntKind.wrap .i64 (4 * (k : Int)) = ((4 * k : Nat) : Int) := by rw [wrap_i64 _ (by omega) (by omega)]; omega
  have hw2 : Go.IntKind.wrap .i64 (((4 * k : Nat) : Int) + 4) = ((4 * k + 4 : Nat) : Int) := by rw [wrap_i64 _ (by omega) (by omega)]; omega
  have hn8 : 4 * k + 4 - 4 * k = 4 := by omega
  have hsk : k < s.length := by rw [hs.1]; exact hk
  have hy := hs.2 s[k] (List.getElem_mem hsk)
  rw [getD_of hsk]
  refine loop_for (step := F.digest_Sum_l13 ((k : Int), z) s[k]) (N := 4) (I := fun j x => Out s (4 * k) x ∧ ∀ i, i < 4 * k + 4 → 4 * k + 4 ≤ i + j → x[i]? = some (byteOf s i))
    (fun j x hj hx => by
      have d1 : decide ((j : Int) < Int.ofNat 4) = true := by rw [decide_eq_true_eq]; show ((j : Nat) : Int) < ((4 : Nat) : Int); omega
      have h2 : Go.IntKind.wrap .i64 ((j : Int) + 1) = (j : Int) + 1 := wrap_i64 _ (by omega) (by omega)
      have h3 : Go.IntKind.wrap .i64 (8 * (j : Int)) = ((8 * j : Nat) : Int) := by rw [wrap_i64 _ (by omega) (by omega)]; omega
      have d2 : decide (((8 * j : Nat) : Int) < 0) = false := by rw [decide_eq_false_iff_not]; omega
      have h4 : Go.IntKind.wrap .i64 (Go.IntKind.wrap .i64 (Int.ofNat 4 - 1) - (j : Int)) = ((3 - j : Nat) : Int) := by
        have : Go.IntKind.wrap .i64 (Int.ofNat 4 - 1) = 3 := by decide
        rw [this, wrap_i64 _ (by omega) (by omega)]; omega
      have a1 : inB ((3 - j : Nat) : Int) 4 = true := by simp only [inB, Bool.and_eq_true, decide_eq_true_eq]; exact ⟨by omega, by show ((3 - j : Nat) : Int) < ((4 : Nat) : Int); omega⟩
      have q1 : 4 * k + (3 - j) < 32 := by omega
      obtain ⟨⟨hl, ho⟩, hin⟩ := hx
      have hb : Go.IntKind.wrap .u8 (shrI .u64 (Go.IntKind.wrap .u64 s[k]) ((8 * j : Nat) : Int)) = byteOf s (4 * k + (3 - j)) := by
        rw [shr_eq _ hy.1 hy.2 _ (by omega)]
        unfold byteOf
        rw [show (4 * k + (3 - j)) / 4 = k from by omega, show 24 - 8 * ((4 * k + (3 - j)) % 4) = 8 * j from by omega, getD_of hsk]
      unfold F.digest_Sum_l13
      simp only [hw, hw2, Int.toNat_natCast, hn8, d1, h2, h3, d2, h4, a1, br, q1, hl, decide_true, if_true, Bool.false_eq_true, if_false, hb]
      refine ⟨_, rfl, ⟨by simp [hl], ?_⟩, ?_⟩
      · intro i hi
        rw [List.getElem?_set_ne (by omega)]; exact ho i hi
      · intro i hi hij
        by_cases he : i = 4 * k + (3 - j)
        · subst he; rw [List.getElem?_set_self (by omega)]
        · rw [List.getElem?_set_ne (by omega)]; exact hin i hi (by omega))
    (fun x hx => ⟨x, ?_, ⟨hx.1.1, ?_⟩⟩) 4 0 x rfl ⟨hx, fun i hi hij => by omega⟩
  · have d1 : decide (((4 : Nat) : Int) < Int.ofNat 4) = false := by decide
    unfold F.digest_Sum_l13
    simp only [hw, hw2, Int.toNat_natCast, hn8, d1, br, Bool.false_eq_true, if_false]
  · intro i hi
    by_cases h : i < 4 * k
    · exact hx.1.2 i h
    · exact hx.2 i (by omega) (by omega)
theorem l14_out (s : List Int) (hs : St s) : ∃ r, loopD (F.digest_Sum_l14 s) (0, List.replicate 32 0) = some r ∧ Out s 32 r :=
  loop_for (N := 8) (I := fun k x => Out s (4 * k) x)
    (fun k x hk hx => by
      have h1 : (k : Int) < 8 := by omega
      have h2 : Go.IntKind.wrap .i64 ((k : Int) + 1) = (k : Int) + 1 := wrap_i64 _ (by omega) (by omega)
      have hw : Go.IntKind.wrap .i64 (4 * (k : Int)) = ((4 * k : Nat) : Int) := by rw [wrap_i64 _ (by omega) (by omega)]; omega
      have hw2 : Go.IntKind.wrap .i64 (((4 * k : Nat) : Int) + 4) = ((4 * k + 4 : Nat) : Int) := by rw [wrap_i64 _ (by omega) (by omega)]; omega
      have a1 : inB (k : Int) 8 = true := by simp [inB]; omega
      have q1 : k < s.length := by rw [hs.1]; exact hk
      have d1 : decide ((0 : Int) ≤ ((4 * k : Nat) : Int) ∧ ((4 * k : Nat) : Int) ≤ ((4 * k + 4 : Nat) : Int) ∧ ((4 * k + 4 : Nat) : Int) ≤ 32) = true := by rw [decide_eq_true_eq]; omega
      obtain ⟨r, hr, hrl⟩ := l13_out s hs k hk x x hx
      rw [getD_of q1] at hr
      unfold F.digest_Sum_l14
      simp only [h1, h2, hw, hw2, a1, Int.toNat_natCast, List.getElem?_eq_getElem q1, d1, br, bd, jn, lp, hr, Option.bind_some, decide_true, if_true]
      exact ⟨r, rfl, hrl⟩)
    (fun x hx => ⟨x, by simp [F.digest_Sum_l14, br], hx⟩) 8 0 _ rfl ⟨List.length_replicate, fun i hi => by omega⟩
theorem Sum_l1_out (s : List Int) (hs : St s) : ∃ r, loopD (F.testamurref02_Sum_l1 s) (0, List.replicate 32 0) = some r ∧ Out s 32 r :=
  loop_for (N := 32) (I := fun k x => Out s k x)
    (fun k x hk hx => by
      have h1 : (k : Int) < 32 := by omega
      have h2 : Go.IntKind.wrap .i64 ((k : Int) + 1) = (k : Int) + 1 := wrap_i64 _ (by omega) (by omega)
      have hd : Go.IntKind.wrap .i64 (Int.tdiv (k : Int) 4) = ((k / 4 : Nat) : Int) := by
        rw [show Int.tdiv (k : Int) 4 = ((k / 4 : Nat) : Int) from rfl, wrap_i64 _ (by omega) (by omega)]
      have hm : Go.IntKind.wrap .i64 (24 - Go.IntKind.wrap .i64 (8 * Int.tmod (k : Int) 4)) = ((24 - 8 * (k % 4) : Nat) : Int) := by
        rw [show Int.tmod (k : Int) 4 = ((k % 4 : Nat) : Int) from rfl, wrap_i64 (8 * ((k % 4 : Nat) : Int)) (by omega) (by omega), wrap_i64 _ (by omega) (by omega)]; omega
      have d2 : decide (((24 - 8 * (k % 4) : Nat) : Int) < 0) = false := by rw [decide_eq_false_iff_not]; omega
      have a1 : inB ((k / 4 : Nat) : Int) 8 = true := by simp only [inB, Bool.and_eq_true, decide_eq_true_eq]; exact ⟨by omega, by show ((k / 4 : Nat) : Int) < ((8 : Nat) : Int); omega⟩
      have a2 : inB (k : Int) 32 = true := by simp [inB]; omega
      have q1 : k / 4 < s.length := by rw [hs.1]; omega
      obtain ⟨hl, ho⟩ := hx
      unfold F.testamurref02_Sum_l1
      simp only [h1, h2, hd, hm, d2, a1, a2, Int.toNat_natCast, List.getElem?_eq_getElem q1, br, bd, hl, hk, Option.bind_some, decide_true, if_true, Bool.false_eq_true, if_false]
      refine ⟨_, rfl, by simp [hl], ?_⟩
      intro i hi
      by_cases he : i = k
      · subst he; rw [List.getElem?_set_self (by omega)]; unfold byteOf; rw [getD_of q1]
      · rw [List.getElem?_set_ne (by omega)]; exact ho i (by omega))
    (fun x hx => ⟨x, by simp [F.testamurref02_Sum_l1, br], hx⟩) 32 0 _ rfl ⟨List.length_replicate, fun i hi => by omega⟩
/-- Both write the same bytes. -/
theorem out_eq (s : List Int) (hs : St s) : ∃ d, loopD (F.digest_Sum_l14 s) (0, List.replicate 32 0) = some d ∧ loopD (F.testamurref02_Sum_l1 s) (0, List.replicate 32 0) = some d ∧ d.length = 32 := by
  obtain ⟨d, h1, h2⟩ := l14_out s hs
  obtain ⟨d', h3, h4⟩ := Sum_l1_out s hs
  obtain rfl := Out_unique h2 h4
  exact ⟨d, h1, h3, h2.1⟩

/-! the message's end -/
def lenByte (L : Nat) (k : Nat) : Int := Go.IntKind.wrap .u8 (shrI .u64 (Go.IntKind.wrap .u64 ((Go.IntKind.wrap .u64 (Int.ofNat L)) * 8)) ((8 * k : Nat) : Int))
def lenBytes (L : Nat) : List Int := [lenByte L 7, lenByte L 6, lenByte L 5, lenByte L 4, lenByte L 3, lenByte L 2, lenByte L 1, lenByte L 0]
theorem padded_l0_eq (z : Nat) : ∀ x : List Int, (x.length + z) % 64 = 56 → z < 64 → x.length + z ≤ 70368744177664 → loopD F.testamurref02_padded_l0 x = some (x ++ List.replicate z 0) := by
  induction z with
  | zero =>
    intro x h1 _ _
    refine loopD_last ?_
    have : ((Int.tmod (Int.ofNat x.length) 64) != 56) = false := by
      rw [show Int.tmod (Int.ofNat x.length) 64 = ((x.length % 64 : Nat) : Int) from rfl, show x.length % 64 = 56 from by omega]; rfl
    unfold F.testamurref02_padded_l0
    simp only [this, br, Bool.false_eq_true, if_false, List.replicate_zero, List.append_nil]
  | succ z ih =>
    intro x h1 h2 h3
    refine loopD_next (s' := x ++ [0]) ?_ ?_
    · have e : ((Int.tmod (Int.ofNat x.length) 64) != 56) = true := by
        rw [show Int.tmod (Int.ofNat x.length) 64 = ((x.length % 64 : Nat) : Int) from rfl]
        simp only [bne_iff_ne, ne_eq]
        omega
      unfold F.testamurref02_padded_l0
      simp only [e, br, ap, if_true]
      exact if_pos (by rw [decide_eq_true_eq]; simp only [List.length_cons, List.length_nil]; omega)
    · rw [ih (x ++ [0]) (by simp; omega) (by omega) (by simp; omega)]
      rw [List.append_assoc, List.replicate_succ]; rfl
theorem padded_l1_step (a x : List Int) (k : Nat) (hk : k < 8) (hx : x.length < 70368744177664) : F.testamurref02_padded_l1 a ((k : Int), x) = some (.inl ((k : Int) - 1, x ++ [lenByte a.length k])) := by
  have d1 : decide ((k : Int) ≥ 0) = true := by rw [decide_eq_true_eq]; omega
  have h3 : Go.IntKind.wrap .i64 (8 * (k : Int)) = ((8 * k : Nat) : Int) := by rw [wrap_i64 _ (by omega) (by omega)]; omega
  have d2 : decide (((8 * k : Nat) : Int) < 0) = false := by rw [decide_eq_false_iff_not]; omega
  have h4 : Go.IntKind.wrap .i64 ((k : Int) - 1) = (k : Int) - 1 := by
    rcases Nat.eq_zero_or_pos k with rfl | h
    · decide
    · exact wrap_i64 _ (by omega) (by omega)
  unfold F.testamurref02_padded_l1
  simp only [d1, h3, d2, h4, br, ap, if_true, Bool.false_eq_true, if_false]
  exact if_pos (by rw [decide_eq_true_eq]; simp only [List.length_cons, List.length_nil]; omega)
theorem padded_eq (a : List Int) (z : Nat) (h1 : (a.length + 1 + z) % 64 = 56) (h2 : z < 64) (h3 : a.length ≤ 35184372088832) : F.testamurref02_padded a = some ((a ++ [128]) ++ List.replicate z 0 ++ lenBytes a.length) := by
  have c1 : decide (a.length * 1 ≤ 2 ^ 46 ∧ a.length ≤ 2 ^ 46) = true := by rw [decide_eq_true_eq]; omega
  have c2 : decide ((List.length a + List.length [(128 : Int)]) * 1 ≤ 2 ^ 46 ∧ (List.length a + List.length [(128 : Int)]) ≤ 2 ^ 46) = true := by
    rw [decide_eq_true_eq]; simp only [List.length_cons, List.length_nil]; omega
  have e := padded_l0_eq z (a ++ [128]) (by simpa using h1) h2 (by simp; omega)
  have hl : ((a ++ [128]) ++ List.replicate z (0 : Int)).length + 8 ≤ 70368744177664 := by simp; omega
  generalize (a ++ [128]) ++ List.replicate z (0 : Int) = x at e hl ⊢
  have e2 : loopD (F.testamurref02_padded_l1 a) (7, x) = some (x ++ lenBytes a.length) := by
    refine loopD_next (padded_l1_step a _ 7 (by omega) (by omega)) (loopD_next (padded_l1_step a _ 6 (by omega) (by simp; omega)) (loopD_next (padded_l1_step a _ 5 (by omega) (by simp; omega)) (loopD_next (padded_l1_step a _ 4 (by omega) (by simp; omega)) (loopD_next (padded_l1_step a _ 3 (by omega) (by simp; omega)) (loopD_next (padded_l1_step a _ 2 (by omega) (by simp; omega)) (loopD_next (padded_l1_step a _ 1 (by omega) (by simp; omega)) (loopD_next (padded_l1_step a _ 0 (by omega) (by simp; omega)) (loopD_last ?_))))))))
    have d : decide ((((0 : Nat) : Int) - 1) ≥ 0) = false := by decide
    unfold F.testamurref02_padded_l1
    simp only [d, br, Bool.false_eq_true, if_false, List.append_assoc]
    rfl
  unfold F.testamurref02_padded
  simp only [c1, ap, lp, e, e2, Option.bind_some, if_true]
  exact if_pos (by rw [decide_eq_true_eq]; simp only [List.length_cons, List.length_nil]; omega)
theorem l6_eq (n : Nat) (hn : n = 64 ∨ n = 128) (a x : List Int) (hx : x.length = 128) : ∃ r, loopD (F.digest_Sum_l6 n a) (0, x) = some r ∧ r.length = 128 ∧ List.take n r = List.take (n - 8) x ++ lenBytes a.length := by
  have hw : Go.IntKind.wrap .i64 (Int.ofNat n - 8) = ((n - 8 : Nat) : Int) := by
    show Go.IntKind.wrap .i64 (((n : Nat) : Int) - 8) = _
    rw [wrap_i64 _ (by omega) (by omega)]; omega
  have hn8 : n - (n - 8) = 8 := by omega
  obtain ⟨r, h1, h2, h3, h4⟩ := loop_for (step := F.digest_Sum_l6 n a) (N := 8) (I := fun k y => y.length = 128 ∧ (∀ i, i < n - 8 → y[i]? = x[i]?) ∧ ∀ j, j < k → y[n - 8 + (7 - j)]? = some (lenByte a.length j))
    (Q := fun y => y.length = 128 ∧ (∀ i, i < n - 8 → y[i]? = x[i]?) ∧ ∀ j, j < 8 → y[n - 8 + (7 - j)]? = some (lenByte a.length j))
    (fun k y hk hx => by
      obtain ⟨g1, g2, g3⟩ := hx
      have d1 : decide ((k : Int) < Int.ofNat 8) = true := by rw [decide_eq_true_eq]; show ((k : Nat) : Int) < ((8 : Nat) : Int); omega
      have h2 : Go.IntKind.wrap .i64 ((k : Int) + 1) = (k : Int) + 1 := wrap_i64 _ (by omega) (by omega)
      have h3 : Go.IntKind.wrap .i64 (8 * (k : Int)) = ((8 * k : Nat) : Int) := by rw [wrap_i64 _ (by omega) (by omega)]; omega
      have d2 : decide (((8 * k : Nat) : Int) < 0) = false := by rw [decide_eq_false_iff_not]; omega
      have h4 : Go.IntKind.wrap .i64 (Go.IntKind.wrap .i64 (Int.ofNat 8 - 1) - (k : Int)) = ((7 - k : Nat) : Int) := by
        have : Go.IntKind.wrap .i64 (Int.ofNat 8 - 1) = 7 := by decide
        rw [this, wrap_i64 _ (by omega) (by omega)]; omega
      have a1 : inB ((7 - k : Nat) : Int) 8 = true := by simp only [inB, Bool.and_eq_true, decide_eq_true_eq]; exact ⟨by omega, by show ((7 - k : Nat) : Int) < ((8 : Nat) : Int); omega⟩
      have q1 : n - 8 + (7 - k) < y.length := by omega
      unfold F.digest_Sum_l6
      simp only [hw, Int.toNat_natCast, hn8, d1, h2, h3, d2, h4, a1, br, jn, List.getElem?_eq_getElem q1, Option.bind_some, if_true, Bool.false_eq_true, if_false]
      refine ⟨_, rfl, by simp [g1], ?_, ?_⟩
      · intro i hi
        rw [List.getElem?_set_ne (by omega)]; exact g2 i hi
      · intro j hj
        by_cases he : j = k
        · subst he; rw [List.getElem?_set_self (by omega)]; rfl
        · rw [List.getElem?_set_ne (by omega)]; exact g3 j (by omega))
    (fun y hy => ⟨y, by
      have d1 : decide (((8 : Nat) : Int) < Int.ofNat 8) = false := by decide
      unfold F.digest_Sum_l6
      simp only [hw, Int.toNat_natCast, hn8, d1, br, Bool.false_eq_true, if_false], hy⟩) 8 0 x rfl ⟨hx, fun _ _ => rfl, fun j hj => by omega⟩
  refine ⟨r, h1, h2, ?_⟩
  apply List.ext_getElem?
  intro i
  by_cases hi : i < n
  · rw [List.getElem?_take_of_lt hi]
    by_cases hi2 : i < n - 8
    · rw [List.getElem?_append_left (by simp; omega), List.getElem?_take_of_lt hi2, h3 i hi2]
    · rw [List.getElem?_append_right (by simp; omega)]
      have e := h4 (7 - (i - (n - 8))) (by omega)
      rw [show n - 8 + (7 - (7 - (i - (n - 8)))) = i from by omega] at e
      rw [e]
      have hl : (List.take (n - 8) x).length = n - 8 := by simp; omega
      rw [hl]
      generalize hj : i - (n - 8) = j
      have : j = 0 ∨ j = 1 ∨ j = 2 ∨ j = 3 ∨ j = 4 ∨ j = 5 ∨ j = 6 ∨ j = 7 := by omega
      rcases this with rfl | rfl | rfl | rfl | rfl | rfl | rfl | rfl <;> rfl
  · rw [List.getElem?_eq_none (by simp; omega), List.getElem?_eq_none (by simp [lenBytes]; omega)]
/-- The program's hash is the reference's. -/
theorem Sum_eq (a : List Int) (ha : a.length ≤ 35184372088832) : ∃ d, F.digest_Sum a = some d ∧ F.testamurref02_Sum a = some d ∧ d.length = 32 := by
  have hG : St G0 := ⟨rfl, by decide⟩
  have hq : a.length / 64 = a.length / 64 := rfl
  obtain ⟨st, h1, h2, h3⟩ := l5_eq (a.length / 64) a G0 hG rfl
  have hmd : List.drop (64 * (a.length / 64)) a = List.drop (64 * (a.length / 64)) a := rfl
  generalize hm : List.drop (64 * (a.length / 64)) a = m at h1
  have hml : m.length = a.length - 64 * (a.length / 64) := by rw [← hm]; simp
  have hm64 : m.length < 64 := by omega
  have hb0 : (splice (rep 128 0) 0 (List.take 64 m)).set m.length 128 = m ++ 128 :: List.replicate (127 - m.length) 0 := by
    rw [List.take_of_length_le (by omega)]
    simp only [splice, rep, List.take_zero, List.nil_append, Nat.zero_add, List.drop_replicate]
    rw [List.set_append_right _ _ (Nat.le_refl _), Nat.sub_self, show 128 - m.length = (127 - m.length) + 1 from by omega, List.replicate_succ]
    rfl
  have hsl : (splice (rep 128 0) 0 (List.take 64 m)).length = 128 := by
    simp only [splice, List.length_append, List.length_take, List.length_drop, length_rep]; omega
  have d1 : decide (0 + 64 ≤ (rep 128 0).length) = true := by rw [length_rep]; decide
  have a1 : inB (Int.ofNat m.length) 64 = true := by simp only [inB, Bool.and_eq_true, decide_eq_true_eq]; exact ⟨by show (0 : Int) ≤ ((m.length : Nat) : Int); omega, by show ((m.length : Nat) : Int) < ((64 : Nat) : Int); omega⟩
  have ht : Int.toNat (Int.ofNat m.length) = m.length := rfl
  have q1 : m.length < (splice (rep 128 0) 0 (List.take 64 m)).length := by omega
  have key : ∀ n : Nat, n = 64 ∧ m.length ≤ 55 ∨ n = 128 ∧ 55 < m.length → ∃ d, ((br (decide (0 ≤ (Go.IntKind.wrap .i64 ((Int.ofNat n) - 8)) ∧ (Go.IntKind.wrap .i64 ((Int.ofNat n) - 8)) ≤ (Int.ofNat n) ∧ (Int.ofNat n) ≤ 128)) (jn 34 (lp 16 (F.digest_Sum_l6 n a) (0, (List.set (splice (rep 128 0) 0 (List.take 64 m)) m.length 128)) (fun r47 => some r47) : Option ((List Int))) (fun r48 => lp 33 (F.digest_Sum_l12 r48) (0, n, 128, st) (fun r90 => lp 32 (F.digest_Sum_l14 r90) (0, (List.replicate 32 0)) (fun r96 => some r96)))) (none)) : Option (List Int)) = some d ∧ F.testamurref02_Sum a = some d ∧ d.length = 32 := by
    intro n hn
    have hw : Go.IntKind.wrap .i64 (Int.ofNat n - 8) = ((n - 8 : Nat) : Int) := by
      show Go.IntKind.wrap .i64 (((n : Nat) : Int) - 8) = _
      rw [wrap_i64 _ (by omega) (by omega)]; omega
    have d2 : decide (0 ≤ ((n - 8 : Nat) : Int) ∧ ((n - 8 : Nat) : Int) ≤ Int.ofNat n ∧ Int.ofNat n ≤ 128) = true := by
      rw [decide_eq_true_eq]
      show 0 ≤ ((n - 8 : Nat) : Int) ∧ ((n - 8 : Nat) : Int) ≤ ((n : Nat) : Int) ∧ ((n : Nat) : Int) ≤ 128
      omega
    obtain ⟨b, hb, hbl, hbt⟩ := l6_eq n (by omega) a (List.set (splice (rep 128 0) 0 (List.take 64 m)) m.length 128) (by simp [hsl])
    have hn64 : n = 64 * (n / 64) := by omega
    obtain ⟨s2, g1, g2, g3⟩ := l12_eq b hbl (n / 64) 0 st h3 (by omega)
    rw [← hn64, Nat.sub_zero] at g1
    obtain ⟨d, o1, o2, o3⟩ := out_eq s2 g3
    refine ⟨d, ?_, ?_, o3⟩
    · simp only [hw, d2, br, jn, lp, hb, g1, o1, Option.bind_some, if_true]
    · have hp := padded_eq a (n - 9 - m.length) (by omega) (by omega) ha
      have et : List.take (n - 8) (m ++ 128 :: List.replicate (127 - m.length) 0) = m ++ 128 :: List.replicate (n - 9 - m.length) 0 := by
        rw [List.take_append, List.take_of_length_le (by omega), show n - 8 - m.length = (n - 9 - m.length) + 1 from by omega, List.take_succ_cons, List.take_replicate, Nat.min_eq_left (by omega)]
      rw [hb0, et] at hbt
      have hpe : (a ++ [128]) ++ List.replicate (n - 9 - m.length) 0 ++ lenBytes a.length = List.take (64 * (a.length / 64)) a ++ List.take n b := by
        rw [hbt]
        have ha2 : a = List.take (64 * (a.length / 64)) a ++ m := by rw [← hm, List.take_append_drop]
        conv => lhs; rw [ha2]
        have hlen : (List.take (64 * (a.length / 64)) a ++ m).length = a.length := by rw [← ha2]
        rw [hlen]
        simp only [List.append_assoc, List.cons_append, List.nil_append]
      have hpl : (List.take (64 * (a.length / 64)) a ++ List.take n b).length = 64 * (a.length / 64 + n / 64) := by simp; omega
      obtain ⟨k1, k2⟩ := Sum_l0_eq _ (a.length / 64 + n / 64) hpl (by rw [hpl]; omega) (a.length / 64 + n / 64) 0 G0 (by omega) hG
      have hbk : blocks (a.length / 64 + n / 64) G0 (List.drop (64 * 0) (List.take (64 * (a.length / 64)) a ++ List.take n b)) = s2 := by
        rw [show (64 * 0 : Nat) = 0 from rfl, List.drop_zero, blocks_append _ _ _ _ _ (by simp; omega), ← blocks_take _ _ _ (by omega), ← h2, g2, List.drop_zero]
        conv => rhs; rw [blocks_take _ _ _ (by omega)]
        rw [← hn64]
      rw [hbk] at k1
      unfold F.testamurref02_Sum
      rw [hp, hpe]
      have k1' : loopD (F.testamurref02_Sum_l0 (List.take (64 * (a.length / 64)) a ++ List.take n b)) (0, G0) = some s2 := k1
      simp only [jn, lp, Option.bind_some]
      rw [show (List.set (List.set (List.set (List.set (List.set (List.set (List.set (List.set (List.replicate 8 0) 0 1779033703) 1 3144134277) 2 1013904242) 3 2773480762) 4 1359893119) 5 2600822924) 6 528734635) 7 1541459225 : List Int) = G0 from rfl, k1']
      simp only [Option.bind_some, o2]
  unfold F.digest_Sum
  simp only [lp, h1, Option.bind_some, d1, a1, ht, List.getElem?_eq_getElem q1, jn, br, if_true]
  by_cases h55 : decide (Int.ofNat m.length > 55) = true
  · have : 55 < m.length := by
      have h := of_decide_eq_true h55
      have h' : (55 : Int) < ((m.length : Nat) : Int) := h
      omega
    rw [if_pos h55, Option.bind_some]
    simpa only [jn, br, lp] using key 128 (.inr ⟨rfl, this⟩)
  · have : ¬ 55 < m.length := by
      intro h
      apply h55
      rw [decide_eq_true_eq]
      show (55 : Int) < ((m.length : Nat) : Int); omega
    rw [if_neg h55, Option.bind_some]
    simpa only [jn, br, lp] using key 64 (.inl ⟨rfl, by omega⟩)
end Sp
