/- Plain law: the program's hash is the reference's: the words. -/
import Derived.Test.YtfcldaojfbbaoaaDoorPlB
set_option linter.unusedVariables false
set_option linter.unusedSimpArgs false
set_option linter.unnecessarySimpa false
open Go Ev
set_option linter.unusedSimpArgs false
set_option linter.unusedVariables false
set_option maxRecDepth 100000
namespace Sp
theorem orI_comm (k : IntKind) (x y : Int) : orI k x y = orI k y x := by unfold orI; rw [BitVec.or_comm]
theorem wrap32_nat (n : Nat) (h : n < 4294967296) : Go.IntKind.u32.wrap (n : Int) = n := wrap_u32 _ (by omega) (by omega)
theorem ofInt32 (v : BitVec 32) : BitVec.ofInt 32 (v.toNat : Int) = v := by
  rw [BitVec.ofInt_natCast]; simp
theorem and32 (x y : Int) : andI .u32 x y = (BitVec.ofInt 32 x &&& BitVec.ofInt 32 y).toNat := wrap32_nat _ (BitVec.isLt _)
theorem or32 (x y : Int) : orI .u32 x y = (BitVec.ofInt 32 x ||| BitVec.ofInt 32 y).toNat := wrap32_nat _ (BitVec.isLt _)
theorem xor32 (x y : Int) : xorI .u32 x y = (BitVec.ofInt 32 x ^^^ BitVec.ofInt 32 y).toNat := wrap32_nat _ (BitVec.isLt _)
theorem not32 (x : Int) : notI .u32 x = (~~~ BitVec.ofInt 32 x).toNat := by
  unfold notI
  rw [xor32]
  simp only [Go.IntKind.signed, Bool.false_eq_true, if_false]
  rw [show BitVec.ofInt 32 (Go.IntKind.max .u32) = BitVec.allOnes 32 from by decide, BitVec.allOnes_xor]

/-- Choice. -/
theorem ch_eq (e f g : Int) : xorI .u32 g (andI .u32 e (xorI .u32 f g)) = xorI .u32 (andI .u32 e f) (andI .u32 (notI .u32 e) g) := by
  simp only [and32, xor32, not32, ofInt32]
  congr 1
  apply congrArg BitVec.toNat
  apply BitVec.eq_of_getLsbD_eq
  intro i hi
  simp only [BitVec.getLsbD_xor, BitVec.getLsbD_and, BitVec.getLsbD_not, hi, decide_true, Bool.true_and]
  cases (BitVec.ofInt 32 e).getLsbD i <;> cases (BitVec.ofInt 32 f).getLsbD i <;> cases (BitVec.ofInt 32 g).getLsbD i <;> rfl
/-- Majority. -/
theorem maj_eq (a b c : Int) : orI .u32 (andI .u32 a b) (andI .u32 c (orI .u32 a b)) = xorI .u32 (xorI .u32 (andI .u32 a b) (andI .u32 a c)) (andI .u32 b c) := by
  simp only [and32, or32, xor32, ofInt32]
  congr 1
  apply congrArg BitVec.toNat
  apply BitVec.eq_of_getLsbD_eq
  intro i hi
  simp only [BitVec.getLsbD_xor, BitVec.getLsbD_and, BitVec.getLsbD_or]
  cases (BitVec.ofInt 32 a).getLsbD i <;> cases (BitVec.ofInt 32 b).getLsbD i <;> cases (BitVec.ofInt 32 c).getLsbD i <;> rfl

/-- Turned to the right. -/
def rorS (y : Int) (n : Int) : Int := orI .u32 (shrI .u32 y n) (shlI .u32 y (32 - n))
theorem ror_eq (y : Int) (n : Int) (h0 : 0 ≤ n) (h1 : n ≤ 32) : F.testamurref02_ror y n = some (rorS y n) := by
  have w : Go.IntKind.wrap .i64 (32 - n) = 32 - n := wrap_i64 _ (by omega) (by omega)
  have c1 : ¬ n < 0 := by omega
  have c2 : ¬ 32 - n < 0 := by omega
  unfold F.testamurref02_ror
  simp only [w, br, c1, c2, decide_false, Bool.false_eq_true, if_false, rorS]
theorem rot_eq (y k : Int) (n : Int) (h1 : andI .u64 (Go.IntKind.wrap .u64 k) 31 = 32 - n) (h2 : Go.IntKind.wrap .u64 (32 - (32 - n)) = n) (hn : 0 ≤ n) (hn2 : n ≤ 32) : F.math_bits_RotateLeft32 y k = some (rorS y n) := by
  have c1 : ¬ (32 - n < 0) := by omega
  have c2 : ¬ n < 0 := by omega
  unfold F.math_bits_RotateLeft32
  rw [h1, h2]
  simp only [br, c1, c2, decide_false, Bool.false_eq_true, if_false, rorS]
  rw [orI_comm]
theorem rotated_eq (y : Int) (a b c : Int) (ha1 : andI .u64 (Go.IntKind.wrap .u64 (Go.IntKind.wrap .i64 (0 - a))) 31 = 32 - a) (ha2 : Go.IntKind.wrap .u64 (32 - (32 - a)) = a) (ha3 : 0 ≤ a ∧ a ≤ 32)
    (hb1 : andI .u64 (Go.IntKind.wrap .u64 (Go.IntKind.wrap .i64 (0 - b))) 31 = 32 - b) (hb2 : Go.IntKind.wrap .u64 (32 - (32 - b)) = b) (hb3 : 0 ≤ b ∧ b ≤ 32)
    (hc1 : andI .u64 (Go.IntKind.wrap .u64 (Go.IntKind.wrap .i64 (0 - c))) 31 = 32 - c) (hc2 : Go.IntKind.wrap .u64 (32 - (32 - c)) = c) (hc3 : 0 ≤ c ∧ c ≤ 32) :
    F.digest_rotated y a b c = some (xorI .u32 (xorI .u32 (rorS y a) (rorS y b)) (rorS y c)) := by
  unfold F.digest_rotated
  rw [rot_eq y _ a ha1 ha2 ha3.1 ha3.2, rot_eq y _ b hb1 hb2 hb3.1 hb3.2, rot_eq y _ c hc1 hc2 hc3.1 hc3.2]
  rfl

/-! the word of four bytes -/
theorem shl32 (x : Int) (n : Nat) (hn : n ≤ 32) : shlI .u32 x (n : Int) = (BitVec.ofInt 32 x <<< n).toNat := by
  unfold shlI
  have h1 : min (Int.toNat (n : Int)) (Go.IntKind.bits .u32) = n := by
    rw [Int.toNat_natCast]; exact Nat.min_eq_left hn
  rw [h1]
  have h2 : Go.IntKind.u32.wrap (x * 2 ^ n) = ((BitVec.ofInt 32 (x * 2 ^ n)).toNat : Int) := by
    show (if (false && decide ((x * 2 ^ n % 2 ^ 32 : Int) ≥ 2 ^ (32 - 1))) = true then x * 2 ^ n % 2 ^ 32 - 2 ^ 32 else x * 2 ^ n % 2 ^ 32) = _
    simp only [Bool.false_and, Bool.false_eq_true, if_false, BitVec.toNat_ofInt]
    have : (0 : Int) ≤ x * 2 ^ n % 2 ^ 32 := Int.emod_nonneg _ (by decide)
    rw [Int.toNat_of_nonneg (by simpa using this)]
    simp
  rw [h2]
  congr 1
  apply congrArg BitVec.toNat
  rw [BitVec.shiftLeft_eq_mul_twoPow, BitVec.ofInt_mul]
  congr 1
  rw [show (2 : Int) ^ n = ((2 ^ n : Nat) : Int) from by simp, BitVec.ofInt_natCast]
  apply BitVec.eq_of_toNat_eq
  rw [BitVec.toNat_twoPow, BitVec.toNat_ofNat]
theorem word_eq (b0 b1 b2 b3 : Int) : orI .u32 (shlI .u32 (orI .u32 (shlI .u32 (orI .u32 (shlI .u32 (orI .u32 (shlI .u32 0 8) b0) 8) b1) 8) b2) 8) b3 =
    orI .u32 (orI .u32 (orI .u32 (shlI .u32 b0 24) (shlI .u32 b1 16)) (shlI .u32 b2 8)) b3 := by
  have s8 : ∀ x, shlI .u32 x 8 = (BitVec.ofInt 32 x <<< 8).toNat := fun x => shl32 x 8 (by decide)
  have s16 : ∀ x, shlI .u32 x 16 = (BitVec.ofInt 32 x <<< 16).toNat := fun x => shl32 x 16 (by decide)
  have s24 : ∀ x, shlI .u32 x 24 = (BitVec.ofInt 32 x <<< 24).toNat := fun x => shl32 x 24 (by decide)
  simp only [or32, s8, s16, s24, ofInt32]
  congr 1
  apply congrArg BitVec.toNat
  simp only [BitVec.shiftLeft_or_distrib, BitVec.shiftLeft_add, ← BitVec.shiftLeft_add, Nat.reduceAdd]
  simp

/-! two loops side by side -/
theorem loop_for2 {σ σ' R R' : Type} {step : Int × σ → Option ((Int × σ) ⊕ R)} {step' : Int × σ' → Option ((Int × σ') ⊕ R')} {N : Nat} {I : Nat → σ → σ' → Prop} {Q : R → R' → Prop}
    (hs : ∀ (k : Nat) x y, k < N → I k x y → ∃ x' y', step ((k : Int), x) = some (.inl (((k + 1 : Nat) : Int), x')) ∧ step' ((k : Int), y) = some (.inl (((k + 1 : Nat) : Int), y')) ∧ I (k + 1) x' y')
    (he : ∀ x y, I N x y → ∃ r r', step ((N : Int), x) = some (.inr r) ∧ step' ((N : Int), y) = some (.inr r') ∧ Q r r') :
    ∀ (n k : Nat) x y, n + k = N → I k x y → ∃ r r', loopD step ((k : Int), x) = some r ∧ loopD step' ((k : Int), y) = some r' ∧ Q r r'
  | 0, k, x, y, hk, hi => by
    obtain rfl : k = N := by omega
    obtain ⟨r, r', h1, h2, h3⟩ := he x y hi
    exact ⟨r, r', loopD_last h1, loopD_last h2, h3⟩
  | n + 1, k, x, y, hk, hi => by
    obtain ⟨x', y', h1, h2, h3⟩ := hs k x y (by omega) hi
    obtain ⟨r, r', h4, h5, h6⟩ := loop_for2 hs he n (k + 1) x' y' (by omega) h3
    exact ⟨r, r', loopD_next h1 h4, loopD_next h2 h5, h6⟩

/-- The word of four bytes. -/
def w4 (b0 b1 b2 b3 : Int) : Int := orI .u32 (orI .u32 (orI .u32 (shlI .u32 (Go.IntKind.wrap .u32 b0) 24) (shlI .u32 (Go.IntKind.wrap .u32 b1) 16)) (shlI .u32 (Go.IntKind.wrap .u32 b2) 8)) (Go.IntKind.wrap .u32 b3)
def wordAt (l : List Int) (k : Nat) : Int := w4 (l.getD (4 * k) 0) (l.getD (4 * k + 1) 0) (l.getD (4 * k + 2) 0) (l.getD (4 * k + 3) 0)
theorem four (l : List Int) (k : Nat) (hk : k < 16) (hl : l.length = 64) : List.take 4 (List.drop (4 * k) l) = [l.getD (4 * k) 0, l.getD (4 * k + 1) 0, l.getD (4 * k + 2) 0, l.getD (4 * k + 3) 0] := by
  apply List.ext_getElem?
  intro i
  have g : ∀ j, j < 64 → l.getD j 0 = l[j]! := by intro j hj; simp [List.getD, hl]
  by_cases hi : i < 4
  · rw [List.getElem?_take_of_lt hi, List.getElem?_drop]
    have : i = 0 ∨ i = 1 ∨ i = 2 ∨ i = 3 := by omega
    rcases this with rfl | rfl | rfl | rfl <;> simp [List.getD] <;> rw [List.getElem?_eq_getElem (by omega)] <;> rfl
  · rw [List.getElem?_eq_none (by simp; omega), List.getElem?_eq_none (by simp; omega)]
theorem l0_val (k : Nat) (hk : k < 16) (w m st : List Int) (hm : 64 ≤ m.length) : loopD (F.digest_Sum_l0 ((k : Int), w) (m, st)) (0, 0) = some (wordAt (List.take 64 m) k) := by
  have hw : Go.IntKind.wrap .i64 (4 * (k : Int)) = ((4 * k : Nat) : Int) := by rw [wrap_i64 _ (by omega) (by omega)]; omega
  have hf := four (List.take 64 m) k hk (by simp; omega)
  unfold wordAt w4
  rw [← word_eq]
  generalize (List.take 64 m).getD (4 * k) 0 = b0 at hf ⊢
  generalize (List.take 64 m).getD (4 * k + 1) 0 = b1 at hf ⊢
  generalize (List.take 64 m).getD (4 * k + 2) 0 = b2 at hf ⊢
  generalize (List.take 64 m).getD (4 * k + 3) 0 = b3 at hf ⊢
  have st : ∀ (j : Nat) (x : Int) (b : Int), [b0, b1, b2, b3][j]? = some b → F.digest_Sum_l0 ((k : Int), w) (m, st) ((j : Int), x) = some (.inl (((j + 1 : Nat) : Int), orI .u32 (shlI .u32 x 8) (Go.IntKind.wrap .u32 b))) := by
    intro j x b hb
    have hj : j < 4 := by
      have := (List.getElem?_eq_some_iff.1 hb).1
      simpa using this
    have h2 : Go.IntKind.wrap .i64 ((j : Int) + 1) = ((j + 1 : Nat) : Int) := by rw [wrap_i64 _ (by omega) (by omega)]; omega
    have hg : gi [b0, b1, b2, b3] (j : Int) = some b := by unfold gi; rw [if_pos (by omega), Int.toNat_natCast, hb]
    have d1 : decide ((j : Int) < Int.ofNat [b0, b1, b2, b3].length) = true := by rw [decide_eq_true_eq]; show ((j : Nat) : Int) < ((4 : Nat) : Int); omega
    unfold F.digest_Sum_l0
    simp only [hw, Int.toNat_natCast, hf, hg, h2, br, bd, Option.bind_some, d1, if_true]
  refine loopD_next (st 0 0 b0 rfl) (loopD_next (st 1 _ b1 rfl) (loopD_next (st 2 _ b2 rfl) (loopD_next (st 3 _ b3 rfl) (loopD_last ?_))))
  unfold F.digest_Sum_l0
  simp only [hw, Int.toNat_natCast, hf, br]
  rfl
theorem l7_val (buf st w : List Int) (off len cap k : Nat) (hk : k < 16) (hb : off + 64 ≤ buf.length) : loopD (F.digest_Sum_l7 buf (off, len, cap, st) ((k : Int), w)) (0, 0) = some (wordAt (List.take 64 (List.drop off buf)) k) := by
  have hw : Go.IntKind.wrap .i64 (4 * (k : Int)) = ((4 * k : Nat) : Int) := by rw [wrap_i64 _ (by omega) (by omega)]; omega
  have gd : ∀ j, j < 64 → buf[off + j]? = some ((List.take 64 (List.drop off buf)).getD j 0) := by
    intro j hj
    rw [List.getElem?_eq_getElem (by omega)]
    simp only [List.getD]
    rw [List.getElem?_take_of_lt hj, List.getElem?_drop, List.getElem?_eq_getElem (by omega)]
    rfl
  unfold wordAt w4
  rw [← word_eq]
  have q0 := gd (4 * k) (by omega)
  have q1 := gd (4 * k + 1) (by omega)
  have q2 := gd (4 * k + 2) (by omega)
  have q3 := gd (4 * k + 3) (by omega)
  generalize (List.take 64 (List.drop off buf)).getD (4 * k) 0 = b0 at q0 ⊢
  generalize (List.take 64 (List.drop off buf)).getD (4 * k + 1) 0 = b1 at q1 ⊢
  generalize (List.take 64 (List.drop off buf)).getD (4 * k + 2) 0 = b2 at q2 ⊢
  generalize (List.take 64 (List.drop off buf)).getD (4 * k + 3) 0 = b3 at q3 ⊢
  have st : ∀ (j : Nat) (x : Int) (b : Int), j < 4 → buf[off + (4 * k + j)]? = some b → F.digest_Sum_l7 buf (off, len, cap, st) ((k : Int), w) ((j : Int), x) = some (.inl (((j + 1 : Nat) : Int), orI .u32 (shlI .u32 x 8) (Go.IntKind.wrap .u32 b))) := by
    intro j x b hj hb
    have h1 : (j : Int) < 4 := by omega
    have h2 : Go.IntKind.wrap .i64 ((j : Int) + 1) = ((j + 1 : Nat) : Int) := by rw [wrap_i64 _ (by omega) (by omega)]; omega
    have a1 : inB (j : Int) 4 = true := by simp [inB]; omega
    rw [← Nat.add_assoc] at hb
    unfold F.digest_Sum_l7
    simp only [hw, Int.toNat_natCast, h1, h2, br, bd, a1, hb, Option.bind_some, decide_true, if_true]
  refine loopD_next (st 0 0 b0 (by omega) q0) (loopD_next (st 1 _ b1 (by omega) q1) (loopD_next (st 2 _ b2 (by omega) q2) (loopD_next (st 3 _ b3 (by omega) q3) (loopD_last ?_))))
  simp [F.digest_Sum_l7, br]
theorem word_val (l : List Int) (k : Nat) (hk : k < 16) (hl : l.length = 64) : F.testamurref02_word (List.drop (4 * k) (List.take (4 * k + 4) l)) = some (wordAt l k) := by
  have hf := four l k hk hl
  rw [List.take_drop] at hf
  rw [show 4 * k + 4 = 4 * k + 4 from rfl, hf]
  unfold F.testamurref02_word wordAt w4
  simp [gi, bd]
def setWords (l w : List Int) : Nat → List Int
  | 0 => w
  | k + 1 => (setWords l w k).set k (wordAt l k)
theorem setWords_len (l w : List Int) : ∀ k, (setWords l w k).length = w.length
  | 0 => rfl
  | k + 1 => by rw [setWords, List.length_set, setWords_len l w k]
theorem l1_val (m st w : List Int) (hm : 64 ≤ m.length) (hw : w.length = 64) : loopD (F.digest_Sum_l1 (m, st)) (0, w) = some (setWords (List.take 64 m) w 16) := by
  obtain ⟨r, h1, h2⟩ := loop_for (step := F.digest_Sum_l1 (m, st)) (N := 16) (I := fun k x => x = setWords (List.take 64 m) w k) (Q := fun r => r = setWords (List.take 64 m) w 16)
    (fun k x hk hx => by
      have hx' : x.length = 64 := by rw [hx, setWords_len, hw]
      have h1 : (k : Int) < 16 := by omega
      have h2 : Go.IntKind.wrap .i64 ((k : Int) + 1) = ((k + 1 : Nat) : Int) := by rw [wrap_i64 _ (by omega) (by omega)]; omega
      have h3 : Go.IntKind.wrap .i64 (4 * (k : Int)) = ((4 * k : Nat) : Int) := by rw [wrap_i64 _ (by omega) (by omega)]; omega
      have hl : (List.take 64 m).length = 64 := by simp; omega
      have hl2 : (List.drop (4 * k) (List.take 64 m)).length = 64 - 4 * k := by simp; omega
      have hr := l0_val k hk x m st hm
      have a1 : inB (k : Int) 64 = true := by simp [inB]; omega
      have c1 : (0 ≤ ((4 * k : Nat) : Int) ∧ ((4 * k : Nat) : Int) ≤ Int.ofNat 64 ∧ Int.ofNat 64 ≤ Int.ofNat 64) := by refine ⟨by omega, ?_, Int.le_refl _⟩; show ((4 * k : Nat) : Int) ≤ ((64 : Nat) : Int); omega
      have c2 : ((0 : Int) ≤ 0 ∧ 0 ≤ (4 : Int) ∧ (4 : Int) ≤ Int.ofNat (64 - 4 * k)) := by refine ⟨Int.le_refl _, by omega, ?_⟩; show (4 : Int) ≤ ((64 - 4 * k : Nat) : Int); omega
      have c3 : k < 64 := by omega
      unfold F.digest_Sum_l1
      simp only [h1, h2, h3, hl, hl2, Int.toNat_natCast, c1, c2, c3, br, bd, jn, lp, hr, Option.bind_some, decide_true, if_true, and_self, a1, hx']
      exact ⟨_, rfl, by rw [setWords, ← hx]⟩)
    (fun x hx => ⟨x, by simp [F.digest_Sum_l1, br], hx⟩) 16 0 w rfl rfl
  rw [← h2]; exact h1
theorem l8_val (buf st w : List Int) (off len cap : Nat) (hc : 64 ≤ cap) (hb : off + 64 ≤ buf.length) (hw : w.length = 64) : loopD (F.digest_Sum_l8 (off, len, cap, st) buf) (0, w) = some (setWords (List.take 64 (List.drop off buf)) w 16) := by
  obtain ⟨r, h1, h2⟩ := loop_for (step := F.digest_Sum_l8 (off, len, cap, st) buf) (N := 16) (I := fun k x => x = setWords (List.take 64 (List.drop off buf)) w k) (Q := fun r => r = setWords (List.take 64 (List.drop off buf)) w 16)
    (fun k x hk hx => by
      have hx' : x.length = 64 := by rw [hx, setWords_len, hw]
      have h1 : (k : Int) < 16 := by omega
      have h2 : Go.IntKind.wrap .i64 ((k : Int) + 1) = ((k + 1 : Nat) : Int) := by rw [wrap_i64 _ (by omega) (by omega)]; omega
      have h3 : Go.IntKind.wrap .i64 (4 * (k : Int)) = ((4 * k : Nat) : Int) := by rw [wrap_i64 _ (by omega) (by omega)]; omega
      have hr := l7_val buf st x off len cap k hk hb
      have a1 : inB (k : Int) 64 = true := by simp [inB]; omega
      have c1 : (0 ≤ ((4 * k : Nat) : Int) ∧ ((4 * k : Nat) : Int) ≤ 64 ∧ (64 : Int) ≤ Int.ofNat cap) := by refine ⟨by omega, by omega, ?_⟩; show (64 : Int) ≤ ((cap : Nat) : Int); omega
      have c2 : ((0 : Int) ≤ 0 ∧ (0 : Int) ≤ 4 ∧ (4 : Int) ≤ Int.ofNat (cap - 4 * k)) := by refine ⟨Int.le_refl _, by omega, ?_⟩; show (4 : Int) ≤ ((cap - 4 * k : Nat) : Int); omega
      have c3 : k < 64 := by omega
      unfold F.digest_Sum_l8
      simp only [h1, h2, h3, Int.toNat_natCast, c1, c2, c3, br, bd, jn, lp, hr, Option.bind_some, decide_true, if_true, and_self, a1, hx']
      exact ⟨_, rfl, by rw [setWords, ← hx]⟩)
    (fun x hx => ⟨x, by simp [F.digest_Sum_l8, br], hx⟩) 16 0 w rfl rfl
  rw [← h2]; exact h1
theorem bl0_val (l w : List Int) (hl : l.length = 64) (hw : w.length = 64) : loopD (F.testamurref02_block_l0 l) (0, w) = some (setWords l w 16) := by
  obtain ⟨r, h1, h2⟩ := loop_for (step := F.testamurref02_block_l0 l) (N := 16) (I := fun k x => x = setWords l w k) (Q := fun r => r = setWords l w 16)
    (fun k x hk hx => by
      have hx' : x.length = 64 := by rw [hx, setWords_len, hw]
      have h1 : (k : Int) < 16 := by omega
      have h2 : Go.IntKind.wrap .i64 ((k : Int) + 1) = ((k + 1 : Nat) : Int) := by rw [wrap_i64 _ (by omega) (by omega)]; omega
      have h3 : Go.IntKind.wrap .i64 (4 * (k : Int)) = ((4 * k : Nat) : Int) := by rw [wrap_i64 _ (by omega) (by omega)]; omega
      have h4 : Go.IntKind.wrap .i64 (((4 * k : Nat) : Int) + 4) = ((4 * k + 4 : Nat) : Int) := by rw [wrap_i64 _ (by omega) (by omega)]; omega
      have hr := word_val l k hk hl
      have a1 : inB (k : Int) 64 = true := by simp [inB]; omega
      have c1 : (0 ≤ ((4 * k : Nat) : Int) ∧ ((4 * k : Nat) : Int) ≤ ((4 * k + 4 : Nat) : Int) ∧ ((4 * k + 4 : Nat) : Int) ≤ Int.ofNat 64) := by refine ⟨by omega, by omega, ?_⟩; show ((4 * k + 4 : Nat) : Int) ≤ ((64 : Nat) : Int); omega
      have c3 : k < 64 := by omega
      unfold F.testamurref02_block_l0
      simp only [h1, h2, h3, h4, hl, Int.toNat_natCast, c1, c3, br, bd, jn, hr, Option.bind_some, decide_true, if_true, and_self, a1, hx']
      exact ⟨_, rfl, by rw [setWords, ← hx]⟩)
    (fun x hx => ⟨x, by simp [F.testamurref02_block_l0, br], hx⟩) 16 0 w rfl rfl
  rw [← h2]; exact h1

/-! the schedule -/
theorem l2_eq : F.digest_Sum_l2 = F.testamurref02_block_l1 := by
  funext x
  have p7 := fun y => rot_eq y (-7) 7 (by decide) (by decide) (by decide) (by decide)
  have p18 := fun y => rot_eq y (-18) 18 (by decide) (by decide) (by decide) (by decide)
  have p17 := fun y => rot_eq y (-17) 17 (by decide) (by decide) (by decide) (by decide)
  have p19 := fun y => rot_eq y (-19) 19 (by decide) (by decide) (by decide) (by decide)
  have r7 := fun y => ror_eq y 7 (by decide) (by decide)
  have r18 := fun y => ror_eq y 18 (by decide) (by decide)
  have r17 := fun y => ror_eq y 17 (by decide) (by decide)
  have r19 := fun y => ror_eq y 19 (by decide) (by decide)
  unfold F.digest_Sum_l2 F.testamurref02_block_l1
  simp only [p7, p18, p17, p19, r7, r18, r17, r19, jn]
end Sp
