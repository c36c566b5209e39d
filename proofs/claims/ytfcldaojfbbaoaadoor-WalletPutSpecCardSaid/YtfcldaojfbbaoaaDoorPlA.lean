/- Plain law: the hash always answers, with 32 numbers. -/
import Derived.Test.YtfcldaojfbbaoaaDoorPure
set_option linter.unusedVariables false
set_option linter.unusedSimpArgs false
set_option linter.unnecessarySimpa false
open Go Ev
set_option linter.unusedSimpArgs false
set_option linter.unusedVariables false
set_option maxRecDepth 100000
namespace Sp
theorem loop_for {σ R : Type} {step : Int × σ → Option ((Int × σ) ⊕ R)} {N : Nat} {I : Nat → σ → Prop} {Q : R → Prop}
    (hs : ∀ (k : Nat) x, k < N → I k x → ∃ x', step ((k : Int), x) = some (.inl (((k + 1 : Nat) : Int), x')) ∧ I (k + 1) x')
    (he : ∀ x, I N x → ∃ r, step ((N : Int), x) = some (.inr r) ∧ Q r) : ∀ (n k : Nat) x, n + k = N → I k x → ∃ r, loopD step ((k : Int), x) = some r ∧ Q r
  | 0, k, x, hk, hi => by
    obtain rfl : k = N := by omega
    obtain ⟨r, h1, h2⟩ := he x hi
    exact ⟨r, loopD_last h1, h2⟩
  | n + 1, k, x, hk, hi => by
    obtain ⟨x', h1, h2⟩ := hs k x (by omega) hi
    obtain ⟨r, h3, h4⟩ := loop_for hs he n (k + 1) x' (by omega) h2
    exact ⟨r, loopD_next h1 h3, h4⟩
theorem loop_while {S R : Type} {step : S → Option (S ⊕ R)} {I : S → Prop} {Q : R → Prop} (μ : S → Nat)
    (h : ∀ s, I s → (∃ s', step s = some (.inl s') ∧ I s' ∧ μ s' < μ s) ∨ (∃ r, step s = some (.inr r) ∧ Q r)) : ∀ n s, μ s ≤ n → I s → ∃ r, loopD step s = some r ∧ Q r
  | 0, s, hn, hi => by
    rcases h s hi with ⟨s', _, _, h3⟩ | ⟨r, h1, h2⟩
    · omega
    · exact ⟨r, loopD_last h1, h2⟩
  | n + 1, s, hn, hi => by
    rcases h s hi with ⟨s', h1, h2, h3⟩ | ⟨r, h1, h2⟩
    · obtain ⟨r, h4, h5⟩ := loop_while μ h n s' (by omega) h2
      exact ⟨r, loopD_next h1 h4, h5⟩
    · exact ⟨r, loopD_last h1, h2⟩

theorem rot_some (y k : Int) (h1 : decide (andI .u64 (Go.IntKind.wrap .u64 k) 31 < 0) = false) (h2 : decide (Go.IntKind.wrap .u64 (32 - andI .u64 (Go.IntKind.wrap .u64 k) 31) < 0) = false) : ∃ r, F.math_bits_RotateLeft32 y k = some r := by
  unfold F.math_bits_RotateLeft32
  rw [h1, h2]
  exact ⟨_, rfl⟩
theorem rotated_some (y : Int) (a b c : Int) (ha : decide (andI .u64 (Go.IntKind.wrap .u64 (Go.IntKind.wrap .i64 (0 - a))) 31 < 0) = false) (ha2 : decide (Go.IntKind.wrap .u64 (32 - andI .u64 (Go.IntKind.wrap .u64 (Go.IntKind.wrap .i64 (0 - a))) 31) < 0) = false)
    (hb : decide (andI .u64 (Go.IntKind.wrap .u64 (Go.IntKind.wrap .i64 (0 - b))) 31 < 0) = false) (hb2 : decide (Go.IntKind.wrap .u64 (32 - andI .u64 (Go.IntKind.wrap .u64 (Go.IntKind.wrap .i64 (0 - b))) 31) < 0) = false)
    (hc : decide (andI .u64 (Go.IntKind.wrap .u64 (Go.IntKind.wrap .i64 (0 - c))) 31 < 0) = false) (hc2 : decide (Go.IntKind.wrap .u64 (32 - andI .u64 (Go.IntKind.wrap .u64 (Go.IntKind.wrap .i64 (0 - c))) 31) < 0) = false) : ∃ r, F.digest_rotated y a b c = some r := by
  obtain ⟨x, hx⟩ := rot_some y _ ha ha2
  obtain ⟨x2, hx2⟩ := rot_some y _ hb hb2
  obtain ⟨x3, hx3⟩ := rot_some y _ hc hc2
  unfold F.digest_rotated
  rw [hx, hx2, hx3]
  exact ⟨_, rfl⟩

theorem l4_step (r36 x : List Int) (k : Nat) (hk : k < 8) (hr : r36.length = 8) (hx : x.length = 8) : ∃ x', F.digest_Sum_l4 r36 ((k : Int), x) = some (.inl (((k + 1 : Nat) : Int), x')) ∧ x'.length = 8 := by
  have h1 : (k : Int) < 8 := by omega
  have h2 : Go.IntKind.wrap .i64 ((k : Int) + 1) = (k : Int) + 1 := wrap_i64 _ (by omega) (by omega)
  simp [F.digest_Sum_l4, br, bd, inB, h1, h2, hr, hx, hk]
theorem l4_end (r36 x : List Int) (hx : x.length = 8) : ∃ r, F.digest_Sum_l4 r36 (((8 : Nat) : Int), x) = some (.inr r) ∧ r.length = 8 := by
  simp [F.digest_Sum_l4, br, hx]
theorem l4_tot (r36 x : List Int) (hr : r36.length = 8) (hx : x.length = 8) : ∃ r, loopD (F.digest_Sum_l4 r36) (0, x) = some r ∧ r.length = 8 :=
  loop_for (N := 8) (I := fun _ x => x.length = 8) (fun k x hk hx => l4_step r36 x k hk hr hx) (fun x hx => l4_end r36 x hx) 8 0 x rfl hx

theorem l11_eq : F.digest_Sum_l11 = F.digest_Sum_l4 := rfl
theorem l9_eq : F.digest_Sum_l9 = F.digest_Sum_l2 := rfl
theorem l10_eq : F.digest_Sum_l10 = F.digest_Sum_l3 := rfl

/-! the schedule -/
theorem l2_step (x : List Int) (k : Nat) (h16 : 16 ≤ k) (hk : k < 64) (hx : x.length = 64) : ∃ x', F.digest_Sum_l2 ((k : Int), x) = some (.inl (((k + 1 : Nat) : Int), x')) ∧ x'.length = 64 := by
  have h1 : (k : Int) < 64 := by omega
  have h2 : Go.IntKind.wrap .i64 ((k : Int) + 1) = (k : Int) + 1 := wrap_i64 _ (by omega) (by omega)
  have h3 : Go.IntKind.wrap .i64 ((k : Int) - 15) = ((k - 15 : Nat) : Int) := by rw [wrap_i64 _ (by omega) (by omega)]; omega
  have h4 : Go.IntKind.wrap .i64 ((k : Int) - 2) = ((k - 2 : Nat) : Int) := by rw [wrap_i64 _ (by omega) (by omega)]; omega
  have h5 : Go.IntKind.wrap .i64 ((k : Int) - 16) = ((k - 16 : Nat) : Int) := by rw [wrap_i64 _ (by omega) (by omega)]; omega
  have h6 : Go.IntKind.wrap .i64 ((k : Int) - 7) = ((k - 7 : Nat) : Int) := by rw [wrap_i64 _ (by omega) (by omega)]; omega
  have g1 : k - 15 < x.length := by omega
  have g2 : k - 2 < x.length := by omega
  have g3 : k - 16 < x.length := by omega
  have g4 : k - 7 < x.length := by omega
  obtain ⟨r1, e1⟩ := rot_some x[k - 15] (-7) (by decide) (by decide)
  obtain ⟨r2, e2⟩ := rot_some x[k - 15] (-18) (by decide) (by decide)
  obtain ⟨r3, e3⟩ := rot_some x[k - 2] (-17) (by decide) (by decide)
  obtain ⟨r4, e4⟩ := rot_some x[k - 2] (-19) (by decide) (by decide)
  have b1 : k - 15 < 64 := by omega
  have b2 : k - 2 < 64 := by omega
  have b3 : k - 16 < 64 := by omega
  have b4 : k - 7 < 64 := by omega
  have a : ∀ (m : Nat), m < 64 → inB (m : Int) 64 = true := by intro m hm; simp [inB]; omega
  unfold F.digest_Sum_l2
  simp only [h1, h2, h3, h4, h5, h6, br, bd, jn, a _ b1, a _ b2, a _ b3, a _ b4, a _ hk, Int.toNat_natCast, List.getElem?_eq_getElem g1, List.getElem?_eq_getElem g2, List.getElem?_eq_getElem g3, List.getElem?_eq_getElem g4, Option.bind_some, e1, e2, e3, e4, decide_true, if_true, hx, hk]
  exact ⟨_, rfl, by simp [hx]⟩
theorem l2_tot (x : List Int) (hx : x.length = 64) : ∃ r, loopD F.digest_Sum_l2 (16, x) = some r ∧ r.length = 64 :=
  loop_for (N := 64) (I := fun k x => 16 ≤ k ∧ x.length = 64) (fun k x hk hx => by obtain ⟨x', h1, h2⟩ := l2_step x k hx.1 hk hx.2; exact ⟨x', h1, by omega, h2⟩)
    (fun x hx => ⟨x, by simp [F.digest_Sum_l2, br], hx.2⟩) 48 16 x rfl ⟨Nat.le_refl _, hx⟩

/-! the rounds -/
theorem G1_len : G1.length = 64 := by decide
theorem l3_step (w x : List Int) (k : Nat) (hk : k < 64) (hw : w.length = 64) (hx : x.length = 8) : ∃ x', F.digest_Sum_l3 w ((k : Int), x) = some (.inl (((k + 1 : Nat) : Int), x')) ∧ x'.length = 8 := by
  have h1 : (k : Int) < 64 := by omega
  have h2 : Go.IntKind.wrap .i64 ((k : Int) + 1) = (k : Int) + 1 := wrap_i64 _ (by omega) (by omega)
  match x, hx with
  | [a, b, c, d, e, f, g, h], _ =>
    obtain ⟨r1, e1⟩ := rotated_some e 6 11 25 (by decide) (by decide) (by decide) (by decide) (by decide) (by decide)
    obtain ⟨r2, e2⟩ := rotated_some a 2 13 22 (by decide) (by decide) (by decide) (by decide) (by decide) (by decide)
    have q1 : k < G1.length := by rw [G1_len]; exact hk
    have q2 : k < w.length := by omega
    have a1 : inB (k : Int) 64 = true := by simp [inB]; omega
    unfold F.digest_Sum_l3
    simp only [h1, h2, br, bd, jn, a1, Int.toNat_natCast, List.getElem?_eq_getElem q1, List.getElem?_eq_getElem q2, Option.bind_some, e1, e2, decide_true, if_true, List.getElem?_cons_zero, List.getElem?_cons_succ, splice, List.take_succ_cons, List.take_zero, List.drop_succ_cons, List.drop_zero, List.length_cons, List.length_nil, List.cons_append, List.nil_append, List.set_cons_zero, List.set_cons_succ, Nat.reduceAdd, Nat.reduceLeDiff, Nat.reduceLT, Nat.zero_lt_succ, List.drop_nil]
    exact ⟨_, rfl, rfl⟩
theorem l3_tot (w x : List Int) (hw : w.length = 64) (hx : x.length = 8) : ∃ r, loopD (F.digest_Sum_l3 w) (0, x) = some r ∧ r.length = 8 :=
  loop_for (N := 64) (I := fun _ x => x.length = 8) (fun k x hk hx => l3_step w x k hk hw hx) (fun x hx => ⟨x, by simp [F.digest_Sum_l3, br], hx⟩) 64 0 x rfl hx

/-! the words of a block -/
theorem l0_tot (k : Nat) (hk : k < 16) (w m st : List Int) (hm : 64 ≤ m.length) : ∃ r, loopD (F.digest_Sum_l0 ((k : Int), w) (m, st)) (0, 0) = some r := by
  have hw : Go.IntKind.wrap .i64 (4 * (k : Int)) = ((4 * k : Nat) : Int) := by rw [wrap_i64 _ (by omega) (by omega)]; omega
  have hl : (List.take 4 (List.drop (4 * k) (List.take 64 m))).length = 4 := by simp; omega
  obtain ⟨r, h1, _⟩ := loop_for (step := F.digest_Sum_l0 ((k : Int), w) (m, st)) (N := 4) (I := fun _ _ => True) (Q := fun _ => True)
    (fun j x hj _ => by
      have h1 : (j : Int) < 4 := by omega
      have h2 : Go.IntKind.wrap .i64 ((j : Int) + 1) = (j : Int) + 1 := wrap_i64 _ (by omega) (by omega)
      have hj' : j < (List.take 4 (List.drop (4 * k) (List.take 64 m))).length := by omega
      have hg : gi (List.take 4 (List.drop (4 * k) (List.take 64 m))) (j : Int) = some ((List.take 4 (List.drop (4 * k) (List.take 64 m)))[j]) := by
        unfold gi
        rw [if_pos (by omega), Int.toNat_natCast, List.getElem?_eq_getElem hj']
      unfold F.digest_Sum_l0
      simp only [hw, Int.toNat_natCast, hl, hg, h2, br, bd, Option.bind_some]
      rw [if_pos (by simpa using h1)]
      exact ⟨_, rfl, trivial⟩)
    (fun x _ => by
      unfold F.digest_Sum_l0
      simp only [hw, Int.toNat_natCast, hl, br]
      exact ⟨x, by simp, trivial⟩) 4 0 0 rfl trivial
  exact ⟨r, h1⟩
theorem l1_tot (m st w : List Int) (hm : 64 ≤ m.length) (hw : w.length = 64) : ∃ r, loopD (F.digest_Sum_l1 (m, st)) (0, w) = some r ∧ r.length = 64 :=
  loop_for (N := 16) (I := fun _ x => x.length = 64)
    (fun k x hk hx => by
      have h1 : (k : Int) < 16 := by omega
      have h2 : Go.IntKind.wrap .i64 ((k : Int) + 1) = (k : Int) + 1 := wrap_i64 _ (by omega) (by omega)
      have h3 : Go.IntKind.wrap .i64 (4 * (k : Int)) = ((4 * k : Nat) : Int) := by rw [wrap_i64 _ (by omega) (by omega)]; omega
      have hl : (List.take 64 m).length = 64 := by simp; omega
      have hl2 : (List.drop (4 * k) (List.take 64 m)).length = 64 - 4 * k := by simp; omega
      obtain ⟨r, hr⟩ := l0_tot k hk x m st hm
      have a1 : inB (k : Int) 64 = true := by simp [inB]; omega
      have c1 : (0 ≤ ((4 * k : Nat) : Int) ∧ ((4 * k : Nat) : Int) ≤ Int.ofNat 64 ∧ Int.ofNat 64 ≤ Int.ofNat 64) := by refine ⟨by omega, ?_, Int.le_refl _⟩; show ((4 * k : Nat) : Int) ≤ ((64 : Nat) : Int); omega
      have c2 : ((0 : Int) ≤ 0 ∧ 0 ≤ (4 : Int) ∧ (4 : Int) ≤ Int.ofNat (64 - 4 * k)) := by refine ⟨Int.le_refl _, by omega, ?_⟩; show (4 : Int) ≤ ((64 - 4 * k : Nat) : Int); omega
      have c3 : k < 64 := by omega
      unfold F.digest_Sum_l1
      simp only [h1, h2, h3, hl, hl2, Int.toNat_natCast, c1, c2, c3, br, bd, jn, lp, hr, Option.bind_some, decide_true, if_true, and_self, a1, hx]
      exact ⟨_, rfl, by simp [hx]⟩)
    (fun x hx => ⟨x, by simp [F.digest_Sum_l1, br], hx⟩) 16 0 w rfl hw

/-! whole blocks -/
theorem l5_tot (a st : List Int) (hs : st.length = 8) : ∃ r : List Int × List Int, loopD F.digest_Sum_l5 (a, st) = some r ∧ r.1.length < 64 ∧ r.2.length = 8 :=
  loop_while (I := fun x : List Int × List Int => x.2.length = 8) (fun x => x.1.length)
    (fun x hx => by
      obtain ⟨m, st⟩ := x
      simp only at hx
      by_cases hm : 64 ≤ m.length
      · left
        obtain ⟨w, hw, hwl⟩ := l1_tot m st (List.replicate 64 0) hm (by simp)
        obtain ⟨w2, hw2, hwl2⟩ := l2_tot w hwl
        obtain ⟨s2, hs2, hsl2⟩ := l3_tot w2 st hwl2 hx
        obtain ⟨s3, hs3, hsl3⟩ := l4_tot s2 st hsl2 hx
        have c1 : (Int.ofNat m.length) ≥ 64 := by show (64 : Int) ≤ ((m.length : Nat) : Int); omega
        have c2 : ((0 : Int) ≤ 0 ∧ (0 : Int) ≤ 64 ∧ (64 : Int) ≤ Int.ofNat m.length) := ⟨Int.le_refl _, by omega, c1⟩
        have c3 : ((0 : Int) ≤ 64 ∧ (64 : Int) ≤ Int.ofNat m.length ∧ Int.ofNat m.length ≤ Int.ofNat m.length) := ⟨by omega, c1, Int.le_refl _⟩
        refine ⟨(List.drop 64 m, s3), ?_, hsl3, by simp; omega⟩
        unfold F.digest_Sum_l5
        simp only [c1, c2, c3, br, jn, lp, hw, hw2, hs2, hs3, Option.bind_some, decide_true, if_true, and_self]
        simp
      · right
        have c1 : ¬ (Int.ofNat m.length) ≥ 64 := by show ¬ (64 : Int) ≤ ((m.length : Nat) : Int); omega
        refine ⟨(m, st), ?_, by simp only; omega, hx⟩
        unfold F.digest_Sum_l5
        simp only [c1, br, decide_false, Bool.false_eq_true, if_false]) _ _ (Nat.le_refl _) hs

/-! the last blocks -/
theorem l7_tot (buf st w : List Int) (off len cap k : Nat) (hk : k < 16) (hb : off + 4 * k + 4 ≤ buf.length) : ∃ r, loopD (F.digest_Sum_l7 buf (off, len, cap, st) ((k : Int), w)) (0, 0) = some r := by
  have hw : Go.IntKind.wrap .i64 (4 * (k : Int)) = ((4 * k : Nat) : Int) := by rw [wrap_i64 _ (by omega) (by omega)]; omega
  obtain ⟨r, h1, _⟩ := loop_for (step := F.digest_Sum_l7 buf (off, len, cap, st) ((k : Int), w)) (N := 4) (I := fun _ _ => True) (Q := fun _ => True)
    (fun j x hj _ => by
      have h1 : (j : Int) < 4 := by omega
      have h2 : Go.IntKind.wrap .i64 ((j : Int) + 1) = (j : Int) + 1 := wrap_i64 _ (by omega) (by omega)
      have a1 : inB (j : Int) 4 = true := by simp [inB]; omega
      have hj' : off + 4 * k + j < buf.length := by omega
      unfold F.digest_Sum_l7
      simp only [hw, Int.toNat_natCast, h1, h2, br, bd, a1, List.getElem?_eq_getElem hj', Option.bind_some, decide_true, if_true]
      exact ⟨_, rfl, trivial⟩)
    (fun x _ => ⟨x, by simp [F.digest_Sum_l7, br], trivial⟩) 4 0 0 rfl trivial
  exact ⟨r, h1⟩
theorem l8_tot (buf st w : List Int) (off len cap : Nat) (hc : 64 ≤ cap) (hb : off + 64 ≤ buf.length) (hw : w.length = 64) : ∃ r, loopD (F.digest_Sum_l8 (off, len, cap, st) buf) (0, w) = some r ∧ r.length = 64 :=
  loop_for (N := 16) (I := fun _ x => x.length = 64)
    (fun k x hk hx => by
      have h1 : (k : Int) < 16 := by omega
      have h2 : Go.IntKind.wrap .i64 ((k : Int) + 1) = (k : Int) + 1 := wrap_i64 _ (by omega) (by omega)
      have h3 : Go.IntKind.wrap .i64 (4 * (k : Int)) = ((4 * k : Nat) : Int) := by rw [wrap_i64 _ (by omega) (by omega)]; omega
      obtain ⟨r, hr⟩ := l7_tot buf st x off len cap k hk (by omega)
      have a1 : inB (k : Int) 64 = true := by simp [inB]; omega
      have c1 : (0 ≤ ((4 * k : Nat) : Int) ∧ ((4 * k : Nat) : Int) ≤ 64 ∧ (64 : Int) ≤ Int.ofNat cap) := by refine ⟨by omega, by omega, ?_⟩; show (64 : Int) ≤ ((cap : Nat) : Int); omega
      have c2 : ((0 : Int) ≤ 0 ∧ (0 : Int) ≤ 4 ∧ (4 : Int) ≤ Int.ofNat (cap - 4 * k)) := by refine ⟨Int.le_refl _, by omega, ?_⟩; show (4 : Int) ≤ ((cap - 4 * k : Nat) : Int); omega
      have c3 : k < 64 := by omega
      have d1 := decide_eq_true c1
      have d2 := decide_eq_true c2
      unfold F.digest_Sum_l8
      simp only [h1, h2, h3, Int.toNat_natCast, c1, c2, c3, br, bd, jn, lp, hr, Option.bind_some, decide_true, if_true, and_self, a1, hx]
      exact ⟨_, rfl, by simp [hx]⟩)
    (fun x hx => ⟨x, by simp [F.digest_Sum_l8, br], hx⟩) 16 0 w rfl hw
theorem l12_tot (buf : List Int) (hb : buf.length = 128) (n : Nat) (hn : n = 64 ∨ n = 128) (st : List Int) (hs : st.length = 8) : ∃ r : List Int, loopD (F.digest_Sum_l12 buf) (0, n, 128, st) = some r ∧ r.length = 8 :=
  loop_while (I := fun x : Nat × Nat × Nat × List Int => x.1 + x.2.1 = n ∧ x.2.2.1 = 128 - x.1 ∧ (x.2.1 = 0 ∨ x.2.1 = 64 ∨ x.2.1 = 128) ∧ x.2.2.2.length = 8) (fun x => x.2.1)
    (fun x hx => by
      obtain ⟨off, len, cap, st⟩ := x
      simp only at hx
      obtain ⟨g1, g2, g3, g4⟩ := hx
      by_cases hm : 0 < len
      · left
        have h64 : 64 ≤ len := by omega
        have hcap : 64 ≤ cap := by omega
        obtain ⟨w, hw, hwl⟩ := l8_tot buf st (List.replicate 64 0) off len cap hcap (by omega) (by simp)
        obtain ⟨w2, hw2, hwl2⟩ := l2_tot w hwl
        obtain ⟨s2, hs2, hsl2⟩ := l3_tot w2 st hwl2 g4
        obtain ⟨s3, hs3, hsl3⟩ := l4_tot s2 st hsl2 g4
        have d1 : decide (Int.ofNat len > 0) = true := by rw [decide_eq_true_eq]; show (0 : Int) < ((len : Nat) : Int); omega
        have d2 : decide ((0 : Int) ≤ 0 ∧ (0 : Int) ≤ 64 ∧ (64 : Int) ≤ Int.ofNat cap) = true := by rw [decide_eq_true_eq]; refine ⟨Int.le_refl _, by omega, ?_⟩; show (64 : Int) ≤ ((cap : Nat) : Int); omega
        have d3 : decide ((0 : Int) ≤ 64 ∧ (64 : Int) ≤ Int.ofNat len ∧ Int.ofNat len ≤ Int.ofNat cap) = true := by
          rw [decide_eq_true_eq]; refine ⟨by omega, ?_, ?_⟩
          · show (64 : Int) ≤ ((len : Nat) : Int); omega
          · show ((len : Nat) : Int) ≤ ((cap : Nat) : Int); omega
        refine ⟨(off + 64, len - 64, cap - 64, s3), ?_, ⟨by simp only; omega, by simp only; omega, by simp only; omega, hsl3⟩, by simp only; omega⟩
        unfold F.digest_Sum_l12
        rw [← l9_eq] at hw2
        rw [← l10_eq] at hs2
        rw [← l11_eq] at hs3
        simp only [of_decide_eq_true d1, of_decide_eq_true d2, of_decide_eq_true d3, br, jn, lp, hw, hw2, hs2, hs3, Option.bind_some, decide_true, if_true, and_self]
        simp
      · right
        have d1 : decide (Int.ofNat len > 0) = false := by rw [decide_eq_false_iff_not]; show ¬ (0 : Int) < ((len : Nat) : Int); omega
        refine ⟨st, ?_, g4⟩
        unfold F.digest_Sum_l12
        simp only [d1, br, Bool.false_eq_true, if_false]) _ _ (Nat.le_refl _) ⟨by simp, rfl, by simp only; omega, hs⟩

/-! the length behind the message -/
theorem l6_tot (n : Nat) (hn : n = 64 ∨ n = 128) (a x : List Int) (hx : x.length = 128) : ∃ r, loopD (F.digest_Sum_l6 n a) (0, x) = some r ∧ r.length = 128 := by
  have hw : Go.IntKind.wrap .i64 (Int.ofNat n - 8) = ((n - 8 : Nat) : Int) := by
    show Go.IntKind.wrap .i64 (((n : Nat) : Int) - 8) = _
    rw [wrap_i64 _ (by omega) (by omega)]; omega
  have hn8 : n - (n - 8) = 8 := by omega
  refine loop_for (step := F.digest_Sum_l6 n a) (N := 8) (I := fun _ x => x.length = 128)
    (fun k x hk hx => by
      have d1 : decide ((k : Int) < Int.ofNat 8) = true := by rw [decide_eq_true_eq]; show ((k : Nat) : Int) < ((8 : Nat) : Int); omega
      have h2 : Go.IntKind.wrap .i64 ((k : Int) + 1) = (k : Int) + 1 := wrap_i64 _ (by omega) (by omega)
      have h3 : Go.IntKind.wrap .i64 (8 * (k : Int)) = 8 * (k : Int) := wrap_i64 _ (by omega) (by omega)
      have d2 : decide (8 * (k : Int) < 0) = false := by rw [decide_eq_false_iff_not]; omega
      have h4 : Go.IntKind.wrap .i64 (Go.IntKind.wrap .i64 (Int.ofNat 8 - 1) - (k : Int)) = ((7 - k : Nat) : Int) := by
        have : Go.IntKind.wrap .i64 (Int.ofNat 8 - 1) = 7 := by decide
        rw [this, wrap_i64 _ (by omega) (by omega)]; omega
      have a1 : inB ((7 - k : Nat) : Int) 8 = true := by simp only [inB, Bool.and_eq_true, decide_eq_true_eq]; exact ⟨by omega, by show ((7 - k : Nat) : Int) < ((8 : Nat) : Int); omega⟩
      have q1 : n - 8 + (7 - k) < x.length := by omega
      unfold F.digest_Sum_l6
      simp only [hw, Int.toNat_natCast, hn8, d1, h2, h3, d2, h4, a1, br, jn, List.getElem?_eq_getElem q1, Option.bind_some, if_true, Bool.false_eq_true, if_false]
      exact ⟨_, rfl, by simp [hx]⟩)
    (fun x hx => ⟨x, ?_, hx⟩) 8 0 x rfl hx
  have d1 : decide (((8 : Nat) : Int) < Int.ofNat 8) = false := by decide
  unfold F.digest_Sum_l6
  simp only [hw, Int.toNat_natCast, hn8, d1, br, Bool.false_eq_true, if_false]

/-! the words written out -/
theorem l13_tot (k : Nat) (hk : k < 8) (z x : List Int) (y : Int) (hx : x.length = 32) : ∃ r, loopD (F.digest_Sum_l13 ((k : Int), z) y) (0, x) = some r ∧ r.length = 32 := by
  have hw : Go.IntKind.wrap .i64 (4 * (k : Int)) = ((4 * k : Nat) : Int) := by rw [wrap_i64 _ (by omega) (by omega)]; omega
  have hw2 : Go.IntKind.wrap .i64 (((4 * k : Nat) : Int) + 4) = ((4 * k + 4 : Nat) : Int) := by rw [wrap_i64 _ (by omega) (by omega)]; omega
  have hn8 : 4 * k + 4 - 4 * k = 4 := by omega
  refine loop_for (step := F.digest_Sum_l13 ((k : Int), z) y) (N := 4) (I := fun _ x => x.length = 32)
    (fun j x hj hx => by
      have d1 : decide ((j : Int) < Int.ofNat 4) = true := by rw [decide_eq_true_eq]; show ((j : Nat) : Int) < ((4 : Nat) : Int); omega
      have h2 : Go.IntKind.wrap .i64 ((j : Int) + 1) = (j : Int) + 1 := wrap_i64 _ (by omega) (by omega)
      have h3 : Go.IntKind.wrap .i64 (8 * (j : Int)) = 8 * (j : Int) := wrap_i64 _ (by omega) (by omega)
      have d2 : decide (8 * (j : Int) < 0) = false := by rw [decide_eq_false_iff_not]; omega
      have h4 : Go.IntKind.wrap .i64 (Go.IntKind.wrap .i64 (Int.ofNat 4 - 1) - (j : Int)) = ((3 - j : Nat) : Int) := by
        have : Go.IntKind.wrap .i64 (Int.ofNat 4 - 1) = 3 := by decide
        rw [this, wrap_i64 _ (by omega) (by omega)]; omega
      have a1 : inB ((3 - j : Nat) : Int) 4 = true := by simp only [inB, Bool.and_eq_true, decide_eq_true_eq]; exact ⟨by omega, by show ((3 - j : Nat) : Int) < ((4 : Nat) : Int); omega⟩
      have q1 : 4 * k + (3 - j) < 32 := by omega
      unfold F.digest_Sum_l13
      simp only [hw, hw2, Int.toNat_natCast, hn8, d1, h2, h3, d2, h4, a1, br, q1, hx, decide_true, if_true, Bool.false_eq_true, if_false]
      exact ⟨_, rfl, by simp [hx]⟩)
    (fun x hx => ⟨x, ?_, hx⟩) 4 0 x rfl hx
  have d1 : decide (((4 : Nat) : Int) < Int.ofNat 4) = false := by decide
  unfold F.digest_Sum_l13
  simp only [hw, hw2, Int.toNat_natCast, hn8, d1, br, Bool.false_eq_true, if_false]
theorem l14_tot (s : List Int) (hs : s.length = 8) (x : List Int) (hx : x.length = 32) : ∃ r, loopD (F.digest_Sum_l14 s) (0, x) = some r ∧ r.length = 32 :=
  loop_for (N := 8) (I := fun _ x => x.length = 32)
    (fun k x hk hx => by
      have h1 : (k : Int) < 8 := by omega
      have h2 : Go.IntKind.wrap .i64 ((k : Int) + 1) = (k : Int) + 1 := wrap_i64 _ (by omega) (by omega)
      have hw : Go.IntKind.wrap .i64 (4 * (k : Int)) = ((4 * k : Nat) : Int) := by rw [wrap_i64 _ (by omega) (by omega)]; omega
      have hw2 : Go.IntKind.wrap .i64 (((4 * k : Nat) : Int) + 4) = ((4 * k + 4 : Nat) : Int) := by rw [wrap_i64 _ (by omega) (by omega)]; omega
      have a1 : inB (k : Int) 8 = true := by simp [inB]; omega
      have q1 : k < s.length := by omega
      have d1 : decide ((0 : Int) ≤ ((4 * k : Nat) : Int) ∧ ((4 * k : Nat) : Int) ≤ ((4 * k + 4 : Nat) : Int) ∧ ((4 * k + 4 : Nat) : Int) ≤ 32) = true := by rw [decide_eq_true_eq]; omega
      obtain ⟨r, hr, hrl⟩ := l13_tot k hk x x s[k] hx
      unfold F.digest_Sum_l14
      simp only [h1, h2, hw, hw2, a1, Int.toNat_natCast, List.getElem?_eq_getElem q1, d1, br, bd, jn, lp, hr, Option.bind_some, decide_true, if_true]
      exact ⟨r, rfl, hrl⟩)
    (fun x hx => ⟨x, by simp [F.digest_Sum_l14, br], hx⟩) 8 0 x rfl hx

theorem G0_len : G0.length = 8 := by decide
theorem Sum_tot (a : List Int) : ∃ d, F.digest_Sum a = some d ∧ d.length = 32 := by
  obtain ⟨⟨m, st⟩, h1, h2, h3⟩ := l5_tot a G0 G0_len
  simp only at h2 h3
  have d1 : decide (0 + 64 ≤ (rep 128 0).length) = true := by rw [length_rep]; decide
  have a1 : inB (Int.ofNat m.length) 64 = true := by simp only [inB, Bool.and_eq_true, decide_eq_true_eq]; exact ⟨by show (0 : Int) ≤ ((m.length : Nat) : Int); omega, by show ((m.length : Nat) : Int) < ((64 : Nat) : Int); omega⟩
  have hsl : (splice (rep 128 0) 0 (List.take 64 m)).length = 128 := by
    simp only [splice, List.length_append, List.length_take, List.length_drop, length_rep]; omega
  have ht : Int.toNat (Int.ofNat m.length) = m.length := rfl
  have q1 : m.length < (splice (rep 128 0) 0 (List.take 64 m)).length := by omega
  have key : ∀ n : Nat, n = 64 ∨ n = 128 → ∃ d, ((br (decide (0 ≤ (Go.IntKind.wrap .i64 ((Int.ofNat n) - 8)) ∧ (Go.IntKind.wrap .i64 ((Int.ofNat n) - 8)) ≤ (Int.ofNat n) ∧ (Int.ofNat n) ≤ 128)) (jn 34 (lp 16 (F.digest_Sum_l6 n a) (0, (List.set (splice (rep 128 0) 0 (List.take 64 m)) m.length 128)) (fun r47 => some r47) : Option ((List Int))) (fun r48 => lp 33 (F.digest_Sum_l12 r48) (0, n, 128, st) (fun r90 => lp 32 (F.digest_Sum_l14 r90) (0, (List.replicate 32 0)) (fun r96 => some r96)))) (none)) : Option (List Int)) = some d ∧ d.length = 32 := by
    intro n hn
    have hw : Go.IntKind.wrap .i64 (Int.ofNat n - 8) = ((n - 8 : Nat) : Int) := by
      show Go.IntKind.wrap .i64 (((n : Nat) : Int) - 8) = _
      rw [wrap_i64 _ (by omega) (by omega)]; omega
    have d2 : decide (0 ≤ ((n - 8 : Nat) : Int) ∧ ((n - 8 : Nat) : Int) ≤ Int.ofNat n ∧ Int.ofNat n ≤ 128) = true := by
      rw [decide_eq_true_eq]
      show 0 ≤ ((n - 8 : Nat) : Int) ∧ ((n - 8 : Nat) : Int) ≤ ((n : Nat) : Int) ∧ ((n : Nat) : Int) ≤ 128
      omega
    obtain ⟨b, hb, hbl⟩ := l6_tot n hn a (List.set (splice (rep 128 0) 0 (List.take 64 m)) m.length 128) (by simp [hsl])
    obtain ⟨s2, hs2, hsl2⟩ := l12_tot b hbl n hn st h3
    obtain ⟨d, hd, hdl⟩ := l14_tot s2 hsl2 (List.replicate 32 0) (by simp)
    refine ⟨d, ?_, hdl⟩
    simp only [hw, d2, br, jn, lp, hb, hs2, hd, Option.bind_some, if_true]
  unfold F.digest_Sum
  simp only [lp, h1, Option.bind_some, d1, a1, ht, List.getElem?_eq_getElem q1, jn, br, if_true]
  by_cases h55 : decide (Int.ofNat m.length > 55) = true
  · rw [if_pos h55, Option.bind_some]
    simpa only [jn, br, lp] using key 128 (.inr rfl)
  · rw [if_neg h55, Option.bind_some]
    simpa only [jn, br, lp] using key 64 (.inl rfl)
end Sp
