/- Plain law: the chapter's examples hold. -/
import Derived.Test.YtfcldaojfbbaoaaDoorPlE
set_option linter.unusedVariables false
set_option linter.unusedSimpArgs false
set_option linter.unnecessarySimpa false
open Go Ev
set_option linter.unusedSimpArgs false
set_option linter.unusedVariables false
set_option maxRecDepth 100000
namespace Sp
noncomputable section
def LK : List (List Int) := [(List.set (List.replicate 32 0) 0 1), (List.set (List.replicate 32 0) 0 2), (List.set (List.replicate 32 0) 0 3), (List.set (List.replicate 32 0) 0 4)]
theorem LK_len : LK.length = 4 := rfl
theorem LK_ne : ¬ (LK = List.drop 1 LK) := fun h => by have := congrArg List.length h; simp [LK_len] at this
def sd (a b : Int) : List Int := List.set (List.set (List.replicate 32 0) 0 (Go.IntKind.wrap .u8 a)) 1 (Go.IntKind.wrap .u8 b)
def cp (a b : Int) (v : List Int) : Copy := Copy.mk 0 a 0 b (pub (sd a b)) v LK []
def sc (a b : Int) : Secret := Secret.mk (sd a b) LK
theorem links_eq : F.testamurlaw41_links = some LK := rfl
theorem copied_eq (a b : Int) (v : List Int) : F.testamurlaw41_copied a b v = some (cp a b v, sc a b) := by
  unfold F.testamurlaw41_copied
  simp only [jn, links_eq, Option.bind_some, pub_eq]
  rfl
def w0 : Wallet := Wallet.mk 7 0 []
def h1 : Held := Held.mk (cp 1 0 [7, 5]) (sc 1 0) 2 0
def h2 : Held := Held.mk (cp 1 1 [7, 5]) (sc 1 1) 2 0
def wx : Wallet := Wallet.mk 7 0 [h1, h2]
def wy : Wallet := Wallet.mk 7 0 [Held.mk (cp 1 0 [7, 5]) (sc 1 0) 2 2, Held.mk (cp 1 1 [7, 5]) (sc 1 1) 2 2]

theorem chk0 : chk w0 = 0 := by simp [chk, w0, anyBad]
theorem putx : putX w0 [cp 1 0 [7, 5], cp 1 1 [7, 5]] [sc 1 0, sc 1 1] 2 = wx := rfl
theorem chkx : chk wx = 0 := by
  simp [chk, wx, anyBad, isBad, firstLinks, h1, h2, mget, mput, cp, sc, LK_len, b_Place]
theorem chkd : chk (putX wx [cp 1 0 [7, 5]] [sc 1 0] 2) = 410 := by
  simp [chk, wx, putX, putH, anyBad, isBad, firstLinks, h1, h2, mget, mput, cp, sc, LK_len, b_Place]
theorem chko : chk (putX w0 [cp 1 0 [7, 5]] [Secret.mk (sd 1 0) (List.drop 1 LK)] 2) = 410 := by
  have h0 := LK_ne
  have : ¬ LK = LK.tail := by simpa using h0
  simp [chk, w0, putX, putH, anyBad, isBad, firstLinks, mget, mput, cp, sc, LK_len, b_Place, this]
theorem chk4 : chk (putX w0 [cp 1 0 [7, 5]] [sc 1 0] 4) = 410 := by
  simp [chk, w0, putX, putH, anyBad, isBad, firstLinks, mget, mput, cp, sc, LK_len, b_Place]
theorem put1 : putS w0 [cp 1 0 [7, 5], cp 1 1 [7, 5]] [sc 1 0, sc 1 1] 2 = (wx, 0) := by
  simp only [putS, chk0, putx, chkx]; rfl
theorem put2 : putS wx [cp 1 0 [7, 5]] [sc 1 0] 2 = (zeroW, 410) := by
  simp only [putS, chkx, chkd]; rfl
theorem put3 : putS w0 [cp 1 0 [7, 5]] [] 2 = (zeroW, 410) := by
  simp only [putS, chk0]; rfl
theorem put4 : putS w0 [cp 1 0 [7, 5]] [Secret.mk (sd 1 0) (List.drop 1 LK)] 2 = (zeroW, 410) := by
  simp only [putS, chk0, chko]; rfl
theorem put5 : putS w0 [cp 1 0 [7, 5]] [sc 1 0] 4 = (zeroW, 410) := by
  simp only [putS, chk0, chk4]; rfl
theorem off1 : offS wx 2 = ([Claims.mk 0 [0, 1] [7, 5]], [0]) := by
  simp [offS, mine, idxF, wx, h1, h2, offStep, fits, fieldsOf, ixs, cp]
theorem off2 : offS wx 1 = ([], []) := by
  simp [offS, mine, idxF, wx, h1, h2]
theorem off3 : offS wy 2 = ([], []) := by
  simp [offS, mine, idxF, wy]
theorem sup1 : supS wx 0 = (wy, 0) := by
  simp only [supS, chkx]
  simp [idxF, ixs, supG, wx, wy, h1, h2, cp]
theorem sup2 : supS wx 16 = (zeroW, 1) := by
  simp [supS, chkx]
theorem left1 : F.wallet_Left wx 0 = some 2 := by rw [Left_eq _ _ (by decide)]; simp [idxF, ixs, wx, h1, h2, cp]
theorem left2 : F.wallet_Left wx 1 = some 0 := by rw [Left_eq _ _ (by decide)]; simp [idxF, ixs, wx, h1, h2, cp]
theorem left3 : F.wallet_Left wy 0 = some 0 := by rw [Left_eq _ _ (by decide)]; simp [idxF, ixs, wy]
theorem lw0 : linksOk w0 := by intro h hh; simp [w0] at hh
theorem lwx : linksOk wx := by intro h hh; simp [wx] at hh; rcases hh with rfl | rfl <;> (show LK.length ≤ _; rw [LK_len]; decide)
theorem lw5 : linksOk (Wallet.mk 0 5 []) := by intro h hh; simp at hh
theorem vwx : valsOk wx := by intro h hh; simp [wx] at hh; rcases hh with rfl | rfl <;> (show (2 : Nat) ≤ _; decide)
theorem vwy : valsOk wy := by intro h hh; simp [wy] at hh; rcases hh with rfl | rfl <;> (show (2 : Nat) ≤ _; decide)
theorem lc1 : ∀ x ∈ [cp 1 0 [7, 5]], x.Links.length ≤ 9223372036854775807 := by intro x hx; simp at hx; subst hx; show LK.length ≤ _; rw [LK_len]; decide
theorem lc2 : ∀ x ∈ [cp 1 0 [7, 5], cp 1 1 [7, 5]], x.Links.length ≤ 9223372036854775807 := by intro x hx; simp at hx; rcases hx with rfl | rfl <;> (show LK.length ≤ _; rw [LK_len]; decide)
theorem same1 : F.testamurref41_SameInts [0, 1] [0, 1] = some true := by rw [SameInts_eq _ _ (by decide)]; decide
theorem same2 : F.testamurref41_SameInts [7, 5] [7, 5] = some true := by rw [SameInts_eq _ _ (by decide)]; decide
theorem new1 : F.wallet_New 7 = some (w0, 0) := by rw [New_eq]; rfl
theorem new2 : F.wallet_New 4096 = some (zeroW, 410) := by rw [New_eq]; rfl
theorem chk5 : F.wallet_Check (Wallet.mk 0 5 []) = some 410 := by rw [Check_eq _ (by decide) lw5]; simp [chk]
theorem sane_true : F.testamurlaw41_sane = some true := by
  have p1 := Put_eq w0 [cp 1 0 [7, 5], cp 1 1 [7, 5]] [sc 1 0, sc 1 1] 2 (by decide) (by decide) lw0 lc2
  have p2 := Put_eq wx [cp 1 0 [7, 5]] [sc 1 0] 2 (by decide) (by decide) lwx lc1
  have p3 := Put_eq w0 [cp 1 0 [7, 5]] [] 2 (by decide) (by decide) lw0 lc1
  have p4 := Put_eq w0 [cp 1 0 [7, 5]] [Secret.mk (sd 1 0) (List.drop 1 LK)] 2 (by decide) (by decide) lw0 lc1
  have p5 := Put_eq w0 [cp 1 0 [7, 5]] [sc 1 0] 4 (by decide) (by decide) lw0 lc1
  rw [put1] at p1; rw [put2] at p2; rw [put3] at p3; rw [put4] at p4; rw [put5] at p5
  have o1 := Offers_eq wx 2 (by decide) vwx
  have o2 := Offers_eq wx 1 (by decide) vwx
  have o3 := Offers_eq wy 2 (by decide) vwy
  rw [off1] at o1; rw [off2] at o2; rw [off3] at o3
  have s1 := Supersede_eq wx 0 (by decide) lwx
  have s2 := Supersede_eq wx 16 (by decide) lwx
  rw [sup1] at s1; rw [sup2] at s2
  have k1 := Check_eq wx (by decide) lwx
  rw [chkx] at k1
  unfold F.testamurlaw41_sane
  simp only [jn, new1, new2, copied_eq, Option.bind_some, p1, p2, p3, show (sc 1 0).Links = LK from rfl, show (sc 1 0).Seed = sd 1 0 from rfl, p4, p5, o1, o2, o3, s1, s2, LK_len]
  simp only [br, decide_true, and_self, Int.reduceLE, true_and, if_true, show decide (0 ≤ (1 : Int) ∧ (1 : Int) ≤ Int.ofNat 4 ∧ Int.ofNat 4 ≤ Int.ofNat 4) = true by decide]
  simp [br, bd, jn, gi, same1, same2, left1, left2, left3, k1, chk5, show wx.Held.length = 2 from rfl, show wy.Held.length = 2 from rfl, show w0.Person = 7 from rfl, show wy.Held[1]? = some (Held.mk (cp 1 1 [7, 5]) (sc 1 1) 2 2) from rfl, show wx.Held[1]? = some h2 from rfl, show h2.Device = 2 from rfl]
  rfl
end
end Sp
