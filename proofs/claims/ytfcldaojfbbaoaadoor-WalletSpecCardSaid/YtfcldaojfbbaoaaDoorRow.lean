/- WalletSpec: the law answers true at every input: the equation of the evaluator, read as the row wants it. -/
import Derived.Test.YtfcldaojfbbaoaaDoorCards
import Derived.Test.YtfcldaojfbbaoaaDoorTie
import Derived.Test.YtfcldaojfbbaoaaDoorVal
import Derived.Test.YtfcldaojfbbaoaaDoorEqsP
import Derived.Test.YtfcldaojfbbaoaaDoorPlP
import Derived.WalkKit
import Derived.ProofKit
import Derived.OpenShut
import Derived.Deep.DeepHandedRow
import Derived.Lib.LaidTab
set_option linter.unusedVariables false
set_option linter.unusedSimpArgs false
set_option linter.unnecessarySimpa false
namespace Go.Proofs.YtfcldaojfbbaoaaDoor.walletSpec
open Go Ev Sp Go.ChangeShapes Go.WideShapes Go.ChangeAt Go.RowKit
set_option maxRecDepth 100000
theorem own : ownKnob Tryd.prog.godebug = none := by kernel_rfl
theorem mixed : Tryd.prog.follows .mixedOrders = true := by kernel_rfl
theorem En_ok : EnvOK Sp.En Tryd.prog := Env.of_ok mixed
theorem laidOut : laidOutB Tryd.prog = true := by kernel_rfl
theorem gn0 : Tryd.prog.globalNamed "testamur/digest.start" = some 0 := by kernel_rfl
theorem gt0 : (Tryd.prog.globals[0]?).map (·.type) = some 97 := by kernel_rfl
theorem gc0 : Tryd.prog.cellsOf 97 = 8 := by kernel_rfl
theorem gn1 : Tryd.prog.globalNamed "testamur/digest.numbers" = some 1 := by kernel_rfl
theorem gt1 : (Tryd.prog.globals[1]?).map (·.type) = some 105 := by kernel_rfl
theorem gc1 : Tryd.prog.cellsOf 105 = 64 := by kernel_rfl
theorem gce : Tryd.prog.cellsOf 96 = 1 := by kernel_rfl
/-- The tables, as the row lays them. -/
theorem globs {W : World} (h : laidMetH Tryd.prog Rows.walletSpecRow.laid W) : GlobOK Sp.En (memOf W) := by
  intro g d hg
  have h0 : laidMet Tryd.prog [("testamur/digest.start", Lib.tabData .u32 Sp.G0), ("testamur/digest.numbers", Lib.tabData .u32 Sp.G1)] W := h
  have t0 := Lib.tabIs_of_head gn0 gt0 Tryd.underlying97 Tryd.underlying96 gce gc0 h0
  have t1 := tabIs_snd gn1 gt1 Tryd.underlying105 Tryd.underlying96 gce gc1 h0
  have hg : Sp.globs g = some d := hg
  match g, hg with
  | 0, hg => cases hg; exact tab_read t0 gn0
  | 1, hg => cases hg; exact tab_read t1 gn1
  | _ + 2, hg => cases hg
theorem contract (H : Type) (enc : TypeId × Value → H) (W : World) (base : Nat) (args : Array Value) (ds gs : List (DataW H)) (before : List MemPlace)
    (hval : ∀ (j : Nat) t v, Tryd.f3.params[j]? = some t → args[j]? = some v → Value.okWide Tryd.prog W .any base t v)
    (hW : DataW.Whole enc Tryd.prog Tryd.f3.params.toList Rows.walletSpecSpec.vars false W args.toList ds gs before) (hL : laidMetH Tryd.prog Rows.walletSpecRow.laid W) :
    Calls Tryd.prog 3 args W fun e W' => ∃ v, e = .returned v ∧ Rows.walletSpecSpec.post enc Tryd.prog Tryd.f3 false true false false W args v W' := by
  have hW0 := hW
  obtain ⟨p, q, hA, hV, rfl, hfz, hnd⟩ := hW
  rw [Tryd.params3] at hA hval
  obtain ⟨v0, vs0, d0, ds0, p0, q0, hargs0, rfl, rfl, h0, r0⟩ := trodAll_cons hA
  obtain ⟨v1, vs1, d1, ds1, p1, q1, hargs1, rfl, rfl, h1, r1⟩ := trodAll_cons r0
  obtain ⟨v2, vs2, d2, ds2, p2, q2, hargs2, rfl, rfl, h2, r2⟩ := trodAll_cons r1
  obtain ⟨v3, vs3, d3, ds3, p3, q3, hargs3, rfl, rfl, h3, r3⟩ := trodAll_cons r2
  obtain ⟨rfl, rfl, rfl⟩ := trodAll_nil r3
  subst hargs1
  subst hargs2
  subst hargs3
  obtain rfl : args = #[v0, v1, v2, v3] := by cases args; simp_all
  obtain ⟨pd0, a0, w0⟩ := aval_of (E := Sp.En) (P := Tryd.prog) En_ok Sp.isData24 (hval 0 24 v0 rfl rfl) h0
  obtain ⟨x0, rfl, c0⟩ := Sp.wtOf24 _ _ w0
  obtain ⟨pd1, a1, w1⟩ := aval_of (E := Sp.En) (P := Tryd.prog) En_ok Sp.isData3 (hval 1 3 v1 rfl rfl) h1
  obtain ⟨x1, rfl, c1⟩ := Sp.wtOf3 _ _ w1
  obtain ⟨pd2, a2, w2⟩ := aval_of (E := Sp.En) (P := Tryd.prog) En_ok Sp.isData3 (hval 2 3 v2 rfl rfl) h2
  obtain ⟨x2, rfl, c2⟩ := Sp.wtOf3 _ _ w2
  obtain ⟨pd3, a3, w3⟩ := aval_of (E := Sp.En) (P := Tryd.prog) En_ok Sp.isData3 (hval 3 3 v3 rfl rfl) h3
  obtain ⟨x3, rfl, c3⟩ := Sp.wtOf3 _ _ w3
  have heq : Sp.En.call (0 + 15) (.f 3) ([(e_Wallet x0), (PD.int .i64 x1), (PD.int .i64 x2), (PD.int .i64 x3)].map .p) [] = some (.ret (.p (.bool true)), []) := by
    have := Sp.f3_ok 0 x0 x1 x2 x3
    rw [Sp.plain3 x0 c0 x1 c1 x2 c2 x3 c3] at this
    exact this
  refine (law_calls (W := W) En_ok (globs hL) heq (vs := [v0, v1, v2, v3]) ?_).mono fun e W' h => ?_
  · exact ⟨_, _, rfl, a0, ⟨_, _, rfl, a1, ⟨_, _, rfl, a2, ⟨_, _, rfl, a3, rfl⟩⟩⟩⟩
  obtain ⟨rfl, h1, h2, h3⟩ := h
  refine ⟨_, rfl, law_post (tb := 4) (b := true) hW0 (by kernel_rfl) Tryd.underlying4 rfl rfl laidOut (fun t ht => ?_) h1 h2 h3⟩
  rw [Tryd.params3] at ht
  have all : ([24, 3, 3, 3] : List Nat).all (fun t => Tryd.prog.readableRec t && decide (t < Tryd.prog.types.size)) = true := by kernel_rfl
  have := List.all_eq_true.1 all t (by simpa using ht)
  simpa using this
/-- A world for the witness. -/
def lay0 : Go.Obj → Go.Obj
  | .cells _ t frozen => .cells #[.int .u32 1779033703, .int .u32 3144134277, .int .u32 1013904242, .int .u32 2773480762, .int .u32 1359893119, .int .u32 2600822924, .int .u32 528734635, .int .u32 1541459225] t frozen
  | o => o
def lay1 : Go.Obj → Go.Obj
  | .cells _ t frozen => .cells #[.int .u32 1116352408, .int .u32 1899447441, .int .u32 3049323471, .int .u32 3921009573, .int .u32 961987163, .int .u32 1508970993, .int .u32 2453635748, .int .u32 2870763221, .int .u32 3624381080, .int .u32 310598401, .int .u32 607225278, .int .u32 1426881987, .int .u32 1925078388, .int .u32 2162078206, .int .u32 2614888103, .int .u32 3248222580, .int .u32 3835390401, .int .u32 4022224774, .int .u32 264347078, .int .u32 604807628, .int .u32 770255983, .int .u32 1249150122, .int .u32 1555081692, .int .u32 1996064986, .int .u32 2554220882, .int .u32 2821834349, .int .u32 2952996808, .int .u32 3210313671, .int .u32 3336571891, .int .u32 3584528711, .int .u32 113926993, .int .u32 338241895, .int .u32 666307205, .int .u32 773529912, .int .u32 1294757372, .int .u32 1396182291, .int .u32 1695183700, .int .u32 1986661051, .int .u32 2177026350, .int .u32 2456956037, .int .u32 2730485921, .int .u32 2820302411, .int .u32 3259730800, .int .u32 3345764771, .int .u32 3516065817, .int .u32 3600352804, .int .u32 4094571909, .int .u32 275423344, .int .u32 430227734, .int .u32 506948616, .int .u32 659060556, .int .u32 883997877, .int .u32 958139571, .int .u32 1322822218, .int .u32 1537002063, .int .u32 1747873779, .int .u32 1955562222, .int .u32 2024104815, .int .u32 2227730452, .int .u32 2361852424, .int .u32 2428436474, .int .u32 2756734187, .int .u32 3204031479, .int .u32 3329325298] t frozen
  | o => o
noncomputable def laidWorld (os : Os) : World :=
  { World.holding Tryd.prog os ⟨#[], #[], []⟩ with heap := ((World.holding Tryd.prog os ⟨#[], #[], []⟩).heap.modify 0 lay0).modify 1 lay1 }
theorem laid_met (os : Os) : laidMet Tryd.prog Rows.walletSpecRow.laid ((laidWorld os).forCall (fun _ _ => 0) ⟨#[], #[.agg #[.int .i64 0, .int .i64 0, .slice none 0 0], .int .i64 0, .int .i64 0, .int .i64 0], []⟩).memory :=
  laidMet_of_run' 8 (by kernel_rfl) (by kernel_rfl)
theorem reads (os : Os) {H : Type} (enc : TypeId × Value → H) : ∃ places, DataW.whole enc Tryd.prog ((laidWorld os).forCall (fun _ _ => 0) ⟨#[], #[.agg #[.int .i64 0, .int .i64 0, .slice none 0 0], .int .i64 0, .int .i64 0, .int .i64 0], []⟩).memory Tryd.f3.params.toList Rows.walletSpecSpec.vars false (#[.agg #[.int .i64 0, .int .i64 0, .slice none 0 0], .int .i64 0, .int .i64 0, .int .i64 0] : Array Value).toList 16 = some ([.agg [.lit (.int .i64 0), .lit (.int .i64 0), .nil], .lit (.int .i64 0), .lit (.int .i64 0), .lit (.int .i64 0)], [], places) :=
  ⟨[], by kernel_rfl⟩
theorem lifted (os : Os) (started : os.Started) (H : Type) (enc : TypeId × Value → H) (F : Stop.Interp) :
    ReturnsInHanded {} Tryd.checked os 3 .any ((OpenSpec.ofChange Rows.walletSpecSpec).preRow enc Tryd.prog Tryd.f3 Rows.walletSpecRow.domain false Rows.walletSpecRow.laid) (((OpenSpec.ofChange Rows.walletSpecSpec).at F).post enc Tryd.prog Tryd.f3 false true false false) := by
  obtain ⟨places, hx⟩ := reads os enc
  refine returnsInHanded_of_row (C := Tryd.checked) (s := OpenSpec.ofChange Rows.walletSpecSpec) own started (by kernel_rfl) Tryd.func3
    (witness_row_at (enc := enc) (C := Tryd.checked) false (laidWorld os) #[.agg #[.int .i64 0, .int .i64 0, .slice none 0 0], .int .i64 0, .int .i64 0, .int .i64 0] rfl (by kernel_rfl) (by kernel_rfl) (by kernel_rfl)
      (OpenSpec.preRow_of_cond 16 hx (by kernel_rfl) (fun k hk => by cases hk) (by kernel_rfl) (laid_met os))) ?_
  intro W base args ds gs before hval hW _ _ _ hL _ _
  exact contract H enc W base args ds gs before hval hW hL
theorem said : Rows.WalletSpecSaid :=
  OpenClaim.holds_of_cond 3 Tryd.f3 rfl rfl rfl rfl rfl rfl rfl ⟨rfl, rfl, rfl, rfl, rfl⟩ rfl rfl rfl rfl rfl (by kernel_rfl) Tryd.func3 (by kernel_rfl)
    (of_decide_eq_true (by kernel_rfl)) (by unfold Func.isWrapper; first | (rw [if_pos (by decide +kernel)]; kernel_rfl) | (rw [if_neg (by decide +kernel)]; exact ⟨rfl, rfl⟩))
    (fun os started H enc _ F => by rw [OpenClaim.pre_eq_preRow]; exact lifted os started H enc F)
theorem plain (f : FuncId) (fn : Func) (hf : Tryd.pinned.checked.prog.funcNamed "testamur/testamurlaw41.WalletSpec" = some f) (hfn : Tryd.pinned.checked.prog.funcs[f]? = some fn) :
    false = Tryd.pinned.checked.prog.looks [] ∧ ∀ (j : Nat) t, fn.params[j]? = some t → Tryd.pinned.checked.prog.wantsStandIn t = false := by
  obtain rfl : f = 3 := Option.some.inj ((show Tryd.prog.funcNamed "testamur/testamurlaw41.WalletSpec" = some 3 by kernel_rfl).symm.trans hf) |>.symm
  obtain rfl : fn = Tryd.f3 := (Option.some.inj (Tryd.func3.symm.trans hfn)).symm
  refine ⟨by kernel_rfl, fun j t ht => ?_⟩
  rw [Tryd.params3] at ht
  have all : ([24, 3, 3, 3] : List Nat).all (fun t => !Tryd.prog.wantsStandIn t) = true := by kernel_rfl
  have := List.all_eq_true.1 all t (by simpa using Array.mem_of_getElem? ht)
  have h : Tryd.prog.wantsStandIn t = false := by simpa using this
  exact h
/-- The card. -/
theorem card : Rows.WalletSpecCardSaid :=
  Claim7.holds_tied_plain_at .later [] _ _ _ _ said (fun _ h => by cases h) (by kernel_rfl) (fun _ h => by cases h) walletSpec_row_tie rfl ⟨rfl, rfl⟩ (by kernel_rfl) rfl plain (by kernel_rfl)
end Go.Proofs.YtfcldaojfbbaoaaDoor.walletSpec
