/- Part 11 of the evaluator of the given model: its rules and their soundness (no condition). -/
import Derived.OpenShut
import Derived.Lib.LaidTab
import Derived.WideKeyArgs
import Derived.ChangeSame
import Derived.RowKit
import Derived.Test.YtfcldaojfbbaoaaDoorEvG
set_option linter.unusedVariables false
set_option linter.unusedSimpArgs false
set_option linter.unnecessarySimpa false
/- From the arguments' readings to plain data; from the call's end to the row's. -/
namespace Ev
open Go (Value Addr Fn IntKind World Program DataW MemPlace TypeId)

def memOf (w : World) : Mem := fun b o => w.cell? ⟨b, o, none⟩

def cellsT (E : Env) (u : Nat) : Nat := match E.ty u with | some t => t.cells | none => 0

def contig (E : Env) : List (Nat × Nat) → Nat → Nat → Bool
  | [], at_, c => at_ == c
  | f :: fs, at_, c => f.1 == at_ && contig E fs (at_ + cellsT E f.2) c

/-- A type of plain data. -/
def isData (E : Env) : Nat → Nat → Bool
  | 0, _ => false
  | n + 1, t => match E.ty t with
    | some ⟨.int _, c, _, _⟩ => c == 1
    | some ⟨.bool, c, _, _⟩ => c == 1
    | some ⟨.str, c, _, _⟩ => c == 1
    | some ⟨.slice e, c, _, _⟩ => c == 1 && decide (0 < cellsT E e) && isData E n e
    | some ⟨.array m e, c, _, _⟩ => c == m * cellsT E e && isData E n e
    | some ⟨.struct fs, c, _, _⟩ => contig E fs 0 c && fs.all fun f => isData E n f.2
    | _ => false

def wts (p : Nat → PD → Prop) : List (Nat × Nat) → List PD → Prop
  | [], ds => ds = []
  | f :: fs, ds => ∃ d r, ds = d :: r ∧ p f.2 d ∧ wts p fs r

/-- Data of a type. -/
def wtK (E : Env) (p : Nat → PD → Prop) : Option Ty → PD → Prop
  | some ⟨.int k, _, _, _⟩, d => ∃ i, d = .int k i ∧ (Go.Lit.int k i).wf = true
  | some ⟨.bool, _, _, _⟩, d => ∃ b, d = .bool b
  | some ⟨.str, _, _, _⟩, d => ∃ s, d = .str s ∧ s.size ≤ Go.maxLen
  | some ⟨.slice e, _, _, _⟩, d => ∃ xs, d = .sl (cellsT E e) xs ∧ xs.length ≤ Go.maxLen ∧ ∀ x ∈ xs, p e x
  | some ⟨.array m e, _, _, _⟩, d => (match E.ty e with
    | some ⟨.int k, _, _, _⟩ => ∃ l : List Int, d = .iarr k m l ∧ l.length = m ∧ ∀ i ∈ l, (Go.Lit.int k i).wf = true
    | _ => ∃ xs, d = .arr (cellsT E e) m xs ∧ xs.length = m ∧ ∀ x ∈ xs, p e x)
  | some ⟨.struct fs, _, _, _⟩, d => ∃ ds, d = .agg (fs.map fun f => cellsT E f.2) ds ∧ wts p fs ds
  | _, _ => False
def wt (E : Env) : Nat → Nat → PD → Prop
  | 0, _, _ => False
  | n + 1, t, d => wtK E (wt E n) (E.ty t) d

section
variable {H : Type} {enc : TypeId × Value → H} {P : Program} {w : World} {sp : Nat → Bool} {held : Bool} {E : Env}

theorem cells_read {a : Addr} {n : Nat} {cs : List Value} (h : w.cells? 0 a n = some cs) : cs.length = n ∧ ∀ i, i < n → w.cell? (a.add i) = cs[i]? := by
  unfold World.cells? at h
  simp only [Nat.zero_le, if_true] at h
  refine ⟨by simpa using Go.mapM_some_length h, fun i hi => ?_⟩
  exact Go.mapM_some_get h i i (by simp [hi])

theorem cell_spot {a : Addr} {v : Value} (h : w.cell? a = some v) : a = ⟨a.block, a.off, none⟩ := by
  unfold World.cell? at h
  split at h
  · split at h
    · cases h
    · rename_i hs
      obtain ⟨b, o, s⟩ := a
      cases s with
      | none => rfl
      | some s => simp at hs
  · cases h

theorem rows_read {a : Addr} {sz : Nat} (hsz : 0 < sz) {Q : PD → Prop} : ∀ len, (∀ i, i < len → ∃ cs d, w.cells? 0 (a.add (i * sz)) sz = some cs ∧ PRep (memOf w) d cs ∧ d.cells = sz ∧ Q d) →
    ∃ xs rcs, xs.length = len ∧ rcs.length = len * sz ∧ (len ≠ 0 → a = ⟨a.block, a.off, none⟩) ∧ readM (memOf w) a.block a.off rcs ∧ PRow (memOf w) sz xs rcs ∧ ∀ x ∈ xs, Q x
  | 0, _ => ⟨[], [], rfl, by simp, fun h => absurd rfl h, by intro j hj; simp at hj, by simp [PRow], by simp⟩
  | len + 1, h => by
    obtain ⟨xs, rcs, h1, h2, h3, h4, h5, h6⟩ := rows_read hsz len fun i hi => h i (by omega)
    obtain ⟨cs, d, k1, k2, k3, k4⟩ := h len (by omega)
    obtain ⟨c1, c2⟩ := cells_read k1
    have hspot : a = ⟨a.block, a.off, none⟩ := by
      obtain ⟨cs0, d0, q1, q2, q3, _⟩ := h 0 (by omega)
      obtain ⟨p1, p2⟩ := cells_read q1
      have := p2 0 hsz
      rw [List.getElem?_eq_getElem (by omega)] at this
      simp only [Addr.add, Nat.zero_mul, if_true] at this
      exact cell_spot this
    refine ⟨xs ++ [d], rcs ++ cs, by simp [h1], by simp [h2, c1, Nat.add_mul], fun _ => hspot, ?_, PRow.append h5 ⟨cs, [], by simp, c1, k3, k2, by simp [PRow]⟩, ?_⟩
    · intro j hj
      rw [List.getElem?_append]
      by_cases hlt : j < rcs.length
      · rw [if_pos hlt]; exact h4 j hlt
      · rw [if_neg hlt]
        simp only [List.length_append] at hj
        have := c2 (j - rcs.length) (by omega)
        rw [← this]
        show w.cell? ⟨a.block, a.off + j, none⟩ = _
        congr 1
        rw [hspot]
        simp only [Addr.add]
        split <;> split <;> simp <;> omega
    · intro x hx
      rcases List.mem_append.1 hx with hx | hx
      · exact h6 x hx
      · simp only [List.mem_singleton] at hx; subst hx; exact k4

theorem arr_read {M : Mem} {sz : Nat} {Q : PD → Prop} : ∀ (m : Nat) (cs : List Value), cs.length = m * sz → (∀ i, i < m → ∃ d, PRep M d ((cs.drop (i * sz)).take sz) ∧ d.cells = sz ∧ Q d) →
    ∃ xs, xs.length = m ∧ PRow M sz xs cs ∧ ∀ x ∈ xs, Q x
  | 0, cs, hl, _ => ⟨[], rfl, by simp only [PRow]; exact List.length_eq_zero_iff.1 (by simpa using hl), by simp⟩
  | m + 1, cs, hl, h => by
    rw [Nat.add_mul] at hl
    obtain ⟨d, h1, h2, h3⟩ := h 0 (by omega)
    obtain ⟨xs, k1, k2, k3⟩ := arr_read (M := M) (sz := sz) (Q := Q) m (cs.drop sz) (by simp; omega) fun i hi => by
      have := h (i + 1) (by omega)
      rw [List.drop_drop]
      rwa [show (i + 1) * sz = sz + i * sz from by rw [Nat.add_mul]; omega] at this
    refine ⟨d :: xs, by simp [k1], ⟨cs.take sz, cs.drop sz, (List.take_append_drop _ _).symm, by simp; omega, h2, by simpa using h1, k2⟩, ?_⟩
    intro x hx
    rcases List.mem_cons.1 hx with rfl | hx
    · exact h3
    · exact k3 x hx

theorem iarr_read {k : IntKind} : ∀ (m : Nat) (cs : List Value), cs.length = m → (∀ i, i < m → ∃ n, (cs.drop i).take 1 = [.int k n] ∧ (Go.Lit.int k n).wf = true) →
    ∃ l : List Int, l.length = m ∧ cs = l.map (Value.int k) ∧ ∀ i ∈ l, (Go.Lit.int k i).wf = true
  | 0, cs, hl, _ => ⟨[], rfl, by simpa using hl, by simp⟩
  | m + 1, cs, hl, h => by
    cases cs with
    | nil => simp at hl
    | cons c cs =>
      obtain ⟨n, h1, h2⟩ := h 0 (by omega)
      obtain ⟨l, k1, k2, k3⟩ := iarr_read m cs (by simpa using hl) fun i hi => by
        have := h (i + 1) (by omega)
        simpa using this
      have h1 : c = .int k n := by simpa using h1
      subst h1
      refine ⟨n :: l, by simp [k1], by simp [k2], ?_⟩
      intro i hi
      rcases List.mem_cons.1 hi with rfl | hi
      · exact h2
      · exact k3 i hi

theorem cellsOf_eq (hE : EnvOK E P) {t : Nat} {ty : Ty} (h : E.ty t = some ty) : P.cellsOf t = ty.cells := by
  obtain ⟨i, h1, h2, _⟩ := (hE.ty t ty h).info
  unfold Program.cellsOf
  rw [h1]; exact h2

theorem isData_ty {n t : Nat} (h : isData E n t = true) : ∃ ty, E.ty t = some ty := by
  cases n with
  | zero => simp [isData] at h
  | succ n =>
    unfold isData at h
    cases ht : E.ty t with
    | none => rw [ht] at h; simp at h
    | some ty => exact ⟨ty, rfl⟩

theorem cellsT_eq (hE : EnvOK E P) {n t : Nat} (h : isData E n t = true) : P.cellsOf t = cellsT E t := by
  obtain ⟨ty, ht⟩ := isData_ty h
  rw [cellsOf_eq hE ht]; simp [cellsT, ht]

theorem trod_wt (hE : EnvOK E P) : ∀ n t, isData E n t = true → ∀ fuel cs x, DataW.trod enc P w 0 sp held fuel t cs = some x →
    ∃ d, PRep (memOf w) d cs ∧ d.cells = cellsT E t ∧ wt E n t d := by
  intro n
  induction n with
  | zero => intro t h; simp [isData] at h
  | succ n ih =>
    intro t hd fuel cs x hx
    obtain ⟨ty, hty⟩ := isData_ty hd
    have hdesc := (hE.ty t ty hty).desc
    have hco := cellsOf_eq hE hty
    have hct : cellsT E t = ty.cells := by simp [cellsT, hty]
    rw [hct]
    simp only [wt, hty]
    unfold isData at hd
    simp only [hty] at hd
    obtain ⟨k, c, b, z⟩ := ty
    cases k with
    | int k =>
      simp only [DescOK] at hdesc
      simp only [beq_iff_eq] at hd
      obtain ⟨i, rfl, _, hw⟩ := DataW.trod_int hdesc hx
      exact ⟨.int k i, by simp [PRep], hd.symm, i, rfl, hw⟩
    | bool =>
      simp only [DescOK] at hdesc
      simp only [beq_iff_eq] at hd
      obtain ⟨i, rfl, _⟩ := DataW.trod_bool hdesc hx
      exact ⟨.bool i, by simp [PRep], hd.symm, i, rfl⟩
    | str =>
      simp only [DescOK] at hdesc
      simp only [beq_iff_eq] at hd
      obtain ⟨i, rfl, _, hw⟩ := DataW.trod_string hdesc hx
      exact ⟨.str i, by simp [PRep], hd.symm, i, rfl, hw⟩
    | slice e =>
      simp only [DescOK] at hdesc
      simp only [Bool.and_eq_true, beq_iff_eq, decide_eq_true_eq] at hd
      obtain ⟨⟨hc, hpos⟩, hde⟩ := hd
      have hce := cellsT_eq hE hde
      rcases DataW.trod_slice hdesc hx with ⟨rfl, _⟩ | ⟨a, len, cap, elems, rest, m, _, rfl, _, _, hl, hcap, hlen, hel, _⟩
      · exact ⟨.sl (cellsT E e) [], by simp only [PRep]; exact ⟨none, 0, rfl, Nat.le_refl _, .inl rfl⟩, hc.symm, [], rfl, Nat.zero_le _, by simp⟩
      · rw [hce] at hel
        obtain ⟨xs, rcs, h1, h2, h3, h4, h5, h6⟩ := rows_read (w := w) (a := a) hpos (Q := wt E n e) len fun i hi => by
          have := hel i hi
          rw [List.getElem?_eq_getElem (by omega), Option.bind_eq_some_iff] at this
          obtain ⟨ci, k1, k2⟩ := this
          obtain ⟨d, q1, q2, q3⟩ := ih e hde m ci _ k2
          exact ⟨ci, d, k1, q1, q2, q3⟩
        refine ⟨.sl (cellsT E e) xs, ?_, hc.symm, xs, rfl, by omega, h6⟩
        simp only [PRep]
        refine ⟨some a, cap, by rw [h1], by omega, ?_⟩
        by_cases h0 : len = 0
        · left; omega
        · right; exact ⟨a.block, a.off, rcs, by rw [← h3 h0], h4, h5⟩
    | array m e =>
      simp only [DescOK] at hdesc
      simp only [Bool.and_eq_true, beq_iff_eq] at hd
      obtain ⟨hc, hde⟩ := hd
      have hce := cellsT_eq hE hde
      obtain ⟨xs, fu, _, _, hl, hxl, hel⟩ := DataW.trod_array hdesc hx
      rw [hco] at hl
      rw [hce] at hel
      simp only at hl hc
      obtain ⟨te, hte⟩ := isData_ty hde
      by_cases hint : ∃ k, te.k = .int k
      · obtain ⟨k, hk⟩ := hint
        obtain ⟨tk, tc, tb, tz⟩ := te
        simp only at hk
        subst hk
        have he1 : cellsT E e = 1 := by
          cases n with
          | zero => simp [isData] at hde
          | succ n =>
            unfold isData at hde
            simp only [hte, beq_iff_eq] at hde
            simp [cellsT, hte, hde]
        have hdi := (hE.ty e _ hte).desc
        simp only [DescOK] at hdi
        rw [he1] at hel
        obtain ⟨l, h1, h2, h3⟩ := iarr_read (k := k) m cs (by rw [hl, hc, he1]; omega) fun i hi => by
          have := hel i hi
          rw [List.getElem?_eq_getElem (by omega)] at this
          obtain ⟨v, k1, _, k3⟩ := DataW.trod_int hdi this
          exact ⟨v, by simpa using k1, k3⟩
        refine ⟨.iarr k m l, by simp only [PRep]; exact ⟨h1, h2⟩, by simp only [PD.cells]; rw [hc, he1]; omega, ?_⟩
        simp only [wtK, hte]
        exact ⟨l, rfl, h1, h3⟩
      · obtain ⟨ys, h1, h2, h3⟩ := arr_read (M := memOf w) (sz := cellsT E e) (Q := wt E n e) m cs (by rw [hl, hc]) fun i hi => by
          have := hel i hi
          rw [List.getElem?_eq_getElem (by omega)] at this
          exact ih e hde _ _ _ this
        refine ⟨.arr (cellsT E e) m ys, by simp only [PRep]; exact ⟨h1, h2⟩, by simp only [PD.cells]; rw [hc, Nat.mul_comm], ?_⟩
        obtain ⟨tk, tc, tb, tz⟩ := te
        simp only [wtK, hte]
        cases tk with
        | int k => exact absurd ⟨k, rfl⟩ hint
        | _ => exact ⟨ys, rfl, h1, h3⟩
    | struct fs =>
      simp only [DescOK] at hdesc
      obtain ⟨fa, hu, hfs, _, _, hf⟩ := hdesc
      simp only [Bool.and_eq_true, List.all_eq_true] at hd
      obtain ⟨hcon, hall⟩ := hd
      obtain ⟨xs, fu, _, _, hl, hxl, hel⟩ := DataW.trod_struct hu hx
      rw [hco] at hl
      simp only at hl
      have key : ∀ (gs : List (Nat × Nat)) (j at_ : Nat), fs.drop j = gs → contig E gs at_ c = true → at_ ≤ cs.length → ∃ ds, PReps (memOf w) (gs.map fun f => cellsT E f.2) ds (cs.drop at_) ∧ wts (wt E n) gs ds ∧ at_ + (gs.map fun f => cellsT E f.2).sum = c := by
        intro gs
        induction gs with
        | nil =>
          intro j at_ hj hcn hle
          simp only [contig, beq_iff_eq] at hcn
          refine ⟨[], ?_, by simp [wts], by simp [hcn]⟩
          simp only [List.map_nil, PReps]
          rw [List.drop_eq_nil_iff]; omega
        | cons f gs ihg =>
          intro j at_ hj hcn hle
          simp only [contig, Bool.and_eq_true, beq_iff_eq] at hcn
          obtain ⟨ho, hcn⟩ := hcn
          have hfj : fs[j]? = some f := by
            have := congrArg (·[0]?) hj
            simpa using this
          have hmem : f ∈ fs := List.mem_of_getElem? hfj
          obtain ⟨g, g1, g2, g3, _⟩ := hf j f hfj
          have hdf := hall f hmem
          have hcf := cellsT_eq hE hdf
          have hex := hel j g g1
          have hjl : j < fs.length := by
            rcases Nat.lt_or_ge j fs.length with h | h
            · exact h
            · rw [List.getElem?_eq_none h] at hfj; cases hfj
          rw [List.getElem?_eq_getElem (by omega), g2, g3, hcf, ho] at hex
          obtain ⟨d, q1, q2, q3⟩ := ih f.2 hdf _ _ _ hex
          have hsum : ∀ (gs : List (Nat × Nat)) (at_ : Nat), contig E gs at_ c = true → at_ ≤ c := by
            intro gs
            induction gs with
            | nil => intro a h; simp only [contig, beq_iff_eq] at h; omega
            | cons f gs ih => intro a h; simp only [contig, Bool.and_eq_true] at h; have := ih _ h.2; omega
          have hle2 := hsum _ _ hcn
          obtain ⟨ds, r1, r2, r3⟩ := ihg (j + 1) (at_ + cellsT E f.2) (by rw [← List.drop_drop, hj]; rfl) hcn (by omega)
          refine ⟨d :: ds, ?_, ⟨d, ds, rfl, q3, r2⟩, by simp only [List.map_cons, List.sum_cons]; omega⟩
          simp only [List.map_cons, PReps]
          refine ⟨(cs.drop at_).take (cellsT E f.2), cs.drop (at_ + cellsT E f.2), ?_, by simp; omega, q2, q1, r1⟩
          rw [← List.drop_drop, List.take_append_drop]
      obtain ⟨ds, r1, r2, r3⟩ := key fs 0 0 rfl hcon (Nat.zero_le _)
      exact ⟨.agg (fs.map fun f => cellsT E f.2) ds, by simp only [PRep]; simpa using r1, by simp only [PD.cells]; omega, ds, rfl, r2⟩
    | _ => simp at hd

end
end Ev

/- From a law's equation to the row's contract. -/
namespace Ev
open Go (Value Addr Fn IntKind World Program DataW MemPlace TypeId Calls CallsIn Fence)

def startC (E : Env) (W : World) : Cx := ⟨memOf W, fun _ => none, [], E.has 10⟩

theorem start_sim (E : Env) (W : World) : Sim (startC E W) W :=
  ⟨fun _ _ _ h => h, fun _ _ h => (by cases h), fun _ _ _ _ _ _ _ h => (by cases h), fun _ _ _ _ _ h => (by cases h), fun _ _ _ _ _ h => (by cases h), fun _ _ _ _ _ _ h => (by cases h)⟩

section
variable {H : Type} {enc : TypeId × Value → H} {P : Program} {W : World} {sp : Nat → Bool} {held : Bool} {E : Env}

/-- An argument is plain data. -/
theorem aval_of (hE : EnvOK E P) {n t : Nat} (hd : isData E n t = true) {r : Go.Reach} {b0 : Nat} {v : Value} (hval : Value.okWide P W r b0 t v) {d : DataW H} {ps : List MemPlace} (h : DataW.Trod enc P W 0 sp held t v d ps) :
    ∃ pd, AVal (startC E W) (.p pd) v ∧ wt E n t pd := by
  obtain ⟨fuel, hf⟩ := h
  obtain ⟨pd, h1, h2, h3⟩ := trod_wt hE n t hd fuel _ _ hf
  refine ⟨pd, ?_, h3⟩
  obtain ⟨ty, hty⟩ := isData_ty hd
  have hdesc := (hE.ty t ty hty).desc
  cases n with
  | zero => simp [isData] at hd
  | succ n =>
  simp only [wt, hty] at h3
  obtain ⟨k, c, b, z⟩ := ty
  have flat : pd.isAgg = false → (∀ cs, v ≠ .agg cs) → AVal (startC E W) (.p pd) v := by
    intro ha hv
    have hc : v.cells.toList = [v] := by cases v <;> first | rfl | exact absurd rfl (hv _)
    rw [hc] at h1
    simp only [AVal, AR, ha, Bool.and_false, Bool.false_eq_true, if_false]
    exact h1
  have agg : pd.isAgg = true → (∃ cs, v = .agg cs) → AVal (startC E W) (.p pd) v := by
    rintro ha ⟨cs, rfl⟩
    simp only [AVal, AR, ha, Bool.and_self, if_true]
    exact ⟨cs, rfl, h1⟩
  cases k with
  | int k =>
    simp only [DescOK] at hdesc
    obtain ⟨i, rfl, _⟩ := h3
    refine flat rfl fun cs e => ?_
    subst e
    simp [Value.okWide, hdesc, Go.Cell.okWide, Go.Cell.ok] at hval
  | bool =>
    simp only [DescOK] at hdesc
    obtain ⟨i, rfl⟩ := h3
    refine flat rfl fun cs e => ?_
    subst e
    simp [Value.okWide, hdesc, Go.Cell.okWide, Go.Cell.ok] at hval
  | str =>
    simp only [DescOK] at hdesc
    obtain ⟨i, rfl, _⟩ := h3
    refine flat rfl fun cs e => ?_
    subst e
    simp [Value.okWide, hdesc, Go.Cell.okWide, Go.Cell.ok] at hval
  | slice e =>
    simp only [DescOK] at hdesc
    obtain ⟨xs, rfl, _⟩ := h3
    refine flat rfl fun cs e => ?_
    subst e
    simp [Value.okWide, hdesc, Go.Cell.okWide, Go.Cell.ok] at hval
  | array m e =>
    simp only [DescOK] at hdesc
    refine agg ?_ ?_
    · simp only [wtK] at h3
      split at h3
      · obtain ⟨l, rfl, _⟩ := h3; rfl
      · obtain ⟨l, rfl, _⟩ := h3; rfl
    · simp only [Value.okWide, hdesc] at hval
      obtain ⟨cs, rfl, _⟩ := hval
      exact ⟨cs, rfl⟩
  | struct fs =>
    simp only [DescOK] at hdesc
    obtain ⟨fa, hu, _⟩ := hdesc
    refine agg ?_ ?_
    · obtain ⟨ds, rfl, _⟩ := h3; rfl
    · simp only [Value.okWide, hu] at hval
      obtain ⟨cs, rfl, _⟩ := hval
      exact ⟨cs, rfl⟩
  | _ => simp [wtK] at h3

/-- What the evaluator says of a law holds of the call. -/
theorem law_calls (hE : EnvOK E P) (hG : GlobOK E (memOf W)) {n f : Nat} {ds : List PD} {vs : List Value} {b : Bool} (hc : E.call n (.f f) (ds.map .p) [] = some (.ret (.p (.bool b)), [])) (hv : AVs (startC E W) (ds.map .p) vs) :
    Calls P f vs.toArray W fun e W' => e = .returned (.bool b) ∧ W'.os = W.os ∧ W'.output = W.output ∧ ∀ k, k < W.heap.size → W'.heap[k]? = W.heap[k]? := by
  have ok : Ok E P (startC E W) W := ⟨hE, rfl, hG, start_sim E W⟩
  obtain ⟨_, h⟩ := (call_sound n).fn f _ _ _ _ (startC E W) W vs hc ok rfl hv
  refine CallsIn.calls (h.mono ?_) fun _ => Go.room_wide _
  rintro e W' ⟨C', _, hx, _, hr⟩
  cases e <;> simp only [ResOK] at hr
  rename_i v
  rw [AVal.bool] at hr
  subst hr
  refine ⟨rfl, hx.quiet.os, hx.quiet.output, fun k hk => hx.frame k hk ?_⟩
  rintro ⟨c, o, cp, hι⟩
  cases hι

theorem keptBut_of {W' : World} (hos : W'.os = W.os) (hout : W'.output = W.output) (hfr : ∀ k, k < W.heap.size → W'.heap[k]? = W.heap[k]?) (may : MemPlace → Prop) : W.keptBut W' may := by
  refine ⟨hos, hout, fun i hi => ?_⟩
  rw [hfr i hi]
  split <;> simp_all

theorem trodAll_stays {W' : World} (hl : Go.laidOutB P = true) (hfr : ∀ k, k < W.heap.size → W'.heap[k]? = W.heap[k]?) {sp' : Nat → Bool} : ∀ {ts : List TypeId} {vs : List Value} {ds : List (DataW H)} {ps : List MemPlace},
    (∀ t ∈ ts, P.readableRec t = true ∧ t < P.types.size) → DataW.TrodAll enc P W 0 (fun _ => true) true ts vs ds ps → (∀ p ∈ ps, p.block < W.heap.size ∧ sp' p.block = true) → DataW.TrodAll enc P W' 0 sp' true ts vs ds ps
  | [], [], [], _, _, h, _ => h
  | [], [], _ :: _, _, _, h, _ => by cases h
  | [], _ :: _, _, _, _, h, _ => by cases h
  | _ :: _, [], _, _, _, h, _ => by cases h
  | _ :: _, _ :: _, [], _, _, h, _ => by cases h
  | t :: ts, v :: vs, d :: ds, ps, ht, ⟨p, q, h1, h2, e⟩, hp => by
    subst e
    refine ⟨p, q, Go.WideElems.Trod_stays hl (ht t (by simp)).1 (ht t (by simp)).2 h1 (fun x hx => ?_) (fun x hx => (hp x (by simp [hx])).2), trodAll_stays hl hfr (fun t' h' => ht t' (by simp [h'])) h2 fun x hx => hp x (by simp [hx]), rfl⟩
    have hlt := (hp x (by simp [hx])).1
    cases x with
    | cell b o => exact Go.World.cell?_of_block (w := W) (hfr b hlt)
    | map b => exact hfr b hlt

/-- The row's last step. -/
theorem law_post {f : Go.Func} {s : Go.ChangeSpec} {apart fresh handsOn again : Bool} {W' : World} {args : Array Value} {ds gs : List (DataW H)} {before : List MemPlace} {tb : TypeId} {b : Bool}
    (hW : DataW.Whole enc P f.params.toList s.vars apart W args.toList ds gs before) (hres : f.resultTypes = #[tb]) (hb : P.underlying tb = some .bool) (hv : s.vars = [])
    (hs : s.fn H ds = { results := [.lit (.bool b)], args := ds }) (hl : Go.laidOutB P = true) (hp : ∀ t ∈ f.params.toList, P.readableRec t = true ∧ t < P.types.size)
    (hos : W'.os = W.os) (hout : W'.output = W.output) (hfr : ∀ k, k < W.heap.size → W'.heap[k]? = W.heap[k]?) : s.post enc P f apart fresh handsOn again W args (.bool b) W' := by
  have hlt : ∀ p ∈ before, p.block < W.heap.size := fun p hp => hW.lt p hp
  have hW0 := hW
  obtain ⟨p, q, hA, hV, rfl, hz, hn⟩ := hW
  rw [hv] at hV
  cases gs with
  | cons _ _ => cases hV
  | nil =>
  have hq : q = [] := hV
  subst hq
  simp only [List.append_nil] at hlt hz hn
  have hs' : s.fn H (ds ++ []) = { results := [.lit (.bool b)], args := ds } := by rw [List.append_nil]; exact hs
  have hr : ∀ (b0 : Nat) (sp : Nat → Bool) (hd : Bool), DataW.TrodAll enc P W' b0 sp hd f.resultTypes.toList ((Value.bool b).resultList f.resultTypes.size) (s.fn H (ds ++ [])).results [] := by
    intro b0 sp hd
    rw [hs', hres]
    exact ⟨[], [], Go.RowKit.shut_bool hb b, rfl, rfl⟩
  have hargs : ∀ sp : Nat → Bool, (∀ x ∈ p, sp x.block = true) → DataW.TrodAll enc P W' 0 sp true f.params.toList args.toList (s.fn H (ds ++ [])).args p := by
    intro sp hsp
    rw [hs']
    exact trodAll_stays hl hfr hp hA fun x hx => ⟨hlt x hx, hsp x hx⟩
  have hvars : ∀ sp : Nat → Bool, DataW.TrodVars enc P W' sp s.vars (s.fn H (ds ++ [])).vars [] := by
    intro sp
    rw [hs', hv]
    rfl
  refine ⟨ds, [], p ++ [], [], p, [], hW0, hr _ _ _, hargs _ fun x hx => by simpa using hlt x hx, hvars _, World.keptBut_mono (fun x hx => ⟨hx, .inr (.inl (by simpa using hx))⟩) (keptBut_of hos hout hfr (· ∈ p ++ [])), fun _ => ?_⟩
  refine ⟨Go.RowKit.ok_one hres rfl (Go.RowKit.okWide_bool_mk hb _), _, _, ([] ++ p) ++ [], ⟨[] ++ p, [], Go.ChangeShapes.trodAll_append (hargs _ (fun _ _ => rfl)) (hr _ _ _), hvars _, rfl, ?_, ?_⟩, ?_⟩
  · intro b0 off hx
    have hin : MemPlace.cell b0 off ∈ p := by simpa using hx
    have := hz b0 off hin
    rw [← this]
    exact Go.World.frozen?_of_block (w := W) (hfr b0 (hlt _ hin))
  · intro ha
    simpa using hn ha
  · intro x hx _
    simpa using hx

/-- A table of whole numbers. -/
theorem tab_read {name : String} {k : IntKind} {zs : List Int} {g : Nat} (h : Go.Lib.TabIs P W name k zs) (hg : P.globalNamed name = some g) : ∃ rcs, readM (memOf W) g 0 rcs ∧ PRep (memOf W) (.iarr k zs.length zs) rcs := by
  refine ⟨zs.map (Value.int k), ?_, by simp [PRep]⟩
  intro j hj
  simp only [List.length_map] at hj
  have := h.cell hg j hj
  show W.cell? ⟨g, 0 + j, none⟩ = _
  rw [Nat.zero_add, this]
  simp [List.getElem?_map, hj]

theorem tabIs_snd {name n0 : String} {d0 : DataW Unit} {k : IntKind} {zs : List Int} {rest : List (String × DataW Unit)} {g : Nat} {t e : TypeId} {n : Nat}
    (hg : P.globalNamed name = some g) (hty : (P.globals[g]?).map (·.type) = some t) (ht : P.underlying t = some (.array n e)) (he : P.underlying e = some (.int k)) (hce : P.cellsOf e = 1) (hct : P.cellsOf t = n)
    (h : Go.laidMet P ((n0, d0) :: (name, Go.Lib.tabData k zs) :: rest) W) : Go.Lib.TabIs P W name k zs := by
  obtain ⟨ps, ⟨g0, t0, cs0, fuel0, p0, q0, hg0, ht0, hvar0, hd0, hrest, _⟩, _⟩ := h
  obtain ⟨g', t', cs, fuel, p, q, hg', ht', hvar, hd, _, _⟩ := hrest
  obtain rfl := Option.some.inj (hg.symm.trans hg')
  obtain rfl := Option.some.inj (hty.symm.trans ht')
  unfold Go.Lib.TabIs
  rw [hvar, ← Go.Lib.cells_of_tab ht he hce hct hd]

theorem list_ex {α : Type} {f : α → PD} {V : α → Prop} : ∀ {xs : List PD}, (∀ x ∈ xs, ∃ y, x = f y ∧ V y) → ∃ ys : List α, xs = ys.map f ∧ ∀ y ∈ ys, V y
  | [], _ => ⟨[], rfl, by simp⟩
  | x :: xs, h => by
    obtain ⟨y, rfl, hy⟩ := h x (by simp)
    obtain ⟨ys, rfl, hys⟩ := list_ex (f := f) (V := V) (xs := xs) fun x hx => h x (by simp [hx])
    refine ⟨y :: ys, rfl, fun z hz => ?_⟩
    rcases List.mem_cons.1 hz with rfl | hz
    · exact hy
    · exact hys z hz

theorem wts_cons {p : Nat → PD → Prop} {f : Nat × Nat} {fs : List (Nat × Nat)} {ds : List PD} : wts p (f :: fs) ds ↔ ∃ d r, ds = d :: r ∧ p f.2 d ∧ wts p fs r := Iff.rfl
theorem wts_nil {p : Nat → PD → Prop} {ds : List PD} : wts p [] ds ↔ ds = [] := Iff.rfl
end
end Ev
