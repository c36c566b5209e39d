/- Part 2 of the evaluator of the given model: its rules and their soundness (no condition). -/
import Derived.Test.YtfcldaojfbbaoaaDoorEvA
set_option linter.unusedVariables false
set_option linter.unusedSimpArgs false
set_option linter.unnecessarySimpa false
/- The evaluator's tables against the program; how loads, stores and new memory run. -/
namespace Ev
open Go (Value Addr Fn IntKind World Sem Program Result Instr.loadAt)

/-! ### The tables -/

def DescOK (P : Program) (t : Nat) : TyK → Prop
  | .int k => P.underlying t = some (.int k)
  | .bool => P.underlying t = some .bool
  | .str => P.underlying t = some .string
  | .struct fs => ∃ fa, P.underlying t = some (.struct fa) ∧ fa.size = fs.length ∧ P.stoodInHeld t = false ∧
      (∀ g ∈ fa, ∃ i, P.info? g.type = some i) ∧ ∀ (i : Nat) (f : Nat × Nat), fs[i]? = some f → ∃ g : Go.Field, fa[i]? = some g ∧ g.offset = f.1 ∧ g.type = f.2 ∧ g.name ≠ "_"
  | .array n e => P.underlying t = some (.array n e)
  | .slice e => P.underlying t = some (.slice e)
  | .ptr e => P.underlying t = some (.pointer e)
  | .map k e => P.underlying t = some (.map k e)
  | .func => ∃ ps rs v, P.underlying t = some (.func ps rs v)
  | .iface => ∃ ms, P.underlying t = some (.interface ms)
  | .other => ∃ d, P.underlying t = some d ∧ (∀ f, d ≠ .struct f) ∧ (∀ n e, d ≠ .array n e) ∧ (∀ ms, d ≠ .interface ms)

structure TyOK (P : Program) (t : Nat) (ty : Ty) : Prop where
  info : ∃ i, P.info? t = some i ∧ i.size = ty.cells ∧ i.bytes = ty.bytes ∧ ∃ z, i.zero = some z ∧ ∀ C, AVal C ty.zero z
  desc : DescOK P t ty.k
  storable : ty.zero.storable = true
  zcells : ty.zero.cells = some ty.cells
  zagg : ty.zero.isAgg = ty.agg
  zleans : ty.zero.leans = []
  guard : ty.agg = true → P.eqGuardType P.depth t = false

structure EnvOK (E : Env) (P : Program) : Prop where
  ty : ∀ t ty, E.ty t = some ty → TyOK P t ty
  fn : ∀ f F a, E.fn f = some (F, a) → P.funcs[f]? = some F ∧ F.name ≠ "runtime.NumGoroutine"
  mixed : P.follows .mixedOrders = true

def GlobOK (E : Env) (M : Mem) : Prop := ∀ g d, E.glob g = some d → ∃ rcs, readM M g 0 rcs ∧ PRep M d rcs

theorem GlobOK.mono {E : Env} {M M' : Mem} (h : GlobOK E M) (hm : ∀ b o v, M b o = some v → M' b o = some v) : GlobOK E M' := by
  intro g d hg
  obtain ⟨rcs, h1, h2⟩ := h g d hg
  exact ⟨rcs, h1.mono hm, PRep.mono hm _ _ h2⟩

section
variable {P : Program} {w : World}

theorem bind_ok {α β : Type} {x : Sem α} {f : α → Sem β} {a : α} {w w' : World} (h : x.run P w = .ok a w') : (x >>= f).run P w = (f a).run P w' := by
  rw [Go.Sem.run_bind, h]; rfl

theorem bind_ok' {α β : Type} {x : Sem α} {f : α → Sem β} {a : α} {w w' : World} {r : Result β} (h : x.run P w = .ok a w') (h2 : (f a).run P w' = r) : (x >>= f).run P w = r := by
  rw [bind_ok h, h2]

theorem run_pure {α : Type} (a : α) : (pure a : Sem α).run P w = .ok a w := rfl

theorem run_program : (Go.program).run P w = .ok P w := rfl

theorem run_underlying {t : Nat} {d : Go.TypeDesc} (h : P.underlying t = some d) : (Go.underlying t).run P w = .ok d w := by
  unfold Go.underlying
  rw [bind_ok run_program, h]; rfl

theorem run_typeInfo {t : Nat} {i : Go.TypeInfo} (h : P.info? t = some i) : (Go.typeInfo t).run P w = .ok i w := by
  unfold Go.typeInfo
  rw [bind_ok run_program, h]; rfl

theorem TyOK.run_sizeOf {t : Nat} {ty : Ty} (h : TyOK P t ty) : (Go.sizeOf t).run P w = .ok ty.cells w := by
  obtain ⟨i, h1, h2, _⟩ := h.info
  unfold Go.sizeOf
  rw [bind_ok (run_typeInfo h1), h2]; rfl

theorem TyOK.run_zero {t : Nat} {ty : Ty} (h : TyOK P t ty) : ∃ z, (Go.zeroValue t).run P w = .ok z w ∧ ∀ C, AVal C ty.zero z := by
  obtain ⟨i, h1, _, _, z, h2, h3⟩ := h.info
  refine ⟨z, ?_, h3⟩
  unfold Go.zeroValue
  rw [bind_ok (run_typeInfo h1), h2]; rfl

theorem TyOK.run_isAgg {t : Nat} {ty : Ty} (h : TyOK P t ty) : (Go.isAgg t).run P w = .ok ty.agg w := by
  have hd := h.desc
  unfold Go.isAgg Ty.agg
  cases hk : ty.k <;> rw [hk] at hd <;> simp only [DescOK] at hd
  case int k => rw [bind_ok (run_underlying hd)]; rfl
  case bool => rw [bind_ok (run_underlying hd)]; rfl
  case str => rw [bind_ok (run_underlying hd)]; rfl
  case struct fs => obtain ⟨fa, hd, _⟩ := hd; rw [bind_ok (run_underlying hd)]; rfl
  case array n e => rw [bind_ok (run_underlying hd)]; rfl
  case slice e => rw [bind_ok (run_underlying hd)]; rfl
  case ptr e => rw [bind_ok (run_underlying hd)]; rfl
  case map k e => rw [bind_ok (run_underlying hd)]; rfl
  case func => obtain ⟨_, _, _, hd⟩ := hd; rw [bind_ok (run_underlying hd)]; rfl
  case iface => obtain ⟨_, hd⟩ := hd; rw [bind_ok (run_underlying hd)]; rfl
  case other =>
    obtain ⟨d, hd, h1, h2, _⟩ := hd
    rw [bind_ok (run_underlying hd)]
    cases d <;> first | rfl | (exact absurd rfl (h1 _)) | (exact absurd rfl (h2 _ _))

/-! ### Memory -/

def cellsAt (w : World) (b o : Nat) (cs : List Value) : Prop := ∀ j, j < cs.length → w.cell? ⟨b, o + j, none⟩ = cs[j]?

theorem cellsAt_of {b : Nat} {cs : Array Value} {E : Nat} {fz : Nat × Nat} (h : w.heap[b]? = some (.cells cs E fz)) (o n : Nat) (_hn : o + n ≤ cs.size) :
    cellsAt w b o ((cs.toList.drop o).take n) := by
  intro j hj
  have hj' : j < n := by simp at hj; omega
  rw [cell_of h, List.getElem?_take, if_pos hj', List.getElem?_drop, Array.getElem?_toList]

theorem readM.cellsAt {C : Cx} (h : Sim C w) {b o : Nat} {cs : List Value} (hr : readM C.M b o cs) : cellsAt w b o cs := by
  intro j hj
  have := hr j hj
  rw [List.getElem?_eq_getElem hj] at this ⊢
  exact h.agree _ _ _ this

theorem addr_add (b o n : Nat) : (⟨b, o, none⟩ : Addr).add n = ⟨b, o + n, none⟩ := by
  unfold Addr.add; split
  · rename_i h; subst h; rfl
  · rfl

theorem run_load {a : Addr} {v : Value} (h : w.cell? a = some v) : (Go.load a).run P w = .ok v w := by
  simp [Go.load, Sem.run, h]

theorem run_loadCellsFrom (b o : Nat) : ∀ (cs : List Value) (i : Nat) (acc : Array Value), cellsAt w b (o + i) cs → (Go.loadCellsFrom ⟨b, o, none⟩ i cs.length acc).run P w = .ok (acc ++ cs.toArray) w := by
  intro cs
  induction cs with
  | nil => intro i acc _; simp [Go.loadCellsFrom]
  | cons c cs ih =>
    intro i acc h
    have h0 := h 0 (by simp)
    simp only [List.length_cons, Go.loadCellsFrom]
    rw [addr_add]
    have : (Go.load ⟨b, o + i, none⟩).run P w = .ok c w := run_load (by simpa using h0)
    rw [bind_ok this]
    have := ih (i + 1) (acc.push c) (by
      intro j hj
      have := h (j + 1) (by simpa using hj)
      rw [show o + (i + 1) + j = o + i + (j + 1) from by omega]; simpa using this)
    rw [this]; simp

theorem run_loadCells {b o : Nat} {cs : List Value} (h : cellsAt w b o cs) : (Go.loadCells ⟨b, o, none⟩ cs.length).run P w = .ok cs.toArray w := by
  unfold Go.loadCells
  have := run_loadCellsFrom (P := P) b o cs 0 #[] (by simpa using h)
  simpa using this

/-- What a variable of a type is read as. -/
theorem run_loadVar {C : Cx} {t : Nat} {ty : Ty} (hT : TyOK P t ty) {v : AV} {b o : Nat} {cs : List Value} (hc : cellsAt w b o cs) (ha : AR C false v cs) (hf : ty.fits v = true) :
    ∃ rv, (Go.loadVar t ⟨b, o, none⟩).run P w = .ok rv w ∧ AVal C v rv := by
  simp only [Ty.fits, Bool.and_eq_true, beq_iff_eq] at hf
  obtain ⟨h1, h2⟩ := hf
  have hl := ha.length h1
  unfold Go.loadVar
  rw [bind_ok hT.run_isAgg]
  cases hagg : ty.agg with
  | true =>
    rw [hagg] at h2
    simp only [if_true]
    rw [bind_ok hT.run_sizeOf, bind_ok (by rw [← hl]; exact run_loadCells hc)]
    exact ⟨_, rfl, AR.ofCells ha h2⟩
  | false =>
    rw [hagg] at h2
    simp only [Bool.false_eq_true, if_false]
    have h1' : ty.cells = 1 := by
      cases v <;> simp_all [AV.cells, AV.isAgg]
      rename_i d
      cases d <;> simp_all [PD.isAgg, PD.cells]
    rw [h1'] at hl
    obtain ⟨x, rfl⟩ : ∃ x, cs = [x] := List.length_eq_one_iff.1 hl
    refine ⟨x, run_load ?_, AR.ofCell ha h2⟩
    have := hc 0 (by simp)
    simpa using this

theorem run_sureAddr {a : Addr} : (Go.Instr.sureAddr (.pointer (some a))).run P w = .ok a w := rfl

/-- A part of an object. -/
theorem Obj.get_ok {C : Cx} (h : Sim C w) {b blk off cap : Nat} {o : Obj} (hi : C.ι b = some (.at blk off cap)) (ho : C.H[b]? = some o) {π : List Stp} {v : AV} (hg : o.get π = some v) :
    ∃ cells E fz n, w.heap[blk]? = some (.cells cells E fz) ∧ unfrozen w blk ∧ off + offs π + n ≤ cells.size ∧ AR C false v ((cells.toList.drop (off + offs π)).take n) ∧ fitsN v n := by
  obtain ⟨o', ho', hr⟩ := h.obj b _ hi
  rw [ho] at ho'; cases ho'
  cases o with
  | var t s =>
    simp only [Obj.get] at hg
    simp only [ObjRep] at hr
    obtain ⟨blk', cells, E, fz, hl, k1, k2, k3⟩ := hr
    cases hl
    have hfit : fitsN t cells.toList.length := by
      cases hc : t.cells with
      | none => exact .inl hc
      | some n => right; rw [hc, k3.length hc]
    obtain ⟨n, g1, g2, g3⟩ := AV.get_ok π t v _ k3 hfit hg
    exact ⟨cells, E, fz, n, k1, k2, by simpa using g1, by simpa using g2, g3⟩
  | row e xs s =>
    cases π with
    | nil => simp [Obj.get] at hg
    | cons st π =>
      cases st with
      | fld i o => simp [Obj.get] at hg
      | idx i e' =>
        simp only [Obj.get] at hg
        split at hg
        · rename_i he; subst he
          cases hx : xs[i]? with
          | none => simp [hx] at hg
          | some d =>
            simp only [hx, Option.bind_some] at hg
            simp only [ObjRep] at hr
            obtain ⟨cells, E, fz, k1, k2, k3, k4, k5⟩ := hr
            obtain ⟨g1, g2, g3⟩ := k5.get i d hx
            have hle : xs.length * e ≤ cap * e := Nat.mul_le_mul_right e k3
            have hil := (List.getElem?_eq_some_iff.1 hx).1
            have h2 : (i + 1) * e ≤ xs.length * e := Nat.mul_le_mul_right e hil
            rw [Nat.succ_mul] at h2
            rw [drop_take_drop, List.take_take, Nat.min_eq_left (by omega)] at g1
            have hln : ((cells.toList.drop (off + i * e)).take e).length = e := by simp; omega
            obtain ⟨n, q1, q2, q3⟩ := AV.get_ok π (.p d) v _ (AR.p.2 g1) (.inr (by rw [hln]; simp [AV.cells, g2])) hg
            rw [hln] at q1
            rw [part_part _ _ _ _ _ q1] at q2
            refine ⟨cells, E, fz, n, k1, k2, ?_, ?_, q3⟩
            · rw [offs_cons]; simp only [Stp.off]; omega
            · rw [offs_cons]; simp only [Stp.off]; rw [show off + (i * e + offs π) = off + i * e + offs π from by omega]; exact q2
        · cases hg
  | mrow e xs =>
    cases π with
    | nil => simp [Obj.get] at hg
    | cons st π =>
      cases st with
      | fld i o => simp [Obj.get] at hg
      | idx i e' =>
        simp only [Obj.get] at hg
        split at hg
        · rename_i he; subst he
          cases hx : xs[i]? with
          | none => simp [hx] at hg
          | some d =>
            simp only [hx, Option.bind_some] at hg
            simp only [ObjRep] at hr
            obtain ⟨cells, E, fz, k1, k2, k3, k4, k5⟩ := hr
            obtain ⟨g1, g2, g3⟩ := k5.get i d hx
            have hle : xs.length * e ≤ cap * e := Nat.mul_le_mul_right e k3
            have hil := (List.getElem?_eq_some_iff.1 hx).1
            have h2 : (i + 1) * e ≤ xs.length * e := Nat.mul_le_mul_right e hil
            rw [Nat.succ_mul] at h2
            rw [drop_take_drop, List.take_take, Nat.min_eq_left (by omega)] at g1
            have hln : ((cells.toList.drop (off + i * e)).take e).length = e := by simp; omega
            obtain ⟨n, q1, q2, q3⟩ := AV.get_ok π d v _ g1 (by rw [hln]; exact g2) hg
            rw [hln] at q1
            rw [part_part _ _ _ _ _ q1] at q2
            refine ⟨cells, E, fz, n, k1, k2, ?_, ?_, q3⟩
            · rw [offs_cons]; simp only [Stp.off]; omega
            · rw [offs_cons]; simp only [Stp.off]; rw [show off + (i * e + offs π) = off + i * e + offs π from by omega]; exact q2
        · cases hg
  | dead => simp [Obj.get] at hg
  | map => simp [Obj.get] at hg
  | loop => simp [Obj.get] at hg

theorem Obj.get_alive {o : Obj} {π : List Stp} {v : AV} (h : o.get π = some v) : o.alive = true := by
  cases o <;> simp_all [Obj.get, Obj.alive]

theorem load_ok {C : Cx} {E : Env} (hE : EnvOK E P) (h : Sim C w) {t : Nat} {x v : AV} {xv : Value} (hx : AVal C x xv) (hl : E.loadA C.H t x = some v) :
    ∃ rv, (Go.Instr.loadAt t xv).run P w = .ok rv w ∧ AVal C v rv := by
  unfold Env.loadA at hl
  cases hty : E.ty t with
  | none => simp [hty] at hl
  | some ty =>
    have hT := hE.ty t ty hty
    simp only [hty, Option.bind_some] at hl
    unfold Go.Instr.loadAt
    cases x with
    | ref b π =>
      simp only at hl
      cases ho : C.H[b]? with
      | none => simp [ho] at hl
      | some o =>
        simp only [ho, Option.bind_some] at hl
        cases hg : o.get π with
        | none => simp [hg] at hl
        | some u =>
          simp only [hg, Option.bind_some] at hl
          split at hl
          · rename_i hf
            cases hl
            simp only [AVal, AR] at hx
            obtain ⟨_, x, hxe, _, hx⟩ := hx
            obtain ⟨blk, off, cap, hi, rfl⟩ := hx ⟨o, ho, Obj.get_alive hg⟩
            cases hxe
            obtain ⟨cells, E', fz, n, k1, k2, k3, k4, k5⟩ := Obj.get_ok h hi ho hg
            rw [bind_ok run_sureAddr]
            exact run_loadVar hT (cellsAt_of k1 _ _ k3) k4 hf
          · cases hl
    | pp d =>
      simp only at hl
      split at hl
      · rename_i hf
        cases hl
        simp only [AVal, AR] at hx
        obtain ⟨b, off, rcs, hxe, h1, h2⟩ := hx
        cases hxe
        rw [bind_ok run_sureAddr]
        exact run_loadVar hT (readM.cellsAt h h1) (AR.p.2 h2) hf
      · cases hl
    | _ => simp at hl

/-! ### Stores -/

/-- One block turns. -/
structure SetBlk (w w' : World) (blk : Nat) (o : Go.Obj) : Prop where
  size : w'.heap.size = w.heap.size
  here : w'.heap[blk]? = some o
  rest : ∀ k, k ≠ blk → w'.heap[k]? = w.heap[k]?
  quiet : Quiet w w'

theorem quiet_setCell (w : World) (a : Addr) (v : Value) : Quiet w (w.setCell a v) := by
  refine ⟨rfl, rfl, by simp [World.setCell], fun b _ => ?_⟩
  unfold World.frozen? World.setCell
  simp only [Array.getElem?_modify]
  by_cases hb : a.block = b.block
  · rw [if_pos hb]
    cases w.heap[b.block]? with
    | none => rfl
    | some x => cases x <;> rfl
  · rw [if_neg hb]

theorem run_storeCells (b : Nat) : ∀ (vs : List Value) (w : World) (cs : Array Value) (E : Nat) (fz : Nat × Nat) (o i : Nat), w.heap[b]? = some (.cells cs E fz) → unfrozen w b →
    o + i + vs.length ≤ cs.size → (∀ v ∈ vs, one v = true) →
    ∃ w', (Go.storeCells ⟨b, o, none⟩ vs i).run P w = .ok () w' ∧ SetBlk w w' b (.cells (splice cs.toList (o + i) vs).toArray E fz) := by
  intro vs
  induction vs with
  | nil =>
    intro w cs E fz o i h _ hl _
    refine ⟨w, rfl, rfl, ?_, fun _ _ => rfl, .refl w⟩
    rw [h]; simp [splice]
  | cons v vs ih =>
    intro w cs E fz o i h hu hl hone
    simp only [List.length_cons] at hl
    have hlt : o + i < cs.size := by omega
    have h1 : (Go.store ⟨b, o + i, none⟩ v).run P w = .ok () (w.setCell ⟨b, o + i, none⟩ v) := by
      have hv := hone v (by simp)
      have hcell : w.cell? ⟨b, o + i, none⟩ = some cs[o + i] := by rw [cell_of h]; simp [hlt]
      have hfr : w.frozen? ⟨b, o + i, none⟩ = false := by
        have := hu cs E fz h (o + i) hlt
        simp only [World.frozen?, h]
        simpa using this
      unfold Go.store
      cases v <;> first | (simp [one] at hv; done) | simp [Sem.run, hcell, hfr]
    have h2 : (w.setCell ⟨b, o + i, none⟩ v).heap[b]? = some (.cells (cs.set (o + i) v hlt) E fz) := by
      simp only [World.setCell, Array.getElem?_modify, h]
      simp [Array.setIfInBounds, hlt]
    have h3 : ∀ k, k ≠ b → (w.setCell ⟨b, o + i, none⟩ v).heap[k]? = w.heap[k]? := by
      intro k hk
      simp [World.setCell, Array.getElem?_modify, Ne.symm hk]
    have h4 : (w.setCell ⟨b, o + i, none⟩ v).heap.size = w.heap.size := by simp [World.setCell]
    have hu' : unfrozen (w.setCell ⟨b, o + i, none⟩ v) b := by
      intro C' E' fz' hb
      rw [h2] at hb; cases hb
      intro j hj
      exact hu cs E fz h j (by simpa using hj)
    obtain ⟨w', g1, g2, g3, g4, g5⟩ := ih (w.setCell ⟨b, o + i, none⟩ v) (cs.set (o + i) v hlt) E fz o (i + 1) h2 hu' (by simp; omega) (fun x hx => hone x (by simp [hx]))
    refine ⟨w', ?_, by rw [g2, h4], ?_, fun k hk => (g4 k hk).trans (h3 k hk), (quiet_setCell _ _ _).trans g5⟩
    · unfold Go.storeCells
      rw [addr_add, bind_ok h1]
      exact g1
    · rw [g3]
      congr 2
      apply congrArg
      apply List.ext_getElem?
      intro j
      rw [splice_get (l := (cs.set (o + i) v hlt).toList) (lo := o + (i + 1)) (ds := vs) (by simp; omega), splice_get (l := cs.toList) (lo := o + i) (ds := v :: vs) (by simp; omega)]
      simp only [Array.toList_set, List.getElem?_set, List.length_cons]
      by_cases c1 : j < o + i
      · rw [if_pos (by omega), if_neg (by omega), if_pos c1]
      · by_cases c2 : j = o + i
        · subst c2
          have e1 : o + i < o + (i + 1) := by omega
          have e2 : o + i < o + i + (vs.length + 1) := by omega
          simp [e1, e2, hlt]
        · rw [if_neg (by omega)]
          by_cases c3 : j < o + (i + 1) + vs.length
          · rw [if_pos c3, if_neg c1, if_pos (by omega)]
            rw [show j - (o + i) = (j - (o + (i + 1))) + 1 from by omega]; simp
          · rw [if_neg c3, if_neg c1, if_neg (by omega), if_neg (by omega)]

end
end Ev

/- An object is changed; new objects come; the operands. -/
namespace Ev
open Go (Value Addr Fn IntKind World Sem Program Operand)

/-! ### One object is changed -/

theorem setObj_le (C : Cx) (b : Nat) (o o' : Obj) (ho : C.H[b]? = some o) (hl : o.like o') : C.le { C with H := C.H.set b o' } := by
  refine ⟨fun _ _ _ h => h, fun c hc => .inr ⟨rfl, C.H[c], if c = b then o' else C.H[c], by simp [hc], ?_, ?_⟩, by simp, rfl⟩
  · simp only [List.getElem?_set]
    by_cases h : b = c
    · subst h; simp [hc]
    · simp [h, Ne.symm h, hc]
  · split
    · rename_i h; subst h
      rw [List.getElem?_eq_getElem hc, Option.some.injEq] at ho
      right; rw [ho]; exact hl
    · exact .inl rfl

theorem Sim.setObj {C : Cx} {w w' : World} (h : Sim C w) {b blk off cap : Nat} {o o' : Obj} {X : Go.Obj} (hi : C.ι b = some (.at blk off cap)) (ho : C.H[b]? = some o) (hu : o.sealed = false)
    (hl : o.like o') (hu' : o'.sealed = false) (hw : SetBlk w w' blk X) (hr : ObjRep { C with H := C.H.set b o' } w' (.at blk off cap) o') :
    Sim { C with H := C.H.set b o' } w' ∧ Ext C w { C with H := C.H.set b o' } w' := by
  have hle := setObj_le C b o o' ho hl
  have hblt : b < C.H.length := h.idlt hi
  have hget : ∀ c, c ≠ b → (C.H.set b o')[c]? = C.H[c]? := by
    intro c hc
    rw [List.getElem?_set]; simp [Ne.symm hc]
  have hgetb : (C.H.set b o')[b]? = some o' := by simp [hblt]
  refine ⟨⟨?_, ?_, h.sep, ?_, ?_, ?_⟩, ⟨hle, fun _ _ _ hv => .inl hv, fun _ hv => .inl hv, fun k hk hno => ?_, by rw [hw.size]; exact Nat.le_refl _, hw.quiet⟩⟩
  · intro x j v hv
    by_cases hx : x = blk
    · subst hx
      have := h.open_ b x off cap o hi ho hu j
      rw [this] at hv; cases hv
    · rw [cell_same (hw.rest x hx)]; exact h.agree x j v hv
  · intro c loc hc
    by_cases hcb : c = b
    · subst hcb
      rw [hi] at hc; cases hc
      exact ⟨o', hgetb, hr⟩
    · obtain ⟨oc, hoc, hrc⟩ := h.obj c loc hc
      refine ⟨oc, by rw [hget c hcb]; exact hoc, (ObjRep.ren_le hle hrc).same fun k hk => hw.rest k ?_⟩
      intro e
      cases loc with
      | nil => cases hk
      | «at» k' off' cap' =>
        cases hk
        exact hcb (h.sep c b k off' cap' off cap hc (e ▸ hi))
  · intro c blk' off' cap' ob hc hob hs j
    by_cases hcb : c = b
    · subst hcb
      rw [hi] at hc; cases hc
      exact h.open_ c blk off cap o hi ho hu j
    · exact h.open_ c blk' off' cap' ob hc (by rw [← hget c hcb]; exact hob) hs j
  · intro c blk' off' cap' ob hc hob hs
    by_cases hcb : c = b
    · subst hcb
      rw [hgetb] at hob; cases hob
      rw [hu'] at hs; cases hs
    · obtain ⟨cs, E, fz, k1, k2⟩ := h.cover c blk' off' cap' ob hc (by rw [← hget c hcb]; exact hob) hs
      refine ⟨cs, E, fz, ?_, k2⟩
      rw [hw.rest blk' (fun e => hcb (h.sep c b blk' off' cap' off cap hc (e ▸ hi)))]
      exact k1
  · intro c blk' off' cap' e xs hc hob j v hv
    by_cases hcb : c = b
    · subst hcb
      rw [hgetb] at hob; cases hob
      simp [Obj.sealed] at hu'
    · exact h.room c blk' off' cap' e xs hc (by rw [← hget c hcb]; exact hob) j v hv
  · exact hw.rest k (fun e => hno ⟨b, off, cap, e ▸ hi⟩)

/-! ### New objects -/

/-- What a step that only makes memory leaves. -/
structure Calm (C : Cx) (w : World) (C' : Cx) (w' : World) (new : List Obj) : Prop where
  sim : Sim C' w'
  heap : C'.H = C.H ++ new
  old : ∀ b, b < C.H.length → C'.ι b = C.ι b
  mem : ∀ b o v, C.M b o = some v → C'.M b o = some v
  newmem : ∀ b o v, C'.M b o = some v → C.M b o = some v ∨ w.heap.size ≤ b
  newloc : ∀ b blk off cap, C.H.length ≤ b → C'.ι b = some (.at blk off cap) → w.heap.size ≤ blk
  frame : ∀ blk, blk < w.heap.size → w'.heap[blk]? = w.heap[blk]?
  grow : w.heap.size ≤ w'.heap.size
  same : C'.has = C.has
  quiet : Quiet w w'

theorem Calm.le {C C' : Cx} {w w' : World} {new : List Obj} (h : Calm C w C' w' new) : C.le C' := by
  refine ⟨h.mem, fun b hb => .inr ⟨h.old b hb, C.H[b], C.H[b], by simp [hb], ?_, .inl rfl⟩, by rw [h.heap]; simp, h.same⟩
  rw [h.heap, List.getElem?_append_left hb]; simp [hb]

theorem Calm.ext {C C' : Cx} {w w' : World} {new : List Obj} (h : Calm C w C' w' new) : Ext C w C' w' := by
  refine ⟨h.le, fun b o v hv => ?_, fun blk ho => ?_, fun blk hlt _ => h.frame blk hlt, h.grow, h.quiet⟩
  · rcases h.newmem b o v hv with k | k
    · exact .inl k
    · exact .inr (.inr k)
  · obtain ⟨b, off, cap, hi⟩ := ho
    by_cases hb : b < C.H.length
    · rw [h.old b hb] at hi; exact .inl ⟨b, off, cap, hi⟩
    · exact .inr (h.newloc b blk off cap (by omega) hi)

theorem Calm.refl {C : Cx} {w : World} (h : Sim C w) : Calm C w C w [] :=
  ⟨h, by simp, fun _ _ => rfl, fun _ _ _ h => h, fun _ _ _ h => .inl h, fun b blk off cap hb hi => absurd (h.idlt hi) (by omega), fun _ _ => rfl, Nat.le_refl _, rfl, .refl w⟩

/-- The context with one object more. -/
def Cx.add (C : Cx) (loc : Loc) (o : Obj) : Cx := { C with ι := fun b => if b = C.H.length then some loc else C.ι b, H := C.H ++ [o] }

theorem Calm.add {C : Cx} {w w' : World} (h : Sim C w) {loc : Loc} {o : Obj} (hloc : ∀ blk off cap, loc = .at blk off cap → w.heap.size ≤ blk) (hframe : ∀ blk, blk < w.heap.size → w'.heap[blk]? = w.heap[blk]?)
    (hgrow : w.heap.size ≤ w'.heap.size) (hq : Quiet w w') (hu : o.sealed = false) (hr : C.le (C.add loc o) → ObjRep (C.add loc o) w' loc o) : Calm C w (C.add loc o) w' [o] := by
  have hnone : C.ι C.H.length = none := by
    cases hi : C.ι C.H.length with
    | none => rfl
    | some l => exact absurd (h.idlt hi) (by omega)
  have hold : ∀ b, b < C.H.length → (C.add loc o).ι b = C.ι b := by
    intro b hb
    simp [Cx.add, show b ≠ C.H.length from by omega]
  have hgeto : ∀ b, b < C.H.length → (C.add loc o).H[b]? = C.H[b]? := by
    intro b hb; simp only [Cx.add]; rw [List.getElem?_append_left hb]
  have hgetn : (C.add loc o).H[C.H.length]? = some o := by simp [Cx.add]
  have hιn : (C.add loc o).ι C.H.length = some loc := by simp [Cx.add]
  have hle : C.le (C.add loc o) := by
    refine ⟨fun _ _ _ h => h, fun b hb => .inr ⟨hold b hb, C.H[b], C.H[b], by simp [hb], ?_, .inl rfl⟩, by simp [Cx.add], rfl⟩
    rw [hgeto b hb]; simp [hb]
  have hcase : ∀ b l, (C.add loc o).ι b = some l → (b < C.H.length ∧ C.ι b = some l) ∨ (b = C.H.length ∧ l = loc) := by
    intro b l hb
    by_cases hb' : b = C.H.length
    · subst hb'; rw [hιn] at hb; cases hb; exact .inr ⟨rfl, rfl⟩
    · have : C.ι b = some l := by simpa [Cx.add, hb'] using hb
      exact .inl ⟨h.idlt this, this⟩
  have hMlt : ∀ b j v, C.M b j = some v → b < w.heap.size := fun b j v hv => cell_lt (h.agree b j v hv)
  refine ⟨⟨?_, ?_, ?_, ?_, ?_, ?_⟩, rfl, hold, fun _ _ _ h => h, fun _ _ _ h => .inl h, ?_, hframe, hgrow, rfl, hq⟩
  · intro b j v hv
    rw [cell_same (hframe b (hMlt b j v hv))]; exact h.agree b j v hv
  · intro b l hb
    rcases hcase b l hb with ⟨h1, h2⟩ | ⟨rfl, rfl⟩
    · obtain ⟨ob, ho, hro⟩ := h.obj b l h2
      exact ⟨ob, by rw [hgeto b h1]; exact ho, (ObjRep.ren_le hle hro).same fun k hk => hframe k (hro.lt hk)⟩
    · exact ⟨o, hgetn, hr hle⟩
  · intro b b' blk off cap off' cap' h1 h2
    rcases hcase b _ h1 with ⟨k1, k2⟩ | ⟨k1, k2⟩
    · rcases hcase b' _ h2 with ⟨q1, q2⟩ | ⟨q1, q2⟩
      · exact h.sep b b' blk off cap off' cap' k2 q2
      · have := hloc blk off' cap' q2.symm
        have := h.lt k2; omega
    · rcases hcase b' _ h2 with ⟨q1, q2⟩ | ⟨q1, q2⟩
      · have := hloc blk off cap k2.symm
        have := h.lt q2; omega
      · omega
  · intro b blk off cap ob h1 h2 h3 j
    rcases hcase b _ h1 with ⟨k1, k2⟩ | ⟨k1, k2⟩
    · rw [hgeto b k1] at h2
      exact h.open_ b blk off cap ob k2 h2 h3 j
    · have := hloc blk off cap k2.symm
      cases hv : (C.add loc o).M blk j with
      | none => rfl
      | some v => have := hMlt blk j v hv; omega
  · intro b blk off cap ob h1 h2 h3
    rcases hcase b _ h1 with ⟨k1, k2⟩ | ⟨k1, k2⟩
    · rw [hgeto b k1] at h2
      obtain ⟨cs, E, fz, q1, q2⟩ := h.cover b blk off cap ob k2 h2 h3
      exact ⟨cs, E, fz, by rw [hframe blk (h.lt k2)]; exact q1, q2⟩
    · subst k1; rw [hgetn] at h2; cases h2; rw [hu] at h3; cases h3
  · intro b blk off cap e xs h1 h2 j v hv
    rcases hcase b _ h1 with ⟨k1, k2⟩ | ⟨k1, k2⟩
    · rw [hgeto b k1] at h2
      exact h.room b blk off cap e xs k2 h2 j v hv
    · subst k1; rw [hgetn] at h2; cases h2; simp [Obj.sealed] at hu
  · intro b blk off cap hb hi
    rcases hcase b _ hi with ⟨k1, k2⟩ | ⟨k1, k2⟩
    · omega
    · exact hloc blk off cap k2.symm

def pushW (w : World) (o : Go.Obj) : World := { w with heap := w.heap.push o }

theorem push_old (w : World) (o : Go.Obj) (b : Nat) (hb : b < w.heap.size) : (pushW w o).heap[b]? = w.heap[b]? := by
  show (w.heap.push o)[b]? = _; rw [Array.getElem?_push_lt hb]; simp [hb]
theorem push_new (w : World) (o : Go.Obj) : (pushW w o).heap[w.heap.size]? = some o := by show (w.heap.push o)[w.heap.size]? = _; simp
theorem push_size (w : World) (o : Go.Obj) : (pushW w o).heap.size = w.heap.size + 1 := by show (w.heap.push o).size = _; simp

theorem quiet_push (w : World) (o : Go.Obj) : Quiet w (pushW w o) := by
  refine ⟨rfl, rfl, by rw [push_size]; omega, fun a ha => ?_⟩
  unfold World.frozen?
  rw [push_old w o _ ha]

/-- An object that is no row of cells. -/
def noCells : Go.Obj → Prop
  | .cells .. => False
  | _ => True

theorem quiet_put {w : World} {r : Nat} {x o : Go.Obj} (hx : w.heap[r]? = some x) (h1 : noCells x) (h2 : noCells o) : Quiet w { w with heap := w.heap.setIfInBounds r o } := by
  refine ⟨rfl, rfl, by simp, fun a _ => ?_⟩
  unfold World.frozen?
  simp only [Array.getElem?_setIfInBounds]
  have hlt := (Array.getElem?_eq_some_iff.1 hx).1
  by_cases h : r = a.block
  · subst h
    rw [if_pos rfl, if_pos hlt, hx]
    cases x <;> cases o <;> first | rfl | (exact h1.elim) | (exact h2.elim)
  · rw [if_neg h]

section
variable {P : Program} {w : World}

theorem run_newObj (o : Go.Obj) : (Go.newObj o).run P w = .ok w.heap.size (pushW w o) := rfl

theorem run_newRow (E : Nat) (cs : Array Value) : (Go.newRow E cs).run P w = .ok ⟨w.heap.size, 0, none⟩ (pushW w (.cells cs E)) := by
  unfold Go.newRow
  rw [bind_ok (run_newObj _)]; rfl

theorem unfrozen_push (cs : Array Value) (E : Nat) : unfrozen (pushW w (.cells cs E)) w.heap.size := by
  intro C E' fz hb j _ hj
  rw [push_new] at hb
  cases hb
  simp at hj

/-- A new variable. -/
theorem newVar_ok {C : Cx} (h : Sim C w) (t : Nat) {v : AV} {x : Value} (hv : AVal C v x) (hs : v.storable = true) :
    ∃ w', (Go.newVar t x).run P w = .ok ⟨w.heap.size, 0, none⟩ w' ∧ Calm C w (C.add (.at w.heap.size 0 1) (.var v false)) w' [.var v false] ∧
      AVal (C.add (.at w.heap.size 0 1) (.var v false)) (.ref C.H.length []) (.pointer (some ⟨w.heap.size, 0, none⟩)) := by
  refine ⟨pushW w (.cells x.cells t), run_newRow _ _, ?_, ?_⟩
  · refine Calm.add h (fun blk off cap e => by cases e; exact Nat.le_refl _) (fun b hb => push_old w _ b hb) (by rw [push_size]; omega) (quiet_push _ _) rfl fun hle => ?_
    simp only [ObjRep]
    exact ⟨w.heap.size, x.cells, t, (0, 0), rfl, push_new w _, unfrozen_push _ _, AR.mono hle false v _ (hv.cells hs)⟩
  · simp only [AVal, AR]
    refine ⟨by simp [Cx.add], _, rfl, ⟨_, _, rfl⟩, fun _ => ⟨w.heap.size, 0, 1, by simp [Cx.add], by simp [offs]⟩⟩

end

/-! ### Operands -/

def SlotsOK (C : Cx) (tmps : List AV) (vs : Array Value) : Prop := tmps.length ≤ vs.size ∧ ∀ i, AVal C (tmps.getD i .unk) (vs.getD i Go.undef)

theorem SlotsOK.mono {C C' : Cx} (h : C.le C') {tmps : List AV} {vs : Array Value} (hs : SlotsOK C tmps vs) : SlotsOK C' tmps vs :=
  ⟨hs.1, fun i => AR.mono h true _ _ (hs.2 i)⟩

theorem AVal.unk {C : Cx} {v : Value} : AVal C .unk v := by simp [AVal, AR]

theorem SlotsOK.put {C : Cx} {tmps : List AV} {vs : Array Value} (hs : SlotsOK C tmps vs) (d : Nat) {av : AV} {v : Value} (hv : AVal C av v) : SlotsOK C (tmps.set d av) (vs.setIfInBounds d v) := by
  refine ⟨by simpa using hs.1, fun i => ?_⟩
  rw [List.getD_eq_getElem?_getD, List.getElem?_set, Array.getD_eq_getD_getElem?, Array.getElem?_setIfInBounds]
  by_cases hdi : d = i
  · subst hdi
    by_cases hd : d < tmps.length
    · have : d < vs.size := Nat.lt_of_lt_of_le hd hs.1
      simp [hd, this, hv]
    · simp [hd, AVal.unk]
  · have := hs.2 i
    rw [List.getD_eq_getElem?_getD, Array.getD_eq_getD_getElem?] at this
    simpa [hdi] using this

theorem constAV_ok {C : Cx} (v : Value) : AVal C (constAV v) v := by
  unfold constAV
  split <;> first | exact AVal.unk | simp [AVal, AR, PD.isAgg, PRep]

theorem opnd_ok {C : Cx} {E : Env} (hG : GlobOK E C.M) {tmps : List AV} {a : Go.Act} (hs : SlotsOK C tmps a.tmps) (x : Operand) : AVal C (E.opnd tmps x) (a.eval x) := by
  cases x with
  | tmp t => exact hs.2 t
  | const v => exact constAV_ok v
  | global g =>
    simp only [Env.opnd, Go.Act.eval]
    cases hg : E.glob g with
    | none => exact AVal.unk
    | some d =>
      obtain ⟨rcs, h1, h2⟩ := hG g d hg
      simp only [AVal, AR]
      exact ⟨g, 0, rcs, rfl, h1, h2⟩
  | func f => simp [Env.opnd, Go.Act.eval, AVal, AR, PD.isAgg, PRep]

theorem fixNil_ok {C : Cx} {E : Env} {t : Nat} {v : AV} {x : Value} (h : AVal C v x) : AVal C (E.fixNil t v) x := by
  unfold Env.fixNil
  split
  · split
    · simpa [AVal, AR] using h
    · exact h
  · exact h

end Ev

/- The operations that only compute, read and make memory. -/
namespace Ev
open Go (Value Addr Fn IntKind World Sem Program Operand Oper Result)

section
variable {P : Program} {w : World}

/-- A value is computed, and nothing else happens but new memory. -/
def ValOK (P : Program) (C : Cx) (w : World) (s : Sem Value) (v : AV) (new : List Obj) : Prop :=
  ∃ rv C' w', s.run P w = .ok rv w' ∧ Calm C w C' w' new ∧ AVal C' v rv

theorem ValOK.pure {C : Cx} (h : Sim C w) {v : AV} {rv : Value} (hv : AVal C v rv) : ValOK P C w (Pure.pure rv) v [] := ⟨rv, C, w, rfl, .refl h, hv⟩

theorem ValOK.same {C : Cx} (h : Sim C w) {s : Sem Value} {v : AV} {rv : Value} (hr : s.run P w = .ok rv w) (hv : AVal C v rv) : ValOK P C w s v [] := ⟨rv, C, w, hr, .refl h, hv⟩

theorem run_value {s : Sem Value} {rv : Value} {w w' : World} (h : s.run P w = .ok rv w') : ((do pure (Go.Next.value (← s))) : Sem Go.Next).run P w = .ok (.value rv) w' := by
  rw [bind_ok h]; rfl

theorem AVal.int {C : Cx} {k : IntKind} {n : Int} {v : Value} : AVal C (.p (.int k n)) v ↔ v = .int k n := by simp [AVal, AR, PD.isAgg, PRep]
theorem AVal.bool {C : Cx} {b : Bool} {v : Value} : AVal C (.p (.bool b)) v ↔ v = .bool b := by simp [AVal, AR, PD.isAgg, PRep]
theorem AVal.str {C : Cx} {s : ByteArray} {v : Value} : AVal C (.p (.str s)) v ↔ v = .string s := by simp [AVal, AR, PD.isAgg, PRep]
theorem AVal.p {C : Cx} {d : PD} {v : Value} : AVal C (.p d) v ↔ PVal C.M d v := by simp [AVal, AR, PVal]

/-! ### New variables -/

theorem alloc_ok {C : Cx} (h : Sim C w) {t : Nat} {ty : Ty} (hT : TyOK P t ty) : ValOK P C w (Go.Instr.alloc t true (.tuple #[])) (.ref C.H.length []) [.var ty.zero false] := by
  obtain ⟨z, h1, h2⟩ := hT.run_zero (w := w)
  obtain ⟨w', g1, g2, g3⟩ := newVar_ok (P := P) h t (h2 C) hT.storable
  refine ⟨_, _, w', ?_, g2, g3⟩
  unfold Go.Instr.alloc
  rw [bind_ok h1]
  simp only
  rw [bind_ok g1]; rfl

theorem box_ok {C : Cx} (h : Sim C w) (t : Nat) {v : AV} {x : Value} (hv : AVal C v x) (hs : v.storable = true) : ValOK P C w (Go.Instr.box t x) (.ref C.H.length []) [.var v false] := by
  obtain ⟨w', g1, g2, g3⟩ := newVar_ok (P := P) h t hv hs
  refine ⟨_, _, w', ?_, g2, g3⟩
  unfold Go.Instr.box
  rw [bind_ok g1]; rfl

/-! ### Addresses -/

theorem asIntOf_run {k : IntKind} {n : Int} : (Go.asIntOf (.int k n)).run P w = .ok (k, n) w := rfl

theorem fieldAddr_ok {C : Cx} {E : Env} (hE : EnvOK E P) (h : Sim C w) {t i : Nat} {x v : AV} {xv : Value} (hx : AVal C x xv) (hl : E.fieldAddrA t x i = some v) :
    ValOK P C w (Go.Instr.fieldAt t xv i) v [] := by
  unfold Env.fieldAddrA at hl
  split at hl
  case h_2 => cases hl
  case h_1 fs _ _ _ hty =>
    have hT := hE.ty t _ hty
    have hd := hT.desc
    simp only [DescOK] at hd
    obtain ⟨fa, hu, hsz, _, _, hf⟩ := hd
    cases hfi : fs[i]? with
    | none => simp [hfi] at hl
    | some f =>
      obtain ⟨g, hg, ho, hgt, _⟩ := hf i f hfi
      simp only [hfi, Option.bind_some] at hl
      cases hft : E.ty f.2 with
      | none => simp [hft] at hl
      | some ft =>
        simp only [hft, Option.bind_some] at hl
        split at hl
        · cases hl
        · rename_i hz
          have hFT := hE.ty f.2 ft hft
          have key : ∀ (b o : Nat), (Go.Instr.fieldAt t (.pointer (some ⟨b, o, none⟩)) i).run P w = .ok (.pointer (some ⟨b, o + f.1, none⟩)) w := by
            intro b o
            unfold Go.Instr.fieldAt
            rw [bind_ok (run_underlying hu)]
            simp only [hg]
            rw [bind_ok run_sureAddr]
            have : (Go.fieldPlace ⟨b, o, none⟩ g).run P w = .ok ⟨b, o + f.1, none⟩ w := by
              unfold Go.fieldPlace
              rw [hgt, bind_ok hFT.run_sizeOf, if_neg hz, ho, addr_add]; rfl
            rw [bind_ok this]; rfl
          cases x with
          | ref b π =>
            simp only [Option.some.injEq] at hl; subst hl
            simp only [AVal, AR] at hx
            obtain ⟨hb, x, hxe, ⟨b0, o0, rfl⟩, hx⟩ := hx
            cases hxe
            refine .same h (key b0 o0) ?_
            simp only [AVal, AR]
            refine ⟨hb, _, rfl, ⟨_, _, rfl⟩, fun ha => ?_⟩
            obtain ⟨blk, off, cap, hi, he⟩ := hx ha
            cases he
            exact ⟨_, off, cap, hi, by simp [offs, Stp.off, Nat.add_assoc]⟩
          | pp d =>
            cases d with
            | agg sz ds =>
              simp only at hl
              split at hl
              · rename_i hsum
                cases hdi : ds[i]? with
                | none => simp [hdi] at hl
                | some d =>
                  simp only [hdi, Option.map_some, Option.some.injEq] at hl; subst hl
                  simp only [AVal, AR] at hx
                  obtain ⟨b, off, rcs, hxe, h1, h2⟩ := hx
                  cases hxe
                  simp only [PRep] at h2
                  obtain ⟨n, g0, g1, g2, g3⟩ := h2.get i d hdi
                  refine .same h (key b off) ?_
                  simp only [AVal, AR]
                  refine ⟨b, off + f.1, _, rfl, ?_, g1⟩
                  intro j hj
                  have hj' : j < n := by simp at hj; omega
                  have := h1 (f.1 + j) (by omega)
                  rw [List.getElem?_take, if_pos hj', List.getElem?_drop, hsum]
                  rw [← this]; congr 1; omega
              · cases hl
            | _ => simp at hl
          | _ => simp at hl

/-- A part of an aggregate value. -/
theorem part_ok {C : Cx} {t : Nat} {ty : Ty} (hT : TyOK P t ty) {v : AV} {cs : Array Value} {o n : Nat} (hn : o + n ≤ cs.size) (ha : AR C false v ((cs.toList.drop o).take n)) (hv : fitsN v n) (hf : ty.fits v = true) :
    ∃ rv, (Go.part t cs o).run P w = .ok rv w ∧ AVal C v rv := by
  simp only [Ty.fits, Bool.and_eq_true, beq_iff_eq] at hf
  obtain ⟨h1, h2⟩ := hf
  have hne : n = ty.cells := by
    rcases hv with hv | hv
    · rw [h1] at hv; cases hv
    · rw [h1] at hv; cases hv; rfl
  unfold Go.part
  rw [bind_ok hT.run_isAgg]
  cases hagg : ty.agg with
  | true =>
    rw [hagg] at h2
    simp only [if_true]
    rw [bind_ok hT.run_sizeOf, ← hne]
    refine ⟨_, rfl, ?_⟩
    have := AR.ofCells ha h2
    have he : ((cs.toList.drop o).take n).toArray = cs.extract o (o + n) := by
      apply Array.ext'
      simp
    rw [he] at this
    exact this
  | false =>
    rw [hagg] at h2
    simp only [Bool.false_eq_true, if_false]
    have h1' : n = 1 := by
      rw [hne]
      cases v <;> simp_all [AV.cells, AV.isAgg]
      rename_i d
      cases d <;> simp_all [PD.isAgg, PD.cells]
    subst h1'
    have hlt : o < cs.size := by omega
    have hx : ((cs.toList.drop o).take 1) = [cs[o]] := by
      rw [List.drop_eq_getElem_cons (by simpa using hlt)]; simp
    rw [hx] at ha
    refine ⟨cs[o], ?_, AR.ofCell ha h2⟩
    simp [hlt]

theorem AV.get_agg {C : Cx} {x v : AV} {s : Stp} {π : List Stp} {xv : Value} (hx : AVal C x xv) (hg : x.get (s :: π) = some v) : ∃ c : Array Value, xv = .agg c ∧ AR C false x c.toList ∧ fitsN x c.toList.length := by
  cases x with
  | p d =>
    have hagg : d.isAgg = true := by cases d <;> cases s <;> simp [AV.get] at hg <;> rfl
    simp only [AVal, AR, hagg, Bool.and_self, if_true] at hx
    obtain ⟨c, h1, h2⟩ := hx
    simp only [List.cons.injEq, and_true] at h1
    exact ⟨c, h1, AR.p.2 h2, .inr (by simp only [AV.cells]; rw [h2.length])⟩
  | agg sz fs =>
    simp only [AVal, AR, if_true] at hx
    obtain ⟨c, h1, h2⟩ := hx
    simp only [List.cons.injEq, and_true] at h1
    exact ⟨c, h1, by simpa [AR] using h2, .inr (by simp only [AV.cells]; rw [h2.length])⟩
  | _ => cases s <;> simp [AV.get] at hg

theorem field_ok {C : Cx} {E : Env} (hE : EnvOK E P) (h : Sim C w) {t i : Nat} {x v : AV} {xv : Value} (hx : AVal C x xv) (hl : E.fieldA t x i = some v) :
    ValOK P C w (Go.Instr.field t xv i) v [] := by
  unfold Env.fieldA at hl
  split at hl
  case h_2 => cases hl
  case h_1 fs _ _ _ hty =>
    have hT := hE.ty t _ hty
    have hd := hT.desc
    simp only [DescOK] at hd
    obtain ⟨fa, hu, hsz, _, _, hf⟩ := hd
    cases hfi : fs[i]? with
    | none => simp [hfi] at hl
    | some f =>
      obtain ⟨g, hg, ho, hgt, _⟩ := hf i f hfi
      simp only [hfi, Option.bind_some] at hl
      cases hft : E.ty f.2 with
      | none => simp [hft] at hl
      | some ft =>
        simp only [hft, Option.bind_some] at hl
        cases hgv : x.get [.fld i f.1] with
        | none => simp [hgv] at hl
        | some u =>
          simp only [hgv, Option.bind_some] at hl
          split at hl
          · rename_i hfit
            cases hl
            obtain ⟨c, rfl, h1, h2⟩ := AV.get_agg hx hgv
            obtain ⟨n, q1, q2, q3⟩ := AV.get_ok _ _ _ _ h1 h2 hgv
            have hoff : offs [Stp.fld i f.1] = f.1 := by simp [offs, Stp.off]
            rw [hoff] at q1 q2
            obtain ⟨rv, r1, r2⟩ := part_ok (P := P) (w := w) (hE.ty f.2 ft hft) (by simpa using q1) q2 q3 hfit
            refine .same h ?_ r2
            unfold Go.Instr.field
            rw [bind_ok (run_underlying hu)]
            simp only [hg, ho, hgt]
            rw [bind_ok (show (Go.asAgg (.agg c)).run P w = .ok c w from rfl)]
            exact r1
          · cases hl

theorem index_ok {C : Cx} {E : Env} (hE : EnvOK E P) (h : Sim C w) {t : Nat} {x v : AV} {xv : Value} {k : IntKind} {i : Int} (hx : AVal C x xv) (hl : E.indexA t x i = some v) :
    ValOK P C w (Go.Instr.index t xv (.int k i)) v [] := by
  unfold Env.indexA at hl
  split at hl
  case h_3 => cases hl
  case h_1 n e _ _ _ hty =>
    have hT := hE.ty t _ hty
    have hu := hT.desc
    simp only [DescOK] at hu
    cases het : E.ty e with
    | none => simp [het] at hl
    | some et =>
      simp only [het, Option.bind_some] at hl
      split at hl
      · rename_i hin
        cases hgv : x.get [.idx i.toNat et.cells] with
        | none => simp [hgv] at hl
        | some u =>
          simp only [hgv, Option.bind_some] at hl
          split at hl
          · rename_i hfit
            cases hl
            obtain ⟨c, rfl, h1, h2⟩ := AV.get_agg hx hgv
            obtain ⟨m, q1, q2, q3⟩ := AV.get_ok _ _ _ _ h1 h2 hgv
            have hoff : offs [Stp.idx i.toNat et.cells] = i.toNat * et.cells := by simp [offs, Stp.off]
            rw [hoff] at q1 q2
            have hET := hE.ty e et het
            obtain ⟨rv, r1, r2⟩ := part_ok (P := P) (w := w) hET (by simpa using q1) q2 q3 hfit
            refine .same h ?_ r2
            simp only [inB, Bool.and_eq_true, decide_eq_true_eq] at hin
            unfold Go.Instr.index
            rw [bind_ok asIntOf_run]
            simp only
            rw [bind_ok (run_underlying hu)]
            simp only
            rw [if_pos hin, bind_ok hET.run_sizeOf]
            exact r1
          · cases hl
      · cases hl
  case h_2 _ _ _ hty =>
    have hT := hE.ty t _ hty
    have hu := hT.desc
    simp only [DescOK] at hu
    split at hl
    case h_2 => cases hl
    rename_i s
    split at hl
    · rename_i hi
      cases hc : s.data[i.toNat]? with
      | none => simp [hc] at hl
      | some b =>
        simp only [hc, Option.map_some, Option.some.injEq] at hl; subst hl
        rw [AVal.str] at hx; subst hx
        refine .same h ?_ (AVal.int.2 rfl)
        unfold Go.Instr.index
        rw [bind_ok asIntOf_run]
        simp only
        rw [bind_ok (run_underlying hu)]
        simp only
        rw [if_pos hi]
        have : s[i.toNat]? = some b := hc
        rw [this]; rfl
    · cases hl

/-- The address of an element of a slice. -/
theorem idxSlice_run {t e : Nat} {et : Ty} {k : IntKind} {i : Int} {b o len cap : Nat} (hu : P.underlying t = some (.slice e)) (hET : TyOK P e et) (hi : 0 ≤ i ∧ i < len) :
    (Go.Instr.indexAt t (.slice (some ⟨b, o, none⟩) len cap) (.int k i)).run P w = .ok (.pointer (some ⟨b, o + i.toNat * et.cells, none⟩)) w := by
  unfold Go.Instr.indexAt
  rw [bind_ok asIntOf_run]
  simp only
  rw [bind_ok (run_underlying hu)]
  simp only
  rw [bind_ok (run_pure _), bind_ok (run_underlying hu)]
  simp only
  rw [if_pos hi, bind_ok hET.run_sizeOf, addr_add]; rfl

theorem idxArray_run {t e n : Nat} {et : Ty} {k : IntKind} {i : Int} {b o : Nat} (hu : P.underlying t = some (.array n e)) (hET : TyOK P e et) (hi : 0 ≤ i ∧ i < n) :
    (Go.Instr.indexAt t (.pointer (some ⟨b, o, none⟩)) (.int k i)).run P w = .ok (.pointer (some ⟨b, o + i.toNat * et.cells, none⟩)) w := by
  unfold Go.Instr.indexAt
  rw [bind_ok asIntOf_run]
  simp only
  rw [bind_ok (run_underlying hu)]
  simp only
  rw [bind_ok run_sureAddr, bind_ok (run_pure _), bind_ok (run_underlying hu)]
  simp only
  rw [if_pos hi, bind_ok hET.run_sizeOf, addr_add]; rfl

theorem indexAddr_ok {C : Cx} {E : Env} (hE : EnvOK E P) (h : Sim C w) {t : Nat} {x v : AV} {xv : Value} {k : IntKind} {i : Int} (hx : AVal C x xv) (hl : E.indexAddrA C.H t x i = some v) :
    ValOK P C w (Go.Instr.indexAt t xv (.int k i)) v [] := by
  unfold Env.indexAddrA at hl
  split at hl
  case h_3 => cases hl
  case h_1 e _ _ _ hty =>
    have hT := hE.ty t _ hty
    have hu := hT.desc
    simp only [DescOK] at hu
    cases het : E.ty e with
    | none => simp [het] at hl
    | some et =>
      have hET := hE.ty e et het
      simp only [het, Option.bind_some] at hl
      unfold idxA at hl
      split at hl
      case h_4 => cases hl
      case h_1 e' xs =>
        split at hl
        · rename_i hc
          obtain ⟨rfl, hi⟩ := hc
          cases hxi : xs[i.toNat]? with
          | none => simp [hxi] at hl
          | some d =>
            simp only [hxi, Option.map_some, Option.some.injEq] at hl; subst hl
            simp only [AVal, AR, PD.isAgg, Bool.and_false, Bool.false_eq_true, if_false, PRep] at hx
            obtain ⟨base, cap, hxe, hcap, hb⟩ := hx
            cases hxe
            have hlt := (List.getElem?_eq_some_iff.1 hxi).1
            obtain ⟨b, off, rcs, rfl, hr, hrow⟩ := hb.resolve_left (by omega)
            obtain ⟨g1, g2, g3⟩ := hrow.get _ _ hxi
            refine .same h (idxSlice_run hu hET ⟨hi, by omega⟩) ?_
            simp only [AVal, AR]
            refine ⟨b, _, _, rfl, ?_, g1⟩
            intro j hj
            have hj' : j < et.cells := by simp at hj; omega
            have := hr (i.toNat * et.cells + j) (by omega)
            rw [List.getElem?_take, if_pos hj', List.getElem?_drop, ← this]; congr 1; omega
        · cases hl
      case h_2 b lo =>
        cases ho : C.H[b]? with
        | none => simp [ho] at hl
        | some o =>
          simp only [ho, Option.bind_some] at hl
          cases hrl : o.rowLen with
          | none => simp [hrl] at hl
          | some r =>
            obtain ⟨e', n⟩ := r
            simp only [hrl, Option.bind_some] at hl
            split at hl
            · rename_i hc
              obtain ⟨rfl, hin, hlo⟩ := hc
              cases hl
              simp only [inB, Bool.and_eq_true, decide_eq_true_eq] at hin
              simp only [AVal, AR] at hx
              obtain ⟨hb, x, hxe, _, hx⟩ := hx
              cases hxe
              obtain ⟨loc, hi, hv⟩ := hx o _ n ho hrl
              cases loc with
              | nil => simp only [ownV] at hv; omega
              | «at» blk off cap =>
                simp only [ownV] at hv
                obtain ⟨v1, v2, a, rfl, v3⟩ := hv
                rw [v3 (by omega)]
                refine .same h (idxSlice_run hu hET (by omega)) ?_
                simp only [AVal, AR]
                refine ⟨hb, _, rfl, ⟨_, _, rfl⟩, fun _ => ⟨blk, off, cap, hi, ?_⟩⟩
                simp [offs, Stp.off, Nat.add_mul, Nat.add_assoc]
            · cases hl
      case h_3 b π e' lo len cap ex =>
        cases ho : C.H[b]? with
        | none => simp [ho] at hl
        | some o =>
          simp only [ho, Option.bind_some] at hl
          split at hl
          · rename_i hc
            obtain ⟨rfl, hin, hal⟩ := hc
            cases hl
            simp only [inB, Bool.and_eq_true, decide_eq_true_eq] at hin
            simp only [AVal, AR] at hx
            obtain ⟨hb, x, hxe, _, hx⟩ := hx
            cases hxe
            obtain ⟨loc, hi, hwv⟩ := hx ⟨o, ho, hal⟩
            cases loc with
            | nil => obtain ⟨rfl, _⟩ := hwv; omega
            | «at» blk off c =>
            obtain ⟨hlc, a, cap', rfl, hcc, _, hadr, _⟩ := hwv
            rw [hadr (by omega)]
            refine .same h (idxSlice_run hu hET hin) ?_
            simp only [AVal, AR]
            refine ⟨hb, _, rfl, ⟨_, _, rfl⟩, fun _ => ⟨blk, off, c, hi, ?_⟩⟩
            simp [offs, Stp.off, Nat.add_mul, Nat.add_assoc]
          · cases hl
  case h_2 n e _ _ _ hty =>
    have hT := hE.ty t _ hty
    have hu := hT.desc
    simp only [DescOK] at hu
    cases het : E.ty e with
    | none => simp [het] at hl
    | some et =>
      have hET := hE.ty e et het
      simp only [het, Option.bind_some] at hl
      split at hl
      · rename_i hin
        simp only [inB, Bool.and_eq_true, decide_eq_true_eq] at hin
        split at hl
        case h_3 => cases hl
        case h_1 b π =>
          cases hl
          simp only [AVal, AR] at hx
          obtain ⟨hb, x, hxe, ⟨b0, o0, rfl⟩, hx⟩ := hx
          cases hxe
          refine .same h (idxArray_run hu hET hin) ?_
          simp only [AVal, AR]
          refine ⟨hb, _, rfl, ⟨_, _, rfl⟩, fun ha => ?_⟩
          obtain ⟨blk, off, cap, hi, he⟩ := hx ha
          cases he
          exact ⟨_, off, cap, hi, by simp [offs, Stp.off, Nat.add_assoc]⟩
        case h_2 d =>
          cases hgv : AV.get (.p d) [.idx i.toNat et.cells] with
          | none => simp [hgv] at hl
          | some u =>
            simp only [hgv, Option.bind_some] at hl
            split at hl
            case h_2 => cases hl
            case h_1 d' _ =>
              cases hl
              simp only [AVal, AR] at hx
              obtain ⟨b, off, rcs, hxe, h1, h2⟩ := hx
              cases hxe
              obtain ⟨m, q1, q2, q3⟩ := AV.get_ok (C := C) _ _ _ rcs (AR.p.2 h2) (.inr (by simp only [AV.cells]; rw [h2.length])) hgv
              have hoff : offs [Stp.idx i.toNat et.cells] = i.toNat * et.cells := by simp [offs, Stp.off]
              rw [hoff] at q1 q2
              refine .same h (idxArray_run hu hET hin) ?_
              simp only [AVal, AR]
              refine ⟨b, _, _, rfl, ?_, AR.p.1 q2⟩
              intro j hj
              have hj' : j < m := by simp at hj; omega
              have := h1 (i.toNat * et.cells + j) (by omega)
              rw [List.getElem?_take, if_pos hj', List.getElem?_drop, ← this]; congr 1; omega
      · cases hl

end
end Ev

/- Arithmetic, comparisons, conversions. -/
namespace Ev
open Go (Value Addr Fn IntKind World Sem Program Operand Oper Result BinOp UnOp)

section
variable {P : Program} {w : World}

/-! ### Equality -/

theorem PVal.int {M : Mem} {k : IntKind} {n : Int} {v : Value} (h : PVal M (.int k n) v) : v = .int k n := by simpa [PVal, PD.isAgg, PRep] using h
theorem PVal.bool {M : Mem} {b : Bool} {v : Value} (h : PVal M (.bool b) v) : v = .bool b := by simpa [PVal, PD.isAgg, PRep] using h
theorem PVal.str {M : Mem} {s : ByteArray} {v : Value} (h : PVal M (.str s) v) : v = .string s := by simpa [PVal, PD.isAgg, PRep] using h

/-- A loop that leaves at the first 'no'. -/
theorem run_forIn_all {α : Type} (body : α → (Option Bool × Unit) → Sem (ForInStep (Option Bool × Unit))) :
    ∀ (l : List α) (cs : List Bool), l.length = cs.length →
      (∀ (i : Nat) (a : α) (c : Bool), l[i]? = some a → cs[i]? = some c → ∀ s, (body a s).run P w = .ok (if c then .yield (none, ()) else .done (some false, ())) w) →
      (forIn l ((none : Option Bool), ()) body).run P w = .ok (if cs.all id then (none, ()) else (some false, ())) w
  | [], [], _, _ => rfl
  | a :: l, c :: cs, hl, h => by
    have h0 := h 0 a c rfl rfl (none, ())
    rw [List.forIn_cons, bind_ok h0]
    cases c with
    | true =>
      simp only [if_true, List.all_cons, id, Bool.true_and]
      exact run_forIn_all body l cs (by simpa using hl) fun i a c ha hc => h (i + 1) a c (by simpa using ha) (by simpa using hc)
    | false => simp
  | [], _ :: _, hl, _ => by simp at hl
  | _ :: _, [], hl, _ => by simp at hl

/-- The components' answers. -/
theorem eqvs_list : ∀ (ds1 ds2 : List PD) (c : Bool), PD.eqv.eqvs ds1 ds2 = some c → ds1.length = ds2.length ∧ ∃ cs : List Bool, cs.length = ds1.length ∧ c = cs.all id ∧
    ∀ (i : Nat) (d1 d2 : PD) (b : Bool), ds1[i]? = some d1 → ds2[i]? = some d2 → cs[i]? = some b → PD.eqv d1 d2 = some b
  | [], [], c, h => by
    simp only [PD.eqv.eqvs, Option.some.injEq] at h
    exact ⟨rfl, [], rfl, by simp [h.symm], fun i d1 d2 b h1 => by simp at h1⟩
  | f :: fs, g :: gs, c, h => by
    simp only [PD.eqv.eqvs] at h
    cases h1 : PD.eqv f g with
    | none => simp [h1] at h
    | some b =>
      cases h2 : PD.eqv.eqvs fs gs with
      | none => simp [h1, h2] at h
      | some c' =>
        simp only [h1, h2, Option.bind_some, Option.map_some, Option.some.injEq] at h
        obtain ⟨k1, cs, k2, k3, k4⟩ := eqvs_list fs gs c' h2
        refine ⟨by simp [k1], b :: cs, by simp [k2], by simp [← h, k3], fun i d1 d2 b' q1 q2 q3 => ?_⟩
        cases i with
        | zero => simp at q1 q2 q3; subst q1 q2 q3; exact h1
        | succ i => exact k4 i d1 d2 b' (by simpa using q1) (by simpa using q2) (by simpa using q3)
  | [], _ :: _, c, h => by simp [PD.eqv.eqvs] at h
  | _ :: _, [], c, h => by simp [PD.eqv.eqvs] at h

/-- Each field is of its type and lies at its place. -/
theorem goS_field {E : Env} {m : Nat} : ∀ (fs : List (Nat × Nat)) (sz : List Nat) (o : Nat) (ds : List PD) (i : Nat) (f : Nat × Nat) (d : PD),
    Env.has.goS E m fs sz o ds = true → fs[i]? = some f → ds[i]? = some d → sz.length = ds.length → f.1 = o + (sz.take i).sum ∧ E.has m f.2 d = true
  | [], sz, o, ds, i, f, d, _, hf, _, _ => by simp at hf
  | (o', t) :: fs, s :: sz, o, d' :: ds, i, f, d, h, hf, hd, hl => by
    simp only [Env.has.goS, Bool.and_eq_true, beq_iff_eq] at h
    obtain ⟨⟨h1, h2⟩, h3⟩ := h
    cases i with
    | zero => simp at hf hd; subst hf hd; exact ⟨by simp [h1], h2⟩
    | succ i =>
      have := goS_field fs sz (o + s) ds i f d h3 (by simpa using hf) (by simpa using hd) (by simpa using hl)
      refine ⟨by simp [this.1]; omega, this.2⟩
  | _ :: _, [], o, _ :: _, i, f, d, _, _, _, hl => by simp at hl
  | _ :: _, _, o, [], i, f, d, _, _, hd, _ => by simp at hd

theorem cells_one {v : AV} {b : Bool} (hs : v.storable = true) (ha : v.isAgg = b) (hb : b = false := by rfl) : v.cells = some 1 := by
  subst hb
  cases v <;> simp_all [AV.storable, AV.isAgg, AV.cells]
  rename_i d
  cases d <;> simp_all [PD.isAgg, PD.cells]

/-- Data of a type read at its place. -/
theorem part_has {M : Mem} {E : Env} (hE : EnvOK E P) {m t : Nat} {d : PD} (h : E.has m t d = true) {cs : Array Value} {o n : Nat} (hn : o + n ≤ cs.size)
    (hd : PRep M d ((cs.toList.drop o).take n)) (hc : d.cells = n) : ∃ rv, (Go.part t cs o).run P w = .ok rv w ∧ PVal M d rv := by
  cases m with
  | zero => simp [Env.has] at h
  | succ m =>
    have : ∃ ty, E.ty t = some ty ∧ ty.agg = d.isAgg ∧ (ty.agg = true → ty.cells = d.cells) := by
      unfold Env.has at h
      split at h
      case h_4 hty => simp only [Bool.and_eq_true, beq_iff_eq] at h; exact ⟨_, hty, rfl, fun _ => h.1.1.1⟩
      case h_5 hty => simp only [Bool.and_eq_true, beq_iff_eq] at h; exact ⟨_, hty, rfl, fun _ => h.1.1⟩
      all_goals first | (rename_i hty; exact ⟨_, hty, rfl, fun h => by cases h⟩) | (cases h)
    obtain ⟨ty, hty, hagg, hcl⟩ := this
    have hT := hE.ty t ty hty
    unfold Go.part
    rw [bind_ok hT.run_isAgg]
    cases ha : ty.agg with
    | true =>
      have hcells : ty.cells = n := (hcl ha).trans hc
      simp only [if_true]
      rw [bind_ok hT.run_sizeOf, hcells]
      refine ⟨_, rfl, ?_⟩
      simp only [PVal, ← hagg, ha, if_true]
      refine ⟨_, rfl, ?_⟩
      have he : (cs.extract o (o + n)).toList = (cs.toList.drop o).take n := by simp
      rw [he]; exact hd
    | false =>
      have h1' : n = 1 := by
        rw [← hc]
        rw [hagg] at ha
        cases d <;> simp_all [PD.isAgg, PD.cells]
      subst h1'
      simp only [Bool.false_eq_true, if_false]
      have hlt : o < cs.size := by omega
      have hx : ((cs.toList.drop o).take 1) = [cs[o]] := by
        rw [List.drop_eq_getElem_cons (by simpa using hlt)]; simp
      rw [hx] at hd
      refine ⟨cs[o], by simp [hlt], ?_⟩
      rw [hagg] at ha
      simpa [PVal, ha] using hd


theorem equal_ok {M : Mem} {E : Env} (hE : EnvOK E P) : ∀ (m N t : Nat) (d1 d2 : PD) (v1 v2 : Value) (c : Bool), m + 1 ≤ N → E.has m t d1 = true → E.has m t d2 = true → PD.eqv d1 d2 = some c →
    PVal M d1 v1 → PVal M d2 v2 → (Go.Op.equalIn N t v1 v2).run P w = .ok c w := by
  intro m
  induction m with
  | zero => intro N t d1 d2 v1 v2 c _ h; simp [Env.has] at h
  | succ m ih =>
    intro N t d1 d2 v1 v2 c hN h1 h2 he hv1 hv2
    obtain ⟨N, rfl⟩ : ∃ k, N = k + 1 := ⟨N - 1, by omega⟩
    unfold Env.has at h1 h2
    cases hty : E.ty t with
    | none => simp [hty] at h1
    | some ty =>
      have hT := hE.ty t ty hty
      have hd := hT.desc
      obtain ⟨k, cells, bytes, zero⟩ := ty
      rw [hty] at h1 h2
      unfold Go.Op.equalIn
      cases k with
      | int k =>
        cases d1 <;> simp at h1
        cases d2 <;> simp at h2
        subst h1 h2
        rw [hv1.int, hv2.int]
        simp only [DescOK] at hd
        rw [bind_ok (run_underlying hd)]
        simp only [PD.eqv, Option.some.injEq] at he
        subst he
        simp
      | bool =>
        cases d1 <;> simp at h1
        cases d2 <;> simp at h2
        rw [hv1.bool, hv2.bool]
        simp only [DescOK] at hd
        rw [bind_ok (run_underlying hd)]
        simp only [PD.eqv, Option.some.injEq] at he
        subst he
        rfl
      | str =>
        cases d1 <;> simp at h1
        cases d2 <;> simp at h2
        rw [hv1.str, hv2.str]
        simp only [DescOK] at hd
        rw [bind_ok (run_underlying hd)]
        simp only [PD.eqv, Option.some.injEq] at he
        subst he
        rfl
      | struct fs =>
        cases d1 <;> simp only [Bool.false_eq_true] at h1
        rename_i sz1 ds1
        cases d2 <;> simp only [Bool.false_eq_true] at h2
        rename_i sz2 ds2
        simp only [Bool.and_eq_true, beq_iff_eq] at h1 h2
        obtain ⟨⟨⟨a1, a2⟩, a3⟩, a4⟩ := h1
        obtain ⟨⟨⟨b1, b2⟩, b3⟩, b4⟩ := h2
        simp only [DescOK] at hd
        obtain ⟨fa, hu, hsz, hst, _, hf⟩ := hd
        simp only [PVal, PD.isAgg, if_true, PRep] at hv1 hv2
        obtain ⟨x, rfl, hx⟩ := hv1
        obtain ⟨y, rfl, hy⟩ := hv2
        rw [bind_ok (run_underlying hu)]
        simp only
        rw [bind_ok run_program]
        simp only [hst, Bool.false_eq_true, if_false]
        simp only [PD.eqv] at he
        obtain ⟨hlen, cs, hcs, rfl, hall⟩ := eqvs_list ds1 ds2 c he
        rw [← Array.forIn_toList]
        rw [bind_ok (run_forIn_all (w := w) (P := P) _ fa.toList cs (by simp; omega) ?_)]
        · cases cs.all id <;> rfl
        · intro i g c hg hc s
          have hi : i < fs.length := by
            have := (List.getElem?_eq_some_iff.1 hc).1; omega
          obtain ⟨g', hg', hgo, hgt, hgn⟩ := hf i fs[i] (by simp [hi])
          have hgg : g' = g := by
            rw [Array.getElem?_toList] at hg
            rw [hg] at hg'; cases hg'; rfl
          subst hgg
          have hd1 : ds1[i]? = some ds1[i] := List.getElem?_eq_getElem (by omega)
          have hd2 : ds2[i]? = some ds2[i] := List.getElem?_eq_getElem (by omega)
          obtain ⟨p1, p2⟩ := goS_field fs sz1 0 ds1 i fs[i] ds1[i] a4 (by simp [hi]) hd1 a3
          obtain ⟨q1, q2⟩ := goS_field fs sz2 0 ds2 i fs[i] ds2[i] b4 (by simp [hi]) hd2 b3
          obtain ⟨n1, _, r1, r2, r3⟩ := hx.get i _ hd1
          obtain ⟨n2, _, s1, s2, s3⟩ := hy.get i _ hd2
          rw [Nat.zero_add] at p1 q1
          obtain ⟨rv1, t1, t2⟩ := part_has (P := P) (w := w) (M := M) hE (cs := x) (o := fs[i].1) p2 (by rw [p1]; simpa using r3) (by rw [p1]; exact r1) r2
          obtain ⟨rv2, u1, u2⟩ := part_has (P := P) (w := w) (M := M) hE (cs := y) (o := fs[i].1) q2 (by rw [q1]; simpa using s3) (by rw [q1]; exact s1) s2
          have := ih N fs[i].2 ds1[i] ds2[i] rv1 rv2 c (by omega) p2 q2 (hall i _ _ c hd1 hd2 hc) t2 u2
          simp only [ne_eq, hgn, not_false_eq_true, if_true, hgo, hgt]
          rw [bind_ok t1, bind_ok u1, bind_ok this]
          cases c <;> rfl
      | array n e =>
        cases d1 <;> simp only [Bool.false_eq_true] at h1
        rename_i k1 n1 l1
        cases d2 <;> simp only [Bool.false_eq_true] at h2
        rename_i k2 n2 l2
        simp only [Bool.and_eq_true, beq_iff_eq] at h1 h2
        obtain ⟨⟨a1, a2⟩, a3⟩ := h1
        obtain ⟨⟨b1, b2⟩, b3⟩ := h2
        subst a2; subst b2
        split at a3
        case h_2 => cases a3
        rename_i k' ce be ze hte
        rw [hte] at b3
        simp only [beq_iff_eq] at a3 b3
        subst a3; subst b3
        have hTE := hE.ty e _ hte
        have hde := hTE.desc
        simp only [DescOK] at hd hde
        simp only [PVal, PD.isAgg, if_true, PRep] at hv1 hv2
        obtain ⟨x, rfl, hl1, hx⟩ := hv1
        obtain ⟨y, rfl, hl2, hy⟩ := hv2
        have hce : ce = 1 := by
          have h3 := hTE.zcells
          rw [cells_one hTE.storable hTE.zagg] at h3
          simpa using h3.symm
        subst hce
        rw [bind_ok (run_underlying hd)]
        simp only
        rw [bind_ok hTE.run_sizeOf]
        simp only [PD.eqv, Option.some.injEq] at he
        simp only [Std.Legacy.Range.forIn_eq_forIn_range', Std.Legacy.Range.size, Nat.sub_zero, Nat.add_sub_cancel, Nat.div_one]
        have hcs : c = ((List.range n).map fun i => decide (l1[i]? = l2[i]?)).all id := by
          rw [← he, Bool.eq_iff_iff]
          simp only [beq_iff_eq, List.all_map, List.all_eq_true, List.mem_range, Function.comp_apply, id_eq, decide_eq_true_eq]
          constructor
          · rintro rfl i _; rfl
          · intro hh
            apply List.ext_getElem?
            intro i
            by_cases hi : i < n
            · exact hh i hi
            · rw [List.getElem?_eq_none (by omega), List.getElem?_eq_none (by omega)]
        rw [hcs]
        rw [bind_ok (run_forIn_all (w := w) (P := P) _ (List.range' 0 n) ((List.range n).map fun i => decide (l1[i]? = l2[i]?)) (by simp) ?_)]
        · cases ((List.range n).map fun i => decide (l1[i]? = l2[i]?)).all id <;> rfl
        · intro i j c hj hc s
          have hin : i < n := by have := (List.getElem?_eq_some_iff.1 hc).1; simpa using this
          have : j = i := by
            simp [hin] at hj; omega
          subst this
          have hc' : c = decide (l1[j]? = l2[j]?) := by simpa [hin] using hc.symm
          have e1 : l1[j]? = some l1[j] := List.getElem?_eq_getElem (by omega)
          have e2 : l2[j]? = some l2[j] := List.getElem?_eq_getElem (by omega)
          have hx1 : x.toList[j]? = some (.int k2 l1[j]) := by rw [hx, List.getElem?_map, e1]; rfl
          have hy1 : y.toList[j]? = some (.int k2 l2[j]) := by rw [hy, List.getElem?_map, e2]; rfl
          have hp : ∀ (z : Array Value) (m : Int), z.toList[j]? = some (.int k2 m) → (Go.part e z (j * 1)).run P w = .ok (.int k2 m) w := by
            intro z m hz
            unfold Go.part
            rw [bind_ok hTE.run_isAgg]
            rw [Array.getElem?_toList] at hz
            simp only [Ty.agg, Bool.false_eq_true, if_false, Nat.mul_one, hz]
            rfl
          rw [bind_ok (hp x _ hx1), bind_ok (hp y _ hy1)]
          have hq : (Go.Op.equalIn N e (.int k2 l1[j]) (.int k2 l2[j])).run P w = .ok c w := by
            obtain ⟨N, rfl⟩ : ∃ k, N = k + 1 := ⟨N - 1, by omega⟩
            unfold Go.Op.equalIn
            rw [bind_ok (run_underlying hde)]
            rw [hc', e1, e2]
            simp only [if_true, Option.some.injEq]
            rfl
          rw [bind_ok hq]
          cases c <;> rfl
      | slice e => cases d1 <;> simp at h1 <;> cases d2 <;> simp [PD.eqv] at he
      | _ => cases d1 <;> simp at h1

end
end Ev

/- Arithmetic, comparisons, conversions; slices; composite values. -/
namespace Ev
open Go (Value Addr Fn IntKind World Sem Program Operand Oper Result BinOp UnOp)

section
variable {P : Program} {w : World}

theorem binI_ok {C : Cx} {op : BinOp} {t : Nat} {k k' : IntKind} {a b : Int} {v : AV} (h : binI op k a k' b = some v) : ∃ rv, (Go.binOp op t (.int k a) (.int k' b)).run P w = .ok rv w ∧ AVal C v rv := by
  cases op
  case shl =>
    simp only [binI] at h
    split at h
    · cases h
    · rename_i hb
      cases h
      exact ⟨_, by simp [Go.binOp, Go.Op.shift, hb], AVal.int.2 rfl⟩
  case shr =>
    simp only [binI] at h
    split at h
    · cases h
    · rename_i hb
      cases h
      exact ⟨_, by simp [Go.binOp, Go.Op.shift, hb], AVal.int.2 rfl⟩
  all_goals
    simp only [binI] at h
    split at h
    case isFalse => cases h
    rename_i hk
    subst hk
  case quo =>
    split at h
    · cases h
    · rename_i hb
      cases h
      exact ⟨_, by simp [Go.binOp, Go.Op.intDiv, hb], AVal.int.2 rfl⟩
  case rem =>
    split at h
    · cases h
    · rename_i hb
      cases h
      exact ⟨_, by simp [Go.binOp, Go.Op.intDiv, hb], AVal.int.2 rfl⟩
  case add => cases h; exact ⟨_, by simp [Go.binOp, Go.Op.intArith], AVal.int.2 rfl⟩
  case sub => cases h; exact ⟨_, by simp [Go.binOp, Go.Op.intArith], AVal.int.2 rfl⟩
  case mul => cases h; exact ⟨_, by simp [Go.binOp, Go.Op.intArith], AVal.int.2 rfl⟩
  case eql => cases h; exact ⟨_, by simp [Go.binOp, Go.Op.intCmp], AVal.bool.2 rfl⟩
  case neq => cases h; exact ⟨_, by simp [Go.binOp, Go.Op.intCmp], AVal.bool.2 rfl⟩
  case lss => cases h; exact ⟨_, by simp [Go.binOp, Go.Op.intCmp], AVal.bool.2 rfl⟩
  case leq => cases h; exact ⟨_, by simp [Go.binOp, Go.Op.intCmp], AVal.bool.2 rfl⟩
  case gtr => cases h; exact ⟨_, by simp [Go.binOp, Go.Op.intCmp], AVal.bool.2 rfl⟩
  case geq => cases h; exact ⟨_, by simp [Go.binOp, Go.Op.intCmp], AVal.bool.2 rfl⟩
  case and => simp only [bitsOp, Option.map_some, Option.some.injEq] at h; subst h; exact ⟨_, by simp [Go.binOp, Go.Op.intBits], AVal.int.2 rfl⟩
  case or => simp only [bitsOp, Option.map_some, Option.some.injEq] at h; subst h; exact ⟨_, by simp [Go.binOp, Go.Op.intBits], AVal.int.2 rfl⟩
  case xor => simp only [bitsOp, Option.map_some, Option.some.injEq] at h; subst h; exact ⟨_, by simp [Go.binOp, Go.Op.intBits], AVal.int.2 rfl⟩
  case andNot => simp only [bitsOp, Option.map_some, Option.some.injEq] at h; subst h; exact ⟨_, by simp [Go.binOp, Go.Op.intBits], AVal.int.2 rfl⟩

theorem guard_quiet {op : BinOp} {t : Nat} {x y : Operand} {a b : Value} (h1 : ¬ (a = .nilIface ∧ b = .nilIface)) (h2 : ∀ c d, a = .agg c → b = .agg d → P.eqGuardType P.depth t = false) :
    (Go.eqGuard op t x y a b).run P w = .ok () w := by
  unfold Go.eqGuard
  cases op <;> simp only [Bool.not_true, Bool.not_false, Bool.false_eq_true, if_false, if_true]
  all_goals first | rfl | skip
  all_goals
    split
    · exact absurd ⟨rfl, rfl⟩ h1
    · rename_i c d
      rw [bind_ok run_program, bind_ok run_program, h2 c d rfl rfl]
      rfl
    · rfl

theorem has_cases {E : Env} {n t : Nat} {d : PD} (h : E.has n t d = true) : ∃ ty, E.ty t = some ty ∧ ty.agg = d.isAgg ∧ d ≠ .nili := by
  cases n with
  | zero => simp [Env.has] at h
  | succ n =>
    unfold Env.has at h
    split at h
    all_goals first | (rename_i hty; exact ⟨_, hty, rfl, by simp⟩) | (cases h)

theorem binA_ok {C : Cx} {E : Env} (hE : EnvOK E P) (h : Sim C w) {op : BinOp} {t : Nat} {xo yo : Operand} {x y v : AV} {xv yv : Value} (hx : AVal C x xv) (hy : AVal C y yv) (hl : E.binA op t x y = some v) :
    ValOK P C w (do Go.eqGuard op t xo yo xv yv; Go.binOp op t xv yv) v [] := by
  unfold Env.binA at hl
  split at hl
  case h_4 => cases hl
  case h_1 k a k' b =>
    rw [AVal.int] at hx hy; subst hx hy
    obtain ⟨rv, h1, h2⟩ := binI_ok (P := P) (w := w) (C := C) (t := t) hl
    refine .same h ?_ h2
    rw [bind_ok (guard_quiet (by simp) (by simp))]
    exact h1
  case h_2 a b =>
    rw [AVal.str] at hx hy; subst hx hy
    split at hl
    case h_1 =>
      split at hl
      · rename_i hs
        cases hl
        refine .same h ?_ (AVal.str.2 rfl)
        rw [bind_ok (guard_quiet (by simp) (by simp))]
        have hm : ¬ (((a.size + b.size : Nat) : Int) > IntKind.i64.max) := by
          have : IntKind.i64.max = 9223372036854775807 := by decide
          rw [this]; omega
        simp only [Go.binOp, Go.Op.stringOp]
        rw [if_neg hm]; rfl
      · cases hl
    case h_6 => cases hl
    all_goals
      cases hl
      refine .same h ?_ (AVal.bool.2 rfl)
      rw [bind_ok (guard_quiet (by simp) (by simp))]
      simp only [Go.binOp, Go.Op.stringOp]
      rfl
  case h_3 a b hni hns =>
    have key : ∀ c, E.has 10 t a = true → E.has 10 t b = true → PD.eqv a b = some c → (Go.Op.equal t xv yv).run P w = .ok c w ∧ (∀ u, (Go.eqGuard op t xo yo xv yv >>= u : Sem Value).run P w = (u ()).run P w) := by
      intro c h1 h2 h3
      rw [AVal.p] at hx hy
      refine ⟨equal_ok hE 10 _ t a b xv yv c (by decide) h1 h2 h3 hx hy, fun u => ?_⟩
      obtain ⟨ty, hty, hagg, hne⟩ := has_cases h1
      refine bind_ok (guard_quiet ?_ ?_)
      · rintro ⟨rfl, rfl⟩
        cases a <;> simp [PVal, PD.isAgg, PRep] at hx
        exact hne rfl
      · rintro c d rfl rfl
        refine (hE.ty t ty hty).guard ?_
        rw [hagg]
        cases ha : a.isAgg with
        | true => rfl
        | false =>
          simp only [PVal, ha, Bool.false_eq_true, if_false] at hx
          have := PRep.one a _ hx (.agg c) (by simp)
          simp [one] at this
    have form : ∀ c, PD.eqv a b = some c → (∃ p q, xv = .bool p ∧ yv = .bool q) ∨ (∃ c d, xv = .agg c ∧ yv = .agg d) := by
      intro c hc
      rw [AVal.p] at hx hy
      cases a <;> cases b <;> simp [PD.eqv] at hc
      case int.int => exact absurd rfl (hni _ _ _ _ rfl)
      case str.str => exact absurd rfl (hns _ _ rfl)
      case bool.bool => exact .inl ⟨_, _, hx.bool, hy.bool⟩
      all_goals
        simp only [PVal, PD.isAgg, if_true] at hx hy
        obtain ⟨c, rfl, _⟩ := hx
        obtain ⟨d, rfl, _⟩ := hy
        exact .inr ⟨c, d, rfl, rfl⟩
    split at hl
    case h_3 => cases hl
    case h_1 =>
      split at hl
      · rename_i hh
        simp only [Bool.and_eq_true] at hh
        cases he : PD.eqv a b with
        | none => simp [he] at hl
        | some c =>
          simp only [he, Option.map_some, Option.some.injEq] at hl; subst hl
          obtain ⟨k1, k2⟩ := key c hh.1 hh.2 he
          refine .same h ?_ (AVal.bool.2 rfl)
          rw [k2]
          have : Go.binOp .eql t xv yv = (do pure (.bool (← Go.Op.equal t xv yv)) : Sem Value) := by
            rcases form c he with ⟨p, q, rfl, rfl⟩ | ⟨p, q, rfl, rfl⟩ <;> rfl
          rw [this, bind_ok k1]; rfl
      · cases hl
    case h_2 =>
      split at hl
      · rename_i hh
        simp only [Bool.and_eq_true] at hh
        cases he : PD.eqv a b with
        | none => simp [he] at hl
        | some c =>
          simp only [he, Option.map_some, Option.some.injEq] at hl; subst hl
          obtain ⟨k1, k2⟩ := key c hh.1 hh.2 he
          refine .same h ?_ (AVal.bool.2 rfl)
          rw [k2]
          have : Go.binOp .neq t xv yv = (do pure (.bool (!(← Go.Op.equal t xv yv))) : Sem Value) := by
            rcases form c he with ⟨p, q, rfl, rfl⟩ | ⟨p, q, rfl, rfl⟩ <;> rfl
          rw [this, bind_ok k1]; rfl
      · cases hl

theorem unA_ok {C : Cx} (h : Sim C w) {op : UnOp} {x v : AV} {xv : Value} (hx : AVal C x xv) (hl : unA op x = some v) : ValOK P C w (Go.Op.unary op xv) v [] := by
  unfold unA at hl
  split at hl
  case h_1 b => cases hl; rw [AVal.bool] at hx; subst hx; exact .same h rfl (AVal.bool.2 rfl)
  case h_2 k n => cases hl; rw [AVal.int] at hx; subst hx; exact .same h rfl (AVal.int.2 rfl)
  case h_3 k n =>
    simp only [bitsOp, Option.map_some, Option.some.injEq] at hl; subst hl
    rw [AVal.int] at hx; subst hx; exact .same h rfl (AVal.int.2 rfl)
  case h_4 => cases hl

theorem convA_ok {C : Cx} {E : Env} (hE : EnvOK E P) (h : Sim C w) {s d : Nat} {x v : AV} {xv : Value} (hx : AVal C x xv) (hs : ∃ ty, E.ty s = some ty) (hl : E.convA s d x = some v) :
    ValOK P C w (Go.convert s d xv) v [] := by
  obtain ⟨sty, hsty⟩ := hs
  have hS := (hE.ty s sty hsty).desc
  have hu : ∃ dd, P.underlying s = some dd := by
    cases hk : sty.k <;> rw [hk] at hS <;> simp only [DescOK] at hS
    case struct => obtain ⟨_, h, _⟩ := hS; exact ⟨_, h⟩
    case func => obtain ⟨_, _, _, h⟩ := hS; exact ⟨_, h⟩
    case iface => obtain ⟨_, h⟩ := hS; exact ⟨_, h⟩
    case other => obtain ⟨_, h, _⟩ := hS; exact ⟨_, h⟩
    all_goals exact ⟨_, hS⟩
  obtain ⟨dd, hu⟩ := hu
  unfold Env.convA at hl
  split at hl
  case h_3 => cases hl
  case h_1 k _ _ _ k' n hty =>
    cases hl
    rw [AVal.int] at hx; subst hx
    have hD := (hE.ty d _ hty).desc
    simp only [DescOK] at hD
    refine .same h ?_ (AVal.int.2 rfl)
    unfold Go.convert
    rw [bind_ok (run_underlying hu), bind_ok (run_underlying hD)]
    simp only [Go.Conv.intToInt]
    rfl
  case h_2 _ _ _ b hty =>
    cases hl
    rw [AVal.str] at hx; subst hx
    have hD := (hE.ty d _ hty).desc
    simp only [DescOK] at hD
    refine .same h ?_ (AVal.str.2 rfl)
    unfold Go.convert
    rw [bind_ok (run_underlying hu), bind_ok (run_underlying hD)]
    rfl

end
end Ev

/- Slice expressions; new slices, maps and composite values. -/
namespace Ev
open Go (Value Addr Fn IntKind World Sem Program Operand Oper Result)

section
variable {P : Program} {w : World}

def OptOK : Option Value → Option Int → Prop
  | none, none => True
  | some v, some n => ∃ k, v = .int k n
  | _, _ => False

theorem run_sliceBound {v : Value} {n : Int} {k : IntKind} {y : Nat} {code : Go.BoundsCode} (hv : v = .int k n) (hn : 0 ≤ n ∧ n ≤ y) : (Go.Instr.sliceBound v y code).run P w = .ok n.toNat w := by
  subst hv
  unfold Go.Instr.sliceBound
  rw [bind_ok asIntOf_run]
  simp only
  rw [if_pos hn]; rfl

theorem run_sliceBounds {isS : Bool} {len cap : Nat} {lo hi mx : Option Value} {l h m : Option Int} {r : Nat × Nat × Nat} (h1 : OptOK lo l) (h2 : OptOK hi h) (h3 : OptOK mx m)
    (hr : boundsA len cap l h m = some r) : (Go.Instr.sliceBounds isS len cap lo hi mx).run P w = .ok r w := by
  unfold boundsA at hr
  simp only at hr
  split at hr
  case isFalse => cases hr
  rename_i hc
  cases hr
  obtain ⟨c0, c1, c2, c3, c4⟩ := hc
  unfold Go.Instr.sliceBounds
  have step : ∀ {α : Type} (v : Value) (k : IntKind) (n : Int) (y : Nat) (code : Go.BoundsCode) (f : Nat → Sem α), v = .int k n → 0 ≤ n ∧ n ≤ y → (Go.Instr.sliceBound v y code >>= f).run P w = (f n.toNat).run P w :=
    fun v k n y code f hv hn => bind_ok (run_sliceBound hv hn)
  cases mx <;> cases m <;> simp only [OptOK] at h3 <;> cases hi <;> cases h <;> simp only [OptOK] at h2 <;> cases lo <;> cases l <;> simp only [OptOK] at h1 <;>
    (try obtain ⟨k1, h1⟩ := h1) <;> (try obtain ⟨k2, h2⟩ := h2) <;> (try obtain ⟨k3, h3⟩ := h3) <;>
    simp only [Option.getD_some, Option.getD_none, Option.isSome_some, Option.isSome_none, Option.isNone_some, Option.isNone_none, Bool.or_self, Bool.or_true, Bool.or_false, Bool.false_eq_true] at c0 c1 c2 c3 c4 ⊢
  all_goals
    repeat (first
      | rw [step _ _ _ _ _ _ h3 (by omega)]
      | rw [step _ _ _ _ _ _ h2 (by omega)]
      | rw [step _ _ _ _ _ _ h1 (by omega)]
      | rw [bind_ok (run_pure _)])
  all_goals first | rfl | (simp only [Int.toNat_natCast, Int.toNat_zero]; rfl)

theorem boundsA_le {len cap : Nat} {l h m : Option Int} {r : Nat × Nat × Nat} (hr : boundsA len cap l h m = some r) : r.1 ≤ r.2.1 ∧ r.2.1 ≤ r.2.2 ∧ r.2.2 ≤ cap ∧ (m = none → r.2.2 = cap) ∧ (h = none → r.2.1 = len) := by
  unfold boundsA at hr
  simp only at hr
  split at hr
  case isFalse => cases hr
  rename_i hc
  cases hr
  obtain ⟨c0, c1, c2, c3, c4⟩ := hc
  refine ⟨by simp only; omega, by simp only; omega, by simp only; omega, fun e => by subst e; simp, fun e => by subst e; simp⟩

/-- A slice of a slice. -/
theorem run_slice_slice {t e : Nat} {et : Ty} (hu : P.underlying t = some (.slice e)) (hET : TyOK P e et) {base : Option Addr} {len cap cap' : Nat} {lo hi mx : Option Value} {r : Nat × Nat × Nat}
    (hb : ∀ isS, (Go.Instr.sliceBounds isS len cap' lo hi mx).run P w = .ok r w) (hc : cap = cap') :
    (Go.Instr.sliceAt t (.slice base len cap) lo hi mx).run P w = .ok (.slice (if r.2.2 = r.1 then base else base.map (·.add (r.1 * et.cells))) (r.2.1 - r.1) (r.2.2 - r.1)) w := by
  subst hc
  unfold Go.Instr.sliceAt
  rw [bind_ok (run_underlying hu)]
  simp only
  unfold Go.Instr.slice
  rw [bind_ok (run_underlying hu)]
  simp only
  rw [bind_ok (hb true), bind_ok hET.run_sizeOf]; rfl

theorem run_slice_array {t e n : Nat} {et : Ty} (hu : P.underlying t = some (.array n e)) (hET : TyOK P e et) {b o : Nat} {lo hi mx : Option Value} {r : Nat × Nat × Nat}
    (hb : ∀ isS, (Go.Instr.sliceBounds isS n n lo hi mx).run P w = .ok r w) :
    (Go.Instr.sliceAt t (.pointer (some ⟨b, o, none⟩)) lo hi mx).run P w = .ok (.slice (some (if r.2.2 = r.1 then ⟨b, o, none⟩ else ⟨b, o + r.1 * et.cells, none⟩)) (r.2.1 - r.1) (r.2.2 - r.1)) w := by
  unfold Go.Instr.sliceAt
  rw [bind_ok (run_underlying hu)]
  simp only
  rw [bind_ok run_sureAddr, bind_ok (hb false), bind_ok hET.run_sizeOf, addr_add]; rfl

/-- With any capacity that is large enough the bounds are as with the one that is known. -/
theorem bounds_more {len cap cap' : Nat} {lo hi : Option Value} {l h : Option Int} {r : Nat × Nat × Nat} (h1 : OptOK lo l) (h2 : OptOK hi h)
    (hr : boundsA len cap l h none = some r) (hc : cap ≤ cap') : ∀ isS, (Go.Instr.sliceBounds isS len cap' lo hi none).run P w = .ok (r.1, r.2.1, cap') w := by
  intro isS
  refine run_sliceBounds h1 h2 (m := none) trivial ?_
  unfold boundsA at hr ⊢
  simp only at hr ⊢
  split at hr
  case isFalse => cases hr
  rename_i hx
  cases hr
  simp only [Option.getD_none] at hx ⊢
  rw [if_pos (by obtain ⟨a, b, c, d, e⟩ := hx; exact ⟨a, b, c, by omega, by omega⟩)]
  simp

theorem slice_ok {C : Cx} {E : Env} (hE : EnvOK E P) (h : Sim C w) {t : Nat} {x v : AV} {xv : Value} {lo hi mx : Option Value} {l hh m : Option Int} (hx : AVal C x xv) (h1 : OptOK lo l) (h2 : OptOK hi hh) (h3 : OptOK mx m)
    (hl : E.sliceA C.H t x l hh m = some v) : ValOK P C w (Go.Instr.sliceAt t xv lo hi mx) v [] := by
  unfold Env.sliceA at hl
  split at hl
  case h_5 => cases hl
  case h_1 s hty =>
    have hu := (hE.ty t _ hty).desc
    simp only [DescOK] at hu
    split at hl
    case h_1 => cases hl
    rw [AVal.str] at hx; subst hx
    cases mx with
    | some _ => exact h3.elim
    | none =>
      cases hb : boundsA s.size s.size l hh none with
      | none => simp [hb] at hl
      | some r =>
        simp only [hb, Option.map_some, Option.some.injEq] at hl; subst hl
        refine .same h ?_ (AVal.str.2 rfl)
        unfold Go.Instr.sliceAt
        rw [bind_ok (run_underlying hu)]
        simp only
        unfold Go.Instr.slice
        rw [bind_ok (run_underlying hu)]
        simp only [Option.isSome_none, Bool.false_eq_true, if_false]
        rw [bind_ok (run_sliceBounds (mx := none) (m := none) h1 h2 trivial hb)]; rfl
  case h_2 e _ _ _ hty =>
    have hu := (hE.ty t _ hty).desc
    simp only [DescOK] at hu
    cases het : E.ty e with
    | none => simp [het] at hl
    | some et =>
      have hET := hE.ty e et het
      simp only [het, Option.bind_some] at hl
      split at hl
      case h_5 => cases hl
      case h_1 e' xs =>
        simp only [AVal, AR, PD.isAgg, Bool.and_false, Bool.false_eq_true, if_false, PRep] at hx
        obtain ⟨base, cap, hxe, hcap, hb⟩ := hx
        cases hxe
        split at hl
        · rename_i hz
          obtain ⟨rfl, rfl, hl0⟩ := hz
          cases hl
          have hbd : boundsA xs.length cap l (some 0) (some 0) = some (0, 0, 0) := by
            unfold boundsA
            rcases hl0 with rfl | rfl <;> simp
          refine .same h (run_slice_slice hu hET (fun isS => run_sliceBounds h1 h2 h3 hbd) rfl) ?_
          simp only [AVal, AR]
          exact ⟨base, by simp⟩
        · split at hl
          · rename_i hc
            obtain ⟨rfl, rfl⟩ := hc
            cases hbd : boundsA xs.length xs.length l hh none with
            | none => simp [hbd] at hl
            | some r =>
              simp only [hbd, Option.map_some, Option.some.injEq] at hl; subst hl
              cases mx with
              | some _ => exact h3.elim
              | none =>
                obtain ⟨b1, b2, b3, b4, b5⟩ := boundsA_le hbd
                refine .same h (run_slice_slice hu hET (bounds_more h1 h2 hbd hcap) rfl) ?_
                simp only [AVal, AR, PD.isAgg, Bool.and_false, Bool.false_eq_true, if_false, PRep]
                have hln : ((xs.take r.2.1).drop r.1).length = r.2.1 - r.1 := by simp; omega
                refine ⟨_, _, by rw [hln], by rw [hln]; omega, ?_⟩
                by_cases hz : r.2.1 - r.1 = 0
                · left; rw [hln]; exact hz
                · right
                  obtain ⟨b, off, rcs, rfl, hr, hrow⟩ := hb.resolve_left (by omega)
                  rw [if_neg (by omega)]
                  have hrl := hrow.length
                  have q1 : r.2.1 * et.cells ≤ xs.length * et.cells := Nat.mul_le_mul_right _ (by omega)
                  refine ⟨b, off + r.1 * et.cells, (rcs.take (r.2.1 * et.cells)).drop (r.1 * et.cells), by simp [addr_add], ?_, (hrow.takeN _).dropN _⟩
                  intro j hj
                  simp only [List.length_drop, List.length_take] at hj
                  have := hr (r.1 * et.cells + j) (by omega)
                  rw [List.getElem?_drop, List.getElem?_take, if_pos (by omega), ← this]; congr 1; omega
          · cases hl
      case h_2 e' =>
        split at hl
        case isFalse => cases hl
        rename_i hc; subst hc
        cases hbd : boundsA 0 0 l hh m with
        | none => simp [hbd] at hl
        | some r =>
          simp only [hbd, Option.map_some, Option.some.injEq] at hl; subst hl
          simp only [AVal, AR] at hx
          obtain ⟨base, hxe⟩ := hx
          cases hxe
          obtain ⟨b1, b2, b3, b4, b5⟩ := boundsA_le hbd
          refine .same h (run_slice_slice hu hET (fun isS => run_sliceBounds h1 h2 h3 hbd) rfl) ?_
          simp only [AVal, AR]
          exact ⟨_, by rw [show r.2.1 - r.1 = 0 from by omega, show r.2.2 - r.1 = 0 from by omega]⟩
      case h_3 b l0 =>
        cases ho : C.H[b]? with
        | none => simp [ho] at hl
        | some o =>
          simp only [ho, Option.bind_some] at hl
          cases hrl : o.rowLen with
          | none => simp [hrl] at hl
          | some n =>
            obtain ⟨e', n⟩ := n
            simp only [hrl, Option.bind_some] at hl
            simp only [AVal, AR] at hx
            obtain ⟨hbl, x, hxe, _, hx⟩ := hx
            obtain rfl : xv = x := by simpa using hxe
            obtain ⟨loc, hi', hv⟩ := hx o e' n ho hrl
            have hal : C.alive b := ⟨o, ho, by cases o <;> simp_all [Obj.rowLen, Obj.alive]⟩
            split at hl
            · rename_i hz
              obtain ⟨rfl, rfl, hl0⟩ := hz
              cases hl
              obtain ⟨base, ln, cp, rfl⟩ : ∃ base ln cp, xv = .slice base ln cp := by
                cases loc with
                | nil => obtain ⟨_, _, base, rfl⟩ := hv; exact ⟨_, _, _, rfl⟩
                | «at» => obtain ⟨_, _, a, rfl, _⟩ := hv; exact ⟨_, _, _, rfl⟩
              have hbd : boundsA ln cp l (some 0) (some 0) = some (0, 0, 0) := by
                unfold boundsA
                rcases hl0 with rfl | rfl <;> simp
              refine .same h (run_slice_slice hu hET (fun isS => run_sliceBounds h1 h2 h3 hbd) rfl) ?_
              simp only [AVal, AR]
              exact ⟨base, by simp⟩
            · split at hl
              case isFalse => cases hl
              rename_i hc
              obtain ⟨rfl, hl0, rfl⟩ := hc
              cases mx with
              | some _ => exact h3.elim
              | none =>
                cases hh with
                | none =>
                  simp only at hl
                  cases hbd : boundsA (n - l0) (n - l0) l none none with
                  | none => simp [hbd] at hl
                  | some r =>
                    simp only [hbd, Option.map_some, Option.some.injEq] at hl; subst hl
                    obtain ⟨b1, b2, b3, b4, b5⟩ := boundsA_le hbd
                    have b5 := b5 rfl
                    cases loc with
                    | nil =>
                      obtain ⟨v1, v2, base, rfl⟩ := hv
                      subst v1 v2
                      refine .same h (run_slice_slice hu hET (bounds_more h1 h2 (cap' := 0) (by simpa using hbd) (by simp)) rfl) ?_
                      simp only [AVal, AR]
                      refine ⟨hbl, _, rfl, by simp [one], fun o2 e2 n2 ho2 hr2 => ?_⟩
                      rw [ho] at ho2; cases ho2; rw [hrl] at hr2; cases hr2
                      refine ⟨.nil, hi', ?_⟩
                      simp only [ownV]
                      refine ⟨trivial, by omega, _, by rw [show r.2.1 - r.1 = 0 from by omega, show 0 - r.1 = 0 from by omega]⟩
                    | «at» blk off cap =>
                      obtain ⟨v1, v2, a, rfl, v3⟩ := hv
                      refine .same h (run_slice_slice hu hET (bounds_more h1 h2 hbd (by omega)) rfl) ?_
                      simp only [AVal, AR]
                      refine ⟨hbl, _, rfl, by simp [one], fun o2 e2 n2 ho2 hr2 => ?_⟩
                      rw [ho] at ho2; cases ho2; rw [hrl] at hr2; cases hr2
                      refine ⟨.at blk off cap, hi', ?_⟩
                      simp only [ownV]
                      refine ⟨by omega, v2, if cap - l0 = r.1 then a else a.add (r.1 * et.cells), ?_, ?_⟩
                      · rw [show r.2.1 - r.1 = n - (l0 + r.1) from by omega, show cap - l0 - r.1 = cap - (l0 + r.1) from by omega]
                        split <;> rfl
                      · intro hlt
                        rw [if_neg (by omega), v3 (by omega), addr_add]
                        rw [Nat.add_mul, Nat.add_assoc]
                | some h0 =>
                  simp only at hl
                  cases hbd : boundsA (n - l0) (n - l0) l (some h0) none with
                  | none => simp [hbd] at hl
                  | some r =>
                    simp only [hbd, Option.map_some, Option.some.injEq] at hl; subst hl
                    obtain ⟨b1, b2, b3, b4, b5⟩ := boundsA_le hbd
                    have b4 := b4 rfl
                    cases loc with
                    | nil =>
                      obtain ⟨v1, v2, base, rfl⟩ := hv
                      subst v1 v2
                      refine .same h (run_slice_slice hu hET (bounds_more h1 h2 (cap' := 0) (by simpa using hbd) (by simp)) rfl) ?_
                      simp only [AVal, AR]
                      refine ⟨hbl, _, rfl, by simp [one], fun _ => ⟨.nil, hi', ?_⟩⟩
                      simp only [winV]
                      refine ⟨by omega, by omega, _, by rw [show r.2.1 - r.1 = 0 from by omega, show 0 - r.1 = 0 from by omega]⟩
                    | «at» blk off cap =>
                      obtain ⟨v1, v2, a, rfl, v3⟩ := hv
                      refine .same h (run_slice_slice hu hET (bounds_more h1 h2 hbd (by omega)) rfl) ?_
                      simp only [AVal, AR]
                      refine ⟨hbl, _, rfl, by simp [one], fun _ => ⟨.at blk off cap, hi', by omega, if cap - l0 = r.1 then a else a.add (r.1 * et.cells), cap - l0 - r.1, ?_, by omega, by simp, ?_, fun _ => ⟨rfl, by omega, ?_⟩⟩⟩
                      · split <;> rfl
                      · intro hlt
                        rw [if_neg (by omega), v3 (by omega), addr_add]
                        simp [offs, Nat.add_mul, Nat.add_assoc]
                      · intro hlt
                        rw [if_neg (by omega), v3 (by omega), addr_add]
                        simp [Nat.add_mul, Nat.add_assoc]
      case h_4 b π e' l0 len cap ex =>
        cases ho : C.H[b]? with
        | none => simp [ho] at hl
        | some o =>
          simp only [ho, Option.bind_some] at hl
          split at hl
          case isFalse => cases hl
          rename_i hc
          obtain ⟨rfl, rfl, hal⟩ := hc
          cases mx with
          | some _ => exact h3.elim
          | none =>
          cases hbd : boundsA len cap l hh none with
          | none => simp [hbd] at hl
          | some r =>
            simp only [hbd, Option.map_some, Option.some.injEq] at hl; subst hl
            obtain ⟨b1, b2, b3, b4, b5⟩ := boundsA_le hbd
            have b4 := b4 rfl
            simp only [AVal, AR] at hx
            obtain ⟨hbl, x, hxe, _, hx⟩ := hx
            obtain rfl : xv = x := by simpa using hxe
            obtain ⟨loc, hi', hv⟩ := hx ⟨o, ho, hal⟩
            cases loc with
            | nil =>
              obtain ⟨rfl, rfl, base, rfl⟩ := hv
              refine .same h (run_slice_slice hu hET (bounds_more h1 h2 (cap' := 0) hbd (by simp)) rfl) ?_
              simp only [AVal, AR]
              refine ⟨hbl, _, rfl, by simp [one], fun _ => ⟨.nil, hi', ?_⟩⟩
              simp only [winV]
              refine ⟨by omega, by omega, _, by rw [show r.2.1 - r.1 = 0 from by omega, show 0 - r.1 = 0 from by omega]⟩
            | «at» blk off c =>
              obtain ⟨v1, a, cap', rfl, v2, v3, v4, v5⟩ := hv
              refine .same h (run_slice_slice hu hET (bounds_more h1 h2 hbd v2) rfl) ?_
              simp only [AVal, AR]
              refine ⟨hbl, _, rfl, by simp [one], fun _ => ⟨.at blk off c, hi', by omega, if cap' = r.1 then a else a.add (r.1 * et.cells), cap' - r.1, ?_, by omega, fun e => by rw [v3 e], fun hlt => ?_, fun e => ⟨(v5 e).1, by have := (v5 e).2.1; omega, fun hlt => ?_⟩⟩⟩
              · split <;> rfl
              · rw [if_neg (by omega), v4 (by omega), addr_add]
                rw [Nat.add_mul, Nat.add_assoc]
              · rw [if_neg (by omega), (v5 e).2.2 (by omega), addr_add]
                rw [Nat.add_mul, Nat.add_assoc]
  case h_3 n e _ _ _ b π hty =>
    have hu := (hE.ty t _ hty).desc
    simp only [DescOK] at hu
    cases het : E.ty e with
    | none => simp [het] at hl
    | some et =>
      have hET := hE.ty e et het
      simp only [het, Option.bind_some] at hl
      cases hbd : boundsA n n l hh m with
      | none => simp [hbd] at hl
      | some r =>
        simp only [hbd, Option.map_some, Option.some.injEq] at hl; subst hl
        obtain ⟨b1, b2, b3, b4, b5⟩ := boundsA_le hbd
        simp only [AVal, AR] at hx
        obtain ⟨hbl, x, hxe, ⟨b0, o0, rfl⟩, hx⟩ := hx
        cases hxe
        refine .same h (run_slice_array hu hET (fun isS => run_sliceBounds h1 h2 h3 hbd)) ?_
        simp only [AVal, AR]
        refine ⟨hbl, _, rfl, rfl, fun ha => ?_⟩
        obtain ⟨blk, off, cap, hi, he⟩ := hx ha
        cases he
        refine ⟨.at _ off cap, hi, by omega, _, _, rfl, Nat.le_refl _, fun _ => rfl, fun hlt => ?_, fun e => by cases e⟩
        rw [if_neg (by omega)]
  case h_4 n e _ _ _ d hty =>
    have hu := (hE.ty t _ hty).desc
    simp only [DescOK] at hu
    cases het : E.ty e with
    | none => simp [het] at hl
    | some et =>
      have hET := hE.ty e et het
      simp only [het, Option.bind_some] at hl
      split at hl
      case h_2 => cases hl
      cases mx with
      | some _ => exact h3.elim
      | none =>
      cases hbd : boundsA n n l hh none with
      | none => simp [hbd] at hl
      | some r =>
        simp only [hbd, Option.bind_some] at hl
        cases hel : AV.elems et.cells r.1 (r.2.1 - r.1) (.p d) with
        | none => simp [hel] at hl
        | some xs =>
          simp only [hel, Option.map_some, Option.some.injEq] at hl; subst hl
          obtain ⟨b1, b2, b3, b4, b5⟩ := boundsA_le hbd
          simp only [AVal, AR] at hx
          obtain ⟨b, off, rcs, hxe, hr, hp⟩ := hx
          cases hxe
          obtain ⟨e1, e2, e3⟩ := elems_ok (C := C) (AR.p.2 hp) hel
          refine .same h (run_slice_array hu hET (fun isS => run_sliceBounds (m := none) h1 h2 trivial hbd)) ?_
          simp only [AVal, AR, PD.isAgg, Bool.and_false, Bool.false_eq_true, if_false, PRep]
          refine ⟨_, _, by rw [e1], by omega, ?_⟩
          by_cases hz : xs.length = 0
          · exact .inl hz
          · right
            rw [if_neg (by omega)]
            refine ⟨b, off + r.1 * et.cells, _, rfl, ?_, e3⟩
            intro j hj
            simp only [List.length_take, List.length_drop] at hj
            rw [Nat.add_mul] at e2
            have := hr (r.1 * et.cells + j) (by omega)
            rw [List.getElem?_take, if_pos (by omega), List.getElem?_drop, ← this]; congr 1; omega

end
end Ev

/- New slices, maps and composite values. -/
namespace Ev
open Go (Value Addr Fn IntKind World Sem Program Operand Oper Result)

section
variable {P : Program} {w : World}

/-! ### Filling -/

theorem foldl_set (off : Nat) : ∀ (vs : List Value) (k : Nat) (cells : Array Value), off + k + vs.length ≤ cells.size →
    ((vs.zipIdx k).foldl (fun cs x => cs.setIfInBounds (off + x.2) x.1) cells).toList = splice cells.toList (off + k) vs
  | [], k, cells, _ => by simp [splice]
  | v :: vs, k, cells, h => by
    simp only [List.length_cons] at h
    have hlt : off + k < cells.size := by omega
    simp only [List.zipIdx_cons, List.foldl_cons]
    rw [foldl_set off vs (k + 1) _ (by simp; omega)]
    apply List.ext_getElem?
    intro j
    rw [splice_get (l := (cells.setIfInBounds (off + k) v).toList) (lo := off + (k + 1)) (ds := vs) (by simp; omega), splice_get (l := cells.toList) (lo := off + k) (ds := v :: vs) (by simp; omega)]
    simp only [Array.toList_setIfInBounds, List.getElem?_set, List.length_cons]
    by_cases c1 : j < off + k
    · rw [if_pos (by omega), if_neg (by omega), if_pos c1]
    · by_cases c2 : j = off + k
      · subst c2
        have e1 : off + k < off + (k + 1) := by omega
        have e2 : off + k < off + k + (vs.length + 1) := by omega
        simp [e1, e2, hlt]
      · rw [if_neg (by omega)]
        by_cases c3 : j < off + (k + 1) + vs.length
        · rw [if_pos c3, if_neg c1, if_pos (by omega)]
          rw [show j - (off + k) = (j - (off + (k + 1))) + 1 from by omega]; simp
        · rw [if_neg c3, if_neg c1, if_neg (by omega), if_neg (by omega)]

theorem fill_cons {place : Nat → Option (Nat × Nat)} {cells : Array Value} {i : Nat} {v : Value} {rest : List (Nat × Value)} {off size : Nat} (hp : place i = some (off, size)) (hs : v.cells.size = size) (ho : off + size ≤ cells.size) :
    ∃ cells' : Array Value, Go.Instr.fill place cells ((i, v) :: rest) = Go.Instr.fill place cells' rest ∧ cells'.toList = splice cells.toList off v.cells.toList := by
  refine ⟨v.cells.zipIdx.foldl (fun cs x => cs.setIfInBounds (off + x.2) x.1) cells, ?_, ?_⟩
  · have hno : ¬ ((decide (v.cells.size ≠ size) || decide (off + v.cells.size > cells.size)) = true) := by
      rw [hs]; simp; omega
    simp only [Go.Instr.fill, hp]
    rw [if_neg hno]
  · rw [← Array.foldl_toList, Array.toList_zipIdx]
    have := foldl_set off v.cells.toList 0 cells (by simp; omega)
    simpa using this

/-- The cells of values side by side. -/
theorem fill_row (size : Nat) : ∀ (vs : List Value) (k : Nat) (cells : Array Value), (∀ v ∈ vs, v.cells.size = size) → (k + vs.length) * size = cells.size →
    ∃ cells' : Array Value, Go.Instr.fill (fun i => some (i * size, size)) cells ((List.range' k vs.length).zip vs) = some cells' ∧
      cells'.toList = cells.toList.take (k * size) ++ vs.flatMap fun v => v.cells.toList
  | [], k, cells, _, h => ⟨cells, by simp [Go.Instr.fill], by
      simp only [List.flatMap_nil, List.append_nil]
      rw [List.take_of_length_le]
      simp at h ⊢; omega⟩
  | v :: vs, k, cells, hv, h => by
    simp only [List.length_cons, List.range'_succ, List.zip_cons_cons]
    have h0 := hv v (by simp)
    have hmul : (k + 1 + vs.length) * size = cells.size := by rw [← h]; congr 1; simp; omega
    have hk : (k + 1) * size ≤ cells.size := by rw [← hmul]; exact Nat.mul_le_mul_right _ (by omega)
    rw [Nat.succ_mul] at hk
    obtain ⟨c1, e1, e2⟩ := fill_cons (place := fun i => some (i * size, size)) (cells := cells) (i := k) (v := v) (rest := (List.range' (k + 1) vs.length).zip vs) rfl h0 hk
    have hl : c1.size = cells.size := by
      have := congrArg List.length e2
      rw [splice_length (by simp; omega)] at this
      simpa using this
    obtain ⟨c2, g1, g2⟩ := fill_row size vs (k + 1) c1 (fun x hx => hv x (by simp [hx])) (by rw [hl]; exact hmul)
    refine ⟨c2, by rw [e1, g1], ?_⟩
    rw [g2, e2, List.flatMap_cons]
    have ht : (splice cells.toList (k * size) v.cells.toList).take ((k + 1) * size) = cells.toList.take (k * size) ++ v.cells.toList := by
      unfold splice
      have hlen : (cells.toList.take (k * size) ++ v.cells.toList).length = (k + 1) * size := by
        simp [h0, Nat.succ_mul]; omega
      rw [← hlen, List.take_left]
    rw [ht, List.append_assoc]

/-- Values of the right size, side by side, are a row. -/
theorem ARow.ofVals {C : Cx} {e : Nat} : ∀ (as : List AV) (vs : List Value), AVs C as vs → (∀ a ∈ as, a.cells = some e) → ARow C e as (vs.flatMap fun v => v.cells.toList) ∧ ∀ v ∈ vs, v.cells.size = e
  | [], vs, h, _ => by simp only [AVs] at h; subst h; simp [ARow]
  | a :: as, vs, h, hc => by
    simp only [AVs] at h
    obtain ⟨v, r, rfl, h1, h2⟩ := h
    have ha := hc a (by simp)
    have hst : a.storable = true := by cases a <;> simp_all [AV.storable, AV.cells]
    have h3 := AVal.cells h1 hst
    have hl := h3.length ha
    obtain ⟨q1, q2⟩ := ARow.ofVals as r h2 (fun x hx => hc x (by simp [hx]))
    simp only [ARow, List.flatMap_cons]
    refine ⟨⟨_, _, rfl, hl, .inr ha, h3, q1⟩, fun x hx => ?_⟩
    rcases List.mem_cons.1 hx with rfl | hx
    · simpa using hl
    · exact q2 x hx

theorem PRow.ofARow {C : Cx} {e : Nat} : ∀ (ds : List PD) (cs : List Value), (∀ d ∈ ds, d.cells = e) → ARow C e (ds.map .p) cs → PRow C.M e ds cs
  | [], cs, _, h => by simpa [ARow, PRow] using h
  | d :: ds, cs, hd, h => by
    simp only [List.map_cons, ARow] at h
    obtain ⟨c1, c2, h1, h2, h3, h4, h5⟩ := h
    simp only [PRow]
    exact ⟨c1, c2, h1, h2, hd d (by simp), AR.p.1 h4, PRow.ofARow ds c2 (fun x hx => hd x (by simp [hx])) h5⟩

theorem allP_map : ∀ {l : List AV} {ds : List PD}, allP l = some ds → l = ds.map .p
  | [], ds, h => by simp only [allP, Option.some.injEq] at h; subst h; rfl
  | a :: l, ds, h => by
    cases a with
    | p d =>
      simp only [allP] at h
      cases hl : allP l with
      | none => simp [hl] at h
      | some ds' =>
        simp only [hl, Option.map_some, Option.some.injEq] at h; subst h
        rw [allP_map hl]; rfl
    | _ => simp [allP] at h

theorem Env.elem_some {E : Env} {t : Nat} {et : Ty} (h : E.elem t = some et) : ∃ e c b z, E.ty t = some ⟨.slice e, c, b, z⟩ ∧ E.ty e = some et := by
  unfold Env.elem at h
  split at h
  · rename_i e c b z hty; exact ⟨e, c, b, z, hty, h⟩
  · cases h

/-- A new row of one's own. -/
theorem newRow_ok {C : Cx} (h : Sim C w) (elemT : Nat) (cells : Array Value) {e n cap : Nat} {o : Obj} (ho : o.rowLen = some (e, n)) (hu : o.sealed = false) (hc : n ≤ cap) (hs : cells.size = cap * e)
    (hr : C.le (C.add (.at w.heap.size 0 cap) o) → (∃ es xs s, o = .row es xs s ∧ PRow C.M e xs (cells.toList.take (n * e))) ∨ ∃ xs, o = .mrow e xs ∧ ARow (C.add (.at w.heap.size 0 cap) o) e xs (cells.toList.take (n * e))) :
    Calm C w (C.add (.at w.heap.size 0 cap) o) (pushW w (.cells cells elemT)) [o] := by
  refine Calm.add h (fun blk off cap e => by cases e; exact Nat.le_refl _) (fun b hb => push_old w _ b hb) (by rw [push_size]; omega) (quiet_push _ _) hu fun hle => ?_
  rcases hr hle with ⟨es, xs, s, rfl, hx⟩ | ⟨xs, rfl, hx⟩
  · simp only [Obj.rowLen, Option.some.injEq, Prod.mk.injEq] at ho
    obtain ⟨rfl, rfl⟩ := ho
    simp only [ObjRep]
    exact ⟨cells, elemT, (0, 0), push_new w _, unfrozen_push _ _, hc, by omega, by rw [List.drop_zero]; exact hx⟩
  · simp only [Obj.rowLen, Option.some.injEq, Prod.mk.injEq] at ho
    obtain ⟨_, rfl⟩ := ho
    simp only [ObjRep]
    exact ⟨cells, elemT, (0, 0), push_new w _, unfrozen_push _ _, hc, by omega, by rw [List.drop_zero]; exact hx⟩

theorem own_new {C : Cx} {e n cap : Nat} {o : Obj} (ho : o.rowLen = some (e, n)) (hc : n ≤ cap) (blk : Nat) : AVal (C.add (.at blk 0 cap) o) (.own C.H.length 0) (.slice (some ⟨blk, 0, none⟩) n cap) := by
  simp only [AVal, AR]
  refine ⟨by simp [Cx.add], _, rfl, rfl, fun o' e' n' h1 h2 => ?_⟩
  simp only [Cx.add, List.getElem?_concat_length, Option.some.injEq] at h1
  subst h1
  rw [ho] at h2; cases h2
  exact ⟨.at blk 0 cap, by simp [Cx.add], by simp only [ownV]; exact ⟨Nat.zero_le _, hc, _, rfl, by simp⟩⟩

theorem zip_range' {α : Type} (l : List (Nat × α)) (n : Nat) (h : l.map (·.1) = List.range n) : l = (List.range' 0 l.length).zip (l.map (·.2)) := by
  have : n = l.length := by have := congrArg List.length h; simpa using this.symm
  subst this
  rw [← List.range_eq_range', ← h]
  induction l with
  | nil => rfl
  | cons a l _ => simp [List.zip_map']

theorem buildSlice_ok {C : Cx} {E : Env} (hE : EnvOK E P) (h : Sim C w) {t len : Nat} {et : Ty} {parts : Array (Nat × Value)} {as : List AV} (he : E.elem t = some et)
    (hlen : len * et.cells ≤ 16777216) (hidx : parts.toList.map (·.1) = List.range len) (hv : AVs C as (parts.toList.map (·.2))) {v : AV} {new : List Obj}
    (hl : (match allP as with
      | some ds => if ds.all fun d => d.cells == et.cells then some (AV.own C.H.length 0, [Obj.row et.cells ds false]) else none
      | none => if as.all fun d => d.cells == some et.cells then some (AV.own C.H.length 0, [Obj.mrow et.cells as]) else none) = some (v, new)) :
    ValOK P C w (Go.Instr.buildSlice t len parts) v new := by
  obtain ⟨e, c, b, z, hty, hte⟩ := Env.elem_some he
  have hu := (hE.ty t _ hty).desc
  simp only [DescOK] at hu
  have hET := hE.ty e et hte
  have hcells : ∀ a ∈ as, a.cells = some et.cells := by
    split at hl
    · rename_i ds hds
      split at hl
      · rename_i hall
        rw [allP_map hds]
        intro a ha
        obtain ⟨d, hd, rfl⟩ := List.mem_map.1 ha
        have := List.all_eq_true.1 hall d hd
        simp only [beq_iff_eq] at this
        simp [AV.cells, this]
      · cases hl
    · split at hl
      · rename_i hall
        intro a ha
        have := List.all_eq_true.1 hall a ha
        simpa using this
      · cases hl
  obtain ⟨q1, q2⟩ := ARow.ofVals as _ hv hcells
  have hpl : parts.toList.length = len := by have := congrArg List.length hidx; simpa using this
  -- the zero cells are all overwritten
  obtain ⟨zv, hz, hzv⟩ := hET.run_zero (w := w)
  have hz' : ∀ (z0 : Array Value), ∃ cells' : Array Value, Go.Instr.fill (fun i => some (i * et.cells, et.cells)) ((Array.range (len * et.cells)).map (z0[· % z0.size]!)) parts.toList = some cells' ∧
      cells'.toList = (parts.toList.map (·.2)).flatMap fun v => v.cells.toList := by
    intro z0
    obtain ⟨c', g1, g2⟩ := fill_row et.cells (parts.toList.map (·.2)) 0 ((Array.range (len * et.cells)).map (z0[· % z0.size]!)) q2 (by simp [hpl])
    refine ⟨c', ?_, by rw [g2]; simp⟩
    rw [← g1, List.length_map, ← zip_range' parts.toList len hidx]
  have hrun : ∃ cells' : Array Value, (Go.Instr.buildSlice t len parts).run P w = .ok (.slice (some ⟨w.heap.size, 0, none⟩) len len) (pushW w (.cells cells' e)) ∧
      cells'.toList = (parts.toList.map (·.2)).flatMap fun v => v.cells.toList := by
    unfold Go.Instr.buildSlice
    rw [bind_ok (run_underlying hu)]
    simp only
    rw [bind_ok hET.run_sizeOf]
    have : ¬ (len * et.cells > 2 ^ 24) := by omega
    simp only [this, if_false]
    by_cases hzero : len * et.cells = 0
    · obtain ⟨c', g1, g2⟩ := hz' #[]
      refine ⟨c', ?_, g2⟩
      simp only [hzero, if_true] at g1 ⊢
      rw [bind_ok (run_pure _)]
      simp only [g1]
      rw [bind_ok (run_newRow _ _)]; rfl
    · obtain ⟨c', g1, g2⟩ := hz' zv.cells
      refine ⟨c', ?_, g2⟩
      simp only [hzero, if_false] at g1 ⊢
      rw [bind_ok hz, bind_ok (run_pure _)]
      simp only [g1]
      rw [bind_ok (run_newRow _ _)]; rfl
  obtain ⟨cells', hrun, hcl⟩ := hrun
  have hasl : as.length = len := by
    have : ∀ (as : List AV) (vs : List Value), AVs C as vs → as.length = vs.length := by
      intro as
      induction as with
      | nil => intro vs h; simp only [AVs] at h; subst h; rfl
      | cons a as ih => intro vs h; simp only [AVs] at h; obtain ⟨v, r, rfl, _, h2⟩ := h; simp [ih r h2]
    rw [this as _ hv]; simp [hpl]
  have hsz : cells'.size = len * et.cells := by
    have := congrArg List.length hcl
    rw [q1.length, hasl] at this
    simpa using this
  have htk : cells'.toList.take (len * et.cells) = cells'.toList := List.take_of_length_le (by simp; omega)
  split at hl
  · rename_i ds hds
    split at hl
    · rename_i hall
      cases hl
      have hdl : ds.length = len := by rw [← hasl, allP_map hds]; simp
      have hrl : (Obj.row et.cells ds false).rowLen = some (et.cells, len) := by simp [Obj.rowLen, hdl]
      refine ⟨_, _, _, hrun, newRow_ok h e cells' hrl rfl (Nat.le_refl _) hsz fun hle => .inl ⟨_, ds, false, rfl, ?_⟩, own_new hrl (Nat.le_refl _) _⟩
      rw [htk, hcl]
      refine PRow.ofARow (C := C) ds _ (fun d hd => ?_) (by rw [← allP_map hds]; exact q1)
      have := List.all_eq_true.1 hall d hd
      simpa using this
    · cases hl
  · split at hl
    · cases hl
      have hrl : (Obj.mrow et.cells as).rowLen = some (et.cells, len) := by simp [Obj.rowLen, hasl]
      refine ⟨_, _, _, hrun, newRow_ok h e cells' hrl rfl (Nat.le_refl _) hsz fun hle => .inr ⟨as, rfl, ?_⟩, own_new hrl (Nat.le_refl _) _⟩
      rw [htk, hcl]
      exact ARow.mono hle _ _ _ q1
    · cases hl

/-! ### make -/

theorem PRow.replicate {M : Mem} {e : Nat} {z : PD} {zc : List Value} (hz : PRep M z zc) (hc : z.cells = e) (zr : Array Value) (hzr : zr.toList = zc) : ∀ m : Nat,
    PRow M e (List.replicate m z) ((List.range (m * e)).map fun i => zr[i % zr.size]!)
  | 0 => by simp [PRow]
  | m + 1 => by
    have hlen : zc.length = e := by rw [hz.length, hc]
    have hsz : zr.size = e := by rw [← hlen, ← hzr]; simp
    rw [show (m + 1) * e = e + m * e from by rw [Nat.succ_mul]; omega, List.range_add, List.map_append, List.map_map]
    simp only [List.replicate_succ, PRow]
    refine ⟨_, _, rfl, by simp, hc, ?_, ?_⟩
    · have : (List.range e).map (fun i => zr[i % zr.size]!) = zc := by
        apply List.ext_getElem?
        intro i
        by_cases hi : i < e
        · have h2 : i % zr.size = i := by rw [hsz]; exact Nat.mod_eq_of_lt hi
          have h3 : i < zr.size := by omega
          rw [List.getElem?_map]
          simp only [List.getElem?_range hi, Option.map_some, h2]
          rw [← hzr, Array.getElem?_toList]
          simp [h3]
        · rw [List.getElem?_eq_none (by simp; omega), List.getElem?_eq_none (by omega)]
      rw [this]; exact hz
    · have := PRow.replicate hz hc zr hzr m
      have he : ((fun i => zr[i % zr.size]!) ∘ fun x => e + x) = fun i => zr[i % zr.size]! := by
        funext i
        simp only [Function.comp_apply]
        rw [hsz, Nat.add_mod_left]
      rw [he]; exact this


theorem freeze_nolean {C : Cx} (h : Sim C w) {v : AV} {d : PD} {x : Value} (hl : v.leans = []) (hf : freeze C.H v = some d) (hv : AVal C v x) : AVal C (.p d) x :=
  freeze_ok h true v d [x] (by rw [hl]; intro b hb; cases hb) hf hv

theorem wrap64 {n : Int} (h0 : 0 ≤ n) (h1 : n < 2 ^ 47) : IntKind.i64.wrap n = n := by
  show (if (true && decide ((n % 2 ^ 64 : Int) ≥ 2 ^ (64 - 1))) = true then n % 2 ^ 64 - 2 ^ 64 else n % 2 ^ 64) = n
  simp; omega

theorem makeSlice_ok {C : Cx} {E : Env} (hE : EnvOK E P) (h : Sim C w) {t : Nat} {et : Ty} {n m : Int} {k1 k2 : IntKind} {z : PD} (he : E.elem t = some et)
    (hz : freeze C.H et.zero = some z) (hc : 0 ≤ n ∧ n ≤ m ∧ m * et.bytes ≤ 2 ^ 47 ∧ m < 2 ^ 47) :
    ValOK P C w (Go.Instr.makeSlice t (.int k1 n) (.int k2 m)) (.win C.H.length [] et.cells 0 n.toNat m.toNat true) [.row et.cells (List.replicate m.toNat z) false] := by
  obtain ⟨e, c, b, z0, hty, hte⟩ := Env.elem_some he
  have hu := (hE.ty t _ hty).desc
  simp only [DescOK] at hu
  have hET := hE.ty e et hte
  obtain ⟨i, hi1, hi2, hi3, zz, hi4, hi5⟩ := hET.info
  obtain ⟨zv, hzr, hzv⟩ := hET.run_zero (w := w)
  have hzp := freeze_nolean h hET.zleans hz (hzv C)
  have hzs : AR C false (.p z) zv.cells.toList := hzp.cells rfl
  rw [AR.p] at hzs
  have hzc : z.cells = et.cells := by
    have := (freeze_like hz).1
    rw [hET.zcells] at this; simpa using this.symm
  obtain ⟨c0, c1, c2, c3⟩ := hc
  have hrun : ∃ cells : Array Value, (Go.Instr.makeSlice t (.int k1 n) (.int k2 m)).run P w = .ok (.slice (some ⟨w.heap.size, 0, none⟩) n.toNat m.toNat) (pushW w (.cells cells e)) ∧
      cells.toList = (List.range (m.toNat * et.cells)).map fun i => zv.cells[i % zv.cells.size]! := by
    unfold Go.Instr.makeSlice
    rw [bind_ok (run_underlying hu)]
    simp only
    rw [bind_ok (show (Go.asInt (.int k1 n)).run P w = .ok n w from rfl), bind_ok (show (Go.asInt (.int k2 m)).run P w = .ok m w from rfl), bind_ok (run_typeInfo hi1)]
    rw [wrap64 c0 (by omega), wrap64 (by omega) c3, hi3]
    have hcond : ((decide (m < 0) || decide ((et.bytes : Int) * m > 2 ^ 48)) || decide (n < 0) || decide (n > m)) = false := by
      have : (et.bytes : Int) * m ≤ 2 ^ 47 := by rw [Int.mul_comm]; exact c2
      simp; omega
    have hcond' : ¬ (((decide (m < 0) || decide ((et.bytes : Int) * m > 2 ^ 48)) || decide (n < 0) || decide (n > m)) = true) := by rw [hcond]; simp
    rw [if_neg hcond']
    have hroom : (Go.askRoom (m.toNat * et.bytes)).run P w = .ok () w := by
      unfold Go.askRoom
      split <;> rfl
    rw [bind_ok hroom, bind_ok hET.run_sizeOf]
    by_cases hzero : m.toNat * et.cells = 0
    · simp only [hzero, if_true]
      rw [bind_ok (run_pure _), bind_ok (run_newRow _ _)]
      exact ⟨_, rfl, by simp⟩
    · simp only [hzero, if_false]
      rw [bind_ok hzr, bind_ok (run_pure _), bind_ok (run_newRow _ _)]
      exact ⟨_, rfl, by simp⟩
  obtain ⟨cells, hrun, hcl⟩ := hrun
  have hrow := PRow.replicate hzs hzc zv.cells rfl m.toNat
  rw [← hcl] at hrow
  have hsz : cells.size = m.toNat * et.cells := by
    have := hrow.length
    simpa using this
  have hrl : (Obj.row et.cells (List.replicate m.toNat z) false).rowLen = some (et.cells, m.toNat) := by simp [Obj.rowLen]
  refine ⟨_, _, _, hrun, newRow_ok h e cells hrl rfl (Nat.le_refl _) hsz fun hle => .inl ⟨_, _, false, rfl, ?_⟩, ?_⟩
  · rw [List.take_of_length_le (by simp; omega)]; exact hrow
  · simp only [AVal, AR]
    refine ⟨by simp [Cx.add], _, rfl, rfl, fun _ => ⟨.at w.heap.size 0 m.toNat, by simp [Cx.add], ?_⟩⟩
    simp only [winV]
    exact ⟨by omega, _, _, rfl, Nat.le_refl _, fun _ => rfl, fun _ => by simp [offs], fun e => by cases e⟩

theorem makeMap_ok {C : Cx} {E : Env} (hE : EnvOK E P) (h : Sim C w) {t kt vt : Nat} {c b : Nat} {z : AV} (hty : E.ty t = some ⟨.map kt vt, c, b, z⟩) {r : Option Value} (hr : ∀ v, r = some v → ∃ k n, v = .int k n) :
    ValOK P C w (Go.Instr.makeMap t r) (.map C.H.length) [.map kt vt []] := by
  have hu := (hE.ty t _ hty).desc
  simp only [DescOK] at hu
  have hrun : (Go.Instr.makeMap t r).run P w = .ok (.map (some w.heap.size)) (pushW w (.map #[] 0)) := by
    unfold Go.Instr.makeMap
    cases r with
    | none => simp only; rw [bind_ok (run_newObj _)]; rfl
    | some v =>
      obtain ⟨k, n, rfl⟩ := hr v rfl
      simp only
      rw [bind_ok (run_underlying hu)]
      simp only
      rw [bind_ok (show (Go.asInt (.int k n)).run P w = .ok n w from rfl), bind_ok (run_newObj _)]; rfl
  refine ⟨_, C.add (.at w.heap.size 0 0) (.map kt vt []), _, hrun, Calm.add h (fun blk off cap e => by cases e; exact Nat.le_refl _) (fun b hb => push_old w _ b hb) (by rw [push_size]; omega) (quiet_push _ _) rfl fun _ => ?_, ?_⟩
  · simp only [ObjRep]
    exact ⟨w.heap.size, #[], 0, rfl, push_new w _, by simp [MapRep], by simp⟩
  · simp only [AVal, AR]
    exact ⟨by simp [Cx.add], _, rfl, rfl, fun _ => ⟨w.heap.size, 0, 0, by simp [Cx.add], rfl⟩⟩

end
end Ev

/- Composite literals, map lookups, lengths. -/
namespace Ev
open Go (Value Addr Fn IntKind World Sem Program Operand Oper Result)

section
variable {P : Program} {w : World}

/-! ### Composite literals -/

theorem AV.set_cells {n : Nat} {a x a' : AV} {s : Stp} {π : List Stp} (h : AV.set n a (s :: π) x = some a') : a'.cells ≠ none := by
  cases s with
  | fld i o =>
    cases a with
    | p d =>
      cases d with
      | agg sz fs =>
        simp only [AV.set, Option.ite_none_right_eq_some, Option.bind_eq_some_iff, Option.map_eq_some_iff] at h
        obtain ⟨_, d, _, m, _, b, _, h⟩ := h
        cases b <;> (simp only at h; subst h; simp [AV.cells])
      | _ => simp [AV.set] at h
    | agg sz fs =>
      simp only [AV.set, Option.ite_none_right_eq_some, Option.bind_eq_some_iff, Option.map_eq_some_iff] at h
      obtain ⟨_, d, _, m, _, b, _, h⟩ := h
      subst h; simp [AV.cells]
    | _ => simp [AV.set] at h
  | idx i e =>
    cases a with
    | p d =>
      cases d with
      | iarr k n l =>
        cases π with
        | cons _ _ => simp [AV.set] at h
        | nil =>
          simp only [AV.set] at h
          split at h
          · simp only [Option.ite_none_right_eq_some, Option.some.injEq] at h
            obtain ⟨_, h⟩ := h
            subst h; simp [AV.cells]
          · cases h
      | arr e' n xs =>
        simp only [AV.set, Option.ite_none_right_eq_some, Option.bind_eq_some_iff] at h
        obtain ⟨_, d, _, b, _, h⟩ := h
        split at h
        · cases h; simp [AV.cells]
        · cases h
      | _ => simp [AV.set] at h
    | agg sz fs =>
      simp only [AV.set, Option.ite_none_right_eq_some, Option.bind_eq_some_iff, Option.map_eq_some_iff] at h
      obtain ⟨_, d, _, m, _, b, _, h⟩ := h
      subst h; simp [AV.cells]
    | _ => simp [AV.set] at h


theorem AV.set_agg {n : Nat} {a x a' : AV} {s : Stp} {π : List Stp} (h : AV.set n a (s :: π) x = some a') : a'.isAgg = true := by
  cases s with
  | fld i o =>
    cases a with
    | p d =>
      cases d with
      | agg sz fs =>
        simp only [AV.set, Option.ite_none_right_eq_some, Option.bind_eq_some_iff, Option.map_eq_some_iff] at h
        obtain ⟨_, d, _, m, _, b, _, h⟩ := h
        cases b <;> (simp only at h; subst h; rfl)
      | _ => simp [AV.set] at h
    | agg sz fs =>
      simp only [AV.set, Option.ite_none_right_eq_some, Option.bind_eq_some_iff, Option.map_eq_some_iff] at h
      obtain ⟨_, d, _, m, _, b, _, h⟩ := h
      subst h; rfl
    | _ => simp [AV.set] at h
  | idx i e =>
    cases a with
    | p d =>
      cases d with
      | iarr k n l =>
        cases π with
        | cons _ _ => simp [AV.set] at h
        | nil =>
          simp only [AV.set] at h
          split at h
          · simp only [Option.ite_none_right_eq_some, Option.some.injEq] at h
            obtain ⟨_, h⟩ := h
            subst h; rfl
          · cases h
      | arr e' n xs =>
        simp only [AV.set, Option.ite_none_right_eq_some, Option.bind_eq_some_iff] at h
        obtain ⟨_, d, _, b, _, h⟩ := h
        split at h
        · cases h; rfl
        · cases h
      | _ => simp [AV.set] at h
    | agg sz fs =>
      simp only [AV.set, Option.ite_none_right_eq_some, Option.bind_eq_some_iff, Option.map_eq_some_iff] at h
      obtain ⟨_, d, _, m, _, b, _, h⟩ := h
      subst h; rfl
    | _ => simp [AV.set] at h

theorem build_fold {C : Cx} (n : Nat) (place : Nat → Option (Nat × Nat)) (stp : Nat → AV → Option (Stp × Nat))
    (hstp : ∀ i v s m, stp i v = some (s, m) → place i = some (s.off, m) ∧ v.cells = some m) :
    ∀ (parts : List (Nat × AV)) (vals : List (Nat × Value)) (a v : AV) (cells : Array Value), parts.map (·.1) = vals.map (·.1) → AVs C (parts.map (·.2)) (vals.map (·.2)) →
      AR C false a cells.toList → cells.size = n → a.cells = some n →
      parts.foldl (fun acc x => acc.bind fun a => (stp x.1 x.2).bind fun s => AV.set n a [s.1] x.2) (some a) = some v →
      ∃ cells' : Array Value, Go.Instr.fill place cells vals = some cells' ∧ AR C false v cells'.toList ∧ cells'.size = n ∧ v.cells = some n
  | [], vals, a, v, cells, hi, _, ha, hn, hac, hf => by
    have : vals = [] := by simpa using hi.symm
    subst this
    simp only [List.foldl_nil, Option.some.injEq] at hf
    subst hf
    exact ⟨cells, rfl, ha, hn, hac⟩
  | (i, x) :: parts, vals, a, v, cells, hi, hv, ha, hn, hac, hf => by
    cases vals with
    | nil => simp at hi
    | cons y vals =>
      obtain ⟨j, y⟩ := y
      simp only [List.map_cons, List.cons.injEq] at hi
      obtain ⟨rfl, hi⟩ := hi
      simp only [List.map_cons, AVs] at hv
      obtain ⟨y', r, hy, hx, hv⟩ := hv
      simp only [List.cons.injEq] at hy
      obtain ⟨rfl, rfl⟩ := hy
      simp only [List.foldl_cons, Option.bind_some] at hf
      have hnone : ∀ l : List (Nat × AV), l.foldl (fun acc x => acc.bind fun a => (stp x.1 x.2).bind fun s => AV.set n a [s.1] x.2) (none : Option AV) = none := by
        intro l; induction l with
        | nil => rfl
        | cons b l ih => simpa using ih
      cases hs : stp i x with
      | none => rw [hs] at hf; simp only [Option.bind_none] at hf; rw [hnone] at hf; cases hf
      | some sm =>
        obtain ⟨s, m⟩ := sm
        rw [hs] at hf
        simp only [Option.bind_some] at hf
        obtain ⟨h1, h2⟩ := hstp i x s m hs
        cases hset : AV.set n a [s] x with
        | none => rw [hset] at hf; rw [hnone] at hf; cases hf
        | some a' =>
          rw [hset] at hf
          have hst : x.storable = true := by cases x <;> simp_all [AV.storable, AV.cells]
          have hxc := AVal.cells hx hst
          have hxl := hxc.length h2
          obtain ⟨q1, q2, q3⟩ := AV.set_ok [s] n a x a' cells.toList y.cells.toList ha (by simpa using hn) hxc hset
          have hoff : offs [s] = s.off := by simp [offs]
          rw [hoff] at q1 q2
          have hys : y.cells.size = m := by simpa using hxl
          obtain ⟨c1, e1, e2⟩ := fill_cons (place := place) (cells := cells) (i := i) (v := y) (rest := vals) h1 hys (by rw [hxl] at q1; simpa using q1)
          have hc1 : c1.size = n := by
            have := congrArg List.length e2
            rw [splice_length q1] at this
            simpa [hn] using this
          have ha' : a'.cells = some n := by
            rcases q3 with q3 | q3
            · exact absurd q3 (AV.set_cells hset)
            · rw [q3]; simp [hn]
          obtain ⟨c2, g1, g2, g3, g4⟩ := build_fold n place stp hstp parts vals a' v c1 hi hv (by rw [e2]; exact q2) hc1 ha' hf
          exact ⟨c2, by rw [e1, g1], g2, g3, g4⟩


theorem build_agg {E : Env} {k : TyK} {n : Nat} : ∀ {as : List (Nat × AV)} {a v : AV}, a.isAgg = true → as.foldl (fun acc x => acc.bind fun a => (E.stpOf k x.1 x.2).bind fun s => AV.set n a [s.1] x.2) (some a) = some v → v.isAgg = true
  | [], a, v, ha, h => by simp only [List.foldl_nil, Option.some.injEq] at h; subst h; exact ha
  | x :: as, a, v, ha, h => by
    simp only [List.foldl_cons, Option.bind_some] at h
    have hnone : ∀ l : List (Nat × AV), l.foldl (fun acc x => acc.bind fun a => (E.stpOf k x.1 x.2).bind fun s => AV.set n a [s.1] x.2) (none : Option AV) = none := by
      intro l; induction l with
      | nil => rfl
      | cons b l ih => simpa using ih
    cases hs : E.stpOf k x.1 x.2 with
    | none => rw [hs] at h; simp only [Option.bind_none] at h; rw [hnone] at h; cases h
    | some s =>
      rw [hs] at h
      simp only [Option.bind_some] at h
      cases hset : AV.set n a [s.1] x.2 with
      | none => rw [hset, hnone] at h; cases h
      | some b =>
        rw [hset] at h
        refine build_agg ?_ h
        exact AV.set_agg hset

theorem run_mapM {α β : Type} (f : α → Sem β) (g : α → β) : ∀ (l : List α), (∀ a ∈ l, (f a).run P w = .ok (g a) w) → (l.mapM f).run P w = .ok (l.map g) w
  | [], _ => by simp
  | a :: l, h => by
    rw [List.mapM_cons, bind_ok (h a (by simp)), bind_ok (run_mapM f g l fun b hb => h b (by simp [hb]))]; rfl

theorem run_mapM_array {α β : Type} (f : α → Sem β) (g : α → β) (l : Array α) (h : ∀ a ∈ l, (f a).run P w = .ok (g a) w) : (l.mapM f).run P w = .ok (l.map g) w := by
  rw [Array.mapM_eq_mapM_toList]
  have := run_mapM f g l.toList (fun a ha => h a (by simpa using ha))
  simp only [Go.Sem.run_map, this]
  exact congrArg (Result.ok · w) (Array.ext' (by simp))

theorem build_ok {C : Cx} {E : Env} (hE : EnvOK E P) (h : Sim C w) {t : Nat} {parts : Array (Nat × Value)} {as : List (Nat × AV)} (hi : as.map (·.1) = parts.toList.map (·.1)) (hv : AVs C (as.map (·.2)) (parts.toList.map (·.2)))
    {v : AV} (hl : E.buildA t as = some v) : ValOK P C w (Go.Instr.build t parts) v [] := by
  unfold Env.buildA at hl
  cases hty : E.ty t with
  | none => simp [hty] at hl
  | some ty =>
    have hT := hE.ty t ty hty
    simp only [hty, Option.bind_some] at hl
    rw [Option.ite_none_right_eq_some, Bool.and_eq_true] at hl
    obtain ⟨⟨hagg, het⟩, hl⟩ := hl
    obtain ⟨zv, hz, hzv⟩ := hT.run_zero (w := w)
    have hzc := (hzv C).cells hT.storable
    have hzl := hzc.length hT.zcells
    have hzs : zv.cells.size = ty.cells := by simpa using hzl
    have hd := hT.desc
    cases hk : ty.k with
    | struct fs =>
      rw [hk] at hl hd
      simp only [DescOK] at hd
      obtain ⟨fa, hu, hsz, _, hall, hf⟩ := hd
      have hplace : ∀ (g : Go.Field → Nat × Nat), (∀ f ∈ fa, ∀ i, P.info? f.type = some i → g f = (f.offset, i.size)) → ∃ cells' : Array Value, Go.Instr.fill ((fa.map g)[·]?) zv.cells parts.toList = some cells' ∧ AR C false v cells'.toList ∧ cells'.size = ty.cells ∧ v.cells = some ty.cells := by
        intro g hg
        refine build_fold ty.cells _ (E.stpOf (.struct fs)) ?_ as parts.toList ty.zero v zv.cells hi hv hzc hzs hT.zcells hl
        intro i x s m hs
        simp only [Env.stpOf, Option.bind_eq_some_iff, Option.ite_none_right_eq_some, Option.some.injEq, Prod.mk.injEq] at hs
        obtain ⟨f, hfi, ft, hft, hc, rfl, rfl⟩ := hs
        refine ⟨?_, hc⟩
        obtain ⟨fl, hfl, ho, htt, _⟩ := hf i f hfi
        have hFT := hE.ty f.2 ft hft
        obtain ⟨inf, hi1, hi2, _⟩ := hFT.info
        have hmem : fl ∈ fa := by
          obtain ⟨h1, h2⟩ := Array.getElem?_eq_some_iff.1 hfl
          rw [← h2]; exact Array.getElem_mem h1
        rw [Array.getElem?_map, hfl]
        simp only [Option.map_some, Option.some.injEq]
        rw [hg fl hmem inf (by rw [htt]; exact hi1), ho, hi2]; rfl
      let g : Go.Field → Nat × Nat := fun f => (f.offset, ((P.info? f.type).map (·.size)).getD 0)
      obtain ⟨cells', g1, g2, g3, g4⟩ := hplace g (fun f _ i hi => by simp [g, hi])
      refine .same h ?_ (?_ : AVal C v (.agg cells'))
      · unfold Go.Instr.build
        rw [bind_ok hz, bind_ok (run_underlying hu)]
        simp only
        have hm : (fa.mapM fun f => (do pure (f.offset, ← Go.sizeOf f.type) : Sem (Nat × Nat))).run P w = .ok (fa.map g) w := by
          refine run_mapM_array _ g fa fun f hfm => ?_
          obtain ⟨i, hi⟩ := hall f hfm
          have : (Go.sizeOf f.type).run P w = .ok i.size w := by
            unfold Go.sizeOf; rw [bind_ok (run_typeInfo hi)]; rfl
          rw [bind_ok this]
          simp [g, hi]
        rw [bind_ok hm]
        simp only [g1]
        rfl
      · have := AR.ofCells g2 (build_agg (by rw [hT.zagg]; exact hagg) hl)
        simpa using this
    | array n e =>
      rw [hk] at hl hd
      simp only [DescOK] at hd
      rw [hk] at het
      simp only at het
      obtain ⟨et, het⟩ := Option.isSome_iff_exists.1 het
      have hET := hE.ty e et het
      obtain ⟨cells', g1, g2, g3, g4⟩ := build_fold ty.cells (fun i => some (i * et.cells, et.cells)) (E.stpOf (.array n e)) (by
        intro i x s m hs
        simp only [Env.stpOf, het, Option.bind_some, Option.ite_none_right_eq_some, Option.some.injEq, Prod.mk.injEq] at hs
        obtain ⟨hc, rfl, rfl⟩ := hs
        exact ⟨rfl, hc⟩) as parts.toList ty.zero v zv.cells hi hv hzc hzs hT.zcells hl
      refine .same h ?_ (?_ : AVal C v (.agg cells'))
      · unfold Go.Instr.build
        rw [bind_ok hz, bind_ok (run_underlying hd)]
        simp only
        rw [bind_ok hET.run_sizeOf]
        simp only [g1]
        rfl
      · have := AR.ofCells g2 (build_agg (by rw [hT.zagg]; exact hagg) hl)
        simpa using this
    | _ => simp [Ty.agg, hk] at hagg

end
end Ev
