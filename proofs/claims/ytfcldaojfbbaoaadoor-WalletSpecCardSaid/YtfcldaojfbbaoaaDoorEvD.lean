/- Part 4 of the evaluator of the given model: its rules and their soundness (no condition). -/
import Derived.Test.YtfcldaojfbbaoaaDoorEvC
set_option linter.unusedVariables false
set_option linter.unusedSimpArgs false
set_option linter.unnecessarySimpa false
/- All operations that only compute, read and make memory. -/
namespace Ev
open Go (Value Addr Fn IntKind World Sem Program Operand Oper Result Act)

section
variable {P : Program} {w : World}

/-- What is given all through a run. -/
structure Ok (E : Env) (P : Program) (C : Cx) (w : World) : Prop where
  env : EnvOK E P
  has : C.has = E.has 10
  glob : GlobOK E C.M
  sim : Sim C w

theorem Ok.next {E : Env} {C C' : Cx} {w' : World} (h : Ok E P C w) (hs : Sim C' w') (hx : Ext C w C' w') : Ok E P C' w' :=
  ⟨h.env, hx.le.same.trans h.has, h.glob.mono hx.le.mem, hs⟩

def NextOK (P : Program) (C : Cx) (w : World) (s : Sem Go.Next) (v : AV) (new : List Obj) : Prop :=
  ∃ rv C' w', s.run P w = .ok (.value rv) w' ∧ Calm C w C' w' new ∧ AVal C' v rv

theorem ValOK.next {C : Cx} {s : Sem Value} {v : AV} {new : List Obj} (h : ValOK P C w s v new) : NextOK P C w (do Pure.pure (Go.Next.value (← s))) v new := by
  obtain ⟨rv, C', w', h1, h2, h3⟩ := h
  exact ⟨rv, C', w', run_value h1, h2, h3⟩

theorem AVs.map {α : Type} {C : Cx} (f : α → AV) (g : α → Value) (h : ∀ x, AVal C (f x) (g x)) : ∀ l : List α, AVs C (l.map f) (l.map g)
  | [] => by simp [AVs]
  | x :: l => by simp only [List.map_cons, AVs]; exact ⟨_, _, rfl, h x, AVs.map f g h l⟩

theorem AVs.get {C : Cx} : ∀ {fs : List AV} {vs : List Value} (i : Nat) (f : AV), AVs C fs vs → fs[i]? = some f → ∃ v, vs[i]? = some v ∧ AVal C f v
  | [], vs, i, f, _, h => by simp at h
  | a :: fs, vs, i, f, h, hi => by
    simp only [AVs] at h
    obtain ⟨v, r, rfl, h1, h2⟩ := h
    cases i with
    | zero => simp at hi; subst hi; exact ⟨v, rfl, h1⟩
    | succ i => obtain ⟨v', g1, g2⟩ := AVs.get i f h2 (by simpa using hi); exact ⟨v', by simpa using g1, g2⟩

theorem optInt_ok {C : Cx} {o : Option AV} {v : Option Value} {r : Option Int} (h : ∀ a b, o = some a → v = some b → AVal C a b) (hs : o.isSome = v.isSome) (hr : optInt o = some r) : OptOK v r := by
  cases o with
  | none =>
    cases v with
    | none => simp only [optInt, Option.some.injEq] at hr; subst hr; trivial
    | some _ => simp at hs
  | some a =>
    cases v with
    | none => simp at hs
    | some b =>
      have := h a b rfl rfl
      unfold optInt at hr
      split at hr
      case h_1 => contradiction
      case h_2 k n he =>
        cases he
        cases hr
        exact ⟨k, AVal.int.1 this⟩
      case h_3 => cases hr

theorem intA_ok {C : Cx} {a : AV} {v : Value} {i : Int} (h : AVal C a v) (hi : intA a = some i) : ∃ k, v = .int k i := by
  unfold intA at hi
  split at hi
  · cases hi; exact ⟨_, AVal.int.1 h⟩
  · cases hi

theorem PRow.bytes {M : Mem} {k : IntKind} : ∀ l : List UInt8, PRow M 1 (l.map fun c => PD.int k c.toNat) (l.map fun c => Value.int k c.toNat)
  | [] => by simp [PRow]
  | c :: l => by
    simp only [List.map_cons, PRow]
    exact ⟨[.int k c.toNat], _, rfl, rfl, rfl, by simp [PRep], PRow.bytes l⟩

theorem bytes_ok {C : Cx} {E : Env} (hE : EnvOK E P) (h : Sim C w) {src dst : Nat} {x : AV} {xv : Value} {ds : List PD} (hx : AVal C x xv) (hl : E.bytesA src dst x = some ds) :
    ValOK P C w (Go.convert src dst xv) (.own C.H.length 0) [.row 1 ds false] := by
  unfold Env.bytesA at hl
  split at hl
  case h_2 => cases hl
  rename_i c1 b1 z1 e c2 b2 z2 s h1 h2
  split at hl
  case h_2 => cases hl
  rename_i b3 z3 h3
  cases hl
  rw [AVal.str] at hx; subst hx
  have d1 := (hE.ty _ _ h1).desc
  have d2 := (hE.ty _ _ h2).desc
  have d3 := (hE.ty _ _ h3).desc
  simp only [DescOK] at d1 d2 d3
  have hge : s.size ≤ Go.grownCap w s.size 0 e := Go.grownCap_ge w s.size 0 e
  generalize hcap : Go.grownCap w s.size 0 e = cap at hge
  have hsz : (Go.bytesRow s cap).size = cap := by
    have : s.data.size = s.size := rfl
    simp [Go.bytesRow]; omega
  have hrl : (Obj.row 1 (strPD s) false).rowLen = some (1, s.size) := by
    have : s.data.size = s.size := rfl
    simp [Obj.rowLen, strPD]
  refine ⟨_, C.add (.at w.heap.size 0 cap) (.row 1 (strPD s) false), _, Go.run_bytes_of_string w src dst e s d1 d2 d3, ?_, ?_⟩
  · rw [hcap]
    refine Calm.add h (fun blk off c e => by cases e; exact Nat.le_refl _) (fun b hb => push_old { w with drawn := w.drawn + 1 } _ b hb) (by show w.heap.size ≤ (w.heap.push _).size; simp)
      ((Quiet.drew w).trans (quiet_push _ _)) rfl fun hle => ?_
    simp only [ObjRep]
    refine ⟨Go.bytesRow s cap, e, ((Go.bytesRow s cap).size, (Go.bytesRow s cap).size + 1), push_new { w with drawn := w.drawn + 1 } _, ?_, ?_, by omega, ?_⟩
    · intro cs X fz hc j hj
      have : (some (Go.Obj.cells (Go.bytesRow s cap) e ((Go.bytesRow s cap).size, (Go.bytesRow s cap).size + 1))) = some (.cells cs X fz) := (push_new { w with drawn := w.drawn + 1 } _).symm.trans hc
      cases this
      simp only; omega
    · have : s.data.size = s.size := rfl
      simp [strPD]; omega
    · have hlen : (strPD s).length * 1 = s.data.toList.length := by simp [strPD]
      rw [hlen, List.drop_zero]
      have : (Go.bytesRow s cap).toList.take s.data.toList.length = s.data.toList.map fun c => Value.int .u8 c.toNat := by
        simp [Go.bytesRow, List.take_append]
      rw [this]
      exact PRow.bytes _
  · rw [hcap]
    exact own_new hrl hge _

theorem isNilC_ok {y : Operand} (h : isNilC y = true) : y = .const (.slice none 0 0) := by
  unfold isNilC at h
  split at h
  · rfl
  · cases h

theorem run_eq_nil {t N : Nat} {b : Option Addr} {n cap : Nat} {e : Nat} (hu : (Go.underlying t).run P w = .ok (.slice e) w) :
    (Go.Op.equalIn (N + 1) t (.slice b n cap) (.slice none 0 0)).run P w = .ok b.isNone w := by
  unfold Go.Op.equalIn
  rw [bind_ok hu]
  cases b <;> rfl

theorem nilCmp_ok {C : Cx} {E : Env} (hE : EnvOK E P) (h : Sim C w) {op : Go.BinOp} {t : Nat} {xo yo : Operand} {x v : AV} {xv : Value} (hx : AVal C x xv) (hl : E.nilCmpA C.H op t x = some v) :
    ValOK P C w (do Go.eqGuard op t xo yo xv (.slice none 0 0); Go.binOp op t xv (.slice none 0 0)) v [] := by
  unfold Env.nilCmpA at hl
  split at hl
  case h_2 => cases hl
  rename_i e cc bb zz hty
  split at hl
  case isFalse => cases hl
  rename_i hok
  simp only [Option.bind_eq_some_iff] at hl
  obtain ⟨n, hn, hl⟩ := hl
  have hd := (hE.ty t _ hty).desc
  simp only [DescOK] at hd
  have form : ∃ b cap, xv = .slice b n cap ∧ (n ≠ 0 → b.isNone = false) := by
    cases x with
    | p pd =>
      cases pd with
      | sl e xs =>
        simp only [lenA, Option.some.injEq] at hn; subst hn
        simp only [AVal, AR, PD.isAgg, Bool.and_false, Bool.false_eq_true, if_false, PRep] at hx
        obtain ⟨base, cap, hxe, _, h3⟩ := hx
        refine ⟨base, cap, by simpa using hxe, fun hne => ?_⟩
        rcases h3 with h3 | ⟨b, off, rcs, rfl, _⟩
        · exact absurd h3 hne
        · rfl
      | str s => simp [Env.lenOk, hty] at hok
      | _ => simp [lenA] at hn
    | own b lo =>
      simp only [lenA, Option.bind_eq_some_iff, Option.ite_none_right_eq_some, Option.some.injEq] at hn
      obtain ⟨o, ho, ⟨e, m⟩, hr, hlo, rfl⟩ := hn
      simp only [AVal, AR] at hx
      obtain ⟨_, x, hxe, _, hx⟩ := hx
      obtain rfl : xv = x := by simpa using hxe
      obtain ⟨loc, hi, hv⟩ := hx o e m ho hr
      cases loc with
      | nil =>
        obtain ⟨h1, h2, base, rfl⟩ := hv
        subst h1 h2
        exact ⟨base, 0, rfl, fun h => absurd rfl h⟩
      | «at» => obtain ⟨h1, h2, a, rfl, _⟩ := hv; exact ⟨some a, _, rfl, fun _ => rfl⟩
    | win b π e lo len cap ex =>
      simp only [lenA, Option.bind_eq_some_iff, Option.ite_none_right_eq_some, Option.some.injEq] at hn
      obtain ⟨o, ho, hal, rfl⟩ := hn
      simp only [AVal, AR] at hx
      obtain ⟨_, x, hxe, _, hx⟩ := hx
      obtain ⟨loc, hi, hv⟩ := hx ⟨o, ho, hal⟩
      obtain rfl : xv = x := by simpa using hxe
      cases loc with
      | nil =>
        obtain ⟨h1, h2, base, rfl⟩ := hv
        subst h1
        exact ⟨base, 0, rfl, fun h => absurd rfl h⟩
      | «at» => obtain ⟨h1, a, cap', rfl, _⟩ := hv; exact ⟨some a, _, rfl, fun _ => rfl⟩
    | nils e =>
      simp only [lenA, Option.some.injEq] at hn; subst hn
      simp only [AVal, AR] at hx
      obtain ⟨base, hxe⟩ := hx
      exact ⟨base, 0, by simpa using hxe, fun h => absurd rfl h⟩
    | map b => simp [Env.lenOk, hty] at hok
    | nilm => simp [Env.lenOk, hty] at hok
    | _ => simp [lenA] at hn
  obtain ⟨b, cap, rfl, hb⟩ := form
  have heq : (Go.Op.equal t (.slice b n cap) (.slice none 0 0)).run P w = .ok b.isNone w := run_eq_nil (run_underlying hd)
  have hg : ∀ u, (Go.eqGuard op t xo yo (.slice b n cap) (.slice none 0 0) >>= u : Sem Value).run P w = (u ()).run P w := fun u => bind_ok (guard_quiet (by simp) (by simp))
  split at hl
  · cases hl
    have hb' : (Go.binOp .eql t (.slice b n cap) (.slice none 0 0)).run P w = .ok (.bool b.isNone) w := by
      have : Go.binOp .eql t (.slice b n cap) (.slice none 0 0) = (do pure (.bool (← Go.Op.equal t (.slice b n cap) (.slice none 0 0))) : Sem Value) := by
        rfl
      rw [this, bind_ok heq]; rfl
    refine .same h ((hg _).trans hb') ?_
    by_cases h0 : n = 0
    · rw [if_pos h0]; simp [AVal, AR]
    · rw [if_neg h0, hb h0]; exact AVal.bool.2 rfl
  · cases hl
    have hb' : (Go.binOp .neq t (.slice b n cap) (.slice none 0 0)).run P w = .ok (.bool (!b.isNone)) w := by
      have : Go.binOp .neq t (.slice b n cap) (.slice none 0 0) = (do pure (.bool (!(← Go.Op.equal t (.slice b n cap) (.slice none 0 0)))) : Sem Value) := by
        rfl
      rw [this, bind_ok heq]; rfl
    refine .same h ((hg _).trans hb') ?_
    by_cases h0 : n = 0
    · rw [if_pos h0]; simp [AVal, AR]
    · rw [if_neg h0, hb h0]; exact AVal.bool.2 rfl
  · cases hl

theorem len_ok {C : Cx} {E : Env} (hE : EnvOK E P) (h : Sim C w) {t n : Nat} {x : AV} {xv : Value} (hx : AVal C x xv) (hok : E.lenOk t x = true)
    (hl : lenA C.H x = some n) (ty2 : Nat) : ValOK P C w (Go.Builtin.len_ #[t] ty2 #[xv]) (.p (.int .i64 n)) [] := by
  obtain ⟨ty, hty⟩ : ∃ ty, E.ty t = some ty := by
    cases hty : E.ty t with
    | none => simp [Env.lenOk, hty] at hok
    | some ty => exact ⟨ty, rfl⟩
  have hd := (hE.ty t ty hty).desc
  obtain ⟨k, c, b, z⟩ := ty
  have slice : ∀ e base cap, k = .slice e → xv = .slice base n cap → ValOK P C w (Go.Builtin.len_ #[t] ty2 #[xv]) (.p (.int .i64 n)) [] := by
    rintro e base cap rfl rfl
    simp only [DescOK] at hd
    refine .same h ?_ (AVal.int.2 rfl)
    unfold Go.Builtin.len_
    simp only [List.getElem?_toArray, List.getElem?_cons_zero]
    rw [bind_ok (run_underlying hd)]; rfl
  cases x with
  | p pd =>
    cases pd with
    | sl e xs =>
      simp only [lenA, Option.some.injEq] at hl; subst hl
      cases k <;> simp [Env.lenOk, hty] at hok
      simp only [AVal, AR, PD.isAgg, Bool.and_false, Bool.false_eq_true, if_false, PRep] at hx
      obtain ⟨base, cap, hxe, _, _⟩ := hx
      exact slice _ base cap rfl (by simpa using hxe)
    | str s =>
      simp only [lenA, Option.some.injEq] at hl; subst hl
      cases k <;> simp [Env.lenOk, hty] at hok
      simp only [DescOK] at hd
      rw [AVal.str] at hx; subst hx
      refine .same h ?_ (AVal.int.2 rfl)
      unfold Go.Builtin.len_
      simp only [List.getElem?_toArray, List.getElem?_cons_zero]
      rw [bind_ok (run_underlying hd)]; rfl
    | _ => simp [lenA] at hl
  | own b lo =>
    simp only [lenA, Option.bind_eq_some_iff, Option.ite_none_right_eq_some, Option.some.injEq] at hl
    obtain ⟨o, ho, ⟨e, m⟩, hr, hlo, rfl⟩ := hl
    cases k <;> simp [Env.lenOk, hty] at hok
    simp only [AVal, AR] at hx
    obtain ⟨_, x, hxe, _, hx⟩ := hx
    obtain rfl : xv = x := by simpa using hxe
    obtain ⟨loc, hi, hv⟩ := hx o e m ho hr
    cases loc with
    | nil =>
      obtain ⟨h1, h2, base, rfl⟩ := hv
      subst h1 h2
      exact slice _ base 0 rfl rfl
    | «at» => obtain ⟨h1, h2, a, rfl, _⟩ := hv; exact slice _ (some a) _ rfl rfl
  | win b π e lo len cap ex =>
    simp only [lenA, Option.bind_eq_some_iff, Option.ite_none_right_eq_some, Option.some.injEq] at hl
    obtain ⟨o, ho, hal, rfl⟩ := hl
    cases k <;> simp [Env.lenOk, hty] at hok
    simp only [AVal, AR] at hx
    obtain ⟨_, x, hxe, _, hx⟩ := hx
    obtain ⟨loc, hi, hv⟩ := hx ⟨o, ho, hal⟩
    obtain rfl : xv = x := by simpa using hxe
    cases loc with
    | nil =>
      obtain ⟨h1, h2, base, rfl⟩ := hv
      subst h1
      exact slice _ base 0 rfl rfl
    | «at» => obtain ⟨h1, a, cap', rfl, _⟩ := hv; exact slice _ (some a) _ rfl rfl
  | nils e =>
    simp only [lenA, Option.some.injEq] at hl; subst hl
    cases k <;> simp [Env.lenOk, hty] at hok
    simp only [AVal, AR] at hx
    obtain ⟨base, hxe⟩ := hx
    exact slice _ base 0 rfl (by simpa using hxe)
  | map b =>
    simp only [lenA] at hl
    split at hl
    case h_2 => cases hl
    rename_i kt vt es ho
    cases hl
    cases k <;> simp [Env.lenOk, hty] at hok
    simp only [DescOK] at hd
    simp only [AVal, AR] at hx
    obtain ⟨_, x, hxe, _, hx⟩ := hx
    obtain ⟨blk, off, cap, hi, rfl⟩ := hx ⟨_, ho, rfl⟩
    obtain rfl : xv = _ := by simpa using hxe
    obtain ⟨o', ho', hrep⟩ := h.obj b _ hi
    rw [ho] at ho'; cases ho'
    simp only [ObjRep] at hrep
    obtain ⟨blk', a, c, hl, h1, h2, h3⟩ := hrep
    cases hl
    refine .same h ?_ (AVal.int.2 rfl)
    unfold Go.Builtin.len_
    simp only [List.getElem?_toArray, List.getElem?_cons_zero]
    rw [bind_ok (run_underlying hd)]
    simp only
    rw [bind_ok (run_getObj_map h1)]
    have : a.size = es.length := by have := h2.length; simpa using this
    simp [Go.goInt, this]
  | nilm =>
    simp only [lenA, Option.some.injEq] at hl; subst hl
    cases k <;> simp [Env.lenOk, hty] at hok
    simp only [DescOK] at hd
    simp only [AVal, AR] at hx
    obtain rfl : xv = _ := by simpa using hx
    refine .same h ?_ (AVal.int.2 rfl)
    unfold Go.Builtin.len_
    simp only [List.getElem?_toArray, List.getElem?_cons_zero]
    rw [bind_ok (run_underlying hd)]; rfl
  | _ => simp [lenA] at hl

/-- A call's operation? -/
def isCall (o : Oper) : Bool := match o.op with
  | .call { callee := .builtin _, .. } => false
  | .call _ => true
  | _ => false

theorem NextOK.pure {C : Cx} (h : Sim C w) {v : AV} {rv : Value} (hv : AVal C v rv) : NextOK P C w (Pure.pure (.value rv)) v [] := ⟨rv, C, w, rfl, .refl h, hv⟩

theorem run_resolve_builtin (ρ : Operand → Value) (b : Go.Builtin) (args : Array Operand) (ats : Array Go.TypeId) (t : Nat) :
    (Go.resolve ρ ⟨.builtin b, args, ats⟩ t).run P w = .ok { target := .builtin b ats t (args.map fun | .const _ => true | _ => false), args := args.map ρ } w := rfl

theorem calm_ok {E : Env} {C : Cx} (ok : Ok E P C w) {K : Sem'} {tmps : List AV} {a : Act} (hs : SlotsOK C tmps a.tmps) {o : Oper} (hc : isCall o = false) {v : AV} {new : List Obj}
    (hl : E.calm K tmps C.H o = some (v, new)) : NextOK P C w (Go.execOp a.eval o) v new := by
  have hE := ok.env
  have h := ok.sim
  have ev : ∀ x, AVal C (E.opnd tmps x) (a.eval x) := opnd_ok ok.glob hs
  have opt : ∀ (x : Option Operand) r, optInt (x.map (E.opnd tmps)) = some r → OptOK (x.map a.eval) r := by
    intro x r hr
    refine optInt_ok (C := C) ?_ (by cases x <;> rfl) hr
    intro a' b' ha hb
    cases x with
    | none => cases ha
    | some y => cases ha; cases hb; exact ev y
  unfold Env.calm at hl
  unfold Go.execOp
  unfold isCall at hc
  generalize o.op = op at hl hc ⊢
  cases op with
  | move x => simp only [Option.some.injEq, Prod.mk.injEq] at hl ⊢; obtain ⟨rfl, rfl⟩ := hl; exact .pure h (fixNil_ok (ev x))
  | assign x => simp only [Option.some.injEq, Prod.mk.injEq] at hl ⊢; obtain ⟨rfl, rfl⟩ := hl; exact .pure h (fixNil_ok (ev x))
  | pick c x y =>
    simp only at hl ⊢
    split at hl
    case h_2 => cases hl
    rename_i t ht
    cases hl
    have hcv := ev c; rw [ht, AVal.bool] at hcv
    rw [hcv]
    refine ⟨_, C, w, rfl, .refl h, ?_⟩
    cases t
    · exact ev y
    · exact ev x
  | alloc elem =>
    simp only [Option.map_eq_some_iff, Prod.mk.injEq] at hl ⊢
    obtain ⟨ty, hty, rfl, rfl⟩ := hl
    exact (alloc_ok h (hE.ty _ _ hty)).next
  | box t x =>
    simp only [Option.ite_none_right_eq_some, Option.some.injEq, Prod.mk.injEq] at hl ⊢
    obtain ⟨hst, rfl, rfl⟩ := hl
    exact (box_ok h t (ev x) hst).next
  | build t parts =>
    simp only [Option.map_eq_some_iff, Prod.mk.injEq] at hl ⊢
    obtain ⟨v', hv, rfl, rfl⟩ := hl
    refine (build_ok hE h (as := parts.toList.map fun x => (x.1, E.opnd tmps x.2)) ?_ ?_ hv).next
    · simp [List.map_map, Function.comp_def]
    · simp only [Array.toList_map, List.map_map, Function.comp_def]
      exact AVs.map (fun x : Nat × Operand => E.opnd tmps x.2) (fun x => a.eval x.2) (fun x => ev x.2) _
  | buildSlice t len parts =>
    simp only [Option.bind_eq_some_iff, Option.ite_none_right_eq_some] at hl ⊢
    obtain ⟨et, het, ⟨hlen, hidx⟩, hl⟩ := hl
    refine (buildSlice_ok hE h (as := parts.toList.map fun x => E.opnd tmps x.2) het hlen ?_ ?_ hl).next
    · simpa [List.map_map, Function.comp_def] using hidx
    · simp only [Array.toList_map, List.map_map, Function.comp_def]
      exact AVs.map (fun x : Nat × Operand => E.opnd tmps x.2) (fun x => a.eval x.2) (fun x => ev x.2) _
  | load t x =>
    simp only [Option.map_eq_some_iff, Prod.mk.injEq] at hl ⊢
    obtain ⟨v', hv, rfl, rfl⟩ := hl
    obtain ⟨rv, h1, h2⟩ := load_ok hE h (ev x) hv
    exact (ValOK.same h h1 h2).next
  | nilCheck x =>
    simp only at hl ⊢
    have hx := ev x
    generalize a.eval x = xv at hx ⊢
    split at hl
    · rename_i b π he
      cases hl
      rw [he] at hx
      obtain ⟨b0, o0, rfl⟩ : ∃ b0 o0, xv = .pointer (some ⟨b0, o0, none⟩) := by
        simp only [AVal, AR] at hx
        obtain ⟨_, x1, hx1, ⟨b0, o0, hx2⟩, _⟩ := hx
        cases hx1
        exact ⟨b0, o0, hx2⟩
      exact .pure h hx
    · rename_i d he
      cases hl
      rw [he] at hx
      obtain ⟨b0, o0, rfl⟩ : ∃ b0 o0, xv = .pointer (some ⟨b0, o0, none⟩) := by
        simp only [AVal, AR] at hx
        obtain ⟨b0, o0, _, hx1, _⟩ := hx
        cases hx1
        exact ⟨b0, o0, rfl⟩
      exact .pure h hx
    · rename_i f x1 x2 he
      cases hl
      rw [he] at hx
      obtain ⟨vf, vc, rfl⟩ : ∃ vf vc, xv = .func (.func f) vf vc := by
        simp only [AVal, AR] at hx
        obtain ⟨vf, vc, hx1, _⟩ := hx
        cases hx1
        exact ⟨_, _, rfl⟩
      exact .pure h hx
    · rename_i f he
      cases hl
      rw [he] at hx
      obtain rfl : xv = .func (.func f) #[] #[] := by
        simpa [AVal, AR, PD.isAgg, PRep] using hx
      exact .pure h hx
    · cases hl
  | binOp op t x y p =>
    by_cases hn : isNilC y = true
    · simp only [hn, if_true, Option.map_eq_some_iff, Prod.mk.injEq] at hl ⊢
      obtain ⟨v', hv, rfl, rfl⟩ := hl
      obtain rfl := isNilC_ok hn
      exact (nilCmp_ok hE h (ev x) hv).next
    simp only [hn, Bool.false_eq_true, if_false, Option.map_eq_some_iff, Prod.mk.injEq] at hl ⊢
    obtain ⟨v', hv, rfl, rfl⟩ := hl
    exact (binA_ok hE h (ev x) (ev y) hv).next
  | unOp op t x =>
    simp only [Option.map_eq_some_iff, Prod.mk.injEq] at hl ⊢
    obtain ⟨v', hv, rfl, rfl⟩ := hl
    exact (unA_ok h (ev x) hv).next
  | convert src dst x =>
    cases hby : E.bytesA src dst (E.opnd tmps x) with
    | some ds =>
      simp only [hby, Option.some.injEq, Prod.mk.injEq] at hl
      obtain ⟨rfl, rfl⟩ := hl
      exact (bytes_ok hE h (ev x) hby).next
    | none =>
    simp only [hby] at hl
    simp only [Option.ite_none_right_eq_some, Option.map_eq_some_iff, Prod.mk.injEq] at hl ⊢
    obtain ⟨hs, v', hv, rfl, rfl⟩ := hl
    exact (convA_ok hE h (ev x) (Option.isSome_iff_exists.1 hs) hv).next
  | makeFunc fn first captured =>
    simp only at hl ⊢
    split at hl
    case h_2 => cases hl
    cases hl
    refine ⟨_, C, w, rfl, .refl h, ?_⟩
    simp only [AVal, AR]
    refine ⟨first.toList.map a.eval, captured.toList.map a.eval, by simp [← Array.toList_map], AVs.map _ _ ev _, AVs.map _ _ ev _⟩
  | makeMap t r =>
    simp only [Option.ite_none_right_eq_some] at hl ⊢
    obtain ⟨hr, hl⟩ := hl
    split at hl
    case h_2 => cases hl
    rename_i kt vt c b z hty
    cases hl
    refine (makeMap_ok hE h hty ?_).next
    intro v hv
    cases r with
    | none => cases hv
    | some x =>
      cases hv
      obtain ⟨i, hi⟩ := Option.isSome_iff_exists.1 hr
      obtain ⟨k, hk⟩ := intA_ok (ev x) hi
      exact ⟨k, i, hk⟩
  | makeSlice t l c =>
    simp only [Option.bind_eq_some_iff] at hl ⊢
    obtain ⟨et, het, hl⟩ := hl
    split at hl
    case h_2 => cases hl
    rename_i k1 n k2 m z e1 e2 e3
    simp only [Option.ite_none_right_eq_some, Option.some.injEq, Prod.mk.injEq] at hl
    obtain ⟨hc, rfl, rfl⟩ := hl
    have h1 := ev l; rw [e1, AVal.int] at h1
    have h2 := ev c; rw [e2, AVal.int] at h2
    rw [h1, h2]
    exact (makeSlice_ok hE h het e3 hc).next
  | slice t x lo hi mx =>
    simp only [Option.bind_eq_some_iff, Option.map_eq_some_iff, Prod.mk.injEq] at hl ⊢
    obtain ⟨l, h1, hh, h2, m, h3, v', hv, rfl, rfl⟩ := hl
    exact (slice_ok hE h (ev x) (opt _ _ h1) (opt _ _ h2) (opt _ _ h3) hv).next
  | fieldAddr s x f =>
    simp only [Option.map_eq_some_iff, Prod.mk.injEq] at hl ⊢
    obtain ⟨v', hv, rfl, rfl⟩ := hl
    exact (fieldAddr_ok hE h (ev x) hv).next
  | field t x f =>
    simp only [Option.map_eq_some_iff, Prod.mk.injEq] at hl ⊢
    obtain ⟨v', hv, rfl, rfl⟩ := hl
    exact (field_ok hE h (ev x) hv).next
  | indexAddr t x ix =>
    simp only [Option.bind_eq_some_iff, Option.map_eq_some_iff, Prod.mk.injEq] at hl ⊢
    obtain ⟨i, hi, v', hv, rfl, rfl⟩ := hl
    obtain ⟨k, hk⟩ := intA_ok (ev ix) hi
    rw [hk]
    exact (indexAddr_ok hE h (ev x) hv).next
  | index t x ix =>
    simp only [Option.bind_eq_some_iff, Option.map_eq_some_iff, Prod.mk.injEq] at hl ⊢
    obtain ⟨i, hi, v', hv, rfl, rfl⟩ := hl
    obtain ⟨k, hk⟩ := intA_ok (ev ix) hi
    rw [hk]
    exact (index_ok hE h (ev x) hv).next
  | lookup t x ix b =>
    simp only [Option.map_eq_some_iff, Prod.mk.injEq] at hl ⊢
    obtain ⟨v', hv, rfl, rfl⟩ := hl
    exact (lookup_ok hE ok.has h (ev x) (ev ix) hv).next
  | makeInterface t x =>
    simp only at hl ⊢
    split at hl
    · cases hl
    · rename_i ty hni hty
      cases hl
      have hd := (hE.ty t ty hty).desc
      refine (ValOK.same h (rv := .iface t (a.eval x)) ?_ ?_).next
      · unfold Go.Instr.makeInterface
        cases hk : ty.k <;> rw [hk] at hd <;> simp only [DescOK] at hd
        case iface => obtain ⟨k, c, b, z⟩ := ty; cases hk; exact (hni c b z rfl).elim
        case other =>
          obtain ⟨d, hd, _, _, h3⟩ := hd
          rw [bind_ok (run_underlying hd)]
          cases d <;> first | rfl | (exact absurd rfl (h3 _))
        case struct fs => obtain ⟨fa, hd, _⟩ := hd; rw [bind_ok (run_underlying hd)]; rfl
        case func => obtain ⟨_, _, _, hd⟩ := hd; rw [bind_ok (run_underlying hd)]; rfl
        all_goals (rw [bind_ok (run_underlying hd)]; rfl)
      · simp only [AVal, AR]
        exact ⟨_, rfl, ev x⟩
    · cases hl
  | extract t ix =>
    simp only at hl ⊢
    split at hl
    case h_2 => cases hl
    rename_i vs ht
    simp only [Option.map_eq_some_iff, Prod.mk.injEq] at hl ⊢
    obtain ⟨v', hv, rfl, rfl⟩ := hl
    have hx := ev t
    rw [ht] at hx
    simp only [AVal, AR] at hx
    obtain ⟨_, ws, hw, hws⟩ := hx
    obtain ⟨rv, h1, h2⟩ := AVs.get ix _ hws hv
    have hev : a.eval t = .tuple ws.toArray := by simpa using hw
    rw [hev]
    refine (ValOK.same h (rv := rv) ?_ h2).next
    unfold Go.Instr.extract
    simp only [List.getElem?_toArray, h1]
    rfl
  | call c =>
    obtain ⟨callee, args, argTypes⟩ := c
    cases callee with
    | builtin b =>
      simp only at hl ⊢
      split at hl
      case h_2 => cases hl
      rename_i x t ha hb
      simp only [Option.ite_none_right_eq_some, Option.map_eq_some_iff, Prod.mk.injEq] at hl
      obtain ⟨hok, n, hn, rfl, rfl⟩ := hl
      obtain ⟨args⟩ := args
      obtain ⟨argTypes⟩ := argTypes
      simp only at ha hb
      subst ha hb
      obtain ⟨rv, C', w', g1, g2, g3⟩ := len_ok hE h (ev x) hok hn o.type
      refine ⟨rv, C', w', ?_, g2, g3⟩
      rw [bind_ok (run_resolve_builtin a.eval .len _ _ o.type)]
      refine run_value (s := Go.Builtin.len_ #[t] o.type _) ?_
      simpa using g1
    | _ => simp at hc
  | _ => cases hl

end
end Ev

/- Calls. -/
namespace Ev
open Go (Value Addr Fn IntKind World Sem Program Operand Oper Result Act Ending Fence CallsIn RoundIn)

/-- The result is what the evaluator says. -/
def ResOK (C : Cx) : Res → Ending → Prop
  | .ret x, .returned v => AVal C x v
  | .panic x, .panicked ch => ∃ v, ch = [{ v, recovered := false }] ∧ AVal C x v
  | _, _ => False

def Res.ren (ρ : Nat → Option Nat) : Res → Res
  | .ret x => .ret (x.ren ρ)
  | .panic x => .panic (x.ren ρ)

theorem ResOK.ren {C C' : Cx} {ρ : Nat → Option Nat} (h : RenOK C ρ C') {r : Res} {e : Ending} (hr : ResOK C r e) : ResOK C' (r.ren ρ) e := by
  cases r <;> cases e <;> simp only [ResOK, Res.ren] at hr ⊢
  · exact AR.ren h true _ _ hr
  · obtain ⟨v, h1, h2⟩ := hr; exact ⟨v, h1, AR.ren h true _ _ h2⟩

/-- What a call leaves. -/
def Post (E : Env) (P : Program) (C : Cx) (w : World) (r : Res) (H' : Heap) (e : Ending) (w' : World) : Prop :=
  ∃ C', Ok E P C' w' ∧ Ext C w C' w' ∧ C'.H = H' ∧ ResOK C' r e

structure KSound (E : Env) (P : Program) (K : Sem') : Prop where
  fn : ∀ f args H r H' C w (vs : List Value), K (.f f) args H = some (r, H') → Ok E P C w → C.H = H → AVs C args vs →
    (∃ F c, P.funcs[f]? = some F ∧ F.name ≠ "runtime.NumGoroutine" ∧ F.body = some c) ∧ CallsIn Fence.wide 0 P f vs.toArray w (Post E P C w r H')
  yld : ∀ l args H r H' C w (vs : List Value) blk off cap, K (.y l) args H = some (r, H') → Ok E P C w → C.H = H → AVs C args vs → C.ι l = some (.at blk off cap) →
    ∃ rec, w.heap[blk]? = some (.loop rec) ∧ vs.length = rec.params.size ∧
      RoundIn Fence.wide 0 P blk rec.fn ((rec.params.zip vs.toArray).foldl (fun tmps (t, a) => tmps.setIfInBounds t a) rec.tmps) rec.assign rec.body w (Post E P C w r H')

section
variable {P : Program} {w : World}

theorem AVs.p {C D : Cx} (h : C.M = D.M) : ∀ (ds : List PD) (vs : List Value), AVs C (ds.map .p) vs → AVs D (ds.map .p) vs
  | [], vs, hv => by simpa [AVs] using hv
  | d :: ds, vs, hv => by
    simp only [List.map_cons, AVs] at hv ⊢
    obtain ⟨v, r, h1, h2, h3⟩ := hv
    exact ⟨v, r, h1, by have h2 : AVal C (.p d) v := h2; show AVal D (.p d) v; rw [AVal.p] at h2 ⊢; rw [← h]; exact h2, AVs.p h ds r h3⟩

theorem PVal.ofFlat {M M' : Mem} {d : PD} {v : Value} (hf : d.flat = true) (h : PVal M d v) : PVal M' d v := by
  unfold PVal at *
  split
  · rename_i hc
    simp only [hc, if_true] at h
    obtain ⟨c, h1, h2⟩ := h
    exact ⟨c, h1, PRep.ofFlat d _ hf h2⟩
  · rename_i hc
    simp only [hc] at h
    exact PRep.ofFlat d _ hf h

theorem AVs.ofFlat {C D : Cx} : ∀ (fs : List AV) (vs : List Value), (fs.all fun | .p d => d.flat | _ => false) = true → AVs C fs vs → AVs D fs vs
  | [], vs, _, hv => by simpa [AVs] using hv
  | f :: fs, vs, hf, hv => by
    simp only [List.all_cons, Bool.and_eq_true] at hf
    simp only [AVs] at hv ⊢
    obtain ⟨v, r, h1, h2, h3⟩ := hv
    refine ⟨v, r, h1, ?_, AVs.ofFlat fs r hf.2 h3⟩
    cases f with
    | p d => have h2 : AVal C (.p d) v := h2; show AVal D (.p d) v; rw [AVal.p] at h2 ⊢; exact h2.ofFlat hf.1
    | _ => simp at hf

theorem AVal.ofFlat {C D : Cx} {x : AV} {v : Value} (hf : x.flat = true) (h : AVal C x v) : AVal D x v := by
  cases x with
  | p d => rw [AVal.p] at h ⊢; exact h.ofFlat hf
  | tup vs =>
    simp only [AVal, AR] at h ⊢
    obtain ⟨h0, ws, h1, h2⟩ := h
    exact ⟨h0, ws, h1, AVs.ofFlat vs ws hf h2⟩
  | _ => simp [AV.flat] at hf

theorem Heap.elems_seal (H : Heap) (bs : List Nat) (b : Nat) (π : List Stp) (e lo len : Nat) : (H.shut bs).elems b π e lo len = H.elems b π e lo len := by
  unfold Heap.elems
  rw [Heap.seal_get]
  by_cases h : b ∈ bs
  · rw [if_pos h]
    cases H[b]? with
    | none => rfl
    | some o => cases o <;> cases π <;> rfl
  · rw [if_neg h]

mutual
theorem freeze_seal (H : Heap) (bs : List Nat) : ∀ v : AV, freeze (H.shut bs) v = freeze H v
  | .p d => by simp [freeze]
  | .agg sz fs => by simp [freeze, freezes_seal H bs fs]
  | .own b lo => by
    simp only [freeze]
    rw [Heap.seal_get]
    by_cases h : b ∈ bs
    · rw [if_pos h]
      cases H[b]? with
      | none => rfl
      | some o => cases o <;> rfl
    · rw [if_neg h]
  | .win b π e lo len cap ex => by simp only [freeze, Heap.elems_seal]
  | .clo fn a b => by cases a <;> cases b <;> simp [freeze]
  | .nils e => by simp [freeze]
  | .unk | .ref .. | .pp _ | .nilp | .map _ | .nilm | .anyb | .yld _ | .iface .. | .tup _ => by simp [freeze]
theorem freezes_seal (H : Heap) (bs : List Nat) : ∀ l : List AV, freezes (H.shut bs) l = freezes H l
  | [] => by simp [freezes]
  | f :: l => by simp [freezes, freeze_seal H bs f, freezes_seal H bs l]
end

theorem AV.ren_flat (ρ : Nat → Option Nat) {x : AV} (h : x.flat = true) : x.ren ρ = x := by
  cases x with
  | p d => rfl
  | tup vs =>
    simp only [AV.flat] at h
    simp only [AV.ren, AV.tup.injEq]
    induction vs with
    | nil => rfl
    | cons f vs ih =>
      simp only [List.all_cons, Bool.and_eq_true] at h
      simp only [AV.rens, ih h.2]
      cases f <;> simp at h ⊢
      rfl
  | _ => simp [AV.flat] at h

/-- A call whose arguments are data: the callee works on memory of its own. -/
theorem iso_call {E : Env} {C : Cx} {K : Sem'} (hK : KSound E P K) (ok : Ok E P C w) {f : Nat} {ds : List PD} {vs : List Value} {r : Res} {H1 : Heap} (ha : AVs C (ds.map .p) vs) (hc : K (.f f) (ds.map .p) [] = some (r, H1)) :
    (∃ F c, P.funcs[f]? = some F ∧ F.name ≠ "runtime.NumGoroutine" ∧ F.body = some c) ∧
    CallsIn Fence.wide 0 P f vs.toArray w fun e w' => ∃ C', Calm C w C' w' (H1.map (Obj.ren (shiftBy C.H.length))) ∧ ResOK C' (r.ren (shiftBy C.H.length)) e := by
  have h := ok.sim
  let C0 : Cx := ⟨C.M, fun _ => none, [], C.has⟩
  have h0 : Sim C0 w := ⟨h.agree, fun b loc hb => (by cases hb), fun _ _ _ _ _ _ _ hb => (by cases hb), fun _ _ _ _ _ hb => (by cases hb), fun _ _ _ _ _ hb => (by cases hb), fun _ _ _ _ _ _ hb => (by cases hb)⟩
  have ok0 : Ok E P C0 w := ⟨ok.env, ok.has, ok.glob, h0⟩
  obtain ⟨hbody, hcall⟩ := hK.fn f _ _ r H1 C0 w vs hc ok0 rfl (AVs.p (C := C) (D := C0) rfl _ _ ha)
  refine ⟨hbody, hcall.mono ?_⟩
  rintro e w' ⟨C1, ok1, hx, hH, hr⟩
  have h1 := ok1.sim
  have hn0 : ∀ blk, ¬ owned C0.ι blk := by rintro blk ⟨b, off, cap, hb⟩; cases hb
  let n := C.H.length
  let C' : Cx := ⟨C1.M, fun b => if b < n then C.ι b else C1.ι (b - n), C.H ++ C1.H.map (Obj.ren (shiftBy n)), C.has⟩
  have hlow : ∀ b, b < n → C'.H[b]? = C.H[b]? := fun b hb => List.getElem?_append_left hb
  have hhigh : ∀ b, C'.H[n + b]? = (C1.H[b]?).map (Obj.ren (shiftBy n)) := fun b => by
    show (C.H ++ C1.H.map (Obj.ren (shiftBy n)))[n + b]? = _
    rw [List.getElem?_append_right (by omega)]
    simp [n]
  have hlen : C'.H.length = n + C1.H.length := by simp [C', n]
  have hsame : C1.has = C'.has := hx.le.same
  have rD : RenOK C some C' := by
    refine ⟨hx.le.mem, rfl, fun b c hbc hb => ?_⟩
    cases hbc
    refine ⟨by rw [hlen]; omega, fun loc hl => by simpa [C', n, hb] using hl, C.H[b], C.H[b], by simp [hb], by rw [hlow b hb]; simp [hb], rfl, rfl⟩
  have rG : RenOK C1 (shiftBy n) C' := by
    refine ⟨fun _ _ _ h => h, hsame.symm, fun b c hbc hb => ?_⟩
    simp only [shiftBy, Option.some.injEq] at hbc
    subst hbc
    refine ⟨by rw [hlen]; omega, fun loc hl => by simpa [C', show ¬ n + b < n from by omega] using hl, C1.H[b], (C1.H[b]).ren (shiftBy n), by simp [hb], by rw [hhigh]; simp [hb], Obj.ren_alive _ _, Obj.ren_rowLen _ _⟩
  have hnew : ∀ b o v, C1.M b o = some v → C.M b o = some v ∨ w.heap.size ≤ b := fun b o v hv => by
    rcases hx.newmem b o v hv with k | k | k
    · exact .inl k
    · exact (hn0 _ k).elim
    · exact .inr k
  have hframe : ∀ blk, blk < w.heap.size → w'.heap[blk]? = w.heap[blk]? := fun blk hb => hx.frame blk hb (hn0 blk)
  have hnewloc : ∀ b blk off cap, C1.ι b = some (.at blk off cap) → w.heap.size ≤ blk := fun b blk off cap hb => by
    rcases hx.own blk ⟨b, off, cap, hb⟩ with k | k
    · exact (hn0 _ k).elim
    · exact k
  have hsim : Sim C' w' := by
    refine Sim.merge h h1 rfl rD rG hnew hframe fun b loc hb => ?_
    by_cases hbn : b < n
    · left; exact ⟨by simpa [C', hbn] using hb, hlow b hbn⟩
    · right
      obtain ⟨c, rfl⟩ : ∃ c, b = n + c := ⟨b - n, by omega⟩
      have hb' : C1.ι c = some loc := by simpa [C', show ¬ n + c < n from by omega] using hb
      refine ⟨c, hb', hhigh c, fun blk off cap e => hnewloc c blk off cap (by rw [← e]; exact hb'), rfl⟩
  refine ⟨C', ⟨hsim, by simp [C', hH, n], fun b hb => by simp [C', n, hb], hx.le.mem, hnew, fun b blk off cap hb hi => ?_, hframe, hx.grow, rfl, hx.quiet⟩, ?_⟩
  · refine hnewloc (b - n) blk off cap ?_
    have : ¬ b < n := by simp only [n]; omega
    simpa [C', this] using hi
  · exact hr.ren rG


/-- All functions are let in. -/
def Wide (F : Fence) : Prop := ∃ ro, F = { Fence.wide with round := ro }

theorem Wide.calls {F : Fence} (hF : Wide F) {f : Nat} {args : Array Value} {R : Ending → World → Prop} (h : CallsIn Fence.wide 0 P f args w R) : CallsIn F 0 P f args w R := by
  obtain ⟨ro, rfl⟩ := hF; exact h

theorem Wide.round {F : Fence} (hF : Wide F) {l f : Nat} {tmps : Array Value} {x y : Go.Code} {R : Ending → World → Prop} (h : RoundIn Fence.wide 0 P l f tmps x y w R) : RoundIn F 0 P l f tmps x y w R := by
  obtain ⟨ro, rfl⟩ := hF; exact h

theorem Wide.fn {F : Fence} (hF : Wide F) (f : Nat) : F.fn f := by obtain ⟨ro, rfl⟩ := hF; trivial
theorem Wide.depth {F : Fence} (hF : Wide F) (n : Nat) : F.depth.isSome = true → 1 ≤ n := by obtain ⟨ro, rfl⟩ := hF; intro h; cases h

theorem wpIn_of {F : Fence} (hF : Wide F) {o : Oper} {a : Act} {next : Act → World → Prop} {Q : Go.Exit → Act → World → Prop} (hd : ∀ c, o.op ≠ .defer c)
    (h : o.uponIn F 0 P a next Q ((Go.execOp a.eval o).run P w)) : o.wpIn F 0 P a w next Q :=
  ⟨fun f _ => hF.fn f, by rw [Oper.semAt_eq _ _ _ hd]; exact h⟩

theorem args_ok {E : Env} {C : Cx} {tmps : List AV} {a : Act} (ev : ∀ x, AVal C (E.opnd tmps x) (a.eval x)) {args : Array Operand} {ats : Array Nat} {as : List AV}
    (h : E.args (E.opnd tmps) args ats = some as) : AVs C as (args.toList.map a.eval) := by
  unfold Env.args at h
  simp only [Option.ite_none_right_eq_some, Option.some.injEq] at h
  obtain ⟨hl, rfl⟩ := h
  obtain ⟨args⟩ := args
  obtain ⟨ats⟩ := ats
  simp only [List.size_toArray] at hl
  show AVs C ((args.zip ats).map _) (args.map a.eval)
  induction args generalizing ats with
  | nil => simp [AVs]
  | cons x args ih =>
    cases ats with
    | nil => simp at hl
    | cons t ats =>
      simp only [List.zip_cons_cons, List.map_cons, AVs]
      exact ⟨_, _, rfl, fixNil_ok (ev x), ih ats (by simpa using hl)⟩

/-- What a call of a function's value asks for. -/
theorem run_call {o : Oper} {ρ : Operand → Value} {g : Operand} {args : Array Operand} {ats : Array Nat} (ho : o.op = .call ⟨.value g, args, ats⟩) {f : Nat} {first cap : Array Value} (hg : ρ g = .func (.func f) first cap)
    (hb : ∃ F c, P.funcs[f]? = some F ∧ F.name ≠ "runtime.NumGoroutine" ∧ F.body = some c) :
    (Go.execOp ρ o).run P w = .ok (.enter f (first ++ args.map ρ ++ cap)) w := by
  obtain ⟨F, c, h1, h2, h3⟩ := hb
  unfold Go.execOp
  rw [ho]
  simp only
  rw [bind_ok (a := { target := .fn (.func f) cap, args := first ++ args.map ρ }) (w' := w) (by simp only [Go.resolve, Go.Deferred.ofValue, hg]; rfl)]
  simp only [Go.invoke, Go.callFunc]
  rw [bind_ok run_program]
  simp only [h1, h3, Option.isNone_some, Bool.false_eq_true, if_false]
  have : (F.name == "runtime.NumGoroutine") = false := by simpa using h2
  simp only [this, Bool.false_eq_true, if_false]
  rfl

/-- A step of the machine as the evaluator has it. -/
def CalmStep (F : Fence) (P : Program) (C : Cx) (w : World) (a : Act) (o : Oper) (v : AV) (new : List Obj) : Prop :=
  ∀ (next : Act → World → Prop) (Q : Go.Exit → Act → World → Prop), (∀ C' w' rv, Calm C w C' w' new → AVal C' v rv → next (a.put o.dst rv) w') → o.wpIn F 0 P a w next Q

theorem calmStep_ok {F : Fence} (hF : Wide F) {E : Env} {C : Cx} {K : Sem'} (hK : KSound E P K) (ok : Ok E P C w) {tmps : List AV} {a : Act} (hs : SlotsOK C tmps a.tmps) {o : Oper} {v : AV} {new : List Obj}
    (hl : E.calm K tmps C.H o = some (v, new)) : CalmStep F P C w a o v new := by
  intro next Q hn
  have hd : ∀ c, o.op ≠ .defer c := by
    intro c hc
    unfold Env.calm at hl
    rw [hc] at hl
    cases hl
  refine wpIn_of hF hd ?_
  cases hc : isCall o with
  | false =>
    obtain ⟨rv, C', w', h1, h2, h3⟩ := calm_ok ok hs hc hl
    rw [h1]
    exact hn C' w' rv h2 h3
  | true =>
    have ev : ∀ x, AVal C (E.opnd tmps x) (a.eval x) := opnd_ok ok.glob hs
    unfold Env.calm at hl
    unfold isCall at hc
    generalize ho : o.op = op at hl hc
    cases op with
    | call c =>
      obtain ⟨callee, args, ats⟩ := c
      cases callee with
      | builtin b => simp at hc
      | invoke r nm => simp at hl
      | value g =>
        simp only [Option.bind_eq_some_iff] at hl
        obtain ⟨as, has, hl⟩ := hl
        split at hl
        case h_2 => cases hl
        rename_i f hg
        split at hl
        · cases hl
        simp only [Option.bind_eq_some_iff] at hl
        obtain ⟨ds, hds, ⟨r, H1⟩, hr, hl⟩ := hl
        have hgv : a.eval g = .func (.func f) #[] #[] := by
          have := ev g
          rw [hg] at this
          simpa [AVal, AR, PD.isAgg, PRep] using this
        have hargs := args_ok ev has
        have hvs : (#[] ++ args.map a.eval ++ #[] : Array Value) = (args.toList.map a.eval).toArray := by simp [← Array.toList_map]
        cases r with
        | panic x => cases hl
        | ret x =>
        simp only at hl
        split at hl
        · -- plain data comes back: the arguments are sealed for the call alone
          rename_i hflat
          cases hl
          obtain ⟨M1, s1, s2, s3, s4⟩ := ok.sim.shut (AV.leanss as)
          have ok1 : Ok E P ⟨M1, C.ι, C.H.shut (AV.leanss as), C.has⟩ w := ⟨ok.env, ok.has, ok.glob.mono s2, s1⟩
          have hds1 := freezes_vals s1 as ds _ (allSealed_seal _ _) (by rw [freezes_seal]; exact hds) (AVs.mono s4 _ _ hargs)
          obtain ⟨hb, hcall⟩ := iso_call hK ok1 hds1 hr
          rw [run_call ho hgv hb, hvs]
          refine ⟨hF.depth _, hF.calls (hcall.mono ?_)⟩
          rintro e w' ⟨C', hcalm, hres⟩
          cases e with
          | returned rv =>
            simp only [Res.ren, ResOK] at hres
            rw [AV.ren_flat _ hflat] at hres
            refine hn C w' rv ⟨ok.sim.same hcalm.frame, by simp, fun _ _ => rfl, fun _ _ _ h => h, fun _ _ _ h => .inl h, fun b blk off cap hb hi => absurd (ok.sim.idlt hi) (by omega), hcalm.frame, hcalm.grow, rfl, hcalm.quiet⟩ (hres.ofFlat hflat)
          | panicked ch => simp [ResOK, Res.ren] at hres
          | outgrown => simp [ResOK, Res.ren] at hres
        · -- what comes back leans on memory of its own
          split at hl
          case isFalse => cases hl
          rename_i hle
          cases hl
          have hle : AV.leanss as = [] := by simpa using hle
          have hds1 := freezes_vals ok.sim as ds _ (by rw [hle]; intro b hb; cases hb) hds hargs
          obtain ⟨hb, hcall⟩ := iso_call hK ok hds1 hr
          rw [run_call ho hgv hb, hvs]
          refine ⟨hF.depth _, hF.calls (hcall.mono ?_)⟩
          rintro e w' ⟨C', hcalm, hres⟩
          cases e with
          | returned rv => exact hn C' w' rv hcalm hres
          | panicked ch => simp [ResOK, Res.ren] at hres
          | outgrown => simp [ResOK, Res.ren] at hres
    | _ => simp at hc

end
end Ev

/- Every operation. -/
namespace Ev
open Go (Value Addr Fn IntKind World Sem Program Operand Oper Result Act Ending Fence CallsIn RoundIn Exit)

section
variable {P : Program} {w : World}

theorem AVs.append {C : Cx} : ∀ {fs gs : List AV} {vs us : List Value}, AVs C fs vs → AVs C gs us → AVs C (fs ++ gs) (vs ++ us)
  | [], gs, vs, us, h, h' => by simp only [AVs] at h; subst h; exact h'
  | f :: fs, gs, vs, us, h, h' => by
    simp only [AVs] at h
    obtain ⟨v, r, rfl, h1, h2⟩ := h
    simp only [List.cons_append, AVs]
    exact ⟨v, _, rfl, h1, AVs.append h2 h'⟩

/-- A step as the evaluator has it. -/
def RunStep (F : Fence) (E : Env) (P : Program) (C : Cx) (w : World) (a : Act) (o : Oper) (r : Res) (H' : Heap) : Prop :=
  ∀ (next : Act → World → Prop) (Q : Exit → Act → World → Prop),
    (∀ C' w', Ok E P C' w' → Ext C w C' w' → C'.H = H' →
      match r with
      | .ret v => ∀ rv, AVal C' v rv → next (a.put o.dst rv) w'
      | .panic v => ∀ rv, AVal C' v rv → Q (.panic [{ v := rv, recovered := false }]) a w') → o.wpIn F 0 P a w next Q

theorem RunStep.of_step {F : Fence} (hF : Wide F) {E : Env} {C : Cx} (ok : Ok E P C w) {a : Act} {o : Oper} {s : Sem Unit} {H' : Heap} (hd : ∀ c, o.op ≠ .defer c)
    (he : Go.execOp a.eval o = (do s; Pure.pure .skip)) (hs : StepOK P C w s H') : RunStep F E P C w a o (.ret .unk) H' := by
  intro next Q hn
  obtain ⟨C', w', h1, h2, h3, h4⟩ := hs
  refine wpIn_of hF hd ?_
  have : (Go.execOp a.eval o).run P w = .ok .skip w' := by rw [he, bind_ok h1]; rfl
  rw [this]
  exact hn C' w' (ok.next h2 h3) h3 h4 _ AVal.unk

theorem RunStep.of_val {F : Fence} (hF : Wide F) {E : Env} {C : Cx} (ok : Ok E P C w) {a : Act} {o : Oper} {s : Sem Value} {v : AV} {H' : Heap} (hd : ∀ c, o.op ≠ .defer c)
    (he : (Go.execOp a.eval o).run P w = (do Pure.pure (Go.Next.value (← s)) : Sem Go.Next).run P w) (hs : StepVal P C w s v H') : RunStep F E P C w a o (.ret v) H' := by
  intro next Q hn
  obtain ⟨rv, C', w', h1, h2, h3, h4, h5⟩ := hs
  refine wpIn_of hF hd ?_
  rw [he, run_value h1]
  exact hn C' w' (ok.next h2 h3) h3 h4 _ h5

theorem RunStep.of_call {F : Fence} (hF : Wide F) {E : Env} {C : Cx} {a : Act} {o : Oper} {r : Res} {H' : Heap} (hd : ∀ c, o.op ≠ .defer c) {f : Nat} {vs : Array Value}
    (he : (Go.execOp a.eval o).run P w = .ok (.enter f vs) w) (hs : CallsIn Fence.wide 0 P f vs w (Post E P C w r H')) : RunStep F E P C w a o r H' := by
  intro next Q hn
  refine wpIn_of hF hd ?_
  rw [he]
  refine ⟨hF.depth _, hF.calls (hs.mono ?_)⟩
  rintro e w' ⟨C', ok', hx, hH, hr⟩
  have := hn C' w' ok' hx hH
  cases r <;> cases e <;> simp only [ResOK] at hr
  · exact this _ hr
  · obtain ⟨v, rfl, hv⟩ := hr; exact this v hv

theorem run_yieldCall {o : Oper} {ρ : Operand → Value} {g : Operand} {args : Array Operand} {ats : Array Nat} (ho : o.op = .call ⟨.value g, args, ats⟩) {l : Nat} (hg : ρ g = .func (.yield l) #[] #[])
    {rec : Go.Loop} (hl : w.heap[l]? = some (.loop rec)) (hs : (args.map ρ).size = rec.params.size) :
    (Go.execOp ρ o).run P w = .ok (.round l rec.fn ((rec.params.zip (args.map ρ)).foldl (fun tmps (t, a) => tmps.setIfInBounds t a) rec.tmps) rec.assign rec.body) w := by
  unfold Go.execOp
  rw [ho]
  simp only
  rw [bind_ok (a := { target := .fn (.yield l) #[], args := #[] ++ args.map ρ }) (w' := w) (by simp only [Go.resolve, Go.Deferred.ofValue, hg]; rfl)]
  simp only [Go.invoke]
  rw [Array.empty_append]
  exact Go.run_yield hl hs

theorem run0_ok {F : Fence} (hF : Wide F) {E : Env} {C : Cx} {K : Sem'} (hK : KSound E P K) (ok : Ok E P C w) {tmps : List AV} {a : Act} (hs : SlotsOK C tmps a.tmps) {o : Oper} {r : Res} {H' : Heap}
    (hl : E.run0 K tmps C.H o = some (r, H')) : RunStep F E P C w a o r H' := by
  have ev : ∀ x, AVal C (E.opnd tmps x) (a.eval x) := opnd_ok ok.glob hs
  have calm : (E.calm K tmps C.H o).map (fun r => (Res.ret r.1, C.H ++ r.2)) = some (r, H') → RunStep F E P C w a o r H' := by
    intro h
    simp only [Option.map_eq_some_iff, Prod.mk.injEq] at h
    obtain ⟨⟨v, new⟩, h1, rfl, rfl⟩ := h
    intro next Q hn
    refine calmStep_ok hF hK ok hs h1 next Q fun C' w' rv hc hv => ?_
    exact hn C' w' (ok.next hc.sim hc.ext) hc.ext hc.heap rv hv
  have open_ : ∀ {f : Nat} {g : Operand} {args : Array Operand} {ats : Array Nat} {as first cap : List AV} {vf vc : List Value}, o.op = .call ⟨.value g, args, ats⟩ → E.args (E.opnd tmps) args ats = some as →
      a.eval g = .func (.func f) vf.toArray vc.toArray → AVs C first vf → AVs C cap vc → K (.f f) (first ++ as ++ cap) C.H = some (r, H') → RunStep F E P C w a o r H' := by
    intro f g args ats as first cap vf vc ho has hg h1 h2 hr
    obtain ⟨hb, hcall⟩ := hK.fn f _ _ r H' C w (vf ++ args.toList.map a.eval ++ vc) hr ok rfl (AVs.append (AVs.append h1 (args_ok ev has)) h2)
    refine .of_call hF (by rw [ho]; intro c hc; cases hc) (run_call ho hg hb) ?_
    have : vf.toArray ++ args.map a.eval ++ vc.toArray = (vf ++ args.toList.map a.eval ++ vc).toArray := by simp [← Array.toList_map]
    rw [this]
    exact hcall
  unfold Env.run0 at hl
  generalize ho : o.op = op at hl
  cases op with
  | store t x y =>
    simp only [Option.map_eq_some_iff, Prod.mk.injEq] at hl
    obtain ⟨H1, h1, rfl, rfl⟩ := hl
    refine .of_step hF ok (by rw [ho]; intro c hc; cases hc) (s := Go.Instr.storeAt t (a.eval x) (a.eval y)) (by unfold Go.execOp; rw [ho]) (store_ok ok.env ok.sim (ev x) (fixNil_ok (ev y)) h1)
  | mapUpdate t m k x =>
    simp only [Option.map_eq_some_iff, Prod.mk.injEq] at hl
    obtain ⟨H1, h1, rfl, rfl⟩ := hl
    refine .of_step hF ok (by rw [ho]; intro c hc; cases hc) (s := Go.Instr.mapUpdate t (a.eval m) (a.eval k) (a.eval x)) (by unfold Go.execOp; rw [ho]) (mapPut_ok ok.env ok.has ok.sim (ev m) (ev k) (ev x) h1)
  | panic x => cases hl
  | call c =>
    obtain ⟨callee, args, ats⟩ := c
    cases callee with
    | invoke r nm => exact calm hl
    | builtin b =>
      cases b with
      | append =>
        simp only at hl
        split at hl
        case h_2 => cases hl
        rename_i s x st xt e1 e2
        simp only [Option.map_eq_some_iff, Prod.mk.injEq] at hl
        obtain ⟨⟨v, H1⟩, h1, rfl, rfl⟩ := hl
        obtain ⟨args⟩ := args
        obtain ⟨ats⟩ := ats
        simp only at e1 e2
        subst e1 e2
        refine .of_val hF ok (by rw [ho]; intro c hc; cases hc) (s := Go.Builtin.append_ #[st, xt] o.type #[a.eval s, a.eval x]) ?_ (appendA_ok ok.env ok.sim (fixNil_ok (ev s)) (fixNil_ok (ev x)) h1)
        unfold Go.execOp
        rw [ho]
        simp only
        rw [bind_ok (run_resolve_builtin a.eval .append _ _ o.type)]
        simp [Go.invoke, Go.builtin]
      | cap =>
        simp only at hl
        split at hl
        case h_2 => cases hl
        rename_i x t e1 e2
        split at hl
        case h_2 => cases hl
        rename_i e' c' b' z' e0 hty hnil
        cases hl
        obtain ⟨args⟩ := args
        obtain ⟨ats⟩ := ats
        simp only at e1 e2
        subst e1 e2
        have hx := fixNil_ok (E := E) (t := t) (ev x)
        rw [hnil] at hx
        simp only [AVal, AR] at hx
        obtain ⟨base, hx⟩ := hx
        have hx : a.eval x = .slice base 0 0 := by simpa using hx
        have hu := (ok.env.ty t _ hty).desc
        simp only [DescOK] at hu
        refine .of_val hF ok (by rw [ho]; intro c hc; cases hc) (s := Go.Builtin.cap_ #[t] o.type #[a.eval x]) ?_ ?_
        · unfold Go.execOp
          rw [ho]
          simp only
          rw [bind_ok (run_resolve_builtin a.eval .cap _ _ o.type)]
          simp [Go.invoke, Go.builtin]
        · refine ⟨.int .i64 0, C, w, ?_, ok.sim, .refl C w, rfl, AVal.int.2 rfl⟩
          rw [hx]
          unfold Go.Builtin.cap_
          simp only [List.getElem?_toArray, List.getElem?_cons_zero]
          rw [bind_ok (run_underlying hu)]; rfl
      | copy =>
        simp only at hl
        split at hl
        case h_2 => cases hl
        rename_i s x st xt e1 e2
        simp only [Option.map_eq_some_iff, Prod.mk.injEq] at hl
        obtain ⟨⟨v, H1⟩, h1, rfl, rfl⟩ := hl
        obtain ⟨args⟩ := args
        obtain ⟨ats⟩ := ats
        simp only at e1 e2
        subst e1 e2
        refine .of_val hF ok (by rw [ho]; intro c hc; cases hc) (s := Go.Builtin.copy_ #[st, xt] o.type #[a.eval s, a.eval x]) ?_ (copyA_ok ok.env ok.sim (ev s) (ev x) h1)
        unfold Go.execOp
        rw [ho]
        simp only
        rw [bind_ok (run_resolve_builtin a.eval .copy _ _ o.type)]
        simp [Go.invoke, Go.builtin]
      | _ => exact calm hl
    | value g =>
      simp only [Option.bind_eq_some_iff] at hl
      obtain ⟨as, has, hl⟩ := hl
      split at hl
      · rename_i f hg
        have hgv : a.eval g = .func (.func f) #[] #[] := by
          have := ev g
          rw [hg] at this
          simpa [AVal, AR, PD.isAgg, PRep] using this
        have openf : K (.f f) as C.H = some (r, H') → RunStep F E P C w a o r H' := fun h =>
          open_ (first := []) (cap := []) (vf := []) (vc := []) ho has (by simpa using hgv) (by simp [AVs]) (by simp [AVs]) (by simpa using h)
        split at hl
        · exact openf hl
        · split at hl
          case h_2 => exact openf hl
          rename_i ds hds
          simp only [Option.bind_eq_some_iff] at hl
          obtain ⟨⟨r1, H1⟩, hr, hl⟩ := hl
          have hvs : (#[] ++ args.map a.eval ++ #[] : Array Value) = (args.toList.map a.eval).toArray := by simp [← Array.toList_map]
          obtain ⟨M1, s1, s2, s3, s4⟩ := ok.sim.shut (AV.leanss as)
          have ok1 : Ok E P ⟨M1, C.ι, C.H.shut (AV.leanss as), C.has⟩ w := ⟨ok.env, ok.has, ok.glob.mono s2, s1⟩
          have hx1 : Ext C w ⟨M1, C.ι, C.H.shut (AV.leanss as), C.has⟩ w := ⟨s4, fun b o v hv => (s3 b o v hv).imp_right .inl, fun _ h => .inl h, fun _ _ _ => rfl, Nat.le_refl _, .refl w⟩
          have hds1 := freezes_vals s1 as ds _ (allSealed_seal _ _) (by rw [freezes_seal]; exact hds) (AVs.mono s4 _ _ (args_ok ev has))
          obtain ⟨hb, hcall⟩ := iso_call hK ok1 hds1 hr
          have hlen : (C.H.shut (AV.leanss as)).length = C.H.length := Heap.seal_length _ _
          refine RunStep.of_call hF (by rw [ho]; intro c hc; cases hc) (run_call ho hgv hb) ?_
          rw [hvs]
          refine hcall.mono ?_
          rintro e w' ⟨C', hcalm, hres⟩
          simp only [hlen] at hcalm hres
          have hheap := hcalm.heap
          have full : r = r1.ren (shiftBy C.H.length) → H' = C.H.shut (AV.leanss as) ++ H1.map (Obj.ren (shiftBy C.H.length)) → Post E P C w r H' e w' := by
            rintro rfl rfl
            exact ⟨C', ok1.next hcalm.sim hcalm.ext, hx1.trans hcalm.ext, hheap, hres⟩
          cases r1 with
          | ret x =>
            simp only at hl
            split at hl
            · rename_i hflat
              cases hl
              have hframe : ∀ blk, blk < w.heap.size → w'.heap[blk]? = w.heap[blk]? := hcalm.frame
              refine ⟨C, ok.next (ok.sim.same hframe) ?_, ?_, rfl, ?_⟩
              · exact ⟨.refl C, fun _ _ _ h => .inl h, fun _ h => .inl h, fun b hb _ => hframe b hb, hcalm.grow, hcalm.quiet⟩
              · exact ⟨.refl C, fun _ _ _ h => .inl h, fun _ h => .inl h, fun b hb _ => hframe b hb, hcalm.grow, hcalm.quiet⟩
              · cases e with
                | returned rv =>
                  simp only [Res.ren, ResOK] at hres ⊢
                  rw [AV.ren_flat _ hflat] at hres
                  exact hres.ofFlat hflat
                | panicked ch => simp [ResOK, Res.ren] at hres
                | outgrown => simp [ResOK, Res.ren] at hres
            · cases hl; exact full rfl rfl
          | panic x => cases hl; exact full rfl rfl
      · rename_i f first cap hg
        have := ev g
        rw [hg] at this
        simp only [AVal, AR] at this
        obtain ⟨vf, vc, h1, h2, h3⟩ := this
        exact open_ ho has (by simpa using h1) h2 h3 hl
      · rename_i l hg
        have := ev g
        rw [hg] at this
        simp only [AVal, AR] at this
        obtain ⟨_, gx, h1, _, h2⟩ := this
        split at hl
        case h_2 => cases hl
        rename_i ho'
        obtain ⟨blk, off, cap, k1, h4⟩ := h2 ⟨_, ho', rfl⟩
        obtain ⟨rec, k2, k3, k4⟩ := hK.yld l _ _ r H' C w (args.toList.map a.eval) blk off cap hl ok rfl (args_ok ev has) k1
        have hgv : a.eval g = .func (.yield blk) #[] #[] := by rw [← h4]; simpa using h1
        intro next Q hn
        refine wpIn_of hF (by rw [ho]; intro c hc; cases hc) ?_
        rw [run_yieldCall ho hgv k2 (by simpa using k3)]
        refine ⟨hF.depth _, hF.round ?_⟩
        have harr : (args.toList.map a.eval).toArray = args.map a.eval := by simp [← Array.toList_map]
        rw [harr] at k4
        refine k4.mono ?_
        rintro e w' ⟨C', ok', hx, hH, hr⟩
        have := hn C' w' ok' hx hH
        cases r <;> cases e <;> simp only [ResOK] at hr
        · exact this _ hr
        · obtain ⟨v, rfl, hv⟩ := hr; exact this v hv
      · cases hl
  | _ => exact calm hl

theorem ARow.data {C : Cx} {w : World} (h : Sim C w) {e : Nat} : ∀ (fs : List AV) (ds : List PD) (cs : List Value), AllSealed C.H (AV.leanss fs) → freezes C.H fs = some ds → ARow C e fs cs → PRow C.M e ds cs
  | [], ds, cs, _, hf, ha => by
    simp only [freezes, Option.some.injEq] at hf; subst hf
    simpa [ARow, PRow] using ha
  | f :: fs, ds, cs, hs, hf, ha => by
    simp only [freezes, Option.bind_eq_some_iff, Option.map_eq_some_iff] at hf
    obtain ⟨d, h1, ds', h2, rfl⟩ := hf
    simp only [ARow] at ha
    obtain ⟨c1, c2, k1, k2, k3, k4, k5⟩ := ha
    have hd := freeze_ok h false f d c1 (fun b hb => hs b (List.mem_append_left _ hb)) h1 k4
    have hp : PRep C.M d c1 := by simpa [AR] using hd
    simp only [PRow]
    exact ⟨c1, c2, k1, k2, by rw [← k2]; exact (PRep.length hp).symm, hp, ARow.data h fs ds' c2 (fun b hb => hs b (List.mem_append_right _ hb)) h2 k5⟩

theorem freezes_length {H : Heap} : ∀ {fs : List AV} {ds : List PD}, freezes H fs = some ds → ds.length = fs.length
  | [], ds, h => by simp only [freezes, Option.some.injEq] at h; subst h; rfl
  | f :: fs, ds, h => by
    simp only [freezes, Option.bind_eq_some_iff, Option.map_eq_some_iff] at h
    obtain ⟨d, _, ds', h2, rfl⟩ := h
    simp [freezes_length h2]

theorem settleO_ok {C : Cx} (h : Sim C w) (b : Nat) : ∃ C1, Sim C1 w ∧ C1.H = settleO C.H b C.H[b]? ∧ C1.ι = C.ι ∧ C1.has = C.has ∧ Ext C w C1 w := by
  unfold settleO
  split
  case h_2 => exact ⟨C, h, rfl, rfl, rfl, .refl C w⟩
  rename_i e xs hb
  split
  case h_2 => exact ⟨C, h, rfl, rfl, rfl, .refl C w⟩
  rename_i ds hds
  obtain ⟨M1, s1, s2, s3, s4⟩ := h.shut (AV.leanss xs)
  have hb1 : (C.H.shut (AV.leanss xs))[b]? = some (.mrow e xs) := by
    rw [Heap.seal_get, hb]; split <;> rfl
  have hblt : b < (C.H.shut (AV.leanss xs)).length := (List.getElem?_eq_some_iff.1 hb1).1
  have hlen := freezes_length hds
  let C1 : Cx := ⟨M1, C.ι, (C.H.shut (AV.leanss xs)).set b (.row e ds false), C.has⟩
  have hget : ∀ c, C1.H[c]? = if c = b then some (.row e ds false) else (C.H.shut (AV.leanss xs))[c]? := by
    intro c
    show ((C.H.shut (AV.leanss xs)).set b (.row e ds false))[c]? = _
    rw [List.getElem?_set]
    by_cases hc : b = c
    · subst hc; simp [hblt]
    · rw [if_neg hc, if_neg (fun e => hc e.symm)]
  have hle : Cx.le ⟨M1, C.ι, C.H.shut (AV.leanss xs), C.has⟩ C1 := by
    refine ⟨fun _ _ _ h => h, fun c hc => .inr ⟨rfl, ?_⟩, by simp [C1], rfl⟩
    by_cases hcb : c = b
    · subst hcb
      exact ⟨.mrow e xs, .row e ds false, hb1, by rw [hget, if_pos rfl], .inr (show e = e ∧ xs.length = ds.length from ⟨rfl, hlen.symm⟩)⟩
    · refine ⟨(C.H.shut (AV.leanss xs))[c], (C.H.shut (AV.leanss xs))[c], by simp [hc], by rw [hget, if_neg hcb]; simp [hc], .inl rfl⟩
  have hsim : Sim C1 w := by
    refine ⟨s1.agree, fun c loc hc => ?_, s1.sep, fun c blk off cap ob hc ho hs => ?_, fun c blk off cap ob hc ho hs => ?_, fun c blk off cap e' xs' hc ho => ?_⟩
    · obtain ⟨o, ho, hr⟩ := s1.obj c loc hc
      by_cases hcb : c = b
      · subst hcb
        simp only at ho
        rw [hb1] at ho; cases ho
        refine ⟨.row e ds false, by rw [hget, if_pos rfl], ?_⟩
        cases loc with
        | nil =>
          simp only [ObjRep] at hr ⊢
          subst hr
          simpa using hlen
        | «at» blk off cap =>
          simp only [ObjRep] at hr ⊢
          obtain ⟨cs, X, fz, g1, g2, g3, g4, g5⟩ := hr
          refine ⟨cs, X, fz, g1, g2, by omega, g4, ?_⟩
          rw [hlen]
          exact ARow.data s1 xs ds _ (allSealed_seal _ _) (by show freezes (C.H.shut (AV.leanss xs)) xs = _; rw [freezes_seal]; exact hds) g5
      · exact ⟨o, by rw [hget, if_neg hcb]; exact ho, ObjRep.ren_le hle hr⟩
    · by_cases hcb : c = b
      · subst hcb
        exact s1.open_ c blk off cap _ hc hb1 rfl
      · rw [hget, if_neg hcb] at ho
        exact s1.open_ c blk off cap ob hc ho hs
    · by_cases hcb : c = b
      · subst hcb
        rw [hget, if_pos rfl] at ho; cases ho
        simp [Obj.sealed] at hs
      · rw [hget, if_neg hcb] at ho
        exact s1.cover c blk off cap ob hc ho hs
    · by_cases hcb : c = b
      · subst hcb
        rw [hget, if_pos rfl] at ho; cases ho
      · rw [hget, if_neg hcb] at ho
        exact s1.room c blk off cap e' xs' hc ho
  exact ⟨C1, hsim, rfl, rfl, rfl, ⟨s4.trans hle, fun b o v hv => (s3 b o v hv).imp_right .inl, fun _ h => .inl h, fun _ _ _ => rfl, Nat.le_refl _, .refl w⟩⟩

theorem settles_ok : ∀ (l : List AV) {C : Cx}, Sim C w → ∃ C1, Sim C1 w ∧ C1.H = settles C.H l ∧ C1.has = C.has ∧ Ext C w C1 w
  | [], C, h => ⟨C, h, rfl, rfl, .refl C w⟩
  | v :: l, C, h => by
    have step : ∃ C1, Sim C1 w ∧ C1.H = settle C.H v ∧ C1.has = C.has ∧ Ext C w C1 w := by
      unfold settle
      split
      · obtain ⟨C1, h1, h2, _, h3, h4⟩ := settleO_ok h _
        exact ⟨C1, h1, h2, h3, h4⟩
      · exact ⟨C, h, rfl, rfl, .refl C w⟩
    obtain ⟨C1, h1, h2, h3, h4⟩ := step
    obtain ⟨C2, k1, k2, k3, k4⟩ := settles_ok l h1
    exact ⟨C2, k1, by rw [k2, h2]; rfl, k3.trans h3, h4.trans k4⟩

theorem run_ok {F : Fence} (hF : Wide F) {E : Env} {C : Cx} {K : Sem'} (hK : KSound E P K) (ok : Ok E P C w) {tmps : List AV} {a : Act} (hs : SlotsOK C tmps a.tmps) {o : Oper} {r : Res} {H' : Heap}
    (hl : E.run K tmps C.H o = some (r, H')) : RunStep F E P C w a o r H' := by
  unfold Env.run at hl
  obtain ⟨C1, h1, h2, h3, h4⟩ := settles_ok ((settleOps o).map (E.opnd tmps)) ok.sim
  rw [← h2] at hl
  intro next Q hn
  exact run0_ok hF hK (ok.next h1 h4) (hs.mono h4.le) hl next Q fun C' w' ok' hx hH => hn C' w' ok' (h4.trans hx) hH

end
end Ev

/- A frame's state; the heap swept; the ops of a region in the text's order. -/
namespace Ev
open Go (Value Addr Fn IntKind World Sem Program Operand Oper Result Act Ending Fence CallsIn RoundIn Exit Deferred)

section
variable {P : Program}

/-! ### Sweeping -/

theorem gc_ok {C : Cx} {w : World} (h : Sim C w) {base : Nat} (hb : base ≤ C.H.length) {roots : List AV} {vals : List Value} (hr : AVs C roots vals) :
    ∃ C', Sim C' w ∧ C'.M = C.M ∧ C'.has = C.has ∧ C'.H = (gc base roots C.H).2 ∧ AVs C' (gc base roots C.H).1 vals ∧ base ≤ C'.H.length ∧ (∀ blk, owned C'.ι blk → owned C.ι blk) ∧
      ∀ B w0, B.H.length = base → Ext B w0 C w → Ext B w0 C' w := by
  unfold gc
  split
  · exact ⟨C, h, rfl, rfl, rfl, hr, hb, fun _ h => h, fun _ _ _ h => h⟩
  · simp only
    generalize hseen : reach C.H base 1000 _ _ = seen
    obtain ⟨hn, hs⟩ := reach_ok C.H base 1000 ((C.H.take base).flatMap Obj.ids ++ AV.idss roots) [] List.nodup_nil (by simp)
    rw [hseen] at hn hs
    have hown : ∀ blk, owned (keepι C.ι base seen) blk → owned C.ι blk := by
      rintro blk ⟨b, off, cap, hi⟩
      obtain ⟨b', hi', _⟩ := keepι_some hi
      exact ⟨b', off, cap, hi'⟩
    have hlen : base ≤ (C.H.keep base seen).length := by unfold Heap.keep; simp [Nat.min_eq_left hb]
    refine ⟨⟨C.M, keepι C.ι base seen, C.H.keep base seen, C.has⟩, h.keep hb hn hs, rfl, rfl, rfl, AVs.ren (keep_renOK hb) _ _ hr, hlen, hown, ?_⟩
    intro B w0 hB hx
    refine ⟨⟨hx.le.mem, fun b hlt => ?_, by rw [hB]; exact hlen, hx.le.same⟩, hx.newmem, fun blk ho => hx.own blk (hown blk ho), hx.frame, hx.grow, hx.quiet⟩
    have hlt' : b < base := by rw [← hB]; exact hlt
    have hget : ∀ o, C.H[b]? = some o → (C.H.keep base seen)[b]? = some (o.ren (renOf base seen)) := fun o ho => keep_obj hb ho (.inl ⟨hlt', rfl⟩)
    rcases hx.le.stable b hlt with hd | ⟨hi, o, o', h1, h2, hl⟩
    · left; exact hget _ hd
    · right
      refine ⟨by simp only [keepι, hlt', if_true]; exact hi, o, _, h1, hget _ h2, ?_⟩
      exact Obj.like_trans hl (Obj.ren_like _ _)

/-! ### At a loop's head -/

theorem AV.own0_cells (v : AV) (n : Nat) : (v.own0 n).1.cells = v.cells := by cases v <;> simp [AV.own0, AV.cells]

mutual
theorem AV.own0_row : ∀ (v : AV) (n : Nat), ∀ o ∈ (v.own0 n).2, ∃ e, o = .row e [] false
  | .nils e, n => by simp [AV.own0]
  | .agg sz fs, n => by simp only [AV.own0]; exact AV.own0s_row fs n
  | .unk, n | .p _, n | .ref .., n | .pp _, n | .own .., n | .win .., n | .nilp, n | .map _, n | .nilm, n | .anyb, n | .clo .., n | .yld _, n | .iface .., n | .tup _, n => by simp [AV.own0]
theorem AV.own0s_row : ∀ (fs : List AV) (n : Nat), ∀ o ∈ (AV.own0s fs n).2, ∃ e, o = .row e [] false
  | [], n => by simp [AV.own0s]
  | f :: fs, n => by
    simp only [AV.own0s, List.mem_append]
    rintro o (h | h)
    · exact AV.own0_row f n o h
    · exact AV.own0s_row fs _ o h
end

/-- What is new from n on lies in D's heap, at no place. -/
def Put0 (D : Cx) (n : Nat) (new : List Obj) : Prop := ∀ i o, new[i]? = some o → D.H[n + i]? = some o ∧ D.ι (n + i) = some .nil

theorem Put0.left {D : Cx} {n : Nat} {a b : List Obj} (h : Put0 D n (a ++ b)) : Put0 D n a := fun i o hi => by
  have : i < a.length := (List.getElem?_eq_some_iff.1 hi).1
  exact h i o (by rw [List.getElem?_append_left this]; exact hi)
theorem Put0.right {D : Cx} {n : Nat} {a b : List Obj} (h : Put0 D n (a ++ b)) : Put0 D (n + a.length) b := fun i o hi => by
  have := h (a.length + i) o (by rw [List.getElem?_append_right (by omega)]; simpa using hi)
  rwa [← Nat.add_assoc] at this

mutual
theorem AR.own0 {D : Cx} (val : Bool) : ∀ (v : AV) (n : Nat) (cs : List Value), Put0 D n (v.own0 n).2 → AR D val v cs → AR D val (v.own0 n).1 cs
  | .nils e, n, cs, hp, h => by
    simp only [AR] at h
    obtain ⟨base, rfl⟩ := h
    obtain ⟨h1, h2⟩ := hp 0 (.row e [] false) rfl
    rw [Nat.add_zero] at h1 h2
    simp only [AV.own0, AR]
    refine ⟨(List.getElem?_eq_some_iff.1 h1).1, _, rfl, rfl, fun o e' m ho hr => ?_⟩
    rw [h1] at ho; cases ho
    simp only [Obj.rowLen, List.length_nil, Option.some.injEq, Prod.mk.injEq] at hr
    obtain ⟨rfl, rfl⟩ := hr
    exact ⟨.nil, h2, rfl, rfl, base, rfl⟩
  | .agg sz fs, n, cs, hp, h => by
    simp only [AV.own0, AR] at hp h ⊢
    split
    · rename_i hc; simp only [hc, if_true] at h
      obtain ⟨c, h1, h2⟩ := h; exact ⟨c, h1, ARs.own0 sz fs n _ hp h2⟩
    · rename_i hc; simp only [hc] at h; exact ARs.own0 sz fs n _ hp h
  | .unk, n, cs, _, h | .p _, n, cs, _, h | .ref .., n, cs, _, h | .pp _, n, cs, _, h | .own .., n, cs, _, h | .win .., n, cs, _, h | .nilp, n, cs, _, h | .map _, n, cs, _, h | .nilm, n, cs, _, h | .anyb, n, cs, _, h
  | .clo .., n, cs, _, h | .yld _, n, cs, _, h | .iface .., n, cs, _, h | .tup _, n, cs, _, h => by simpa only [AV.own0] using h
theorem ARs.own0 {D : Cx} : ∀ (sz : List Nat) (fs : List AV) (n : Nat) (cs : List Value), Put0 D n (AV.own0s fs n).2 → ARs D sz fs cs → ARs D sz (AV.own0s fs n).1 cs
  | [], [], n, cs, _, h => by simpa [ARs, AV.own0s] using h
  | m :: sz, f :: fs, n, cs, hp, h => by
    simp only [AV.own0s, ARs] at hp h ⊢
    obtain ⟨c1, c2, h1, h2, h3, h4, h5⟩ := h
    exact ⟨c1, c2, h1, h2, by rw [AV.own0_cells]; exact h3, AR.own0 false f n c1 hp.left h4, ARs.own0 sz fs _ c2 hp.right h5⟩
  | [], _ :: _, n, cs, _, h => by simp [ARs] at h
  | _ :: _, [], n, cs, _, h => by simp [ARs] at h
end

theorem AVs.own0 {D : Cx} : ∀ (fs : List AV) (n : Nat) (vs : List Value), Put0 D n (AV.own0s fs n).2 → AVs D fs vs → AVs D (AV.own0s fs n).1 vs
  | [], n, vs, _, h => by simpa [AVs, AV.own0s] using h
  | f :: fs, n, vs, hp, h => by
    simp only [AV.own0s, AVs] at hp h ⊢
    obtain ⟨v, r, h1, h2, h3⟩ := h
    exact ⟨v, r, h1, AR.own0 true f n _ hp.left h2, AVs.own0 fs _ r hp.right h3⟩

/-- The heap's variables, object by object. -/
theorem ownHeap_get : ∀ (H : List Obj) (n : Nat), (ownHeap H n).1.length = H.length ∧ (∀ o ∈ (ownHeap H n).2, ∃ e, o = .row e [] false) ∧
    ∀ (b : Nat) (o : Obj), H[b]? = some o → ∃ o' : Obj, (ownHeap H n).1[b]? = some o' ∧ (o' = o ∨ ∃ (t : AV) (s : Bool) (m : Nat), o = .var t s ∧ o' = .var (t.own0 m).1 s ∧ ∃ pre suf : List Obj, (ownHeap H n).2 = pre ++ (t.own0 m).2 ++ suf ∧ m = n + pre.length)
  | [], n => by simp [ownHeap]
  | .var t s :: r, n => by
    obtain ⟨h1, h2, h3⟩ := ownHeap_get r (n + (t.own0 n).2.length)
    refine ⟨by simp [ownHeap, h1], ?_, ?_⟩
    · simp only [ownHeap, List.mem_append]
      rintro o (h | h)
      · exact AV.own0_row t n o h
      · exact h2 o h
    · intro b o hb
      cases b with
      | zero =>
        simp only [List.getElem?_cons_zero, Option.some.injEq] at hb
        subst hb
        exact ⟨_, rfl, .inr ⟨t, s, n, rfl, rfl, [], (ownHeap r (n + (t.own0 n).2.length)).2, by simp [ownHeap], by simp⟩⟩
      | succ b =>
        obtain ⟨o', k1, k2⟩ := h3 b o (by simpa using hb)
        refine ⟨o', by simpa [ownHeap] using k1, k2.imp_right ?_⟩
        rintro ⟨t', s', m, rfl, rfl, pre, suf, k3, k4⟩
        refine ⟨t', s', m, rfl, rfl, (t.own0 n).2 ++ pre, suf, by simp [ownHeap, k3], by rw [k4, List.length_append]; omega⟩
  | .dead :: r, n | .row .. :: r, n | .mrow .. :: r, n | .map .. :: r, n | .loop .. :: r, n => by
    obtain ⟨h1, h2, h3⟩ := ownHeap_get r n
    refine ⟨by simp [ownHeap, h1], by simpa [ownHeap] using h2, ?_⟩
    intro b o hb
    cases b with
    | zero =>
      simp only [List.getElem?_cons_zero, Option.some.injEq] at hb
      subst hb
      exact ⟨_, rfl, .inl rfl⟩
    | succ b =>
      obtain ⟨o', k1, k2⟩ := h3 b o (by simpa using hb)
      exact ⟨o', by simpa [ownHeap] using k1, by simpa [ownHeap] using k2⟩

theorem enter_ok {C : Cx} {w : World} (h : Sim C w) {vs : List AV} {vals : List Value} (hv : AVs C vs vals) :
    ∃ C', Sim C' w ∧ C'.M = C.M ∧ C'.has = C.has ∧ C'.H = (enter ⟨vs, C.H⟩).heap ∧ AVs C' (enter ⟨vs, C.H⟩).vs vals ∧ Ext C w C' w := by
  let r := AV.own0s vs C.H.length
  let q := ownHeap C.H (C.H.length + r.2.length)
  obtain ⟨q1, q2, q3⟩ := ownHeap_get C.H (C.H.length + r.2.length)
  let n := C.H.length
  have hrows : ∀ o ∈ r.2 ++ q.2, ∃ e, o = .row e [] false := by
    intro o ho
    rcases List.mem_append.1 ho with k | k
    · exact AV.own0s_row vs _ o k
    · exact q2 o k
  let C' : Cx := ⟨C.M, fun b => if b < n then C.ι b else if b < n + (r.2 ++ q.2).length then some .nil else none, q.1 ++ r.2 ++ q.2, C.has⟩
  have hH : C'.H = q.1 ++ (r.2 ++ q.2) := List.append_assoc _ _ _
  have hlow : ∀ b, b < n → C'.H[b]? = q.1[b]? := fun b hb => by rw [hH, List.getElem?_append_left (by rw [q1]; exact hb)]
  have hput : Put0 C' n (r.2 ++ q.2) := fun i o hi => by
    have : i < (r.2 ++ q.2).length := (List.getElem?_eq_some_iff.1 hi).1
    refine ⟨by rw [hH, List.getElem?_append_right (by rw [q1]; omega), q1]; simpa [n] using hi, ?_⟩
    show (if n + i < n then C.ι (n + i) else if n + i < n + (r.2 ++ q.2).length then some .nil else none) = _
    rw [if_neg (by omega), if_pos (by omega)]
  have hle : C.le C' := by
    refine ⟨fun _ _ _ h => h, fun b hb => .inr ⟨by show (if b < n then C.ι b else _) = _; rw [if_pos hb], ?_⟩, by rw [hH, List.length_append, q1]; omega, rfl⟩
    obtain ⟨o', k1, k2⟩ := q3 b C.H[b] (by simp [hb])
    refine ⟨C.H[b], o', by simp [hb], by rw [hlow b hb]; exact k1, ?_⟩
    rcases k2 with k2 | ⟨t, s, m, k3, k4, _⟩
    · exact .inl k2.symm
    · right; rw [k3, k4]; trivial
  have hold : ∀ b loc, C'.ι b = some loc → (b < n ∧ C.ι b = some loc) ∨ (n ≤ b ∧ loc = .nil ∧ ∃ e, C'.H[b]? = some (.row e [] false)) := by
    intro b loc hb
    by_cases hbn : b < n
    · left; refine ⟨hbn, ?_⟩
      have : C'.ι b = C.ι b := by show (if b < n then C.ι b else _) = _; rw [if_pos hbn]
      rw [← this]; exact hb
    · right
      have hb' : (if b < n + (r.2 ++ q.2).length then some Loc.nil else none) = some loc := by
        have : C'.ι b = (if b < n + (r.2 ++ q.2).length then some Loc.nil else none) := by show (if b < n then C.ι b else _) = _; rw [if_neg hbn]
        rw [← this]; exact hb
      simp only [Option.ite_none_right_eq_some, Option.some.injEq] at hb'
      obtain ⟨hlt, rfl⟩ := hb'
      refine ⟨by omega, rfl, ?_⟩
      have hi : b - n < (r.2 ++ q.2).length := by omega
      obtain ⟨e, he⟩ := hrows _ (List.getElem_mem hi)
      refine ⟨e, ?_⟩
      rw [hH, List.getElem?_append_right (by rw [q1]; omega), q1, ← he]
      exact List.getElem?_eq_getElem hi
  -- the object that lies at an old place
  have hobj : ∀ b o, b < n → C.H[b]? = some o → ∃ o', C'.H[b]? = some o' ∧ o'.sealed = o.sealed ∧ o'.rowLen = o.rowLen ∧ (∀ e xs s, o' = .row e xs s → o = .row e xs s) ∧
      ∀ loc, ObjRep C w loc o → ObjRep C' w loc o' := by
    intro b o hb ho
    obtain ⟨o', k1, k2⟩ := q3 b o ho
    refine ⟨o', by rw [hlow b hb]; exact k1, ?_⟩
    rcases k2 with rfl | ⟨t, s, m, rfl, rfl, pre, suf, k3, k4⟩
    · exact ⟨rfl, rfl, fun _ _ _ h => h, fun loc hr => ObjRep.ren_le hle hr⟩
    · refine ⟨rfl, rfl, fun e xs s' h => (by cases h), fun loc hr => ?_⟩
      have hp : Put0 C' m (t.own0 m).2 := by
        have := hput.right
        change Put0 C' (n + r.2.length) q.2 at this
        rw [show q.2 = pre ++ (t.own0 m).2 ++ suf from k3] at this
        have := this.left.right
        rw [k4]; rw [k4] at this; exact this
      have hr' := ObjRep.ren_le hle hr
      simp only [ObjRep] at hr' ⊢
      obtain ⟨blk, cs, X, fz, g1, g2, g3, g4⟩ := hr'
      exact ⟨blk, cs, X, fz, g1, g2, g3, AR.own0 false t m _ hp g4⟩
  refine ⟨C', ⟨h.agree, ?_, ?_, ?_, ?_, ?_⟩, rfl, rfl, rfl, AVs.own0 vs n vals hput.left (AVs.mono hle _ _ hv), ⟨hle, fun _ _ _ h => .inl h, ?_, fun _ _ _ => rfl, Nat.le_refl _, .refl w⟩⟩
  · intro b loc hb
    rcases hold b loc hb with ⟨k1, k2⟩ | ⟨k1, rfl, e, k3⟩
    · obtain ⟨o, ho, hr⟩ := h.obj b loc k2
      obtain ⟨o', g1, _, _, _, g5⟩ := hobj b o k1 ho
      exact ⟨o', g1, g5 loc hr⟩
    · exact ⟨_, k3, by simp [ObjRep]⟩
  · intro b b' blk off cap off' cap' h1 h2
    rcases hold b _ h1 with ⟨_, k2⟩ | ⟨_, k, _⟩
    · rcases hold b' _ h2 with ⟨_, l2⟩ | ⟨_, k, _⟩
      · exact h.sep _ _ _ _ _ _ _ k2 l2
      · cases k
    · cases k
  · intro b blk off cap ob h1 h2 h3 o
    rcases hold b _ h1 with ⟨k1, k2⟩ | ⟨_, k, _⟩
    · obtain ⟨o1, ho, _⟩ := h.obj b _ k2
      obtain ⟨o', g1, g2, _⟩ := hobj b o1 k1 ho
      rw [g1] at h2; cases h2
      exact h.open_ b blk off cap o1 k2 ho (by rw [← g2]; exact h3) o
    · cases k
  · intro b blk off cap ob h1 h2 h3
    rcases hold b _ h1 with ⟨k1, k2⟩ | ⟨_, k, _⟩
    · obtain ⟨o1, ho, _⟩ := h.obj b _ k2
      obtain ⟨o', g1, g2, g3, _⟩ := hobj b o1 k1 ho
      rw [g1] at h2; cases h2
      rw [g3]
      exact h.cover b blk off cap o1 k2 ho (by rw [← g2]; exact h3)
    · cases k
  · intro b blk off cap e xs h1 h2 o v hv
    rcases hold b _ h1 with ⟨k1, k2⟩ | ⟨_, k, _⟩
    · obtain ⟨o1, ho, _⟩ := h.obj b _ k2
      obtain ⟨o', g1, _, _, g4, _⟩ := hobj b o1 k1 ho
      rw [g1] at h2; cases h2
      have := g4 _ _ _ rfl
      subst this
      exact h.room b blk off cap e xs k2 ho o v hv
    · cases k
  · rintro blk ⟨b, off, cap, hb⟩
    rcases hold b _ hb with ⟨k1, k2⟩ | ⟨_, k, _⟩
    · exact .inl ⟨b, off, cap, k2⟩
    · cases k

/-! ### What is handed back -/

section
variable {w : World}

theorem rewinO_ok {C : Cx} (h : Sim C w) {b e lo len cap : Nat} {x : Value} (hv : AVal C (.win b [] e lo len cap false) x) :
    ∃ C', Sim C' w ∧ C'.M = C.M ∧ C'.has = C.has ∧ C'.H = (rewinO C.H b e lo len cap C.H[b]?).2 ∧ AVal C' (rewinO C.H b e lo len cap C.H[b]?).1 x ∧ Ext C w C' w := by
  have stay : ∃ C', Sim C' w ∧ C'.M = C.M ∧ C'.has = C.has ∧ C'.H = C.H ∧ AVal C' (.win b [] e lo len cap false) x ∧ Ext C w C' w := ⟨C, h, rfl, rfl, rfl, hv, .refl C w⟩
  unfold rewinO
  split
  case h_2 => exact stay
  rename_i e' xs ho
  split
  case isFalse => exact stay
  rename_i hc
  obtain ⟨rfl, hlen⟩ := hc
  have hbl : b < C.H.length := by
    by_cases hb : b < C.H.length
    · exact hb
    · rw [List.getElem?_eq_none (by omega)] at ho; cases ho
  simp only [AVal, AR] at hv
  obtain ⟨_, x', hxe, _, hv⟩ := hv
  obtain rfl : x = x' := by simpa using hxe
  obtain ⟨loc, hi, hw⟩ := hv ⟨_, ho, rfl⟩
  obtain ⟨ob, hob, hrep⟩ := h.obj b loc hi
  rw [ho] at hob; cases hob
  have hyl : ((xs.drop lo).take len).length = len := by simp; omega
  let loc' : Loc := match loc with | .nil => .nil | .at blk off room => .at blk (off + lo * e') (room - lo)
  let new : Obj := .row e' ((xs.drop lo).take len) false
  let C' : Cx := ⟨C.M, fun k => if k = C.H.length then some loc' else if k = b then none else C.ι k, C.H.set b .dead ++ [new], C.has⟩
  have hιn : C'.ι C.H.length = some loc' := by simp [C']
  have hHn : C'.H[C.H.length]? = some new := by simp [C']
  have hHo : ∀ k, k ≠ C.H.length → k ≠ b → C'.H[k]? = C.H[k]? := by
    intro k h1 h2
    simp only [C']
    by_cases hk : k < C.H.length
    · rw [List.getElem?_append_left (by simpa using hk), List.getElem?_set_ne (Ne.symm h2)]
    · rw [List.getElem?_eq_none (by simp; omega), List.getElem?_eq_none (by omega)]
  have hcase : ∀ k l, C'.ι k = some l → (k = C.H.length ∧ l = loc') ∨ (k ≠ C.H.length ∧ k ≠ b ∧ C.ι k = some l) := by
    intro k l hk
    simp only [C'] at hk
    by_cases h1 : k = C.H.length
    · rw [if_pos h1] at hk; exact .inl ⟨h1, (by cases hk; rfl)⟩
    · rw [if_neg h1] at hk
      by_cases h2 : k = b
      · rw [if_pos h2] at hk; cases hk
      · rw [if_neg h2] at hk; exact .inr ⟨h1, h2, hk⟩
  have hle : C.le C' := by
    refine ⟨fun _ _ _ hv => hv, fun k hk => ?_, by simp [C'], rfl⟩
    by_cases hkb : k = b
    · subst hkb; left
      simp only [C']
      rw [List.getElem?_append_left (by simpa using hk)]
      simp [hk]
    · right
      have hne : k ≠ C.H.length := by omega
      refine ⟨by simp [C', hne, hkb], C.H[k], C.H[k], by simp [hk], by rw [hHo k hne hkb]; simp [hk], .inl rfl⟩
  have hat : ∀ blk off cap', loc' = .at blk off cap' → ∃ off0 room, loc = .at blk off0 room ∧ off = off0 + lo * e' ∧ cap' = room - lo := by
    intro blk off cap' hl
    cases loc with
    | nil => simp [loc'] at hl
    | «at» q1 q2 q3 => simp only [loc', Loc.at.injEq] at hl; obtain ⟨rfl, rfl, rfl⟩ := hl; exact ⟨_, _, rfl, rfl, rfl⟩
  refine ⟨C', ⟨h.agree, ?_, ?_, ?_, ?_, ?_⟩, rfl, rfl, rfl, ?_, ⟨hle, fun _ _ _ hv => .inl hv, ?_, fun _ _ _ => rfl, Nat.le_refl _, .refl _⟩⟩
  · intro k l hk
    rcases hcase k l hk with ⟨rfl, rfl⟩ | ⟨h1, h2, h3⟩
    · refine ⟨new, hHn, ?_⟩
      cases loc with
      | nil =>
        simp only [ObjRep] at hrep
        subst hrep
        simp [loc', new, ObjRep]
      | «at» blk off room =>
        simp only [ObjRep] at hrep
        obtain ⟨cs, E', fz, k1, k2, k3, k4, k5⟩ := hrep
        simp only [loc', new, ObjRep]
        refine ⟨cs, E', fz, k1, k2, by rw [hyl]; omega, ?_, ?_⟩
        · have : (room - lo) * e' = room * e' - lo * e' := Nat.sub_mul _ _ _
          have : lo * e' ≤ room * e' := Nat.mul_le_mul_right _ (by omega)
          omega
        · have h6 := (k5.dropN lo).takeN len
          have e1 : ((cs.toList.drop (off + lo * e')).take (((xs.drop lo).take len).length * e')) = ((((cs.toList.drop off).take (xs.length * e')).drop (lo * e')).take (len * e')) := by
            rw [hyl, List.drop_take, List.take_take, List.drop_drop]
            congr 1
            have : len * e' ≤ (xs.length - lo) * e' := Nat.mul_le_mul_right _ (by omega)
            rw [Nat.sub_mul] at this
            omega
          rw [e1]
          exact h6
    · obtain ⟨ob, hob, hr⟩ := h.obj k l h3
      exact ⟨ob, by rw [hHo k h1 h2]; exact hob, ObjRep.ren_le hle hr⟩
  · intro k k' blk o1 c1 o2 c2 h1 h2
    rcases hcase k _ h1 with ⟨rfl, q2⟩ | ⟨q1, q2, q3⟩
    · rcases hcase k' _ h2 with ⟨rfl, r2⟩ | ⟨r1, r2, r3⟩
      · rfl
      · obtain ⟨o0, room, hl, _, _⟩ := hat _ _ _ q2.symm
        exact absurd (h.sep k' b blk o2 c2 o0 room r3 (hl ▸ hi)) r2
    · rcases hcase k' _ h2 with ⟨rfl, r2⟩ | ⟨r1, r2, r3⟩
      · obtain ⟨o0, room, hl, _, _⟩ := hat _ _ _ r2.symm
        exact absurd (h.sep k b blk o1 c1 o0 room q3 (hl ▸ hi)) q2
      · exact h.sep k k' blk o1 c1 o2 c2 q3 r3
  · intro k blk o1 c1 ob h1 h2 h3 o
    rcases hcase k _ h1 with ⟨rfl, q2⟩ | ⟨q1, q2, q3⟩
    · obtain ⟨o0, room, hl, _, _⟩ := hat _ _ _ q2.symm
      exact h.open_ b blk o0 room _ (hl ▸ hi) ho rfl o
    · rw [hHo k q1 q2] at h2
      exact h.open_ k blk o1 c1 ob q3 h2 h3 o
  · intro k blk o1 c1 ob h1 h2 h3
    rcases hcase k _ h1 with ⟨rfl, q2⟩ | ⟨q1, q2, q3⟩
    · rw [hHn] at h2; cases h2; simp [new, Obj.sealed] at h3
    · rw [hHo k q1 q2] at h2
      exact h.cover k blk o1 c1 ob q3 h2 h3
  · intro k blk o1 c1 e2 ys h1 h2
    rcases hcase k _ h1 with ⟨rfl, q2⟩ | ⟨q1, q2, q3⟩
    · rw [hHn] at h2; simp [new] at h2
    · rw [hHo k q1 q2] at h2
      exact h.room k blk o1 c1 e2 ys q3 h2
  · simp only [AVal, AR]
    refine ⟨by simp [C'], x, rfl, ?_, fun o2 e2 n2 h1 h2 => ?_⟩
    · cases loc with
      | nil => simp only [winV] at hw; obtain ⟨_, _, base, rfl⟩ := hw; rfl
      | «at» blk off room => simp only [winV] at hw; obtain ⟨_, a, cap', rfl, _⟩ := hw; rfl
    · rw [hHn] at h1; cases h1
      simp only [new, Obj.rowLen, Option.some.injEq, Prod.mk.injEq] at h2
      obtain ⟨rfl, rfl⟩ := h2
      refine ⟨loc', hιn, ?_⟩
      rw [hyl]
      cases loc with
      | nil =>
        simp only [winV] at hw
        obtain ⟨h1, _, base, rfl⟩ := hw
        exact ⟨h1, rfl, base, rfl⟩
      | «at» blk off room =>
        simp only [winV, offs] at hw
        obtain ⟨h1, a, cap', rfl, h2, _, _, h3⟩ := hw
        obtain ⟨_, h4, h5⟩ := h3 trivial
        simp only [loc', ownV]
        refine ⟨Nat.zero_le _, by omega, a, by simp; omega, fun hlt => ?_⟩
        rw [h5 (by omega)]; simp
  · rintro blk ⟨k, o1, c1, hk⟩
    rcases hcase k _ hk with ⟨q1, q2⟩ | ⟨q1, q2, q3⟩
    · obtain ⟨o0, room, hl, _, _⟩ := hat _ _ _ q2.symm
      exact .inl ⟨b, o0, room, hl ▸ hi⟩
    · exact .inl ⟨k, o1, c1, q3⟩

theorem rewin_ok {C : Cx} (h : Sim C w) (base : Nat) : ∀ {v : AV} {x : Value}, AVal C v x →
    ∃ C', Sim C' w ∧ C'.M = C.M ∧ C'.has = C.has ∧ C'.H = (AV.rewin base C.H v).2 ∧ AVal C' (AV.rewin base C.H v).1 x ∧ Ext C w C' w := by
  intro v x hv
  unfold AV.rewin
  split
  · split
    · exact rewinO_ok h hv
    · exact ⟨C, h, rfl, rfl, rfl, hv, .refl C w⟩
  · rename_i e
    simp only [AVal, AR] at hv
    obtain ⟨b0, hx⟩ := hv
    obtain rfl : x = .slice b0 0 0 := by simpa using hx
    have hcalm : Calm C w (C.add .nil (.row e [] false)) w [.row e [] false] := Calm.add h (fun blk off cap e => by cases e) (fun _ _ => rfl) (Nat.le_refl _) (.refl w) rfl (fun _ => by simp [ObjRep])
    refine ⟨_, hcalm.sim, rfl, rfl, hcalm.heap, ?_, hcalm.ext⟩
    simp only [AVal, AR]
    refine ⟨by simp [Cx.add], _, rfl, rfl, fun o2 e2 n2 h1 h2 => ?_⟩
    simp only [Cx.add, List.getElem?_concat_length, Option.some.injEq] at h1
    subst h1
    simp only [Obj.rowLen, Option.some.injEq, Prod.mk.injEq] at h2
    obtain ⟨rfl, rfl⟩ := h2
    exact ⟨.nil, by simp [Cx.add], rfl, rfl, b0, rfl⟩
  · exact ⟨C, h, rfl, rfl, rfl, hv, .refl C w⟩

theorem rewins_ok (base : Nat) : ∀ {vs : List AV} {C : Cx} {xs : List Value}, Sim C w → AVs C vs xs →
    ∃ C', Sim C' w ∧ C'.M = C.M ∧ C'.has = C.has ∧ C'.H = (rewins base vs C.H).2 ∧ AVs C' (rewins base vs C.H).1 xs ∧ Ext C w C' w
  | [], C, xs, h, hv => ⟨C, h, rfl, rfl, rfl, hv, .refl C w⟩
  | v :: vs, C, xs, h, hv => by
    simp only [AVs] at hv
    obtain ⟨x, r, rfl, h1, h2⟩ := hv
    obtain ⟨C1, a1, a2, a3, a4, a5, a6⟩ := rewin_ok h base h1
    obtain ⟨C2, b1, b2, b3, b4, b5, b6⟩ := rewins_ok base a1 (AVs.mono a6.le _ _ h2)
    rw [a4] at b4 b5
    refine ⟨C2, b1, b2.trans a2, b3.trans a3, b4, ?_, a6.trans b6⟩
    simp only [rewins, AVs]
    exact ⟨x, r, rfl, AR.mono b6.le true _ _ a5, b5⟩

end

end
end Ev
