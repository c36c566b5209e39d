/- Part 5 of the evaluator of the given model: its rules and their soundness (no condition). -/
import Derived.Test.YtfcldaojfbbaoaaDoorEvD
set_option linter.unusedVariables false
set_option linter.unusedSimpArgs false
set_option linter.unnecessarySimpa false
/- A frame's state; the operations of a region, one behind the other. -/
namespace Ev
open Go (Value Addr Fn IntKind World Sem Program Operand Oper Result Act Ending Fence CallsIn RoundIn Exit Deferred wpOpsIn)

section
variable {P : Program}

/-- The marks of loops over functions. -/
def Marks (m0 : Nat) (C : Cx) (w : World) (ds : List Deferred) : Prop :=
  ∃ rs : List Nat, ds.map (·.target) = rs.map Go.Target.collected ∧ rs.Nodup ∧ ∀ r ∈ rs, w.heap[r]? = some (.deferred (some [])) ∧ ¬ owned C.ι r ∧ m0 ≤ r

theorem Marks.step {m0 : Nat} {C C' : Cx} {w w' : World} {ds : List Deferred} (h : Marks m0 C w ds) (hx : Ext C w C' w') : Marks m0 C' w' ds := by
  obtain ⟨rs, h1, h2, h3⟩ := h
  refine ⟨rs, h1, h2, fun r hr => ?_⟩
  obtain ⟨k1, k2, k3⟩ := h3 r hr
  have hlt : r < w.heap.size := (Array.getElem?_eq_some_iff.1 k1).1
  refine ⟨by rw [hx.frame r hlt k2]; exact k1, fun ho => ?_, k3⟩
  rcases hx.own r ho with k | k
  · exact k2 k
  · omega

theorem Marks.less {m0 : Nat} {C C' : Cx} {w : World} {ds : List Deferred} (h : Marks m0 C w ds) (ho : ∀ blk, owned C'.ι blk → owned C.ι blk) : Marks m0 C' w ds := by
  obtain ⟨rs, h1, h2, h3⟩ := h
  exact ⟨rs, h1, h2, fun r hr => let ⟨k1, k2, k3⟩ := h3 r hr; ⟨k1, fun h => k2 (ho _ h), k3⟩⟩

/-- The way in which code is left. -/
def ExOK (C : Cx) : Ex → Exit → Prop
  | .normal, .normal => True
  | .exit id, .exit id' => id = id'
  | .ret, .ret => True
  | .panic v, .panic ch => ∃ rv, ch = [{ v := rv, recovered := false }] ∧ AVal C v rv
  | _, _ => False

/-- A frame's state, as the evaluator has it. 'B', 'w0': what lay when the frame began; 'N': its slots. -/
def Out (E : Env) (P : Program) (B : Cx) (w0 : World) (N : Nat) (ex : Ex) (s : St) (e : Exit) (a : Act) (w : World) : Prop :=
  ∃ C, Ok E P C w ∧ Ext B w0 C w ∧ C.H = s.heap ∧ SlotsOK C s.tmps a.tmps ∧ a.tmps.size = N ∧ Marks w0.heap.size C w a.defers ∧ ExOK C ex e

abbrev At (E : Env) (P : Program) (B : Cx) (w0 : World) (N : Nat) (s : St) (a : Act) (w : World) : Prop := Out E P B w0 N .normal s .normal a w

variable {E : Env} {B : Cx} {w0 : World} {N : Nat}

theorem SlotsOK.put' {C : Cx} {tmps : List AV} {a : Act} (hs : SlotsOK C tmps a.tmps) (dst : Option Go.Tmp) {v : AV} {rv : Value} (hv : AVal C v rv) (H : Heap) (s : St) (hst : s.tmps = tmps) :
    SlotsOK C (s.put dst v H).tmps (a.put dst rv).tmps := by
  subst hst
  cases dst with
  | none => exact hs
  | some d => exact hs.put d hv

theorem Act.put_size (a : Act) (dst : Option Go.Tmp) (v : Value) : (a.put dst v).tmps.size = a.tmps.size := by cases dst <;> simp [Act.put]
theorem Act.put_def (a : Act) (dst : Option Go.Tmp) (v : Value) : (a.put dst v).defers = a.defers := by cases dst <;> rfl

theorem AVal.und {C : Cx} : AVal C (.tup []) Go.undef := by simp [AVal, AR, AVs, Go.undef]

theorem wanted_ok {C : Cx} {ops : Array Oper} {tmps : List AV} {vs : Array Value} (hs : SlotsOK C tmps vs) {o : Oper} {b : Bool} (h : wantedA ops tmps o = some b) : Go.Region.wanted o (Go.yielded ops vs) = b := by
  unfold wantedA at h
  unfold Go.Region.wanted
  split at h
  · rename_i hg; cases h; rw [hg]
  · rename_i j want hg
    rw [hg]
    split at h
    case h_2 => cases h
    rename_i t ht
    split at h
    case h_3 => cases h
    case h_2 hc =>
      cases h
      have hv := hs.2 t
      rw [hc] at hv
      have hv : vs.getD t Go.undef = Go.undef := by simpa [AVal, AR, AVs, Go.undef] using hv
      have : ∀ x, vs[t]? = some x → x = Go.undef := by
        intro x hx
        rw [Array.getD_eq_getD_getElem?, hx] at hv
        exact hv
      simp only [Go.yielded, ht, Option.bind_some]
      cases hvt : vs[t]? with
      | none => simp
      | some x => rw [this x hvt]; simp [Go.undef]
    rename_i c hc
    cases h
    have hv := hs.2 t
    rw [hc, AVal.bool] at hv
    have : vs[t]? = some (.bool c) := by
      rw [Array.getD_eq_getD_getElem?] at hv
      cases hvt : vs[t]? with
      | none => rw [hvt] at hv; cases hv
      | some x => rw [hvt] at hv; simp only [Option.getD_some] at hv; rw [hv]
    simp [Go.yielded, ht, this]

theorem ops_ok {F : Fence} (hF : Wide F) {K : Sem'} (hK : KSound E P K) {ops : Array Oper} {Q : Exit → Act → World → Prop} {R : Type} {k : Ex → St → Option R} {r : R}
    (hk : ∀ ex s' e a' w', k ex s' = some r → Out E P B w0 N ex s' e a' w' → Q e a' w') :
    ∀ (rest : List Oper) (i : Nat), ops.toList.drop i = rest → ∀ (s : St) (a : Act) (w : World), E.ops K ops rest s k = some r → At E P B w0 N s a w → wpOpsIn F 0 P ops Q (List.range' i rest.length) a w
  | [], i, _, s, a, w, h, hat => by
    simp only [List.length_nil, List.range'_zero, wpOpsIn]
    exact hk _ _ _ _ _ h hat
  | o :: rest, i, hd, s, a, w, h, hat => by
    have hoi : ops[i]? = some o := by
      have : (ops.toList.drop i)[0]? = some o := by rw [hd]; rfl
      simpa using this
    have hd' : ops.toList.drop (i + 1) = rest := by
      have : (ops.toList.drop i).drop 1 = rest := by rw [hd]; rfl
      simpa [List.drop_drop] using this
    simp only [List.length_cons, List.range'_succ, wpOpsIn, hoi]
    simp only [Env.ops, Option.bind_eq_some_iff] at h
    obtain ⟨⟨rs, H'⟩, hstep, h⟩ := h
    simp only [Env.step, Option.bind_eq_some_iff] at hstep
    obtain ⟨b, hb, hstep⟩ := hstep
    obtain ⟨C, ok, hx, hH, hs, hN, hm, _⟩ := hat
    rw [wanted_ok hs hb]
    cases b with
    | false =>
      simp only [Bool.false_eq_true, if_false, Option.some.injEq, Prod.mk.injEq] at hstep ⊢
      obtain ⟨rfl, rfl⟩ := hstep
      refine ⟨fun f _ => hF.fn f, ops_ok hF hK hk rest (i + 1) hd' (s.put o.dst (.tup []) s.heap) _ w h ⟨C, ok, hx, ?_, hs.put' o.dst AVal.und _ _ rfl, by rw [Act.put_size]; exact hN, by rw [Act.put_def]; exact hm, trivial⟩⟩
      exact hH
    | true =>
      simp only [if_true] at hstep ⊢
      rw [← hH] at hstep
      refine run_ok hF hK ok hs hstep _ Q fun C' w' ok' hx' hH' => ?_
      have hm' := hm.step hx'
      cases rs with
      | ret v =>
        intro rv hv
        refine ops_ok hF hK hk rest (i + 1) hd' (s.put o.dst v H') _ w' h ⟨C', ok', hx.trans hx', hH', (hs.mono hx'.le).put' o.dst hv _ _ rfl, by rw [Act.put_size]; exact hN, by rw [Act.put_def]; exact hm', trivial⟩
      | panic v =>
        intro rv hv
        exact hk _ _ _ _ _ h ⟨C', ok', hx.trans hx', hH', hs.mono hx'.le, hN, hm', rv, rfl, hv⟩

end
end Ev

/- Regions that draw their order: what stands before what; what an operation looks at. -/
namespace Ev
open Go (Value Addr Fn IntKind World Sem Program Operand Oper Act)

theorem args_congr {E : Env} {ρ ρ' : Operand → AV} {args : Array Operand} {ats : Array Nat} (h : ∀ x ∈ args, ρ x = ρ' x) : E.args ρ args ats = E.args ρ' args ats := by
  unfold Env.args
  split
  · congr 1
    refine List.map_congr_left fun x hx => ?_
    rw [h x.1 (by simpa using (List.of_mem_zip hx).1)]
  · rfl

theorem calm_congr {E : Env} {K : Sem'} {tmps tmps' : List AV} {H : Heap} (o : Oper) (h : ∀ x ∈ o.op.operands, E.opnd tmps x = E.opnd tmps' x) : E.calm K tmps H o = E.calm K tmps' H o := by
  unfold Env.calm
  simp only
  generalize E.opnd tmps = ρ at h ⊢
  generalize E.opnd tmps' = ρ' at h ⊢
  have pairs : ∀ ps : Array (Nat × Operand), (∀ x ∈ ps.toList.map (·.2), ρ x = ρ' x) → (ps.toList.map fun x => (x.1, ρ x.2)) = (ps.toList.map fun x => (x.1, ρ' x.2)) := fun ps hp =>
    List.map_congr_left fun p hm => by rw [hp p.2 (List.mem_map.2 ⟨p, hm, rfl⟩)]
  have seconds : ∀ ps : Array (Nat × Operand), (∀ x ∈ ps.toList.map (·.2), ρ x = ρ' x) → (ps.toList.map fun x => ρ x.2) = (ps.toList.map fun x => ρ' x.2) := fun ps hp =>
    List.map_congr_left fun p hm => by rw [hp p.2 (List.mem_map.2 ⟨p, hm, rfl⟩)]
  obtain ⟨dst, op, type, pos, after, guard⟩ := o
  cases op <;> simp only [Go.Op.operands] at h <;> simp only
  case build t ps => rw [pairs ps fun x hx => h x (by simpa using hx)]
  case buildSlice t n ps => rw [seconds ps fun x hx => h x (by simpa using hx)]
  case makeFunc fn first captured =>
    rw [List.map_congr_left (l := first.toList) (f := ρ) (g := ρ') fun x hx => h x (by simp at hx; simp [hx]), List.map_congr_left (l := captured.toList) (f := ρ) (g := ρ') fun x hx => h x (by simp at hx; simp [hx])]
  case call c =>
    obtain ⟨callee, args, ats⟩ := c
    have hargs : ∀ x ∈ args, ρ x = ρ' x := fun x hx => h x (by simp [Go.Call.operands, hx])
    cases callee with
    | value g =>
      have hg : ρ g = ρ' g := h g (by simp [Go.Call.operands])
      simp only [args_congr hargs, hg]
    | invoke r m => rfl
    | builtin b =>
      simp only
      split
      · rename_i x t e1 e2
        rw [hargs x (by rw [← Array.mem_toList_iff, e1]; simp)]
      · rfl
  case makeMap t r => cases r <;> simp_all
  case slice t x lo hi mx => cases lo <;> cases hi <;> cases mx <;> simp_all
  all_goals (first | rfl | (simp_all; done))

/-! ### What stands before what -/

theorem before_push (ops : List Oper) (o : Oper) : (ops ++ [o]).foldl (init := (#[] : Array Nat)) (fun acc o =>
    acc.push (o.after.foldl (fun s e => if Go.Region.binds .any e then s ||| 2 ^ e.on ||| acc.getD e.on 0 else s) 0)) =
    (ops.foldl (init := (#[] : Array Nat)) fun acc o => acc.push (o.after.foldl (fun s e => if Go.Region.binds .any e then s ||| 2 ^ e.on ||| acc.getD e.on 0 else s) 0)).push
      (o.after.foldl (fun s e => if Go.Region.binds .any e then s ||| 2 ^ e.on ||| (ops.foldl (init := (#[] : Array Nat)) fun acc o => acc.push (o.after.foldl (fun s e => if Go.Region.binds .any e then s ||| 2 ^ e.on ||| acc.getD e.on 0 else s) 0)).getD e.on 0 else s) 0) := by
  rw [List.foldl_append]; rfl

theorem edges_bit (acc : Array Nat) (i : Nat) : ∀ (l : List Go.Edge) (s : Nat), (l.foldl (fun s e => if Go.Region.binds .any e then s ||| 2 ^ e.on ||| acc.getD e.on 0 else s) s).testBit i = true →
    s.testBit i = true ∨ ∃ e ∈ l, Go.Region.binds .any e = true ∧ (e.on = i ∨ (acc.getD e.on 0).testBit i = true)
  | [], s, h => .inl h
  | e :: l, s, h => by
    simp only [List.foldl_cons] at h
    rcases edges_bit acc i l _ h with k | ⟨e', k1, k2, k3⟩
    · split at k
      · rename_i hb
        simp only [Nat.testBit_or, Bool.or_eq_true] at k
        rcases k with (k | k) | k
        · exact .inl k
        · right
          refine ⟨e, by simp, hb, .inl ?_⟩
          rw [Nat.testBit_two_pow] at k
          simpa using k
        · exact .inr ⟨e, by simp, hb, .inr k⟩
      · exact .inl k
    · exact .inr ⟨e', by simp [k1], k2, k3⟩

/-- Who stands before an operation is reached by its edges. -/
theorem before_ok (ops : Array Oper) (L : Nat → Prop) (hL : ∀ j o, ops[j]? = some o → L j → ∀ e ∈ o.after, Go.Region.binds .any e = true → L e.on) :
    ∀ j o i, ops[j]? = some o → (∀ e ∈ o.after, Go.Region.binds .any e = true → L e.on) → ((Go.Region.before ops).getD j 0).testBit i = true → L i := by
  have key : ∀ (l : List Oper) (n : Nat), l = ops.toList.take n → n ≤ ops.size → (l.foldl (init := (#[] : Array Nat)) fun acc o => acc.push (o.after.foldl (fun s e => if Go.Region.binds .any e then s ||| 2 ^ e.on ||| acc.getD e.on 0 else s) 0)).size = n ∧
      ∀ j o i, j < n → ops[j]? = some o → (∀ e ∈ o.after, Go.Region.binds .any e = true → L e.on) →
        ((l.foldl (init := (#[] : Array Nat)) fun acc o => acc.push (o.after.foldl (fun s e => if Go.Region.binds .any e then s ||| 2 ^ e.on ||| acc.getD e.on 0 else s) 0)).getD j 0).testBit i = true → L i := by
    intro l n
    induction n generalizing l with
    | zero =>
      rintro rfl _
      exact ⟨by simp, fun j o i hj => absurd hj (by omega)⟩
    | succ n ih =>
      intro hl hn
      have ho : ops[n]? = some ops[n] := by simp [show n < ops.size from by omega]
      have hl' : l = ops.toList.take n ++ [ops[n]] := by
        rw [hl, List.take_add_one]
        simp [show n < ops.size from by omega]
      obtain ⟨h1, h2⟩ := ih _ rfl (by omega)
      rw [hl', before_push]
      generalize hacc : (ops.toList.take n).foldl (init := (#[] : Array Nat)) (fun acc o => acc.push (o.after.foldl (fun s e => if Go.Region.binds .any e then s ||| 2 ^ e.on ||| acc.getD e.on 0 else s) 0)) = acc at h1 h2 ⊢
      refine ⟨by simp [h1], fun j o i hj hoj hall hbit => ?_⟩
      rw [Array.getD_eq_getD_getElem?, Array.getElem?_push, h1] at hbit
      by_cases hjn : j = n
      · subst hjn
        rw [if_pos rfl, Option.getD_some] at hbit
        rw [ho] at hoj; cases hoj
        rw [← Array.foldl_toList] at hbit
        rcases edges_bit acc i _ _ hbit with k | ⟨e, k1, k2, k3⟩
        · simp at k
        · have he := hall e (by simpa using k1) k2
          rcases k3 with rfl | k3
          · exact he
          · by_cases hlt : e.on < j
            · have hoe : ops[e.on]? = some ops[e.on] := by simp [show e.on < ops.size from by omega]
              exact h2 e.on _ i hlt hoe (hL _ _ hoe he) k3
            · rw [Array.getD_eq_getD_getElem?, Array.getElem?_eq_none (by omega)] at k3
              simp at k3
      · rw [if_neg hjn] at hbit
        refine h2 j o i (by omega) hoj hall ?_
        rw [Array.getD_eq_getD_getElem?]; exact hbit
  intro j o i hj hall hbit
  refine (key ops.toList ops.size (by rw [← Array.length_toList, List.take_length]) (Nat.le_refl _)).2 j o i ((Array.getElem?_eq_some_iff.1 hj).1) hj hall ?_
  have : Go.Region.before ops = ops.toList.foldl (init := (#[] : Array Nat)) (fun acc o => acc.push (o.after.foldl (fun s e => if Go.Region.binds .any e then s ||| 2 ^ e.on ||| acc.getD e.on 0 else s) 0)) := by
    unfold Go.Region.before
    rw [← Array.foldl_toList]
  rw [← this]
  exact hbit

end Ev

/- Regions that draw their order: the calm head. -/
namespace Ev
open Go (Value Addr Fn IntKind World Sem Program Operand Oper Result Act Ending Fence CallsIn RoundIn Exit Deferred Code wpOpIn wpAnyIn)

structure Late (ops : Array Oper) (m i j : Nat) : Prop where
  head : i < m
  tail : m ≤ j
  ex : ∃ oi oj t, ops[i]? = some oi ∧ ops[j]? = some oj ∧ apartA ops oi oj = true ∧ lateKind oi = true ∧ lateSole ops oi i = true ∧ stAddr oj = some t ∧ unset ops m t = true

theorem drawOk_spec {ops : Array Oper} {m : Nat} (h : drawOk ops m = true) : ∀ (j : Nat) (oj : Oper), ops[j]? = some oj → (∀ e ∈ oj.after, Go.Region.binds .any e = true → e.on < j) ∧
    ∀ i, i < j → ((Go.Region.before ops).getD j 0).testBit i = true ∨ (j < m ∧ ∀ oi, ops[i]? = some oi → apartA ops oi oj = true) ∨ Late ops m i j := by
  intro j oj hj
  have hlt : j < ops.size := (Array.getElem?_eq_some_iff.1 hj).1
  unfold drawOk at h
  simp only [Bool.and_eq_true, List.all_eq_true, List.mem_range] at h
  have h := h.2 j hlt
  rw [hj] at h
  simp only [Bool.and_eq_true, List.all_eq_true, List.mem_range, Array.all_eq_true_iff_forall_mem, Bool.or_eq_true, Bool.not_eq_true', decide_eq_true_eq] at h
  refine ⟨fun e he hb => ?_, fun i hi => ?_⟩
  · rcases h.1 e he with k | k
    · rw [hb] at k; cases k
    · exact k
  · rcases h.2 i hi with k | k
    · exact .inl k
    · right
      cases hoi : ops[i]? with
      | none => rw [hoi] at k; cases k
      | some oi =>
        rw [hoi] at k
        simp only [Bool.and_eq_true, Bool.or_eq_true, decide_eq_true_eq] at k
        obtain ⟨k1, k2 | k2⟩ := k
        · exact .inl ⟨k2, fun oi' e => by cases e; exact k1⟩
        · right
          unfold overtakes at k2
          simp only [Bool.and_eq_true, decide_eq_true_eq] at k2
          obtain ⟨⟨⟨⟨c1, c2⟩, c3⟩, c4⟩, c5⟩ := k2
          cases hst : stAddr oj with
          | none => rw [hst] at c5; cases c5
          | some t => rw [hst] at c5; exact ⟨c1, c2, oi, oj, t, hoi, hj, k1, c3, c4, hst, c5⟩

theorem drawOk_le {ops : Array Oper} {m : Nat} (h : drawOk ops m = true) : m ≤ ops.size := by
  unfold drawOk at h
  simp only [Bool.and_eq_true, decide_eq_true_eq] at h
  exact h.1

theorem mem_las {ops : Array Oper} {m : Nat} {a : Operand} : a ∈ (lateA ops m).1 ↔ ∃ i oi, i < m ∧ ops[i]? = some oi ∧ loadAddr oi = some a ∧ ∃ j, j < ops.size ∧ m ≤ j ∧ ((Go.Region.before ops).getD j 0).testBit i = false := by
  unfold lateA
  simp only [List.mem_filterMap, List.mem_range, Option.ite_none_right_eq_some, List.any_eq_true, Bool.and_eq_true, decide_eq_true_eq, Bool.not_eq_true', Option.bind_eq_some_iff]
  constructor
  · rintro ⟨i, h1, ⟨j, h2, h3, h4⟩, oi, h5, h6⟩
    exact ⟨i, oi, h1, h5, h6, j, h2, h3, h4⟩
  · rintro ⟨i, oi, h1, h5, h6, j, h2, h3, h4⟩
    exact ⟨i, h1, ⟨j, h2, h3, h4⟩, oi, h5, h6⟩

theorem mem_sas {ops : Array Oper} {m : Nat} {a : Operand} : a ∈ (lateA ops m).2 ↔ ∃ j oj t, j < ops.size ∧ m ≤ j ∧ ops[j]? = some oj ∧ stAddr oj = some t ∧ a = .tmp t ∧ ∃ i, i < m ∧ ((Go.Region.before ops).getD j 0).testBit i = false := by
  unfold lateA
  simp only [List.mem_filterMap, List.mem_range, Option.ite_none_right_eq_some, List.any_eq_true, Bool.and_eq_true, decide_eq_true_eq, Bool.not_eq_true', Option.bind_eq_some_iff, Option.map_eq_some_iff]
  constructor
  · rintro ⟨j, h1, ⟨h2, i, h3, h4⟩, t, ⟨oj, h5, h6⟩, h7⟩
    exact ⟨j, oj, t, h1, h2, h5, h6, h7.symm, i, h3, h4⟩
  · rintro ⟨j, oj, t, h1, h2, h5, h6, h7, i, h3, h4⟩
    exact ⟨j, h1, ⟨h2, i, h3, h4⟩, t, ⟨oj, h5, h6⟩, h7.symm⟩

theorem lateSole_spec {ops : Array Oper} {oi : Oper} {i : Nat} (h : lateSole ops oi i = true) {j : Nat} {oj : Oper} (hj : ops[j]? = some oj) :
    (j ≠ i → oj.dst ≠ oi.dst) ∧ (i ≤ j → ∀ d, oj.dst = some d → d ∉ looksA ops oi) := by
  have hlt : j < ops.size := (Array.getElem?_eq_some_iff.1 hj).1
  unfold lateSole at h
  simp only [List.all_eq_true, List.mem_range] at h
  have h := h j hlt
  rw [hj] at h
  simp only [Bool.and_eq_true, Bool.or_eq_true, decide_eq_true_eq, beq_iff_eq, bne_iff_ne] at h
  refine ⟨fun hne => h.1.resolve_left hne, fun hij d hd => ?_⟩
  have := h.2.resolve_left (by omega)
  rw [hd] at this
  simpa using this

theorem unset_spec {ops : Array Oper} {m t : Nat} (h : unset ops m t = true) {j : Nat} {oj : Oper} (hj : ops[j]? = some oj) (hm : m ≤ j) : oj.dst ≠ some t := by
  have hlt : j < ops.size := (Array.getElem?_eq_some_iff.1 hj).1
  unfold unset at h
  simp only [List.all_eq_true, List.mem_range] at h
  have h := h j hlt
  rw [hj] at h
  simp only [Bool.or_eq_true, decide_eq_true_eq, bne_iff_ne] at h
  exact h.resolve_left (by omega)

theorem apartA_spec {ops : Array Oper} {x y : Oper} (h : apartA ops x y = true) :
    (∀ d, x.dst = some d → d ∉ looksA ops y) ∧ (∀ d, x.dst = some d → y.dst ≠ some d) ∧ (∀ d, y.dst = some d → d ∉ looksA ops x) := by
  refine ⟨fun d hd => ?_, fun d hd => ?_, fun d hd => ?_⟩ <;> simp [apartA, hd] at h
  · exact h.1.1
  · exact h.1.2
  · exact h.2

def Cx.cut (C : Cx) (n : Nat) : Cx := { C with ι := fun b => if b < n then C.ι b else none, H := C.H.take n }

section
variable {P : Program} {E : Env} {K : Sem'} {ops : Array Oper}

/-- One operation of the head. -/
def TrStep (E : Env) (K : Sem') (ops : Array Oper) (S : Nat → St) (v : Nat → AV) (new : Nat → List Obj) (i : Nat) : Prop :=
  ∃ o b, ops[i]? = some o ∧ wantedA ops (S i).tmps o = some b ∧ (if b then E.calm K (S i).tmps (S i).heap o = some (v i, new i) else v i = .tup [] ∧ new i = []) ∧
    S (i + 1) = (S i).put o.dst (v i) ((S i).heap ++ new i)

theorem trace_ex {R : Type} {k : St → Option R} {r : R} : ∀ (rest : List Oper) (i : Nat) (s : St), (∀ j, j < rest.length → ops[i + j]? = rest[j]?) → E.opsC K ops rest s k = some r →
    ∃ S v new, S i = s ∧ (∀ j, i ≤ j → j < i + rest.length → TrStep E K ops S v new j) ∧ k (S (i + rest.length)) = some r
  | [], i, s, _, h => ⟨fun _ => s, fun _ => .unk, fun _ => [], rfl, fun j h1 h2 => absurd h2 (by simp; omega), h⟩
  | o :: rest, i, s, ho, h => by
    simp only [Env.opsC, Option.bind_eq_some_iff] at h
    obtain ⟨⟨rs, H'⟩, hstep, h⟩ := h
    cases rs with
    | panic v => cases h
    | ret v =>
      simp only at h
      obtain ⟨S, vs, new, h1, h2, h3⟩ := trace_ex rest (i + 1) (s.put o.dst v H') (fun j hj => by
        have := ho (j + 1) (by simpa using hj)
        rw [show i + 1 + j = i + (j + 1) from by omega, this]; rfl) h
      simp only [Env.stepC, Option.bind_eq_some_iff] at hstep
      obtain ⟨b, hb, hstep⟩ := hstep
      have hoi : ops[i]? = some o := by have := ho 0 (by simp); simpa using this
      have hnew : ∃ nw, H' = s.heap ++ nw ∧ (if b then E.calm K s.tmps s.heap o = some (v, nw) else v = .tup [] ∧ nw = []) := by
        cases b with
        | true =>
          simp only [if_true, Option.map_eq_some_iff, Prod.mk.injEq, Res.ret.injEq] at hstep
          obtain ⟨⟨v', nw⟩, k1, rfl, rfl⟩ := hstep
          exact ⟨nw, rfl, by simpa using k1⟩
        | false =>
          simp only [Bool.false_eq_true, if_false, Option.some.injEq, Prod.mk.injEq, Res.ret.injEq] at hstep
          obtain ⟨rfl, rfl⟩ := hstep
          exact ⟨[], by simp, by simp⟩
      obtain ⟨nw, rfl, hnw⟩ := hnew
      refine ⟨fun j => if j = i then s else S j, fun j => if j = i then v else vs j, fun j => if j = i then nw else new j, by simp, fun j h4 h5 => ?_, ?_⟩
      · by_cases hj : j = i
        · subst hj
          refine ⟨o, b, hoi, by simpa using hb, by simpa using hnw, ?_⟩
          simp only [if_true, show ¬ j + 1 = j from by omega, if_false, h1]
        · obtain ⟨o', b', k1, k2, k3, k4⟩ := h2 j (by omega) (by simp only [List.length_cons] at h5; omega)
          refine ⟨o', b', k1, by simpa [hj] using k2, by simpa [hj] using k3, ?_⟩
          simp only [hj, if_false, show ¬ j + 1 = i from by omega]
          exact k4
      · simp only [List.length_cons, show ¬ i + (rest.length + 1) = i from by omega, if_false]
        rw [show i + (rest.length + 1) = i + 1 + rest.length from by omega]
        exact h3

/-- The slots, where only the operations of L have run. -/
def tm (ops : Array Oper) (v : Nat → AV) (L : Nat → Bool) (t0 : List AV) : Nat → List AV
  | 0 => t0
  | k + 1 => match (ops[k]?).bind (·.dst) with
    | some d => (tm ops v L t0 k).set d (if L k then v k else .unk)
    | none => tm ops v L t0 k

theorem tm_length {v : Nat → AV} {L : Nat → Bool} {t0 : List AV} : ∀ k, (tm ops v L t0 k).length = t0.length
  | 0 => rfl
  | k + 1 => by
    simp only [tm]
    split
    · rw [List.length_set, tm_length k]
    · exact tm_length k

theorem getD_set (l : List AV) (d e : Nat) (x : AV) : (l.set d x).getD e .unk = if d = e ∧ d < l.length then x else l.getD e .unk := by
  rw [List.getD_eq_getElem?_getD, List.getElem?_set, List.getD_eq_getElem?_getD]
  by_cases hde : d = e
  · subst hde
    by_cases hd : d < l.length
    · simp [hd]
    · simp [hd]
  · simp [hde]

/-- Where all that write the slot have run, it holds what the evaluator says. -/
theorem tm_all {S : Nat → St} {v : Nat → AV} {new : Nat → List Obj} {L : Nat → Bool} {m : Nat} (hS : ∀ j, j < m → TrStep E K ops S v new j) (d : Nat) : ∀ k, k ≤ m →
    (∀ i o, i < k → ops[i]? = some o → o.dst = some d → L i = true) → (tm ops v L (S 0).tmps k).getD d .unk = (S k).tmps.getD d .unk ∧ (S k).tmps.length = (S 0).tmps.length
  | 0, _, _ => ⟨rfl, rfl⟩
  | k + 1, hk, h => by
    obtain ⟨h1, h2⟩ := tm_all hS d k (by omega) fun i o hi => h i o (by omega)
    obtain ⟨o, b, k1, k2, k3, k4⟩ := hS k (by omega)
    simp only [tm, k1, Option.bind_some]
    rw [k4]
    cases hd : o.dst with
    | none => exact ⟨h1, h2⟩
    | some d' =>
      simp only [St.put]
      refine ⟨?_, by rw [List.length_set]; exact h2⟩
      rw [getD_set, getD_set, tm_length, h2]
      by_cases hdd : d' = d
      · subst hdd
        rw [h k o (by omega) k1 hd]
        simp only [if_true]
        split
        · rfl
        · exact h1
      · simp only [hdd, false_and, if_false]; exact h1

/-- One operation more has run. -/
theorem tm_other {v : Nat → AV} {L : Nat → Bool} {t0 : List AV} {j : Nat} {oj : Oper} (hj : ops[j]? = some oj) (d : Nat) : ∀ k, (k ≤ j ∨ oj.dst ≠ some d) →
    (tm ops v (fun i => if i = j then true else L i) t0 k).getD d .unk = (tm ops v L t0 k).getD d .unk
  | 0, _ => rfl
  | k + 1, h => by
    have ih := tm_other (v := v) (L := L) (t0 := t0) hj d k (h.imp_left (by omega))
    simp only [tm]
    cases ho : (ops[k]?).bind (·.dst) with
    | none => exact ih
    | some d' =>
      simp only
      rw [getD_set, getD_set, tm_length, tm_length, ih]
      by_cases hc : d' = d ∧ d' < t0.length
      · rw [if_pos hc, if_pos hc]
        have hkj : k ≠ j := by
          rintro rfl
          rw [hj] at ho
          rcases h with h | h
          · omega
          · exact h (by rw [← hc.1]; exact ho)
        simp [hkj]
      · rw [if_neg hc, if_neg hc]

theorem tm_new {v : Nat → AV} {L : Nat → Bool} {t0 : List AV} {j : Nat} {oj : Oper} (hj : ops[j]? = some oj) {d : Nat} (hd : oj.dst = some d) : ∀ k, j < k → (∀ i o, j < i → i < k → ops[i]? = some o → o.dst = some d → L i = false) →
    (tm ops v (fun i => if i = j then true else L i) t0 k).getD d .unk = .unk ∨ (tm ops v (fun i => if i = j then true else L i) t0 k).getD d .unk = v j
  | 0, h, _ => absurd h (by omega)
  | k + 1, h, hl => by
    simp only [tm]
    by_cases hkj : k = j
    · subst hkj
      rw [hj]
      simp only [Option.bind_some, hd]
      rw [getD_set, tm_length]
      by_cases hlt : d < t0.length
      · right; simp [hlt]
      · left
        simp only [hlt, and_false, if_false]
        rw [List.getD_eq_getElem?_getD, List.getElem?_eq_none (by rw [tm_length]; omega)]; rfl
    · have ih := tm_new (v := v) (L := L) (t0 := t0) hj hd k (by omega) fun i o h1 h2 => hl i o h1 (by omega)
      cases ho : ops[k]? with
      | none => exact ih
      | some o =>
        simp only [Option.bind_some]
        cases hod : o.dst with
        | none => exact ih
        | some d' =>
          simp only
          rw [getD_set]
          split
          · rename_i hc
            left
            have := hl k o (by omega) (by omega) ho (by rw [hod, hc.1])
            simp [this]
          · exact ih

end
end Ev

/- Regions that draw their order: one operation of the head, at any time. -/
namespace Ev
open Go (Value Addr Fn IntKind World Sem Program Operand Oper Result Act Ending Fence CallsIn RoundIn Exit Deferred Code wpOpIn wpAnyIn)

structure Grow (C0 : Cx) (w0 : World) (C : Cx) (w : World) : Prop where
  old : ∀ b, b < C0.H.length → C.ι b = C0.ι b
  mem : ∀ b o v, C0.M b o = some v → C.M b o = some v
  newmem : ∀ b o v, C.M b o = some v → C0.M b o = some v ∨ w0.heap.size ≤ b
  newloc : ∀ b blk off cap, C0.H.length ≤ b → C.ι b = some (.at blk off cap) → w0.heap.size ≤ blk
  frame : ∀ blk, blk < w0.heap.size → w.heap[blk]? = w0.heap[blk]?
  grow : w0.heap.size ≤ w.heap.size
  same : C.has = C0.has
  quiet : Quiet w0 w

section
variable {P : Program} {E : Env} {K : Sem'} {ops : Array Oper} {S : Nat → St} {v : Nat → AV} {new : Nat → List Obj} {m : Nat}

structure Inv (ops : Array Oper) (S : Nat → St) (v : Nat → AV) (m : Nat) (C0 : Cx) (w0 : World) (a0 : Act) (C : Cx) (L : Nat → Bool) (a : Act) (w : World) : Prop where
  heap : C.H = (S m).heap
  grow : Grow C0 w0 C w
  sim : ∀ k, k ≤ m → Sim (C.cut (S k).heap.length) w
  unl : ∀ i, i < m → L i = false → ∀ b, (S i).heap.length ≤ b → b < (S (i + 1)).heap.length → C.ι b = none
  slots : ∀ k, k ≤ m → ∀ d, (∀ i o, k ≤ i → i < m → ops[i]? = some o → o.dst = some d → L i = false) → AVal (C.cut (S k).heap.length) ((tm ops v L (S 0).tmps k).getD d .unk) (a.tmps.getD d Go.undef)
  size : a.tmps.size = a0.tmps.size
  defers : a.defers = a0.defers

theorem heap_step (hS : ∀ j, j < m → TrStep E K ops S v new j) {j : Nat} (hj : j < m) : (S (j + 1)).heap = (S j).heap ++ new j := by
  obtain ⟨o, b, _, _, _, h⟩ := hS j hj
  rw [h]; rfl

theorem heap_take (hS : ∀ j, j < m → TrStep E K ops S v new j) : ∀ (n j : Nat), j + n ≤ m → (S (j + n)).heap.take (S j).heap.length = (S j).heap ∧ (S j).heap.length ≤ (S (j + n)).heap.length
  | 0, j, _ => by simp
  | n + 1, j, h => by
    obtain ⟨h1, h2⟩ := heap_take hS n j (by omega)
    have := heap_step hS (j := j + n) (by omega)
    rw [← Nat.add_assoc, this]
    refine ⟨by rw [List.take_append_of_le_length h2, h1], by simp; omega⟩

theorem heap_le (hS : ∀ j, j < m → TrStep E K ops S v new j) {j k : Nat} (hj : j ≤ k) (hk : k ≤ m) : (S j).heap.length ≤ (S k).heap.length := by
  obtain ⟨n, rfl⟩ := Nat.exists_eq_add_of_le hj
  exact (heap_take hS n j hk).2

theorem heap_pre (hS : ∀ j, j < m → TrStep E K ops S v new j) {j k : Nat} (hj : j ≤ k) (hk : k ≤ m) : (S k).heap.take (S j).heap.length = (S j).heap := by
  obtain ⟨n, rfl⟩ := Nat.exists_eq_add_of_le hj
  exact (heap_take hS n j hk).1

theorem inv_add {C0 : Cx} {w0 : World} {a0 : Act} {C : Cx} {L : Nat → Bool} {a : Act} {w : World} (hS : ∀ j, j < m → TrStep E K ops S v new j) (h : Inv ops S v m C0 w0 a0 C L a w) (hC0 : C0.H.length = (S 0).heap.length) (hsz : (S 0).tmps.length ≤ a0.tmps.size)
    {j : Nat} {o : Oper} (hj : j < m) (ho : ops[j]? = some o) (hL : L j = false)
    (hlater : ∀ i oi d, j < i → i < m → ops[i]? = some oi → oi.dst = some d → o.dst = some d → L i = false)
    {C' : Cx} {w' : World} {rv : Value} (hc : Calm (C.cut (S j).heap.length) w C' w' (new j)) (hv : AVal C' (v j) rv) :
    ∃ D, Inv ops S v m C0 w0 a0 D (fun i => if i = j then true else L i) (a.put o.dst rv) w' := by
  let D : Cx := ⟨C'.M, fun b => if (S j).heap.length ≤ b ∧ b < (S (j + 1)).heap.length then C'.ι b else C.ι b, C.H, C.has⟩
  have hle : ∀ {i k}, i ≤ k → k ≤ m → (S i).heap.length ≤ (S k).heap.length := fun h1 h2 => heap_le hS h1 h2
  have hlen : ∀ k, k ≤ m → (C.cut (S k).heap.length).H.length = (S k).heap.length := fun k hk => by
    show (C.H.take _).length = _
    rw [List.length_take, h.heap, Nat.min_eq_left (hle hk (Nat.le_refl _))]
  have hCj : (C.cut (S j).heap.length).H = (S j).heap := by
    show C.H.take _ = _
    rw [h.heap]; exact heap_pre hS (by omega) (Nat.le_refl _)
  have hC' : C'.H = (S (j + 1)).heap := by rw [hc.heap, hCj, ← heap_step hS hj]
  have hDin : ∀ b, (S j).heap.length ≤ b → b < (S (j + 1)).heap.length → D.ι b = C'.ι b := fun b h1 h2 => by show (if _ then _ else _) = _; rw [if_pos ⟨h1, h2⟩]
  have hDout : ∀ b, ¬ ((S j).heap.length ≤ b ∧ b < (S (j + 1)).heap.length) → D.ι b = C.ι b := fun b h1 => by show (if _ then _ else _) = _; rw [if_neg h1]
  have hgetC' : ∀ k, j < k → k ≤ m → ∀ b, b < (S (j + 1)).heap.length → (C.H.take (S k).heap.length)[b]? = C'.H[b]? := fun k h1 h2 b hb => by
    rw [List.getElem?_take_of_lt (Nat.lt_of_lt_of_le hb (hle (show j + 1 ≤ k from h1) h2)), h.heap, hC', ← heap_pre hS (show j + 1 ≤ m from hj) (Nat.le_refl _), List.getElem?_take_of_lt hb]
  -- what was represented is so still
  have rD : ∀ k, k ≤ m → RenOK (C.cut (S k).heap.length) some (D.cut (S k).heap.length) := fun k hk => by
    refine ⟨hc.mem, rfl, fun b c e hb => ?_⟩
    cases e
    refine ⟨hb, fun loc hl => ?_, _, _, List.getElem?_eq_getElem hb, List.getElem?_eq_getElem hb, rfl, rfl⟩
    have hl' : (if b < (S k).heap.length then C.ι b else none) = some loc := hl
    show (if b < (S k).heap.length then D.ι b else none) = some loc
    split at hl'
    · rename_i hbk
      rw [if_pos hbk]
      by_cases hr : (S j).heap.length ≤ b ∧ b < (S (j + 1)).heap.length
      · rw [h.unl j hj hL b hr.1 hr.2] at hl'; cases hl'
      · rw [hDout b hr]; exact hl'
    · cases hl'
  have rG : ∀ k, j < k → k ≤ m → RenOK C' some (D.cut (S k).heap.length) := fun k h1 h2 => by
    refine ⟨fun _ _ _ h => h, hc.same.symm, fun b c e hb => ?_⟩
    cases e
    have hb' : b < (S (j + 1)).heap.length := by rw [← hC']; exact hb
    have hbk : b < (S k).heap.length := Nat.lt_of_lt_of_le hb' (hle (show j + 1 ≤ k from h1) h2)
    have hg : (D.cut (S k).heap.length).H[b]? = C'.H[b]? := hgetC' k h1 h2 b hb'
    refine ⟨by show b < (C.H.take _).length; rw [List.length_take, h.heap, Nat.min_eq_left (hle h2 (Nat.le_refl _))]; exact hbk, fun loc hl => ?_, _, _, List.getElem?_eq_getElem hb, by rw [hg]; exact List.getElem?_eq_getElem hb, rfl, rfl⟩
    show (if b < (S k).heap.length then D.ι b else none) = some loc
    rw [if_pos hbk]
    by_cases hr : (S j).heap.length ≤ b
    · rw [hDin b hr hb']; exact hl
    · rw [hDout b (by omega)]
      have := hc.old b (by rw [hlen j (by omega)]; omega)
      rw [this] at hl
      have hl' : (if b < (S j).heap.length then C.ι b else none) = some loc := hl
      rw [if_pos (by omega)] at hl'
      exact hl'
  have hsim : ∀ k, k ≤ m → Sim (D.cut (S k).heap.length) w' := fun k hk => by
    by_cases hkj : k ≤ j
    · refine Sim.merge (h.sim k hk) hc.sim (ρ := fun _ => none) rfl (rD k hk) ⟨fun _ _ _ h => h, hc.same.symm, fun b c e => by cases e⟩ hc.newmem hc.frame fun b loc hb => .inl ?_
      have hb' : (if b < (S k).heap.length then D.ι b else none) = some loc := hb
      split at hb'
      · rename_i hbk
        have := hle hkj (by omega)
        rw [hDout b (by omega)] at hb'
        refine ⟨?_, rfl⟩
        show (if b < (S k).heap.length then C.ι b else none) = some loc
        rw [if_pos hbk]; exact hb'
      · cases hb'
    · have hjk : j < k := by omega
      refine Sim.merge (h.sim k hk) hc.sim (ρ := some) rfl (rD k hk) (rG k hjk hk) hc.newmem hc.frame fun b loc hb => ?_
      have hb' : (if b < (S k).heap.length then D.ι b else none) = some loc := hb
      split at hb'
      case isFalse => cases hb'
      rename_i hbk
      by_cases hr : (S j).heap.length ≤ b ∧ b < (S (j + 1)).heap.length
      · right
        rw [hDin b hr.1 hr.2] at hb'
        refine ⟨b, hb', ?_, fun blk off cap e => ?_, rfl⟩
        · have : (D.cut (S k).heap.length).H[b]? = C'.H[b]? := hgetC' k hjk hk b hr.2
          rw [this]
          cases C'.H[b]? with
          | none => rfl
          | some x => simp [Obj.ren_self]
        · subst e
          exact hc.newloc b blk off cap (by rw [hlen j (by omega)]; exact hr.1) hb'
      · left
        rw [hDout b hr] at hb'
        refine ⟨?_, rfl⟩
        show (if b < (S k).heap.length then C.ι b else none) = some loc
        rw [if_pos hbk]; exact hb'
  have hgrow0 := h.grow
  refine ⟨D, ⟨h.heap, ⟨fun b hb => ?_, fun b o v hv => hc.mem _ _ _ (hgrow0.mem _ _ _ hv), fun b o v hv => ?_, fun b blk off cap hb hi => ?_, fun blk hb => ?_, Nat.le_trans hgrow0.grow hc.grow, hgrow0.same, hgrow0.quiet.trans hc.quiet⟩, hsim, fun i hi hLi b h1 h2 => ?_, fun k hk d hd => ?_, by rw [Act.put_size]; exact h.size, by rw [Act.put_def]; exact h.defers⟩⟩
  · have := hle (Nat.zero_le j) (by omega)
    rw [hDout b (by omega)]; exact hgrow0.old b hb
  · rcases hc.newmem b o v hv with k | k
    · exact hgrow0.newmem b o v k
    · exact .inr (Nat.le_trans hgrow0.grow k)
  · by_cases hr : (S j).heap.length ≤ b ∧ b < (S (j + 1)).heap.length
    · rw [hDin b hr.1 hr.2] at hi
      exact Nat.le_trans hgrow0.grow (hc.newloc b blk off cap (by rw [hlen j (by omega)]; exact hr.1) hi)
    · rw [hDout b hr] at hi
      exact hgrow0.newloc b blk off cap hb hi
  · rw [hc.frame blk (Nat.lt_of_lt_of_le hb hgrow0.grow)]; exact hgrow0.frame blk hb
  · have hij : i ≠ j := by rintro rfl; simp at hLi
    have hLi' : L i = false := by simpa [hij] using hLi
    have hr : ¬ ((S j).heap.length ≤ b ∧ b < (S (j + 1)).heap.length) := by
      intro hr
      rcases Nat.lt_or_gt_of_ne hij with hlt | hgt
      · have := hle (show i + 1 ≤ j from hlt) (by omega); omega
      · have := hle (show j + 1 ≤ i from hgt) (by omega); omega
    rw [hDout b hr]
    exact h.unl i hi hLi' b h1 h2
  · have hd' : ∀ i oi, k ≤ i → i < m → ops[i]? = some oi → oi.dst = some d → i ≠ j ∧ L i = false := fun i oi h1 h2 h3 h4 => by
      have := hd i oi h1 h2 h3 h4
      by_cases hij : i = j
      · simp [hij] at this
      · exact ⟨hij, by simpa [hij] using this⟩
    by_cases hdj : o.dst = some d
    · have hjk : j < k := by
        rcases Nat.lt_or_ge j k with h1 | h1
        · exact h1
        · exact absurd rfl (hd' j o h1 hj ho hdj).1
      have hput : (a.put o.dst rv).tmps.getD d Go.undef = rv ∨ (a.put o.dst rv).tmps.size ≤ d := by
        rw [hdj]
        simp only [Act.put]
        by_cases hlt : d < a.tmps.size
        · left; simp [hlt]
        · right; simpa using hlt
      rcases tm_new (v := v) (L := L) (t0 := (S 0).tmps) ho hdj k hjk (fun i oi h1 h2 h3 h4 => hlater i oi d h1 (by omega) h3 h4 hdj) with e | e
      · rw [e]; exact AVal.unk
      · rw [e]
        rcases hput with hp | hp
        · rw [hp]
          have := AR.ren (rG k hjk hk) true _ _ hv
          rwa [AV.ren_self] at this
        · have htl : (tm ops v (fun i => if i = j then true else L i) (S 0).tmps k).getD d .unk = .unk := by
            rw [List.getD_eq_getElem?_getD, List.getElem?_eq_none]
            · rfl
            · rw [tm_length]; rw [Act.put_size, h.size] at hp; omega
          rw [← e, htl]; exact AVal.unk
    · rw [tm_other ho d k (.inr hdj)]
      have hold := h.slots k hk d fun i oi h1 h2 h3 h4 => (hd' i oi h1 h2 h3 h4).2
      have hsame : (a.put o.dst rv).tmps.getD d Go.undef = a.tmps.getD d Go.undef := by
        cases hod : o.dst with
        | none => rfl
        | some d' =>
          have hne : d' ≠ d := fun e => hdj (by rw [hod, e])
          simp [Act.put, Array.getElem?_setIfInBounds_ne hne]
      rw [hsame]
      have := AR.ren (rD k hk) true _ _ hold
      rwa [AV.ren_self] at this

end
end Ev

/- Regions that draw their order, whole. -/
namespace Ev
open Go (Value Addr Fn IntKind World Sem Program Operand Oper Result Act Ending Fence CallsIn RoundIn Exit Deferred Code wpOpIn wpAnyIn)

section
variable {P : Program} {E : Env} {K : Sem'} {ops : Array Oper} {S : Nat → St} {v : Nat → AV} {new : Nat → List Obj} {m : Nat} {B : Cx} {w0 : World} {N : Nat}

/-- The slots that the operation does not look at forgotten. -/
def maskT (l : List AV) (looks : List Go.Tmp) : List AV := (List.range l.length).map fun d => if d ∈ looks then l.getD d .unk else .unk

theorem maskT_get (l : List AV) (looks : List Go.Tmp) (d : Nat) : (maskT l looks).getD d .unk = if d ∈ looks then l.getD d .unk else .unk := by
  unfold maskT
  rw [List.getD_eq_getElem?_getD, List.getElem?_map]
  by_cases hd : d < l.length
  · simp [List.getElem?_range hd]
  · rw [List.getElem?_eq_none (by simpa using hd), List.getD_eq_getElem?_getD, List.getElem?_eq_none (by omega)]
    simp

theorem opnd_mask (o : Oper) (l : List AV) (x : Operand) (hx : x ∈ o.op.operands) : E.opnd l x = E.opnd (maskT l (looksA ops o)) x := by
  cases x with
  | tmp t =>
    simp only [Env.opnd]
    rw [maskT_get, if_pos]
    exact List.mem_append_left _ (List.mem_filterMap.2 ⟨.tmp t, by simpa using hx, rfl⟩)
  | _ => rfl

theorem wanted_mask (o : Oper) (l : List AV) : wantedA ops (maskT l (looksA ops o)) o = wantedA ops l o := by
  unfold wantedA
  cases hg : o.guard with
  | none => rfl
  | some g =>
    obtain ⟨j, want⟩ := g
    simp only
    cases ht : (ops[j]?).bind (·.dst) with
    | none => rfl
    | some t =>
      simp only
      rw [maskT_get, if_pos]
      simp [looksA, hg, ht]

/-- All that an operation rests on has run. -/
def Closed (ops : Array Oper) (L : Nat → Bool) : Prop := ∀ j o, ops[j]? = some o → L j = true → ∀ e ∈ o.after, Go.Region.binds .any e = true → L e.on = true

theorem Closed.bit {L : Nat → Bool} (h : Closed ops L) {j : Nat} {o : Oper} (ho : ops[j]? = some o) (hr : L j = true ∨ ∀ e ∈ o.after, Go.Region.binds .any e = true → L e.on = true) {i : Nat}
    (hb : ((Go.Region.before ops).getD j 0).testBit i = true) : L i = true :=
  before_ok ops (fun i => L i = true) h j o i ho (hr.elim (fun h' => h j o ho h') id) hb

theorem head_step {F : Fence} (hF : Wide F) (hK : KSound E P K) (hE : EnvOK E P) (hdraw : drawOk ops m = true) {C0 : Cx} {w1 : World} {a0 : Act} {C : Cx} {L : Nat → Bool} {a : Act} {w : World} (hS : ∀ j, j < m → TrStep E K ops S v new j)
    (hhas : C0.has = E.has 10) (hglob : GlobOK E C0.M) (h : Inv ops S v m C0 w1 a0 C L a w) (hC0 : C0.H.length = (S 0).heap.length) (hsz : (S 0).tmps.length ≤ a0.tmps.size) (hcl : Closed ops L)
    {j : Nat} {o : Oper} (hj : j < m) (ho : ops[j]? = some o) (hL : L j = false) (hready : ∀ e ∈ o.after, Go.Region.binds .any e = true → L e.on = true)
    {Q : Exit → Act → World → Prop} {Kont : Act → World → Prop}
    (hk : ∀ D a' w', Inv ops S v m C0 w1 a0 D (fun i => if i = j then true else L i) a' w' → Kont a' w') : wpOpIn F 0 P ops Q j Kont a w := by
  have spec := drawOk_spec hdraw
  obtain ⟨o', b, ho', hb, hcalm, hnext⟩ := hS j hj
  rw [ho] at ho'; cases ho'
  have hearly : ∀ d, d ∈ looksA ops o → ∀ i oi, i < j → ops[i]? = some oi → oi.dst = some d → L i = true := by
    intro d hd i oi hi hoi hdi
    rcases (spec j o ho).2 i hi with k | ⟨_, k⟩ | k
    · exact hcl.bit ho (.inr hready) k
    · exact absurd hd ((apartA_spec (k oi hoi)).1 d hdi)
    · exact absurd k.tail (by omega)
  have hlate : ∀ d, d ∈ looksA ops o → ∀ i oi, j ≤ i → i < m → ops[i]? = some oi → oi.dst = some d → L i = false := by
    intro d hd i oi hi him hoi hdi
    by_cases hij : i = j
    · rw [hij]; exact hL
    · rcases (spec i oi hoi).2 j (by omega) with k | ⟨_, k⟩ | k
      · cases hLi : L i with
        | false => rfl
        | true => have := hcl.bit hoi (.inl hLi) k; rw [hL] at this; cases this
      · exact absurd hd ((apartA_spec (k o ho)).2.2 d hdi)
      · exact absurd k.tail (by omega)
  have hlater : ∀ i oi d, j < i → i < m → ops[i]? = some oi → oi.dst = some d → o.dst = some d → L i = false := by
    intro i oi d hi him hoi hdi hdo
    rcases (spec i oi hoi).2 j hi with k | ⟨_, k⟩ | k
    · cases hLi : L i with
      | false => rfl
      | true => have := hcl.bit hoi (.inl hLi) k; rw [hL] at this; cases this
    · exact absurd hdi ((apartA_spec (k o ho)).2.1 d hdo)
    · exact absurd k.tail (by omega)
  have hslots : SlotsOK (C.cut (S j).heap.length) (maskT (S j).tmps (looksA ops o)) a.tmps := by
    have hlen := (tm_all hS 0 j (by omega) (L := fun _ => true) (fun _ _ _ _ _ => rfl)).2
    refine ⟨by rw [h.size]; simp [maskT, hlen, hsz], fun d => ?_⟩
    rw [maskT_get]
    split
    · rename_i hd
      have := h.slots j (by omega) d (hlate d hd)
      rwa [(tm_all hS d j (by omega) (fun i oi hi h1 h2 => hearly d hd i oi hi h1 h2)).1] at this
    · exact AVal.unk
  have okj : Ok E P (C.cut (S j).heap.length) w := ⟨hE, h.grow.same.trans hhas, hglob.mono h.grow.mem, h.sim j (by omega)⟩
  have hwant : Go.Region.wanted o (Go.yielded ops a.tmps) = b := wanted_ok hslots (by rw [wanted_mask]; exact hb)
  have hheap : (C.cut (S j).heap.length).H = (S j).heap := by
    show C.H.take _ = _
    rw [h.heap]; exact heap_pre hS (by omega) (Nat.le_refl _)
  unfold wpOpIn
  simp only [ho, hwant]
  cases b with
  | false =>
    simp only [Bool.false_eq_true, if_false] at hcalm ⊢
    refine ⟨fun f _ => hF.fn f, ?_⟩
    obtain ⟨D, hD⟩ := inv_add hS h hC0 hsz hj ho hL hlater (C' := C.cut (S j).heap.length) (w' := w) (rv := Go.undef) (by rw [hcalm.2]; exact .refl (h.sim j (by omega))) (by rw [hcalm.1]; simp [AVal, AR, AVs, Go.undef])
    exact hk D _ _ hD
  | true =>
    simp only [if_true] at hcalm ⊢
    rw [calm_congr o (opnd_mask (ops := ops) o _), ← hheap] at hcalm
    refine calmStep_ok hF hK okj hslots hcalm _ Q fun C' w' rv hc hv => ?_
    obtain ⟨D, hD⟩ := inv_add hS h hC0 hsz hj ho hL hlater hc hv
    exact hk D _ _ hD

theorem cut_self {C : Cx} {w : World} (h : Sim C w) : C.cut C.H.length = C := by
  obtain ⟨M, ι, H, has⟩ := C
  simp only [Cx.cut, Cx.mk.injEq, true_and]
  refine ⟨funext fun b => ?_, by simp, trivial⟩
  split
  · rfl
  · rename_i hb
    cases hi : ι b with
    | none => rfl
    | some loc => exact absurd (h.idlt hi) hb

end
end Ev

/- Regions that draw their order: to the end. -/
namespace Ev
open Go (Value Addr Fn IntKind World Sem Program Operand Oper Result Act Ending Fence CallsIn RoundIn Exit Deferred Code wpOpIn wpAnyIn)

theorem exists_min' {p : Nat → Prop} (h : ∃ n, p n) : ∃ n, p n ∧ ∀ m, p m → n ≤ m := by
  obtain ⟨n, hn⟩ := h
  induction n using Nat.strongRecOn with
  | _ n ih =>
    by_cases hx : ∃ m, m < n ∧ p m
    · obtain ⟨m, h1, h2⟩ := hx; exact ih m h1 h2
    · exact ⟨n, hn, fun m hm => Nat.le_of_not_lt fun hlt => hx ⟨m, hlt, hm⟩⟩

section
variable {P : Program} {E : Env} {K : Sem'} {ops : Array Oper} {B : Cx} {w0 : World} {N : Nat}

theorem op_step {F : Fence} (hF : Wide F) (hK : KSound E P K) {Q : Exit → Act → World → Prop} {i : Nat} {o : Oper} (hoi : ops[i]? = some o) {s : St} {a : Act} {w : World} {rs : Res} {H' : Heap}
    (hstep : E.step K ops s o = some (rs, H')) (hat : At E P B w0 N s a w) {Kont : Act → World → Prop}
    (hn : match rs with
      | .ret v => ∀ a' w', At E P B w0 N (s.put o.dst v H') a' w' → Kont a' w'
      | .panic v => ∀ e a' w', Out E P B w0 N (.panic v) ⟨s.tmps, H'⟩ e a' w' → Q e a' w') : wpOpIn F 0 P ops Q i Kont a w := by
  simp only [Env.step, Option.bind_eq_some_iff] at hstep
  obtain ⟨b, hb, hstep⟩ := hstep
  obtain ⟨C, ok, hx, hH, hs, hN, hm, _⟩ := hat
  unfold wpOpIn
  simp only [hoi]
  rw [wanted_ok hs hb]
  cases b with
  | false =>
    simp only [Bool.false_eq_true, if_false, Option.some.injEq, Prod.mk.injEq] at hstep ⊢
    obtain ⟨rfl, rfl⟩ := hstep
    exact ⟨fun f _ => hF.fn f, hn _ w ⟨C, ok, hx, hH, hs.put' o.dst AVal.und _ _ rfl, by rw [Act.put_size]; exact hN, by rw [Act.put_def]; exact hm, trivial⟩⟩
  | true =>
    simp only [if_true] at hstep ⊢
    rw [← hH] at hstep
    refine run_ok hF hK ok hs hstep _ Q fun C' w' ok' hx' hH' => ?_
    have hm' := hm.step hx'
    cases rs with
    | ret v =>
      intro rv hv
      exact hn _ w' ⟨C', ok', hx.trans hx', hH', (hs.mono hx'.le).put' o.dst hv _ _ rfl, by rw [Act.put_size]; exact hN, by rw [Act.put_def]; exact hm', trivial⟩
    | panic v =>
      intro rv hv
      exact hn _ _ _ ⟨C', ok', hx.trans hx', hH', hs.mono hx'.le, hN, hm', rv, rfl, hv⟩

theorem op_ok {F : Fence} (hF : Wide F) (hK : KSound E P K) {Q : Exit → Act → World → Prop} {R : Type} {k : Ex → St → Option R} {r : R}
    (hk : ∀ ex s' e a' w', k ex s' = some r → Out E P B w0 N ex s' e a' w' → Q e a' w') {i : Nat} {o : Oper} {rest : List Oper} (hoi : ops[i]? = some o) {s : St} {a : Act} {w : World} (h : E.ops K ops (o :: rest) s k = some r) (hat : At E P B w0 N s a w)
    {Kont : Act → World → Prop} (hn : ∀ s' a' w', E.ops K ops rest s' k = some r → At E P B w0 N s' a' w' → Kont a' w') : wpOpIn F 0 P ops Q i Kont a w := by
  simp only [Env.ops, Option.bind_eq_some_iff] at h
  obtain ⟨⟨rs, H'⟩, hstep, h⟩ := h
  refine op_step hF hK hoi hstep hat ?_
  cases rs with
  | ret v => exact fun a' w' hat' => hn _ a' w' h hat'
  | panic v => exact fun e a' w' ho => hk _ _ _ _ _ h ho

/-! ### What may be overtaken -/

open Classical in
/-- The slots in u forgotten. -/
noncomputable def hideT (u : Nat → Prop) (l : List AV) : List AV := (List.range l.length).map fun d => if u d then .unk else l.getD d .unk

theorem hideT_len (u : Nat → Prop) (l : List AV) : (hideT u l).length = l.length := by simp [hideT]

open Classical in
theorem hideT_get (u : Nat → Prop) (l : List AV) (d : Nat) : (hideT u l).getD d .unk = if u d then .unk else l.getD d .unk := by
  unfold hideT
  rw [List.getD_eq_getElem?_getD, List.getElem?_map]
  by_cases hd : d < l.length
  · simp [List.getElem?_range hd]
  · rw [List.getElem?_eq_none (by simpa using hd), List.getD_eq_getElem?_getD, List.getElem?_eq_none (by omega)]
    simp

theorem listD_ext {l l' : List AV} (hl : l.length = l'.length) (h : ∀ d, l.getD d .unk = l'.getD d .unk) : l = l' := by
  apply List.ext_getElem hl
  intro n h1 h2
  have := h n
  rw [List.getD_eq_getElem?_getD, List.getD_eq_getElem?_getD, List.getElem?_eq_getElem h1, List.getElem?_eq_getElem h2] at this
  simpa using this

theorem hideT_none {u : Nat → Prop} (hu : ∀ d, ¬ u d) (l : List AV) : hideT u l = l := by
  refine listD_ext (hideT_len u l) fun d => ?_
  rw [hideT_get, if_neg (hu d)]

theorem hideT_set {u u' : Nat → Prop} {l : List AV} {d : Nat} {v : AV} (hu : ∀ e, u' e ↔ u e ∧ e ≠ d) (hv : d < l.length → l.getD d .unk = v) : (hideT u l).set d v = hideT u' l := by
  refine listD_ext (by rw [List.length_set, hideT_len, hideT_len]) fun e => ?_
  rw [getD_set, hideT_len, hideT_get, hideT_get]
  by_cases he : d = e
  · subst he
    by_cases hd : d < l.length
    · rw [if_pos ⟨rfl, hd⟩, if_neg (fun h => ((hu d).1 h).2 rfl)]; exact (hv hd).symm
    · rw [if_neg (fun h => hd h.2), if_neg (fun h => ((hu d).1 h).2 rfl)]
      have : l.getD d .unk = .unk := by rw [List.getD_eq_getElem?_getD, List.getElem?_eq_none (by omega)]; rfl
      rw [this]; split <;> rfl
  · rw [if_neg (fun h => he h.1)]
    by_cases hue : u e
    · rw [if_pos hue, if_pos ((hu e).2 ⟨hue, fun h => he h.symm⟩)]
    · rw [if_neg hue, if_neg (fun h => hue ((hu e).1 h).1)]

theorem opnd_hide {u : Nat → Prop} {l : List AV} (o : Oper) (h : ∀ d, u d → d ∉ looksA ops o) (x : Operand) (hx : x ∈ o.op.operands) : E.opnd (hideT u l) x = E.opnd l x := by
  cases x with
  | tmp t =>
    simp only [Env.opnd]
    rw [hideT_get, if_neg]
    intro hu
    exact h t hu (List.mem_append_left _ (List.mem_filterMap.2 ⟨.tmp t, by simpa using hx, rfl⟩))
  | _ => rfl

theorem late_calm {tmps tmps' : List AV} {H H' : Heap} {o : Oper} {v : AV} {nw : List Obj} (hl : lateKind o = true) (h : E.calm K tmps H o = some (v, nw)) (hρ : ∀ x ∈ o.op.operands, E.opnd tmps x = E.opnd tmps' x)
    (hH : ∀ t a, o.op = .load t a → ∀ b π, E.opnd tmps a = .ref b π → ∀ ob, H[b]? = some ob → H'[b]? = some ob) : nw = [] ∧ E.calm K tmps' H' o = some (v, []) := by
  rw [← calm_congr (H := H') o hρ]
  unfold lateKind at hl
  simp only [Bool.and_eq_true] at hl
  replace hl := hl.2
  obtain ⟨dst, op, type, pos, after, guard⟩ := o
  cases op
  all_goals try (simp at hl; done)
  case load t a =>
    simp only [Env.calm, Option.map_eq_some_iff, Prod.mk.injEq] at h ⊢
    obtain ⟨x, h1, h2, h3⟩ := h
    refine ⟨h3.symm, x, ?_, h2, trivial⟩
    unfold Env.loadA at h1 ⊢
    simp only [Option.bind_eq_some_iff] at h1 ⊢
    obtain ⟨ty, h4, h5⟩ := h1
    refine ⟨ty, h4, ?_⟩
    cases ha : E.opnd tmps a with
    | ref b π =>
      simp only [ha, Option.bind_eq_some_iff] at h5 ⊢
      obtain ⟨ob, h6, h7⟩ := h5
      exact ⟨ob, hH t a rfl b π ha ob h6, h7⟩
    | pp d => simp only [ha] at h5 ⊢; exact h5
    | _ => simp [ha] at h5
  case fieldAddr t x f =>
    simp only [Env.calm, Option.map_eq_some_iff, Prod.mk.injEq] at h ⊢
    obtain ⟨x, h1, h2, h3⟩ := h
    exact ⟨h3.symm, x, h1, h2, trivial⟩
  case extract x f =>
    simp only [Env.calm] at h ⊢
    split at h
    · simp only [Option.map_eq_some_iff, Prod.mk.injEq] at h ⊢
      obtain ⟨x, h1, h2, h3⟩ := h
      exact ⟨h3.symm, x, h1, h2, trivial⟩
    · cases h
  case move x =>
    simp only [Env.calm, Option.some.injEq, Prod.mk.injEq] at h ⊢
    exact ⟨h.2.symm, h.1, trivial⟩
  case assign x =>
    simp only [Env.calm, Option.some.injEq, Prod.mk.injEq] at h ⊢
    exact ⟨h.2.symm, h.1, trivial⟩

theorem late_run {tmps : List AV} {H : Heap} {o : Oper} {v : AV} (hl : lateKind o = true) (h : E.calm K tmps H o = some (v, [])) : E.step K ops ⟨tmps, H⟩ o = some (.ret v, H) := by
  unfold lateKind at hl
  simp only [Bool.and_eq_true, Option.isNone_iff_eq_none] at hl
  obtain ⟨⟨hg, _⟩, hl⟩ := hl
  have hr : E.run K tmps H o = some (.ret v, H) := by
    obtain ⟨dst, op, type, pos, after, guard⟩ := o
    cases op
    all_goals first | (simp at hl; done) | (simp only [Env.run, settleOps, List.map_nil, settles, List.foldl_nil, Env.run0]; rw [h]; simp)
  simp only [Env.step, wantedA, hg, Option.bind_some, if_true]
  exact hr

theorem st_run {tmps : List AV} {H : Heap} {o : Oper} {t : Go.Tmp} (hl : stAddr o = some t) {r : Res × Heap} (h : E.step K ops ⟨tmps, H⟩ o = some r) :
    o.dst = none ∧ o.guard = none ∧ ∃ ty x, o.op = .store ty (.tmp t) x ∧ ∃ H', E.storeA H ty (E.opnd tmps (.tmp t)) (E.fixNil ty (E.opnd tmps x)) = some H' ∧ r = (.ret .unk, H') := by
  unfold stAddr at hl
  split at hl
  case isFalse => cases hl
  rename_i hg
  simp only [Bool.and_eq_true, Option.isNone_iff_eq_none] at hg
  refine ⟨hg.2, hg.1, ?_⟩
  obtain ⟨dst, op, type, pos, after, guard⟩ := o
  simp only at hl hg
  split at hl
  case h_2 => cases hl
  rename_i ty t' x
  cases hl
  refine ⟨ty, x, rfl, ?_⟩
  simp only [Env.step, wantedA, hg.1, Option.bind_some, if_true, Env.run, settleOps, List.map_nil, settles, List.foldl_nil, Env.run0, Option.map_eq_some_iff] at h
  obtain ⟨H', h1, rfl⟩ := h
  exact ⟨H', h1, rfl⟩

theorem store_set {H H' : Heap} {ty : Nat} {x v : AV} (h : E.storeA H ty x v = some H') : ∃ b π o', x = .ref b π ∧ H' = H.set b o' := by
  unfold Env.storeA at h
  simp only [Option.bind_eq_some_iff] at h
  obtain ⟨_, _, h⟩ := h
  cases x with
  | ref b π =>
    simp only [Option.bind_eq_some_iff, Option.ite_none_right_eq_some, Option.map_eq_some_iff] at h
    obtain ⟨_, _, _, o', _, h⟩ := h
    exact ⟨b, π, o', rfl, h.symm⟩
  | _ => cases h

/-- What no operation writes holds at the end what it held. -/
theorem ops_end {R : Type} {k : Ex → St → Option R} {r : R} : ∀ (rest : List Oper) (s : St), E.ops K ops rest s k = some r → ∃ e s', k e s' = some r ∧ ∀ d, (∀ o ∈ rest, o.dst ≠ some d) → s'.tmps.getD d .unk = s.tmps.getD d .unk
  | [], s, h => ⟨.normal, s, h, fun _ _ => rfl⟩
  | o :: rest, s, h => by
    simp only [Env.ops, Option.bind_eq_some_iff] at h
    obtain ⟨⟨rs, H'⟩, _, h⟩ := h
    cases rs with
    | panic v => exact ⟨_, _, h, fun _ _ => rfl⟩
    | ret v =>
      obtain ⟨e, s', h1, h2⟩ := ops_end rest _ h
      refine ⟨e, s', h1, fun d hd => (h2 d fun o' ho' => hd o' (by simp [ho'])).trans ?_⟩
      have := hd o (by simp)
      cases hod : o.dst with
      | none => rfl
      | some d' =>
        simp only [St.put]
        rw [getD_set, if_neg]
        rintro ⟨e, _⟩
        exact this (by rw [hod, e])

theorem tr_same {S : Nat → St} {v : Nat → AV} {new : Nat → List Obj} {m : Nat} (hS : ∀ j, j < m → TrStep E K ops S v new j) {i : Nat} (d : Nat) : ∀ n, i + n ≤ m → (∀ i' o, i ≤ i' → i' < i + n → ops[i']? = some o → o.dst ≠ some d) →
    (S (i + n)).tmps.getD d .unk = (S i).tmps.getD d .unk
  | 0, _, _ => rfl
  | n + 1, hn, h => by
    obtain ⟨o, b, k1, k2, k3, k4⟩ := hS (i + n) (by omega)
    rw [← Nat.add_assoc, k4]
    have ih := tr_same hS d n (by omega) fun i' o' h1 h2 => h i' o' h1 (by omega)
    have hne := h (i + n) o (by omega) (by omega) k1
    cases hod : o.dst with
    | none => exact ih
    | some d' =>
      simp only [St.put]
      rw [getD_set, if_neg]
      · exact ih
      · rintro ⟨e, _⟩
        exact hne (by rw [hod, e])

theorem tm_none {v : Nat → AV} {t0 : List AV} (d : Nat) : ∀ k, (tm ops v (fun _ => false) t0 k).getD d .unk = .unk ∨ (tm ops v (fun _ => false) t0 k).getD d .unk = t0.getD d .unk
  | 0 => .inr rfl
  | k + 1 => by
    simp only [tm]
    cases (ops[k]?).bind (·.dst) with
    | none => exact tm_none d k
    | some d' =>
      simp only
      rw [getD_set]
      split
      · left; simp
      · exact tm_none d k

theorem farA_congr {tmps tmps' : List AV} {las sas : List Operand} (h1 : ∀ x ∈ las, E.opnd tmps x = E.opnd tmps' x) (h2 : ∀ x ∈ sas, E.opnd tmps x = E.opnd tmps' x) : E.farA tmps las sas = E.farA tmps' las sas := by
  unfold Env.farA
  rw [List.map_congr_left h1, List.map_congr_left h2]

theorem farA_spec {tmps : List AV} {las sas : List Operand} (h : E.farA tmps las sas = true) {a x : Operand} (ha : a ∈ las) (hx : x ∈ sas) {b b' : Nat} {π π' : List Stp} (e1 : E.opnd tmps a = .ref b π) (e2 : E.opnd tmps x = .ref b' π') : b ≠ b' := by
  unfold Env.farA at h
  rw [List.all_eq_true] at h
  have := h _ (List.mem_map.2 ⟨a, ha, rfl⟩)
  rw [e1] at this
  simp only [farV, List.all_eq_true] at this
  have := this _ (List.mem_map.2 ⟨x, hx, rfl⟩)
  rw [e2] at this
  simpa [farR] using this

theorem draw_ok {F : Fence} (hF : Wide F) (hK : KSound E P K) {Q : Exit → Act → World → Prop} {R : Type} {k : Ex → St → Option R} {r : R}
    (hk : ∀ ex s' e a' w', k ex s' = some r → Out E P B w0 N ex s' e a' w' → Q e a' w') {an : Ann} {s : St} {a : Act} {w : World} (h : E.region K ops true an s k = some r) (hat : At E P B w0 N s a w) :
    wpAnyIn F 0 P .any ops Q ops.size (Array.replicate ops.size false) a w := by
  unfold Env.region at h
  simp only [if_true] at h
  split at h
  case isFalse => cases h
  rename_i hdraw
  generalize hm : headAt ops an = m at h hdraw
  generalize hk2 : (fun e (s'' : St) => if E.farA s''.tmps (lateA ops m).1 (lateA ops m).2 = true then k e s'' else none) = k2 at h
  have hk2s : ∀ e s', k2 e s' = some r → E.farA s'.tmps (lateA ops m).1 (lateA ops m).2 = true ∧ k e s' = some r := by
    intro e s' h
    rw [← hk2] at h
    simp only [Option.ite_none_right_eq_some] at h
    exact h
  have hkk : ∀ ex s' e a' w', k2 ex s' = some r → Out E P B w0 N ex s' e a' w' → Q e a' w' := fun _ _ _ _ _ h ho => hk _ _ _ _ _ (hk2s _ _ h).2 ho
  have hms : m ≤ ops.size := drawOk_le hdraw
  have hlen : (ops.toList.take m).length = m := by simp [hms]
  obtain ⟨S, v, new, hS0, hS, hend⟩ := trace_ex (E := E) (K := K) (ops.toList.take m) 0 s (fun j hj => by
    rw [hlen] at hj
    rw [Nat.zero_add, List.getElem?_take_of_lt hj]; simp) h
  rw [hlen, Nat.zero_add] at hend
  have hS : ∀ j, j < m → TrStep E K ops S v new j := fun j hj => hS j (Nat.zero_le _) (by rw [hlen]; omega)
  have spec := drawOk_spec hdraw
  obtain ⟨C0, ok, hx, hH, hs, hN, hmk, _⟩ := hat
  have hC0H : C0.H = (S 0).heap := by rw [hS0]; exact hH
  have hC0 : C0.H.length = (S 0).heap.length := by rw [hC0H]
  have hsz : (S 0).tmps.length ≤ a.tmps.size := by rw [hS0]; exact hs.1
  have hget : ∀ {j : Nat}, j < ops.size → ∃ o, ops[j]? = some o := fun {j} hj => ⟨ops[j], by simp [hj]⟩
  have memdrop : ∀ {t : Nat} {o : Oper}, o ∈ ops.toList.drop t → ∃ j, t ≤ j ∧ ops[j]? = some o := by
    intro t o ho
    obtain ⟨n, hn⟩ := List.getElem?_of_mem ho
    rw [List.getElem?_drop] at hn
    exact ⟨t + n, by omega, by simpa using hn⟩
  -- the two states of such a region
  let hid (listed : Array Bool) (d : Nat) : Prop := ∃ i o, i < m ∧ listed.getD i false = false ∧ ops[i]? = some o ∧ o.dst = some d
  let LateAt (st : St) (i : Nat) : Prop := ∃ o d v, ops[i]? = some o ∧ o.dst = some d ∧ lateKind o = true ∧ lateSole ops o i = true ∧ E.calm K st.tmps st.heap o = some (v, []) ∧ (d < st.tmps.length → st.tmps.getD d .unk = v)
  let StA (listed : Array Bool) (a1 : Act) (w1 : World) : Prop := ∃ C, Closed ops (fun i => listed.getD i false) ∧ (∀ i, m ≤ i → listed.getD i false = false) ∧ Inv ops S v m C0 w a C (fun i => listed.getD i false) a1 w1
  let StB (listed : Array Bool) (a1 : Act) (w1 : World) : Prop := ∃ t st, m ≤ t ∧ t ≤ ops.size ∧ (∀ i, m ≤ i → (listed.getD i false = true ↔ i < t)) ∧ Closed ops (fun i => listed.getD i false) ∧ E.ops K ops (ops.toList.drop t) st k2 = some r ∧
    At E P B w0 N ⟨hideT (hid listed) st.tmps, st.heap⟩ a1 w1 ∧ ∀ i, i < m → listed.getD i false = false → LateAt st i ∧ E.farA st.tmps (lateA ops m).1 (lateA ops m).2 = true
  have hfar : E.farA (S m).tmps (lateA ops m).1 (lateA ops m).2 = true := by
    obtain ⟨e, s', h1, h2⟩ := ops_end _ _ hend
    rw [← (hk2s _ _ h1).1]
    refine farA_congr (fun x hx => ?_) (fun x hx => ?_)
    · obtain ⟨i, oi, h3, h4, h5, j, h6, h7, h8⟩ := mem_las.1 hx
      cases x with
      | tmp t =>
        simp only [Env.opnd]
        refine (h2 t fun o ho => ?_).symm
        obtain ⟨j', h9, h10⟩ := memdrop ho
        obtain ⟨oj, hoj⟩ := hget h6
        rcases (spec j oj hoj).2 i (by omega) with k | ⟨k, _⟩ | k
        · rw [k] at h8; cases h8
        · omega
        · obtain ⟨oi', oj', t', g1, g2, g3, g4, g5, _⟩ := k.ex
          rw [h4] at g1; cases g1
          intro hd
          refine (lateSole_spec g5 h10).2 (by omega) t hd ?_
          refine List.mem_append_left _ (List.mem_filterMap.2 ⟨.tmp t, ?_, rfl⟩)
          unfold loadAddr at h5
          split at h5
          · rename_i ty a0 hop
            cases h5
            rw [hop]; simp [Go.Op.operands]
          · cases h5
      | _ => rfl
    · obtain ⟨j, oj, t, h3, h4, h5, h6, rfl, i, h7, h8⟩ := mem_sas.1 hx
      simp only [Env.opnd]
      refine (h2 t fun o ho => ?_).symm
      obtain ⟨j', h9, h10⟩ := memdrop ho
      rcases (spec j oj h5).2 i (by omega) with k | ⟨k, _⟩ | k
      · rw [k] at h8; cases h8
      · omega
      · obtain ⟨oi', oj', t', g1, g2, g3, g4, g5, g6, g7⟩ := k.ex
        rw [h5] at g2; cases g2
        rw [h6] at g6; cases g6
        exact unset_spec g7 h10 h9
  have hAB : ∀ listed a1 w1, StA listed a1 w1 → (∀ i, i < m → listed.getD i false = false → ∃ j, Late ops m i j) → StB listed a1 w1 := by
    rintro listed a1 w1 ⟨C, hcl, htail, hinv⟩ hlate
    have hC'H : (C.cut (S m).heap.length).H = (S m).heap := by
      show C.H.take _ = _
      rw [hinv.heap]; simp
    have hg := hinv.grow
    have hle0 := heap_le hS (Nat.zero_le m) (Nat.le_refl m)
    have hcalm : Calm C0 w (C.cut (S m).heap.length) w1 ((S m).heap.drop C0.H.length) := by
      refine ⟨hinv.sim m (Nat.le_refl m), ?_, fun b hb => ?_, hg.mem, hg.newmem, fun b blk off cap hb hi => ?_, hg.frame, hg.grow, hg.same, hg.quiet⟩
      · rw [hC'H, hC0, hC0H]
        have := heap_pre hS (Nat.zero_le m) (Nat.le_refl m)
        conv => rhs; rw [← this]
        rw [this]
        conv => lhs; rw [← List.take_append_drop (S 0).heap.length (S m).heap]
        rw [this]
      · show (if b < (S m).heap.length then C.ι b else none) = _
        rw [if_pos (by omega)]; exact hg.old b hb
      · have hi' : (if b < (S m).heap.length then C.ι b else none) = some (.at blk off cap) := hi
        split at hi'
        · exact hg.newloc b blk off cap hb hi'
        · cases hi'
    have hlenm := (tm_all hS 0 m (Nat.le_refl m) (L := fun _ => true) (fun _ _ _ _ _ => rfl)).2
    refine ⟨m, S m, Nat.le_refl m, hms, fun i hi => ⟨fun h => ?_, fun h => absurd h (by omega)⟩, hcl, hend, ⟨C.cut (S m).heap.length, ok.next hcalm.sim hcalm.ext, hx.trans hcalm.ext, hC'H, ?_, by rw [hinv.size]; exact hN, by rw [hinv.defers]; exact hmk.step hcalm.ext, trivial⟩, fun i hi hl => ⟨?_, hfar⟩⟩
    · rw [htail i hi] at h; cases h
    · refine ⟨by rw [hideT_len, hlenm, hinv.size]; exact hsz, fun d => ?_⟩
      rw [hideT_get]
      split
      · exact AVal.unk
      · rename_i hd
        have := hinv.slots m (Nat.le_refl m) d (fun i o h1 h2 => absurd h1 (by omega))
        rwa [(tm_all hS d m (Nat.le_refl m) (fun i o hi ho hod => by
          cases hl : listed.getD i false with
          | true => rfl
          | false => exact absurd ⟨i, o, hi, hl, ho, hod⟩ hd)).1] at this
    · obtain ⟨j, hj⟩ := hlate i hi hl
      obtain ⟨oi, oj, t', g1, g2, g3, g4, g5, _⟩ := hj.ex
      obtain ⟨o, b, t1, t2, t3, t4⟩ := hS i hi
      rw [g1] at t1; cases t1
      have hgd : oi.guard = none ∧ ∃ d, oi.dst = some d := by
        unfold lateKind at g4
        simp only [Bool.and_eq_true, Option.isNone_iff_eq_none, Option.isSome_iff_exists] at g4
        exact g4.1
      obtain ⟨hgn, d, hd⟩ := hgd
      have hbt : b = true := by
        simp only [wantedA, hgn, Option.some.injEq] at t2
        exact t2.symm
      subst hbt
      simp only [if_true] at t3
      have hsame : ∀ x ∈ oi.op.operands, E.opnd (S i).tmps x = E.opnd (S m).tmps x := by
        intro x hx
        cases x with
        | tmp t =>
          simp only [Env.opnd]
          have := tr_same hS (i := i) t (m - i) (by omega) fun i' o' h1 h2 h3 h4 => by
            refine (lateSole_spec g5 h3).2 h1 t h4 ?_
            exact List.mem_append_left _ (List.mem_filterMap.2 ⟨.tmp t, by simpa using hx, rfl⟩)
          rw [show i + (m - i) = m from by omega] at this
          exact this.symm
        | _ => rfl
      have hheap : ∀ (b : Nat) (ob : Obj), (S i).heap[b]? = some ob → (S m).heap[b]? = some ob := by
        intro b ob hb
        have hlt : b < (S i).heap.length := by
          rcases Nat.lt_or_ge b (S i).heap.length with h1 | h1
          · exact h1
          · rw [List.getElem?_eq_none h1] at hb; cases hb
        rw [← heap_pre hS (show i ≤ m by omega) (Nat.le_refl m), List.getElem?_take_of_lt hlt] at hb
        exact hb
      obtain ⟨hnw, hc⟩ := late_calm (H' := (S m).heap) (tmps' := (S m).tmps) g4 t3 hsame fun _ _ _ b _ _ ob hob => hheap b ob hob
      refine ⟨oi, d, v i, g1, hd, g4, g5, hc, fun hlt => ?_⟩
      have h1 := tr_same hS (i := i + 1) d (m - (i + 1)) (by omega) fun i' o' h1 h2 h3 h4 => (lateSole_spec g5 h3).1 (by omega) (by rw [h4, hd])
      rw [show i + 1 + (m - (i + 1)) = m from by omega] at h1
      rw [h1, t4, hd]
      simp only [St.put]
      rw [getD_set, if_pos]
      refine ⟨rfl, ?_⟩
      have h2 := (tm_all hS 0 i (by omega) (L := fun _ => true) (fun _ _ _ _ _ => rfl)).2
      rw [h2, ← hlenm]
      exact hlt
  have hset : ∀ (listed : Array Bool) (i j : Nat), i < listed.size → (listed.setIfInBounds i true).getD j false = if j = i then true else listed.getD j false := by
    intro listed i j hi
    rw [Array.getD_eq_getD_getElem?, Array.getElem?_setIfInBounds]
    by_cases hij : i = j
    · subst hij; simp [hi]
    · simp [hij, Ne.symm hij]
  have main : ∀ fuel (listed : Array Bool) a1 w1, listed.size = ops.size → listed.toList.count true + fuel = ops.size → (StA listed a1 w1 ∨ StB listed a1 w1) → wpAnyIn F 0 P .any ops Q fuel listed a1 w1 := by
    intro fuel
    -- where nothing is ready, all is done
    have finish : ∀ (listed : Array Bool) a1 w1, (StA listed a1 w1 ∨ StB listed a1 w1) → (∀ i, i < ops.size → listed.getD i false = true) → Q .normal a1 w1 := by
      intro listed a1 w1 hst hall
      have hstB : StB listed a1 w1 := hst.elim (fun hA => hAB _ _ _ hA fun i hi hl => by rw [hall i (by omega)] at hl; cases hl) id
      obtain ⟨t, st, h1, h2, h3, _, h4, h5, _⟩ := hstB
      have ht : t = ops.size := by
        rcases Nat.lt_or_ge t ops.size with hlt | hge
        · exact absurd ((h3 t h1).1 (hall t hlt)) (Nat.lt_irrefl t)
        · omega
      rw [ht, ← Array.length_toList, List.drop_length] at h4
      rw [hideT_none] at h5
      · exact hkk _ _ _ _ _ h4 h5
      · rintro d ⟨i, o, hi, hl, _⟩
        rw [hall i (by omega)] at hl; cases hl
    induction fuel with
    | zero =>
      intro listed a1 w1 hsize hcount hst
      have hall : ∀ i, i < ops.size → listed.getD i false = true := by
        intro i hi
        have h1 : listed.toList.count true = listed.toList.length := by simpa [hsize] using hcount
        have h2 := List.count_eq_length.1 h1 (listed[i]'(by omega)) (by simp)
        rw [Array.getD_eq_getD_getElem?, Array.getElem?_eq_getElem (by omega), Option.getD_some, ← h2]
      refine ⟨?_, finish listed a1 w1 hst hall⟩
      refine List.eq_nil_iff_forall_not_mem.2 fun j hj => ?_
      rw [Go.mem_ready] at hj
      obtain ⟨g1, o, g2, _⟩ := hj
      have hjlt := (Array.getElem?_eq_some_iff.1 g2).1
      have := hall j hjlt
      rw [Array.getD_eq_getD_getElem?, Array.getElem?_eq_getElem (by omega)] at g1 this
      simp only [Option.getD_some] at g1 this
      rw [g1] at this; cases this
    | succ fuel ih =>
      intro listed a1 w1 hsize hcount hst
      have hcnt : ∀ i, i < ops.size → listed.getD i false = false → (listed.setIfInBounds i true).toList.count true + fuel = ops.size := by
        intro i hi hf
        have hi' : i < listed.size := by omega
        rw [Array.getD_eq_getD_getElem?, Array.getElem?_eq_getElem hi', Option.getD_some] at hf
        rw [Array.toList_setIfInBounds, List.count_set (by simpa using hi')]
        have : listed.toList[i]'(by simpa using hi') = false := by simpa using hf
        rw [this]
        show listed.toList.count true - 0 + 1 + fuel = ops.size
        omega
      have ready_iff : ∀ j, j ∈ Go.Region.ready .any ops listed → listed.getD j false = false ∧ j < ops.size ∧ ∃ o, ops[j]? = some o ∧ ∀ e ∈ o.after, Go.Region.binds .any e = true → listed.getD e.on false = true := by
        intro j hj
        rw [Go.mem_ready] at hj
        obtain ⟨g1, o, g2, g3⟩ := hj
        have hjlt := (Array.getElem?_eq_some_iff.1 g2).1
        refine ⟨?_, hjlt, o, g2, g3⟩
        rw [Array.getD_eq_getD_getElem?, Array.getElem?_eq_getElem (by omega)] at g1 ⊢
        exact g1
      have ready_of : ∀ j o, ops[j]? = some o → listed.getD j false = false → (∀ e ∈ o.after, Go.Region.binds .any e = true → listed.getD e.on false = true) → j ∈ Go.Region.ready .any ops listed := by
        intro j o h1 h2 h3
        rw [Go.mem_ready]
        refine ⟨?_, o, h1, h3⟩
        have hjlt := (Array.getElem?_eq_some_iff.1 h1).1
        rw [Array.getD_eq_getD_getElem?, Array.getElem?_eq_getElem (by omega)] at h2 ⊢
        exact h2
      -- the first that isn't listed is ready
      have first : ∀ i, i < ops.size → listed.getD i false = false → ∃ j, j ∈ Go.Region.ready .any ops listed := by
        intro i hi hl
        obtain ⟨i0, ⟨hi0, hl0⟩, hmin⟩ := exists_min' (p := fun i => i < ops.size ∧ listed.getD i false = false) ⟨i, hi, hl⟩
        obtain ⟨o0, ho0⟩ := hget hi0
        refine ⟨i0, ready_of i0 o0 ho0 hl0 fun e he hb => ?_⟩
        have := (spec i0 o0 ho0).1 e he hb
        cases hle : listed.getD e.on false with
        | true => rfl
        | false => have := hmin e.on ⟨by omega, hle⟩; omega
      have closedNext : Closed ops (fun i => listed.getD i false) → ∀ i o, i < ops.size → ops[i]? = some o → (∀ e ∈ o.after, Go.Region.binds .any e = true → listed.getD e.on false = true) → Closed ops (fun j => (listed.setIfInBounds i true).getD j false) := by
        intro hcl i o g2 g3 g4 j oj hj hlj e he hb
        simp only [hset _ _ _ (show i < listed.size by omega)] at hlj ⊢
        by_cases hei : e.on = i
        · simp [hei]
        · simp only [hei, if_false]
          by_cases hji : j = i
          · subst hji; rw [g3] at hj; cases hj; exact g4 e he hb
          · simp only [hji, if_false] at hlj; exact hcl j oj hj hlj e he hb
      refine ⟨fun hr => finish listed a1 w1 hst fun i hi => ?_, fun i hi => ?_⟩
      · cases hl : listed.getD i false with
        | true => rfl
        | false => obtain ⟨j, hj⟩ := first i hi hl; rw [hr] at hj; cases hj
      · obtain ⟨g1, g2, o, g3, g4⟩ := ready_iff i hi
        have toB : m ≤ i → Closed ops (fun i => listed.getD i false) → ∀ i', i' < m → listed.getD i' false = false → ((Go.Region.before ops).getD i 0).testBit i' = false ∧ Late ops m i' i := by
          intro him hcl i' hi' hl'
          have hbit : ((Go.Region.before ops).getD i 0).testBit i' = false := by
            cases hb : ((Go.Region.before ops).getD i 0).testBit i' with
            | false => rfl
            | true => have := hcl.bit g3 (.inr g4) hb; rw [hl'] at this; cases this
          refine ⟨hbit, ?_⟩
          rcases (spec i o g3).2 i' (by omega) with k | ⟨k, _⟩ | k
          · rw [hbit] at k; cases k
          · omega
          · exact k
        have stepB : StB listed a1 w1 → wpOpIn F 0 P ops Q i (wpAnyIn F 0 P .any ops Q fuel (listed.setIfInBounds i true)) a1 w1 := by
          rintro ⟨t, st, h1, h2, h3, hcl, h4, h5, h6⟩
          have hlt : ∀ j, i < listed.size := fun _ => by omega
          rcases Nat.lt_or_ge i m with him | him
          · -- one that was overtaken
            obtain ⟨⟨o', d, vv, e1, e2, e3, e4, e5, e6⟩, hfr⟩ := h6 i him g1
            rw [g3] at e1; cases e1
            have hop : ∀ x ∈ o.op.operands, E.opnd (hideT (hid listed) st.tmps) x = E.opnd st.tmps x := fun x hx => opnd_hide (ops := ops) o (fun d' hd' hlk => by
              obtain ⟨i', oi', q1, q2, q3, q4⟩ := hd'
              rcases Nat.lt_or_ge i' i with hii | hii
              · rcases (spec i o g3).2 i' hii with k | ⟨_, k⟩ | k
                · have := hcl.bit g3 (.inr g4) k; rw [q2] at this; cases this
                · exact (apartA_spec (k oi' q3)).1 d' q4 hlk
                · exact absurd k.tail (by omega)
              · exact (lateSole_spec e4 q3).2 hii d' q4 hlk) x hx
            have hc : E.calm K (hideT (hid listed) st.tmps) st.heap o = some (vv, []) := by rw [calm_congr o hop]; exact e5
            refine op_step hF hK g3 (late_run e3 hc) h5 fun a' w' hat' => ih _ _ _ (by simpa using hsize) (hcnt i g2 g1) (.inr ⟨t, st, h1, h2, fun j hj => ?_, closedNext hcl i o g2 g3 g4, h4, ?_, fun j hj hl => ?_⟩)
            · rw [hset _ _ _ (by omega), if_neg (by omega)]; exact h3 j hj
            · have hst : St.put ⟨hideT (hid listed) st.tmps, st.heap⟩ o.dst vv st.heap = ⟨hideT (hid (listed.setIfInBounds i true)) st.tmps, st.heap⟩ := by
                rw [e2]
                simp only [St.put]
                congr 1
                refine hideT_set (fun d' => ?_) e6
                constructor
                · rintro ⟨i', oi', q1, q2, q3, q4⟩
                  rw [hset _ _ _ (by omega)] at q2
                  have hne : i' ≠ i := by rintro rfl; simp at q2
                  rw [if_neg hne] at q2
                  exact ⟨⟨i', oi', q1, q2, q3, q4⟩, fun e => (lateSole_spec e4 q3).1 hne (by rw [q4, e, e2])⟩
                · rintro ⟨⟨i', oi', q1, q2, q3, q4⟩, hne⟩
                  have hii : i' ≠ i := by
                    rintro rfl
                    rw [g3] at q3; cases q3
                    rw [e2] at q4; exact hne (Option.some.inj q4).symm
                  exact ⟨i', oi', q1, by rw [hset _ _ _ (by omega), if_neg hii]; exact q2, q3, q4⟩
              rw [hst] at hat'
              exact hat'
            · rw [hset _ _ _ (by omega)] at hl
              have hji : j ≠ i := by rintro rfl; simp at hl
              rw [if_neg hji] at hl
              exact h6 j hj hl
          · -- the tail
            have hit : i = t := by
              have hge : t ≤ i := by
                rcases Nat.lt_or_ge i t with hlt | hge
                · rw [(h3 i him).2 hlt] at g1; cases g1
                · exact hge
              rcases Nat.lt_or_ge t i with hlt | hle
              · have htf : listed.getD t false = false := by
                  cases hl : listed.getD t false with
                  | false => rfl
                  | true => exact absurd ((h3 t h1).1 hl) (Nat.lt_irrefl t)
                rcases (spec i o g3).2 t hlt with kb | ⟨kb, _⟩ | kb
                · have := hcl.bit g3 (.inr g4) kb
                  rw [htf] at this; cases this
                · omega
                · exact absurd kb.head (by omega)
              · omega
            subst hit
            have hdrop : ops.toList.drop i = o :: ops.toList.drop (i + 1) := by
              have := List.drop_eq_getElem_cons (l := ops.toList) (i := i) (by simpa using g2)
              rw [this]
              have : ops[i]'g2 = o := by rw [Array.getElem?_eq_getElem g2] at g3; exact Option.some.inj g3
              simp [this]
            rw [hdrop] at h4
            have hl3 : ∀ j, m ≤ j → ((listed.setIfInBounds i true).getD j false = true ↔ j < i + 1) := by
              intro j hj
              rw [hset _ _ _ (by omega)]
              by_cases hji : j = i
              · simp [hji]
              · simp only [hji, if_false, h3 j hj]; omega
            by_cases hheads : ∀ i', i' < m → listed.getD i' false = true
            · -- all of the head is done
              have hno : ∀ d, ¬ hid listed d := by
                rintro d ⟨i', _, q1, q2, _⟩
                rw [hheads i' q1] at q2; cases q2
              rw [hideT_none hno] at h5
              refine op_ok hF hK hkk g3 h4 h5 fun s' a' w' q1 q2 => ih _ _ _ (by simpa using hsize) (hcnt i g2 g1) (.inr ⟨i + 1, s', by omega, g2, hl3, closedNext hcl i o g2 g3 g4, q1, ?_, fun j hj hl => ?_⟩)
              · rw [hideT_none]
                · exact q2
                · rintro d ⟨i', _, q1, q2, _⟩
                  rw [hset _ _ _ (by omega), if_neg (by omega), hheads i' q1] at q2; cases q2
              · rw [hset _ _ _ (by omega), if_neg (by omega), hheads j hj] at hl; cases hl
            · -- a store overtakes
              have hex : ∃ i', i' < m ∧ listed.getD i' false = false := by
                refine Classical.byContradiction fun hno => hheads fun i' hi' => ?_
                cases hl : listed.getD i' false with
                | true => rfl
                | false => exact absurd ⟨i', hi', hl⟩ hno
              obtain ⟨i0, hi0, hl0⟩ := hex
              obtain ⟨hb0, hL0⟩ := toB him hcl i0 hi0 hl0
              obtain ⟨oi0, oj0, tt, f1, f2, f3, f4, f5, f6, f7⟩ := hL0.ex
              rw [g3] at f2; cases f2
              simp only [Env.ops, Option.bind_eq_some_iff] at h4
              obtain ⟨rs, hstep, h4⟩ := h4
              obtain ⟨hdn, hgn, ty, x, hopx, H', hstore, rfl⟩ := st_run f6 hstep
              obtain ⟨b, π, o'', hadr, hH'⟩ := store_set hstore
              have hop : ∀ y ∈ o.op.operands, E.opnd (hideT (hid listed) st.tmps) y = E.opnd st.tmps y := fun y hy => opnd_hide (ops := ops) o (fun d' hd' hlk => by
                obtain ⟨i', oi', q1, q2, q3, q4⟩ := hd'
                obtain ⟨_, hL⟩ := toB him hcl i' q1 q2
                obtain ⟨u1, u2, u3, u4, u5, u6, _⟩ := hL.ex
                rw [q3] at u4; cases u4
                rw [g3] at u5; cases u5
                exact (apartA_spec u6).1 d' q4 hlk) y hy
              have hstep' : E.step K ops ⟨hideT (hid listed) st.tmps, st.heap⟩ o = some (.ret .unk, H') := by
                simp only [Env.step, wantedA, hgn, Option.bind_some, if_true, Env.run, settleOps, hopx, List.map_nil, settles, List.foldl_nil, Env.run0]
                rw [hop (.tmp tt) (by rw [hopx]; simp [Go.Op.operands]), hop x (by rw [hopx]; simp [Go.Op.operands]), hstore]
                rfl
              refine op_step hF hK g3 hstep' h5 fun a' w' hat' => ih _ _ _ (by simpa using hsize) (hcnt i g2 g1) (.inr ⟨i + 1, ⟨st.tmps, H'⟩, by omega, g2, hl3, closedNext hcl i o g2 g3 g4, ?_, ?_, fun j hj hl => ?_⟩)
              · have : st.put o.dst .unk H' = ⟨st.tmps, H'⟩ := by rw [hdn]; rfl
                simp only [this] at h4
                exact h4
              · have hu : hid (listed.setIfInBounds i true) = hid listed := by
                  funext d
                  simp only [hid]
                  refine propext ⟨?_, ?_⟩
                  · rintro ⟨i', oi', q1, q2, q3⟩
                    rw [hset _ _ _ (by omega), if_neg (by omega)] at q2
                    exact ⟨i', oi', q1, q2, q3⟩
                  · rintro ⟨i', oi', q1, q2, q3⟩
                    exact ⟨i', oi', q1, by rw [hset _ _ _ (by omega), if_neg (by omega)]; exact q2, q3⟩
                rw [hu]
                have : St.put ⟨hideT (hid listed) st.tmps, st.heap⟩ o.dst .unk H' = ⟨hideT (hid listed) st.tmps, H'⟩ := by rw [hdn]; rfl
                rw [this] at hat'
                exact hat'
              · rw [hset _ _ _ (by omega), if_neg (by omega)] at hl
                obtain ⟨⟨oj, d, vv, e1, e2, e3, e4, e5, e6⟩, hfr⟩ := h6 j hj hl
                obtain ⟨hbj, _⟩ := toB him hcl j hj hl
                refine ⟨⟨oj, d, vv, e1, e2, e3, e4, ?_, e6⟩, hfr⟩
                refine (late_calm (tmps' := st.tmps) (H' := H') e3 e5 (fun _ _ => rfl) fun ty' a' hl' b' π' ha' ob hob => ?_).2
                have hne : b' ≠ b := farA_spec hfr (mem_las.2 ⟨j, oj, hj, e1, by unfold loadAddr; rw [hl'], i, g2, him, hbj⟩) (mem_sas.2 ⟨i, o, tt, g2, him, g3, f6, rfl, i0, hi0, hb0⟩) ha' hadr
                rw [hH', List.getElem?_set_ne (Ne.symm hne)]
                exact hob
        rcases hst with hA | hB
        · rcases Nat.lt_or_ge i m with him | him
          · -- an operation of the head
            obtain ⟨C, hcl, htail, hinv⟩ := hA
            refine head_step hF hK ok.env hdraw hS ok.has ok.glob hinv hC0 hsz hcl him g3 g1 g4 fun D a' w' hD => ih _ _ _ (by simpa using hsize) (hcnt i g2 g1) (.inl ⟨D, closedNext hcl i o g2 g3 g4, ?_, ?_⟩)
            · intro j hj
              rw [hset _ _ _ (by omega), if_neg (by omega)]
              exact htail j hj
            · have : (fun j => (listed.setIfInBounds i true).getD j false) = fun j => if j = i then true else listed.getD j false := funext fun j => hset _ _ _ (by omega)
              rw [this]
              exact hD
          · have hA' := hA
            obtain ⟨C, hcl, _⟩ := hA
            exact stepB (hAB _ _ _ hA' fun i' hi' hl' => ⟨i, (toB him hcl i' hi' hl').2⟩)
        · exact stepB hB
  refine main ops.size _ a w (by simp) (by rw [Array.toList_replicate, List.count_replicate]; simp) (.inl ⟨{ C0 with H := (S m).heap }, fun j o _ h => ?_, fun i _ => ?_, ?_⟩)
  · exfalso
    have h : (Array.replicate ops.size false).getD j false = true := h
    rw [Array.getD_eq_getD_getElem?, Array.getElem?_replicate] at h
    split at h <;> simp at h
  · rw [Array.getD_eq_getD_getElem?, Array.getElem?_replicate]
    split <;> rfl
  · have hL : (fun i => (Array.replicate ops.size false).getD i false) = fun _ => false := by
      funext i
      rw [Array.getD_eq_getD_getElem?, Array.getElem?_replicate]
      split <;> rfl
    rw [hL]
    have hle : ∀ k, k ≤ m → C0.H.length ≤ (S k).heap.length := fun k hk => by rw [hC0]; exact heap_le hS (Nat.zero_le k) hk
    have rn : ∀ k, k ≤ m → RenOK C0 some (({ C0 with H := (S m).heap } : Cx).cut (S k).heap.length) := fun k hk => by
      refine ⟨fun _ _ _ h => h, rfl, fun b c e hb => ?_⟩
      cases e
      have hbk := Nat.lt_of_lt_of_le hb (hle k hk)
      have hg : ((S m).heap.take (S k).heap.length)[b]? = C0.H[b]? := by
        rw [heap_pre hS hk (Nat.le_refl m), hC0H, ← heap_pre hS (Nat.zero_le k) hk, List.getElem?_take_of_lt (by rw [← hC0]; exact hb)]
      refine ⟨by show b < ((S m).heap.take _).length; rw [heap_pre hS hk (Nat.le_refl m)]; exact hbk, fun loc hl => ?_, _, _, List.getElem?_eq_getElem hb, hg.trans (List.getElem?_eq_getElem hb), rfl, rfl⟩
      show (if b < (S k).heap.length then C0.ι b else none) = some loc
      rw [if_pos hbk]; exact hl
    refine ⟨rfl, ⟨fun _ _ => rfl, fun _ _ _ h => h, fun _ _ _ h => .inl h, fun b blk off cap hb hi => absurd (ok.sim.idlt hi) (by omega), fun _ _ => rfl, Nat.le_refl _, rfl, .refl w⟩, fun k hk => ?_, fun i hi _ b hb _ => ?_, fun k hk d _ => ?_, rfl, rfl⟩
    · refine Sim.merge ok.sim ok.sim (ρ := fun _ => none) rfl (rn k hk) ⟨fun _ _ _ h => h, rfl, fun b c e => by cases e⟩ (fun _ _ _ h => .inl h) (fun _ _ => rfl) fun b loc hb => .inl ?_
      have hb' : (if b < (S k).heap.length then C0.ι b else none) = some loc := hb
      split at hb'
      case isFalse => cases hb'
      refine ⟨hb', ?_⟩
      have hlt := ok.sim.idlt hb'
      show ((S m).heap.take _)[b]? = _
      rw [heap_pre hS hk (Nat.le_refl m), hC0H, ← heap_pre hS (Nat.zero_le k) hk, List.getElem?_take_of_lt (by rw [← hC0]; exact hlt)]
    · cases hi' : C0.ι b with
      | none => rfl
      | some loc =>
        have := ok.sim.idlt hi'
        have := hle i (by omega)
        omega
    · rcases tm_none (ops := ops) (v := v) (t0 := (S 0).tmps) d k with e | e
      · rw [e]; exact AVal.unk
      · rw [e, hS0]
        have := AR.ren (rn k hk) true _ _ (hs.2 d)
        rwa [AV.ren_self] at this

end
end Ev
