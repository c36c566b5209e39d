/- Part 3 of the evaluator of the given model: its rules and their soundness (no condition). -/
import Derived.Test.YtfcldaojfbbaoaaDoorEvB
set_option linter.unusedVariables false
set_option linter.unusedSimpArgs false
set_option linter.unnecessarySimpa false
/- Maps. -/
namespace Ev
open Go (Value Addr Fn IntKind World Sem Program Operand Oper Result MapEntry)

section
variable {P : Program} {w : World}

theorem take_sum_eq : ∀ (a b : List Nat), a.length = b.length → (∀ i, i < a.length → (a.take i).sum = (b.take i).sum) → a.sum = b.sum → a = b
  | [], [], _, _, _ => rfl
  | x :: a, y :: b, hl, hi, hs => by
    have hxy : x = y := by
      cases a with
      | nil =>
        cases b with
        | nil => simpa using hs
        | cons _ _ => simp at hl
      | cons z a =>
        have := hi 1 (by simp)
        simpa using this
    subst hxy
    rw [take_sum_eq a b (by simpa using hl) (fun i h => by
      have := hi (i + 1) (by simpa using h)
      simpa using this) (by simpa using hs)]
  | [], _ :: _, hl, _, _ => by simp at hl
  | _ :: _, [], hl, _, _ => by simp at hl

theorem bytes_eq {a b : ByteArray} (h : (a == b) = true) : a = b := by
  have : a.data == b.data := h
  cases a; cases b; simpa using this

/-- Data of one type that are equal are the same. -/
theorem eqv_eq {E : Env} : ∀ (m t : Nat) (d1 d2 : PD), E.has m t d1 = true → E.has m t d2 = true → PD.eqv d1 d2 = some true → d1 = d2 := by
  intro m
  induction m with
  | zero => intro t d1 d2 h; simp [Env.has] at h
  | succ m ih =>
    intro t d1 d2 h1 h2 he
    unfold Env.has at h1 h2
    cases hty : E.ty t with
    | none => simp [hty] at h1
    | some ty =>
      obtain ⟨k, cells, bytes, zero⟩ := ty
      rw [hty] at h1 h2
      cases k with
      | int k =>
        cases d1 <;> simp at h1
        cases d2 <;> simp at h2
        subst h1 h2
        simp only [PD.eqv, Option.some.injEq, beq_iff_eq] at he
        rw [he]
      | bool =>
        cases d1 <;> simp at h1
        cases d2 <;> simp at h2
        simp only [PD.eqv, Option.some.injEq, beq_iff_eq] at he
        rw [he]
      | str =>
        cases d1 <;> simp at h1
        cases d2 <;> simp at h2
        simp only [PD.eqv, Option.some.injEq] at he
        rw [bytes_eq he]
      | struct fs =>
        cases d1 <;> simp only [Bool.false_eq_true] at h1
        rename_i sz1 ds1
        cases d2 <;> simp only [Bool.false_eq_true] at h2
        rename_i sz2 ds2
        simp only [Bool.and_eq_true, beq_iff_eq] at h1 h2
        obtain ⟨⟨⟨a1, a2⟩, a3⟩, a4⟩ := h1
        obtain ⟨⟨⟨b1, b2⟩, b3⟩, b4⟩ := h2
        simp only [PD.eqv] at he
        obtain ⟨hlen, cs, hcs, hc, hall⟩ := eqvs_list ds1 ds2 true he
        have hd : ds1 = ds2 := by
          apply List.ext_getElem? 
          intro i
          by_cases hi : i < ds1.length
          · have e1 : ds1[i]? = some ds1[i] := List.getElem?_eq_getElem hi
            have e2 : ds2[i]? = some ds2[i] := List.getElem?_eq_getElem (by omega)
            have e3 : cs[i]? = some cs[i] := List.getElem?_eq_getElem (by omega)
            have hct : cs[i] = true := by
              have := List.all_eq_true.1 hc.symm cs[i] (List.getElem_mem _)
              simpa using this
            have hf : fs[i]? = some fs[i] := List.getElem?_eq_getElem (by omega)
            obtain ⟨_, p2⟩ := goS_field fs sz1 0 ds1 i fs[i] ds1[i] a4 hf e1 a3
            obtain ⟨_, q2⟩ := goS_field fs sz2 0 ds2 i fs[i] ds2[i] b4 hf e2 b3
            rw [e1, e2, ih fs[i].2 _ _ p2 q2 (by rw [hall i _ _ _ e1 e2 e3, hct])]
          · rw [List.getElem?_eq_none (by omega), List.getElem?_eq_none (by omega)]
        have hsz : sz1 = sz2 := by
          refine take_sum_eq sz1 sz2 (by omega) (fun i hi => ?_) (by omega)
          have e1 : ds1[i]? = some ds1[i] := List.getElem?_eq_getElem (by omega)
          have e2 : ds2[i]? = some ds2[i] := List.getElem?_eq_getElem (by omega)
          have hf : fs[i]? = some fs[i] := List.getElem?_eq_getElem (by omega)
          obtain ⟨p1, _⟩ := goS_field fs sz1 0 ds1 i fs[i] ds1[i] a4 hf e1 a3
          obtain ⟨q1, _⟩ := goS_field fs sz2 0 ds2 i fs[i] ds2[i] b4 hf e2 b3
          omega
        rw [hd, hsz]
      | array n e =>
        cases d1 <;> simp only [Bool.false_eq_true] at h1
        rename_i k1 n1 l1
        cases d2 <;> simp only [Bool.false_eq_true] at h2
        rename_i k2 n2 l2
        simp only [Bool.and_eq_true, beq_iff_eq] at h1 h2
        obtain ⟨⟨a1, a2⟩, a3⟩ := h1
        obtain ⟨⟨b1, b2⟩, b3⟩ := h2
        subst a2; subst b2
        split at a3
        case h_2 => cases a3
        rename_i k' ce be ze hte
        rw [hte] at b3
        simp only [beq_iff_eq] at a3 b3
        simp only [PD.eqv, Option.some.injEq, beq_iff_eq] at he
        rw [he, a3, b3]
      | slice e => cases d1 <;> simp at h1 <;> cases d2 <;> simp [PD.eqv] at he
      | _ => cases d1 <;> simp at h1

/-! ### Keys -/

theorem run_forIn_unit {α : Type} (body : α → PUnit → Sem (ForInStep PUnit)) : ∀ (l : List α), (∀ a ∈ l, (body a ⟨⟩).run P w = .ok (.yield ⟨⟩) w) → (forIn l PUnit.unit body).run P w = .ok ⟨⟩ w
  | [], _ => rfl
  | a :: l, h => by
    rw [List.forIn_cons, bind_ok (h a (by simp))]
    exact run_forIn_unit body l fun b hb => h b (by simp [hb])

theorem checkKey_ok {M : Mem} {E : Env} (hE : EnvOK E P) (emp : Bool) : ∀ (m N t : Nat) (d : PD) (v : Value), m + 1 ≤ N → E.has m t d = true → (∃ c, PD.eqv d d = some c) → PVal M d v → (Go.Instr.checkKey emp N t v).run P w = .ok () w := by
  intro m
  induction m with
  | zero => intro N t d v _ h; simp [Env.has] at h
  | succ m ih =>
    intro N t d v hN h hq hv
    obtain ⟨N, rfl⟩ : ∃ k, N = k + 1 := ⟨N - 1, by omega⟩
    unfold Env.has at h
    cases hty : E.ty t with
    | none => simp [hty] at h
    | some ty =>
      have hT := hE.ty t ty hty
      have hd := hT.desc
      obtain ⟨k, cells, bytes, zero⟩ := ty
      rw [hty] at h
      unfold Go.Instr.checkKey
      cases k with
      | int k =>
        cases d <;> simp at h
        simp only [DescOK] at hd
        rw [hv.int, bind_ok (run_underlying hd)]; rfl
      | bool =>
        cases d <;> simp at h
        simp only [DescOK] at hd
        rw [hv.bool, bind_ok (run_underlying hd)]; rfl
      | str =>
        cases d <;> simp at h
        simp only [DescOK] at hd
        rw [hv.str, bind_ok (run_underlying hd)]; rfl
      | struct fs =>
        cases d <;> simp only [Bool.false_eq_true] at h
        rename_i sz ds
        simp only [Bool.and_eq_true, beq_iff_eq] at h
        obtain ⟨⟨⟨a1, a2⟩, a3⟩, a4⟩ := h
        simp only [DescOK] at hd
        obtain ⟨fa, hu, hsz, hst, _, hf⟩ := hd
        simp only [PVal, PD.isAgg, if_true, PRep] at hv
        obtain ⟨x, rfl, hx⟩ := hv
        obtain ⟨c, hq⟩ := hq
        simp only [PD.eqv] at hq
        obtain ⟨_, cs, hcs, _, hall⟩ := eqvs_list ds ds c hq
        rw [bind_ok (run_underlying hu)]
        simp only
        rw [← Array.forIn_toList]
        refine bind_ok' (run_forIn_unit _ fa.toList fun g hg => ?_) rfl
        obtain ⟨i, hi, hgi⟩ := List.getElem_of_mem hg
        have hif : i < fs.length := by simp at hi; omega
        obtain ⟨g', hg', hgo, hgt, hgn⟩ := hf i fs[i] (by simp [hif])
        have hgg : g' = g := by
          have : fa[i]? = some g := by
            rw [← Array.getElem?_toList, List.getElem?_eq_getElem hi, hgi]
          rw [this] at hg'; cases hg'; rfl
        subst hgg
        have hd1 : ds[i]? = some ds[i] := List.getElem?_eq_getElem (by omega)
        have e3 : cs[i]? = some cs[i] := List.getElem?_eq_getElem (by omega)
        obtain ⟨p1, p2⟩ := goS_field fs sz 0 ds i fs[i] ds[i] a4 (by simp [hif]) hd1 a3
        obtain ⟨n1, _, r1, r2, r3⟩ := hx.get i _ hd1
        rw [Nat.zero_add] at p1
        obtain ⟨rv1, t1, t2⟩ := part_has (P := P) (w := w) (M := M) hE (cs := x) (o := fs[i].1) p2 (by rw [p1]; simpa using r3) (by rw [p1]; exact r1) r2
        have := ih N fs[i].2 ds[i] rv1 (by omega) p2 ⟨_, hall i _ _ _ hd1 hd1 e3⟩ t2
        simp only [ne_eq, hgn, not_false_eq_true, if_true, hgo, hgt]
        rw [bind_ok t1, bind_ok this]; rfl
      | array n e =>
        cases d <;> simp only [Bool.false_eq_true] at h
        rename_i k1 n1 l1
        simp only [Bool.and_eq_true, beq_iff_eq] at h
        obtain ⟨⟨a1, a2⟩, a3⟩ := h
        subst a2
        split at a3
        case h_2 => cases a3
        rename_i k' ce be ze hte
        simp only [beq_iff_eq] at a3
        subst a3
        have hTE := hE.ty e _ hte
        have hde := hTE.desc
        simp only [DescOK] at hd hde
        simp only [PVal, PD.isAgg, if_true, PRep] at hv
        obtain ⟨x, rfl, hl1, hx⟩ := hv
        have hce : ce = 1 := by
          have h3 := hTE.zcells
          rw [cells_one hTE.storable hTE.zagg] at h3
          simpa using h3.symm
        subst hce
        rw [bind_ok (run_underlying hd)]
        simp only
        simp only [Std.Legacy.Range.forIn_eq_forIn_range', Std.Legacy.Range.size, Nat.sub_zero, Nat.add_sub_cancel, Nat.div_one]
        refine bind_ok' (run_forIn_unit _ _ fun j hj => ?_) rfl
        have hjn : j < n := by simpa using hj
        rw [bind_ok hTE.run_sizeOf]
        have e1 : l1[j]? = some l1[j] := List.getElem?_eq_getElem (by omega)
        have hx1 : x[j]? = some (.int k1 l1[j]) := by rw [← Array.getElem?_toList, hx, List.getElem?_map, e1]; rfl
        have hp : (Go.part e x (j * 1)).run P w = .ok (.int k1 l1[j]) w := by
          unfold Go.part
          rw [bind_ok hTE.run_isAgg]
          simp only [Ty.agg, Bool.false_eq_true, if_false, Nat.mul_one, hx1]
          rfl
        rw [bind_ok hp]
        have hq : (Go.Instr.checkKey emp N e (.int k1 l1[j])).run P w = .ok () w := by
          obtain ⟨N, rfl⟩ : ∃ k, N = k + 1 := ⟨N - 1, by omega⟩
          unfold Go.Instr.checkKey
          rw [bind_ok (run_underlying hde)]; rfl
        rw [bind_ok hq]; rfl
      | slice e => cases d <;> simp at h <;> simp [PD.eqv] at hq
      | _ => cases d <;> simp at h

/-! ### Finding -/

/-- What a search for a key comes to. -/
structure Found (k : PD) (es : List (PD × PD)) (j : Option Nat) : Prop where
  no : j = none → MapFind k es = some none ∧ ∀ v, MapPut k v es = some (es ++ [(k, v)])
  yes : ∀ i, j = some i → ∃ k' d, es[i]? = some (k', d) ∧ PD.eqv k k' = some true ∧ MapFind k es = some (some d) ∧ ∀ v, MapPut k v es = some (es.set i (k, v))

theorem Found.cons {k k' d : PD} {es : List (PD × PD)} {j : Option Nat} (he : PD.eqv k k' = some false) (h : Found k es j) : Found k ((k', d) :: es) (j.map (· + 1)) := by
  constructor
  · intro hj
    have : j = none := by simpa using hj
    obtain ⟨h1, h2⟩ := h.no this
    refine ⟨by simp [MapFind, he, h1], fun v => by simp [MapPut, he, h2 v]⟩
  · intro i hi
    cases j with
    | none => simp at hi
    | some j =>
      simp only [Option.map_some, Option.some.injEq] at hi; subst hi
      obtain ⟨k2, d2, h1, h2, h3, h4⟩ := h.yes j rfl
      exact ⟨k2, d2, by simpa using h1, h2, by simp [MapFind, he, h3], fun v => by simp [MapPut, he, h4 v]⟩

theorem Found.here {k k' d : PD} {es : List (PD × PD)} (he : PD.eqv k k' = some true) : Found k ((k', d) :: es) (some 0) :=
  ⟨(fun h => by cases h), (fun i hi => by cases hi; exact ⟨k', d, rfl, he, by simp [MapFind, he], fun v => by simp [MapPut, he]⟩)⟩

theorem findAsking_ok {M : Mem} {E : Env} (hE : EnvOK E P) {kt : Nat} {k : PD} {kv : Value} (hk : E.has 10 kt k = true) (hkv : PVal M k kv) : ∀ (es : List (PD × PD)) (l : List MapEntry) (i : Nat),
    MapRep M es l → (∀ x ∈ es, E.has 10 kt x.1 = true) → (∃ r, MapFind k es = some r) →
    ∃ j : Option Nat, Found k es j ∧ (Go.Instr.findAsking kt kv l i).run P w = .ok (j.bind fun j => (l[j]?).map fun e => (i + j, e.val)) w
  | [], l, i, hr, _, _ => by
    simp only [MapRep] at hr; subst hr
    exact ⟨none, ⟨fun _ => ⟨rfl, fun v => rfl⟩, fun i hi => by cases hi⟩, rfl⟩
  | (k', d) :: es, l, i, hr, hall, hf => by
    simp only [MapRep] at hr
    obtain ⟨e, es', rfl, h1, h2, h3⟩ := hr
    obtain ⟨r, hf⟩ := hf
    simp only [MapFind, Option.bind_eq_some_iff] at hf
    obtain ⟨c, hc, hf⟩ := hf
    have heq : (Go.Op.equal kt kv e.key).run P w = .ok c w := equal_ok hE 10 _ kt k k' kv e.key c (by decide) hk (hall (k', d) (by simp)) hc hkv h1
    unfold Go.Instr.findAsking
    cases c with
    | true =>
      refine ⟨some 0, Found.here hc, ?_⟩
      rw [bind_ok heq]
      simp
    | false =>
      simp only [Bool.false_eq_true, if_false] at hf
      obtain ⟨j, h4, h5⟩ := findAsking_ok hE hk hkv es es' (i + 1) h3 (fun x hx => hall x (by simp [hx])) ⟨r, hf⟩
      refine ⟨j.map (· + 1), h4.cons hc, ?_⟩
      rw [bind_ok heq]
      simp only [Bool.false_eq_true, if_false, h5]
      cases j with
      | none => simp
      | some j => simp [Nat.add_assoc, Nat.add_comm 1 j]

/-- The kinds whose keys are compared at once. -/
theorem findNow_ok {M : Mem} {E : Env} {kt : Nat} {k : PD} {kv : Value} {kind : Go.TypeDesc} (hk : E.has 10 kt k = true) (hkv : PVal M k kv)
    (hkind : ∀ (k' : PD) (v' : Value) (c : Bool), E.has 10 kt k' = true → PVal M k' v' → PD.eqv k k' = some c → Go.Instr.sameNow kind kv v' = some c) : ∀ (es : List (PD × PD)) (l : List MapEntry) (i : Nat),
    MapRep M es l → (∀ x ∈ es, E.has 10 kt x.1 = true) → (∃ r, MapFind k es = some r) →
    ∃ j : Option Nat, Found k es j ∧ Go.Instr.findNow kind kv l i = some (j.bind fun j => (l[j]?).map fun e => (i + j, e.val))
  | [], l, i, hr, _, _ => by
    simp only [MapRep] at hr; subst hr
    exact ⟨none, ⟨fun _ => ⟨rfl, fun v => rfl⟩, fun i hi => by cases hi⟩, rfl⟩
  | (k', d) :: es, l, i, hr, hall, hf => by
    simp only [MapRep] at hr
    obtain ⟨e, es', rfl, h1, h2, h3⟩ := hr
    obtain ⟨r, hf⟩ := hf
    simp only [MapFind, Option.bind_eq_some_iff] at hf
    obtain ⟨c, hc, hf⟩ := hf
    have heq := hkind k' e.key c (hall (k', d) (by simp)) h1 hc
    unfold Go.Instr.findNow
    cases c with
    | true =>
      refine ⟨some 0, Found.here hc, ?_⟩
      simp [heq]
    | false =>
      simp only [Bool.false_eq_true, if_false] at hf
      obtain ⟨j, h4, h5⟩ := findNow_ok hk hkv hkind es es' (i + 1) h3 (fun x hx => hall x (by simp [hx])) ⟨r, hf⟩
      refine ⟨j.map (· + 1), h4.cons hc, ?_⟩
      simp only [heq, h5]
      cases j with
      | none => simp
      | some j => simp [Nat.add_assoc, Nat.add_comm 1 j]

theorem findKey_ok {M : Mem} {E : Env} (hE : EnvOK E P) {kt : Nat} {k : PD} {kv : Value} (hk : E.has 10 kt k = true) (hkv : PVal M k kv) (es : List (PD × PD)) (l : List MapEntry)
    (hr : MapRep M es l) (hall : ∀ x ∈ es, E.has 10 kt x.1 = true) (hf : ∃ r, MapFind k es = some r) :
    ∃ j : Option Nat, Found k es j ∧ (Go.Instr.findKey kt kv l).run P w = .ok (j.bind fun j => (l[j]?).map fun e => (j, e.val)) w := by
  obtain ⟨ty, hty, _⟩ := has_cases hk
  have hT := (hE.ty kt ty hty).desc
  have hu : ∃ kind, P.underlying kt = some kind := by
    cases hk : ty.k <;> rw [hk] at hT <;> simp only [DescOK] at hT
    case struct => obtain ⟨_, h, _⟩ := hT; exact ⟨_, h⟩
    case func => obtain ⟨_, _, _, h⟩ := hT; exact ⟨_, h⟩
    case iface => obtain ⟨_, h⟩ := hT; exact ⟨_, h⟩
    case other => obtain ⟨_, h, _⟩ := hT; exact ⟨_, h⟩
    all_goals exact ⟨_, hT⟩
  obtain ⟨kind, hu⟩ := hu
  unfold Go.Instr.findKey
  rw [bind_ok (run_underlying hu)]
  cases hn : Go.Instr.findNow kind kv l 0 with
  | none =>
    obtain ⟨j, h1, h2⟩ := findAsking_ok (w := w) hE hk hkv es l 0 hr hall hf
    exact ⟨j, h1, by simpa using h2⟩
  | some r =>
    -- either the kind is plain, or there is no entry
    by_cases hes : es = []
    · subst hes
      simp only [MapRep] at hr; subst hr
      simp only [Go.Instr.findNow, Option.some.injEq] at hn
      subst hn
      exact ⟨none, ⟨fun _ => ⟨rfl, fun v => rfl⟩, fun i hi => by cases hi⟩, rfl⟩
    · have hkind : ∀ (k' : PD) (v' : Value) (c : Bool), E.has 10 kt k' = true → PVal M k' v' → PD.eqv k k' = some c → Go.Instr.sameNow kind kv v' = some c := by
        intro k' v' c h1 h2 h3
        unfold Env.has at hk h1
        rw [hty] at hk h1
        obtain ⟨kd, cells, bytes, zero⟩ := ty
        cases kd with
        | int k0 =>
          cases k <;> simp at hk
          cases k' <;> simp at h1
          subst hk h1
          rw [hkv.int, h2.int]
          simp only [DescOK] at hT
          rw [hT] at hu; cases hu
          simp only [PD.eqv, Option.some.injEq] at h3
          simp [Go.Instr.sameNow, h3]
        | bool =>
          cases k <;> simp at hk
          cases k' <;> simp at h1
          rw [hkv.bool, h2.bool]
          simp only [DescOK] at hT
          rw [hT] at hu; cases hu
          simp only [PD.eqv, Option.some.injEq] at h3
          simp [Go.Instr.sameNow, h3]
        | str =>
          cases k <;> simp at hk
          cases k' <;> simp at h1
          rw [hkv.str, h2.str]
          simp only [DescOK] at hT
          rw [hT] at hu; cases hu
          simp only [PD.eqv, Option.some.injEq] at h3
          simp [Go.Instr.sameNow, h3]
        | struct fs =>
          exfalso
          cases es with
          | nil => exact hes rfl
          | cons x es =>
            simp only [MapRep] at hr
            obtain ⟨e, es', rfl, _⟩ := hr
            simp only [DescOK] at hT
            obtain ⟨fa, hT, _⟩ := hT
            rw [hT] at hu; cases hu
            simp [Go.Instr.findNow, Go.Instr.sameNow] at hn
        | array n e =>
          exfalso
          cases es with
          | nil => exact hes rfl
          | cons x es =>
            simp only [MapRep] at hr
            obtain ⟨e, es', rfl, _⟩ := hr
            simp only [DescOK] at hT
            rw [hT] at hu; cases hu
            simp [Go.Instr.findNow, Go.Instr.sameNow] at hn
        | slice e => cases k <;> simp at hk <;> simp [PD.eqv] at h3
        | _ => cases k <;> simp at hk
      obtain ⟨j, h1, h2⟩ := findNow_ok hk hkv hkind es l 0 hr hall hf
      rw [hn] at h2
      exact ⟨j, h1, by rw [h2]; simp⟩


theorem MapRep.get {M : Mem} : ∀ {es : List (PD × PD)} {l : List MapEntry} (i : Nat) (k d : PD), MapRep M es l → es[i]? = some (k, d) → ∃ e, l[i]? = some e ∧ PVal M k e.key ∧ PVal M d e.val
  | [], l, i, k, d, _, hi => by simp at hi
  | (k', d') :: es, l, i, k, d, h, hi => by
    simp only [MapRep] at h
    obtain ⟨e, es', rfl, h1, h2, h3⟩ := h
    cases i with
    | zero => simp at hi; obtain ⟨rfl, rfl⟩ := hi; exact ⟨e, rfl, h1, h2⟩
    | succ i =>
      obtain ⟨e', g1, g2, g3⟩ := MapRep.get i k d h3 (by simpa using hi)
      exact ⟨e', by simpa using g1, g2, g3⟩

theorem MapRep.length {M : Mem} : ∀ {es : List (PD × PD)} {l : List MapEntry}, MapRep M es l → l.length = es.length
  | [], l, h => by simp only [MapRep] at h; subst h; rfl
  | (k', d') :: es, l, h => by
    simp only [MapRep] at h
    obtain ⟨e, es', rfl, h1, h2, h3⟩ := h
    simp [MapRep.length h3]

theorem MapRep.set {M : Mem} {k d : PD} : ∀ {es : List (PD × PD)} {l : List MapEntry} (i : Nat) (e : MapEntry), MapRep M es l → i < es.length → PVal M k e.key → PVal M d e.val → MapRep M (es.set i (k, d)) (l.set i e)
  | [], l, i, e, _, hi, _, _ => by simp at hi
  | (k', d') :: es, l, i, e, h, hi, hk, hd => by
    simp only [MapRep] at h
    obtain ⟨e0, es', rfl, h1, h2, h3⟩ := h
    cases i with
    | zero => simp only [List.set_cons_zero, MapRep]; exact ⟨e, es', rfl, hk, hd, h3⟩
    | succ i => simp only [List.set_cons_succ, MapRep]; exact ⟨e0, _, rfl, h1, h2, MapRep.set i e h3 (by simpa using hi) hk hd⟩

theorem MapRep.snoc {M : Mem} {k d : PD} {e : MapEntry} (hk : PVal M k e.key) (hd : PVal M d e.val) : ∀ {es : List (PD × PD)} {l : List MapEntry}, MapRep M es l → MapRep M (es ++ [(k, d)]) (l ++ [e])
  | [], l, h => by simp only [MapRep] at h; subst h; simp only [List.nil_append, MapRep]; exact ⟨e, [], rfl, hk, hd, rfl⟩
  | (k', d') :: es, l, h => by
    simp only [MapRep] at h
    obtain ⟨e0, es', rfl, h1, h2, h3⟩ := h
    simp only [List.cons_append, MapRep]
    exact ⟨e0, _, rfl, h1, h2, MapRep.snoc hk hd h3⟩

theorem run_getObj_map {r : Nat} {a : Array MapEntry} {c : Nat} (h : w.heap[r]? = some (.map a c)) : (Go.getObj r).run P w = .ok (.map a c) w := by
  simp [Go.getObj, Sem.run, h]

theorem lookup_ok {C : Cx} {E : Env} (hE : EnvOK E P) (hH : C.has = E.has 10) (h : Sim C w) {t : Nat} {x k v : AV} {xv kv : Value} {ok : Bool} (hx : AVal C x xv) (hk : AVal C k kv) (hl : E.lookupA C.H t x k ok = some v) :
    ValOK P C w (Go.Instr.lookup t xv kv ok) v [] := by
  unfold Env.lookupA at hl
  split at hl
  case h_2 => cases hl
  case h_1 kt vt _ _ _ kd hty =>
    have hu := (hE.ty t _ hty).desc
    simp only [DescOK] at hu
    rw [Option.ite_none_right_eq_some, Bool.and_eq_true] at hl
    obtain ⟨⟨hhas, hself⟩, hl⟩ := hl
    obtain ⟨cs, hself⟩ := Option.isSome_iff_exists.1 hself
    cases hvt : E.ty vt with
    | none => simp [hvt] at hl
    | some ty =>
      simp only [hvt, Option.bind_some] at hl
      have hVT := hE.ty vt ty hvt
      obtain ⟨zv, hz, hzv⟩ := hVT.run_zero (w := w)
      rw [AVal.p] at hk
      simp only [Option.bind_eq_some_iff, Option.some.injEq] at hl
      obtain ⟨r, hr, rfl⟩ := hl
      have hck : ∀ emp, (Go.Instr.checkKey emp 10000 kt kv).run P w = .ok () w := fun emp => checkKey_ok hE emp 10 10000 kt kd kv (by decide) hhas ⟨cs, hself⟩ hk
      have resNo : ∀ rv, rv = (if ok then Value.tuple #[zv, .bool false] else zv) → AVal C (lookRes ok none ty.zero) rv := by
        rintro rv rfl
        unfold lookRes
        cases ok with
        | false => simpa using hzv C
        | true =>
          simp only [if_true, AVal, AR]
          exact ⟨trivial, [zv, .bool false], rfl, by
            simp only [AVs]
            exact ⟨zv, [.bool false], rfl, hzv C, .bool false, [], rfl, AVal.bool.2 rfl, rfl⟩⟩
      have resYes : ∀ d vv rv, PVal C.M d vv → rv = (if ok then Value.tuple #[vv, .bool true] else vv) → AVal C (lookRes ok (some d) ty.zero) rv := by
        rintro d vv rv hd rfl
        unfold lookRes
        cases ok with
        | false => simpa using AVal.p.2 hd
        | true =>
          simp only [if_true, AVal, AR]
          exact ⟨trivial, [vv, .bool true], rfl, by
            simp only [AVs]
            exact ⟨vv, [.bool true], rfl, AVal.p.2 hd, .bool true, [], rfl, AVal.bool.2 rfl, rfl⟩⟩
      cases x with
      | nilm =>
        simp only [Option.some.injEq] at hr
        subst hr
        simp only [AVal, AR] at hx
        obtain rfl : xv = .map none := by simpa using hx
        obtain ⟨j, hj, hrun⟩ := findKey_ok (w := w) hE hhas hk [] [] rfl (by simp) ⟨none, rfl⟩
        have hj0 : j = none := by
          cases j with
          | none => rfl
          | some j => obtain ⟨k', d, e1, _⟩ := hj.yes j rfl; simp at e1
        subst hj0
        refine .same h ?_ (resNo _ rfl)
        unfold Go.Instr.lookup
        rw [bind_ok (run_underlying hu)]
        simp only
        rw [bind_ok (run_pure _), bind_ok (hck _), bind_ok hrun]
        simp only [Option.bind_none]
        rw [bind_ok hz]; rfl
      | map b =>
        simp only at hr
        cases ho : C.H[b]? with
        | none => simp [ho] at hr
        | some o =>
          cases o with
          | map kt' vt' es =>
            simp only [ho, Option.ite_none_right_eq_some] at hr
            obtain ⟨⟨rfl, rfl⟩, hr⟩ := hr
            simp only [AVal, AR] at hx
            obtain ⟨_, x, hxe, _, hx⟩ := hx
            obtain ⟨blk, off, cap, hi, rfl⟩ := hx ⟨_, ho, rfl⟩
            obtain rfl : xv = _ := by simpa using hxe
            obtain ⟨o', ho', hrep⟩ := h.obj b _ hi
            rw [ho] at ho'; cases ho'
            simp only [ObjRep] at hrep
            obtain ⟨blk', a, c, hl, h1, h2, h3⟩ := hrep
            cases hl
            obtain ⟨j, hj, hrun⟩ := findKey_ok (w := w) hE hhas hk es a.toList h2 (fun x hx => by have := (h3 x hx).1; rw [hH] at this; exact this) ⟨r, hr⟩
            cases j with
            | none =>
              have := (hj.no rfl).1
              rw [hr] at this; cases this
              refine .same h ?_ (resNo _ rfl)
              unfold Go.Instr.lookup
              rw [bind_ok (run_underlying hu)]
              simp only
              rw [bind_ok (run_getObj_map h1)]
              simp only
              rw [bind_ok (run_pure _), bind_ok (hck _), bind_ok hrun]
              simp only [Option.bind_none]
              rw [bind_ok hz]; rfl
            | some j =>
              obtain ⟨k', d, e1, e2, e3, _⟩ := hj.yes j rfl
              rw [hr] at e3; cases e3
              obtain ⟨e, g1, g2, g3⟩ := MapRep.get j k' d h2 e1
              refine .same h ?_ (resYes d e.val _ g3 rfl)
              unfold Go.Instr.lookup
              rw [bind_ok (run_underlying hu)]
              simp only
              rw [bind_ok (run_getObj_map h1)]
              simp only
              rw [bind_ok (run_pure _), bind_ok (hck _), bind_ok hrun]
              simp only [Option.bind_some, g1, Option.map_some]
              rfl
          | _ => simp [ho] at hr
      | _ => simp at hr

end
end Ev

/- Stores into variables, rows and maps. -/
namespace Ev
open Go (Value Addr Fn IntKind World Sem Program Operand Oper Result MapEntry)

section
variable {P : Program} {w : World}

/-- The effect of a step: what it computes, and the context after it. -/
def StepOK (P : Program) (C : Cx) (w : World) (s : Sem Unit) (H' : Heap) : Prop :=
  ∃ C' w', s.run P w = .ok () w' ∧ Sim C' w' ∧ Ext C w C' w' ∧ C'.H = H'

/-- A change of a part of an object. -/
theorem Obj.set_ok {C : Cx} (h : Sim C w) {b blk off cap : Nat} {o o' : Obj} (hi : C.ι b = some (.at blk off cap)) (ho : C.H[b]? = some o) {π : List Stp} {v : AV} {vs : List Value} (hv : AR C false v vs)
    (hg : o.set π v = some o') :
    o.sealed = false ∧ o'.sealed = false ∧ o.like o' ∧ ∃ cells E fz, w.heap[blk]? = some (.cells cells E fz) ∧ unfrozen w blk ∧ off + offs π + vs.length ≤ cells.size ∧
      ∀ w', SetBlk w w' blk (.cells (splice cells.toList (off + offs π) vs).toArray E fz) → ObjRep C w' (.at blk off cap) o' := by
  obtain ⟨o1, ho1, hr⟩ := h.obj b _ hi
  rw [ho] at ho1; cases ho1
  have hunf : ∀ {cells : Array Value} {E : Nat} {fz : Nat × Nat} {l : List Value} {w' : World}, w.heap[blk]? = some (.cells cells E fz) → unfrozen w blk → l.length = cells.size →
      SetBlk w w' blk (.cells l.toArray E fz) → unfrozen w' blk := by
    intro cells E fz l w' hc hu hl hs C' E' fz' hb j hj
    rw [hs.here] at hb; cases hb
    exact hu cells E fz hc j (by simpa [hl] using hj)
  cases o with
  | var t s =>
    cases s with
    | true => simp [Obj.set] at hg
    | false =>
      simp only [Obj.set, Option.bind_eq_some_iff, Option.map_eq_some_iff] at hg
      obtain ⟨n, hn, a, ha, rfl⟩ := hg
      simp only [ObjRep] at hr
      obtain ⟨blk', cells, E, fz, hl, k1, k2, k3⟩ := hr
      cases hl
      obtain ⟨q1, q2, q3⟩ := AV.set_ok π n t v a cells.toList vs k3 (k3.length hn) hv ha
      refine ⟨rfl, rfl, trivial, cells, E, fz, k1, k2, by simpa using q1, fun w' hs => ?_⟩
      rw [Nat.zero_add] at hs
      simp only [ObjRep]
      exact ⟨blk, _, E, fz, rfl, hs.here, hunf k1 k2 (by rw [splice_length q1]; simp) hs, by simpa using q2⟩
  | row e xs s =>
    cases s with
    | true => cases π with
      | nil => simp [Obj.set] at hg
      | cons st π => cases st <;> simp [Obj.set] at hg
    | false =>
      cases π with
      | nil => simp [Obj.set] at hg
      | cons st π =>
        cases st with
        | fld i o => simp [Obj.set] at hg
        | idx i e' =>
          simp only [Obj.set, Option.ite_none_right_eq_some, Option.bind_eq_some_iff] at hg
          obtain ⟨rfl, d, hd, a, ha, hg⟩ := hg
          split at hg
          case h_2 => cases hg
          rename_i d'
          cases hg
          simp only [ObjRep] at hr
          obtain ⟨cells, E, fz, k1, k2, k3, k4, k5⟩ := hr
          obtain ⟨g1, g2, g3⟩ := k5.get i d hd
          have hle : xs.length * e ≤ cap * e := Nat.mul_le_mul_right e k3
          have hil := (List.getElem?_eq_some_iff.1 hd).1
          have h2 : (i + 1) * e ≤ xs.length * e := Nat.mul_le_mul_right e hil
          rw [Nat.succ_mul] at h2
          have hcl : ((cells.toList.drop off).take (xs.length * e)).length = xs.length * e := by simp; omega
          have hln : ((((cells.toList.drop off).take (xs.length * e)).drop (i * e)).take e).length = e := by simp; omega
          obtain ⟨q1, q2, q3⟩ := AV.set_ok π e (.p d) v (.p d') _ vs (AR.p.2 g1) hln hv ha
          rw [hln] at q1 q3
          have hc' : d'.cells = e := by rcases q3 with q3 | q3 <;> simp [AV.cells] at q3; exact q3
          have hset := k5.set i d' _ hil (AR.p.1 q2) hc'
          rw [splice_splice (by rw [hcl]; omega) q1] at hset
          refine ⟨rfl, rfl, ⟨rfl, by simp⟩, cells, E, fz, k1, k2, by rw [offs_cons]; simp only [Stp.off]; omega, fun w' hs => ?_⟩
          have hoff : off + offs (Stp.idx i e :: π) = off + (i * e + offs π) := by rw [offs_cons]; rfl
          rw [hoff] at hs
          simp only [ObjRep]
          refine ⟨_, E, fz, hs.here, hunf k1 k2 (by rw [splice_length (by simp; omega)]; simp) hs, by simpa using k3, ?_, ?_⟩
          · simp only [List.size_toArray]
            rw [splice_length (by simp; omega)]; simpa using k4
          · simp only [List.length_set]
            have : ((splice cells.toList (off + (i * e + offs π)) vs).drop off).take (xs.length * e) = splice ((cells.toList.drop off).take (xs.length * e)) (i * e + offs π) vs :=
              splice_part _ _ _ _ _ (by simp; omega) (by omega)
            rw [this]; exact hset
  | mrow e xs =>
    cases π with
    | nil => simp [Obj.set] at hg
    | cons st π =>
      cases st with
      | fld i o => simp [Obj.set] at hg
      | idx i e' =>
        simp only [Obj.set, Option.ite_none_right_eq_some, Option.bind_eq_some_iff, Option.map_eq_some_iff] at hg
        obtain ⟨rfl, d, hd, a, ha, rfl⟩ := hg
        simp only [ObjRep] at hr
        obtain ⟨cells, E, fz, k1, k2, k3, k4, k5⟩ := hr
        obtain ⟨g1, g2, g3⟩ := k5.get i d hd
        have hle : xs.length * e ≤ cap * e := Nat.mul_le_mul_right e k3
        have hil := (List.getElem?_eq_some_iff.1 hd).1
        have h2 : (i + 1) * e ≤ xs.length * e := Nat.mul_le_mul_right e hil
        rw [Nat.succ_mul] at h2
        have hcl : ((cells.toList.drop off).take (xs.length * e)).length = xs.length * e := by simp; omega
        have hln : ((((cells.toList.drop off).take (xs.length * e)).drop (i * e)).take e).length = e := by simp; omega
        obtain ⟨q1, q2, q3⟩ := AV.set_ok π e d v a _ vs g1 hln hv ha
        rw [hln] at q1 q3
        have hset := k5.set i a _ hil q2 (by rw [splice_length (by omega), hln]) q3
        rw [splice_splice (by rw [hcl]; omega) q1] at hset
        refine ⟨rfl, rfl, ⟨rfl, by simp⟩, cells, E, fz, k1, k2, by rw [offs_cons]; simp only [Stp.off]; omega, fun w' hs => ?_⟩
        have hoff : off + offs (Stp.idx i e :: π) = off + (i * e + offs π) := by rw [offs_cons]; rfl
        rw [hoff] at hs
        simp only [ObjRep]
        refine ⟨_, E, fz, hs.here, hunf k1 k2 (by rw [splice_length (by simp; omega)]; simp) hs, by simpa using k3, ?_, ?_⟩
        · simp only [List.size_toArray]
          rw [splice_length (by simp; omega)]; simpa using k4
        · simp only [List.length_set]
          have : ((splice cells.toList (off + (i * e + offs π)) vs).drop off).take (xs.length * e) = splice ((cells.toList.drop off).take (xs.length * e)) (i * e + offs π) vs :=
            splice_part _ _ _ _ _ (by simp; omega) (by omega)
          rw [this]; exact hset
  | dead => simp [Obj.set] at hg
  | map => simp [Obj.set] at hg
  | loop => simp [Obj.set] at hg

theorem store_ok {C : Cx} {E : Env} (hE : EnvOK E P) (h : Sim C w) {t : Nat} {x v : AV} {xv vv : Value} (hx : AVal C x xv) (hv : AVal C v vv) {H' : Heap} (hl : E.storeA C.H t x v = some H') :
    StepOK P C w (Go.Instr.storeAt t xv vv) H' := by
  unfold Env.storeA at hl
  simp only [Option.bind_eq_some_iff] at hl
  obtain ⟨ty, hty, hl⟩ := hl
  have hT := hE.ty t ty hty
  cases x with
  | ref b π =>
    simp only [Option.bind_eq_some_iff, Option.ite_none_right_eq_some, Option.map_eq_some_iff] at hl
    obtain ⟨o, ho, hc, o', hset, rfl⟩ := hl
    have hst : v.storable = true := by cases v <;> simp_all [AV.storable, AV.cells]
    have hvc := AVal.cells hv hst
    have hvl := hvc.length hc
    simp only [AVal, AR] at hx
    obtain ⟨hb, x, hxe, _, hx⟩ := hx
    have hal : o.alive = true := by
      cases o <;> simp_all [Obj.set, Obj.alive]
    obtain ⟨blk, off, cap, hi, rfl⟩ := hx ⟨o, ho, hal⟩
    obtain rfl : xv = _ := by simpa using hxe
    obtain ⟨s1, s2, s3, cells, E', fz, k1, k2, k3, k4⟩ := Obj.set_ok h hi ho hvc hset
    obtain ⟨w', r1, r2⟩ := run_storeCells (P := P) blk vv.cells.toList w cells E' fz (off + offs π) 0 k1 k2 (by simpa using k3) (AR.one v _ hvc)
    rw [Nat.add_zero] at r2
    obtain ⟨g1, g2⟩ := h.setObj hi ho s1 s3 s2 r2 (ObjRep.ren_le (setObj_le C b o o' ho s3) (k4 w' r2))
    refine ⟨_, w', ?_, g1, g2, rfl⟩
    unfold Go.Instr.storeAt
    rw [bind_ok run_sureAddr]
    unfold Go.storeVar
    rw [bind_ok hT.run_sizeOf]
    have : ¬ (vv.cells.size ≠ ty.cells) := by simpa using hvl
    simp only [this, if_false]
    exact r1
  | _ => simp at hl

/-! ### Maps -/

theorem run_setObj_map {r : Nat} {a : Array MapEntry} {c : Nat} (o : Go.Obj) (hn : noCells o) (h : w.heap[r]? = some (.map a c)) : ∃ w', (Go.setObj r o).run P w = .ok () w' ∧ SetBlk w w' r o := by
  refine ⟨{ w with heap := w.heap.setIfInBounds r o }, by simp [Go.setObj, Sem.run, h], by simp, ?_, fun k hk => ?_, quiet_put h trivial hn⟩
  · have := (Array.getElem?_eq_some_iff.1 h).1
    simp [this]
  · simp [Ne.symm hk]

theorem mapPut_ok {C : Cx} {E : Env} (hE : EnvOK E P) (hH : C.has = E.has 10) (h : Sim C w) {t : Nat} {x k v : AV} {xv kv vv : Value} (hx : AVal C x xv) (hk : AVal C k kv) (hv : AVal C v vv) {H' : Heap}
    (hl : E.mapPutA C.H t x k v = some H') : StepOK P C w (Go.Instr.mapUpdate t xv kv vv) H' := by
  unfold Env.mapPutA at hl
  split at hl
  case h_2 => cases hl
  rename_i kt vt cc bb zz b kd vd hty
  have hu := (hE.ty t _ hty).desc
  simp only [DescOK] at hu
  split at hl
  case h_2 => cases hl
  rename_i kt' vt' es ho
  simp only [Option.ite_none_right_eq_some, Option.map_eq_some_iff] at hl
  obtain ⟨⟨rfl, rfl, hhas, hself, hvhas⟩, es', hput, rfl⟩ := hl
  obtain ⟨cs, hself⟩ := Option.isSome_iff_exists.1 hself
  rw [AVal.p] at hk hv
  simp only [AVal, AR] at hx
  obtain ⟨_, x, hxe, _, hx⟩ := hx
  obtain ⟨blk, off, cap, hi, rfl⟩ := hx ⟨_, ho, rfl⟩
  obtain rfl : xv = _ := by simpa using hxe
  obtain ⟨o', ho', hrep⟩ := h.obj b _ hi
  rw [ho] at ho'; cases ho'
  simp only [ObjRep] at hrep
  obtain ⟨blk', a, c, hl, h1, h2, h3⟩ := hrep
  cases hl
  have hck : (Go.Instr.checkKey false 10000 kt kv).run P w = .ok () w := checkKey_ok hE false 10 10000 kt kd kv (by decide) hhas ⟨cs, hself⟩ hk
  have hfind : ∃ r, MapFind kd es = some r := by
    clear h2 h3 ho
    induction es generalizing es' with
    | nil => exact ⟨none, rfl⟩
    | cons x es ih =>
      obtain ⟨k', v'⟩ := x
      simp only [MapPut, Option.bind_eq_some_iff] at hput
      obtain ⟨bb, hb, hput⟩ := hput
      cases bb with
      | true => exact ⟨some v', by simp [MapFind, hb]⟩
      | false =>
        simp only [Bool.false_eq_true, if_false, Option.map_eq_some_iff] at hput
        obtain ⟨es2, h4, _⟩ := hput
        obtain ⟨r, hr⟩ := ih es2 h4
        exact ⟨r, by simp [MapFind, hb, hr]⟩
  obtain ⟨j, hj, hrun⟩ := findKey_ok (w := w) hE hhas hk es a.toList h2 (fun x hx => by have := (h3 x hx).1; rw [hH] at this; exact this) hfind
  -- the map anew
  have fin : ∀ (w1 : World) (a' : Array MapEntry) (c' : Nat), (w1.heap = w.heap ∧ Quiet w w1) → MapRep C.M es' a'.toList → (∀ x ∈ es', E.has 10 kt x.1 = true ∧ E.has 10 vt x.2 = true) →
      ∃ C' w', (Go.setObj blk (.map a' c')).run P w1 = .ok () w' ∧ Sim C' w' ∧ Ext C w C' w' ∧ C'.H = C.H.set b (.map kt vt es') := by
    rintro w1 a' c' ⟨hw, hq⟩ hm hall
    obtain ⟨w', r1, r2⟩ := run_setObj_map (P := P) (w := w1) (.map a' c') trivial (by rw [hw]; exact h1)
    have r2' : SetBlk w w' blk (.map a' c') := ⟨by rw [r2.size, hw], r2.here, fun k hk => by rw [r2.rest k hk, hw], hq.trans r2.quiet⟩
    obtain ⟨g1, g2⟩ := h.setObj (o' := .map kt vt es') hi ho rfl trivial rfl r2' (by
      simp only [ObjRep]
      exact ⟨blk, a', c', rfl, r2.here, hm, by intro x hx; rw [hH]; exact hall x hx⟩)
    exact ⟨_, w', r1, g1, g2, rfl⟩
  have hes : ∀ x ∈ es, E.has 10 kt x.1 = true ∧ E.has 10 vt x.2 = true := by intro x hx; have := h3 x hx; rw [hH] at this; exact this
  cases j with
  | none =>
    have hp := (hj.no rfl).2 vd
    rw [hp] at hput; cases hput
    obtain ⟨C', w', q1, q2, q3, q4⟩ := fin w (a.push { key := kv, val := vv, born := c }) (c + 1) ⟨rfl, .refl w⟩ (by rw [Array.toList_push]; exact MapRep.snoc hk hv h2) (by
      intro x hx
      rcases List.mem_append.1 hx with hx | hx
      · exact hes x hx
      · simp only [List.mem_singleton] at hx; subst hx; exact ⟨hhas, hvhas⟩)
    refine ⟨C', w', ?_, q2, q3, q4⟩
    unfold Go.Instr.mapUpdate
    rw [bind_ok (run_underlying hu)]
    simp only
    rw [bind_ok (run_getObj_map h1)]
    simp only
    rw [bind_ok hck, bind_ok hrun]
    exact q1
  | some j =>
    obtain ⟨k', d, e1, e2, e3, e4⟩ := hj.yes j rfl
    rw [e4 vd] at hput; cases hput
    obtain ⟨e, g1, g2, g3⟩ := MapRep.get j k' d h2 e1
    have hkk : kd = k' := eqv_eq 10 kt kd k' hhas (hes _ (List.mem_of_getElem? e1)).1 e2
    subst hkk
    have hjl := (List.getElem?_eq_some_iff.1 e1).1
    have ga : a[j]? = some e := by rw [← Array.getElem?_toList]; exact g1
    -- which key stays
    have hstay : ∃ key' w1, (Go.Instr.keyThatStays e.key kv).run P w = .ok key' w1 ∧ (w1.heap = w.heap ∧ Quiet w w1) ∧ PVal C.M kd key' := by
      unfold Go.Instr.keyThatStays
      split
      · exact ⟨kv, w, rfl, ⟨rfl, .refl w⟩, hk⟩
      · have hch : ∃ m w1, (Go.choose (.extern "map.whichKeyStays" 2)).run P w = .ok m w1 ∧ w1.heap = w.heap ∧ Quiet w w1 := by
          refine ⟨(Go.Question.extern "map.whichKeyStays" 2).cut (w.tape w.drawn (Go.Question.extern "map.whichKeyStays" 2)), { w with drawn := w.drawn + 1 }, ?_, rfl, .drew w⟩
          simp [Go.choose, Sem.run, Go.Question.forced]
        obtain ⟨m, w1, r1, r2⟩ := hch
        refine ⟨if m = 0 then kv else e.key, w1, ?_, r2, ?_⟩
        · rw [bind_ok r1]; rfl
        · split
          · exact hk
          · exact g2
    obtain ⟨key', w1, r1, r2, r3⟩ := hstay
    obtain ⟨C', w', q1, q2, q3, q4⟩ := fin w1 (a.modify j fun e => { e with key := key', val := vv }) c r2 (by
      have : (a.modify j fun e => { e with key := key', val := vv }).toList = a.toList.set j { e with key := key', val := vv } := by
        apply List.ext_getElem?
        intro i
        rw [Array.getElem?_toList, Array.getElem?_modify, List.getElem?_set, Array.getElem?_toList]
        by_cases hij : j = i
        · subst hij
          obtain ⟨hja, hje⟩ := Array.getElem?_eq_some_iff.1 ga
          simp [hja, hje]
        · simp [hij]
      rw [this]
      exact MapRep.set j _ h2 hjl r3 hv) (by
      intro x hx
      rcases List.mem_or_eq_of_mem_set hx with hx | rfl
      · exact hes x hx
      · exact ⟨hhas, hvhas⟩)
    refine ⟨C', w', ?_, q2, q3, q4⟩
    unfold Go.Instr.mapUpdate
    rw [bind_ok (run_underlying hu)]
    simp only
    rw [bind_ok (run_getObj_map h1)]
    simp only
    rw [bind_ok hck, bind_ok hrun]
    simp only [Option.bind_some, g1, Option.map_some, ga, Option.getD_some]
    rw [bind_ok r1]
    exact q1

end
end Ev

/- append and copy. -/
namespace Ev
open Go (Value Addr Fn IntKind World Sem Program Operand Oper Result)

section
variable {P : Program} {w : World}

/-- The elements that a slice holds now. -/
def Elems (C : Cx) (w : World) (e : Nat) (ds : List PD) (v : Value) : Prop :=
  ∃ base cap, v = .slice base ds.length cap ∧ (ds.length = 0 ∨ ∃ b o rcs, base = some ⟨b, o, none⟩ ∧ cellsAt w b o rcs ∧ PRow C.M e ds rcs)

theorem elems_read {C : Cx} (h : Sim C w) {x : AV} {xv : Value} {e : Nat} {ds : List PD} (hx : AVal C x xv) (hf : freeze C.H x = some (.sl e ds)) : Elems C w e ds xv := by
  cases x with
  | p d =>
    simp only [freeze, Option.some.injEq] at hf; subst hf
    simp only [AVal, AR, PD.isAgg, Bool.and_false, Bool.false_eq_true, if_false, PRep] at hx
    obtain ⟨base, cap, hxe, _, hb⟩ := hx
    obtain rfl : xv = _ := by simpa using hxe
    refine ⟨base, cap, rfl, hb.imp id ?_⟩
    rintro ⟨b, off, rcs, h1, h2, h3⟩
    exact ⟨b, off, rcs, h1, readM.cellsAt h h2, h3⟩
  | agg sz fs => simp only [freeze, Option.map_eq_some_iff] at hf; obtain ⟨_, _, hf⟩ := hf; cases hf
  | nils e' =>
    simp only [freeze, Option.some.injEq, PD.sl.injEq] at hf
    obtain ⟨rfl, rfl⟩ := hf
    simp only [AVal, AR] at hx
    obtain ⟨base, hxe⟩ := hx
    obtain rfl : xv = _ := by simpa using hxe
    exact ⟨base, 0, rfl, .inl rfl⟩
  | own b lo =>
    simp only [freeze] at hf
    split at hf
    case h_2 => cases hf
    rename_i e' xs s ho
    cases hf
    simp only [AVal, AR] at hx
    obtain ⟨_, x, hxe, _, hx⟩ := hx
    obtain rfl : xv = x := by simpa using hxe
    obtain ⟨loc, hi, hv⟩ := hx _ e xs.length ho rfl
    cases loc with
    | nil =>
      simp only [ownV] at hv
      obtain ⟨h1, h2, base, rfl⟩ := hv
      have : xs = [] := List.length_eq_zero_iff.1 h1
      subst this
      exact ⟨base, 0, by simp, .inl (by simp)⟩
    | «at» blk off cap =>
      simp only [ownV] at hv
      obtain ⟨h1, h2, a, rfl, h3⟩ := hv
      refine ⟨some a, cap - lo, by simp, ?_⟩
      by_cases hz : xs.length - lo = 0
      · left; simp; omega
      · right
        rw [h3 (by omega)]
        obtain ⟨o', ho', hr⟩ := h.obj b _ hi
        rw [ho] at ho'; cases ho'
        simp only [ObjRep] at hr
        obtain ⟨cells, E, fz, k1, k2, k3, k4, k5⟩ := hr
        have hle : xs.length * e ≤ cap * e := Nat.mul_le_mul_right e k3
        have hsub : (xs.length - lo) * e = xs.length * e - lo * e := Nat.sub_mul _ _ _
        have hlo : lo * e ≤ xs.length * e := Nat.mul_le_mul_right e h1
        refine ⟨blk, off + lo * e, (cells.toList.drop (off + lo * e)).take ((xs.length - lo) * e), rfl, cellsAt_of k1 _ _ (by omega), ?_⟩
        have := k5.dropN lo
        rw [drop_take_drop, ← hsub] at this
        exact this
  | win b π e' lo len cap ex =>
    simp only [freeze, Option.map_eq_some_iff] at hf
    obtain ⟨ds', hel, hf⟩ := hf
    cases hf
    simp only [AVal, AR] at hx
    obtain ⟨_, x, hxe, _, hx⟩ := hx
    obtain rfl : xv = x := by simpa using hxe
    unfold Heap.elems at hel
    cases ho : C.H[b]? with
    | none => simp [ho] at hel
    | some o =>
      rw [ho] at hel
      have halive : C.alive b := ⟨o, ho, by cases o <;> simp_all [Obj.alive]⟩
      obtain ⟨loc, hi, hwv⟩ := hx halive
      obtain ⟨o', ho', hr⟩ := h.obj b _ hi
      rw [ho] at ho'; cases ho'
      cases loc with
      | nil =>
        obtain ⟨rfl, rfl, base, rfl⟩ := hwv
        have hlen : ds = [] := by
          cases o with
          | row e' xs s =>
            simp only [ObjRep] at hr
            subst hr
            cases π with
            | cons st π => simp at hel
            | nil =>
              simp only at hel
              split at hel
              · cases hel; simp
              · cases hel
          | var t s => simp only [ObjRep] at hr; obtain ⟨_, _, _, _, hl, _⟩ := hr; cases hl
          | _ => simp at hel
        subst hlen
        exact ⟨base, 0, by simp, .inl rfl⟩
      | «at» blk off c =>
      obtain ⟨hlc, a, cap', rfl, hcc, _, hadr, _⟩ := hwv
      suffices hw : ds.length = len ∧ ∃ rcs, cellsAt w blk (off + offs π + lo * e) rcs ∧ PRow C.M e ds rcs by
        obtain ⟨hlen, rcs, q1, q2⟩ := hw
        refine ⟨some a, cap', by rw [hlen], ?_⟩
        by_cases hz : len = 0
        · left; omega
        · right; exact ⟨blk, _, rcs, by rw [hadr (by omega)], q1, q2⟩
      cases o with
      | row e' xs s =>
        cases π with
        | cons st π => simp at hel
        | nil =>
          simp only at hel
          split at hel
          · rename_i hc
            obtain ⟨rfl, hc⟩ := hc
            cases hel
            simp only [ObjRep] at hr
            obtain ⟨cells, E, fz, k1, k2, k3, k4, k5⟩ := hr
            have hle : xs.length * e ≤ c * e := Nat.mul_le_mul_right e k3
            have h2 : (lo + len) * e ≤ xs.length * e := Nat.mul_le_mul_right e hc
            rw [Nat.add_mul] at h2
            refine ⟨by simp; omega, (cells.toList.drop (off + lo * e)).take (len * e), ?_, ?_⟩
            · simp only [show offs [] = 0 from rfl, Nat.add_zero]
              exact cellsAt_of k1 _ _ (by omega)
            · have := (k5.dropN lo).takeN len
              rw [drop_take_drop, List.take_take, Nat.min_eq_left (by omega)] at this
              exact this
          · cases hel
      | var t s =>
        simp only at hel
        simp only [ObjRep] at hr
        obtain ⟨blk', cells, E, fz, hl, k1, k2, k3⟩ := hr
        cases hl
        cases hg : t.get π with
        | none => simp [hg] at hel
        | some u =>
          simp only [hg, Option.bind_some] at hel
          have hfit : fitsN t cells.toList.length := by
            cases hc : t.cells with
            | none => exact .inl hc
            | some n => right; rw [hc, k3.length hc]
          obtain ⟨n, g1, g2, g3⟩ := AV.get_ok π t u _ k3 hfit hg
          obtain ⟨e1, e2, e3⟩ := elems_ok g2 hel
          have hln : ((cells.toList.drop (offs π)).take n).length = n := by simp at g1 ⊢; omega
          rw [hln, Nat.add_mul] at e2
          rw [part_part _ _ _ _ _ e2] at e3
          refine ⟨e1, _, ?_, e3⟩
          rw [Nat.zero_add]
          exact cellsAt_of k1 _ _ (by simp at g1; omega)
      | _ => simp at hel
  | clo fn a b =>
    cases a with
    | cons _ _ => simp [freeze] at hf
    | nil => cases b with
      | cons _ _ => simp [freeze] at hf
      | nil => simp [freeze] at hf
  | _ => simp [freeze] at hf

theorem cellsAt_take {b o : Nat} {rcs : List Value} (h : cellsAt w b o rcs) (n : Nat) : cellsAt w b o (rcs.take n) := by
  intro j hj
  simp only [List.length_take] at hj
  rw [h j (by omega), List.getElem?_take, if_pos (by omega)]

/-- The first cells of a slice. -/
theorem run_firstCells {C : Cx} {e : Nat} {ds : List PD} {v : Value} (h : Elems C w e ds v) (n : Nat) (hn : n ≤ ds.length) :
    ∃ rcs : List Value, (Go.Builtin.firstCells e n v).run P w = .ok rcs.toArray w ∧ PRow C.M e (ds.take n) rcs ∧ (∀ x ∈ rcs, one x = true) := by
  obtain ⟨base, cap, rfl, hb⟩ := h
  rcases hb with hz | ⟨b, o, rcs, rfl, hc, hr⟩
  · have hn0 : n = 0 := by omega
    subst hn0
    cases base with
    | none => exact ⟨[], rfl, by simp [PRow], by simp⟩
    | some a => exact ⟨[], by simp [Go.Builtin.firstCells, Go.loadCells, Go.loadCellsFrom], by simp [PRow], by simp⟩
  · have hl := hr.length
    have hle : n * e ≤ ds.length * e := Nat.mul_le_mul_right e hn
    refine ⟨rcs.take (n * e), ?_, hr.takeN n, fun x hx => PRow.one e ds rcs hr x (List.mem_of_mem_take hx)⟩
    have hlen : (rcs.take (n * e)).length = n * e := by simp; omega
    have := run_loadCells (P := P) (cellsAt_take hc (n * e))
    rw [hlen] at this
    exact this

theorem growBy_le : ∀ (r c n : Nat), 256 ≤ c → c < n → Go.Builtin.growBy n r c ≤ 3 * n
  | 0, c, n, h1, h2 => by simp [Go.Builtin.growBy]; omega
  | r + 1, c, n, h1, h2 => by
    simp only [Go.Builtin.growBy]
    rw [if_neg (by omega)]
    by_cases h : c + (c + 768) / 4 < n
    · exact growBy_le r _ n (by omega) h
    · cases r with
      | zero => simp [Go.Builtin.growBy]; omega
      | succ r => simp only [Go.Builtin.growBy]; rw [if_pos (by omega)]; omega

theorem nextslicecap_le {n c : Nat} (h : c < n) : Go.Builtin.nextslicecap n c ≤ 3 * n := by
  unfold Go.Builtin.nextslicecap
  split
  · omega
  · split
    · omega
    · exact growBy_le 4 c n (by omega) h

end
end Ev

/- append and copy, whole. -/
namespace Ev
open Go (Value Addr Fn IntKind World Sem Program Operand Oper Result)

section
variable {P : Program} {w : World}

def StepVal (P : Program) (C : Cx) (w : World) (s : Sem Value) (v : AV) (H' : Heap) : Prop :=
  ∃ rv C' w', s.run P w = .ok rv w' ∧ Sim C' w' ∧ Ext C w C' w' ∧ C'.H = H' ∧ AVal C' v rv

/-- An object is given up. -/
def Cx.kill (C : Cx) (b : Nat) : Cx := { C with ι := fun c => if c = b then none else C.ι c, H := C.H.set b .dead }

theorem kill_le (C : Cx) (b : Nat) : C.le (C.kill b) := by
  refine ⟨fun _ _ _ h => h, fun c hc => ?_, by simp [Cx.kill], rfl⟩
  by_cases h : c = b
  · subst h; left; simp [Cx.kill, hc]
  · right
    refine ⟨by simp [Cx.kill, h], C.H[c], C.H[c], by simp [hc], ?_, .inl rfl⟩
    simp [Cx.kill, Ne.symm h, hc]

theorem Sim.kill {C : Cx} (h : Sim C w) (b : Nat) : Sim (C.kill b) w ∧ Ext C w (C.kill b) w := by
  have hι : ∀ c l, (C.kill b).ι c = some l → c ≠ b ∧ C.ι c = some l := by
    intro c l hc
    by_cases h : c = b
    · simp [Cx.kill, h] at hc
    · exact ⟨h, by simpa [Cx.kill, h] using hc⟩
  have hH : ∀ c, c ≠ b → (C.kill b).H[c]? = C.H[c]? := by
    intro c hc; simp [Cx.kill, Ne.symm hc]
  refine ⟨⟨h.agree, ?_, ?_, ?_, ?_, ?_⟩, ⟨kill_le C b, fun _ _ _ h => .inl h, ?_, fun _ _ _ => rfl, Nat.le_refl _, .refl _⟩⟩
  · intro c l hc
    obtain ⟨h1, h2⟩ := hι c l hc
    obtain ⟨o, ho, hr⟩ := h.obj c l h2
    exact ⟨o, by rw [hH c h1]; exact ho, ObjRep.ren_le (kill_le C b) hr⟩
  · intro c c' blk off cap off' cap' h1 h2
    exact h.sep c c' blk off cap off' cap' (hι _ _ h1).2 (hι _ _ h2).2
  · intro c blk off cap ob h1 h2 h3 o
    obtain ⟨k1, k2⟩ := hι _ _ h1
    rw [hH c k1] at h2
    exact h.open_ c blk off cap ob k2 h2 h3 o
  · intro c blk off cap ob h1 h2 h3
    obtain ⟨k1, k2⟩ := hι _ _ h1
    rw [hH c k1] at h2
    exact h.cover c blk off cap ob k2 h2 h3
  · intro c blk off cap e xs h1 h2
    obtain ⟨k1, k2⟩ := hι _ _ h1
    rw [hH c k1] at h2
    exact h.room c blk off cap e xs k2 h2
  · rintro blk ⟨c, off, cap, hc⟩
    exact .inl ⟨c, off, cap, (hι _ _ hc).2⟩

/-- A new row, sealed or not. -/
theorem newRow_sealed {C : Cx} (h : Sim C w) (elemT : Nat) (cells : Array Value) {e cap : Nat} {xs : List PD} (s : Bool) (hc : xs.length ≤ cap) (hs : cells.size = cap * e) (hr : PRow C.M e xs (cells.toList.take (xs.length * e))) :
    ∃ C', Sim C' (pushW w (.cells cells elemT)) ∧ Ext C w C' (pushW w (.cells cells elemT)) ∧ C'.H = C.H ++ [.row e xs s] ∧ AVal C' (.own C.H.length 0) (.slice (some ⟨w.heap.size, 0, none⟩) xs.length cap) := by
  have hrl : (Obj.row e xs false).rowLen = some (e, xs.length) := rfl
  have hcalm := newRow_ok h elemT cells hrl rfl hc hs fun _ => .inl ⟨e, xs, false, rfl, hr⟩
  have hown := own_new (C := C) hrl hc w.heap.size
  cases s with
  | false => exact ⟨_, hcalm.sim, hcalm.ext, rfl, hown⟩
  | true =>
    obtain ⟨M', g1, g2, g3⟩ := hcalm.sim.sealAt C.H.length
    have hle := sealAt_le (C.add (.at w.heap.size 0 cap) (.row e xs false)) M' C.H.length g2
    have hH : (C.H ++ [Obj.row e xs false]).sealAt C.H.length = C.H ++ [.row e xs true] := by
      simp [Heap.sealAt, Obj.shut]
    have hext2 : Ext (C.add (.at w.heap.size 0 cap) (.row e xs false)) (pushW w (.cells cells elemT)) ⟨M', (C.add (.at w.heap.size 0 cap) (.row e xs false)).ι, (C.add (.at w.heap.size 0 cap) (.row e xs false)).H.sealAt C.H.length, C.has⟩ (pushW w (.cells cells elemT)) := by
      refine ⟨hle, fun b o v hv => ?_, fun blk hb => .inl hb, fun _ _ _ => rfl, Nat.le_refl _, .refl _⟩
      rcases g3 b o v hv with k | k
      · exact .inl k
      · exact .inr (.inl k)
    refine ⟨_, g1, hcalm.ext.trans hext2, hH, AR.mono hle true _ _ hown⟩

/-- What append reads, in this world and in every one with its heap. -/
def AppSrc (P : Program) (C : Cx) (w : World) (e : Nat) (ds : List PD) (n : Nat) (x : Value) : Prop :=
  ∃ rcs : List Value, (∀ w1 : World, w1.heap = w.heap → (Go.Builtin.firstCells e n x).run P w1 = .ok rcs.toArray w1) ∧ PRow C.M e ds rcs ∧ ∀ y ∈ rcs, one y = true

theorem cellsAt_heap {w w1 : World} (h : w1.heap = w.heap) {b o : Nat} {cs : List Value} (hc : cellsAt w b o cs) : cellsAt w1 b o cs := by
  intro j hj
  rw [cell_same (w := w) (w' := w1) (by rw [h])]; exact hc j hj

theorem Elems.src {C : Cx} {e : Nat} {ds : List PD} {v : Value} (h : Elems C w e ds v) (n : Nat) (hn : n ≤ ds.length) : AppSrc P C w e (ds.take n) n v := by
  obtain ⟨base, cap, rfl, hb⟩ := h
  rcases hb with hz | ⟨b, o, rcs, rfl, hc, hr⟩
  · have hn0 : n = 0 := by omega
    subst hn0
    refine ⟨[], fun w1 _ => ?_, by simp [PRow], by simp⟩
    cases base with
    | none => rfl
    | some a => simp [Go.Builtin.firstCells, Go.loadCells, Go.loadCellsFrom]
  · have hl := hr.length
    have hle : n * e ≤ ds.length * e := Nat.mul_le_mul_right e hn
    refine ⟨rcs.take (n * e), fun w1 hw => ?_, hr.takeN n, fun x hx => PRow.one e ds rcs hr x (List.mem_of_mem_take hx)⟩
    have hlen : (rcs.take (n * e)).length = n * e := by simp; omega
    have := run_loadCells (P := P) (cellsAt_take (cellsAt_heap hw hc) (n * e))
    rw [hlen] at this
    exact this

/-- The type of append's second argument: no integer (that would be a make). -/
def NoInt (P : Program) (t : Nat) : Prop := ∃ d, P.underlying t = some d ∧ ∀ k, d ≠ .int k

theorem noInt_match (d : Go.TypeDesc) : ((match d with | .int _ => true | _ => false) = false) ∨ ∃ k, d = .int k := by
  cases d <;> first | exact .inl rfl | exact .inr ⟨_, rfl⟩

theorem append_in {E : Env} (hE : EnvOK E P) {st xt e ty2 n : Nat} {et : Ty} {c b : Nat} {z : AV} (hst : E.ty st = some ⟨.slice e, c, b, z⟩) (het : E.ty e = some et) (hxt : NoInt P xt)
    {x : Value} (hlen : (Go.Builtin.lenOf x).run P w = .ok n w) {base : Option Addr} {sLen sCap : Nat} (hle : sLen + n ≤ sCap) {new : Array Value} {w' : World} (hnew : (Go.Builtin.firstCells et.cells n x).run P w = .ok new w)
    (hs : match base with | some a => (Go.storeCells (a.add (sLen * et.cells)) new.toList).run P w = .ok () w' | none => w' = w) :
    (Go.Builtin.append_ #[st, xt] ty2 #[.slice base sLen sCap, x]).run P w = .ok (.slice base (sLen + n) sCap) w' := by
  have hu := (hE.ty st _ hst).desc
  simp only [DescOK] at hu
  have hET := hE.ty e et het
  obtain ⟨d, hd, hdk⟩ := hxt
  have hz := (noInt_match d).resolve_right (fun h => h.elim fun k e => hdk k e)
  unfold Go.Builtin.append_
  simp only [List.getElem?_toArray, List.getElem?_cons_zero, List.getElem?_cons_succ]
  rw [bind_ok (run_underlying hu)]
  simp only
  rw [bind_ok hET.run_sizeOf, bind_ok (run_underlying hd)]
  refine bind_ok' (a := false) (w' := w) (congrArg (Result.ok · w) hz) ?_
  simp only [Bool.false_eq_true, if_false]
  rw [bind_ok hlen]
  rw [if_pos hle]
  simp only [Bool.not_false, if_true]
  rw [bind_ok hnew]
  cases base with
  | none => simp only at hs ⊢; subst hs; rfl
  | some a => simp only at hs ⊢; rw [bind_ok hs]; rfl

theorem append_out {E : Env} (hE : EnvOK E P) {st xt e ty2 n : Nat} {et : Ty} {c b : Nat} {z : AV} (hst : E.ty st = some ⟨.slice e, c, b, z⟩) (het : E.ty e = some et) (hxt : NoInt P xt)
    {x : Value} (hlen : (Go.Builtin.lenOf x).run P w = .ok n w) {base : Option Addr} {sLen sCap : Nat} (hgt : sCap < sLen + n) (hb : (sLen + n) * et.bytes ≤ 2 ^ 46) (hn : sLen + n ≤ 2 ^ 46) {old new : Array Value}
    (hold : ∀ w1 : World, w1.heap = w.heap → (Go.Builtin.firstCells et.cells sLen (.slice base sLen sCap)).run P w1 = .ok old w1) (hnew : ∀ w1 : World, w1.heap = w.heap → (Go.Builtin.firstCells et.cells n x).run P w1 = .ok new w1)
    (ho : old.size = sLen * et.cells) (hn' : new.size = n * et.cells) :
    ∃ (w1 : World) (newCap : Nat) (cells : Array Value), (w1.heap = w.heap ∧ Quiet w w1) ∧ sLen + n ≤ newCap ∧ (Go.Builtin.append_ #[st, xt] ty2 #[.slice base sLen sCap, x]).run P w = .ok (.slice (some ⟨w.heap.size, 0, none⟩) (sLen + n) newCap) (pushW w1 (.cells cells e)) ∧
      cells.size = newCap * et.cells ∧ cells.toList.take ((sLen + n) * et.cells) = old.toList ++ new.toList := by
  have hu := (hE.ty st _ hst).desc
  simp only [DescOK] at hu
  have hET := hE.ty e et het
  obtain ⟨i, hi1, hi2, hi3, zz, hi4, hi5⟩ := hET.info
  obtain ⟨d, hd, hdk⟩ := hxt
  have hz := (noInt_match d).resolve_right (fun h => h.elim fun k e => hdk k e)
  let q : Go.Question := .appendCap (sLen + n) sCap e
  let w1 : World := { w with drawn := w.drawn + 1 }
  obtain ⟨zv, hzr, hzv⟩ := hET.run_zero (w := w1)
  have hzc : zv.cells.size = et.cells := by
    have := ((hzv ⟨fun _ _ => none, fun _ => none, [], fun _ _ => false⟩).cells hET.storable).length hET.zcells
    simpa using this
  have hcut : sLen + n ≤ q.cut (w.tape w.drawn q) := by simp [q, Go.Question.cut]
  refine ⟨w1, q.cut (w.tape w.drawn q), old ++ new ++ Go.Builtin.zeroCells zv.cells (q.cut (w.tape w.drawn q) - (sLen + n)), ⟨rfl, .drew w⟩, hcut, ?_, ?_, ?_⟩
  · unfold Go.Builtin.append_
    simp only [List.getElem?_toArray, List.getElem?_cons_zero, List.getElem?_cons_succ]
    rw [bind_ok (run_underlying hu)]
    simp only
    rw [bind_ok hET.run_sizeOf, bind_ok (run_underlying hd)]
    refine bind_ok' (a := false) (w' := w) (congrArg (Result.ok · w) hz) ?_
    simp only [Bool.false_eq_true, if_false]
    rw [bind_ok hlen, if_neg (by omega), bind_ok (run_typeInfo hi1)]
    have hmax : IntKind.i64.max = 9223372036854775807 := by decide
    rw [if_neg (by rw [hmax]; omega), bind_ok (run_typeInfo hi1)]
    have hnc := nextslicecap_le hgt
    have hmul : Go.Builtin.nextslicecap (sLen + n) sCap * i.bytes ≤ 3 * (sLen + n) * et.bytes := by rw [hi3]; exact Nat.mul_le_mul_right _ hnc
    rw [if_neg (by rw [Nat.mul_assoc] at hmul; omega)]
    have hch : (Go.choose q).run P w = .ok (q.cut (w.tape w.drawn q)) w1 := by
      simp [Go.choose, Sem.run, Go.Question.forced, q, w1]
    rw [bind_ok hch, bind_ok (run_typeInfo hi1)]
    have hroom : (Go.askRoom (q.cut (w.tape w.drawn q) * i.bytes)).run P w1 = .ok () w1 := by
      unfold Go.askRoom
      split <;> rfl
    rw [bind_ok hroom, bind_ok (hold w1 rfl)]
    simp only [Bool.not_false, if_true]
    rw [bind_ok (hnew w1 rfl), bind_ok hzr, bind_ok (run_newRow _ _)]
    rfl
  · have h1 : (Go.Builtin.zeroCells zv.cells (q.cut (w.tape w.drawn q) - (sLen + n))).size = (q.cut (w.tape w.drawn q) - (sLen + n)) * et.cells := by
      simp [Go.Builtin.zeroCells, hzc]
    simp only [Array.size_append, ho, hn', h1]
    rw [← Nat.add_mul, ← Nat.add_mul]
    congr 1; omega
  · simp only [Array.toList_append]
    rw [List.take_append_of_le_length (by simp [ho, hn', Nat.add_mul]), List.take_of_length_le (by simp [ho, hn', Nat.add_mul])]

theorem asInt64 {n : Int} (h0 : 0 ≤ n) (h1 : n < 2 ^ 47) : IntKind.i64.wrap n = n := by
  show (if (true && decide ((n % 2 ^ 64 : Int) ≥ 2 ^ (64 - 1))) = true then n % 2 ^ 64 - 2 ^ 64 else n % 2 ^ 64) = n
  simp; omega

/-- append of n zeros. -/
theorem append_inI {E : Env} (hE : EnvOK E P) {st xt e ty2 : Nat} {et : Ty} {c b : Nat} {z : AV} (hst : E.ty st = some ⟨.slice e, c, b, z⟩) (het : E.ty e = some et) {k k' : IntKind} (hxt : P.underlying xt = some (.int k))
    {n : Int} (h0 : 0 ≤ n) (h1 : n * et.bytes ≤ 2 ^ 47) (h2 : n < 2 ^ 47) {base : Option Addr} {sLen sCap : Nat} (hle : sLen + n.toNat ≤ sCap) {zv : Value} (hz : ∀ w1 : World, (Go.zeroValue e).run P w1 = .ok zv w1) (hzc : zv.cells.size = et.cells) {w' : World}
    (hs : match base with | some a => (Go.storeCells (a.add (sLen * et.cells)) (Go.Builtin.zeroCells zv.cells n.toNat).toList).run P w = .ok () w' | none => w' = w) :
    (Go.Builtin.append_ #[st, xt] ty2 #[.slice base sLen sCap, .int k' n]).run P w = .ok (.slice base (sLen + n.toNat) sCap) w' := by
  have hu := (hE.ty st _ hst).desc
  simp only [DescOK] at hu
  have hET := hE.ty e et het
  obtain ⟨i, hi1, hi2, hi3, zz, hi4, hi5⟩ := hET.info
  unfold Go.Builtin.append_
  simp only [List.getElem?_toArray, List.getElem?_cons_zero, List.getElem?_cons_succ]
  rw [bind_ok (run_underlying hu)]
  simp only
  rw [bind_ok hET.run_sizeOf, bind_ok (run_underlying hxt)]
  refine bind_ok' (a := true) (w' := w) rfl ?_
  simp only [if_true]
  have hb : ¬ n * (i.bytes : Int) > 2 ^ 48 := by rw [hi3]; omega
  rw [bind_ok (show (Go.asInt (.int k' n)).run P w = .ok n w from rfl), asInt64 h0 h2, if_neg (by omega), bind_ok (run_typeInfo hi1), if_neg hb, bind_ok (run_pure _), if_pos hle]
  have hnew : ∀ w1 : World, (if (!true) = true then Go.Builtin.firstCells et.cells n.toNat (Value.int k' n) else if n.toNat * et.cells = 0 then pure #[] else do
        let z ← Go.zeroValue e
        pure (Go.Builtin.zeroCells z.cells n.toNat) : Sem (Array Value)).run P w1 = .ok (Go.Builtin.zeroCells zv.cells n.toNat) w1 := by
    intro w1
    simp only [Bool.not_true, Bool.false_eq_true, if_false]
    split
    · rename_i h
      have : Go.Builtin.zeroCells zv.cells n.toNat = #[] := by simp [Go.Builtin.zeroCells, hzc, h]
      rw [this]; rfl
    · rw [bind_ok (hz w1)]; rfl
  rw [bind_ok (hnew w)]
  cases base with
  | none => simp only at hs ⊢; subst hs; rfl
  | some a => simp only at hs ⊢; rw [bind_ok hs]; rfl

theorem append_outI {E : Env} (hE : EnvOK E P) {st xt e ty2 : Nat} {et : Ty} {c b : Nat} {z : AV} (hst : E.ty st = some ⟨.slice e, c, b, z⟩) (het : E.ty e = some et) {k k' : IntKind} (hxt : P.underlying xt = some (.int k))
    {n : Int} (h0 : 0 ≤ n) (h1 : n * et.bytes ≤ 2 ^ 47) (h2 : n < 2 ^ 47) {base : Option Addr} {sLen sCap : Nat} (hgt : sCap < sLen + n.toNat) (hb : (sLen + n.toNat) * et.bytes ≤ 2 ^ 46) (hn : sLen + n.toNat ≤ 2 ^ 46) {old : Array Value}
    (hold : ∀ w1 : World, w1.heap = w.heap → (Go.Builtin.firstCells et.cells sLen (.slice base sLen sCap)).run P w1 = .ok old w1) {zv : Value} (hz : ∀ w1 : World, (Go.zeroValue e).run P w1 = .ok zv w1) (hzc : zv.cells.size = et.cells)
    (ho : old.size = sLen * et.cells) :
    ∃ (w1 : World) (newCap : Nat) (cells : Array Value), (w1.heap = w.heap ∧ Quiet w w1) ∧ sLen + n.toNat ≤ newCap ∧ (Go.Builtin.append_ #[st, xt] ty2 #[.slice base sLen sCap, .int k' n]).run P w = .ok (.slice (some ⟨w.heap.size, 0, none⟩) (sLen + n.toNat) newCap) (pushW w1 (.cells cells e)) ∧
      cells.size = newCap * et.cells ∧ cells.toList.take ((sLen + n.toNat) * et.cells) = old.toList ++ (Go.Builtin.zeroCells zv.cells n.toNat).toList := by
  have hu := (hE.ty st _ hst).desc
  simp only [DescOK] at hu
  have hET := hE.ty e et het
  obtain ⟨i, hi1, hi2, hi3, zz, hi4, hi5⟩ := hET.info
  have hn' : (Go.Builtin.zeroCells zv.cells n.toNat).size = n.toNat * et.cells := by simp [Go.Builtin.zeroCells, hzc]
  let q : Go.Question := .appendCap (sLen + n.toNat) sCap e
  let w1 : World := { w with drawn := w.drawn + 1 }
  have hcut : sLen + n.toNat ≤ q.cut (w.tape w.drawn q) := by simp [q, Go.Question.cut]
  have hbb : ¬ n * (i.bytes : Int) > 2 ^ 48 := by rw [hi3]; omega
  refine ⟨w1, q.cut (w.tape w.drawn q), old ++ Go.Builtin.zeroCells zv.cells n.toNat ++ Go.Builtin.zeroCells zv.cells (q.cut (w.tape w.drawn q) - (sLen + n.toNat)), ⟨rfl, .drew w⟩, hcut, ?_, ?_, ?_⟩
  · unfold Go.Builtin.append_
    simp only [List.getElem?_toArray, List.getElem?_cons_zero, List.getElem?_cons_succ]
    rw [bind_ok (run_underlying hu)]
    simp only
    rw [bind_ok hET.run_sizeOf, bind_ok (run_underlying hxt)]
    refine bind_ok' (a := true) (w' := w) rfl ?_
    simp only [if_true]
    rw [bind_ok (show (Go.asInt (.int k' n)).run P w = .ok n w from rfl), asInt64 h0 h2, if_neg (by omega), bind_ok (run_typeInfo hi1), if_neg hbb, bind_ok (run_pure _), if_neg (by omega), bind_ok (run_typeInfo hi1)]
    have hmax : IntKind.i64.max = 9223372036854775807 := by decide
    rw [if_neg (by rw [hmax]; omega), bind_ok (run_typeInfo hi1)]
    have hnc := nextslicecap_le hgt
    have hmul : Go.Builtin.nextslicecap (sLen + n.toNat) sCap * i.bytes ≤ 3 * (sLen + n.toNat) * et.bytes := by rw [hi3]; exact Nat.mul_le_mul_right _ hnc
    rw [if_neg (by rw [Nat.mul_assoc] at hmul; omega)]
    have hch : (Go.choose q).run P w = .ok (q.cut (w.tape w.drawn q)) w1 := by
      simp [Go.choose, Sem.run, Go.Question.forced, q, w1]
    rw [bind_ok hch, bind_ok (run_typeInfo hi1)]
    have hroom : (Go.askRoom (q.cut (w.tape w.drawn q) * i.bytes)).run P w1 = .ok () w1 := by
      unfold Go.askRoom
      split <;> rfl
    have hnew : ∀ w1 : World, (if (!true) = true then Go.Builtin.firstCells et.cells n.toNat (Value.int k' n) else if n.toNat * et.cells = 0 then pure #[] else do
          let z ← Go.zeroValue e
          pure (Go.Builtin.zeroCells z.cells n.toNat) : Sem (Array Value)).run P w1 = .ok (Go.Builtin.zeroCells zv.cells n.toNat) w1 := by
      intro w1
      simp only [Bool.not_true, Bool.false_eq_true, if_false]
      split
      · rename_i h
        have : Go.Builtin.zeroCells zv.cells n.toNat = #[] := by simp [Go.Builtin.zeroCells, hzc, h]
        rw [this]; rfl
      · rw [bind_ok (hz w1)]; rfl
    rw [bind_ok hroom, bind_ok (hold w1 rfl), bind_ok (hnew w1), bind_ok (hz w1), bind_ok (run_newRow _ _)]
    rfl
  · have h1 : (Go.Builtin.zeroCells zv.cells (q.cut (w.tape w.drawn q) - (sLen + n.toNat))).size = (q.cut (w.tape w.drawn q) - (sLen + n.toNat)) * et.cells := by
      simp [Go.Builtin.zeroCells, hzc]
    simp only [Array.size_append, ho, hn', h1]
    rw [← Nat.add_mul, ← Nat.add_mul]
    congr 1; omega
  · simp only [Array.toList_append]
    have e1 : (old.toList ++ (Go.Builtin.zeroCells zv.cells n.toNat).toList).length = (sLen + n.toNat) * et.cells := by
      simp only [List.length_append, Array.length_toList, ho, hn', Nat.add_mul]
    rw [List.take_append_of_le_length (by omega), List.take_of_length_le (by omega)]

end
end Ev

/- append: the evaluator's answer is the machine's. -/
namespace Ev
open Go (Value Addr Fn IntKind World Sem Program Operand Oper Result)

section
variable {P : Program} {w : World}

/-- What append puts behind, and that it runs. -/
def AppOK (P : Program) (M : Mem) (w : World) (st xt e : Nat) (et : Ty) (xv : Value) (ds : List PD) : Prop :=
  ∃ newc : List Value, PRow M et.cells ds newc ∧ (∀ y ∈ newc, one y = true) ∧ newc.length = ds.length * et.cells ∧
    (∀ (ty2 : Nat) (base : Option Addr) (sLen sCap : Nat) (w' : World), sLen + ds.length ≤ sCap → (match base with | some a => (Go.storeCells (a.add (sLen * et.cells)) newc).run P w = .ok () w' | none => w' = w) →
      (Go.Builtin.append_ #[st, xt] ty2 #[.slice base sLen sCap, xv]).run P w = .ok (.slice base (sLen + ds.length) sCap) w') ∧
    (∀ (ty2 : Nat) (base : Option Addr) (sLen sCap : Nat) (old : List Value), sCap < sLen + ds.length → (sLen + ds.length) * et.bytes ≤ 2 ^ 46 → sLen + ds.length ≤ 2 ^ 46 →
      (∀ w1 : World, w1.heap = w.heap → (Go.Builtin.firstCells et.cells sLen (.slice base sLen sCap)).run P w1 = .ok old.toArray w1) → old.length = sLen * et.cells →
      ∃ (w1 : World) (newCap : Nat) (cells : Array Value), (w1.heap = w.heap ∧ Quiet w w1) ∧ sLen + ds.length ≤ newCap ∧ (Go.Builtin.append_ #[st, xt] ty2 #[.slice base sLen sCap, xv]).run P w = .ok (.slice (some ⟨w.heap.size, 0, none⟩) (sLen + ds.length) newCap) (pushW w1 (.cells cells e)) ∧
        cells.size = newCap * et.cells ∧ cells.toList.take ((sLen + ds.length) * et.cells) = old ++ newc)

theorem AppOK.of {C : Cx} {E : Env} (hE : EnvOK E P) {st xt e : Nat} {et : Ty} {c b : Nat} {z : AV} (hst : E.ty st = some ⟨.slice e, c, b, z⟩) (het : E.ty e = some et) {xv : Value} {ds : List PD}
    (hno : NoInt P xt) (hlen : (Go.Builtin.lenOf xv).run P w = .ok ds.length w) (hsrc : AppSrc P C w et.cells ds ds.length xv) : AppOK P C.M w st xt e et xv ds := by
  obtain ⟨newc, n1, n2, n3⟩ := hsrc
  have n4 : newc.length = ds.length * et.cells := n2.length
  refine ⟨newc, n2, n3, n4, fun ty2 base sLen sCap w' hle hs => ?_, fun ty2 base sLen sCap old hgt hb hn hold ho => ?_⟩
  · exact append_in hE hst het hno hlen hle (n1 w rfl) (by cases base <;> simpa using hs)
  · exact append_out hE hst het hno hlen hgt hb hn hold n1 (by simpa using ho) (by simpa using n4)

theorem AppOK.ofI {C : Cx} {E : Env} (hE : EnvOK E P) (h : Sim C w) {st xt e : Nat} {et : Ty} {c b : Nat} {z : AV} (hst : E.ty st = some ⟨.slice e, c, b, z⟩) (het : E.ty e = some et) {k k' : IntKind} (hxt : P.underlying xt = some (.int k)) {n : Int} {d : PD}
    (hz : freeze C.H et.zero = some d) (hc : 0 ≤ n ∧ n * et.bytes ≤ 2 ^ 47 ∧ n < 2 ^ 47) : AppOK P C.M w st xt e et (.int k' n) (List.replicate n.toNat d) := by
  have hET := hE.ty e et het
  obtain ⟨i, hi1, hi2, hi3, zv, hi4, hi5⟩ := hET.info
  have hzr : ∀ w1 : World, (Go.zeroValue e).run P w1 = .ok zv w1 := fun w1 => by
    unfold Go.zeroValue
    rw [bind_ok (run_typeInfo hi1), hi4]; rfl
  have hzp := freeze_nolean h hET.zleans hz (hi5 C)
  have hzs : AR C false (.p d) zv.cells.toList := hzp.cells rfl
  rw [AR.p] at hzs
  have hdc : d.cells = et.cells := by
    have := (freeze_like hz).1
    rw [hET.zcells] at this; simpa using this.symm
  have hzc : zv.cells.size = et.cells := by
    have := hzs.length
    rw [hdc] at this; simpa using this
  have hcl : (Go.Builtin.zeroCells zv.cells n.toNat).toList = (List.range (n.toNat * et.cells)).map fun i => zv.cells[i % zv.cells.size]! := by
    simp [Go.Builtin.zeroCells, hzc]
  have hrow := PRow.replicate hzs hdc zv.cells rfl n.toNat
  rw [← hcl] at hrow
  have hl : (List.replicate n.toNat d).length = n.toNat := by simp
  refine ⟨_, hrow, fun y hy => PRow.one _ _ _ hrow y hy, hrow.length, fun ty2 base sLen sCap w' hle hs => ?_, fun ty2 base sLen sCap old hgt hb hn hold ho => ?_⟩
  · rw [hl] at hle ⊢
    exact append_inI hE hst het hxt hc.1 hc.2.1 hc.2.2 hle hzr hzc (by cases base <;> simpa using hs)
  · rw [hl] at hgt hb hn ⊢
    exact append_outI hE hst het hxt hc.1 hc.2.1 hc.2.2 hgt hb hn hold hzr hzc (by simpa using ho)

theorem appArg_ok0 {C : Cx} {E : Env} (hE : EnvOK E P) (h : Sim C w) {et : Ty} {xt : Nat} {x : AV} {xv : Value} {ds : List PD} (hx : AVal C x xv) (hl : E.appArg C.H et xt x = some ds) (hni : ∀ k n, x ≠ .p (.int k n)) :
    NoInt P xt ∧ (Go.Builtin.lenOf xv).run P w = .ok ds.length w ∧ AppSrc P C w et.cells ds ds.length xv := by
  unfold Env.appArg at hl
  split at hl
  case h_4 => cases hl
  case h_3 => exact absurd rfl (hni _ _)
  case h_1 b _ _ _ hty =>
    have hd := (hE.ty xt _ hty).desc
    simp only [DescOK] at hd
    rw [AVal.str] at hx; subst hx
    rw [Option.ite_none_right_eq_some] at hl
    obtain ⟨hc, hl⟩ := hl
    cases hl
    refine ⟨⟨_, hd, by simp⟩, ?_, b.data.toList.map (fun c => Value.int .u8 c.toNat), fun w1 _ => ?_, ?_, ?_⟩
    · simp [Go.Builtin.lenOf]
    · have he : (b.extract 0 b.size).data = b.data := by simp
      simp only [Go.Builtin.firstCells, List.length_map]
      rw [show b.data.toList.length = b.size from rfl, he]
      exact congrArg (Result.ok · w1) (Array.ext' (by simp))
    · rw [hc]
      have : ∀ l : List UInt8, PRow C.M 1 (l.map fun c => PD.int .u8 c.toNat) (l.map fun c => Value.int .u8 c.toNat) := by
        intro l
        induction l with
        | nil => simp [PRow]
        | cons a l ih =>
          simp only [List.map_cons, PRow]
          exact ⟨[.int .u8 a.toNat], _, rfl, rfl, rfl, by simp [PRep], ih⟩
      exact this _
    · intro y hy
      obtain ⟨c, _, rfl⟩ := List.mem_map.1 hy
      rfl
  case h_2 =>
    rename_i hty
    have hd := (hE.ty xt _ hty).desc
    simp only [DescOK] at hd
    split at hl
    case h_2 => cases hl
    rename_i e ds' hf
    rw [Option.ite_none_right_eq_some] at hl
    obtain ⟨rfl, hl⟩ := hl
    cases hl
    have hel := elems_read h hx hf
    have hs := hel.src (P := P) ds.length (Nat.le_refl _)
    rw [List.take_length] at hs
    refine ⟨⟨_, hd, by simp⟩, ?_, hs⟩
    obtain ⟨base, cap, rfl, _⟩ := hel
    rfl

theorem appArg_ok {C : Cx} {E : Env} (hE : EnvOK E P) (h : Sim C w) {st xt e : Nat} {et : Ty} {c b : Nat} {z : AV} (hst : E.ty st = some ⟨.slice e, c, b, z⟩) (het : E.ty e = some et) {x : AV} {xv : Value} {ds : List PD} (hx : AVal C x xv) (hl : E.appArg C.H et xt x = some ds) :
    AppOK P C.M w st xt e et xv ds := by
  by_cases hi : ∃ k n, x = .p (.int k n)
  · obtain ⟨k, n, rfl⟩ := hi
    rw [AVal.int] at hx; subst hx
    unfold Env.appArg at hl
    split at hl
    case h_4 => cases hl
    case h_1 e0 _ => cases e0
    case h_2 hty => simp [freeze] at hl
    case h_3 k0 n0 _ _ _ _ e0 hty =>
      cases e0
      have hd := (hE.ty xt _ hty).desc
      simp only [DescOK] at hd
      simp only [Option.bind_eq_some_iff, Option.ite_none_right_eq_some, Option.some.injEq] at hl
      obtain ⟨d, hz, hc, rfl⟩ := hl
      exact .ofI hE h hst het hd hz hc
  · obtain ⟨h1, h2, h3⟩ := appArg_ok0 hE h hx hl fun k n e => hi ⟨k, n, e⟩
    exact .of hE hst het h1 h2 h3

theorem appSrc_len {C : Cx} {e n : Nat} {ds : List PD} {v : Value} (h : AppSrc P C w e ds n v) : ∃ rcs : List Value, (∀ w1 : World, w1.heap = w.heap → (Go.Builtin.firstCells e n v).run P w1 = .ok rcs.toArray w1) ∧ PRow C.M e ds rcs ∧ (∀ y ∈ rcs, one y = true) ∧ rcs.toArray.size = ds.length * e := by
  obtain ⟨rcs, h1, h2, h3⟩ := h
  exact ⟨rcs, h1, h2, h3, by simpa using h2.length⟩

/-- append into a new row. -/
theorem append_new {C C0 : Cx} {E : Env} (hE : EnvOK E P) (h : Sim C w) {st xt e ty2 : Nat} {et : Ty} {c b : Nat} {z : AV} (hst : E.ty st = some ⟨.slice e, c, b, z⟩) (het : E.ty e = some et) {xs ds : List PD} {xv : Value}
    (hM : C0.M = C.M) (happ : AppOK P C0.M w st xt e et xv ds) {base : Option Addr} {sCap : Nat}
    (hold : AppSrc P C0 w et.cells xs xs.length (.slice base xs.length sCap)) (hgt : sCap < xs.length + ds.length) (hb : (xs.length + ds.length) * et.bytes ≤ 2 ^ 46) (hn : xs.length + ds.length ≤ 2 ^ 46) (s : Bool) :
    StepVal P C w (Go.Builtin.append_ #[st, xt] ty2 #[.slice base xs.length sCap, xv]) (.own C.H.length 0) (C.H ++ [.row et.cells (xs ++ ds) s]) := by
  obtain ⟨oldc, o1, o2, o3, o4⟩ := appSrc_len hold
  obtain ⟨newc, n2, n3, n4, _, hout⟩ := happ
  obtain ⟨w1, newCap, cells, ⟨hw, hqw⟩, hcap, hrun, hsz, htk⟩ := hout ty2 base xs.length sCap oldc hgt hb hn o1 (by simpa using o4)
  have hs1 : Sim C w1 := h.same fun b _ => by rw [hw]
  have hx1 : Ext C w C w1 := ⟨.refl C, fun _ _ _ h => .inl h, fun _ h => .inl h, fun _ _ _ => by rw [hw], by rw [hw]; exact Nat.le_refl _, hqw⟩
  have hrow : PRow C.M et.cells (xs ++ ds) (cells.toList.take ((xs ++ ds).length * et.cells)) := by
    rw [List.length_append, htk, ← hM]
    exact o2.append n2
  obtain ⟨C', g1, g2, g3, g4⟩ := newRow_sealed (w := w1) hs1 e cells s (xs := xs ++ ds) (cap := newCap) (by simpa using hcap) hsz hrow
  refine ⟨_, C', _, hrun, g1, hx1.trans g2, g3, ?_⟩
  rw [hw] at g4
  simpa using g4

/-- append in place. -/
theorem append_place {C : Cx} {E : Env} (hE : EnvOK E P) (h : Sim C w) {st xt e ty2 : Nat} {et : Ty} {c b : Nat} {z : AV} (hst : E.ty st = some ⟨.slice e, c, b, z⟩) (het : E.ty e = some et) {xs ds : List PD} {xv : Value}
    (happ : AppOK P C.M w st xt e et xv ds)
    {id lo blk off cap : Nat} {s : Bool} (hi : C.ι id = some (.at blk off cap)) (ho : C.H[id]? = some (.row et.cells xs s)) (hlo : lo ≤ xs.length) {a : Addr} (ha : lo < cap → a = ⟨blk, off + lo * et.cells, none⟩)
    (hroom : xs.length - lo + ds.length ≤ cap - lo) (hcap : xs.length ≤ cap) :
    StepVal P C w (Go.Builtin.append_ #[st, xt] ty2 #[.slice (some a) (xs.length - lo) (cap - lo), xv]) (.own C.H.length 0) (C.H.set id .dead ++ [.row et.cells (xs.drop lo ++ ds) s]) := by
  obtain ⟨newc, n2, n3, n4, hin, _⟩ := happ
  have hidl : id < C.H.length := h.idlt hi
  obtain ⟨o', ho', hr⟩ := h.obj id _ hi
  rw [ho] at ho'; cases ho'
  simp only [ObjRep] at hr
  obtain ⟨cs, E', fz, k1, k2, k3, k4, k5⟩ := hr
  have hnl : newc.length = ds.length * et.cells := by simpa using n4
  have hmul : (xs.length + ds.length) * et.cells ≤ cap * et.cells := Nat.mul_le_mul_right _ (by omega)
  rw [Nat.add_mul] at hmul
  have hsub : (xs.length - lo) * et.cells = xs.length * et.cells - lo * et.cells := Nat.sub_mul _ _ _
  have hlom : lo * et.cells ≤ xs.length * et.cells := Nat.mul_le_mul_right _ hlo
  -- the store
  have hstore : ∃ w', (Go.storeCells (a.add ((xs.length - lo) * et.cells)) newc).run P w = .ok () w' ∧ SetBlk w w' blk (.cells (splice cs.toList (off + xs.length * et.cells) newc).toArray E' fz) := by
    by_cases hd : ds.length = 0
    · have : newc = [] := by
        have : newc.length = 0 := by rw [hnl, hd]; simp
        exact List.length_eq_zero_iff.1 this
      subst this
      refine ⟨w, rfl, rfl, ?_, fun _ _ => rfl, .refl w⟩
      rw [k1]; simp [splice]
    · have hlt : lo < cap := by omega
      rw [ha hlt, addr_add]
      obtain ⟨w', r1, r2⟩ := run_storeCells (P := P) blk newc w cs E' fz (off + lo * et.cells + (xs.length - lo) * et.cells) 0 k1 k2 (by omega) n3
      refine ⟨w', r1, ?_⟩
      rw [show off + lo * et.cells + (xs.length - lo) * et.cells + 0 = off + xs.length * et.cells from by omega] at r2
      exact r2
  obtain ⟨w', hstore, hset⟩ := hstore
  have hrun := hin ty2 (some a) (xs.length - lo) (cap - lo) w' hroom hstore
  let n' := C.H.length
  let loc' : Loc := .at blk (off + lo * et.cells) (cap - lo)
  let new : Obj := .row et.cells (xs.drop lo ++ ds) s
  have hloc : loc' = .at blk (off + lo * et.cells) (cap - lo) := rfl
  have hnew : new = .row et.cells (xs.drop lo ++ ds) s := rfl
  classical
  let M' : Mem := fun x j => if s = true ∧ x = blk ∧ off + xs.length * et.cells ≤ j ∧ j < off + xs.length * et.cells + newc.length then newc[j - (off + xs.length * et.cells)]? else C.M x j
  let C' : Cx := ⟨M', fun k => if k = n' then some loc' else if k = id then none else C.ι k, C.H.set id .dead ++ [new], C.has⟩
  have hMroom : ∀ j v, C.M blk j = some v → j < off + xs.length * et.cells := by
    intro j v hv
    cases s with
    | true => exact h.room id blk off cap et.cells xs hi ho j v hv
    | false => rw [h.open_ id blk off cap _ hi ho rfl j] at hv; cases hv
  have hMM : ∀ x j v, C.M x j = some v → M' x j = some v := by
    intro x j v hv
    simp only [M']
    rw [if_neg]
    · exact hv
    · rintro ⟨_, rfl, h1, _⟩
      have := hMroom j v hv; omega
  have hHo : ∀ k, k ≠ id → k < C.H.length → C'.H[k]? = C.H[k]? := by
    intro k hk hl
    simp only [C']
    rw [List.getElem?_append_left (by simpa using hl), List.getElem?_set, if_neg (Ne.symm hk)]
  have hHid : C'.H[id]? = some .dead := by
    simp only [C']
    rw [List.getElem?_append_left (by simpa using hidl)]; simp [hidl]
  have hHn : C'.H[n']? = some new := by simp [C', n']
  have hιo : ∀ k, k ≠ id → k < C.H.length → C'.ι k = C.ι k := by
    intro k hk hl
    have : k ≠ n' := by simp only [n']; omega
    simp only [C', this, hk, if_false]
  have hle : C.le C' := by
    refine ⟨hMM, fun k hk => ?_, by simp [C'], rfl⟩
    by_cases he : k = id
    · subst he; exact .inl hHid
    · exact .inr ⟨hιo k he hk, C.H[k], C.H[k], by simp [hk], by rw [hHo k he hk]; simp [hk], .inl rfl⟩
  have hcase : ∀ k l, C'.ι k = some l → (k = n' ∧ l = loc') ∨ (k ≠ id ∧ k < C.H.length ∧ C.ι k = some l) := by
    intro k l hk
    by_cases h1 : k = n'
    · subst h1
      simp only [C', if_true, Option.some.injEq] at hk
      exact .inl ⟨rfl, hk.symm⟩
    · by_cases h2 : k = id
      · subst h2; simp [C', h1] at hk
      · have : C.ι k = some l := by simpa [C', h1, h2] using hk
        exact .inr ⟨h2, h.idlt this, this⟩
  have hspl : (splice cs.toList (off + xs.length * et.cells) newc).length = cs.size := by rw [splice_length (by simp; omega)]; simp
  refine ⟨_, C', w', hrun, ⟨?_, ?_, ?_, ?_, ?_, ?_⟩, ⟨hle, ?_, ?_, ?_, by rw [hset.size]; exact Nat.le_refl _, hset.quiet⟩, rfl, ?_⟩
  · -- agree
    intro x j v hv
    by_cases hx : x = blk
    · subst hx
      rw [cell_of hset.here]
      simp only [List.getElem?_toArray]
      rw [splice_get (by simp; omega)]
      simp only [C', M'] at hv
      split at hv
      · rename_i hc
        obtain ⟨_, _, h1, h2⟩ := hc
        rw [if_neg (by omega), if_pos h2]; exact hv
      · have := hMroom j v hv
        rw [if_pos this]
        have := h.agree x j v hv
        rw [cell_of k1] at this
        simpa using this
    · rw [cell_same (hset.rest x hx)]
      have : C.M x j = some v := by
        simp only [C', M'] at hv
        rwa [if_neg (by rintro ⟨_, e, _⟩; exact hx e)] at hv
      exact h.agree x j v this
  · -- objects
    intro k l hk
    rcases hcase k l hk with ⟨rfl, rfl⟩ | ⟨h1, h2, h3⟩
    · refine ⟨new, hHn, ?_⟩
      simp only [new, loc', ObjRep]
      refine ⟨_, E', fz, hset.here, ?_, by simp; omega, ?_, ?_⟩
      · intro C2 E2 fz2 hb2 j hj
        rw [hset.here] at hb2; cases hb2
        exact k2 cs E' fz k1 j (by simpa [hspl] using hj)
      · simp only [List.size_toArray, hspl]
        have : (cap - lo) * et.cells = cap * et.cells - lo * et.cells := Nat.sub_mul _ _ _
        have : lo * et.cells ≤ cap * et.cells := Nat.mul_le_mul_right _ (by omega)
        omega
      · have hcont : ((splice cs.toList (off + xs.length * et.cells) newc).drop (off + lo * et.cells)).take ((xs.drop lo ++ ds).length * et.cells) = (((cs.toList.drop off).take (xs.length * et.cells)).drop (lo * et.cells)) ++ newc := by
          simp only [List.length_append, List.length_drop, Nat.add_mul]
          rw [hsub, ← hnl]
          apply List.ext_getElem?
          intro j
          rw [List.getElem?_take, List.getElem?_append]
          simp only [List.length_drop, List.length_take, Array.length_toList]
          rw [Nat.min_eq_left (by omega)]
          by_cases h1 : j < xs.length * et.cells - lo * et.cells
          · rw [if_pos (by omega), if_pos h1, List.getElem?_drop, splice_get (by simp; omega), if_pos (by omega), List.getElem?_drop, List.getElem?_take, if_pos (by omega), List.getElem?_drop]
            congr 1; omega
          · rw [if_neg h1]
            by_cases h2 : j < xs.length * et.cells - lo * et.cells + newc.length
            · rw [if_pos h2, List.getElem?_drop, splice_get (by simp; omega), if_neg (by omega), if_pos (by omega)]
              congr 1; omega
            · rw [if_neg h2, List.getElem?_eq_none (by omega)]
        simp only at hcont ⊢
        rw [hcont]
        exact PRow.append (PRow.mono hMM _ _ _ (k5.dropN lo)) (PRow.mono hMM _ _ _ n2)
    · obtain ⟨ob, hob, hrep⟩ := h.obj k l h3
      refine ⟨ob, by rw [hHo k h1 h2]; exact hob, (ObjRep.ren_le hle hrep).same fun q hq => hset.rest q ?_⟩
      intro e1
      cases l with
      | nil => cases hq
      | «at» bq oq cq =>
        cases hq
        exact h1 (h.sep k id _ oq cq off cap h3 (e1 ▸ hi))
  · -- sep
    intro k k' b1 o1 c1 o2 c2 h1 h2
    rcases hcase k _ h1 with ⟨q1, q2⟩ | ⟨q1, q2, q3⟩
    · rcases hcase k' _ h2 with ⟨r1, r2⟩ | ⟨r1, r2, r3⟩
      · omega
      · rw [hloc] at q2; cases q2
        exact absurd (h.sep k' id blk o2 c2 off cap r3 hi) r1
    · rcases hcase k' _ h2 with ⟨r1, r2⟩ | ⟨r1, r2, r3⟩
      · rw [hloc] at r2; cases r2
        exact absurd (h.sep k id blk o1 c1 off cap q3 hi) q1
      · exact h.sep k k' b1 o1 c1 o2 c2 q3 r3
  · -- open
    intro k b1 o1 c1 ob h1 h2 h3 j
    rcases hcase k _ h1 with ⟨q1, q2⟩ | ⟨q1, q2, q3⟩
    · subst q1
      rw [hHn] at h2; cases h2
      rw [hloc] at q2; cases q2
      simp only [new, Obj.sealed] at h3
      subst h3
      simp only [C', M', Bool.false_eq_true, false_and, if_false]
      exact h.open_ id blk off cap _ hi ho rfl j
    · rw [hHo k q1 q2] at h2
      have hne : b1 ≠ blk := fun e1 => q1 (h.sep k id b1 o1 c1 off cap q3 (e1 ▸ hi))
      simp only [C', M']
      rw [if_neg (by rintro ⟨_, e1, _⟩; exact hne e1)]
      exact h.open_ k b1 o1 c1 ob q3 h2 h3 j
  · -- cover
    intro k b1 o1 c1 ob h1 h2 h3
    rcases hcase k _ h1 with ⟨q1, q2⟩ | ⟨q1, q2, q3⟩
    · subst q1
      rw [hHn] at h2; cases h2
      rw [hloc] at q2; cases q2
      simp only [new, Obj.sealed] at h3
      subst h3
      refine ⟨_, E', fz, hset.here, fun j hj hrg => ?_⟩
      have hrg := hrg et.cells (xs.drop lo ++ ds).length rfl
      simp only [List.length_append, List.length_drop, Nat.add_mul] at hrg
      simp only [List.getElem?_toArray]
      rw [splice_get (by simp; omega)]
      simp only [C', M', true_and]
      by_cases h1 : j < off + xs.length * et.cells
      · rw [if_pos h1, if_neg (by omega)]
        obtain ⟨cs2, E2, fz2, c1, c2⟩ := h.cover id blk off cap _ hi ho rfl
        rw [k1] at c1; cases c1
        rw [c2 j (by simp [hspl] at hj; exact hj) (fun e2 n2' he => by simp only [Obj.rowLen, Option.some.injEq, Prod.mk.injEq] at he; obtain ⟨rfl, rfl⟩ := he; omega)]
        simp
      · rw [if_neg h1, if_pos (by omega), if_pos (by omega)]
    · rw [hHo k q1 q2] at h2
      have hne : b1 ≠ blk := fun e1 => q1 (h.sep k id b1 o1 c1 off cap q3 (e1 ▸ hi))
      obtain ⟨cs2, E2, fz2, c1', c2'⟩ := h.cover k b1 o1 c1 ob q3 h2 h3
      refine ⟨cs2, E2, fz2, by rw [hset.rest b1 hne]; exact c1', fun j hj hrg => ?_⟩
      simp only [C', M']
      rw [if_neg (by rintro ⟨_, e1, _⟩; exact hne e1)]
      exact c2' j hj hrg
  · -- room
    intro k b1 o1 c1 e2 xs2 h1 h2 j v hv
    rcases hcase k _ h1 with ⟨q1, q2⟩ | ⟨q1, q2, q3⟩
    · subst q1
      rw [hHn, hnew] at h2; cases h2
      rw [hloc] at q2; cases q2
      simp only [List.length_append, List.length_drop, Nat.add_mul]
      simp only [C', M'] at hv
      split at hv
      · omega
      · have := hMroom j v hv; omega
    · rw [hHo k q1 q2] at h2
      have hne : b1 ≠ blk := fun e1 => q1 (h.sep k id b1 o1 c1 off cap q3 (e1 ▸ hi))
      simp only [C', M'] at hv
      rw [if_neg (by rintro ⟨_, e1, _⟩; exact hne e1)] at hv
      exact h.room k b1 o1 c1 e2 xs2 q3 h2 j v hv
  · -- new memory
    intro x j v hv
    simp only [C', M'] at hv
    split at hv
    · rename_i hc
      obtain ⟨_, rfl, _⟩ := hc
      exact .inr (.inl ⟨id, off, cap, hi⟩)
    · exact .inl hv
  · -- owned
    rintro q ⟨k, o1, c1, hk⟩
    rcases hcase k _ hk with ⟨q1, q2⟩ | ⟨q1, q2, q3⟩
    · rw [hloc] at q2; cases q2; exact .inl ⟨id, off, cap, hi⟩
    · exact .inl ⟨k, o1, c1, q3⟩
  · -- frame
    intro q _ hno
    exact hset.rest q (fun e1 => hno ⟨id, off, cap, e1 ▸ hi⟩)
  · -- the value
    simp only [AVal, AR]
    refine ⟨by simp [C'], _, rfl, rfl, fun o2 e2 n2 h1 h2 => ?_⟩
    rw [hHn] at h1; cases h1
    simp only [new, Obj.rowLen, Option.some.injEq, Prod.mk.injEq] at h2
    obtain ⟨rfl, rfl⟩ := h2
    refine ⟨loc', by simp [C', n'], ?_⟩
    simp only [loc', ownV, List.length_append, List.length_drop]
    exact ⟨Nat.zero_le _, hroom, a, by simp, fun hlt => by rw [ha (by omega)]; simp⟩


theorem StepVal.of_calm {C : Cx} {s : Sem Value} {v : AV} {new : List Obj} (hv : ValOK P C w s v new) : StepVal P C w s v (C.H ++ new) := by
  obtain ⟨rv, C', w', h1, h2, h3⟩ := hv
  exact ⟨rv, C', w', h1, h2.sim, h2.ext, h2.heap, h3⟩

theorem StepVal.trans {C C1 : Cx} {w : World} {s : Sem Value} {v : AV} {H' : Heap} (he : Ext C w C1 w) (h : StepVal P C1 w s v H') : StepVal P C w s v H' := by
  obtain ⟨rv, C', w', h1, h2, h3, h4, h5⟩ := h
  exact ⟨rv, C', w', h1, h2, he.trans h3, h4, h5⟩

theorem appendA_ok {C : Cx} {E : Env} (hE : EnvOK E P) (h : Sim C w) {st xt ty2 : Nat} {s x v : AV} {sv xv : Value} {H' : Heap} (hs : AVal C s sv) (hx : AVal C x xv) (hl : E.appendA C.H st xt s x = some (v, H')) :
    StepVal P C w (Go.Builtin.append_ #[st, xt] ty2 #[sv, xv]) v H' := by
  unfold Env.appendA at hl
  simp only [Option.bind_eq_some_iff] at hl
  obtain ⟨et, hel, ds, hds, hl⟩ := hl
  obtain ⟨e, c, b, z, hst, het⟩ := Env.elem_some hel
  have happ := appArg_ok (P := P) hE h hst het hx hds
  cases s with
  | nils e' =>
    simp only [Option.ite_none_right_eq_some] at hl
    obtain ⟨⟨rfl, hb, hn⟩, hl⟩ := hl
    cases hl
    simp only [AVal, AR] at hs
    obtain ⟨base, hse⟩ := hs
    obtain rfl : sv = _ := by simpa using hse
    by_cases hz : ds.length = 0
    · have hds0 : ds = [] := List.length_eq_zero_iff.1 hz
      subst hds0
      obtain ⟨rcs, n2, n3, n4, hin, _⟩ := happ
      have hr0 : rcs = [] := by simpa [PRow] using n2
      subst hr0
      have hrun := hin ty2 base 0 0 w (by simp) (by cases base <;> rfl)
      refine StepVal.of_calm ⟨_, C.add .nil (.row et.cells [] false), w, hrun, Calm.add h (fun blk off cap e => by cases e) (fun _ _ => rfl) (Nat.le_refl _) (.refl w) rfl (fun _ => by simp [ObjRep]), ?_⟩
      simp only [AVal, AR]
      refine ⟨by simp [Cx.add], _, rfl, rfl, fun o2 e2 n2 h1 h2 => ?_⟩
      simp only [Cx.add, List.getElem?_concat_length, Option.some.injEq] at h1
      subst h1
      simp only [Obj.rowLen, Option.some.injEq, Prod.mk.injEq] at h2
      obtain ⟨rfl, rfl⟩ := h2
      exact ⟨.nil, by simp [Cx.add], rfl, rfl, base, by simp⟩
    · have := append_new (P := P) (C0 := C) hE h hst het (ty2 := ty2) (xs := []) (ds := ds) rfl happ (base := base) (sCap := 0) (by
        refine ⟨[], fun w1 _ => ?_, by simp [PRow], by simp⟩
        cases base with
        | none => rfl
        | some a => simp [Go.Builtin.firstCells, Go.loadCells, Go.loadCellsFrom]) (by simp; omega) (by simpa using hb) (by simpa using hn) false
      simpa using this
  | own id lo =>
    simp only at hl
    cases ho : C.H[id]? with
    | none => simp [ho] at hl
    | some o =>
      cases o with
      | row e' xs s =>
        simp only [ho, Option.ite_none_right_eq_some] at hl
        obtain ⟨⟨rfl, hlo, hb, hn⟩, hl⟩ := hl
        cases hl
        have hs' := hs
        simp only [AVal, AR] at hs
        obtain ⟨_, x, hxe, _, hx'⟩ := hs
        obtain rfl : sv = x := by simpa using hxe
        obtain ⟨loc, hi, hv⟩ := hx' _ _ xs.length ho rfl
        have hrd := elems_read h hs' (by simp only [freeze, ho]; rfl)
        have hold := hrd.src (P := P) (xs.drop lo).length (Nat.le_refl _)
        rw [List.take_length] at hold
        -- a new row
        have grow : ∀ (base : Option Addr) (cap : Nat), sv = .slice base (xs.drop lo).length cap → cap < (xs.drop lo).length + ds.length →
            StepVal P C w (Go.Builtin.append_ #[st, xt] ty2 #[sv, xv]) (.own C.H.length 0) (C.H.set id .dead ++ [.row et.cells (xs.drop lo ++ ds) s]) := by
          rintro base cap rfl hgt
          obtain ⟨g1, g2⟩ := h.kill id
          have := append_new (P := P) (C0 := C) hE g1 hst het (ty2 := ty2) (xs := xs.drop lo) (ds := ds) rfl happ hold hgt (by simpa using hb) (by simpa using hn) s
          have h2 := StepVal.trans g2 this
          simpa [Cx.kill] using h2
        cases loc with
        | nil =>
          simp only [ownV] at hv
          obtain ⟨h1, h2, base, rfl⟩ := hv
          subst h2
          have hxs : xs = [] := List.length_eq_zero_iff.1 h1
          subst hxs
          by_cases hz : ds.length = 0
          · have hds0 : ds = [] := List.length_eq_zero_iff.1 hz
            subst hds0
            obtain ⟨rcs, n2, n3, n4, hin, _⟩ := happ
            have hr0 : rcs = [] := by simpa [PRow] using n2
            subst hr0
            have hrun := hin ty2 base 0 0 w (by simp) (by cases base <;> rfl)
            obtain ⟨g1, g2⟩ := h.kill id
            refine StepVal.trans g2 ?_
            have hfin : ∃ C', Sim C' w ∧ Ext (C.kill id) w C' w ∧ C'.H = (C.kill id).H ++ [.row et.cells [] s] ∧ AVal C' (.own C.H.length 0) (.slice base 0 0) := by
              have hcalm : Calm (C.kill id) w ((C.kill id).add .nil (.row et.cells [] false)) w [.row et.cells [] false] := Calm.add g1 (fun blk off cap e => by cases e) (fun _ _ => rfl) (Nat.le_refl _) (.refl w) rfl (fun _ => by simp [ObjRep])
              have hlen' : (C.kill id).H.length = C.H.length := by simp [Cx.kill]
              have hown : AVal ((C.kill id).add .nil (.row et.cells [] false)) (.own C.H.length 0) (.slice base 0 0) := by
                simp only [AVal, AR]
                refine ⟨by simp [Cx.add, hlen'], _, rfl, rfl, fun o2 e2 n2 h1 h2 => ?_⟩
                rw [← hlen'] at h1
                simp only [Cx.add, List.getElem?_concat_length, Option.some.injEq] at h1
                subst h1
                simp only [Obj.rowLen, Option.some.injEq, Prod.mk.injEq] at h2
                obtain ⟨rfl, rfl⟩ := h2
                exact ⟨.nil, by simp [Cx.add, hlen'], rfl, rfl, base, rfl⟩
              cases s with
              | false => exact ⟨_, hcalm.sim, hcalm.ext, rfl, hown⟩
              | true =>
                obtain ⟨M', q1, q2, q3⟩ := hcalm.sim.sealAt (C.kill id).H.length
                have hle := sealAt_le ((C.kill id).add .nil (.row et.cells [] false)) M' (C.kill id).H.length q2
                refine ⟨_, q1, hcalm.ext.trans ⟨hle, fun b o v hv => ?_, fun blk hb => .inl hb, fun _ _ _ => rfl, Nat.le_refl _, .refl _⟩, ?_, AR.mono hle true _ _ hown⟩
                · rcases q3 b o v hv with k | k
                  · exact .inl k
                  · exact .inr (.inl k)
                · simp [Heap.sealAt, Cx.add, Obj.shut]
            obtain ⟨C', q1, q2, q3, q4⟩ := hfin
            exact ⟨_, C', w, hrun, q1, q2, by rw [q3]; simp [Cx.kill], by simpa using q4⟩
          · exact grow base 0 (by simp) (by simp; omega)
        | «at» blk off cap =>
          simp only [ownV] at hv
          obtain ⟨h1, h2, a, rfl, h3⟩ := hv
          by_cases hroom : xs.length - lo + ds.length ≤ cap - lo
          · exact append_place hE h hst het (ty2 := ty2) happ hi ho hlo h3 hroom h2
          · exact grow (some a) (cap - lo) (by simp) (by simp; omega)
      | _ => simp [ho] at hl
  | win id π e' lo len cap ex =>
    cases ex with
    | false => simp at hl
    | true =>
      simp only [Option.ite_none_right_eq_some, Option.map_eq_some_iff] at hl
      obtain ⟨⟨rfl, hgt, hb, hn⟩, xs, hxs, hl⟩ := hl
      cases hl
      have hs' := hs
      have hrd := elems_read h hs' (by simp only [freeze, hxs]; rfl)
      have hold := hrd.src (P := P) xs.length (Nat.le_refl _)
      rw [List.take_length] at hold
      obtain ⟨base, cap', rfl, _⟩ := hrd
      simp only [AVal, AR] at hs
      obtain ⟨_, x, hxe, _, hx'⟩ := hs
      cases hxe
      have hal : C.alive id := by
        unfold Heap.elems at hxs
        cases ho : C.H[id]? with
        | none => simp [ho] at hxs
        | some o => exact ⟨o, ho, by cases o <;> simp_all [Obj.alive]⟩
      obtain ⟨loc, hi, hwv⟩ := hx' hal
      have hlc : xs.length = len ∧ cap' = cap := by
        cases loc with
        | nil => obtain ⟨h1, h2, base2, h3⟩ := hwv; simp only [Value.slice.injEq] at h3; omega
        | «at» blk off c => obtain ⟨h1, a, c2, h3, h4, h5, _⟩ := hwv; simp at h3; exact ⟨h3.2.1, by rw [h3.2.2, h5 rfl]⟩
      obtain ⟨hl1, rfl⟩ := hlc
      rw [← hl1] at hgt hb hn
      exact append_new (P := P) (C0 := C) hE h hst het (ty2 := ty2) (xs := xs) (ds := ds) rfl happ hold hgt hb hn false
  | _ => simp at hl

end
end Ev

/- copy. -/
namespace Ev
open Go (Value Addr Fn IntKind World Sem Program Operand Oper Result)

section
variable {P : Program} {w : World}

theorem allInts_ok {k : IntKind} : ∀ {ds : List PD} {ns : List Int}, allInts k ds = some ns → ds = ns.map (PD.int k)
  | [], ns, h => by simp only [allInts, Option.some.injEq] at h; subst h; rfl
  | d :: ds, ns, h => by
    cases d with
    | int k' n =>
      simp only [allInts, Option.ite_none_right_eq_some, Option.map_eq_some_iff] at h
      obtain ⟨rfl, ns', h, rfl⟩ := h
      rw [allInts_ok h]; rfl
    | _ => simp [allInts] at h

theorem PRow.ints {M : Mem} {k : IntKind} : ∀ (ns : List Int) (cs : List Value), PRow M 1 (ns.map (PD.int k)) cs → cs = ns.map (Value.int k)
  | [], cs, h => by simpa [PRow] using h
  | n :: ns, cs, h => by
    simp only [List.map_cons, PRow] at h
    obtain ⟨c1, c2, rfl, h2, _, h4, h5⟩ := h
    simp only [PRep] at h4
    subst h4
    rw [PRow.ints ns c2 h5]; rfl

theorem PRow.splice {M : Mem} {e : Nat} {xs ds : List PD} {cs vs : List Value} {lo : Nat} (h : PRow M e xs cs) (h' : PRow M e ds vs) : PRow M e (splice xs lo ds) (splice cs (lo * e) vs) := by
  unfold Ev.splice
  have := (h.takeN lo).append h' |>.append (h.dropN (lo + ds.length))
  rw [h'.length, ← Nat.add_mul]
  exact this

theorem copyA_ok {C : Cx} {E : Env} (hE : EnvOK E P) (h : Sim C w) {dt xt ty2 n : Nat} {d x : AV} {dv xv : Value} {H' : Heap} (hd : AVal C d dv) (hx : AVal C x xv) (hl : E.copyA C.H dt xt d x = some (n, H')) :
    StepVal P C w (Go.Builtin.copy_ #[dt, xt] ty2 #[dv, xv]) (.p (.int .i64 n)) H' := by
  unfold Env.copyA at hl
  simp only [Option.bind_eq_some_iff] at hl
  obtain ⟨et, hel, ds, hds, hl⟩ := hl
  obtain ⟨e, c, b, z, hst, het⟩ := Env.elem_some hel
  have hu := (hE.ty dt _ hst).desc
  simp only [DescOK] at hu
  have hET := hE.ty e et het
  have hfr : freeze C.H x = some (.sl et.cells ds) := by
    split at hds
    case h_2 => cases hds
    case h_1 =>
      split at hds
      case h_2 => cases hds
      rename_i e' ds' hf
      rw [Option.ite_none_right_eq_some] at hds
      obtain ⟨rfl, hds⟩ := hds
      cases hds
      exact hf
  have hrd := elems_read h hx hfr
  cases d with
  | win id π e' lo len cap ex =>
    simp only [Option.ite_none_right_eq_some, Option.map_eq_some_iff, Prod.mk.injEq] at hl
    obtain ⟨rfl, o', ho', rfl, rfl⟩ := hl
    -- the destination's object
    cases ho : C.H[id]? with
    | none => simp [ho] at ho'
    | some o =>
      rw [ho] at ho'
      have hal : C.alive id := ⟨o, ho, by cases o <;> simp_all [Obj.alive]⟩
      simp only [AVal, AR] at hd
      obtain ⟨_, y, hye, _, hd⟩ := hd
      obtain rfl : dv = y := by simpa using hye
      obtain ⟨loc, hi, hwv⟩ := hd hal
      have hmin : Nat.min ds.length len = (ds.take len).length := by simp [Nat.min_comm]
      obtain ⟨rcs, n1, n2, n3, n4⟩ := appSrc_len (hrd.src (P := P) (Nat.min ds.length len) (Nat.min_le_left _ _))
      have htk : ds.take (Nat.min ds.length len) = ds.take len := by
        rw [show Nat.min ds.length len = min len ds.length from Nat.min_comm _ _, ← List.take_take, List.take_length]
      rw [htk] at n2 n4
      obtain ⟨base0, cap0, hxv, _⟩ := hrd
      have hlen : (Go.Builtin.lenOf xv).run P w = .ok ds.length w := by rw [hxv]; rfl
      -- the run
      have hrun : ∀ (base : Option Addr) (cap' : Nat) (w' : World), dv = .slice base len cap' → (match base with | some a => (Go.storeCells a rcs).run P w = .ok () w' | none => w' = w) →
          (Go.Builtin.copy_ #[dt, xt] ty2 #[dv, xv]).run P w = .ok (.int .i64 ((ds.take len).length)) w' := by
        rintro base cap' w' rfl hs
        unfold Go.Builtin.copy_
        simp only [List.getElem?_toArray, List.getElem?_cons_zero, List.getElem?_cons_succ]
        rw [bind_ok (run_underlying hu)]
        simp only
        rw [bind_ok hlen, bind_ok hET.run_sizeOf, bind_ok (n1 w rfl)]
        rw [hmin]
        cases base with
        | none => simp only at hs ⊢; subst hs; rfl
        | some a => simp only at hs ⊢; rw [bind_ok hs]; rfl
      have hrl : rcs.length = (ds.take len).length * et.cells := by simpa using n4
      have hdl : (ds.take len).length ≤ len := by simp; omega
      cases loc with
      | nil =>
        obtain ⟨rfl, rfl, base, rfl⟩ := hwv
        have hr0 : rcs = [] := List.length_eq_zero_iff.1 (by rw [hrl]; simp)
        subst hr0
        have hsame : o' = o := by
          obtain ⟨o1, ho1, hrep⟩ := h.obj id _ hi
          rw [ho] at ho1; cases ho1
          cases o with
          | row e' xs s =>
            simp only [ObjRep] at hrep
            subst hrep
            cases s with
            | true => cases π <;> simp at ho'
            | false =>
              cases π with
              | cons _ _ => simp at ho'
              | nil =>
                simp only [Option.ite_none_right_eq_some, Option.some.injEq] at ho'
                obtain ⟨⟨he, _⟩, rfl⟩ := ho'
                simp [splice, he]
          | var t s => simp only [ObjRep] at hrep; obtain ⟨_, _, _, _, hl, _⟩ := hrep; cases hl
          | _ => cases π <;> simp at ho'
        subst hsame
        have hset : C.H.set id o' = C.H := by
          obtain ⟨h1, h2⟩ := List.getElem?_eq_some_iff.1 ho
          rw [← h2]; exact List.set_getElem_self h1
        refine ⟨_, C, w, hrun base 0 w rfl (by cases base <;> rfl), h, Ext.refl C w, hset.symm, AVal.int.2 rfl⟩
      | «at» blk off c0 =>
      obtain ⟨hlc, a, cap', hdv, hcc, _, hadr, _⟩ := hwv
      -- the object anew, and where it is written
      have hobj : o.sealed = false ∧ o'.sealed = false ∧ o.like o' ∧ ∃ cells E fz, w.heap[blk]? = some (.cells cells E fz) ∧ unfrozen w blk ∧ off + offs π + lo * et.cells + rcs.length ≤ cells.size ∧
          ∀ w', SetBlk w w' blk (.cells (splice cells.toList (off + offs π + lo * et.cells) rcs).toArray E fz) → ObjRep C w' (.at blk off c0) o' := by
        obtain ⟨o1, ho1, hr⟩ := h.obj id _ hi
        rw [ho] at ho1; cases ho1
        have hunf : ∀ {cells : Array Value} {E : Nat} {fz : Nat × Nat} {l : List Value} {w' : World}, w.heap[blk]? = some (.cells cells E fz) → unfrozen w blk → l.length = cells.size →
            SetBlk w w' blk (.cells l.toArray E fz) → unfrozen w' blk := by
          intro cells E fz l w' hc hu hl hs C' E' fz' hb j hj
          rw [hs.here] at hb; cases hb
          exact hu cells E fz hc j (by simpa [hl] using hj)
        cases o with
        | row e' xs s =>
          cases s with
          | true => cases π <;> simp at ho'
          | false =>
            cases π with
            | cons _ _ => simp at ho'
            | nil =>
              simp only [Option.ite_none_right_eq_some, Option.some.injEq] at ho'
              obtain ⟨⟨rfl, hlx, hall⟩, rfl⟩ := ho'
              simp only [ObjRep] at hr
              obtain ⟨cells, E, fz, k1, k2, k3, k4, k5⟩ := hr
              have hle : xs.length * et.cells ≤ c0 * et.cells := Nat.mul_le_mul_right _ k3
              have h2 : (lo + (ds.take len).length) * et.cells ≤ xs.length * et.cells := Nat.mul_le_mul_right _ (by omega)
              rw [Nat.add_mul, ← hrl] at h2
              have hspl : (splice xs lo (ds.take len)).length = xs.length := splice_length (by omega)
              refine ⟨rfl, rfl, ⟨rfl, hspl.symm⟩, cells, E, fz, k1, k2, by simp only [show offs [] = 0 from rfl]; omega, fun w' hs => ?_⟩
              simp only [show offs [] = 0 from rfl, Nat.add_zero] at hs
              simp only [ObjRep]
              refine ⟨_, E, fz, hs.here, hunf k1 k2 (by rw [splice_length (by simp; omega)]; simp) hs, by omega, ?_, ?_⟩
              · simp only [List.size_toArray]
                rw [splice_length (by simp; omega)]; simpa using k4
              · rw [hspl]
                have := PRow.splice (lo := lo) k5 n2
                have e1 : ((splice cells.toList (off + lo * et.cells) rcs).drop off).take (xs.length * et.cells) = splice ((cells.toList.drop off).take (xs.length * et.cells)) (lo * et.cells) rcs :=
                  splice_part _ _ _ _ _ (by simp; omega) (by omega)
                simp only at e1 ⊢
                rw [e1]; exact this
        | var t s =>
          cases s with
          | true => simp at ho'
          | false =>
            simp only [Option.bind_eq_some_iff, Option.map_eq_some_iff] at ho'
            obtain ⟨u, hg, a', ha', m, hm, m', hm', t', ht', rfl⟩ := ho'
            simp only [ObjRep] at hr
            obtain ⟨blk', cells, E, fz, hl, k1, k2, k3⟩ := hr
            cases hl
            obtain ⟨q, g1, g2, g3⟩ := AV.get_ok π t u _ k3 (.inr (by rw [hm, k3.length hm])) hg
            have hql : ((cells.toList.drop (offs π)).take q).length = q := by simp at g1 ⊢; omega
            -- the array
            cases u with
            | p du =>
              cases du with
              | iarr k nn l =>
                simp only [AV.spliceA, Option.ite_none_right_eq_some, Option.map_eq_some_iff] at ha'
                obtain ⟨⟨hc1, hll⟩, ns, hns, rfl⟩ := ha'
                have hds := allInts_ok hns
                rw [AR.p] at g2
                simp only [PRep] at g2
                obtain ⟨hl1, hsub⟩ := g2
                rw [hds, hc1] at n2
                have hrcs := PRow.ints ns rcs n2
                have hnl : ns.length = (ds.take len).length := by rw [hds]; simp
                have hsa : AR C false (.p (.iarr k nn (splice l lo ns))) (splice ((cells.toList.drop (offs π)).take q) (lo * et.cells) rcs) := by
                  rw [AR.p]; simp only [PRep]
                  refine ⟨by rw [splice_length (by omega), hl1], ?_⟩
                  rw [hsub, hrcs, hc1, Nat.mul_one]
                  unfold splice
                  simp [List.map_take, List.map_drop]
                have hqn : q = l.length := by
                  have := congrArg List.length hsub
                  rw [hql] at this; simpa using this
                have hbound : lo * et.cells + rcs.length ≤ q := by
                  rw [hrl, hc1, hqn, ← hnl]; omega
                obtain ⟨s1, s2, s3⟩ := AV.set_ok π m t _ t' cells.toList _ k3 (k3.length hm) hsa ht'
                rw [splice_splice g1 hbound] at s2
                refine ⟨rfl, rfl, trivial, cells, E, fz, k1, k2, by simp at g1; omega, fun w' hs => ?_⟩
                rw [Nat.zero_add] at hs
                simp only [ObjRep]
                exact ⟨blk, _, E, fz, rfl, hs.here, hunf k1 k2 (by rw [splice_length (by simp at g1 ⊢; omega)]; simp) hs, by simpa using s2⟩
              | _ => simp [AV.spliceA] at ha'
            | _ => simp [AV.spliceA] at ha'
        | _ => cases π <;> simp at ho'
      obtain ⟨s1, s2, s3, cells, E', fz, k1, k2, k3, k4⟩ := hobj
      have hstore : ∃ w', (Go.storeCells a rcs).run P w = .ok () w' ∧ SetBlk w w' blk (.cells (splice cells.toList (off + offs π + lo * et.cells) rcs).toArray E' fz) := by
        by_cases hz : rcs = []
        · subst hz
          refine ⟨w, rfl, rfl, ?_, fun _ _ => rfl, .refl w⟩
          rw [k1]; simp [splice]
        · have hcap : 0 < cap := by
            have : rcs.length ≠ 0 := fun e => hz (List.length_eq_zero_iff.1 e)
            have : (ds.take len).length ≠ 0 := fun e => by rw [hrl, e] at this; simp at this
            omega
          rw [hadr hcap]
          obtain ⟨w', r1, r2⟩ := run_storeCells (P := P) blk rcs w cells E' fz (off + offs π + lo * et.cells) 0 k1 k2 (by omega) n3
          exact ⟨w', r1, by simpa using r2⟩
      obtain ⟨w', r1, r2⟩ := hstore
      obtain ⟨g1, g2⟩ := h.setObj hi ho s1 s3 s2 r2 (ObjRep.ren_le (setObj_le C id o o' ho s3) (k4 w' r2))
      exact ⟨_, _, w', hrun (some a) cap' w' hdv r1, g1, g2, rfl, AVal.int.2 rfl⟩
  | _ => simp at hl

end
end Ev
