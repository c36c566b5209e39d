/- Part 7 of the evaluator of the given model: its rules and their soundness (no condition). -/
import Derived.Test.YtfcldaojfbbaoaaDoorEvF
set_option linter.unusedVariables false
set_option linter.unusedSimpArgs false
set_option linter.unnecessarySimpa false
/- The type table, out of the program. -/
namespace Ev
open Go (Value Addr Fn IntKind World Sem Program)

mutual
def zP : PD → List Value → Bool
  | .int k n, [.int k' m] => k == k' && n == m
  | .bool b, [.bool c] => b == c
  | .str s, [.string t] => s.size == 0 && t.size == 0
  | .agg sz fs, cs => zPs sz fs cs
  | .iarr k n l, cs => l.length == n && zInts k l cs
  | .nilf, [.nilFunc] => true
  | .nili, [.nilIface] => true
  | _, _ => false
def zPs : List Nat → List PD → List Value → Bool
  | [], [], [] => true
  | n :: sz, f :: fs, cs => f.cells == n && (cs.take n).length == n && zP f (cs.take n) && zPs sz fs (cs.drop n)
  | _, _, _ => false
def zInts (k : IntKind) : List Int → List Value → Bool
  | [], [] => true
  | n :: l, .int k' m :: cs => k == k' && n == m && zInts k l cs
  | _, _ => false
end

theorem zInts_ok {k : IntKind} : ∀ (l : List Int) (cs : List Value), zInts k l cs = true → cs = l.map (Value.int k)
  | [], [], _ => rfl
  | [], _ :: _, h => by simp [zInts] at h
  | _ :: _, [], h => by simp [zInts] at h
  | n :: l, v :: cs, h => by
    cases v with
    | int k' m =>
      simp only [zInts, Bool.and_eq_true, beq_iff_eq] at h
      obtain ⟨⟨rfl, rfl⟩, h⟩ := h
      rw [zInts_ok l cs h]; rfl
    | _ => simp [zInts] at h

theorem bytes_empty {s t : ByteArray} (h : (s.size == 0 && t.size == 0) = true) : s = t := by
  simp only [Bool.and_eq_true, beq_iff_eq] at h
  obtain ⟨⟨s⟩⟩ := s
  obtain ⟨⟨t⟩⟩ := t
  have h1 : s = [] := List.length_eq_zero_iff.1 h.1
  have h2 : t = [] := List.length_eq_zero_iff.1 h.2
  rw [h1, h2]

mutual
theorem zP_ok {M : Mem} : ∀ (d : PD) (cs : List Value), zP d cs = true → PRep M d cs
  | .int k n, [.int k' m], h => by
    simp only [zP, Bool.and_eq_true, beq_iff_eq] at h
    obtain ⟨rfl, rfl⟩ := h
    simp [PRep]
  | .bool b, [.bool c], h => by
    simp only [zP, beq_iff_eq] at h
    subst h; simp [PRep]
  | .str s, [.string t], h => by
    simp only [zP] at h
    rw [bytes_empty h]; simp [PRep]
  | .agg sz fs, cs, h => by
    simp only [zP] at h
    simp only [PRep]
    exact zPs_ok sz fs cs h
  | .iarr k n l, cs, h => by
    simp only [zP, Bool.and_eq_true, beq_iff_eq] at h
    simp only [PRep]
    exact ⟨h.1, zInts_ok l cs h.2⟩
  | .nilf, [.nilFunc], _ => by simp [PRep]
  | .nili, [.nilIface], _ => by simp [PRep]
theorem zPs_ok {M : Mem} : ∀ (sz : List Nat) (fs : List PD) (cs : List Value), zPs sz fs cs = true → PReps M sz fs cs
  | [], [], [], _ => by simp [PReps]
  | n :: sz, f :: fs, cs, h => by
    simp only [zPs, Bool.and_eq_true, beq_iff_eq] at h
    obtain ⟨⟨⟨h1, h2⟩, h3⟩, h4⟩ := h
    simp only [PReps]
    exact ⟨cs.take n, cs.drop n, (List.take_append_drop n cs).symm, h2, h1, zP_ok f _ h3, zPs_ok sz fs _ h4⟩
end

mutual
/-- Zero values, as cells. -/
def zA : AV → List Value → Bool
  | .p d, cs => zP d cs
  | .agg sz fs, cs => zAs sz fs cs
  | .nils _, [.slice _ n c] => n == 0 && c == 0
  | .nilp, [.pointer none] => true
  | .nilm, [.map none] => true
  | _, _ => false
def zAs : List Nat → List AV → List Value → Bool
  | [], [], [] => true
  | n :: sz, f :: fs, cs => f.cells == some n && (cs.take n).length == n && zA f (cs.take n) && zAs sz fs (cs.drop n)
  | _, _, _ => false
end

mutual
theorem zA_ok {C : Cx} : ∀ (v : AV) (cs : List Value), zA v cs = true → AR C false v cs
  | .p d, cs, h => by
    simp only [zA] at h
    simp only [AR, Bool.false_and, Bool.false_eq_true, if_false]
    exact zP_ok d cs h
  | .agg sz fs, cs, h => by
    simp only [zA] at h
    simp only [AR, Bool.false_eq_true, if_false]
    exact zAs_ok sz fs cs h
  | .nils _, [.slice b n c], h => by
    simp only [zA, Bool.and_eq_true, beq_iff_eq] at h
    obtain ⟨rfl, rfl⟩ := h
    simp [AR]
  | .nilp, [.pointer none], _ => by simp [AR]
  | .nilm, [.map none], _ => by simp [AR]
theorem zAs_ok {C : Cx} : ∀ (sz : List Nat) (fs : List AV) (cs : List Value), zAs sz fs cs = true → ARs C sz fs cs
  | [], [], [], _ => by simp [ARs]
  | n :: sz, f :: fs, cs, h => by
    simp only [zAs, Bool.and_eq_true, beq_iff_eq] at h
    obtain ⟨⟨⟨h1, h2⟩, h3⟩, h4⟩ := h
    simp only [ARs]
    exact ⟨cs.take n, cs.drop n, (List.take_append_drop n cs).symm, h2, .inr h1, zA_ok f _ h3, zAs_ok sz fs _ h4⟩
end

def zVal (v : AV) (z : Value) : Bool := match z with
  | .agg c => v.isAgg && zA v c.toList
  | z => !v.isAgg && zA v [z]

theorem zVal_ok {C : Cx} {v : AV} {z : Value} (h : zVal v z = true) : AVal C v z := by
  have low : ∀ z, (!v.isAgg && zA v [z]) = true → AVal C v z := by
    intro z h
    simp only [Bool.and_eq_true, Bool.not_eq_true'] at h
    have := zA_ok (C := C) v [z] h.2
    cases v with
    | p d =>
      have hd : d.isAgg = false := h.1
      simp only [AVal, AR, hd] at this ⊢
      simpa using this
    | agg sz fs => simp [AV.isAgg] at h
    | _ => simpa [AR] using this
  cases z with
  | agg c =>
    simp only [zVal, Bool.and_eq_true] at h
    have := zA_ok (C := C) v c.toList h.2
    cases v with
    | p d =>
      have hd : d.isAgg = true := h.1
      simp only [AR, Bool.false_and, Bool.false_eq_true, if_false] at this
      simp only [AVal, AR, hd, Bool.and_self, if_true]
      exact ⟨c, rfl, this⟩
    | agg sz fs =>
      simp only [AR, Bool.false_eq_true, if_false] at this
      simp only [AVal, AR, if_true]
      exact ⟨c, rfl, this⟩
    | _ => simp [AV.isAgg] at h
  | _ => exact low _ h

/-- The kind of a type. -/
def kOf (P : Program) (t : Nat) : TyK := match P.underlying t with
  | some (.int k) => .int k
  | some .bool => .bool
  | some .string => .str
  | some (.struct fa) => .struct (fa.toList.map fun g => (g.offset, g.type))
  | some (.array n e) => .array n e
  | some (.slice e) => .slice e
  | some (.pointer e) => .ptr e
  | some (.map k e) => .map k e
  | some (.func ..) => .func
  | some (.interface _) => .iface
  | _ => .other

def kOK (P : Program) (t : Nat) : Bool := match P.underlying t with
  | some (.struct fa) => !P.stoodInHeld t && fa.toList.all fun g => (P.info? g.type).isSome && g.name != "_"
  | some _ => true
  | none => false

theorem desc_ok {P : Program} {t : Nat} (h : kOK P t = true) : DescOK P t (kOf P t) := by
  unfold kOK at h
  unfold kOf
  cases hu : P.underlying t with
  | none => rw [hu] at h; cases h
  | some d =>
    rw [hu] at h
    cases d with
    | struct fa =>
      simp only [Bool.and_eq_true, Bool.not_eq_true', List.all_eq_true, bne_iff_ne, ne_eq] at h
      simp only [DescOK]
      refine ⟨fa, hu, by simp, h.1, fun g hg => Option.isSome_iff_exists.1 (h.2 g (by simpa using hg)).1, fun i f hf => ?_⟩
      simp only [List.getElem?_map, Option.map_eq_some_iff] at hf
      obtain ⟨g, hg, rfl⟩ := hf
      exact ⟨g, by simpa using hg, rfl, rfl, (h.2 g (List.mem_of_getElem? hg)).2⟩
    | func ps rs v => exact ⟨ps, rs, v, hu⟩
    | interface ms => exact ⟨ms, hu⟩
    | int k => exact hu
    | bool => exact hu
    | string => exact hu
    | array n e => exact hu
    | slice e => exact hu
    | pointer e => exact hu
    | map k e => exact hu
    | _ => exact ⟨_, hu, by simp, by simp, by simp⟩

def zeroF (P : Program) : Nat → Nat → Option AV
  | 0, _ => none
  | n + 1, t => match kOf P t with
    | .int k => some (.p (.int k 0))
    | .bool => some (.p (.bool false))
    | .str => some (.p (.str ByteArray.empty))
    | .slice e => (P.info? e).map fun i => .nils i.size
    | .ptr _ => some .nilp
    | .map .. => some .nilm
    | .func => some (.p .nilf)
    | .iface => some (.p .nili)
    | .struct fs => (fs.mapM fun g => zeroF P n g.2).bind fun zs => (fs.mapM fun g => (P.info? g.2).map (·.size)).map fun sz => mkAgg sz zs
    | .array m e => match kOf P e with
      | .int k => some (.p (.iarr k m (List.replicate m 0)))
      | _ => (zeroF P n e).bind fun z => (P.info? e).map fun i => .agg (List.replicate m i.size) (List.replicate m z)
    | .other => none

def tyOf (P : Program) (t : Nat) : Option Ty := match P.info? t, zeroF P 20 t with
  | some i, some v => match i.zero with
    | some z => if (v.storable && v.cells == some i.size && v.isAgg == (Ty.mk (kOf P t) i.size i.bytes v).agg && v.leans.isEmpty && zVal v z && kOK P t && (!(Ty.mk (kOf P t) i.size i.bytes v).agg || !P.eqGuardType P.depth t)) = true
      then some ⟨kOf P t, i.size, i.bytes, v⟩ else none
    | none => none
  | _, _ => none

theorem tyOf_ok {P : Program} {t : Nat} {ty : Ty} (h : tyOf P t = some ty) : TyOK P t ty := by
  unfold tyOf at h
  split at h
  case h_2 => cases h
  rename_i i v hi hv
  split at h
  case h_2 => cases h
  rename_i z hz
  split at h
  case isFalse => cases h
  rename_i hc
  cases h
  simp only [Bool.and_eq_true, beq_iff_eq, Bool.or_eq_true, Bool.not_eq_true', List.isEmpty_iff] at hc
  obtain ⟨⟨⟨⟨⟨⟨h1, h2⟩, h3⟩, h4⟩, h5⟩, h6⟩, h7⟩ := hc
  refine ⟨⟨i, hi, rfl, rfl, z, hz, fun C => zVal_ok h5⟩, desc_ok h6, h1, h2, h3, h4, fun ha => ?_⟩
  rcases h7 with h7 | h7
  · rw [ha] at h7; cases h7
  · exact h7

end Ev

/- Where a frame stands packed: the slots that live on. -/
namespace Ev
open Go (Operand Oper Code Tmp)

def ins (t : Nat) (l : List Nat) : List Nat := if l.contains t then l else t :: l
def uni (a b : List Nat) : List Nat := a.foldl (fun l t => ins t l) b
def del (t : Option Tmp) (l : List Nat) : List Nat := match t with
  | some t => l.filter (· != t)
  | none => l

def opT (x : Operand) : List Nat := match x with
  | .tmp t => [t]
  | _ => []

/-- Behind the operations the slots 'out' live: which before? An operation that may not be wanted kills nothing. -/
def liveOps (ops : Array Oper) (out : List Nat) : List Nat :=
  ops.toList.foldr (fun o l => uni (looksA ops o) (if o.guard.isSome then l else del o.dst l)) out

/-- The slots that live before a code. 'ex': behind an exit; 'rt': at the function's end. -/
def liveC (ex : Nat → List Nat) (rt : List Nat) : Code → List Nat → List Nat
  | .skip, out => out
  | .label _, out => out
  | .region _ ops _, out => liveOps ops out
  | .seq a b, out => liveC ex rt a (liveC ex rt b out)
  | .cond c a b, out => uni (opT c) (uni (liveC ex rt a out) (liveC ex rt b out))
  | .block id a, out => liveC (fun i => if i = id then out else ex i) rt a out
  | .loop a, _ =>
    let l1 := liveC ex rt a []
    let l2 := uni l1 (liveC ex rt a l1)
    uni l2 (liveC ex rt a l2)
  | .rangeFunc f _ assign body, out => uni (opT f) (uni out (uni (liveC ex rt assign []) (liveC ex rt body [])))
  | .exit id, _ => ex id
  | .ret, _ => rt
  | .scope a, out => liveC ex rt a out
  | .goto _, _ => []
  | .refuse _, _ => []

/-- What lives where the code is left otherwise than at its end. -/
def outs (ex : Nat → List Nat) (rt : List Nat) : Code → List Nat
  | .seq a b => uni (outs ex rt a) (outs ex rt b)
  | .cond _ a b => uni (outs ex rt a) (outs ex rt b)
  | .block id a => outs (fun i => if i = id then [] else ex i) rt a
  | .loop a => outs ex rt a
  | .rangeFunc _ _ assign body => uni (outs ex rt assign) (outs ex rt body)
  | .exit id => ex id
  | .ret => rt
  | .scope a => outs ex rt a
  | _ => []

/-- Do two ways meet at its end? -/
def joins : Code → Bool
  | .cond .. => true
  | .block _ a => branches a
  | .seq _ b => joins b
  | _ => false
where branches : Code → Bool
  | .cond .. => true
  | .block _ a => branches a
  | .seq a b => branches a || branches b
  | _ => false

def annC (ex : Nat → List Nat) (rt : List Nat) : Code → List Nat → Ann
  | .seq a b, out =>
    let lb := liveC ex rt b out
    if joins a then .j (uni lb (outs ex rt a)) (annC ex rt a lb) (annC ex rt b out) else .s (annC ex rt a lb) (annC ex rt b out)
  | .cond _ a b, out => .s (annC ex rt a out) (annC ex rt b out)
  | .block id a, out => .i (annC (fun i => if i = id then out else ex i) rt a out)
  | .loop a, out =>
    let l := liveC ex rt (.loop a) out
    .l l (outs ex rt a) (annC ex rt a l)
  | .rangeFunc _ _ assign body, _ => .s (annC (fun _ => []) [] assign (liveC (fun _ => []) [] body [])) (annC (fun _ => []) [] body [])
  | _, _ => .o

def resultT (f : Go.Func) : List Nat := f.results.toList.map fun
  | .tmp t => t
  | .cell a _ => a

def annOf (f : Go.Func) : Ann := match f.body with
  | some c => annC (fun _ => []) (resultT f) c (resultT f)
  | none => .o

/-- The evaluator's tables, out of the program. 'globs': variables that hold plain data; 'raws': functions that are never called apart; 'frzs': their results are plain data. -/
def Env.of (P : Go.Program) (anns : Nat → Ann) (globs : Nat → Option PD) (raws frzs : Nat → Bool) : Env where
  ty := tyOf P
  fn := fun f => match P.funcs[f]? with
    | some F => if F.name != "runtime.NumGoroutine" then some (F, anns f) else none
    | none => none
  glob := globs
  raw := raws
  frz := frzs

theorem Env.of_ok {P : Go.Program} {anns : Nat → Ann} {globs : Nat → Option PD} {raws frzs : Nat → Bool} (hm : P.follows .mixedOrders = true) : EnvOK (Env.of P anns globs raws frzs) P := by
  refine ⟨fun t ty h => tyOf_ok h, fun f F a h => ?_, hm⟩
  simp only [Env.of] at h
  split at h
  case h_2 => cases h
  rename_i F' hF
  split at h
  case isFalse => cases h
  rename_i hn
  cases h
  exact ⟨hF, by simpa using hn⟩

end Ev

/- Loops without fuel. -/
namespace Ev

theorem iter_mono {S R : Type} {step : S → Option (S ⊕ R)} : ∀ (n : Nat) (s : S) (r : R) (m : Nat), iter step n s = some r → n ≤ m → iter step m s = some r
  | 0, _, _, _, h, _ => by simp [iter] at h
  | n + 1, s, r, 0, _, h2 => by omega
  | n + 1, s, r, m + 1, h, h2 => by
    simp only [iter] at h ⊢
    cases hs : step s with
    | none => simp [hs] at h
    | some x =>
      cases x with
      | inl s' => simp only [hs] at h ⊢; exact iter_mono n s' r m h (by omega)
      | inr r' => simpa [hs] using h

theorem iter_det {S R : Type} {step : S → Option (S ⊕ R)} {n m : Nat} {s : S} {r r' : R} (h : iter step n s = some r) (h' : iter step m s = some r') : r = r' := by
  have a := iter_mono n s r (max n m) h (Nat.le_max_left _ _)
  have b := iter_mono m s r' (max n m) h' (Nat.le_max_right _ _)
  rw [a] at b
  exact Option.some.inj b

theorem loopD_of {S R : Type} {step : S → Option (S ⊕ R)} {s : S} {r : R} {n : Nat} (h : iter step n s = some r) : loopD step s = some r := by
  have hx : ∃ r, ∃ n, iter step n s = some r := ⟨r, n, h⟩
  unfold loopD
  rw [dif_pos hx]
  obtain ⟨m, hm⟩ := hx.choose_spec
  rw [iter_det hm h]

/-- A round that goes on. -/
theorem loopD_next {S R : Type} {step : S → Option (S ⊕ R)} {s s' : S} (h : step s = some (.inl s')) {r : R} (hr : loopD step s' = some r) : loopD step s = some r := by
  unfold loopD at hr
  split at hr
  · rename_i hx
    obtain ⟨n, hn⟩ := hx.choose_spec
    cases hr
    exact loopD_of (n := n + 1) (by simp only [iter, h]; exact hn)
  · cases hr

/-- The last round. -/
theorem loopD_last {S R : Type} {step : S → Option (S ⊕ R)} {s : S} {r : R} (h : step s = some (.inr r)) : loopD step s = some r :=
  loopD_of (n := 1) (by simp [iter, h])

end Ev
