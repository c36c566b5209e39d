/- Part 1 of the evaluator of the given model: its rules and their soundness (no condition). -/
import Derived.CallsIn
import Derived.DefersIn
import Derived.RangeFuncIn
import Derived.OrdersIn
import Derived.Laws.IdiomStrings
import Derived.RangeFuncRecord
set_option linter.unusedVariables false
set_option linter.unusedSimpArgs false
set_option linter.unnecessarySimpa false
/- The plain values of the evaluator, and what it means that cells of memory hold them. -/
namespace Ev
open Go (Value Addr Fn IntKind World Sem Program)

/-- Plain data: no address in it. 'e' of a slice or array: the cells of an element; 'sz' of a struct: the cells of its fields. -/
inductive PD where
  | int (k : IntKind) (n : Int)
  | bool (b : Bool)
  | str (s : ByteArray)
  | agg (sz : List Nat) (fs : List PD)
  | iarr (k : IntKind) (n : Nat) (l : List Int)
  | arr (e n : Nat) (xs : List PD)
  | sl (e : Nat) (xs : List PD)
  | fn (f : Fn)
  | nilf
  | nili
  deriving Inhabited

/-- Memory that does not change any more. -/
abbrev Mem := Nat → Nat → Option Value

def readM (M : Mem) (b off : Nat) (cs : List Value) : Prop := ∀ j, j < cs.length → M b (off + j) = cs[j]?

def PD.cells : PD → Nat
  | .agg sz _ => sz.sum
  | .iarr _ n _ => n
  | .arr e n _ => e * n
  | _ => 1

def PD.isAgg : PD → Bool
  | .agg .. | .iarr .. | .arr .. => true
  | _ => false

mutual
/-- The cells 'cs' hold the data. -/
def PRep (M : Mem) : PD → List Value → Prop
  | .int k n, cs => cs = [.int k n]
  | .bool b, cs => cs = [.bool b]
  | .str s, cs => cs = [.string s]
  | .agg sz fs, cs => PReps M sz fs cs
  | .iarr k n l, cs => l.length = n ∧ cs = l.map (Value.int k)
  | .arr e n xs, cs => xs.length = n ∧ PRow M e xs cs
  | .sl e xs, cs => ∃ base cap, cs = [.slice base xs.length cap] ∧ xs.length ≤ cap ∧
      (xs.length = 0 ∨ ∃ b off rcs, base = some ⟨b, off, none⟩ ∧ readM M b off rcs ∧ PRow M e xs rcs)
  | .fn f, cs => cs = [.func f #[] #[]]
  | .nilf, cs => cs = [.nilFunc]
  | .nili, cs => cs = [.nilIface]
def PReps (M : Mem) : List Nat → List PD → List Value → Prop
  | [], [], cs => cs = []
  | n :: sz, f :: fs, cs => ∃ c1 c2, cs = c1 ++ c2 ∧ c1.length = n ∧ f.cells = n ∧ PRep M f c1 ∧ PReps M sz fs c2
  | _, _, _ => False
def PRow (M : Mem) (e : Nat) : List PD → List Value → Prop
  | [], cs => cs = []
  | f :: fs, cs => ∃ c1 c2, cs = c1 ++ c2 ∧ c1.length = e ∧ f.cells = e ∧ PRep M f c1 ∧ PRow M e fs c2
end

theorem readM.mono {M M' : Mem} (h : ∀ b o v, M b o = some v → M' b o = some v) {b off : Nat} {cs : List Value} (hr : readM M b off cs) : readM M' b off cs := by
  intro j hj
  have := hr j hj
  rw [List.getElem?_eq_getElem hj] at this ⊢
  exact h _ _ _ this

mutual
theorem PRep.mono {M M' : Mem} (h : ∀ b o v, M b o = some v → M' b o = some v) : ∀ (d : PD) (cs : List Value), PRep M d cs → PRep M' d cs
  | .int k n, cs, hp => by simpa [PRep] using hp
  | .bool b, cs, hp => by simpa [PRep] using hp
  | .str s, cs, hp => by simpa [PRep] using hp
  | .agg sz fs, cs, hp => by simp only [PRep] at hp ⊢; exact PReps.mono h sz fs cs hp
  | .iarr k n l, cs, hp => by simpa [PRep] using hp
  | .arr e n xs, cs, hp => by simp only [PRep] at hp ⊢; exact ⟨hp.1, PRow.mono h e xs cs hp.2⟩
  | .sl e xs, cs, hp => by
    simp only [PRep] at hp ⊢
    obtain ⟨base, cap, h1, h2, h3⟩ := hp
    refine ⟨base, cap, h1, h2, h3.imp id ?_⟩
    rintro ⟨b, off, rcs, ha, hr, hx⟩
    exact ⟨b, off, rcs, ha, hr.mono h, PRow.mono h e xs rcs hx⟩
  | .fn f, cs, hp => by simpa [PRep] using hp
  | .nilf, cs, hp => by simpa [PRep] using hp
  | .nili, cs, hp => by simpa [PRep] using hp
theorem PReps.mono {M M' : Mem} (h : ∀ b o v, M b o = some v → M' b o = some v) : ∀ (sz : List Nat) (fs : List PD) (cs : List Value), PReps M sz fs cs → PReps M' sz fs cs
  | [], [], cs, hp => by simpa [PReps] using hp
  | n :: sz, f :: fs, cs, hp => by
    simp only [PReps] at hp ⊢
    obtain ⟨c1, c2, h1, h2, h3, h4, h5⟩ := hp
    exact ⟨c1, c2, h1, h2, h3, PRep.mono h f c1 h4, PReps.mono h sz fs c2 h5⟩
  | [], _ :: _, cs, hp => by simp [PReps] at hp
  | _ :: _, [], cs, hp => by simp [PReps] at hp
theorem PRow.mono {M M' : Mem} (h : ∀ b o v, M b o = some v → M' b o = some v) (e : Nat) : ∀ (fs : List PD) (cs : List Value), PRow M e fs cs → PRow M' e fs cs
  | [], cs, hp => by simpa [PRow] using hp
  | f :: fs, cs, hp => by
    simp only [PRow] at hp ⊢
    obtain ⟨c1, c2, h1, h2, h3, h4, h5⟩ := hp
    exact ⟨c1, c2, h1, h2, h3, PRep.mono h f c1 h4, PRow.mono h e fs c2 h5⟩
end

/-- No slice in it: the memory plays no part. -/
def PD.flat : PD → Bool
  | .int .. | .bool _ | .str _ | .iarr .. | .fn _ | .nilf | .nili => true
  | .agg _ fs => flats fs
  | .arr .. | .sl .. => false
where flats : List PD → Bool
  | [] => true
  | f :: fs => f.flat && flats fs

mutual
theorem PRep.ofFlat {M M' : Mem} : ∀ (d : PD) (cs : List Value), d.flat = true → PRep M d cs → PRep M' d cs
  | .int k n, cs, _, hp => by simpa [PRep] using hp
  | .bool b, cs, _, hp => by simpa [PRep] using hp
  | .str s, cs, _, hp => by simpa [PRep] using hp
  | .agg sz fs, cs, hf, hp => by simp only [PRep] at hp ⊢; exact PReps.ofFlat sz fs cs (by simpa [PD.flat] using hf) hp
  | .iarr k n l, cs, _, hp => by simpa [PRep] using hp
  | .arr e n xs, cs, hf, _ => by simp [PD.flat] at hf
  | .sl e xs, cs, hf, _ => by simp [PD.flat] at hf
  | .fn f, cs, _, hp => by simpa [PRep] using hp
  | .nilf, cs, _, hp => by simpa [PRep] using hp
  | .nili, cs, _, hp => by simpa [PRep] using hp
theorem PReps.ofFlat {M M' : Mem} : ∀ (sz : List Nat) (fs : List PD) (cs : List Value), PD.flat.flats fs = true → PReps M sz fs cs → PReps M' sz fs cs
  | [], [], cs, _, hp => by simpa [PReps] using hp
  | n :: sz, f :: fs, cs, hf, hp => by
    simp only [PReps] at hp ⊢
    simp only [PD.flat.flats, Bool.and_eq_true] at hf
    obtain ⟨c1, c2, h1, h2, h3, h4, h5⟩ := hp
    exact ⟨c1, c2, h1, h2, h3, PRep.ofFlat f c1 hf.1 h4, PReps.ofFlat sz fs c2 hf.2 h5⟩
  | [], _ :: _, cs, _, hp => by simp [PReps] at hp
  | _ :: _, [], cs, _, hp => by simp [PReps] at hp
end

theorem PRow.length {M : Mem} {e : Nat} : ∀ {fs : List PD} {cs : List Value}, PRow M e fs cs → cs.length = fs.length * e
  | [], cs, hp => by simp [PRow] at hp; simp [hp]
  | f :: fs, cs, hp => by
    simp only [PRow] at hp
    obtain ⟨c1, c2, h1, h2, h3, h4, h5⟩ := hp
    have := PRow.length h5
    subst h1
    simp [this, h2, Nat.succ_mul]; omega

theorem PReps.length {M : Mem} : ∀ {sz : List Nat} {fs : List PD} {cs : List Value}, PReps M sz fs cs → cs.length = sz.sum
  | [], [], cs, hp => by simp [PReps] at hp; simp [hp]
  | n :: sz, f :: fs, cs, hp => by
    simp only [PReps] at hp
    obtain ⟨c1, c2, h1, h2, h3, h4, h5⟩ := hp
    have := PReps.length h5
    subst h1
    simp [this, h2]
  | [], _ :: _, cs, hp => by simp [PReps] at hp
  | _ :: _, [], cs, hp => by simp [PReps] at hp

theorem PRep.length {M : Mem} {d : PD} {cs : List Value} (h : PRep M d cs) : cs.length = d.cells := by
  cases d with
  | agg sz fs => simp only [PRep] at h; simpa [PD.cells] using h.length
  | iarr k n l => simp only [PRep] at h; simp [PD.cells, h.2, h.1]
  | arr e n xs => simp only [PRep] at h; rw [h.2.length, h.1]; simp [PD.cells, Nat.mul_comm]
  | sl e xs => simp only [PRep] at h; obtain ⟨b, c, h, _⟩ := h; simp [h, PD.cells]
  | _ => simp only [PRep] at h; simp [h, PD.cells]

theorem drop_len_add {α : Type} (a b : List α) (k : Nat) : (a ++ b).drop (a.length + k) = b.drop k := by
  rw [List.drop_append, List.drop_eq_nil_of_le (by omega)]; simp
theorem take_len_add {α : Type} (a b : List α) (k : Nat) : (a ++ b).take (a.length + k) = a ++ b.take k := by
  rw [List.take_append, List.take_of_length_le (by omega)]; simp

/-- The element i of a row. -/
theorem PRow.get {M : Mem} {e : Nat} : ∀ {fs : List PD} {cs : List Value} (i : Nat) (d : PD), PRow M e fs cs → fs[i]? = some d →
    PRep M d ((cs.drop (i * e)).take e) ∧ d.cells = e ∧ i * e + e ≤ cs.length
  | [], cs, i, d, _, hi => by simp at hi
  | f :: fs, cs, i, d, hp, hi => by
    have hlen := hp.length
    simp only [PRow] at hp
    obtain ⟨c1, c2, h1, h2, h3, h4, h5⟩ := hp
    subst h1
    cases i with
    | zero =>
      simp only [List.getElem?_cons_zero, Option.some.injEq] at hi
      subst hi
      simp only [Nat.zero_mul, List.drop_zero]
      rw [List.take_left' h2]
      exact ⟨h4, h3, by simp [h2]⟩
    | succ i =>
      simp only [List.getElem?_cons_succ] at hi
      obtain ⟨g1, g2, g3⟩ := PRow.get i d h5 hi
      have hd : (c1 ++ c2).drop ((i + 1) * e) = c2.drop (i * e) := by
        rw [show (i + 1) * e = c1.length + i * e from by rw [Nat.succ_mul, h2]; omega, drop_len_add]
      rw [hd]
      refine ⟨g1, g2, ?_⟩
      simp only [List.length_append, h2]
      rw [Nat.succ_mul]; omega

theorem PRow.append {M : Mem} {e : Nat} : ∀ {fs gs : List PD} {cs ds : List Value}, PRow M e fs cs → PRow M e gs ds → PRow M e (fs ++ gs) (cs ++ ds)
  | [], gs, cs, ds, h, h' => by simp [PRow] at h; subst h; simpa using h'
  | f :: fs, gs, cs, ds, h, h' => by
    simp only [PRow, List.cons_append] at h ⊢
    obtain ⟨c1, c2, h1, h2, h3, h4, h5⟩ := h
    exact ⟨c1, c2 ++ ds, by simp [h1], h2, h3, h4, PRow.append h5 h'⟩

theorem PRow.dropN {M : Mem} {e : Nat} : ∀ {fs : List PD} {cs : List Value} (k : Nat), PRow M e fs cs → PRow M e (fs.drop k) (cs.drop (k * e))
  | fs, cs, 0, h => by simpa using h
  | [], cs, k + 1, h => by simp [PRow] at h; subst h; simp [PRow]
  | f :: fs, cs, k + 1, h => by
    simp only [PRow] at h
    obtain ⟨c1, c2, h1, h2, h3, h4, h5⟩ := h
    have := PRow.dropN k h5
    subst h1
    rw [show (k + 1) * e = c1.length + k * e from by rw [Nat.succ_mul, h2]; omega, drop_len_add]
    simpa using this

theorem PRow.takeN {M : Mem} {e : Nat} : ∀ {fs : List PD} {cs : List Value} (k : Nat), PRow M e fs cs → PRow M e (fs.take k) (cs.take (k * e))
  | fs, cs, 0, h => by simp [PRow]
  | [], cs, k + 1, h => by simp [PRow] at h; subst h; simp [PRow]
  | f :: fs, cs, k + 1, h => by
    simp only [PRow] at h
    obtain ⟨c1, c2, h1, h2, h3, h4, h5⟩ := h
    have := PRow.takeN k h5
    subst h1
    simp only [List.take_succ_cons, PRow]
    refine ⟨c1, c2.take (k * e), ?_, h2, h3, h4, this⟩
    rw [show (k + 1) * e = c1.length + k * e from by rw [Nat.succ_mul, h2]; omega, take_len_add]

/-- A field of a struct. -/
theorem PReps.get {M : Mem} : ∀ {sz : List Nat} {fs : List PD} {cs : List Value} (i : Nat) (d : PD), PReps M sz fs cs → fs[i]? = some d →
    ∃ n, sz[i]? = some n ∧ PRep M d ((cs.drop (sz.take i).sum).take n) ∧ d.cells = n ∧ (sz.take i).sum + n ≤ cs.length
  | [], [], cs, i, d, _, hi => by simp at hi
  | n :: sz, f :: fs, cs, i, d, hp, hi => by
    simp only [PReps] at hp
    obtain ⟨c1, c2, h1, h2, h3, h4, h5⟩ := hp
    subst h1
    cases i with
    | zero =>
      simp only [List.getElem?_cons_zero, Option.some.injEq] at hi
      subst hi
      refine ⟨n, rfl, ?_, h3, by simp [h2]⟩
      simp only [List.take_zero, List.sum_nil, List.drop_zero]
      rw [List.take_left' h2]
      exact h4
    | succ i =>
      simp only [List.getElem?_cons_succ] at hi
      obtain ⟨m, g0, g1, g2, g3⟩ := PReps.get i d h5 hi
      refine ⟨m, by simpa using g0, ?_, g2, ?_⟩
      · simp only [List.take_succ_cons, List.sum_cons]
        rw [← h2, drop_len_add]
        exact g1
      · simp only [List.take_succ_cons, List.sum_cons, List.length_append, h2]; omega
  | [], _ :: _, cs, _, _, hp, _ => by simp [PReps] at hp
  | _ :: _, [], cs, _, _, hp, _ => by simp [PReps] at hp

end Ev

/- The evaluator's values, its heap, and what it means that the machine's memory holds them. -/
namespace Ev
open Go (Value Addr Fn IntKind World Sem Program Oper Operand Code Tmp)

inductive Stp where
  | fld (i off : Nat)
  | idx (i e : Nat)
  deriving DecidableEq, Inhabited

def Stp.off : Stp → Nat
  | .fld _ o => o
  | .idx i e => i * e
def offs (π : List Stp) : Nat := (π.map Stp.off).sum

inductive AV where
  | unk
  | p (d : PD)
  | agg (sz : List Nat) (fs : List AV)
  | ref (b : Nat) (π : List Stp)
  | pp (d : PD)
  | own (b lo : Nat)
  | win (b : Nat) (π : List Stp) (e lo len cap : Nat) (ex : Bool)
  | nils (e : Nat)
  | nilp
  | map (b : Nat)
  | nilm
  /-- One of the two truth values. -/
  | anyb
  | clo (fn : Fn) (first captured : List AV)
  | yld (l : Nat)
  | iface (t : Nat) (v : AV)
  | tup (vs : List AV)
  deriving Inhabited

/-- Where in a text a frame stands packed: 'live': the slots that live on. -/
inductive Ann where
  | o
  | s (a b : Ann)
  | j (out : List Nat) (a b : Ann)
  | l (live out : List Nat) (a : Ann)
  | i (a : Ann)
  deriving Inhabited

inductive Jump where
  | ret
  | exit (id : Nat)
  deriving DecidableEq, Inhabited

inductive Obj where
  | dead
  | var (t : AV) (sealed : Bool)
  | row (e : Nat) (xs : List PD) (sealed : Bool)
  | mrow (e : Nat) (xs : List AV)
  | map (kt vt : Nat) (es : List (PD × PD))
  | loop (st : Nat) (pend : Option Jump) (fn : Nat) (tmps : List AV) (params : Array Tmp) (assign body : Code) (ann : Ann)
  deriving Inhabited

abbrev Heap := List Obj

def AV.isAgg : AV → Bool
  | .p d => d.isAgg
  | .agg .. => true
  | _ => false

def AV.cells : AV → Option Nat
  | .p d => some d.cells
  | .agg sz _ => some sz.sum
  | .unk => none
  | .tup _ => none
  | _ => some 1

inductive Loc where
  | nil
  | at (blk off cap : Nat)
  deriving DecidableEq

structure Cx where
  M : Mem
  ι : Nat → Option Loc
  H : Heap
  /-- Is this data of that type? (The same at all times.) -/
  has : Nat → PD → Bool

/-- The element's cells and the number of elements of a row. -/
def Obj.rowLen : Obj → Option (Nat × Nat)
  | .row e xs _ => some (e, xs.length)
  | .mrow e xs => some (e, xs.length)
  | _ => none

def Obj.alive : Obj → Bool
  | .dead => false
  | _ => true

def Cx.alive (C : Cx) (b : Nat) : Prop := ∃ o, C.H[b]? = some o ∧ o.alive = true

def ownV : Loc → (e n lo : Nat) → Value → Prop
  | .nil, _, n, lo, v => n = 0 ∧ lo = 0 ∧ ∃ base, v = .slice base 0 0
  | .at blk off cap, e, n, lo, v => lo ≤ n ∧ n ≤ cap ∧ ∃ a, v = .slice (some a) (n - lo) (cap - lo) ∧ (lo < cap → a = ⟨blk, off + lo * e, none⟩)

def winV : Loc → (o e lo len cap : Nat) → Bool → Value → Prop
  | .nil, _, _, _, len, cap, _, x => len = 0 ∧ cap = 0 ∧ ∃ base, x = .slice base 0 0
  | .at blk off room, o, e, lo, len, cap, ex, x => len ≤ cap ∧ ∃ a cap', x = .slice (some a) len cap' ∧ cap ≤ cap' ∧ (ex = true → cap' = cap) ∧ (0 < cap → a = ⟨blk, off + o + lo * e, none⟩) ∧
    (ex = false → o = 0 ∧ cap' + lo = room ∧ (0 < cap' → a = ⟨blk, off + lo * e, none⟩))

/-- A value that one cell holds. -/
def one : Value → Bool
  | .agg _ => false
  | .tuple _ => false
  | _ => true

mutual
/-- The values 'cs' hold the evaluator's value: 'val': as the one value of a temporary; else as cells. -/
def AR (C : Cx) (val : Bool) : AV → List Value → Prop
  | .unk, cs => val = true ∨ ∀ c ∈ cs, one c = true
  | .p d, cs => if val && d.isAgg then ∃ c : Array Value, cs = [.agg c] ∧ PRep C.M d c.toList else PRep C.M d cs
  | .agg sz fs, cs => if val then ∃ c : Array Value, cs = [.agg c] ∧ ARs C sz fs c.toList else ARs C sz fs cs
  | .ref b π, cs => b < C.H.length ∧ ∃ x, cs = [x] ∧ (∃ b0 o0, x = .pointer (some ⟨b0, o0, none⟩)) ∧ (C.alive b → ∃ blk off cap, C.ι b = some (.at blk off cap) ∧ x = .pointer (some ⟨blk, off + offs π, none⟩))
  | .pp d, cs => ∃ b off rcs, cs = [.pointer (some ⟨b, off, none⟩)] ∧ readM C.M b off rcs ∧ PRep C.M d rcs
  | .own b lo, cs => b < C.H.length ∧ ∃ x, cs = [x] ∧ one x = true ∧ (∀ o e n, C.H[b]? = some o → o.rowLen = some (e, n) → ∃ loc, C.ι b = some loc ∧ ownV loc e n lo x)
  | .win b π e lo len cap ex, cs => b < C.H.length ∧ ∃ x, cs = [x] ∧ one x = true ∧ (C.alive b → ∃ loc, C.ι b = some loc ∧ winV loc (offs π) e lo len cap ex x)
  | .nils _, cs => ∃ base, cs = [.slice base 0 0]
  | .nilp, cs => cs = [.pointer none]
  | .map b, cs => b < C.H.length ∧ ∃ x, cs = [x] ∧ one x = true ∧ (C.alive b → ∃ blk off cap, C.ι b = some (.at blk off cap) ∧ x = .map (some blk))
  | .nilm, cs => cs = [.map none]
  | .anyb, cs => ∃ b, cs = [.bool b]
  | .clo fn first cap, cs => ∃ vf vc : List Value, cs = [.func fn vf.toArray vc.toArray] ∧ AVs C first vf ∧ AVs C cap vc
  | .yld l, cs => l < C.H.length ∧ ∃ x, cs = [x] ∧ one x = true ∧ (C.alive l → ∃ blk off cap, C.ι l = some (.at blk off cap) ∧ x = .func (.yield blk) #[] #[])
  | .iface t v, cs => ∃ x, cs = [.iface t x] ∧ AR C true v [x]
  | .tup vs, cs => val = true ∧ ∃ ws : List Value, cs = [.tuple ws.toArray] ∧ AVs C vs ws
def ARs (C : Cx) : List Nat → List AV → List Value → Prop
  | [], [], cs => cs = []
  | n :: sz, f :: fs, cs => ∃ c1 c2, cs = c1 ++ c2 ∧ c1.length = n ∧ (f.cells = none ∨ f.cells = some n) ∧ AR C false f c1 ∧ ARs C sz fs c2
  | _, _, _ => False
def AVs (C : Cx) : List AV → List Value → Prop
  | [], vs => vs = []
  | f :: fs, vs => ∃ v r, vs = v :: r ∧ AR C true f [v] ∧ AVs C fs r
end

def ARow (C : Cx) (e : Nat) : List AV → List Value → Prop
  | [], cs => cs = []
  | f :: fs, cs => ∃ c1 c2, cs = c1 ++ c2 ∧ c1.length = e ∧ (f.cells = none ∨ f.cells = some e) ∧ AR C false f c1 ∧ ARow C e fs c2

abbrev AVal (C : Cx) (av : AV) (v : Value) : Prop := AR C true av [v]

/-- Every cell of the block may be written. -/
def unfrozen (w : World) (blk : Nat) : Prop := ∀ (C : Array Value) (E : Nat) (fz : Nat × Nat), w.heap[blk]? = some (.cells C E fz) → ∀ j, j < C.size → ¬ (fz.1 ≤ j ∧ j < fz.2)

inductive JumpRep : Option Jump → Option Code → Prop where
  | none : JumpRep none none
  | ret : JumpRep (some .ret) (some .ret)
  | exit (id : Nat) : JumpRep (some (.exit id)) (some (.exit id))

def loopState : Nat → Go.LoopState
  | 0 => .ready
  | 1 => .busy
  | 2 => .done
  | _ => .exhausted

/-- The value of a temporary is the data. -/
def PVal (M : Mem) (d : PD) (v : Value) : Prop := if d.isAgg then ∃ c : Array Value, v = .agg c ∧ PRep M d c.toList else PRep M d [v]

/-- A map's entries. -/
def MapRep (M : Mem) : List (PD × PD) → List Go.MapEntry → Prop
  | [], es => es = []
  | (k, v) :: r, es => ∃ e es', es = e :: es' ∧ PVal M k e.key ∧ PVal M v e.val ∧ MapRep M r es'

/-- The object lies in memory. -/
def ObjRep (C : Cx) (w : World) : Loc → Obj → Prop
  | loc, .var t _ => ∃ blk cs E fz, loc = .at blk 0 1 ∧ w.heap[blk]? = some (.cells cs E fz) ∧ unfrozen w blk ∧ AR C false t cs.toList
  | .nil, .row _ xs _ => xs = []
  | .at blk off cap, .row e xs _ => ∃ cs E fz, w.heap[blk]? = some (.cells cs E fz) ∧ unfrozen w blk ∧ xs.length ≤ cap ∧ off + cap * e ≤ cs.size ∧
      PRow C.M e xs ((cs.toList.drop off).take (xs.length * e))
  | .nil, .mrow _ xs => xs = []
  | .at blk off cap, .mrow e xs => ∃ cs E fz, w.heap[blk]? = some (.cells cs E fz) ∧ unfrozen w blk ∧ xs.length ≤ cap ∧ off + cap * e ≤ cs.size ∧
      ARow C e xs ((cs.toList.drop off).take (xs.length * e))
  | loc, .map kt vt es => ∃ blk a c, loc = .at blk 0 0 ∧ w.heap[blk]? = some (.map a c) ∧ MapRep C.M es a.toList ∧ ∀ x ∈ es, C.has kt x.1 = true ∧ C.has vt x.2 = true
  | loc, .loop st pend _ tmps params assign body _ => ∃ blk df vs pd gn, loc = .at blk 0 0 ∧
      w.heap[blk]? = some (.loop { state := loopState st, pending := pd, fn := gn, tmps := vs, params := params, assign := assign, body := body, defers := df }) ∧
      JumpRep pend pd ∧ tmps.length = vs.size ∧ AVs C tmps vs.toList
  | _, .dead => False

/-- What of a block is promised not to change: nothing of an object that is not sealed. -/
def Obj.sealed : Obj → Bool
  | .var _ s => s
  | .row _ _ s => s
  | _ => false

structure Sim (C : Cx) (w : World) : Prop where
  agree : ∀ b o v, C.M b o = some v → w.cell? ⟨b, o, none⟩ = some v
  obj : ∀ b loc, C.ι b = some loc → ∃ o, C.H[b]? = some o ∧ ObjRep C w loc o
  sep : ∀ b b' blk off cap off' cap', C.ι b = some (.at blk off cap) → C.ι b' = some (.at blk off' cap') → b = b'
  open_ : ∀ b blk off cap ob, C.ι b = some (.at blk off cap) → C.H[b]? = some ob → ob.sealed = false → ∀ o, C.M blk o = none
  cover : ∀ b blk off cap ob, C.ι b = some (.at blk off cap) → C.H[b]? = some ob → ob.sealed = true →
    ∃ cs E fz, w.heap[blk]? = some (.cells cs E fz) ∧ ∀ j, j < cs.size → (∀ e n, ob.rowLen = some (e, n) → off ≤ j ∧ j < off + n * e) → C.M blk j = cs[j]?
  room : ∀ b blk off cap e xs, C.ι b = some (.at blk off cap) → C.H[b]? = some (.row e xs true) → ∀ o v, C.M blk o = some v → o < off + xs.length * e

def owned (ι : Nat → Option Loc) (blk : Nat) : Prop := ∃ b off cap, ι b = some (.at blk off cap)

/-- The shape of an object, as far as a reference to it tells. -/
def Obj.like : Obj → Obj → Prop
  | .var _ _, .var _ _ => True
  | .row e xs _, .row e' xs' _ => e = e' ∧ xs.length = xs'.length
  | .mrow e xs, .mrow e' xs' => e = e' ∧ xs.length = xs'.length
  | .mrow e xs, .row e' xs' _ => e = e' ∧ xs.length = xs'.length
  | .map .., .map .. => True
  | .loop .., .loop .. => True
  | _, _ => False

/-- A later state of the memory, as references see it. -/
structure Cx.le (C C' : Cx) : Prop where
  mem : ∀ b o v, C.M b o = some v → C'.M b o = some v
  stable : ∀ b, b < C.H.length → C'.H[b]? = some .dead ∨ (C'.ι b = C.ι b ∧ ∃ o o', C.H[b]? = some o ∧ C'.H[b]? = some o' ∧ (o = o' ∨ o.like o'))
  len : C.H.length ≤ C'.H.length
  same : C'.has = C.has

/-- Nothing but memory turns, and what could be written can be. -/
structure Quiet (w w' : World) : Prop where
  os : w'.os = w.os
  output : w'.output = w.output
  grow : w.heap.size ≤ w'.heap.size
  frozen : ∀ a, a.block < w.heap.size → w'.frozen? a = w.frozen? a

theorem Quiet.refl (w : World) : Quiet w w := ⟨rfl, rfl, Nat.le_refl _, fun _ _ => rfl⟩
theorem Quiet.trans {u v w : World} (h : Quiet u v) (k : Quiet v w) : Quiet u w := ⟨k.os.trans h.os, k.output.trans h.output, Nat.le_trans h.grow k.grow, fun a ha => (k.frozen a (Nat.lt_of_lt_of_le ha h.grow)).trans (h.frozen a ha)⟩
theorem Quiet.drew (w : World) : Quiet w { w with drawn := w.drawn + 1 } := ⟨rfl, rfl, Nat.le_refl _, fun _ _ => rfl⟩

/-- What a run of code may do to memory. -/
structure Ext (C : Cx) (w : World) (C' : Cx) (w' : World) : Prop where
  le : C.le C'
  newmem : ∀ b o v, C'.M b o = some v → C.M b o = some v ∨ owned C.ι b ∨ w.heap.size ≤ b
  own : ∀ blk, owned C'.ι blk → owned C.ι blk ∨ w.heap.size ≤ blk
  frame : ∀ blk, blk < w.heap.size → ¬ owned C.ι blk → w'.heap[blk]? = w.heap[blk]?
  grow : w.heap.size ≤ w'.heap.size
  quiet : Quiet w w'

theorem Obj.like_alive {o o' : Obj} (h : o = o' ∨ o.like o') (ha : o'.alive = true) : o.alive = true := by
  rcases h with rfl | h
  · exact ha
  · cases o <;> cases o' <;> simp_all [Obj.like, Obj.alive]

theorem Obj.like_row {o o' : Obj} (h : o = o' ∨ o.like o') : o.rowLen = o'.rowLen := by
  rcases h with rfl | h
  · rfl
  · cases o <;> cases o' <;> simp_all [Obj.like, Obj.rowLen]

theorem Cx.le.alive {C C' : Cx} (h : C.le C') {b : Nat} (hb : b < C.H.length) (ha : C'.alive b) : C.alive b ∧ C'.ι b = C.ι b := by
  obtain ⟨o, ho, hal⟩ := ha
  rcases h.stable b hb with hd | ⟨hi, o1, o2, h1, h2, hl⟩
  · rw [hd] at ho; cases ho; simp [Obj.alive] at hal
  · rw [h2] at ho; cases ho
    exact ⟨⟨o1, h1, Obj.like_alive hl hal⟩, hi⟩

mutual
theorem AR.mono {C C' : Cx} (h : C.le C') (val : Bool) : ∀ (av : AV) (cs : List Value), AR C val av cs → AR C' val av cs
  | .unk, cs, hp => by simpa [AR] using hp
  | .p d, cs, hp => by
    simp only [AR] at hp ⊢
    split
    · rename_i hc; simp only [hc, if_true] at hp
      obtain ⟨c, h1, h2⟩ := hp; exact ⟨c, h1, PRep.mono h.mem _ _ h2⟩
    · rename_i hc; simp only [hc] at hp; exact PRep.mono h.mem _ _ hp
  | .agg sz fs, cs, hp => by
    simp only [AR] at hp ⊢
    split
    · rename_i hc; simp only [hc, if_true] at hp
      obtain ⟨c, h1, h2⟩ := hp; exact ⟨c, h1, ARs.mono h sz fs _ h2⟩
    · rename_i hc; simp only [hc] at hp; exact ARs.mono h sz fs _ hp
  | .ref b π, cs, hp => by
    simp only [AR] at hp ⊢
    obtain ⟨hp, x, hx, hx1, hx2⟩ := hp
    refine ⟨Nat.lt_of_lt_of_le hp h.len, x, hx, hx1, fun ha => ?_⟩
    obtain ⟨ha', hi⟩ := h.alive hp ha
    rw [hi]; exact hx2 ha'
  | .pp d, cs, hp => by
    simp only [AR] at hp ⊢
    obtain ⟨b, off, rcs, h1, h2, h3⟩ := hp
    exact ⟨b, off, rcs, h1, h2.mono h.mem, PRep.mono h.mem _ _ h3⟩
  | .own b lo, cs, hp => by
    simp only [AR] at hp ⊢
    obtain ⟨hp, x, hx, hx1, hx2⟩ := hp
    refine ⟨Nat.lt_of_lt_of_le hp h.len, x, hx, hx1, fun o e n ho hr => ?_⟩
    rcases h.stable b hp with hd | ⟨hi, o1, o2, h1, h2, hl⟩
    · rw [hd] at ho; cases ho; simp [Obj.rowLen] at hr
    · rw [h2] at ho; cases ho
      rw [hi]; exact hx2 o1 e n h1 ((Obj.like_row hl).trans hr)
  | .win b π e lo len cap ex, cs, hp => by
    simp only [AR] at hp ⊢
    obtain ⟨hp, x, hx, hx1, hx2⟩ := hp
    refine ⟨Nat.lt_of_lt_of_le hp h.len, x, hx, hx1, fun ha => ?_⟩
    obtain ⟨ha', hi⟩ := h.alive hp ha
    rw [hi]; exact hx2 ha'
  | .nils e, cs, hp => by simpa [AR] using hp
  | .nilp, cs, hp => by simpa [AR] using hp
  | .map b, cs, hp => by
    simp only [AR] at hp ⊢
    obtain ⟨hp, x, hx, hx1, hx2⟩ := hp
    refine ⟨Nat.lt_of_lt_of_le hp h.len, x, hx, hx1, fun ha => ?_⟩
    obtain ⟨ha', hi⟩ := h.alive hp ha
    rw [hi]; exact hx2 ha'
  | .nilm, cs, hp => by simpa [AR] using hp
  | .anyb, cs, hp => by simpa [AR] using hp
  | .clo fn first cap, cs, hp => by
    simp only [AR] at hp ⊢
    obtain ⟨vf, vc, h1, h2, h3⟩ := hp
    exact ⟨vf, vc, h1, AVs.mono h first vf h2, AVs.mono h cap vc h3⟩
  | .yld l, cs, hp => by
    simp only [AR] at hp ⊢
    obtain ⟨hp, x, hx, hx1, hx2⟩ := hp
    refine ⟨Nat.lt_of_lt_of_le hp h.len, x, hx, hx1, fun ha => ?_⟩
    obtain ⟨ha', hi⟩ := h.alive hp ha
    rw [hi]; exact hx2 ha'
  | .iface t v, cs, hp => by
    simp only [AR] at hp ⊢
    obtain ⟨x, h1, h2⟩ := hp
    exact ⟨x, h1, AR.mono h true v [x] h2⟩
  | .tup vs, cs, hp => by
    simp only [AR] at hp ⊢
    obtain ⟨h0, ws, h1, h2⟩ := hp
    exact ⟨h0, ws, h1, AVs.mono h vs ws h2⟩
theorem ARs.mono {C C' : Cx} (h : C.le C') : ∀ (sz : List Nat) (fs : List AV) (cs : List Value), ARs C sz fs cs → ARs C' sz fs cs
  | [], [], cs, hp => by simpa [ARs] using hp
  | n :: sz, f :: fs, cs, hp => by
    simp only [ARs] at hp ⊢
    obtain ⟨c1, c2, h1, h2, h3, h4, h5⟩ := hp
    exact ⟨c1, c2, h1, h2, h3, AR.mono h false f c1 h4, ARs.mono h sz fs c2 h5⟩
  | [], _ :: _, cs, hp => by simp [ARs] at hp
  | _ :: _, [], cs, hp => by simp [ARs] at hp
theorem AVs.mono {C C' : Cx} (h : C.le C') : ∀ (fs : List AV) (vs : List Value), AVs C fs vs → AVs C' fs vs
  | [], vs, hp => by simpa [AVs] using hp
  | f :: fs, vs, hp => by
    simp only [AVs] at hp ⊢
    obtain ⟨v, r, h1, h2, h3⟩ := hp
    exact ⟨v, r, h1, AR.mono h true f [v] h2, AVs.mono h fs r h3⟩
end

theorem ARow.mono {C C' : Cx} (h : C.le C') (e : Nat) : ∀ (fs : List AV) (cs : List Value), ARow C e fs cs → ARow C' e fs cs
  | [], cs, hp => by simpa [ARow] using hp
  | f :: fs, cs, hp => by
    simp only [ARow] at hp ⊢
    obtain ⟨c1, c2, h1, h2, h3, h4, h5⟩ := hp
    exact ⟨c1, c2, h1, h2, h3, AR.mono h false f c1 h4, ARow.mono h e fs c2 h5⟩

theorem Cx.le.refl (C : Cx) : C.le C := ⟨fun _ _ _ h => h, fun b hb => .inr ⟨rfl, C.H[b], C.H[b], by simp [hb], by simp [hb], .inl rfl⟩, Nat.le_refl _, rfl⟩

theorem Obj.like_trans {a b c : Obj} (h : a = b ∨ a.like b) (h' : b = c ∨ b.like c) : a = c ∨ a.like c := by
  rcases h with rfl | h
  · exact h'
  · rcases h' with rfl | h'
    · exact .inr h
    · right; cases a <;> cases b <;> cases c <;> simp_all [Obj.like]

theorem Cx.le.trans {A B C : Cx} (h : A.le B) (k : B.le C) : A.le C := by
  refine ⟨fun b o v hv => k.mem _ _ _ (h.mem _ _ _ hv), fun b hb => ?_, Nat.le_trans h.len k.len, k.same.trans h.same⟩
  rcases k.stable b (Nat.lt_of_lt_of_le hb h.len) with hd | ⟨hi, o1, o2, h1, h2, hl⟩
  · exact .inl hd
  · rcases h.stable b hb with hd | ⟨hi', p1, p2, g1, g2, gl⟩
    · rw [hd] at h1; cases h1
      rcases hl with rfl | hl
      · exact .inl h2
      · cases o2 <;> simp [Obj.like] at hl
    · rw [g2] at h1; cases h1
      exact .inr ⟨hi.trans hi', p1, o2, g1, h2, Obj.like_trans gl hl⟩

theorem Ext.refl (C : Cx) (w : World) : Ext C w C w :=
  ⟨.refl C, fun _ _ _ h => .inl h, fun _ h => .inl h, fun _ _ _ => rfl, Nat.le_refl _, .refl w⟩

theorem Ext.trans {A B C : Cx} {u v w : World} (h : Ext A u B v) (k : Ext B v C w) : Ext A u C w := by
  refine ⟨h.le.trans k.le, fun b o x hx => ?_, fun blk hb => ?_, fun blk hlt hno => ?_, Nat.le_trans h.grow k.grow, h.quiet.trans k.quiet⟩
  · rcases k.newmem b o x hx with hm | ho | hs
    · exact h.newmem b o x hm
    · rcases h.own b ho with h1 | h1
      · exact .inr (.inl h1)
      · exact .inr (.inr h1)
    · exact .inr (.inr (Nat.le_trans h.grow hs))
  · rcases k.own blk hb with h1 | h1
    · exact h.own blk h1
    · exact .inr (Nat.le_trans h.grow h1)
  · have h1 := h.frame blk hlt hno
    refine (k.frame blk (Nat.lt_of_lt_of_le hlt h.grow) fun ho => ?_).trans h1
    rcases h.own blk ho with h2 | h2
    · exact hno h2
    · omega

end Ev

/- The evaluator: Go's code over plain data and a small heap. -/
namespace Ev
open Go (Value Addr Fn IntKind World Sem Program Oper Op Operand Code Tmp BinOp UnOp Builtin)

/-! ### Types -/

inductive TyK where
  | int (k : IntKind)
  | bool
  | str
  | struct (fs : List (Nat × Nat))   -- offset, type
  | array (n e : Nat)
  | slice (e : Nat)
  | ptr (e : Nat)
  | map (k e : Nat)
  | func
  | iface
  | other
  deriving Inhabited

structure Ty where
  k : TyK
  cells : Nat
  bytes : Nat
  zero : AV
  deriving Inhabited

def Ty.agg (t : Ty) : Bool := match t.k with | .struct _ | .array .. => true | _ => false

structure Env where
  ty : Nat → Option Ty
  fn : Nat → Option (Go.Func × Ann)
  glob : Nat → Option PD
  raw : Nat → Bool
  /-- The results of these functions are handed back as plain data. -/
  frz : Nat → Bool

inductive Tgt where
  | f (f : Nat)
  | y (l : Nat)

inductive Res where
  | ret (v : AV)
  | panic (v : AV)
  deriving Inhabited

abbrev Sem' := Tgt → List AV → Heap → Option (Res × Heap)

/-! ### Values -/

def constAV : Value → AV
  | .int k n => .p (.int k n)
  | .bool b => .p (.bool b)
  | .string s => .p (.str s)
  | .slice none 0 0 => .nils 0
  | .pointer none => .nilp
  | .map none => .nilm
  | .nilFunc => .p .nilf
  | .nilIface => .p .nili
  | _ => .unk

def Env.opnd (E : Env) (tmps : List AV) : Operand → AV
  | .tmp t => tmps.getD t .unk
  | .const v => constAV v
  | .global g => match E.glob g with | some d => .pp d | none => .unk
  | .func f => .p (.fn (.func f))

def Env.elem (E : Env) (t : Nat) : Option Ty := match E.ty t with
  | some ⟨.slice e, _, _, _⟩ => E.ty e
  | _ => none

/-- A nil slice whose element's size is not said yet. -/
def Env.fixNil (E : Env) (t : Nat) (v : AV) : AV := match v with
  | .nils _ => match E.elem t with
    | some ty => .nils ty.cells
    | none => v
  | _ => v

def allP : List AV → Option (List PD)
  | [] => some []
  | .p d :: r => (allP r).map (d :: ·)
  | _ :: _ => none

def mkAgg (sz : List Nat) (fs : List AV) : AV := match allP fs with
  | some ds => .p (.agg sz ds)
  | none => .agg sz fs

def AV.get : AV → List Stp → Option AV
  | t, [] => some t
  | .p (.agg sz fs), .fld i o :: π => if (sz.take i).sum = o then (fs[i]?).bind fun d => AV.get (.p d) π else none
  | .agg sz fs, .fld i o :: π => if (sz.take i).sum = o then (fs[i]?).bind fun d => AV.get d π else none
  | .p (.iarr k _ l), .idx i e :: π => if e = 1 then (l[i]?).bind fun n => AV.get (.p (.int k n)) π else none
  | .p (.arr e _ xs), .idx i e' :: π => if e = e' then (xs[i]?).bind fun d => AV.get (.p d) π else none
  | .agg sz fs, .idx i e :: π => if (sz.take i).sum = i * e then (fs[i]?).bind fun d => AV.get d π else none
  | _, _ :: _ => none

/-- 'n': the cells of the place that is set. -/
def AV.set : Nat → AV → List Stp → AV → Option AV
  | n, _, [], v => if v.cells = some n then some v else none
  | _, .p (.agg sz fs), .fld i o :: π, v => if (sz.take i).sum = o then (fs[i]?).bind fun d => (sz[i]?).bind fun m => (AV.set m (.p d) π v).map fun a =>
      (match a with | .p d' => .p (.agg sz (fs.set i d')) | a => .agg sz ((fs.map .p).set i a)) else none
  | _, .agg sz fs, .fld i o :: π, v => if (sz.take i).sum = o then (fs[i]?).bind fun d => (sz[i]?).bind fun m => (AV.set m d π v).map fun a => .agg sz (fs.set i a) else none
  | _, .p (.iarr k n l), .idx i e :: [], v => match v with
    | .p (.int k' m) => if e = 1 ∧ k = k' ∧ i < l.length then some (.p (.iarr k n (l.set i m))) else none
    | _ => none
  | _, .p (.arr e n xs), .idx i e' :: π, v => if e = e' then (xs[i]?).bind fun d => (AV.set e (.p d) π v).bind fun a =>
      (match a with | .p d' => some (.p (.arr e n (xs.set i d'))) | _ => none) else none
  | _, .agg sz fs, .idx i e :: π, v => if (sz.take i).sum = i * e then (fs[i]?).bind fun d => (sz[i]?).bind fun m => (AV.set m d π v).map fun a => .agg sz (fs.set i a) else none
  | _, _, _ :: _, _ => none

def Obj.get : Obj → List Stp → Option AV
  | .var t _, π => t.get π
  | .row e xs _, .idx i e' :: π => if e = e' then (xs[i]?).bind fun d => AV.get (.p d) π else none
  | .mrow e xs, .idx i e' :: π => if e = e' then (xs[i]?).bind fun d => AV.get d π else none
  | _, _ => none

def Obj.set : Obj → List Stp → AV → Option Obj
  | .var t false, π, v => (t.cells).bind fun n => (AV.set n t π v).map fun a => .var a false
  | .row e xs false, .idx i e' :: π, v => if e = e' then (xs[i]?).bind fun d => (AV.set e (.p d) π v).bind fun a =>
      (match a with | .p d' => some (.row e (xs.set i d') false) | _ => none) else none
  | .mrow e xs, .idx i e' :: π, v => if e = e' then (xs[i]?).bind fun d => (AV.set e d π v).map fun a => .mrow e (xs.set i a) else none
  | _, _, _ => none

/-- The elements of an array, from lo on, so many. -/
def AV.elems (e lo len : Nat) : AV → Option (List PD)
  | .p (.iarr k n l) => if e = 1 ∧ lo + len ≤ n then some (((l.drop lo).take len).map (PD.int k)) else none
  | .p (.arr e' n xs) => if e = e' ∧ lo + len ≤ n then some ((xs.drop lo).take len) else none
  | _ => none

def Heap.elems (H : Heap) (b : Nat) (π : List Stp) (e lo len : Nat) : Option (List PD) :=
  match H[b]?, π with
  | some (.row e' xs _), [] => if e = e' ∧ lo + len ≤ xs.length then some ((xs.drop lo).take len) else none
  | some (.var t _), π => (t.get π).bind (AV.elems e lo len)
  | _, _ => none

mutual
/-- The data that a value is now. -/
def freeze (H : Heap) : AV → Option PD
  | .p d => some d
  | .agg sz fs => (freezes H fs).map (PD.agg sz)
  | .own b lo => match H[b]? with
    | some (.row e xs _) => some (.sl e (xs.drop lo))
    | _ => none
  | .win b π e lo len _ _ => (H.elems b π e lo len).map (PD.sl e)
  | .nils e => some (.sl e [])
  | .clo fn [] [] => some (.fn fn)
  | _ => none
def freezes (H : Heap) : List AV → Option (List PD)
  | [] => some []
  | f :: fs => (freeze H f).bind fun d => (freezes H fs).map (d :: ·)
end

mutual
/-- The objects that a frozen value leans on. -/
def AV.leans : AV → List Nat
  | .agg _ fs => AV.leanss fs
  | .own b _ => [b]
  | .win b _ _ _ _ _ _ => [b]
  | _ => []
def AV.leanss : List AV → List Nat
  | [] => []
  | f :: fs => f.leans ++ AV.leanss fs
end

def Obj.shut : Obj → Obj
  | .var t _ => .var t true
  | .row e xs _ => .row e xs true
  | o => o

def Heap.sealAt (H : Heap) (b : Nat) : Heap := match H[b]? with
  | some o => H.set b o.shut
  | none => H
def Heap.shut (H : Heap) (bs : List Nat) : Heap := bs.foldl Heap.sealAt H

mutual
def AV.ren (ρ : Nat → Option Nat) : AV → AV
  | .agg sz fs => .agg sz (AV.rens ρ fs)
  | .ref b π => match ρ b with | some c => .ref c π | none => .unk
  | .own b lo => match ρ b with | some c => .own c lo | none => .unk
  | .win b π e lo len cap ex => match ρ b with | some c => .win c π e lo len cap ex | none => .unk
  | .map b => match ρ b with | some c => .map c | none => .unk
  | .yld b => match ρ b with | some c => .yld c | none => .unk
  | .clo fn first cap => .clo fn (AV.rens ρ first) (AV.rens ρ cap)
  | .iface t v => .iface t (AV.ren ρ v)
  | .tup vs => .tup (AV.rens ρ vs)
  | v => v
def AV.rens (ρ : Nat → Option Nat) : List AV → List AV
  | [] => []
  | f :: fs => AV.ren ρ f :: AV.rens ρ fs
end

def Obj.ren (ρ : Nat → Option Nat) : Obj → Obj
  | .var t s => .var (t.ren ρ) s
  | .mrow e xs => .mrow e (AV.rens ρ xs)
  | .loop st pend fn tmps ps assign body ann => .loop st pend fn (AV.rens ρ tmps) ps assign body ann
  | o => o

mutual
def AV.ids : AV → List Nat
  | .agg _ fs => AV.idss fs
  | .ref b _ | .own b _ | .win b _ _ _ _ _ _ | .map b | .yld b => [b]
  | .clo _ first cap => AV.idss first ++ AV.idss cap
  | .iface _ v => AV.ids v
  | .tup vs => AV.idss vs
  | _ => []
def AV.idss : List AV → List Nat
  | [] => []
  | f :: fs => AV.ids f ++ AV.idss fs
end

def Obj.ids : Obj → List Nat
  | .var t _ => t.ids
  | .mrow _ xs => AV.idss xs
  | .loop _ _ _ tmps .. => AV.idss tmps
  | _ => []

/-- The objects from 'base' on that are reached. -/
def reach (H : Heap) (base : Nat) : Nat → List Nat → List Nat → List Nat
  | 0, _, seen => seen
  | _ + 1, [], seen => seen
  | k + 1, b :: todo, seen => if b < base then reach H base k todo seen else if seen.contains b then reach H base k todo seen else reach H base k ((H.getD b .dead).ids ++ todo) (seen ++ [b])

def renOf (base : Nat) (seen : List Nat) (b : Nat) : Option Nat := if b < base then some b else (seen.idxOf? b).map (base + ·)

def Heap.keep (H : Heap) (base : Nat) (seen : List Nat) : Heap :=
  (H.take base).map (Obj.ren (renOf base seen)) ++ seen.map fun b => (H.getD b .dead).ren (renOf base seen)

def gc (base : Nat) (roots : List AV) (H : Heap) : List AV × Heap :=
  if H.length ≤ base then (roots, H) else
  let seen := reach H base 1000 ((H.take base).flatMap Obj.ids ++ AV.idss roots) []
  (AV.rens (renOf base seen) roots, H.keep base seen)

def shiftBy (n : Nat) (b : Nat) : Option Nat := some (n + b)

def AV.flat : AV → Bool
  | .p d => d.flat
  | .tup vs => vs.all fun | .p d => d.flat | _ => false
  | _ => false

/-! ### Data of a type -/

def Env.has (E : Env) : Nat → Nat → PD → Bool
  | 0, _, _ => false
  | n + 1, t, d => match E.ty t, d with
    | some ⟨.int k, _, _, _⟩, .int k' _ => k == k'
    | some ⟨.bool, _, _, _⟩, .bool _ => true
    | some ⟨.str, _, _, _⟩, .str _ => true
    | some ⟨.struct fs, c, _, _⟩, .agg sz ds => c == sz.sum && fs.length == ds.length && sz.length == ds.length && goS n fs sz 0 ds
    | some ⟨.array m e, c, _, _⟩, .iarr k m' _ => c == m' && m == m' && (match E.ty e with | some ⟨.int k', _, _, _⟩ => k == k' | _ => false)
    | some ⟨.slice e, _, _, _⟩, .sl e' _ => match E.ty e with | some ty => ty.cells == e' | none => false
    | _, _ => false
where goS (n : Nat) : List (Nat × Nat) → List Nat → Nat → List PD → Bool
  | (o, t) :: fs, s :: sz, at_, d :: ds => o == at_ && E.has n t d && goS n fs sz (at_ + s) ds
  | _, _, _, _ => true

/-- Are two data equal? -/
def PD.eqv : PD → PD → Option Bool
  | .int _ a, .int _ b => some (a == b)
  | .bool a, .bool b => some (a == b)
  | .str a, .str b => some (a == b)
  | .iarr _ _ a, .iarr _ _ b => some (a == b)
  | .agg _ fs, .agg _ gs => eqvs fs gs
  | _, _ => none
where eqvs : List PD → List PD → Option Bool
  | [], [] => some true
  | f :: fs, g :: gs => (PD.eqv f g).bind fun b => (eqvs fs gs).map fun c => b && c
  | _, _ => none

/-! ### Operations -/

def bitsOp (op : BinOp) (k : IntKind) (x y : Int) : Option Int :=
  let a := BitVec.ofInt k.bits x
  let b := BitVec.ofInt k.bits y
  match op with
  | .and => some (k.wrap (a &&& b).toNat)
  | .or => some (k.wrap (a ||| b).toNat)
  | .xor => some (k.wrap (a ^^^ b).toNat)
  | .andNot => some (k.wrap (a &&& ~~~b).toNat)
  | _ => none

def binI (op : BinOp) (k : IntKind) (a : Int) (k' : IntKind) (b : Int) : Option AV :=
  match op with
  | .shl => if b < 0 then none else some (.p (.int k (k.wrap (a * 2 ^ (min b.toNat k.bits)))))
  | .shr => if b < 0 then none else some (.p (.int k (a.fdiv (2 ^ (min b.toNat k.bits)))))
  | op => if k = k' then (match op with
    | .add => some (.p (.int k (k.wrap (a + b))))
    | .sub => some (.p (.int k (k.wrap (a - b))))
    | .mul => some (.p (.int k (k.wrap (a * b))))
    | .quo => if b = 0 then none else some (.p (.int k (k.wrap (a.tdiv b))))
    | .rem => if b = 0 then none else some (.p (.int k (a.tmod b)))
    | .eql => some (.p (.bool (a == b)))
    | .neq => some (.p (.bool (a != b)))
    | .lss => some (.p (.bool (decide (a < b))))
    | .leq => some (.p (.bool (decide (a ≤ b))))
    | .gtr => some (.p (.bool (decide (a > b))))
    | .geq => some (.p (.bool (decide (a ≥ b))))
    | op => (bitsOp op k a b).map fun n => .p (.int k n)) else none

def Env.binA (E : Env) (op : BinOp) (t : Nat) (x y : AV) : Option AV :=
  match x, y with
  | .p (.int k a), .p (.int k' b) => binI op k a k' b
  | .p (.str a), .p (.str b) => match op with
    | .add => if a.size + b.size ≤ 2 ^ 62 then some (.p (.str (a ++ b))) else none
    | .eql => some (.p (.bool (a.toList == b.toList)))
    | .neq => some (.p (.bool (!(a.toList == b.toList))))
    | .lss => some (.p (.bool (Go.Op.bytesLess a.toList b.toList)))
    | .gtr => some (.p (.bool (!(Go.Op.bytesLess a.toList b.toList || a.toList == b.toList))))
    | _ => none
  | .p a, .p b => match op with
    | .eql => if E.has 10 t a && E.has 10 t b then (PD.eqv a b).map fun c => .p (.bool c) else none
    | .neq => if E.has 10 t a && E.has 10 t b then (PD.eqv a b).map fun c => .p (.bool (!c)) else none
    | _ => none
  | _, _ => none

def unA (op : UnOp) (x : AV) : Option AV :=
  match op, x with
  | .not, .p (.bool b) => some (.p (.bool (!b)))
  | .neg, .p (.int k n) => some (.p (.int k (k.wrap (0 - n))))
  | .xor, .p (.int k n) => (bitsOp .xor k (if k.signed then -1 else k.max) n).map fun m => .p (.int k m)
  | _, _ => none

def Env.convA (E : Env) (_src dst : Nat) (x : AV) : Option AV :=
  match E.ty dst, x with
  | some ⟨.int k, _, _, _⟩, .p (.int _ n) => some (.p (.int k (k.wrap n)))
  | some ⟨.str, _, _, _⟩, .p (.str s) => some (.p (.str s))
  | _, _ => none

/-- A string's bytes as a slice. -/
def strPD (s : ByteArray) : List PD := s.data.toList.map fun c => PD.int .u8 c.toNat
def Env.bytesA (E : Env) (src dst : Nat) (x : AV) : Option (List PD) := match E.ty src, E.ty dst, x with
  | some ⟨.str, _, _, _⟩, some ⟨.slice e, _, _, _⟩, .p (.str s) => (match E.ty e with
    | some ⟨.int .u8, 1, _, _⟩ => some (strPD s)
    | _ => none)
  | _, _, _ => none

def inB (i : Int) (n : Nat) : Bool := decide (0 ≤ i) && decide (i < n)

def lenA (H : Heap) : AV → Option Nat
  | .p (.sl _ xs) => some xs.length
  | .p (.str s) => some s.size
  | .own b lo => (H[b]?).bind fun o => (o.rowLen).bind fun x => if lo ≤ x.2 then some (x.2 - lo) else none
  | .win b _ _ _ len _ _ => (H[b]?).bind fun o => if o.alive = true then some len else none
  | .nils _ => some 0
  | .map b => match H[b]? with | some (.map _ _ es) => some es.length | _ => none
  | .nilm => some 0
  | _ => none

/-- Is that a value of a type that has a length? -/
def Env.lenOk (E : Env) (t : Nat) (x : AV) : Bool := match E.ty t, x with
  | some ⟨.str, _, _, _⟩, .p (.str _) => true
  | some ⟨.slice _, _, _, _⟩, .p (.sl _ _) => true
  | some ⟨.slice _, _, _, _⟩, .own _ _ => true
  | some ⟨.slice _, _, _, _⟩, .win .. => true
  | some ⟨.slice _, _, _, _⟩, .nils _ => true
  | some ⟨.map _ _, _, _, _⟩, .map _ => true
  | some ⟨.map _ _, _, _, _⟩, .nilm => true
  | _, _ => false

/-- A slice held against nil. -/
def Env.nilCmpA (E : Env) (H : Heap) (op : BinOp) (t : Nat) (x : AV) : Option AV := match E.ty t with
  | some ⟨.slice _, _, _, _⟩ => if E.lenOk t x then (lenA H x).bind fun n => (match op with
      | .eql => some (if n = 0 then .anyb else .p (.bool false))
      | .neq => some (if n = 0 then .anyb else .p (.bool true))
      | _ => none) else none
  | _ => none

def isNilC : Operand → Bool
  | .const (.slice none 0 0) => true
  | _ => false

/-- The address of an element. 'e': the element's cells. -/
def idxA (H : Heap) (e : Nat) (x : AV) (i : Int) : Option AV :=
  match x with
  | .p (.sl e' xs) => if e = e' ∧ 0 ≤ i then (xs[i.toNat]?).map .pp else none
  | .own b lo => (H[b]?).bind fun o => (o.rowLen).bind fun x => if x.1 = e ∧ inB i (x.2 - lo) = true ∧ lo ≤ x.2 then some (.ref b [.idx (lo + i.toNat) e]) else none
  | .win b π e' lo len _ _ => (H[b]?).bind fun o => if e = e' ∧ inB i len = true ∧ o.alive = true then some (.ref b (π ++ [.idx (lo + i.toNat) e])) else none
  | _ => none

def intA : AV → Option Int
  | .p (.int _ n) => some n
  | _ => none

def optInt : Option AV → Option (Option Int)
  | none => some none
  | some (.p (.int _ n)) => some (some n)
  | _ => none

/-- The bounds of a slice expression over 'len' elements and room for 'cap'. -/
def boundsA (len cap : Nat) (lo hi mx : Option Int) : Option (Nat × Nat × Nat) :=
  let m := mx.getD cap
  let h := hi.getD len
  let l := lo.getD 0
  if (hi.isSome || mx.isNone) = true ∧ 0 ≤ l ∧ l ≤ h ∧ h ≤ m ∧ m ≤ cap then some (l.toNat, h.toNat, m.toNat) else none

def Env.sliceA (E : Env) (H : Heap) (t : Nat) (x : AV) (lo hi mx : Option Int) : Option AV :=
  match E.ty t, x with
  | some ⟨.str, _, _, _⟩, .p (.str s) => match mx with
    | some _ => none
    | none => (boundsA s.size s.size lo hi none).map fun r => .p (.str (s.extract r.1 r.2.1))
  | some ⟨.slice e, _, _, _⟩, x => (E.ty e).bind fun et => match x with
    | .p (.sl e' xs) =>
      if hi = some 0 ∧ mx = some 0 ∧ (lo = none ∨ lo = some 0) then some (.nils et.cells)
      else if et.cells = e' ∧ mx = none then (boundsA xs.length xs.length lo hi none).map fun r => .p (.sl e' ((xs.take r.2.1).drop r.1)) else none
    | .nils e' => if et.cells = e' then (boundsA 0 0 lo hi mx).map fun _ => .nils e' else none
    | .own b l0 => (H[b]?).bind fun o => (o.rowLen).bind fun n =>
      if hi = some 0 ∧ mx = some 0 ∧ (lo = none ∨ lo = some 0) then some (.nils et.cells)
      else if n.1 = et.cells ∧ l0 ≤ n.2 ∧ mx = none then match hi with
        | none => (boundsA (n.2 - l0) (n.2 - l0) lo none none).map fun r => .own b (l0 + r.1)
        | some h => (boundsA (n.2 - l0) (n.2 - l0) lo (some h) none).map fun r => .win b [] n.1 (l0 + r.1) (r.2.1 - r.1) (n.2 - l0 - r.1) false
      else none
    | .win b π e' l0 len cap ex => (H[b]?).bind fun o => if et.cells = e' ∧ mx = none ∧ o.alive = true then (boundsA len cap lo hi none).map fun r => .win b π e' (l0 + r.1) (r.2.1 - r.1) (cap - r.1) ex else none
    | _ => none
  | some ⟨.array n e, _, _, _⟩, .ref b π => (E.ty e).bind fun et => (boundsA n n lo hi mx).map fun r => .win b π et.cells r.1 (r.2.1 - r.1) (r.2.2 - r.1) true
  | some ⟨.array n e, _, _, _⟩, .pp d => (E.ty e).bind fun et => match mx with
    | none => (boundsA n n lo hi none).bind fun r => (AV.elems et.cells r.1 (r.2.1 - r.1) (.p d)).map fun xs => .p (.sl et.cells xs)
    | some _ => none
  | _, _ => none

def Env.fieldAddrA (E : Env) (t : Nat) (x : AV) (i : Nat) : Option AV :=
  match E.ty t with
  | some ⟨.struct fs, _, _, _⟩ => (fs[i]?).bind fun f => (E.ty f.2).bind fun ft => if ft.cells = 0 then none else match x with
    | .ref b π => some (.ref b (π ++ [.fld i f.1]))
    | .pp (.agg sz ds) => if (sz.take i).sum = f.1 then (ds[i]?).map .pp else none
    | _ => none
  | _ => none

/-- What is read of a place of that type. -/
def Ty.fits (t : Ty) (v : AV) : Bool := v.cells == some t.cells && v.isAgg == t.agg

def Env.loadA (E : Env) (H : Heap) (t : Nat) (x : AV) : Option AV :=
  (E.ty t).bind fun ty => match x with
    | .ref b π => (H[b]?).bind fun o => (o.get π).bind fun v => if ty.fits v then some v else none
    | .pp d => if ty.fits (.p d) then some (.p d) else none
    | _ => none

def Env.storeA (E : Env) (H : Heap) (t : Nat) (x v : AV) : Option Heap :=
  (E.ty t).bind fun ty => match x with
    | .ref b π => (H[b]?).bind fun o => if v.cells = some ty.cells then (o.set π v).map fun o' => H.set b o' else none
    | _ => none

def Env.fieldA (E : Env) (t : Nat) (x : AV) (i : Nat) : Option AV :=
  match E.ty t with
  | some ⟨.struct fs, _, _, _⟩ => (fs[i]?).bind fun f => (E.ty f.2).bind fun ft => (x.get [.fld i f.1]).bind fun v => if ft.fits v then some v else none
  | _ => none

def Env.indexAddrA (E : Env) (H : Heap) (t : Nat) (x : AV) (i : Int) : Option AV :=
  match E.ty t with
  | some ⟨.slice e, _, _, _⟩ => (E.ty e).bind fun et => idxA H et.cells x i
  | some ⟨.array n e, _, _, _⟩ => (E.ty e).bind fun et => if inB i n = true then (match x with
    | .ref b π => some (.ref b (π ++ [.idx i.toNat et.cells]))
    | .pp d => (AV.get (.p d) [.idx i.toNat et.cells]).bind fun v => (match v with | .p d' => some (.pp d') | _ => none)
    | _ => none) else none
  | _ => none

def Env.indexA (E : Env) (t : Nat) (x : AV) (i : Int) : Option AV :=
  match E.ty t with
  | some ⟨.array n e, _, _, _⟩ => (E.ty e).bind fun et => if inB i n = true then (x.get [.idx i.toNat et.cells]).bind fun v => if et.fits v then some v else none else none
  | some ⟨.str, _, _, _⟩ => match x with
    | .p (.str s) => if 0 ≤ i then (s.data[i.toNat]?).map fun c => .p (.int .u8 c.toNat) else none
    | _ => none
  | _ => none

def Env.stpOf (E : Env) (k : TyK) (i : Nat) (v : AV) : Option (Stp × Nat) :=
  match k with
  | .struct fs => (fs[i]?).bind fun f => (E.ty f.2).bind fun ft => if v.cells = some ft.cells then some (.fld i f.1, ft.cells) else none
  | .array _ e => (E.ty e).bind fun et => if v.cells = some et.cells then some (.idx i et.cells, et.cells) else none
  | _ => none

/-- The fields of a composite literal, laid into the zero value. -/
def Env.buildA (E : Env) (t : Nat) (parts : List (Nat × AV)) : Option AV :=
  (E.ty t).bind fun ty => if ty.agg && (match ty.k with | .array _ e => (E.ty e).isSome | _ => true) then parts.foldl (fun acc x => acc.bind fun a => (E.stpOf ty.k x.1 x.2).bind fun s => AV.set ty.cells a [s.1] x.2) (some ty.zero) else none

def MapFind (k : PD) : List (PD × PD) → Option (Option PD)
  | [] => some none
  | (k', v) :: r => (PD.eqv k k').bind fun b => if b then some (some v) else MapFind k r

/-- What a lookup hands back. -/
def lookRes (ok : Bool) (r : Option PD) (z : AV) : AV :=
  if ok then .tup [(match r with | some d => .p d | none => z), .p (.bool r.isSome)] else (match r with | some d => .p d | none => z)

def Env.lookupA (E : Env) (H : Heap) (t : Nat) (x k : AV) (ok : Bool) : Option AV :=
  match E.ty t, k with
  | some ⟨.map kt vt, _, _, _⟩, .p k => if E.has 10 kt k && (PD.eqv k k).isSome then (E.ty vt).bind fun ty => (match x with
    | .nilm => some none
    | .map b => match H[b]? with
      | some (.map kt' vt' es) => if kt = kt' ∧ vt = vt' then MapFind k es else none
      | _ => none
    | _ => none : Option (Option PD)).bind fun r =>
      some (lookRes ok r ty.zero) else none
  | _, _ => none

def MapPut (k v : PD) : List (PD × PD) → Option (List (PD × PD))
  | [] => some [(k, v)]
  | (k', v') :: r => (PD.eqv k k').bind fun b => if b then some ((k, v) :: r) else (MapPut k v r).map ((k', v') :: ·)

def Env.mapPutA (E : Env) (H : Heap) (t : Nat) (x k v : AV) : Option Heap :=
  match E.ty t, x, k, v with
  | some ⟨.map kt vt, _, _, _⟩, .map b, .p k, .p v => match H[b]? with
    | some (.map kt' vt' es) => if kt = kt' ∧ vt = vt' ∧ E.has 10 kt k = true ∧ (PD.eqv k k).isSome = true ∧ E.has 10 vt v = true then (MapPut k v es).map fun es' => H.set b (.map kt vt es') else none
    | _ => none
  | _, _, _, _ => none

def AV.storable : AV → Bool
  | .tup _ => false
  | .unk => false
  | _ => true

/-- A call's arguments. -/
def Env.args (E : Env) (ρ : Operand → AV) (args : Array Operand) (ats : Array Nat) : Option (List AV) :=
  if args.size = ats.size then some ((args.toList.zip ats.toList).map fun x => E.fixNil x.2 (ρ x.1)) else none

/-- The operations that only compute, read and make memory: their value, and the new objects. -/
def Env.calm (E : Env) (C : Sem') (tmps : List AV) (H : Heap) (o : Oper) : Option (AV × List Obj) :=
  let ρ := E.opnd tmps
  let v (x : Option AV) : Option (AV × List Obj) := x.map fun a => (a, [])
  match o.op with
  | .move x | .assign x => some (E.fixNil o.type (ρ x), [])
  | .pick c a b => match ρ c with
    | .p (.bool t) => some (if t then ρ a else ρ b, [])
    | _ => none
  | .alloc elem => (E.ty elem).map fun ty => (.ref H.length [], [.var ty.zero false])
  | .box _ x => if (ρ x).storable then some (.ref H.length [], [.var (ρ x) false]) else none
  | .build t parts => v (E.buildA t (parts.toList.map fun x => (x.1, ρ x.2)))
  | .buildSlice t len parts => (E.elem t).bind fun et => if len * et.cells ≤ 16777216 ∧ parts.toList.map (·.1) = List.range len then
      let l := parts.toList.map fun x => ρ x.2
      (match allP l with
      | some ds => if ds.all fun d => d.cells == et.cells then some (.own H.length 0, [.row et.cells ds false]) else none
      | none => if l.all fun d => d.cells == some et.cells then some (.own H.length 0, [.mrow et.cells l]) else none) else none
  | .load t x => v (E.loadA H t (ρ x))
  | .nilCheck x => match ρ x with
    | .ref b π => some (.ref b π, [])
    | .pp d => some (.pp d, [])
    | .clo (.func f) a b => some (.clo (.func f) a b, [])
    | .p (.fn (.func f)) => some (.p (.fn (.func f)), [])
    | _ => none
  | .binOp op t x y _ => if isNilC y then v (E.nilCmpA H op t (ρ x)) else v (E.binA op t (ρ x) (ρ y))
  | .unOp op _ x => v (unA op (ρ x))
  | .convert src dst x => (match E.bytesA src dst (ρ x) with
    | some ds => some (.own H.length 0, [.row 1 ds false])
    | none => if (E.ty src).isSome then v (E.convA src dst (ρ x)) else none)
  | .makeFunc fn first captured => match fn with
    | .func f => some (.clo (.func f) (first.toList.map ρ) (captured.toList.map ρ), [])
    | _ => none
  | .makeMap t r => if (match r with | none => true | some x => (intA (ρ x)).isSome) then (match E.ty t with
    | some ⟨.map kt vt, _, _, _⟩ => some (.map H.length, [.map kt vt []])
    | _ => none) else none
  | .makeSlice t l c => (E.elem t).bind fun et => match ρ l, ρ c, freeze H et.zero with
    | .p (.int _ n), .p (.int _ m), some z => if 0 ≤ n ∧ n ≤ m ∧ m * et.bytes ≤ 2 ^ 47 ∧ m < 2 ^ 47 then
        some (.win H.length [] et.cells 0 n.toNat m.toNat true, [.row et.cells (List.replicate m.toNat z) false]) else none
    | _, _, _ => none
  | .slice t x lo hi mx => (optInt (lo.map ρ)).bind fun lo => (optInt (hi.map ρ)).bind fun hi => (optInt (mx.map ρ)).bind fun mx => v (E.sliceA H t (ρ x) lo hi mx)
  | .fieldAddr s x f => v (E.fieldAddrA s (ρ x) f)
  | .field t x f => v (E.fieldA t (ρ x) f)
  | .indexAddr t x ix => (intA (ρ ix)).bind fun i => v (E.indexAddrA H t (ρ x) i)
  | .index t x ix => (intA (ρ ix)).bind fun i => v (E.indexA t (ρ x) i)
  | .lookup t x ix ok => v (E.lookupA H t (ρ x) (ρ ix) ok)
  | .makeInterface t x => match E.ty t with
    | some ⟨.iface, _, _, _⟩ => none
    | some _ => some (.iface t (ρ x), [])
    | none => none
  | .extract t ix => match ρ t with
    | .tup vs => v (vs[ix]?)
    | _ => none
  | .call { callee := .builtin b, args, argTypes } => match b, args.toList, argTypes.toList with
    | .len, [x], [t] => if E.lenOk t (ρ x) then (lenA H (ρ x)).map fun (n : Nat) => (AV.p (.int .i64 (Int.ofNat n)), ([] : List Obj)) else none
    | _, _, _ => none
  | .call { callee := .value g, args, argTypes } => (E.args ρ args argTypes).bind fun as =>
    (match ρ g with
      | .p (.fn (.func f)) => if E.raw f then none else (freezes H as).bind fun ds => (C (.f f) (ds.map .p) []).bind fun r => match r.1 with
        | .ret x => if x.flat then some (x, []) else if (AV.leanss as).isEmpty then some (x.ren (shiftBy H.length), r.2.map (Obj.ren (shiftBy H.length))) else none
        | .panic _ => none
      | _ => none)
  | _ => none

/-- What is appended. -/
def Env.appArg (E : Env) (H : Heap) (et : Ty) (xt : Nat) (x : AV) : Option (List PD) := match x, E.ty xt with
    | .p (.str b), some ⟨.str, _, _, _⟩ => if et.cells = 1 then some (b.data.toList.map fun c => PD.int .u8 c.toNat) else none
    | x, some ⟨.slice _, _, _, _⟩ => (match freeze H x with
      | some (.sl e ds) => if e = et.cells then some ds else none
      | _ => none)
    | .p (.int _ n), some ⟨.int _, _, _, _⟩ => (freeze H et.zero).bind fun z => if 0 ≤ n ∧ n * et.bytes ≤ 2 ^ 47 ∧ n < 2 ^ 47 then some (List.replicate n.toNat z) else none
    | _, _ => none

/-- append. -/
def Env.appendA (E : Env) (H : Heap) (st xt : Nat) (s x : AV) : Option (AV × Heap) :=
  (E.elem st).bind fun et => (E.appArg H et xt x).bind fun ds => match s with
  | .nils e => if e = et.cells ∧ ds.length * et.bytes ≤ 2 ^ 46 ∧ ds.length ≤ 2 ^ 46 then some (.own H.length 0, H ++ [.row et.cells ds false]) else none
  | .own b lo => match H[b]? with
    | some (.row e xs s) => if e = et.cells ∧ lo ≤ xs.length ∧ (xs.length - lo + ds.length) * et.bytes ≤ 2 ^ 46 ∧ xs.length - lo + ds.length ≤ 2 ^ 46 then
        some (.own H.length 0, H.set b .dead ++ [.row e (xs.drop lo ++ ds) s]) else none
    | _ => none
  | .win b π e lo len cap true => if e = et.cells ∧ cap < len + ds.length ∧ (len + ds.length) * et.bytes ≤ 2 ^ 46 ∧ len + ds.length ≤ 2 ^ 46 then
      (H.elems b π e lo len).map fun xs => (.own H.length 0, H ++ [.row e (xs ++ ds) false]) else none
  | _ => none

def allInts (k : IntKind) : List PD → Option (List Int)
  | [] => some []
  | .int k' n :: r => if k = k' then (allInts k r).map (n :: ·) else none
  | _ :: _ => none

/-- Elements written over others, from lo on. -/
def splice {α : Type} (l : List α) (lo : Nat) (ds : List α) : List α := l.take lo ++ ds ++ l.drop (lo + ds.length)

def AV.spliceA (e lo : Nat) (ds : List PD) : AV → Option AV
  | .p (.iarr k n l) => if e = 1 ∧ lo + ds.length ≤ l.length then (allInts k ds).map fun ns => .p (.iarr k n (splice l lo ns)) else none
  | _ => none

/-- copy: the destination's object anew. -/
def Env.copyA (E : Env) (H : Heap) (dt xt : Nat) (d x : AV) : Option (Nat × Heap) :=
  (E.elem dt).bind fun et => ((match x, E.ty xt with
    | x, some ⟨.slice _, _, _, _⟩ => (match freeze H x with
      | some (.sl e ds) => if e = et.cells then some ds else none
      | _ => none)
    | _, _ => none) : Option (List PD)).bind fun ds => match d with
  | .win b π e lo len _ _ => if e = et.cells then
      (match H[b]?, π with
      | some (.row e' xs false), [] => if e = e' ∧ lo + len ≤ xs.length ∧ (ds.take len).all (fun d => d.cells == e) then some (.row e (splice xs lo (ds.take len)) false) else none
      | some (.var t false), π => (t.get π).bind fun a => (AV.spliceA e lo (ds.take len) a).bind fun a' => (t.cells).bind fun n => (a'.cells).bind fun _ => (AV.set n t π a').map fun t' => Obj.var t' false
      | _, _ => none : Option Obj).map fun o => ((ds.take len).length, H.set b o) else none
  | _ => none

/-- A row of values becomes a row of data. -/
def settleO (H : Heap) (b : Nat) : Option Obj → Heap
  | some (.mrow e xs) => match freezes H xs with
    | some ds => (H.shut (AV.leanss xs)).set b (.row e ds false)
    | none => H
  | _ => H
def settle (H : Heap) : AV → Heap
  | .own b _ => settleO H b H[b]?
  | _ => H
def settles (H : Heap) (l : List AV) : Heap := l.foldl settle H

/-- What an operation does. -/
def Env.run0 (E : Env) (C : Sem') (tmps : List AV) (H : Heap) (o : Oper) : Option (Res × Heap) :=
  let ρ := E.opnd tmps
  match o.op with
  | .store t a x => (E.storeA H t (ρ a) (E.fixNil t (ρ x))).map fun H' => (.ret .unk, H')
  | .mapUpdate t m k x => (E.mapPutA H t (ρ m) (ρ k) (ρ x)).map fun H' => (.ret .unk, H')
  | .panic _ => none
  | .call { callee := .builtin .append, args, argTypes } => match args.toList, argTypes.toList with
    | [s, x], [st, xt] => (E.appendA H st xt (E.fixNil st (ρ s)) (E.fixNil xt (ρ x))).map fun r => (.ret r.1, r.2)
    | _, _ => none
  | .call { callee := .builtin .cap, args, argTypes } => match args.toList, argTypes.toList with
    | [x], [t] => (match E.ty t, E.fixNil t (ρ x) with
      | some ⟨.slice _, _, _, _⟩, .nils _ => some (.ret (.p (.int .i64 0)), H)
      | _, _ => none)
    | _, _ => none
  | .call { callee := .builtin .copy, args, argTypes } => match args.toList, argTypes.toList with
    | [s, x], [st, xt] => (E.copyA H st xt (ρ s) (ρ x)).map fun r => (.ret (.p (.int .i64 r.1)), r.2)
    | _, _ => none
  | .call { callee := .value g, args, argTypes } => (E.args ρ args argTypes).bind fun as =>
    (match ρ g with
      | .p (.fn (.func f)) => if E.raw f then C (.f f) as H else match freezes H as with
        | some ds => (C (.f f) (ds.map .p) []).bind fun r => match r.1 with
          | .ret x => if x.flat then some (.ret x, H)
              else some (.ret (x.ren (shiftBy H.length)), (H.shut (AV.leanss as)) ++ r.2.map (Obj.ren (shiftBy H.length)))
          | .panic x => some (.panic (x.ren (shiftBy H.length)), (H.shut (AV.leanss as)) ++ r.2.map (Obj.ren (shiftBy H.length)))
        | none => C (.f f) as H
      | .clo (.func f) first cap => C (.f f) (first ++ as ++ cap) H
      | .yld l => match H[l]? with
        | some (.loop ..) => C (.y l) as H
        | _ => none
      | _ => none)
  | _ => (E.calm C tmps H o).map fun r => (.ret r.1, H ++ r.2)

/-- The operands that are settled first. -/
def settleOps (o : Oper) : List Operand := match o.op with
  | .call { callee := .builtin .append, args, .. } => args.toList
  | .call { callee := .value _, args, .. } => args.toList
  | _ => []

def Env.run (E : Env) (C : Sem') (tmps : List AV) (H : Heap) (o : Oper) : Option (Res × Heap) :=
  E.run0 C tmps (settles H ((settleOps o).map (E.opnd tmps))) o

/-! ### Code -/

inductive Ex where
  | normal
  | exit (id : Nat)
  | ret
  | panic (v : AV)
  deriving Inhabited

structure St where
  tmps : List AV
  heap : Heap

def St.put (s : St) (dst : Option Tmp) (v : AV) (H : Heap) : St :=
  ⟨match dst with | some d => s.tmps.set d v | none => s.tmps, H⟩

/-- Is the operation wanted? -/
def wantedA (ops : Array Oper) (tmps : List AV) (o : Oper) : Option Bool :=
  match o.guard with
  | none => some true
  | some (j, want) => match (ops[j]?).bind (·.dst) with
    | some t => match tmps.getD t .unk with
      | .p (.bool b) => some (b == want)
      | .tup [] => some false
      | _ => none
    | none => none

def Env.step (E : Env) (C : Sem') (ops : Array Oper) (s : St) (o : Oper) : Option (Res × Heap) :=
  (wantedA ops s.tmps o).bind fun b => if b then E.run C s.tmps s.heap o else some (.ret (.tup []), s.heap)

def Env.ops {R : Type} (E : Env) (C : Sem') (ops : Array Oper) : List Oper → St → (Ex → St → Option R) → Option R
  | [], s, k => k .normal s
  | o :: rest, s, k => (E.step C ops s o).bind fun r => match r.1 with
    | .ret v => E.ops C ops rest (s.put o.dst v r.2) k
    | .panic v => k (.panic v) ⟨s.tmps, r.2⟩

/-- In a region that draws its order: how many operations at the head only compute, read and make memory. -/
def calmKind (o : Oper) : Bool := match o.op with
  | .store .. | .mapUpdate .. | .panic _ | .go _ | .defer _ | .send .. | .recv .. | .select .. | .entryStore .. | .insert .. | .mapEntry .. | .ready _ | .waits _ | .range .. | .next .. | .entry _ => false
  | .call { callee := .builtin .len, .. } => true
  | .call { callee := .value _, .. } => true
  | .call _ => false
  | _ => true

def calmHead (ops : List Oper) : Nat := (ops.takeWhile calmKind).length

/-- The temporaries that an operation looks at. -/
def looksA (ops : Array Oper) (o : Oper) : List Tmp :=
  (o.op.operands.toList.filterMap fun | .tmp t => some t | _ => none) ++
  (match o.guard with
   | some (g, _) => ((ops[g]?).bind (·.dst)).toList
   | none => [])

/-- Neither looks at what the other writes. -/
def apartA (ops : Array Oper) (x y : Oper) : Bool :=
  (match x.dst with
   | some d => !(looksA ops y).contains d && y.dst != some d
   | none => true) &&
  (match y.dst with
   | some d => !(looksA ops x).contains d
   | none => true)

/-- An operation that a store behind it may overtake, where the order leaves that open. -/
def lateKind (o : Oper) : Bool := o.guard.isNone && o.dst.isSome && (match o.op with
  | .fieldAddr .. | .load .. | .extract .. | .move _ | .assign _ => true
  | _ => false)

/-- Where a plain store stores. -/
def stAddr (o : Oper) : Option Tmp := if o.guard.isNone && o.dst.isNone then (match o.op with
  | .store _ (.tmp t) _ => some t
  | _ => none) else none

/-- No other operation writes what it writes; none behind it writes what it looks at. -/
def lateSole (ops : Array Oper) (oi : Oper) (i : Nat) : Bool :=
  (List.range ops.size).all fun j => match ops[j]? with
    | some oj => (j == i || oj.dst != oi.dst) && (decide (j < i) || (match oj.dst with | some d => !(looksA ops oi).contains d | none => true))
    | none => true

/-- The temporary is written by no operation from m on. -/
def unset (ops : Array Oper) (m : Nat) (t : Tmp) : Bool :=
  (List.range ops.size).all fun j => decide (j < m) || (match ops[j]? with | some o => o.dst != some t | none => true)

/-- The store may overtake the operation of the head. -/
def overtakes (ops : Array Oper) (m i j : Nat) (oi oj : Oper) : Bool :=
  decide (i < m) && decide (m ≤ j) && lateKind oi && lateSole ops oi i && (match stAddr oj with | some t => unset ops m t | none => false)

/-- Of two operations the earlier stands before the later; or they are apart, both in the calm head; or a store may overtake. -/
def drawOk (ops : Array Oper) (m : Nat) : Bool :=
  let b := Go.Region.before ops
  decide (m ≤ ops.size) && (List.range ops.size).all fun j => match ops[j]? with
    | some oj => (oj.after.all fun e => !Go.Region.binds .any e || decide (e.on < j)) &&
      (List.range j).all fun i => (b.getD j 0).testBit i || (match ops[i]? with | some oi => apartA ops oi oj && (decide (j < m) || overtakes ops m i j oi oj) | none => false)
    | none => true

def loadAddr (o : Oper) : Option Operand := match o.op with
  | .load _ a => some a
  | _ => none
/-- The addresses that are loaded from by what may be overtaken, and those that are stored to by what may overtake. -/
def lateA (ops : Array Oper) (m : Nat) : List Operand × List Operand :=
  let b := Go.Region.before ops
  ((List.range m).filterMap fun i => if (List.range ops.size).any fun j => decide (m ≤ j) && !(b.getD j 0).testBit i then (ops[i]?).bind loadAddr else none,
   (List.range ops.size).filterMap fun j => if decide (m ≤ j) && (List.range m).any fun i => !(b.getD j 0).testBit i then ((ops[j]?).bind stAddr).map Operand.tmp else none)

def farR (b : Nat) : AV → Bool
  | .ref b' _ => b != b'
  | _ => false
def farV (l : List AV) : AV → Bool
  | .ref b _ => l.all (farR b)
  | .pp _ => true
  | _ => false
/-- No load from where is stored. -/
def Env.farA (E : Env) (tmps : List AV) (las sas : List Operand) : Bool := (las.map (E.opnd tmps)).all (farV (sas.map (E.opnd tmps)))

def headAt (ops : Array Oper) : Ann → Nat
  | .l [m] [] _ => m
  | _ => calmHead ops.toList

/-- Only calm ones. -/
def Env.stepC (E : Env) (C : Sem') (ops : Array Oper) (s : St) (o : Oper) : Option (Res × Heap) :=
  (wantedA ops s.tmps o).bind fun b => if b then (E.calm C s.tmps s.heap o).map fun r => (.ret r.1, s.heap ++ r.2) else some (.ret (.tup []), s.heap)

def Env.opsC {R : Type} (E : Env) (C : Sem') (ops : Array Oper) : List Oper → St → (St → Option R) → Option R
  | [], s, k => k s
  | o :: rest, s, k => (E.stepC C ops s o).bind fun r => match r.1 with
    | .ret v => E.opsC C ops rest (s.put o.dst v r.2) k
    | .panic _ => none

def Env.region {R : Type} (E : Env) (C : Sem') (ops : Array Oper) (draw : Bool) (an : Ann) (s : St) (k : Ex → St → Option R) : Option R :=
  if draw then
    if drawOk ops (headAt ops an) then
      E.opsC C ops (ops.toList.take (headAt ops an)) s fun s' => E.ops C ops (ops.toList.drop (headAt ops an)) s' fun e s'' =>
        if E.farA s''.tmps (lateA ops (headAt ops an)).1 (lateA ops (headAt ops an)).2 then k e s'' else none
    else none
  else E.ops C ops ops.toList s k

/-! ### Loops -/

def iter {S R : Type} (step : S → Option (S ⊕ R)) : Nat → S → Option R
  | 0, _ => none
  | n + 1, s => match step s with
    | none => none
    | some (.inl s') => iter step n s'
    | some (.inr r) => some r

open Classical in
noncomputable def loopD {S R : Type} (step : S → Option (S ⊕ R)) (s : S) : Option R :=
  if h : ∃ r, ∃ n, iter step n s = some r then some h.choose else none

structure Pk where
  vs : List AV
  heap : Heap

def pack (base : Nat) (live : List Nat) (s : St) : Pk :=
  let r := gc base (live.map fun t => s.tmps.getD t .unk) s.heap
  ⟨r.1, r.2⟩

/-- With what is handed on when the code is left. -/
def packE (base : Nat) (live : List Nat) (e : Ex) (s : St) : Ex × Pk := match e with
  | .panic v => let r := gc base (v :: live.map fun t => s.tmps.getD t .unk) s.heap; (.panic (r.1.getD 0 .unk), ⟨r.1.drop 1, r.2⟩)
  | e => (e, pack base live s)

def unpack (n : Nat) (live : List Nat) (x : Pk) : St :=
  ⟨(live.zip x.vs).foldl (fun l y => l.set y.1 y.2) (List.replicate n .unk), x.heap⟩

mutual
/-- At a loop's head a nil slice becomes an empty row of its own. -/
def AV.own0 : AV → Nat → AV × List Obj
  | .nils e, n => (.own n 0, [.row e [] false])
  | .agg sz fs, n => let r := AV.own0s fs n; (.agg sz r.1, r.2)
  | v, _ => (v, [])
def AV.own0s : List AV → Nat → List AV × List Obj
  | [], _ => ([], [])
  | f :: fs, n => let r := AV.own0 f n; let q := AV.own0s fs (n + r.2.length); (r.1 :: q.1, r.2 ++ q.2)
end

/-- The same for the variables that lie in the heap. -/
def ownHeap : List Obj → Nat → List Obj × List Obj
  | [], _ => ([], [])
  | .var t s :: r, n => let x := AV.own0 t n; let q := ownHeap r (n + x.2.length); (.var x.1 s :: q.1, x.2 ++ q.2)
  | o :: r, n => let q := ownHeap r n; (o :: q.1, q.2)

def enter (x : Pk) : Pk :=
  let r := AV.own0s x.vs x.heap.length
  let q := ownHeap x.heap (x.heap.length + r.2.length)
  ⟨r.1, q.1 ++ r.2 ++ q.2⟩

/-- The same, swept once more: the objects stand in the order in which they are reached. -/
def enterN (base : Nat) (x : Pk) : Pk :=
  let y := enter x
  let r := gc base y.vs y.heap
  ⟨r.1, r.2⟩

def jumpOf : Ex → Option (Option Jump)
  | .normal => some none
  | .exit id => some (some (.exit id))
  | .ret => some (some .ret)
  | .panic _ => none

def exOf : Option Jump → Ex
  | none => .normal
  | some .ret => .ret
  | some (.exit id) => .exit id

/-- No range over a function within? -/
def noRange : Code → Bool
  | .seq a b => noRange a && noRange b
  | .cond _ a b => noRange a && noRange b
  | .block _ a => noRange a
  | .loop a => noRange a
  | .rangeFunc .. => false
  | _ => true

open Classical in
/-- Both ways come to the same. -/
noncomputable def bothW {R : Type} (x y : Option R) : Option R := if x = y then x else none

/-- 'n': the frame's slots; 'base': the heap's size at the frame's beginning. -/
noncomputable def Env.code (E : Env) (C : Sem') (fn n base : Nat) : Code → Ann → {R : Type} → St → (Ex → St → Option R) → Option R
  | .skip, _, _, s, k => k .normal s
  | .label _, _, _, s, k => k .normal s
  | .region _ ops draw, an, _, s, k => E.region C ops draw an s k
  | .seq a b, .s x y, _, s, k => E.code C fn n base a x s fun e s' => match e with
    | .normal => E.code C fn n base b y s' k
    | e => k e s'
  | .seq a b, .j out x y, _, s, k => (E.code C fn n base a x s fun e s' => some (packE base out e s')).bind fun r => match r.1 with
    | .normal => E.code C fn n base b y (unpack n out r.2) k
    | e => k e (unpack n out r.2)
  | .seq a b, _, _, s, k => E.code C fn n base a .o s fun e s' => match e with
    | .normal => E.code C fn n base b .o s' k
    | e => k e s'
  | .cond c a b, an, _, s, k => match E.opnd s.tmps c with
    | .p (.bool t) => if t then E.code C fn n base a (match an with | .s x _ => x | _ => .o) s k else E.code C fn n base b (match an with | .s _ y => y | _ => .o) s k
    | .anyb => bothW (E.code C fn n base a (match an with | .s x _ => x | _ => .o) s k) (E.code C fn n base b (match an with | .s _ y => y | _ => .o) s k)
    | _ => none
  | .block id a, an, _, s, k => E.code C fn n base a (match an with | .i x => x | _ => .o) s fun e s' => match e with
    | .exit id' => if id' = id then k .normal s' else k (.exit id') s'
    | e => k e s'
  | .loop a, .l live out x, _, s, k => (loopD (fun (q : Pk) => E.code C fn n base a x (unpack n live q) fun e s' => match e with
      | .normal => some (Sum.inl (pack base live s'))
      | e => some (Sum.inr (packE base out e s'))) (enterN base (pack base live s))).bind fun r => k r.1 (unpack n out r.2)
  | .exit id, _, _, s, k => k (.exit id) s
  | .ret, _, _, s, k => k .ret s
  | .rangeFunc f ps assign body, an, _, s, k => if s.tmps.length ≠ n then none else match E.opnd s.tmps f with
    | .clo (.func g) first cap => (C (.f g) (first ++ [.yld s.heap.length] ++ cap) (s.heap ++ [.loop 0 none fn s.tmps ps assign body an])).bind fun r => match r.1, r.2[s.heap.length]? with
      | .ret _, some (.loop st pend _ _ _ _ _ _) => if st = 1 then none else k (exOf pend) ⟨s.tmps, r.2.set s.heap.length .dead⟩
      | _, _ => none
    | _ => none
  | _, _, _, _, _ => none

/-- A function's results. -/
def Env.result (E : Env) (s : St) : List Go.ResultVar → Option (List AV)
  | [] => some []
  | .tmp t :: r => (E.result s r).map (s.tmps.getD t .unk :: ·)
  | .cell a t :: r => (E.loadA s.heap t (s.tmps.getD a .unk)).bind fun v => (E.result s r).map (v :: ·)

def tupA : List AV → AV
  | [v] => v
  | vs => .tup vs

def setParams (tmps : List AV) (ps : List Tmp) (args : List AV) : List AV :=
  (ps.zip args).foldl (fun l x => l.set x.1 x.2) tmps

/-- The window of a row is handed back as a row, if the row is the function's own. -/
def rewinO (H : Heap) (b e lo len cap : Nat) : Option Obj → AV × Heap
  | some (.row e' xs false) => if e' = e ∧ lo + len ≤ xs.length then (.own H.length 0, H.set b .dead ++ [.row e ((xs.drop lo).take len) false]) else (.win b [] e lo len cap false, H)
  | _ => (.win b [] e lo len cap false, H)
/-- A nil slice that is handed back becomes an empty row. -/
def AV.rewin (base : Nat) (H : Heap) : AV → AV × Heap
  | .win b [] e lo len cap false => if base ≤ b then rewinO H b e lo len cap H[b]? else (.win b [] e lo len cap false, H)
  | .nils e => (.own H.length 0, H ++ [.row e [] false])
  | v => (v, H)
def rewins (base : Nat) : List AV → Heap → List AV × Heap
  | [], H => ([], H)
  | v :: vs, H => let r := AV.rewin base H v; let q := rewins base vs r.2; (r.1 :: q.1, q.2)

/-- What a function hands back. -/
def Env.fin (E : Env) (f base : Nat) (vs : List AV) (H : Heap) : Option (Res × Heap) :=
  if E.frz f then (freezes H vs).map fun ds => let r := gc base [tupA (ds.map .p)] (H.shut (AV.leanss vs)); (.ret (r.1.getD 0 .unk), r.2)
  else let p := rewins base vs H; let q := (if base = 0 then enter ⟨p.1, p.2⟩ else ⟨p.1, p.2⟩); let r := gc base [tupA q.vs] q.heap; some (.ret (r.1.getD 0 .unk), r.2)

noncomputable def Env.fnEv (E : Env) (C : Sem') : Sem'
  | .f f, args, H => match E.fn f with
    | some (fn, an) => match fn.body with
      | some c => E.code C f (max fn.ntmps args.length) H.length c an ⟨args ++ List.replicate (fn.ntmps - args.length) .unk, H⟩ fun e s => match e with
        | .normal | .ret => (E.result s fn.results.toList).bind fun vs => E.fin f H.length vs s.heap
        | .panic v => let r := gc H.length [v] s.heap; some (.panic (r.1.getD 0 .unk), r.2)
        | _ => none
      | none => none
    | none => none
  | .y l, args, H => match H[l]? with
    | some (.loop _ _ fn tmps ps assign body an) => if args.length = ps.size ∧ (noRange assign && noRange body) = true then
        E.code C fn tmps.length H.length assign (match an with | .s x _ => x | _ => .o) ⟨setParams tmps ps.toList args, H⟩ fun e s => match e with
          | .normal => match s.heap[l]? with
            | some (.loop 0 pd fn' tmps' ps' assign' body' an') =>
              E.code C fn tmps.length H.length body (match an with | .s _ y => y | _ => .o) ⟨s.tmps, s.heap.set l (.loop 1 pd fn' tmps' ps' assign' body' an')⟩ fun e s => match jumpOf e with
                | some j => let r := gc H.length [] s.heap; (match r.2[l]? with
                  | some (.loop _ _ fn tmps ps assign body an) => some (.ret (.p (.bool (j.isNone))), r.2.set l (.loop (if j.isNone then 0 else 2) j fn tmps ps assign body an))
                  | _ => none)
                | none => none
            | _ => none
          | _ => none
      else none
    | _ => none

noncomputable def Env.call (E : Env) : Nat → Sem'
  | 0 => fun _ _ _ => none
  | n + 1 => E.fnEv (E.call n)

end Ev

/- Renaming and dropping objects changes nothing that is represented. -/
namespace Ev
open Go (Value Addr Fn IntKind World Sem Program)

structure RenOK (C : Cx) (ρ : Nat → Option Nat) (C' : Cx) : Prop where
  mem : ∀ b o v, C.M b o = some v → C'.M b o = some v
  same : C'.has = C.has
  at_ : ∀ b c, ρ b = some c → b < C.H.length → c < C'.H.length ∧ (∀ loc, C.ι b = some loc → C'.ι c = some loc) ∧ ∃ o o', C.H[b]? = some o ∧ C'.H[c]? = some o' ∧ o'.alive = o.alive ∧ o'.rowLen = o.rowLen

theorem AV.ren_cells (ρ : Nat → Option Nat) (v : AV) : (v.ren ρ).cells = none ∨ (v.ren ρ).cells = v.cells := by
  cases v with
  | ref b π => simp only [AV.ren]; cases ρ b <;> simp [AV.cells]
  | own b lo => simp only [AV.ren]; cases ρ b <;> simp [AV.cells]
  | win b => simp only [AV.ren]; cases ρ b <;> simp [AV.cells]
  | map b => simp only [AV.ren]; cases ρ b <;> simp [AV.cells]
  | yld b => simp only [AV.ren]; cases ρ b <;> simp [AV.cells]
  | _ => simp [AV.ren, AV.cells]

theorem RenOK.alive {C : Cx} {ρ : Nat → Option Nat} {C' : Cx} (h : RenOK C ρ C') {b c : Nat} (hr : ρ b = some c) (hb : b < C.H.length) (ha : C'.alive c) : C.alive b := by
  obtain ⟨_, _, o, o', h1, h2, h3, _⟩ := h.at_ b c hr hb
  obtain ⟨o'', h4, h5⟩ := ha
  rw [h2] at h4; cases h4
  exact ⟨o, h1, by rw [← h3]; exact h5⟩

mutual
theorem AR.ren {C : Cx} {ρ : Nat → Option Nat} {C' : Cx} (h : RenOK C ρ C') (val : Bool) : ∀ (av : AV) (cs : List Value), AR C val av cs → AR C' val (av.ren ρ) cs
  | .unk, cs, hp => by simpa [AV.ren, AR] using hp
  | .p d, cs, hp => by
    simp only [AV.ren, AR] at hp ⊢
    split
    · rename_i hc; simp only [hc, if_true] at hp
      obtain ⟨c, h1, h2⟩ := hp; exact ⟨c, h1, PRep.mono h.mem _ _ h2⟩
    · rename_i hc; simp only [hc] at hp; exact PRep.mono h.mem _ _ hp
  | .agg sz fs, cs, hp => by
    simp only [AV.ren, AR] at hp ⊢
    split
    · rename_i hc; simp only [hc, if_true] at hp
      obtain ⟨c, h1, h2⟩ := hp; exact ⟨c, h1, ARs.ren h sz fs _ h2⟩
    · rename_i hc; simp only [hc] at hp; exact ARs.ren h sz fs _ hp
  | .ref b π, cs, hp => by
    simp only [AV.ren]
    split
    · rename_i c hr
      simp only [AR] at hp ⊢
      obtain ⟨hp, x, hx, hx1, hx2⟩ := hp
      obtain ⟨h1, h2, _⟩ := h.at_ b c hr hp
      exact ⟨h1, x, hx, hx1, fun ha => let ⟨blk, off, cap, hi, hv⟩ := hx2 (h.alive hr hp ha); ⟨blk, off, cap, h2 _ hi, hv⟩⟩
    · simp only [AR] at hp ⊢
      obtain ⟨_, x, rfl, ⟨b0, o0, rfl⟩, _⟩ := hp
      right; simp [one]
  | .pp d, cs, hp => by
    simp only [AV.ren, AR] at hp ⊢
    obtain ⟨b, off, rcs, h1, h2, h3⟩ := hp
    exact ⟨b, off, rcs, h1, h2.mono h.mem, PRep.mono h.mem _ _ h3⟩
  | .own b lo, cs, hp => by
    simp only [AV.ren]
    split
    · rename_i c hr
      simp only [AR] at hp ⊢
      obtain ⟨hp, x, hx, hx1, hx2⟩ := hp
      obtain ⟨h1, h2, o, o', h3, h4, _, h6⟩ := h.at_ b c hr hp
      refine ⟨h1, x, hx, hx1, fun o2 e n ho hl => ?_⟩
      rw [h4] at ho; cases ho
      obtain ⟨loc, hi, hv⟩ := hx2 o e n h3 (by rw [← h6]; exact hl)
      exact ⟨loc, h2 _ hi, hv⟩
    · simp only [AR] at hp ⊢
      obtain ⟨_, x, rfl, hx1, _⟩ := hp
      right; simpa using hx1
  | .win b π e lo len cap ex, cs, hp => by
    simp only [AV.ren]
    split
    · rename_i c hr
      simp only [AR] at hp ⊢
      obtain ⟨hp, x, hx, hx1, hx2⟩ := hp
      obtain ⟨h1, h2, _⟩ := h.at_ b c hr hp
      exact ⟨h1, x, hx, hx1, fun ha => let ⟨loc, hi, hv⟩ := hx2 (h.alive hr hp ha); ⟨loc, h2 _ hi, hv⟩⟩
    · simp only [AR] at hp ⊢
      obtain ⟨_, x, rfl, hx1, _⟩ := hp
      right; simpa using hx1
  | .nils e, cs, hp => by simpa [AV.ren, AR] using hp
  | .nilp, cs, hp => by simpa [AV.ren, AR] using hp
  | .map b, cs, hp => by
    simp only [AV.ren]
    split
    · rename_i c hr
      simp only [AR] at hp ⊢
      obtain ⟨hp, x, hx, hx1, hx2⟩ := hp
      obtain ⟨h1, h2, _⟩ := h.at_ b c hr hp
      exact ⟨h1, x, hx, hx1, fun ha => let ⟨blk, off, cap, hi, hv⟩ := hx2 (h.alive hr hp ha); ⟨blk, off, cap, h2 _ hi, hv⟩⟩
    · simp only [AR] at hp ⊢
      obtain ⟨_, x, rfl, hx1, _⟩ := hp
      right; simpa using hx1
  | .nilm, cs, hp => by simpa [AV.ren, AR] using hp
  | .anyb, cs, hp => by simpa [AV.ren, AR] using hp
  | .clo fn first cap, cs, hp => by
    simp only [AV.ren, AR] at hp ⊢
    obtain ⟨vf, vc, h1, h2, h3⟩ := hp
    exact ⟨vf, vc, h1, AVs.ren h first vf h2, AVs.ren h cap vc h3⟩
  | .yld b, cs, hp => by
    simp only [AV.ren]
    split
    · rename_i c hr
      simp only [AR] at hp ⊢
      obtain ⟨hp, x, hx, hx1, hx2⟩ := hp
      obtain ⟨h1, h2, _⟩ := h.at_ b c hr hp
      exact ⟨h1, x, hx, hx1, fun ha => let ⟨blk, off, cap, hi, hv⟩ := hx2 (h.alive hr hp ha); ⟨blk, off, cap, h2 _ hi, hv⟩⟩
    · simp only [AR] at hp ⊢
      obtain ⟨_, x, rfl, hx1, _⟩ := hp
      right; simpa using hx1
  | .iface t v, cs, hp => by
    simp only [AV.ren, AR] at hp ⊢
    obtain ⟨x, h1, h2⟩ := hp
    exact ⟨x, h1, AR.ren h true v [x] h2⟩
  | .tup vs, cs, hp => by
    simp only [AV.ren, AR] at hp ⊢
    obtain ⟨h0, ws, h1, h2⟩ := hp
    exact ⟨h0, ws, h1, AVs.ren h vs ws h2⟩
theorem ARs.ren {C : Cx} {ρ : Nat → Option Nat} {C' : Cx} (h : RenOK C ρ C') : ∀ (sz : List Nat) (fs : List AV) (cs : List Value), ARs C sz fs cs → ARs C' sz (AV.rens ρ fs) cs
  | [], [], cs, hp => by simpa [AV.rens, ARs] using hp
  | n :: sz, f :: fs, cs, hp => by
    simp only [AV.rens, ARs] at hp ⊢
    obtain ⟨c1, c2, h1, h2, h3, h4, h5⟩ := hp
    exact ⟨c1, c2, h1, h2, (AV.ren_cells ρ f).elim .inl (fun e => by rw [e]; exact h3), AR.ren h false f c1 h4, ARs.ren h sz fs c2 h5⟩
  | [], _ :: _, cs, hp => by simp [ARs] at hp
  | _ :: _, [], cs, hp => by simp [ARs] at hp
theorem AVs.ren {C : Cx} {ρ : Nat → Option Nat} {C' : Cx} (h : RenOK C ρ C') : ∀ (fs : List AV) (vs : List Value), AVs C fs vs → AVs C' (AV.rens ρ fs) vs
  | [], vs, hp => by simpa [AV.rens, AVs] using hp
  | f :: fs, vs, hp => by
    simp only [AV.rens, AVs] at hp ⊢
    obtain ⟨v, r, h1, h2, h3⟩ := hp
    exact ⟨v, r, h1, AR.ren h true f [v] h2, AVs.ren h fs r h3⟩
end

theorem ARow.ren {C : Cx} {ρ : Nat → Option Nat} {C' : Cx} (h : RenOK C ρ C') (e : Nat) : ∀ (fs : List AV) (cs : List Value), ARow C e fs cs → ARow C' e (AV.rens ρ fs) cs
  | [], cs, hp => by simpa [AV.rens, ARow] using hp
  | f :: fs, cs, hp => by
    simp only [AV.rens, ARow] at hp ⊢
    obtain ⟨c1, c2, h1, h2, h3, h4, h5⟩ := hp
    exact ⟨c1, c2, h1, h2, (AV.ren_cells ρ f).elim .inl (fun e => by rw [e]; exact h3), AR.ren h false f c1 h4, ARow.ren h e fs c2 h5⟩

theorem AV.rens_length (ρ : Nat → Option Nat) : ∀ l : List AV, (AV.rens ρ l).length = l.length
  | [] => rfl
  | _ :: l => by simp [AV.rens, AV.rens_length ρ l]

theorem PVal.mono {M M' : Mem} (h : ∀ b o v, M b o = some v → M' b o = some v) {d : PD} {v : Value} (hp : PVal M d v) : PVal M' d v := by
  unfold PVal at *
  split
  · rename_i hc; simp only [hc, if_true] at hp
    obtain ⟨c, h1, h2⟩ := hp; exact ⟨c, h1, PRep.mono h _ _ h2⟩
  · rename_i hc; simp only [hc] at hp; exact PRep.mono h _ _ hp

theorem MapRep.mono {M M' : Mem} (h : ∀ b o v, M b o = some v → M' b o = some v) : ∀ {es : List (PD × PD)} {l : List Go.MapEntry}, MapRep M es l → MapRep M' es l
  | [], _, hp => by simpa [MapRep] using hp
  | (k, v) :: r, _, hp => by
    simp only [MapRep] at hp ⊢
    obtain ⟨e, es', h1, h2, h3, h4⟩ := hp
    exact ⟨e, es', h1, h2.mono h, h3.mono h, MapRep.mono h h4⟩

theorem ObjRep.ren {C : Cx} {ρ : Nat → Option Nat} {C' : Cx} {w : World} (h : RenOK C ρ C') {loc : Loc} {o : Obj} (ho : ObjRep C w loc o) : ObjRep C' w loc (o.ren ρ) := by
  cases o with
  | dead => cases loc <;> simp [ObjRep] at ho
  | var t s =>
    simp only [ObjRep, Obj.ren] at ho ⊢
    obtain ⟨blk, cs, E, fz, h1, h2, h3, h4⟩ := ho
    exact ⟨blk, cs, E, fz, h1, h2, h3, AR.ren h false t _ h4⟩
  | row e xs s =>
    cases loc with
    | nil => simpa [ObjRep, Obj.ren] using ho
    | «at» blk off cap =>
      simp only [ObjRep, Obj.ren] at ho ⊢
      obtain ⟨cs, E, fz, h1, h2, h3, h4, h5⟩ := ho
      exact ⟨cs, E, fz, h1, h2, h3, h4, PRow.mono h.mem e _ _ h5⟩
  | mrow e xs =>
    cases loc with
    | nil =>
      simp only [ObjRep, Obj.ren] at ho ⊢
      subst ho; rfl
    | «at» blk off cap =>
      simp only [ObjRep, Obj.ren] at ho ⊢
      obtain ⟨cs, E, fz, h1, h2, h3, h4, h5⟩ := ho
      exact ⟨cs, E, fz, h1, h2, by rw [AV.rens_length]; exact h3, h4, by rw [AV.rens_length]; exact ARow.ren h e _ _ h5⟩
  | map kt vt es =>
    simp only [ObjRep, Obj.ren] at ho ⊢
    obtain ⟨blk, a, c, h1, h2, h3, h4⟩ := ho
    exact ⟨blk, a, c, h1, h2, MapRep.mono h.mem h3, by rw [h.same]; exact h4⟩
  | loop st pend fn tmps ps assign body ann =>
    simp only [ObjRep, Obj.ren] at ho ⊢
    obtain ⟨blk, df, vs, pd, gn, h1, h2, h3, h4, h5⟩ := ho
    exact ⟨blk, df, vs, pd, gn, h1, h2, h3, by rw [AV.rens_length]; exact h4, AVs.ren h tmps _ h5⟩

/-- At a later state. -/
theorem ObjRep.ren_le {C C' : Cx} {w : World} (h : C.le C') {loc : Loc} {o : Obj} (ho : ObjRep C w loc o) : ObjRep C' w loc o := by
  cases o with
  | dead => cases loc <;> simp [ObjRep] at ho
  | var t s =>
    simp only [ObjRep] at ho ⊢
    obtain ⟨blk, cs, E, fz, h1, h2, h3, h4⟩ := ho
    exact ⟨blk, cs, E, fz, h1, h2, h3, AR.mono h false t _ h4⟩
  | row e xs s =>
    cases loc with
    | nil => simpa [ObjRep] using ho
    | «at» blk off cap =>
      simp only [ObjRep] at ho ⊢
      obtain ⟨cs, E, fz, h1, h2, h3, h4, h5⟩ := ho
      exact ⟨cs, E, fz, h1, h2, h3, h4, PRow.mono h.mem e _ _ h5⟩
  | mrow e xs =>
    cases loc with
    | nil => simpa [ObjRep] using ho
    | «at» blk off cap =>
      simp only [ObjRep] at ho ⊢
      obtain ⟨cs, E, fz, h1, h2, h3, h4, h5⟩ := ho
      exact ⟨cs, E, fz, h1, h2, h3, h4, ARow.mono h e _ _ h5⟩
  | map kt vt es =>
    simp only [ObjRep] at ho ⊢
    obtain ⟨blk, a, c, h1, h2, h3, h4⟩ := ho
    exact ⟨blk, a, c, h1, h2, MapRep.mono h.mem h3, by rw [h.same]; exact h4⟩
  | loop st pend fn tmps ps assign body ann =>
    simp only [ObjRep] at ho ⊢
    obtain ⟨blk, df, vs, pd, gn, h1, h2, h3, h4, h5⟩ := ho
    exact ⟨blk, df, vs, pd, gn, h1, h2, h3, h4, AVs.mono h tmps _ h5⟩

theorem Obj.ren_alive (ρ : Nat → Option Nat) (o : Obj) : (o.ren ρ).alive = o.alive := by cases o <;> rfl
theorem Obj.ren_rowLen (ρ : Nat → Option Nat) (o : Obj) : (o.ren ρ).rowLen = o.rowLen := by cases o <;> simp [Obj.ren, Obj.rowLen, AV.rens_length]
theorem Obj.ren_sealed (ρ : Nat → Option Nat) (o : Obj) : (o.ren ρ).sealed = o.sealed := by cases o <;> rfl

/-! ### Which objects are reached -/

theorem reach_ok (H : Heap) (base : Nat) : ∀ (k : Nat) (todo seen : List Nat), seen.Nodup → (∀ b ∈ seen, base ≤ b) →
    (reach H base k todo seen).Nodup ∧ ∀ b ∈ reach H base k todo seen, base ≤ b := by
  intro k
  induction k with
  | zero => intro todo seen h1 h2; exact ⟨h1, h2⟩
  | succ k ih =>
    intro todo seen h1 h2
    cases todo with
    | nil => exact ⟨h1, h2⟩
    | cons b todo =>
      simp only [reach]
      split
      · exact ih _ _ h1 h2
      · rename_i hb
        split
        · exact ih _ _ h1 h2
        · rename_i hc
          refine ih _ _ ?_ ?_
          · rw [List.nodup_append]
            refine ⟨h1, by simp, fun a ha c hcm => ?_⟩
            simp only [List.mem_singleton] at hcm
            subst hcm
            intro e; subst e
            exact hc (by simpa using ha)
          · intro c hcm
            rcases List.mem_append.1 hcm with hm | hm
            · exact h2 c hm
            · simp only [List.mem_singleton] at hm; omega

/-- Where the kept objects lie. -/
def keepι (ι : Nat → Option Loc) (base : Nat) (seen : List Nat) (c : Nat) : Option Loc :=
  if c < base then ι c else (seen[c - base]?).bind ι

theorem Heap.keep_get {H : Heap} {base : Nat} {seen : List Nat} (hb : base ≤ H.length) (c : Nat) :
    (H.keep base seen)[c]? = if c < base then (H[c]?).map (Obj.ren (renOf base seen)) else (seen[c - base]?).map fun b => (H.getD b .dead).ren (renOf base seen) := by
  unfold Heap.keep
  have hl : ((H.take base).map (Obj.ren (renOf base seen))).length = base := by simp [Nat.min_eq_left hb]
  rw [List.getElem?_append, hl]
  split
  · rename_i h; simp [h]
  · simp

theorem renOf_some {base : Nat} {seen : List Nat} {b c : Nat} (h : renOf base seen b = some c) : (b < base ∧ c = b) ∨ (base ≤ b ∧ base ≤ c ∧ seen[c - base]? = some b) := by
  unfold renOf at h
  split at h
  · rename_i hb; cases h; exact .inl ⟨hb, rfl⟩
  · rename_i hb
    cases hi : seen.idxOf? b with
    | none => simp [hi] at h
    | some i =>
      simp only [hi, Option.map_some, Option.some.injEq] at h
      have : seen[i]? = some b := by
        rw [List.idxOf?_eq_some_iff] at hi
        obtain ⟨h1, h2, _⟩ := hi
        rw [List.getElem?_eq_getElem h1, ← h2]
      right
      refine ⟨by omega, by omega, ?_⟩
      rw [← h]; simpa using this

theorem keep_renOK {C : Cx} {base : Nat} {seen : List Nat} (hb : base ≤ C.H.length) :
    RenOK C (renOf base seen) ⟨C.M, keepι C.ι base seen, C.H.keep base seen, C.has⟩ := by
  refine ⟨fun _ _ _ h => h, rfl, fun b c hr hlt => ?_⟩
  rcases renOf_some hr with ⟨h1, rfl⟩ | ⟨h1, h2, h3⟩
  · have hg : (C.H.keep base seen)[c]? = some ((C.H[c]).ren (renOf base seen)) := by
      rw [Heap.keep_get hb, if_pos h1, List.getElem?_eq_getElem hlt]; rfl
    refine ⟨(List.getElem?_eq_some_iff.1 hg).1, fun loc hl => by simpa [keepι, h1] using hl, C.H[c], _, by simp [hlt], hg, Obj.ren_alive _ _, Obj.ren_rowLen _ _⟩
  · have hg : (C.H.keep base seen)[c]? = some ((C.H[b]).ren (renOf base seen)) := by
      rw [Heap.keep_get hb, if_neg (by omega), h3]
      simp [List.getD_eq_getElem?_getD, List.getElem?_eq_getElem hlt]
    refine ⟨(List.getElem?_eq_some_iff.1 hg).1, fun loc hl => ?_, C.H[b], _, by simp [hlt], hg, Obj.ren_alive _ _, Obj.ren_rowLen _ _⟩
    simpa [keepι, h3, show ¬ c < base from by omega] using hl

theorem keepι_some {ι : Nat → Option Loc} {base : Nat} {seen : List Nat} {c : Nat} {loc : Loc} (h : keepι ι base seen c = some loc) :
    ∃ b, ι b = some loc ∧ ((c < base ∧ b = c) ∨ (base ≤ c ∧ seen[c - base]? = some b)) := by
  unfold keepι at h
  split at h
  · rename_i hc; exact ⟨c, h, .inl ⟨hc, rfl⟩⟩
  · rename_i hc
    cases hs : seen[c - base]? with
    | none => simp [hs] at h
    | some b => simp only [hs, Option.bind_some] at h; exact ⟨b, h, .inr ⟨by omega, rfl⟩⟩

theorem keep_obj {C : Cx} {base : Nat} {seen : List Nat} (hb : base ≤ C.H.length) {b c : Nat} {o : Obj} (ho : C.H[b]? = some o)
    (h : (c < base ∧ b = c) ∨ (base ≤ c ∧ seen[c - base]? = some b)) : (C.H.keep base seen)[c]? = some (o.ren (renOf base seen)) := by
  rw [Heap.keep_get hb]
  rcases h with ⟨h1, rfl⟩ | ⟨h1, h2⟩
  · rw [if_pos h1, ho]; rfl
  · rw [if_neg (by omega), h2]; simp [List.getD_eq_getElem?_getD, ho]

theorem Sim.keep {C : Cx} {w : World} (h : Sim C w) {base : Nat} {seen : List Nat} (hb : base ≤ C.H.length) (hn : seen.Nodup) (hs : ∀ b ∈ seen, base ≤ b) :
    Sim ⟨C.M, keepι C.ι base seen, C.H.keep base seen, C.has⟩ w := by
  have hr := keep_renOK (C := C) (seen := seen) hb
  refine ⟨h.agree, ?_, ?_, ?_, ?_, ?_⟩
  · intro c loc hc
    obtain ⟨b, hi, hcase⟩ := keepι_some hc
    obtain ⟨o, ho, hob⟩ := h.obj b loc hi
    exact ⟨o.ren (renOf base seen), keep_obj hb ho hcase, ObjRep.ren hr hob⟩
  · intro c c' blk off cap off' cap' h1 h2
    obtain ⟨b, hi, hcase⟩ := keepι_some h1
    obtain ⟨b', hi', hcase'⟩ := keepι_some h2
    have hbb := h.sep b b' blk off cap off' cap' hi hi'
    subst hbb
    rcases hcase with ⟨k1, rfl⟩ | ⟨k1, k2⟩
    · rcases hcase' with ⟨_, k4⟩ | ⟨k3, k4⟩
      · exact k4
      · have := hs b (List.mem_of_getElem? k4); omega
    · rcases hcase' with ⟨k3, k4⟩ | ⟨k3, k4⟩
      · subst k4
        have := hs b (List.mem_of_getElem? k2); omega
      · have := (List.getElem?_inj (List.getElem?_eq_some_iff.1 k2).1 hn).1 (k2.trans k4.symm)
        omega
  · intro c blk off cap ob h1 h2 h3 o
    obtain ⟨b, hi, hcase⟩ := keepι_some h1
    obtain ⟨o', ho, _⟩ := h.obj b _ hi
    have := keep_obj (C := C) hb ho hcase
    rw [this] at h2; cases h2
    rw [Obj.ren_sealed] at h3
    exact h.open_ b blk off cap o' hi ho h3 o
  · intro c blk off cap ob h1 h2 h3
    obtain ⟨b, hi, hcase⟩ := keepι_some h1
    obtain ⟨o', ho, _⟩ := h.obj b _ hi
    have := keep_obj (C := C) hb ho hcase
    rw [this] at h2; cases h2
    rw [Obj.ren_sealed] at h3
    rw [Obj.ren_rowLen]
    exact h.cover b blk off cap o' hi ho h3
  · intro c blk off cap e xs h1 h2 o v hv
    obtain ⟨b, hi, hcase⟩ := keepι_some h1
    obtain ⟨o', ho, _⟩ := h.obj b _ hi
    have := keep_obj (C := C) hb ho hcase
    rw [this] at h2
    cases o' with
    | row e' xs' s' =>
      simp only [Obj.ren, Option.some.injEq, Obj.row.injEq] at h2
      obtain ⟨h2, h3, h4⟩ := h2
      subst h2 h3 h4
      exact h.room b blk off cap _ _ hi ho o v hv
    | _ => simp [Obj.ren] at h2

/-- What lay before 'base' is as it was, to whoever refers to it. -/
theorem keep_stable {C : Cx} {base : Nat} {seen : List Nat} (hb : base ≤ C.H.length) (b : Nat) (hlt : b < base) :
    ∃ o o', C.H[b]? = some o ∧ (C.H.keep base seen)[b]? = some o' ∧ (o = o' ∨ o.like o' ∨ (o = .dead ∧ o' = .dead)) := by
  have hl : b < C.H.length := by omega
  refine ⟨C.H[b], (C.H[b]).ren (renOf base seen), by simp [hl], keep_obj hb (by simp [hl]) (.inl ⟨hlt, rfl⟩), ?_⟩
  cases C.H[b] <;> simp [Obj.ren, Obj.like, AV.rens_length]

theorem Obj.ren_like (ρ : Nat → Option Nat) (o : Obj) : o = o.ren ρ ∨ o.like (o.ren ρ) := by cases o <;> simp [Obj.ren, Obj.like, AV.rens_length]


/-! ### Renaming by nothing; two memories laid side by side -/

mutual
theorem AV.ren_self : ∀ v : AV, v.ren some = v
  | .unk | .p _ | .pp _ | .nils _ | .nilp | .nilm | .anyb => by simp [AV.ren]
  | .ref .. | .own .. | .win .. | .map _ | .yld _ => by simp [AV.ren]
  | .agg sz fs => by simp [AV.ren, AV.rens_self fs]
  | .clo fn a b => by simp [AV.ren, AV.rens_self a, AV.rens_self b]
  | .iface t v => by simp [AV.ren, AV.ren_self v]
  | .tup vs => by simp [AV.ren, AV.rens_self vs]
theorem AV.rens_self : ∀ l : List AV, AV.rens some l = l
  | [] => by simp [AV.rens]
  | f :: l => by simp [AV.rens, AV.ren_self f, AV.rens_self l]
end

theorem Obj.ren_self (o : Obj) : o.ren some = o := by cases o <;> simp [Obj.ren, AV.ren_self, AV.rens_self]

/-- Blocks that are as they were hold what they held. -/
theorem ObjRep.world {C : Cx} {w w' : World} {loc : Loc} {o : Obj} (ho : ObjRep C w loc o) (h : ∀ blk off cap, loc = .at blk off cap → w'.heap[blk]? = w.heap[blk]?) : ObjRep C w' loc o := by
  have un : ∀ blk, w'.heap[blk]? = w.heap[blk]? → unfrozen w blk → unfrozen w' blk := fun blk e hu C E fz hc => hu C E fz (by rw [← e]; exact hc)
  cases o with
  | dead => cases loc <;> simp [ObjRep] at ho
  | var t s =>
    simp only [ObjRep] at ho ⊢
    obtain ⟨blk, cs, E, fz, h1, h2, h3, h4⟩ := ho
    have e := h _ _ _ h1
    exact ⟨blk, cs, E, fz, h1, by rw [e]; exact h2, un _ e h3, h4⟩
  | row e xs s =>
    cases loc with
    | nil => simpa [ObjRep] using ho
    | «at» blk off cap =>
      simp only [ObjRep] at ho ⊢
      obtain ⟨cs, E, fz, h1, h2, h3, h4, h5⟩ := ho
      have e := h _ _ _ rfl
      exact ⟨cs, E, fz, by rw [e]; exact h1, un _ e h2, h3, h4, h5⟩
  | mrow e xs =>
    cases loc with
    | nil => simpa [ObjRep] using ho
    | «at» blk off cap =>
      simp only [ObjRep] at ho ⊢
      obtain ⟨cs, E, fz, h1, h2, h3, h4, h5⟩ := ho
      have e := h _ _ _ rfl
      exact ⟨cs, E, fz, by rw [e]; exact h1, un _ e h2, h3, h4, h5⟩
  | map kt vt es =>
    simp only [ObjRep] at ho ⊢
    obtain ⟨blk, a, c, h1, h2, h3, h4⟩ := ho
    exact ⟨blk, a, c, h1, by rw [h _ _ _ h1]; exact h2, h3, h4⟩
  | loop st pend fn tmps ps assign body ann =>
    simp only [ObjRep] at ho ⊢
    obtain ⟨blk, df, vs, pd, gn, h1, h2, h3, h4, h5⟩ := ho
    exact ⟨blk, df, vs, pd, gn, h1, by rw [h _ _ _ h1]; exact h2, h3, h4, h5⟩

theorem ObjRep.blk {C : Cx} {w : World} {blk off cap : Nat} {o : Obj} (ho : ObjRep C w (.at blk off cap) o) : blk < w.heap.size := by
  have lt : ∀ {x : Go.Obj}, w.heap[blk]? = some x → blk < w.heap.size := fun h => (Array.getElem?_eq_some_iff.1 h).1
  cases o with
  | dead => simp [ObjRep] at ho
  | var t s => simp only [ObjRep] at ho; obtain ⟨b, cs, E, fz, h1, h2, _⟩ := ho; cases h1; exact lt h2
  | row e xs s => simp only [ObjRep] at ho; obtain ⟨cs, E, fz, h1, _⟩ := ho; exact lt h1
  | mrow e xs => simp only [ObjRep] at ho; obtain ⟨cs, E, fz, h1, _⟩ := ho; exact lt h1
  | map kt vt es => simp only [ObjRep] at ho; obtain ⟨b, a, c, h1, h2, _⟩ := ho; cases h1; exact lt h2
  | loop => simp only [ObjRep] at ho; obtain ⟨b, df, vs, pd, gn, h1, h2, _⟩ := ho; cases h1; exact lt h2

/-- What lay before, and what has been made since, side by side. -/
theorem Sim.merge {D G E : Cx} {w w' : World} {ρ : Nat → Option Nat} (hD : Sim D w) (hG : Sim G w') (hEM : E.M = G.M) (rD : RenOK D some E) (rG : RenOK G ρ E)
    (hnew : ∀ b o v, G.M b o = some v → D.M b o = some v ∨ w.heap.size ≤ b) (hframe : ∀ blk, blk < w.heap.size → w'.heap[blk]? = w.heap[blk]?)
    (hloc : ∀ b loc, E.ι b = some loc → (D.ι b = some loc ∧ E.H[b]? = D.H[b]?) ∨
      ∃ c, G.ι c = some loc ∧ E.H[b]? = (G.H[c]?).map (Obj.ren ρ) ∧ (∀ blk off cap, loc = .at blk off cap → w.heap.size ≤ blk) ∧ ρ c = some b) : Sim E w' := by
  have dlt : ∀ {b blk off cap}, D.ι b = some (.at blk off cap) → blk < w.heap.size := fun h => let ⟨_, _, ho⟩ := hD.obj _ _ h; ho.blk
  refine ⟨by rw [hEM]; exact hG.agree, ?_, ?_, ?_, ?_, ?_⟩
  · intro b loc hb
    rcases hloc b loc hb with ⟨h1, h2⟩ | ⟨c, h1, h2, h3, _⟩
    · obtain ⟨o, ho, hr⟩ := hD.obj b loc h1
      refine ⟨o, by rw [h2]; exact ho, ?_⟩
      have := ObjRep.ren rD hr
      rw [Obj.ren_self] at this
      exact this.world fun blk off cap e => by subst e; exact hframe blk (dlt h1)
    · obtain ⟨o, ho, hr⟩ := hG.obj c loc h1
      exact ⟨o.ren ρ, by rw [h2, ho]; rfl, ObjRep.ren rG hr⟩
  · intro b b' blk off cap off' cap' h1 h2
    rcases hloc b _ h1 with ⟨k1, _⟩ | ⟨c, k1, k2, k3, k4⟩ <;> rcases hloc b' _ h2 with ⟨l1, _⟩ | ⟨c', l1, l2, l3, l4⟩
    · exact hD.sep b b' blk off cap off' cap' k1 l1
    · have := dlt k1; have := l3 _ _ _ rfl; omega
    · have := dlt l1; have := k3 _ _ _ rfl; omega
    · have := hG.sep c c' blk off cap off' cap' k1 l1
      subst this
      rw [k4] at l4; cases l4; rfl
  · intro b blk off cap ob h1 h2 h3 o
    rw [hEM]
    rcases hloc b _ h1 with ⟨k1, k2⟩ | ⟨c, k1, k2, _⟩
    · cases hv : G.M blk o with
      | none => rfl
      | some v =>
        rcases hnew _ _ _ hv with h | h
        · rw [hD.open_ b blk off cap ob k1 (by rw [← k2]; exact h2) h3 o] at h; cases h
        · have := dlt k1; omega
    · obtain ⟨o', ho', _⟩ := hG.obj c _ k1
      rw [k2, ho'] at h2
      simp only [Option.map_some, Option.some.injEq] at h2
      subst h2
      rw [Obj.ren_sealed] at h3
      exact hG.open_ c blk off cap o' k1 ho' h3 o
  · intro b blk off cap ob h1 h2 h3
    rw [hEM]
    rcases hloc b _ h1 with ⟨k1, k2⟩ | ⟨c, k1, k2, _⟩
    · obtain ⟨cs, X, fz, g1, g2⟩ := hD.cover b blk off cap ob k1 (by rw [← k2]; exact h2) h3
      refine ⟨cs, X, fz, by rw [hframe blk (dlt k1)]; exact g1, fun j hj hr => ?_⟩
      have := g2 j hj hr
      rw [Array.getElem?_eq_getElem hj] at this ⊢
      have h := rD.mem _ _ _ this
      rw [hEM] at h
      exact h
    · obtain ⟨o', ho', _⟩ := hG.obj c _ k1
      rw [k2, ho'] at h2
      simp only [Option.map_some, Option.some.injEq] at h2
      subst h2
      rw [Obj.ren_sealed] at h3
      rw [Obj.ren_rowLen]
      exact hG.cover c blk off cap o' k1 ho' h3
  · intro b blk off cap e xs h1 h2 o v hv
    rw [hEM] at hv
    rcases hloc b _ h1 with ⟨k1, k2⟩ | ⟨c, k1, k2, _⟩
    · rcases hnew _ _ _ hv with h | h
      · exact hD.room b blk off cap e xs k1 (by rw [← k2]; exact h2) o v h
      · have := dlt k1; omega
    · obtain ⟨o', ho', _⟩ := hG.obj c _ k1
      rw [k2, ho'] at h2
      simp only [Option.map_some, Option.some.injEq] at h2
      cases o' with
      | row e' xs' s' =>
        simp only [Obj.ren, Obj.row.injEq] at h2
        obtain ⟨h2, h3, h4⟩ := h2
        subst h2 h3 h4
        exact hG.room c blk off cap _ _ k1 ho' o v hv
      | _ => simp [Obj.ren] at h2

end Ev

/- Reading and writing a part of a represented value. -/
namespace Ev
open Go (Value Addr Fn IntKind World Sem Program)

/-! ### Splicing -/

theorem splice_get {α : Type} {l : List α} {lo : Nat} {ds : List α} (h : lo + ds.length ≤ l.length) (i : Nat) :
    (splice l lo ds)[i]? = if i < lo then l[i]? else if i < lo + ds.length then ds[i - lo]? else l[i]? := by
  unfold splice
  have h1 : (l.take lo).length = lo := by simp; omega
  rw [List.append_assoc, List.getElem?_append, h1]
  split
  · rename_i hi; simp [hi]
  · rename_i hi
    rw [List.getElem?_append]
    split
    · rename_i hj; rw [if_pos (by omega)]
    · rename_i hj
      rw [if_neg (by omega), List.getElem?_drop]
      congr 1; omega

theorem splice_length {α : Type} {l : List α} {lo : Nat} {ds : List α} (h : lo + ds.length ≤ l.length) : (splice l lo ds).length = l.length := by
  unfold splice; simp; omega

theorem splice_splice {α : Type} {l : List α} {o n o' : Nat} {vs : List α} (h : o + n ≤ l.length) (h' : o' + vs.length ≤ n) :
    splice l o (splice ((l.drop o).take n) o' vs) = splice l (o + o') vs := by
  have hl : ((l.drop o).take n).length = n := by simp; omega
  have hs : (splice ((l.drop o).take n) o' vs).length = n := by rw [splice_length (by omega), hl]
  apply List.ext_getElem?
  intro i
  rw [splice_get (l := l) (lo := o) (by omega), splice_get (l := l) (lo := o + o') (by omega)]
  by_cases h1 : i < o
  · rw [if_pos h1, if_pos (by omega)]
  · rw [if_neg h1, hs]
    by_cases h2 : i < o + n
    · rw [if_pos h2, splice_get (l := (l.drop o).take n) (lo := o') (ds := vs) (by omega)]
      have e : ((l.drop o).take n)[i - o]? = l[i]? := by
        rw [List.getElem?_take, if_pos (by omega), List.getElem?_drop]; congr 1; omega
      by_cases h3 : i - o < o'
      · rw [if_pos h3, if_pos (by omega), e]
      · rw [if_neg h3, if_neg (show ¬ i < o + o' by omega)]
        by_cases h4 : i - o < o' + vs.length
        · rw [if_pos h4, if_pos (show i < o + o' + vs.length by omega)]; congr 1; omega
        · rw [if_neg h4, if_neg (show ¬ i < o + o' + vs.length by omega), e]
    · rw [if_neg h2, if_neg (by omega), if_neg (by omega)]

theorem splice_part {α : Type} (l vs : List α) (off k n : Nat) (h : off + n ≤ l.length) (h' : k + vs.length ≤ n) : ((splice l (off + k) vs).drop off).take n = splice ((l.drop off).take n) k vs := by
  have hl : ((l.drop off).take n).length = n := by simp; omega
  apply List.ext_getElem?
  intro i
  rw [splice_get (l := (l.drop off).take n) (lo := k) (ds := vs) (by omega)]
  by_cases h1 : i < n
  · rw [List.getElem?_take, if_pos h1, List.getElem?_drop, splice_get (l := l) (lo := off + k) (ds := vs) (by omega), List.getElem?_take, if_pos h1, List.getElem?_drop]
    by_cases h2 : i < k
    · rw [if_pos (show off + i < off + k by omega), if_pos h2]
    · rw [if_neg (show ¬ off + i < off + k by omega), if_neg h2]
      by_cases h3 : i < k + vs.length
      · rw [if_pos (show off + i < off + k + vs.length by omega), if_pos h3]; congr 1; omega
      · rw [if_neg (show ¬ off + i < off + k + vs.length by omega), if_neg h3]
  · have e1 : ((splice l (off + k) vs).drop off).take n = ((splice l (off + k) vs).drop off).take n := rfl
    rw [List.getElem?_take, if_neg h1, if_neg (show ¬ i < k by omega), if_neg (show ¬ i < k + vs.length by omega), List.getElem?_take, if_neg h1]

theorem splice_zero {α : Type} (l vs : List α) (h : vs.length = l.length) : splice l 0 vs = vs := by
  unfold splice; simp; omega

theorem splice_cons {α : Type} (a b ds : List α) (k : Nat) : splice (a ++ b) (a.length + k) ds = a ++ splice b k ds := by
  unfold splice
  rw [take_len_add, Nat.add_assoc, drop_len_add]; simp

theorem splice_head {α : Type} (a b ds : List α) (h : ds.length = a.length) : splice (a ++ b) 0 ds = ds ++ b := by
  unfold splice; simp [h]

/-! ### Cells -/

mutual
theorem PRep.one {M : Mem} : ∀ (d : PD) (cs : List Value), PRep M d cs → ∀ c ∈ cs, one c = true
  | .int k n, cs, hp => by simp only [PRep] at hp; subst hp; simp [Ev.one]
  | .bool b, cs, hp => by simp only [PRep] at hp; subst hp; simp [Ev.one]
  | .str s, cs, hp => by simp only [PRep] at hp; subst hp; simp [Ev.one]
  | .agg sz fs, cs, hp => by simp only [PRep] at hp; exact PReps.one sz fs cs hp
  | .iarr k n l, cs, hp => by
    simp only [PRep] at hp
    intro c hc; rw [hp.2] at hc
    obtain ⟨x, _, rfl⟩ := List.mem_map.1 hc; rfl
  | .arr e n xs, cs, hp => by simp only [PRep] at hp; exact PRow.one e xs cs hp.2
  | .sl e xs, cs, hp => by simp only [PRep] at hp; obtain ⟨b, c, h, _⟩ := hp; subst h; simp [Ev.one]
  | .fn f, cs, hp => by simp only [PRep] at hp; subst hp; simp [Ev.one]
  | .nilf, cs, hp => by simp only [PRep] at hp; subst hp; simp [Ev.one]
  | .nili, cs, hp => by simp only [PRep] at hp; subst hp; simp [Ev.one]
theorem PReps.one {M : Mem} : ∀ (sz : List Nat) (fs : List PD) (cs : List Value), PReps M sz fs cs → ∀ c ∈ cs, one c = true
  | [], [], cs, hp => by simp only [PReps] at hp; subst hp; simp
  | n :: sz, f :: fs, cs, hp => by
    simp only [PReps] at hp
    obtain ⟨c1, c2, h1, h2, h3, h4, h5⟩ := hp
    intro c hc; rw [h1] at hc
    rcases List.mem_append.1 hc with h | h
    · exact PRep.one f c1 h4 c h
    · exact PReps.one sz fs c2 h5 c h
  | [], _ :: _, cs, hp => by simp [PReps] at hp
  | _ :: _, [], cs, hp => by simp [PReps] at hp
theorem PRow.one {M : Mem} (e : Nat) : ∀ (fs : List PD) (cs : List Value), PRow M e fs cs → ∀ c ∈ cs, one c = true
  | [], cs, hp => by simp only [PRow] at hp; subst hp; simp
  | f :: fs, cs, hp => by
    simp only [PRow] at hp
    obtain ⟨c1, c2, h1, h2, h3, h4, h5⟩ := hp
    intro c hc; rw [h1] at hc
    rcases List.mem_append.1 hc with h | h
    · exact PRep.one f c1 h4 c h
    · exact PRow.one e fs c2 h5 c h
end

theorem ARs.length {C : Cx} : ∀ {sz : List Nat} {fs : List AV} {cs : List Value}, ARs C sz fs cs → cs.length = sz.sum
  | [], [], cs, hp => by simp [ARs] at hp; simp [hp]
  | n :: sz, f :: fs, cs, hp => by
    simp only [ARs] at hp
    obtain ⟨c1, c2, h1, h2, h3, h4, h5⟩ := hp
    have := ARs.length h5
    subst h1
    simp [this, h2]
  | [], _ :: _, cs, hp => by simp [ARs] at hp
  | _ :: _, [], cs, hp => by simp [ARs] at hp

theorem AR.length {C : Cx} {av : AV} {cs : List Value} (h : AR C false av cs) {n : Nat} (hn : av.cells = some n) : cs.length = n := by
  cases av with
  | unk => simp [AV.cells] at hn
  | p d => simp only [AR, Bool.false_and, Bool.false_eq_true, if_false] at h; simp only [AV.cells, Option.some.injEq] at hn; rw [← hn]; exact h.length
  | agg sz fs => simp only [AR, Bool.false_eq_true, if_false] at h; simp only [AV.cells, Option.some.injEq] at hn; rw [← hn]; exact h.length
  | ref b π => simp only [AV.cells, Option.some.injEq] at hn; simp only [AR] at h; obtain ⟨_, x, rfl, _⟩ := h; simpa using hn
  | pp d => simp only [AV.cells, Option.some.injEq] at hn; simp only [AR] at h; obtain ⟨_, _, _, rfl, _⟩ := h; simpa using hn
  | own b lo => simp only [AV.cells, Option.some.injEq] at hn; simp only [AR] at h; obtain ⟨_, x, rfl, _⟩ := h; simpa using hn
  | win b => simp only [AV.cells, Option.some.injEq] at hn; simp only [AR] at h; obtain ⟨_, x, rfl, _⟩ := h; simpa using hn
  | nils e => simp only [AV.cells, Option.some.injEq] at hn; simp only [AR] at h; obtain ⟨x, rfl⟩ := h; simpa using hn
  | nilp => simp only [AV.cells, Option.some.injEq] at hn; simp only [AR] at h; subst h; simpa using hn
  | map b => simp only [AV.cells, Option.some.injEq] at hn; simp only [AR] at h; obtain ⟨_, x, rfl, _⟩ := h; simpa using hn
  | nilm => simp only [AV.cells, Option.some.injEq] at hn; simp only [AR] at h; subst h; simpa using hn
  | anyb => simp only [AV.cells, Option.some.injEq] at hn; simp only [AR] at h; obtain ⟨x, rfl⟩ := h; simpa using hn
  | clo fn a b => simp only [AV.cells, Option.some.injEq] at hn; simp only [AR] at h; obtain ⟨_, _, rfl, _⟩ := h; simpa using hn
  | yld b => simp only [AV.cells, Option.some.injEq] at hn; simp only [AR] at h; obtain ⟨_, x, rfl, _⟩ := h; simpa using hn
  | iface t v => simp only [AV.cells, Option.some.injEq] at hn; simp only [AR] at h; obtain ⟨x, rfl, _⟩ := h; simpa using hn
  | tup vs => simp [AV.cells] at hn

mutual
theorem AR.one {C : Cx} : ∀ (av : AV) (cs : List Value), AR C false av cs → ∀ c ∈ cs, one c = true
  | .unk, cs, h => by simp only [AR, Bool.false_eq_true, false_or] at h; exact h
  | .p d, cs, h => by simp only [AR, Bool.false_and, Bool.false_eq_true, if_false] at h; exact PRep.one d cs h
  | .agg sz fs, cs, h => by simp only [AR, Bool.false_eq_true, if_false] at h; exact ARs.one sz fs cs h
  | .ref b π, cs, h => by simp only [AR] at h; obtain ⟨_, x, rfl, ⟨_, _, rfl⟩, _⟩ := h; simp [Ev.one]
  | .pp d, cs, h => by simp only [AR] at h; obtain ⟨_, _, _, rfl, _⟩ := h; simp [Ev.one]
  | .own b lo, cs, h => by simp only [AR] at h; obtain ⟨_, x, rfl, h1, _⟩ := h; simpa using h1
  | .win b π e lo len cap ex, cs, h => by simp only [AR] at h; obtain ⟨_, x, rfl, h1, _⟩ := h; simpa using h1
  | .nils e, cs, h => by simp only [AR] at h; obtain ⟨x, rfl⟩ := h; simp [Ev.one]
  | .nilp, cs, h => by simp only [AR] at h; subst h; simp [Ev.one]
  | .map b, cs, h => by simp only [AR] at h; obtain ⟨_, x, rfl, h1, _⟩ := h; simpa using h1
  | .nilm, cs, h => by simp only [AR] at h; subst h; simp [Ev.one]
  | .anyb, cs, h => by simp only [AR] at h; obtain ⟨x, rfl⟩ := h; simp [Ev.one]
  | .clo fn a b, cs, h => by simp only [AR] at h; obtain ⟨_, _, rfl, _⟩ := h; simp [Ev.one]
  | .yld b, cs, h => by simp only [AR] at h; obtain ⟨_, x, rfl, h1, _⟩ := h; simpa using h1
  | .iface t v, cs, h => by simp only [AR] at h; obtain ⟨x, rfl, _⟩ := h; simp [Ev.one]
  | .tup vs, cs, h => by simp [AR] at h
theorem ARs.one {C : Cx} : ∀ (sz : List Nat) (fs : List AV) (cs : List Value), ARs C sz fs cs → ∀ c ∈ cs, one c = true
  | [], [], cs, hp => by simp only [ARs] at hp; subst hp; simp
  | n :: sz, f :: fs, cs, hp => by
    simp only [ARs] at hp
    obtain ⟨c1, c2, h1, h2, h3, h4, h5⟩ := hp
    intro c hc; rw [h1] at hc
    rcases List.mem_append.1 hc with h | h
    · exact AR.one f c1 h4 c h
    · exact ARs.one sz fs c2 h5 c h
  | [], _ :: _, cs, hp => by simp [ARs] at hp
  | _ :: _, [], cs, hp => by simp [ARs] at hp
end

theorem one_cells {v : Value} (h : one v = true) : v.cells = #[v] := by cases v <;> simp_all [one, Value.cells]

/-- A temporary's value, as cells. -/
theorem AVal.cells {C : Cx} {av : AV} {v : Value} (h : AVal C av v) (hs : av.storable = true) : AR C false av v.cells.toList := by
  cases av with
  | unk => simp [AV.storable] at hs
  | tup vs => simp [AV.storable] at hs
  | p d =>
    simp only [AVal, AR, Bool.true_and] at h
    simp only [AR, Bool.false_and, Bool.false_eq_true, if_false]
    split at h
    · obtain ⟨c, h1, h2⟩ := h
      simp only [List.cons.injEq, and_true] at h1; subst h1; exact h2
    · rw [one_cells (PRep.one d _ h v (by simp))]; exact h
  | agg sz fs =>
    simp only [AVal, AR, if_true] at h
    simp only [AR, Bool.false_eq_true, if_false]
    obtain ⟨c, h1, h2⟩ := h
    simp only [List.cons.injEq, and_true] at h1; subst h1; exact h2
  | ref b π => have h' := h; simp only [AVal, AR] at h; obtain ⟨_, x, hx, ⟨_, _, h1⟩, _⟩ := h; cases hx; subst h1; show AR C false _ [_]; simpa only [AVal, AR] using h'
  | own b π => have h' := h; simp only [AVal, AR] at h; obtain ⟨_, x, hx, h1, _⟩ := h; cases hx; rw [one_cells h1]; simpa [AVal, AR] using h'
  | win b => have h' := h; simp only [AVal, AR] at h; obtain ⟨_, x, hx, h1, _⟩ := h; cases hx; rw [one_cells h1]; simpa [AVal, AR] using h'
  | map b => have h' := h; simp only [AVal, AR] at h; obtain ⟨_, x, hx, h1, _⟩ := h; cases hx; rw [one_cells h1]; simpa [AVal, AR] using h'
  | yld b => have h' := h; simp only [AVal, AR] at h; obtain ⟨_, x, hx, h1, _⟩ := h; cases hx; rw [one_cells h1]; simpa [AVal, AR] using h'
  | pp d => have h' := h; simp only [AVal, AR] at h; obtain ⟨_, _, _, hx, _⟩ := h; cases hx; exact h'
  | nils e => have h' := h; simp only [AVal, AR] at h; obtain ⟨_, hx⟩ := h; cases hx; exact h'
  | nilp => have h' := h; simp only [AVal, AR] at h; cases h; exact h'
  | nilm => have h' := h; simp only [AVal, AR] at h; cases h; exact h'
  | anyb => have h' := h; simp only [AVal, AR] at h; obtain ⟨_, hx⟩ := h; cases hx; exact h'
  | clo fn a b => have h' := h; simp only [AVal, AR] at h; obtain ⟨_, _, hx, _⟩ := h; cases hx; exact h'
  | iface t x => have h' := h; simp only [AVal, AR] at h; obtain ⟨_, hx, _⟩ := h; cases hx; exact h'

theorem AR.ofCells {C : Cx} {av : AV} {cs : List Value} (h : AR C false av cs) (ha : av.isAgg = true) : AVal C av (.agg cs.toArray) := by
  cases av <;> simp [AV.isAgg] at ha
  · rename_i d
    simp only [AR, Bool.false_and, Bool.false_eq_true, if_false] at h
    simp only [AVal, AR, ha, Bool.and_self, if_true]
    exact ⟨_, rfl, by simpa using h⟩
  · simp only [AR, Bool.false_eq_true, if_false] at h
    simp only [AVal, AR, if_true]
    exact ⟨_, rfl, by simpa using h⟩

theorem AR.ofCell {C : Cx} {av : AV} {v : Value} (h : AR C false av [v]) (ha : av.isAgg = false) : AVal C av v := by
  cases av <;> simp [AV.isAgg] at ha
  case p d => simpa [AVal, AR, ha] using h
  case unk => simp [AVal, AR]
  case tup => simp [AR] at h
  all_goals simpa [AVal, AR] using h

theorem ARs.ofPReps {C : Cx} : ∀ {sz : List Nat} {fs : List PD} {cs : List Value}, PReps C.M sz fs cs → ARs C sz (fs.map .p) cs
  | [], [], cs, hp => by simpa [ARs, PReps] using hp
  | n :: sz, f :: fs, cs, hp => by
    simp only [PReps] at hp
    obtain ⟨c1, c2, h1, h2, h3, h4, h5⟩ := hp
    simp only [List.map_cons, ARs]
    exact ⟨c1, c2, h1, h2, .inr (by simp [AV.cells, h3]), by simpa [AR] using h4, ARs.ofPReps h5⟩
  | [], _ :: _, cs, hp => by simp [PReps] at hp
  | _ :: _, [], cs, hp => by simp [PReps] at hp

/-! ### A part -/

def fitsN (av : AV) (n : Nat) : Prop := av.cells = none ∨ av.cells = some n

theorem ARs.get {C : Cx} : ∀ {sz : List Nat} {fs : List AV} {cs : List Value} (i : Nat) (d : AV), ARs C sz fs cs → fs[i]? = some d →
    ∃ n, sz[i]? = some n ∧ AR C false d ((cs.drop (sz.take i).sum).take n) ∧ fitsN d n ∧ (sz.take i).sum + n ≤ cs.length
  | [], [], cs, i, d, _, hi => by simp at hi
  | n :: sz, f :: fs, cs, i, d, hp, hi => by
    simp only [ARs] at hp
    obtain ⟨c1, c2, h1, h2, h3, h4, h5⟩ := hp
    subst h1
    cases i with
    | zero =>
      simp only [List.getElem?_cons_zero, Option.some.injEq] at hi
      subst hi
      refine ⟨n, rfl, ?_, h3, by simp [h2]⟩
      simp only [List.take_zero, List.sum_nil, List.drop_zero]
      rw [List.take_left' h2]
      exact h4
    | succ i =>
      simp only [List.getElem?_cons_succ] at hi
      obtain ⟨m, g0, g1, g2, g3⟩ := ARs.get i d h5 hi
      refine ⟨m, by simpa using g0, ?_, g2, ?_⟩
      · simp only [List.take_succ_cons, List.sum_cons]
        rw [← h2, drop_len_add]
        exact g1
      · simp only [List.take_succ_cons, List.sum_cons, List.length_append, h2]; omega
  | [], _ :: _, cs, _, _, hp, _ => by simp [ARs] at hp
  | _ :: _, [], cs, _, _, hp, _ => by simp [ARs] at hp

theorem ARs.set {C : Cx} : ∀ {sz : List Nat} {fs : List AV} {cs : List Value} (i n : Nat) (a : AV) (as : List Value), ARs C sz fs cs → sz[i]? = some n →
    AR C false a as → as.length = n → fitsN a n → ARs C sz (fs.set i a) (splice cs (sz.take i).sum as)
  | [], [], cs, i, n, a, as, _, hi, _, _, _ => by simp at hi
  | m :: sz, f :: fs, cs, i, n, a, as, hp, hi, ha, hl, hf => by
    simp only [ARs] at hp
    obtain ⟨c1, c2, h1, h2, h3, h4, h5⟩ := hp
    subst h1
    cases i with
    | zero =>
      simp only [List.getElem?_cons_zero, Option.some.injEq] at hi
      subst hi
      simp only [List.take_zero, List.sum_nil, List.set_cons_zero, ARs]
      rw [splice_head _ _ _ (by omega)]
      exact ⟨as, c2, rfl, hl, hf, ha, h5⟩
    | succ i =>
      simp only [List.getElem?_cons_succ] at hi
      have := ARs.set i n a as h5 hi ha hl hf
      simp only [List.take_succ_cons, List.sum_cons, List.set_cons_succ, ARs]
      rw [← h2, splice_cons]
      exact ⟨c1, _, rfl, rfl, by rw [h2]; exact h3, h4, this⟩
  | [], _ :: _, cs, _, _, _, _, hp, _, _, _, _ => by simp [ARs] at hp
  | _ :: _, [], cs, _, _, _, _, hp, _, _, _, _ => by simp [ARs] at hp

theorem PReps.set {M : Mem} : ∀ {sz : List Nat} {fs : List PD} {cs : List Value} (i n : Nat) (a : PD) (as : List Value), PReps M sz fs cs → sz[i]? = some n →
    PRep M a as → a.cells = n → PReps M sz (fs.set i a) (splice cs (sz.take i).sum as)
  | [], [], cs, i, n, a, as, _, hi, _, _ => by simp at hi
  | m :: sz, f :: fs, cs, i, n, a, as, hp, hi, ha, hl => by
    simp only [PReps] at hp
    obtain ⟨c1, c2, h1, h2, h3, h4, h5⟩ := hp
    subst h1
    cases i with
    | zero =>
      simp only [List.getElem?_cons_zero, Option.some.injEq] at hi
      subst hi
      simp only [List.take_zero, List.sum_nil, List.set_cons_zero, PReps]
      rw [splice_head _ _ _ (by rw [ha.length]; omega)]
      exact ⟨as, c2, rfl, by rw [ha.length]; exact hl, hl, ha, h5⟩
    | succ i =>
      simp only [List.getElem?_cons_succ] at hi
      have := PReps.set i n a as h5 hi ha hl
      simp only [List.take_succ_cons, List.sum_cons, List.set_cons_succ, PReps]
      rw [← h2, splice_cons]
      exact ⟨c1, _, rfl, rfl, by rw [h2]; exact h3, h4, this⟩
  | [], _ :: _, cs, _, _, _, _, hp, _, _, _ => by simp [PReps] at hp
  | _ :: _, [], cs, _, _, _, _, hp, _, _, _ => by simp [PReps] at hp

theorem PRow.set {M : Mem} {e : Nat} : ∀ {fs : List PD} {cs : List Value} (i : Nat) (a : PD) (as : List Value), PRow M e fs cs → i < fs.length →
    PRep M a as → a.cells = e → PRow M e (fs.set i a) (splice cs (i * e) as)
  | [], cs, i, a, as, _, hi, _, _ => by simp at hi
  | f :: fs, cs, i, a, as, hp, hi, ha, hl => by
    simp only [PRow] at hp
    obtain ⟨c1, c2, h1, h2, h3, h4, h5⟩ := hp
    subst h1
    cases i with
    | zero =>
      simp only [Nat.zero_mul, List.set_cons_zero, PRow]
      rw [splice_head _ _ _ (by rw [ha.length]; omega)]
      exact ⟨as, c2, rfl, by rw [ha.length]; exact hl, hl, ha, h5⟩
    | succ i =>
      simp only [List.length_cons, Nat.add_lt_add_iff_right] at hi
      have := PRow.set i a as h5 hi ha hl
      simp only [List.set_cons_succ, PRow]
      rw [show (i + 1) * e = c1.length + i * e from by rw [Nat.succ_mul, h2]; omega, splice_cons]
      exact ⟨c1, _, rfl, h2, h3, h4, this⟩

theorem ARow.get {C : Cx} {e : Nat} : ∀ {fs : List AV} {cs : List Value} (i : Nat) (d : AV), ARow C e fs cs → fs[i]? = some d →
    AR C false d ((cs.drop (i * e)).take e) ∧ fitsN d e ∧ i * e + e ≤ cs.length
  | [], cs, i, d, _, hi => by simp at hi
  | f :: fs, cs, i, d, hp, hi => by
    simp only [ARow] at hp
    obtain ⟨c1, c2, h1, h2, h3, h4, h5⟩ := hp
    subst h1
    cases i with
    | zero =>
      simp only [List.getElem?_cons_zero, Option.some.injEq] at hi
      subst hi
      simp only [Nat.zero_mul, List.drop_zero]
      rw [List.take_left' h2]
      exact ⟨h4, h3, by simp [h2]⟩
    | succ i =>
      simp only [List.getElem?_cons_succ] at hi
      obtain ⟨g1, g2, g3⟩ := ARow.get i d h5 hi
      rw [show (i + 1) * e = c1.length + i * e from by rw [Nat.succ_mul, h2]; omega, drop_len_add]
      refine ⟨g1, g2, ?_⟩
      simp only [List.length_append, h2]
      omega

theorem ARow.set {C : Cx} {e : Nat} : ∀ {fs : List AV} {cs : List Value} (i : Nat) (a : AV) (as : List Value), ARow C e fs cs → i < fs.length →
    AR C false a as → as.length = e → fitsN a e → ARow C e (fs.set i a) (splice cs (i * e) as)
  | [], cs, i, a, as, _, hi, _, _, _ => by simp at hi
  | f :: fs, cs, i, a, as, hp, hi, ha, hl, hf => by
    simp only [ARow] at hp
    obtain ⟨c1, c2, h1, h2, h3, h4, h5⟩ := hp
    subst h1
    cases i with
    | zero =>
      simp only [Nat.zero_mul, List.set_cons_zero, ARow]
      rw [splice_head _ _ _ (by omega)]
      exact ⟨as, c2, rfl, hl, hf, ha, h5⟩
    | succ i =>
      simp only [List.length_cons, Nat.add_lt_add_iff_right] at hi
      have := ARow.set i a as h5 hi ha hl hf
      simp only [List.set_cons_succ, ARow]
      rw [show (i + 1) * e = c1.length + i * e from by rw [Nat.succ_mul, h2]; omega, splice_cons]
      exact ⟨c1, _, rfl, h2, h3, h4, this⟩

theorem ARow.length {C : Cx} {e : Nat} : ∀ {fs : List AV} {cs : List Value}, ARow C e fs cs → cs.length = fs.length * e
  | [], cs, hp => by simp [ARow] at hp; simp [hp]
  | f :: fs, cs, hp => by
    simp only [ARow] at hp
    obtain ⟨c1, c2, h1, h2, h3, h4, h5⟩ := hp
    have := ARow.length h5
    subst h1
    simp [this, h2, Nat.succ_mul]; omega

theorem offs_cons (s : Stp) (π : List Stp) : offs (s :: π) = s.off + offs π := by simp [offs]
theorem offs_append (π ρ : List Stp) : offs (π ++ ρ) = offs π + offs ρ := by simp [offs]

theorem part_part {α : Type} (cs : List α) (o n o' m : Nat) (h : o' + m ≤ n) : (((cs.drop o).take n).drop o').take m = (cs.drop (o + o')).take m := by
  rw [List.drop_take, List.take_take, List.drop_drop, Nat.min_eq_left (by omega)]

/-- What a part is. -/
def IsPart (C : Cx) (u : AV) (cs : List Value) (o n : Nat) : Prop := o + n ≤ cs.length ∧ AR C false u ((cs.drop o).take n) ∧ fitsN u n

theorem IsPart.deeper {C : Cx} {u : AV} {cs : List Value} {o n o' m : Nat} (h : o + n ≤ cs.length) (hp : IsPart C u ((cs.drop o).take n) o' m) : IsPart C u cs (o + o') m := by
  obtain ⟨h1, h2, h3⟩ := hp
  have hl : ((cs.drop o).take n).length = n := by simp; omega
  rw [hl] at h1
  exact ⟨by omega, by rw [part_part cs o n o' m h1] at h2; exact h2, h3⟩

theorem AR.p {C : Cx} {d : PD} {cs : List Value} : AR C false (.p d) cs ↔ PRep C.M d cs := by simp [AR]

theorem AV.get_ok {C : Cx} : ∀ (π : List Stp) (t u : AV) (cs : List Value), AR C false t cs → fitsN t cs.length → t.get π = some u → ∃ n, IsPart C u cs (offs π) n
  | [], t, u, cs, h, hf, hg => by
    simp only [AV.get, Option.some.injEq] at hg
    subst hg
    exact ⟨cs.length, by simp [offs], by simpa [offs] using h, hf⟩
  | s :: π, t, u, cs, h, hf, hg => by
    rw [offs_cons]
    have key : ∀ (v : AV) (o n : Nat), o + n ≤ cs.length → AR C false v ((cs.drop o).take n) → fitsN v n → v.get π = some u → s.off = o → ∃ m, IsPart C u cs (s.off + offs π) m := by
      intro v o n h1 h2 h3 h4 h5
      have hl : ((cs.drop o).take n).length = n := by simp; omega
      obtain ⟨m, hm⟩ := AV.get_ok π v u _ h2 (by rw [hl]; exact h3) h4
      exact ⟨m, h5 ▸ hm.deeper h1⟩
    cases s with
    | fld i o =>
      cases t with
      | p d =>
        cases d with
        | agg sz fs =>
          simp only [AV.get] at hg
          split at hg
          · rename_i ho
            cases hi : fs[i]? with
            | none => simp [hi] at hg
            | some d =>
              simp only [hi, Option.bind_some] at hg
              rw [AR.p] at h
              simp only [PRep] at h
              obtain ⟨n, g0, g1, g2, g3⟩ := h.get i d hi
              exact key (.p d) (sz.take i).sum n g3 (AR.p.2 g1) (.inr (by simp [AV.cells, g2])) hg (by simp [Stp.off, ho])
          · cases hg
        | _ => simp [AV.get] at hg
      | agg sz fs =>
        simp only [AV.get] at hg
        split at hg
        · rename_i ho
          cases hi : fs[i]? with
          | none => simp [hi] at hg
          | some d =>
            simp only [hi, Option.bind_some] at hg
            simp only [AR, Bool.false_eq_true, if_false] at h
            obtain ⟨n, g0, g1, g2, g3⟩ := h.get i d hi
            exact key d (sz.take i).sum n g3 g1 g2 hg (by simp [Stp.off, ho])
        · cases hg
      | _ => simp [AV.get] at hg
    | idx i e =>
      cases t with
      | p d =>
        cases d with
        | iarr k n l =>
          simp only [AV.get] at hg
          split at hg
          · rename_i ho
            subst ho
            cases hi : l[i]? with
            | none => simp [hi] at hg
            | some x =>
              simp only [hi, Option.bind_some] at hg
              rw [AR.p] at h
              simp only [PRep] at h
              obtain ⟨hl, rfl⟩ := h
              have hlt := (List.getElem?_eq_some_iff.1 hi).1
              refine key (.p (.int k x)) i 1 (by simp; omega) (AR.p.2 ?_) (.inr rfl) hg (by simp [Stp.off])
              simp only [PRep]
              rw [← List.map_drop, ← List.map_take, List.drop_eq_getElem_cons hlt]
              simp only [List.take_succ_cons, List.take_zero, List.map_cons, List.map_nil]
              rw [(List.getElem?_eq_some_iff.1 hi).2]
          · cases hg
        | arr e' n xs =>
          simp only [AV.get] at hg
          split at hg
          · rename_i ho
            subst ho
            cases hi : xs[i]? with
            | none => simp [hi] at hg
            | some d =>
              simp only [hi, Option.bind_some] at hg
              rw [AR.p] at h
              simp only [PRep] at h
              obtain ⟨g1, g2, g3⟩ := h.2.get i d hi
              exact key (.p d) (i * e') e' g3 (AR.p.2 g1) (.inr (by simp [AV.cells, g2])) hg (by simp [Stp.off])
          · cases hg
        | _ => simp [AV.get] at hg
      | agg sz fs =>
        simp only [AV.get] at hg
        split at hg
        · rename_i ho
          cases hi : fs[i]? with
          | none => simp [hi] at hg
          | some d =>
            simp only [hi, Option.bind_some] at hg
            simp only [AR, Bool.false_eq_true, if_false] at h
            obtain ⟨n, g0, g1, g2, g3⟩ := h.get i d hi
            exact key d (sz.take i).sum n g3 g1 g2 hg (by simp [Stp.off, ho])
        · cases hg
      | _ => simp [AV.get] at hg

/-- What a change of a part is. -/
def IsSet (C : Cx) (t' : AV) (cs : List Value) (o : Nat) (vs : List Value) : Prop :=
  o + vs.length ≤ cs.length ∧ AR C false t' (splice cs o vs) ∧ fitsN t' cs.length

theorem AV.set_ok {C : Cx} : ∀ (π : List Stp) (n : Nat) (t v t' : AV) (cs vs : List Value), AR C false t cs → cs.length = n → AR C false v vs → AV.set n t π v = some t' →
    IsSet C t' cs (offs π) vs
  | [], n, t, v, t', cs, vs, h, hf, hv, hg => by
    simp only [AV.set] at hg
    split at hg
    · rename_i hc
      cases hg
      have hl := hv.length hc
      refine ⟨by simp [offs]; omega, ?_, .inr (by rw [hf]; exact hc)⟩
      rw [show offs [] = 0 from rfl, splice_zero _ _ (by omega)]
      exact hv
    · cases hg
  | s :: π, n, t, v, t', cs, vs, h, hf, hv, hg => by
    rw [offs_cons]
    cases s with
    | fld i o =>
      cases t with
      | p d =>
        cases d with
        | agg sz fs =>
          simp only [AV.set] at hg
          split at hg
          · rename_i ho
            cases hi : fs[i]? with
            | none => simp [hi] at hg
            | some d =>
              cases hm : sz[i]? with
              | none => simp [hi, hm] at hg
              | some m =>
                simp only [hi, hm, Option.bind_some] at hg
                cases ha : AV.set m (.p d) π v with
                | none => simp [ha] at hg
                | some a =>
                  rw [AR.p] at h
                  simp only [PRep] at h
                  obtain ⟨m', g0, g1, g2, g3⟩ := h.get i d hi
                  rw [hm] at g0; cases g0
                  have hl : ((cs.drop (sz.take i).sum).take m).length = m := by simp; omega
                  obtain ⟨k1, k2, k3⟩ := AV.set_ok π m (.p d) v a _ vs (AR.p.2 g1) hl hv ha
                  rw [hl] at k1 k3
                  have hsl : (splice ((cs.drop (sz.take i).sum).take m) (offs π) vs).length = m := by rw [splice_length (by omega), hl]
                  have hsum := h.length
                  simp only [ha, Option.map_some] at hg
                  simp only [Stp.off]
                  rw [← ho]
                  have harg : ARs C sz ((fs.map .p).set i a) (splice cs (sz.take i).sum (splice ((cs.drop (sz.take i).sum).take m) (offs π) vs)) :=
                    (ARs.ofPReps h).set i m a _ hm k2 hsl k3
                  rw [splice_splice g3 k1] at harg
                  refine ⟨by omega, ?_, ?_⟩
                  · cases a with
                    | p d' =>
                      simp only [Option.some.injEq] at hg; subst hg
                      rw [AR.p]; simp only [PRep]
                      have := h.set i m d' _ hm (AR.p.1 k2) (by rcases k3 with k3 | k3 <;> simp [AV.cells] at k3; exact k3)
                      rw [splice_splice g3 k1] at this
                      exact this
                    | _ =>
                      simp only [Option.some.injEq] at hg; subst hg
                      simp only [AR, Bool.false_eq_true, if_false]
                      exact harg
                  · right
                    cases a <;> (simp only [Option.some.injEq] at hg; subst hg; simp [AV.cells, PD.cells, hsum])
          · cases hg
        | _ => simp [AV.set] at hg
      | agg sz fs =>
        simp only [AV.set] at hg
        split at hg
        · rename_i ho
          cases hi : fs[i]? with
          | none => simp [hi] at hg
          | some d =>
            cases hm : sz[i]? with
            | none => simp [hi, hm] at hg
            | some m =>
              simp only [hi, hm, Option.bind_some] at hg
              cases ha : AV.set m d π v with
              | none => simp [ha] at hg
              | some a =>
                simp only [AR, Bool.false_eq_true, if_false] at h
                obtain ⟨m', g0, g1, g2, g3⟩ := h.get i d hi
                rw [hm] at g0; cases g0
                have hl : ((cs.drop (sz.take i).sum).take m).length = m := by simp; omega
                obtain ⟨k1, k2, k3⟩ := AV.set_ok π m d v a _ vs g1 hl hv ha
                rw [hl] at k1 k3
                have hsl : (splice ((cs.drop (sz.take i).sum).take m) (offs π) vs).length = m := by rw [splice_length (by omega), hl]
                have hsum := h.length
                simp only [ha, Option.map_some, Option.some.injEq] at hg
                subst hg
                simp only [Stp.off]
                rw [← ho]
                have harg := h.set i m a _ hm k2 hsl k3
                rw [splice_splice g3 k1] at harg
                exact ⟨by omega, by simpa [AR] using harg, .inr (by simp [AV.cells, hsum])⟩
        · cases hg
      | _ => simp [AV.set] at hg
    | idx i e =>
      cases t with
      | p d =>
        cases d with
        | iarr k m l =>
          cases π with
          | cons s π => simp [AV.set] at hg
          | nil =>
            simp only [AV.set] at hg
            split at hg
            · rename_i k' x
              split at hg
              · rename_i hc
                obtain ⟨rfl, rfl, hlt⟩ := hc
                cases hg
                rw [AR.p] at h hv
                simp only [PRep] at h hv
                obtain ⟨hl, rfl⟩ := h
                subst hv
                simp only [List.length_map] at hf
                refine ⟨by simp [Stp.off, offs]; omega, ?_, .inr (by simp [AV.cells, PD.cells, hl])⟩
                rw [AR.p]; simp only [PRep]
                refine ⟨by simp [hl], ?_⟩
                simp only [Stp.off, offs, List.map_nil, List.sum_nil, Nat.mul_one, Nat.add_zero]
                apply List.ext_getElem?
                intro j
                rw [splice_get (by simp; omega)]
                simp only [List.getElem?_map, List.getElem?_set, List.length_singleton]
                by_cases h1 : j < i
                · rw [if_pos h1, if_neg (by omega)]
                · rw [if_neg h1]
                  by_cases h2 : j < i + 1
                  · have : j = i := by omega
                    subst this
                    simp [hlt]
                  · rw [if_neg h2, if_neg (by omega)]
              · cases hg
            · cases hg
        | arr e' m xs =>
          simp only [AV.set] at hg
          split at hg
          · rename_i ho
            subst ho
            cases hi : xs[i]? with
            | none => simp [hi] at hg
            | some d =>
              simp only [hi, Option.bind_some] at hg
              cases ha : AV.set e' (.p d) π v with
              | none => simp [ha] at hg
              | some a =>
                simp only [ha, Option.bind_some] at hg
                split at hg
                · rename_i d'
                  cases hg
                  rw [AR.p] at h
                  simp only [PRep] at h
                  obtain ⟨hxl, h⟩ := h
                  obtain ⟨g1, g2, g3⟩ := h.get i d hi
                  have hl : ((cs.drop (i * e')).take e').length = e' := by simp; omega
                  obtain ⟨k1, k2, k3⟩ := AV.set_ok π e' (.p d) v (.p d') _ vs (AR.p.2 g1) hl hv ha
                  rw [hl] at k1 k3
                  have hlen := h.length
                  have := h.set i d' _ (List.getElem?_eq_some_iff.1 hi).1 (AR.p.1 k2) (by rcases k3 with k3 | k3 <;> simp [AV.cells] at k3; exact k3)
                  rw [splice_splice g3 k1] at this
                  simp only [Stp.off]
                  refine ⟨by omega, ?_, .inr (by simp [AV.cells, PD.cells, hlen, hxl, Nat.mul_comm])⟩
                  rw [AR.p]; simp only [PRep]
                  exact ⟨by simp [hxl], this⟩
                · cases hg
          · cases hg
        | _ => simp [AV.set] at hg
      | agg sz fs =>
        simp only [AV.set] at hg
        split at hg
        · rename_i ho
          cases hi : fs[i]? with
          | none => simp [hi] at hg
          | some d =>
            cases hm : sz[i]? with
            | none => simp [hi, hm] at hg
            | some m =>
              simp only [hi, hm, Option.bind_some] at hg
              cases ha : AV.set m d π v with
              | none => simp [ha] at hg
              | some a =>
                simp only [AR, Bool.false_eq_true, if_false] at h
                obtain ⟨m', g0, g1, g2, g3⟩ := h.get i d hi
                rw [hm] at g0; cases g0
                have hl : ((cs.drop (sz.take i).sum).take m).length = m := by simp; omega
                obtain ⟨k1, k2, k3⟩ := AV.set_ok π m d v a _ vs g1 hl hv ha
                rw [hl] at k1 k3
                have hsl : (splice ((cs.drop (sz.take i).sum).take m) (offs π) vs).length = m := by rw [splice_length (by omega), hl]
                have hsum := h.length
                simp only [ha, Option.map_some, Option.some.injEq] at hg
                subst hg
                simp only [Stp.off]
                rw [← ho]
                have harg := h.set i m a _ hm k2 hsl k3
                rw [splice_splice g3 k1] at harg
                exact ⟨by omega, by simpa [AR] using harg, .inr (by simp [AV.cells, hsum])⟩
        · cases hg
      | _ => simp [AV.set] at hg

end Ev

/- Sealing objects, freezing values, and what stays when nothing that is represented turns. -/
namespace Ev
open Go (Value Addr Fn IntKind World Sem Program)

/-! ### The world turns, the represented objects do not -/

theorem cell_of {w : World} {blk : Nat} {cs : Array Value} {E : Nat} {fz : Nat × Nat} (h : w.heap[blk]? = some (.cells cs E fz)) (j : Nat) :
    w.cell? ⟨blk, j, none⟩ = cs[j]? := by simp [World.cell?, h]

theorem cell_lt {w : World} {b o : Nat} {v : Value} (h : w.cell? ⟨b, o, none⟩ = some v) : b < w.heap.size := by
  unfold World.cell? at h
  cases hb : w.heap[b]? with
  | none => simp [hb] at h
  | some x => exact (Array.getElem?_eq_some_iff.1 hb).1

theorem cell_same {w w' : World} {b : Nat} (h : w'.heap[b]? = w.heap[b]?) (o : Nat) : w'.cell? ⟨b, o, none⟩ = w.cell? ⟨b, o, none⟩ := by
  unfold World.cell?; simp only [h]

theorem unfrozen_same {w w' : World} {b : Nat} (h : w'.heap[b]? = w.heap[b]?) (hu : unfrozen w b) : unfrozen w' b := by
  intro C E fz hb; rw [h] at hb; exact hu C E fz hb

/-- The block of a place. -/
def Loc.blk : Loc → Option Nat
  | .nil => none
  | .at b _ _ => some b

theorem ObjRep.same {C : Cx} {w w' : World} {loc : Loc} {o : Obj} (h : ObjRep C w loc o) (hb : ∀ b, loc.blk = some b → w'.heap[b]? = w.heap[b]?) : ObjRep C w' loc o := by
  cases o with
  | dead => cases loc <;> simp [ObjRep] at h
  | var t s =>
    simp only [ObjRep] at h ⊢
    obtain ⟨blk, cs, E, fz, rfl, h2, h3, h4⟩ := h
    have := hb blk rfl
    exact ⟨blk, cs, E, fz, rfl, by rw [this]; exact h2, unfrozen_same this h3, h4⟩
  | row e xs s =>
    cases loc with
    | nil => simpa [ObjRep] using h
    | «at» blk off cap =>
      simp only [ObjRep] at h ⊢
      obtain ⟨cs, E, fz, h1, h2, h3⟩ := h
      have := hb blk rfl
      exact ⟨cs, E, fz, by rw [this]; exact h1, unfrozen_same this h2, h3⟩
  | mrow e xs =>
    cases loc with
    | nil => simpa [ObjRep] using h
    | «at» blk off cap =>
      simp only [ObjRep] at h ⊢
      obtain ⟨cs, E, fz, h1, h2, h3⟩ := h
      have := hb blk rfl
      exact ⟨cs, E, fz, by rw [this]; exact h1, unfrozen_same this h2, h3⟩
  | map kt vt es =>
    simp only [ObjRep] at h ⊢
    obtain ⟨blk, a, c, rfl, h2, h3⟩ := h
    exact ⟨blk, a, c, rfl, by rw [hb blk rfl]; exact h2, h3⟩
  | loop st pend fn tmps ps assign body ann =>
    simp only [ObjRep] at h ⊢
    obtain ⟨blk, df, vs, pd, gn, rfl, h2, h3⟩ := h
    exact ⟨blk, df, vs, pd, gn, rfl, by rw [hb blk rfl]; exact h2, h3⟩

theorem ObjRep.lt {C : Cx} {w : World} {loc : Loc} {o : Obj} (h : ObjRep C w loc o) {b : Nat} (hb : loc.blk = some b) : b < w.heap.size := by
  have key : ∀ {x : Go.Obj}, w.heap[b]? = some x → b < w.heap.size := fun h => (Array.getElem?_eq_some_iff.1 h).1
  cases o with
  | dead => cases loc <;> simp [ObjRep] at h
  | var t s =>
    simp only [ObjRep] at h
    obtain ⟨blk, cs, E, fz, rfl, h2, h3, h4⟩ := h
    cases hb; exact key h2
  | row e xs s =>
    cases loc with
    | nil => cases hb
    | «at» blk off cap =>
      simp only [ObjRep] at h
      obtain ⟨cs, E, fz, h1, h2, h3⟩ := h
      cases hb; exact key h1
  | mrow e xs =>
    cases loc with
    | nil => cases hb
    | «at» blk off cap =>
      simp only [ObjRep] at h
      obtain ⟨cs, E, fz, h1, h2, h3⟩ := h
      cases hb; exact key h1
  | map kt vt es =>
    simp only [ObjRep] at h
    obtain ⟨blk, a, c, rfl, h2, h3⟩ := h
    cases hb; exact key h2
  | loop st pend fn tmps ps assign body ann =>
    simp only [ObjRep] at h
    obtain ⟨blk, df, vs, pd, gn, rfl, h2, h3⟩ := h
    cases hb; exact key h2

theorem Sim.lt {C : Cx} {w : World} (h : Sim C w) {b blk off cap : Nat} (hi : C.ι b = some (.at blk off cap)) : blk < w.heap.size := by
  obtain ⟨o, _, ho⟩ := h.obj b _ hi
  exact ho.lt rfl

theorem owned_lt {C : Cx} {w : World} (h : Sim C w) {blk : Nat} (ho : owned C.ι blk) : blk < w.heap.size := by
  obtain ⟨b, off, cap, hi⟩ := ho; exact h.lt hi

theorem Sim.idlt {C : Cx} {w : World} (h : Sim C w) {b : Nat} {loc : Loc} (hi : C.ι b = some loc) : b < C.H.length := by
  obtain ⟨o, ho, _⟩ := h.obj b _ hi
  exact (List.getElem?_eq_some_iff.1 ho).1

/-- Every block that lay lies as it lay. -/
theorem Sim.same {C : Cx} {w w' : World} (h : Sim C w) (hb : ∀ b, b < w.heap.size → w'.heap[b]? = w.heap[b]?) : Sim C w' := by
  refine ⟨fun b o v hv => ?_, fun b loc hi => ?_, h.sep, h.open_, fun b blk off cap ob h1 h2 h3 => ?_, h.room⟩
  · have := h.agree b o v hv
    rw [cell_same (hb b (cell_lt this))]; exact this
  · obtain ⟨o, ho, hr⟩ := h.obj b loc hi
    exact ⟨o, ho, hr.same fun k hk => hb k (hr.lt hk)⟩
  · obtain ⟨cs, E, fz, k1, k2⟩ := h.cover b blk off cap ob h1 h2 h3
    exact ⟨cs, E, fz, by rw [hb blk (h.lt h1)]; exact k1, k2⟩

/-! ### Sealing -/

theorem Heap.sealAt_length (H : Heap) (b : Nat) : (H.sealAt b).length = H.length := by
  unfold Heap.sealAt; split <;> simp

theorem Heap.sealAt_get (H : Heap) (b c : Nat) : (H.sealAt b)[c]? = if c = b then (H[b]?).map Obj.shut else H[c]? := by
  unfold Heap.sealAt
  split
  · rename_i o ho
    rw [List.getElem?_set]
    by_cases h : b = c
    · subst h
      obtain ⟨hl, hv⟩ := List.getElem?_eq_some_iff.1 ho
      simp [hl, hv]
    · simp [h, Ne.symm h]
  · rename_i ho
    split
    · rename_i h; subst h; simp [ho]
    · rfl

theorem Obj.seal_like (o : Obj) : o = o.shut ∨ o.like o.shut := by cases o <;> simp [Obj.shut, Obj.like]
theorem Obj.seal_rowLen (o : Obj) : o.shut.rowLen = o.rowLen := by cases o <;> rfl

theorem Obj.seal_of_unsealed {o : Obj} (h : o.shut.sealed = false) : o.shut = o := by cases o <;> simp_all [Obj.shut, Obj.sealed]

theorem ObjRep.shut {C : Cx} {w : World} {loc : Loc} {o : Obj} (h : ObjRep C w loc o) : ObjRep C w loc o.shut := by
  cases o <;> first | exact h | (cases loc <;> exact h)

theorem sealAt_le (C : Cx) (M' : Mem) (b : Nat) (hM : ∀ x o v, C.M x o = some v → M' x o = some v) : C.le ⟨M', C.ι, C.H.sealAt b, C.has⟩ := by
  refine ⟨hM, fun c hc => .inr ⟨rfl, ?_⟩, by simp [Heap.sealAt_length], rfl⟩
  refine ⟨C.H[c], if c = b then (C.H[c]).shut else C.H[c], by simp [hc], ?_, ?_⟩
  · simp only [Heap.sealAt_get]
    split
    · rename_i h; subst h; simp [hc]
    · simp [hc]
  · split
    · exact Obj.seal_like _
    · exact .inl rfl

/-- One object is sealed. -/
theorem Sim.sealAt {C : Cx} {w : World} (h : Sim C w) (b : Nat) : ∃ M', Sim ⟨M', C.ι, C.H.sealAt b, C.has⟩ w ∧ (∀ x o v, C.M x o = some v → M' x o = some v) ∧
    (∀ x o v, M' x o = some v → C.M x o = some v ∨ owned C.ι x) := by
  -- where nothing is to be promised anew
  have keep : (∀ blk off cap ob, C.ι b = some (.at blk off cap) → C.H[b]? = some ob → ob.sealed = true ∨ ob.shut = ob) →
      ∃ M', Sim ⟨M', C.ι, C.H.sealAt b, C.has⟩ w ∧ (∀ x o v, C.M x o = some v → M' x o = some v) ∧ (∀ x o v, M' x o = some v → C.M x o = some v ∨ owned C.ι x) := by
    intro hk
    have hle := sealAt_le C C.M b (fun _ _ _ h => h)
    have hsame : ∀ c blk off cap ob, C.ι c = some (.at blk off cap) → (C.H.sealAt b)[c]? = some ob → C.H[c]? = some ob := by
      intro c blk off cap ob hi ho
      rw [Heap.sealAt_get] at ho
      split at ho
      · rename_i hc; subst hc
        obtain ⟨o, ho', hr⟩ := h.obj c _ hi
        rw [ho'] at ho ⊢; simp only [Option.map_some, Option.some.injEq] at ho
        rcases hk blk off cap o hi ho' with hs | hs
        · have : o.shut = o := by cases o <;> simp_all [Obj.shut, Obj.sealed]
          rw [this] at ho; rw [ho]
        · rw [hs] at ho; rw [ho]
      · exact ho
    refine ⟨C.M, ⟨h.agree, fun c loc hi => ?_, h.sep, fun c blk off cap ob hi ho hs => h.open_ c blk off cap ob hi (hsame c blk off cap ob hi ho) hs,
      fun c blk off cap ob hi ho hs => h.cover c blk off cap ob hi (hsame c blk off cap ob hi ho) hs,
      fun c blk off cap e xs hi ho => h.room c blk off cap e xs hi (hsame c blk off cap _ hi ho)⟩, fun _ _ _ h => h, fun _ _ _ h => .inl h⟩
    obtain ⟨o, ho, hr⟩ := h.obj c loc hi
    refine ⟨if c = b then o.shut else o, ?_, ?_⟩
    · simp only [Heap.sealAt_get]; split
      · rename_i hc; subst hc; simp [ho]
      · exact ho
    · split
      · exact ObjRep.ren_le hle hr.shut
      · exact ObjRep.ren_le hle hr
  cases hi : C.ι b with
  | none => exact keep fun blk off cap ob h' => by rw [hi] at h'; cases h'
  | some loc =>
    cases loc with
    | nil => exact keep fun blk off cap ob h' => by rw [hi] at h'; cases h'
    | «at» blk off cap =>
      obtain ⟨o, ho, hr⟩ := h.obj b _ hi
      by_cases hs : o.sealed = true ∨ o.shut = o
      · exact keep fun blk' off' cap' ob h' ho' => by rw [ho] at ho'; cases ho'; exact hs
      · -- a row or a variable that is not sealed yet
        have hns : o.sealed = false := by cases hx : o.sealed <;> simp_all
        have hopen := h.open_ b blk off cap o hi ho hns
        -- its cells
        have hcells : ∃ cs E fz, w.heap[blk]? = some (.cells cs E fz) := by
          cases o with
          | var t s => simp only [ObjRep] at hr; obtain ⟨blk', cs, E, fz, hl, h2, _⟩ := hr; cases hl; exact ⟨cs, E, fz, h2⟩
          | row e xs s => simp only [ObjRep] at hr; obtain ⟨cs, E, fz, h2, _⟩ := hr; exact ⟨cs, E, fz, h2⟩
          | dead => exact absurd (.inr rfl) hs
          | mrow e xs => exact absurd (.inr rfl) hs
          | map kt vt es => exact absurd (.inr rfl) hs
          | loop => exact absurd (.inr rfl) hs
        obtain ⟨cs, E, fz, hcs⟩ := hcells
        let inRange (j : Nat) : Prop := ∀ e n, o.rowLen = some (e, n) → off ≤ j ∧ j < off + n * e
        classical
        let M' : Mem := fun x j => if x = blk then (if inRange j then cs[j]? else none) else C.M x j
        have hM' : ∀ x j v, C.M x j = some v → M' x j = some v := by
          intro x j v hv
          by_cases hx : x = blk
          · subst hx; rw [hopen j] at hv; cases hv
          · simp [M', hx, hv]
        have hle := sealAt_le C M' b hM'
        refine ⟨M', ⟨?_, ?_, h.sep, ?_, ?_, ?_⟩, hM', ?_⟩
        · intro x j v hv
          by_cases hx : x = blk
          · subst hx
            simp only [M', if_true] at hv
            split at hv
            · rw [cell_of hcs]; exact hv
            · cases hv
          · simp only [M', hx, if_false] at hv; exact h.agree x j v hv
        · intro c loc hc
          obtain ⟨o', ho', hr'⟩ := h.obj c loc hc
          refine ⟨if c = b then o'.shut else o', ?_, ?_⟩
          · simp only [Heap.sealAt_get]; split
            · rename_i hcb; subst hcb; simp [ho']
            · exact ho'
          · split
            · exact ObjRep.ren_le hle hr'.shut
            · exact ObjRep.ren_le hle hr'
        · intro c blk' off' cap' ob hc hob hsl j
          rw [Heap.sealAt_get] at hob
          by_cases hcb : c = b
          · subst hcb
            rw [if_pos rfl, ho] at hob
            simp only [Option.map_some, Option.some.injEq] at hob
            subst hob
            exact absurd (.inr (Obj.seal_of_unsealed hsl)) hs
          · rw [if_neg hcb] at hob
            have hne : blk' ≠ blk := fun e => hcb (h.sep c b blk off' cap' off cap (e ▸ hc) hi)
            simp only [M', hne, if_false]
            exact h.open_ c blk' off' cap' ob hc hob hsl j
        · intro c blk' off' cap' ob hc hob hsl
          rw [Heap.sealAt_get] at hob
          by_cases hcb : c = b
          · subst hcb
            rw [hi] at hc; cases hc
            rw [if_pos rfl, ho] at hob
            simp only [Option.map_some, Option.some.injEq] at hob
            subst hob
            refine ⟨cs, E, fz, hcs, fun j hj hrg => ?_⟩
            rw [Obj.seal_rowLen] at hrg
            have : inRange j := hrg
            simp [M', this]
          · rw [if_neg hcb] at hob
            obtain ⟨cs', E', fz', k1, k2⟩ := h.cover c blk' off' cap' ob hc hob hsl
            have hne : blk' ≠ blk := fun e => hcb (h.sep c b blk off' cap' off cap (e ▸ hc) hi)
            exact ⟨cs', E', fz', k1, fun j hj hrg => by simp only [M', hne, if_false]; exact k2 j hj hrg⟩
        · intro c blk' off' cap' e xs hc hob j v hv
          rw [Heap.sealAt_get] at hob
          by_cases hcb : c = b
          · subst hcb
            rw [hi] at hc; cases hc
            rw [if_pos rfl, ho] at hob
            simp only [Option.map_some, Option.some.injEq] at hob
            simp only [M', if_true] at hv
            split at hv
            · rename_i hrg
              exact (hrg e xs.length (by rw [← Obj.seal_rowLen, hob]; rfl)).2
            · cases hv
          · rw [if_neg hcb] at hob
            have hne : blk' ≠ blk := fun e => hcb (h.sep c b blk off' cap' off cap (e ▸ hc) hi)
            simp only [M', hne, if_false] at hv
            exact h.room c blk' off' cap' e xs hc hob j v hv
        · intro x j v hv
          by_cases hx : x = blk
          · subst hx; exact .inr ⟨b, off, cap, hi⟩
          · simp only [M', hx, if_false] at hv; exact .inl hv

theorem Sim.shut {C : Cx} {w : World} (h : Sim C w) : ∀ bs : List Nat, ∃ M', Sim ⟨M', C.ι, C.H.shut bs, C.has⟩ w ∧ (∀ x o v, C.M x o = some v → M' x o = some v) ∧
    (∀ x o v, M' x o = some v → C.M x o = some v ∨ owned C.ι x) ∧ C.le ⟨M', C.ι, C.H.shut bs, C.has⟩ := by
  intro bs
  induction bs generalizing C with
  | nil => exact ⟨C.M, h, fun _ _ _ h => h, fun _ _ _ h => .inl h, .refl C⟩
  | cons b bs ih =>
    obtain ⟨M1, h1, h2, h3⟩ := h.sealAt b
    obtain ⟨M2, k1, k2, k3, k4⟩ := ih h1
    refine ⟨M2, k1, fun x o v hv => k2 x o v (h2 x o v hv), fun x o v hv => ?_, (sealAt_le C M1 b h2).trans k4⟩
    rcases k3 x o v hv with hm | hm
    · exact h3 x o v hm
    · exact .inr hm

def AllSealed (H : Heap) (bs : List Nat) : Prop := ∀ b ∈ bs, ∀ o, H[b]? = some o → o.shut = o

theorem Obj.seal_seal (o : Obj) : o.shut.shut = o.shut := by cases o <;> rfl

theorem Heap.seal_get (H : Heap) : ∀ (bs : List Nat) (c : Nat), (H.shut bs)[c]? = if c ∈ bs then (H[c]?).map Obj.shut else H[c]? := by
  intro bs
  induction bs generalizing H with
  | nil => intro c; simp [Heap.shut]
  | cons b bs ih =>
    intro c
    show ((H.sealAt b).shut bs)[c]? = _
    rw [ih, Heap.sealAt_get]
    by_cases h1 : c = b
    · subst h1
      simp only [if_true, List.mem_cons, true_or]
      split
      · cases H[c]? <;> simp [Obj.seal_seal]
      · rfl
    · simp only [h1, if_false, List.mem_cons, false_or]

theorem Heap.seal_length (H : Heap) : ∀ bs : List Nat, (H.shut bs).length = H.length := by
  intro bs
  induction bs generalizing H with
  | nil => rfl
  | cons b bs ih =>
    show ((H.sealAt b).shut bs).length = _
    rw [ih, Heap.sealAt_length]

theorem allSealed_seal (H : Heap) (bs : List Nat) : AllSealed (H.shut bs) bs := by
  intro b hb o ho
  rw [Heap.seal_get, if_pos hb] at ho
  cases h : H[b]? with
  | none => simp [h] at ho
  | some x => simp only [h, Option.map_some, Option.some.injEq] at ho; rw [← ho]; exact Obj.seal_seal x

/-! ### Freezing -/

theorem freeze_like {H : Heap} {av : AV} {d : PD} (h : freeze H av = some d) : av.cells = some d.cells ∧ av.isAgg = d.isAgg := by
  cases av with
  | p d' => simp only [freeze, Option.some.injEq] at h; subst h; exact ⟨rfl, rfl⟩
  | agg sz fs =>
    simp only [freeze] at h
    cases hf : freezes H fs with
    | none => simp [hf] at h
    | some ds => simp only [hf, Option.map_some, Option.some.injEq] at h; subst h; exact ⟨rfl, rfl⟩
  | own b lo =>
    simp only [freeze] at h
    split at h
    · cases h; exact ⟨rfl, rfl⟩
    · cases h
  | win b π e lo len cap ex =>
    simp only [freeze] at h
    cases hf : H.elems b π e lo len with
    | none => simp [hf] at h
    | some ds => simp only [hf, Option.map_some, Option.some.injEq] at h; subst h; exact ⟨rfl, rfl⟩
  | nils e => simp only [freeze, Option.some.injEq] at h; subst h; exact ⟨rfl, rfl⟩
  | clo fn a b =>
    cases a with
    | cons _ _ => simp [freeze] at h
    | nil => cases b with
      | cons _ _ => simp [freeze] at h
      | nil => simp only [freeze, Option.some.injEq] at h; subst h; exact ⟨rfl, rfl⟩
  | _ => simp [freeze] at h

theorem AVs.nil {C : Cx} {vs : List Value} : AVs C [] vs ↔ vs = [] := by simp [AVs]

/-- The cells of a sealed object are known for good. -/
theorem Sim.sealedCells {C : Cx} {w : World} (h : Sim C w) {b blk off cap : Nat} {ob : Obj} (hi : C.ι b = some (.at blk off cap)) (ho : C.H[b]? = some ob) (hs : ob.sealed = true)
    {cs : Array Value} {E : Nat} {fz : Nat × Nat} (hc : w.heap[blk]? = some (.cells cs E fz)) (lo n : Nat) (hn : lo + n ≤ cs.size)
    (hr : ∀ e m, ob.rowLen = some (e, m) → off ≤ lo ∧ lo + n ≤ off + m * e) : readM C.M blk lo ((cs.toList.drop lo).take n) := by
  obtain ⟨cs', E', fz', h1, h2⟩ := h.cover b blk off cap ob hi ho hs
  rw [hc] at h1; cases h1
  intro j hj
  have hj' : j < n := by simp at hj; omega
  rw [h2 (lo + j) (by omega) (fun e m hem => by have := hr e m hem; omega)]
  rw [List.getElem?_take, if_pos hj', List.getElem?_drop, Array.getElem?_toList]

theorem drop_take_drop {α : Type} (l : List α) (off a n : Nat) : ((l.drop off).take n).drop a = (l.drop (off + a)).take (n - a) := by
  rw [List.drop_take, List.drop_drop]

theorem PRow.map_int {M : Mem} {k : IntKind} : ∀ (l : List Int), PRow M 1 (l.map (PD.int k)) (l.map (Value.int k))
  | [] => by simp [PRow]
  | x :: l => by
    simp only [List.map_cons, PRow]
    exact ⟨[.int k x], l.map (Value.int k), rfl, rfl, rfl, by simp [PRep], PRow.map_int l⟩

/-- The elements of a part of memory. -/
theorem elems_ok {C : Cx} {a : AV} {cs : List Value} {e lo len : Nat} {ds : List PD} (h : AR C false a cs) (he : AV.elems e lo len a = some ds) :
    ds.length = len ∧ (lo + len) * e ≤ cs.length ∧ PRow C.M e ds ((cs.drop (lo * e)).take (len * e)) := by
  cases a with
  | p d =>
    rw [AR.p] at h
    cases d with
    | iarr k n l =>
      simp only [AV.elems] at he
      split at he
      · rename_i hc
        obtain ⟨rfl, hc⟩ := hc
        cases he
        simp only [PRep] at h
        obtain ⟨hl, rfl⟩ := h
        refine ⟨by simp; omega, by simp; omega, ?_⟩
        simp only [Nat.mul_one]
        rw [← List.map_drop, ← List.map_take]
        exact PRow.map_int _
      · cases he
    | arr e' n xs =>
      simp only [AV.elems] at he
      split at he
      · rename_i hc
        obtain ⟨rfl, hc⟩ := hc
        cases he
        simp only [PRep] at h
        obtain ⟨hl, h⟩ := h
        have := h.length
        have h2 : (lo + len) * e ≤ n * e := Nat.mul_le_mul_right e hc
        refine ⟨by simp; omega, by rw [this, hl]; exact h2, (h.dropN lo).takeN len⟩
      · cases he
    | _ => simp [AV.elems] at he
  | _ => simp [AV.elems] at he

mutual
/-- A value whose objects are sealed is the data that it freezes to. -/
theorem freeze_ok {C : Cx} {w : World} (h : Sim C w) (val : Bool) : ∀ (av : AV) (d : PD) (cs : List Value), AllSealed C.H av.leans → freeze C.H av = some d → AR C val av cs → AR C val (.p d) cs
  | .p d', d, cs, _, hf, ha => by simp only [freeze, Option.some.injEq] at hf; subst hf; exact ha
  | .agg sz fs, d, cs, hs, hf, ha => by
    simp only [freeze] at hf
    cases hfs : freezes C.H fs with
    | none => simp [hfs] at hf
    | some ds =>
      simp only [hfs, Option.map_some, Option.some.injEq] at hf; subst hf
      simp only [AR, PD.isAgg, Bool.and_true] at ha ⊢
      simp only [AV.leans] at hs
      split
      · rename_i hv; simp only [hv, if_true] at ha
        obtain ⟨c, h1, h2⟩ := ha
        exact ⟨c, h1, by simp only [PRep]; exact freezes_ok h sz fs ds _ hs hfs h2⟩
      · rename_i hv; simp only [hv] at ha
        simp only [PRep]; exact freezes_ok h sz fs ds _ hs hfs ha
  | .own b lo, d, cs, hs, hf, ha => by
    simp only [freeze] at hf
    cases ho : C.H[b]? with
    | none => simp [ho] at hf
    | some o =>
      cases o with
      | row e xs s =>
        simp only [ho, Option.some.injEq] at hf; subst hf
        have hsl : s = true := by
          have := hs b (by simp [AV.leans]) _ ho
          simpa [Obj.shut] using this.symm
        subst hsl
        simp only [AR, PD.isAgg, Bool.and_false, Bool.false_eq_true, if_false, PRep] at ha ⊢
        obtain ⟨_, x, rfl, _, hx⟩ := ha
        obtain ⟨loc, hi, hv⟩ := hx _ e xs.length ho rfl
        cases loc with
        | nil =>
          simp only [ownV] at hv
          obtain ⟨h1, h2, base, rfl⟩ := hv
          have : xs = [] := List.length_eq_zero_iff.1 h1
          subst this
          exact ⟨base, 0, by simp, by simp, .inl (by simp)⟩
        | «at» blk off cap =>
          simp only [ownV] at hv
          obtain ⟨h1, h2, a, rfl, h3⟩ := hv
          refine ⟨some a, cap - lo, by simp, by simp; omega, ?_⟩
          by_cases hz : xs.length - lo = 0
          · left; simp; omega
          · right
            rw [h3 (by omega)]
            obtain ⟨o', ho', hr⟩ := h.obj b _ hi
            rw [ho] at ho'; cases ho'
            simp only [ObjRep] at hr
            obtain ⟨cells, E, fz, k1, k2, k3, k4, k5⟩ := hr
            have hle : xs.length * e ≤ cap * e := Nat.mul_le_mul_right e k3
            have hsub : (xs.length - lo) * e = xs.length * e - lo * e := Nat.sub_mul _ _ _
            have hlo : lo * e ≤ xs.length * e := Nat.mul_le_mul_right e h1
            refine ⟨blk, off + lo * e, (cells.toList.drop (off + lo * e)).take ((xs.length - lo) * e), rfl, ?_, ?_⟩
            · exact h.sealedCells hi ho rfl k1 (off + lo * e) _ (by omega) (fun e' m hem => by simp only [Obj.rowLen, Option.some.injEq, Prod.mk.injEq] at hem; obtain ⟨rfl, rfl⟩ := hem; omega)
            · have := k5.dropN lo
              rw [drop_take_drop, ← hsub] at this
              exact this
      | _ => simp [ho] at hf
  | .win b π e lo len cap ex, d, cs, hs, hf, ha => by
    simp only [freeze] at hf
    cases hel : C.H.elems b π e lo len with
    | none => simp [hel] at hf
    | some ds =>
      simp only [hel, Option.map_some, Option.some.injEq] at hf; subst hf
      simp only [AR, PD.isAgg, Bool.and_false, Bool.false_eq_true, if_false, PRep] at ha ⊢
      obtain ⟨_, x, rfl, _, hx⟩ := ha
      unfold Heap.elems at hel
      cases ho : C.H[b]? with
      | none => simp [ho] at hel
      | some o =>
        rw [ho] at hel
        have halive : C.alive b := ⟨o, ho, by cases o <;> simp_all [Obj.alive]⟩
        obtain ⟨loc, hi, hwv⟩ := hx halive
        obtain ⟨o', ho', hr⟩ := h.obj b _ hi
        rw [ho] at ho'; cases ho'
        cases loc with
        | nil =>
          obtain ⟨rfl, rfl, base, rfl⟩ := hwv
          have hlen : ds = [] := by
            cases o with
            | row e' xs s =>
              simp only [ObjRep] at hr
              subst hr
              cases π with
              | cons st π => simp at hel
              | nil =>
                simp only at hel
                split at hel
                · cases hel; simp
                · cases hel
            | var t s => simp only [ObjRep] at hr; obtain ⟨_, _, _, _, hl, _⟩ := hr; cases hl
            | _ => simp at hel
          subst hlen
          exact ⟨base, 0, by simp, by simp, .inl rfl⟩
        | «at» blk off c =>
        obtain ⟨hlc, a, cap', rfl, hcc, _, hadr, _⟩ := hwv
        -- the cells of the window
        suffices hw : ds.length = len ∧ ∃ rcs, readM C.M blk (off + offs π + lo * e) rcs ∧ PRow C.M e ds rcs by
          obtain ⟨hlen, rcs, q1, q2⟩ := hw
          refine ⟨some a, cap', by rw [hlen], by omega, ?_⟩
          by_cases hz : len = 0
          · left; omega
          · right; exact ⟨blk, _, rcs, by rw [hadr (by omega)], q1, q2⟩
        cases o with
        | row e' xs s =>
          cases π with
          | cons st π => simp at hel
          | nil =>
            simp only at hel
            split at hel
            · rename_i hc
              obtain ⟨rfl, hc⟩ := hc
              cases hel
              have hsl : s = true := by
                have := hs b (by simp [AV.leans]) _ ho
                simpa [Obj.shut] using this.symm
              subst hsl
              simp only [ObjRep] at hr
              obtain ⟨cells, E, fz, k1, k2, k3, k4, k5⟩ := hr
              have hle : xs.length * e ≤ c * e := Nat.mul_le_mul_right e k3
              have h2 : (lo + len) * e ≤ xs.length * e := Nat.mul_le_mul_right e hc
              rw [Nat.add_mul] at h2
              refine ⟨by simp; omega, (cells.toList.drop (off + lo * e)).take (len * e), ?_, ?_⟩
              · simp only [show offs [] = 0 from rfl, Nat.add_zero]
                exact h.sealedCells hi ho rfl k1 (off + lo * e) _ (by omega) (fun e' m hem => by simp only [Obj.rowLen, Option.some.injEq, Prod.mk.injEq] at hem; obtain ⟨rfl, rfl⟩ := hem; omega)
              · have := (k5.dropN lo).takeN len
                rw [drop_take_drop, List.take_take, Nat.min_eq_left (by omega)] at this
                exact this
            · cases hel
        | var t s =>
          simp only at hel
          have hsl : s = true := by
            have := hs b (by simp [AV.leans]) _ ho
            simpa [Obj.shut] using this.symm
          subst hsl
          simp only [ObjRep] at hr
          obtain ⟨blk', cells, E, fz, hl, k1, k2, k3⟩ := hr
          cases hl
          cases hg : t.get π with
          | none => simp [hg] at hel
          | some u =>
            simp only [hg, Option.bind_some] at hel
            have hfit : fitsN t cells.toList.length := by
              cases hc : t.cells with
              | none => exact .inl hc
              | some n => right; rw [hc, k3.length hc]
            obtain ⟨n, g1, g2, g3⟩ := AV.get_ok π t u _ k3 hfit hg
            obtain ⟨e1, e2, e3⟩ := elems_ok g2 hel
            have hln : ((cells.toList.drop (offs π)).take n).length = n := by simp at g1 ⊢; omega
            rw [hln, Nat.add_mul] at e2
            rw [part_part _ _ _ _ _ e2] at e3
            refine ⟨e1, _, ?_, e3⟩
            have := h.sealedCells hi ho rfl k1 (offs π + lo * e) (len * e) (by simp at g1; omega) (fun e' m hem => by simp [Obj.rowLen] at hem)
            simpa using this
        | _ => simp at hel
  | .nils e, d, cs, _, hf, ha => by
    simp only [freeze, Option.some.injEq] at hf; subst hf
    simp only [AR, PD.isAgg, Bool.and_false, Bool.false_eq_true, if_false, PRep] at ha ⊢
    obtain ⟨base, rfl⟩ := ha
    exact ⟨base, 0, by simp, by simp, .inl rfl⟩
  | .clo fn a b, d, cs, _, hf, ha => by
    cases a with
    | cons _ _ => simp [freeze] at hf
    | nil => cases b with
      | cons _ _ => simp [freeze] at hf
      | nil =>
        simp only [freeze, Option.some.injEq] at hf; subst hf
        simp only [AR, PD.isAgg, Bool.and_false, Bool.false_eq_true, if_false, PRep] at ha ⊢
        obtain ⟨vf, vc, rfl, h1, h2⟩ := ha
        rw [AVs.nil] at h1 h2
        subst h1; subst h2; rfl
  | .unk, _, _, _, hf, _ => by simp [freeze] at hf
  | .ref _ _, _, _, _, hf, _ => by simp [freeze] at hf
  | .pp _, _, _, _, hf, _ => by simp [freeze] at hf
  | .nilp, _, _, _, hf, _ => by simp [freeze] at hf
  | .map _, _, _, _, hf, _ => by simp [freeze] at hf
  | .nilm, _, _, _, hf, _ => by simp [freeze] at hf
  | .anyb, _, _, _, hf, _ => by simp [freeze] at hf
  | .yld _, _, _, _, hf, _ => by simp [freeze] at hf
  | .iface _ _, _, _, _, hf, _ => by simp [freeze] at hf
  | .tup _, _, _, _, hf, _ => by simp [freeze] at hf
theorem freezes_ok {C : Cx} {w : World} (h : Sim C w) : ∀ (sz : List Nat) (fs : List AV) (ds : List PD) (cs : List Value), AllSealed C.H (AV.leanss fs) → freezes C.H fs = some ds → ARs C sz fs cs → PReps C.M sz ds cs
  | [], [], ds, cs, _, hf, ha => by
    simp only [freezes, Option.some.injEq] at hf; subst hf
    simpa [ARs, PReps] using ha
  | n :: sz, f :: fs, ds, cs, hs, hf, ha => by
    simp only [freezes] at hf
    cases h1 : freeze C.H f with
    | none => simp [h1] at hf
    | some d =>
      cases h2 : freezes C.H fs with
      | none => simp [h1, h2] at hf
      | some ds' =>
        simp only [h1, h2, Option.bind_some, Option.map_some, Option.some.injEq] at hf; subst hf
        simp only [ARs] at ha
        obtain ⟨c1, c2, k1, k2, k3, k4, k5⟩ := ha
        simp only [AV.leanss] at hs
        have hcl := (freeze_like h1).1
        simp only [PReps]
        refine ⟨c1, c2, k1, k2, ?_, ?_, freezes_ok h sz fs ds' c2 (fun b hb => hs b (List.mem_append_right _ hb)) h2 k5⟩
        · rcases k3 with k3 | k3
          · rw [k3] at hcl; cases hcl
          · rw [k3] at hcl; cases hcl; rfl
        · exact AR.p.1 (freeze_ok h false f d c1 (fun b hb => hs b (List.mem_append_left _ hb)) h1 k4)
  | [], _ :: _, _, _, _, _, ha => by simp [ARs] at ha
  | _ :: _, [], _, _, _, _, ha => by simp [ARs] at ha
end

theorem freezes_vals {C : Cx} {w : World} (h : Sim C w) : ∀ (fs : List AV) (ds : List PD) (vs : List Value), AllSealed C.H (AV.leanss fs) → freezes C.H fs = some ds → AVs C fs vs → AVs C (ds.map .p) vs
  | [], ds, vs, _, hf, ha => by
    simp only [freezes, Option.some.injEq] at hf; subst hf
    simpa [AVs] using ha
  | f :: fs, ds, vs, hs, hf, ha => by
    simp only [freezes] at hf
    cases h1 : freeze C.H f with
    | none => simp [h1] at hf
    | some d =>
      cases h2 : freezes C.H fs with
      | none => simp [h1, h2] at hf
      | some ds' =>
        simp only [h1, h2, Option.bind_some, Option.map_some, Option.some.injEq] at hf; subst hf
        simp only [AVs] at ha
        obtain ⟨v, r, k1, k2, k3⟩ := ha
        simp only [AV.leanss] at hs
        simp only [List.map_cons, AVs]
        exact ⟨v, r, k1, freeze_ok h true f d [v] (fun b hb => hs b (List.mem_append_left _ hb)) h1 k2, freezes_vals h fs ds' r (fun b hb => hs b (List.mem_append_right _ hb)) h2 k3⟩

end Ev
