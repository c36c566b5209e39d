/- Part 10 of the evaluator of the given model: its rules and their soundness (no condition). -/
import Derived.Test.YtfcldaojfbbaoaaDoorEvI
set_option linter.unusedVariables false
set_option linter.unusedSimpArgs false
set_option linter.unnecessarySimpa false
/- The machine's rules: slice expressions; maps; nil comparisons. -/
set_option linter.unusedSimpArgs false
set_option linter.unusedVariables false
namespace Ev
open Go (Value Addr Fn IntKind Oper Op Operand Code Tmp BinOp UnOp Builtin)

def bndsOk (n cap : Nat) (lo hi : Option Int) : Bool := decide (0 ≤ lo.getD 0 ∧ lo.getD 0 ≤ hi.getD (Int.ofNat n) ∧ hi.getD (Int.ofNat n) ≤ Int.ofNat cap)
def bL (lo : Option Int) : Nat := (lo.getD 0).toNat
def bH (n : Nat) (hi : Option Int) : Nat := (hi.getD (Int.ofNat n)).toNat
theorem bL_none : bL none = 0 := rfl
theorem bL_some (x : Int) : bL (some x) = x.toNat := rfl
theorem bH_none (n : Nat) : bH n none = n := rfl
theorem bH_some (n : Nat) (x : Int) : bH n (some x) = x.toNat := rfl
theorem bndsOk_nn (n cap : Nat) : bndsOk n cap none none = decide (0 ≤ (0 : Int) ∧ 0 ≤ Int.ofNat n ∧ Int.ofNat n ≤ Int.ofNat cap) := rfl
theorem bndsOk_sn (n cap : Nat) (a : Int) : bndsOk n cap (some a) none = decide (0 ≤ a ∧ a ≤ Int.ofNat n ∧ Int.ofNat n ≤ Int.ofNat cap) := rfl
theorem bndsOk_ns (n cap : Nat) (b : Int) : bndsOk n cap none (some b) = decide (0 ≤ (0 : Int) ∧ 0 ≤ b ∧ b ≤ Int.ofNat cap) := rfl
theorem bndsOk_ss (n cap : Nat) (a b : Int) : bndsOk n cap (some a) (some b) = decide (0 ≤ a ∧ a ≤ b ∧ b ≤ Int.ofNat cap) := rfl
theorem bounds_eq (n cap : Nat) (lo hi : Option Int) : boundsA n cap lo hi none = br (bndsOk n cap lo hi) (some (bL lo, bH n hi, cap)) none := by
  unfold boundsA bndsOk
  simp only [Option.isNone_none, Bool.or_true, true_and, Option.getD_none, br, decide_eq_true_eq, bL, bH]
  have h : ∀ m : Int, (m ≤ (cap : Int) ∧ (cap : Int) ≤ (cap : Int)) ↔ m ≤ Int.ofNat cap := fun m => ⟨fun h => h.1, fun h => ⟨h, Int.le_refl _⟩⟩
  by_cases hc : 0 ≤ lo.getD 0 ∧ lo.getD 0 ≤ hi.getD (Int.ofNat n) ∧ hi.getD (Int.ofNat n) ≤ Int.ofNat cap
  · rw [if_pos hc, if_pos ⟨hc.1, hc.2.1, (h _).2 hc.2.2⟩]; rfl
  · rw [if_neg hc, if_neg fun k => hc ⟨k.1, k.2.1, k.2.2.1⟩]

def slO (H : Heap) (b e l0 : Nat) (lo hi : Option Int) : Option Obj → Option AV
  | some o => (o.rowLen).bind fun n => if n.1 = e ∧ l0 ≤ n.2 then (match hi with
        | none => (boundsA (n.2 - l0) (n.2 - l0) lo none none).map fun r => .own b (l0 + r.1)
        | some h => (boundsA (n.2 - l0) (n.2 - l0) lo (some h) none).map fun r => .win b [] n.1 (l0 + r.1) (r.2.1 - r.1) (n.2 - l0 - r.1) false)
      else none
  | none => none
/-- A slice of a value of a slice's type. -/
def slV (H : Heap) (et : Ty) (lo hi : Option Int) : AV → Option AV
  | .p (.sl e' xs) => if et.cells = e' then (boundsA xs.length xs.length lo hi none).map fun r => .p (.sl e' ((xs.take r.2.1).drop r.1)) else none
  | .nils e' => if et.cells = e' then (boundsA 0 0 lo hi none).map fun _ => .nils e' else none
  | .own b l0 => slO H b et.cells l0 lo hi H[b]?
  | .win b π e' l0 len cap ex => if et.cells = e' then br (aliveO H[b]?) ((boundsA len cap lo hi none).map fun r => .win b π e' (l0 + r.1) (r.2.1 - r.1) (cap - r.1) ex) none else none
  | _ => none
def slT (E : Env) (H : Heap) (x : AV) (lo hi : Option Int) : Option Ty → Option AV
  | some ⟨.str, _, _, _⟩ => (match x with | .p (.str s) => (boundsA s.size s.size lo hi none).map fun r => .p (.str (s.extract r.1 r.2.1)) | _ => none)
  | some ⟨.slice e, _, _, _⟩ => bd (E.ty e) fun et => slV H et lo hi x
  | some ⟨.array n e, _, _, _⟩ => (match x with
    | .ref b π => bd (E.ty e) fun et => (boundsA n n lo hi none).map fun r => .win b π et.cells r.1 (r.2.1 - r.1) (r.2.2 - r.1) true
    | .pp d => bd (E.ty e) fun et => bd (boundsA n n lo hi none) fun r => (AV.elems et.cells r.1 (r.2.1 - r.1) (.p d)).map fun xs => .p (.sl et.cells xs)
    | _ => none)
  | _ => none
theorem slice_eq (E : Env) (H : Heap) (t : Nat) (x : AV) (lo hi : Option Int) : E.sliceA H t x lo hi none = slT E H x lo hi (E.ty t) := by
  unfold Env.sliceA
  cases E.ty t with
  | none => rfl
  | some ty =>
    obtain ⟨k, c, b, z⟩ := ty
    cases k with
    | str => cases x with
      | p d => cases d <;> rfl
      | _ => rfl
    | slice e =>
      simp only [slT, bd]
      congr 1; funext et
      cases x with
      | p d => cases d with
        | sl e' xs =>
          simp only [slV]
          by_cases h : et.cells = e' <;> simp [h]
        | _ => rfl
      | nils e' => rfl
      | own b l0 =>
        simp only [slV, slO]
        cases H[b]? with
        | none => rfl
        | some o =>
          simp only [Option.bind_some]
          congr 1; funext n
          by_cases h1 : n.1 = et.cells <;> by_cases h2 : l0 ≤ n.2 <;> simp [h1, h2] <;> cases hi <;> rfl
      | win b π e' l0 len cap ex =>
        simp only [slV]
        cases H[b]? with
        | none => by_cases h : et.cells = e' <;> simp [h, aliveO, br]
        | some o => by_cases h : et.cells = e' <;> by_cases h2 : o.alive = true <;> simp [h, h2, aliveO, br]
      | _ => rfl
    | array n e => cases x <;> rfl
    | _ => rfl
section
variable (E : Env) (H : Heap) (lo hi : Option Int) (e c b : Nat) (z : AV)
theorem slT_str (s : ByteArray) : slT E H (.p (.str s)) lo hi (some ⟨.str, c, b, z⟩) = br (bndsOk s.size s.size lo hi) (some (.p (.str (s.extract (bL lo) (bH s.size hi))))) none := by
  simp only [slT, bounds_eq, br]; split <;> rfl
theorem slT_slice (x : AV) : slT E H x lo hi (some ⟨.slice e, c, b, z⟩) = bd (E.ty e) fun et => slV H et lo hi x := rfl
theorem slT_arr (n j : Nat) (π : List Stp) : slT E H (.ref j π) lo hi (some ⟨.array n e, c, b, z⟩) = bd (E.ty e) fun et => br (bndsOk n n lo hi) (some (.win j π et.cells (bL lo) (bH n hi - bL lo) (n - bL lo) true)) none := by
  simp only [slT, bd, bounds_eq, br]; congr 1; funext et; split <;> rfl
theorem slT_ppi (n n' : Nat) (k : IntKind) (l : List Int) : slT E H (.pp (.iarr k n' l)) lo hi (some ⟨.array n e, c, b, z⟩) =
    bd (E.ty e) fun et => br (bndsOk n n lo hi) (if et.cells = 1 then br (decide (bL lo + (bH n hi - bL lo) ≤ n')) (some (.p (.sl 1 (List.map (PD.int k) ((l.drop (bL lo)).take (bH n hi - bL lo)))))) none else none) none := by
  simp only [slT, bd, bounds_eq, br]; congr 1; funext et
  split
  · simp only [Option.bind_some, AV.elems]
    by_cases h : et.cells = 1
    · by_cases h2 : bL lo + (bH n hi - bL lo) ≤ n' <;> simp [h, h2]
    · simp [h]
  · rfl
theorem slT_ppa {α : Type} (f : α → PD) (n n' w : Nat) (l : List α) : slT E H (.pp (.arr w n' (List.map f l))) lo hi (some ⟨.array n e, c, b, z⟩) =
    bd (E.ty e) fun et => br (bndsOk n n lo hi) (if et.cells = w then br (decide (bL lo + (bH n hi - bL lo) ≤ n')) (some (.p (.sl et.cells (List.map f ((l.drop (bL lo)).take (bH n hi - bL lo)))))) none else none) none := by
  simp only [slT, bd, bounds_eq, br]; congr 1; funext et
  split
  · simp only [Option.bind_some, AV.elems]
    by_cases h : et.cells = w
    · by_cases h2 : bL lo + (bH n hi - bL lo) ≤ n' <;> simp [h, h2]
    · simp [h, eq_comm]
  · rfl
theorem slV_sl {α : Type} (et : Ty) (f : α → PD) (l : List α) (e' : Nat) : slV H et lo hi (.p (.sl e' (List.map f l))) = if et.cells = e' then br (bndsOk l.length l.length lo hi) (some (.p (.sl e' (List.map f ((l.take (bH l.length hi)).drop (bL lo)))))) none else none := by
  simp only [slV, bounds_eq, br, List.length_map, ← List.map_take, ← List.map_drop]
  split
  · split <;> rfl
  · rfl
theorem slV_nils (et : Ty) (e' : Nat) : slV H et lo hi (.nils e') = if et.cells = e' then br (bndsOk 0 0 lo hi) (some (.nils e')) none else none := by
  simp only [slV, bounds_eq, br]
  split
  · split <;> rfl
  · rfl
theorem slV_own (et : Ty) (j l0 : Nat) : slV H et lo hi (.own j l0) = slO H j et.cells l0 lo hi H[j]? := rfl
theorem slV_win (et : Ty) (j e' l0 len cap : Nat) (π : List Stp) (x : Bool) : slV H et lo hi (.win j π e' l0 len cap x) = if et.cells = e' then br (aliveO H[j]?) (br (bndsOk len cap lo hi) (some (.win j π e' (l0 + bL lo) (bH len hi - bL lo) (cap - bL lo) x)) none) none else none := by
  simp only [slV, bounds_eq, br]
  split
  · split
    · split <;> rfl
    · rfl
  · rfl
theorem slO_row1 (j e' : Nat) (xs : List PD) (s : Bool) : slO H j e 0 lo none (some (.row e' xs s)) = if e' = e then br (bndsOk xs.length xs.length lo none) (some (.own j (bL lo))) none else none := by
  simp only [slO, Obj.rowLen, Option.bind_some, Nat.zero_le, and_true, Nat.sub_zero, bounds_eq, br, Nat.zero_add]
  split
  · split <;> rfl
  · rfl
theorem slO_row2 (j e' : Nat) (xs : List PD) (s : Bool) (h : Int) : slO H j e 0 lo (some h) (some (.row e' xs s)) = if e' = e then br (bndsOk xs.length xs.length lo (some h)) (some (.win j [] e' (bL lo) (bH xs.length (some h) - bL lo) (xs.length - bL lo) false)) none else none := by
  simp only [slO, Obj.rowLen, Option.bind_some, Nat.zero_le, and_true, Nat.sub_zero, bounds_eq, br, Nat.zero_add]
  split
  · split <;> rfl
  · rfl
end

/-! windows read as data -/
def elemsO (b : Nat) (e lo len : Nat) : Option Obj → List Stp → Option (List PD)
  | some (.row e' xs _), [] => if e = e' ∧ lo + len ≤ xs.length then some ((xs.drop lo).take len) else none
  | some (.var t _), π => bd (t.get π) (AV.elems e lo len)
  | _, _ => none
theorem freeze_win (H : Heap) (b e lo len cap : Nat) (π : List Stp) (x : Bool) : freeze H (.win b π e lo len cap x) = bd (elemsO b e lo len H[b]? π) fun xs => some (.sl e xs) := by
  have h : H.elems b π e lo len = elemsO b e lo len H[b]? π := by
    unfold Heap.elems elemsO
    cases H[b]? with
    | none => rfl
    | some o => cases o <;> cases π <;> rfl
  rw [freeze, h, bd]; cases elemsO b e lo len H[b]? π <;> rfl
theorem elemsO_var (b e lo len : Nat) (t : AV) (s : Bool) (π : List Stp) : elemsO b e lo len (some (.var t s)) π = bd (t.get π) (AV.elems e lo len) := by
  cases π <;> rfl
theorem elemsO_row {α : Type} (f : α → PD) (l : List α) (b e lo len : Nat) (s : Bool) : elemsO b e lo len (some (.row e (List.map f l) s)) [] = br (decide (lo + len ≤ l.length)) (some (List.map f ((l.drop lo).take len))) none := by
  simp only [elemsO, true_and, List.length_map, br, decide_eq_true_eq, ← List.map_take, ← List.map_drop]
theorem elems_iarr (k : IntKind) (n lo len : Nat) (l : List Int) : AV.elems 1 lo len (.p (.iarr k n l)) = br (decide (lo + len ≤ n)) (some (List.map (PD.int k) ((l.drop lo).take len))) none := by
  simp only [AV.elems, true_and, br, decide_eq_true_eq]
theorem elems_arr {α : Type} (f : α → PD) (e n lo len : Nat) (l : List α) : AV.elems e lo len (.p (.arr e n (List.map f l))) = br (decide (lo + len ≤ n)) (some (List.map f ((l.drop lo).take len))) none := by
  simp only [AV.elems, true_and, br, decide_eq_true_eq, ← List.map_take, ← List.map_drop]
theorem intA_int (k : IntKind) (n : Int) : intA (.p (.int k n)) = some n := rfl
theorem optInt_none : optInt none = some none := rfl
theorem optInt_int (k : IntKind) (n : Int) : optInt (some (.p (.int k n))) = some (some n) := rfl

theorem inB_eq (i : Int) (n : Nat) : inB i n = (decide (0 ≤ i) && decide (i < Int.ofNat n)) := rfl
attribute [go_sem] inB_eq
def notI (k : IntKind) (n : Int) : Int := xorI k (if k.signed then -1 else k.max) n
theorem un_xor (k : IntKind) (n : Int) : unA .xor (.p (.int k n)) = some (.p (.int k (notI k n))) := rfl
attribute [go_sem] un_xor
/-! conversions -/
def cvT : Option Ty → AV → Option AV
  | some ⟨.int k, _, _, _⟩, .p (.int _ n) => some (.p (.int k (k.wrap n)))
  | some ⟨.str, _, _, _⟩, .p (.str s) => some (.p (.str s))
  | _, _ => none
theorem conv_eq (E : Env) (src dst : Nat) (x : AV) : E.convA src dst x = cvT (E.ty dst) x := by
  unfold Env.convA
  cases E.ty dst with
  | none => cases x <;> rfl
  | some ty =>
    obtain ⟨k, c, b, z⟩ := ty
    cases k <;> cases x <;> first | rfl | (rename_i d; cases d <;> rfl)
theorem cvT_int (k k' : IntKind) (c b : Nat) (z : AV) (n : Int) : cvT (some ⟨.int k, c, b, z⟩) (.p (.int k' n)) = some (.p (.int k (k.wrap n))) := rfl
theorem cvT_str (c b : Nat) (z : AV) (s : ByteArray) : cvT (some ⟨.str, c, b, z⟩) (.p (.str s)) = some (.p (.str s)) := rfl
/-- A string's bytes. -/
def strInts (s : ByteArray) : List Int := s.data.toList.map fun c => (c.toNat : Int)
theorem convV_str (E : Env) (H : Heap) (src dst e c b c' b' b2 : Nat) (z z' z2 : AV) (s : ByteArray) (h1 : E.ty src = some ⟨.str, c, b, z⟩) (h2 : E.ty dst = some ⟨.slice e, c', b', z'⟩) (h3 : E.ty e = some ⟨.int .u8, 1, b2, z2⟩) :
    E.convV H src dst (.p (.str s)) = some (.own H.length 0, [.row 1 (List.map (PD.int .u8) (strInts s)) false]) := by
  simp only [Env.convV, Env.bytesA, h1, h2, h3, strPD, strInts, List.map_map]; rfl
theorem convV_int (E : Env) (H : Heap) (src dst c b c' b' : Nat) (k0 k k' : IntKind) (z z' : AV) (n : Int) (h1 : E.ty src = some ⟨.int k0, c, b, z⟩) (h2 : E.ty dst = some ⟨.int k, c', b', z'⟩) :
    E.convV H src dst (.p (.int k' n)) = some (.p (.int k (k.wrap n)), []) := by
  simp only [Env.convV, Env.bytesA, Env.convA, h1, h2, Option.isSome, if_true, Option.map]
theorem convV_ss (E : Env) (H : Heap) (src dst c b c' b' : Nat) (z z' : AV) (s : ByteArray) (h1 : E.ty src = some ⟨.str, c, b, z⟩) (h2 : E.ty dst = some ⟨.str, c', b', z'⟩) :
    E.convV H src dst (.p (.str s)) = some (.p (.str s), []) := by
  simp only [Env.convV, Env.bytesA, Env.convA, h1, h2, Option.isSome, if_true, Option.map]
attribute [go_sem] conv_eq cvT_int cvT_str

/-! maps -/
theorem MapFind_map {K V : Type} (fk : K → PD) (fv : V → PD) (eq : K → K → Bool) (hq : ∀ a b, PD.eqv (fk a) (fk b) = some (eq a b)) (k : K) : ∀ l : List (K × V),
    MapFind (fk k) (List.map (fun y => (fk y.1, fv y.2)) l) = some ((mget eq l k).map fv)
  | [] => rfl
  | y :: l => by
    simp only [List.map_cons, MapFind, hq, Option.bind_some, MapFind_map fk fv eq hq k l, mget, List.find?_cons]
    cases eq k y.1 <;> rfl
theorem MapPut_map {K V : Type} (fk : K → PD) (fv : V → PD) (eq : K → K → Bool) (hq : ∀ a b, PD.eqv (fk a) (fk b) = some (eq a b)) (k : K) (v : V) : ∀ l : List (K × V),
    MapPut (fk k) (fv v) (List.map (fun y => (fk y.1, fv y.2)) l) = some (List.map (fun y => (fk y.1, fv y.2)) (mput eq l k v))
  | [] => rfl
  | y :: l => by
    simp only [List.map_cons, MapPut, hq, Option.bind_some, MapPut_map fk fv eq hq k v l, mput]
    cases eq k y.1 <;> rfl

attribute [go_sem] bL_none bL_some bH_none bH_some bndsOk_nn bndsOk_sn bndsOk_ns bndsOk_ss slice_eq slT_str slT_slice slT_arr slT_ppi slT_ppa slV_sl slV_nils slV_own slV_win slO_row1 slO_row2 freeze_win elemsO_var elemsO_row elems_iarr elems_arr intA_int optInt_none optInt_int
  Nat.sub_zero List.take_length List.drop_zero Nat.sub_self Nat.le_refl Int.le_refl
/-! copies -/
def cpT (H : Heap) (et : Ty) (x : AV) : Option Ty → Option (List PD)
  | some ⟨.slice _, _, _, _⟩ => bd (freeze H x) (slOf et.cells)
  | _ => none
def cpO (e lo len : Nat) (ds : List PD) : Option Obj → List Stp → Option Obj
  | some (.row e' xs false), [] => if e = e' ∧ lo + len ≤ xs.length ∧ (ds.take len).all (fun d => d.cells == e) then some (.row e (splice xs lo (ds.take len)) false) else none
  | some (.var t false), π => bd (t.get π) fun a => bd (AV.spliceA e lo (ds.take len) a) fun a' => bd (t.cells) fun n => bd (a'.cells) fun _ => bd (AV.set n t π a') fun t' => some (Obj.var t' false)
  | _, _ => none
def cpD (H : Heap) (et : Ty) (ds : List PD) : AV → Option (Nat × Heap)
  | .win b π e lo len _ _ => if e = et.cells then bd (cpO e lo len ds H[b]? π) fun o => some ((ds.take len).length, H.set b o) else none
  | _ => none
theorem copy_eq (E : Env) (H : Heap) (dt xt : Nat) (d x : AV) : E.copyA H dt xt d x = bd (E.elem dt) fun et => bd (cpT H et x (E.ty xt)) fun ds => cpD H et ds d := by
  unfold Env.copyA
  simp only [bd]
  congr 1; funext et
  refine congr (congrArg _ ?_) ?_
  · cases E.ty xt with
    | none => rfl
    | some ty =>
      obtain ⟨k, c, b, z⟩ := ty
      cases k <;> try rfl
      simp only [cpT, bd]
      cases freeze H x with
      | none => rfl
      | some d => cases d <;> rfl
  funext ds
  cases d with
  | win b π e lo len cap ex =>
    simp only [cpD, bd]
    split
    · cases H[b]? with
      | none => rfl
      | some o =>
        cases o with
        | row e' xs s => cases s <;> cases π <;> simp only [cpO, Option.map_none, Option.bind_none] <;> (split <;> rfl)
        | var t s =>
          cases s
          · simp only [cpO, bd]
            cases t.get π with
            | none => rfl
            | some a =>
              simp only [Option.bind_some]
              cases AV.spliceA e lo (ds.take len) a with
              | none => rfl
              | some a' =>
                simp only [Option.bind_some]
                cases t.cells with
                | none => rfl
                | some n =>
                  simp only [Option.bind_some]
                  cases a'.cells with
                  | none => rfl
                  | some m =>
                    simp only [Option.bind_some]
                    cases AV.set n t π a' <;> rfl
          · cases π <;> rfl
        | _ => cases π <;> rfl
    · rfl
  | _ => rfl
theorem cpT_slice (H : Heap) (et : Ty) (x : AV) (e c b : Nat) (z : AV) : cpT H et x (some ⟨.slice e, c, b, z⟩) = bd (freeze H x) (slOf et.cells) := rfl
theorem cpD_win (H : Heap) (et : Ty) (ds : List PD) (b e lo len cap : Nat) (π : List Stp) (ex : Bool) : cpD H et ds (.win b π e lo len cap ex) = if e = et.cells then bd (cpO e lo len ds H[b]? π) fun o => some ((ds.take len).length, H.set b o) else none := rfl
theorem splice_map {α β : Type} (f : α → β) (l r : List α) (lo : Nat) : splice (List.map f l) lo (List.map f r) = List.map f (splice l lo r) := by
  simp only [splice, List.map_append, List.map_take, List.map_drop, List.length_map]
theorem cpO_row (k : IntKind) (lo len : Nat) (l r : List Int) : cpO 1 lo len (List.map (PD.int k) r) (some (.row 1 (List.map (PD.int k) l) false)) [] = br (decide (lo + len ≤ l.length)) (some (.row 1 (List.map (PD.int k) (splice l lo (r.take len))) false)) none := by
  have h : (List.map (PD.int k) (r.take len)).all (fun d => d.cells == 1) = true := by
    rw [List.all_eq_true]; intro x hx
    obtain ⟨y, _, rfl⟩ := List.mem_map.1 hx
    rfl
  simp only [cpO, ← List.map_take, h, splice_map, true_and, and_true, List.length_map, br, decide_eq_true_eq]
theorem allInts_map (k : IntKind) : ∀ l : List Int, allInts k (List.map (PD.int k) l) = some l
  | [] => rfl
  | x :: l => by simp [allInts, allInts_map k l]
theorem cpO_var (k k' : IntKind) (lo len n : Nat) (l r : List Int) (h : k = k') : cpO 1 lo len (List.map (PD.int k) r) (some (.var (.p (.iarr k' n l)) false)) [] = br (decide (lo + (r.take len).length ≤ l.length)) (some (.var (.p (.iarr k n (splice l lo (r.take len)))) false)) none := by
  subst h
  simp only [cpO, bd, AV.get, Option.bind_some, AV.spliceA, ← List.map_take, List.length_map, true_and, allInts_map, br, decide_eq_true_eq]
  by_cases h : lo + (r.take len).length ≤ l.length
  · rw [if_pos h, if_pos h]; simp [AV.set, AV.cells, PD.cells]
  · rw [if_neg h, if_neg h]; rfl
attribute [go_sem] copy_eq cpT_slice cpD_win cpO_row cpO_var slOf_sl
/-! memory for a slice, checks of pointers -/
def nsV (H : Heap) (et : Ty) (n m : Int) : Option PD → Option (AV × List Obj)
  | some z => br (decide (0 ≤ n ∧ n ≤ m ∧ m * Int.ofNat et.bytes ≤ 140737488355328 ∧ m < 140737488355328)) (some (.win H.length [] et.cells 0 n.toNat m.toNat true, [.row et.cells (List.replicate m.toNat z) false])) none
  | none => none
theorem newSlice_eq (E : Env) (H : Heap) (t : Nat) (k k' : IntKind) (n m : Int) : E.newSlice H t (.p (.int k n)) (.p (.int k' m)) = bd (E.elem t) fun et => nsV H et n m (freeze H et.zero) := by
  unfold Env.newSlice
  congr 1; funext et
  cases freeze H et.zero with
  | none => rfl
  | some z => simp only [nsV, br, decide_eq_true_eq]; rfl
/-- A number, again and again. -/
def rep (n : Nat) (z : Int) : List Int := List.replicate n z
theorem length_rep (n : Nat) (z : Int) : (rep n z).length = n := List.length_replicate
theorem nsV_int (H : Heap) (et : Ty) (n m : Int) (k : IntKind) (z : Int) : nsV H et n m (some (.int k z)) =
    br (decide (0 ≤ n ∧ n ≤ m ∧ m * Int.ofNat et.bytes ≤ 140737488355328 ∧ m < 140737488355328)) (some (.win H.length [] et.cells 0 n.toNat m.toNat true, [.row et.cells (List.map (PD.int k) (rep m.toNat z)) false])) none := by
  simp only [nsV, rep, List.map_replicate]
theorem nilChk_ref (b : Nat) (π : List Stp) : nilChkA (.ref b π) = some (.ref b π) := rfl
theorem nilChk_pp (d : PD) : nilChkA (.pp d) = some (.pp d) := rfl
theorem nilChk_clo (f : Nat) (a b : List AV) : nilChkA (.clo (.func f) a b) = some (.clo (.func f) a b) := rfl
theorem nilChk_fn (f : Nat) : nilChkA (.p (.fn (.func f))) = some (.p (.fn (.func f))) := rfl
attribute [go_sem] newSlice_eq length_rep nsV_int nilChk_ref nilChk_pp nilChk_clo nilChk_fn
theorem ifc_str (t c b : Nat) (x z : AV) : ifcA t x (some ⟨.str, c, b, z⟩) = some (.iface t x) := rfl
theorem ifc_int (t c b : Nat) (k : IntKind) (x z : AV) : ifcA t x (some ⟨.int k, c, b, z⟩) = some (.iface t x) := rfl
theorem ifc_struct (t c b : Nat) (fs : List (Nat × Nat)) (x z : AV) : ifcA t x (some ⟨.struct fs, c, b, z⟩) = some (.iface t x) := rfl
attribute [go_sem] ifc_str ifc_int ifc_struct
end Ev

/- The machine's rules: what is handed back, zeros appended, nil comparisons, ranges over functions, maps. -/
set_option linter.unusedSimpArgs false
set_option linter.unusedVariables false
namespace Ev
open Go (Value Addr Fn IntKind Oper Op Operand Code Tmp BinOp UnOp Builtin)

/-! what is handed back -/
theorem rewins_nil (base : Nat) (H : Heap) : rewins base [] H = ([], H) := rfl
theorem rewins_cons (base : Nat) (H : Heap) (v : AV) (vs : List AV) : rewins base (v :: vs) H = ((AV.rewin base H v).1 :: (rewins base vs (AV.rewin base H v).2).1, (rewins base vs (AV.rewin base H v).2).2) := rfl
section
variable (base : Nat) (H : Heap) (a b c d e : Nat) (π : List Stp) (x : Bool) (vs ws : List AV) (g : Fn) (v : AV)
theorem rewin_unk : AV.rewin base H .unk = (.unk, H) := rfl
theorem rewin_p (d : PD) : AV.rewin base H (.p d) = (.p d, H) := rfl
theorem rewin_pp (d : PD) : AV.rewin base H (.pp d) = (.pp d, H) := rfl
theorem rewin_agg (sz : List Nat) : AV.rewin base H (.agg sz vs) = (.agg sz vs, H) := rfl
theorem rewin_ref : AV.rewin base H (.ref b π) = (.ref b π, H) := rfl
theorem rewin_own : AV.rewin base H (.own b a) = (.own b a, H) := rfl
theorem rewin_nils : AV.rewin base H (.nils e) = (.own H.length 0, H ++ [.row e [] false]) := rfl
theorem rewin_nilp : AV.rewin base H .nilp = (.nilp, H) := rfl
theorem rewin_nilm : AV.rewin base H .nilm = (.nilm, H) := rfl
theorem rewin_anyb : AV.rewin base H .anyb = (.anyb, H) := rfl
theorem rewin_map : AV.rewin base H (.map b) = (.map b, H) := rfl
theorem rewin_yld : AV.rewin base H (.yld b) = (.yld b, H) := rfl
theorem rewin_clo : AV.rewin base H (.clo g vs ws) = (.clo g vs ws, H) := rfl
theorem rewin_iface : AV.rewin base H (.iface a v) = (.iface a v, H) := rfl
theorem rewin_tup : AV.rewin base H (.tup vs) = (.tup vs, H) := rfl
theorem rewin_win : AV.rewin base H (.win b [] e a c d false) = if base ≤ b then rewinO H b e a c d H[b]? else (.win b [] e a c d false, H) := rfl
theorem rewin_wint : AV.rewin base H (.win b π e a c d true) = (.win b π e a c d true, H) := by cases π <;> rfl
theorem rewin_winp (p : Stp) : AV.rewin base H (.win b (p :: π) e a c d x) = (.win b (p :: π) e a c d x, H) := rfl
theorem rewinO_zero (xs : List PD) : rewinO H b e 0 0 d (some (.row e xs false)) = (.own H.length 0, H.set b .dead ++ [.row e [] false]) := by
  simp [rewinO]
end
attribute [go_sem] rewins_nil rewins_cons rewin_unk rewin_p rewin_pp rewin_agg rewin_ref rewin_own rewin_nils rewin_nilp rewin_nilm rewin_anyb rewin_map rewin_yld rewin_clo rewin_iface rewin_tup rewin_win rewin_wint rewin_winp rewinO_zero

/-! zeros appended -/
def appZ (H : Heap) (et : Ty) (n : Int) (e : Nat) : Option PD → Option (AV × Heap)
  | some z => if e = et.cells then br (decide (0 ≤ n ∧ n * Int.ofNat et.bytes ≤ 140737488355328 ∧ n < 140737488355328 ∧ n.toNat * et.bytes ≤ 70368744177664 ∧ n.toNat ≤ 70368744177664)) (some (.own H.length 0, H ++ [.row et.cells (List.replicate n.toNat z) false])) none else none
  | none => none
def appN (E : Env) (H : Heap) (n : Int) (e : Nat) (x : AV) : Option Ty → Option Ty → Option (AV × Heap)
  | some et, some ⟨.int _, _, _, _⟩ => appZ H et n e (freeze H et.zero)
  | _, _ => none
theorem append_zeros (E : Env) (H : Heap) (t u e : Nat) (k : IntKind) (n : Int) : E.appendA H t u (.nils e) (.p (.int k n)) = appN E H n e (.p (.int k n)) (E.elem t) (E.ty u) := by
  rw [append_eq, bd]
  cases E.elem t with
  | none => rfl
  | some et =>
    rw [Option.bind_some]
    unfold Env.appArg
    cases E.ty u with
    | none => rfl
    | some ty =>
      obtain ⟨k', c, b, z⟩ := ty
      cases k' with
      | int k' =>
        simp only [appN, bd, apA]
        cases freeze H et.zero with
        | none => rfl
        | some z =>
          simp only [appZ, br, Option.bind_some]
          by_cases h1 : (0 ≤ n ∧ n * (et.bytes : Int) ≤ 2 ^ 47 ∧ n < 2 ^ 47)
          · rw [if_pos h1, Option.bind_some]
            by_cases h2 : e = et.cells
            · rw [if_pos h2, if_pos h2]
              simp only [List.length_replicate]
              congr 1
              simp only [decide_eq_decide, eq_iff_iff, decide_eq_true_eq]
              constructor
              · rintro ⟨h3, h4⟩; exact ⟨h1.1, h1.2.1, h1.2.2, h3, h4⟩
              · rintro ⟨_, _, _, h3, h4⟩; exact ⟨h3, h4⟩
            · rw [if_neg h2, if_neg h2]
          · rw [if_neg h1, Option.bind_none]
            split
            · rw [if_neg]
              simp only [decide_eq_true_eq]
              intro h3
              exact h1 ⟨h3.1, h3.2.1, h3.2.2.1⟩
            · rfl
      | slice e' => simp only [freeze]; rfl
      | _ => rfl
theorem appN_int (E : Env) (H : Heap) (n : Int) (e : Nat) (x : AV) (et : Ty) (k : IntKind) (c b : Nat) (z : AV) : appN E H n e x (some et) (some ⟨.int k, c, b, z⟩) = appZ H et n e (freeze H et.zero) := rfl
theorem appZ_int (H : Heap) (et : Ty) (n : Int) (e : Nat) (k : IntKind) (z : Int) : appZ H et n e (some (.int k z)) =
    if e = et.cells then br (decide (0 ≤ n ∧ n * Int.ofNat et.bytes ≤ 140737488355328 ∧ n < 140737488355328 ∧ n.toNat * et.bytes ≤ 70368744177664 ∧ n.toNat ≤ 70368744177664)) (some (.own H.length 0, H ++ [.row et.cells (List.map (PD.int k) (rep n.toNat z)) false])) none else none := by
  simp only [appZ, rep, List.map_replicate]
theorem br_guard {R : Type} {c c' : Bool} {x y z : Option R} (n : Nat) (hc : c = c') (hz : z = none) (hk : x = y) : @brI R c ⟨x⟩ ⟨z⟩ = @apI R n ⟨c'⟩ ⟨y⟩ := by
  subst hc hz hk; cases c <;> rfl
attribute [go_sem] append_zeros appN_int appZ_int

/-! an array's window copied by append -/
theorem apA_win (H : Heap) (et : Ty) (ds : List PD) (b e lo len cap : Nat) (π : List Stp) : apA H et ds (.win b π e lo len cap true) =
    if e = et.cells ∧ cap < len + ds.length ∧ (len + ds.length) * et.bytes ≤ 70368744177664 ∧ len + ds.length ≤ 70368744177664 then bd (elemsO b e lo len H[b]? π) fun xs => some (.own H.length 0, H ++ [.row e (xs ++ ds) false]) else none := by
  have h : H.elems b π e lo len = elemsO b e lo len H[b]? π := by
    unfold Heap.elems elemsO
    cases H[b]? with
    | none => rfl
    | some o => cases o <;> cases π <;> rfl
  simp only [apA, h, bd]
  cases elemsO b e lo len H[b]? π <;> rfl

/-! slices held against nil -/
def ncO (op : BinOp) (n : Nat) : Option AV := match op with
  | .eql => br (decide (n = 0)) (some .anyb) (some (.p (.bool false)))
  | .neq => br (decide (n = 0)) (some .anyb) (some (.p (.bool true)))
  | _ => none
def ncT (op : BinOp) (n : Option Nat) : Option Ty → Option AV
  | some ⟨.slice _, _, _, _⟩ => bd n (ncO op)
  | _ => none
theorem nilCmp_eq (E : Env) (H : Heap) (op : BinOp) (t : Nat) (x : AV) : E.nilCmpA H op t x = ncT op (E.lenV H t x) (E.ty t) := by
  unfold Env.nilCmpA
  cases E.ty t with
  | none => rfl
  | some ty =>
    obtain ⟨k, c, b, z⟩ := ty
    cases k with
    | slice e =>
      simp only [ncT, Env.lenV, bd]
      cases E.lenOk t x with
      | false => rfl
      | true =>
        simp only [if_true]
        congr 1; funext n
        cases op <;> simp only [ncO, br, decide_eq_true_eq]
        all_goals (split <;> rfl)
    | _ => rfl
theorem ncT_slice (op : BinOp) (n : Option Nat) (e c b : Nat) (z : AV) : ncT op n (some ⟨.slice e, c, b, z⟩) = bd n (ncO op) := rfl
theorem ncO_eql (n : Nat) : ncO .eql n = br (decide (n = 0)) (some .anyb) (some (.p (.bool false))) := rfl
theorem ncO_neq (n : Nat) : ncO .neq n = br (decide (n = 0)) (some .anyb) (some (.p (.bool true))) := rfl
theorem bothW_self {R : Type} (x : Option R) : bothW x x = x := by simp [bothW]
theorem br_nil {R α : Type} {l : List α} {x y x' y' : Option R} (h1 : l = [] → x = x') (h2 : decide (l.length = 0) = false → y = y') : @brI R (decide (l.length = 0)) ⟨x⟩ ⟨y⟩ = @brI R (decide (l.length = 0)) ⟨x'⟩ ⟨y'⟩ := by
  cases l with
  | nil => exact h1 rfl
  | cons a l => exact h2 (by simp)
attribute [go_sem] nilCmp_eq ncT_slice ncO_eql ncO_neq bothW_self

section
variable {R : Type} (q : Cf) (k : Ex → St → Option R) (K : List Fr) (s : St) (ops : Array Oper) (m : Nat) (dst : Option Tmp) (ty : Nat) (l : List Oper)

attribute [go_sem] app_chk farA_eq farV_ref farV_pp farR_ref
/-! cap -/
def capT (x : AV) : Option Ty → Option Unit
  | some ⟨.slice _, _, _, _⟩ => (match x with | .nils _ => some () | _ => none)
  | _ => none
theorem XR_cap (x : Operand) (t : Nat) : @XR q 0 dst (.call ⟨.builtin .cap, #[x], #[t]⟩) ty ⟨(ops, l, K)⟩ s _ ⟨k⟩ = bd (capT (q.E.fixNil t (q.E.opnd s.tmps x)) (q.E.ty t)) fun _ => @XF q 0 ⟨(ops, l, K)⟩ (s.put dst (.p (.int .i64 0)) s.heap) _ ⟨k⟩ := by
  have hr : runF q (0 != 0) s ⟨dst, .call ⟨.builtin .cap, #[x], #[t]⟩, ty, "", #[], none⟩ = (capT (q.E.fixNil t (q.E.opnd s.tmps x)) (q.E.ty t)).map fun _ => (Res.ret (.p (.int .i64 0)), s.heap) := by
    simp only [runF, Env.run, Env.run0, settleOps, settles, List.map_nil, List.foldl_nil, bne_self_eq_false, Bool.false_eq_true, if_false, capT]
    cases q.E.ty t with
    | none => rfl
    | some ty =>
      obtain ⟨k, c, b, z⟩ := ty
      cases k <;> first | rfl | (generalize q.E.fixNil t (q.E.opnd s.tmps x) = v; cases v <;> rfl)
  rw [XR, hr, bd]
  cases capT (q.E.fixNil t (q.E.opnd s.tmps x)) (q.E.ty t) <;> rfl
theorem capT_nils (n e c b : Nat) (z : AV) : capT (.nils n) (some ⟨.slice e, c, b, z⟩) = some () := rfl
theorem XC_nilf (as : List AV) (ds : Option (List PD)) : @XC q m dst (.p .nilf) as ds ⟨(ops, l, K)⟩ s _ ⟨k⟩ = none := rfl
attribute [go_sem] XR_cap capT_nils XC_nilf

/-! ranges over functions -/
def lpO (st : Nat) (pend : Option Jump) (fn : Nat) (tmps : List AV) [c : Hid (List Tmp × Code × Code × Ann × Ann)] : Obj := .loop st pend fn tmps c.val.1.toArray c.val.2.1 c.val.2.2.1 (.s c.val.2.2.2.1 c.val.2.2.2.2)

noncomputable def XRE (q : Cf) (tmps : List AV) (L : Nat) (r : Res × Heap) [c : Hid (List Fr)] {R : Type} [k : Hid (Ex → St → Option R)] : Option R := match r.1, r.2[L]? with
  | .ret _, some (.loop st pend _ _ _ _ _ _) => if st = 1 then none else @app q c (exOf pend) ⟨tmps, r.2.set L .dead⟩ R k
  | _, _ => none
noncomputable def XRF (q : Cf) (v : AV) (ok : Bool) [c : Hid (List Tmp × Code × Code × Ann × Ann × List Fr)] (s : St) {R : Type} [k : Hid (Ex → St → Option R)] : Option R := match v with
  | .clo (.func g) first cap => if ok then (q.C (.f g) (first ++ [.yld s.heap.length] ++ cap) (s.heap ++ [@lpO 0 none q.fn s.tmps ⟨(c.val.1, c.val.2.1, c.val.2.2.1, c.val.2.2.2.1, c.val.2.2.2.2.1)⟩])).bind fun r => @XRE q s.tmps s.heap.length r ⟨c.val.2.2.2.2.2⟩ R k else none
  | _ => none
theorem X_range (f : Operand) (ps : List Tmp) (assign body : Code) (x y : Ann) : @X q ⟨((.rangeFunc f (List.toArray ps) assign body), (.s x y), K)⟩ s R ⟨k⟩ =
    @XRF q (q.E.opnd s.tmps f) (s.tmps.length == q.n) ⟨(ps, assign, body, x, y, K)⟩ s R ⟨k⟩ := by
  simp only [X, Env.code, XRF]
  by_cases h : s.tmps.length = q.n
  · simp only [h, ne_eq, not_true_eq_false, if_false, beq_self_eq_true, if_true]
    rfl
  · have hb : (s.tmps.length == q.n) = false := by simpa using h
    simp only [ne_eq, h, not_false_eq_true, if_true, hb, Bool.false_eq_true, if_false]
    generalize q.E.opnd s.tmps f = v
    cases v with
    | clo g a b => cases g <;> rfl
    | _ => rfl
theorem XRF_clo (g : Nat) (first cap : List AV) (ps : List Tmp) (assign body : Code) (x y : Ann) : @XRF q (.clo (.func g) first cap) true ⟨(ps, assign, body, x, y, K)⟩ s R ⟨k⟩ =
    jx (q.C (.f g) (first ++ [.yld s.heap.length] ++ cap) (s.heap ++ [@lpO 0 none q.fn s.tmps ⟨(ps, assign, body, x, y)⟩])) fun r => @XRE q s.tmps s.heap.length r ⟨K⟩ R ⟨k⟩ := rfl
noncomputable def XREO (q : Cf) (tmps : List AV) (L : Nat) (H : Heap) (o : Option Obj) [c : Hid (List Fr)] {R : Type} [k : Hid (Ex → St → Option R)] : Option R := match o with
  | some (.loop st pend _ _ _ _ _ _) => if st = 1 then none else @app q c (exOf pend) ⟨tmps, H.set L .dead⟩ R k
  | _ => none
theorem XRE_ret (tmps : List AV) (L : Nat) (v : AV) (H : Heap) : @XRE q tmps L (.ret v, H) ⟨K⟩ R ⟨k⟩ = @XREO q tmps L H H[L]? ⟨K⟩ R ⟨k⟩ := by
  simp only [XRE, XREO]
  cases H[L]? with
  | none => rfl
  | some o => cases o <;> rfl
theorem XREO_lp (tmps ts : List AV) (L fn : Nat) (H : Heap) (c : Hid (List Tmp × Code × Code × Ann × Ann)) : @XREO q tmps L H (some (@lpO 0 none fn ts c)) ⟨K⟩ R ⟨k⟩ = @app q ⟨K⟩ .normal ⟨tmps, H.set L .dead⟩ R ⟨k⟩ := rfl
noncomputable def XCy (q : Cf) (dst : Option Tmp) (y : Nat) (as : List AV) (o : Option Obj) [c : Hid (Array Oper × List Oper × List Fr)] (s : St) {R : Type} [k : Hid (Ex → St → Option R)] : Option R := match o with
  | some (.loop ..) => bd (q.C (.y y) as s.heap) fun r => @XK2 q dst r c s _ k
  | _ => none
theorem XC_yld (y : Nat) (as : List AV) (ds : Option (List PD)) : @XC q 0 dst (.yld y) as ds ⟨(ops, l, K)⟩ s _ ⟨k⟩ = @XCy q dst y as s.heap[y]? ⟨(ops, l, K)⟩ s _ ⟨k⟩ := by
  simp only [XC, XCy, bne_self_eq_false, Bool.false_eq_true, if_false]
  cases s.heap[y]? with
  | none => rfl
  | some o => cases o <;> rfl
theorem XCy_lp (y st fn : Nat) (pend : Option Jump) (ts as : List AV) (c : Hid (List Tmp × Code × Code × Ann × Ann)) : @XCy q dst y as (some (@lpO st pend fn ts c)) ⟨(ops, l, K)⟩ s _ ⟨k⟩ =
    jx (q.C (.y y) as s.heap) fun r => @XK2 q dst r ⟨(ops, l, K)⟩ s _ ⟨k⟩ := rfl
end

/-- A round's end. -/
noncomputable def y2O (l : Nat) (H : Heap) (j : Option Jump) : Option Obj → Option (Res × Heap)
  | some (.loop _ _ fn tmps ps assign body an) => some (.ret (.p (.bool (j.isNone))), H.set l (.loop (if j.isNone then 0 else 2) j fn tmps ps assign body an))
  | _ => none
noncomputable def endY2 (base l : Nat) : Ex → St → Option (Res × Heap) := fun e s => match jumpOf e with
  | some j => y2O l (gc base [] s.heap).2 j ((gc base [] s.heap).2)[l]?
  | none => none
theorem endY2_normal (base l : Nat) (s : St) : endY2 base l .normal s = y2O l (gc base [] s.heap).2 none ((gc base [] s.heap).2)[l]? := rfl
theorem y2O_lp (l st fn : Nat) (pd : Option Jump) (H : Heap) (ts : List AV) (c : Hid (List Tmp × Code × Code × Ann × Ann)) : y2O l H none (some (@lpO st pd fn ts c)) = some (.ret (.p (.bool true)), H.set l (@lpO 0 none fn ts c)) := rfl
noncomputable def y1O (q : Cf) (l : Nat) (s : St) [c : Hid (Code × Ann)] : Option Obj → Option (Res × Heap)
  | some (.loop 0 pd fn' tmps' ps' assign' body' an') => @X q ⟨(c.val.1, c.val.2, [])⟩ ⟨s.tmps, s.heap.set l (.loop 1 pd fn' tmps' ps' assign' body' an')⟩ _ ⟨endY2 q.base l⟩
  | _ => none
noncomputable def endY1 (q : Cf) (l : Nat) [c : Hid (Code × Ann)] : Ex → St → Option (Res × Heap) := fun e s => match e with
  | .normal => @y1O q l s c s.heap[l]?
  | _ => none
theorem endY1_normal (q : Cf) (l : Nat) (c : Hid (Code × Ann)) (s : St) : @endY1 q l c .normal s = @y1O q l s c s.heap[l]? := rfl
theorem y1O_lp (q : Cf) (l fn : Nat) (pd : Option Jump) (s : St) (a : Code) (x : Ann) (ts : List AV) (c : Hid (List Tmp × Code × Code × Ann × Ann)) : @y1O q l s ⟨(a, x)⟩ (some (@lpO 0 pd fn ts c)) =
    @X q ⟨(a, x, [])⟩ ⟨s.tmps, s.heap.set l (@lpO 1 pd fn ts c)⟩ _ ⟨endY2 q.base l⟩ := rfl
def anL : Ann → Ann
  | .s x _ => x
  | _ => .o
def anR : Ann → Ann
  | .s _ y => y
  | _ => .o
noncomputable def cYX (E : Env) (m l : Nat) (as : List AV) (H : Heap) (fn : Nat) (tmps : List AV) (ps : List Tmp) (assign body : Code) (x y : Ann) : Option (Res × Heap) :=
  @X ⟨E, E.call m, fn, tmps.length, H.length⟩ ⟨(assign, x, [])⟩ ⟨setParams tmps ps as, H⟩ _ ⟨@endY1 ⟨E, E.call m, fn, tmps.length, H.length⟩ l ⟨(body, y)⟩⟩
noncomputable def cY (E : Env) (m l : Nat) (as : List AV) (H : Heap) : Option Obj → Option (Res × Heap)
  | some (.loop _ _ fn tmps ps assign body an) => if as.length = ps.size ∧ (noRange assign && noRange body) = true then cYX E m l as H fn tmps ps.toList assign body (anL an) (anR an) else none
  | _ => none
theorem endY_eq (q : Cf) (l : Nat) (body : Code) (y : Ann) (e : Ex) (s : St) : @endY1 q l ⟨(body, y)⟩ e s = (match e with
          | .normal => match s.heap[l]? with
            | some (.loop 0 pd fn' tmps' ps' assign' body' an') =>
              q.E.code q.C q.fn q.n q.base body y ⟨s.tmps, s.heap.set l (.loop 1 pd fn' tmps' ps' assign' body' an')⟩ fun e s => match jumpOf e with
                | some j => let r := gc q.base [] s.heap; (match r.2[l]? with
                  | some (.loop _ _ fn tmps ps assign body an) => some (.ret (.p (.bool (j.isNone))), r.2.set l (.loop (if j.isNone then 0 else 2) j fn tmps ps assign body an))
                  | _ => none)
                | none => none
            | _ => none
          | _ => none) := by
  cases e with
  | normal =>
    show @y1O q l s ⟨(body, y)⟩ s.heap[l]? = _
    cases s.heap[l]? with
    | none => rfl
    | some o =>
      cases o with
      | loop st pd fn' tmps' ps' assign' body' an' =>
        cases st with
        | zero =>
          show q.E.code q.C q.fn q.n q.base body y _ (appR q (endY2 q.base l) []) = _
          refine congrArg (q.E.code q.C q.fn q.n q.base body y _) ?_
          funext e s
          show endY2 q.base l e s = _
          unfold endY2
          cases jumpOf e with
          | none => rfl
          | some j =>
            show y2O l (gc q.base [] s.heap).2 j ((gc q.base [] s.heap).2)[l]? = _
            simp only
            cases ((gc q.base [] s.heap).2)[l]? with
            | none => rfl
            | some o => cases o <;> rfl
        | succ n => rfl
      | _ => rfl
  | _ => rfl
theorem call_Y (E : Env) (m l : Nat) (as : List AV) (H : Heap) : E.call (m + 1) (.y l) as H = cY E m l as H H[l]? := by
  show E.fnEv (E.call m) (.y l) as H = _
  rw [Env.fnEv]
  cases H[l]? with
  | none => rfl
  | some o =>
    cases o with
    | loop st pd fn tmps ps assign body an =>
      show _ = if as.length = ps.size ∧ (noRange assign && noRange body) = true then cYX E m l as H fn tmps ps.toList assign body (anL an) (anR an) else none
      simp only
      split
      · unfold cYX X
        have h1 : (match an with | .s x _ => x | _ => .o) = anL an := by cases an <;> rfl
        have h2 : (match an with | .s _ y => y | _ => .o) = anR an := by cases an <;> rfl
        simp only [h1, h2]
        congr 1
      · rfl
    | _ => rfl
theorem cY_lp (E : Env) (m l st fn : Nat) (pd : Option Jump) (as ts : List AV) (H : Heap) (ps : List Tmp) (assign body : Code) (x y : Ann) (h : (noRange assign && noRange body) = true) (hl : (as.length == ps.length) = true) :
    cY E m l as H (some (@lpO st pd fn ts ⟨(ps, assign, body, x, y)⟩)) = @X ⟨E, E.call m, fn, ts.length, H.length⟩ ⟨(assign, x, [])⟩ ⟨setParams ts ps as, H⟩ _ ⟨@endY1 ⟨E, E.call m, fn, ts.length, H.length⟩ l ⟨(body, y)⟩⟩ := by
  show (if as.length = ps.toArray.size ∧ (noRange assign && noRange body) = true then cYX E m l as H fn ts ps.toArray.toList assign body (anL (.s x y)) (anR (.s x y)) else none) = _
  rw [if_pos ⟨by simpa using hl, h⟩]
  rfl
theorem setParams_eq (ts : List AV) (ps : List Tmp) (as : List AV) : setParams ts ps as = (ps.zip as).foldl (fun l x => l.set x.1 x.2) ts := rfl
theorem oids_lp (st fn : Nat) (pd : Option Jump) (ts : List AV) (c : Hid (List Tmp × Code × Code × Ann × Ann)) : Obj.ids (@lpO st pd fn ts c) = AV.idss ts := rfl
theorem oren_lp (ρ : Nat → Option Nat) (st fn : Nat) (pd : Option Jump) (ts : List AV) (c : Hid (List Tmp × Code × Code × Ann × Ann)) : Obj.ren ρ (@lpO st pd fn ts c) = @lpO st pd fn (AV.rens ρ ts) c := rfl
theorem ownHeap_lp (st fn : Nat) (pd : Option Jump) (ts : List AV) (c : Hid (List Tmp × Code × Code × Ann × Ann)) (r : List Obj) (n : Nat) : ownHeap (@lpO st pd fn ts c :: r) n = (@lpO st pd fn ts c :: (ownHeap r n).1, (ownHeap r n).2) := rfl
attribute [go_sem] X_range XRF_clo XRE_ret XREO_lp XC_yld XCy_lp endY2_normal y2O_lp endY1_normal y1O_lp call_Y cY_lp setParams_eq oids_lp oren_lp ownHeap_lp noRange

/-- The ranges over functions of a code, with their annotations. -/
def rfs : Code → Ann → List (List Tmp × Code × Code × Ann × Ann)
  | .seq a b, an => rfs a (match an with | .s x _ => x | .j _ x _ => x | _ => .o) ++ rfs b (match an with | .s _ y => y | .j _ _ y => y | _ => .o)
  | .cond _ a b, an => rfs a (anL an) ++ rfs b (anR an)
  | .block _ a, an => rfs a (match an with | .i x => x | _ => .o)
  | .loop a, an => rfs a (match an with | .l _ _ x => x | _ => .o)
  | .rangeFunc _ ⟨ps⟩ a b, .s x y => [(ps, a, b, x, y)]
  | _, _ => []

/-! maps -/
def lkO (kt vt : Nat) (k : PD) (z : AV) (ok : Bool) : Option Obj → Option AV
  | some (.map kt' vt' es) => if kt = kt' ∧ vt = vt' then (MapFind k es).bind fun r => some (lookRes ok r z) else none
  | _ => none
theorem lookup_rule {E : Env} {H : Heap} {t kt vt c b : Nat} {z z' : AV} {kk : TyK} {c' b' : Nat} {k : PD} (ht : E.ty t = some ⟨.map kt vt, c, b, z⟩) (hv : E.ty vt = some ⟨kk, c', b', z'⟩) (hk : E.has 10 kt k = true) (hq : (PD.eqv k k).isSome = true) (i : Nat) (ok : Bool) :
    E.lookupA H t (.map i) (.p k) ok = lkO kt vt k z' ok H[i]? := by
  simp only [Env.lookupA, ht, hk, hq, Bool.and_self, if_true, hv, Option.bind_some]
  cases H[i]? with
  | none => rfl
  | some o =>
    cases o with
    | map kt' vt' es =>
      simp only [lkO]
      split <;> rfl
    | _ => rfl
theorem lkO_map {K V : Type} (fk : K → PD) (fv : V → PD) (eq : K → K → Bool) (hq : ∀ a b, PD.eqv (fk a) (fk b) = some (eq a b)) (kt vt : Nat) (k : K) (d : V) (l : List (K × V)) :
    lkO kt vt (fk k) (.p (fv d)) false (some (.map kt vt (List.map (fun y => (fk y.1, fv y.2)) l))) = some (.p (fv (Option.getD (mget eq l k) d))) := by
  simp only [lkO, and_self, if_true, MapFind_map fk fv eq hq, Option.bind_some]
  cases mget eq l k <;> rfl
theorem lkO_map2 {K V : Type} (fk : K → PD) (fv : V → PD) (eq : K → K → Bool) (hq : ∀ a b, PD.eqv (fk a) (fk b) = some (eq a b)) (kt vt : Nat) (k : K) (d : V) (l : List (K × V)) :
    lkO kt vt (fk k) (.p (fv d)) true (some (.map kt vt (List.map (fun y => (fk y.1, fv y.2)) l))) = some (.tup [.p (fv (Option.getD (mget eq l k) d)), .p (.bool (Option.isSome (mget eq l k)))]) := by
  simp only [lkO, and_self, if_true, MapFind_map fk fv eq hq, Option.bind_some]
  cases mget eq l k <;> rfl
def muO (H : Heap) (i kt vt : Nat) (k v : PD) : Option Obj → Option Heap
  | some (.map kt' vt' es) => if kt = kt' ∧ vt = vt' then (MapPut k v es).map fun es' => H.set i (.map kt vt es') else none
  | _ => none
theorem mapPut_rule {E : Env} {H : Heap} {t kt vt c b : Nat} {z : AV} {k v : PD} (ht : E.ty t = some ⟨.map kt vt, c, b, z⟩) (hk : E.has 10 kt k = true) (hq : (PD.eqv k k).isSome = true) (hv : E.has 10 vt v = true) (i : Nat) :
    E.mapPutA H t (.map i) (.p k) (.p v) = muO H i kt vt k v H[i]? := by
  simp only [Env.mapPutA, ht, hk, hq, hv, and_true]
  cases H[i]? with
  | none => rfl
  | some o => cases o <;> rfl
theorem muO_map {K V : Type} (fk : K → PD) (fv : V → PD) (eq : K → K → Bool) (hq : ∀ a b, PD.eqv (fk a) (fk b) = some (eq a b)) (H : Heap) (i kt vt : Nat) (k : K) (v : V) (l : List (K × V)) :
    muO H i kt vt (fk k) (fv v) (some (.map kt vt (List.map (fun y => (fk y.1, fv y.2)) l))) = some (H.set i (.map kt vt (List.map (fun y => (fk y.1, fv y.2)) (mput eq l k v)))) := by
  simp only [muO, and_self, if_true, MapPut_map fk fv eq hq, Option.map_some]
def nmT (H : Heap) : Option Ty → Option (AV × List Obj)
  | some ⟨.map kt vt, _, _, _⟩ => some (.map H.length, [.map kt vt []])
  | _ => none
theorem newMap_eq (E : Env) (H : Heap) (t : Nat) : E.newMap H t = nmT H (E.ty t) := rfl
theorem nmT_map (H : Heap) (kt vt c b : Nat) (z : AV) : nmT H (some ⟨.map kt vt, c, b, z⟩) = some (.map H.length, [.map kt vt []]) := rfl
attribute [go_sem] newMap_eq nmT_map
/-! whole numbers -/
theorem wrap_i64 (n : Int) (h0 : 0 ≤ n) (h1 : n < 9223372036854775808) : IntKind.i64.wrap n = n := by
  show (if (true && decide ((n % 2 ^ 64 : Int) ≥ 2 ^ (64 - 1))) = true then n % 2 ^ 64 - 2 ^ 64 else n % 2 ^ 64) = n
  simp; omega
theorem wrap_u8 (n : Int) (h0 : 0 ≤ n) (h1 : n < 256) : IntKind.u8.wrap n = n := by
  show (if (false && decide ((n % 2 ^ 8 : Int) ≥ 2 ^ (8 - 1))) = true then n % 2 ^ 8 - 2 ^ 8 else n % 2 ^ 8) = n
  simp; omega
theorem wrap_u32 (n : Int) (h0 : 0 ≤ n) (h1 : n < 4294967296) : IntKind.u32.wrap n = n := by
  show (if (false && decide ((n % 2 ^ 32 : Int) ≥ 2 ^ (32 - 1))) = true then n % 2 ^ 32 - 2 ^ 32 else n % 2 ^ 32) = n
  simp; omega
theorem wrap_u64 (n : Int) (h0 : 0 ≤ n) (h1 : n < 18446744073709551616) : IntKind.u64.wrap n = n := by
  show (if (false && decide ((n % 2 ^ 64 : Int) ≥ 2 ^ (64 - 1))) = true then n % 2 ^ 64 - 2 ^ 64 else n % 2 ^ 64) = n
  simp; omega
theorem wrap_zero (k : IntKind) : k.wrap 0 = 0 := by cases k <;> decide
attribute [go_sem] wrap_zero
end Ev
